/-
'size' of package match: the nodes of a place when it is filled. (Printed by gen_msize.py.)
Contract of 'fillTerm' of package match. (Printed by gen_mfill.py.)
-/
import Derived.Test.YtokemihbkeddoaaGreatDoorU00
import Derived.Test.YtokemihbkeddoaaGreatDoorU21
import Derived.Test.YtokemihbkeddoaaGreatDoorU05
import Derived.Test.YtokemihbkeddoaaGreatDoorU09
namespace Go.Proofs.YtokemihbkeddoaaGreatDoor
open Go Go.RowKit Lib
set_option maxRecDepth 100000
set_option maxHeartbeats 64000000
section
attribute [local go_sem] Oper.semAt_some
theorem KnV.formOf {lN:Nat->Prop} {W:World} {kb mF mT nF nT:Nat} {k:Bd} (h:KnV lN goodF goodT W kb mF mT nF nT k) {x:Str} (hx:x.length<=2000000) :
  ∃q:FQ,FormV lN W q.val (formOf k.fs x)/\fitF (formOf k.fs x)/\nodesF (formOf k.fs x)<=400/\iF (formOf k.fs x)=true/\qone (formOf k.fs x)=true/\∀ W',W'.heap[mF]?=W.heap[mF]?->(Instr.lookup 145 (.map (some mF)) (.string ⟨x.toArray⟩) false).run Tryz.prog W'=.ok q.val W':=by
 rcases h.fs.look Tryz.underlying9 Tryz.underlying145 kX hx with ⟨hg,hl⟩ | ⟨t,vt,hg,hvt,hl⟩
 ·have he:Go.Proofs.YtokemihbkeddoaaGreatDoor.formOf k.fs x=i8:=by unfold Go.Proofs.YtokemihbkeddoaaGreatDoor.formOf;rw[hg];rfl
  rw[he]
  exact ⟨⟨0,⟨#[]⟩,none,0,0,none,0,0⟩,kY,⟨by decide,by decide⟩,by decide,by decide,by decide,fun W' hW=>(hl W' hW).2⟩
 ·have he:Go.Proofs.YtokemihbkeddoaaGreatDoor.formOf k.fs x=t:=by unfold Go.Proofs.YtokemihbkeddoaaGreatDoor.formOf;rw[hg]
  obtain ⟨q,rfl,hq,hp⟩:=hvt
  rw[he]
  exact ⟨q,hq,hp.fit,hp.nodes,hp.wf,hp.qone,fun W' hW=>(hl W' hW).2⟩
theorem EZ (k:Bd) (o:Int) (n:Str) (a:List Tm) (s:List Fm):kr k (.mk o n a s)=if o=15 then nodesF (formOf k.fs n)
  else if o=16 then nodesF (formOf k.fs n)+gF (bg (.mk o n a s)).1 (formOf k.fs n) * (nodesT (termOf k.ts (bg (.mk o n a s)).2) - 1)
  else dC k.ts a+1:=rfl
theorem Ks (lN:Nat->Prop) (kb mF mT nF nT:Nat) (k:Bd) (s:Fm) (hs:okF true s=true) (pA:nodesF s<=400) (ok:Nat->Prop) (w:World) (dw:KnV lN goodF goodT w kb mF mT nF nT k) (q:PlQ) (hq:FormV ok w q.s.val s) :
  Calls Tryz.prog 126 #[.pointer (some ⟨kb,0,none⟩),q.val] w fun e w'=>e=.returned (.int .i64 (kr k s))/\Below w.heap.size w w':=by
 obtain ⟨o,n,a,ss⟩:=s
 have pp97e:=();exact pm97
theorem np (k:List (Str×Tm)) (c:List Str):∀ l,eQ k c l=l.map (cC k c)
 | []=>rfl
 | t :: l=>by simp[eQ,np k c l]
def XQ (kd:List (Str×Tm)) (sc:List Str) (vL:Value) (kb:Nat) (W0:World) (t:Tm):Prop:=∀ (ok:Nat->Prop) (w:World) (q:TQ),Below W0.heap.size W0 w->TermV ok w q.val t →
 Calls Tryz.prog 127 #[.pointer (some ⟨kb,0,none⟩),q.val,vL] w fun e w'=>(∃p:TQ,e=.returned p.val/\TermV (w.heap.size<=·) w' p.val (cC kd sc t))/\Below w.heap.size w w'
theorem CW (W0:World) (lN:Nat->Prop) (kb mF mT nF nT:Nat) (kd:Bd) (dw:KnV lN goodF goodT W0 kb mF mT nF nT kd) (okl:Nat->Prop) (vL:Value) (L sc:List Str) (hL:StrsO okl W0 vL L) (PP:L.length<=2000000) (M_:∀ y,L.contains y=sc.contains y):∀ t,fitT t->XQ kd.ts sc vL kb W0 t:=by
 obtain ⟨nZ,hi,wy,tu,wT⟩:=info_parts fW
 have FZ:=ab dw
 have HLk:=ab (fun (W:World) (h:Below W0.heap.size W0 W) (y:Str)=>(M_ y) ▸ eG L PP y _ W vL (hL.later h))
 clear dw hL PP M_
 intro t
 induction t using Tm.ind with
 | h v n a ih=>
  intro aD ok w q cv hq
  exact pm197
end
end Go.Proofs.YtokemihbkeddoaaGreatDoor
