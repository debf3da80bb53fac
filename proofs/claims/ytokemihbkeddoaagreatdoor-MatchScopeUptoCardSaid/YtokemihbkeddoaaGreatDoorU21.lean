/-
'Form' and 'Term' of package match: what a metavariable stands for. (Printed by gen_mask.py.)
'termSize' of package match: the nodes of a term that is filled.
'instanceNames' of package match. (Printed by gen_minst.py.)
Contracts of 'termOccurrences' and 'occurrences' of package match.
'lacks' of package match: whether a metavariable is not known that is needed at a place. (Printed by gen_mlacks.py.)
-/
import Derived.Test.YtokemihbkeddoaaGreatDoorU00
import Derived.Test.YtokemihbkeddoaaGreatDoorU14
import Derived.Test.YtokemihbkeddoaaGreatDoorU01
import Derived.Test.YtokemihbkeddoaaGreatDoorU12
import Derived.Test.YtokemihbkeddoaaGreatDoorU20
import Derived.Test.YtokemihbkeddoaaGreatDoorU13
import Derived.Test.YtokemihbkeddoaaGreatDoorU03
import Derived.Test.YtokemihbkeddoaaGreatDoorU07
import Derived.Test.YtokemihbkeddoaaGreatDoorU08
namespace Go.Proofs.YtokemihbkeddoaaGreatDoor
open Go Go.RowKit Lib
set_option maxRecDepth 100000
set_option maxHeartbeats 64000000
section
attribute [local go_sem] Oper.semAt_some
theorem Bj {α:Type} {l:List (Str×α)} {k:Nat} (h:k<l.length) (n:Str):getB (l.drop k) n=if l[k].1 == n then some l[k].2 else getB (l.drop (k+1)) n:=by
 rw[List.drop_eq_getElem_cons h];rfl
def I8:Tm:=.mk false [] []
theorem kY {ok:Nat->Prop} {W:World}:FormV ok W (FQ.val ⟨0,⟨#[]⟩,none,0,0,none,0,0⟩) i8:=aQ.2 ⟨_,_,rfl,bV,jz⟩
theorem Bk {ok:Nat->Prop} {W:World}:TermV ok W (TQ.val ⟨false,⟨#[]⟩,none,0,0⟩) I8:=aP.2 ⟨_,rfl,bV⟩
theorem Km (b:Bd) (hF:b.fs.length<=1000000) (aD:∀ x∈b.fs,fitF x.2) (n:Str) (ok:Nat->Prop) (w:World) (q:BQ) (hq:BindV ok w q b) :
  Calls Tryz.prog 16 #[q.val,.string ⟨n.toArray⟩] w fun e w'=>(∃p:FQ,e=.returned (.tuple #[p.val,.bool (getB b.fs n).isSome])/\FormV (w.heap.size<=·) w' p.val ((getB b.fs n).getD i8))/\Below w.heap.size w w':=by
 have pp290a:=();exact pm290
theorem Kn (b:Bd) (hF:b.ts.length<=1000000) (aD:∀ x∈b.ts,fitT x.2) (n:Str) (ok:Nat->Prop) (w:World) (q:BQ) (hq:BindV ok w q b) :
  Calls Tryz.prog 18 #[q.val,.string ⟨n.toArray⟩] w fun e w'=>(∃p:TQ,e=.returned (.tuple #[p.val,.bool (getB b.ts n).isSome])/\TermV (w.heap.size<=·) w' p.val ((getB b.ts n).getD I8))/\Below w.heap.size w w':=by
 have pp290b:=();exact pm290
theorem KnV.termOf {lN:Nat->Prop} {W:World} {kb mF mT nF nT:Nat} {k:Bd} (h:KnV lN goodF goodT W kb mF mT nF nT k) {x:Str} (hx:x.length<=2000000) :
  ∃q:TQ,TermV lN W q.val (termOf k.ts x)/\fitT (termOf k.ts x)/\nodesT (termOf k.ts x)<=1000/\iS 17 (termOf k.ts x)=true/\lL (termOf k.ts x)=true/\∀ W',W'.heap[mT]?=W.heap[mT]?->(Instr.lookup 146 (.map (some mT)) (.string ⟨x.toArray⟩) false).run Tryz.prog W'=.ok q.val W':=by
 rcases h.ts.look Tryz.underlying9 Tryz.underlying146 iG hx with ⟨hg,hl⟩ | ⟨t,vt,hg,hvt,hl⟩
 ·have he:Go.Proofs.YtokemihbkeddoaaGreatDoor.termOf k.ts x=I8:=by unfold Go.Proofs.YtokemihbkeddoaaGreatDoor.termOf;rw[hg];rfl
  rw[he]
  exact ⟨⟨false,⟨#[]⟩,none,0,0⟩,Bk,⟨by decide,by decide⟩,by decide,by decide,by decide,fun W' hW=>(hl W' hW).2⟩
 ·have he:Go.Proofs.YtokemihbkeddoaaGreatDoor.termOf k.ts x=t:=by unfold Go.Proofs.YtokemihbkeddoaaGreatDoor.termOf;rw[hg]
  obtain ⟨q,rfl,hq,hp⟩:=hvt
  rw[he]
  exact ⟨q,hq,hp.fit,hp.2,hp.nm,by rw[<-Bc];exact Gw _ hp.1,fun W' hW=>(hl W' hW).2⟩
theorem jG {lN:Nat->Prop} {W:World} {kb mF mT nF nT:Nat} {k:Bd} (h:KnV lN goodF goodT W kb mF mT nF nT k) {x:Str} (hx:x.length<=2000000):nodesT (termOf k.ts x)<=1000:=by
 obtain ⟨q,_,_,h1,_⟩:=h.termOf hx
 exact h1
theorem M0 {k:List (Str×Tm)} (hk:∀ x:Str,x.length<=2000000->nodesT (termOf k x)<=1000):∀ t:Tm,iS 2000000 t=true->oo k t<=nodesT t * 1000:=by
 have pp190d:=();exact pm190
theorem oO {k:List (Str×Tm)}:∀ {a:List Tm} {j:Nat} (h:j<a.length),dC k (a.take (j+1))=dC k (a.take j)+oo k a[j]
 | t :: a,0,_=>by simp[dC]
 | t :: a,j+1,h=>by
  have:=oO (k:=k) (a:=a) (j:=j) (by simpa using h)
  simp only[List.take_succ_cons,dC,this,List.getElem_cons_succ];omega
theorem jl {a:List Tm} {j:Nat}:ac (a.take j)<=ac a:=by
 induction a generalizing j with
 | nil=>simp
 | cons t a ih=>
  cases j with
  | zero=>simp[ac]
  | succ j=>have:=ih (j:=j);simp only[List.take_succ_cons,ac];omega
theorem pC {k:List (Str×Tm)} (hk:∀ x:Str,x.length<=2000000->nodesT (termOf k x)<=1000):∀ a:List Tm,dF 2000000 a=true->dC k a<=ac a * 1000
 | [],_=>by simp[dC]
 | t :: a,h=>by
  simp only[dF,Bool.and_eq_true]at h
  have h1:=M0 hk t h.1
  have h2:=pC hk a h.2
  simp only[dC,ac];omega
theorem pD {p:Nat} {a:List Tm} (h:dF p a=true) (j:Nat):dF p (a.take j)=true:=eB.2 fun t ht=>eB.1 h t (List.mem_of_mem_take ht)
def TD (k:List (Str×Tm)) (kb:Nat) (W0:World) (t:Tm):Prop:=∀ (ok:Nat->Prop) (w:World) (q:TQ),Below W0.heap.size W0 w->TermV ok w q.val t →
 Calls Tryz.prog 197 #[.pointer (some ⟨kb,0,none⟩),q.val] w fun e w'=>e=.returned (.int .i64 (oo k t))/\Below w.heap.size w w'
theorem CO (W0:World) (lN:Nat->Prop) (kb mF mT nF nT:Nat) (k:Bd) (dw:KnV lN goodF goodT W0 kb mF mT nF nT k):∀ t,fitT t->TD k.ts kb W0 t:=by
 have SK:=ab (fun x hx=>jG dw (x:=x) hx)
 have FZ:=ab dw
 clear dw
 have pp190e:=();exact pm190
theorem eI (f:Fm) (cq:2<=f.a.length) (pT:f.a.length<=2000000) (hx:∀ t∈f.a,(match t with | .mk _ n _=>n).length<=2000000) (ok:Nat->Prop) (w:World) (q:FQ) (hq:FormV ok w q.val f) :
  Calls Tryz.prog 96 #[q.val] w fun e w'=>e=.returned (.tuple #[.string ⟨(bg f).1.toArray⟩,.string ⟨(bg f).2.toArray⟩])/\Below w.heap.size w w':=by
 obtain ⟨fo,fn,fa,fs⟩:=f
 obtain ⟨v1,v2,h1,ib,lu⟩:=aQ.1 hq
 obtain ⟨qo,qn,qa,ql,qc,qb,qm,qe⟩:=q
 simp only[FQ.val,Value.agg.injEq,Array.mk.injEq,List.cons.injEq,and_true,Value.int.injEq,true_and,Value.string.injEq]at h1
 obtain ⟨rfl,rfl,rfl,rfl⟩:=h1
 simp only[Fm.a]at cq hx pT
 match fa,cq,pT,hx,ib with
 | ⟨xv,x,xa⟩ :: ⟨yv,y,ya⟩ :: r,cq,pT,hx,ib=>
 have hql:=ib.len
 obtain ⟨b1,o1,⟨u0,u1,u2,u3,u4⟩,rfl,hok,hu,c0,c1,c2⟩:=ib.get (j:=0) (by simp)
 obtain ⟨b2,o2,⟨z0,z1,z2,z3,z4⟩,cv,_,hz,d0,d1,d2⟩:=ib.get (j:=1) (by simp)
 injection cv with cv
 injection cv with hb1 bA
 subst hb1 bA
 obtain ⟨s1,h2,_⟩:=aP.1 hu
 obtain ⟨s2,h3,_⟩:=aP.1 hz
 simp only[TQ.val,Value.agg.injEq,Array.mk.injEq,List.cons.injEq,and_true,Value.bool.injEq,Value.string.injEq]at h2 h3
 obtain ⟨rfl,rfl,rfl⟩:=h2
 obtain ⟨rfl,rfl,rfl⟩:=h3
 simp only at c1 d1
 have BV:x.length<=1000000000:=by have:=hx (.mk u0 x xa) (by simp);simp only at this;omega
 have OJ:2<=ql:=by rw[hql];exact cq
 have hI:bg (.mk qo fn (.mk u0 x xa :: .mk z0 y ya :: r) fs)=(cH x,y):=rfl
 rw[hI]
 obtain ⟨W2,aY⟩:=ao (w.alloc (.cells #[.int .u8 qo,.string ⟨fn.toArray⟩,.slice (some ⟨b1,o1,none⟩) ql qc,.slice qb qm qe] 36))
 have bA:=cB aY
 have x2:=bN aY
 have pp156a:=();exact pm156
end
theorem wg (x:Str) {l:List Tm} {k:Nat} (h:k<l.length):eW x (l.take (k+1))=eW x (l.take k)+BJ x l[k]:=by
 induction l generalizing k with
 | nil=>simp at h
 | cons t l ih=>
  cases k with
  | zero=>simp[eW]
  | succ k=>have:=ih (k:=k) (by simpa using h);simp[eW]at this ⊢;omega
theorem wi (x:Str) {l:List Fm} {k:Nat} (h:k<l.length):iY x (l.take (k+1))=iY x (l.take k)+gF x l[k]:=by
 induction l generalizing k with
 | nil=>simp at h
 | cons t l ih=>
  cases k with
  | zero=>simp[iY]
  | succ k=>have:=ih (k:=k) (by simpa using h);simp[iY]at this ⊢;omega
mutual
theorem PN (x:Str):∀ t,BJ x t<=nodesT t
 | .mk v n a=>by have:=oP x a;unfold BJ nodesT;split <;> omega
theorem oP (x:Str):∀ l,eW x l<=ac l
 | []=>by simp[eW]
 | t :: l=>by have:=PN x t;have:=oP x l;simp[eW,ac];omega
end
mutual
theorem nn (x:Str):∀ t,gF x t<=nodesF t
 | .mk o n a s=>by have:=oP x a;have:=sr x s;unfold gF nodesF;omega
theorem sr (x:Str):∀ l,iY x l<=ah l
 | []=>by simp[iY]
 | t :: l=>by have:=nn x t;have:=sr x l;simp[iY,ah];omega
end
def PO (x:Str) (l:List Tm):Prop:=∀ (ok:Nat->Prop) (w:World) (a:Option Addr) (n c:Nat),fitTs l->TermsV ok w (.slice a n c) l →
 Calls Tryz.prog 164 #[.slice a n c,.string ⟨x.toArray⟩] w fun e w'=>e=.returned (.int .i64 (eW x l))/\Below w.heap.size w w'
theorem I9 (x:Str) (l:List Tm) (ih:∀ t∈l,PO x t.a):PO x l:=by
 intro ok w a n c aD hl
 obtain rfl:=hl.len
 have cq:=aD.len
 have nM:=oP x l
 have nN:=aD.1
 have pp310:=();exact pm310
theorem M4 (x:Str):∀ t:Tm,PO x t.a:=by
 intro t
 induction t using Tm.ind with
 | h v n a ih=>exact I9 x a ih
theorem pQ (x:Str) (l:List Tm):PO x l:=I9 x l (fun t _=>M4 x t)
theorem ik (x:Str):∀ (f:Fm),fitF f->∀ (ok:Nat->Prop) (w:World) (q:FQ),FormV ok w q.val f →
  Calls Tryz.prog 97 #[q.val,.string ⟨x.toArray⟩] w fun e w'=>e=.returned (.int .i64 (gF x f))/\Below w.heap.size w w':=by
 intro t
 induction t using Fm.ind with
 | h o n a s ih=>
  intro aD ok w q hq
  have pp23e:=();exact pm23
section
attribute [local go_sem] Oper.semAt_some
theorem iH {n:Str} {a:List Tm} {s:List Fm} (hs:okF true (.mk 16 n a s)=true):∃x y:Str,a=[ap x,ap y]/\fQ x=true/\cG y=true/\bg (.mk 16 n a s)=(cH x,y):=by
 have hp:PlOk ⟨.mk 16 n a s,.mk 2 [] [] [],[]⟩:=⟨hs,show okF false (.mk 2 [] [] [])=true by decide,fun x h=>by simp at h,show nodesF (.mk 2 [] [] [])<=400 by decide,show depthF (.mk 2 [] [] [])<=40 by decide⟩
 exact m8 hp rfl
theorem Ko (k:Bd) (o:Int) (n:Str) (a:List Tm) (s:List Fm):gU k (.mk o n a s)=if (o != 15 && o != 16)=true then a.any (ip k.ts) else match getB k.fs n with
  | none=>true
  | some f=>if o=15 then false else (getB k.ts (bg (.mk o n a s)).2).isNone && decide (gF (bg (.mk o n a s)).1 f > 0):=by
 rw[<-oN];rfl
theorem Kq (lN:Nat->Prop) (kb mF mT nF nT:Nat) (k:Bd) (s:Fm) (hs:okF true s=true) (pA:nodesF s<=400) (ok:Nat->Prop) (w:World) (dw:KnV lN goodF goodT w kb mF mT nF nT k) (q:PlQ) (hq:FormV ok w q.s.val s) :
  Calls Tryz.prog 124 #[.pointer (some ⟨kb,0,none⟩),q.val] w fun e w'=>e=.returned (.bool (gU k s))/\Below w.heap.size w w':=by
 obtain ⟨o,n,a,ss⟩:=s
 have pp97d:=();exact pm97
end
end Go.Proofs.YtokemihbkeddoaaGreatDoor
