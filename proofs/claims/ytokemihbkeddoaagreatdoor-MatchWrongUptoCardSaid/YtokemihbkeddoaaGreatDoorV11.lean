/-
'Form' and 'Term' of package match.
-/
import Derived.Test.YtokemihbkeddoaaGreatDoorV10
namespace Go.Proofs.YtokemihbkeddoaaGreatDoor
open Go Go.RowKit Lib
set_option maxRecDepth 100000
set_option maxHeartbeats 64000000
variable {k kb mF mT nF nT:Nat} {ok nr:Nat->Prop} {W:World} {x:Str} {a:List Tm}
section
attribute [local go_sem] Oper.semAt_some
theorem Dy {α:Type} {l:List (Str×α)} (h:k<l.length) (n:Str):getB (l.drop k) n=if l[k].1 == n then some l[k].2 else getB (l.drop (k+1)) n:=by
 rw[fN h];rfl
def LJ:Tm:=.mk false [] []
theorem l_:FormV ok W (FQ.val ⟨0,⟨#[]⟩,none,0,0,none,0,0⟩) gB:=aW.2 ⟨_,_,rfl,b_,fB⟩
theorem Dz:TermV ok W (TQ.val ⟨false,⟨#[]⟩,none,0,0⟩) LJ:=aV.2 ⟨_,rfl,b_⟩
theorem Nd (b:Bd) (hF:b.fs.length<=1000000) (aA:∀ x∈b.fs,fitF x.2) (n:Str) (ok:Nat->Prop) (w:World) (q:BQ) (hq:BindV ok w q b) :
  Calls Tryz.prog 16 #[q.val,.string ⟨n.toArray⟩] w fun e w'=>(∃p:FQ,e=.returned (.tuple #[p.val,.bool (getB b.fs n).isSome])/\FormV (w.heap.size<=·) w' p.val ((getB b.fs n).getD gB))/\Below w.heap.size w w':=by
 have pp277a:=();exact pm277
theorem Nf (b:Bd) (hF:b.ts.length<=1000000) (aA:∀ x∈b.ts,fitT x.2) (n:Str) (ok:Nat->Prop) (w:World) (q:BQ) (hq:BindV ok w q b) :
  Calls Tryz.prog 18 #[q.val,.string ⟨n.toArray⟩] w fun e w'=>(∃p:TQ,e=.returned (.tuple #[p.val,.bool (getB b.ts n).isSome])/\TermV (w.heap.size<=·) w' p.val ((getB b.ts n).getD LJ))/\Below w.heap.size w w':=by
 have pp277b:=();exact pm277
theorem KnV.termOf {k:Bd} (h:KnV nr goodF goodT W kb mF mT nF nT k) (hx:x.length<=2000000) :
  ∃q:TQ,TermV nr W q.val (termOf k.ts x)/\fitT (termOf k.ts x)/\nodesT (termOf k.ts x)<=1000/\jN 17 (termOf k.ts x)=true/\pG (termOf k.ts x)=true/\∀ W',W'.heap[mT]?=W.heap[mT]?->(Instr.lookup 146 (.map (some mT)) (.string ⟨x.toArray⟩) false).run Tryz.prog W'=.ok q.val W':=by
 rcases h.ts.look Tryz.underlying9 Tryz.underlying146 jK hx with ⟨hg,hl⟩ | ⟨t,vt,hg,hvt,hl⟩
 ·have he:Go.Proofs.YtokemihbkeddoaaGreatDoor.termOf k.ts x=LJ:=by unfold Go.Proofs.YtokemihbkeddoaaGreatDoor.termOf;rw[hg];rfl
  rw[he];exact ⟨⟨false,⟨#[]⟩,none,0,0⟩,Dz,⟨by decide,by decide⟩,by decide,by decide,by decide,fun W' hW=>(hl W' hW).2⟩
 ·have he:Go.Proofs.YtokemihbkeddoaaGreatDoor.termOf k.ts x=t:=by unfold Go.Proofs.YtokemihbkeddoaaGreatDoor.termOf;rw[hg]
  obtain ⟨q,rfl,hq,hp⟩:=hvt;rw[he];exact ⟨q,hq,hp.fit,hp.2,hp.nm,by rw[<-Dr];exact Ji _ hp.1,fun W' hW=>(hl W' hW).2⟩
theorem kJ {k:Bd} (h:KnV nr goodF goodT W kb mF mT nF nT k) (hx:x.length<=2000000):nodesT (termOf k.ts x)<=1000:=by
 obtain ⟨q,_,_,h1,_⟩:=h.termOf hx;exact h1
theorem P_ {k:List (Str×Tm)} (hk:∀ x:Str,x.length<=2000000->nodesT (termOf k x)<=1000):∀ t:Tm,jN 2000000 t=true->nP k t<=nodesT t * 1000:=by
 have pp166d:=();exact pm166
theorem qN {k:List (Str×Tm)}:∀ {a:List Tm} {j:Nat} (h:j<a.length),dQ k (a.take (j+1))=dQ k (a.take j)+nP k a[j]
 | t :: a,0,_=>by simp[dQ]
 | t :: a,j+1,h=>by
  have:=qN (k:=k) (a:=a) (j:=j) (by simpa using h);simp only[List.take_succ_cons,dQ,this,List.getElem_cons_succ];omega
theorem fT {j:Nat}:nodesTs (a.take j)<=nodesTs a:=by
 induction a generalizing j with
 | nil=>simp
 | cons t a ih=>
  cases j with
  | zero=>simp[nodesTs]
  | succ j=>have:=ih (j:=j);simp only[List.take_succ_cons,nodesTs];omega
theorem rB {k:List (Str×Tm)} (hk:∀ x:Str,x.length<=2000000->nodesT (termOf k x)<=1000):∀ a:List Tm,nmTs 2000000 a=true->dQ k a<=nodesTs a * 1000
 | [],_=>by simp[dQ]
 | t :: a,h=>by
  simp only[nmTs,ae]at h;have h1:=P_ hk t h.1;have h2:=rB hk a h.2;simp only[dQ,nodesTs];omega
theorem rC {p:Nat} (h:nmTs p a=true) (j:Nat):nmTs p (a.take j)=true:=e_.2 fun t ht=>e_.1 h t (List.mem_of_mem_take ht)
def Xi (k:List (Str×Tm)) (kb:Nat) (W0:World) (t:Tm):Prop:=∀ (ok:Nat->Prop) (w:World) (q:TQ),Below W0.heap.size W0 w->TermV ok w q.val t →
 Calls Tryz.prog 197 #[.pointer (some ⟨kb,0,none⟩),q.val] w fun e w'=>e=.returned (.int .i64 (nP k t))/\Below w.heap.size w w'
theorem EP (W0:World) (nr:Nat->Prop) (kb mF mT nF nT:Nat) (k:Bd) (dV:KnV nr goodF goodT W0 kb mF mT nF nT k):∀ t,fitT t->Xi k.ts kb W0 t:=by
 have SA:=ab (fun x hx=>kJ dV (x:=x) hx);have IT:=ab dV;clear dV;have pp166e:=();exact pm166
theorem fv (f:Fm) (cf:2<=f.a.length) (sx:f.a.length<=2000000) (hx:∀ t∈f.a,(match t with | .mk _ n _=>n).length<=2000000) (ok:Nat->Prop) (w:World) (q:FQ) (hq:FormV ok w q.val f) :
  Calls Tryz.prog 96 #[q.val] w fun e w'=>e=.returned (.tuple #[.string ⟨(bp f).1.toArray⟩,.string ⟨(bp f).2.toArray⟩])/\Below w.heap.size w w':=by
 obtain ⟨fo,fn,fa,fs⟩:=f;obtain ⟨v1,v2,h1,gI,lh⟩:=aW.1 hq;obtain ⟨qo,qn,qa,ql,qc,qb,qm,qe⟩:=q;simp only[FQ.val,cA,Array.mk.injEq,cr,and_true,Value.int.injEq,true_and,Value.string.injEq]at h1;obtain ⟨rfl,rfl,rfl,rfl⟩:=h1;simp only[Fm.a]at cf hx sx
 match fa,cf,sx,hx,gI with
 | ⟨xv,x,xa⟩ :: ⟨yv,y,ya⟩ :: r,cf,sx,hx,gI=>
 have hql:=gI.len;obtain ⟨b1,o1,⟨u0,u1,u2,u3,u4⟩,rfl,hok,hu,c0,c1,c2⟩:=gI.get (j:=0) (by simp);obtain ⟨b2,o2,⟨z0,z1,z2,z3,z4⟩,cK,_,hz,d0,d1,d2⟩:=gI.get (j:=1) (by simp);injection cK with cK;injection cK with hb1 bF;subst hb1 bF;obtain ⟨s1,h2,_⟩:=aV.1 hu;obtain ⟨s2,h3,_⟩:=aV.1 hz;simp only[TQ.val,cA,Array.mk.injEq,cr,and_true,Value.bool.injEq,Value.string.injEq]at h2 h3;obtain ⟨rfl,rfl,rfl⟩:=h2;obtain ⟨rfl,rfl,rfl⟩:=h3;simp only at c1 d1;have yg:x.length<=1000000000:=by have:=hx (.mk u0 x xa) (by simp);simp only at this;omega
 have FJ:2<=ql:=by rw[hql];exact cf
 have hI:bp (.mk qo fn (.mk u0 x xa :: .mk z0 y ya :: r) fs)=(cM x,y):=rfl;rw[hI];obtain ⟨W2,bl⟩:=ao (w.alloc (.cells #[.int .u8 qo,.string ⟨fn.toArray⟩,.slice (some ⟨b1,o1,none⟩) ql qc,.slice qb qm qe] 36));have bF:=cX bl;have x2:=bX bl;have pp142a:=();exact pm142
end
theorem yq (x:Str) {l:List Tm} {k:Nat} (h:k<l.length):fG x (l.take (k+1))=fG x (l.take k)+D3 x l[k]:=by
 induction l generalizing k with
 | nil=>simp at h
 | cons t l ih=>
  cases k with
  | zero=>simp[fG]
  | succ k=>have:=ih (k:=k) (by simpa using h);simp[fG]at this ⊢;omega
theorem yr (x:Str) {l:List Fm} {k:Nat} (h:k<l.length):jT x (l.take (k+1))=jT x (l.take k)+iC x l[k]:=by
 induction l generalizing k with
 | nil=>simp at h
 | cons t l ih=>
  cases k with
  | zero=>simp[jT]
  | succ k=>have:=ih (k:=k) (by simpa using h);simp[jT]at this ⊢;omega
mutual
theorem S' (x:Str):∀ t,D3 x t<=nodesT t
 | .mk v n a=>by have:=qO x a;unfold D3 nodesT;split <;> omega
theorem qO (x:Str):∀ l,fG x l<=nodesTs l
 | []=>by simp[fG]
 | t :: l=>by have:=S' x t;have:=qO x l;simp[fG,nodesTs];omega
end
mutual
theorem o6 (x:Str):∀ t,iC x t<=nodesF t
 | .mk o n a s=>by have:=qO x a;have:=uH x s;unfold iC nodesF;omega
theorem uH (x:Str):∀ l,jT x l<=nodesFs l
 | []=>by simp[jT]
 | t :: l=>by have:=o6 x t;have:=uH x l;simp[jT,nodesFs];omega
end
def S_ (x:Str) (l:List Tm):Prop:=∀ (ok:Nat->Prop) (w:World) (a:Option Addr) (n c:Nat),fitTs l->TermsV ok w (.slice a n c) l →
 Calls Tryz.prog 164 #[.slice a n c,.string ⟨x.toArray⟩] w fun e w'=>e=.returned (.int .i64 (fG x l))/\Below w.heap.size w w'
theorem LL (x:Str) (l:List Tm) (ih:∀ t∈l,S_ x t.a):S_ x l:=by
 intro ok w a n c aA hl;obtain rfl:=hl.len;have cf:=aA.len;have nC:=qO x l;have mm:=aA.1;have pp296:=();exact pm296
theorem Qa (x:Str):∀ t:Tm,S_ x t.a:=by
 intro t
 induction t using Tm.ind with
 | h v n a ih=>exact LL x a ih
theorem rS (x:Str) (l:List Tm):S_ x l:=LL x l (fun t _=>Qa x t)
theorem jv (x:Str):∀ (f:Fm),fitF f->∀ (ok:Nat->Prop) (w:World) (q:FQ),FormV ok w q.val f →
  Calls Tryz.prog 97 #[q.val,.string ⟨x.toArray⟩] w fun e w'=>e=.returned (.int .i64 (iC x f))/\Below w.heap.size w w':=by
 intro t
 induction t using Fm.ind with
 | h o n a s ih=>
  intro aA ok w q hq;have pp22e:=();exact pm22
section
attribute [local go_sem] Oper.semAt_some
theorem jL {n:Str} {s:List Fm} (hs:okF true (.mk 16 n a s)=true):∃x y:Str,a=[am x,am y]/\i8 x=true/\cW y=true/\bp (.mk 16 n a s)=(cM x,y):=by
 have hp:PlOk ⟨.mk 16 n a s,.mk 2 [] [] [],[]⟩:=⟨hs,show okF false (.mk 2 [] [] [])=true by decide,fun x h=>by simp at h,show nodesF (.mk 2 [] [] [])<=400 by decide,show depthF (.mk 2 [] [] [])<=40 by decide⟩;exact oQ hp rfl
theorem Ng (k:Bd) (o:Int) (n:Str) (a:List Tm) (s:List Fm):eV k (.mk o n a s)=if (o != 15 && o != 16)=true then a.any (f_ k.ts) else match getB k.fs n with
  | none=>true
  | some f=>if o=15 then false else (getB k.ts (bp (.mk o n a s)).2).isNone && decide (iC (bp (.mk o n a s)).1 f > 0):=by
 rw[<-qM];rfl
theorem Nh (nr:Nat->Prop) (kb mF mT nF nT:Nat) (k:Bd) (s:Fm) (hs:okF true s=true) (ry:nodesF s<=400) (ok:Nat->Prop) (w:World) (dV:KnV nr goodF goodT w kb mF mT nF nT k) (q:PlQ) (hq:FormV ok w q.s.val s) :
  Calls Tryz.prog 124 #[.pointer (some ⟨kb,0,none⟩),q.val] w fun e w'=>e=.returned (.bool (eV k s))/\Below w.heap.size w w':=by
 obtain ⟨o,n,a,ss⟩:=s;have pp73e:=();exact pm73
theorem KnV.formOf {k:Bd} (h:KnV nr goodF goodT W kb mF mT nF nT k) (hx:x.length<=2000000) :
  ∃q:FQ,FormV nr W q.val (formOf k.fs x)/\fitF (formOf k.fs x)/\nodesF (formOf k.fs x)<=400/\lL (formOf k.fs x)=true/\qone (formOf k.fs x)=true/\∀ W',W'.heap[mF]?=W.heap[mF]?->(Instr.lookup 145 (.map (some mF)) (.string ⟨x.toArray⟩) false).run Tryz.prog W'=.ok q.val W':=by
 rcases h.fs.look Tryz.underlying9 Tryz.underlying145 l9 hx with ⟨hg,hl⟩ | ⟨t,vt,hg,hvt,hl⟩
 ·have he:Go.Proofs.YtokemihbkeddoaaGreatDoor.formOf k.fs x=gB:=by unfold Go.Proofs.YtokemihbkeddoaaGreatDoor.formOf;rw[hg];rfl
  rw[he];exact ⟨⟨0,⟨#[]⟩,none,0,0,none,0,0⟩,l_,⟨by decide,by decide⟩,by decide,by decide,by decide,fun W' hW=>(hl W' hW).2⟩
 ·have he:Go.Proofs.YtokemihbkeddoaaGreatDoor.formOf k.fs x=t:=by unfold Go.Proofs.YtokemihbkeddoaaGreatDoor.formOf;rw[hg]
  obtain ⟨q,rfl,hq,hp⟩:=hvt;rw[he];exact ⟨q,hq,hp.fit,hp.nodes,hp.wf,hp.qone,fun W' hW=>(hl W' hW).2⟩
theorem G0 (k:Bd) (o:Int) (n:Str) (a:List Tm) (s:List Fm):jF k (.mk o n a s)=if o=15 then nodesF (formOf k.fs n)
  else if o=16 then nodesF (formOf k.fs n)+iC (bp (.mk o n a s)).1 (formOf k.fs n) * (nodesT (termOf k.ts (bp (.mk o n a s)).2) - 1)
  else dQ k.ts a+1:=rfl
theorem Nj (nr:Nat->Prop) (kb mF mT nF nT:Nat) (k:Bd) (s:Fm) (hs:okF true s=true) (ry:nodesF s<=400) (ok:Nat->Prop) (w:World) (dV:KnV nr goodF goodT w kb mF mT nF nT k) (q:PlQ) (hq:FormV ok w q.s.val s) :
  Calls Tryz.prog 126 #[.pointer (some ⟨kb,0,none⟩),q.val] w fun e w'=>e=.returned (.int .i64 (jF k s))/\Below w.heap.size w w':=by
 obtain ⟨o,n,a,ss⟩:=s;have pp73f:=();exact pm73
theorem o7 (k:List (Str×Tm)) (c:List Str):∀ l,cR k c l=l.map (bY k c)
 | []=>rfl
 | t :: l=>by simp[cR,o7 k c l]
def zaV (kd:List (Str×Tm)) (sc:List Str) (vL:Value) (kb:Nat) (W0:World) (t:Tm):Prop:=∀ (ok:Nat->Prop) (w:World) (q:TQ),Below W0.heap.size W0 w->TermV ok w q.val t →
 Calls Tryz.prog 127 #[.pointer (some ⟨kb,0,none⟩),q.val,vL] w fun e w'=>(∃p:TQ,e=.returned p.val/\TermV (w.heap.size<=·) w' p.val (bY kd sc t))/\Below w.heap.size w w'
theorem ET (W0:World) (nr:Nat->Prop) (kb mF mT nF nT:Nat) (kd:Bd) (dV:KnV nr goodF goodT W0 kb mF mT nF nT kd) (okl:Nat->Prop) (vL:Value) (L sc:List Str) (hL:StrsO okl W0 vL L) (Ta:L.length<=2000000) (Qg:∀ y,L.contains y=sc.contains y):∀ t,fitT t->zaV kd.ts sc vL kb W0 t:=by
 obtain ⟨pY,hi,yF,vX,yX⟩:=info_parts gN;have IT:=ab dV;have HLk:=ab (fun (W:World) (h:Below W0.heap.size W0 W) (y:Str)=>(Qg y) ▸ fk L Ta y _ W vL (hL.later h));clear dV hL Ta Qg;intro t
 induction t using Tm.ind with
 | h v n a ih=>
  intro aA ok w q cK hq;exact pm171
