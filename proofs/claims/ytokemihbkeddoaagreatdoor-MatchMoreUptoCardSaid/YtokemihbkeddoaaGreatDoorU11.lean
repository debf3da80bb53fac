/-
'Form' and 'Term' of package match.
-/
import Derived.Test.YtokemihbkeddoaaGreatDoorU10
namespace Go.Proofs.YtokemihbkeddoaaGreatDoor
open Go Go.RowKit Lib
set_option maxRecDepth 100000
set_option maxHeartbeats 64000000
variable {k kb mF mT nF nT:Nat} {ok mR:Nat->Prop} {W:World} {x:Str} {a:List Tm}
section
attribute [local go_sem] Oper.semAt_some
theorem CG {α:Type} {l:List (Str×α)} (h:k<l.length) (n:Str):getB (l.drop k) n=if l[k].1 == n then some l[k].2 else getB (l.drop (k+1)) n:=by
 rw[fO h];rfl
def Gp:Tm:=.mk false [] []
theorem lE:FormV ok W (FQ.val ⟨0,⟨#[]⟩,none,0,0,none,0,0⟩) j6:=aW.2 ⟨_,_,rfl,cf,gh⟩
theorem CO:TermV ok W (TQ.val ⟨false,⟨#[]⟩,none,0,0⟩) Gp:=aV.2 ⟨_,rfl,cf⟩
theorem CU (b:Bd) (hF:b.fs.length<=1000000) (az:∀ x∈b.fs,fitF x.2) (n:Str) (ok:Nat->Prop) (w:World) (q:BQ) (hq:BindV ok w q b) :
  Calls Tryz.prog 16 #[q.val,.string ⟨n.toArray⟩] w fun e w'=>(∃p:FQ,e=.returned (.tuple #[p.val,.bool (getB b.fs n).isSome])/\FormV (w.heap.size<=·) w' p.val ((getB b.fs n).getD j6))/\Below w.heap.size w w':=by
 have pp272a:=();exact pm272
theorem CW (b:Bd) (hF:b.ts.length<=1000000) (az:∀ x∈b.ts,fitT x.2) (n:Str) (ok:Nat->Prop) (w:World) (q:BQ) (hq:BindV ok w q b) :
  Calls Tryz.prog 18 #[q.val,.string ⟨n.toArray⟩] w fun e w'=>(∃p:TQ,e=.returned (.tuple #[p.val,.bool (getB b.ts n).isSome])/\TermV (w.heap.size<=·) w' p.val ((getB b.ts n).getD Gp))/\Below w.heap.size w w':=by
 have pp272b:=();exact pm272
theorem KnV.termOf {k:Bd} (h:KnV mR goodF goodT W kb mF mT nF nT k) (hx:x.length<=2000000) :
  ∃q:TQ,TermV mR W q.val (termOf k.ts x)/\fitT (termOf k.ts x)/\nodesT (termOf k.ts x)<=1000/\jw 17 (termOf k.ts x)=true/\qC (termOf k.ts x)=true/\∀ W',W'.heap[mT]?=W.heap[mT]?->(Instr.lookup 146 (.map (some mT)) (.string ⟨x.toArray⟩) false).run Tryz.prog W'=.ok q.val W':=by
 rcases h.ts.look Tryz.underlying9 Tryz.underlying146 jr hx with ⟨hg,hl⟩ | ⟨t,vt,hg,hvt,hl⟩
 ·have he:Go.Proofs.YtokemihbkeddoaaGreatDoor.termOf k.ts x=Gp:=by unfold Go.Proofs.YtokemihbkeddoaaGreatDoor.termOf;rw[hg];rfl
  rw[he];exact ⟨⟨false,⟨#[]⟩,none,0,0⟩,CO,⟨by decide,by decide⟩,by decide,by decide,by decide,fun W' hW=>(hl W' hW).2⟩
 ·have he:Go.Proofs.YtokemihbkeddoaaGreatDoor.termOf k.ts x=t:=by unfold Go.Proofs.YtokemihbkeddoaaGreatDoor.termOf;rw[hg]
  obtain ⟨q,rfl,hq,hp⟩:=hvt;rw[he];exact ⟨q,hq,hp.fit,hp.2,hp.nm,by rw[<-Cu];exact Ip _ hp.1,fun W' hW=>(hl W' hW).2⟩
theorem kn {k:Bd} (h:KnV mR goodF goodT W kb mF mT nF nT k) (hx:x.length<=2000000):nodesT (termOf k.ts x)<=1000:=by
 obtain ⟨q,_,_,h1,_⟩:=h.termOf hx;exact h1
theorem OG {k:List (Str×Tm)} (hk:∀ x:Str,x.length<=2000000->nodesT (termOf k x)<=1000):∀ t:Tm,jw 2000000 t=true->pt k t<=nodesT t * 1000:=by
 have pp161d:=();exact pm161
theorem pR {k:List (Str×Tm)}:∀ {a:List Tm} {j:Nat} (h:j<a.length),eb k (a.take (j+1))=eb k (a.take j)+pt k a[j]
 | t :: a,0,_=>by simp[eb]
 | t :: a,j+1,h=>by
  have:=pR (k:=k) (a:=a) (j:=j) (by simpa using h);simp only[List.take_succ_cons,eb,this,List.getElem_cons_succ];omega
theorem jN {j:Nat}:nodesTs (a.take j)<=nodesTs a:=by
 induction a generalizing j with
 | nil=>simp
 | cons t a ih=>
  cases j with
  | zero=>simp[nodesTs]
  | succ j=>have:=ih (j:=j);simp only[List.take_succ_cons,nodesTs];omega
theorem qL {k:List (Str×Tm)} (hk:∀ x:Str,x.length<=2000000->nodesT (termOf k x)<=1000):∀ a:List Tm,nmTs 2000000 a=true->eb k a<=nodesTs a * 1000
 | [],_=>by simp[eb]
 | t :: a,h=>by
  simp only[nmTs,ah]at h;have h1:=OG hk t h.1;have h2:=qL hk a h.2;simp only[eb,nodesTs];omega
theorem qM {p:Nat} (h:nmTs p a=true) (j:Nat):nmTs p (a.take j)=true:=eY.2 fun t ht=>eY.1 h t (List.mem_of_mem_take ht)
def VU (k:List (Str×Tm)) (kb:Nat) (W0:World) (t:Tm):Prop:=∀ (ok:Nat->Prop) (w:World) (q:TQ),Below W0.heap.size W0 w->TermV ok w q.val t →
 Calls Tryz.prog 197 #[.pointer (some ⟨kb,0,none⟩),q.val] w fun e w'=>e=.returned (.int .i64 (pt k t))/\Below w.heap.size w w'
theorem El (W0:World) (mR:Nat->Prop) (kb mF mT nF nT:Nat) (k:Bd) (dS:KnV mR goodF goodT W0 kb mF mT nF nT k):∀ t,fitT t->VU k.ts kb W0 t:=by
 have U1:=ae (fun x hx=>kn dS (x:=x) hx);have Hr:=ae dS;clear dS;have pp161e:=();exact pm161
theorem e_ (f:Fm) (cm:2<=f.a.length) (rK:f.a.length<=2000000) (hx:∀ t∈f.a,(match t with | .mk _ n _=>n).length<=2000000) (ok:Nat->Prop) (w:World) (q:FQ) (hq:FormV ok w q.val f) :
  Calls Tryz.prog 96 #[q.val] w fun e w'=>e=.returned (.tuple #[.string ⟨(aX f).1.toArray⟩,.string ⟨(aX f).2.toArray⟩])/\Below w.heap.size w w':=by
 obtain ⟨fo,fn,fa,fs⟩:=f;obtain ⟨v1,v2,h1,h_,lV⟩:=aW.1 hq;obtain ⟨qo,qn,qa,ql,qc,qb,qm,qe⟩:=q;simp only[FQ.val,cE,Array.mk.injEq,cB,and_true,Value.int.injEq,true_and,Value.string.injEq]at h1;obtain ⟨rfl,rfl,rfl,rfl⟩:=h1;simp only[Fm.a]at cm hx rK
 match fa,cm,rK,hx,h_ with
 | ⟨xv,x,xa⟩ :: ⟨yv,y,ya⟩ :: r,cm,rK,hx,h_=>
 have hql:=h_.len;obtain ⟨b1,o1,⟨u0,u1,u2,u3,u4⟩,rfl,hok,hu,c0,c1,c2⟩:=h_.get (j:=0) (by simp);obtain ⟨b2,o2,⟨z0,z1,z2,z3,z4⟩,cI,_,hz,d0,d1,d2⟩:=h_.get (j:=1) (by simp);injection cI with cI;injection cI with hb1 bD;subst hb1 bD;obtain ⟨s1,h2,_⟩:=aV.1 hu;obtain ⟨s2,h3,_⟩:=aV.1 hz;simp only[TQ.val,cE,Array.mk.injEq,cB,and_true,Value.bool.injEq,Value.string.injEq]at h2 h3;obtain ⟨rfl,rfl,rfl⟩:=h2;obtain ⟨rfl,rfl,rfl⟩:=h3;simp only at c1 d1;have uW:x.length<=1000000000:=by have:=hx (.mk u0 x xa) (by simp);simp only at this;omega
 have Fa:2<=ql:=by rw[hql];exact cm
 have hI:aX (.mk qo fn (.mk u0 x xa :: .mk z0 y ya :: r) fs)=(dc x,y):=rfl;rw[hI];obtain ⟨W2,bm⟩:=am (w.alloc (.cells #[.int .u8 qo,.string ⟨fn.toArray⟩,.slice (some ⟨b1,o1,none⟩) ql qc,.slice qb qm qe] 36));have bD:=cZ bm;have x2:=cb bm;have pp137a:=();exact pm137
end
theorem xC (x:Str) {l:List Tm} {k:Nat} (h:k<l.length):fE x (l.take (k+1))=fE x (l.take k)+Dw x l[k]:=by
 induction l generalizing k with
 | nil=>simp at h
 | cons t l ih=>
  cases k with
  | zero=>simp[fE]
  | succ k=>have:=ih (k:=k) (by simpa using h);simp[fE]at this ⊢;omega
theorem xD (x:Str) {l:List Fm} {k:Nat} (h:k<l.length):jB x (l.take (k+1))=jB x (l.take k)+gY x l[k]:=by
 induction l generalizing k with
 | nil=>simp at h
 | cons t l ih=>
  cases k with
  | zero=>simp[jB]
  | succ k=>have:=ih (k:=k) (by simpa using h);simp[jB]at this ⊢;omega
mutual
theorem RF (x:Str):∀ t,Dw x t<=nodesT t
 | .mk v n a=>by have:=pS x a;unfold Dw nodesT;split <;> omega
theorem pS (x:Str):∀ l,fE x l<=nodesTs l
 | []=>by simp[fE]
 | t :: l=>by have:=RF x t;have:=pS x l;simp[fE,nodesTs];omega
end
mutual
theorem ov (x:Str):∀ t,gY x t<=nodesF t
 | .mk o n a s=>by have:=pS x a;have:=tN x s;unfold gY nodesF;omega
theorem tN (x:Str):∀ l,jB x l<=nodesFs l
 | []=>by simp[jB]
 | t :: l=>by have:=ov x t;have:=tN x l;simp[jB,nodesFs];omega
end
def RG (x:Str) (l:List Tm):Prop:=∀ (ok:Nat->Prop) (w:World) (a:Option Addr) (n c:Nat),fitTs l->TermsV ok w (.slice a n c) l →
 Calls Tryz.prog 164 #[.slice a n c,.string ⟨x.toArray⟩] w fun e w'=>e=.returned (.int .i64 (fE x l))/\Below w.heap.size w w'
theorem KI (x:Str) (l:List Tm) (ih:∀ t∈l,RG x t.a):RG x l:=by
 intro ok w a n c az hl;obtain rfl:=hl.len;have cm:=az.len;have oP:=pS x l;have lM:=az.1;have pp290:=();exact pm290
theorem OH (x:Str):∀ t:Tm,RG x t.a:=by
 intro t
 induction t using Tm.ind with
 | h v n a ih=>exact KI x a ih
theorem rf (x:Str) (l:List Tm):RG x l:=KI x l (fun t _=>OH x t)
theorem jb (x:Str):∀ (f:Fm),fitF f->∀ (ok:Nat->Prop) (w:World) (q:FQ),FormV ok w q.val f →
  Calls Tryz.prog 97 #[q.val,.string ⟨x.toArray⟩] w fun e w'=>e=.returned (.int .i64 (gY x f))/\Below w.heap.size w w':=by
 intro t
 induction t using Fm.ind with
 | h o n a s ih=>
  intro az ok w q hq;have pp21e:=();exact pm21
section
attribute [local go_sem] Oper.semAt_some
theorem js {n:Str} {s:List Fm} (hs:okF true (.mk 16 n a s)=true):∃x y:Str,a=[ap x,ap y]/\je x=true/\cP y=true/\aX (.mk 16 n a s)=(dc x,y):=by
 have hp:PlOk ⟨.mk 16 n a s,.mk 2 [] [] [],[]⟩:=⟨hs,show okF false (.mk 2 [] [] [])=true by decide,fun x h=>by simp at h,show nodesF (.mk 2 [] [] [])<=400 by decide,show depthF (.mk 2 [] [] [])<=40 by decide⟩;exact lP hp rfl
theorem L1 (k:Bd) (o:Int) (n:Str) (a:List Tm) (s:List Fm):iJ k (.mk o n a s)=if (o != 15 && o != 16)=true then a.any (jf k.ts) else match getB k.fs n with
  | none=>true
  | some f=>if o=15 then false else (getB k.ts (aX (.mk o n a s)).2).isNone && decide (gY (aX (.mk o n a s)).1 f > 0):=by
 rw[<-pQ];rfl
theorem L2 (mR:Nat->Prop) (kb mF mT nF nT:Nat) (k:Bd) (s:Fm) (hs:okF true s=true) (qJ:nodesF s<=400) (ok:Nat->Prop) (w:World) (dS:KnV mR goodF goodT w kb mF mT nF nT k) (q:PlQ) (hq:FormV ok w q.s.val s) :
  Calls Tryz.prog 124 #[.pointer (some ⟨kb,0,none⟩),q.val] w fun e w'=>e=.returned (.bool (iJ k s))/\Below w.heap.size w w':=by
 obtain ⟨o,n,a,ss⟩:=s;have pp72e:=();exact pm72
theorem KnV.formOf {k:Bd} (h:KnV mR goodF goodT W kb mF mT nF nT k) (hx:x.length<=2000000) :
  ∃q:FQ,FormV mR W q.val (formOf k.fs x)/\fitF (formOf k.fs x)/\nodesF (formOf k.fs x)<=400/\mr (formOf k.fs x)=true/\qone (formOf k.fs x)=true/\∀ W',W'.heap[mF]?=W.heap[mF]?->(Instr.lookup 145 (.map (some mF)) (.string ⟨x.toArray⟩) false).run Tryz.prog W'=.ok q.val W':=by
 rcases h.fs.look Tryz.underlying9 Tryz.underlying145 lD hx with ⟨hg,hl⟩ | ⟨t,vt,hg,hvt,hl⟩
 ·have he:Go.Proofs.YtokemihbkeddoaaGreatDoor.formOf k.fs x=j6:=by unfold Go.Proofs.YtokemihbkeddoaaGreatDoor.formOf;rw[hg];rfl
  rw[he];exact ⟨⟨0,⟨#[]⟩,none,0,0,none,0,0⟩,lE,⟨by decide,by decide⟩,by decide,by decide,by decide,fun W' hW=>(hl W' hW).2⟩
 ·have he:Go.Proofs.YtokemihbkeddoaaGreatDoor.formOf k.fs x=t:=by unfold Go.Proofs.YtokemihbkeddoaaGreatDoor.formOf;rw[hg]
  obtain ⟨q,rfl,hq,hp⟩:=hvt;rw[he];exact ⟨q,hq,hp.fit,hp.nodes,hp.wf,hp.qone,fun W' hW=>(hl W' hW).2⟩
theorem Gu (k:Bd) (o:Int) (n:Str) (a:List Tm) (s:List Fm):kX k (.mk o n a s)=if o=15 then nodesF (formOf k.fs n)
  else if o=16 then nodesF (formOf k.fs n)+gY (aX (.mk o n a s)).1 (formOf k.fs n) * (nodesT (termOf k.ts (aX (.mk o n a s)).2) - 1)
  else eb k.ts a+1:=rfl
theorem L4 (mR:Nat->Prop) (kb mF mT nF nT:Nat) (k:Bd) (s:Fm) (hs:okF true s=true) (qJ:nodesF s<=400) (ok:Nat->Prop) (w:World) (dS:KnV mR goodF goodT w kb mF mT nF nT k) (q:PlQ) (hq:FormV ok w q.s.val s) :
  Calls Tryz.prog 126 #[.pointer (some ⟨kb,0,none⟩),q.val] w fun e w'=>e=.returned (.int .i64 (kX k s))/\Below w.heap.size w w':=by
 obtain ⟨o,n,a,ss⟩:=s;have pp72f:=();exact pm72
theorem ow (k:List (Str×Tm)) (c:List Str):∀ l,fk k c l=l.map (cQ k c)
 | []=>rfl
 | t :: l=>by simp[fk,ow k c l]
def zad (kd:List (Str×Tm)) (sc:List Str) (vL:Value) (kb:Nat) (W0:World) (t:Tm):Prop:=∀ (ok:Nat->Prop) (w:World) (q:TQ),Below W0.heap.size W0 w->TermV ok w q.val t →
 Calls Tryz.prog 127 #[.pointer (some ⟨kb,0,none⟩),q.val,vL] w fun e w'=>(∃p:TQ,e=.returned p.val/\TermV (w.heap.size<=·) w' p.val (cQ kd sc t))/\Below w.heap.size w w'
theorem Eo (W0:World) (mR:Nat->Prop) (kb mF mT nF nT:Nat) (kd:Bd) (dS:KnV mR goodF goodT W0 kb mF mT nF nT kd) (okl:Nat->Prop) (vL:Value) (L sc:List Str) (hL:StrsO okl W0 vL L) (RH:L.length<=2000000) (OM:∀ y,L.contains y=sc.contains y):∀ t,fitT t->zad kd.ts sc vL kb W0 t:=by
 obtain ⟨o6,hi,xH,uU,yi⟩:=info_parts gE;have Hr:=ae dS;have HLk:=ae (fun (W:World) (h:Below W0.heap.size W0 W) (y:Str)=>(OM y) ▸ e7 L RH y _ W vL (hL.later h));clear dS hL RH OM;intro t
 induction t using Tm.ind with
 | h v n a ih=>
  intro az ok w q cI hq;exact pm167
