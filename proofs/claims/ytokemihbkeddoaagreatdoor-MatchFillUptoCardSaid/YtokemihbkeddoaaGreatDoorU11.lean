/-
'lacksTerm' of package match.
-/
import Derived.Test.YtokemihbkeddoaaGreatDoorU10
namespace Go.Proofs.YtokemihbkeddoaaGreatDoor
open Go Go.RowKit Lib
set_option maxRecDepth 100000
set_option maxHeartbeats 64000000
variable {k kb mF mT nF nT:Nat} {ok nM:Nat->Prop} {W:World} {x:Str} {a:List Tm}
section
attribute [local go_sem] Oper.semAt_some
def P_ (pr:Tm->Bool) (fn:Nat) (kb:Nat) (W0:World) (t:Tm):Prop:=∀ (ok:Nat->Prop) (w:World) (q:TQ),Below W0.heap.size W0 w->TermV ok w q.val t →
 Calls Tryz.prog fn #[.pointer (some ⟨kb,0,none⟩),q.val] w fun e w'=>e=.returned (.bool (pr t))/\Below w.heap.size w w'
theorem Ki (pr:Tm->Bool) (l:List Tm) (hl:l.length<=2000000) (kb:Nat) (W0:World) (hp:∀ t∈l,P_ pr 193 kb W0 t) (ok:Nat->Prop) (w:World) (a:Option Addr) (n c:Nat) (hb:Below W0.heap.size W0 w) (hv:TermsV ok w (.slice a n c) l) :
  Calls Tryz.prog 243 #[.slice a n c,.func (.func 193) #[.pointer (some ⟨kb,0,none⟩)] #[]] w fun e w'=>(∃r:Int,e=.returned (.int .i64 r)/\(decide (0<=r)=l.any pr))/\Below w.heap.size w w':=by
 obtain rfl:=hv.len;obtain ⟨k0,bX⟩:=am l.length;rw[<-bX]at hl hv;rw[<-bX];obtain ⟨HK,HV,HP,S6⟩:=eH bX hv hp hb;clear bX hv hp hb;go_enter Tryz.func243,Tryz.ntmps243;have pp170:=();exact pm170
theorem sK (pr:Tm->Bool) (l:List Tm) (hl:l.length<=2000000) (kb:Nat) (W0:World) (hp:∀ t∈l,P_ pr 193 kb W0 t) (ok:Nat->Prop) (w:World) (a:Option Addr) (n c:Nat) (hb:Below W0.heap.size W0 w) (hv:TermsV ok w (.slice a n c) l) :
  Calls Tryz.prog 192 #[.slice a n c,.func (.func 193) #[.pointer (some ⟨kb,0,none⟩)] #[]] w fun e w'=>e=.returned (.bool (l.any pr))/\Below w.heap.size w w':=by
 have CC:=Ki pr l hl kb W0 hp ok w a n c hb hv;obtain ⟨B,hB⟩:=am (l.any pr);rw[<-hB]at CC ⊢;have HC:=ac CC;clear CC hv hb hB hp;go_enter Tryz.func192,Tryz.ntmps192;go_wp2_with (go_at_call 243;refine HC.o.mono ?_;rintro e w4 ⟨⟨r,rfl,hr⟩,aO⟩;have H4:=aG hr aO;clear hr aO);go_ret;exact ⟨by rw[<-H4.o.1];rfl,H4.o.2⟩
theorem qR (k:List (Str×Tm)):∀ l,jt k l=l.any (iv k)
 | []=>rfl
 | t :: l=>by simp only[jt,List.any_cons,qR k l]
theorem Do (W0:World) (PF:Fm->Prop) (PT:Tm->Prop) (nM:Nat->Prop) (kb mF mT nF nT:Nat) (k:Bd) (dZ:KnV nM PF PT W0 kb mF mT nF nT k):∀ t,fitT t->P_ (iv k.ts) 193 kb W0 t:=by
 have Jf:=ac dZ;clear dZ;have pp184c:=();exact pm184
theorem Eo {α:Type} {l:List (Str×α)} (h:k<l.length) (n:Str):getB (l.drop k) n=if l[k].1 == n then some l[k].2 else getB (l.drop (k+1)) n:=by
 rw[gj h];rfl
def LV:Tm:=.mk false [] []
theorem mm:FormV ok W (FQ.val ⟨0,⟨#[]⟩,none,0,0,none,0,0⟩) lg:=aT.2 ⟨_,_,rfl,cq,gI⟩
theorem Ep:TermV ok W (TQ.val ⟨false,⟨#[]⟩,none,0,0⟩) LV:=aP.2 ⟨_,rfl,cq⟩
theorem Nf (b:Bd) (hF:b.fs.length<=1000000) (hfit:∀ x∈b.fs,fitF x.2) (n:Str) (ok:Nat->Prop) (w:World) (q:BQ) (hq:BindV ok w q b) :
  Calls Tryz.prog 16 #[q.val,.string ⟨n.toArray⟩] w fun e w'=>(∃p:FQ,e=.returned (.tuple #[p.val,.bool (getB b.fs n).isSome])/\FormV (w.heap.size<=·) w' p.val ((getB b.fs n).getD lg))/\Below w.heap.size w w':=by
 have pp297a:=();exact pm297
theorem Ng (b:Bd) (hF:b.ts.length<=1000000) (hfit:∀ x∈b.ts,fitT x.2) (n:Str) (ok:Nat->Prop) (w:World) (q:BQ) (hq:BindV ok w q b) :
  Calls Tryz.prog 18 #[q.val,.string ⟨n.toArray⟩] w fun e w'=>(∃p:TQ,e=.returned (.tuple #[p.val,.bool (getB b.ts n).isSome])/\TermV (w.heap.size<=·) w' p.val ((getB b.ts n).getD LV))/\Below w.heap.size w w':=by
 have pp297b:=();exact pm297
theorem KnV.termOf {k:Bd} (h:KnV nM goodF goodT W kb mF mT nF nT k) (hx:x.length<=2000000) :
  ∃q:TQ,TermV nM W q.val (termOf k.ts x)/\fitT (termOf k.ts x)/\nodesT (termOf k.ts x)<=1000/\j5 17 (termOf k.ts x)=true/\lV (termOf k.ts x)=true/\∀ W',W'.heap[mT]?=W.heap[mT]?->(Instr.lookup 146 (.map (some mT)) (.string ⟨x.toArray⟩) false).run Tryz.prog W'=.ok q.val W':=by
 rcases h.ts.look Tryz.underlying9 Tryz.underlying146 jT hx with ⟨hg,hl⟩ | ⟨t,vt,hg,hvt,hl⟩
 ·have he:Go.Proofs.YtokemihbkeddoaaGreatDoor.termOf k.ts x=LV:=by unfold Go.Proofs.YtokemihbkeddoaaGreatDoor.termOf;rw[hg];rfl
  rw[he];exact ⟨⟨false,⟨#[]⟩,none,0,0⟩,Ep,⟨by decide,by decide⟩,by decide,by decide,by decide,fun W' hW=>(hl W' hW).2⟩
 ·have he:Go.Proofs.YtokemihbkeddoaaGreatDoor.termOf k.ts x=t:=by unfold Go.Proofs.YtokemihbkeddoaaGreatDoor.termOf;rw[hg]
  obtain ⟨q,rfl,hq,hp⟩:=hvt;rw[he];exact ⟨q,hq,hp.fit,hp.2,hp.nm,by rw[<-Eh];exact JE _ hp.1,fun W' hW=>(hl W' hW).2⟩
theorem kP {k:Bd} (h:KnV nM goodF goodT W kb mF mT nF nT k) (hx:x.length<=2000000):nodesT (termOf k.ts x)<=1000:=by
 obtain ⟨q,_,_,h1,_⟩:=h.termOf hx;exact h1
theorem Qc {k:List (Str×Tm)} (hk:∀ x:Str,x.length<=2000000->nodesT (termOf k x)<=1000):∀ t:Tm,j5 2000000 t=true->qq k t<=nodesT t * 1000:=by
 have pp184d:=();exact pm184
theorem qS {k:List (Str×Tm)}:∀ {a:List Tm} {j:Nat} (h:j<a.length),eh k (a.take (j+1))=eh k (a.take j)+qq k a[j]
 | t :: a,0,_=>by simp[eh]
 | t :: a,j+1,h=>by
  have:=qS (k:=k) (a:=a) (j:=j) (by simpa using h);simp only[List.take_succ_cons,eh,this,List.getElem_cons_succ];omega
theorem ku {j:Nat}:nodesTs (a.take j)<=nodesTs a:=by
 induction a generalizing j with
 | nil=>simp
 | cons t a ih=>
  cases j with
  | zero=>simp[nodesTs]
  | succ j=>have:=ih (j:=j);simp only[List.take_succ_cons,nodesTs];omega
theorem rK {k:List (Str×Tm)} (hk:∀ x:Str,x.length<=2000000->nodesT (termOf k x)<=1000):∀ a:List Tm,nmTs 2000000 a=true->eh k a<=nodesTs a * 1000
 | [],_=>by simp[eh]
 | t :: a,h=>by
  simp only[nmTs,af]at h;have h1:=Qc hk t h.1;have h2:=rK hk a h.2;simp only[eh,nodesTs];omega
theorem rL {p:Nat} (h:nmTs p a=true) (j:Nat):nmTs p (a.take j)=true:=fI.2 fun t ht=>fI.1 h t (List.mem_of_mem_take ht)
def WU (k:List (Str×Tm)) (kb:Nat) (W0:World) (t:Tm):Prop:=∀ (ok:Nat->Prop) (w:World) (q:TQ),Below W0.heap.size W0 w->TermV ok w q.val t →
 Calls Tryz.prog 197 #[.pointer (some ⟨kb,0,none⟩),q.val] w fun e w'=>e=.returned (.int .i64 (qq k t))/\Below w.heap.size w w'
theorem FF (W0:World) (nM:Nat->Prop) (kb mF mT nF nT:Nat) (k:Bd) (dZ:KnV nM goodF goodT W0 kb mF mT nF nT k):∀ t,fitT t->WU k.ts kb W0 t:=by
 have VW:=ac (fun x hx=>kP dZ (x:=x) hx);have Jf:=ac dZ;clear dZ;have pp184e:=();exact pm184
theorem fP (f:Fm) (hlen:2<=f.a.length) (sr:f.a.length<=2000000) (hx:∀ t∈f.a,(match t with | .mk _ n _=>n).length<=2000000) (ok:Nat->Prop) (w:World) (q:FQ) (hq:FormV ok w q.val f) :
  Calls Tryz.prog 96 #[q.val] w fun e w'=>e=.returned (.tuple #[.string ⟨(aJ f).1.toArray⟩,.string ⟨(aJ f).2.toArray⟩])/\Below w.heap.size w w':=by
 obtain ⟨fo,fn,fa,fs⟩:=f;obtain ⟨v1,v2,h1,iF,mK⟩:=aT.1 hq;obtain ⟨qo,qn,qa,ql,qc,qb,qm,qe⟩:=q;simp only[FQ.val,cF,Array.mk.injEq,b_,and_true,Value.int.injEq,true_and,Value.string.injEq]at h1;obtain ⟨rfl,rfl,rfl,rfl⟩:=h1;simp only[Fm.a]at hlen hx sr
 match fa,hlen,sr,hx,iF with
 | ⟨xv,x,xa⟩ :: ⟨yv,y,ya⟩ :: r,hlen,sr,hx,iF=>
 have hql:=iF.len;obtain ⟨b1,o1,⟨u0,u1,u2,u3,u4⟩,rfl,hok,hu,c0,c1,c2⟩:=iF.get (j:=0) (by simp);obtain ⟨b2,o2,⟨z0,z1,z2,z3,z4⟩,cQ,_,hz,d0,d1,d2⟩:=iF.get (j:=1) (by simp);injection cQ with cQ;injection cQ with hb1 bB;subst hb1 bB;obtain ⟨s1,h2,_⟩:=aP.1 hu;obtain ⟨s2,h3,_⟩:=aP.1 hz;simp only[TQ.val,cF,Array.mk.injEq,b_,and_true,Value.bool.injEq,Value.string.injEq]at h2 h3;obtain ⟨rfl,rfl,rfl⟩:=h2;obtain ⟨rfl,rfl,rfl⟩:=h3;simp only at c1 d1;have wM:x.length<=1000000000:=by have:=hx (.mk u0 x xa) (by simp);simp only at this;omega
 have Gq:2<=ql:=by rw[hql];exact hlen
 have hI:aJ (.mk qo fn (.mk u0 x xa :: .mk z0 y ya :: r) fs)=(bQ x,y):=rfl;rw[hI];obtain ⟨W2,a_⟩:=am (w.alloc (.cells #[.int .u8 qo,.string ⟨fn.toArray⟩,.slice (some ⟨b1,o1,none⟩) ql qc,.slice qb qm qe] 36));have bB:=cV a_;have x2:=bU a_;have pp154a:=();exact pm154
end
theorem zi (x:Str) {l:List Tm} {k:Nat} (h:k<l.length):eV x (l.take (k+1))=eV x (l.take k)+zR x l[k]:=by
 induction l generalizing k with
 | nil=>simp at h
 | cons t l ih=>
  cases k with
  | zero=>simp[eV]
  | succ k=>have:=ih (k:=k) (by simpa using h);simp[eV]at this ⊢;omega
theorem zj (x:Str) {l:List Fm} {k:Nat} (h:k<l.length):i9 x (l.take (k+1))=i9 x (l.take k)+fG x l[k]:=by
 induction l generalizing k with
 | nil=>simp at h
 | cons t l ih=>
  cases k with
  | zero=>simp[i9]
  | succ k=>have:=ih (k:=k) (by simpa using h);simp[i9]at this ⊢;omega
mutual
theorem S7 (x:Str):∀ t,zR x t<=nodesT t
 | .mk v n a=>by have:=qT x a;unfold zR nodesT;split <;> omega
theorem qT (x:Str):∀ l,eV x l<=nodesTs l
 | []=>by simp[eV]
 | t :: l=>by have:=S7 x t;have:=qT x l;simp[eV,nodesTs];omega
end
mutual
theorem pg (x:Str):∀ t,fG x t<=nodesF t
 | .mk o n a s=>by have:=qT x a;have:=vj x s;unfold fG nodesF;omega
theorem vj (x:Str):∀ l,i9 x l<=nodesFs l
 | []=>by simp[i9]
 | t :: l=>by have:=pg x t;have:=vj x l;simp[i9,nodesFs];omega
end
def S8 (x:Str) (l:List Tm):Prop:=∀ (ok:Nat->Prop) (w:World) (a:Option Addr) (n c:Nat),fitTs l->TermsV ok w (.slice a n c) l →
 Calls Tryz.prog 164 #[.slice a n c,.string ⟨x.toArray⟩] w fun e w'=>e=.returned (.int .i64 (eV x l))/\Below w.heap.size w w'
theorem LW (x:Str) (l:List Tm) (ih:∀ t∈l,S8 x t.a):S8 x l:=by
 intro ok w a n c hfit hl;obtain rfl:=hl.len;have hlen:=hfit.len;have pN:=qT x l;have my:=hfit.1;have pp310:=();exact pm310
theorem Qd (x:Str):∀ t:Tm,S8 x t.a:=by
 intro t
 induction t using Tm.ind with
 | h v n a ih=>exact LW x a ih
theorem sh (x:Str) (l:List Tm):S8 x l:=LW x l (fun t _=>Qd x t)
theorem jx (x:Str):∀ (f:Fm),fitF f->∀ (ok:Nat->Prop) (w:World) (q:FQ),FormV ok w q.val f →
  Calls Tryz.prog 97 #[q.val,.string ⟨x.toArray⟩] w fun e w'=>e=.returned (.int .i64 (fG x f))/\Below w.heap.size w w':=by
 intro t
 induction t using Fm.ind with
 | h o n a s ih=>
  intro hfit ok w q hq;have pp24e:=();exact pm24
section
attribute [local go_sem] Oper.semAt_some
theorem jU {n:Str} {s:List Fm} (hs:okF true (.mk 16 n a s)=true):∃x y:Str,a=[ao x,ao y]/\eC x=true/\c9 y=true/\aJ (.mk 16 n a s)=(bQ x,y):=by
 have hp:PlOk ⟨.mk 16 n a s,.mk 2 [] [] [],[]⟩:=⟨hs,show okF false (.mk 2 [] [] [])=true by decide,fun x h=>by simp at h,show nodesF (.mk 2 [] [] [])<=400 by decide,show depthF (.mk 2 [] [] [])<=40 by decide⟩;exact iA hp rfl
theorem Nh (k:Bd) (o:Int) (n:Str) (a:List Tm) (s:List Fm):gH k (.mk o n a s)=if (o != 15 && o != 16)=true then a.any (iv k.ts) else match getB k.fs n with
  | none=>true
  | some f=>if o=15 then false else (getB k.ts (aJ (.mk o n a s)).2).isNone && decide (fG (aJ (.mk o n a s)).1 f > 0):=by
 rw[<-qR];rfl
theorem Ni (nM:Nat->Prop) (kb mF mT nF nT:Nat) (k:Bd) (s:Fm) (hs:okF true s=true) (rI:nodesF s<=400) (ok:Nat->Prop) (w:World) (dZ:KnV nM goodF goodT w kb mF mT nF nT k) (q:PlQ) (hq:FormV ok w q.s.val s) :
  Calls Tryz.prog 124 #[.pointer (some ⟨kb,0,none⟩),q.val] w fun e w'=>e=.returned (.bool (gH k s))/\Below w.heap.size w w':=by
 obtain ⟨o,n,a,ss⟩:=s;have pp90d:=();exact pm90
theorem KnV.formOf {k:Bd} (h:KnV nM goodF goodT W kb mF mT nF nT k) (hx:x.length<=2000000) :
  ∃q:FQ,FormV nM W q.val (formOf k.fs x)/\fitF (formOf k.fs x)/\nodesF (formOf k.fs x)<=400/\gS (formOf k.fs x)=true/\qone (formOf k.fs x)=true/\∀ W',W'.heap[mF]?=W.heap[mF]?->(Instr.lookup 145 (.map (some mF)) (.string ⟨x.toArray⟩) false).run Tryz.prog W'=.ok q.val W':=by
 rcases h.fs.look Tryz.underlying9 Tryz.underlying145 ml hx with ⟨hg,hl⟩ | ⟨t,vt,hg,hvt,hl⟩
 ·have he:Go.Proofs.YtokemihbkeddoaaGreatDoor.formOf k.fs x=lg:=by unfold Go.Proofs.YtokemihbkeddoaaGreatDoor.formOf;rw[hg];rfl
  rw[he];exact ⟨⟨0,⟨#[]⟩,none,0,0,none,0,0⟩,mm,⟨by decide,by decide⟩,by decide,by decide,by decide,fun W' hW=>(hl W' hW).2⟩
 ·have he:Go.Proofs.YtokemihbkeddoaaGreatDoor.formOf k.fs x=t:=by unfold Go.Proofs.YtokemihbkeddoaaGreatDoor.formOf;rw[hg]
  obtain ⟨q,rfl,hq,hp⟩:=hvt;rw[he];exact ⟨q,hq,hp.fit,hp.nodes,hp.wf,hp.qone,fun W' hW=>(hl W' hW).2⟩
theorem Ii (k:Bd) (o:Int) (n:Str) (a:List Tm) (s:List Fm):gW k (.mk o n a s)=if o=15 then nodesF (formOf k.fs n)
  else if o=16 then nodesF (formOf k.fs n)+fG (aJ (.mk o n a s)).1 (formOf k.fs n) * (nodesT (termOf k.ts (aJ (.mk o n a s)).2) - 1)
  else eh k.ts a+1:=rfl
theorem Nk (nM:Nat->Prop) (kb mF mT nF nT:Nat) (k:Bd) (s:Fm) (hs:okF true s=true) (rI:nodesF s<=400) (ok:Nat->Prop) (w:World) (dZ:KnV nM goodF goodT w kb mF mT nF nT k) (q:PlQ) (hq:FormV ok w q.s.val s) :
  Calls Tryz.prog 126 #[.pointer (some ⟨kb,0,none⟩),q.val] w fun e w'=>e=.returned (.int .i64 (gW k s))/\Below w.heap.size w w':=by
 obtain ⟨o,n,a,ss⟩:=s;have pp90e:=();exact pm90
