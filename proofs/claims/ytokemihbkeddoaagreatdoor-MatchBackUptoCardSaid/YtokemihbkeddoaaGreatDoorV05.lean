/-
'lacksTerm' of package match.
-/
import Derived.Test.YtokemihbkeddoaaGreatDoorV04
namespace Go.Proofs.YtokemihbkeddoaaGreatDoor
open Go Go.RowKit Lib
set_option maxRecDepth 100000
set_option maxHeartbeats 64000000
variable {k:Bd} {ok oz:Nat->Prop} {W:World} {kb mF mT nF nT j b cap i:Nat} {x n:Str} {a:List Tm} {p:Pl} {l:List Str} {s:List Fm} {pr:Str->Bool} {g f:Fm} {c:Sco} {sc:Bool}
section
attribute [local go_sem] Oper.semAt_some
def R4 (pr:Tm->Bool) (fn:Nat) (kb:Nat) (W0:World) (t:Tm):Prop:=∀ (ok:Nat->Prop) (w:World) (q:TQ),Below W0.heap.size W0 w->TermV ok w q.val t →
 Calls Tryz.prog fn #[.pointer (some ⟨kb,0,none⟩),q.val] w fun e w'=>e=.returned (.bool (pr t))/\Below w.heap.size w w'
theorem L6 (pr:Tm->Bool) (l:List Tm) (hl:l.length<=2000000) (kb:Nat) (W0:World) (hp:∀ t∈l,R4 pr 193 kb W0 t) (ok:Nat->Prop) (w:World) (a:Option Addr) (n c:Nat) (hb:Below W0.heap.size W0 w) (hv:TermsV ok w (.slice a n c) l) :
  Calls Tryz.prog 243 #[.slice a n c,.func (.func 193) #[.pointer (some ⟨kb,0,none⟩)] #[]] w fun e w'=>(∃r:Int,e=.returned (.int .i64 r)/\(decide (0<=r)=l.any pr))/\Below w.heap.size w w':=by
 obtain rfl:=hv.len;have ⟨k0,cd⟩:=aj l.length;rw[<-cd]at hl hv;rw[<-cd];have ⟨HK,HV,HP,VH⟩:=eD cd hv hp hb;clear cd hv hp hb;go_enter Tryz.func243,Tryz.ntmps243;have qmW:=();exact qeQ
theorem th (pr:Tm->Bool) (l:List Tm) (hl:l.length<=2000000) (kb:Nat) (W0:World) (hp:∀ t∈l,R4 pr 193 kb W0 t) (ok:Nat->Prop) (w:World) (a:Option Addr) (n c:Nat) (hb:Below W0.heap.size W0 w) (hv:TermsV ok w (.slice a n c) l) :
  Calls Tryz.prog 192 #[.slice a n c,.func (.func 193) #[.pointer (some ⟨kb,0,none⟩)] #[]] w fun e w'=>e=.returned (.bool (l.any pr))/\Below w.heap.size w w':=by
 have CC:=L6 pr l hl kb W0 hp ok w a n c hb hv;have ⟨B,hB⟩:=aj (l.any pr);rw[<-hB]at CC ⊢;have HC:=ab CC;clear CC hv hb hB hp;go_enter Tryz.func192,Tryz.ntmps192;go_wp2_with (go_at_call 243;refine HC.o.mono ?_;rintro e w4 ⟨⟨r,rfl,hr⟩,aR⟩;have H4:=aA hr aR;clear hr aR);exact qcf
theorem rt (k:List (Str×Tm)):∀ l,jQ k l=l.any (iS k)
 | []=>rfl
 | t :: l=>by simp only[jQ,List.any_cons,rt k l]
theorem EA (W0:World) (PF:Fm->Prop) (PT:Tm->Prop) (oz:Nat->Prop) (kb mF mT nF nT:Nat) (k:Bd) (d_:KnV oz PF PT W0 kb mF mT nF nT k):∀ t,fitT t->R4 (iS k.ts) 193 kb W0 t:=by
 have KZ:=ab d_;clear d_;have qmX:=();exact qav
theorem Fy {α:Type} {l:List (Str×α)} {k:Nat} (h:k<l.length) (n:Str):getB (l.drop k) n=if l[k].1 == n then some l[k].2 else getB (l.drop (k+1)) n:=by
 rw[gB h];rfl
def Jz:Tm:=.mk false [] []
theorem mO:FormV ok W (FQ.val ⟨0,⟨#[]⟩,none,0,0,none,0,0⟩) jq:=aQ.2 ⟨_,_,rfl,cm,f8⟩
theorem Fz:TermV ok W (TQ.val ⟨false,⟨#[]⟩,none,0,0⟩) Jz:=aM.2 ⟨_,rfl,cm⟩
theorem FA (b:Bd) (hF:b.fs.length<=1000000) (ar:∀ x∈b.fs,fitF x.2) (n:Str) (ok:Nat->Prop) (w:World) (q:BQ) (hq:BindV ok w q b) :
  Calls Tryz.prog 16 #[q.val,.string ⟨n.toArray⟩] w fun e w'=>(∃p:FQ,e=.returned (.tuple #[p.val,.bool (getB b.fs n).isSome])/\FormV (w.heap.size<=·) w' p.val ((getB b.fs n).getD jq))/\Below w.heap.size w w':=by
 have qmY:=();exact qcg
theorem FB (b:Bd) (hF:b.ts.length<=1000000) (ar:∀ x∈b.ts,fitT x.2) (n:Str) (ok:Nat->Prop) (w:World) (q:BQ) (hq:BindV ok w q b) :
  Calls Tryz.prog 18 #[q.val,.string ⟨n.toArray⟩] w fun e w'=>(∃p:TQ,e=.returned (.tuple #[p.val,.bool (getB b.ts n).isSome])/\TermV (w.heap.size<=·) w' p.val ((getB b.ts n).getD Jz))/\Below w.heap.size w w':=by
 have qmZ:=();exact qcg
theorem KnV.termOf (h:KnV oz goodF goodT W kb mF mT nF nT k) (hx:x.length<=2000000) :
  ∃q:TQ,TermV oz W q.val (termOf k.ts x)/\fitT (termOf k.ts x)/\nodesT (termOf k.ts x)<=1000/\jJ 17 (termOf k.ts x)=true/\jL (termOf k.ts x)=true/\∀ W',W'.heap[mT]?=W.heap[mT]?->(Instr.lookup 146 (.map (some mT)) (.string ⟨x.toArray⟩) false).run Tryz.prog W'=.ok q.val W':=by
 rcases h.ts.look Tryz.underlying9 Tryz.underlying146 kg hx with ⟨hg,hl⟩ | ⟨t,vt,hg,hvt,hl⟩
 ·have he:Go.Proofs.YtokemihbkeddoaaGreatDoor.termOf k.ts x=Jz:=by unfold Go.Proofs.YtokemihbkeddoaaGreatDoor.termOf;rw[hg];rfl
  rw[he];exact ⟨⟨false,⟨#[]⟩,none,0,0⟩,Fz,⟨by decide,by decide⟩,by decide,by decide,by decide,fun W' hW=>(hl W' hW).2⟩
 ·have he:Go.Proofs.YtokemihbkeddoaaGreatDoor.termOf k.ts x=t:=by unfold Go.Proofs.YtokemihbkeddoaaGreatDoor.termOf;rw[hg]
  obtain ⟨q,rfl,hq,hp⟩:=hvt;rw[he];exact ⟨q,hq,hp.fit,hp.2,hp.nm,by rw[<-Fq];exact Bn _ hp.1,fun W' hW=>(hl W' hW).2⟩
theorem lr (h:KnV oz goodF goodT W kb mF mT nF nT k) (hx:x.length<=2000000):nodesT (termOf k.ts x)<=1000:=by
 obtain ⟨q,_,_,h1,_⟩:=h.termOf hx;exact h1
theorem R5 {k:List (Str×Tm)} (hk:∀ x:Str,x.length<=2000000->nodesT (termOf k x)<=1000):∀ t:Tm,jJ 2000000 t=true->qR k t<=nodesT t * 1000:=by
 have qm0:=();exact qav
theorem ru {k:List (Str×Tm)}:∀ {a:List Tm} {j:Nat} (h:j<a.length),ew k (a.take (j+1))=ew k (a.take j)+qR k a[j]
 | t :: a,0,_=>by simp[ew]
 | t :: a,j+1,h=>by
  have:=ru (k:=k) (a:=a) (j:=j) (by simpa using h);simp only[List.take_succ_cons,ew,this,List.getElem_cons_succ];omega
theorem gN {j:Nat}:nodesTs (a.take j)<=nodesTs a:=by
 induction a generalizing j with
 | nil=>simp
 | cons t a ih=>
  cases j with
  | zero=>simp[nodesTs]
  | succ j=>have:=ih (j:=j);simp only[List.take_succ_cons,nodesTs];omega
theorem sh {k:List (Str×Tm)} (hk:∀ x:Str,x.length<=2000000->nodesT (termOf k x)<=1000):∀ a:List Tm,nmTs 2000000 a=true->ew k a<=nodesTs a * 1000
 | [],_=>by simp[ew]
 | t :: a,h=>by
  simp only[nmTs,ae]at h;have h1:=R5 hk t h.1;have h2:=sh hk a h.2;simp only[ew,nodesTs];omega
theorem si {p:Nat} (h:nmTs p a=true) (j:Nat):nmTs p (a.take j)=true:=fP.2 fun t ht=>fP.1 h t (List.mem_of_mem_take ht)
def _k (k:List (Str×Tm)) (kb:Nat) (W0:World) (t:Tm):Prop:=∀ (ok:Nat->Prop) (w:World) (q:TQ),Below W0.heap.size W0 w->TermV ok w q.val t →
 Calls Tryz.prog 197 #[.pointer (some ⟨kb,0,none⟩),q.val] w fun e w'=>e=.returned (.int .i64 (qR k t))/\Below w.heap.size w w'
theorem GX (W0:World) (oz:Nat->Prop) (kb mF mT nF nT:Nat) (k:Bd) (d_:KnV oz goodF goodT W0 kb mF mT nF nT k):∀ t,fitT t->_k k.ts kb W0 t:=by
 have Va:=ab (fun x hx=>lr d_ (x:=x) hx);have KZ:=ab d_;clear d_;have qm1:=();exact qav
theorem fX (f:Fm) (bW:2<=f.a.length) (qI:f.a.length<=2000000) (hx:∀ t∈f.a,(match t with | .mk _ n _=>n).length<=2000000) (ok:Nat->Prop) (w:World) (q:FQ) (hq:FormV ok w q.val f) :
  Calls Tryz.prog 96 #[q.val] w fun e w'=>e=.returned (.tuple #[.string ⟨(aU f).1.toArray⟩,.string ⟨(aU f).2.toArray⟩])/\Below w.heap.size w w':=by
 obtain ⟨fo,fn,fa,fs⟩:=f;obtain ⟨v1,v2,h1,iu,lU⟩:=aQ.1 hq;obtain ⟨qo,qn,qa,ql,qc,qb,qm,qe⟩:=q;simp only[FQ.val,cr,Array.mk.injEq,bP,and_true,Value.int.injEq,true_and,Value.string.injEq]at h1;obtain ⟨rfl,rfl,rfl,rfl⟩:=h1;simp only[Fm.a]at bW hx qI
 match fa,bW,qI,hx,iu with
 | ⟨xv,x,xa⟩ :: ⟨yv,y,ya⟩ :: r,bW,qI,hx,iu=>
 have hql:=iu.len;obtain ⟨b1,o1,⟨u0,u1,u2,u3,u4⟩,rfl,hok,hu,c0,c1,c2⟩:=iu.get (j:=0) (by simp);obtain ⟨b2,o2,⟨z0,z1,z2,z3,z4⟩,cZ,_,hz,d0,d1,d2⟩:=iu.get (j:=1) (by simp);injection cZ with cZ;injection cZ with hb1 bG;subst hb1 bG;obtain ⟨s1,h2,_⟩:=aM.1 hu;obtain ⟨s2,h3,_⟩:=aM.1 hz;simp only[TQ.val,cr,Array.mk.injEq,bP,and_true,Value.bool.injEq,Value.string.injEq]at h2 h3;obtain ⟨rfl,rfl,rfl⟩:=h2;obtain ⟨rfl,rfl,rfl⟩:=h3;simp only at c1 d1;have z_:x.length<=1000000000:=by have:=hx (.mk u0 x xa) (by simp);simp only at this;omega
 have Il:2<=ql:=by rw[hql];exact bW
 have hI:aU (.mk qo fn (.mk u0 x xa :: .mk z0 y ya :: r) fs)=(bI x,y):=rfl;rw[hI];have ⟨W2,aZ⟩:=aj (w.alloc (.cells #[.int .u8 qo,.string ⟨fn.toArray⟩,.slice (some ⟨b1,o1,none⟩) ql qc,.slice qb qm qe] 36));have bG:=cM aZ;have x2:=bS aZ;have qm2:=();exact qag
end
theorem Aj (x:Str) {l:List Tm} {k:Nat} (h:k<l.length):eM x (l.take (k+1))=eM x (l.take k)+uX x l[k]:=by
 induction l generalizing k with
 | nil=>simp at h
 | cons t l ih=>
  cases k with
  | zero=>simp[eM]
  | succ k=>have:=ih (k:=k) (by simpa using h);simp[eM]at this ⊢;omega
theorem Ak (x:Str) {l:List Fm} {k:Nat} (h:k<l.length):iq x (l.take (k+1))=iq x (l.take k)+ea x l[k]:=by
 induction l generalizing k with
 | nil=>simp at h
 | cons t l ih=>
  cases k with
  | zero=>simp[iq]
  | succ k=>have:=ih (k:=k) (by simpa using h);simp[iq]at this ⊢;omega
mutual
theorem VI (x:Str):∀ t,uX x t<=nodesT t
 | .mk v n a=>by have:=rv x a;unfold uX nodesT;split <;> omega
theorem rv (x:Str):∀ l,eM x l<=nodesTs l
 | []=>by simp[eM]
 | t :: l=>by have:=VI x t;have:=rv x l;simp[eM,nodesTs];omega
end
mutual
theorem pM (x:Str):∀ t,ea x t<=nodesF t
 | .mk o n a s=>by have:=rv x a;have:=wl x s;unfold ea nodesF;omega
theorem wl (x:Str):∀ l,iq x l<=nodesFs l
 | []=>by simp[iq]
 | t :: l=>by have:=pM x t;have:=wl x l;simp[iq,nodesFs];omega
end
def VJ (x:Str) (l:List Tm):Prop:=∀ (ok:Nat->Prop) (w:World) (a:Option Addr) (n c:Nat),fitTs l->TermsV ok w (.slice a n c) l →
 Calls Tryz.prog 164 #[.slice a n c,.string ⟨x.toArray⟩] w fun e w'=>e=.returned (.int .i64 (eM x l))/\Below w.heap.size w w'
theorem NI (x:Str) (l:List Tm) (ih:∀ t∈l,VJ x t.a):VJ x l:=by
 intro ok w a n c ar hl;obtain rfl:=hl.len;have bW:=ar.len;have nO:=rv x l;have mt:=ar.1;have qm3:=();exact qeR
theorem R6 (x:Str):∀ t:Tm,VJ x t.a:=by
 intro t
 induction t using Tm.ind with
 | h v n a ih=>exact NI x a ih
theorem sP (x:Str) (l:List Tm):VJ x l:=NI x l (fun t _=>R6 x t)
theorem jV (x:Str):∀ (f:Fm),fitF f->∀ (ok:Nat->Prop) (w:World) (q:FQ),FormV ok w q.val f →
  Calls Tryz.prog 97 #[q.val,.string ⟨x.toArray⟩] w fun e w'=>e=.returned (.int .i64 (ea x f))/\Below w.heap.size w w':=by
 intro t
 induction t using Fm.ind with
 | h o n a s ih=>
  intro ar ok w q hq;have qm4:=();exact qas
section
attribute [local go_sem] Oper.semAt_some
theorem kh (hs:okF true (.mk 16 n a s)=true):∃x y:Str,a=[aP x,aP y]/\fH x=true/\cX y=true/\aU (.mk 16 n a s)=(bI x,y):=by
 have hp:PlOk ⟨.mk 16 n a s,.mk 2 [] [] [],[]⟩:=⟨hs,show okF false (.mk 2 [] [] [])=true by decide,fun x h=>by simp at h,show nodesF (.mk 2 [] [] [])<=400 by decide,show depthF (.mk 2 [] [] [])<=40 by decide⟩;exact lk hp rfl
theorem O5 (k:Bd) (o:Int) (n:Str) (a:List Tm) (s:List Fm):jv k (.mk o n a s)=if (o != 15 && o != 16)=true then a.any (iS k.ts) else match getB k.fs n with
  | none=>true
  | some f=>if o=15 then false else (getB k.ts (aU (.mk o n a s)).2).isNone && decide (ea (aU (.mk o n a s)).1 f > 0):=by
 rw[<-rt];rfl
theorem O6 (oz:Nat->Prop) (kb mF mT nF nT:Nat) (k:Bd) (s:Fm) (hs:okF true s=true) (sf:nodesF s<=400) (ok:Nat->Prop) (w:World) (d_:KnV oz goodF goodT w kb mF mT nF nT k) (q:PlQ) (hq:FormV ok w q.s.val s) :
  Calls Tryz.prog 124 #[.pointer (some ⟨kb,0,none⟩),q.val] w fun e w'=>e=.returned (.bool (jv k s))/\Below w.heap.size w w':=by
 obtain ⟨o,n,a,ss⟩:=s;have qm5:=();exact qaj
theorem KnV.formOf (h:KnV oz goodF goodT W kb mF mT nF nT k) (hx:x.length<=2000000) :
  ∃q:FQ,FormV oz W q.val (formOf k.fs x)/\fitF (formOf k.fs x)/\nodesF (formOf k.fs x)<=400/\gS (formOf k.fs x)=true/\qone (formOf k.fs x)=true/\∀ W',W'.heap[mF]?=W.heap[mF]?->(Instr.lookup 145 (.map (some mF)) (.string ⟨x.toArray⟩) false).run Tryz.prog W'=.ok q.val W':=by
 rcases h.fs.look Tryz.underlying9 Tryz.underlying145 mN hx with ⟨hg,hl⟩ | ⟨t,vt,hg,hvt,hl⟩
 ·have he:Go.Proofs.YtokemihbkeddoaaGreatDoor.formOf k.fs x=jq:=by unfold Go.Proofs.YtokemihbkeddoaaGreatDoor.formOf;rw[hg];rfl
  rw[he];exact ⟨⟨0,⟨#[]⟩,none,0,0,none,0,0⟩,mO,⟨by decide,by decide⟩,by decide,by decide,by decide,fun W' hW=>(hl W' hW).2⟩
 ·have he:Go.Proofs.YtokemihbkeddoaaGreatDoor.formOf k.fs x=t:=by unfold Go.Proofs.YtokemihbkeddoaaGreatDoor.formOf;rw[hg]
  obtain ⟨q,rfl,hq,hp⟩:=hvt;rw[he];exact ⟨q,hq,hp.fit,hp.nodes,hp.wf,hp.qone,fun W' hW=>(hl W' hW).2⟩
theorem JC (k:Bd) (o:Int) (n:Str) (a:List Tm) (s:List Fm):mj k (.mk o n a s)=if o=15 then nodesF (formOf k.fs n)
  else if o=16 then nodesF (formOf k.fs n)+ea (aU (.mk o n a s)).1 (formOf k.fs n) * (nodesT (termOf k.ts (aU (.mk o n a s)).2) - 1)
  else ew k.ts a+1:=rfl
theorem O8 (oz:Nat->Prop) (kb mF mT nF nT:Nat) (k:Bd) (s:Fm) (hs:okF true s=true) (sf:nodesF s<=400) (ok:Nat->Prop) (w:World) (d_:KnV oz goodF goodT w kb mF mT nF nT k) (q:PlQ) (hq:FormV ok w q.s.val s) :
  Calls Tryz.prog 126 #[.pointer (some ⟨kb,0,none⟩),q.val] w fun e w'=>e=.returned (.int .i64 (mj k s))/\Below w.heap.size w w':=by
 obtain ⟨o,n,a,ss⟩:=s;have qm6:=();exact qaj
theorem pN (k:List (Str×Tm)) (c:List Str):∀ l,dZ k c l=l.map (da k c)
 | []=>rfl
 | t :: l=>by simp[dZ,pN k c l]
def zbu (kd:List (Str×Tm)) (sc:List Str) (vL:Value) (kb:Nat) (W0:World) (t:Tm):Prop:=∀ (ok:Nat->Prop) (w:World) (q:TQ),Below W0.heap.size W0 w->TermV ok w q.val t →
 Calls Tryz.prog 127 #[.pointer (some ⟨kb,0,none⟩),q.val,vL] w fun e w'=>(∃p:TQ,e=.returned p.val/\TermV (w.heap.size<=·) w' p.val (da kd sc t))/\Below w.heap.size w w'
theorem G0 (W0:World) (oz:Nat->Prop) (kb mF mT nF nT:Nat) (kd:Bd) (d_:KnV oz goodF goodT W0 kb mF mT nF nT kd) (okl:Nat->Prop) (vL:Value) (L sc:List Str) (hL:StrsO okl W0 vL L) (VK:L.length<=2000000) (Sc:∀ y,L.contains y=sc.contains y):∀ t,fitT t->zbu kd.ts sc vL kb W0 t:=by
 obtain ⟨qJ,hi,Ar,xP,AT⟩:=info_parts gH;have KZ:=ab d_;have HLk:=ab (fun (W:World) (h:Below W0.heap.size W0 W) (y:Str)=>(Sc y) ▸ fT L VK y _ W vL (hL.later h));clear d_ hL VK Sc;intro t
 induction t using Tm.ind with
 | h v n a ih=>
  intro ar ok w q cZ hq;exact qaF
def PredS (pr:Str->Bool) (g:Nat) (lb:Array Value) (l:List Str) (C:World->Prop):Prop:=∀ x W,x∈l->C W->Calls Tryz.prog g (#[.string ⟨x.toArray⟩] ++ lb) W fun e w'=>e=.returned (.bool (pr x))/\Below W.heap.size W w'
theorem PredS.mono {g:Nat} {lb:Array Value} {C C':World->Prop} (h:PredS pr g lb l C) (hC:∀ W,C' W->C W):PredS pr g lb l C':=fun x W hx hW=>h x W hx (hC W hW)
theorem _p {k:Nat} (hk:k<l.length) (gV:∀ t∈l.take k,pr t=false) (hq:pr l[k]=false):∀ t∈l.take (k+1),pr t=false:=by
 intro t hm;rw[List.take_add_one,io hk]at hm;rcases List.mem_append.1 hm with h | h
 ·exact gV t h
 ·obtain rfl:t=l[k]:=by simpa using h
  exact hq
theorem Cc (pr:Str->Bool) (l:List Str) (hl:l.length<=2000000) (g:Nat) (lb:Array Value) (eg:∀ args W,(callFunc g args).run Tryz.prog W=.ok (.enter g args) W) (ok:Nat->Prop) (w:World) (v:Value) (hp:PredS pr g lb l (Below w.heap.size w)) (hv:StrsO ok w v l) :
  Calls Tryz.prog 244 #[v,.func (.func g) #[] lb] w fun e w'=>((e=.returned (.int .i64 (-1))/\∀ x∈l,pr x=false)\/∃(k:Nat) (x:Str),l[k]?=some x/\e=.returned (.int .i64 (k:Int))/\pr x=true/\∀ x∈l.take k,pr x=false)/\Below w.heap.size w w':=by
 obtain ⟨a,c,rfl⟩:=hv.slice;have ⟨k0,cd⟩:=aj l.length;rw[<-cd]at hl hv;rw[<-cd];have ⟨HK,HV,HP⟩:=cE cd hv hp;clear cd hv hp;go_enter Tryz.func244,Tryz.ntmps244;exact qeQ
theorem EC (pr:Str->Bool) (l:List Str) (hl:l.length<=2000000) (g:Nat) (lb:Array Value) (eg:∀ args W,(callFunc g args).run Tryz.prog W=.ok (.enter g args) W) (ok:Nat->Prop) (w:World) (v:Value) (hp:PredS pr g lb l (Below w.heap.size w)) (hv:StrsO ok w v l) :
  Calls Tryz.prog 194 #[v,.func (.func g) #[] lb] w fun e w'=>e=.returned (.bool (l.any pr))/\Below w.heap.size w w':=by
 have CC:Calls Tryz.prog 244 #[v,.func (.func g) #[] lb] w fun e w'=>∃r:Int,e=.returned (.int .i64 r)/\decide (0<=r)=l.any pr/\Below w.heap.size w w':=(Cc pr l hl g lb eg ok w v hp hv).mono (by
  rintro e w' ⟨⟨rfl,h⟩ | ⟨k,x,hk,rfl,h,_⟩,hb⟩
  ·refine ⟨-1,rfl,?_,hb⟩
   symm
   rw[show decide ((0:Int)<=-1)=false from rfl,List.any_eq_false];intro x hx;rw[h x hx];simp
  ·refine ⟨k,rfl,?_,hb⟩;rw[show decide ((0:Int)<=(k:Int))=true by simp]
   symm
   exact List.any_eq_true.2 ⟨_,List.mem_of_getElem? hk,h⟩)
 obtain ⟨a,c,rfl⟩:=hv.slice;have ⟨B,hB⟩:=aj (l.any pr);rw[<-hB]at CC ⊢;have HC:=ab CC;clear CC hv hB hp;go_enter Tryz.func194,Tryz.ntmps194;go_wp2_with (go_at_call 244;refine HC.o.mono ?_;rintro e w4 ⟨r,rfl,hr,aR⟩;have H4:=aA hr aR;clear hr aR);exact qcf
def DelR (keep:Str->Bool) (l:List Str) (b cap i j:Nat) (W:World):Prop:=∃cur:Array Value,W.heap[b]?=some (.cells cur 9 (0,0))/\cur.size=cap * 1/\cur.toList.take i=((l.take j).filter keep).map encStr/\i=((l.take j).filter keep).length/\∀ q (h:q<l.length),j<=q->cur[q]?=some (encStr l[q])
theorem DelR.later {keep:Str->Bool} {W':World} (h:DelR keep l b cap i j W) (hb:Below W.heap.size W W'):DelR keep l b cap i j W':=by
 obtain ⟨cur,h1,h2⟩:=h;exact ⟨cur,(hb.block b (bA h1)).trans h1,h2⟩
theorem DelR.drop {keep:Str->Bool} (h:DelR keep l b cap i j W) (hj:j<l.length) (hk:keep l[j]=false):DelR keep l b cap i (j+1) W:=by
 obtain ⟨cur,h1,h2,h3,h4,h5⟩:=h;have e:(l.take (j+1)).filter keep=(l.take j).filter keep:=by
  rw[List.take_add_one,io hj,List.filter_append];simp only[Option.toList_some,List.filter_cons,List.filter_nil,hk,bO,if_false,List.append_nil]
 exact ⟨cur,h1,h2,by rw[e];exact h3,by rw[e];exact h4,fun q h hq=>h5 q h (by omega)⟩
theorem DelR.keep {keep:Str->Bool} (h:DelR keep l b cap i j W) (hj:j<l.length) (hc:l.length<=cap) (hij:i<=j) (hk:keep l[j]=true):DelR keep l b cap (i+1) (j+1) (W.setCell ⟨b,i,none⟩ (.string ⟨l[j].toArray⟩)):=by
 obtain ⟨cur,h1,h2,h3,h4,h5⟩:=h;have e:(l.take (j+1)).filter keep=(l.take j).filter keep ++ [l[j]]:=by
  rw[List.take_add_one,io hj,List.filter_append];simp only[Option.toList_some,List.filter_cons,List.filter_nil,hk,if_true]
 refine ⟨cur.setIfInBounds i (.string ⟨l[j].toArray⟩),bp h1 _,by simpa using h2,?_,by rw[e];simpa using h4,fun q h hq=>?_⟩
 ·rw[e,List.map_append,<-h3,Array.toList_setIfInBounds];rw[List.take_add_one];simp only[List.getElem?_set_self (show i<cur.toList.length by simp;omega),Option.toList_some];rw[List.take_set_of_le (aC i)];rfl
 ·rw[Array.getElem?_setIfInBounds_ne (by omega)];exact h5 q h (by omega)
theorem zD (b:Nat):∀ (vs:List Value) (o:Nat) (W:World),Kp (fun c=>c=b) W (W.setCells b o vs)
 | [],o,W=>Kp.refl W
 | v :: r,o,W=>by
  have h1:Kp (fun c=>c=b) W (W.setCell ⟨b,o,none⟩ v):=⟨rfl,rfl,rfl,by simp,fun c _ hc=>eC _ _ _ _ (by simpa using hc)⟩;exact h1.trans (zD b r (o+1) _)
theorem zE (b:Nat) (T:TypeId):∀ (vs:List Value) (o:Nat) (W:World) (cur:Array Value),W.heap[b]?=some (.cells cur T (0,0))->∃_q,(W.setCells b o vs).heap[b]?=some (.cells _q T (0,0))/\_q.size=cur.size/\_q.toList.take o=cur.toList.take o
 | [],o,W,cur,h=>⟨cur,h,rfl,rfl⟩
 | v :: r,o,W,cur,h=>by
  obtain ⟨c2,h1,h2,h3⟩:=zE b T r (o+1) (W.setCell ⟨b,o,none⟩ v) _ (bp h v);refine ⟨c2,h1,by simpa using h2,?_⟩;have e:=congrArg (List.take o) h3;rw[List.take_take,List.take_take,Nat.min_eq_left (by omega)]at e;rw[e,Array.toList_setIfInBounds,List.take_set_of_le (aC o)]
theorem DelR.start {keep:Str->Bool} {k:Nat} {cur:Array Value} (hb:W.heap[b]?=some (.cells cur 9 (0,0))) (hs:cur.size=cap * 1) (ht:cur.toList.take (l.length * 1)=l.map encStr) (hk:k<l.length) (gV:∀ x∈l.take k,keep x=true):DelR keep l b cap k k W:=by
 have hf:(l.take k).filter keep=l.take k:=List.filter_eq_self.2 gV;refine ⟨cur,hb,hs,?_,by rw[hf,dS];omega,fun q h hq=>?_⟩
 ·rw[hf,List.map_take,<-ht,List.take_take];congr 1;omega
 ·have:=congrArg (fun m=>m[q]?) ht;simp only[Nat.mul_one,List.getElem?_map,io h,Option.map_some,List.getElem?_take,aw h,Array.getElem?_toList]at this;exact this
theorem DelR.done {keep:Str->Bool} {lo:Nat} (h:DelR keep l b cap i l.length W) (hlo:lo<=b) (hc:l.length<=cap) (OT:i<=l.length) (hcm:cap<=maxLen) (vs:List Value):OwnS lo (W.setCells b i vs) (.slice (some ⟨b,0,none⟩) i cap) (l.filter keep):=by
 obtain ⟨cur,h1,h2,h3,h4,_⟩:=h;rw[cK]at h3 h4;obtain ⟨c2,g1,g2,g3⟩:=zE b _ vs i W cur h1;unfold OwnS;rw[<-h4];refine ⟨by simp[h4],.inr ⟨b,cap,c2,rfl,hlo,g1,by omega,hcm,by rw[g2];exact h2,?_⟩⟩;rw[Nat.mul_one,g3,h3]
theorem zF (pr:Str->Bool) (l:List Str) (hl:l.length<=2000000) (g:Nat) (lb:Array Value) (eg:∀ args W,(callFunc g args).run Tryz.prog W=.ok (.enter g args) W) (lo:Nat) (w:World) (v:Value) (hp:PredS pr g lb l (Kp (fun c=>lo<=c/\v.ownBlock=some c) w)) (hv:OwnS lo w v l) :
  Calls Tryz.prog 246 #[v,.func (.func g) #[] lb] w fun e w'=>(∃v',e=.returned v'/\OwnS lo w' v' (l.filter fun x=>!pr x))/\Kp (fun c=>lo<=c/\v.ownBlock=some c) w w':=by
 have CI:=Cc pr l hl g lb eg _ w v (hp.mono fun W h=>Kp.below h) hv.strs;rcases hv.2 with ⟨rfl,h0⟩ | ⟨b,cap,cur,rfl,hlo,hb,hc,hcm,hcs,ht⟩
 ·obtain rfl:l=[]:=j6 h0;have HC:=ab CI;clear CI hp hv;have qm7:=();exact qch
 ·by_cases eJ:∀ x∈l,pr x=false
  ·have HC:=ab (CI.mono (fun e w' h=>(⟨h.1.elim (fun h=>h.1) (fun ⟨k,x,hk,_,hx,_⟩=>absurd (eJ x (List.mem_of_getElem? hk)) (by simp[hx])),h.2⟩:e=.returned (.int .i64 (-1))/\Below w.heap.size w w')));have HR:=ab hv;have HE:=ab (show (l.filter fun x=>!pr x)=l from List.filter_eq_self.2 (fun x hx=>by rw[eJ x hx];rfl));clear CI hp hv eJ hb hcs ht;have qm8:=();exact qch
  ·have CJ:=CI.mono (fun e w' h=>(⟨h.1.elim (fun h=>absurd h.2 eJ) id,h.2⟩:(∃(k:Nat) (x:Str),l[k]?=some x/\e=.returned (.int .i64 (k:Int))/\pr x=true/\∀ x∈l.take k,pr x=false)/\Below w.heap.size w w'));have ⟨n,hn⟩:=aj l.length;have HB:=bx hb hcs ht;have ⟨HN,HP⟩:=aS hn hp;rw[<-hn]at hl hc CJ ⊢;have HC:=ab CJ;have t7:=bx hcm hlo hc;clear CI CJ hp hv eJ hb hcs ht hn hcm;exact qch
theorem ED:∀ args W,(callFunc 275 args).run Tryz.prog W=.ok (.enter 275 args) W:=enters_of Tryz.func275 (by kernel_rfl) rfl
theorem JE (l:List Str) (o8:∀ x∈l,x.length<=2000000) (C:World->Prop):PredS (fun x=>!ct x) 275 #[] l C:=by
 intro n W hx _;have hn:=o8 n hx;have CP:=ab (ky n W (by omega));have ⟨b,hb⟩:=aj (ct n);simp only[<-hb]at CP ⊢;clear hb o8 hx;go_enter Tryz.func275,Tryz.ntmps275;go_wp2_with (go_at_call 123;refine CP.o.mono ?_;rintro e w' ⟨rfl,hb⟩;have HB:=ab hb;clear hb);go_ret;exact ⟨rfl,HB.o⟩
theorem sj (l:List Str) (hl:l.length<=2000000) (o8:∀ x∈l,x.length<=2000000) (lo:Nat) (w:World) (v:Value) (hv:OwnS lo w v l) :
  Calls Tryz.prog 245 #[v] w fun e w'=>(∃v',e=.returned v'/\OwnS lo w' v' (l.filter ct))/\Kp (fun c=>lo<=c/\v.ownBlock=some c) w w':=by
 have CC:=zF (fun x=>!ct x) l hl 275 #[] ED lo w v (JE l o8 _) hv;simp only[Bool.not_not]at CC;obtain ⟨a,c,hac⟩:=hv.strs.slice;rw[hac]at CC ⊢;have HC:=ab CC;clear CC hv o8 hac;go_enter Tryz.func245,Tryz.ntmps245;go_wp2_with (go_at_call 246;refine HC.o.mono ?_;rintro e w' ⟨⟨v',rfl,hv'⟩,hk⟩;have H4:=aA hv' hk;clear hv' hk);go_ret;exact ⟨⟨_,rfl,H4.o.1⟩,H4.o.2⟩
theorem lO {w X Y:World} {v:Value} (h:Below w.heap.size w X) (k:Kp (fun c=>w.heap.size<=c/\v.ownBlock=some c) X Y):Below w.heap.size w Y:=
 ⟨k.os.trans h.os,k.tape.trans h.tape,k.output.trans h.output,aN h.size k.size,fun b hb=>(k.same b (bJ hb h.size) (fun hc=>by omega)).trans (h.block b hb)⟩
theorem O9 {k:List (Str×Tm)} (hk:∀ x:Str,x.length<=2000000->nodesT (termOf k x)<=1000):∀ t:Tm,jJ 2000000 t=true->(lh k t).length<=nodesT t * 1000:=by
 have qm9:=();exact qav
theorem pO {k:List (Str×Tm)}:∀ {a:List Tm} {j:Nat} (h:j<a.length),dX k (a.take (j+1))=dX k (a.take j) ++ lh k a[j]
 | t :: a,0,_=>by simp[dX]
 | t :: a,j+1,h=>by
  have:=pO (k:=k) (a:=a) (j:=j) (by simpa using h);simp only[List.take_succ_cons,dX,this,List.getElem_cons_succ,List.append_assoc]
theorem pP {k:List (Str×Tm)} (hk:∀ x:Str,x.length<=2000000->nodesT (termOf k x)<=1000):∀ a:List Tm,nmTs 2000000 a=true->(dX k a).length<=nodesTs a * 1000
 | [],_=>by simp[dX]
 | t :: a,h=>by
  simp only[nmTs,ae]at h;have h1:=O9 hk t h.1;have h2:=pP hk a h.2;simp only[dX,nodesTs,cU];omega
theorem uh {t:Tm} (h:t∈a):nodesT t<=nodesTs a:=by
 induction a with
 | nil=>cases h
 | cons u a ih=>
  simp only[nodesTs];exact qbe
def _r (k:List (Str×Tm)) (kb:Nat) (W0:World) (t:Tm):Prop:=∀ (ok:Nat->Prop) (w:World) (q:TQ),Below W0.heap.size W0 w->TermV ok w q.val t →
 Calls Tryz.prog 248 #[.pointer (some ⟨kb,0,none⟩),q.val] w fun e w'=>(∃v,e=.returned v/\OwnS w.heap.size w' v (lh k t))/\Below w.heap.size w w'
theorem EE (W0:World) (oz:Nat->Prop) (kb mF mT nF nT:Nat) (k:Bd) (d_:KnV oz goodF goodT W0 kb mF mT nF nT k):∀ t,fitT t->nodesT t<=1000->_r k.ts kb W0 t:=by
 have Va:=ab (fun x hx=>lr d_ (x:=x) hx);have KZ:=ab d_;clear d_;have qna:=();exact qav
theorem yt (k:Bd) (o:Int) (n:Str) (a:List Tm) (s:List Fm):qQ k (.mk o n a s)=if o=15 then (di (aL [] (formOf k.fs n))).filter ct
  else if o=16 then
   (let l:=(di (aL [] (formOf k.fs n))).filter ct
   if !l.contains (aU (.mk o n a s)).1 then l else l.filter (fun x=>x != (aU (.mk o n a s)).1) ++ (di (aE (termOf k.ts (aU (.mk o n a s)).2))).filter ct)
  else dX k.ts a:=rfl
theorem Ce:∀ args W,(callFunc 247 args).run Tryz.prog W=.ok (.enter 247 args) W:=enters_of Tryz.func247 (by kernel_rfl) rfl
theorem JF (x n:Str) (X:Nat) (w:World) (hX:w.cell? ⟨X,0,none⟩=some (.string ⟨n.toArray⟩)) :
  Calls Tryz.prog 247 #[.string ⟨x.toArray⟩,.pointer (some ⟨X,0,none⟩)] w fun e w'=>e=.returned (.bool (x == n))/\Below w.heap.size w w':=by
 go_enter Tryz.func247,Tryz.ntmps247;exact qat
theorem L_ (oz:Nat->Prop) (kb mF mT nF nT:Nat) (k:Bd) (s:Fm) (hs:okF true s=true) (sf:nodesF s<=400) (ok:Nat->Prop) (w:World) (d_:KnV oz goodF goodT w kb mF mT nF nT k) (q:PlQ) (hq:FormV ok w q.s.val s) :
  Calls Tryz.prog 195 #[.pointer (some ⟨kb,0,none⟩),q.val] w fun e w'=>(∃v,e=.returned v/\OwnS w.heap.size w' v (qQ k s))/\Below w.heap.size w w':=by
 obtain ⟨o,n,a,ss⟩:=s;have qnb:=();exact qaj
mutual
theorem JH (k:List (Str×Tm)):∀ t,∀ x∈lh k t,ct x=true
 | .mk v n a=>fun x hx=>by
  unfold lh at hx;split at hx
  ·exact (List.mem_filter.1 hx).2
  ·exact pQ k a x hx
theorem pQ (k:List (Str×Tm)):∀ l,∀ x∈dX k l,ct x=true
 | []=>fun x hx=>by simp[dX]at hx
 | t :: l=>fun x hx=>by
  simp only[dX,List.mem_append]at hx;exact hx.elim (JH k t x) (pQ k l x)
end
theorem JI (k:Bd) (s:Fm):∀ x∈qQ k s,ct x=true:=by
 obtain ⟨o,n,a,ss⟩:=s;intro x hx;rw[yt]at hx;split at hx
 ·exact (List.mem_filter.1 hx).2
 ·split at hx
  ·simp only at hx;split at hx
   ·exact (List.mem_filter.1 hx).2
   ·rcases List.mem_append.1 hx with h | h
    ·exact (List.mem_filter.1 (List.mem_filter.1 h).1).2
    ·exact (List.mem_filter.1 h).2
  ·exact pQ _ _ x hx
theorem Ma (h:ct x=true):∃r,x=63 :: r:=tL (by
 cases h2:(x.head? == some 63)
 ·simp[ct,h2]at h
 ·rfl)
theorem G3:∀ args W,(callFunc 196 args).run Tryz.prog W=.ok (.enter 196 args) W:=enters_of Tryz.func196 (by kernel_rfl) rfl
theorem O' (q:PlQ) (ps:List (Str×Str)) (hpl:ps.length<=1000000) (r:Str) (hr:r.length<=2000000) (B:Nat) (w:World) (hB:w.heap[B]?=some (.cells q.cells 89 (0,0))) (hv:PairsV w (.slice q.a q.l q.c) ps) :
  Calls Tryz.prog 196 #[.string ⟨(63 :: r).toArray⟩,.pointer (some ⟨B,0,none⟩)] w fun e w'=>e=.returned (.bool (!(ps.map (·.1)).contains r))/\Below w.heap.size w w':=by
 have HC:=ab (Fj q ps hpl r w.drew (hv.later ((ai w.heap.size w).drew)));have qnc:=();exact qaj
mutual
theorem O_ {k:List (Str×Tm)} (hk:∀ x:Str,x.length<=2000000->jJ 17 (termOf k x)=true):∀ t,jJ 2000000 t=true->∀ x∈lh k t,x.length<=2000000
 | .mk v n a=>fun h x hx=>by
  simp only[jJ,ae,br]at h;unfold lh at hx;split at hx
  ·exact aN (m4 _ (hk n h.1) x ((dV x _).1 (List.mem_filter.1 hx).1)) (by decide)
  ·exact ui hk a h.2 x hx
theorem ui {k:List (Str×Tm)} (hk:∀ x:Str,x.length<=2000000->jJ 17 (termOf k x)=true):∀ l,nmTs 2000000 l=true->∀ x∈dX k l,x.length<=2000000
 | []=>fun _ x hx=>by simp[dX]at hx
 | t :: l=>fun h x hx=>by
  simp only[nmTs,ae]at h;simp only[dX,List.mem_append]at hx;exact hx.elim (O_ hk t h.1 x) (ui hk l h.2 x)
end
theorem Pa (d_:KnV oz goodF goodT W kb mF mT nF nT k) (s:Fm) (hs:okF true s=true) (sf:nodesF s<=400):(qQ k s).length<=2000000/\∀ x∈qQ k s,x.length<=2000000:=by
 have ma:=iD _ hs;obtain ⟨o,n,a,ss⟩:=s;simp only[li,ae,br]at ma;have qnd:=();exact qbj
theorem Sg (oz:Nat->Prop) (kb mF mT nF nT:Nat) (k:Bd) (p:Pl) (ps:List (Str×Str)) (Yr:p.c=ps.reverse) (hpl:ps.length<=1000000) (hs:okF true p.s=true) (sf:nodesF p.s<=400) (ok:Nat->Prop) (w:World) (d_:KnV oz goodF goodT w kb mF mT nF nT k) (q:PlQ) (hq:FormV ok w q.s.val p.s) (hv:PairsV w (.slice q.a q.l q.c) ps) :
  Calls Tryz.prog 125 #[.pointer (some ⟨kb,0,none⟩),q.val] w fun e w'=>e=.returned (.bool (E0 k p))/\Below w.heap.size w w':=by
 have ⟨W1,bY⟩:=aj (w.alloc (.cells q.cells 89));have hb1:=cM bY;have x1:=bS bY;have hbd:=Pa d_ p.s hs sf;have zC:=JI k p.s;have Au:=L_ oz kb mF mT nF nT k p.s hs sf ok W1 (d_.later hb1) q (hq.later hb1);have ⟨l,hl⟩:=aj (qQ k p.s);have ⟨R,hR⟩:=aj (E0 k p);have hE:=hR;unfold E0 at hE;rw[<-hl]at hE Au hbd zC;rw[<-hR];have HX:=aA hb1 x1;have VL:∀ W,Below W1.heap.size W1 W->PredS (fun x=>!(ps.map (·.1)).contains x.tail) 196 #[.pointer (some ⟨w.heap.size,0,none⟩)] l (Below W.heap.size W):=fun W hW x V hx hV=>by
  obtain ⟨r,rfl⟩:=Ma (zC x hx);have hr:=hbd.2 _ hx;exact O' q ps hpl r (by simp at hr;omega) w.heap.size V (bN ((hW.tr hV)) x1) (hv.later (hb1.tr (hW.tr hV)))
 have rj:R=l.any (fun x=>!(ps.map (·.1)).contains x.tail):=by
  rw[hE];congr 1
  funext x
  rw[Yr];congr 1;rw[ip];simp only[List.contains_iff_mem,List.mem_map,List.mem_reverse]
 have lJ:=ab (fun (W:World) (v:Value) (hW:Below W1.heap.size W1 W) (hvv:OwnS W1.heap.size W v l)=>EC _ l hbd.1 196 #[.pointer (some ⟨w.heap.size,0,none⟩)] G3 _ W v (VL W hW) hvv.strs);rw[<-rj]at lJ;have ⟨Au,jt⟩:=aS Au bY;have qne:=();exact qaj
end
def Cf (k:Bd) (p:Pl):Prop:=aY k p=(k,0)/\dp k p=(k,0)
theorem Pb (h:Cf k p) (ja:p.s.op=15):∃im g,e8 p.c [] p.f=some im/\getB k.fs p.s.n=some g/\cg [] g im=true:=by
 have h:=h.1;unfold aY at h;rw[ak (by rw[ja];decide),aw ja]at h
 cases hi:e8 p.c [] p.f with
 | none=>rw[hi]at h;simp at h
 | some im=>
  rw[hi]at h;simp only at h
  cases hg:getB k.fs p.s.n with
  | none=>
   rw[hg]at h;simp only[Prod.mk.injEq,and_true]at h;have:=Av (v:=im) hg;rw[<-h]at hg;simp only at hg;rw[this]at hg;cases hg
  | some g=>
   rw[hg]at h;simp only at h;split at h
   ·rename_i ha;exact ⟨im,g,rfl,rfl,ha⟩
   ·simp at h
theorem Pc (h:Cf k p) (h16:p.s.op=16):∃im g,e8 p.c [] p.f=some im/\getB k.fs p.s.n=some g ∧
  ((ea (aU p.s).1 g=0/\cg [] g im=true)\/(ea (aU p.s).1 g≠0/\∃t,getB k.ts (aU p.s).2=some t/\nodesF g+ea (aU p.s).1 g * (nodesT t - 1)=nodesF im/\cg [] (e9 (aU p.s).1 t g) im=true)):=by
 have h:=h.2;unfold dp at h;rw[ak (by simp[h16])]at h
 cases hg:getB k.fs p.s.n with
 | none=>rw[hg]at h;simp at h
 | some g=>
  rw[hg]at h;simp only at h
  cases hi:e8 p.c [] p.f with
  | none=>rw[hi]at h;simp at h
  | some im=>
   rw[hi]at h;simp only at h;refine ⟨im,g,rfl,rfl,?_⟩
   by_cases h0:ea (aU p.s).1 g=0
   ·rw[aw h0]at h;split at h
    ·rename_i ha;exact .inl ⟨h0,ha⟩
    ·simp at h
   ·rw[ak h0]at h;refine .inr ⟨h0,?_⟩
    cases ht:getB k.ts (aU p.s).2 with
    | some t=>
     rw[ht]at h;simp only at h;split at h
     ·simp at h
     ·rename_i hn;split at h
      ·rename_i ha;exact ⟨t,rfl,by simpa using hn,ha⟩
      ·simp at h
    | none=>
     rw[ht]at h;simp only at h
     cases hf:gD g im (aU p.s).1 with
     | none=>rw[hf]at h;simp at h
     | some t=>
      rw[hf]at h;simp only[Option.map_some]at h;split at h
      ·simp at h
      ·split at h
       ·simp only[Prod.mk.injEq,and_true]at h;have:=Av (v:=t) ht;rw[<-h]at ht;simp only at ht;rw[this]at ht;cases ht
       ·simp at h
theorem Pe (h:Cf k p) (ja:p.s.op≠15) (h16:p.s.op≠16):p.s.op=p.f.op/\p.s.a.length=p.f.a.length/\p.s.s.length=p.f.s.length/\(p.s.n=p.f.n\/bm p.s.op=true)/\cA p.c k.ts p.s.a p.f.a=some k.ts:=by
 have h:=h.1;unfold aY at h;rw[ak h16,ak ja]at h;split at h
 ·simp at h
 ·rename_i hd;simp only[Bool.or_eq_true,bne_iff_ne,ne_eq,ae,Bool.not_eq_true',not_or,Decidable.not_not,not_and]at hd
  cases ha:cA p.c k.ts p.s.a p.f.a with
  | none=>rw[ha]at h;simp at h
  | some ts=>
   rw[ha]at h;simp only[Prod.mk.injEq,and_true]at h;have:ts=k.ts:=by rw[<-h]
   refine ⟨hd.1,hd.2.1,hd.2.2.1,?_,by rw[this]⟩
   by_cases e:p.s.n=p.f.n
   ·exact .inl e
   ·exact .inr (by simpa using hd.2.2.2 e)
def tj (c:Sco) (ins:List Str) (σ:Str->Dt) (z:Str):Dt:=if ins.contains z then σ z else match dv c z with | some y=>σ y | none=>σ z
mutual
theorem VM (σ:Str->Dt) (ins:List Str):∀ (t u:Tm),iB c ins t=some u->fY σ u=fY (tj c ins σ) t
 | .mk v n a,u,h=>by
  unfold iB at h
  cases v with
  | true=>
   simp only[↓reduceIte]at h;simp only[fY,↓reduceIte,tj];split at h
   ·rename_i hc;simp only[c9]at h;subst h;rw[aw hc];simp[aP,fY]
   ·rename_i hc;obtain ⟨y,hy,rfl⟩:=Option.map_eq_some_iff.1 h;rw[ak hc,hy];simp[aP,fY]
  | false=>
   have qnf:=();exact qeS
theorem wu (σ:Str->Dt) (ins:List Str):∀ (t u:List Tm),eq c ins t=some u->dB σ u=dB (tj c ins σ) t
 | [],u,h=>by simp only[eq,c9]at h;subst h;simp[dB]
 | t :: l,u,h=>by
  simp only[eq]at h
  cases h1:iB c ins t with
  | none=>rw[h1]at h;simp at h
  | some x=>
   cases h2:eq c ins l with
   | none=>rw[h1,h2]at h;simp at h
   | some m=>
    rw[h1,h2]at h;simp only[c9]at h;subst h;simp[dB,VM σ ins t x h1,wu σ ins l m h2]
end
theorem Pf (hn:fH n=true) (σ:Str->Dt) (ins:List Str) (v:Dt):tj c (n :: ins) (upd σ n v)=upd (tj c ins σ) n v:=by
 funext z
 unfold tj upd
 by_cases hz:z=n
 ·subst hz;simp
 ·have e1:(z == n)=false:=by simpa using hz
  simp only[List.contains_cons,e1,Bool.false_or,bO,↓reduceIte];split
  ·rfl
  ·cases hy:dv c z with
   | none=>rfl
   | some y=>
    simp only;rcases Be hy with rfl | ⟨s,hs,rfl⟩
    ·simp[e1]
    ·have:(bI s == n)=false:=by
      rw[Bool.eq_false_iff];intro h;rw[ej]at h;have h1:=vp hn;rw[<-h]at h1 hn;simp only[fH,bI,nN,ae]at hn;exact absurd hn.2.2.1.1 (by decide)
     simp[this]
theorem ls {o:Int} (h:okF sc (.mk o n a s)=true) (hq:bm o=true):fH n=true/\a=[]/\∃g,s=[g]:=by
 have h1:=h;simp only[okF,ae]at h;have:=vE _ h1;obtain ⟨e1,e2⟩:=pD hq this;have h5:=h.2.1.1;have:(rowOp o).2.2.1=2:=by
  exact qer
 rw[this]at h5;exact ⟨h5,e1,e2⟩
mutual
theorem NJ:∀ (f u:Fm) (ins:List Str) (σ:Str->Dt) (d:Nat),okF false f=true->e8 c ins f=some u->jF σ d u=jF (tj c ins σ) d f
 | .mk o n a s,u,ins,σ,d,hok,h=>by
  have Sh:=hok;simp only[okF,ae]at hok;unfold e8 at h
  cases h1:eq c ins a with
  | none=>rw[h1]at h;simp at h
  | some a'=>
   cases h2:eZ c (if bm o then n :: ins else ins) s with
   | none=>rw[h1,h2]at h;simp at h
   | some s'=>
    rw[h1,h2]at h;simp only[c9]at h;subst h;simp only[jF,wu σ ins a a' h1]
    by_cases hq:bm o=true
    ·rw[aw hq]at h2;rw[aw hq,aw hq,Cg s s' _ (upd σ n (.lvl d)) (d+1) hok.2.2.2.2 h2,Pf (ls Sh hq).1]
    ·rw[ak hq]at h2;rw[ak hq,ak hq,Cg s s' _ σ d hok.2.2.2.2 h2]
theorem Cg:∀ (f u:List Fm) (ins:List Str) (σ:Str->Dt) (d:Nat),dt false f=true->eZ c ins f=some u->em σ d u=em (tj c ins σ) d f
 | [],u,ins,σ,d,_,h=>by simp only[eZ,c9]at h;subst h;simp[em]
 | t :: l,u,ins,σ,d,hok,h=>by
  simp only[eZ]at h
  cases h1:e8 c ins t with
  | none=>rw[h1]at h;simp at h
  | some x=>
   cases h2:eZ c ins l with
   | none=>rw[h1,h2]at h;simp at h
   | some m=>
    rw[h1,h2]at h;simp only[c9]at h;subst h;simp only[dt,ae]at hok;simp[em,NJ t x ins σ d hok.1 h1,Cg l m ins σ d hok.2 h2]
end
def Dt.atom:Dt->Prop | .app _ _=>False | _=>True
def Atom (σ:Str->Dt):Prop:=∀ z,(σ z).atom
theorem gP (l:List Str):Atom (fE l):=by
 intro z
 induction l with
 | nil=>trivial
 | cons n r ih=>unfold fE;split;trivial;exact ih
theorem Atom.upd {σ:Str->Dt} (h:Atom σ) (n:Str) (d:Nat):Atom (upd σ n (.lvl d)):=fun z=>by unfold Go.Proofs.YtokemihbkeddoaaGreatDoor.upd;split;trivial;exact h z
mutual
def wv:Dt->Nat | .app _ a=>zG a+1 | _=>1
def zG:List Dt->Nat | []=>0 | t :: l=>wv t+zG l
end
mutual
def Mb:Df->Nat | .mk _ _ a s=>zG a+Ch s+1
def Ch:List Df->Nat | []=>0 | t :: l=>Mb t+Ch l
end
mutual
def VN:Dt->Nat | .app _ a=>FC a+1 | _=>1
def FC:List Dt->Nat | []=>0 | t :: l=>max (VN t) (FC l)
end
mutual
def VO:Df->Nat | .mk _ _ a s=>max (FC a) (JJ s)+1
def JJ:List Df->Nat | []=>0 | t :: l=>max (VO t) (JJ l)
end
theorem Si {t:Dt} (h:t.atom):wv t=1/\VN t=1:=by cases t <;> first | exact ⟨rfl,rfl⟩ | exact h.elim
mutual
theorem JK {σ:Str->Dt} (hσ:Atom σ):∀ t,jL t=true->wv (fY σ t)=nodesT t/\VN (fY σ t)=dh t
 | .mk v n a,h=>by
  simp only[jL,ae]at h
  cases v with
  | true=>
   obtain rfl:a=[]:=by simpa using h.1
   simpa[fY,nodesT,nodesTs,dh,bE] using Si (hσ n)
  | false=>simp[fY,wv,VN,nodesT,dh,yu hσ a h.2]
theorem yu {σ:Str->Dt} (hσ:Atom σ):∀ t,dO t=true->zG (dB σ t)=nodesTs t/\FC (dB σ t)=bE t
 | [],_=>by simp[dB,zG,FC,nodesTs,bE]
 | t :: l,h=>by simp only[dO,ae]at h;simp[dB,zG,FC,nodesTs,bE,JK hσ t h.1,yu hσ l h.2]
end
mutual
theorem ww:∀ (f:Fm) (σ:Str->Dt) (d:Nat),Atom σ->gS f=true->Mb (jF σ d f)=nodesF f/\VO (jF σ d f)=depthF f
 | .mk o n a s,σ,d,hσ,h=>by
  simp only[gS,ae]at h;have h1:=yu hσ a h.1;simp only[jF];split
  ·have h2:=yw s (upd σ n (.lvl d)) (d+1) (hσ.upd n d) h.2;simp[Mb,VO,nodesF,depthF,h1,h2]
  ·have h2:=yw s σ d hσ h.2;simp[Mb,VO,nodesF,depthF,h1,h2]
theorem yw:∀ (f:List Fm) (σ:Str->Dt) (d:Nat),Atom σ->eR f=true->Ch (em σ d f)=nodesFs f/\JJ (em σ d f)=aV f
 | [],σ,d,_,_=>by simp[em,Ch,JJ,nodesFs,aV]
 | t :: l,σ,d,hσ,h=>by simp only[eR,ae]at h;simp[em,Ch,JJ,nodesFs,aV,ww t σ d hσ h.1,yw l σ d hσ h.2]
end
theorem NK {σ τ:Str->Dt} {d e:Nat} (hσ:Atom σ) (hτ:Atom τ) (hf:gS f=true) (hg:gS g=true) (h:jF σ d f=jF τ e g):nodesF f=nodesF g/\depthF f=depthF g:=by
 have h1:=ww f σ d hσ hf;have h2:=ww g τ e hτ hg;rw[h]at h1;exact ⟨h1.1.symm.trans h2.1,h1.2.symm.trans h2.2⟩
theorem pR {u:Tm} (hu:jL u=true):∀ (k:Nat) (f:Fm) (x:Str),gS f=true->qone f=true->depthF f<=k->gS (fI k x u f)=true/\qone (fI k x u f)=true
 | 0,f,x,hw,hq,hd=>by have:=mL f;omega
 | k+1,.mk o n a s,x,hw,hq1,hd=>by
  have nJ:=hw;exact qaP
mutual
theorem uj:∀ f,qone (bl f)=qone f
 | .mk o n a s=>by
  have h1:(bF a).isEmpty=a.isEmpty:=by cases a <;> simp[bF]
  have h2:(bR s).length=s.length:=uk s;simp[bl,qone,zH s,h1,h2]
theorem zH:∀ f,fF (bR f)=fF f
 | []=>by simp[bR]
 | t :: l=>by simp[bR,fF,uj t,zH l]
theorem uk:∀ s,(bR s).length=s.length
 | []=>by simp[bR]
 | t :: l=>by simp[bR,uk l]
end
theorem iZ {l:List (Str×Fm)} (h:U7 l=true) (hg:getB l n=some g):bT (bl g)=true/\dA n=true:=by
 simp only[U7,ae,List.all_eq_true]at h;exact qeT
theorem oY {l:List (Str×Tm)} (h:Ij l=true) {g:Tm} (hg:getB l n=some g):jc false (aK g)=true/\cX n=true:=by
 simp only[Ij,ae,List.all_eq_true]at h;exact qeT
theorem lu (h:bT (bl g)=true):gS g=true/\qone g=true/\nodesF g<=400/\depthF g<=40:=by
 simp only[bT,ae,br]at h;have h1:=oh _ h.1;have h2:=vE _ h.1;rw[xW]at h1;rw[uj]at h2;have h3:=g9 g;exact ⟨h1,h2,by omega,by omega⟩
theorem kl {g:Tm} (h:jc false (aK g)=true):jL g=true:=by
 have h1:=Bn _ h
 rwa [E9]at h1
theorem wy (hc:VarsOk (c.map (·.1))) {im:Fm} {ins:List Str} (hf:okF false f=true) (h:e8 c ins f=some im):gS im=true/\qone im=true/\nodesF im=nodesF f/\depthF im=depthF f:=by
 obtain ⟨h1,h2,h3⟩:=Ax hc f im ins hf h;have e1:=oh _ h1;have e2:=vE _ h1;rw[xW]at e1;rw[uj]at e2;exact ⟨e1,e2,h2,h3⟩
mutual
theorem Mc (ins:List Str):∀ (t u:Tm),jL t=true->iB c ins t=some u->∀ z∈aE t,ins.contains z=true\/(dv c z).isSome=true
 | .mk v n a,u,hw,h,z,hz=>by
  unfold iB at h;simp only[jL,ae]at hw
  cases v with
  | true=>
   have qng:=();exact qeU
  | false=>
   exact qeS
theorem nX (ins:List Str):∀ (t u:List Tm),dO t=true->eq c ins t=some u->∀ z∈ao t,ins.contains z=true\/(dv c z).isSome=true
 | [],u,_,h,z,hz=>by simp[ao]at hz
 | t :: l,u,hw,h,z,hz=>by
  simp only[eq]at h;simp only[dO,ae]at hw
  cases h1:iB c ins t with
  | none=>rw[h1]at h;simp at h
  | some x=>
   cases h2:eq c ins l with
   | none=>rw[h1,h2]at h;simp at h
   | some m=>
    simp only[ao,List.mem_append]at hz;rcases hz with hz | hz
    ·exact Mc ins t x hw.1 h1 z hz
    ·exact nX ins l m hw.2 h2 z hz
end
mutual
theorem Ci:∀ (f u:Fm) (ins:List Str),gS f=true->e8 c ins f=some u->∀ z∈aL [] f,ins.contains z=true\/(dv c z).isSome=true
 | .mk o n a s,u,ins,hw,h,z,hz=>by
  unfold e8 at h;simp only[gS,ae]at hw
  cases h1:eq c ins a with
  | none=>rw[h1]at h;simp at h
  | some a'=>
   cases h2:eZ c (if bm o then n :: ins else ins) s with
   | none=>rw[h1,h2]at h;simp at h
   | some s'=>
    simp only[aL,List.mem_append]at hz;rcases hz with hz | hz
    ·exact nX ins a a' hw.1 h1 z (List.mem_filter.1 hz).1
    ·by_cases hq:bm o=true
     ·rw[aw hq]at h2 hz;rw[ib,List.mem_filter]at hz;rcases rx s s' _ hw.2 h2 z hz.1 with h | h
      ·left;rw[List.contains_cons]at h;have h3:=hz.2;simp only[Bool.not_eq_true']at h3;rw[h3]at h;simpa using h
      ·exact .inr h
     ·rw[ak hq]at h2 hz;exact rx s s' _ hw.2 h2 z hz
theorem rx:∀ (f u:List Fm) (ins:List Str),eR f=true->eZ c ins f=some u->∀ z∈bn [] f,ins.contains z=true\/(dv c z).isSome=true
 | [],u,ins,_,h,z,hz=>by simp[bn]at hz
 | t :: l,u,ins,hw,h,z,hz=>by
  simp only[eZ]at h;simp only[eR,ae]at hw
  cases h1:e8 c ins t with
  | none=>rw[h1]at h;simp at h
  | some x=>
   cases h2:eZ c ins l with
   | none=>rw[h1,h2]at h;simp at h
   | some m=>
    simp only[bn,List.mem_append]at hz;rcases hz with hz | hz
    ·exact Ci t x ins hw.1 h1 z hz
    ·exact rx l m ins hw.2 h2 z hz
end
theorem G4 {z s:Str} (hz:fH z=true):z≠bI s:=by
 rintro rfl;simp only[fH,bI,nN,ae]at hz;exact absurd hz.2.2.1.1 (by decide)
mutual
def EG:Fm->Bool | .mk o n _ s=>(!bm o || fH n) && sQ s
def sQ:List Fm->Bool | []=>true | t :: l=>EG t && sQ l
end
mutual
theorem JL:∀ f,EG (bl f)=EG f
 | .mk o n a s=>by simp[bl,EG,FD s]
theorem FD:∀ f,sQ (bR f)=sQ f
 | []=>by simp[bR]
 | t :: l=>by simp[bR,sQ,JL t,FD l]
end
mutual
theorem Ys:∀ f,okF sc f=true->EG f=true
 | .mk o n a s,h=>by
  have h':=h;simp only[okF,ae]at h;simp only[EG,ae,Bool.or_eq_true,Bool.not_eq_true'];refine ⟨?_,Sj s h.2.2.2.2⟩;cases hq:bm o
  ·exact .inl rfl
  ·exact .inr (ls h' hq).1
theorem Sj:∀ f,dt sc f=true->sQ f=true
 | [],_=>by simp[sQ]
 | t :: l,h=>by simp only[dt,ae]at h;simp[sQ,Ys t h.1,Sj l h.2]
end
theorem nY (h:bT (bl g)=true):EG g=true:=by
 simp only[bT,ae]at h;have:=Ys _ h.1
 rwa [JL]at this
theorem VP:∀ (x:Str),(fE l x=.fre x)\/(x∈l):=by
 induction l with
 | nil=>intro x;exact .inl rfl
 | cons n r ih=>
  intro x;unfold fE;split
  ·rename_i h;rw[ej]at h;subst h;exact .inr (gp ..)
  ·rcases ih x with h | h
   ·exact .inl h
   ·exact .inr (fL _ h)
mutual
def Cj:Dt->List Str | .fre n=>[n] | .lvl _=>[] | .app _ a=>FE a
def FE:List Dt->List Str | []=>[] | t :: l=>Cj t ++ FE l
end
mutual
def Sk:Df->List Str | .mk _ _ a s=>FE a ++ JM s
def JM:List Df->List Str | []=>[] | t :: l=>Sk t ++ JM l
end
mutual
theorem VQ (σ:Str->Dt):∀ t,jL t=true->Cj (fY σ t)=(aE t).flatMap (fun z=>Cj (σ z))
 | .mk v n a,h=>by
  simp only[jL,ae]at h
  cases v with
  | true=>
   obtain rfl:a=[]:=by simpa using h.1
   simp[fY,aE,ao]
  | false=>simp[fY,Cj,aE,wA σ a h.2]
theorem wA (σ:Str->Dt):∀ t,dO t=true->FE (dB σ t)=(ao t).flatMap (fun z=>Cj (σ z))
 | [],_=>by simp[dB,FE,ao]
 | t :: l,h=>by simp only[dO,ae]at h;simp[dB,FE,ao,VQ σ t h.1,wA σ l h.2]
end
theorem JN (σ:Str->Dt) (n:Str) (d:Nat):∀ l:List Str,l.flatMap (fun z=>Cj (upd σ n (.lvl d) z))=(l.filter (fun x=>!(x == n))).flatMap (fun z=>Cj (σ z))
 | []=>rfl
 | x :: l=>by
  have ih:=JN σ n d l;rw[List.flatMap_cons,ih]
  by_cases h:(x == n)=true
  ·have:Cj (upd σ n (.lvl d) x)=[]:=by unfold upd;rw[aw h];rfl
   rw[this];simp[h]
  ·have:upd σ n (.lvl d) x=σ x:=by unfold upd;rw[ak h]
   rw[this];simp[h]
mutual
theorem NL:∀ (f:Fm) (σ:Str->Dt) (d:Nat),gS f=true->Sk (jF σ d f)=(aL [] f).flatMap (fun z=>Cj (σ z))
 | .mk o n a s,σ,d,h=>by
  simp only[gS,ae]at h;have qnh:=();exact qbk
theorem Ck:∀ (f:List Fm) (σ:Str->Dt) (d:Nat),eR f=true->JM (em σ d f)=(bn [] f).flatMap (fun z=>Cj (σ z))
 | [],σ,d,_=>by simp[em,JM,bn]
 | t :: l,σ,d,h=>by simp only[eR,ae]at h;simp[em,JM,bn,NL t σ d h.1,Ck l σ d h.2]
end
theorem NM (h:gS f=true):Sk (db f)=aL [] f:=by
 have h1:=NL f (fE []) 0 h;unfold db;rw[h1];simp[fE,Cj]
theorem Md (hf:gS f=true) (hg:gS g=true) (h:db f=db g):aL [] f=aL [] g:=by
 rw[<-NM hf,<-NM hg,h]
theorem NN (x y:Str):∀ l:List Str,y∈tG x l ↔ y=x\/y∈l
 | []=>by simp[tG]
 | z :: l=>by
  unfold tG;split
  ·rename_i h;rw[ej]at h;subst h;simp
  ·split
   ·simp
   ·simp only[cG,NN x y l];constructor
    ·rintro (h | h | h) <;> simp[h]
    ·rintro (h | h | h) <;> simp[h]
theorem AC (y:Str):∀ l:List Str,y∈di l ↔ y∈l
 | []=>by simp[di]
 | x :: l=>by
  have ih:=AC y l;simp only[di,List.foldr_cons]at ih ⊢;rw[NN,ih];simp
mutual
theorem Pg (x:Str):∀ t,uX x t=0 ↔ x ∉ aE t
 | .mk v n a=>by
  simp only[uX,aE];have ih:=ur x a
  cases v with
  | true=>
   simp only[dz,↓reduceIte,cG,not_or]
   by_cases h:n=x
   ·subst h;simp
   ·simp only[ej,h,↓reduceIte,Nat.zero_add,ih];exact ⟨fun h2=>⟨fun e=>h e.symm,h2⟩,fun h2=>h2.2⟩
  | false=>simpa using ih
theorem ur (x:Str):∀ t,eM x t=0 ↔ x ∉ ao t
 | []=>by simp[eM,ao]
 | t :: l=>by simp only[eM,ao,List.mem_append,not_or,Nat.add_eq_zero_iff,Pg x t,ur x l]
end
mutual
theorem yx (hx:fH x=false):∀ f,EG f=true->(ea x f=0 ↔ x ∉ aL [] f)
 | .mk o n a s,hb=>by
  simp only[EG,ae]at hb;have ih:=Cl hx s hb.2;have qni:=();exact qbk
theorem Cl (hx:fH x=false):∀ f,sQ f=true->(iq x f=0 ↔ x ∉ bn [] f)
 | [],_=>by simp[iq,bn]
 | t :: l,hb=>by
  simp only[sQ,ae]at hb;simp only[iq,bn,List.mem_append,not_or,Nat.add_eq_zero_iff,yx hx t hb.1,Cl hx l hb.2]
end
theorem kL (s:Str):fH (bI s)=false:=by
 cases h:fH (bI s)
 ·rfl
 ·exact absurd rfl (G4 (s:=s) h)
mutual
theorem Me {k:List (Str×Tm)} {c:List Str}:∀ t,jc true t=true->qR k t=nodesT (da k c t)
 | .mk v n a,hok=>by
  unfold qR da
  by_cases hm:(v && dl n)=true
  ·rw[aw hm,aw hm]
  ·rw[ak hm,ak hm]
   cases v with
   | true=>
    have qnj:=();exact qci
   | false=>
    simp only[jc,bO,↓reduceIte,ae]at hok;simp only[Bool.false_and,bO,↓reduceIte,nodesT,ry (c:=c) a hok.2.2]
theorem ry {k:List (Str×Tm)} {c:List Str}:∀ t,d9 true t=true->ew k t=nodesTs (dZ k c t)
 | [],_=>by simp[ew,dZ,nodesTs]
 | t :: l,hok=>by
  simp only[d9,ae]at hok;simp[ew,dZ,nodesTs,Me (c:=c) t hok.1,ry (c:=c) l hok.2]
end
