/-
A contract of 'alike' of package match.
-/
import Derived.Test.YtokemihbkeddoaaGreatDoorV09
namespace Go.Proofs.YtokemihbkeddoaaGreatDoor
open Go Go.RowKit Lib
set_option maxRecDepth 100000
set_option maxHeartbeats 64000000
variable {M:Nat->Prop} {mF mT kb nF nT j:Nat} {W W':World} {k:Bd} {p:Pl}
def gJ (f:Fm):Nat:=nodesF f
theorem EF (o:Int) (n:Str) (a:List Tm) (s:List Fm):∀ t∈s,gJ t+1<=gJ (.mk o n a s):=fun t ht=>by
 have:=e9 ht;simp only[gJ,nodesF];omega
theorem M_ (c:Sco) (o o':Int) (n n':Str) (a a':List Tm) (s s':List Fm):eB c (.mk o n a s) (.mk o' n' a' s')=((o == o' && (a.length == a'.length && s.length == s'.length)) && ((n == n' || bD o) && (dH c a a' && ee (if bD o then (n,n') :: c else c) s s'))):=by
 rw[eB]
theorem Na:(Tryz.prog.info? 213).map (fun i=>(i.zero,i.size,i.bytes))=some (some (.agg #[.string ByteArray.empty,.string ByteArray.empty]),2,32):=by kernel_rfl
def zcT (t:Fm):Prop:=∀ (u:Fm) (ps:List (Str×Str)) (v:Value) (ok ok':Nat->Prop) (w:World) (q q':FQ),ps.length+gJ t<=1000000000->fitF t->FormV ok w q.val t->FormV ok' w q'.val u->PairsV w v ps →
 Calls Tryz.prog 92 #[q.val,q'.val,v] w fun e w'=>e=.returned (.bool (eB ps.reverse t u))/\Below w.heap.size w w'
theorem uG:∀ t,zcT t:=by
 obtain ⟨i0,hi,pF,iq,gV⟩:=info_parts Na;intro t
 induction t using Fm.ind with
 | h uo xn xa xs ih=>
 intro u ps v ok ok' w q q' iF hf hq oy hp;obtain ⟨vo,yn,ya,ys⟩:=u;obtain ⟨s1,s2,h1,fL,FG⟩:=aW.1 hq;obtain ⟨s3,s4,h2,Jv,hys⟩:=aW.1 oy;obtain ⟨uo,un,ua,ul,uc,ub,um,ue⟩:=q;obtain ⟨vo,vn,va,vl,vc,vb,vm,ve⟩:=q';exact pm192
section
attribute [local go_sem] Oper.semAt_some
structure PlV (M:Nat->Prop) (W:World) (q:PlQ) (ps:List (Str×Str)) (p:Pl):Prop where
 s:FormV (fun b=>¬M b) W q.s.val p.s
 f:FormV (fun b=>¬M b) W q.f.val p.f
 c:PairsN M W (.slice q.a q.l q.c) ps
 e:p.c=ps.reverse
 l:ps.length<=1000000
def N2 (mF mT:Nat):Nat->Prop:=fun b=>b=mF\/b=mT
theorem Kp.two {X Y:World} (h:Kp (N2 mF mT) X Y) (hF:M mF) (hT:M mT):Kp M X Y:=h.mono (fun b _ hb=>by rcases hb with rfl | rfl;exact hF;exact hT)
def StepPost (M:Nat->Prop) (kb mF mT nF nT:Nat) (W:World) (r:Bd×Int) (e:Ending) (W':World):Prop:=Kp (N2 mF mT) W W'/\e=.returned (.int .i64 r.2)/\(r.2=0->∃xx uC,xx<=nF+1/\uC<=nT+400/\KnV (fun b=>¬M b) goodF goodT W' kb mF mT xx uC r.1)
theorem StepPost.bad {r:Bd×Int} {er:Int} (h:r=(k,er)) (h0:er≠0) (hk:Kp (N2 mF mT) W W'):StepPost M kb mF mT nF nT W r (.returned (.int .i64 er)) W':=by
 subst h;exact ⟨hk,rfl,fun h=>absurd h h0⟩
theorem StepPost.good {r:Bd×Int} (xx uC:Nat) (h:r=(k,0)) (hk:Kp (N2 mF mT) W W') (h1:xx<=nF+1) (h2:uC<=nT+400) (h3:KnV (fun b=>¬M b) goodF goodT W' kb mF mT xx uC k):StepPost M kb mF mT nF nT W r (.returned (.int .i64 0)) W':=by
 subst h;exact ⟨hk,rfl,fun _=>⟨xx,uC,h1,h2,h3⟩⟩
def U5 (W0:World) (fn:Nat) (step:Bd->Pl->Bd×Int):Prop:=
 ∀ (M:Nat->Prop) (kb mF mT:Nat),M mF->M mT->¬M kb->(∀ b,M b->W0.heap.size<=b)->∀ (p:Pl),PlOk p->nodesF p.s<=400->∀ (W:World) (nF nT:Nat) (k:Bd) (q:PlQ) (ps:List (Str×Str)),(∀ b,M b->b<W.heap.size)->Tabs W0 W →
  KnV (fun b=>¬M b) goodF goodT W kb mF mT nF nT k->nF<3000000->nT+400<=3000000->PlV M W q ps p →
  Calls Tryz.prog fn #[.pointer (some ⟨kb,0,none⟩),q.val] W fun e W'=>StepPost M kb mF mT nF nT W (step k p) e W'
section
variable {F:Fence} {n:Nat} {P:Program} {ops:Array Oper} {Q:Exit->Act->World->Prop} {md:Region.Mode} {S:World->Prop} {e:Nat}
theorem zcU {i:Nat} {oi oj:Oper} {cE:Nat} {listed:Array Bool} {a:Act} {w:World} (hi:ops[i]?=some oi) (hj:ops[j]?=some oj) (hr:Region.ready md ops listed=[i,j]) (hwi:Region.wanted oi (yielded ops a.tmps)=true) (hwj:Region.wanted oj (yielded ops a.tmps)=true)
  (h1:∀ K:Act->World->Prop,(∀ a w,(i<e->S w)->((i<e->S w)->dz F n P md ops Q S e cE (listed.setIfInBounds i true) a w)->K a w)->Oper.wpIn F n P oi a w K Q)
  (h2:∀ K:Act->World->Prop,(∀ a w,(j<e->S w)->((j<e->S w)->dz F n P md ops Q S e cE (listed.setIfInBounds j true) a w)->K a w)->Oper.wpIn F n P oj a w K Q):dz F n P md ops Q S e (cE+1) listed a w:=by
 exact pm100
end
theorem Dx (W:World):StrsN W (.slice none 0 0) []/\∀ b,(Value.slice none 0 0).ownBlock=some b->b<W.heap.size:=⟨⟨none,0,rfl,aF _,.inl ⟨rfl,rfl,rfl⟩⟩,fun b h=>by simp[Value.ownBlock]at h⟩
theorem l9 (W:World):(zeroValue 36).run Tryz.prog W=.ok (.agg #[.int .u8 0,.string ⟨#[]⟩,.slice none 0 0,.slice none 0 0]) W:=by kernel_rfl
theorem PlOk.sc (hp:PlOk p):∀ x∈p.c.map (·.1),x.length<=16:=fun x hx=>iO (hp.c x hx)
theorem PlOk.ps (hp:PlOk p) {ps:List (Str×Str)} (he:p.c=ps.reverse):∀ x∈ps,x.1.length<=2000000:=fun x hx=>by
 have h:=hp.sc x.1 (List.mem_map.2 ⟨x,by rw[he];simpa using hx,rfl⟩);omega
theorem GS {c:Sco} {k:List (Str×Tm)} {a a':List Tm} (h:j<a.length) (h':j<a'.length):i_ c k (a.drop j) (a'.drop j)=match lD c [] a'[j] with | none=>none | some im=>match i9 (c.map (·.1)) k a[j] im with | some k'=>i_ c k' (a.drop (j+1)) (a'.drop (j+1)) | none=>none:=by
 rw[fN h,fN h',i_];rfl
theorem GT (k:Bd) (o o':Int) (n n':Str) (a a':List Tm) (s s':List Fm) (c:Sco):d_ k ⟨.mk o n a s,.mk o' n' a' s',c⟩ =
  if o=16 then ((k,0):Bd×Int)
  else if o=15 then match kv c [] (.mk o' n' a' s') with
   | none=>(k,70)
   | some im=>match getB k.fs n with
    | none=>({ k with fs:=iE n im k.fs },0)
    | some g=>if eB [] g im=true then (k,(0:Int)) else (k,70)
  else if o != o' || (a.length != a'.length || (s.length != s'.length || (n != n' && !bD o))) then (k,70)
  else match i_ c k.ts a a' with
   | none=>(k,70)
   | some ts=>({ k with ts:=ts },0):=rfl
structure Cmp (W W1:World) (B5 B6:Nat) (S F:Array Value) (W3:World):Prop where
 s:W3.heap[B5]?=some (.cells S 36 (0,0))
 f:W3.heap[B6]?=some (.cells F 36 (0,0))
 b:Below W1.heap.size W1 W3
 n:B5≠B6
 l:W1.heap.size<=B5/\W1.heap.size<=B6
theorem Cmp.one (W W1:World) (S F:Array Value):Cmp W W1 W1.heap.size (W1.heap.size+1) S F ((W1.alloc (.cells S 36)).alloc (.cells F 36)).drew:=
 ⟨(bK _ _ _ (by simp)).trans (aj rfl),aj (by simp),(cQ.alloc (by simp) _).drew,by omega,by omega,by omega⟩
theorem Cmp.two (W W1:World) (S F:Array Value):Cmp W W1 (W1.heap.size+1) W1.heap.size S F ((W1.alloc (.cells F 36)).alloc (.cells S 36)).drew:=
 ⟨aj (by simp),(bK _ _ _ (by simp)).trans (aj rfl),(cQ.alloc (by simp) _).drew,by omega,by omega,by omega⟩
theorem GU (W0:World):U5 W0 47 d_:=by
 intro M kb mF mT R5 R4 R6 Xa p hp ry W nF nT k q ps Xb z6 dV rP qw hpv;obtain ⟨⟨o,n,a,s⟩,⟨o',n',a',s'⟩,c⟩:=p;have pp73d:=();exact pm73
def P9 (pr:Tm->Bool) (fn:Nat) (kb:Nat) (W0:World) (t:Tm):Prop:=∀ (ok:Nat->Prop) (w:World) (q:TQ),Below W0.heap.size W0 w->TermV ok w q.val t →
 Calls Tryz.prog fn #[.pointer (some ⟨kb,0,none⟩),q.val] w fun e w'=>e=.returned (.bool (pr t))/\Below w.heap.size w w'
theorem J5 (pr:Tm->Bool) (l:List Tm) (hl:l.length<=2000000) (kb:Nat) (W0:World) (hp:∀ t∈l,P9 pr 193 kb W0 t) (ok:Nat->Prop) (w:World) (a:Option Addr) (n c:Nat) (hb:Below W0.heap.size W0 w) (hv:TermsV ok w (.slice a n c) l) :
  Calls Tryz.prog 243 #[.slice a n c,.func (.func 193) #[.pointer (some ⟨kb,0,none⟩)] #[]] w fun e w'=>(∃r:Int,e=.returned (.int .i64 r)/\(decide (0<=r)=l.any pr))/\Below w.heap.size w w':=by
 obtain rfl:=hv.len;obtain ⟨k0,cg⟩:=ao l.length;rw[<-cg]at hl hv;rw[<-cg];obtain ⟨HK,HV,HP,S9⟩:=eR cg hv hp hb;clear cg hv hp hb;go_enter Tryz.func243,Tryz.ntmps243;have pp157:=();exact pm157
theorem si (pr:Tm->Bool) (l:List Tm) (hl:l.length<=2000000) (kb:Nat) (W0:World) (hp:∀ t∈l,P9 pr 193 kb W0 t) (ok:Nat->Prop) (w:World) (a:Option Addr) (n c:Nat) (hb:Below W0.heap.size W0 w) (hv:TermsV ok w (.slice a n c) l) :
  Calls Tryz.prog 192 #[.slice a n c,.func (.func 193) #[.pointer (some ⟨kb,0,none⟩)] #[]] w fun e w'=>e=.returned (.bool (l.any pr))/\Below w.heap.size w w':=by
 have CC:=J5 pr l hl kb W0 hp ok w a n c hb hv;obtain ⟨B,hB⟩:=ao (l.any pr);rw[<-hB]at CC ⊢;have HC:=ab CC;clear CC hv hb hB hp;go_enter Tryz.func192,Tryz.ntmps192;go_wp2_with (go_at_call 243;refine HC.o.mono ?_;rintro e w4 ⟨⟨r,rfl,hr⟩,aP⟩;have H4:=aC hr aP;clear hr aP);go_ret;exact ⟨by rw[<-H4.o.1];rfl,H4.o.2⟩
theorem qM (k:List (Str×Tm)):∀ l,jt k l=l.any (f_ k)
 | []=>rfl
 | t :: l=>by simp only[jt,List.any_cons,qM k l]
theorem Cg (W0:World) (PF:Fm->Prop) (PT:Tm->Prop) (nr:Nat->Prop) (kb mF mT nF nT:Nat) (k:Bd) (dV:KnV nr PF PT W0 kb mF mT nF nT k):∀ t,fitT t->P9 (f_ k.ts) 193 kb W0 t:=by
 have IT:=ab dV;clear dV;have pp166c:=();exact pm166
