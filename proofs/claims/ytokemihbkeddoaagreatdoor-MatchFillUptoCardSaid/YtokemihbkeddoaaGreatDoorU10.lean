/-
What is right is not too great.
-/
import Derived.Test.YtokemihbkeddoaaGreatDoorU09
namespace Go.Proofs.YtokemihbkeddoaaGreatDoor
open Go Go.RowKit Lib
set_option maxRecDepth 100000
set_option maxHeartbeats 64000000
variable {s x:Str} {k b:Bd} {t u:Tm} {a:List Tm} {f im:Fm} {p:Pl} {M:Nat->Prop} {mF mT kb nF nT j:Nat} {W W':World}
theorem iT {f o:UInt8->Bool} (h:pF f o s=true):s.length<=16:=by
 cases s with
 | nil=>simp
 | cons c r=>simp only[pF,af,bp]at h;simp;omega
theorem fX (h:c9 s=true):s.length<=16:=by
 simp only[c9,af,bp]at h;exact h.1
theorem tF (h:dF s=true):s.length<=16:=by
 simp only[dF,af,bp]at h;exact h.1
mutual
theorem PV {sc:Bool}:∀ t,i8 sc t=true->j5 16 t=true
 | .mk v n a,h=>by
  simp only[i8]at h
  cases v with
  | true=>
   simp only[↓reduceIte,af,Bool.or_eq_true]at h;obtain rfl:a=[]:=by simpa using h.1
   simp only[j5,nmTs,Bool.and_true,bp];rcases h.2 with h | h
   ·exact iT h
   ·exact fX h.2
  | false=>
   simp only[bW,↓reduceIte,af]at h;simp only[j5,af,bp];exact ⟨iT h.2.1,Ft a h.2.2⟩
theorem Ft {sc:Bool}:∀ l,dH sc l=true->nmTs 16 l=true
 | [],_=>rfl
 | t :: l,h=>by
  simp only[dH,af]at h;simp only[nmTs,af];exact ⟨PV t h.1,Ft l h.2⟩
end
mutual
theorem Eg:∀ t,j5 16 (aN t)=true->j5 17 t=true
 | .mk v n a,h=>by
  simp only[aN,j5,af,bp]at h ⊢;refine ⟨?_,tG a h.2⟩;have h1:=h.1;split at h1
  ·simp at h1;omega
  ·omega
theorem tG:∀ l,nmTs 16 (bS l)=true->nmTs 17 l=true
 | [],_=>rfl
 | t :: l,h=>by
  simp only[bS,nmTs,af]at h ⊢;exact ⟨Eg t h.1,tG l h.2⟩
end
mutual
theorem Eh:∀ t,lV (aN t)=lV t
 | .mk v n a=>by
  have h:(bS a).isEmpty=a.isEmpty:=by cases a <;> rfl
  simp only[aN,lV,h,tH a]
theorem tH:∀ l,ep (bS l)=ep l
 | []=>rfl
 | t :: l=>by simp only[bS,ep,Eh t,tH l]
end
theorem M_ {o:Int} {sc:Bool} (h:((rowOp o).1 || (sc && (rowOp o).2.1))=true):0<=o/\o<=255:=by
 unfold rowOp at h
 by_cases h1:o=1
 ·omega
 by_cases h2:o=2
 ·omega
 by_cases h3:o=8\/o=9
 ·omega
 by_cases h4:o=3\/(10<=o/\o<=13)
 ·omega
 by_cases h5:(4<=o/\o<=7)\/o=14
 ·omega
 by_cases h6:o=15
 ·omega
 by_cases h7:o=16
 ·omega
 simp[h1,h2,h3,h4,h5,h6,h7]at h
theorem Na {k:Nat} (h:qp k s=true):s.length<=16:=by
 unfold qp at h;split at h
 ·exact iT h
 ·exact iT h
 ·exact tF h
 ·simp at h;simp[h]
mutual
theorem ig {sc:Bool}:∀ f,okF sc f=true->ls 16 f=true
 | .mk o n a s,h=>by
  simp only[okF]at h;rw[af,af,af,af,af,af]at h;simp only[ls,af,bp];exact ⟨M_ h.1,Na h.2.1.1,Ft a h.2.2.2.1,LR s h.2.2.2.2⟩
theorem LR {sc:Bool}:∀ l,cW sc l=true->nmFs 16 l=true
 | [],_=>rfl
 | t :: l,h=>by
  simp only[cW,af]at h;simp only[nmFs,af];exact ⟨ig t h.1,LR l h.2⟩
end
mutual
theorem Ei:∀ f,ls 16 (bA f)=true->ls 17 f=true
 | .mk o n a s,h=>by
  simp only[bA,ls,af,bp]at h ⊢;exact ⟨h.1,by omega,tG a h.2.2.1,AS s h.2.2.2⟩
theorem AS:∀ l,nmFs 16 (bT l)=true->nmFs 17 l=true
 | [],_=>rfl
 | t :: l,h=>by
  simp only[bT,nmFs,af]at h ⊢;exact ⟨Ei t h.1,AS l h.2⟩
end
mutual
theorem Ej:∀ f,gS (bA f)=gS f
 | .mk o n a s=>by simp only[bA,gS,tH a,AT s]
theorem AT:∀ l,el (bT l)=el l
 | []=>rfl
 | t :: l=>by simp only[bT,el,Ej t,AT l]
end
theorem yg:∀ s,(bT s).length=s.length
 | []=>rfl
 | t :: l=>by simp only[bT,eR,yg l]
mutual
theorem yh:∀ f,qone (bA f)=qone f
 | .mk o n a s=>by
  have h1:(bT s).length=s.length:=yg s;have h2:(bS a).isEmpty=a.isEmpty:=by cases a <;> rfl
  simp only[bA,qone,h1,h2,uX s]
theorem uX:∀ l,ee (bT l)=ee l
 | []=>rfl
 | t :: l=>by simp only[bT,ee,yh t,uX l]
end
def goodT (t:Tm):Prop:=i8 false (aN t)=true/\nodesT t<=1000
def goodF (f:Fm):Prop:=cf (bA f)=true
theorem goodT.nm (h:goodT t):j5 17 t=true:=Eg t (PV _ h.1)
theorem goodT.fit (h:goodT t):fitT t:=⟨by have:=h.2;omega,ke (by omega) t h.nm⟩
theorem goodT.args {v:Bool} {n:Str} (h:goodT (.mk v n a)):∀ u∈a,goodT u:=by
 intro u hu;obtain ⟨i,hi,rfl⟩:=List.getElem_of_mem hu;refine ⟨qG (bS a) i _ (Af h.1) (by rw[ne];simp[hi]),?_⟩;have h2:=h.2;have:=gF hu;simp only[nodesT]at h2;omega
theorem goodF.ok (h:goodF f):okF false (bA f)=true:=by unfold goodF cf at h;simp only[af]at h;exact h.1
theorem goodF.nodes (h:goodF f):nodesF f<=400:=by unfold goodF cf at h;simp only[af,bp]at h;have:=(li f).1;omega
theorem goodF.nm (h:goodF f):ls 17 f=true:=Ei f (ig _ h.ok)
theorem goodF.fit (h:goodF f):fitF f:=⟨by have:=h.nodes;omega,gq (by omega) f h.nm⟩
theorem goodF.wf (h:goodF f):gS f=true:=by rw[<-Ej];exact nI _ h.ok
theorem goodF.qone (h:goodF f):qone f=true:=by rw[<-yh];exact uF _ h.ok
theorem LS (hv:bw b=true):∀ x∈b.fs,goodF x.2/\dF x.1=true:=by
 intro x hx;simp only[bw,af,List.all_eq_true]at hv;exact ⟨(hv.1.1 x hx).2,(hv.1.1 x hx).1⟩
theorem zB (hv:bw b=true) (hn:∀ x∈b.ts,nodesT x.2<=1000):∀ x∈b.ts,goodT x.2/\c9 x.1=true:=by
 intro x hx;simp only[bw,af,List.all_eq_true]at hv;exact ⟨⟨(hv.1.2 x hx).2,hn x hx⟩,(hv.1.2 x hx).1⟩
mutual
theorem mj:∀ (s f:Fm) (c:Sco),∀ p∈aR c s f,nodesF p.s<=nodesF s
 | .mk o n a l,.mk o' n' a' l',c,p,hp=>by
  unfold aR at hp;rcases cd.1 hp with rfl | hp
  ·exact aD _
  ·have:=AU l l' _ p hp;simp only[nodesF];omega
theorem AU:∀ (s f:List Fm) (c:Sco),∀ p∈aE c s f,nodesF p.s<=nodesFs s
 | [],_,c,p,hp=>by simp[aE]at hp
 | _ :: _,[],c,p,hp=>by simp[aE]at hp
 | t :: l,u :: m,c,p,hp=>by
  unfold aE at hp;simp only[nodesFs];rcases List.mem_append.1 hp with hp | hp
  ·have:=mj t u c p hp;omega
  ·have:=AU l m c p hp;omega
end
mutual
theorem qQ:∀ (s f:Fm) (c:Sco),(aR c s f).length<=nodesF s
 | .mk o n a l,.mk o' n' a' l',c=>by
  have:=Ek l l' (if bh o then (n,n') :: c else c);unfold aR;simp only[eR,nodesF];omega
theorem Ek:∀ (s f:List Fm) (c:Sco),(aE c s f).length<=nodesFs s
 | [],_,c=>by simp[aE]
 | _ :: _,[],c=>by simp[aE]
 | t :: l,u :: m,c=>by
  have h1:=qQ t u c;have h2:=Ek l m c;simp only[aE,dO,nodesFs];omega
end
mutual
theorem SY {x:Str} {u:Tm}:∀ t,nodesT (le x u t)<=nodesT t * nodesT u
 | .mk v n a=>by
  have hu:=jA u;have ih:=AV (x:=x) (u:=u) a;unfold le gp
  by_cases h:v=true/\n=x
  ·obtain ⟨rfl,rfl⟩:=h;simp only[↓reduceIte,beq_self_eq_true,nodesT];exact Nat.le_mul_of_pos_left _ (by omega)
  ·have h0:(if v=true then (if (n == x)=true then some u else none) else none)=none:=by
    by_cases hv:v=true
    ·have hn:(n == x)=false:=by simp;exact fun e=>h ⟨hv,e⟩
     simp[hv,hn]
    ·simp[hv]
   simp only[h0,nodesT,Nat.add_mul];rw[ib];have ih2:nodesTs (a.map (gp fun n=>if (n == x)=true then some u else none))<=nodesTs a * nodesT u:=ih;omega
theorem AV {x:Str} {u:Tm}:∀ l,nodesTs (eu x u l)<=nodesTs l * nodesT u
 | []=>by simp[eu,nodesTs]
 | t :: l=>by
  have h1:=SY (x:=x) (u:=u) t;have h2:=AV (x:=x) (u:=u) l;simp only[eu,cz,nodesTs,Nat.add_mul]at h2 ⊢;omega
end
theorem PW {φ:Fm->Fm} {U:Nat}:∀ (s:List Fm),(∀ g∈s,nodesF (φ g)<=nodesF g * U)->nodesFs (s.map φ)<=nodesFs s * U
 | [],_=>by simp[nodesFs]
 | g :: s,h=>by
  have h1:=h g (f8 ..);have h2:=PW s (fun g hg=>h g (fD _ hg));simp only[cz,nodesFs,Nat.add_mul];omega
theorem uY:∀ (k:Nat) (f:Fm) (x:Str) (u:Tm),gS f=true->qone f=true->depthF f<=k->nodesF (eW k x u f)<=nodesF f * nodesT u
 | 0,f,x,u,hw,hq,hd=>by have:=jS f;omega
 | k+1,.mk o n a s,x,u,hw,hq1,hd=>by
  have hu:=jA u;have pp112d:=();exact pm112
theorem uZ (hf:goodF f) (hu:goodT u):fitF (fH x u f):=by
 have h1:=hf.nodes;have h2:=hu.2;have h3:=uY (depthF f) f x u hf.wf hf.qone (aD _);have h4:nodesF f * nodesT u<=400 * 1000:=Nat.mul_le_mul h1 h2;exact ⟨by unfold fH;omega,o6 _ f x u hf.wf hf.qone (aD _) (by omega) hf.fit.2 hu.fit.2⟩
theorem yi:∀ (p:List Nat) (l:List Tm) (t:Tm),ms l p=some t->nodesT t<=nodesTs l
 | [],l,t,h=>by cases l <;> simp[ms]at h
 | [i],l,t,h=>by
  simp only[ms]at h;exact gF (List.mem_of_getElem? h)
 | i :: j :: r,l,t,h=>by
  simp only[ms]at h
  cases hi:l[i]? with
  | none=>rw[hi]at h;cases h
  | some u=>
   rw[hi]at h;have h1:=yi (j :: r) u.a t h;have h2:=gF (List.mem_of_getElem? hi);obtain ⟨v,n,a⟩:=u;simp only[Tm.a]at h1;simp only[nodesT]at h2;omega
theorem yk:∀ (p:List Nat) (f:Fm) (ins:List Str) (g:Fm) (rZ:List Str),n8 f p ins=some (g,rZ)->nodesF g<=nodesF f
 | [],f,ins,g,rZ,h=>by simp only[n8,cX,Prod.mk.injEq]at h;rw[h.1];exact aD _
 | i :: r,f,ins,g,rZ,h=>by
  simp only[n8]at h
  cases hi:f.s[i]? with
  | none=>rw[hi]at h;cases h
  | some u=>
   rw[hi]at h;have h1:=yk r u _ g rZ h;have h2:=jM (List.mem_of_getElem? hi);obtain ⟨o,n,a,s⟩:=f;simp only[Fm.s]at h2;simp only[nodesF];omega
theorem Ke (g:Fm):nodesTs g.a<=nodesF g:=by
 obtain ⟨o,n,a,s⟩:=g;simp only[Fm.a,nodesF];omega
theorem Hx (h:ie f im x=some t):nodesT t<=nodesF im:=by
 unfold ie at h;split at h
 ·cases h
 ·split at h
  ·cases h
  ·rename_i hw;split at h
   ·cases h
   ·rename_i RQ;split at h
    ·cases h
    ·cases h;have h1:=yk _ _ _ _ _ hw;have h2:=yi _ _ _ RQ;exact aU h2 (aU (Ke _) h1)
theorem AW (hok:okF false (bA im)=true) (hn:nodesF im<=400) (h:ie f im x=some t):goodT t:=⟨GZ hok h,by have:=Hx h;omega⟩
theorem AX (hp:PlOk p) (h:eT p.c [] p.f=some im):goodF im:=DX hp h
theorem El (hp:PlOk p) (ht:t∈p.f.a) (h:ir p.c [] t=some u):goodT u:=by
 obtain ⟨s,⟨o,n,a,l⟩,c⟩:=p;have hf:=hp.f;have hn:=hp.n;simp only[Fm.a]at ht;simp only[okF,af]at hf;simp only[nodesF]at hn;obtain ⟨i,hi,rfl⟩:=List.getElem_of_mem ht;have h1:=qG a i _ hf.2.2.2.1 (gT hi);obtain ⟨h2,h3,_⟩:=E4 hp.c [] _ _ h1 h;have h4:=gF (aw hi);exact ⟨h2,by omega⟩
def eq (f:Fm):Nat:=nodesF f
theorem u_ (o:Int) (n:Str) (a:List Tm) (s:List Fm):∀ t∈s,eq t+1<=eq (.mk o n a s):=fun t ht=>by
 have:=jM ht;simp only[eq,nodesF];omega
theorem Em (c:Sco) (o o':Int) (n n':Str) (a a':List Tm) (s s':List Fm):cP c (.mk o n a s) (.mk o' n' a' s')=((o == o' && (a.length == a'.length && s.length == s'.length)) && ((n == n' || bh o) && (bM c a a' && cb (if bh o then (n,n') :: c else c) s s'))):=by
 rw[cP]
theorem Nb:(Tryz.prog.info? 213).map (fun i=>(i.zero,i.size,i.bytes))=some (some (.agg #[.string ByteArray.empty,.string ByteArray.empty]),2,32):=by kernel_rfl
def zcI (t:Fm):Prop:=∀ (u:Fm) (ps:List (Str×Str)) (v:Value) (ok ok':Nat->Prop) (w:World) (q q':FQ),ps.length+eq t<=1000000000->fitF t->FormV ok w q.val t->FormV ok' w q'.val u->PairsV w v ps →
 Calls Tryz.prog 92 #[q.val,q'.val,v] w fun e w'=>e=.returned (.bool (cP ps.reverse t u))/\Below w.heap.size w w'
theorem vd:∀ t,zcI t:=by
 obtain ⟨i0,hi,oM,ju,iy⟩:=info_parts Nb;intro t
 induction t using Fm.ind with
 | h uo xn xa xs ih=>
 intro u ps v ok ok' w q q' gX hf hq ip hp;have pp77:=();exact pm77
section
attribute [local go_sem] Oper.semAt_some
structure PlV (M:Nat->Prop) (W:World) (q:PlQ) (ps:List (Str×Str)) (p:Pl):Prop where
 s:FormV (fun b=>¬M b) W q.s.val p.s
 f:FormV (fun b=>¬M b) W q.f.val p.f
 c:PairsN M W (.slice q.a q.l q.c) ps
 e:p.c=ps.reverse
 l:ps.length<=1000000
def N2 (mF mT:Nat):Nat->Prop:=fun b=>b=mF\/b=mT
theorem Kp.two {X Y:World} (h:Kp (N2 mF mT) X Y) (hF:M mF) (hT:M mT):Kp M X Y:=h.mono (fun b _ hb=>by rcases hb with rfl | rfl;exact hF;exact hT)
def StepPost (M:Nat->Prop) (kb mF mT nF nT:Nat) (W:World) (r:Bd×Int) (e:Ending) (W':World):Prop:=Kp (N2 mF mT) W W'/\e=.returned (.int .i64 r.2)/\(r.2=0->∃ym uW,ym<=nF+1/\uW<=nT+400/\KnV (fun b=>¬M b) goodF goodT W' kb mF mT ym uW r.1)
theorem StepPost.bad {r:Bd×Int} {er:Int} (h:r=(k,er)) (h0:er≠0) (hk:Kp (N2 mF mT) W W'):StepPost M kb mF mT nF nT W r (.returned (.int .i64 er)) W':=by
 subst h;exact ⟨hk,rfl,fun h=>absurd h h0⟩
theorem StepPost.good {r:Bd×Int} (ym uW:Nat) (h:r=(k,0)) (hk:Kp (N2 mF mT) W W') (h1:ym<=nF+1) (h2:uW<=nT+400) (h3:KnV (fun b=>¬M b) goodF goodT W' kb mF mT ym uW k):StepPost M kb mF mT nF nT W r (.returned (.int .i64 0)) W':=by
 subst h;exact ⟨hk,rfl,fun _=>⟨ym,uW,h1,h2,h3⟩⟩
def UV (W0:World) (fn:Nat) (step:Bd->Pl->Bd×Int):Prop:=
 ∀ (M:Nat->Prop) (kb mF mT:Nat),M mF->M mT->¬M kb->(∀ b,M b->W0.heap.size<=b)->∀ (p:Pl),PlOk p->nodesF p.s<=400->∀ (W:World) (nF nT:Nat) (k:Bd) (q:PlQ) (ps:List (Str×Str)),(∀ b,M b->b<W.heap.size)->Tabs W0 W →
  KnV (fun b=>¬M b) goodF goodT W kb mF mT nF nT k->nF<3000000->nT+400<=3000000->PlV M W q ps p →
  Calls Tryz.prog fn #[.pointer (some ⟨kb,0,none⟩),q.val] W fun e W'=>StepPost M kb mF mT nF nT W (step k p) e W'
section
variable {F:Fence} {n:Nat} {P:Program} {ops:Array Oper} {Q:Exit->Act->World->Prop} {md:Region.Mode} {S:World->Prop} {e:Nat}
theorem zcJ {i:Nat} {oi oj:Oper} {cD:Nat} {listed:Array Bool} {a:Act} {w:World} (hi:ops[i]?=some oi) (hj:ops[j]?=some oj) (hr:Region.ready md ops listed=[i,j]) (hwi:Region.wanted oi (yielded ops a.tmps)=true) (hwj:Region.wanted oj (yielded ops a.tmps)=true)
  (h1:∀ K:Act->World->Prop,(∀ a w,(i<e->S w)->((i<e->S w)->dC F n P md ops Q S e cD (listed.setIfInBounds i true) a w)->K a w)->Oper.wpIn F n P oi a w K Q)
  (h2:∀ K:Act->World->Prop,(∀ a w,(j<e->S w)->((j<e->S w)->dC F n P md ops Q S e cD (listed.setIfInBounds j true) a w)->K a w)->Oper.wpIn F n P oj a w K Q):dC F n P md ops Q S e (cD+1) listed a w:=by
 exact pm110
end
theorem En (W:World):StrsN W (.slice none 0 0) []/\∀ b,(Value.slice none 0 0).ownBlock=some b->b<W.heap.size:=⟨⟨none,0,rfl,aD _,.inl ⟨rfl,rfl,rfl⟩⟩,fun b h=>by simp[Value.ownBlock]at h⟩
theorem ml (W:World):(zeroValue 36).run Tryz.prog W=.ok (.agg #[.int .u8 0,.string ⟨#[]⟩,.slice none 0 0,.slice none 0 0]) W:=by kernel_rfl
theorem PlOk.sc (hp:PlOk p):∀ x∈p.c.map (·.1),x.length<=16:=fun x hx=>iT (hp.c x hx)
theorem PlOk.ps (hp:PlOk p) {ps:List (Str×Str)} (he:p.c=ps.reverse):∀ x∈ps,x.1.length<=2000000:=fun x hx=>by
 have h:=hp.sc x.1 (List.mem_map.2 ⟨x,by rw[he];simpa using hx,rfl⟩);omega
theorem H' {c:Sco} {k:List (Str×Tm)} {a':List Tm} (h:j<a.length) (h':j<a'.length):cK c k (a.drop j) (a'.drop j)=match ir c [] a'[j] with | none=>none | some im=>match cJ (c.map (·.1)) k a[j] im with | some k'=>cK c k' (a.drop (j+1)) (a'.drop (j+1)) | none=>none:=by
 rw[gj h,gj h',cK];rfl
theorem H_ (k:Bd) (o o':Int) (n n':Str) (a a':List Tm) (s s':List Fm) (c:Sco):bK k ⟨.mk o n a s,.mk o' n' a' s',c⟩ =
  if o=16 then ((k,0):Bd×Int)
  else if o=15 then match eT c [] (.mk o' n' a' s') with
   | none=>(k,70)
   | some im=>match getB k.fs n with
    | none=>({ k with fs:=fS n im k.fs },0)
    | some g=>if cP [] g im=true then (k,(0:Int)) else (k,70)
  else if o != o' || (a.length != a'.length || (s.length != s'.length || (n != n' && !bh o))) then (k,70)
  else match cK c k.ts a a' with
   | none=>(k,70)
   | some ts=>({ k with ts:=ts },0):=rfl
structure Cmp (W W1:World) (B5 B6:Nat) (S F:Array Value) (W3:World):Prop where
 s:W3.heap[B5]?=some (.cells S 36 (0,0))
 f:W3.heap[B6]?=some (.cells F 36 (0,0))
 b:Below W1.heap.size W1 W3
 n:B5≠B6
 l:W1.heap.size<=B5/\W1.heap.size<=B6
theorem Cmp.one (W W1:World) (S F:Array Value):Cmp W W1 W1.heap.size (W1.heap.size+1) S F ((W1.alloc (.cells S 36)).alloc (.cells F 36)).drew:=
 ⟨(bE _ _ _ (by simp)).trans (ai rfl),ai (by simp),(cO.alloc (by simp) _).drew,by omega,by omega,by omega⟩
theorem Cmp.two (W W1:World) (S F:Array Value):Cmp W W1 (W1.heap.size+1) W1.heap.size S F ((W1.alloc (.cells F 36)).alloc (.cells S 36)).drew:=
 ⟨ai (by simp),(bE _ _ _ (by simp)).trans (ai rfl),(cO.alloc (by simp) _).drew,by omega,by omega,by omega⟩
theorem Ia (W0:World):UV W0 47 bK:=by
 intro M kb mF mT RZ RY R1 WN p hp rI W nF nT k q ps WO AZ dZ sd qC hpv;obtain ⟨⟨o,n,a,s⟩,⟨o',n',a',s'⟩,c⟩:=p;have pp90c:=();exact pm90
