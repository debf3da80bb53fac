/-
Plain laws of putting a term for a name,and of the least name that is not taken.
-/
import Derived.Test.YtokemihbkeddoaaGreatDoorU03
namespace Go.Proofs.YtokemihbkeddoaaGreatDoor
open Go Go.RowKit Lib
set_option maxRecDepth 100000
set_option maxHeartbeats 64000000
variable {sc:Bool} {x y:Str} {u:Tm} {o:Int} {a:Option Addr} {s:List Fm} {φ:Fm->Fm} {g:Fm} {t xs:List Str} {j b c lo i:Nat} {W' w:World} {e T:TypeId} {v:Value} {Q:Exit->Act->World->Prop} {ok:Nat->Prop} {ops:Array Oper} {rest:List Oper}
mutual
def qone:Fm->Bool | .mk o _ a s=>(!bh o || (s.length == 1 && a.isEmpty)) && ee s
def ee:List Fm->Bool | []=>true | t :: l=>qone t && ee l
end
mutual
theorem uF:∀ t,okF sc t=true->qone t=true
 | .mk o n a s,h=>by
  simp only[okF,af]at h;simp only[qone,af,Bool.or_eq_true];refine ⟨?_,G3 s h.2.2.2.2⟩;have h1:=h.2.1.2.2
  cases hq:bh o with
  | false=>exact .inl rfl
  | true=>
   simp only[bh,Bool.or_eq_true,dP]at hq;have e1:(rowOp o).2.2.2.2=1:=by rcases hq with rfl | rfl <;> decide
   have e2:(rowOp o).2.2.2.1=0:=by rcases hq with rfl | rfl <;> decide
   rw[e1]at h1;have h2:=h.2.1.2.1;rw[e2]at h2;have:a=[]:=List.length_eq_zero_iff.1 (by simpa using h2);subst this;exact .inr ⟨h1,rfl⟩
theorem G3:∀ t,cW sc t=true->ee t=true
 | [],_=>by simp[ee]
 | t :: l,h=>by simp only[cW,af]at h;simp[ee,uF t h.1,G3 l h.2]
end
/-! the least name that is not taken -/
def O5:List UInt8->Nat:=List.foldl (fun n c=>n * 10+(c.toNat - 48)) 0
theorem MM (l:List UInt8) (c:UInt8):O5 (l ++ [c])=O5 l * 10+(c.toNat - 48):=by simp[O5,List.foldl_append]
theorem Ap:∀ k n,n<10 ^ k->O5 (wB k n)=n
 | 0,n,h=>by simp at h;subst h;rfl
 | k+1,n,h=>by
  unfold wB;split
  ·show 0 * 10+((UInt8.ofNat (48+n)).toNat - 48)=n;have:(UInt8.ofNat (48+n)).toNat=48+n:=by simp[UInt8.toNat_ofNat'];omega
   omega
  ·rw[MM,Ap k (n / 10) (by rw[Nat.pow_succ]at h;omega)];have:(UInt8.ofNat (48+n % 10)).toNat=48+n % 10:=by simp[UInt8.toNat_ofNat'];omega
   omega
theorem MN {m n:Nat} (hm:m<10 ^ 20) (hn:n<10 ^ 20) (h:fF m=fF n):m=n:=by
 unfold fF at h;have h1:=congrArg O5 (List.cons.inj h).2
 rwa [Ap 20 m hm,Ap 20 n hn]at h1
theorem zy {α:Type} [DecidableEq α]:∀ (l t:List α),l.Nodup->(∀ x∈l,x∈t)->l.length<=t.length
 | [],t,_,_=>aX _
 | a :: l,t,hn,hs=>by
  obtain ⟨h1,h2⟩:=List.nodup_cons.1 hn;have ha:=hs a (f8 ..);have:=zy l (t.erase a) h2 (fun x hx=>(List.mem_erase_of_ne (fun e=>by subst e;exact h1 hx)).2 (hs x (fD _ hx)));rw[List.length_erase_of_mem ha]at this;have:=List.length_pos_of_mem ha;simp only[eR];omega
theorem tg (t:List Str) (ht:t.length<10 ^ 19):∀ k n,1<=n->n+k=t.length+1->(∀ i,1<=i->i<n->fF i∈t) →
  ma t k n ∉ t/\∃j,1<=j/\j<=t.length+1/\ma t k n=fF j/\∀ i,1<=i->i<j->fF i∈t
 | 0,n,h1,hk,hi=>by
  simp only[ma];refine ⟨fun hn=>?_,n,h1,by omega,rfl,hi⟩;have zu:((List.range' 1 n).map fF).Nodup:=by
   rw[List.nodup_iff_pairwise_ne,List.pairwise_map];refine (List.nodup_iff_pairwise_ne.1 List.nodup_range').imp_of_mem ?_;intro a b ha hb Cz he;rw[List.mem_range'_1]at ha hb;exact Cz (MN (by omega) (by omega) he)
  have:=zy _ t zu (fun x hx=>by
   obtain ⟨i,wi,rfl⟩:=List.mem_map.1 hx;rw[List.mem_range'_1]at wi
   by_cases e:i=n
   ·subst e;exact hn
   ·exact hi i wi.1 (by omega))
  simp at this;omega
 | k+1,n,h1,hk,hi=>by
  unfold ma;split
  ·rename_i hc;refine tg t ht k (n+1) (by omega) (by omega) (fun i h2 h3=>?_)
   by_cases e:i=n
   ·subst e;simpa using hc
   ·exact hi i h2 (by omega)
  ·rename_i hc;exact ⟨by simpa using hc,n,h1,by omega,rfl,hi⟩
theorem oh (t:List Str) (ht:t.length<10 ^ 19):c_ t ∉ t:=(tg t ht t.length 1 (aD _) (by omega) (fun i h1 h2=>by omega)).1
theorem qI (t:List Str) (ht:t.length<10 ^ 19):∃j,1<=j/\j<=t.length+1/\c_ t=fF j/\∀ i,1<=i->i<j->fF i∈t:=(tg t ht t.length 1 (aD _) (by omega) (fun i h1 h2=>by omega)).2
theorem O6:∀ k n,(wB k n).all DP=true
 | 0,n=>by simp[wB]
 | k+1,n=>by
  have h (m:Nat) (hm:m<10):DP (UInt8.ofNat (48+m))=true:=by
   have:m=0\/m=1\/m=2\/m=3\/m=4\/m=5\/m=6\/m=7\/m=8\/m=9:=by omega
   rcases this with rfl | rfl | rfl | rfl | rfl | rfl | rfl | rfl | rfl | rfl <;> decide
  unfold wB;split
  ·simp only[List.all_cons,List.all_nil,Bool.and_true];exact h n (by omega)
  ·rw[List.all_append,O6 k];simp only[List.all_cons,List.all_nil,Bool.and_true,du];exact h _ (by omega)
theorem zz:∀ k n j,n<10 ^ j->1<=j->(wB k n).length<=j
 | 0,n,j,_,_=>by simp[wB]
 | k+1,n,j,h,hj=>by
  unfold wB;split
  ·simpa using hj
  ·rw[dO]
   cases j with
   | zero=>omega
   | succ j=>
    cases j with
    | zero=>omega
    | succ j=>have:=zz k (n / 10) (j+1) (by rw[Nat.pow_succ]at h;omega) (by omega);simp;omega
theorem MO {n:Nat} (h:n<10 ^ 15):eC (fF n)=true:=by
 have h1:=zz 20 n 15 h (by omega);have h2:OK.contains (fF n)=false:=by
  unfold fF OK;simp
 unfold eC fF pF;unfold fF at h2;simp only[h2,Bool.not_false,du,O6,Bool.and_true,af,bp];exact ⟨by omega,by decide⟩
/-! a term put for a name -/
theorem ib (f:Str->Option Tm):∀ l,sw f l=l.map (gp f)
 | []=>by simp[sw]
 | t :: l=>by simp[sw,ib f l]
mutual
theorem Su (σ:Str->Dt) (x:Str) (u:Tm):∀ t,kI σ (le x u t)=kI (upd σ x (kI σ u)) t
 | .mk v n a=>by
  have ih:=qJ σ x u a;simp only[eu]at ih;unfold le gp
  cases v with
  | true=>
   by_cases h:n == x
   ·simp[h,kI,upd]
   ·simp[h,kI,upd]
  | false=>
   simp only[bW,↓reduceIte,kI];rw[<-ih];congr 2;exact (ib _ a)
theorem qJ (σ:Str->Dt) (x:Str) (u:Tm):∀ l,fV σ (eu x u l)=fV (upd σ x (kI σ u)) l
 | []=>by simp[eu,fV]
 | t :: l=>by
  have ih:=qJ σ x u l;simp only[eu]at ih ⊢;simp only[cz,fV,Su σ x u t,ih]
end
mutual
theorem Sv {x:Str} (hu:lV u=true):∀ t,lV t=true->lV (le x u t)=true
 | .mk v n a,h=>by
  have ih:=uG (x:=x) hu a;simp only[lV,af]at h;unfold le gp
  cases v with
  | true=>
   obtain rfl:a=[]:=by simpa using h.1
   by_cases h1:n == x
   ·simp[h1,hu]
   ·simp[h1,lV,sw,ep]
  | false=>
   simp only[bW,↓reduceIte,lV,Bool.not_false,Bool.true_or,du];rw[ib];exact ih h.2
theorem uG {x:Str} (hu:lV u=true):∀ l,ep l=true->ep (eu x u l)=true
 | [],_=>by simp[eu,ep]
 | t :: l,h=>by
  have ih:=uG (x:=x) hu l;simp only[eu]at ih ⊢;simp only[ep,af]at h;simp only[cz,ep,af];exact ⟨Sv hu t h.1,ih h.2⟩
end
mutual
theorem JI {x:Str} {y:Str}:∀ t,lV t=true->dv (le x (ao y) t)=dv t
 | .mk v n a,h=>by
  have ih:=qK (x:=x) (y:=y) a;simp only[lV,af]at h;unfold le gp
  cases v with
  | true=>
   obtain rfl:a=[]:=by simpa using h.1
   by_cases h1:n == x
   ·simp[h1,ao,dv]
   ·simp[h1,sw,dv]
  | false=>
   simp only[bW,↓reduceIte,dv];rw[ib];exact congrArg (·+1) (ih h.2)
theorem qK {x:Str} {y:Str}:∀ l,ep l=true->bG (eu x (ao y) l)=bG l
 | [],_=>by simp[eu]
 | t :: l,h=>by
  have ih:=qK (x:=x) (y:=y) l;simp only[eu]at ih ⊢;simp only[ep,af]at h;simp only[cz,bG,ih h.2,JI t h.1]
end
theorem LC (y:Str):lV (ao y)=true:=by simp[ao,lV,ep]
theorem MP (y:Str):aC (ao y)=[y]:=by simp[ao,aC,ap]
theorem lW {n:Str} {a:List Tm} (hq:bh o=true) (h:qone (.mk o n a s)=true):a=[]/\∃g,s=[g]:=by
 simp only[qone,af,Bool.or_eq_true,Bool.not_eq_true']at h;rcases h.1 with h | h
 ·rw[hq]at h;cases h
 ·exact ⟨by simpa using h.2,List.length_eq_one_iff.1 (by simpa using h.1)⟩
mutual
theorem JJ {x:Str} {y:Str}:∀ t,lV t=true->nodesT (le x (ao y) t)=nodesT t
 | .mk v n a,h=>by
  have ih:=qL (x:=x) (y:=y) a;simp only[lV,af]at h;unfold le gp
  cases v with
  | true=>
   obtain rfl:a=[]:=by simpa using h.1
   by_cases h1:n == x
   ·simp[h1,ao,nodesT]
   ·simp[h1,sw,nodesT]
  | false=>
   simp only[bW,↓reduceIte,nodesT];rw[ib];exact congrArg (·+1) (ih h.2)
theorem qL {x:Str} {y:Str}:∀ l,ep l=true->nodesTs (eu x (ao y) l)=nodesTs l
 | [],_=>by simp[eu]
 | t :: l,h=>by
  have ih:=qL (x:=x) (y:=y) l;simp only[eu]at ih ⊢;simp only[ep,af]at h;simp only[cz,nodesTs,ih h.2,JJ t h.1]
end
theorem Aq:∀ (s:List Fm),(∀ g∈s,nodesF (φ g)=nodesF g)->nodesFs (s.map φ)=nodesFs s
 | [],_=>rfl
 | g :: s,h=>by simp only[cz,nodesFs];rw[h g (f8 ..),Aq s (fun x hx=>h x (fD _ hx))]
theorem Ar:∀ (s:List Fm),(∀ g∈s,depthF (φ g)=depthF g)->aS (s.map φ)=aS s
 | [],_=>rfl
 | g :: s,h=>by simp only[cz,aS];rw[h g (f8 ..),Ar s (fun x hx=>h x (fD _ hx))]
theorem iD:∀ (s:List Fm),el s=true ↔ ∀ g∈s,gS g=true
 | []=>by simp[el]
 | g :: s=>by simp[el,iD s]
theorem gy:∀ (s:List Fm),ee s=true ↔ ∀ g∈s,qone g=true
 | []=>by simp[ee]
 | g :: s=>by simp[ee,gy s]
theorem iR:∀ (s:List Fm) (g:Fm),g∈s->depthF g<=aS s
 | [],g,h=>by cases h
 | x :: s,g,h=>by
  simp only[aS];rcases cd.1 h with rfl | h
  ·omega
  ·have:=iR s g h;omega
theorem jR:∀ (s:List Fm) (g:Fm),g∈s->nodesF g<=nodesFs s
 | [],g,h=>by cases h
 | x :: s,g,h=>by
  simp only[nodesFs];rcases cd.1 h with rfl | h
  ·omega
  ·have:=jR s g h;omega
mutual
theorem mh:∀ t,(aC t).length<=nodesT t
 | .mk v n a=>by
  have:=th a;simp only[aC,nodesT];split <;> simp <;> omega
theorem th:∀ t,(ap t).length<=nodesTs t
 | []=>by simp[ap]
 | t :: l=>by have:=mh t;have:=th l;simp only[ap,nodesTs,dO];omega
end
mutual
theorem eY:∀ (f:Fm) (b:List Str),(aL b f).length<=nodesF f
 | .mk o n a s,b=>by
  have h1:=th a;have h2:=D2 s (if bh o then n :: b else b);have h3:=List.length_filter_le (fun x=>!b.contains x) (ap a);simp only[aL,nodesF,dO];omega
theorem D2:∀ (f:List Fm) (b:List Str),(bq b f).length<=nodesFs f
 | [],b=>by simp[bq]
 | t :: l,b=>by have:=eY t b;have:=D2 l b;simp only[bq,nodesFs,dO];omega
end
theorem jS (f:Fm):1<=depthF f:=by obtain ⟨o,n,a,s⟩:=f;simp[depthF]
theorem mH {k:Nat} {n:Str} {a:List Tm} (hq:bh o=true):eW (k+1) x u (.mk o n a [g]) =
  if n == x || !(aL [] g).contains x then .mk o n a [g]
  else if (aC u).contains n then .mk o (c_ (aL [] g ++ aC u)) (eu x u a) [eW k x u (eW k n (ao (c_ (aL [] g ++ aC u))) g)]
  else .mk o n (eu x u a) [eW k x u g]:=by
 simp only[eW,hq,if_true]
theorem qM {k:Nat} {n:Str} {a:List Tm} (hq:bh o=false):eW (k+1) x u (.mk o n a s)=.mk o n (eu x u a) (s.map (eW k x u)):=by
 simp only[eW,hq,bW,↓reduceIte]
theorem eP:∀ (k:Nat) (f:Fm) (x y:Str),gS f=true->qone f=true->depthF f<=k->gS (eW k x (ao y) f)=true/\qone (eW k x (ao y) f)=true/\depthF (eW k x (ao y) f)=depthF f/\nodesF (eW k x (ao y) f)=nodesF f
 | 0,f,x,y,hw,hq,hd=>by have:=jS f;omega
 | k+1,.mk o n a s,x,y,hw,hq1,hd=>by
  have m6:=hw;have pp112a:=();exact pm112
theorem uH (σ:Str->Dt) (h:x≠y) (u v:Dt):upd (upd σ x u) y v=upd (upd σ y v) x u:=by
 funext z
 unfold upd
 by_cases h1:z=x
 ·subst h1;have:(z == y)=false:=by simpa using h
  simp[this]
 ·have:(z == x)=false:=by simpa using h1
  simp[this]
theorem G4 {n:Str} (h:(aC u).contains n=false) (σ:Str->Dt) (v:Dt):kI (upd σ n v) u=kI σ u:=by
 refine G1 u (fun z hz=>?_);unfold upd;split
 ·rename_i h1;rw[dP]at h1;subst h1;have:(aC u).contains z=true:=by simpa using hz
  rw[h]at this;cases this
 ·rfl
theorem G5 (φ:Fm->Fm) (σ τ:Str->Dt) (d:Nat):∀ (s:List Fm),(∀ g∈s,dbF σ d (φ g)=dbF τ d g)->fL σ d (s.map φ)=fL τ d s
 | [],_=>rfl
 | g :: s,h=>by simp only[cz,fL];rw[h g (f8 ..),G5 φ σ τ d s (fun x hx=>h x (fD _ hx))]
theorem G6 {m:Str} (h:m ∉ aL [] g) (σ:Str->Dt) (v:Dt) (d:Nat):dbF (upd σ m v) d g=dbF σ d g:=by
 refine uD g _ _ d (fun z hz=>?_);unfold upd;split
 ·rename_i h1;rw[dP]at h1;subst h1;exact absurd hz h
 ·rfl
theorem oY:∀ (k:Nat) (f:Fm) (x:Str) (u:Tm) (σ:Str->Dt) (d:Nat),gS f=true->qone f=true->depthF f<=k->nodesF f+nodesT u<10 ^ 19->dbF σ d (eW k x u f)=dbF (upd σ x (kI σ u)) d f
 | 0,f,x,u,σ,d,hw,hq,hd,hn=>by have:=jS f;omega
 | k+1,.mk o n a s,x,u,σ,d,hw,hq1,hd,hn=>by
  have pp112b:=();exact pm112
theorem O7:∀ k n,n<10 ^ (k+1)->wB (k+1) n=Lib.decDigits n:=by
 intro k
 induction k with
 | zero=>intro n h;rw[wB,au (by omega),Lib.decDigits,dif_pos (by omega)]
 | succ k ih=>
  intro n h;rw[wB,Lib.decDigits]
  by_cases hn:n<10
  ·rw[au hn,dif_pos hn]
  ·rw[ak hn,dif_neg hn,ih (n / 10) (by rw[Nat.pow_succ]at h;omega)]
theorem JK {n:Nat} (h:n<10 ^ 20):fF n=120 :: Lib.itoa (n:Int):=by
 unfold fF;rw[O7 19 n h,Lib.itoa,ak (by omega)];simp
theorem G7 (ht:t.length<10 ^ 19) (h1:1<=j) (hn:fF j ∉ t) (hb:∀ i,1<=i->i<j->fF i∈t):c_ t=fF j:=by
 obtain ⟨j',VZ,pN,he,Ol⟩:=qI t ht;have D3:=oh t ht;rw[he]at D3;rcases Nat.lt_trichotomy j j' with h | h | h
 ·exact absurd (Ol j h1 h) hn
 ·rw[he,h]
 ·exact absurd (hb j' VZ h) D3
theorem JL (ht:t.length<10 ^ 19) {n:Nat} (hb:∀ i,1<=i->i<n->fF i∈t):n<=t.length+1:=by
 obtain ⟨j',VZ,pN,he,_⟩:=qI t ht;have D3:=oh t ht;rw[he]at D3
 by_cases h:j'<n
 ·exact absurd (hb j' VZ h) D3
 ·omega
theorem D4 {t':List Str} (ht:t.length<10 ^ 19) (ht':t'.length<10 ^ 19) (h:∀ x,x∈t ↔ x∈t'):c_ t=c_ t':=by
 obtain ⟨j',VZ,pN,he,Ol⟩:=qI t' ht';have D3:=oh t' ht';rw[he]at D3 ⊢;exact G7 ht VZ (fun hx=>D3 ((h _).1 hx)) (fun i h1 h2=>(h _).2 (Ol i h1 h2))
def LE:Value->Option (DataW Value×List MemPlace):=fun v=>some (.held v,[])
def MapV (P:Program) (k:TypeId) {α:Type} (V:Value->α->Prop) (W:World) (m n:Nat) (l:List (Str×α)):Prop:=
 ∃D:DataW Value,W.ownsMap P k LE m n D/\∀ x:Str,(getB l x=none->Maps.has D (.string x)=false)/\∀ a,getB l x=some a->Maps.has D (.string x)=true/\∃v,(∀ d,D.atKey (.string x) d=.held v)/\V v a
section
variable {P:Program} {k:TypeId} {α:Type} {V:Value->α->Prop} {W:World} {m n:Nat} {l:List (Str×α)}
theorem MapV.lt (h:MapV P k V W m n l):m<W.heap.size:=by obtain ⟨D,h,_⟩:=h;exact h.lt
theorem MapV.move {V':Value->α->Prop} (h:MapV P k V W m n l) (hb:W'.heap[m]?=W.heap[m]?) (hV:∀ x v a,getB l x=some a->V v a->V' v a):MapV P k V' W' m n l:=by
 obtain ⟨D,⟨es,z9,h1,F,h2,h3⟩,hx⟩:=h;refine ⟨D,⟨es,z9,hb.trans h1,F,h2,h3⟩,fun x=>⟨(hx x).1,fun a ha=>?_⟩⟩;obtain ⟨h4,v,h5,h6⟩:=(hx x).2 a ha;exact ⟨h4,v,h5,hV x v a ha h6⟩
theorem MapV.made (w:World):MapV P k V (w.alloc (.map #[] 0)) w.heap.size 0 []:=
 ⟨_,World.ownsMap_made w _ _ _,fun x=>⟨fun _=>by simp[Maps.has],fun a ha=>by simp[getB]at ha⟩⟩
theorem wQ (hk:P.underlying k=some .string) (hx:x.length<=2000000):keyOf P k (.string ⟨x.toArray⟩)=some (.string x):=by
 have h:(⟨x.toArray⟩:ByteArray).size<=maxLen:=by have e:(⟨x.toArray⟩:ByteArray).size=x.length:=rfl;rw[e];unfold maxLen;omega
 rw[WideMaps.keyOf_string_mk hk h]
theorem MapV.look (h:MapV P k V W m n l) (hk:P.underlying k=some .string) {t:TypeId} (ht:P.underlying t=some (.map k e)) {z:Value} (hz:∀ W,(zeroValue e).run P W=.ok z W) (hx:x.length<=2000000) :
  (getB l x=none/\(∀ W',W'.heap[m]?=W.heap[m]?->(Instr.lookup t (.map (some m)) (.string ⟨x.toArray⟩) true).run P W'=.ok (.tuple #[z,.bool false]) W'/\(Instr.lookup t (.map (some m)) (.string ⟨x.toArray⟩) false).run P W'=.ok z W')) ∨
  (∃a v,getB l x=some a/\V v a/\∀ W',W'.heap[m]?=W.heap[m]?->(Instr.lookup t (.map (some m)) (.string ⟨x.toArray⟩) true).run P W'=.ok (.tuple #[v,.bool true]) W'/\(Instr.lookup t (.map (some m)) (.string ⟨x.toArray⟩) false).run P W'=.ok v W'):=by
 obtain ⟨D,⟨es,z9,hb,F,hs,hD⟩,qg⟩:=h;have MI:=wQ hk hx;have K:=Maps.string_keyed hk
 cases hg:getB l x with
 | none=>
  left;refine ⟨rfl,fun W' hW=>?_⟩;have h0:=(qg x).1 hg;have h1:∀ c,(Instr.lookup t (.map (some m)) (.string ⟨x.toArray⟩) c).run P W'=.ok (if c then .tuple #[z,.bool false] else z) W':=fun c=>by
   rcases Maps.fit_look c K ht (hz W') (hW.trans hb) F MI with ⟨hr,_⟩ | ⟨e0,y,_,_,_,_,hat,_⟩
   ·exact hr
   ·rw[<-hD]at hat;rw[Maps.has_true_of_atKey hat]at h0;cases h0
  exact ⟨h1 true,h1 false⟩
 | some a=>
  right;obtain ⟨h4,v,h5,h6⟩:=(qg x).2 a hg;refine ⟨a,v,rfl,h6,fun W' hW=>?_⟩;have h1:∀ c,(Instr.lookup t (.map (some m)) (.string ⟨x.toArray⟩) c).run P W'=.ok (if c then .tuple #[v,.bool true] else v) W':=fun c=>by
   rcases Maps.fit_look c K ht (hz W') (hW.trans hb) F MI with ⟨_,_,hat⟩ | ⟨e0,y,_,_,hr,hR,hat,_⟩
   ·rw[<-hD]at hat;rw[Maps.has_false_of_atKey hat]at h4;cases h4
   ·rw[<-hD]at hat;have:=(hat .nil).symm.trans (h5 .nil);unfold LE at hR;cases hR;simp at this;rw[<-this];exact hr
  exact ⟨h1 true,h1 false⟩
theorem MapV.store (h:MapV P k V W m n l) (hk:P.underlying k=some .string) {t:TypeId} (ht:P.underlying t=some (.map k e)) (hn:n<4000000) (hx:x.length<=2000000) {a:α} {l':List (Str×α)} {V':Value->α->Prop}
  (hv:V' v a) (hV:∀ y v b,y≠x->getB l y=some b->V v b->V' v b) (hl:∀ y,getB l' y=if y=x then some a else getB l y) :
  ∃w',(Instr.mapUpdate t (.map (some m)) (.string ⟨x.toArray⟩) v).run P W=.ok () w'/\MapV P k V' w' m (n+1) l'/\W.grownBy w' (some m)/\w'.heap.size=W.heap.size:=by
 obtain ⟨D,aA,qg⟩:=h;have MI:=wQ hk hx;have K:=Maps.string_keyed hk;obtain ⟨w',hr,ho,ht2⟩:=aA.store K ht (by unfold maxLen;omega) MI (val:=v) (d:=.held v) (ps:=[]) rfl;refine ⟨w',hr,⟨_,ho,fun y=>?_⟩,ht2.grown,?_⟩
 ·rw[hl y]
  by_cases hy:y=x
  ·subst hy;rw[au rfl];refine ⟨fun h=>(by cases h),fun b hb=>?_⟩;cases hb;refine ⟨Maps.has_put_same aA.isMap (by simp[WideAt.IsKeyLit]) _,v,fun d=>Maps.atKey_put_same aA.isMap (by simp[WideAt.IsKeyLit]) _ _,hv⟩
  ·rw[ak hy];have jZ:(Lit.string y)≠.string x:=fun e=>hy (by injection e);refine ⟨fun h=>?_,fun b hb=>?_⟩
   ·rw[Maps.has_put_other jZ];exact (qg y).1 h
   ·obtain ⟨h4,u,h5,h6⟩:=(qg y).2 b hb;exact ⟨by rw[Maps.has_put_other jZ];exact h4,u,fun d=>by rw[Maps.atKey_put_other jZ];exact h5 d,hV y u b hy hb h6⟩
 ·obtain ⟨es,z9,St,V0,hb,rfl⟩:=ht2;simp[ChangeMaps.setBlock]
end
structure Later (W:World) where
 w:World
 below:Below W.heap.size W w
instance Later.inhab (W:World):Nonempty (Later W):=⟨⟨W,aj _ _⟩⟩
theorem Later.cell {W:World} (x:Later W) {o:Nat} (h:b<W.heap.size):x.w.cell? ⟨b,o,none⟩=W.cell? ⟨b,o,none⟩:=x.below.cell (p:=⟨b,o,none⟩) h
theorem Later.get {W:World} {a:Addr} (h:W.cell? a=some v) (x:Later W):x.w.cell? a=some v:=aa x.below h
theorem bO {P:Program} {f:FuncId} {args:Array Value} {W:World} {x:Later W}
  (h:Calls P f args x.w fun e w'=>e=.returned v/\Below x.w.heap.size x.w w'):Calls P f args x.w fun e OF=>e=.returned v/\∃y:Later W,OF=y.w:=
 h.mono fun _ OF ⟨he,hb⟩=>⟨he,⟨OF,x.below.trans (hb.mono x.below.size)⟩,rfl⟩
theorem aH {P:Program} {id:Nat} {a:Act} {l:List Oper} (hm:P.follows .mixedOrders=true) (hB:Region.lexB .any l.toArray=true)
  (h:wpQuiet P l.toArray (fun w'=>∃x:Later w,w'=x.w) (fun a'=>∀ w',(∃x:Later w,w'=x.w)->Q .normal a' w') l a):(Code.region id l.toArray true).wp P Q a w:=
 wp_region_quiet (C:=fun w'=>∃x:Later w,w'=x.w) hm hB ⟨⟨{ w with drawn:=w.drawn+1 },⟨rfl,rfl,rfl,aD _,fun _ _=>rfl⟩⟩,rfl⟩ (by simpa using h)
def StrsV (W:World) (v:Value) (l:List Str):Prop:=∃a cap,v=.slice a l.length cap/\l.length<=cap/\(l=[]\/∃b off,a=some ⟨b,off,none⟩/\∀ j (h:j<l.length),W.cell? ⟨b,off+j,none⟩=some (.string ⟨l[j].toArray⟩))
theorem StrsV.later {W:World} {l:List Str} (h:StrsV W v l) (hb:Below W.heap.size W W'):StrsV W' v l:=by
 exact pm124
theorem StrsV.len {W:World} {n:Nat} {l:List Str} (h:StrsV W (.slice a n c) l):n=l.length:=by
 obtain ⟨a',cap,hv,_⟩:=h;injection hv
theorem StrsV.get {W:World} {n:Nat} {l:List Str} (h:StrsV W (.slice a n c) l) (hj:j<l.length) :
  ∃b off,a=some ⟨b,off,none⟩/\∀ j (h:j<l.length),W.cell? ⟨b,off+j,none⟩=some (.string ⟨l[j].toArray⟩):=by
 have pp269a:=();exact pm269
theorem Fa {l:List Str} {k:Nat} (h:k+1<l.length):dK (l.drop k)=(Op.bytesLess l[k] l[k+1] && dK (l.drop (k+1))):=by
 rw[gj (by omega:k<l.length),gj h,dK,<-gj h]
theorem G8 {l:List Str} {k:Nat} (h:l.length<=k+1):dK (l.drop k)=true:=by
 have hl:(l.drop k).length<=1:=by rw[List.length_drop];omega
 match hd:l.drop k with
 | []=>rfl
 | [x]=>rfl
 | _ :: _ :: _=>rw[hd]at hl;simp at hl
theorem uI (l:List Str) (hlen:l.length<=1000000000) (w:World) (v:Value) (hv:StrsV w v l) :
  Calls Tryz.prog 70 #[v] w fun e w'=>e=.returned (.bool (dK l))/\Below w.heap.size w w':=by
 obtain ⟨a,n,c,rfl⟩:∃a n c,v=.slice a n c:=by obtain ⟨a,c,h,_⟩:=hv;exact ⟨_,_,_,h⟩
 obtain rfl:=hv.len;obtain ⟨n0,ti⟩:=am l.length;obtain ⟨R,hR⟩:=am (dK l);rw[<-ti]at hlen;rw[<-ti,<-hR];obtain ⟨HN,HV,HR⟩:=cH ti hv hR;clear ti hv hR;go_enter Tryz.func70,Tryz.ntmps70;go_wp2;go_loopw [3] (fun i wr=>∃k:Nat,(k=0\/k<n0)/\i=.int .i64 ((k:Int)+1)/\Below w.heap.size w wr/\R=dK (l.drop k)) (fun i _=>n0 - (intOf i).toNat)
 case atStart=>exact ⟨0,.inl rfl,rfl,aj _ _,by simpa using HR.o⟩
 case round=>
  obtain ⟨k,hk,rfl,ar,ht⟩:=hrel
  by_cases hlt:k+1<n0
  ·have bg:k+1<l.length:=by rw[<-HN.o];exact hlt
   obtain ⟨b,off,rfl,hc⟩:=HV.o.get bg;have c0:=aa ar (hc k (by omega));have c1:=aa ar (hc (k+1) bg);rw[Fa bg]at ht;obtain ⟨x,hx⟩:=am (l[k]);obtain ⟨y,hy⟩:=am (l[k+1]);rw[<-hx]at ht c0;rw[<-hy]at ht c1;have f0:=fun z:Later wr=>z.get c0;have f1:=fun z:Later wr=>z.get c1;have As:(k:Int)+1<(n0:Int):=by omega
   obtain ⟨HB,HT⟩:=aW ar ht;clear ar ht hc c0 c1 hx hy;have pp83a:=();exact pm83
  ·have HE:=ac (show R=true by rw[ht];exact G8 (by rw[<-HN.o];omega));have HB:=ac ar;have zcd:decide ((k:Int)+1<(n0:Int))=false:=by simp;omega
   clear ar ht;go_wp2;go_ret;exact ⟨az HE.o.symm,HB.o⟩
section
attribute [local go_sem] Oper.semAt_some
def StrsO (ok:Nat->Prop) (W:World) (v:Value) (l:List Str):Prop:=∃a cap,v=.slice a l.length cap/\l.length<=cap/\(l=[]\/∃b off,a=some ⟨b,off,none⟩/\ok b/\∀ j (h:j<l.length),W.cell? ⟨b,off+j,none⟩=some (.string ⟨l[j].toArray⟩))
theorem StrsO.get {W:World} {n:Nat} {l:List Str} (h:StrsO ok W (.slice a n c) l) (hj:j<l.length) :
  ∃b off,a=some ⟨b,off,none⟩/\ok b/\W.cell? ⟨b,off+j,none⟩=some (.string ⟨l[j].toArray⟩):=by
 have pp269b:=();exact pm269
theorem StrsO.len {W:World} {n:Nat} {l:List Str} (h:StrsO ok W (.slice a n c) l):n=l.length:=by
 obtain ⟨_,_,hv,_⟩:=h;injection hv
theorem StrsO.slice {W:World} {l:List Str} (h:StrsO ok W v l):∃a c,v=.slice a l.length c:=by obtain ⟨a,c,hv,_⟩:=h;exact ⟨a,c,hv⟩
theorem StrsO.move {ok':Nat->Prop} {W:World} {l:List Str} (h:StrsO ok W v l) (hb:fk ok ok' W W'):StrsO ok' W' v l:=by
 have pp254a:=();exact pm254
theorem StrsO.later {W:World} {l:List Str} (h:StrsO ok W v l) (hb:Below W.heap.size W W'):StrsO ok W' v l:=h.move (dw hb)
theorem StrsO.any {W:World} {l:List Str} (h:StrsO ok W v l):StrsV W v l:=by
 have pp254b:=();exact pm254
theorem RowS.strs {W:World} {l:List Str} (h:RowS lo W v l):StrsO (lo<=·) W v l:=by
 obtain ⟨⟨hl,h1⟩,_⟩:=h;exact pm99
theorem JM (a:Option Addr) (n c:Nat) (w:World) :
  Calls Tryz.prog 199 #[.slice a n c] w fun e w'=>e=.returned (.func (.func 249) #[] #[.pointer (some ⟨w.heap.size,0,none⟩)])/\w'=w.alloc (.cells #[.slice a n c] 66):=by
 go_enter Tryz.func199,Tryz.ntmps199;go_wp2;go_ret;exact ⟨rfl,rfl⟩
theorem G9 {α:Type} {l:List α} {k:Nat} (h:k<l.length):(l.take k ++ [l[k]]) <+: l:=by
 rw[<-nV h];exact List.take_prefix _ _
theorem JN (xs:List Str) (hl:xs.length<=2000000) (M:Nat->Prop) (X:Nat) (w:World) (a:Option Addr) (c:Nat) (hX:w.heap[X]?=some (.cells #[.slice a xs.length c] 66 (0,0))) (I6:¬M X) (hv:StrsO (fun b=>¬M b) w (.slice a xs.length c) xs) :
  Jn M False Tryz.prog 249 #[.pointer (some ⟨X,0,none⟩)] xs z8 w:=by
 intro l J Jx W hk hM hlt YZ hJ _ hY hj;have RR:=(bz hX);have yP:=(hk.same X RR I6).trans hX;have c0:W.cell? ⟨X,0,none⟩=some (.slice a xs.length c):=ah yP 0;have hv:=hv.move (W':=W) (ok':=fun b=>¬M b) (fun b hb hlt=>⟨hb,hk.same b hlt hb⟩);obtain ⟨n0,ti⟩:=am xs.length;rw[<-ti]at c0 hl hv;obtain ⟨HN,HV,HY⟩:=cH ti hv hY;have HJ0:=ac (show J (xs.take 0) W from hj);clear hX I6 hv hY hj ti yP hk hM hlt YZ hJ RR;refine m4 Tryz.func249 ?_;simp only[Tryz.ntmps249,Nat.reduceAdd,Nat.reduceSub,lu];have iz:=fd;gi_wp2;gi_loopw [7] (fun i wr=>∃k:Nat,k<=n0/\i=.int .i64 k/\J (xs.take k) wr/\Kp M W wr) (fun i _=>n0 - (intOf i).toNat)
 case atStart=>exact ⟨0,aX _,rfl,HJ0.o,Kp.refl _⟩
 case round=>
  obtain ⟨k,hk,rfl,hj,bj⟩:=hrel
  by_cases hlt:k<n0
  ·have bg:=ce HN.o hlt;obtain ⟨b,off,rfl,ja,c1⟩:=HV.o.get bg;have d1:=bj.cell ja c1;obtain ⟨x,hx⟩:=am (xs[k]);rw[<-hx]at d1;have gz:xs.take (k+1)=xs.take k ++ [x]:=by rw[hx];exact nV bg
   have rX:=HY.o (xs.take k) #[.string ⟨x.toArray⟩] x wr hj bj rfl (by rw[hx];exact G9 bg);obtain ⟨fn,tmps,assign,body,hy,GR⟩:=jK 2 rX;obtain ⟨uJ,kL⟩:=aW gz bj;clear gz bj hj rX c1 hx;gi_wp2;refine GR.mono ?_;rintro e W2 (⟨rfl,xO,iO⟩ | ⟨h,_⟩)
   ·have HH:=aG xO iO;clear xO iO GR hy d1;gi_wp2;go_roundw
    case rel=>exact ⟨k+1,by omega,by go_num,by rw[uJ.o];exact HH.o.1,kL.o.trans HH.o.2⟩
    case measure=>simp[intOf];omega
   ·exact h.elim
  ·obtain rfl:n0=k:=by omega
   have ht:xs.take n0=xs:=by rw[HN.o];exact cY
   rw[ht]at hj;have HH:=aG hj bj;clear hj bj ht;gi_wp2;exact ⟨rfl,.tuple #[],by simp[results,Tryz.results249,go_sem],⟨_,rfl⟩,.inl HH.o⟩
theorem tj {H:Type} {P:Program} (he:P.underlying e=some .bool) {z:DataW H×List MemPlace} (h:plainElem P e v=some z) {x:Bool} (hx:z.1=.lit (.bool x)):v=.bool x:=by
 unfold plainElem at h;rw[he]at h;cases v <;> simp at h
 subst h;simp at hx;rw[hx]
theorem SetW.look {W:World} {m n:Nat} (h:SetW W m n xs) (hx:x.length<=2000000) :
  ∀ W':World,W'.heap[m]?=W.heap[m]?->(Instr.lookup 118 (.map (some m)) (.string ⟨x.toArray⟩) false).run Tryz.prog W'=.ok (.bool (xs.contains x)) W':=by
 obtain ⟨D,⟨es,z9,hb,F,hs,hD⟩,z',yT⟩:=h;intro W' hW;have hz:(zeroValue 4).run Tryz.prog W'=.ok (.bool false) W':=by kernel_rfl
 rcases Maps.fit_look false (Maps.string_keyed Tryz.underlying9) Tryz.underlying118 hz (hW.trans hb) F (wQ Tryz.underlying9 hx) with ⟨hr,_,hat⟩ | ⟨e0,y,_,_,hr,hR,hat,_⟩
 ·rw[<-hD]at hat;have h0:=Maps.has_false_of_atKey hat;have hn:¬x∈xs:=fun hm=>by rw[(z' x).2 hm]at h0;cases h0
  rw[hr];simp[hn]
 ·rw[<-hD]at hat;have hm:=(z' x).1 (Maps.has_true_of_atKey hat);have h1:=(hat .nil).symm.trans (yT x hm .nil);have h2:=tj Tryz.underlying4 hR h1;rw[hr,h2];simp[hm]
def Z9 (W:World) (v:Value) (G':List (List Str)):Prop:=∃b off cap,v=.slice (some ⟨b,off,none⟩) G'.length cap/\∀ j (h:j<G'.length),∃m n,W.cell? ⟨b,off+j,none⟩=some (.map (some m))/\SetW W m n G'[j]
theorem xW {W:World} {m n:Nat} (h:SetW W m n xs) (hb:Below W.heap.size W W'):SetW W' m n xs:=h.same (hb.block m h.lt)
theorem MQ {n:Nat} (h:n<10 ^ 15):(fF n).length<=16:=by
 unfold fF;have:=zz 20 n 15 h (by omega);simp;omega
theorem G_ (w:World) (k:Nat) (os:Array Obj):Below w.heap.size w (Go.Sort.grow (w.drewN k) os):=
 ⟨rfl,rfl,rfl,by simp[Go.Sort.grow],fun b hb=>by simp only[Go.Sort.grow,World.drewN];rw[Array.getElem?_append_left hb]⟩
theorem O8 (W0 w:World) (hT:Tabs W0 w) (k:Nat) (hk:k<1000000000):Calls Tryz.prog 219 #[.int .i64 (k:Int)] w fun e w'=>e=.returned (.string ⟨(Lib.itoa (k:Int)).toArray⟩)/\Below w.heap.size w w':=by
 refine (Tryz.strconv_Itoa (k:Int) (by omega) (by omega) w hT.t0.pow).mono ?_;rintro e w' ⟨rfl,n,os,rfl⟩;exact ⟨rfl,G_ _ _ _⟩
theorem MR (W0 w:World) (hT:Tabs W0 w) (v:Value) (G':List (List Str)) (hlen:G'.flatten.length<=100000000) (nS:G'.length<=2000000) (hv:Z9 w v G') :
  Calls Tryz.prog 156 #[v] w fun e w'=>e=.returned (.string ⟨(c_ G'.flatten).toArray⟩)/\Below w.heap.size w w':=by
 obtain ⟨b,off,cap,rfl,fh⟩:=hv;obtain ⟨T,hTt⟩:=am G'.flatten;rw[<-hTt]at hlen ⊢;obtain ⟨k0,bX⟩:=am G'.length;rw[<-bX]at nS ⊢;obtain ⟨HT,mZ,dA,tk⟩:=eH hT hTt bX fh;clear hT hTt bX fh;go_enter Tryz.func156,Tryz.ntmps156;go_wp2;go_step3;go_wp2;go_step3;go_wp2;go_loopg [3] (T.length+2) (fun g i wr=>∃k:Nat,k+g=T.length+2/\i=.int .i64 k/\(∀ j,1<=j->j<k+1->fF j∈T)/\Below w.heap.size w wr)
 case atStart=>exact ⟨0,by omega,rfl,fun j h1 h2=>by omega,aj _ _⟩
 case round=>
  obtain ⟨k,hkg,rfl,eI,hB⟩:=hrel;have hkT:=JL (t:=T) (by omega) eI
  cases gk with
  | zero=>omega
  | succ g1=>
   have CI:=O8 W0 wr (HT.o.next hB) (k+1) (by omega);have wM:=MQ (n:=k+1) (by omega);have Z':=JK (n:=k+1) (by omega);obtain ⟨nm,dD⟩:=am (fF (k+1));rw[<-dD]at wM Z';obtain ⟨dg,hdg⟩:∃dg:List UInt8,dg=Lib.itoa ((k+1:Nat):Int):=⟨_,rfl⟩;rw[<-hdg]at CI Z';have hsx:∀ W,(Op.stringOp .add ⟨#[120]⟩ ⟨dg.toArray⟩).run Tryz.prog W=.ok (.string ⟨nm.toArray⟩) W:=fun W=>by
    rw[run_string_add_sum W _ _ (by rw[Z']at wM;simp at wM;have e:(⟨#[120]⟩:ByteArray).size=1:=rfl;have e2:(⟨dg.toArray⟩:ByteArray).size=dg.length:=rfl;rw[e,e2];omega),Z'];congr 2
   obtain ⟨Uo,Jy,HXl,Z_,HB⟩:=t5 CI dD wM eI hB;clear CI dD wM Z' hdg eI hB;go_wp2_with (go_at_call 219;refine Uo.o.mono ?_;rintro e w2 ⟨rfl,bB⟩;have cw:=ac (HB.o.trans (bB.mono HB.o.size));clear bB);go_loopg [14] k0 (fun g i wr=>∃j:Nat,j+g=k0/\i=.int .i64 j/\(∀ (q:Nat) (hq:q<G'.length),q<j->nm ∉ G'[q])/\wr=w2)
   case atStart=>exact ⟨0,by omega,rfl,fun q hq h=>by omega,rfl⟩
   case round=>
    obtain ⟨j,hjg,rfl,Jk,rfl⟩:=hrel
    cases gk with
    | zero=>
     obtain rfl:j=k0:=by omega
     have HE:=ac (show c_ T=nm by
      rw[Jy.o];refine G7 (by omega) (by omega) ?_ Z_.o;rw[<-Jy.o,mZ.o];intro hm;obtain ⟨l,hl,hx⟩:=List.mem_flatten.1 hm;obtain ⟨q,hq,rfl⟩:=List.getElem_of_mem hl;exact Jk q hq (by rw[dA.o];exact hq) hx)
     clear Jk;go_wp2;rw[Exit.noGoto_ret];go_ret;exact ⟨by rw[HE.o];rfl,cw.o⟩
    | succ g=>
     have lr:j<G'.length:=by rw[<-dA.o];omega
     obtain ⟨m,n,hc,hs⟩:=tk.o j lr;have hc:=aa cw.o hc;have hl:=(xW hs cw.o).look (x:=nm) (by have:=HXl.o;omega) wr rfl;have sq:(j:Int)<(k0:Int):=by omega
     by_cases hx:G'[j].contains nm=true
     ·rw[hx]at hl;have HX:=ac (show fF (k+1)∈T by
       rw[<-Jy.o,mZ.o];exact List.mem_flatten.2 ⟨_,aw lr,by simpa using hx⟩)
      clear hx Jk hs;go_wp2;go_roundg g1
      case rel=>exact ⟨k+1,by omega,by go_num,fun i h1 h2=>by
       by_cases e:i=k+1
       ·subst e;exact HX.o
       ·exact Z_.o i h1 (by omega),cw.o⟩
      case measure=>omega
     ·rw[show G'[j].contains nm=false by simpa using hx]at hl;have HN:=ac (show ∀ (q:Nat) (hq:q<G'.length),q<j+1->nm ∉ G'[q] from fun q hq h=>by
       by_cases e:q=j
       ·subst e;simpa using hx
       ·exact Jk q hq (by omega))
      clear hx Jk hs;go_wp2;go_roundg g
      case rel=>exact ⟨j+1,by omega,by go_num,HN.o,rfl⟩
      case measure=>omega
theorem D5 (W0 w:World) (hT:Tabs W0 w) (xs:List Str) (hl:xs.length<=1000000) (dD:∀ x∈xs,x.length<=2000000) (ok:Nat->Prop) (v:Value) (hv:StrsO ok w v xs) :
  Calls Tryz.prog 129 #[v] w fun e w'=>e=.returned (.string ⟨(c_ xs).toArray⟩)/\Below w.heap.size w w':=by
 obtain ⟨a,c,rfl⟩:=hv.slice;have C5:=hv.move (ok':=fun b=>b<w.heap.size) (W':=w) (fun b hb hlt=>⟨hlt,rfl⟩);obtain ⟨W1,bY⟩:=am (w.alloc (.cells #[.slice a xs.length c] 66));have hb1:=cV bY;have gY:=Gx bY;have rY:=bU bY;have C2:=E3 xs (by omega) dD 249 #[.pointer (some ⟨w.heap.size,0,none⟩)] W1 (enters_of Tryz.func249 (by kernel_rfl) rfl)
  (fun w1 hb hlt=>JN xs (by omega) (fun b=>b=W1.heap.size) w.heap.size w1 a c ((hb.block _ (by omega)).trans rY) (by omega) (C5.move (fun b bB eJ=>⟨by omega,(hb.block b (by omega)).trans (hb1.block b eJ)⟩)))
 rw[gY]at C2;have CL:=fun (w3:World) (hs:SetW w3 (w.heap.size+1) xs.length xs) (aM:Below (w.heap.size+1) W1 w3)=>
  have iC:Below w.heap.size w w3:=hb1.trans (aM.mono (by omega));have C6:Below w3.heap.size w3 (w3.alloc (.cells #[.map (some (w.heap.size+1))] 118)):=cO
  (MR W0 (w3.alloc (.cells #[.map (some (w.heap.size+1))] 118)) (hT.next (iC.trans (C6.mono iC.size))) (.slice (some ⟨w3.heap.size,0,none⟩) 1 1) [xs] (by simp;omega) (by simp) ⟨w3.heap.size,0,1,rfl,fun j hj=>by
    obtain rfl:j=0:=by simpa using hj
    exact ⟨_,_,ah (ai rfl) 0,xW hs C6⟩⟩).mono (R':=fun e w'=>e=.returned (.string ⟨(c_ [xs].flatten).toArray⟩)/\Below w.heap.size w w') (fun e w' h=>⟨h.1,(iC.trans (C6.mono iC.size)).trans (h.2.mono (by simp;have:=iC.size;omega))⟩)
 have r':[xs].flatten=xs:=by simp
 rw[r']at CL;obtain ⟨zw,Y0⟩:=aW C2 CL;clear C2 CL hb1 gY rY C5 hv hT r';rw[bY]at zw Y0;clear bY;go_enter Tryz.func129,Tryz.ntmps129;go_wp2_with (first | (go_at_call 199;refine (JM _ _ _ _).mono ?_;rintro e w2 ⟨rfl,rfl⟩) | (go_at_call 84;refine zw.o.mono ?_;rintro e w3 ⟨rfl,wh,aM⟩;have H3:=aG wh aM;clear wh aM) | (go_at_call 156;refine (Y0.o _ H3.o.1 H3.o.2).mono ?_;rintro e w5 ⟨rfl,bm⟩;have H5:=ac bm;clear bm));go_ret;exact ⟨rfl,H5.o⟩
end
def IntsV (W:World) (v:Value) (l:List Nat):Prop:=∃a cap,v=.slice a l.length cap/\l.length<=cap/\(l=[]\/∃b off,a=some ⟨b,off,none⟩/\∀ j (h:j<l.length),W.cell? ⟨b,off+j,none⟩=some (.int .i64 (l[j]:Nat)))
theorem IntsV.nil (W:World):IntsV W (.slice none 0 0) []:=⟨none,0,rfl,aD _,.inl rfl⟩
theorem IntsV.later {W:World} {l:List Nat} (h:IntsV W v l) (hb:Below W.heap.size W W'):IntsV W' v l:=by
 exact pm124
theorem IntsV.len {W:World} {n:Nat} {l:List Nat} (h:IntsV W (.slice a n c) l):n=l.length:=by
 obtain ⟨a',cap,hv,_⟩:=h;injection hv
theorem IntsV.slice {W:World} {l:List Nat} (h:IntsV W v l):∃a c,v=.slice a l.length c:=by
 obtain ⟨a',cap,hv,_⟩:=h;exact ⟨_,_,hv⟩
theorem IntsV.get {W:World} {n:Nat} {l:List Nat} (h:IntsV W (.slice a n c) l) (hl:l≠[]) :
  ∃b off,a=some ⟨b,off,none⟩/\∀ j (h:j<l.length),W.cell? ⟨b,off+j,none⟩=some (.int .i64 (l[j]:Nat)):=by
 have pp269c:=();exact pm269
def tp (l:List Nat):List Value:=l.map fun (i:Nat)=>Value.int .i64 (i:Int)
theorem IntsV.olds {W:World} {b:Addr} {n:Nat} {l:List Nat} (h:IntsV W (.slice (some b) n c) l):∀ j u,(tp l)[j]?=some u->W.cell? (b.add j)=some u:=by
 intro j u hu;unfold tp at hu;have hj:j<l.length:=by have:=(List.getElem?_eq_some_iff.1 hu).1;simpa using this
 obtain ⟨b',off,hb,hc⟩:=h.get (by intro h;rw[h]at hj;simp at hj);obtain rfl:b=⟨b',off,none⟩:=by injection hb
 rw[Addr.add_lit,hc j hj,<-hu];simp[hj]
theorem IntsV.own {W:World} {base g n:Nat} {l:List Nat} (h:W.ownsRow base e 1 (.slice (some ⟨g,0,none⟩) n c) n (tp l)):IntsV W (.slice (some ⟨g,0,none⟩) n c) l:=by
 have pp186a:=();exact pm186
theorem IntsV.one {W:World} (c:Nat) (hc:1<=c) (h:W.heap[b]?=some (.cells #[.int .i64 (i:Int)] T (0,0))):IntsV W (.slice (some ⟨b,0,none⟩) 1 c) [i]:=
 ⟨_,c,rfl,hc,.inr ⟨b,0,rfl,fun j hj=>by simp at hj;subst hj;exact ah h 0⟩⟩
theorem V4 {W:World} {x:Value} (base:Nat) (hb:base<=b) (h:W.heap[b]?=some (.cells #[x] T (0,0))):W.ownsRow base T 1 (.slice (some ⟨b,0,none⟩) 1 1) 1 [x]:=
 ⟨rfl,.inr ⟨b,1,#[x],rfl,hb,h,aD _,by unfold maxLen;omega,rfl,rfl⟩⟩
theorem Ha:(Tryz.prog.info? 3).map (fun i=>(i.zero,i.size,i.bytes))=some (some (.int .i64 0),1,8):=by kernel_rfl
theorem wR {l:List Tm} {p:List Nat} (h:eK x l i=some p):p≠[]:=by
 induction l generalizing i with
 | nil=>simp[eK]at h
 | cons t l ih=>
  unfold eK at h
  cases hp:nZ x t with
  | none=>rw[hp]at h;exact ih h
  | some q=>rw[hp]at h;injection h with h;rw[<-h];simp
theorem Hb {l:List Tm} {k:Nat} (h:k<l.length):eK x (l.drop k) k=match nZ x l[k] with | some p=>some (k :: p) | none=>eK x (l.drop (k+1)) (k+1):=by
 rw[gj h,eK];cases nZ x l[k] <;> rfl
theorem mI {x:Str}:∀ (l:List Tm) (i:Nat) (p:List Nat),eK x l i=some p->p.length<=nodesTs l
 | [],i,p,h=>by simp[eK]at h
 | .mk v n a :: l,i,p,h=>by
  unfold eK at h;have h1:=mI (x:=x) l (i+1);have h2:=mI (x:=x) a 0;unfold nodesTs nodesT
  cases hp:nZ x (.mk v n a) with
  | none=>rw[hp]at h;have:=h1 p h;omega
  | some q=>
   rw[hp]at h;injection h with h;unfold nZ at hp;subst h
   by_cases hc:(v && n == x)=true
   ·rw[au hc]at hp;injection hp with hp;subst hp;simp;omega
   ·rw[ak hc]at hp;have:=h2 q hp;simp;omega
def V5 (l:List Tm):Prop:=∀ (x:Str) (ok:Nat->Prop) (w:World) (a:Option Addr) (n c:Nat),fitTs l->TermsV ok w (.slice a n c) l →
 Calls Tryz.prog 229 #[.slice a n c,.string ⟨x.toArray⟩] w fun e w'=>(∃v,e=.returned v/\IntsV w' v ((eK x l 0).getD []))/\Below w.heap.size w w'
theorem LG (l:List Tm) (ih:∀ t∈l,V5 t.a):V5 l:=by
 obtain ⟨i0,hi,oM,ju,iy⟩:=info_parts Ha;intro x ok w a n c hfit hl;obtain rfl:=hl.len;have hlen:=hfit.len;obtain ⟨k0,bX⟩:=am l.length;obtain ⟨R,hR⟩:=am (eK x l 0);rw[<-bX]at hlen;rw[<-bX,<-hR];obtain ⟨dA,HL,fR,HF,HR⟩:=t5 bX hl ih hfit hR;clear bX hl ih hfit hR;go_enter Tryz.func229,Tryz.ntmps229;go_wp2;go_loopw [10] (fun i wr=>∃k:Nat,k<=k0/\i=.int .i64 k/\Below w.heap.size w wr/\R=eK x (l.drop k) k) (fun i _=>k0 - (intOf i).toNat)
 case atStart=>exact ⟨0,aX _,rfl,aj _ _,by simpa using HR.o⟩
 case round=>
  have pp308a:=();exact pm308
theorem O':∀ t:Tm,V5 t.a:=by
 intro t
 induction t using Tm.ind with
 | h v n a ih=>exact LG a ih
theorem yW (w:World) (b k:Nat) (hb:w.heap[b]?=some (.cells #[.int .i64 (k:Int)] 3 (0,0))) (p:List Nat) (v:Value) (hv:IntsV w v p) (hp:p.length<=2000000) (ty:TypeId) :
  ∃v' w',(Builtin.append_ #[218,218] ty #[.slice (some ⟨b,0,none⟩) 1 1,v]).run Tryz.prog w=.ok v' w'/\IntsV w' v' (k :: p)/\w.grownBy w' (some b):=by
 obtain ⟨i0,hi,oM,ju,iy⟩:=info_parts Ha;have hlt:=(bz hb);obtain ⟨a,c,rfl⟩:=hv.slice
 by_cases h0:p=[]
 ·subst h0;have hs:Src Tryz.prog i0.size 218 (.slice a ([]:List Nat).length c) 0 [] w:=by
   cases a with
   | none=>exact Src.ofNil w Tryz.underlying218 c
   | some a=>exact Src.ofSlice w Tryz.underlying218 a 0 c [] (by simp) (by simp) (by simp)
  exact ⟨_,_,run_append_nothing w _ _ _ _ i0 Tryz.underlying218 hi (some ⟨b,0,none⟩) 1 1 (aD _) _ hs,IntsV.one 1 (aD _) hb,⟨rfl,rfl,rfl,aD _,fun _ _ _=>rfl⟩⟩
 ·obtain ⟨b2,off2,rfl,DT⟩:=hv.get h0;have om:=iZ.2 h0;obtain ⟨g,cap,w',hr,h2,h3,_,_⟩:=run_append_lies (P:=Tryz.prog) w 218 ty 0 3 i0 (.int .i64 0) 1 8 Tryz.underlying218 hi oM ju iy rfl (by decide) (.slice (some ⟨b,0,none⟩) 1 1) 1 [.int .i64 (k:Int)] (V4 0 (aX _) hb) ⟨b2,off2,none⟩ p.length c (tp p) (by simp[tp]) hv.olds (by simp[tp,Value.oneCell']) om (by unfold maxLen;omega) (by omega) (aX _) _ rfl;exact ⟨_,_,hr,IntsV.own (l:=k :: p) h2,h3⟩
theorem tu {o:Oper} {a:Act} (wj:o.guard=none) (s x:Operand)
  (ho:o.op=.call { callee:=.builtin .append,args:=#[s,x],argTypes:=#[218,218] }) (b k:Nat) (hb:w.heap[b]?=some (.cells #[.int .i64 (k:Int)] 3 (0,0))) (p:List Nat) (v:Value) (hs:a.eval s=.slice (some ⟨b,0,none⟩) 1 1) (hx:a.eval x=v) (hv:IntsV w v p) (hp:p.length<=2000000)
  (h:∀ v' w',IntsV w' v' (k :: p)->w.grownBy w' (some b)->wpList Tryz.prog ops Q rest (a.put o.dst v') w'):wpList Tryz.prog ops Q (o :: rest) a w:=by
 refine wpList_plain wj fun K hK=>?_;obtain ⟨v',w',hr,h2,h3⟩:=yW w b k hb p v hv hp o.type;have pp244:=();exact pm244
theorem Hc {l:List Fm} {k:Nat} (h:k<l.length):mr x (l.drop k) k=match lI x l[k] with | some (p,q)=>some (k :: p,q) | none=>mr x (l.drop (k+1)) (k+1):=by
 rw[gj h,mr];cases lI x l[k] <;> rfl
mutual
theorem uK:∀ (f:Fm) (r:List Nat×List Nat),lI x f=some r->r.2≠[]/\r.1.length+1<=nodesF f/\r.2.length<=nodesF f
 | .mk o n a s,r,h=>by
  unfold lI at h;unfold nodesF
  cases hp:eK x a 0 with
  | some q=>
   rw[hp]at h;injection h with h;subst h;have:=mI a 0 q hp;exact ⟨wR hp,by simp,by simp only;omega⟩
  | none=>
   rw[hp]at h;have:=D6 s 0 r h;exact ⟨this.1,by omega,by omega⟩
theorem D6:∀ (l:List Fm) (i:Nat) (r:List Nat×List Nat),mr x l i=some r->r.2≠[]/\r.1.length<=nodesFs l/\r.2.length<=nodesFs l
 | [],i,r,h=>by simp[mr]at h
 | f :: l,i,r,h=>by
  unfold mr at h;unfold nodesFs
  cases hp:lI x f with
  | some q=>
   obtain ⟨q1,q2⟩:=q;rw[hp]at h;injection h with h;subst h;have:=uK f _ hp;exact ⟨this.1,by have:=this.2.1;simp only[eR]at *;omega,by have:=this.2.2;simp only at *;omega⟩
  | none=>
   rw[hp]at h;have:=D6 l (i+1) r h;exact ⟨this.1,by omega,by omega⟩
end
def zce (f:Fm):Prop:=∀ (x:Str) (ok:Nat->Prop) (w:World) (q:FQ),fitF f->FormV ok w q.val f →
 Calls Tryz.prog 165 #[q.val,.string ⟨x.toArray⟩] w fun e w'=>(∃v1 v2,e=.returned (.tuple #[v1,v2])/\IntsV w' v1 (((lI x f).map (·.1)).getD [])/\IntsV w' v2 (((lI x f).map (·.2)).getD []))/\Below w.heap.size w w'
theorem O_:∀ f,zce f:=by
 intro f
 induction f using Fm.ind with
 | h uo xn xa xs ih=>
 intro x ok w q hf hq;obtain ⟨va,vs2,h1,e_,Au⟩:=aT.1 hq;obtain ⟨uo,un,ua,ul,uc,ub,um,ue⟩:=q;have pp35a:=();exact pm35
theorem wS (b off j:Nat):(⟨b,off,none⟩:Addr).add j=⟨b,off+j,none⟩:=by unfold Addr.add;split <;> simp_all
theorem fM (l:List Str) (hl:l.length<=2000000) (x:Str) (ok:Nat->Prop) (w:World) (v:Value) (hv:StrsO ok w v l) :
  Calls Tryz.prog 128 #[v,.string ⟨x.toArray⟩] w fun e w'=>e=.returned (.bool (l.contains x))/\w'=w:=by
 obtain ⟨a,c,rfl,hc,h⟩:=hv
 by_cases h0:l=[]
 ·subst h0;exact Tryz.slices_Contains_string_empty a c ⟨x.toArray⟩ w
 ·rcases h with h | ⟨b,off,rfl,_,hcells⟩
  ·exact absurd h h0
  ·have hlm:(l.map fun s=>(⟨s.toArray⟩:ByteArray)).length=l.length:=by simp
   have:=Tryz.slices_Contains_string b off l.length c (l.map fun s=>⟨s.toArray⟩) ⟨x.toArray⟩ w (by simp) (by omega) (fun j hj=>by
    rw[hlm]at hj;rw[hcells j hj];simp[List.getD_eq_getElem?_getD,gT hj])
   refine this.mono ?_;rintro e w' ⟨rfl,rfl⟩;refine ⟨?_,rfl⟩;congr 2;rw[gU (by simp)];rw[gV,Lib.containsS_iff];simp only[List.mem_map,List.contains_iff_mem];constructor
   ·rintro ⟨s,hs,he⟩;have:s=x:=by
     have h1:=congrArg (fun b:ByteArray=>b.data.toList) he;simpa using h1
    exact this ▸ hs
   ·exact fun h=>⟨x,h,rfl⟩
def OwnS (lo:Nat) (W:World) (v:Value) (l:List Str):Prop:=W.ownsRow lo 9 1 v l.length (l.map encStr)
theorem OwnS.strs {W:World} {l:List Str} (h:OwnS lo W v l):StrsO (lo<=·) W v l:=by
 obtain ⟨hl,h1⟩:=h;exact pm99
theorem OwnS.held {W:World} {l:List Str} (h:OwnS lo W v l) (hb:∀ b,lo<=b->b<W.heap.size->W'.heap[b]?=W.heap[b]?):OwnS lo W' v l:=bi h (fun b h1 h2=>hb b h1 h2)
theorem OwnS.later {W:World} {l:List Str} (h:OwnS lo W v l) (hb:Below W.heap.size W W'):OwnS lo W' v l:=h.held (fun b _ hlt=>hb.block b hlt)
theorem Av {W:World} {base Ur:Nat} {size:Nat} {k:Nat} {xs:List Value} (h:W.ownsRow base e size v k xs) (hb:Ur<=base):W.ownsRow Ur e size v k xs:=by
 obtain ⟨h1,h2⟩:=h;refine ⟨h1,?_⟩;rcases h2 with h2 | ⟨g,cap,cur,hv,hg,h3⟩
 ·exact .inl h2
 ·exact .inr ⟨g,cap,cur,hv,aU hb hg,h3⟩
theorem OwnS.base {lo':Nat} {W:World} {l:List Str} (h:OwnS lo W v l) (hb:lo'<=lo):OwnS lo' W v l:=Av h hb
theorem OwnS.nil (lo:Nat) (W:World):OwnS lo W (.slice none 0 0) []:=⟨rfl,.inl ⟨rfl,rfl⟩⟩
theorem Aw:(Tryz.prog.info? 9).map (fun i=>(i.zero,i.size,i.bytes))=some (some (.string ByteArray.empty),1,16):=by kernel_rfl
theorem oo (w:World) (lo:Nat) (hlo:lo<=w.heap.size) (v1:Value) (l1:List Str) (h1:OwnS lo w v1 l1) (v2:Value) (l2:List Str) (ok:Nat->Prop) (h2:StrsO ok w v2 l2) (hl:l1.length+l2.length<=4000000) (ty:TypeId) :
  ∃v' w',(Builtin.append_ #[66,66] ty #[v1,v2]).run Tryz.prog w=.ok v' w'/\OwnS lo w' v' (l1 ++ l2)/\w.grownBy w' v1.ownBlock:=by
 obtain ⟨i0,hi,oM,ju,iy⟩:=info_parts Aw;obtain ⟨a,c,rfl⟩:=h2.slice
 by_cases h0:l2=[]
 ·subst h0;have hs:Src Tryz.prog i0.size 66 (.slice a ([]:List Str).length c) 0 [] w:=by
   cases a with
   | none=>exact Src.ofNil w Tryz.underlying66 c
   | some a=>exact Src.ofSlice w Tryz.underlying66 a 0 c [] (by simp) (by simp) (by simp)
  have Om:∃p n c',v1=.slice p n c'/\n<=c':=by
   rcases h1.2 with ⟨rfl,h⟩ | ⟨g,cap,cur,rfl,_,_,hc,_⟩
   ·exact ⟨none,0,0,rfl,aD _⟩
   ·exact ⟨_,_,_,rfl,hc⟩
  obtain ⟨p,n,c',rfl,hn⟩:=Om;exact ⟨_,_,run_append_nothing w _ _ _ _ i0 Tryz.underlying66 hi p n c' hn _ hs,by simpa using h1,⟨rfl,rfl,rfl,aD _,fun _ _ _=>rfl⟩⟩
 ·obtain ⟨b2,off2,rfl,_,DT⟩:=h2.get (j:=0) (iZ.2 h0);have om:=iZ.2 h0;have zad:∀ j (h:j<l2.length),w.cell? ⟨b2,off2+j,none⟩=some (.string ⟨l2[j].toArray⟩):=fun j hj=>by
   obtain ⟨b3,V9,he,_,hc3⟩:=h2.get hj;cases he;exact hc3
  obtain ⟨g,cap,w',hr,h3,h4,_,_⟩:=run_append_lies (P:=Tryz.prog) w 66 ty lo 9 i0 (.string ByteArray.empty) 1 16 Tryz.underlying66 hi oM ju iy rfl (by decide) v1 l1.length (l1.map encStr) h1 ⟨b2,off2,none⟩ l2.length c (l2.map encStr) (by simp) (fun j u hu=>by
   rw[List.getElem?_map]at hu
   by_cases hj:j<l2.length
   ·rw[gT hj]at hu;rw[wS,zad j hj,<-hu];rfl
   ·rw[List.getElem?_eq_none (by omega)]at hu;cases hu) (by simp[encStr,Value.oneCell']) om (by unfold maxLen;omega) (by omega) hlo _ rfl
  refine ⟨_,_,hr,?_,h4⟩;unfold OwnS;rw[dO,List.map_append];exact h3
theorem dY {o:Oper} {a:Act} (wj:o.guard=none) (s x:Operand)
  (ho:o.op=.call { callee:=.builtin .append,args:=#[s,x],argTypes:=#[66,66] }) (lo:Nat) (hlo:lo<=w.heap.size) (v1:Value) (l1:List Str) (hs:a.eval s=v1) (h1:OwnS lo w v1 l1) (v2:Value) (l2:List Str) (hx:a.eval x=v2) (ok:Nat->Prop) (h2:StrsO ok w v2 l2) (hl:l1.length+l2.length<=4000000)
  (h:∀ v' w',OwnS lo w' v' (l1 ++ l2)->w.grownBy w' v1.ownBlock->wpList Tryz.prog ops Q rest (a.put o.dst v') w'):wpList Tryz.prog ops Q (o :: rest) a w:=by
 refine wpList_plain wj fun K hK=>?_;obtain ⟨v',w',hr,h3,h4⟩:=oo w lo hlo v1 l1 h1 v2 l2 ok h2 hl o.type;exact pm244
theorem pQ {F:Fence} {n:Nat} {o:Oper} {a:Act} (wj:o.guard=none) (s x:Operand)
  (ho:o.op=.call { callee:=.builtin .append,args:=#[s,x],argTypes:=#[66,66] }) (lo:Nat) (hlo:lo<=w.heap.size) (v1:Value) (l1:List Str) (hs:a.eval s=v1) (h1:OwnS lo w v1 l1) (v2:Value) (l2:List Str) (hx:a.eval x=v2) (ok:Nat->Prop) (h2:StrsO ok w v2 l2) (hl:l1.length+l2.length<=4000000)
  (h:∀ v' w',OwnS lo w' v' (l1 ++ l2)->w.grownBy w' v1.ownBlock->wpListIn F n Tryz.prog ops Q rest (a.put o.dst v') w'):wpListIn F n Tryz.prog ops Q (o :: rest) a w:=by
 refine wpListIn_plain wj fun K hK=>?_;obtain ⟨v',w',hr,h3,h4⟩:=oo w lo hlo v1 l1 h1 v2 l2 ok h2 hl o.type;unfold Oper.wpIn;refine ⟨by simp[Oper.about,ho,resolve,Target.leads,Sem.run_pure],?_⟩;rw[Oper.semAt_plain F _ _ (by rw[ho];intro c Sm;cases Sm)];simp[execOp,ho,resolve,invoke,builtin,hs,hx,hr,Result.andThen];exact hK _ _ (h v' w' h3 h4)
