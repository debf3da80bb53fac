/-
Contracts of 'plainTerm' and 'plain' of package match.
-/
import Derived.Test.YtokemihbkeddoaaGreatDoorU01
namespace Go.Proofs.YtokemihbkeddoaaGreatDoor
open Go Go.RowKit Lib
set_option maxRecDepth 100000
set_option maxHeartbeats 64000000
variable {k B J n N:Nat} {w W0 w' W W':World} {M:Nat->Prop} {v:Value} {sc b:Bool} {left br:Int} {l:List Tm} {T:Type} {xs:List T}
section
attribute [local go_sem] Oper.semAt_some
theorem kD:∀ l,bS l=l.map aM
 | []=>rfl
 | t :: l=>by simp[bS,kD l]
theorem wb:∀ l,bT l=l.map bB
 | []=>rfl
 | t :: l=>by simp[bT,wb l]
theorem cU {α β:Type} (f:α->β) (l:List α) (h:k<l.length):(l.map f).take k ++ [f l[k]]=(l.map f).take (k+1):=by
 rw[mt (by simpa using h)];simp
theorem No {X Y:World} {b0 b1 b2:Nat} {o0 o1 o2:Obj} (h:Below w.heap.size w X/\X.heap[b1]?=some o1/\X.heap[b2]?=some o2/\X.heap[b0]?=some o0) (hb:Below X.heap.size X Y):Below w.heap.size w Y/\Y.heap[b1]?=some o1/\Y.heap[b2]?=some o2/\Y.heap[b0]?=some o0:=
 ⟨h.1.trans (hb.mono h.1.size),(hb.block b1 (bz h.2.1)).trans h.2.1,(hb.block b2 (bz h.2.2.1)).trans h.2.2.1,(hb.block b0 (bz h.2.2.2)).trans h.2.2.2⟩
theorem rp:∀ (t:Tm),fitT t->∀ (ok:Nat->Prop) (w:World) (q:TQ),TermV ok w q.val t →
  Calls Tryz.prog 69 #[q.val] w fun e w'=>∃p:TQ,e=.returned p.val/\TermV (w.heap.size<=·) w' p.val (aM t)/\Below w.heap.size w w':=by
 obtain ⟨o6,hi,xH,uU,yi⟩:=info_parts gE;intro t
 induction t using Tm.ind with
 | h v n a ih=>
  intro az ok w q hq;have pp167b:=();exact pm167
theorem Lm:∀ (t:Fm),fitF t->∀ (ok:Nat->Prop) (w:World) (q:FQ),FormV ok w q.val t →
  Calls Tryz.prog 66 #[q.val] w fun e w'=>∃p:FQ,e=.returned p.val/\FormV (w.heap.size<=·) w' p.val (bB t)/\Below w.heap.size w w':=by
 have pp154a:=();exact pm154
end
structure Tabs0 (w:World):Prop where
 pow:Lib.TabIs Tryz.prog w "internal/strconv.uint64pow10" .u64 Lib.pow10Tab
 rows:∀ o:Nat,o<17->w.cell? ⟨0,o * 5,none⟩=some (.bool (rowOp o).1)/\w.cell? ⟨0,o * 5+1,none⟩=some (.bool (rowOp o).2.1)/\w.cell? ⟨0,o * 5+2,none⟩=some (.int .u8 ((rowOp o).2.2.1:Nat))/\w.cell? ⟨0,o * 5+3,none⟩=some (.int .i64 ((rowOp o).2.2.2.1:Nat))/\w.cell? ⟨0,o * 5+4,none⟩=some (.int .i64 ((rowOp o).2.2.2.2:Nat))
theorem US:Tryz.prog.globalNamed "internal/strconv.uint64pow10"=some 2:=by kernel_rfl
structure Tabs (W0 w:World):Prop where
 at0:Tabs0 W0
 below:Below W0.heap.size W0 w
theorem Tabs.refl (h:Tabs0 W0):Tabs W0 W0:=⟨h,ak _ _⟩
theorem Tabs.size (h:Tabs W0 w):W0.heap.size<=w.heap.size:=h.below.size
theorem Tabs.next (h:Tabs W0 w) (hb:Below w.heap.size w w'):Tabs W0 w':=⟨h.at0,h.below.trans (hb.mono h.size)⟩
theorem Tabs.kp (h:Tabs W0 w) (hk:Kp M w w') (hM:∀ b,M b->W0.heap.size<=b):Tabs W0 w':=
 ⟨h.at0,⟨hk.os.trans h.below.os,hk.tape.trans h.below.tape,hk.output.trans h.below.output,aN h.size hk.size,fun b hb=>(hk.same b (bE hb h.size) (fun hm=>by have:=hM b hm;omega)).trans (h.below.block b hb)⟩⟩
theorem lL (hb:Below B W w) {a:Addr} (hB:a.block<B) (h:W.cell? a=some v):w.cell? a=some v:=(World.cell?_of_block (hb.block a.block hB)).trans h
theorem Tabs.t0 (h:Tabs W0 w):Tabs0 w:=by
 refine ⟨?_,fun o ho=>?_⟩
 ·have hs:=h.at0.pow;refine var?_below h.below US ?_ hs;have:=hs;unfold Lib.TabIs World.var? at this;rw[US]at this;simp only[Option.bind_some]at this;exact Nat.lt_of_not_le fun oP=>by rw[Array.getElem?_eq_none oP]at this;cases this
 ·obtain ⟨h0,h1,h2,h3,h4⟩:=h.at0.rows o ho;have hb:=h.below;exact ⟨lL hb (nI h0) h0,lL hb (nI h1) h1,lL hb (nI h2) h2,lL hb (nI h3) h3,lL hb (nI h4) h4⟩
def JAt (J:Nat) (sc:Bool) (left br:Int) (w:World):Prop:=w.heap[J]?=some (.cells #[.bool sc,.int .i64 left,.int .i64 br] 111 (0,0))
def JPost (J:Nat) (sc:Bool) (left br:Int) (n:Nat) (b:Bool) (w:World):Ending->World->Prop:=fun e w'=>
 e=.returned (.bool b)/\Kp (fun c=>c=J) w w'/\∃l:Int,JAt J sc l br w'/\-1<=l/\l<=left/\(b=true->l=left - n)
theorem JAt.set (h:JAt J sc left br w) (l:Int):JAt J sc l br (w.setCell ⟨J,1,none⟩ (.int .i64 l)):=(bq h _).trans rfl
theorem nP (u:Value):Kp (fun c=>c=J) w (w.setCell ⟨J,k,none⟩ u):=⟨rfl,rfl,rfl,by simp,fun b _ hb=>ei _ _ _ _ (by simpa using hb)⟩
theorem JAt.later (h:JAt J sc left br w) (hb:Below w.heap.size w w'):JAt J sc left br w':=(hb.block J (bz h)).trans h
theorem JAt.c0 (h:JAt J sc left br w):w.cell? ⟨J,0,none⟩=some (.bool sc):=ai h 0
theorem JAt.c1 (h:JAt J sc left br w):w.cell? ⟨J,1,none⟩=some (.int .i64 left):=ai h 1
theorem JAt.c2 (h:JAt J sc left br w):w.cell? ⟨J,2,none⟩=some (.int .i64 br):=ai h 2
theorem Fy (J:Nat) (sc:Bool) (left br ba:Int) (w:World) (h:JAt J sc left br w) (h1:1<=left) (h2:left<=9223372036854775807) (hd:ba<=br) :
  Calls Tryz.prog 115 #[.pointer (some ⟨J,0,none⟩),.int .i64 ba] w fun e w'=>e=.returned (.bool true)/\w'=w.setCell ⟨J,1,none⟩ (.int .i64 (left - 1)):=by
 have c1:=h.c1;have c2:=h.c2;have z1:=af h 1;have d1:decide (0<=left - 1)=true:=by simp;omega
 have d1':decide (1<=left)=true:=by simp;omega
 have d2:decide (ba<=br)=true:=by simp;omega
 clear h;exact pm143
theorem Kh (J:Nat) (sc:Bool) (left br ba:Int) (w:World) (h:JAt J sc left br w) (h1:0<=left) (h2:left<=9223372036854775807) (hd:¬(1<=left/\ba<=br)) :
  Calls Tryz.prog 115 #[.pointer (some ⟨J,0,none⟩),.int .i64 ba] w fun e w'=>e=.returned (.bool false)/\w'=w.setCell ⟨J,1,none⟩ (.int .i64 (left - 1)):=by
 have c1:=h.c1;have c2:=h.c2;have z1:=af h 1;clear h
 by_cases hl:1<=left
 ·have d1:decide (0<=left - 1)=true:=by simp;omega
  have d1':decide (1<=left)=true:=by simp;omega
  have d2:decide (ba<=br)=false:=by simp;omega
  clear hd;exact pm143
 ·have d1:decide (0<=left - 1)=false:=by simp;omega
  have d1':decide (1<=left)=false:=by simp;omega
  clear hd;exact pm143
def S5 (t:Tm):Prop:=∀ (ok:Nat->Prop) (J:Nat) (sc:Bool) (left br ba:Int) (w:World) (q:TQ),TermV ok w q.val t->(∀ b,ok b->b≠J)->JAt J sc left br w->0<=left->left<=9223372036854775807->br<=9223372036854775807->1<=ba->ba+nodesT t<=100000000 →
 Calls Tryz.prog 122 #[.pointer (some ⟨J,0,none⟩),q.val,.int .i64 ba] w (JPost J sc left br (nodesT t) (jZ sc t && (decide ((nodesT t:Int)<=left) && decide (ba+dj t<=br+1))) w)
theorem mv {k:Nat} (h:k<l.length):nodesTs (l.take (k+1))=nodesTs (l.take k)+nodesT l[k]:=by
 induction l generalizing k with
 | nil=>simp at h
 | cons t l ih=>
  cases k with
  | zero=>simp[nodesTs]
  | succ k=>have:=ih (k:=k) (by simpa using h);simp[nodesTs]at this ⊢;omega
theorem sU {k:Nat} (h:k<l.length):bH (l.take (k+1))=max (bH (l.take k)) (dj l[k]):=by
 induction l generalizing k with
 | nil=>simp at h
 | cons t l ih=>
  cases k with
  | zero=>simp[bH]
  | succ k=>have:=ih (k:=k) (by simpa using h);simp[bH]at this ⊢;omega
theorem ym {k:Nat} (h:k<l.length):eu sc (l.take (k+1))=(eu sc (l.take k) && jZ sc l[k]):=by
 induction l generalizing k with
 | nil=>simp at h
 | cons t l ih=>
  cases k with
  | zero=>simp[eu]
  | succ k=>have:=ih (k:=k) (by simpa using h);simp[eu]at this ⊢;rw[this,Bool.and_assoc]
theorem ja (l:List Tm) (k:Nat):nodesTs (l.take k)<=nodesTs l:=by
 induction l generalizing k with
 | nil=>simp
 | cons t l ih=>cases k with
  | zero=>simp[nodesTs]
  | succ k=>have:=ih k;simp[nodesTs];omega
theorem Fz {k:Nat} (h:k<l.length):dj l[k]<=bH l:=by
 induction l generalizing k with
 | nil=>simp at h
 | cons t l ih=>
  cases k with
  | zero=>simp[bH];omega
  | succ k=>have:=ih (k:=k) (by simpa using h);simp[bH];omega
theorem Nq {k:Nat} (h:k<l.length) (hf:jZ sc l[k]=false):eu sc l=false:=by
 induction l generalizing k with
 | nil=>simp at h
 | cons t l ih=>
  cases k with
  | zero=>simp at hf;simp[eu,hf]
  | succ k=>have:=ih (k:=k) (by simpa using h) (by simpa using hf);simp[eu,this]
theorem pD:∀ t,dj t<=nodesT t:=by
 intro t
 induction t using Tm.ind with
 | h v n a ih=>
  have:bH a<=nodesTs a:=by
   clear v n
   induction a with
   | nil=>simp[bH,nodesTs]
   | cons u l ih2=>
    have h1:=ih u (by simp);have h2:=ih2 (fun x hx=>ih x (by simp[hx]));simp[bH,nodesTs];omega
  simp[dj,nodesT];omega
theorem sV (l:List Tm) (hl:∀ t∈l,S5 t) (ok:Nat->Prop) (J:Nat) (sc:Bool) (left br ba:Int) (w:World) (a:Option Addr) (n c:Nat) (hv:TermsV ok w (.slice a n c) l) (hok:∀ b,ok b->b≠J) (hJ:JAt J sc left br w) (h0:0<=left) (h1:left<=9223372036854775807) (MU:br<=9223372036854775807) (hd:1<=ba) (Nh:ba<=br+1) (hn:ba+nodesTs l<=100000000) :
  Calls Tryz.prog 118 #[.pointer (some ⟨J,0,none⟩),.slice a n c,.int .i64 ba] w (JPost J sc left br (nodesTs l) (eu sc l && (decide ((nodesTs l:Int)<=left) && decide (ba+bH l<=br+1))) w):=by
 have cm:=hv.len;have mY:=g9 l;subst cm;obtain ⟨k0,cg⟩:=am l.length;rw[<-cg];obtain ⟨HV,HK,HL,o7,HJ⟩:=wV hv cg hl hok hJ;have kC:k0<=100000000:=by omega
 clear hv hl hok hJ cg;go_enter Tryz.func118,Tryz.ntmps118;go_wp2;go_loopw [11] (fun i wr=>∃k:Nat,k<=k0/\i=.int .i64 k/\Kp (fun c=>c=J) w wr/\JAt J sc (left - nodesTs (l.take k)) br wr/\eu sc (l.take k)=true/\(nodesTs (l.take k):Int)<=left/\ba+bH (l.take k)<=br+1) (fun i _=>k0 - (intOf i).toNat)
 case atStart=>exact ⟨0,bc _,rfl,Kp.refl _,by simpa[nodesTs] using HJ.o,by simp[eu],by simpa[nodesTs] using h0,by simpa[bH] using Nh⟩
 case round=>
  obtain ⟨k,hk,rfl,bh,hj,ha,hb,hc⟩:=hrel
  by_cases hlt:k<k0
  ·have bp:=cF HK.o hlt;obtain ⟨b,off,u,rfl,iK,hu,c0,c1,c2⟩:=HV.o.get bp;have pp222a:=();exact pm222
  ·obtain rfl:k=k0:=by omega
   have ht:l.take k=l:=by rw[HK.o];exact cV
   rw[ht]at hj ha hb hc;have jH:(eu sc l && (decide ((nodesTs l:Int)<=left) && decide (ba+bH l<=br+1)))=true:=by rw[ha];simp;omega
   obtain ⟨HF,xI,kf⟩:=cG jH hj bh;clear jH hj bh ha hc ht;go_wp2;go_ret;exact ⟨aO HF.o.symm,kf.o,_,xI.o,by omega,by omega,fun _=>rfl⟩
theorem JPost.no {l:Int} (hb:b=false) (hk:Kp (fun c=>c=J) w w') (hj:JAt J sc l br w') (h1:-1<=l) (h2:l<=left):JPost J sc left br n b w (.returned (.bool false)) w':=⟨by rw[hb],hk,l,hj,h1,h2,fun h=>by rw[hb]at h;cases h⟩
theorem JPost.yes (hb:b=true) (hk:Kp (fun c=>c=J) w w') (hj:JAt J sc (left - n) br w') (h1:(n:Int)<=left):JPost J sc left br n b w (.returned (.bool true)) w':=⟨by rw[hb],hk,_,hj,by omega,by omega,fun _=>rfl⟩
theorem Nr:∀ (t:Tm),fitT t->S5 t:=by
 intro t
 induction t using Tm.ind with
 | h v n a ih=>
  intro az ok J sc left br ba w q hq hok hJ h0 h1 MU hd hn;have pp167c:=();exact pm167
section
attribute [local go_sem] Oper.semAt_some
mutual
def kg:Fm->List Fm | .mk o n a s=>.mk o n a s :: dK s
def dK:List Fm->List Fm | []=>[] | t :: l=>kg t ++ dK l
end
theorem sW {l:List Fm} {k:Nat} (h:k<l.length):dK (l.take (k+1))=dK (l.take k) ++ kg l[k]:=by
 induction l generalizing k with
 | nil=>simp at h
 | cons t l ih=>
  cases k with
  | zero=>simp[dK]
  | succ k=>have:=ih (k:=k) (by simpa using h);simp[dK]at this ⊢;rw[this]
theorem pF:∀ l m,dK (l ++ m)=dK l ++ dK m
 | [],m=>rfl
 | t :: l,m=>by simp[dK,pF l m]
def oQ (l:List Fm):Nat:=(l.map fun f=>1+nodesTs f.a).sum
theorem mw (l m:List Fm):oQ (l ++ m)=oQ l+oQ m:=by simp[oQ]
mutual
theorem rT:∀ f,oQ (kg f)=nodesF f
 | .mk o n a s=>by have:=we s;simp[kg,oQ,nodesF,Fm.a]at this ⊢;omega
theorem we:∀ l,oQ (dK l)=nodesFs l
 | []=>rfl
 | t :: l=>by unfold dK;rw[mw,rT t,we l];rfl
end
theorem Q1 {l m:List Fm} (h:l <+: m):oQ l<=oQ m:=by obtain ⟨r,rfl⟩:=h;rw[mw];omega
def NAt (N:Nat) (k:Int) (w:World):Prop:=w.heap[N]?=some (.cells #[.int .i64 k] 3 (0,0))
theorem NAt.c0 {k:Int} (h:NAt N k w):w.cell? ⟨N,0,none⟩=some (.int .i64 k):=ai h 0
theorem NAt.later {k:Int} (h:NAt N k w) (hb:Below w.heap.size w w'):NAt N k w':=(hb.block N (bz h)).trans h
theorem NAt.set {k:Int} (h:NAt N k w) (l:Int):NAt N l (w.setCell ⟨N,0,none⟩ (.int .i64 l)):=(bq h _).trans rfl
theorem NAt.kp {k:Int} (h:NAt N k w) (hk:Kp (fun c=>c=J) w w') (i9:N≠J):NAt N k w':=(hk.same N (bz h) i9).trans h
theorem If (N L:Nat) (XZ:N≠L) (k:Int) (w:World) (q:TQ) (hN:NAt N k w) (hL:NAt L 9223372036854775807 w) (h0:0<=k) (h1:k<=1000000000000) :
  Calls Tryz.prog 231 #[q.val,.pointer (some ⟨N,0,none⟩),.pointer (some ⟨L,0,none⟩)] w fun e w'=>e=.returned (.bool true)/\Kp (fun c=>c=N) w w'/\NAt N (k+1) w':=by
 obtain ⟨qv,qn,qa,ql,qc⟩:=q;have hn:=(bz hN);have hl:=(bz hL);have hB:Below w.heap.size w (w.alloc (.cells #[.bool qv,.string qn,.slice qa ql qc] 43)):=cJ;have n1:=hN.later hB;have l1:=hL.later hB;have c0:=n1.c0;have c1:=l1.c0;have z0:=af n1 0;have cc0:=hN.c0;have cc1:=hL.c0;have zz0:=af hN 0;have n2:=(hN.set (k+1)).later ((ak _ (w.setCell ⟨N,0,none⟩ (.int .i64 (k+1)))).alloc (aI _) (.cells #[.bool qv,.string qn,.slice qa ql qc] 43));have E6:=ae n2;have d1:decide (k+1<=9223372036854775807)=true:=by simp;omega
 have Q2:¬N=w.heap.size:=by omega
 have UU:¬L=w.heap.size:=by omega
 have zd7:¬L=N:=fun h=>XZ h.symm;clear n2 hN hL n1 l1 hB;unfold TQ.val;go_enter Tryz.func231,Tryz.ntmps231;go_wp2;go_ret;exact ⟨rfl,(nP _).trans (Kp.below cJ),E6.o⟩
abbrev cnt (N L:Nat):Value:=.func (.func 231) #[] #[.pointer (some ⟨N,0,none⟩),.pointer (some ⟨L,0,none⟩)]
def Q3 (l:List Tm):Prop:=∀ (N L:Nat) (ok:Nat->Prop) (k:Int) (w:World) (a:Option Addr) (n c:Nat),N≠L->fitTs l->TermsV ok w (.slice a n c) l->(∀ b,ok b->b≠N)->NAt N k w->NAt L 9223372036854775807 w->0<=k->k+nodesTs l<=1000000000000 →
 Calls Tryz.prog 230 #[.slice a n c,cnt N L] w fun e w'=>e=.returned (.bool true)/\Kp (fun c=>c=N) w w'/\NAt N (k+nodesTs l) w'
theorem Ki (l:List Tm) (ih:∀ t∈l,Q3 t.a):Q3 l:=by
 intro N L ok k w a n c XZ az hl hok hN hL h0 h1;obtain rfl:=hl.len;have cm:=az.len;obtain ⟨k0,cg⟩:=am l.length;rw[<-cg]at cm ⊢;obtain ⟨dB,HV,fS,HF,o7,HN,HL⟩:=UD cg hl ih az hok hN hL;clear cg hl ih az hok hN hL;go_enter Tryz.func230,Tryz.ntmps230;go_wp2;go_loopw [9] (fun i wr=>∃j:Nat,j<=k0/\i=.int .i64 j/\Kp (fun c=>c=N) w wr/\NAt N (k+nodesTs (l.take j)) wr) (fun i _=>k0 - (intOf i).toNat)
 case atStart=>exact ⟨0,bc _,rfl,Kp.refl _,by simpa[nodesTs] using HN.o⟩
 case round=>
  obtain ⟨j,hj,rfl,bh,hn⟩:=hrel
  by_cases hlt:j<k0
  ·have bp:=cF dB.o hlt;obtain ⟨b,off,u,rfl,iK,hu,c0,c1,c2⟩:=HV.o.get bp;have pp222b:=();exact pm222
  ·obtain rfl:j=k0:=by omega
   have ht:l.take j=l:=by rw[dB.o];exact cV
   rw[ht]at hn;have HH:=aG bh hn;clear bh hn ht;go_wp2;go_ret;exact ⟨rfl,HH.o.1,HH.o.2⟩
theorem Nv:∀ t:Tm,Q3 t.a:=by
 intro t
 induction t using Tm.ind with
 | h v n a ih=>exact Ki a ih
theorem yo (l:List Tm):Q3 l:=Ki l (fun t _=>Nv t)
def S7 (M:Nat->Prop) (B:Nat) (W:World) (vs:Array Value) (x:Fm):Prop:=∃q:FQ,vs=#[q.val]/\FormV (fun b=>b<B/\¬M b) W q.val x
theorem FormV.kp {t:Fm} (h:FormV (fun b=>b<B/\¬M b) W v t) (hk:Kp M W W'):FormV (fun b=>b<B/\¬M b) W' v t:=h.move (fun b hb hlt=>⟨hb,hk.same b hlt hb.2⟩)
theorem TermV.kp {t:Tm} (h:TermV (fun b=>b<B/\¬M b) W v t) (hk:Kp M W W'):TermV (fun b=>b<B/\¬M b) W' v t:=h.move (fun b hb hlt=>⟨hb,hk.same b hlt hb.2⟩)
theorem TermsV.kp {t:List Tm} (h:TermsV (fun b=>b<B/\¬M b) W v t) (hk:Kp M W W'):TermsV (fun b=>b<B/\¬M b) W' v t:=h.move (fun b hb hlt=>⟨hb,hk.same b hlt hb.2⟩)
theorem FormsV.kp {t:List Fm} (h:FormsV (fun b=>b<B/\¬M b) W v t) (hk:Kp M W W'):FormsV (fun b=>b<B/\¬M b) W' v t:=h.move (fun b hb hlt=>⟨hb,hk.same b hlt hb.2⟩)
def YieldK {T:Type} (M:Nat->Prop) (l:Nat) (J:List T->World->Prop) (At:World->Array Value->T->Prop) (xs:List T) (W:World):Prop:=
 ∀ pre vs x W1,J pre W1->Kp M W W1->At W1 vs x->(pre ++ [x]) <+: xs->YieldAt Fence.wide 0 Tryz.prog l vs W1 fun e W'=>e=.returned (.bool true)/\J (pre ++ [x]) W'/\Kp M W1 W'
theorem YieldK.later {l:Nat} {J:List T->World->Prop} {At:World->Array Value->T->Prop} (h:YieldK M l J At xs W) (hk:Kp M W W'):YieldK M l J At xs W':=
 fun pre vs x W1 hj kC hat hp=>h pre vs x W1 hj (hk.trans kC) hat hp
theorem jq {a b c:List T} (h:(a ++ (b ++ c)) <+: xs):(a ++ b) <+: xs:=by
 obtain ⟨r,rfl⟩:=h;exact ⟨c ++ r,by simp⟩
theorem Lq:∀ (f:Fm),fitF f->∀ (M:Nat->Prop) (B l:Nat) (J:List Fm->World->Prop) (xs pre:List Fm) (W:World) (q:FQ),(∀ b,M b->b<W.heap.size)->(∀ s,Abides W.heap.size (J s))->YieldK M l J (S7 M B) xs W->FormV (fun b=>b<B/\¬M b) W q.val f->(pre ++ kg f) <+: xs->J pre W →
  Calls Tryz.prog 151 #[q.val,.func (.yield l) #[] #[]] W fun e W'=>e=.returned (.bool true)/\J (pre ++ kg f) W'/\Kp M W W':=by
 intro t
 induction t using Fm.ind with
 | h o n a s ih=>
  intro az M B l J xs pre W q hM hJ hY hq dn hj;have Lr:=hq;have pp21b:=();exact pm21
