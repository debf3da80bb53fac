/-
Contracts of 'plainTerm' and 'plain' of package match.
-/
import Derived.Test.YtokemihbkeddoaaGreatDoorV01
namespace Go.Proofs.YtokemihbkeddoaaGreatDoor
open Go Go.RowKit Lib
set_option maxRecDepth 100000
set_option maxHeartbeats 64000000
variable {k B J n N:Nat} {w W0 w' W W':World} {M:Nat->Prop} {v:Value} {sc b:Bool} {left bz:Int} {l:List Tm} {T:Type} {xs:List T}
section
attribute [local go_sem] Oper.semAt_some
theorem kU:∀ l,bU l=l.map aM
 | []=>rfl
 | t :: l=>by simp[bU,kU l]
theorem wW:∀ l,bV l=l.map bC
 | []=>rfl
 | t :: l=>by simp[bV,wW l]
theorem c_ {α β:Type} (f:α->β) (l:List α) (h:k<l.length):(l.map f).take k ++ [f l[k]]=(l.map f).take (k+1):=by
 rw[mQ (by simpa using h)];simp
theorem OQ {X Y:World} {b0 b1 b2:Nat} {o0 o1 o2:Obj} (h:Below w.heap.size w X/\X.heap[b1]?=some o1/\X.heap[b2]?=some o2/\X.heap[b0]?=some o0) (hb:Below X.heap.size X Y):Below w.heap.size w Y/\Y.heap[b1]?=some o1/\Y.heap[b2]?=some o2/\Y.heap[b0]?=some o0:=
 ⟨h.1.trans (hb.mono h.1.size),(hb.block b1 (bn h.2.1)).trans h.2.1,(hb.block b2 (bn h.2.2.1)).trans h.2.2.1,(hb.block b0 (bn h.2.2.2)).trans h.2.2.2⟩
theorem rZ:∀ (t:Tm),fitT t->∀ (ok:Nat->Prop) (w:World) (q:TQ),TermV ok w q.val t →
  Calls Tryz.prog 69 #[q.val] w fun e w'=>∃p:TQ,e=.returned p.val/\TermV (w.heap.size<=·) w' p.val (aM t)/\Below w.heap.size w w':=by
 obtain ⟨pY,hi,yF,vX,yX⟩:=info_parts gN;intro t
 induction t using Tm.ind with
 | h v n a ih=>
  intro aA ok w q hq;have pp171b:=();exact pm171
theorem Mz:∀ (t:Fm),fitF t->∀ (ok:Nat->Prop) (w:World) (q:FQ),FormV ok w q.val t →
  Calls Tryz.prog 66 #[q.val] w fun e w'=>∃p:FQ,e=.returned p.val/\FormV (w.heap.size<=·) w' p.val (bC t)/\Below w.heap.size w w':=by
 have pp159a:=();exact pm159
end
structure Tabs0 (w:World):Prop where
 pow:Lib.TabIs Tryz.prog w "internal/strconv.uint64pow10" .u64 Lib.pow10Tab
 rows:∀ o:Nat,o<17->w.cell? ⟨0,o * 5,none⟩=some (.bool (rowOp o).1)/\w.cell? ⟨0,o * 5+1,none⟩=some (.bool (rowOp o).2.1)/\w.cell? ⟨0,o * 5+2,none⟩=some (.int .u8 ((rowOp o).2.2.1:Nat))/\w.cell? ⟨0,o * 5+3,none⟩=some (.int .i64 ((rowOp o).2.2.2.1:Nat))/\w.cell? ⟨0,o * 5+4,none⟩=some (.int .i64 ((rowOp o).2.2.2.2:Nat))
theorem V4:Tryz.prog.globalNamed "internal/strconv.uint64pow10"=some 2:=by kernel_rfl
structure Tabs (W0 w:World):Prop where
 at0:Tabs0 W0
 below:Below W0.heap.size W0 w
theorem Tabs.refl (h:Tabs0 W0):Tabs W0 W0:=⟨h,ak _ _⟩
theorem Tabs.size (h:Tabs W0 w):W0.heap.size<=w.heap.size:=h.below.size
theorem Tabs.next (h:Tabs W0 w) (hb:Below w.heap.size w w'):Tabs W0 w':=⟨h.at0,h.below.trans (hb.mono h.size)⟩
theorem Tabs.kp (h:Tabs W0 w) (hk:Kp M w w') (hM:∀ b,M b->W0.heap.size<=b):Tabs W0 w':=
 ⟨h.at0,⟨hk.os.trans h.below.os,hk.tape.trans h.below.tape,hk.output.trans h.below.output,aQ h.size hk.size,fun b hb=>(hk.same b (bN hb h.size) (fun hm=>by have:=hM b hm;omega)).trans (h.below.block b hb)⟩⟩
theorem ml (hb:Below B W w) {a:Addr} (hB:a.block<B) (h:W.cell? a=some v):w.cell? a=some v:=(World.cell?_of_block (hb.block a.block hB)).trans h
theorem Tabs.t0 (h:Tabs W0 w):Tabs0 w:=by
 refine ⟨?_,fun o ho=>?_⟩
 ·have hs:=h.at0.pow;refine var?_below h.below V4 ?_ hs;have:=hs;unfold Lib.TabIs World.var? at this;rw[V4]at this;simp only[Option.bind_some]at this;exact Nat.lt_of_not_le fun nC=>by rw[Array.getElem?_eq_none nC]at this;cases this
 ·obtain ⟨h0,h1,h2,h3,h4⟩:=h.at0.rows o ho;have hb:=h.below;exact ⟨ml hb (oC h0) h0,ml hb (oC h1) h1,ml hb (oC h2) h2,ml hb (oC h3) h3,ml hb (oC h4) h4⟩
def JAt (J:Nat) (sc:Bool) (left bz:Int) (w:World):Prop:=w.heap[J]?=some (.cells #[.bool sc,.int .i64 left,.int .i64 bz] 111 (0,0))
def JPost (J:Nat) (sc:Bool) (left bz:Int) (n:Nat) (b:Bool) (w:World):Ending->World->Prop:=fun e w'=>
 e=.returned (.bool b)/\Kp (fun c=>c=J) w w'/\∃l:Int,JAt J sc l bz w'/\-1<=l/\l<=left/\(b=true->l=left - n)
theorem JAt.set (h:JAt J sc left bz w) (l:Int):JAt J sc l bz (w.setCell ⟨J,1,none⟩ (.int .i64 l)):=(bm h _).trans rfl
theorem oI (u:Value):Kp (fun c=>c=J) w (w.setCell ⟨J,k,none⟩ u):=⟨rfl,rfl,rfl,by simp,fun b _ hb=>d9 _ _ _ _ (by simpa using hb)⟩
theorem JAt.later (h:JAt J sc left bz w) (hb:Below w.heap.size w w'):JAt J sc left bz w':=(hb.block J (bn h)).trans h
theorem JAt.c0 (h:JAt J sc left bz w):w.cell? ⟨J,0,none⟩=some (.bool sc):=ah h 0
theorem JAt.c1 (h:JAt J sc left bz w):w.cell? ⟨J,1,none⟩=some (.int .i64 left):=ah h 1
theorem JAt.c2 (h:JAt J sc left bz w):w.cell? ⟨J,2,none⟩=some (.int .i64 bz):=ah h 2
theorem F8 (J:Nat) (sc:Bool) (left bz ba:Int) (w:World) (h:JAt J sc left bz w) (h1:1<=left) (h2:left<=9223372036854775807) (hd:ba<=bz) :
  Calls Tryz.prog 115 #[.pointer (some ⟨J,0,none⟩),.int .i64 ba] w fun e w'=>e=.returned (.bool true)/\w'=w.setCell ⟨J,1,none⟩ (.int .i64 (left - 1)):=by
 have c1:=h.c1;have c2:=h.c2;have z1:=ac h 1;have d1:decide (0<=left - 1)=true:=by simp;omega
 have d1':decide (1<=left)=true:=by simp;omega
 have d2:decide (ba<=bz)=true:=by simp;omega
 clear h;exact pm148
theorem Ln (J:Nat) (sc:Bool) (left bz ba:Int) (w:World) (h:JAt J sc left bz w) (h1:0<=left) (h2:left<=9223372036854775807) (hd:¬(1<=left/\ba<=bz)) :
  Calls Tryz.prog 115 #[.pointer (some ⟨J,0,none⟩),.int .i64 ba] w fun e w'=>e=.returned (.bool false)/\w'=w.setCell ⟨J,1,none⟩ (.int .i64 (left - 1)):=by
 have c1:=h.c1;have c2:=h.c2;have z1:=ac h 1;clear h
 by_cases hl:1<=left
 ·have d1:decide (0<=left - 1)=true:=by simp;omega
  have d1':decide (1<=left)=true:=by simp;omega
  have d2:decide (ba<=bz)=false:=by simp;omega
  clear hd;exact pm148
 ·have d1:decide (0<=left - 1)=false:=by simp;omega
  have d1':decide (1<=left)=false:=by simp;omega
  clear hd;exact pm148
def Ur (t:Tm):Prop:=∀ (ok:Nat->Prop) (J:Nat) (sc:Bool) (left bz ba:Int) (w:World) (q:TQ),TermV ok w q.val t->(∀ b,ok b->b≠J)->JAt J sc left bz w->0<=left->left<=9223372036854775807->bz<=9223372036854775807->1<=ba->ba+nodesT t<=100000000 →
 Calls Tryz.prog 122 #[.pointer (some ⟨J,0,none⟩),q.val,.int .i64 ba] w (JPost J sc left bz (nodesT t) (gw sc t && (decide ((nodesT t:Int)<=left) && decide (ba+cY t<=bz+1))) w)
theorem j5 {k:Nat} (h:k<l.length):nodesTs (l.take (k+1))=nodesTs (l.take k)+nodesT l[k]:=by
 induction l generalizing k with
 | nil=>simp at h
 | cons t l ih=>
  cases k with
  | zero=>simp[nodesTs]
  | succ k=>have:=ih (k:=k) (by simpa using h);simp[nodesTs]at this ⊢;omega
theorem tL {k:Nat} (h:k<l.length):bx (l.take (k+1))=max (bx (l.take k)) (cY l[k]):=by
 induction l generalizing k with
 | nil=>simp at h
 | cons t l ih=>
  cases k with
  | zero=>simp[bx]
  | succ k=>have:=ih (k:=k) (by simpa using h);simp[bx]at this ⊢;omega
theorem yZ {k:Nat} (h:k<l.length):dB sc (l.take (k+1))=(dB sc (l.take k) && gw sc l[k]):=by
 induction l generalizing k with
 | nil=>simp at h
 | cons t l ih=>
  cases k with
  | zero=>simp[dB]
  | succ k=>have:=ih (k:=k) (by simpa using h);simp[dB]at this ⊢;rw[this,Bool.and_assoc]
theorem ju (l:List Tm) (k:Nat):nodesTs (l.take k)<=nodesTs l:=by
 induction l generalizing k with
 | nil=>simp
 | cons t l ih=>cases k with
  | zero=>simp[nodesTs]
  | succ k=>have:=ih k;simp[nodesTs];omega
theorem F9 {k:Nat} (h:k<l.length):cY l[k]<=bx l:=by
 induction l generalizing k with
 | nil=>simp at h
 | cons t l ih=>
  cases k with
  | zero=>simp[bx];omega
  | succ k=>have:=ih (k:=k) (by simpa using h);simp[bx];omega
theorem OS {k:Nat} (h:k<l.length) (hf:gw sc l[k]=false):dB sc l=false:=by
 induction l generalizing k with
 | nil=>simp at h
 | cons t l ih=>
  cases k with
  | zero=>simp at hf;simp[dB,hf]
  | succ k=>have:=ih (k:=k) (by simpa using h) (by simpa using hf);simp[dB,this]
theorem qu:∀ t,cY t<=nodesT t:=by
 intro t
 induction t using Tm.ind with
 | h v n a ih=>
  have:bx a<=nodesTs a:=by
   clear v n
   induction a with
   | nil=>simp[bx,nodesTs]
   | cons u l ih2=>
    have h1:=ih u (by simp);have h2:=ih2 (fun x hx=>ih x (by simp[hx]));simp[bx,nodesTs];omega
  simp[cY,nodesT];omega
theorem tM (l:List Tm) (hl:∀ t∈l,Ur t) (ok:Nat->Prop) (J:Nat) (sc:Bool) (left bz ba:Int) (w:World) (a:Option Addr) (n c:Nat) (hv:TermsV ok w (.slice a n c) l) (hok:∀ b,ok b->b≠J) (hJ:JAt J sc left bz w) (h0:0<=left) (h1:left<=9223372036854775807) (Ol:bz<=9223372036854775807) (hd:1<=ba) (Uk:ba<=bz+1) (hn:ba+nodesTs l<=100000000) :
  Calls Tryz.prog 118 #[.pointer (some ⟨J,0,none⟩),.slice a n c,.int .i64 ba] w (JPost J sc left bz (nodesTs l) (dB sc l && (decide ((nodesTs l:Int)<=left) && decide (ba+bx l<=bz+1))) w):=by
 have cf:=hv.len;have ox:=io l;subst cf;obtain ⟨k0,cg⟩:=ao l.length;rw[<-cg];obtain ⟨HV,HK,HL,jP,HJ⟩:=vK hv cg hl hok hJ;have ej:k0<=100000000:=by omega
 clear hv hl hok hJ cg;go_enter Tryz.func118,Tryz.ntmps118;go_wp2;go_loopw [11] (fun i wr=>∃k:Nat,k<=k0/\i=.int .i64 k/\Kp (fun c=>c=J) w wr/\JAt J sc (left - nodesTs (l.take k)) bz wr/\dB sc (l.take k)=true/\(nodesTs (l.take k):Int)<=left/\ba+bx (l.take k)<=bz+1) (fun i _=>k0 - (intOf i).toNat)
 case atStart=>exact ⟨0,bc _,rfl,Kp.refl _,by simpa[nodesTs] using HJ.o,by simp[dB],by simpa[nodesTs] using h0,by simpa[bx] using Uk⟩
 case round=>
  obtain ⟨k,hk,rfl,bj,hj,ha,hb,hc⟩:=hrel
  by_cases hlt:k<k0
  ·have br:=ct HK.o hlt;obtain ⟨b,off,u,rfl,ja,hu,c0,c1,c2⟩:=HV.o.get br;have pp225a:=();exact pm225
  ·obtain rfl:k=k0:=by omega
   have ht:l.take k=l:=by rw[HK.o];exact cO
   rw[ht]at hj ha hb hc;have j6:(dB sc l && (decide ((nodesTs l:Int)<=left) && decide (ba+bx l<=bz+1)))=true:=by rw[ha];simp;omega
   obtain ⟨HF,yG,kD⟩:=cD j6 hj bj;clear j6 hj bj ha hc ht;go_wp2;go_ret;exact ⟨aK HF.o.symm,kD.o,_,yG.o,by omega,by omega,fun _=>rfl⟩
theorem JPost.no {l:Int} (hb:b=false) (hk:Kp (fun c=>c=J) w w') (hj:JAt J sc l bz w') (h1:-1<=l) (h2:l<=left):JPost J sc left bz n b w (.returned (.bool false)) w':=⟨by rw[hb],hk,l,hj,h1,h2,fun h=>by rw[hb]at h;cases h⟩
theorem JPost.yes (hb:b=true) (hk:Kp (fun c=>c=J) w w') (hj:JAt J sc (left - n) bz w') (h1:(n:Int)<=left):JPost J sc left bz n b w (.returned (.bool true)) w':=⟨by rw[hb],hk,_,hj,by omega,by omega,fun _=>rfl⟩
theorem OT:∀ (t:Tm),fitT t->Ur t:=by
 intro t
 induction t using Tm.ind with
 | h v n a ih=>
  intro aA ok J sc left bz ba w q hq hok hJ h0 h1 Ol hd hn;have pp171c:=();exact pm171
section
attribute [local go_sem] Oper.semAt_some
mutual
def kE:Fm->List Fm | .mk o n a s=>.mk o n a s :: dM s
def dM:List Fm->List Fm | []=>[] | t :: l=>kE t ++ dM l
end
theorem tN {l:List Fm} {k:Nat} (h:k<l.length):dM (l.take (k+1))=dM (l.take k) ++ kE l[k]:=by
 induction l generalizing k with
 | nil=>simp at h
 | cons t l ih=>
  cases k with
  | zero=>simp[dM]
  | succ k=>have:=ih (k:=k) (by simpa using h);simp[dM]at this ⊢;rw[this]
theorem qA:∀ l m,dM (l ++ m)=dM l ++ dM m
 | [],m=>rfl
 | t :: l,m=>by simp[dM,qA l m]
def pM (l:List Fm):Nat:=(l.map fun f=>1+nodesTs f.a).sum
theorem mR (l m:List Fm):pM (l ++ m)=pM l+pM m:=by simp[pM]
mutual
theorem sI:∀ f,pM (kE f)=nodesF f
 | .mk o n a s=>by have:=wX s;simp[kE,pM,nodesF,Fm.a]at this ⊢;omega
theorem wX:∀ l,pM (dM l)=nodesFs l
 | []=>rfl
 | t :: l=>by unfold dM;rw[mR,sI t,wX l];rfl
end
theorem Su {l m:List Fm} (h:l <+: m):pM l<=pM m:=by obtain ⟨r,rfl⟩:=h;rw[mR];omega
def NAt (N:Nat) (k:Int) (w:World):Prop:=w.heap[N]?=some (.cells #[.int .i64 k] 3 (0,0))
theorem NAt.c0 {k:Int} (h:NAt N k w):w.cell? ⟨N,0,none⟩=some (.int .i64 k):=ah h 0
theorem NAt.later {k:Int} (h:NAt N k w) (hb:Below w.heap.size w w'):NAt N k w':=(hb.block N (bn h)).trans h
theorem NAt.set {k:Int} (h:NAt N k w) (l:Int):NAt N l (w.setCell ⟨N,0,none⟩ (.int .i64 l)):=(bm h _).trans rfl
theorem NAt.kp {k:Int} (h:NAt N k w) (hk:Kp (fun c=>c=J) w w') (jD:N≠J):NAt N k w':=(hk.same N (bn h) jD).trans h
theorem Ja (N L:Nat) (Zg:N≠L) (k:Int) (w:World) (q:TQ) (hN:NAt N k w) (hL:NAt L 9223372036854775807 w) (h0:0<=k) (h1:k<=1000000000000) :
  Calls Tryz.prog 231 #[q.val,.pointer (some ⟨N,0,none⟩),.pointer (some ⟨L,0,none⟩)] w fun e w'=>e=.returned (.bool true)/\Kp (fun c=>c=N) w w'/\NAt N (k+1) w':=by
 obtain ⟨qv,qn,qa,ql,qc⟩:=q;have hn:=(bn hN);have hl:=(bn hL);have hB:Below w.heap.size w (w.alloc (.cells #[.bool qv,.string qn,.slice qa ql qc] 43)):=cQ;have n1:=hN.later hB;have l1:=hL.later hB;have c0:=n1.c0;have c1:=l1.c0;have z0:=ac n1 0;have cc0:=hN.c0;have cc1:=hL.c0;have zz0:=ac hN 0;have n2:=(hN.set (k+1)).later ((ak _ (w.setCell ⟨N,0,none⟩ (.int .i64 (k+1)))).alloc (aF _) (.cells #[.bool qv,.string qn,.slice qa ql qc] 43));have FC:=ab n2;have d1:decide (k+1<=9223372036854775807)=true:=by simp;omega
 have Sv:¬N=w.heap.size:=by omega
 have V7:¬L=w.heap.size:=by omega
 have zeA:¬L=N:=fun h=>Zg h.symm;clear n2 hN hL n1 l1 hB;unfold TQ.val;go_enter Tryz.func231,Tryz.ntmps231;go_wp2;go_ret;exact ⟨rfl,(oI _).trans (Kp.below cQ),FC.o⟩
abbrev cnt (N L:Nat):Value:=.func (.func 231) #[] #[.pointer (some ⟨N,0,none⟩),.pointer (some ⟨L,0,none⟩)]
def Sw (l:List Tm):Prop:=∀ (N L:Nat) (ok:Nat->Prop) (k:Int) (w:World) (a:Option Addr) (n c:Nat),N≠L->fitTs l->TermsV ok w (.slice a n c) l->(∀ b,ok b->b≠N)->NAt N k w->NAt L 9223372036854775807 w->0<=k->k+nodesTs l<=1000000000000 →
 Calls Tryz.prog 230 #[.slice a n c,cnt N L] w fun e w'=>e=.returned (.bool true)/\Kp (fun c=>c=N) w w'/\NAt N (k+nodesTs l) w'
theorem Lo (l:List Tm) (ih:∀ t∈l,Sw t.a):Sw l:=by
 intro N L ok k w a n c Zg aA hl hok hN hL h0 h1;obtain rfl:=hl.len;have cf:=aA.len;obtain ⟨k0,cg⟩:=ao l.length;rw[<-cg]at cf ⊢;obtain ⟨dJ,HV,fd,HF,jP,HN,HL⟩:=VQ cg hl ih aA hok hN hL;clear cg hl ih aA hok hN hL;go_enter Tryz.func230,Tryz.ntmps230;go_wp2;go_loopw [9] (fun i wr=>∃j:Nat,j<=k0/\i=.int .i64 j/\Kp (fun c=>c=N) w wr/\NAt N (k+nodesTs (l.take j)) wr) (fun i _=>k0 - (intOf i).toNat)
 case atStart=>exact ⟨0,bc _,rfl,Kp.refl _,by simpa[nodesTs] using HN.o⟩
 case round=>
  obtain ⟨j,hj,rfl,bj,hn⟩:=hrel
  by_cases hlt:j<k0
  ·have br:=ct dJ.o hlt;obtain ⟨b,off,u,rfl,ja,hu,c0,c1,c2⟩:=HV.o.get br;have pp225b:=();exact pm225
  ·obtain rfl:j=k0:=by omega
   have ht:l.take j=l:=by rw[dJ.o];exact cO
   rw[ht]at hn;have HH:=aC bj hn;clear bj hn ht;go_wp2;go_ret;exact ⟨rfl,HH.o.1,HH.o.2⟩
theorem OW:∀ t:Tm,Sw t.a:=by
 intro t
 induction t using Tm.ind with
 | h v n a ih=>exact Lo a ih
theorem y_ (l:List Tm):Sw l:=Lo l (fun t _=>OW t)
def Us (M:Nat->Prop) (B:Nat) (W:World) (vs:Array Value) (x:Fm):Prop:=∃q:FQ,vs=#[q.val]/\FormV (fun b=>b<B/\¬M b) W q.val x
theorem FormV.kp {t:Fm} (h:FormV (fun b=>b<B/\¬M b) W v t) (hk:Kp M W W'):FormV (fun b=>b<B/\¬M b) W' v t:=h.move (fun b hb hlt=>⟨hb,hk.same b hlt hb.2⟩)
theorem TermV.kp {t:Tm} (h:TermV (fun b=>b<B/\¬M b) W v t) (hk:Kp M W W'):TermV (fun b=>b<B/\¬M b) W' v t:=h.move (fun b hb hlt=>⟨hb,hk.same b hlt hb.2⟩)
theorem TermsV.kp {t:List Tm} (h:TermsV (fun b=>b<B/\¬M b) W v t) (hk:Kp M W W'):TermsV (fun b=>b<B/\¬M b) W' v t:=h.move (fun b hb hlt=>⟨hb,hk.same b hlt hb.2⟩)
theorem FormsV.kp {t:List Fm} (h:FormsV (fun b=>b<B/\¬M b) W v t) (hk:Kp M W W'):FormsV (fun b=>b<B/\¬M b) W' v t:=h.move (fun b hb hlt=>⟨hb,hk.same b hlt hb.2⟩)
def YieldK {T:Type} (M:Nat->Prop) (l:Nat) (J:List T->World->Prop) (At:World->Array Value->T->Prop) (xs:List T) (W:World):Prop:=
 ∀ pre vs x W1,J pre W1->Kp M W W1->At W1 vs x->(pre ++ [x]) <+: xs->YieldAt Fence.wide 0 Tryz.prog l vs W1 fun e W'=>e=.returned (.bool true)/\J (pre ++ [x]) W'/\Kp M W1 W'
theorem YieldK.later {l:Nat} {J:List T->World->Prop} {At:World->Array Value->T->Prop} (h:YieldK M l J At xs W) (hk:Kp M W W'):YieldK M l J At xs W':=
 fun pre vs x W1 hj ej hat hp=>h pre vs x W1 hj (hk.trans ej) hat hp
theorem jJ {a b c:List T} (h:(a ++ (b ++ c)) <+: xs):(a ++ b) <+: xs:=by
 obtain ⟨r,rfl⟩:=h;exact ⟨c ++ r,by simp⟩
theorem MD:∀ (f:Fm),fitF f->∀ (M:Nat->Prop) (B l:Nat) (J:List Fm->World->Prop) (xs pre:List Fm) (W:World) (q:FQ),(∀ b,M b->b<W.heap.size)->(∀ s,Abides W.heap.size (J s))->YieldK M l J (Us M B) xs W->FormV (fun b=>b<B/\¬M b) W q.val f->(pre ++ kE f) <+: xs->J pre W →
  Calls Tryz.prog 151 #[q.val,.func (.yield l) #[] #[]] W fun e W'=>e=.returned (.bool true)/\J (pre ++ kE f) W'/\Kp M W W':=by
 intro t
 induction t using Fm.ind with
 | h o n a s ih=>
  intro aA M B l J xs pre W q hM hJ hY hq dt hj;have Ec:=hq;have pp22b:=();exact pm22
