/-
Contracts of 'plainTerm' and 'plain' of package match.
-/
import Derived.Test.YtokemihbkeddoaaGreatDoorShelf
import Derived.Test.YtokemihbkeddoaaGreatDoorV00
namespace Go.Proofs.YtokemihbkeddoaaGreatDoor
open Go Go.RowKit Lib
set_option maxRecDepth 100000
set_option maxHeartbeats 64000000
variable {α T:Type} {k B J n m N:Nat} {w W0 w' W W':World} {M ok:Nat->Prop} {v:Value} {sc b:Bool} {left bz:Int} {l:List Tm} {t:Tm} {xs:List Str} {c:Sco} {x s:Str} {f im:Fm} {p:Pl}
section
attribute [local go_sem] Oper.semAt_some
theorem lI:∀ l,bF l=l.map aK
 | []=>rfl
 | t :: l=>by simp[bF,lI l]
theorem zf:∀ l,bR l=l.map bl
 | []=>rfl
 | t :: l=>by simp[bR,zf l]
theorem cW {β:Type} (f:α->β) (l:List α) (h:k<l.length):(l.map f).take k ++ [f l[k]]=(l.map f).take (k+1):=by
 rw[mh (by simpa using h)];simp
theorem QS {X Y:World} {b0 b1 b2:Nat} {o0 o1 o2:Obj} (h:Below w.heap.size w X/\X.heap[b1]?=some o1/\X.heap[b2]?=some o2/\X.heap[b0]?=some o0) (hb:Below X.heap.size X Y):Below w.heap.size w Y/\Y.heap[b1]?=some o1/\Y.heap[b2]?=some o2/\Y.heap[b0]?=some o0:=
 ⟨h.1.trans (hb.mono h.1.size),(hb.block b1 (bA h.2.1)).trans h.2.1,(hb.block b2 (bA h.2.2.1)).trans h.2.2.1,(hb.block b0 (bA h.2.2.2)).trans h.2.2.2⟩
theorem sX:∀ (t:Tm),fitT t->∀ (ok:Nat->Prop) (w:World) (q:TQ),TermV ok w q.val t →
  Calls Tryz.prog 69 #[q.val] w fun e w'=>∃p:TQ,e=.returned p.val/\TermV (w.heap.size<=·) w' p.val (aK t)/\Below w.heap.size w w':=by
 obtain ⟨qJ,hi,Ar,xP,AT⟩:=info_parts gH;intro t
 induction t using Tm.ind with
 | h v n a ih=>
  intro ar ok w q hq;have qlV:=();exact qaF
theorem Ox:∀ (t:Fm),fitF t->∀ (ok:Nat->Prop) (w:World) (q:FQ),FormV ok w q.val t →
  Calls Tryz.prog 66 #[q.val] w fun e w'=>∃p:FQ,e=.returned p.val/\FormV (w.heap.size<=·) w' p.val (bl t)/\Below w.heap.size w w':=by
 have qlW:=();exact qbg
end
structure Tabs0 (w:World):Prop where
 pow:Lib.TabIs Tryz.prog w "internal/strconv.uint64pow10" .u64 Lib.pow10Tab
 rows:∀ o:Nat,o<17->w.cell? ⟨0,o * 5,none⟩=some (.bool (rowOp o).1)/\w.cell? ⟨0,o * 5+1,none⟩=some (.bool (rowOp o).2.1)/\w.cell? ⟨0,o * 5+2,none⟩=some (.int .u8 ((rowOp o).2.2.1:Nat))/\w.cell? ⟨0,o * 5+3,none⟩=some (.int .i64 ((rowOp o).2.2.2.1:Nat))/\w.cell? ⟨0,o * 5+4,none⟩=some (.int .i64 ((rowOp o).2.2.2.2:Nat))
theorem Zo:Tryz.prog.globalNamed "internal/strconv.uint64pow10"=some 2:=by kernel_rfl
structure Tabs (W0 w:World):Prop where
 at0:Tabs0 W0
 below:Below W0.heap.size W0 w
theorem Tabs.refl (h:Tabs0 W0):Tabs W0 W0:=⟨h,ai _ _⟩
theorem Tabs.size (h:Tabs W0 w):W0.heap.size<=w.heap.size:=h.below.size
theorem Tabs.next (h:Tabs W0 w) (hb:Below w.heap.size w w'):Tabs W0 w':=⟨h.at0,h.below.trans (hb.mono h.size)⟩
theorem Tabs.kp (h:Tabs W0 w) (hk:Kp M w w') (hM:∀ b,M b->W0.heap.size<=b):Tabs W0 w':=
 ⟨h.at0,⟨hk.os.trans h.below.os,hk.tape.trans h.below.tape,hk.output.trans h.below.output,aN h.size hk.size,fun b hb=>(hk.same b (bJ hb h.size) (fun hm=>by have:=hM b hm;omega)).trans (h.below.block b hb)⟩⟩
theorem mX (hb:Below B W w) {a:Addr} (hB:a.block<B) (h:W.cell? a=some v):w.cell? a=some v:=(World.cell?_of_block (hb.block a.block hB)).trans h
theorem Tabs.t0 (h:Tabs W0 w):Tabs0 w:=by
 refine ⟨?_,fun o ho=>?_⟩
 ·have hs:=h.at0.pow;refine var?_below h.below Zo ?_ hs;have:=hs;unfold Lib.TabIs World.var? at this;rw[Zo]at this;simp only[Option.bind_some]at this;exact Nat.lt_of_not_le fun nO=>by rw[Array.getElem?_eq_none nO]at this;cases this
 ·obtain ⟨h0,h1,h2,h3,h4⟩:=h.at0.rows o ho;have hb:=h.below;exact ⟨mX hb (jR h0) h0,mX hb (jR h1) h1,mX hb (jR h2) h2,mX hb (jR h3) h3,mX hb (jR h4) h4⟩
def JAt (J:Nat) (sc:Bool) (left bz:Int) (w:World):Prop:=w.heap[J]?=some (.cells #[.bool sc,.int .i64 left,.int .i64 bz] 111 (0,0))
def JPost (J:Nat) (sc:Bool) (left bz:Int) (n:Nat) (b:Bool) (w:World):Ending->World->Prop:=fun e w'=>
 e=.returned (.bool b)/\Kp (fun c=>c=J) w w'/\∃l:Int,JAt J sc l bz w'/\-1<=l/\l<=left/\(b=true->l=left - n)
theorem JAt.set (h:JAt J sc left bz w) (l:Int):JAt J sc l bz (w.setCell ⟨J,1,none⟩ (.int .i64 l)):=(bp h _).trans rfl
theorem mY (u:Value):Kp (fun c=>c=J) w (w.setCell ⟨J,k,none⟩ u):=⟨rfl,rfl,rfl,by simp,fun b _ hb=>eC _ _ _ _ (by simpa using hb)⟩
theorem JAt.later (h:JAt J sc left bz w) (hb:Below w.heap.size w w'):JAt J sc left bz w':=(hb.block J (bA h)).trans h
theorem JAt.c0 (h:JAt J sc left bz w):w.cell? ⟨J,0,none⟩=some (.bool sc):=ag h 0
theorem JAt.c1 (h:JAt J sc left bz w):w.cell? ⟨J,1,none⟩=some (.int .i64 left):=ag h 1
theorem JAt.c2 (h:JAt J sc left bz w):w.cell? ⟨J,2,none⟩=some (.int .i64 bz):=ag h 2
theorem IK (J:Nat) (sc:Bool) (left bz bc:Int) (w:World) (h:JAt J sc left bz w) (h1:1<=left) (h2:left<=9223372036854775807) (hd:bc<=bz) :
  Calls Tryz.prog 115 #[.pointer (some ⟨J,0,none⟩),.int .i64 bc] w fun e w'=>e=.returned (.bool true)/\w'=w.setCell ⟨J,1,none⟩ (.int .i64 (left - 1)):=by
 have c1:=h.c1;have c2:=h.c2;have z1:=ac h 1;have d1:decide (0<=left - 1)=true:=by simp;omega
 have d1':decide (1<=left)=true:=by simp;omega
 have d2:decide (bc<=bz)=true:=by simp;omega
 clear h;exact qb3
theorem Ng (J:Nat) (sc:Bool) (left bz bc:Int) (w:World) (h:JAt J sc left bz w) (h1:0<=left) (h2:left<=9223372036854775807) (hd:¬(1<=left/\bc<=bz)) :
  Calls Tryz.prog 115 #[.pointer (some ⟨J,0,none⟩),.int .i64 bc] w fun e w'=>e=.returned (.bool false)/\w'=w.setCell ⟨J,1,none⟩ (.int .i64 (left - 1)):=by
 have c1:=h.c1;have c2:=h.c2;have z1:=ac h 1;clear h
 by_cases hl:1<=left
 ·have d1:decide (0<=left - 1)=true:=by simp;omega
  have d1':decide (1<=left)=true:=by simp;omega
  have d2:decide (bc<=bz)=false:=by simp;omega
  clear hd;exact qb3
 ·have d1:decide (0<=left - 1)=false:=by simp;omega
  have d1':decide (1<=left)=false:=by simp;omega
  clear hd;exact qb3
def XB (t:Tm):Prop:=∀ (ok:Nat->Prop) (J:Nat) (sc:Bool) (left bz bc:Int) (w:World) (q:TQ),TermV ok w q.val t->(∀ b,ok b->b≠J)->JAt J sc left bz w->0<=left->left<=9223372036854775807->bz<=9223372036854775807->1<=bc->bc+nodesT t<=100000000 →
 Calls Tryz.prog 122 #[.pointer (some ⟨J,0,none⟩),q.val,.int .i64 bc] w (JPost J sc left bz (nodesT t) (jc sc t && (decide ((nodesT t:Int)<=left) && decide (bc+dh t<=bz+1))) w)
theorem kB {k:Nat} (h:k<l.length):nodesTs (l.take (k+1))=nodesTs (l.take k)+nodesT l[k]:=by
 induction l generalizing k with
 | nil=>simp at h
 | cons t l ih=>
  cases k with
  | zero=>simp[nodesTs]
  | succ k=>have:=ih (k:=k) (by simpa using h);simp[nodesTs]at this ⊢;omega
theorem vd {k:Nat} (h:k<l.length):bE (l.take (k+1))=max (bE (l.take k)) (dh l[k]):=by
 induction l generalizing k with
 | nil=>simp at h
 | cons t l ih=>
  cases k with
  | zero=>simp[bE]
  | succ k=>have:=ih (k:=k) (by simpa using h);simp[bE]at this ⊢;omega
theorem AW {k:Nat} (h:k<l.length):d9 sc (l.take (k+1))=(d9 sc (l.take k) && jc sc l[k]):=by
 induction l generalizing k with
 | nil=>simp at h
 | cons t l ih=>
  cases k with
  | zero=>simp[d9]
  | succ k=>have:=ih (k:=k) (by simpa using h);simp[d9]at this ⊢;rw[this,Bool.and_assoc]
theorem jT (l:List Tm) (k:Nat):nodesTs (l.take k)<=nodesTs l:=by
 induction l generalizing k with
 | nil=>simp
 | cons t l ih=>cases k with
  | zero=>simp[nodesTs]
  | succ k=>have:=ih k;simp[nodesTs];omega
theorem IL {k:Nat} (h:k<l.length):dh l[k]<=bE l:=by
 induction l generalizing k with
 | nil=>simp at h
 | cons t l ih=>
  cases k with
  | zero=>simp[bE];omega
  | succ k=>have:=ih (k:=k) (by simpa using h);simp[bE];omega
theorem QU {k:Nat} (h:k<l.length) (hf:jc sc l[k]=false):d9 sc l=false:=by
 induction l generalizing k with
 | nil=>simp at h
 | cons t l ih=>
  cases k with
  | zero=>simp at hf;simp[d9,hf]
  | succ k=>have:=ih (k:=k) (by simpa using h) (by simpa using hf);simp[d9,this]
theorem qV:∀ t,dh t<=nodesT t:=by
 intro t
 induction t using Tm.ind with
 | h v n a ih=>
  have:bE a<=nodesTs a:=by
   clear v n
   induction a with
   | nil=>simp[bE,nodesTs]
   | cons u l ih2=>
    have h1:=ih u (by simp);have h2:=ih2 (fun x hx=>ih x (by simp[hx]));simp[bE,nodesTs];omega
  simp[dh,nodesT];omega
theorem vh (l:List Tm) (hl:∀ t∈l,XB t) (ok:Nat->Prop) (J:Nat) (sc:Bool) (left bz bc:Int) (w:World) (a:Option Addr) (n c:Nat) (hv:TermsV ok w (.slice a n c) l) (hok:∀ b,ok b->b≠J) (hJ:JAt J sc left bz w) (h0:0<=left) (h1:left<=9223372036854775807) (hde:bz<=9223372036854775807) (hd:1<=bc) (KL:bc<=bz+1) (hn:bc+nodesTs l<=100000000) :
  Calls Tryz.prog 118 #[.pointer (some ⟨J,0,none⟩),.slice a n c,.int .i64 bc] w (JPost J sc left bz (nodesTs l) (d9 sc l && (decide ((nodesTs l:Int)<=left) && decide (bc+bE l<=bz+1))) w):=by
 have bW:=hv.len;have o8:=iT l;subst bW;have ⟨k0,cd⟩:=aj l.length;rw[<-cd];have ⟨HV,du,HL,ko,HJ⟩:=qt hv cd hl hok hJ;have kt:k0<=100000000:=by omega
 clear hv hl hok hJ cd;go_enter Tryz.func118,Tryz.ntmps118;go_wp2;go_loopw [11] (fun i wr=>∃k:Nat,k<=k0/\i=.int .i64 k/\Kp (fun c=>c=J) w wr/\JAt J sc (left - nodesTs (l.take k)) bz wr/\d9 sc (l.take k)=true/\(nodesTs (l.take k):Int)<=left/\bc+bE (l.take k)<=bz+1) (fun i _=>k0 - (intOf i).toNat)
 case atStart=>exact ⟨0,aX _,rfl,Kp.refl _,by simpa[nodesTs] using HJ.o,by simp[d9],by simpa[nodesTs] using h0,by simpa[bE] using KL⟩
 case round=>
  obtain ⟨k,hk,rfl,bi,hj,ha,hb,hc⟩:=hrel
  by_cases hlt:k<k0
  ·have bj:=cb du.o hlt;obtain ⟨b,off,u,rfl,jy,hu,c0,c1,c2⟩:=HV.o.get bj;have qlX:=();exact qb4
  ·obtain rfl:k=k0:=by omega
   have ht:l.take k=l:=by rw[du.o];exact cK
   rw[ht]at hj ha hb hc;have kC:(d9 sc l && (decide ((nodesTs l:Int)<=left) && decide (bc+bE l<=bz+1)))=true:=by rw[ha];simp;omega
   have ⟨HF,As,lj⟩:=cE kC hj bi;clear kC hj bi ha hc ht;go_wp2;go_ret;exact ⟨az HF.o.symm,lj.o,_,As.o,by omega,by omega,fun _=>rfl⟩
theorem JPost.no {l:Int} (hb:b=false) (hk:Kp (fun c=>c=J) w w') (hj:JAt J sc l bz w') (h1:-1<=l) (h2:l<=left):JPost J sc left bz n b w (.returned (.bool false)) w':=⟨by rw[hb],hk,l,hj,h1,h2,fun h=>by rw[hb]at h;cases h⟩
theorem JPost.yes (hb:b=true) (hk:Kp (fun c=>c=J) w w') (hj:JAt J sc (left - n) bz w') (h1:(n:Int)<=left):JPost J sc left bz n b w (.returned (.bool true)) w':=⟨by rw[hb],hk,_,hj,by omega,by omega,fun _=>rfl⟩
theorem QV:∀ (t:Tm),fitT t->XB t:=by
 intro t
 induction t using Tm.ind with
 | h v n a ih=>
  intro ar ok J sc left bz bc w q hq hok hJ h0 h1 hde hd hn;have qlY:=();exact qaF
section
attribute [local go_sem] Oper.semAt_some
mutual
def iC:Fm->List Fm | .mk o n a s=>.mk o n a s :: dJ s
def dJ:List Fm->List Fm | []=>[] | t :: l=>iC t ++ dJ l
end
theorem vi {l:List Fm} {k:Nat} (h:k<l.length):dJ (l.take (k+1))=dJ (l.take k) ++ iC l[k]:=by
 induction l generalizing k with
 | nil=>simp at h
 | cons t l ih=>
  cases k with
  | zero=>simp[dJ]
  | succ k=>have:=ih (k:=k) (by simpa using h);simp[dJ]at this ⊢;rw[this]
theorem qX:∀ l m,dJ (l ++ m)=dJ l ++ dJ m
 | [],m=>rfl
 | t :: l,m=>by simp[dJ,qX l m]
def qw (l:List Fm):Nat:=(l.map fun f=>1+nodesTs f.a).sum
theorem nP (l m:List Fm):qw (l ++ m)=qw l+qw m:=by simp[qw]
mutual
theorem tO:∀ f,qw (iC f)=nodesF f
 | .mk o n a s=>by have:=zi s;simp[iC,qw,nodesF,Fm.a]at this ⊢;omega
theorem zi:∀ l,qw (dJ l)=nodesFs l
 | []=>rfl
 | t :: l=>by unfold dJ;rw[nP,tO t,zi l];rfl
end
theorem U3 {l m:List Fm} (h:l <+: m):qw l<=qw m:=by obtain ⟨r,rfl⟩:=h;rw[nP];omega
def NAt (N:Nat) (k:Int) (w:World):Prop:=w.heap[N]?=some (.cells #[.int .i64 k] 3 (0,0))
theorem NAt.c0 {k:Int} (h:NAt N k w):w.cell? ⟨N,0,none⟩=some (.int .i64 k):=ag h 0
theorem NAt.later {k:Int} (h:NAt N k w) (hb:Below w.heap.size w w'):NAt N k w':=(hb.block N (bA h)).trans h
theorem NAt.set {k:Int} (h:NAt N k w) (l:Int):NAt N l (w.setCell ⟨N,0,none⟩ (.int .i64 l)):=(bp h _).trans rfl
theorem NAt.kp {k:Int} (h:NAt N k w) (hk:Kp (fun c=>c=J) w w') (jb:N≠J):NAt N k w':=(hk.same N (bA h) jb).trans h
theorem Lj (N L:Nat) (hNL:N≠L) (k:Int) (w:World) (q:TQ) (hN:NAt N k w) (hL:NAt L 9223372036854775807 w) (h0:0<=k) (h1:k<=1000000000000) :
  Calls Tryz.prog 231 #[q.val,.pointer (some ⟨N,0,none⟩),.pointer (some ⟨L,0,none⟩)] w fun e w'=>e=.returned (.bool true)/\Kp (fun c=>c=N) w w'/\NAt N (k+1) w':=by
 obtain ⟨qv,qn,qa,ql,qc⟩:=q;have hn:=(bA hN);have hl:=(bA hL);have hB:Below w.heap.size w (w.alloc (.cells #[.bool qv,.string qn,.slice qa ql qc] 43)):=cI;have n1:=hN.later hB;have l1:=hL.later hB;have c0:=n1.c0;have c1:=l1.c0;have z0:=ac n1 0;have cc0:=hN.c0;have cc1:=hL.c0;have zz0:=ac hN 0;have n2:=(hN.set (k+1)).later ((ai _ (w.setCell ⟨N,0,none⟩ (.int .i64 (k+1)))).alloc (aC _) (.cells #[.bool qv,.string qn,.slice qa ql qc] 43));have xU:=ab n2;have d1:decide (k+1<=9223372036854775807)=true:=by simp;omega
 have U4:¬N=w.heap.size:=by omega
 have Zr:¬L=w.heap.size:=by omega
 have zfi:¬L=N:=fun h=>hNL h.symm;clear n2 hN hL n1 l1 hB;unfold TQ.val;go_enter Tryz.func231,Tryz.ntmps231;go_wp2;go_ret;exact ⟨rfl,(mY _).trans (Kp.below cI),xU.o⟩
abbrev cnt (N L:Nat):Value:=.func (.func 231) #[] #[.pointer (some ⟨N,0,none⟩),.pointer (some ⟨L,0,none⟩)]
def U5 (l:List Tm):Prop:=∀ (N L:Nat) (ok:Nat->Prop) (k:Int) (w:World) (a:Option Addr) (n c:Nat),N≠L->fitTs l->TermsV ok w (.slice a n c) l->(∀ b,ok b->b≠N)->NAt N k w->NAt L 9223372036854775807 w->0<=k->k+nodesTs l<=1000000000000 →
 Calls Tryz.prog 230 #[.slice a n c,cnt N L] w fun e w'=>e=.returned (.bool true)/\Kp (fun c=>c=N) w w'/\NAt N (k+nodesTs l) w'
theorem Nh (l:List Tm) (ih:∀ t∈l,U5 t.a):U5 l:=by
 intro N L ok k w a n c hNL ar hl hok hN hL h0 h1;obtain rfl:=hl.len;have bW:=ar.len;have ⟨k0,cd⟩:=aj l.length;rw[<-cd]at bW ⊢;have ⟨du,HV,fd,HF,ko,HN,HL⟩:=Zc cd hl ih ar hok hN hL;clear cd hl ih ar hok hN hL;go_enter Tryz.func230,Tryz.ntmps230;go_wp2;go_loopw [9] (fun i wr=>∃j:Nat,j<=k0/\i=.int .i64 j/\Kp (fun c=>c=N) w wr/\NAt N (k+nodesTs (l.take j)) wr) (fun i _=>k0 - (intOf i).toNat)
 case atStart=>exact ⟨0,aX _,rfl,Kp.refl _,by simpa[nodesTs] using HN.o⟩
 case round=>
  obtain ⟨j,hj,rfl,bi,hn⟩:=hrel
  by_cases hlt:j<k0
  ·have bj:=cb du.o hlt;obtain ⟨b,off,u,rfl,jy,hu,c0,c1,c2⟩:=HV.o.get bj;have qlZ:=();exact qb4
  ·obtain rfl:j=k0:=by omega
   have ht:l.take j=l:=by rw[du.o];exact cK
   rw[ht]at hn;have HH:=aA bi hn;clear bi hn ht;go_wp2;exact qbh
theorem QY:∀ t:Tm,U5 t.a:=by
 intro t
 induction t using Tm.ind with
 | h v n a ih=>exact Nh a ih
theorem AX (l:List Tm):U5 l:=Nh l (fun t _=>QY t)
def XC (M:Nat->Prop) (B:Nat) (W:World) (vs:Array Value) (x:Fm):Prop:=∃q:FQ,vs=#[q.val]/\FormV (fun b=>b<B/\¬M b) W q.val x
theorem FormV.kp {t:Fm} (h:FormV (fun b=>b<B/\¬M b) W v t) (hk:Kp M W W'):FormV (fun b=>b<B/\¬M b) W' v t:=h.move (fun b hb hlt=>⟨hb,hk.same b hlt hb.2⟩)
theorem TermV.kp (h:TermV (fun b=>b<B/\¬M b) W v t) (hk:Kp M W W'):TermV (fun b=>b<B/\¬M b) W' v t:=h.move (fun b hb hlt=>⟨hb,hk.same b hlt hb.2⟩)
def YieldK {T:Type} (M:Nat->Prop) (l:Nat) (J:List T->World->Prop) (At:World->Array Value->T->Prop) (xs:List T) (W:World):Prop:=
 ∀ pre vs x W1,J pre W1->Kp M W W1->At W1 vs x->(pre ++ [x]) <+: xs->YieldAt Fence.wide 0 Tryz.prog l vs W1 fun e W'=>e=.returned (.bool true)/\J (pre ++ [x]) W'/\Kp M W1 W'
theorem YieldK.later {l:Nat} {J:List T->World->Prop} {At:World->Array Value->T->Prop} {xs:List T} (h:YieldK M l J At xs W) (hk:Kp M W W'):YieldK M l J At xs W':=
 fun pre vs x W1 hj kt hat hp=>h pre vs x W1 hj (hk.trans kt) hat hp
theorem ke {a b c xs:List T} (h:(a ++ (b ++ c)) <+: xs):(a ++ b) <+: xs:=by
 obtain ⟨r,rfl⟩:=h;exact ⟨c ++ r,by simp⟩
theorem OA:∀ (f:Fm),fitF f->∀ (M:Nat->Prop) (B l:Nat) (J:List Fm->World->Prop) (xs pre:List Fm) (W:World) (q:FQ),(∀ b,M b->b<W.heap.size)->(∀ s,Abides W.heap.size (J s))->YieldK M l J (XC M B) xs W->FormV (fun b=>b<B/\¬M b) W q.val f->(pre ++ iC f) <+: xs->J pre W →
  Calls Tryz.prog 151 #[q.val,.func (.yield l) #[] #[]] W fun e W'=>e=.returned (.bool true)/\J (pre ++ iC f) W'/\Kp M W W':=by
 intro t
 induction t using Fm.ind with
 | h o n a s ih=>
  intro ar M B l J xs pre W q hM hJ hY hq dq hj;have Lk:=hq;have ql0:=();exact qas
theorem fS {k:Nat} (h:k<l.length):ao (l.take (k+1))=ao (l.take k) ++ aE l[k]:=by
 induction l generalizing k with
 | nil=>simp at h
 | cons t l ih=>
  cases k with
  | zero=>simp[ao]
  | succ k=>have:=ih (k:=k) (by simpa using h);simp[ao]at this ⊢;rw[this]
theorem gJ:∀ l m,ao (l ++ m)=ao l ++ ao m
 | [],m=>rfl
 | t :: l,m=>by simp[ao,gJ l m]
def AY (_:World) (vs:Array Value) (x:Str):Prop:=vs=#[.string ⟨x.toArray⟩]
theorem D9:∀ (t:Tm),fitT t->∀ (M:Nat->Prop) (B l:Nat) (J:List Str->World->Prop) (xs pre:List Str) (W:World) (q:TQ),(∀ b,M b->b<W.heap.size)->(∀ s,Abides W.heap.size (J s))->YieldK M l J AY xs W->TermV (fun b=>b<B/\¬M b) W q.val t->(pre ++ aE t) <+: xs->J pre W →
  Calls Tryz.prog 214 #[q.val,.func (.yield l) #[] #[]] W fun e W'=>e=.returned (.bool true)/\J (pre ++ aE t) W'/\Kp M W W':=by
 intro t
 induction t using Tm.ind with
 | h v n a ih=>
  intro ar M B l J xs pre W q hM hJ hY hq dq hj;obtain ⟨qv,qn,qa,ql,qc⟩:=q;obtain ⟨sa,hs,bB⟩:=aM.1 hq;have ql1:=();exact qam
theorem D_ (q:TQ) (w:World) :
  Calls Tryz.prog 220 #[q.val] w fun e w'=>e=.returned (.func (.func 270) #[] #[.pointer (some ⟨w.heap.size,0,none⟩)])/\w'=w.alloc (.cells #[.bool q.v,.string q.n,.slice q.a q.l q.c] 43):=by
 obtain ⟨v,n,a,l,c⟩:=q;unfold TQ.val;go_enter Tryz.func220,Tryz.ntmps220;go_wp2;go_ret;exact ⟨rfl,rfl⟩
theorem Ea (t:Tm) (ar:fitT t) (M:Nat->Prop) (B X:Nat) (w:World) (q:TQ) (hX:w.heap[X]?=some (.cells #[.bool q.v,.string q.n,.slice q.a q.l q.c] 43 (0,0))) (KQ:¬M X) (hq:TermV (fun b=>b<B/\¬M b) w q.val t) :
  La M False Tryz.prog 270 #[.pointer (some ⟨X,0,none⟩)] (aE t) AY w:=by
 have ql2:=();exact qb5
end
theorem TermV.lt (h:TermV ok W v t):TermV (fun b=>b<W.heap.size) W v t:=h.move (fun _ _ hlt=>⟨hlt,rfl⟩)
theorem FormV.lt {t:Fm} (h:FormV ok W v t):FormV (fun b=>b<W.heap.size) W v t:=h.move (fun _ _ hlt=>⟨hlt,rfl⟩)
theorem Q0 (t:Tm) (hf:fitT t) (ok:Nat->Prop) (w:World) (q:TQ) (hq:TermV ok w q.val t) :
  Calls Tryz.prog 68 #[q.val] w fun e w'=>e=.returned (.bool (jc false t))/\Below w.heap.size w w':=by
 have hn:=hf.1;have hdn:=qV t;have ⟨W2,aZ⟩:=aj ((w.alloc (.cells #[.bool q.v,.string q.n,.slice q.a q.l q.c] 43)).alloc (.cells #[.bool false,.int .i64 9223372036854775807,.int .i64 9223372036854775807] 111));have hB:=k_ aZ;have hJ:JAt (w.heap.size+1) false 9223372036854775807 9223372036854775807 W2:=by rw[aZ];exact ah (by simp)
 have C:=QV t hf _ (w.heap.size+1) false 9223372036854775807 9223372036854775807 1 W2 q (hq.lt.later hB) (fun b hb=>by omega) hJ (by omega) (by omega) (by omega) (by omega) (by omega);have hb:(jc false t && (decide ((nodesT t:Int)<=9223372036854775807) && decide (1+(dh t:Int)<=9223372036854775807+1)))=jc false t:=by
  have e1:decide ((nodesT t:Int)<=9223372036854775807)=true:=by simp;omega
  have e2:decide (1+(dh t:Int)<=9223372036854775807+1)=true:=by simp;omega
  rw[e1,e2];simp
 rw[hb]at C;have ⟨HC,HB⟩:=aS C hB;clear C hB hJ hb hn hdn hq hf;have HW:=ab aZ;rw[aZ]at HC;clear aZ;unfold TQ.val at HC ⊢;have ⟨bb,cZ⟩:=aj (jc false t);rw[<-cZ]at HC ⊢;clear cZ;cases bb
 all_goals
  go_enter Tryz.func68,Tryz.ntmps68;go_wp2_with (go_at_call 122;refine HC.o.mono ?_;rintro e w3 ⟨rfl,jr,_⟩;have nL:=ab jr;clear jr);go_ret;refine ⟨rfl,?_⟩;rw[<-HW.o]at nL;exact Below.kp1 HB.o nL.o (by omega)
theorem rU (s:Nat) (hs:s<4) (n:Str) (hn:n.length<=1000000000) (w:World) :
  Calls Tryz.prog 116 #[.int .u8 s,.string ⟨n.toArray⟩] w fun e w'=>e=.returned (.bool (qP s n))/\Below w.heap.size w w':=by
 have sY:s=0\/s=1\/s=2\/s=3:=by omega
 rcases sY with rfl | rfl | rfl | rfl
 ·go_enter Tryz.func116,Tryz.ntmps116;exact qat
 ·go_enter Tryz.func116,Tryz.ntmps116;go_wp2_with (go_at_call 120;refine (oa n _ hn).mono ?_;rintro e w' ⟨rfl,hb⟩);go_ret;exact ⟨rfl,hb⟩
 ·go_enter Tryz.func116,Tryz.ntmps116;go_wp2_with (go_at_call 152;refine (hZ n _ hn).mono ?_;rintro e w' ⟨rfl,hb⟩);go_ret;exact ⟨rfl,hb⟩
 ·go_enter Tryz.func116,Tryz.ntmps116;go_wp2_with (go_at_call 185;refine (oc n _ hn).mono ?_;rintro e w' ⟨rfl,hb⟩);go_ret;exact ⟨rfl,hb⟩
theorem Q1 (h:l.length≠2):uW l=false:=by
 match l with
 | []=>rfl
 | [_]=>rfl
 | [_,_]=>exact absurd rfl h
 | _ :: _ :: _ :: _=>rfl
theorem mu (l:List Tm) (hf:fitTs l) (ok:Nat->Prop) (a:Option Addr) (n c:Nat) (w:World) (hv:TermsV ok w (.slice a n c) l) :
  Calls Tryz.prog 117 #[.slice a n c] w fun e w'=>e=.returned (.bool (uW l))/\Below w.heap.size w w':=by
 obtain rfl:=hv.len
 by_cases hl:l.length=2
 ·obtain ⟨x,y,rfl⟩:∃x y,l=[x,y]:=by
   match l,hl with
   | [x,y],_=>exact ⟨x,y,rfl⟩
  obtain ⟨b,off,u,rfl,_,hu,c0,c1,c2⟩:=hv.get (j:=0) (by simp);obtain ⟨b',jZ,u',cZ,_,gI,kr,kX,kY⟩:=hv.get (j:=1) (by simp);simp only[c9,Addr.mk.injEq,and_true]at cZ;obtain ⟨rfl,rfl⟩:=cZ;simp only[List.getElem_cons_zero,List.getElem_cons_succ]at hu gI;have hfx:=hf.mem (t:=x) (by simp);have hfy:=hf.mem (t:=y) (by simp);obtain ⟨xv,xn,xa⟩:=x;obtain ⟨yv,yn,ya⟩:=y;obtain ⟨s1,h1,_⟩:=aM.1 hu;obtain ⟨s2,h2,_⟩:=aM.1 gI;have sZ:=hfx.name;have sG:=hfy.name;have pw:xn.length<=1000000000:=by omega
  have hy2:yn.length<=1000000000:=by omega
  obtain ⟨uv,un,ua,ul,uc⟩:=u;obtain ⟨vv,vn,va,vl,vc⟩:=u';have ql3:=();exact qaG
 ·rw[Q1 hl];have qI:((l.length:Int) == 2)=false:=by simp;omega
  have HV:=ab hv;clear hv hf;have ⟨n,hn⟩:=aj l.length;rw[<-hn]at qI hl ⊢;clear hn HV;have ql4:=();exact qem
def zaW (W0:World) (t:Fm):Prop:=∀ (ok:Nat->Prop) (J:Nat) (sc:Bool) (left bz bc:Int) (w:World) (q:FQ),Tabs W0 w->W0.heap.size<=J->FormV ok w q.val t->(∀ b,ok b->b≠J)->JAt J sc left bz w->0<=left->left<=9223372036854775807->bz<=9223372036854775807->1<=bc->bc+nodesF t<=100000000 →
 Calls Tryz.prog 64 #[.pointer (some ⟨J,0,none⟩),q.val,.int .i64 bc] w (JPost J sc left bz (nodesF t) (okF sc t && (decide ((nodesF t:Int)<=left) && decide (bc+depthF t<=bz+1))) w)
theorem dr {l:List Fm} {k:Nat} (h:k<l.length):nodesFs (l.take (k+1))=nodesFs (l.take k)+nodesF l[k]:=by
 induction l generalizing k with
 | nil=>simp at h
 | cons t l ih=>
  cases k with
  | zero=>simp[nodesFs]
  | succ k=>have:=ih (k:=k) (by simpa using h);simp[nodesFs]at this ⊢;omega
theorem iH {l:List Fm} {k:Nat} (h:k<l.length):aV (l.take (k+1))=max (aV (l.take k)) (depthF l[k]):=by
 induction l generalizing k with
 | nil=>simp at h
 | cons t l ih=>
  cases k with
  | zero=>simp[aV]
  | succ k=>have:=ih (k:=k) (by simpa using h);simp[aV]at this ⊢;omega
theorem kE {l:List Fm} {k:Nat} (h:k<l.length):dt sc (l.take (k+1))=(dt sc (l.take k) && okF sc l[k]):=by
 induction l generalizing k with
 | nil=>simp at h
 | cons t l ih=>
  cases k with
  | zero=>simp[dt]
  | succ k=>have:=ih (k:=k) (by simpa using h);simp[dt]at this ⊢;rw[this,Bool.and_assoc]
theorem bQ (l:List Fm) (k:Nat):nodesFs (l.take k)<=nodesFs l:=by
 induction l generalizing k with
 | nil=>simp
 | cons t l ih=>cases k with
  | zero=>simp[nodesFs]
  | succ k=>have:=ih k;simp[nodesFs];omega
theorem nQ {l:List Fm} {k:Nat} (h:k<l.length):depthF l[k]<=aV l:=by
 induction l generalizing k with
 | nil=>simp at h
 | cons t l ih=>
  cases k with
  | zero=>simp[aV];omega
  | succ k=>have:=ih (k:=k) (by simpa using h);simp[aV];omega
theorem vk {l:List Fm} {k:Nat} (h:k<l.length) (hf:okF sc l[k]=false):dt sc l=false:=by
 induction l generalizing k with
 | nil=>simp at h
 | cons t l ih=>
  cases k with
  | zero=>simp at hf;simp[dt,hf]
  | succ k=>have:=ih (k:=k) (by simpa using h) (by simpa using hf);simp[dt,this]
theorem OB {o:Int} (h:17<=o):rowOp o=(false,false,0,0,0):=by
 unfold rowOp;simp[show o≠1 by omega,show o≠2 by omega,show o≠8 by omega,show o≠9 by omega,show o≠3 by omega,show ¬o<=13 by omega,show ¬o<=7 by omega,show o≠14 by omega,show o≠15 by omega,show o≠16 by omega]
theorem Ll (o:Int):(rowOp o).2.2.1<4/\(rowOp o).2.2.2.1<=4/\(rowOp o).2.2.2.2<=2:=by
 unfold rowOp
 repeat' split
 all_goals simp
theorem U6 (sc:Bool) (o:Int) (n:Str) (a:List Tm) (s:List Fm) (left bz bc:Int) :
  (okF sc (.mk o n a s) && (decide ((nodesF (.mk o n a s):Int)<=left) && decide (bc+depthF (.mk o n a s)<=bz+1))) =
  (((rowOp o).1 || (sc && (rowOp o).2.1)) && ((qP (rowOp o).2.2.1 n && (decide (a.length<=(rowOp o).2.2.2.1) && s.length == (rowOp o).2.2.2.2)) && ((o != 16 || uW a) && ((d9 sc a && (decide ((nodesTs a:Int)<=left - 1) && decide (bc+1+bE a<=bz+1))) && (dt sc s && (decide ((nodesFs s:Int)<=left - 1 - nodesTs a) && decide (bc+1+aV s<=bz+1))))))):=by
 have e1:decide ((nodesF (.mk o n a s):Int)<=left)=(decide ((nodesTs a:Int)<=left - 1) && decide ((nodesFs s:Int)<=left - 1 - nodesTs a)):=by
  rw[ip,ae,br,br,br];unfold nodesF;omega
 have e2:decide (bc+depthF (.mk o n a s)<=bz+1)=(decide (bc+1+bE a<=bz+1) && decide (bc+1+aV s<=bz+1)):=by
  rw[ip,ae,br,br,br];unfold depthF;omega
 rw[e1,e2];unfold okF;generalize decide ((nodesTs a:Int)<=left - 1)=x1;generalize decide ((nodesFs s:Int)<=left - 1 - nodesTs a)=x2;generalize decide (bc+1+bE a<=bz+1)=x3;generalize decide (bc+1+aV s<=bz+1)=x4;generalize d9 sc a=x5;generalize dt sc s=x6;generalize ((rowOp o).1 || (sc && (rowOp o).2.1))=x7;generalize (qP (rowOp o).2.2.1 n && (decide (a.length<=(rowOp o).2.2.2.1) && s.length == (rowOp o).2.2.2.2))=x8;generalize (o != 16 || uW a)=x9;revert x1 x2 x3 x4 x5 x6 x7 x8 x9;decide
section
attribute [local go_sem] Oper.semAt_some run_makeMap
def SetW (W:World) (m n:Nat) (xs:List Str):Prop:=∃D:DataW Unit,W.ownsMap Tryz.prog 9 (plainElem Tryz.prog 4) m n D/\(∀ x:Str,Maps.has D (.string x)=true ↔ x∈xs)/\∀ x∈xs,∀ d,D.atKey (.string x) d=.lit (.bool true)
theorem SetW.same (h:SetW W m n xs) (hb:W'.heap[m]?=W.heap[m]?):SetW W' m n xs:=by
 obtain ⟨D,⟨es,AZ,h1,F,h2,h3⟩,hx⟩:=h;exact ⟨D,⟨es,AZ,hb.trans h1,F,h2,h3⟩,hx⟩
theorem SetW.lt (h:SetW W m n xs):m<W.heap.size:=by
 obtain ⟨D,h,_⟩:=h;exact h.lt
theorem Gk (xs:List Str) (bW:xs.length<=2000000) (dD:∀ x∈xs,x.length<=2000000) (gf:Nat) (lb:Array Value) (w:World) (eg:∀ args W,(callFunc gf args).run Tryz.prog W=.ok (.enter gf args) W)
  (nH:∀ w1,Below w.heap.size w w1->w.heap.size<w1.heap.size->La (fun b=>b=w.heap.size) False Tryz.prog gf lb xs AY w1) :
  Calls Tryz.prog 84 #[.func (.func gf) #[] lb] w fun e w'=>e=.returned (.map (some w.heap.size))/\SetW w' w.heap.size xs.length xs/\Below w.heap.size w w':=by
 have ⟨qY,IQ,HSq⟩:=cE bW dD nH;clear bW dD nH;refine Is ?_;refine callsIn_of_wp_marks Tryz.func84 rfl trivial ?_ rfl;simp only[Tryz.ntmps84,Nat.reduceAdd,Nat.reduceSub,lE];have jx:=eU;gi_wp2;have ⟨w1,s8⟩:=aj ((w.alloc (.map #[] 0)).alloc (.cells #[.map (some w.heap.size)] 118));have hb1:=k_ s8;have iM:=xC s8;have Eb:SetW w1 w.heap.size 0 []:=by
  rw[s8];exact ⟨_,(World.ownsMap_made w _ _ _).alloc _,fun x=>by simp[Maps.has],fun x hx=>by simp at hx⟩
 have xB:=jH s8;rw[<-s8];clear s8;have ⟨dY,Qv,HS0,HXB⟩:=eD hb1 iM Eb xB;clear hb1 iM Eb xB;refine fN rfl eg (fun b hb=>by subst hb;have:=Qv.o;omega) (HSq.o w1 dY.o (by have:=Qv.o;omega)) (fun _ _ _ h=>by cases h;rfl)
  (fun pre X=>SetW X w.heap.size pre.length pre/\Kp (fun b=>b=w.heap.size) w1 X) (fun _ _ _=>False) (fun s=>?hI) (fun _ _ _ _ _ h=>h.elim) ⟨HS0.o,Kp.refl _⟩ ?round ?done (fun _ _ _ _ h=>h.elim)
 case hI=>
  rintro X Y hn ⟨h1,h2⟩;have hl:=h1.lt;have hz:=Qv.o;exact ⟨h1.same (hn.old (by omega) hl),hn.os.trans h2.os,hn.tape.trans h2.tape,hn.output.trans h2.output,aN h2.size hn.size,fun b hb hm=>(hn.old hb (bJ hb h2.size)).trans (h2.same b hb hm)⟩
 case done=>
  rintro D X hD ⟨hs,bi⟩ _ hd;have c0:X.cell? ⟨w.heap.size+1,0,none⟩=some (.map (some w.heap.size)):=ag ((bi.same _ (by have:=Qv.o;omega) (by omega)).trans HXB.o) 0;have ⟨HS,HK,HD,HDl⟩:=eD hs bi hd hD;clear hs bi hd hD;gi_wp2;refine ⟨by simp,.inl ⟨_,_,rfl,run_takeDeferred HD.o,?_⟩⟩;refine ⟨.map (some w.heap.size),by simp[results,Tryz.results84,go_sem],rfl,?_,?_⟩
  ·exact HS.o.same (oB (by have:=Qv.o;have:=HDl.o;omega))
  ·have hk:=AM (.deferred none) HK.o HDl.o;exact qen
 case round=>
  rintro l pre vs x W hl xj ⟨hs,bi⟩ hat _ dq;cases hat;have ⟨HS,HK,HLr,nK⟩:=eD hs bi xj dq;clear hs bi xj dq;gi_wp2;refine ⟨Kp.refl _,⟨HS.o,HK.o⟩,fun W2 gw kf iO=>?_⟩;have hxm:x∈xs:=nK.o.subset (by simp);have z_:(⟨x.toArray⟩:ByteArray).size<=maxLen:=by have:=IQ.o x hxm;have e:(⟨x.toArray⟩:ByteArray).size=x.length:=rfl;rw[e];unfold maxLen;omega
  have Ec:keyOf Tryz.prog 9 (.string ⟨x.toArray⟩)=some (.string x):=by rw[WideMaps.keyOf_string_mk Tryz.underlying9 z_]
  have hpl:pre.length<maxLen:=by
   have h1:(pre ++ [x]).length<=xs.length:=nK.o.length_le;have:=qY.o;simp at h1;unfold maxLen;omega
  obtain ⟨⟨D,au,pz,qA⟩,_⟩:=kf;have c0:W2.cell? ⟨w.heap.size+1,0,none⟩=some (.map (some w.heap.size)):=ag ((iO.same _ (by have:=Qv.o;omega) (by omega)).trans HXB.o) 0;have ⟨HH,zc6,XD,HM⟩:=eD pz qA iO au.isMap;clear pz qA iO z_ hxm;gi_wp2_with (gi_at_mapUpdate;refine wpListIn_mapUpdate_own _ rfl _ _ _ 118 rfl 9 4 (Maps.string_keyed Tryz.underlying9) Tryz.underlying118 (plainElem Tryz.prog 4) w.heap.size pre.length D rfl au hpl _ _ (.string x) rfl rfl Ec (.lit (.bool true)) [] (plainElem_bool Tryz.underlying4 true) ?_;intro w4 aO am;have HG:=aA aO am;clear aO am);have kD:Kp (fun b=>b=w.heap.size) W2 w4:=Kp.grown HG.o.2 rfl;refine ⟨kD,⟨_,by rw[cU];exact HG.o.1,fun y=>?_,fun y hym d=>?_⟩,XD.o.trans kD⟩
  rotate_left
  ·by_cases hy:y=x
   ·subst hy;rw[Maps.atKey_put_same HM.o (by simp[WideAt.IsKeyLit])]
   ·rw[Maps.atKey_put_other (fun h=>hy (by injection h))];exact zc6.o y (by simpa[hy] using hym) d
  by_cases hy:y=x
  ·subst hy;rw[Maps.has_put_same HM.o (by simp[WideAt.IsKeyLit])];simp
  ·rw[Maps.has_put_other (fun h=>hy (by injection h))];rw[HH.o];simp[hy]
end
theorem oJ (x:Str) (v:α):∀ (l:List (Str×α)),getB l x=none->∀ y,getB (g_ x v l) y=if x == y then some v else getB l y
 | [],_,y=>rfl
 | (z,u) :: r,h,y=>by
  unfold getB at h;have hz:(z == x)=false:=by
   cases hz:z == x
   ·rfl
   ·simp[hz]at h
  simp only[hz,bO,↓reduceIte]at h;unfold g_;split
  ·rfl
  ·show (if z == y then some u else getB (g_ x v r) y)=_;rw[oJ x v r h y];show _=if x == y then some v else if z == y then some u else getB r y
   by_cases h1:z == y
   ·have h2:(x == y)=false:=by
     rw[ej]at h1;subst h1;rw[Bool.eq_false_iff]at hz ⊢;intro h3;exact hz (by simpa using (ej.1 h3).symm)
    simp[h1,h2]
   ·simp[h1]
def SubL {α:Type} (k k':List (Str×α)):Prop:=∀ n v,getB k n=some v->getB k' n=some v
theorem SubL.refl (k:List (Str×α)):SubL k k:=fun _ _ h=>h
theorem SubL.trans {a b c:List (Str×α)} (h:SubL a b) (g:SubL b c):SubL a c:=fun n v e=>g n v (h n v e)
theorem Q2 {k:List (Str×α)} {v:α} (h:getB k x=none):SubL k (g_ x v k):=fun n u e=>by
 rw[oJ x v k h n];split
 ·rename_i h1;rw[ej]at h1;subst h1;rw[h]at e;cases e
 ·exact e
theorem Av {k:List (Str×α)} {v:α} (h:getB k x=none):getB (g_ x v k) x=some v:=by
 rw[oJ x v k h x];simp
mutual
theorem oK:∀ t,xF t t=true
 | .mk v n a=>by simp[xF,pA a]
theorem pA:∀ l,iR l l=true
 | []=>by simp[iR]
 | t :: l=>by simp[iR,oK t,pA l]
end
mutual
theorem A_:∀ t u,xF t u=true ↔ t=u
 | .mk v n a,.mk v' n' a'=>by simp[xF,gK a a',and_assoc]
theorem gK:∀ l m,iR l m=true ↔ l=m
 | [],[]=>by simp[iR]
 | [],_ :: _=>by simp[iR]
 | _ :: _,[]=>by simp[iR]
 | t :: l,u :: m=>by simp[iR,A_ t u,gK l m]
end
mutual
theorem oL:∀ t u,uV t u=true ↔ t=u
 | .mk v n a s,.mk v' n' a' s'=>by simp[uV,gK a a',oM s s',and_assoc]
theorem oM:∀ l m,oF l m=true ↔ l=m
 | [],[]=>by simp[oF]
 | [],_ :: _=>by simp[oF]
 | _ :: _,[]=>by simp[oF]
 | t :: l,u :: m=>by simp[oF,oL t u,oM l m]
end
mutual
theorem pB (sc:List Str):∀ (t u:Tm) (k k':List (Str×Tm)),cY sc k t u=some k'->SubL k k'/\∀ DU,SubL k' DU->cY sc DU t u=some DU
 | .mk v n a,.mk v' n' a',k,k',h=>by
  unfold cY at h
  by_cases hm:(v && dl n)=true
  ·rw[aw hm]at h
   cases hg:getB k n with
   | none=>
    rw[hg]at h;simp only[c9]at h;subst h;refine ⟨Q2 hg,fun DU hk=>?_⟩;have:=hk n _ (Av hg);unfold cY;rw[aw hm,this];simp[oK]
   | some u=>
    rw[hg]at h;simp only at h;split at h
    ·rename_i he;cases h;refine ⟨SubL.refl _,fun DU hk=>?_⟩;unfold cY;rw[aw hm,hk n _ hg];simp[he]
    ·cases h
  ·rw[ak hm]at h
   by_cases hs:(v && sc.contains n)=true
   ·rw[aw hs]at h;split at h
    ·rename_i he;cases h;refine ⟨SubL.refl _,fun DU _=>?_⟩;unfold cY;rw[ak hm,aw hs,aw he]
    ·cases h
   ·rw[ak hs]at h;split at h
    ·cases h
    ·rename_i hd;obtain ⟨h1,h2⟩:=qZ sc a a' k k' h;refine ⟨h1,fun DU hk=>?_⟩;unfold cY;rw[ak hm,ak hs,ak hd];exact h2 DU hk
theorem qZ (sc:List Str):∀ (t u:List Tm) (k k':List (Str×Tm)),bL sc k t u=some k'->SubL k k'/\∀ DU,SubL k' DU->bL sc DU t u=some DU
 | [],u,k,k',h=>by
  exact qeo
 | _ :: _,[],k,k',h=>by
  exact qeo
 | t :: l,u :: m,k,k',h=>by
  simp only[bL]at h
  cases h1:cY sc k t u with
  | none=>rw[h1]at h;cases h
  | some k1=>
   rw[h1]at h;obtain ⟨a1,a2⟩:=pB sc t u k k1 h1;obtain ⟨b1,b2⟩:=qZ sc l m k1 k' h;refine ⟨a1.trans b1,fun DU hk=>?_⟩;simp only[bL,a2 DU (b1.trans hk),b2 DU hk]
end
theorem Ba (c:Sco):∀ (t u:List Tm) (k k':List (Str×Tm)),cA c k t u=some k'->SubL k k'/\∀ DU,SubL k' DU->cA c DU t u=some DU
 | [],u,k,k',h=>by
  exact qep
 | _ :: _,[],k,k',h=>by
  exact qep
 | t :: l,u :: m,k,k',h=>by
  simp only[cA]at h
  cases h0:iB c [] u with
  | none=>rw[h0]at h;cases h
  | some im=>
   rw[h0]at h;simp only at h
   cases h1:cY (c.map (·.1)) k t im with
   | none=>rw[h1]at h;cases h
   | some k1=>
    rw[h1]at h;obtain ⟨a1,a2⟩:=pB _ t im k k1 h1;obtain ⟨b1,b2⟩:=Ba c l m k1 k' h;refine ⟨a1.trans b1,fun DU hk=>?_⟩;simp only[cA,h0,a2 DU (b1.trans hk),b2 DU hk]
theorem Bb {step:Bd->Pl->Bd×Int}:∀ (l:List (Fm×Fm)) (i:Nat) (k:Bd),(∀ x∈l,gE step k (a_ [] x.1 x.2)=(k,0))->e7 step i k l=(k,0,0)
 | [],i,k,_=>by simp[e7]
 | (s,f) :: l,i,k,h=>by
  unfold e7;rw[h (s,f) (gp ..)];simp only[if_true];exact Bb l (i+1) k (fun x hx=>h x (fL _ hx))
theorem kF:∀ (l:List (Fm×Fm)) (i:Nat),fA i l=none ↔ ∀ x∈l,(fM x.1 && bT x.2)=true
 | [],i=>by simp[fA]
 | (s,f) :: l,i=>by
  unfold fA;split
  ·rename_i h;rw[kF l (i+1)];constructor
   ·intro h2 x hx;rcases cG.1 hx with rfl | hx
    ·exact h
    ·exact h2 x hx
   ·exact fun h2 x hx=>h2 x (fL _ hx)
  ·rename_i h;constructor
   ·intro h2;cases h2
   ·intro h2;exact absurd (h2 (s,f) (gp ..)) h
theorem vp (h:fH s=true):ct s=false:=by
 unfold fH at h
 cases s with
 | nil=>simp[ct]
 | cons c r=>
  have ql5:=();exact qeq
theorem Q3 (h:fH s=true):dl s=false:=by
 unfold fH at h
 cases s with
 | nil=>simp[dl,dA,cX]
 | cons c r=>
  exact qeq
theorem OC (h:fH s=true):ct (bI s)=true:=by simp[ct,bI,h]
def VarsOk (l:List Str):Prop:=∀ x∈l,fH x=true
theorem Bc:∀ (c:Sco) (inn:List Str) (y:Str),dv.go x c inn=some y->y=x\/∃s∈c.map (·.1),y=bI s
 | [],inn,y,h=>by simp only[dv.go,c9]at h;exact .inl h.symm
 | (s,a) :: r,inn,y,h=>by
  unfold dv.go at h;split at h
  ·split at h
   ·cases h
   ·simp only[c9]at h;exact .inr ⟨s,by simp,h.symm⟩
  ·rcases Bc r (s :: inn) y h with h | ⟨z,hz,h⟩
   ·exact .inl h
   ·exact .inr ⟨z,by simp only[cC,cG];exact .inr hz,h⟩
theorem Be {y:Str} (h:dv c x=some y):y=x\/∃s∈c.map (·.1),y=bI s:=Bc c [] y h
mutual
theorem Aw (hc:VarsOk (c.map (·.1))) (ins:List Str):∀ (t u:Tm),jc false t=true->iB c ins t=some u->jc false (aK u)=true/\nodesT u=nodesT t/\dh u=dh t
 | .mk v n a,u,hok,h=>by
  unfold iB at h;unfold jc at hok
  cases v with
  | true=>
   simp only[↓reduceIte,Bool.false_and,Bool.or_false,ae]at h hok;obtain ⟨ha,hn⟩:=hok;obtain rfl:a=[]:=by simpa using ha
   have Iz:∀ y:Str,(y=n\/∃s∈c.map (·.1),y=bI s)->jc false (aK (aP y))=true/\nodesT (aP y)=nodesT (.mk true n [])/\dh (aP y)=dh (.mk true n []):=by
    rintro y (rfl | ⟨s,hs,rfl⟩)
    ·simp[aP,aK,vp hn,jc,hn,bF,nodesT,dh]
    ·have e1:(ct (63 :: s))=true:=OC (hc s hs);have e2:fH s=true:=hc s hs;simp[aP,aK,e1,jc,e2,bF,nodesT,dh,bI]
   split at h
   ·simp only[c9]at h;subst h;exact Iz n (.inl rfl)
   ·obtain ⟨y,hy,rfl⟩:=Option.map_eq_some_iff.1 h;exact Iz y (Be hy)
  | false=>
   simp only[bO,↓reduceIte,ae,br]at h hok;obtain ⟨m,hm,rfl⟩:=Option.map_eq_some_iff.1 h;obtain ⟨h1,h2,h3,h4⟩:=Bf hc ins a m hok.2.2 hm;have hl:(bF m).length=a.length:=by rw[h4.2];exact h4.1
   simp[aK,jc,hok.2.1,h1,nodesT,dh,h2,h3,hl,hok.1]
theorem Bf (hc:VarsOk (c.map (·.1))) (ins:List Str):∀ (t u:List Tm),d9 false t=true->eq c ins t=some u->d9 false (bF u)=true/\nodesTs u=nodesTs t/\bE u=bE t/\(u.length=t.length/\(bF u).length=u.length)
 | [],u,_,h=>by simp only[eq,c9]at h;subst h;simp[d9,bF]
 | t :: l,u,hok,h=>by
  simp only[eq]at h
  cases h1:iB c ins t with
  | none=>rw[h1]at h;simp at h
  | some x=>
   cases h2:eq c ins l with
   | none=>rw[h1,h2]at h;simp at h
   | some m=>
    rw[h1,h2]at h;simp only[c9]at h;subst h;simp only[d9,ae]at hok;obtain ⟨a1,a2,a3⟩:=Aw hc ins t x hok.1 h1;obtain ⟨b1,b2,b3,b4,b5⟩:=Bf hc ins l m hok.2 h2;simp[d9,bF,a1,b1,nodesTs,bE,a2,a3,b2,b3,b4,b5]
end
mutual
theorem Ax (hc:VarsOk (c.map (·.1))):∀ (f u:Fm) (ins:List Str),okF false f=true->e8 c ins f=some u->okF false (bl u)=true/\nodesF u=nodesF f/\depthF u=depthF f
 | .mk o n a s,u,ins,hok,h=>by
  unfold e8 at h
  cases h1:eq c ins a with
  | none=>rw[h1]at h;simp at h
  | some a'=>
   cases h2:eZ c (if bm o then n :: ins else ins) s with
   | none=>rw[h1,h2]at h;simp at h
   | some s'=>
    rw[h1,h2]at h;simp only[c9]at h;subst h;simp only[okF,ae,Bool.false_and,Bool.or_false]at hok;obtain ⟨k1,⟨k2,k3,k4⟩,k5,k6,k7⟩:=hok;obtain ⟨a1,a2,a3,a4,a5⟩:=Bf hc ins a a' k6 h1;obtain ⟨b1,b2,b3,b4,b5⟩:=IR hc s s' _ k7 h2;have Zs:(o != 16)=true:=by
     cases h16:o != 16 with
     | true=>rfl
     | false=>
      have:o=16:=by simpa using h16
      subst this;exact absurd k1 (by decide)
    simp only[bl,okF,ae,Bool.false_and,Bool.or_false,nodesF,depthF,a2,a3,b2,b3,a1,b1,a5,a4,b5,b4,Zs,Bool.true_or,k1,k2,k3,k4,and_self]
theorem IR (hc:VarsOk (c.map (·.1))):∀ (f u:List Fm) (ins:List Str),dt false f=true->eZ c ins f=some u->dt false (bR u)=true/\nodesFs u=nodesFs f/\aV u=aV f/\(u.length=f.length/\(bR u).length=u.length)
 | [],u,ins,_,h=>by simp only[eZ,c9]at h;subst h;simp[dt,bR]
 | t :: l,u,ins,hok,h=>by
  simp only[eZ]at h
  cases h1:e8 c ins t with
  | none=>rw[h1]at h;simp at h
  | some x=>
   cases h2:eZ c ins l with
   | none=>rw[h1,h2]at h;simp at h
   | some m=>
    rw[h1,h2]at h;simp only[c9]at h;subst h;simp only[dt,ae]at hok;obtain ⟨a1,a2,a3⟩:=Ax hc t x ins hok.1 h1;obtain ⟨b1,b2,b3,b4,b5⟩:=IR hc l m ins hok.2 h2;simp[dt,bR,a1,b1,nodesFs,aV,a2,a3,b2,b3,b4,b5]
end
mutual
theorem zj:∀ t,nodesT (aK t)=nodesT t/\dh (aK t)=dh t
 | .mk v n a=>by simp[aK,nodesT,dh,pC a]
theorem pC:∀ t,nodesTs (bF t)=nodesTs t/\bE (bF t)=bE t
 | []=>by simp[bF]
 | t :: l=>by simp[bF,nodesTs,bE,zj t,pC l]
end
mutual
theorem g9:∀ t,nodesF (bl t)=nodesF t/\depthF (bl t)=depthF t
 | .mk o n a s=>by simp[bl,nodesF,depthF,pC a,vq s]
theorem vq:∀ t,nodesFs (bR t)=nodesFs t/\aV (bR t)=aV t
 | []=>by simp[bR]
 | t :: l=>by simp[bR,nodesFs,aV,g9 t,vq l]
end
theorem q_:∀ (l:List Tm) (i:Nat) (t:Tm),d9 sc l=true->l[i]?=some t->jc sc t=true
 | [],i,t,_,h=>by simp at h
 | x :: l,0,t,hok,h=>by simp only[List.getElem?_cons_zero,c9]at h;subst h;simp only[d9,ae]at hok;exact hok.1
 | x :: l,i+1,t,hok,h=>by simp only[d9,ae]at hok;exact q_ l i t hok.2 (by simpa using h)
theorem IS:∀ (l:List Fm) (i:Nat) (t:Fm),dt sc l=true->l[i]?=some t->okF sc t=true
 | [],i,t,_,h=>by simp at h
 | x :: l,0,t,hok,h=>by simp only[List.getElem?_cons_zero,c9]at h;subst h;simp only[dt,ae]at hok;exact hok.1
 | x :: l,i+1,t,hok,h=>by simp only[dt,ae]at hok;exact IS l i t hok.2 (by simpa using h)
theorem nR:∀ (l:List Tm) (i:Nat),(bF l)[i]?=l[i]?.map aK
 | [],i=>by simp[bF]
 | x :: l,0=>by simp[bF]
 | x :: l,i+1=>by simp[bF,nR l i]
theorem zk:∀ (l:List Fm) (i:Nat),(bR l)[i]?=l[i]?.map bl
 | [],i=>by simp[bR]
 | x :: l,0=>by simp[bR]
 | x :: l,i+1=>by simp[bR,zk l i]
theorem Bg (h:jc false (aK t)=true):d9 false (bF t.a)=true:=by
 obtain ⟨v,n,a⟩:=t;simp only[aK,jc]at h
 cases v with
 | true=>
  simp only[↓reduceIte,ae]at h;have:bF a=[]:=by simpa using h.1
  simp[Tm.a,this,d9]
 | false=>
  simp only[bO,↓reduceIte,ae]at h;exact h.2.2
theorem IT:∀ (p:List Nat) (l:List Tm) (t:Tm),d9 false (bF l)=true->jI l p=some t->jc false (aK t)=true
 | [],l,t,_,h=>by simp[jI]at h
 | [i],l,t,hok,h=>by
  simp only[jI]at h;exact q_ _ i _ hok (by rw[nR,h];rfl)
 | i :: j :: r,l,t,hok,h=>by
  simp only[jI]at h
  cases h1:l[i]? with
  | none=>rw[h1]at h;simp at h
  | some x=>
   rw[h1]at h;exact IT (j :: r) _ t (Bg (q_ _ i _ hok (by rw[nR,h1];rfl))) h
theorem IU:∀ (p:List Nat) (f:Fm) (ins:List Str) (g:Fm) (sH:List Str),okF false (bl f)=true->j7 f p ins=some (g,sH)->okF false (bl g)=true
 | [],f,ins,g,sH,hok,h=>by simp only[j7,c9,Prod.mk.injEq]at h;rw[<-h.1];exact hok
 | i :: r,f,ins,g,sH,hok,h=>by
  simp only[j7]at h
  cases h1:f.s[i]? with
  | none=>rw[h1]at h;simp at h
  | some x=>
   rw[h1]at h;refine IU r x _ g sH ?_ h;obtain ⟨o,n,a,s⟩:=f;simp only[bl,okF,ae]at hok;exact IS _ i _ hok.2.2.2.2 (by rw[zk];simp only[Fm.s]at h1;rw[h1];rfl)
theorem IV (hok:okF false (bl im)=true) (h:gD f im x=some t):jc false (aK t)=true:=by
 unfold gD at h;split at h
 ·cases h
 ·split at h
  ·cases h
  ·rename_i g ins hg;split at h
   ·cases h
   ·rename_i y hy;split at h
    ·cases h
    ·cases h;have:=IU _ _ _ _ _ hok hg;obtain ⟨o,n,a,s⟩:=g;simp only[bl,okF,ae]at this;exact IT _ _ _ this.2.2.2.1 hy
structure PlOk (p:Pl):Prop where
 s:okF true p.s=true
 f:okF false p.f=true
 c:VarsOk (p.c.map (·.1))
 n:nodesF p.f<=400
 d:depthF p.f<=40
mutual
theorem mJ:∀ (s f:Fm) (c:Sco),PlOk ⟨s,f,c⟩->∀ p∈a_ c s f,PlOk p
 | .mk o n a l,.mk o' n' a' l',c,h,p,hp=>by
  simp only[a_,cG]at hp;rcases hp with rfl | hp
  ·exact h
  ·have h1:=h.s;have h2:=h.f;have h3:=h.n;have h4:=h.d;simp only[okF,ae]at h1 h2;simp only[nodesF,depthF]at h3 h4;refine Bh l l' _ h1.2.2.2.2 h2.2.2.2.2 ?_ (by omega) (by omega) p hp;split
   ·rename_i hq;intro x hx;simp only[cC,cG]at hx;rcases hx with rfl | hx
    ·have:(rowOp o).2.2.1=2:=by
      exact qer
     have h5:=h1.2.1.1;rw[this]at h5;exact h5
    ·exact h.c x hx
   ·exact h.c
theorem Bh:∀ (s f:List Fm) (c:Sco),dt true s=true->dt false f=true->VarsOk (c.map (·.1))->nodesFs f<=400->aV f<=40->∀ p∈aJ c s f,PlOk p
 | [],_,c,_,_,_,_,_,p,hp=>by simp[aJ]at hp
 | _ :: _,[],c,_,_,_,_,_,p,hp=>by simp[aJ]at hp
 | t :: l,u :: m,c,h1,h2,h3,h4,h5,p,hp=>by
  simp only[aJ,List.mem_append]at hp;simp only[dt,ae]at h1 h2;simp only[nodesFs,aV]at h4 h5;rcases hp with hp | hp
  ·exact mJ t u c ⟨h1.1,h2.1,h3,by show nodesF u<=400;omega,by show depthF u<=40;omega⟩ p hp
  ·exact Bh l m c h1.2 h2.2 h3 (by omega) (by omega) p hp
end
theorem xV {s:Fm} (h:(fM s && bT f)=true):PlOk ⟨s,f,[]⟩:=by
 simp only[fM,bT,ae,br]at h;exact ⟨h.1.1,h.2.1,(by intro x hx;cases hx),h.2.2.1,h.2.2.2⟩
theorem mK:∀ a:List UInt8,Op.bytesLess a a=false
 | []=>rfl
 | c :: a=>by simp[Op.bytesLess,mK a]
theorem rd:∀ a b c:List UInt8,Op.bytesLess a b=true->Op.bytesLess b c=true->Op.bytesLess a c=true
 | _,[],_,h,_=>by simp[Op.bytesLess]at h
 | _,_ :: _,[],_,h=>by simp[Op.bytesLess]at h
 | [],_ :: _,_ :: _,_,_=>rfl
 | x :: a,y :: b,z :: c,h1,h2=>by
  simp only[Op.bytesLess,Bool.or_eq_true,ae,br,ej]at h1 h2 ⊢;rcases h1 with h1 | ⟨rfl,h1⟩
  ·rcases h2 with h2 | ⟨rfl,h2⟩
   ·exact .inl (UInt8.lt_trans h1 h2)
   ·exact .inl h1
  ·rcases h2 with h2 | ⟨rfl,h2⟩
   ·exact .inl h2
   ·exact .inr ⟨rfl,rd a b c h1 h2⟩
theorem Q4:∀ a b:List UInt8,Op.bytesLess a b=false->Op.bytesLess b a=false->a=b
 | [],[],_,_=>rfl
 | [],_ :: _,h,_=>by simp[Op.bytesLess]at h
 | _ :: _,[],_,h=>by simp[Op.bytesLess]at h
 | x :: a,y :: b,h1,h2=>by
  simp only[Op.bytesLess,Bool.or_eq_false_iff,Bool.and_eq_false_iff,decide_eq_false_iff_not,beq_eq_false_iff_ne]at h1 h2;have hxy:x=y:=by
   apply UInt8.toNat_inj.1;have a1:=h1.1;have a2:=h2.1;rw[UInt8.lt_iff_toNat_lt]at a1 a2;omega
  subst hxy;rw[Q4 a b (h1.2.resolve_left (fun h=>h rfl)) (h2.2.resolve_left (fun h=>h rfl))]
theorem Bi (a b:Str) (h:a≠b) (h1:Op.bytesLess a b=false):Op.bytesLess b a=true:=by
 cases h2:Op.bytesLess b a
 ·exact absurd (Q4 a b h1 h2) h
 ·rfl
theorem lK {l:List Str}:dw (x :: l)=true ↔ (∀ y,l.head?=some y->Op.bytesLess x y=true)/\dw l=true:=by
 cases l with
 | nil=>simp[dw]
 | cons y r=>simp[dw]
theorem iy:∀ (l:List (Str×α)) (x:Str),getB l x=none ↔ x ∉ l.map (·.1)
 | [],x=>by simp[getB]
 | (y,v) :: r,x=>by
  unfold getB
  by_cases h:y == x
  ·simp only[h,↓reduceIte,reduceCtorEq,cC,cG,false_iff];rw[ej]at h;exact fun h2=>h2 (.inl h.symm)
  ·simp only[h,bO,↓reduceIte,cC,cG,not_or];rw[iy r x];constructor
   ·exact fun h2=>⟨fun e=>h (by rw[e];simp),h2⟩
   ·exact fun h2=>h2.2
theorem Q5 (x:Str) (v:α) (l:List (Str×α)):∀ y,((g_ x v l).map (·.1)).head?=some y->y=x\/(l.map (·.1)).head?=some y:=by
 intro y h
 cases l with
 | nil=>simp only[g_,cC,List.map_nil,List.head?_cons,c9]at h;exact .inl h.symm
 | cons z r=>
  obtain ⟨z,u⟩:=z;unfold g_ at h;split at h
  ·simp only[cC,List.head?_cons,c9]at h;exact .inl h.symm
  ·simp only[cC,List.head?_cons,c9]at h;exact .inr (by simp[h])
theorem tQ (x:Str) (v:α):∀ (l:List (Str×α)),x ∉ l.map (·.1)->dw (l.map (·.1))=true->dw ((g_ x v l).map (·.1))=true
 | [],_,_=>by simp[g_,dw]
 | (y,u) :: r,hx,hs=>by
  simp only[cC,cG,not_or]at hx;unfold g_;split
  ·rename_i h;simp only[cC]at hs ⊢;exact lK.2 ⟨fun z hz=>by simp only[List.head?_cons,c9]at hz;rw[<-hz];exact h,hs⟩
  ·rename_i h;simp only[cC]at hs ⊢;obtain ⟨h1,h2⟩:=lK.1 hs;refine lK.2 ⟨fun z hz=>?_,tQ x v r hx.2 h2⟩;rcases Q5 x v r z hz with rfl | hz
   ·exact Bi _ _ hx.1 (by simpa using h)
   ·exact h1 z hz
theorem Gl (P:Str×α->Bool) (x:Str) (v:α):∀ (l:List (Str×α)),(g_ x v l).all P=(P (x,v) && l.all P)
 | []=>by simp[g_]
 | (y,u) :: r=>by
  unfold g_;split
  ·simp
  ·simp only[List.all_cons,Gl P x v r];cases P (y,u) <;> simp
def U7 (l:List (Str×Fm)):Bool:=l.all (fun x=>dA x.1 && bT (bl x.2)) && dw (l.map (·.1))
def Ij (l:List (Str×Tm)):Bool:=l.all (fun x=>cX x.1 && jc false (aK x.2)) && dw (l.map (·.1))
theorem dj (b:Bd):validB b=true ↔ U7 b.fs=true/\Ij b.ts=true:=by
 simp only[validB,U7,Ij,ae];constructor
 ·exact fun ⟨⟨a,b⟩,c,d⟩=>⟨⟨a,c⟩,b,d⟩
 ·exact fun ⟨⟨a,c⟩,b,d⟩=>⟨⟨a,b⟩,c,d⟩
theorem Ni {k:List (Str×Tm)} {n:Str} (hk:Ij k=true) (hn:cX n=true) (ht:jc false (aK t)=true) (hg:getB k n=none):Ij (g_ n t k)=true:=by
 simp only[Ij,ae]at hk ⊢;exact qes
theorem U8 {k:List (Str×Fm)} {n:Str} {t:Fm} (hk:U7 k=true) (hn:dA n=true) (ht:bT (bl t)=true) (hg:getB k n=none):U7 (g_ n t k)=true:=by
 simp only[U7,ae]at hk ⊢;exact qes
theorem Lm {n:Str} {a:List Tm} (h:jc true (.mk true n a)=true) (hm:dl n=true):cX n=true:=by
 simp only[jc,↓reduceIte,dz,ae,Bool.or_eq_true]at h;rcases h.2 with h | h
 ·rw[Q3 h]at hm;cases hm
 ·exact h
mutual
theorem vr (sc:List Str):∀ (t u:Tm) (k k':List (Str×Tm)),jc true t=true->jc false (aK u)=true->Ij k=true->cY sc k t u=some k'->Ij k'=true
 | .mk v n a,.mk v' n' a',k,k',ht,hu,hk,h=>by
  unfold cY at h
  by_cases hm:(v && dl n)=true
  ·rw[aw hm]at h;simp only[ae]at hm;obtain ⟨rfl,hm⟩:=hm
   cases hg:getB k n with
   | none=>
    rw[hg]at h;simp only[c9]at h;subst h;exact Ni hk (Lm ht hm) hu hg
   | some u=>
    have qet:=();exact qb6
  ·rw[ak hm]at h;split at h
   ·split at h
    ·cases h;exact hk
    ·cases h
   ·split at h
    ·cases h
    ·rename_i hs hd;simp only[Bool.or_eq_true,bne_iff_ne,ne_eq,not_or,Decidable.not_not]at hd;obtain ⟨rfl,rfl,hl⟩:=hd
     cases v with
     | true=>
      simp only[jc,↓reduceIte,ae]at ht;have:a=[]:=by simpa using ht.1
      subst this;have:a'=[]:=List.length_eq_zero_iff.1 (by simpa using hl.symm);subst this;simp only[bL,c9]at h;rw[<-h];exact hk
     | false=>
      simp only[jc,bO,↓reduceIte,ae]at ht;exact s9 sc a a' k k' ht.2.2 (Bg hu) hk h
theorem s9 (sc:List Str):∀ (t u:List Tm) (k k':List (Str×Tm)),d9 true t=true->d9 false (bF u)=true->Ij k=true->bL sc k t u=some k'->Ij k'=true
 | [],u,k,k',_,_,hk,h=>by simp only[bL,c9]at h;rw[<-h];exact hk
 | _ :: _,[],k,k',_,_,hk,h=>by simp only[bL,c9]at h;rw[<-h];exact hk
 | t :: l,u :: m,k,k',ht,hu,hk,h=>by
  simp only[bL]at h;simp only[d9,bF,ae]at ht hu
  cases h1:cY sc k t u with
  | none=>rw[h1]at h;cases h
  | some k1=>
   rw[h1]at h;exact s9 sc l m k1 k' ht.2 hu.2 (vr sc t u k k1 ht.1 hu.1 hk h1) h
end
theorem vw (hc:VarsOk (c.map (·.1))):∀ (t u:List Tm) (k k':List (Str×Tm)),d9 true t=true->d9 false u=true->Ij k=true->cA c k t u=some k'->Ij k'=true
 | [],u,k,k',_,_,hk,h=>by simp only[cA,c9]at h;rw[<-h];exact hk
 | _ :: _,[],k,k',_,_,hk,h=>by simp only[cA,c9]at h;rw[<-h];exact hk
 | t :: l,u :: m,k,k',ht,hu,hk,h=>by
  simp only[cA]at h;simp only[d9,ae]at ht hu
  cases h0:iB c [] u with
  | none=>rw[h0]at h;cases h
  | some im=>
   rw[h0]at h;simp only at h
   cases h1:cY (c.map (·.1)) k t im with
   | none=>rw[h1]at h;cases h
   | some k1=>
    rw[h1]at h;exact vw hc l m k1 k' ht.2 hu.2 (vr _ t im k k1 ht.1 (Aw hc [] u im hu.1 h0).1 hk h1) h
def XE (step:Bd->Pl->Bd×Int):Prop:=∀ k p k',PlOk p->validB k=true->step k p=(k',0)->validB k'=true
theorem E7 (hp:PlOk p) (h:e8 p.c [] p.f=some im):bT (bl im)=true:=by
 obtain ⟨h1,h2,h3⟩:=Ax hp.c p.f im [] hp.f h;have h4:=g9 im;have h5:=hp.n;have h6:=hp.d;simp only[bT,ae,br];exact ⟨h1,by omega,by omega⟩
theorem s_:XE aY:=by
 intro k p k' hp hk h;unfold aY at h;split at h
 ·cases h;exact hk
 rename_i h16;split at h
 ·rename_i ja
  cases hi:e8 p.c [] p.f with
  | none=>rw[hi]at h;simp at h
  | some im=>
   rw[hi]at h;simp only at h
   cases hg:getB k.fs p.s.n with
   | none=>
    rw[hg]at h;have ql6:=();exact qeu
   | some g=>
    exact qb6
 ·split at h
  ·simp at h
  ·rename_i hd
   cases ha:cA p.c k.ts p.s.a p.f.a with
   | none=>rw[ha]at h;simp at h
   | some ts=>
    rw[ha]at h;exact qeu
theorem lk (hp:PlOk p) (h16:p.s.op=16):∃x y:Str,p.s.a=[aP x,aP y]/\fH x=true/\cX y=true/\aU p.s=(bI x,y):=by
 have hs:=hp.s;obtain ⟨⟨o,n,a,s⟩,f,c⟩:=p;simp only[Fm.op]at h16;subst h16;simp only[okF,ae,bne_self_eq_false,Bool.false_or]at hs;have h1:=hs.2.2.1;have h2:=hs.2.2.2.1;unfold uW at h1;split at h1
 ·rename_i x y;obtain ⟨xv,xn,xa⟩:=x;obtain ⟨yv,yn,ya⟩:=y;simp only[Tm.v,Tm.n,ae]at h1;obtain ⟨rfl,hx,rfl,hy⟩:=h1;simp only[d9,jc,↓reduceIte,ae]at h2;have e1:xa=[]:=by simpa using h2.1.1
  have e2:ya=[]:=by simpa using h2.2.1.1
  subst e1 e2;exact ⟨xn,yn,rfl,hx,hy,rfl⟩
 ·cases h1
theorem Bj:XE dp:=by
 intro k p k' hp hk h;unfold dp at h
 by_cases h16:(p.s.op != 16)=true
 ·rw[aw h16]at h;cases h;exact hk
 rw[ak h16]at h;have zc7:p.s.op=16:=by simpa using h16
 cases hg:getB k.fs p.s.n with
 | none=>rw[hg]at h;simp at h
 | some f=>
  rw[hg]at h;simp only at h
  cases hi:e8 p.c [] p.f with
  | none=>rw[hi]at h;simp at h
  | some im=>
   rw[hi]at h;simp only at h
   by_cases h0:ea (aU p.s).1 f=0
   ·rw[aw h0]at h;split at h
    ·cases h;exact hk
    ·simp at h
   ·rw[ak h0]at h
    cases ht:getB k.ts (aU p.s).2 with
    | some t=>
     rw[ht]at h;simp only at h;split at h
     ·simp at h
     ·split at h
      ·cases h;exact hk
      ·simp at h
    | none=>
     rw[ht]at h;simp only at h
     cases hf:gD f im (aU p.s).1 with
     | none=>rw[hf]at h;simp at h
     | some t=>
      rw[hf]at h;simp only[Option.map_some]at h;split at h
      ·simp at h
      ·split at h
       ·simp only[Prod.mk.injEq,and_true]at h;subst h;obtain ⟨k1,k2⟩:=(dj k).1 hk;obtain ⟨x,y,_,_,hy,hn⟩:=lk hp zc7;refine (dj _).2 ⟨k1,Ni k2 (by rw[hn];exact hy) (IV (Ax hp.c p.f im [] hp.f hi).1 hf) ht⟩
       ·simp at h
def Up (l:List Str):Prop:=l.Pairwise (fun x y=>Op.bytesLess x y=true)
theorem Bk (x y:Str):∀ l,y∈tG x l ↔ y=x\/y∈l
 | []=>by simp[tG]
 | z :: l=>by
  have ih:=Bk x y l;unfold tG
  by_cases h:(x == z)=true
  ·rw[aw h];have:x=z:=by simpa using h
   subst this;simp
  ·rw[ak h]
   by_cases h2:Op.bytesLess x z=true
   ·rw[aw h2];simp
   ·rw[ak h2];simp[ih];grind
theorem Nj (x:Str):∀ l,Up l->Up (tG x l)
 | [],_=>by simp[tG,Up]
 | z :: l,h=>by
  have hl:Up l:=(List.pairwise_cons.1 h).2;have hz:=(List.pairwise_cons.1 h).1;have ih:=Nj x l hl;unfold tG
  by_cases h1:(x == z)=true
  ·rw[aw h1];exact h
  ·rw[ak h1]
   by_cases h2:Op.bytesLess x z=true
   ·rw[aw h2];refine List.pairwise_cons.2 ⟨fun y hy=>?_,h⟩;rcases cG.1 hy with rfl | hy
    ·exact h2
    ·exact rd _ _ _ h2 (hz y hy)
   ·rw[ak h2];refine List.pairwise_cons.2 ⟨fun y hy=>?_,ih⟩;rcases (Bk x y l).1 hy with rfl | hy
    ·exact Bi _ _ (by simpa using h1) (by simpa using h2)
    ·exact hz y hy
theorem tR (l:List Str):Up (di l):=by
 unfold di
 induction l with
 | nil=>simp[Up]
 | cons x l ih=>exact Nj x _ ih
theorem dV (y:Str) (l:List Str):y∈di l ↔ y∈l:=by
 unfold di
 induction l with
 | nil=>simp
 | cons x l ih=>simp only[List.foldr_cons,Bk,ih,cG]
theorem iW {l:List Str} (h:Up l):l.Nodup:=by
 refine List.Pairwise.imp ?_ h;intro a b D2 e;subst e;rw[mK]at D2;cases D2
theorem Ln:∀ l m:List Str,Up l->Up m->(∀ x,x∈l ↔ x∈m)->l=m
 | [],[],_,_,_=>rfl
 | [],y :: m,_,_,h=>by have:=(h y).2 (by simp);cases this
 | x :: l,[],_,_,h=>by have:=(h x).1 (by simp);cases this
 | x :: l,y :: m,hl,hm,h=>by
  have hx:=(List.pairwise_cons.1 hl).1;have hy:=(List.pairwise_cons.1 hm).1;have hxy:x=y:=by
   by_cases e:x=y
   ·exact e
   ·have h1:=(h x).1 (by simp);have h2:=(h y).2 (by simp);rcases cG.1 h1 with h1 | h1
    ·exact absurd h1 e
    ·rcases cG.1 h2 with h2 | h2
     ·exact h2.symm
     ·have a:=hx y h2;have b:=hy x h1;have c:=rd _ _ _ a b;rw[mK]at c;cases c
  subst hxy;refine congrArg _ (Ln l m (List.pairwise_cons.1 hl).2 (List.pairwise_cons.1 hm).2 (fun z=>?_));constructor
  ·intro hz;rcases cG.1 ((h z).1 (fL _ hz)) with e | e
   ·subst e;have:=hx z hz;rw[mK]at this;cases this
   ·exact e
  ·intro hz;rcases cG.1 ((h z).2 (fL _ hz)) with e | e
   ·subst e;have:=hy z hz;rw[mK]at this;cases this
   ·exact e
theorem Bl {ss:List Str} (hp:ss.Perm (di xs)):ss.mergeSort (fun x y=>decide (x<=y))=di xs:=by
 have XF:=List.mergeSort_perm ss (fun x y=>decide (x<=y));refine Ln _ _ ?_ (tR xs) (fun x=>by rw[XF.mem_iff,hp.mem_iff]);have DV:(ss.mergeSort (fun x y=>decide (x<=y))).Nodup:=(XF.trans hp).nodup_iff.2 (iW (tR xs));have hs:(ss.mergeSort (fun x y=>decide (x<=y))).Pairwise (fun x y=>decide (x<=y)=true):=List.pairwise_mergeSort (fun a b c h1 h2=>by simp at h1 h2 ⊢;exact List.le_trans h1 h2) (fun a b=>by simp;exact List.le_total a b) ss;refine (hs.and DV).imp ?_;rintro a b ⟨h1,h2⟩;refine Bi b a (fun e=>h2 e.symm) ?_;rw[bytesLess_eq];simp at h1 ⊢;exact h1
end Go.Proofs.YtokemihbkeddoaaGreatDoor
namespace Go.Proofs
open Go.RowKit Go.Maps Go.Sort Go.Shelf
shelf_lay_g SlLaysZ.n7 Ggz 7 at Tryz 75 as Tryz.keysA
shelf_lay_g SlLaysZ.n6 Ggz 6 at Tryz 74 as Tryz.sortedA
theorem Tryz.sortsA (m:Nat):AnyZ.SortsIn Tryz.prog Tryz.sortedA_ren Fence.wide m:=
 ⟨fun blk off cap ss W hH zc8 hsz=>callsIn_wide.2 (Tryz.slices_Sort_string blk off cap ss W hH zc8 hsz),
  fun p cap W=>callsIn_wide.2 (Tryz.slices_Sort_string_none p cap W)⟩
end Go.Proofs
namespace Go.Proofs.YtokemihbkeddoaaGreatDoor
open Go Go.RowKit Go.Maps Go.Sort Go.Shelf
def RowS (lo:Nat) (W:World) (v:Value) (l:List Str):Prop:=W.ownsRow lo 9 1 v l.length (l.map encStr)/\(v=.slice none 0 0 ↔ l=[])
theorem Bm (mb:Option Nat) (W:World):Calls Tryz.prog 75 #[.map mb] W fun e w'=>e=.returned (.func (.func 135) #[] #[.pointer (some ⟨W.heap.size,0,none⟩)])/\w'=W.alloc (.cells #[.map mb] 118):=
 aH.1 (AnyZ.keys_in Tryz.keysA Fence.wide 5 trivial rfl mb W)
theorem tS (m n:Nat) (xs:List Str) (hn:n<=2000000) (W:World) (hs:SetW W m n xs) :
  Calls Tryz.prog 74 #[.func (.func 135) #[] #[.pointer (some ⟨W.heap.size,0,none⟩)]] (W.alloc (.cells #[.map (some m)] 118)) fun e w'=>∃v,e=.returned v/\RowS W.heap.size w' v (di xs)/\Below W.heap.size W w':=by
 obtain ⟨D0,au,pz,_⟩:=hs;have Qw:=au.lt;have hsz:=au.size_le;have nH:SeqGives Fence.wide 2 Tryz.prog 135 #[.pointer (some ⟨W.heap.size,0,none⟩)] encStr (fun ss=>ss.Perm (strKeys D0)) (Maps.size D0) (W.alloc (.cells #[.map (some m)] 118)):=
  AnyZ.keys_gives (ρ:=Tryz.keysA_ren) { Tryz.keysA with } Fence.wide _ trivial rfl (by omega) W.heap.size m n D0 _ (by simp) (by simp) (au.alloc _)
 have cS:=AnyZ.sorted_in Tryz.sortedA Fence.wide 5 trivial trivial trivial trivial rfl (by omega) (Tryz.sortsA _) (enters_of Tryz.func134 (by kernel_rfl) rfl) 135 #[.pointer (some ⟨W.heap.size,0,none⟩)] trivial (enters_of Tryz.func135 (by kernel_rfl) rfl) _ _ (by unfold maxLen;omega) (by omega) _ nH;have ql7:=();exact qb7
mutual
theorem mZ:∀ t:Tm,(aE t).length<=nodesT t
 | .mk v n a=>by
  have:=E8 a;unfold aE nodesT;cases v <;> simp <;> omega
theorem E8:∀ l:List Tm,(ao l).length<=nodesTs l
 | []=>by simp[ao]
 | t :: l=>by
  have h1:=mZ t;have h2:=E8 l;unfold ao nodesTs;simp;omega
end
mutual
theorem m4 {p:Nat}:∀ t:Tm,jJ p t=true->∀ x∈aE t,x.length<=p
 | .mk v n a,h,x,hx=>by
  simp only[jJ,ae,br]at h;unfold aE at hx
  cases v with
  | false=>exact oN a h.2 x (by simpa using hx)
  | true=>
   rcases cG.1 (by simpa using hx) with rfl | hx
   ·exact h.1
   ·exact oN a h.2 x hx
theorem oN {p:Nat}:∀ l:List Tm,nmTs p l=true->∀ x∈ao l,x.length<=p
 | [],_,x,hx=>by simp[ao]at hx
 | t :: l,h,x,hx=>by
  simp only[nmTs,ae]at h;unfold ao at hx;rcases List.mem_append.1 hx with hx | hx
  ·exact m4 t h.1 x hx
  ·exact oN l h.2 x hx
end
theorem mv (t:Tm) (ar:fitT t) (ok:Nat->Prop) (w:World) (q:TQ) (hq:TermV ok w q.val t) :
  Calls Tryz.prog 166 #[q.val] w fun e w'=>(∃v,e=.returned v/\RowS w.heap.size w' v (di (aE t)))/\RowKit.Below w.heap.size w w':=by
 have hq:=hq.lt;have nO:=aN (mZ t) ar.1;have ⟨W2,aZ⟩:=aj ((w.alloc (.cells #[.bool q.v,.string q.n,.slice q.a q.l q.c] 43)).alloc (.cells #[.bool q.v,.string q.n,.slice q.a q.l q.c] 43));have ql8:=();exact qev
end Go.Proofs.YtokemihbkeddoaaGreatDoor
namespace Go.Proofs.YtokemihbkeddoaaGreatDoor
open Go Go.RowKit Lib
set_option maxRecDepth 100000
set_option maxHeartbeats 64000000
variable {sc:Bool} {o:Int} {a:List Tm} {s:List Fm} {x y:Str} {f g:Fm} {u:Tm} {φ:Fm->Fm} {t:List Str} {j c:Nat} {e:TypeId} {v:Value}
inductive Dt where
 | lvl (i:Nat)
 | fre (n:Str)
 | app (n:Str) (a:List Dt)
inductive Df where
 | mk (op:Int) (n:Str) (a:List Dt) (s:List Df)
def upd (σ:Str->Dt) (n:Str) (v:Dt):Str->Dt:=fun x=>if x == n then v else σ x
mutual
def fY (σ:Str->Dt):Tm->Dt | .mk v n a=>if v then σ n else .app n (dB σ a)
def dB (σ:Str->Dt):List Tm->List Dt | []=>[] | t :: l=>fY σ t :: dB σ l
end
mutual
def jF (σ:Str->Dt) (d:Nat):Fm->Df
 | .mk op n a s=>if bm op then .mk op [] (dB σ a) (em (upd σ n (.lvl d)) (d+1) s) else .mk op n (dB σ a) (em σ d s)
def em (σ:Str->Dt) (d:Nat):List Fm->List Df | []=>[] | t :: l=>jF σ d t :: em σ d l
end
mutual
def jL:Tm->Bool | .mk v _ a=>(!v || a.isEmpty) && dO a
def dO:List Tm->Bool | []=>true | t :: l=>jL t && dO l
end
mutual
def gS:Fm->Bool | .mk _ _ a s=>dO a && eR s
def eR:List Fm->Bool | []=>true | t :: l=>gS t && eR l
end
mutual
theorem Bn:∀ t,jc sc t=true->jL t=true
 | .mk v n a,h=>by
  simp only[jc]at h
  cases v with
  | true=>
   simp only[↓reduceIte,ae]at h;have:a=[]:=by simpa using h.1
   subst this;simp[jL,dO]
  | false=>
   simp only[bO,↓reduceIte,ae]at h;simp[jL,Gm a h.2.2]
theorem Gm:∀ t,d9 sc t=true->dO t=true
 | [],_=>by simp[dO]
 | t :: l,h=>by simp only[d9,ae]at h;simp[dO,Bn t h.1,Gm l h.2]
end
mutual
theorem oh:∀ t,okF sc t=true->gS t=true
 | .mk o n a s,h=>by
  simp only[okF,ae]at h;simp[gS,Gm a h.2.2.2.1,Nk s h.2.2.2.2]
theorem Nk:∀ t,dt sc t=true->eR t=true
 | [],_=>by simp[eR]
 | t :: l,h=>by simp only[dt,ae]at h;simp[eR,oh t h.1,Nk l h.2]
end
mutual
theorem E9:∀ t,jL (aK t)=jL t
 | .mk v n a=>by
  simp only[aK,jL,tT a];congr 2;cases a <;> simp[bF]
theorem tT:∀ t,dO (bF t)=dO t
 | []=>by simp[bF]
 | t :: l=>by simp[bF,dO,E9 t,tT l]
end
mutual
theorem xW:∀ t,gS (bl t)=gS t
 | .mk o n a s=>by simp[bl,gS,tT a,Bo s]
theorem Bo:∀ t,eR (bR t)=eR t
 | []=>by simp[bR]
 | t :: l=>by simp[bR,eR,xW t,Bo l]
end
mutual
theorem Gn (b:List Str):∀ (f:Fm) (c:List Str),aL (c ++ b) f=(aL c f).filter (fun x=>!b.contains x)
 | .mk o n a s,c=>by
  simp only[aL,List.filter_append,List.filter_filter];congr 1
  ·apply List.filter_congr;intro x _;rw[List.contains_eq_any_beq,List.any_append,<-List.contains_eq_any_beq,<-List.contains_eq_any_beq,Bool.not_or,Bool.and_comm]
  ·by_cases hq:bm o
   ·rw[aw hq,aw hq];exact lB b s (n :: c)
   ·rw[ak hq,ak hq];exact lB b s c
theorem lB (b:List Str):∀ (f:List Fm) (c:List Str),bn (c ++ b) f=(bn c f).filter (fun x=>!b.contains x)
 | [],c=>by simp[bn]
 | t :: l,c=>by simp[bn,Gn b t c,lB b l c]
end
theorem ib (n:Str) (s:List Fm):bn [n] s=(bn [] s).filter (fun x=>!(x == n)):=by
 have h:=lB [n] s [];simp only[sS]at h;rw[h];apply List.filter_congr;intro x _;rw[ip];simp
mutual
theorem Bp {σ τ:Str->Dt}:∀ (t:Tm),(∀ x∈aE t,σ x=τ x)->fY σ t=fY τ t
 | .mk v n a,h=>by
  cases v with
  | true=>simp only[fY,↓reduceIte];exact h n (by simp[aE])
  | false=>simp only[fY,bO,↓reduceIte];rw[rW a (fun x hx=>h x (by simpa[aE] using hx))]
theorem rW {σ τ:Str->Dt}:∀ (t:List Tm),(∀ x∈ao t,σ x=τ x)->dB σ t=dB τ t
 | [],_=>rfl
 | t :: l,h=>by
  simp only[dB];rw[Bp t (fun x hx=>h x (by simp[ao,hx])),rW l (fun x hx=>h x (by simp[ao,hx]))]
end
theorem vA {n:Str} (hq:bm o=true) (hx:x∈bn [] s) (hn:x≠n):x∈aL [] (.mk o n a s):=by
 simp only[aL,List.mem_append,hq,if_true];right;rw[ib];exact List.mem_filter.2 ⟨hx,by simpa using hn⟩
theorem vB {n:Str} (hx:x∈ao a):x∈aL [] (.mk o n a s):=by
 simp only[aL,List.mem_append];left;exact List.mem_filter.2 ⟨hx,by simp⟩
mutual
theorem vC:∀ (f:Fm) (σ τ:Str->Dt) (d:Nat),(∀ x∈aL [] f,σ x=τ x)->jF σ d f=jF τ d f
 | .mk o n a s,σ,τ,d,h=>by
  have ha:dB σ a=dB τ a:=rW a (fun x hx=>h x (vB hx));simp only[jF,ha]
  by_cases hq:bm o
  ·rw[aw hq,aw hq];rw[xZ s (upd σ n (.lvl d)) (upd τ n (.lvl d)) (d+1) (fun x hx=>by
    unfold upd;split
    ·rfl
    ·rename_i hn;exact h x (vA hq hx (by simpa using hn)))]
  ·rw[ak hq,ak hq];rw[xZ s σ τ d (fun x hx=>h x (by simp only[aL,List.mem_append];right;rw[ak hq];exact hx))]
theorem xZ:∀ (f:List Fm) (σ τ:Str->Dt) (d:Nat),(∀ x∈bn [] f,σ x=τ x)->em σ d f=em τ d f
 | [],_,_,_,_=>rfl
 | t :: l,σ,τ,d,h=>by
  simp only[em];rw[vC t σ τ d (fun x hx=>h x (by simp[bn,hx])),xZ l σ τ d (fun x hx=>h x (by simp[bn,hx]))]
end
def fE:List Str->Str->Dt
 | [],x=>.fre x
 | n :: r,x=>if x == n then .lvl r.length else fE r x
theorem vD (n:Str) (r:List Str):fE (n :: r)=upd (fE r) n (.lvl r.length):=by funext x;rfl
theorem rX:∀ (l:List Str) (x:Str) (i:Nat),fE l x=.lvl i->i<l.length
 | [],x,i,h=>by simp[fE]at h
 | n :: r,x,i,h=>by
  unfold fE at h;split at h
  ·simp only[Dt.lvl.injEq]at h;subst h;simp
  ·have:=rX r x i h;simp;omega
theorem Bq:∀ (c:Sco) (x y:Str),n_ c x y=true ↔ fE (c.map (·.1)) x=fE (c.map (·.2)) y
 | [],x,y=>by simp[n_,fE]
 | (s,a) :: r,x,y=>by
  have ih:=Bq r x y;simp only[n_,cC,fE,List.length_map]
  by_cases h1:s=x
  ·subst h1
   by_cases h2:a=y
   ·subst h2;simp
   ·have e2:(a == y)=false:=by simpa using h2
    have e3:(y == a)=false:=by simpa using fun h=>h2 h.symm
    simp only[beq_self_eq_true,e2,Bool.true_or,Bool.and_false,e3,bO,↓reduceIte,false_iff];intro h;have:=rX _ _ _ h.symm;simp at this
  ·have e1:(s == x)=false:=by simpa using h1
   have e4:(x == s)=false:=by simpa using fun h=>h1 h.symm
   by_cases h2:a=y
   ·subst h2;simp only[e1,beq_self_eq_true,Bool.or_true,Bool.false_and,e4,bO,↓reduceIte,false_iff];intro h;have:=rX _ _ _ h;simp at this
   ·have e2:(a == y)=false:=by simpa using h2
    have e3:(y == a)=false:=by simpa using fun h=>h2 h.symm
    simp only[e1,e2,Bool.or_self,bO,↓reduceIte,e3,e4];exact ih
theorem zm:∀ (c:Sco) (x y:Str),c.any (fun p=>p.1 == x || p.2 == y)=false->n_ c x y=(x == y)
 | [],x,y,_=>by simp[n_]
 | (s,a) :: r,x,y,h=>by
  simp only[List.any_cons,Bool.or_eq_false_iff]at h;simp only[n_,h.1.1,h.1.2,Bool.or_self,bO,↓reduceIte];exact zm r x y (by simpa using h.2)
theorem kH (σ:Str->Dt):∀ l,(dB σ l).length=l.length
 | []=>rfl
 | t :: l=>by simp[dB,kH σ l]
theorem m5 (σ:Str->Dt) (d:Nat):∀ l,(em σ d l).length=l.length
 | []=>rfl
 | t :: l=>by simp[em,m5 σ d l]
theorem Gp (l:List Str) (x n:Str) (a:List Dt):fE l x≠.app n a:=by
 induction l with
 | nil=>simp[fE]
 | cons y r ih=>unfold fE;split <;> simp[ih]
mutual
theorem Lo (c:Sco):∀ (t u:Tm),jL t=true->jL u=true->(fZ c t u=true ↔ fY (fE (c.map (·.1))) t=fY (fE (c.map (·.2))) u)
 | .mk v n a,.mk v' n' a',ht,hu=>by
  simp only[jL,ae,Bool.or_eq_true,Bool.not_eq_true']at ht hu
  cases v with
  | true=>
   obtain rfl:a=[]:=by simpa using ht.1
   cases v' with
   | true=>
    obtain rfl:a'=[]:=by simpa using hu.1
    simp only[fZ,fY,beq_self_eq_true,Bool.and_self,dz,↓reduceIte,cf,Bool.and_true];rw[<-Bq];split
    ·rfl
    ·rename_i h;rw[zm c n n' (by simpa using h)]
   | false=>
    simp only[fZ,fY,↓reduceIte,bO];constructor
    ·intro h;simp at h
    ·intro h;exact absurd h (Gp _ _ _ _)
  | false=>
   cases v' with
   | true=>
    simp only[fZ,fY,↓reduceIte,bO];constructor
    ·intro h;simp at h
    ·intro h;exact absurd h.symm (Gp _ _ _ _)
   | false=>
    have ih:=fun hl=>rf c a a' ht.2 hu.2 hl;simp only[fZ,fY,bO,↓reduceIte,Bool.false_and,beq_self_eq_true,dz,ae,ej,Dt.app.injEq];constructor
    ·rintro ⟨h1,h2,h3⟩;exact ⟨h2,(ih h1).1 h3⟩
    ·rintro ⟨h1,h2⟩;have hl:a.length=a'.length:=by have:=congrArg List.length h2;rwa [kH,kH]at this
     exact ⟨hl,h1,(ih hl).2 h2⟩
theorem rf (c:Sco):∀ (t u:List Tm),dO t=true->dO u=true->t.length=u.length->(cf c t u=true ↔ dB (fE (c.map (·.1))) t=dB (fE (c.map (·.2))) u)
 | [],[],_,_,_=>by simp[cf,dB]
 | [],_ :: _,_,_,h=>by simp at h
 | _ :: _,[],_,_,h=>by simp at h
 | t :: l,u :: m,ht,hu,h=>by
  simp only[dO,ae]at ht hu;simp only[cf,dB,ae,bP,Lo c t u ht.1 hu.1,rf c l m ht.2 hu.2 (by simpa using h)]
end
mutual
theorem Br:∀ (t u:Fm) (c:Sco),gS t=true->gS u=true->(cg c t u=true ↔ jF (fE (c.map (·.1))) c.length t=jF (fE (c.map (·.2))) c.length u)
 | .mk o n a s,.mk o' n' a' s',c,ht,hu=>by
  simp only[gS,ae]at ht hu;simp only[cg,jF,ae,ej,Bool.or_eq_true];have Q8:=fun hl=>rf c a a' ht.1 hu.1 hl;constructor
  ·rintro ⟨⟨rfl,h1,h2⟩,h3,h4,h5⟩;rw[(Q8 h1).1 h4]
   by_cases hq:bm o
   ·rw[aw hq]at h5 ⊢;rw[aw hq];have:=(lL s s' ((n,n') :: c) ht.2 hu.2 h2).1 h5;simp only[cC,vD,List.length_map,eT]at this;rw[this]
   ·rw[ak hq]at h5 ⊢;rw[ak hq];rw[(lL s s' c ht.2 hu.2 h2).1 h5,h3.resolve_right hq]
  ·intro h
   by_cases hq:bm o
   ·rw[aw hq]at h
    by_cases iN:bm o'
    ·rw[aw iN]at h;simp only[Df.mk.injEq,true_and]at h;obtain ⟨rfl,h2,h3⟩:=h;have ql9:=();exact qew
    ·rw[ak iN]at h;simp only[Df.mk.injEq]at h;rw[h.1]at hq;exact absurd hq iN
   ·rw[ak hq]at h
    by_cases iN:bm o'
    ·rw[aw iN]at h;simp only[Df.mk.injEq]at h;rw[h.1]at hq;exact absurd iN hq
    ·rw[ak iN]at h;simp only[Df.mk.injEq]at h;obtain ⟨rfl,h1,h2,h3⟩:=h;exact qew
theorem lL:∀ (t u:List Fm) (c:Sco),eR t=true->eR u=true->t.length=u.length->(cJ c t u=true ↔ em (fE (c.map (·.1))) c.length t=em (fE (c.map (·.2))) c.length u)
 | [],[],_,_,_,_=>by simp[cJ,em]
 | [],_ :: _,_,_,_,h=>by simp at h
 | _ :: _,[],_,_,_,h=>by simp at h
 | t :: l,u :: m,c,ht,hu,h=>by
  simp only[eR,ae]at ht hu;simp only[cJ,em,ae,bP,Br t u c ht.1 hu.1,lL l m c ht.2 hu.2 (by simpa using h)]
end
def db (f:Fm):Df:=jF (fE []) 0 f
theorem jg (hf:gS f=true) (hg:gS g=true):cg [] f g=true ↔ db f=db g:=Br f g [] hf hg
mutual
def Qx (σ:Str->Dt) (d:Nat):Dt->Dt | .lvl i=>.lvl (d+i) | .fre n=>σ n | .app n a=>.app n (OD σ d a)
def OD (σ:Str->Dt) (d:Nat):List Dt->List Dt | []=>[] | t :: l=>Qx σ d t :: OD σ d l
end
mutual
def sbF (σ:Str->Dt) (d:Nat):Df->Df | .mk o n a s=>.mk o n (OD σ d a) (Q9 σ d s)
def Q9 (σ:Str->Dt) (d:Nat):List Df->List Df | []=>[] | t :: l=>sbF σ d t :: Q9 σ d l
end
mutual
theorem Zu (σ:Str->Dt) (d:Nat) (ρ:Str->Dt):∀ t,fY (fun x=>Qx σ d (ρ x)) t=Qx σ d (fY ρ t)
 | .mk v n a=>by
  cases v with
  | true=>simp[fY]
  | false=>simp[fY,Qx,Gq σ d ρ a]
theorem Gq (σ:Str->Dt) (d:Nat) (ρ:Str->Dt):∀ t,dB (fun x=>Qx σ d (ρ x)) t=OD σ d (dB ρ t)
 | []=>by simp[dB,OD]
 | t :: l=>by simp[dB,OD,Zu σ d ρ t,Gq σ d ρ l]
end
theorem Zv (σ:Str->Dt) (d e:Nat) (ρ:Str->Dt) (n:Str):upd (fun x=>Qx σ d (ρ x)) n (.lvl (d+e))=fun x=>Qx σ d (upd ρ n (.lvl e) x):=by
 funext x
 unfold upd;split <;> simp[Qx]
mutual
theorem Lp (σ:Str->Dt) (d:Nat):∀ (f:Fm) (ρ:Str->Dt) (e:Nat),jF (fun x=>Qx σ d (ρ x)) (d+e) f=sbF σ d (jF ρ e f)
 | .mk o n a s,ρ,e=>by
  simp only[jF,Gq];split
  ·rw[Zv,Nat.add_assoc,Gs σ d s (upd ρ n (.lvl e)) (e+1)];simp[sbF]
  ·rw[Gs σ d s ρ e];simp[sbF]
theorem Gs (σ:Str->Dt) (d:Nat):∀ (f:List Fm) (ρ:Str->Dt) (e:Nat),em (fun x=>Qx σ d (ρ x)) (d+e) f=Q9 σ d (em ρ e f)
 | [],ρ,e=>by simp[em,Q9]
 | t :: l,ρ,e=>by simp[em,Q9,Lp σ d t ρ e,Gs σ d l ρ e]
end
theorem Q' (h:db f=db g) (σ:Str->Dt) (d:Nat):jF σ d f=jF σ d g:=by
 have h1:=Lp σ d f (fE []) 0;have h2:=Lp σ d g (fE []) 0;have e:(fun x=>Qx σ d (fE [] x))=σ:=by funext x;simp[fE,Qx]
 rw[e,Nat.add_zero]at h1 h2;rw[h1,h2];unfold db at h;rw[h]
mutual
def qone:Fm->Bool | .mk o _ a s=>(!bm o || (s.length == 1 && a.isEmpty)) && fF s
def fF:List Fm->Bool | []=>true | t :: l=>qone t && fF l
end
mutual
theorem vE:∀ t,okF sc t=true->qone t=true
 | .mk o n a s,h=>by
  simp only[okF,ae]at h;simp only[qone,ae,Bool.or_eq_true];refine ⟨?_,IW s h.2.2.2.2⟩;have h1:=h.2.1.2.2
  cases hq:bm o with
  | false=>exact .inl rfl
  | true=>
   simp only[bm,Bool.or_eq_true,ej]at hq;have e1:(rowOp o).2.2.2.2=1:=by rcases hq with rfl | rfl <;> decide
   have e2:(rowOp o).2.2.2.1=0:=by rcases hq with rfl | rfl <;> decide
   rw[e1]at h1;have h2:=h.2.1.2.1;rw[e2]at h2;have:a=[]:=List.length_eq_zero_iff.1 (by simpa using h2);subst this;exact .inr ⟨h1,rfl⟩
theorem IW:∀ t,dt sc t=true->fF t=true
 | [],_=>by simp[fF]
 | t :: l,h=>by simp only[dt,ae]at h;simp[fF,vE t h.1,IW l h.2]
end
def Q_:List UInt8->Nat:=List.foldl (fun n c=>n * 10+(c.toNat - 48)) 0
theorem OE (l:List UInt8) (c:UInt8):Q_ (l ++ [c])=Q_ l * 10+(c.toNat - 48):=by simp[Q_,List.foldl_append]
theorem Bs:∀ k n,n<10 ^ k->Q_ (D4 k n)=n
 | 0,n,h=>by simp at h;subst h;rfl
 | k+1,n,h=>by
  unfold D4;split
  ·show 0 * 10+((UInt8.ofNat (48+n)).toNat - 48)=n;have:(UInt8.ofNat (48+n)).toNat=48+n:=by simp[UInt8.toNat_ofNat'];omega
   omega
  ·rw[OE,Bs k (n / 10) (by rw[Nat.pow_succ]at h;omega)];have:(UInt8.ofNat (48+n % 10)).toNat=48+n % 10:=by simp[UInt8.toNat_ofNat'];omega
   omega
theorem OF {m n:Nat} (hm:m<10 ^ 20) (hn:n<10 ^ 20) (h:iF m=iF n):m=n:=by
 unfold iF at h;have h1:=congrArg Q_ (List.cons.inj h).2
 rwa [Bs 20 m hm,Bs 20 n hn]at h1
theorem vF {α:Type} [DecidableEq α]:∀ (l t:List α),l.Nodup->(∀ x∈l,x∈t)->l.length<=t.length
 | [],t,_,_=>aX _
 | a :: l,t,hn,hs=>by
  obtain ⟨h1,h2⟩:=List.nodup_cons.1 hn;have ha:=hs a (gp ..);have:=vF l (t.erase a) h2 (fun x hx=>(List.mem_erase_of_ne (fun e=>by subst e;exact h1 hx)).2 (hs x (fL _ hx)));rw[List.length_erase_of_mem ha]at this;have:=List.length_pos_of_mem ha;simp only[eT];omega
theorem tU (t:List Str) (ht:t.length<10 ^ 19):∀ k n,1<=n->n+k=t.length+1->(∀ i,1<=i->i<n->iF i∈t) →
  mG t k n ∉ t/\∃j,1<=j/\j<=t.length+1/\mG t k n=iF j/\∀ i,1<=i->i<j->iF i∈t
 | 0,n,h1,hk,hi=>by
  simp only[mG];refine ⟨fun hn=>?_,n,h1,by omega,rfl,hi⟩;have DV:((List.range' 1 n).map iF).Nodup:=by
   rw[List.nodup_iff_pairwise_ne,List.pairwise_map];refine (List.nodup_iff_pairwise_ne.1 List.nodup_range').imp_of_mem ?_;intro a b ha hb D2 he;rw[List.mem_range'_1]at ha hb;exact D2 (OF (by omega) (by omega) he)
  have:=vF _ t DV (fun x hx=>by
   obtain ⟨i,xk,rfl⟩:=List.mem_map.1 hx;rw[List.mem_range'_1]at xk
   by_cases e:i=n
   ·subst e;exact hn
   ·exact hi i xk.1 (by omega))
  simp at this;omega
 | k+1,n,h1,hk,hi=>by
  unfold mG;split
  ·rename_i hc;refine tU t ht k (n+1) (by omega) (by omega) (fun i h2 h3=>?_)
   by_cases e:i=n
   ·subst e;simpa using hc
   ·exact hi i h2 (by omega)
  ·rename_i hc;exact ⟨by simpa using hc,n,h1,by omega,rfl,hi⟩
theorem oO (t:List Str) (ht:t.length<10 ^ 19):dL t ∉ t:=(tU t ht t.length 1 (aC _) (by omega) (fun i h1 h2=>by omega)).1
theorem vG (t:List Str) (ht:t.length<10 ^ 19):∃j,1<=j/\j<=t.length+1/\dL t=iF j/\∀ i,1<=i->i<j->iF i∈t:=(tU t ht t.length 1 (aC _) (by omega) (fun i h1 h2=>by omega)).2
theorem Gt:∀ k n j,n<10 ^ j->1<=j->(D4 k n).length<=j
 | 0,n,j,_,_=>by simp[D4]
 | k+1,n,j,h,hj=>by
  unfold D4;split
  ·simpa using hj
  ·rw[cU]
   cases j with
   | zero=>omega
   | succ j=>
    cases j with
    | zero=>omega
    | succ j=>have:=Gt k (n / 10) (j+1) (by rw[Nat.pow_succ]at h;omega) (by omega);simp;omega
theorem iz (f:Str->Option Tm):∀ l,sW f l=l.map (gC f)
 | []=>by simp[sW]
 | t :: l=>by simp[sW,iz f l]
mutual
theorem Vb (σ:Str->Dt) (x:Str) (u:Tm):∀ t,fY σ (lG x u t)=fY (upd σ x (fY σ u)) t
 | .mk v n a=>by
  have ih:=rg σ x u a;simp only[eL]at ih;unfold lG gC
  cases v with
  | true=>
   by_cases h:n == x
   ·simp[h,fY,upd]
   ·simp[h,fY,upd]
  | false=>
   simp only[bO,↓reduceIte,fY];rw[<-ih];congr 2;exact (iz _ a)
theorem rg (σ:Str->Dt) (x:Str) (u:Tm):∀ l,dB σ (eL x u l)=dB (upd σ x (fY σ u)) l
 | []=>by simp[eL,dB]
 | t :: l=>by
  have ih:=rg σ x u l;simp only[eL]at ih ⊢;simp only[cC,dB,Vb σ x u t,ih]
end
mutual
theorem Vc {x:Str} (hu:jL u=true):∀ t,jL t=true->jL (lG x u t)=true
 | .mk v n a,h=>by
  have ih:=vH (x:=x) hu a;simp only[jL,ae]at h;unfold lG gC
  cases v with
  | true=>
   have qma:=();exact qb8
  | false=>
   simp only[bO,↓reduceIte,jL,Bool.not_false,Bool.true_or,dz];rw[iz];exact ih h.2
theorem vH {x:Str} (hu:jL u=true):∀ l,dO l=true->dO (eL x u l)=true
 | [],_=>by simp[eL,dO]
 | t :: l,h=>by
  have ih:=vH (x:=x) hu l;simp only[eL]at ih ⊢;simp only[dO,ae]at h;simp only[cC,dO,ae];exact ⟨Vc hu t h.1,ih h.2⟩
end
mutual
theorem Lq {x:Str} {y:Str}:∀ t,jL t=true->dh (lG x (aP y) t)=dh t
 | .mk v n a,h=>by
  have ih:=rh (x:=x) (y:=y) a;simp only[jL,ae]at h;unfold lG gC
  cases v with
  | true=>
   have qmb:=();exact qb8
  | false=>
   simp only[bO,↓reduceIte,dh];rw[iz];exact congrArg (·+1) (ih h.2)
theorem rh {x:Str} {y:Str}:∀ l,dO l=true->bE (eL x (aP y) l)=bE l
 | [],_=>by simp[eL]
 | t :: l,h=>by
  have ih:=rh (x:=x) (y:=y) l;simp only[eL]at ih ⊢;simp only[dO,ae]at h;simp only[cC,bE,ih h.2,Lq t h.1]
end
theorem Nl (y:Str):jL (aP y)=true:=by simp[aP,jL,dO]
theorem pD {n:Str} (hq:bm o=true) (h:qone (.mk o n a s)=true):a=[]/\∃g,s=[g]:=by
 simp only[qone,ae,Bool.or_eq_true,Bool.not_eq_true']at h;rcases h.1 with h | h
 ·rw[hq]at h;cases h
 ·exact ⟨by simpa using h.2,List.length_eq_one_iff.1 (by simpa using h.1)⟩
mutual
theorem Lr {x:Str} {y:Str}:∀ t,jL t=true->nodesT (lG x (aP y) t)=nodesT t
 | .mk v n a,h=>by
  have ih:=ri (x:=x) (y:=y) a;simp only[jL,ae]at h;unfold lG gC
  cases v with
  | true=>
   exact qb8
  | false=>
   simp only[bO,↓reduceIte,nodesT];rw[iz];exact congrArg (·+1) (ih h.2)
theorem ri {x:Str} {y:Str}:∀ l,dO l=true->nodesTs (eL x (aP y) l)=nodesTs l
 | [],_=>by simp[eL]
 | t :: l,h=>by
  have ih:=ri (x:=x) (y:=y) l;simp only[eL]at ih ⊢;simp only[dO,ae]at h;simp only[cC,nodesTs,ih h.2,Lr t h.1]
end
theorem Bt:∀ (s:List Fm),(∀ g∈s,nodesF (φ g)=nodesF g)->nodesFs (s.map φ)=nodesFs s
 | [],_=>rfl
 | g :: s,h=>by simp only[cC,nodesFs];rw[h g (gp ..),Bt s (fun x hx=>h x (fL _ hx))]
theorem Bu:∀ (s:List Fm),(∀ g∈s,depthF (φ g)=depthF g)->aV (s.map φ)=aV s
 | [],_=>rfl
 | g :: s,h=>by simp only[cC,aV];rw[h g (gp ..),Bu s (fun x hx=>h x (fL _ hx))]
theorem jM:∀ (s:List Fm),eR s=true ↔ ∀ g∈s,gS g=true
 | []=>by simp[eR]
 | g :: s=>by simp[eR,jM s]
theorem jh:∀ (s:List Fm),fF s=true ↔ ∀ g∈s,qone g=true
 | []=>by simp[fF]
 | g :: s=>by simp[fF,jh s]
theorem ll:∀ (s:List Fm) (g:Fm),g∈s->depthF g<=aV s
 | [],g,h=>by cases h
 | x :: s,g,h=>by
  simp only[aV];rcases cG.1 h with rfl | h
  ·omega
  ·have:=ll s g h;omega
theorem ln:∀ (s:List Fm) (g:Fm),g∈s->nodesF g<=nodesFs s
 | [],g,h=>by cases h
 | x :: s,g,h=>by
  simp only[nodesFs];rcases cG.1 h with rfl | h
  ·omega
  ·have:=ln s g h;omega
mutual
theorem oP:∀ t,(aE t).length<=nodesT t
 | .mk v n a=>by
  have:=tV a;simp only[aE,nodesT];split <;> simp <;> omega
theorem tV:∀ t,(ao t).length<=nodesTs t
 | []=>by simp[ao]
 | t :: l=>by have:=oP t;have:=tV l;simp only[ao,nodesTs,cU];omega
end
mutual
theorem fp:∀ (f:Fm) (b:List Str),(aL b f).length<=nodesF f
 | .mk o n a s,b=>by
  have h1:=tV a;have h2:=E' s (if bm o then n :: b else b);have h3:=List.length_filter_le (fun x=>!b.contains x) (ao a);simp only[aL,nodesF,cU];omega
theorem E':∀ (f:List Fm) (b:List Str),(bn b f).length<=nodesFs f
 | [],b=>by simp[bn]
 | t :: l,b=>by have:=fp t b;have:=E' l b;simp only[bn,nodesFs,cU];omega
end
theorem mL (f:Fm):1<=depthF f:=by obtain ⟨o,n,a,s⟩:=f;simp[depthF]
theorem pE {k:Nat} {n:Str} (hq:bm o=true):fI (k+1) x u (.mk o n a [g]) =
  if n == x || !(aL [] g).contains x then .mk o n a [g]
  else if (aE u).contains n then .mk o (dL (aL [] g ++ aE u)) (eL x u a) [fI k x u (fI k n (aP (dL (aL [] g ++ aE u))) g)]
  else .mk o n (eL x u a) [fI k x u g]:=by
 simp only[fI,hq,if_true]
theorem x_ {k:Nat} {n:Str} (hq:bm o=false):fI (k+1) x u (.mk o n a s)=.mk o n (eL x u a) (s.map (fI k x u)):=by
 simp only[fI,hq,bO,↓reduceIte]
theorem gL:∀ (k:Nat) (f:Fm) (x y:Str),gS f=true->qone f=true->depthF f<=k->gS (fI k x (aP y) f)=true/\qone (fI k x (aP y) f)=true/\depthF (fI k x (aP y) f)=depthF f/\nodesF (fI k x (aP y) f)=nodesF f
 | 0,f,x,y,hw,hq,hd=>by have:=mL f;omega
 | k+1,.mk o n a s,x,y,hw,hq1,hd=>by
  have nJ:=hw;have qmc:=();exact qaP
theorem vI (σ:Str->Dt) (h:x≠y) (u v:Dt):upd (upd σ x u) y v=upd (upd σ y v) x u:=by
 funext z
 unfold upd
 by_cases h1:z=x
 ·subst h1;have:(z == y)=false:=by simpa using h
  simp[this]
 ·have:(z == x)=false:=by simpa using h1
  simp[this]
theorem IX {n:Str} (h:(aE u).contains n=false) (σ:Str->Dt) (v:Dt):fY (upd σ n v) u=fY σ u:=by
 refine Bp u (fun z hz=>?_);unfold upd;split
 ·rename_i h1;rw[ej]at h1;subst h1;have:(aE u).contains z=true:=by simpa using hz
  rw[h]at this;cases this
 ·rfl
theorem IY (φ:Fm->Fm) (σ τ:Str->Dt) (d:Nat):∀ (s:List Fm),(∀ g∈s,jF σ d (φ g)=jF τ d g)->em σ d (s.map φ)=em τ d s
 | [],_=>rfl
 | g :: s,h=>by simp only[cC,em];rw[h g (gp ..),IY φ σ τ d s (fun x hx=>h x (fL _ hx))]
theorem IZ {m:Str} (h:m ∉ aL [] g) (σ:Str->Dt) (v:Dt) (d:Nat):jF (upd σ m v) d g=jF σ d g:=by
 refine vC g _ _ d (fun z hz=>?_);unfold upd;split
 ·rename_i h1;rw[ej]at h1;subst h1;exact absurd hz h
 ·rfl
theorem nS:∀ (k:Nat) (f:Fm) (x:Str) (u:Tm) (σ:Str->Dt) (d:Nat),gS f=true->qone f=true->depthF f<=k->nodesF f+nodesT u<10 ^ 19->jF σ d (fI k x u f)=jF (upd σ x (fY σ u)) d f
 | 0,f,x,u,σ,d,hw,hq,hd,hn=>by have:=mL f;omega
 | k+1,.mk o n a s,x,u,σ,d,hw,hq1,hd,hn=>by
  have qmd:=();exact qaP
theorem Ra:∀ k n,n<10 ^ (k+1)->D4 (k+1) n=Lib.decDigits n:=by
 intro k
 induction k with
 | zero=>intro n h;rw[D4,aw (by omega),Lib.decDigits,dif_pos (by omega)]
 | succ k ih=>
  intro n h;rw[D4,Lib.decDigits]
  by_cases hn:n<10
  ·rw[aw hn,dif_pos hn]
  ·rw[ak hn,dif_neg hn,ih (n / 10) (by rw[Nat.pow_succ]at h;omega)]
theorem Ls {n:Nat} (h:n<10 ^ 20):iF n=120 :: Lib.itoa (n:Int):=by
 unfold iF;rw[Ra 19 n h,Lib.itoa,ak (by omega)];simp
theorem I0 (ht:t.length<10 ^ 19) (h1:1<=j) (hn:iF j ∉ t) (hb:∀ i,1<=i->i<j->iF i∈t):dL t=iF j:=by
 obtain ⟨j',Rb,nO,he,UA⟩:=vG t ht;have Ay:=oO t ht;rw[he]at Ay;rcases Nat.lt_trichotomy j j' with h | h | h
 ·exact absurd (UA j h1 h) hn
 ·rw[he,h]
 ·exact absurd (hb j' Rb h) Ay
theorem Lt (ht:t.length<10 ^ 19) {n:Nat} (hb:∀ i,1<=i->i<n->iF i∈t):n<=t.length+1:=by
 obtain ⟨j',Rb,nO,he,_⟩:=vG t ht;have Ay:=oO t ht;rw[he]at Ay
 by_cases h:j'<n
 ·exact absurd (hb j' Rb h) Ay
 ·omega
theorem Fa {t':List Str} (ht:t.length<10 ^ 19) (ht':t'.length<10 ^ 19) (h:∀ x,x∈t ↔ x∈t'):dL t=dL t':=by
 obtain ⟨j',Rb,nO,he,UA⟩:=vG t' ht';have Ay:=oO t' ht';rw[he]at Ay ⊢;exact I0 ht Rb (fun hx=>Ay ((h _).1 hx)) (fun i h1 h2=>(h _).2 (UA i h1 h2))
def Nn:Value->Option (DataW Value×List MemPlace):=fun v=>some (.held v,[])
def MapV (P:Program) (k:TypeId) {α:Type} (V:Value->α->Prop) (W:World) (m n:Nat) (l:List (Str×α)):Prop:=
 ∃D:DataW Value,W.ownsMap P k Nn m n D/\∀ x:Str,(getB l x=none->Maps.has D (.string x)=false)/\∀ a,getB l x=some a->Maps.has D (.string x)=true/\∃v,(∀ d,D.atKey (.string x) d=.held v)/\V v a
section
variable {P:Program} {k:TypeId} {α:Type} {V:Value->α->Prop} {W:World} {m n:Nat} {l:List (Str×α)}
theorem MapV.lt (h:MapV P k V W m n l):m<W.heap.size:=by obtain ⟨D,h,_⟩:=h;exact h.lt
theorem MapV.move {V':Value->α->Prop} {W':World} (h:MapV P k V W m n l) (hb:W'.heap[m]?=W.heap[m]?) (hV:∀ x v a,getB l x=some a->V v a->V' v a):MapV P k V' W' m n l:=by
 obtain ⟨D,⟨es,AZ,h1,F,h2,h3⟩,hx⟩:=h;refine ⟨D,⟨es,AZ,hb.trans h1,F,h2,h3⟩,fun x=>⟨(hx x).1,fun a ha=>?_⟩⟩;obtain ⟨h4,v,h5,h6⟩:=(hx x).2 a ha;exact ⟨h4,v,h5,hV x v a ha h6⟩
theorem MapV.made (w:World):MapV P k V (w.alloc (.map #[] 0)) w.heap.size 0 []:=
 ⟨_,World.ownsMap_made w _ _ _,fun x=>⟨fun _=>by simp[Maps.has],fun a ha=>by simp[getB]at ha⟩⟩
theorem yb (hk:P.underlying k=some .string) (hx:x.length<=2000000):keyOf P k (.string ⟨x.toArray⟩)=some (.string x):=by
 have h:(⟨x.toArray⟩:ByteArray).size<=maxLen:=by have e:(⟨x.toArray⟩:ByteArray).size=x.length:=rfl;rw[e];unfold maxLen;omega
 rw[WideMaps.keyOf_string_mk hk h]
theorem MapV.look (h:MapV P k V W m n l) (hk:P.underlying k=some .string) {t:TypeId} (ht:P.underlying t=some (.map k e)) {z:Value} (hz:∀ W,(zeroValue e).run P W=.ok z W) (hx:x.length<=2000000) :
  (getB l x=none/\(∀ W',W'.heap[m]?=W.heap[m]?->(Instr.lookup t (.map (some m)) (.string ⟨x.toArray⟩) true).run P W'=.ok (.tuple #[z,.bool false]) W'/\(Instr.lookup t (.map (some m)) (.string ⟨x.toArray⟩) false).run P W'=.ok z W')) ∨
  (∃a v,getB l x=some a/\V v a/\∀ W',W'.heap[m]?=W.heap[m]?->(Instr.lookup t (.map (some m)) (.string ⟨x.toArray⟩) true).run P W'=.ok (.tuple #[v,.bool true]) W'/\(Instr.lookup t (.map (some m)) (.string ⟨x.toArray⟩) false).run P W'=.ok v W'):=by
 obtain ⟨D,⟨es,AZ,hb,F,hs,hD⟩,pw⟩:=h;have Ec:=yb hk hx;have K:=Maps.string_keyed hk
 cases hg:getB l x with
 | none=>
  left;refine ⟨rfl,fun W' hW=>?_⟩;have h0:=(pw x).1 hg;have h1:∀ c,(Instr.lookup t (.map (some m)) (.string ⟨x.toArray⟩) c).run P W'=.ok (if c then .tuple #[z,.bool false] else z) W':=fun c=>by
   rcases Maps.fit_look c K ht (hz W') (hW.trans hb) F Ec with ⟨hr,_⟩ | ⟨e0,y,_,_,_,_,hat,_⟩
   ·exact hr
   ·rw[<-hD]at hat;rw[Maps.has_true_of_atKey hat]at h0;cases h0
  exact ⟨h1 true,h1 false⟩
 | some a=>
  right;obtain ⟨h4,v,h5,h6⟩:=(pw x).2 a hg;refine ⟨a,v,rfl,h6,fun W' hW=>?_⟩;have h1:∀ c,(Instr.lookup t (.map (some m)) (.string ⟨x.toArray⟩) c).run P W'=.ok (if c then .tuple #[v,.bool true] else v) W':=fun c=>by
   rcases Maps.fit_look c K ht (hz W') (hW.trans hb) F Ec with ⟨_,_,hat⟩ | ⟨e0,y,_,_,hr,hR,hat,_⟩
   ·rw[<-hD]at hat;rw[Maps.has_false_of_atKey hat]at h4;cases h4
   ·rw[<-hD]at hat;have:=(hat .nil).symm.trans (h5 .nil);unfold Nn at hR;cases hR;simp at this;rw[<-this];exact hr
  exact ⟨h1 true,h1 false⟩
theorem MapV.store (h:MapV P k V W m n l) (hk:P.underlying k=some .string) {t:TypeId} (ht:P.underlying t=some (.map k e)) (hn:n<4000000) (hx:x.length<=2000000) {a:α} {l':List (Str×α)} {V':Value->α->Prop}
  (hv:V' v a) (hV:∀ y v b,y≠x->getB l y=some b->V v b->V' v b) (hl:∀ y,getB l' y=if y=x then some a else getB l y) :
  ∃w',(Instr.mapUpdate t (.map (some m)) (.string ⟨x.toArray⟩) v).run P W=.ok () w'/\MapV P k V' w' m (n+1) l'/\W.grownBy w' (some m)/\w'.heap.size=W.heap.size:=by
 obtain ⟨D,au,pw⟩:=h;have Ec:=yb hk hx;have K:=Maps.string_keyed hk;obtain ⟨w',hr,ho,ht2⟩:=au.store K ht (by unfold maxLen;omega) Ec (val:=v) (d:=.held v) (ps:=[]) rfl;refine ⟨w',hr,⟨_,ho,fun y=>?_⟩,ht2.grown,?_⟩
 ·rw[hl y]
  by_cases hy:y=x
  ·subst hy;rw[aw rfl];refine ⟨fun h=>(by cases h),fun b hb=>?_⟩;cases hb;refine ⟨Maps.has_put_same au.isMap (by simp[WideAt.IsKeyLit]) _,v,fun d=>Maps.atKey_put_same au.isMap (by simp[WideAt.IsKeyLit]) _ _,hv⟩
  ·rw[ak hy];have jb:(Lit.string y)≠.string x:=fun e=>hy (by injection e);refine ⟨fun h=>?_,fun b hb=>?_⟩
   ·rw[Maps.has_put_other jb];exact (pw y).1 h
   ·obtain ⟨h4,u,h5,h6⟩:=(pw y).2 b hb;exact ⟨by rw[Maps.has_put_other jb];exact h4,u,fun d=>by rw[Maps.atKey_put_other jb];exact h5 d,hV y u b hy hb h6⟩
 ·obtain ⟨es,AZ,U',Zw,hb,rfl⟩:=ht2;simp[ChangeMaps.setBlock]
end
structure Later (W:World) where
 w:World
 below:Below W.heap.size W w
instance Later.inhab (W:World):Nonempty (Later W):=⟨⟨W,ai _ _⟩⟩
theorem Later.get {W:World} {a:Addr} (h:W.cell? a=some v) (x:Later W):x.w.cell? a=some v:=aa x.below h
theorem bU {P:Program} {f:FuncId} {args:Array Value} {W:World} {x:Later W}
  (h:Calls P f args x.w fun e w'=>e=.returned v/\Below x.w.heap.size x.w w'):Calls P f args x.w fun e QM=>e=.returned v/\∃y:Later W,QM=y.w:=
 h.mono fun _ QM ⟨he,hb⟩=>⟨he,⟨QM,x.below.trans (hb.mono x.below.size)⟩,rfl⟩
theorem aI {P:Program} {id:Nat} {Q:Exit->Act->World->Prop} {a:Act} {w:World} {l:List Oper} (hm:P.follows .mixedOrders=true) (hB:Region.lexB .any l.toArray=true)
  (h:wpQuiet P l.toArray (fun w'=>∃x:Later w,w'=x.w) (fun a'=>∀ w',(∃x:Later w,w'=x.w)->Q .normal a' w') l a):(Code.region id l.toArray true).wp P Q a w:=
 wp_region_quiet (C:=fun w'=>∃x:Later w,w'=x.w) hm hB ⟨⟨{ w with drawn:=w.drawn+1 },⟨rfl,rfl,rfl,aC _,fun _ _=>rfl⟩⟩,rfl⟩ (by simpa using h)
def StrsV (W:World) (v:Value) (l:List Str):Prop:=∃a cap,v=.slice a l.length cap/\l.length<=cap/\(l=[]\/∃b off,a=some ⟨b,off,none⟩/\∀ j (h:j<l.length),W.cell? ⟨b,off+j,none⟩=some (.string ⟨l[j].toArray⟩))
theorem StrsV.len {W:World} {a:Option Addr} {n:Nat} {l:List Str} (h:StrsV W (.slice a n c) l):n=l.length:=by
 obtain ⟨a',cap,hv,_⟩:=h;injection hv
theorem StrsV.get {W:World} {a:Option Addr} {n:Nat} {l:List Str} (h:StrsV W (.slice a n c) l) (hj:j<l.length) :
  ∃b off,a=some ⟨b,off,none⟩/\∀ j (h:j<l.length),W.cell? ⟨b,off+j,none⟩=some (.string ⟨l[j].toArray⟩):=by
 have qme:=();exact qbi
theorem Gu {l:List Str} {k:Nat} (h:k+1<l.length):dw (l.drop k)=(Op.bytesLess l[k] l[k+1] && dw (l.drop (k+1))):=by
 rw[gB (by omega:k<l.length),gB h,dw,<-gB h]
theorem I1 {l:List Str} {k:Nat} (h:l.length<=k+1):dw (l.drop k)=true:=by
 have hl:(l.drop k).length<=1:=by rw[List.length_drop];omega
 match hd:l.drop k with
 | []=>rfl
 | [x]=>rfl
 | _ :: _ :: _=>rw[hd]at hl;simp at hl
theorem vJ (l:List Str) (bW:l.length<=1000000000) (w:World) (v:Value) (hv:StrsV w v l) :
  Calls Tryz.prog 70 #[v] w fun e w'=>e=.returned (.bool (dw l))/\Below w.heap.size w w':=by
 obtain ⟨a,n,c,rfl⟩:∃a n c,v=.slice a n c:=by obtain ⟨a,c,h,_⟩:=hv;exact ⟨_,_,_,h⟩
 obtain rfl:=hv.len;have ⟨k0,cd⟩:=aj l.length;have ⟨R,hR⟩:=aj (dw l);rw[<-cd]at bW;rw[<-cd,<-hR];have ⟨HN,HV,HR⟩:=cE cd hv hR;clear cd hv hR;go_enter Tryz.func70,Tryz.ntmps70;go_wp2;go_loopw [3] (fun i wr=>∃k:Nat,(k=0\/k<k0)/\i=.int .i64 ((k:Int)+1)/\Below w.heap.size w wr/\R=dw (l.drop k)) (fun i _=>k0 - (intOf i).toNat)
 case atStart=>exact ⟨0,.inl rfl,rfl,ai _ _,by simpa using HR.o⟩
 case round=>
  obtain ⟨k,hk,rfl,aq,ht⟩:=hrel
  by_cases hlt:k+1<k0
  ·have bj:k+1<l.length:=by rw[<-HN.o];exact hlt
   obtain ⟨b,off,rfl,hc⟩:=HV.o.get bj;have c0:=aa aq (hc k (by omega));have c1:=aa aq (hc (k+1) bj);rw[Gu bj]at ht;have ⟨x,hx⟩:=aj (l[k]);have ⟨y,hy⟩:=aj (l[k+1]);rw[<-hx]at ht c0;rw[<-hy]at ht c1;have f0:=fun z:Later wr=>z.get c0;have f1:=fun z:Later wr=>z.get c1;have Bv:(k:Int)+1<(k0:Int):=by omega
   have ⟨HB,HT2⟩:=aS aq ht;clear aq ht hc c0 c1 hx hy;go_wp2;have qmf:=();exact qac
  ·have HE:=ab (show R=true by rw[ht];exact I1 (by rw[<-HN.o];omega));have HB:=ab aq;have zc9:decide ((k:Int)+1<(k0:Int))=false:=by simp;omega
   clear aq ht;go_wp2;go_ret;exact ⟨az HE.o.symm,HB.o⟩
