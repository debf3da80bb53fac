/-L-/
import Derived.Test.YtokemihbkeddoaaGreatDoorSh
import Derived.Test.YtokemihbkeddoaaGreatDoorP00
open Go.Proofs.Tryz
namespace Go.Proofs.YtokemihbkeddoaaGreatDoor
open Go Go.RowKit Lib
set_option maxRecDepth 100000
set_option maxHeartbeats 0
variable{α T:Type}{k B J n m N i:Nat}{w W0 w' W W':World}{M ok:Nat->Prop}{v:Value}{sc:Bool}{left bT:Int}{l:List Tm}{b:Bd}{t:Tm}{xs:List aj}{c:gO}{x s:aj}{f im:Fm}{p:Pl}
section
attribute [local go_sem] Oper.semAt_some
theorem nn:∀l,bW l=l.map aU
 |[]=>rfl
 |t::l=>by simp[bW,nn l]
theorem A_:∀l,cv l=l.map bI
 |[]=>rfl
 |t::l=>by simp[cv,A_ l]
theorem cO{β:Type}(f:α->β)(l:List α)(h:k<l.length):(l.map f).take k++[f l[k]]=(l.map f).take (k+1):=by
 rw[lq (by simpa using h)];simp
theorem S4{X Y:World}{b0 b1 b2:Nat}{o0 o1 o2:Obj}(h:Below w.heap.size w X/\X.heap[b1]?=some o1/\X.heap[b2]?=some o2/\X.heap[b0]?=some o0)(hb:Below X.heap.size X Y):Below w.heap.size w Y/\Y.heap[b1]?=some o1/\Y.heap[b2]?=some o2/\Y.heap[b0]?=some o0:=
 ⟨h.1.trans (hb.mono h.1.size),(hb.block b1 (bQ h.2.1)).trans h.2.1,(hb.block b2 (bQ h.2.2.1)).trans h.2.2.1,(hb.block b0 (bQ h.2.2.2)).trans h.2.2.2⟩
theorem vF:∀(t:Tm),e7 t->∀(ok:Nat->Prop)(w:World)(q:TQ),aN ok w q.val t→
  Calls prog 69 #[q.val] w fun e w'=>∃p:TQ,e=.returned p.val/\aN (w.heap.size<=·) w' p.val (aU t)/\Below w.heap.size w w':=by
 obtain⟨sB,hi,AV,xV,B8⟩:=info_parts ib;intro t
 induction t using Tm.ind with
 |h v n a ih=>
  intro aI ok w q hq;have ql9:=();exact qaH
theorem QQ:∀(t:Fm),cJ t->∀(ok:Nat->Prop)(w:World)(q:FQ),aC ok w q.val t→
  Calls prog 66 #[q.val] w fun e w'=>∃p:FQ,e=.returned p.val/\aC (w.heap.size<=·) w' p.val (bI t)/\Below w.heap.size w w':=by
 have qma:=();exact qaU
end
structure KB(w:World):Prop where
 pow:Lib.TabIs prog w "internal/strconv.uint64pow10" .u64 Lib.pow10Tab
 rows:∀o:Nat,o<17->w.cell? ⟨0,o*5,none⟩=some (.bool (eE o).1)/\w.cell? ⟨0,o*5+1,none⟩=some (.bool (eE o).2.1)/\w.cell? ⟨0,o*5+2,none⟩=some (.int .u8 ((eE o).2.2.1:Nat))/\w.cell? ⟨0,o*5+3,none⟩=some (.int .i64 ((eE o).2.2.2.1:Nat))/\w.cell? ⟨0,o*5+4,none⟩=some (.int .i64 ((eE o).2.2.2.2:Nat))
theorem Μ:prog.globalNamed "internal/strconv.uint64pow10"=some 2:=by kernel_rfl
structure gG(W0 w:World):Prop where
 at0:KB W0
 below:Below W0.heap.size W0 w
theorem gG.refl(h:KB W0):gG W0 W0:=⟨h,ar _ _⟩
theorem gG.size(h:gG W0 w):W0.heap.size<=w.heap.size:=h.below.size
theorem gG.next(h:gG W0 w)(hb:Below w.heap.size w w'):gG W0 w':=⟨h.at0,h.below.trans (hb.mono h.size)⟩
theorem gG.kp(h:gG W0 w)(hk:Kp M w w')(hM:∀b,M b->W0.heap.size<=b):gG W0 w':=
 ⟨h.at0,⟨hk.os.trans h.below.os,hk.tape.trans h.below.tape,hk.output.trans h.below.output,aR h.size hk.size,fun b hb=>(hk.same b (bP hb h.size) (fun hm=>by have:=hM b hm;omega)).trans (h.below.block b hb)⟩⟩
theorem oP(hb:Below B W w){a:Addr}(hB:a.block<B)(h:W.cell? a=some v):w.cell? a=some v:=(World.cell?_of_block (hb.block a.block hB)).trans h
theorem gG.t0(h:gG W0 w):KB w:=by
 refine⟨?_,fun o ho=>?_⟩
 ·have hs:=h.at0.pow;refine var?_below h.below Μ ?_ hs;have:=hs;unfold Lib.TabIs World.var? at this;rw[Μ]at this;simp only[Option.bind_some]at this;exact Nat.lt_of_not_le fun qY=>by rw[Array.getElem?_eq_none qY]at this;cases this
 ·obtain⟨h0,h1,h2,h3,h4⟩:=h.at0.rows o ho;have hb:=h.below;exact⟨oP hb (k_ h0) h0,oP hb (k_ h1) h1,oP hb (k_ h2) h2,oP hb (k_ h3) h3,oP hb (k_ h4) h4⟩
def tu(J:Nat)(sc:Bool)(left bT:Int)(w:World):Prop:=w.heap[J]?=some (.cells #[.bool sc,.int .i64 left,.int .i64 bT] 111 (0,0))
def eF(J:Nat)(sc:Bool)(left bT:Int)(n:Nat)(b:Bool)(w:World):Ending->World->Prop:=fun e w'=>
 e=.returned (.bool b)/\Kp (fun c=>c=J) w w'/\∃l:Int,tu J sc l bT w'/\-1<=l/\l<=left/\(b=true->l=left-n)
theorem tu.set(h:tu J sc left bT w)(l:Int):tu J sc l bT (w.setCell ⟨J,1,none⟩ (.int .i64 l)):=(bJ h _).trans rfl
theorem rx(u:Value):Kp (fun c=>c=J) w (w.setCell ⟨J,k,none⟩ u):=⟨rfl,rfl,rfl,by simp,fun b _ hb=>e_ _ _ _ _ (by simpa using hb)⟩
theorem tu.later(h:tu J sc left bT w)(hb:Below w.heap.size w w'):tu J sc left bT w':=(hb.block J (bQ h)).trans h
theorem tu.c0(h:tu J sc left bT w):w.cell? ⟨J,0,none⟩=some (.bool sc):=ao h 0
theorem tu.c1(h:tu J sc left bT w):w.cell? ⟨J,1,none⟩=some (.int .i64 left):=ao h 1
theorem tu.c2(h:tu J sc left bT w):w.cell? ⟨J,2,none⟩=some (.int .i64 bT):=ao h 2
theorem KC(J:Nat)(sc:Bool)(left bT bB:Int)(w:World)(h:tu J sc left bT w)(h1:1<=left)(h2:left<=9223372036854775807)(hd:bB<=bT):
  Calls prog 115 #[.pointer (some ⟨J,0,none⟩),.int .i64 bB] w fun e w'=>e=.returned (.bool true)/\w'=w.setCell ⟨J,1,none⟩ (.int .i64 (left-1)):=by
 have c1:=h.c1;have c2:=h.c2;have z1:=ai h 1;have d1:decide (0<=left-1)=true:=by simp;omega
 have d1':decide (1<=left)=true:=by simp;omega
 have d2:decide (bB<=bT)=true:=by simp;omega
 clear h;exact qch
theorem Pq(J:Nat)(sc:Bool)(left bT bB:Int)(w:World)(h:tu J sc left bT w)(h1:0<=left)(h2:left<=9223372036854775807)(hd:¬(1<=left/\bB<=bT)):
  Calls prog 115 #[.pointer (some ⟨J,0,none⟩),.int .i64 bB] w fun e w'=>e=.returned (.bool false)/\w'=w.setCell ⟨J,1,none⟩ (.int .i64 (left-1)):=by
 have c1:=h.c1;have c2:=h.c2;have z1:=ai h 1;clear h
 by_cases hl:1<=left
 ·have d1:decide (0<=left-1)=true:=by simp;omega
  have d1':decide (1<=left)=true:=by simp;omega
  have d2:decide (bB<=bT)=false:=by simp;omega
  clear hd;exact qch
 ·have d1:decide (0<=left-1)=false:=by simp;omega
  have d1':decide (1<=left)=false:=by simp;omega
  clear hd;exact qch
def ZN(t:Tm):Prop:=∀(ok:Nat->Prop)(J:Nat)(sc:Bool)(left bT bB:Int)(w:World)(q:TQ),aN ok w q.val t->(∀b,ok b->b≠J)->tu J sc left bT w->0<=left->left<=9223372036854775807->bT<=9223372036854775807->1<=bB->bB+ap t<=100000000→
 Calls prog 122 #[.pointer (some ⟨J,0,none⟩),q.val,.int .i64 bB] w (eF J sc left bT (ap t) (jA sc t&&(decide ((ap t:Int)<=left)&&decide (bB+dm t<=bT+1))) w)
theorem pH{k:Nat}(h:k<l.length):af (l.take (k+1))=af (l.take k)+ap l[k]:=by
 induction l generalizing k with
 |nil=>simp at h
 |cons t l ih=>
  cases k with
  |zero=>simp[af]
  |succ k=>have:=ih (k:=k) (by simpa using h);simp[af]at this⊢;omega
theorem x_{k:Nat}(h:k<l.length):bO (l.take (k+1))=max (bO (l.take k)) (dm l[k]):=by
 induction l generalizing k with
 |nil=>simp at h
 |cons t l ih=>
  cases k with
  |zero=>simp[bO]
  |succ k=>have:=ih (k:=k) (by simpa using h);simp[bO]at this⊢;omega
theorem Dd{k:Nat}(h:k<l.length):eD sc (l.take (k+1))=(eD sc (l.take k)&&jA sc l[k]):=by
 induction l generalizing k with
 |nil=>simp at h
 |cons t l ih=>
  cases k with
  |zero=>simp[eD]
  |succ k=>have:=ih (k:=k) (by simpa using h);simp[eD]at this⊢;rw[this,Bool.and_assoc]
theorem lh(l:List Tm)(k:Nat):af (l.take k)<=af l:=by
 induction l generalizing k with
 |nil=>simp
 |cons t l ih=>cases k with
  |zero=>simp[af]
  |succ k=>have:=ih k;simp[af];omega
theorem KD{k:Nat}(h:k<l.length):dm l[k]<=bO l:=by
 induction l generalizing k with
 |nil=>simp at h
 |cons t l ih=>
  cases k with
  |zero=>simp[bO];omega
  |succ k=>have:=ih (k:=k) (by simpa using h);simp[bO];omega
theorem S6{k:Nat}(h:k<l.length)(hf:jA sc l[k]=false):eD sc l=false:=by
 induction l generalizing k with
 |nil=>simp at h
 |cons t l ih=>
  cases k with
  |zero=>simp at hf;simp[eD,hf]
  |succ k=>have:=ih (k:=k) (by simpa using h) (by simpa using hf);simp[eD,this]
theorem tw:∀t,dm t<=ap t:=by
 intro t
 induction t using Tm.ind with
 |h v n a ih=>
  have:bO a<=af a:=by
   clear v n
   induction a with
   |nil=>simp[bO,af]
   |cons u l ih2=>
    have h1:=ih u (by simp);have h2:=ih2 (fun x hx=>ih x (by simp[hx]));simp[bO,af];omega
  simp[dm,ap];omega
theorem yb(l:List Tm)(hl:∀t∈l,ZN t)(ok:Nat->Prop)(J:Nat)(sc:Bool)(left bT bB:Int)(w:World)(a:Option Addr)(n c:Nat)(hv:cB ok w (.slice a n c) l)(hok:∀b,ok b->b≠J)(hJ:tu J sc left bT w)(h0:0<=left)(h1:left<=9223372036854775807)(hde:bT<=9223372036854775807)(hd:1<=bB)(ZH:bB<=bT+1)(hn:bB+af l<=100000000):
  Calls prog 118 #[.pointer (some ⟨J,0,none⟩),.slice a n c,.int .i64 bB] w (eF J sc left bT (af l) (eD sc l&&(decide ((af l:Int)<=left)&&decide (bB+bO l<=bT+1))) w):=by
 have hlen:=hv.len;have qq:=jU l;subst hlen;have⟨k0,cD⟩:=az l.length;rw[<-cD];have⟨HV,dN,HL,s_,HJ⟩:=sL hv cD hl hok hJ;have le:k0<=100000000:=by omega
 clear hv hl hok hJ cD;go_enter func118,ntmps118;go_wp2;go_loopw [11] (fun i wr=>∃k:Nat,k<=k0/\i=.int .i64 k/\Kp (fun c=>c=J) w wr/\tu J sc (left-af (l.take k)) bT wr/\eD sc (l.take k)=true/\(af (l.take k):Int)<=left/\bB+bO (l.take k)<=bT+1) (fun i _=>k0-(intOf i).toNat)
 case atStart=>exact⟨0,bn _,rfl,Kp.refl _,by simpa[af]using HJ.o,by simp[eD],by simpa[af]using h0,by simpa[bO]using ZH⟩
 case round=>
  obtain⟨k,hk,rfl,bD,hj,ha,hb,hc⟩:=hrel
  by_cases hlt:k<k0
  ·have bA:=cG dN.o hlt;obtain⟨b,off,u,rfl,kC,hu,c0,c1,c2⟩:=HV.o.get bA;have qmb:=();exact qci
  ·obtain rfl:k=k0:=by omega
   have ht:l.take k=l:=by rw[dN.o];exact dA
   rw[ht]at hj ha hb hc;have lV:(eD sc l&&(decide ((af l:Int)<=left)&&decide (bB+bO l<=bT+1)))=true:=by rw[ha];simp;omega
   have⟨HF,Cv,mJ⟩:=cU lV hj bD;clear lV hj bD ha hc ht;go_wp2;go_ret;exact⟨aJ HF.o.symm,mJ.o,_,Cv.o,by omega,by omega,fun _=>rfl⟩
theorem eF.no{l:Int}{b:Bool}(hb:b=false)(hk:Kp (fun c=>c=J) w w')(hj:tu J sc l bT w')(h1:-1<=l)(h2:l<=left):eF J sc left bT n b w (.returned (.bool false)) w':=⟨by rw[hb],hk,l,hj,h1,h2,fun h=>by rw[hb]at h;cases h⟩
theorem eF.yes{b:Bool}(hb:b=true)(hk:Kp (fun c=>c=J) w w')(hj:tu J sc (left-n) bT w')(h1:(n:Int)<=left):eF J sc left bT n b w (.returned (.bool true)) w':=⟨by rw[hb],hk,_,hj,by omega,by omega,fun _=>rfl⟩
theorem S7:∀(t:Tm),e7 t->ZN t:=by
 intro t
 induction t using Tm.ind with
 |h v n a ih=>
  intro aI ok J sc left bT bB w q hq hok hJ h0 h1 hde hd hn;have qmc:=();exact qaH
section
attribute [local go_sem] Oper.semAt_some
mutual
def mK:Fm->List Fm|.mk o n a s=>.mk o n a s::eK s
def eK:List Fm->List Fm|[]=>[]|t::l=>mK t++eK l
end
theorem yd{l:List Fm}{k:Nat}(h:k<l.length):eK (l.take (k+1))=eK (l.take k)++mK l[k]:=by
 induction l generalizing k with
 |nil=>simp at h
 |cons t l ih=>
  cases k with
  |zero=>simp[eK]
  |succ k=>have:=ih (k:=k) (by simpa using h);simp[eK]at this⊢;rw[this]
theorem tD:∀l m,eK (l++m)=eK l++eK m
 |[],m=>rfl
 |t::l,m=>by simp[eK,tD l m]
def sO(l:List Fm):Nat:=(l.map fun f=>1+af f.a).sum
theorem pI(l m:List Fm):sO (l++m)=sO l+sO m:=by simp[sO]
mutual
theorem wl:∀f,sO (mK f)=ag f
 |.mk o n a s=>by have:=Bc s;simp[mK,sO,ag,Fm.a]at this⊢;omega
theorem Bc:∀l,sO (eK l)=ah l
 |[]=>rfl
 |t::l=>by unfold eK;rw[pI,wl t,Bc l];rfl
end
theorem Xs{l m:List Fm}(h:l <+: m):sO l<=sO m:=by obtain⟨r,rfl⟩:=h;rw[pI];omega
def Ca(N:Nat)(k:Int)(w:World):Prop:=w.heap[N]?=some (.cells #[.int .i64 k] 3 (0,0))
theorem Ca.c0{k:Int}(h:Ca N k w):w.cell? ⟨N,0,none⟩=some (.int .i64 k):=ao h 0
theorem Ca.later{k:Int}(h:Ca N k w)(hb:Below w.heap.size w w'):Ca N k w':=(hb.block N (bQ h)).trans h
theorem Ca.set{k:Int}(h:Ca N k w)(l:Int):Ca N l (w.setCell ⟨N,0,none⟩ (.int .i64 l)):=(bJ h _).trans rfl
theorem Ca.kp{k:Int}(h:Ca N k w)(hk:Kp (fun c=>c=J) w w')(jd:N≠J):Ca N k w':=(hk.same N (bQ h) jd).trans h
theorem Ng(N L:Nat)(hNL:N≠L)(k:Int)(w:World)(q:TQ)(hN:Ca N k w)(hL:Ca L 9223372036854775807 w)(h0:0<=k)(h1:k<=1000000000000):
  Calls prog 231 #[q.val,.pointer (some ⟨N,0,none⟩),.pointer (some ⟨L,0,none⟩)] w fun e w'=>e=.returned (.bool true)/\Kp (fun c=>c=N) w w'/\Ca N (k+1) w':=by
 obtain⟨qv,qn,qa,ql,qc⟩:=q;have hn:=(bQ hN);have hl:=(bQ hL);have hB:Below w.heap.size w (w.alloc (.cells #[.bool qv,.string qn,.slice qa ql qc] 43)):=dp;have n1:=hN.later hB;have l1:=hL.later hB;have c0:=n1.c0;have c1:=l1.c0;have z0:=ai n1 0;have cc0:=hN.c0;have cc1:=hL.c0;have zz0:=ai hN 0;have n2:=(hN.set (k+1)).later ((ar _ (w.setCell ⟨N,0,none⟩ (.int .i64 (k+1)))).alloc (aK _) (.cells #[.bool qv,.string qn,.slice qa ql qc] 43));have Cb:=ae n2;have d1:decide (k+1<=9223372036854775807)=true:=by simp;omega
 have Xt:¬N=w.heap.size:=by omega
 have Ξ:¬L=w.heap.size:=by omega
 have zgU:¬L=N:=fun h=>hNL h.symm;clear n2 hN hL n1 l1 hB;unfold TQ.val;go_enter func231,ntmps231;go_wp2;go_ret;exact⟨rfl,(rx _).trans (Kp.below dp),Cb.o⟩
abbrev cnt(N L:Nat):Value:=.func (.func 231) #[] #[.pointer (some ⟨N,0,none⟩),.pointer (some ⟨L,0,none⟩)]
def Xu(l:List Tm):Prop:=∀(N L:Nat)(ok:Nat->Prop)(k:Int)(w:World)(a:Option Addr)(n c:Nat),N≠L->jE l->cB ok w (.slice a n c) l->(∀b,ok b->b≠N)->Ca N k w->Ca L 9223372036854775807 w->0<=k->k+af l<=1000000000000→
 Calls prog 230 #[.slice a n c,cnt N L] w fun e w'=>e=.returned (.bool true)/\Kp (fun c=>c=N) w w'/\Ca N (k+af l) w'
theorem Pr(l:List Tm)(ih:∀t∈l,Xu t.a):Xu l:=by
 intro N L ok k w a n c hNL aI hl hok hN hL h0 h1;obtain rfl:=hl.len;have hlen:=aI.len;have⟨k0,cD⟩:=az l.length;rw[<-cD]at hlen⊢;have⟨dN,HV,gZ,HF,s_,HN,HL⟩:=Xh cD hl ih aI hok hN hL;clear cD hl ih aI hok hN hL;go_enter func230,ntmps230;go_wp2;go_loopw [9] (fun i wr=>∃j:Nat,j<=k0/\i=.int .i64 j/\Kp (fun c=>c=N) w wr/\Ca N (k+af (l.take j)) wr) (fun i _=>k0-(intOf i).toNat)
 case atStart=>exact⟨0,bn _,rfl,Kp.refl _,by simpa[af]using HN.o⟩
 case round=>
  obtain⟨j,hj,rfl,bD,hn⟩:=hrel
  by_cases hlt:j<k0
  ·have bA:=cG dN.o hlt;obtain⟨b,off,u,rfl,kC,hu,c0,c1,c2⟩:=HV.o.get bA;have up:=();exact qci
  ·obtain rfl:j=k0:=by omega
   have ht:l.take j=l:=by rw[dN.o];exact dA
   rw[ht]at hn;have HH:=aM bD hn;clear bD hn ht;go_wp2;exact qbn
theorem S_:∀t:Tm,Xu t.a:=by
 intro t
 induction t using Tm.ind with
 |h v n a ih=>exact Pr a ih
theorem De(l:List Tm):Xu l:=Pr l (fun t _=>S_ t)
def ZO(M:Nat->Prop)(B:Nat)(W:World)(vs:Array Value)(x:Fm):Prop:=∃q:FQ,vs=#[q.val]/\aC (fun b=>b<B/\¬M b) W q.val x
theorem aC.kp{t:Fm}(h:aC (fun b=>b<B/\¬M b) W v t)(hk:Kp M W W'):aC (fun b=>b<B/\¬M b) W' v t:=h.move (fun b hb hlt=>⟨hb,hk.same b hlt hb.2⟩)
theorem aN.kp(h:aN (fun b=>b<B/\¬M b) W v t)(hk:Kp M W W'):aN (fun b=>b<B/\¬M b) W' v t:=h.move (fun b hb hlt=>⟨hb,hk.same b hlt hb.2⟩)
def wm{T:Type}(M:Nat->Prop)(l:Nat)(J:List T->World->Prop)(At:World->Array Value->T->Prop)(xs:List T)(W:World):Prop:=
 ∀pre vs x W1,J pre W1->Kp M W W1->At W1 vs x->(pre++[x]) <+: xs->YieldAt Fence.wide 0 prog l vs W1 fun e W'=>e=.returned (.bool true)/\J (pre++[x]) W'/\Kp M W1 W'
theorem wm.later{l:Nat}{J:List T->World->Prop}{At:World->Array Value->T->Prop}{xs:List T}(h:wm M l J At xs W)(hk:Kp M W W'):wm M l J At xs W':=
 fun pre vs x W1 hj le hat hp=>h pre vs x W1 hj (hk.trans le) hat hp
theorem lv{a b c xs:List T}(h:(a++(b++c)) <+: xs):(a++b) <+: xs:=by
 obtain⟨r,rfl⟩:=h;exact⟨c++r,by simp⟩
theorem QU:∀(f:Fm),cJ f->∀(M:Nat->Prop)(B l:Nat)(J:List Fm->World->Prop)(xs pre:List Fm)(W:World)(q:FQ),(∀b,M b->b<W.heap.size)->(∀s,jT W.heap.size (J s))->wm M l J (ZO M B) xs W->aC (fun b=>b<B/\¬M b) W q.val f->(pre++mK f) <+: xs->J pre W→
  Calls prog 151 #[q.val,.func (.yield l) #[] #[]] W fun e W'=>e=.returned (.bool true)/\J (pre++mK f) W'/\Kp M W W':=by
 intro t
 induction t using Fm.ind with
 |h o n a s ih=>
  intro aI M B l J xs pre W q hM hJ hY hq dU hj;have QV:=hq;have qme:=();exact qar
theorem ik{k:Nat}(h:k<l.length):aF (l.take (k+1))=aF (l.take k)++aL l[k]:=by
 induction l generalizing k with
 |nil=>simp at h
 |cons t l ih=>
  cases k with
  |zero=>simp[aF]
  |succ k=>have:=ih (k:=k) (by simpa using h);simp[aF]at this⊢;rw[this]
theorem iS:∀l m,aF (l++m)=aF l++aF m
 |[],m=>rfl
 |t::l,m=>by simp[aF,iS l m]
def Dg(_:World)(vs:Array Value)(x:aj):Prop:=vs=#[.string ⟨x.toArray⟩]
theorem FU:∀(t:Tm),e7 t->∀(M:Nat->Prop)(B l:Nat)(J:List aj->World->Prop)(xs pre:List aj)(W:World)(q:TQ),(∀b,M b->b<W.heap.size)->(∀s,jT W.heap.size (J s))->wm M l J Dg xs W->aN (fun b=>b<B/\¬M b) W q.val t->(pre++aL t) <+: xs->J pre W→
  Calls prog 214 #[q.val,.func (.yield l) #[] #[]] W fun e W'=>e=.returned (.bool true)/\J (pre++aL t) W'/\Kp M W W':=by
 intro t
 induction t using Tm.ind with
 |h v n a ih=>
  intro aI M B l J xs pre W q hM hJ hY hq dU hj;obtain⟨qv,qn,qa,ql,qc⟩:=q;obtain⟨sa,hs,bN⟩:=aW.1 hq;have qmf:=();exact qam
theorem FV(q:TQ)(w:World):
  Calls prog 220 #[q.val] w fun e w'=>e=.returned (.func (.func 270) #[] #[.pointer (some ⟨w.heap.size,0,none⟩)])/\w'=w.alloc (.cells #[.bool q.v,.string q.n,.slice q.a q.l q.c] 43):=by
 obtain⟨v,n,a,l,c⟩:=q;unfold TQ.val;go_enter func220,ntmps220;go_wp2;go_ret;exact⟨rfl,rfl⟩
theorem FW(t:Tm)(aI:e7 t)(M:Nat->Prop)(B X:Nat)(w:World)(q:TQ)(hX:w.heap[X]?=some (.cells #[.bool q.v,.string q.n,.slice q.a q.l q.c] 43 (0,0)))(MP:¬M X)(hq:aN (fun b=>b<B/\¬M b) w q.val t):
  M8 M False prog 270 #[.pointer (some ⟨X,0,none⟩)] (aL t) Dg w:=by
 have I8:=();exact qcj
end
theorem aN.lt(h:aN ok W v t):aN (fun b=>b<W.heap.size) W v t:=h.move (fun _ _ hlt=>⟨hlt,rfl⟩)
theorem aC.lt{t:Fm}(h:aC ok W v t):aC (fun b=>b<W.heap.size) W v t:=h.move (fun _ _ hlt=>⟨hlt,rfl⟩)
theorem Tb(t:Tm)(hf:e7 t)(ok:Nat->Prop)(w:World)(q:TQ)(hq:aN ok w q.val t):
  Calls prog 68 #[q.val] w fun e w'=>e=.returned (.bool (jA false t))/\Below w.heap.size w w':=by
 have hn:=hf.1;have hdn:=tw t;have⟨W2,bp⟩:=az ((w.alloc (.cells #[.bool q.v,.string q.n,.slice q.a q.l q.c] 43)).alloc (.cells #[.bool false,.int .i64 9223372036854775807,.int .i64 9223372036854775807] 111));have hB:=mo bp;have hJ:tu (w.heap.size+1) false 9223372036854775807 9223372036854775807 W2:=by rw[bp];exact aq (by simp)
 have C:=S7 t hf _ (w.heap.size+1) false 9223372036854775807 9223372036854775807 1 W2 q (hq.lt.later hB) (fun b hb=>by omega) hJ (by omega) (by omega) (by omega) (by omega) (by omega);have hb:(jA false t&&(decide ((ap t:Int)<=9223372036854775807)&&decide (1+(dm t:Int)<=9223372036854775807+1)))=jA false t:=by
  have e1:decide ((ap t:Int)<=9223372036854775807)=true:=by simp;omega
  have e2:decide (1+(dm t:Int)<=9223372036854775807+1)=true:=by simp;omega
  rw[e1,e2];simp
 rw[hb]at C;have⟨HC,HB⟩:=bi C hB;clear C hB hJ hb hn hdn hq hf;have HW:=ae bp;rw[bp]at HC;clear bp;unfold TQ.val at HC⊢;have⟨bb,dz⟩:=az (jA false t);rw[<-dz]at HC⊢;clear dz;cases bb
 all_goals
  go_enter func68,ntmps68;go_wp2_with (go_at_call 122;refine HC.o.mono ?_;rintro e w3 ⟨rfl,mq,_⟩;have pE:=ae mq;clear mq);go_ret;refine⟨rfl,?_⟩;rw[<-HW.o]at pE;exact Below.kp1 HB.o pE.o (by omega)
theorem uG(s:Nat)(hs:s<4)(n:aj)(hn:n.length<=1000000000)(w:World):
  Calls prog 116 #[.int .u8 s,.string ⟨n.toArray⟩] w fun e w'=>e=.returned (.bool (rj s n))/\Below w.heap.size w w':=by
 have vG:s=0\/s=1\/s=2\/s=3:=by omega
 rcases vG with rfl|rfl|rfl|rfl
 ·go_enter func116,ntmps116;exact qat
 ·go_enter func116,ntmps116;go_wp2_with (go_at_call 120;refine(pX n _ hn).mono ?_;rintro e w' ⟨rfl,hb⟩);go_ret;exact⟨rfl,hb⟩
 ·go_enter func116,ntmps116;go_wp2_with (go_at_call 152;refine(jg n _ hn).mono ?_;rintro e w' ⟨rfl,hb⟩);go_ret;exact⟨rfl,hb⟩
 ·go_enter func116,ntmps116;go_wp2_with (go_at_call 185;refine(pZ n _ hn).mono ?_;rintro e w' ⟨rfl,hb⟩);go_ret;exact⟨rfl,hb⟩
theorem Tc(h:l.length≠2):xS l=false:=by
 match l with
 |[]=>rfl
 |[_]=>rfl
 |[_,_]=>exact absurd rfl h
 |_::_::_::_=>rfl
theorem oc(l:List Tm)(hf:jE l)(ok:Nat->Prop)(a:Option Addr)(n c:Nat)(w:World)(hv:cB ok w (.slice a n c) l):
  Calls prog 117 #[.slice a n c] w fun e w'=>e=.returned (.bool (xS l))/\Below w.heap.size w w':=by
 obtain rfl:=hv.len
 by_cases hl:l.length=2
 ·obtain⟨x,y,rfl⟩:∃x y,l=[x,y]:=by
   match l,hl with
   |[x,y],_=>exact⟨x,y,rfl⟩
  obtain⟨b,off,u,rfl,_,hu,c0,c1,c2⟩:=hv.get (j:=0) (by simp);obtain⟨b',kQ,u',dz,_,iA,kK,lW,lX⟩:=hv.get (j:=1) (by simp);simp only[dn,Addr.mk.injEq,and_true]at dz;obtain⟨rfl,rfl⟩:=dz;simp only[List.getElem_cons_zero,List.getElem_cons_succ]at hu iA;have hfx:=hf.mem (t:=x) (by simp);have hfy:=hf.mem (t:=y) (by simp);obtain⟨xv,xn,xa⟩:=x;obtain⟨yv,yn,ya⟩:=y;obtain⟨s1,h1,_⟩:=aW.1 hu;obtain⟨s2,h2,_⟩:=aW.1 iA;have hx1:=hfx.name;have uX:=hfy.name;have hx2:xn.length<=1000000000:=by omega
  have hy2:yn.length<=1000000000:=by omega
  obtain⟨uv,un,ua,ul,uc⟩:=u;obtain⟨vv,vn,va,vl,vc⟩:=u';have qmh:=();exact qaI
 ·rw[Tc hl];have vC:((l.length:Int)==2)=false:=by simp;omega
  have HV:=ae hv;clear hv hf;have⟨n,hn⟩:=az l.length;rw[<-hn]at vC hl⊢;clear hn HV;have up:=();exact qew
def zct(W0:World)(t:Fm):Prop:=∀(ok:Nat->Prop)(J:Nat)(sc:Bool)(left bT bB:Int)(w:World)(q:FQ),gG W0 w->W0.heap.size<=J->aC ok w q.val t->(∀b,ok b->b≠J)->tu J sc left bT w->0<=left->left<=9223372036854775807->bT<=9223372036854775807->1<=bB->bB+ag t<=100000000→
 Calls prog 64 #[.pointer (some ⟨J,0,none⟩),q.val,.int .i64 bB] w (eF J sc left bT (ag t) (gF sc t&&(decide ((ag t:Int)<=left)&&decide (bB+a_ t<=bT+1))) w)
theorem fX{l:List Fm}{k:Nat}(h:k<l.length):ah (l.take (k+1))=ah (l.take k)+ag l[k]:=by
 induction l generalizing k with
 |nil=>simp at h
 |cons t l ih=>
  cases k with
  |zero=>simp[ah]
  |succ k=>have:=ih (k:=k) (by simpa using h);simp[ah]at this⊢;omega
theorem jF{l:List Fm}{k:Nat}(h:k<l.length):bl (l.take (k+1))=max (bl (l.take k)) (a_ l[k]):=by
 induction l generalizing k with
 |nil=>simp at h
 |cons t l ih=>
  cases k with
  |zero=>simp[bl]
  |succ k=>have:=ih (k:=k) (by simpa using h);simp[bl]at this⊢;omega
theorem lY{l:List Fm}{k:Nat}(h:k<l.length):dJ sc (l.take (k+1))=(dJ sc (l.take k)&&gF sc l[k]):=by
 induction l generalizing k with
 |nil=>simp at h
 |cons t l ih=>
  cases k with
  |zero=>simp[dJ]
  |succ k=>have:=ih (k:=k) (by simpa using h);simp[dJ]at this⊢;rw[this,Bool.and_assoc]
theorem de(l:List Fm)(k:Nat):ah (l.take k)<=ah l:=by
 induction l generalizing k with
 |nil=>simp
 |cons t l ih=>cases k with
  |zero=>simp[ah]
  |succ k=>have:=ih k;simp[ah];omega
theorem pJ{l:List Fm}{k:Nat}(h:k<l.length):a_ l[k]<=bl l:=by
 induction l generalizing k with
 |nil=>simp at h
 |cons t l ih=>
  cases k with
  |zero=>simp[bl];omega
  |succ k=>have:=ih (k:=k) (by simpa using h);simp[bl];omega
theorem ye{l:List Fm}{k:Nat}(h:k<l.length)(hf:gF sc l[k]=false):dJ sc l=false:=by
 induction l generalizing k with
 |nil=>simp at h
 |cons t l ih=>
  cases k with
  |zero=>simp at hf;simp[dJ,hf]
  |succ k=>have:=ih (k:=k) (by simpa using h) (by simpa using hf);simp[dJ,this]
theorem QW{o:Int}(h:17<=o):eE o=(false,false,0,0,0):=by
 unfold eE;simp[show o≠1 by omega,show o≠2 by omega,show o≠8 by omega,show o≠9 by omega,show o≠3 by omega,show ¬o<=13 by omega,show ¬o<=7 by omega,show o≠14 by omega,show o≠15 by omega,show o≠16 by omega]
theorem Nh(o:Int):(eE o).2.2.1<4/\(eE o).2.2.2.1<=4/\(eE o).2.2.2.2<=2:=by
 unfold eE
 repeat' split
 all_goals simp
theorem Xv(sc:Bool)(o:Int)(n:aj)(a:List Tm)(s:List Fm)(left bT bB:Int):
  (gF sc (.mk o n a s)&&(decide ((ag (.mk o n a s):Int)<=left)&&decide (bB+a_ (.mk o n a s)<=bT+1)))=
  (((eE o).1||(sc&&(eE o).2.1))&&((rj (eE o).2.2.1 n&&(decide (a.length<=(eE o).2.2.2.1)&&s.length==(eE o).2.2.2.2))&&((o !=16||xS a)&&((eD sc a&&(decide ((af a:Int)<=left-1)&&decide (bB+1+bO a<=bT+1)))&&(dJ sc s&&(decide ((ah s:Int)<=left-1-af a)&&decide (bB+1+bl s<=bT+1))))))):=by
 have e1:decide ((ag (.mk o n a s):Int)<=left)=(decide ((af a:Int)<=left-1)&&decide ((ah s:Int)<=left-1-af a)):=by
  rw[iM,ak,bM,bM,bM];unfold ag;omega
 have e2:decide (bB+a_ (.mk o n a s)<=bT+1)=(decide (bB+1+bO a<=bT+1)&&decide (bB+1+bl s<=bT+1)):=by
  rw[iM,ak,bM,bM,bM];unfold a_;omega
 rw[e1,e2];unfold gF;generalize decide ((af a:Int)<=left-1)=x1;generalize decide ((ah s:Int)<=left-1-af a)=x2;generalize decide (bB+1+bO a<=bT+1)=x3;generalize decide (bB+1+bl s<=bT+1)=x4;generalize eD sc a=x5;generalize dJ sc s=x6;generalize ((eE o).1||(sc&&(eE o).2.1))=x7;generalize (rj (eE o).2.2.1 n&&(decide (a.length<=(eE o).2.2.2.1)&&s.length==(eE o).2.2.2.2))=x8;generalize (o !=16||xS a)=x9;revert x1 x2 x3 x4 x5 x6 x7 x8 x9;decide
section
attribute [local go_sem] Oper.semAt_some run_makeMap
def np(W:World)(m n:Nat)(xs:List aj):Prop:=∃D:DataW Unit,W.ownsMap prog 9 (plainElem prog 4) m n D/\(∀x:aj,Maps.has D (.string x)=true↔x∈xs)/\∀x∈xs,∀d,D.atKey (.string x) d=.lit (.bool true)
theorem np.same(h:np W m n xs)(hb:W'.heap[m]?=W.heap[m]?):np W' m n xs:=by
 obtain⟨D,⟨es,Dh,h1,F,h2,h3⟩,hx⟩:=h;exact⟨D,⟨es,Dh,hb.trans h1,F,h2,h3⟩,hx⟩
theorem np.lt(h:np W m n xs):m<W.heap.size:=by
 obtain⟨D,h,_⟩:=h;exact h.lt
theorem Cw(xs:List aj)(hlen:xs.length<=2000000)(dQ:∀x∈xs,x.length<=2000000)(gf:Nat)(lb:Array Value)(w:World)(eg:∀args W,(callFunc gf args).run prog W=.ok (.enter gf args) W)
  (rn:∀w1,Below w.heap.size w w1->w.heap.size<w1.heap.size->M8 (fun b=>b=w.heap.size) False prog gf lb xs Dg w1):
  Calls prog 84 #[.func (.func gf) #[] lb] w fun e w'=>e=.returned (.map (some w.heap.size))/\np w' w.heap.size xs.length xs/\Below w.heap.size w w':=by
 have⟨wn,KH,HSq⟩:=cU hlen dQ rn;clear hlen dQ rn;refine Pb ?_;refine callsIn_of_wp_marks func84 rfl trivial ?_ rfl;simp only[ntmps84,Nat.reduceAdd,Nat.reduceSub,ng];have jq:=fP;gi_wp2;have⟨w1,Cd⟩:=az ((w.alloc (.map #[] 0)).alloc (.cells #[.map (some w.heap.size)] 118));have hb1:=mo Cd;have jv:=zP Cd;have J_:np w1 w.heap.size 0 []:=by
  rw[Cd];exact⟨_,(World.ownsMap_made w _ _ _).alloc _,fun x=>by simp[Maps.has],fun x hx=>by simp at hx⟩
 have xB:=kv Cd;rw[<-Cd];clear Cd;have⟨eQ,WJ,HS0,HXB⟩:=f8 hb1 jv J_ xB;clear hb1 jv J_ xB;refine je rfl eg (fun b hb=>by subst hb;have:=WJ.o;omega) (HSq.o w1 eQ.o (by have:=WJ.o;omega)) (fun _ _ _ h=>by cases h;rfl)
  (fun pre X=>np X w.heap.size pre.length pre/\Kp (fun b=>b=w.heap.size) w1 X) (fun _ _ _=>False) (fun s=>?hI) (fun _ _ _ _ _ h=>h.elim) ⟨HS0.o,Kp.refl _⟩ ?round ?done (fun _ _ _ _ h=>h.elim)
 case hI=>
  rintro X Y hn ⟨h1,h2⟩;have hl:=h1.lt;have hz:=WJ.o;exact⟨h1.same (hn.old (by omega) hl),hn.os.trans h2.os,hn.tape.trans h2.tape,hn.output.trans h2.output,aR h2.size hn.size,fun b hb hm=>(hn.old hb (bP hb h2.size)).trans (h2.same b hb hm)⟩
 case done=>
  rintro D X hD ⟨hs,bD⟩ _ hd;have c0:X.cell? ⟨w.heap.size+1,0,none⟩=some (.map (some w.heap.size)):=ao ((bD.same _ (by have:=WJ.o;omega) (by omega)).trans HXB.o) 0;have⟨HS,HK,HD,HDl⟩:=f8 hs bD hd hD;clear hs bD hd hD;gi_wp2;refine⟨by simp,.inl ⟨_,_,rfl,run_takeDeferred HD.o,?_⟩⟩;refine⟨.map (some w.heap.size),by simp[results,results84,go_sem],rfl,?_,?_⟩
  ·exact HS.o.same (qu (by have:=WJ.o;have:=HDl.o;omega))
  ·have hk:=IA (.deferred none) HK.o HDl.o;exact qex
 case round=>
  rintro l pre vs x W hl Ce ⟨hs,bD⟩ hat _ dU;cases hat;have⟨HS,HK,HLr,qG⟩:=f8 hs bD Ce dU;clear hs bD Ce dU;gi_wp2;refine⟨Kp.refl _,⟨HS.o,HK.o⟩,fun W2 jr lw ke=>?_⟩;have hxm:x∈xs:=qG.o.subset (by simp);have z8:(⟨x.toArray⟩:ByteArray).size<=maxLen:=by have:=KH.o x hxm;have e:(⟨x.toArray⟩:ByteArray).size=x.length:=rfl;rw[e];unfold maxLen;omega
  have KI:keyOf prog 9 (.string ⟨x.toArray⟩)=some (.string x):=by rw[WideMaps.keyOf_string_mk underlying9 z8]
  have oe:pre.length<maxLen:=by
   have h1:(pre++[x]).length<=xs.length:=qG.o.length_le;have:=wn.o;simp at h1;unfold maxLen;omega
  obtain⟨⟨D,aE,uZ,ws⟩,_⟩:=lw;have c0:W2.cell? ⟨w.heap.size+1,0,none⟩=some (.map (some w.heap.size)):=ao ((ke.same _ (by have:=WJ.o;omega) (by omega)).trans HXB.o) 0;have⟨HH,zeO,HK2,HM⟩:=f8 uZ ws ke aE.isMap;clear uZ ws ke z8 hxm;gi_wp2_with (gi_at_mapUpdate;refine wpListIn_mapUpdate_own _ rfl _ _ _ 118 rfl 9 4 (Maps.string_keyed underlying9) underlying118 (plainElem prog 4) w.heap.size pre.length D rfl aE oe _ _ (.string x) rfl rfl KI (.lit (.bool true)) [] (plainElem_bool underlying4 true) ?_;intro w4 aV au;have HG:=aM aV au;clear aV au);have nV:Kp (fun b=>b=w.heap.size) W2 w4:=Kp.grown HG.o.2 rfl;refine⟨nV,⟨_,by rw[ei];exact HG.o.1,fun y=>?_,fun y hym d=>?_⟩,HK2.o.trans nV⟩
  rotate_left
  ·by_cases hy:y=x
   ·subst hy;rw[Maps.atKey_put_same HM.o (by simp[WideAt.IsKeyLit])]
   ·rw[Maps.atKey_put_other (fun h=>hy (by injection h))];exact zeO.o y (by simpa[hy]using hym) d
  by_cases hy:y=x
  ·subst hy;rw[Maps.has_put_same HM.o (by simp[WideAt.IsKeyLit])];simp
  ·rw[Maps.has_put_other (fun h=>hy (by injection h))];rw[HH.o];simp[hy]
end
theorem yf(x:aj)(v:α):∀(l:List (aj×α)),bG l x=none->∀y,bG (iB x v l) y=if x==y then some v else bG l y
 |[],_,y=>rfl
 |(z,u)::r,h,y=>by
  unfold bG at h;have hz:(z==x)=false:=by
   cases hz:z==x
   ·rfl
   ·simp[hz]at h
  simp only[hz,bR,↓reduceIte]at h;unfold iB;split
  ·rfl
  ·show(if z==y then some u else bG (iB x v r) y)=_;rw[yf x v r h y];show _=if x==y then some v else if z==y then some u else bG r y
   by_cases h1:z==y
   ·have h2:(x==y)=false:=by
     rw[ef]at h1;subst h1;rw[Bool.eq_false_iff]at hz⊢;intro h3;exact hz (by simpa using(ef.1 h3).symm)
    simp[h1,h2]
   ·simp[h1]
structure Di(k k':Bd):Prop where
 f:∀n v,bG k.fs n=some v->bG k'.fs n=some v
 t:∀n v,bG k.ts n=some v->bG k'.ts n=some v
theorem Di.refl(k:Bd):Di k k:=⟨fun _ _ h=>h,fun _ _ h=>h⟩
theorem Di.trans{a c:Bd}(h:Di a b)(g:Di b c):Di a c:=⟨fun n v e=>g.f n v (h.f n v e),fun n v e=>g.t n v (h.t n v e)⟩
def rB{α:Type}(k k':List (aj×α)):Prop:=∀n v,bG k n=some v->bG k' n=some v
theorem rB.refl(k:List (aj×α)):rB k k:=fun _ _ h=>h
theorem rB.trans{a b c:List (aj×α)}(h:rB a b)(g:rB b c):rB a c:=fun n v e=>g n v (h n v e)
theorem Dj{k:List (aj×α)}{v:α}(h:bG k x=none):rB k (iB x v k):=fun n u e=>by
 rw[yf x v k h n];split
 ·rename_i h1;rw[ef]at h1;subst h1;rw[h]at e;cases e
 ·exact e
theorem IJ{k:List (aj×α)}{v:α}(h:bG k x=none):bG (iB x v k) x=some v:=by
 rw[yf x v k h x];simp
mutual
theorem GQ:∀t,zS t t=true
 |.mk v n a=>by simp[zS,rC a]
theorem rC:∀l,kx l l=true
 |[]=>by simp[kx]
 |t::l=>by simp[kx,GQ t,rC l]
end
mutual
theorem KJ:∀t u,zS t u=true↔t=u
 |.mk v n a,.mk v' n' a'=>by simp[zS,jw a a',and_assoc]
theorem jw:∀l m,kx l m=true↔l=m
 |[],[]=>by simp[kx]
 |[],_::_=>by simp[kx]
 |_::_,[]=>by simp[kx]
 |t::l,u::m=>by simp[kx,KJ t u,jw l m]
end
mutual
theorem tE:∀t u,zT t u=true↔t=u
 |.mk v n a s,.mk v' n' a' s'=>by simp[zT,jw a a',qH s s',and_assoc]
theorem qH:∀l m,qC l m=true↔l=m
 |[],[]=>by simp[qC]
 |[],_::_=>by simp[qC]
 |_::_,[]=>by simp[qC]
 |t::l,u::m=>by simp[qC,tE t u,qH l m]
end
def Ο(l:List aj):gO:=l.map fun x=>(x,x)
theorem Be:∀(l:List aj)(x:aj),mD (Ο l) x x=true
 |[],x=>by simp[Ο,mD]
 |y::l,x=>by
  show(if y==x||y==x then y==x&&y==x else mD (Ο l) x x)=true;split
  ·simp_all
  ·exact Be l x
mutual
theorem KK(l:List aj):∀t,gP (Ο l) t t=true
 |.mk v n a=>by
  simp only[gP,beq_self_eq_true,Bool.and_self,dL];split
  ·exact Be l n
  ·exact rD l a
theorem rD(l:List aj):∀a,ct (Ο l) a a=true
 |[]=>by simp[ct]
 |t::r=>by simp[ct,KK l t,rD l r]
end
mutual
theorem Dk:∀(f:Fm)(l:List aj),cI (Ο l) f f=true
 |.mk o n a s,l=>by
  simp only[cI,beq_self_eq_true,Bool.and_self,dL,Bool.true_or,rD l a];split
  ·exact tF s (n::l)
  ·exact tF s l
theorem tF:∀(s:List Fm)(l:List aj),cX (Ο l) s s=true
 |[],l=>by simp[cX]
 |f::r,l=>by simp[cX,Dk f l,tF r l]
end
theorem KL(f:Fm):cI [] f f=true:=Dk f []
mutual
theorem Dl(sc:List aj):∀(t u:Tm)(k k':List (aj×Tm)),dY sc k t u=some k'->rB k k'/\∀oR,rB k' oR->dY sc oR t u=some oR
 |.mk v n a,.mk v' n' a',k,k',h=>by
  unfold dY at h
  by_cases hm:(v&&eA n)=true
  ·rw[aG hm]at h
   cases hg:bG k n with
   |none=>
    rw[hg]at h;simp only[dn]at h;subst h;refine⟨Dj hg,fun oR hk=>?_⟩;have:=hk n _ (IJ hg);unfold dY;rw[aG hm,this];simp[GQ]
   |some u=>
    rw[hg]at h;simp only at h;split at h
    ·rename_i he;cases h;refine⟨rB.refl _,fun oR hk=>?_⟩;unfold dY;rw[aG hm,hk n _ hg];simp[he]
    ·cases h
  ·rw[aw hm]at h
   by_cases hs:(v&&sc.contains n)=true
   ·rw[aG hs]at h;split at h
    ·rename_i he;cases h;refine⟨rB.refl _,fun oR _=>?_⟩;unfold dY;rw[aw hm,aG hs,aG he]
    ·cases h
   ·rw[aw hs]at h;split at h
    ·cases h
    ·rename_i hd;obtain⟨h1,h2⟩:=Bf sc a a' k k' h;refine⟨h1,fun oR hk=>?_⟩;unfold dY;rw[aw hm,aw hs,aw hd];exact h2 oR hk
theorem Bf(sc:List aj):∀(t u:List Tm)(k k':List (aj×Tm)),cY sc k t u=some k'->rB k k'/\∀oR,rB k' oR->cY sc oR t u=some oR
 |[],u,k,k',h=>by
  exact qey
 |_::_,[],k,k',h=>by
  exact qey
 |t::l,u::m,k,k',h=>by
  simp only[cY]at h
  cases h1:dY sc k t u with
  |none=>rw[h1]at h;cases h
  |some k1=>
   rw[h1]at h;obtain⟨a1,a2⟩:=Dl sc t u k k1 h1;obtain⟨b1,b2⟩:=Bf sc l m k1 k' h;refine⟨a1.trans b1,fun oR hk=>?_⟩;simp only[cY,a2 oR (b1.trans hk),b2 oR hk]
end
theorem Dm(c:gO):∀(t u:List Tm)(k k':List (aj×Tm)),dB c k t u=some k'->rB k k'/\∀oR,rB k' oR->dB c oR t u=some oR
 |[],u,k,k',h=>by
  exact qez
 |_::_,[],k,k',h=>by
  exact qez
 |t::l,u::m,k,k',h=>by
  simp only[dB]at h
  cases h0:iO c [] u with
  |none=>rw[h0]at h;cases h
  |some im=>
   rw[h0]at h;simp only at h
   cases h1:dY (c.map (·.1)) k t im with
   |none=>rw[h1]at h;cases h
   |some k1=>
    rw[h1]at h;obtain⟨a1,a2⟩:=Dl _ t im k k1 h1;obtain⟨b1,b2⟩:=Dm c l m k1 k' h;refine⟨a1.trans b1,fun oR hk=>?_⟩;simp only[dB,h0,a2 oR (b1.trans hk),b2 oR hk]
def KM(step:Bd->Pl->Bd×Int):Prop:=∀k p k',step k p=(k',0)->Di k k'/\∀oR,Di k' oR->step oR p=(oR,0)
theorem p9:KM bc:=by
 intro k p k' h;unfold bc at h
 by_cases gq:p.s.op=16
 ·rw[aG gq]at h;cases h;exact⟨Di.refl _,fun _ _=>by unfold bc;rw[aG gq]⟩
 rw[aw gq]at h
 by_cases kL:p.s.op=15
 ·rw[aG kL]at h
  cases hi:f9 p.c [] p.f with
  |none=>rw[hi]at h;simp at h
  |some im=>
   rw[hi]at h;simp only at h
   cases hg:bG k.fs p.s.n with
   |none=>
    rw[hg]at h;have an:=();exact qaV
   |some g=>
    rw[hg]at h;simp only at h;split at h
    ·rename_i ha;cases h;refine⟨Di.refl _,fun oR hk=>?_⟩;unfold bc;rw[aw gq,aG kL,hi];simp only;rw[hk.f _ _ hg];simp[ha]
    ·simp at h
 rw[aw kL]at h;split at h
 ·simp at h
 ·rename_i hd
  cases ha:dB p.c k.ts p.s.a p.f.a with
  |none=>rw[ha]at h;simp at h
  |some ts=>
   rw[ha]at h;have it:=();exact qaV
theorem Ni:KM dE:=by
 intro k p k' h;unfold dE at h
 by_cases gq:(p.s.op !=16)=true
 ·rw[aG gq]at h;cases h;exact⟨Di.refl _,fun _ _=>by unfold dE;rw[aG gq]⟩
 rw[aw gq]at h
 cases hg:bG k.fs p.s.n with
 |none=>rw[hg]at h;simp at h
 |some f=>
  rw[hg]at h;simp only at h
  cases hi:f9 p.c [] p.f with
  |none=>rw[hi]at h;simp at h
  |some im=>
   rw[hi]at h;simp only at h
   by_cases h0:fD (bx p.s).1 f=0
   ·rw[aG h0]at h;split at h
    ·rename_i ha;have an:=();exact qeA
    ·simp at h
   ·rw[aw h0]at h
    cases ht:bG k.ts (bx p.s).2 with
    |some t=>
     rw[ht]at h;simp only at h;split at h
     ·simp at h
     ·rename_i hn;split at h
      ·rename_i ha;exact qeA
      ·simp at h
    |none=>
     rw[ht]at h;simp only at h
     cases hf:fG f im (bx p.s).1 with
     |none=>rw[hf]at h;simp at h
     |some t=>
      rw[hf]at h;simp only[Option.map_some]at h;split at h
      ·simp at h
      ·rename_i hn;split at h
       ·rename_i ha;have up:=();exact qaV
       ·simp at h
theorem z9{step:Bd->Pl->Bd×Int}(hs:KM step):∀(l:List Pl)(k k':Bd),ek step k l=(k',0)->Di k k'/\∀oR,Di k' oR->ek step oR l=(oR,0)
 |[],k,k',h=>by
  simp only[ek,Prod.mk.injEq,and_true]at h;subst h;exact⟨Di.refl _,fun _ _=>by simp[ek]⟩
 |p::l,k,k',h=>by
  unfold ek at h
  cases h1:step k p with
  |mk k1 e=>
   rw[h1]at h;simp only at h
   by_cases he:e=0
   ·subst he;rw[aG rfl]at h;obtain⟨a1,a2⟩:=hs k p k1 h1;obtain⟨b1,b2⟩:=z9 hs l k1 k' h;refine⟨a1.trans b1,fun oR hk=>?_⟩;unfold ek;rw[a2 oR (b1.trans hk)];simp only[if_true];exact b2 oR hk
   ·rw[aw he]at h;exact qbo
theorem rE{step:Bd->Pl->Bd×Int}(hs:KM step):∀(l:List (Fm×Fm))(i:Nat)(k k':Bd)(j:Nat),dt step i k l=(k',j,0)->Di k k'/\j=0/\∀oR,Di k' oR->∀x∈l,ek step oR (bC [] x.1 x.2)=(oR,0)
 |[],i,k,k',j,h=>by
  simp only[dt,Prod.mk.injEq,and_true]at h;obtain⟨rfl,rfl⟩:=h;exact⟨Di.refl _,rfl,fun _ _ _ hx=>by cases hx⟩
 |(s,f)::l,i,k,k',j,h=>by
  unfold dt at h
  cases h1:ek step k (bC [] s f)with
  |mk k1 e=>
   rw[h1]at h;simp only at h
   by_cases he:e=0
   ·subst he;rw[aG rfl]at h;obtain⟨a1,a2⟩:=z9 hs _ k k1 h1;obtain⟨b1,b3,b2⟩:=rE hs l (i+1) k1 k' j h;refine⟨a1.trans b1,b3,fun oR hk x hx=>?_⟩;rcases dc.1 hx with rfl|hx
    ·exact a2 oR (b1.trans hk)
    ·exact b2 oR hk x hx
   ·rw[aw he]at h;exact qeB
theorem gx:∀(l:List (Fm×Fm))(i:Nat),eT i l=none↔∀x∈l,(eS x.1&&bw x.2)=true
 |[],i=>by simp[eT]
 |(s,f)::l,i=>by
  unfold eT;split
  ·rename_i h;rw[gx l (i+1)];constructor
   ·intro h2 x hx;rcases dc.1 hx with rfl|hx
    ·exact h
    ·exact h2 x hx
   ·exact fun h2 x hx=>h2 x (fS _ hx)
  ·rename_i h;constructor
   ·intro h2;cases h2
   ·intro h2;exact absurd (h2 (s,f) (fT ..)) h
theorem Dn{l:List (Fm×Fm)}{k:Bd}(h:bm l b=(k,i,0)):
  bF b=true/\(∀x∈l,(eS x.1&&bw x.2)=true)/\i=0/\Di b k/\∀x∈l,ek bc k (bC [] x.1 x.2)=(k,0)/\ek dE k (bC [] x.1 x.2)=(k,0):=by
 unfold bm at h
 by_cases hv:bF b=true
 ·simp only[hv,Bool.not_true,bR,↓reduceIte]at h
  cases hb:eT 0 l with
  |some j=>rw[hb]at h;simp at h
  |none=>
   rw[hb]at h;simp only at h
   cases h1:dt bc 0 b l with
   |mk k1 x1=>
    obtain⟨i1,e1⟩:=x1;rw[h1]at h;simp only at h
    by_cases WK:e1=0
    ·subst WK;simp only[ne_eq,not_true_eq_false,↓reduceIte]at h
     cases h2:dt dE 0 k1 l with
     |mk k2 x2=>
      obtain⟨i2,e2⟩:=x2;rw[h2]at h;simp only at h
      by_cases Ρ:e2=0
      ·subst Ρ;simp only[not_true_eq_false,↓reduceIte,Prod.mk.injEq,and_true]at h;obtain⟨rfl,rfl⟩:=h;obtain⟨a1,_,a3⟩:=rE p9 l 0 b k1 i1 h1;obtain⟨b1,_,b3⟩:=rE Ni l 0 k1 k2 i2 h2;exact⟨hv,(gx l 0).1 hb,rfl,a1.trans b1,fun x hx=>⟨a3 k2 b1 x hx,b3 k2 (Di.refl _) x hx⟩⟩
      ·rw[aG Ρ]at h;exact qeC
    ·rw[aG WK]at h;exact qeD
 ·simp[hv]at h
theorem yg(h:fQ s=true):cW s=false:=by
 unfold fQ at h
 cases s with
 |nil=>simp[cW]
 |cons c r=>
  have an:=();exact qeE
theorem Td(h:fQ s=true):eA s=false:=by
 unfold fQ at h
 cases s with
 |nil=>simp[eA,ej,dI]
 |cons c r=>
  exact qeE
theorem QX(h:fQ s=true):cW (cg s)=true:=by simp[cW,cg,h]
def mL(l:List aj):Prop:=∀x∈l,fQ x=true
theorem Do:∀(c:gO)(inn:List aj)(y:aj),cm.go x c inn=some y->y=x\/∃s∈c.map (·.1),y=cg s
 |[],inn,y,h=>by simp only[cm.go,dn]at h;exact .inl h.symm
 |(s,a)::r,inn,y,h=>by
  unfold cm.go at h;split at h
  ·split at h
   ·cases h
   ·simp only[dn]at h;exact .inr ⟨s,by simp,h.symm⟩
  ·rcases Do r (s::inn) y h with h|⟨z,hz,h⟩
   ·exact .inl h
   ·exact .inr ⟨z,by simp only[cM,dc];exact .inr hz,h⟩
theorem Dp{y:aj}(h:cm c x=some y):y=x\/∃s∈c.map (·.1),y=cg s:=Do c [] y h
mutual
theorem yh(hc:mL (c.map (·.1)))(ins:List aj):∀(t u:Tm),jA false t=true->iO c ins t=some u->jA false (aU u)=true/\ap u=ap t/\dm u=dm t
 |.mk v n a,u,hok,h=>by
  unfold iO at h;unfold jA at hok
  cases v with
  |true=>
   simp only[↓reduceIte,Bool.false_and,Bool.or_false,ak]at h hok;obtain⟨ha,hn⟩:=hok;obtain rfl:a=[]:=by simpa using ha
   have FC:∀y:aj,(y=n\/∃s∈c.map (·.1),y=cg s)->jA false (aU (bj y))=true/\ap (bj y)=ap (.mk true n [])/\dm (bj y)=dm (.mk true n []):=by
    rintro y (rfl|⟨s,hs,rfl⟩)
    ·simp[bj,aU,yg hn,jA,hn,bW,ap,dm]
    ·have e1:(cW (63::s))=true:=QX (hc s hs);have e2:fQ s=true:=hc s hs;simp[bj,aU,e1,jA,e2,bW,ap,dm,cg]
   split at h
   ·simp only[dn]at h;subst h;exact FC n (.inl rfl)
   ·obtain⟨y,hy,rfl⟩:=Option.map_eq_some_iff.1 h;exact FC y (Dp hy)
  |false=>
   simp only[bR,↓reduceIte,ak,bM]at h hok;obtain⟨m,hm,rfl⟩:=Option.map_eq_some_iff.1 h;obtain⟨h1,h2,h3,h4⟩:=Dq hc ins a m hok.2.2 hm;have hl:(bW m).length=a.length:=by rw[h4.2];exact h4.1
   simp[aU,jA,hok.2.1,h1,ap,dm,h2,h3,hl,hok.1]
theorem Dq(hc:mL (c.map (·.1)))(ins:List aj):∀(t u:List Tm),eD false t=true->eY c ins t=some u->eD false (bW u)=true/\af u=af t/\bO u=bO t/\(u.length=t.length/\(bW u).length=u.length)
 |[],u,_,h=>by simp only[eY,dn]at h;subst h;simp[eD,bW]
 |t::l,u,hok,h=>by
  simp only[eY]at h
  cases h1:iO c ins t with
  |none=>rw[h1]at h;simp at h
  |some x=>
   cases h2:eY c ins l with
   |none=>rw[h1,h2]at h;simp at h
   |some m=>
    rw[h1,h2]at h;simp only[dn]at h;subst h;simp only[eD,ak]at hok;obtain⟨a1,a2,a3⟩:=yh hc ins t x hok.1 h1;obtain⟨b1,b2,b3,b4,b5⟩:=Dq hc ins l m hok.2 h2;simp[eD,bW,a1,b1,af,bO,a2,a3,b2,b3,b4,b5]
end
mutual
theorem Cx(hc:mL (c.map (·.1))):∀(f u:Fm)(ins:List aj),gF false f=true->f9 c ins f=some u->gF false (bI u)=true/\ag u=ag f/\a_ u=a_ f
 |.mk o n a s,u,ins,hok,h=>by
  unfold f9 at h
  cases h1:eY c ins a with
  |none=>rw[h1]at h;simp at h
  |some a'=>
   cases h2:gC c (if br o then n::ins else ins) s with
   |none=>rw[h1,h2]at h;simp at h
   |some s'=>
    rw[h1,h2]at h;simp only[dn]at h;subst h;simp only[gF,ak,Bool.false_and,Bool.or_false]at hok;obtain⟨k1,⟨k2,k3,k4⟩,k5,k6,k7⟩:=hok;obtain⟨a1,a2,a3,a4,a5⟩:=Dq hc ins a a' k6 h1;obtain⟨b1,b2,b3,b4,b5⟩:=KN hc s s' _ k7 h2;have Τ:(o !=16)=true:=by
     cases gq:o !=16 with
     |true=>rfl
     |false=>
      have:o=16:=by simpa using gq
      subst this;exact absurd k1 (by decide)
    simp only[bI,gF,ak,Bool.false_and,Bool.or_false,ag,a_,a2,a3,b2,b3,a1,b1,a5,a4,b5,b4,Τ,Bool.true_or,k1,k2,k3,k4,and_self]
theorem KN(hc:mL (c.map (·.1))):∀(f u:List Fm)(ins:List aj),dJ false f=true->gC c ins f=some u->dJ false (cv u)=true/\ah u=ah f/\bl u=bl f/\(u.length=f.length/\(cv u).length=u.length)
 |[],u,ins,_,h=>by simp only[gC,dn]at h;subst h;simp[dJ,cv]
 |t::l,u,ins,hok,h=>by
  simp only[gC]at h
  cases h1:f9 c ins t with
  |none=>rw[h1]at h;simp at h
  |some x=>
   cases h2:gC c ins l with
   |none=>rw[h1,h2]at h;simp at h
   |some m=>
    rw[h1,h2]at h;simp only[dn]at h;subst h;simp only[dJ,ak]at hok;obtain⟨a1,a2,a3⟩:=Cx hc t x ins hok.1 h1;obtain⟨b1,b2,b3,b4,b5⟩:=KN hc l m ins hok.2 h2;simp[dJ,cv,a1,b1,ah,bl,a2,a3,b2,b3,b4,b5]
end
mutual
theorem Bg:∀t,ap (aU t)=ap t/\dm (aU t)=dm t
 |.mk v n a=>by simp[aU,ap,dm,rF a]
theorem rF:∀t,af (bW t)=af t/\bO (bW t)=bO t
 |[]=>by simp[bW]
 |t::l=>by simp[bW,af,bO,Bg t,rF l]
end
mutual
theorem ja:∀t,ag (bI t)=ag t/\a_ (bI t)=a_ t
 |.mk o n a s=>by simp[bI,ag,a_,rF a,yi s]
theorem yi:∀t,ah (cv t)=ah t/\bl (cv t)=bl t
 |[]=>by simp[cv]
 |t::l=>by simp[cv,ah,bl,ja t,yi l]
end
theorem tG:∀(l:List Tm)(i:Nat)(t:Tm),eD sc l=true->l[i]?=some t->jA sc t=true
 |[],i,t,_,h=>by simp at h
 |x::l,0,t,hok,h=>by simp only[List.getElem?_cons_zero,dn]at h;subst h;simp only[eD,ak]at hok;exact hok.1
 |x::l,i+1,t,hok,h=>by simp only[eD,ak]at hok;exact tG l i t hok.2 (by simpa using h)
theorem KO:∀(l:List Fm)(i:Nat)(t:Fm),dJ sc l=true->l[i]?=some t->gF sc t=true
 |[],i,t,_,h=>by simp at h
 |x::l,0,t,hok,h=>by simp only[List.getElem?_cons_zero,dn]at h;subst h;simp only[dJ,ak]at hok;exact hok.1
 |x::l,i+1,t,hok,h=>by simp only[dJ,ak]at hok;exact KO l i t hok.2 (by simpa using h)
theorem pK:∀(l:List Tm)(i:Nat),(bW l)[i]?=l[i]?.map aU
 |[],i=>by simp[bW]
 |x::l,0=>by simp[bW]
 |x::l,i+1=>by simp[bW,pK l i]
theorem Bh:∀(l:List Fm)(i:Nat),(cv l)[i]?=l[i]?.map bI
 |[],i=>by simp[cv]
 |x::l,0=>by simp[cv]
 |x::l,i+1=>by simp[cv,Bh l i]
theorem Dr(h:jA false (aU t)=true):eD false (bW t.a)=true:=by
 obtain⟨v,n,a⟩:=t;simp only[aU,jA]at h
 cases v with
 |true=>
  simp only[↓reduceIte,ak]at h;have:bW a=[]:=by simpa using h.1
  simp[Tm.a,this,eD]
 |false=>
  simp only[bR,↓reduceIte,ak]at h;exact h.2.2
theorem KP:∀(p:List Nat)(l:List Tm)(t:Tm),eD false (bW l)=true->kP l p=some t->jA false (aU t)=true
 |[],l,t,_,h=>by simp[kP]at h
 |[i],l,t,hok,h=>by
  simp only[kP]at h;exact tG _ i _ hok (by rw[pK,h];rfl)
 |i::j::r,l,t,hok,h=>by
  simp only[kP]at h
  cases h1:l[i]? with
  |none=>rw[h1]at h;simp at h
  |some x=>
   rw[h1]at h;exact KP (j::r) _ t (Dr (tG _ i _ hok (by rw[pK,h1];rfl))) h
theorem KQ:∀(p:List Nat)(f:Fm)(ins:List aj)(g:Fm)(u_:List aj),gF false (bI f)=true->ls f p ins=some (g,u_)->gF false (bI g)=true
 |[],f,ins,g,u_,hok,h=>by simp only[ls,dn,Prod.mk.injEq]at h;rw[<-h.1];exact hok
 |i::r,f,ins,g,u_,hok,h=>by
  simp only[ls]at h
  cases h1:f.s[i]? with
  |none=>rw[h1]at h;simp at h
  |some x=>
   rw[h1]at h;refine KQ r x _ g u_ ?_ h;obtain⟨o,n,a,s⟩:=f;simp only[bI,gF,ak]at hok;exact KO _ i _ hok.2.2.2.2 (by rw[Bh];simp only[Fm.s]at h1;rw[h1];rfl)
theorem KR(hok:gF false (bI im)=true)(h:fG f im x=some t):jA false (aU t)=true:=by
 unfold fG at h;split at h
 ·cases h
 ·split at h
  ·cases h
  ·rename_i g ins hg;split at h
   ·cases h
   ·rename_i y hy;split at h
    ·cases h
    ·cases h;have:=KQ _ _ _ _ _ hok hg;obtain⟨o,n,a,s⟩:=g;simp only[bI,gF,ak]at this;exact KP _ _ _ this.2.2.2.1 hy
structure mr(p:Pl):Prop where
 s:gF true p.s=true
 f:gF false p.f=true
 c:mL (p.c.map (·.1))
 n:ag p.f<=400
 d:a_ p.f<=40
mutual
theorem mM:∀(s f:Fm)(c:gO),mr ⟨s,f,c⟩->∀p∈bC c s f,mr p
 |.mk o n a l,.mk o' n' a' l',c,h,p,hp=>by
  simp only[bC,dc]at hp;rcases hp with rfl|hp
  ·exact h
  ·have h1:=h.s;have h2:=h.f;have h3:=h.n;have h4:=h.d;simp only[gF,ak]at h1 h2;simp only[ag,a_]at h3 h4;refine Du l l' _ h1.2.2.2.2 h2.2.2.2.2 ?_ (by omega) (by omega) p hp;split
   ·rename_i hq;intro x hx;simp only[cM,dc]at hx;rcases hx with rfl|hx
    ·have:(eE o).2.2.1=2:=by
      exact qeF
     have h5:=h1.2.1.1;rw[this]at h5;exact h5
    ·exact h.c x hx
   ·exact h.c
theorem Du:∀(s f:List Fm)(c:gO),dJ true s=true->dJ false f=true->mL (c.map (·.1))->ah f<=400->bl f<=40->∀p∈ba c s f,mr p
 |[],_,c,_,_,_,_,_,p,hp=>by simp[ba]at hp
 |_::_,[],c,_,_,_,_,_,p,hp=>by simp[ba]at hp
 |t::l,u::m,c,h1,h2,h3,h4,h5,p,hp=>by
  simp only[ba,List.mem_append]at hp;simp only[dJ,ak]at h1 h2;simp only[ah,bl]at h4 h5;rcases hp with hp|hp
  ·exact mM t u c ⟨h1.1,h2.1,h3,by show ag u<=400;omega,by show a_ u<=40;omega⟩ p hp
  ·exact Du l m c h1.2 h2.2 h3 (by omega) (by omega) p hp
end
theorem tH{s:Fm}(h:(eS s&&bw f)=true):mr ⟨s,f,[]⟩:=by
 simp only[eS,bw,ak,bM]at h;exact⟨h.1.1,h.2.1,(by intro x hx;cases hx),h.2.2.1,h.2.2.2⟩
theorem qI:∀a:List UInt8,Op.bytesLess a a=false
 |[]=>rfl
 |c::a=>by simp[Op.bytesLess,qI a]
theorem yk:∀a b c:List UInt8,Op.bytesLess a b=true->Op.bytesLess b c=true->Op.bytesLess a c=true
 |_,[],_,h,_=>by simp[Op.bytesLess]at h
 |_,_::_,[],_,h=>by simp[Op.bytesLess]at h
 |[],_::_,_::_,_,_=>rfl
 |x::a,y::b,z::c,h1,h2=>by
  simp only[Op.bytesLess,Bool.or_eq_true,ak,bM,ef]at h1 h2⊢;rcases h1 with h1|⟨rfl,h1⟩
  ·rcases h2 with h2|⟨rfl,h2⟩
   ·exact .inl (UInt8.lt_trans h1 h2)
   ·exact .inl h1
  ·rcases h2 with h2|⟨rfl,h2⟩
   ·exact .inl h2
   ·exact .inr ⟨rfl,yk a b c h1 h2⟩
theorem Te:∀a b:List UInt8,Op.bytesLess a b=false->Op.bytesLess b a=false->a=b
 |[],[],_,_=>rfl
 |[],_::_,h,_=>by simp[Op.bytesLess]at h
 |_::_,[],_,h=>by simp[Op.bytesLess]at h
 |x::a,y::b,h1,h2=>by
  simp only[Op.bytesLess,Bool.or_eq_false_iff,Bool.and_eq_false_iff,decide_eq_false_iff_not,beq_eq_false_iff_ne]at h1 h2;have hxy:x=y:=by
   apply UInt8.toNat_inj.1;have a1:=h1.1;have a2:=h2.1;rw[UInt8.lt_iff_toNat_lt]at a1 a2;omega
  subst hxy;rw[Te a b (h1.2.resolve_left (fun h=>h rfl)) (h2.2.resolve_left (fun h=>h rfl))]
theorem Dv(a b:aj)(h:a≠b)(h1:Op.bytesLess a b=false):Op.bytesLess b a=true:=by
 cases h2:Op.bytesLess b a
 ·exact absurd (Te a b h1 h2) h
 ·rfl
theorem pL{l:List aj}:eq (x::l)=true↔(∀y,l.head?=some y->Op.bytesLess x y=true)/\eq l=true:=by
 cases l with
 |nil=>simp[eq]
 |cons y r=>simp[eq]
theorem jy:∀(l:List (aj×α))(x:aj),bG l x=none↔x∉l.map (·.1)
 |[],x=>by simp[bG]
 |(y,v)::r,x=>by
  unfold bG
  by_cases h:y==x
  ·simp only[h,↓reduceIte,reduceCtorEq,cM,dc,false_iff];rw[ef]at h;exact fun h2=>h2 (.inl h.symm)
  ·simp only[h,bR,↓reduceIte,cM,dc,not_or];rw[jy r x];constructor
   ·exact fun h2=>⟨fun e=>h (by rw[e];simp),h2⟩
   ·exact fun h2=>h2.2
theorem Tf(x:aj)(v:α)(l:List (aj×α)):∀y,((iB x v l).map (·.1)).head?=some y->y=x\/(l.map (·.1)).head?=some y:=by
 intro y h
 cases l with
 |nil=>simp only[iB,cM,List.map_nil,List.head?_cons,dn]at h;exact .inl h.symm
 |cons z r=>
  obtain⟨z,u⟩:=z;unfold iB at h;split at h
  ·simp only[cM,List.head?_cons,dn]at h;exact .inl h.symm
  ·simp only[cM,List.head?_cons,dn]at h;exact .inr (by simp[h])
theorem wu(x:aj)(v:α):∀(l:List (aj×α)),x∉l.map (·.1)->eq (l.map (·.1))=true->eq ((iB x v l).map (·.1))=true
 |[],_,_=>by simp[iB,eq]
 |(y,u)::r,hx,hs=>by
  simp only[cM,dc,not_or]at hx;unfold iB;split
  ·rename_i h;simp only[cM]at hs⊢;exact pL.2 ⟨fun z hz=>by simp only[List.head?_cons,dn]at hz;rw[<-hz];exact h,hs⟩
  ·rename_i h;simp only[cM]at hs⊢;obtain⟨h1,h2⟩:=pL.1 hs;refine pL.2 ⟨fun z hz=>?_,wu x v r hx.2 h2⟩;rcases Tf x v r z hz with rfl|hz
   ·exact Dv _ _ hx.1 (by simpa using h)
   ·exact h1 z hz
theorem IK(P:aj×α->Bool)(x:aj)(v:α):∀(l:List (aj×α)),(iB x v l).all P=(P (x,v)&&l.all P)
 |[]=>by simp[iB]
 |(y,u)::r=>by
  unfold iB;split
  ·simp
  ·simp only[List.all_cons,IK P x v r];cases P (y,u)<;>simp
def ZP(l:List (aj×Fm)):Bool:=l.all (fun x=>ej x.1&&bw (bI x.2))&&eq (l.map (·.1))
def Nj(l:List (aj×Tm)):Bool:=l.all (fun x=>dI x.1&&jA false (aU x.2))&&eq (l.map (·.1))
theorem fp(b:Bd):bF b=true↔ZP b.fs=true/\Nj b.ts=true:=by
 simp only[bF,ZP,Nj,ak];constructor
 ·exact fun⟨⟨a,b⟩,c,d⟩=>⟨⟨a,c⟩,b,d⟩
 ·exact fun⟨⟨a,c⟩,b,d⟩=>⟨⟨a,b⟩,c,d⟩
theorem Ps{k:List (aj×Tm)}{n:aj}(hk:Nj k=true)(hn:dI n=true)(ht:jA false (aU t)=true)(hg:bG k n=none):Nj (iB n t k)=true:=by
 simp only[Nj,ak]at hk⊢;exact qeG
theorem Xw{k:List (aj×Fm)}{n:aj}{t:Fm}(hk:ZP k=true)(hn:ej n=true)(ht:bw (bI t)=true)(hg:bG k n=none):ZP (iB n t k)=true:=by
 simp only[ZP,ak]at hk⊢;exact qeG
theorem Nk{n:aj}{a:List Tm}(h:jA true (.mk true n a)=true)(hm:eA n=true):dI n=true:=by
 simp only[jA,↓reduceIte,dL,ak,Bool.or_eq_true]at h;rcases h.2 with h|h
 ·rw[Td h]at hm;cases hm
 ·exact h
mutual
theorem ym(sc:List aj):∀(t u:Tm)(k k':List (aj×Tm)),jA true t=true->jA false (aU u)=true->Nj k=true->dY sc k t u=some k'->Nj k'=true
 |.mk v n a,.mk v' n' a',k,k',ht,hu,hk,h=>by
  unfold dY at h
  by_cases hm:(v&&eA n)=true
  ·rw[aG hm]at h;simp only[ak]at hm;obtain⟨rfl,hm⟩:=hm
   cases hg:bG k n with
   |none=>
    rw[hg]at h;simp only[dn]at h;subst h;exact Ps hk (Nk ht hm) hu hg
   |some u=>
    exact qck
  ·rw[aw hm]at h;have an:=();exact qcl
theorem vH(sc:List aj):∀(t u:List Tm)(k k':List (aj×Tm)),eD true t=true->eD false (bW u)=true->Nj k=true->cY sc k t u=some k'->Nj k'=true
 |[],u,k,k',_,_,hk,h=>by simp only[cY,dn]at h;rw[<-h];exact hk
 |_::_,[],k,k',_,_,hk,h=>by simp only[cY,dn]at h;rw[<-h];exact hk
 |t::l,u::m,k,k',ht,hu,hk,h=>by
  simp only[cY]at h;simp only[eD,bW,ak]at ht hu
  cases h1:dY sc k t u with
  |none=>rw[h1]at h;cases h
  |some k1=>
   rw[h1]at h;exact vH sc l m k1 k' ht.2 hu.2 (ym sc t u k k1 ht.1 hu.1 hk h1) h
end
theorem yo(hc:mL (c.map (·.1))):∀(t u:List Tm)(k k':List (aj×Tm)),eD true t=true->eD false u=true->Nj k=true->dB c k t u=some k'->Nj k'=true
 |[],u,k,k',_,_,hk,h=>by simp only[dB,dn]at h;rw[<-h];exact hk
 |_::_,[],k,k',_,_,hk,h=>by simp only[dB,dn]at h;rw[<-h];exact hk
 |t::l,u::m,k,k',ht,hu,hk,h=>by
  simp only[dB]at h;simp only[eD,ak]at ht hu
  cases h0:iO c [] u with
  |none=>rw[h0]at h;cases h
  |some im=>
   rw[h0]at h;simp only at h
   cases h1:dY (c.map (·.1)) k t im with
   |none=>rw[h1]at h;cases h
   |some k1=>
    rw[h1]at h;exact yo hc l m k1 k' ht.2 hu.2 (ym _ t im k k1 ht.1 (yh hc [] u im hu.1 h0).1 hk h1) h
def Pt(step:Bd->Pl->Bd×Int):Prop:=∀k p k',mr p->bF k=true->step k p=(k',0)->bF k'=true
theorem GR(hp:mr p)(h:f9 p.c [] p.f=some im):bw (bI im)=true:=by
 obtain⟨h1,h2,h3⟩:=Cx hp.c p.f im [] hp.f h;have h4:=ja im;have h5:=hp.n;have h6:=hp.d;simp only[bw,ak,bM];exact⟨h1,by omega,by omega⟩
theorem m8:Pt bc:=by
 intro k p k' hp hk h;unfold bc at h;split at h
 ·cases h;exact hk
 rename_i kL;split at h
 ·rename_i gq
  cases hi:f9 p.c [] p.f with
  |none=>rw[hi]at h;simp at h
  |some im=>
   rw[hi]at h;simp only at h
   cases hg:bG k.fs p.s.n with
   |none=>
    rw[hg]at h;have GB:=();exact qaV
   |some g=>
    rw[hg]at h;simp only at h;split at h
    ·cases h;exact hk
    ·simp at h
 ·split at h
  ·simp at h
  ·rename_i hd
   cases ha:dB p.c k.ts p.s.a p.f.a with
   |none=>rw[ha]at h;simp at h
   |some ts=>
    rw[ha]at h;exact qaV
theorem mN(hp:mr p)(gq:p.s.op=16):∃x y:aj,p.s.a=[bj x,bj y]/\fQ x=true/\dI y=true/\bx p.s=(cg x,y):=by
 have GB:=();exact qeH
theorem rG:Pt dE:=by
 intro k p k' hp hk h;unfold dE at h
 by_cases gq:(p.s.op !=16)=true
 ·rw[aG gq]at h;cases h;exact hk
 rw[aw gq]at h;have zeP:p.s.op=16:=by simpa using gq
 cases hg:bG k.fs p.s.n with
 |none=>rw[hg]at h;simp at h
 |some f=>
  rw[hg]at h;simp only at h
  cases hi:f9 p.c [] p.f with
  |none=>rw[hi]at h;simp at h
  |some im=>
   rw[hi]at h;simp only at h
   by_cases h0:fD (bx p.s).1 f=0
   ·rw[aG h0]at h;split at h
    ·cases h;exact hk
    ·simp at h
   ·rw[aw h0]at h
    cases ht:bG k.ts (bx p.s).2 with
    |some t=>
     rw[ht]at h;simp only at h;split at h
     ·simp at h
     ·split at h
      ·cases h;exact hk
      ·simp at h
    |none=>
     rw[ht]at h;simp only at h
     cases hf:fG f im (bx p.s).1 with
     |none=>rw[hf]at h;simp at h
     |some t=>
      rw[hf]at h;simp only[Option.map_some]at h;split at h
      ·simp at h
      ·split at h
       ·simp only[Prod.mk.injEq,and_true]at h;subst h;obtain⟨k1,k2⟩:=(fp k).1 hk;obtain⟨x,y,_,_,hy,hn⟩:=mN hp zeP;refine(fp _).2 ⟨k1,Ps k2 (by rw[hn];exact hy) (KR (Cx hp.c p.f im [] hp.f hi).1 hf) ht⟩
       ·simp at h
theorem GS{step:Bd->Pl->Bd×Int}(hs:Pt step):∀(l:List Pl)(k k':Bd),(∀p∈l,mr p)->bF k=true->ek step k l=(k',0)->bF k'=true
 |[],k,k',_,hk,h=>by
  simp only[ek,Prod.mk.injEq,and_true]at h;rw[<-h];exact hk
 |p::l,k,k',hp,hk,h=>by
  unfold ek at h
  cases h1:step k p with
  |mk k1 e=>
   rw[h1]at h;simp only at h
   by_cases he:e=0
   ·subst he;rw[aG rfl]at h;exact GS hs l k1 k' (fun q hq=>hp q (fS _ hq)) (hs k p k1 (hp p (fT ..)) hk h1) h
   ·rw[aw he]at h;exact qbo
theorem wv{step:Bd->Pl->Bd×Int}(hs:Pt step):∀(l:List (Fm×Fm))(i:Nat)(k k':Bd)(j:Nat),(∀x∈l,(eS x.1&&bw x.2)=true)->bF k=true->dt step i k l=(k',j,0)->bF k'=true
 |[],i,k,k',j,_,hk,h=>by
  simp only[dt,Prod.mk.injEq,and_true]at h;rw[<-h.1];exact hk
 |(s,f)::l,i,k,k',j,hp,hk,h=>by
  unfold dt at h
  cases h1:ek step k (bC [] s f)with
  |mk k1 e=>
   rw[h1]at h;simp only at h
   by_cases he:e=0
   ·subst he;rw[aG rfl]at h;exact wv hs l (i+1) k1 k' j (fun x hx=>hp x (fS _ hx)) (GS hs _ k k1 (mM s f [] (tH (hp (s,f) (fT ..)))) hk h1) h
   ·rw[aw he]at h;exact qeB
theorem FX{l:List (Fm×Fm)}{k:Bd}(h:bm l b=(k,i,0)):bF k=true:=by
 obtain⟨hv,hl,_⟩:=Dn h;unfold bm at h;simp only[hv,Bool.not_true,bR,↓reduceIte,(gx l 0).2 hl]at h
 cases h1:dt bc 0 b l with
 |mk k1 x1=>
  obtain⟨i1,e1⟩:=x1;rw[h1]at h;simp only at h
  by_cases WK:e1=0
  ·subst WK;simp only[ne_eq,not_true_eq_false,↓reduceIte]at h
   cases h2:dt dE 0 k1 l with
   |mk k2 x2=>
    obtain⟨i2,e2⟩:=x2;rw[h2]at h;simp only at h
    by_cases Ρ:e2=0
    ·subst Ρ;simp only[not_true_eq_false,↓reduceIte,Prod.mk.injEq,and_true]at h;rw[<-h.1];exact wv rG l 0 k1 k2 i2 hl (wv m8 l 0 b k1 i1 hl hv h1) h2
    ·rw[aG Ρ]at h;exact qeC
  ·rw[aG WK]at h;exact qeD
def Up(l:List aj):Prop:=l.Pairwise (fun x y=>Op.bytesLess x y=true)
theorem Dw(x y:aj):∀l,y∈vZ x l↔y=x\/y∈l
 |[]=>by simp[vZ]
 |z::l=>by
  have ih:=Dw x y l;unfold vZ
  by_cases h:(x==z)=true
  ·rw[aG h];have:x=z:=by simpa using h
   subst this;simp
  ·rw[aw h]
   by_cases h2:Op.bytesLess x z=true
   ·rw[aG h2];simp
   ·rw[aw h2];simp[ih];grind
theorem Pu(x:aj):∀l,Up l->Up (vZ x l)
 |[],_=>by simp[vZ,Up]
 |z::l,h=>by
  have hl:Up l:=(List.pairwise_cons.1 h).2;have hz:=(List.pairwise_cons.1 h).1;have ih:=Pu x l hl;unfold vZ
  by_cases h1:(x==z)=true
  ·rw[aG h1];exact h
  ·rw[aw h1]
   by_cases h2:Op.bytesLess x z=true
   ·rw[aG h2];refine List.pairwise_cons.2 ⟨fun y hy=>?_,h⟩;rcases dc.1 hy with rfl|hy
    ·exact h2
    ·exact yk _ _ _ h2 (hz y hy)
   ·rw[aw h2];refine List.pairwise_cons.2 ⟨fun y hy=>?_,ih⟩;rcases(Dw x y l).1 hy with rfl|hy
    ·exact Dv _ _ (by simpa using h1) (by simpa using h2)
    ·exact hz y hy
theorem wy(l:List aj):Up (dX l):=by
 unfold dX
 induction l with
 |nil=>simp[Up]
 |cons x l ih=>exact Pu x _ ih
theorem eG(y:aj)(l:List aj):y∈dX l↔y∈l:=by
 unfold dX
 induction l with
 |nil=>simp
 |cons x l ih=>simp only[List.foldr_cons,Dw,ih,dc]
theorem jZ{l:List aj}(h:Up l):l.Nodup:=by
 refine List.Pairwise.imp ?_ h;intro a b FN e;subst e;rw[qI]at FN;cases FN
theorem Nl:∀l m:List aj,Up l->Up m->(∀x,x∈l↔x∈m)->l=m
 |[],[],_,_,_=>rfl
 |[],y::m,_,_,h=>by have:=(h y).2 (by simp);cases this
 |x::l,[],_,_,h=>by have:=(h x).1 (by simp);cases this
 |x::l,y::m,hl,hm,h=>by
  have hx:=(List.pairwise_cons.1 hl).1;have hy:=(List.pairwise_cons.1 hm).1;have hxy:x=y:=by
   by_cases e:x=y
   ·exact e
   ·have h1:=(h x).1 (by simp);have h2:=(h y).2 (by simp);rcases dc.1 h1 with h1|h1
    ·exact absurd h1 e
    ·rcases dc.1 h2 with h2|h2
     ·exact h2.symm
     ·have a:=hx y h2;have b:=hy x h1;have c:=yk _ _ _ a b;rw[qI]at c;cases c
  subst hxy;refine congrArg _ (Nl l m (List.pairwise_cons.1 hl).2 (List.pairwise_cons.1 hm).2 (fun z=>?_));constructor
  ·intro hz;rcases dc.1 ((h z).1 (fS _ hz))with e|e
   ·subst e;have:=hx z hz;rw[qI]at this;cases this
   ·exact e
  ·intro hz;rcases dc.1 ((h z).2 (fS _ hz))with e|e
   ·subst e;have:=hy z hz;rw[qI]at this;cases this
   ·exact e
theorem Dx{ss:List aj}(hp:ss.Perm (dX xs)):ss.mergeSort (fun x y=>decide (x<=y))=dX xs:=by
 have ZQ:=List.mergeSort_perm ss (fun x y=>decide (x<=y));refine Nl _ _ ?_ (wy xs) (fun x=>by rw[ZQ.mem_iff,hp.mem_iff]);have hnd:(ss.mergeSort (fun x y=>decide (x<=y))).Nodup:=(ZQ.trans hp).nodup_iff.2 (jZ (wy xs));have hs:(ss.mergeSort (fun x y=>decide (x<=y))).Pairwise (fun x y=>decide (x<=y)=true):=List.pairwise_mergeSort (fun a b c h1 h2=>by simp at h1 h2⊢;exact List.le_trans h1 h2) (fun a b=>by simp;exact List.le_total a b) ss;refine(hs.and hnd).imp ?_;rintro a b ⟨h1,h2⟩;refine Dv b a (fun e=>h2 e.symm) ?_;rw[bytesLess_eq];simp at h1⊢;exact h1
end Go.Proofs.YtokemihbkeddoaaGreatDoor
namespace Go.Proofs
open Go.RowKit Go.Maps Go.Sort Go.Shelf
shelf_lay_g SlLaysZ.n7 Ggz 7 at Tryz 75 as Tryz.keysA
shelf_lay_g SlLaysZ.n6 Ggz 6 at Tryz 74 as Tryz.sortedA
theorem Tryz.sortsA(m:Nat):AnyZ.SortsIn prog Tryz.sortedA_ren Fence.wide m:=
 ⟨fun blk off cap ss W hH zeQ hsz=>callsIn_wide.2 (Tryz.slices_Sort_string blk off cap ss W hH zeQ hsz),
  fun p cap W=>callsIn_wide.2 (Tryz.slices_Sort_string_none p cap W)⟩
end Go.Proofs
namespace Go.Proofs.YtokemihbkeddoaaGreatDoor
open Go Go.RowKit Go.Maps Go.Sort Go.Shelf
def Nm(lo:Nat)(W:World)(v:Value)(l:List aj):Prop:=W.ownsRow lo 9 1 v l.length (l.map encStr)/\(v=.slice none 0 0↔l=[])
theorem KS(mb:Option Nat)(W:World):Calls prog 75 #[.map mb] W fun e w'=>e=.returned (.func (.func 135) #[] #[.pointer (some ⟨W.heap.size,0,none⟩)])/\w'=W.alloc (.cells #[.map mb] 118):=
 aO.1 (AnyZ.keys_in Tryz.keysA Fence.wide 5 trivial rfl mb W)
theorem Dy(m n:Nat)(xs:List aj)(hn:n<=2000000)(W:World)(hs:np W m n xs):
  Calls prog 74 #[.func (.func 135) #[] #[.pointer (some ⟨W.heap.size,0,none⟩)]] (W.alloc (.cells #[.map (some m)] 118)) fun e w'=>∃v,e=.returned v/\Nm W.heap.size w' v (dX xs)/\Below W.heap.size W w':=by
 obtain⟨D0,aE,uZ,_⟩:=hs;have Nn:=aE.lt;have hsz:=aE.size_le;have rn:SeqGives Fence.wide 2 prog 135 #[.pointer (some ⟨W.heap.size,0,none⟩)] encStr (fun ss=>ss.Perm (strKeys D0)) (Maps.size D0) (W.alloc (.cells #[.map (some m)] 118)):=
  AnyZ.keys_gives (ρ:=Tryz.keysA_ren) {Tryz.keysA with } Fence.wide _ trivial rfl (by omega) W.heap.size m n D0 _ (by simp) (by simp) (aE.alloc _)
 have cS:=AnyZ.sorted_in Tryz.sortedA Fence.wide 5 trivial trivial trivial trivial rfl (by omega) (Tryz.sortsA _) (enters_of func134 (by kernel_rfl) rfl) 135 #[.pointer (some ⟨W.heap.size,0,none⟩)] trivial (enters_of func135 (by kernel_rfl) rfl) _ _ (by unfold maxLen;omega) (by omega) _ rn;have qmr:=();exact qcm
mutual
theorem oS:∀t:Tm,(aL t).length<=ap t
 |.mk v n a=>by
  have:=GT a;unfold aL ap;cases v<;>simp <;>omega
theorem GT:∀l:List Tm,(aF l).length<=af l
 |[]=>by simp[aF]
 |t::l=>by
  have h1:=oS t;have h2:=GT l;unfold aF af;simp;omega
end
mutual
theorem oT{p:Nat}:∀t:Tm,kI p t=true->∀x∈aL t,x.length<=p
 |.mk v n a,h,x,hx=>by
  simp only[kI,ak,bM]at h;unfold aL at hx
  cases v with
  |false=>exact qJ a h.2 x (by simpa using hx)
  |true=>
   rcases dc.1 (by simpa using hx)with rfl|hx
   ·exact h.1
   ·exact qJ a h.2 x hx
theorem qJ{p:Nat}:∀l:List Tm,d8 p l=true->∀x∈aF l,x.length<=p
 |[],_,x,hx=>by simp[aF]at hx
 |t::l,h,x,hx=>by
  simp only[d8,ak]at h;unfold aF at hx;rcases List.mem_append.1 hx with hx|hx
  ·exact oT t h.1 x hx
  ·exact qJ l h.2 x hx
end
theorem og(t:Tm)(aI:e7 t)(ok:Nat->Prop)(w:World)(q:TQ)(hq:aN ok w q.val t):
  Calls prog 166 #[q.val] w fun e w'=>(∃v,e=.returned v/\Nm w.heap.size w' v (dX (aL t)))/\RowKit.Below w.heap.size w w':=by
 have hq:=hq.lt;have qY:=aR (oS t) aI.1;have⟨W2,bp⟩:=az ((w.alloc (.cells #[.bool q.v,.string q.n,.slice q.a q.l q.c] 43)).alloc (.cells #[.bool q.v,.string q.n,.slice q.a q.l q.c] 43));have it:=();exact qeI
end Go.Proofs.YtokemihbkeddoaaGreatDoor
namespace Go.Proofs.YtokemihbkeddoaaGreatDoor
open Go Go.RowKit Lib
set_option maxRecDepth 100000
set_option maxHeartbeats 0
variable{sc:Bool}{o:Int}{n x y:aj}{a:List Tm}{s:List Fm}{f g:Fm}{u:Tm}{φ:Fm->Fm}{k:Nat}{t:List aj}
inductive Dt where
 |lvl (i:Nat)
 |fre (n:aj)
 |app (n:aj) (a:List Dt)
inductive Df where
 |mk (op:Int) (n:aj) (a:List Dt) (s:List Df)
def jP(σ:aj->Dt)(n:aj)(v:Dt):aj->Dt:=fun x=>if x==n then v else σ x
mutual
def iH(σ:aj->Dt):Tm->Dt|.mk v n a=>if v then σ n else .app n (dP σ a)
def dP(σ:aj->Dt):List Tm->List Dt|[]=>[]|t::l=>iH σ t::dP σ l
end
mutual
def li(σ:aj->Dt)(d:Nat):Fm->Df
 |.mk op n a s=>if br op then .mk op [] (dP σ a) (fv (jP σ n (.lvl d)) (d+1) s)else .mk op n (dP σ a) (fv σ d s)
def fv(σ:aj->Dt)(d:Nat):List Fm->List Df|[]=>[]|t::l=>li σ d t::fv σ d l
end
mutual
def lI:Tm->Bool|.mk v _ a=>(!v||a.isEmpty)&&eC a
def eC:List Tm->Bool|[]=>true|t::l=>lI t&&eC l
end
mutual
def iV:Fm->Bool|.mk _ _ a s=>eC a&&gy s
def gy:List Fm->Bool|[]=>true|t::l=>iV t&&gy l
end
mutual
theorem tI:∀t,jA sc t=true->lI t=true
 |.mk v n a,h=>by
  simp only[jA]at h
  cases v with
  |true=>
   simp only[↓reduceIte,ak]at h;have:a=[]:=by simpa using h.1
   subst this;simp[lI,eC]
  |false=>
   simp only[bR,↓reduceIte,ak]at h;simp[lI,IL a h.2.2]
theorem IL:∀t,eD sc t=true->eC t=true
 |[],_=>by simp[eC]
 |t::l,h=>by simp only[eD,ak]at h;simp[eC,tI t h.1,IL l h.2]
end
mutual
theorem oU:∀t,gF sc t=true->iV t=true
 |.mk o n a s,h=>by
  simp only[gF,ak]at h;simp[iV,IL a h.2.2.2.1,Pv s h.2.2.2.2]
theorem Pv:∀t,dJ sc t=true->gy t=true
 |[],_=>by simp[gy]
 |t::l,h=>by simp only[dJ,ak]at h;simp[gy,oU t h.1,Pv l h.2]
end
mutual
theorem GU:∀t,lI (aU t)=lI t
 |.mk v n a=>by
  simp only[aU,lI,wB a];congr 2;cases a<;>simp[bW]
theorem wB:∀t,eC (bW t)=eC t
 |[]=>by simp[bW]
 |t::l=>by simp[bW,eC,GU t,wB l]
end
mutual
theorem z':∀t,iV (bI t)=iV t
 |.mk o n a s=>by simp[bI,iV,wB a,Dz s]
theorem Dz:∀t,gy (cv t)=gy t
 |[]=>by simp[cv]
 |t::l=>by simp[cv,gy,z' t,Dz l]
end
mutual
theorem IM(b:List aj):∀(f:Fm)(c:List aj),aP (c++b) f=(aP c f).filter (fun x=>!b.contains x)
 |.mk o n a s,c=>by
  simp only[aP,List.filter_append,List.filter_filter];congr 1
  ·apply List.filter_congr;intro x _;rw[List.contains_eq_any_beq,List.any_append,<-List.contains_eq_any_beq,<-List.contains_eq_any_beq,Bool.not_or,Bool.and_comm]
  ·by_cases hq:br o
   ·rw[aG hq,aG hq];exact m_ b s (n::c)
   ·rw[aw hq,aw hq];exact m_ b s c
theorem m_(b:List aj):∀(f:List Fm)(c:List aj),bK (c++b) f=(bK c f).filter (fun x=>!b.contains x)
 |[],c=>by simp[bK]
 |t::l,c=>by simp[bK,IM b t c,m_ b l c]
end
theorem j5(n:aj)(s:List Fm):bK [n] s=(bK [] s).filter (fun x=>!(x==n)):=by
 have h:=m_ [n] s [];simp only[sw]at h;rw[h];apply List.filter_congr;intro x _;rw[iM];simp
mutual
theorem DA{σ τ:aj->Dt}:∀(t:Tm),(∀x∈aL t,σ x=τ x)->iH σ t=iH τ t
 |.mk v n a,h=>by
  cases v with
  |true=>simp only[iH,↓reduceIte];exact h n (by simp[aL])
  |false=>simp only[iH,bR,↓reduceIte];rw[uH a (fun x hx=>h x (by simpa[aL]using hx))]
theorem uH{σ τ:aj->Dt}:∀(t:List Tm),(∀x∈aF t,σ x=τ x)->dP σ t=dP τ t
 |[],_=>rfl
 |t::l,h=>by
  simp only[dP];rw[DA t (fun x hx=>h x (by simp[aF,hx])),uH l (fun x hx=>h x (by simp[aF,hx]))]
end
theorem rH(hq:br o=true)(hx:x∈bK [] s)(hn:x≠n):x∈aP [] (.mk o n a s):=by
 simp only[aP,List.mem_append,hq,if_true];right;rw[j5];exact List.mem_filter.2 ⟨hx,by simpa using hn⟩
theorem rI(hx:x∈aF a):x∈aP [] (.mk o n a s):=by
 simp only[aP,List.mem_append];left;exact List.mem_filter.2 ⟨hx,by simp⟩
mutual
theorem yp:∀(f:Fm)(σ τ:aj->Dt)(d:Nat),(∀x∈aP [] f,σ x=τ x)->li σ d f=li τ d f
 |.mk o n a s,σ,τ,d,h=>by
  have ha:dP σ a=dP τ a:=uH a (fun x hx=>h x (rI hx));simp only[li,ha]
  by_cases hq:br o
  ·rw[aG hq,aG hq];rw[z_ s (jP σ n (.lvl d)) (jP τ n (.lvl d)) (d+1) (fun x hx=>by
    unfold jP;split
    ·rfl
    ·rename_i hn;exact h x (rH hq hx (by simpa using hn)))]
  ·rw[aw hq,aw hq];rw[z_ s σ τ d (fun x hx=>h x (by simp only[aP,List.mem_append];right;rw[aw hq];exact hx))]
theorem z_:∀(f:List Fm)(σ τ:aj->Dt)(d:Nat),(∀x∈bK [] f,σ x=τ x)->fv σ d f=fv τ d f
 |[],_,_,_,_=>rfl
 |t::l,σ,τ,d,h=>by
  simp only[fv];rw[yp t σ τ d (fun x hx=>h x (by simp[bK,hx])),z_ l σ τ d (fun x hx=>h x (by simp[bK,hx]))]
end
def gI:List aj->aj->Dt
 |[],x=>.fre x
 |n::r,x=>if x==n then .lvl r.length else gI r x
theorem yq(n:aj)(r:List aj):gI (n::r)=jP (gI r) n (.lvl r.length):=by funext x;rfl
theorem uI:∀(l:List aj)(x:aj)(i:Nat),gI l x=.lvl i->i<l.length
 |[],x,i,h=>by simp[gI]at h
 |n::r,x,i,h=>by
  unfold gI at h;split at h
  ·simp only[Dt.lvl.injEq]at h;subst h;simp
  ·have:=uI r x i h;simp;omega
theorem DB:∀(c:gO)(x y:aj),mD c x y=true↔gI (c.map (·.1)) x=gI (c.map (·.2)) y
 |[],x,y=>by simp[mD,gI]
 |(s,a)::r,x,y=>by
  have ih:=DB r x y;simp only[mD,cM,gI,List.length_map]
  by_cases h1:s=x
  ·subst h1
   by_cases h2:a=y
   ·subst h2;simp
   ·have e2:(a==y)=false:=by simpa using h2
    have e3:(y==a)=false:=by simpa using fun h=>h2 h.symm
    simp only[beq_self_eq_true,e2,Bool.true_or,Bool.and_false,e3,bR,↓reduceIte,false_iff];intro h;have:=uI _ _ _ h.symm;simp at this
  ·have e1:(s==x)=false:=by simpa using h1
   have e4:(x==s)=false:=by simpa using fun h=>h1 h.symm
   by_cases h2:a=y
   ·subst h2;simp only[e1,beq_self_eq_true,Bool.or_true,Bool.false_and,e4,bR,↓reduceIte,false_iff];intro h;have:=uI _ _ _ h;simp at this
   ·have e2:(a==y)=false:=by simpa using h2
    have e3:(y==a)=false:=by simpa using fun h=>h2 h.symm
    simp only[e1,e2,Bool.or_self,bR,↓reduceIte,e3,e4];exact ih
theorem Bi:∀(c:gO)(x y:aj),c.any (fun p=>p.1==x||p.2==y)=false->mD c x y=(x==y)
 |[],x,y,_=>by simp[mD]
 |(s,a)::r,x,y,h=>by
  simp only[List.any_cons,Bool.or_eq_false_iff]at h;simp only[mD,h.1.1,h.1.2,Bool.or_self,bR,↓reduceIte];exact Bi r x y (by simpa using h.2)
theorem l7(σ:aj->Dt):∀l,(dP σ l).length=l.length
 |[]=>rfl
 |t::l=>by simp[dP,l7 σ l]
theorem iT(σ:aj->Dt)(d:Nat):∀l,(fv σ d l).length=l.length
 |[]=>rfl
 |t::l=>by simp[fv,iT σ d l]
theorem IN(l:List aj)(x n:aj)(a:List Dt):gI l x≠.app n a:=by
 induction l with
 |nil=>simp[gI]
 |cons y r ih=>unfold gI;split<;>simp[ih]
mutual
theorem No(c:gO):∀(t u:Tm),lI t=true->lI u=true->(gP c t u=true↔iH (gI (c.map (·.1))) t=iH (gI (c.map (·.2))) u)
 |.mk v n a,.mk v' n' a',ht,hu=>by
  simp only[lI,ak,Bool.or_eq_true,Bool.not_eq_true']at ht hu
  cases v with
  |true=>
   obtain rfl:a=[]:=by simpa using ht.1
   cases v' with
   |true=>
    obtain rfl:a'=[]:=by simpa using hu.1
    simp only[gP,iH,beq_self_eq_true,Bool.and_self,dL,↓reduceIte,ct,Bool.and_true];rw[<-DB];split
    ·rfl
    ·rename_i h;rw[Bi c n n' (by simpa using h)]
   |false=>
    simp only[gP,iH,↓reduceIte,bR];constructor
    ·intro h;simp at h
    ·intro h;exact absurd h (IN _ _ _ _)
  |false=>
   cases v' with
   |true=>
    simp only[gP,iH,↓reduceIte,bR];constructor
    ·intro h;simp at h
    ·intro h;exact absurd h.symm (IN _ _ _ _)
   |false=>
    have ih:=fun hl=>tJ c a a' ht.2 hu.2 hl;simp only[gP,iH,bR,↓reduceIte,Bool.false_and,beq_self_eq_true,dL,ak,ef,Dt.app.injEq];constructor
    ·rintro⟨h1,h2,h3⟩;exact⟨h2,(ih h1).1 h3⟩
    ·rintro⟨h1,h2⟩;have hl:a.length=a'.length:=by have:=congrArg List.length h2;rwa [l7,l7]at this
     exact⟨hl,h1,(ih hl).2 h2⟩
theorem tJ(c:gO):∀(t u:List Tm),eC t=true->eC u=true->t.length=u.length->(ct c t u=true↔dP (gI (c.map (·.1))) t=dP (gI (c.map (·.2))) u)
 |[],[],_,_,_=>by simp[ct,dP]
 |[],_::_,_,_,h=>by simp at h
 |_::_,[],_,_,h=>by simp at h
 |t::l,u::m,ht,hu,h=>by
  simp only[eC,ak]at ht hu;simp only[ct,dP,ak,cF,No c t u ht.1 hu.1,tJ c l m ht.2 hu.2 (by simpa using h)]
end
mutual
theorem DC:∀(t u:Fm)(c:gO),iV t=true->iV u=true->(cI c t u=true↔li (gI (c.map (·.1))) c.length t=li (gI (c.map (·.2))) c.length u)
 |.mk o n a s,.mk o' n' a' s',c,ht,hu=>by
  simp only[iV,ak]at ht hu;simp only[cI,li,ak,ef,Bool.or_eq_true];have Ti:=fun hl=>tJ c a a' ht.1 hu.1 hl;constructor
  ·rintro⟨⟨rfl,h1,h2⟩,h3,h4,h5⟩;rw[(Ti h1).1 h4]
   by_cases hq:br o
   ·rw[aG hq]at h5⊢;rw[aG hq];have:=(nr s s' ((n,n')::c) ht.2 hu.2 h2).1 h5;simp only[cM,yq,List.length_map,fB]at this;rw[this]
   ·rw[aw hq]at h5⊢;rw[aw hq];rw[(nr s s' c ht.2 hu.2 h2).1 h5,h3.resolve_right hq]
  ·intro h
   by_cases hq:br o
   ·rw[aG hq]at h
    by_cases gY:br o'
    ·rw[aG gY]at h;simp only[Df.mk.injEq,true_and]at h;obtain⟨rfl,h2,h3⟩:=h;have an:=();exact qeJ
    ·rw[aw gY]at h;simp only[Df.mk.injEq]at h;rw[h.1]at hq;exact absurd hq gY
   ·rw[aw hq]at h
    by_cases gY:br o'
    ·rw[aG gY]at h;simp only[Df.mk.injEq]at h;rw[h.1]at hq;exact absurd gY hq
    ·rw[aw gY]at h;simp only[Df.mk.injEq]at h;obtain⟨rfl,h1,h2,h3⟩:=h;exact qeJ
theorem nr:∀(t u:List Fm)(c:gO),gy t=true->gy u=true->t.length=u.length->(cX c t u=true↔fv (gI (c.map (·.1))) c.length t=fv (gI (c.map (·.2))) c.length u)
 |[],[],_,_,_,_=>by simp[cX,fv]
 |[],_::_,_,_,_,h=>by simp at h
 |_::_,[],_,_,_,h=>by simp at h
 |t::l,u::m,c,ht,hu,h=>by
  simp only[gy,ak]at ht hu;simp only[cX,fv,ak,cF,DC t u c ht.1 hu.1,nr l m c ht.2 hu.2 (by simpa using h)]
end
def db(f:Fm):Df:=li (gI []) 0 f
theorem mO(hf:iV f=true)(hg:iV g=true):cI [] f g=true↔db f=db g:=DC f g [] hf hg
mutual
def SB(σ:aj->Dt)(d:Nat):Dt->Dt|.lvl i=>.lvl (d+i)|.fre n=>σ n|.app n a=>.app n (QZ σ d a)
def QZ(σ:aj->Dt)(d:Nat):List Dt->List Dt|[]=>[]|t::l=>SB σ d t::QZ σ d l
end
mutual
def sbF(σ:aj->Dt)(d:Nat):Df->Df|.mk o n a s=>.mk o n (QZ σ d a) (Tj σ d s)
def Tj(σ:aj->Dt)(d:Nat):List Df->List Df|[]=>[]|t::l=>sbF σ d t::Tj σ d l
end
mutual
theorem Χ(σ:aj->Dt)(d:Nat)(ρ:aj->Dt):∀t,iH (fun x=>SB σ d (ρ x)) t=SB σ d (iH ρ t)
 |.mk v n a=>by
  cases v with
  |true=>simp[iH]
  |false=>simp[iH,SB,IP σ d ρ a]
theorem IP(σ:aj->Dt)(d:Nat)(ρ:aj->Dt):∀t,dP (fun x=>SB σ d (ρ x)) t=QZ σ d (dP ρ t)
 |[]=>by simp[dP,QZ]
 |t::l=>by simp[dP,QZ,Χ σ d ρ t,IP σ d ρ l]
end
theorem Ω(σ:aj->Dt)(d e:Nat)(ρ:aj->Dt)(n:aj):jP (fun x=>SB σ d (ρ x)) n (.lvl (d+e))=fun x=>SB σ d (jP ρ n (.lvl e) x):=by
 funext x
 unfold jP;split<;>simp[SB]
mutual
theorem Np(σ:aj->Dt)(d:Nat):∀(f:Fm)(ρ:aj->Dt)(e:Nat),li (fun x=>SB σ d (ρ x)) (d+e) f=sbF σ d (li ρ e f)
 |.mk o n a s,ρ,e=>by
  simp only[li,IP];split
  ·rw[Ω,Nat.add_assoc,IQ σ d s (jP ρ n (.lvl e)) (e+1)];simp[sbF]
  ·rw[IQ σ d s ρ e];simp[sbF]
theorem IQ(σ:aj->Dt)(d:Nat):∀(f:List Fm)(ρ:aj->Dt)(e:Nat),fv (fun x=>SB σ d (ρ x)) (d+e) f=Tj σ d (fv ρ e f)
 |[],ρ,e=>by simp[fv,Tj]
 |t::l,ρ,e=>by simp[fv,Tj,Np σ d t ρ e,IQ σ d l ρ e]
end
theorem Tk(h:db f=db g)(σ:aj->Dt)(d:Nat):li σ d f=li σ d g:=by
 have h1:=Np σ d f (gI []) 0;have h2:=Np σ d g (gI []) 0;have e:(fun x=>SB σ d (gI [] x))=σ:=by funext x;simp[gI,SB]
 rw[e,Nat.add_zero]at h1 h2;rw[h1,h2];unfold db at h;rw[h]
mutual
def il:Fm->Bool|.mk o _ a s=>(!br o||(s.length==1&&a.isEmpty))&&hO s
def hO:List Fm->Bool|[]=>true|t::l=>il t&&hO l
end
mutual
theorem yr:∀t,gF sc t=true->il t=true
 |.mk o n a s,h=>by
  simp only[gF,ak]at h;simp only[il,ak,Bool.or_eq_true];refine⟨?_,KT s h.2.2.2.2⟩;have h1:=h.2.1.2.2
  cases hq:br o with
  |false=>exact .inl rfl
  |true=>
   simp only[br,Bool.or_eq_true,ef]at hq;have e1:(eE o).2.2.2.2=1:=by rcases hq with rfl|rfl<;>decide
   have e2:(eE o).2.2.2.1=0:=by rcases hq with rfl|rfl<;>decide
   rw[e1]at h1;have h2:=h.2.1.2.1;rw[e2]at h2;have:a=[]:=List.length_eq_zero_iff.1 (by simpa using h2);subst this;exact .inr ⟨h1,rfl⟩
theorem KT:∀t,dJ sc t=true->hO t=true
 |[],_=>by simp[hO]
 |t::l,h=>by simp only[dJ,ak]at h;simp[hO,yr t h.1,KT l h.2]
end
def Tl:List UInt8->Nat:=List.foldl (fun n c=>n*10+(c.toNat-48)) 0
theorem Q0(l:List UInt8)(c:UInt8):Tl (l++[c])=Tl l*10+(c.toNat-48):=by simp[Tl,List.foldl_append]
theorem DD:∀k n,n<10^k->Tl (zU k n)=n
 |0,n,h=>by simp at h;subst h;rfl
 |k+1,n,h=>by
  unfold zU;split
  ·show 0*10+((UInt8.ofNat (48+n)).toNat-48)=n;have:(UInt8.ofNat (48+n)).toNat=48+n:=by simp[UInt8.toNat_ofNat'];omega
   omega
  ·rw[Q0,DD k (n / 10) (by rw[Nat.pow_succ]at h;omega)];have:(UInt8.ofNat (48+n % 10)).toNat=48+n % 10:=by simp[UInt8.toNat_ofNat'];omega
   omega
theorem Q1{m n:Nat}(hm:m<10^20)(hn:n<10^20)(h:ig m=ig n):m=n:=by
 unfold ig at h;have h1:=congrArg Tl (List.cons.inj h).2
 rwa [DD 20 m hm,DD 20 n hn]at h1
theorem Cy{α:Type}[DecidableEq α]:∀(l t:List α),l.Nodup->(∀x∈l,x∈t)->l.length<=t.length
 |[],t,_,_=>bn _
 |a::l,t,hn,hs=>by
  obtain⟨h1,h2⟩:=List.nodup_cons.1 hn;have ha:=hs a (fT ..);have:=Cy l (t.erase a) h2 (fun x hx=>(List.mem_erase_of_ne (fun e=>by subst e;exact h1 hx)).2 (hs x (fS _ hx)));rw[List.length_erase_of_mem ha]at this;have:=List.length_pos_of_mem ha;simp only[fB];omega
theorem wC(t:List aj)(ht:t.length<10^19):∀k n,1<=n->n+k=t.length+1->(∀i,1<=i->i<n->ig i∈t)→
  ox t k n∉t/\∃j,1<=j/\j<=t.length+1/\ox t k n=ig j/\∀i,1<=i->i<j->ig i∈t
 |0,n,h1,hk,hi=>by
  simp only[ox];refine⟨fun hn=>?_,n,h1,by omega,rfl,hi⟩;have hnd:((List.range' 1 n).map ig).Nodup:=by
   rw[List.nodup_iff_pairwise_ne,List.pairwise_map];refine(List.nodup_iff_pairwise_ne.1 List.nodup_range').imp_of_mem ?_;intro a b ha hb FN he;rw[List.mem_range'_1]at ha hb;exact FN (Q1 (by omega) (by omega) he)
  have:=Cy _ t hnd (fun x hx=>by
   obtain⟨i,zH,rfl⟩:=List.mem_map.1 hx;rw[List.mem_range'_1]at zH
   by_cases e:i=n
   ·subst e;exact hn
   ·exact hi i zH.1 (by omega))
  simp at this;omega
 |k+1,n,h1,hk,hi=>by
  unfold ox;split
  ·rename_i hc;refine wC t ht k (n+1) (by omega) (by omega) (fun i h2 h3=>?_)
   by_cases e:i=n
   ·subst e;simpa using hc
   ·exact hi i h2 (by omega)
  ·rename_i hc;exact⟨by simpa using hc,n,h1,by omega,rfl,hi⟩
theorem qK(t:List aj)(ht:t.length<10^19):dy t∉t:=(wC t ht t.length 1 (aK _) (by omega) (fun i h1 h2=>by omega)).1
theorem qL(t:List aj)(ht:t.length<10^19):∃j,1<=j/\j<=t.length+1/\dy t=ig j/\∀i,1<=i->i<j->ig i∈t:=(wC t ht t.length 1 (aK _) (by omega) (fun i h1 h2=>by omega)).2
theorem Tn:∀k n,(zU k n).all GH=true
 |0,n=>by simp[zU]
 |k+1,n=>by
  have h (m:Nat) (hm:m<10):GH (UInt8.ofNat (48+m))=true:=by
   have:m=0\/m=1\/m=2\/m=3\/m=4\/m=5\/m=6\/m=7\/m=8\/m=9:=by omega
   rcases this with rfl|rfl|rfl|rfl|rfl|rfl|rfl|rfl|rfl|rfl<;>decide
  unfold zU;split
  ·simp only[List.all_cons,List.all_nil,Bool.and_true];exact h n (by omega)
  ·rw[List.all_append,Tn k];simp only[List.all_cons,List.all_nil,Bool.and_true,dL];exact h _ (by omega)
theorem Cz:∀k n j,n<10^j->1<=j->(zU k n).length<=j
 |0,n,j,_,_=>by simp[zU]
 |k+1,n,j,h,hj=>by
  unfold zU;split
  ·simpa using hj
  ·rw[ei]
   cases j with
   |zero=>omega
   |succ j=>
    cases j with
    |zero=>omega
    |succ j=>have:=Cz k (n / 10) (j+1) (by rw[Nat.pow_succ]at h;omega) (by omega);simp;omega
theorem Q2{n:Nat}(h:n<10^15):fQ (ig n)=true:=by
 have h1:=Cz 20 n 15 h (by omega);have h2:Ks.contains (ig n)=false:=by
  unfold ig Ks;simp
 unfold fQ ig qD;unfold ig at h2;simp only[h2,Bool.not_false,dL,Tn,Bool.and_true,ak,bM];exact⟨by omega,by decide⟩
theorem gJ(f:aj->Option Tm):∀l,lr f l=l.map (ep f)
 |[]=>by simp[lr]
 |t::l=>by simp[lr,gJ f l]
mutual
theorem Xy(σ:aj->Dt)(x:aj)(u:Tm):∀t,iH σ (nl x u t)=iH (jP σ x (iH σ u)) t
 |.mk v n a=>by
  have ih:=tK σ x u a;simp only[fU]at ih;unfold nl ep
  cases v with
  |true=>
   by_cases h:n==x
   ·simp[h,iH,jP]
   ·simp[h,iH,jP]
  |false=>
   simp only[bR,↓reduceIte,iH];rw[<-ih];congr 2;exact(gJ _ a)
theorem tK(σ:aj->Dt)(x:aj)(u:Tm):∀l,dP σ (fU x u l)=dP (jP σ x (iH σ u)) l
 |[]=>by simp[fU,dP]
 |t::l=>by
  have ih:=tK σ x u l;simp only[fU]at ih⊢;simp only[cM,dP,Xy σ x u t,ih]
end
mutual
theorem Xz{x:aj}(hu:lI u=true):∀t,lI t=true->lI (nl x u t)=true
 |.mk v n a,h=>by
  have ih:=yt (x:=x) hu a;simp only[lI,ak]at h;unfold nl ep
  cases v with
  |true=>
   have an:=();exact qcn
  |false=>
   simp only[bR,↓reduceIte,lI,Bool.not_false,Bool.true_or,dL];rw[gJ];exact ih h.2
theorem yt{x:aj}(hu:lI u=true):∀l,eC l=true->eC (fU x u l)=true
 |[],_=>by simp[fU,eC]
 |t::l,h=>by
  have ih:=yt (x:=x) hu l;simp only[fU]at ih⊢;simp only[eC,ak]at h;simp only[cM,eC,ak];exact⟨Xz hu t h.1,ih h.2⟩
end
mutual
theorem Nq{x:aj}{y:aj}:∀t,lI t=true->dm (nl x (bj y) t)=dm t
 |.mk v n a,h=>by
  have ih:=tL (x:=x) (y:=y) a;simp only[lI,ak]at h;unfold nl ep
  cases v with
  |true=>
   have it:=();exact qcn
  |false=>
   simp only[bR,↓reduceIte,dm];rw[gJ];exact congrArg (·+1) (ih h.2)
theorem tL{x:aj}{y:aj}:∀l,eC l=true->bO (fU x (bj y) l)=bO l
 |[],_=>by simp[fU]
 |t::l,h=>by
  have ih:=tL (x:=x) (y:=y) l;simp only[fU]at ih⊢;simp only[eC,ak]at h;simp only[cM,bO,ih h.2,Nq t h.1]
end
theorem Pw(y:aj):lI (bj y)=true:=by simp[bj,lI,eC]
theorem rJ(hq:br o=true)(h:il (.mk o n a s)=true):a=[]/\∃g,s=[g]:=by
 simp only[il,ak,Bool.or_eq_true,Bool.not_eq_true']at h;rcases h.1 with h|h
 ·rw[hq]at h;cases h
 ·exact⟨by simpa using h.2,List.length_eq_one_iff.1 (by simpa using h.1)⟩
mutual
theorem Nr{x:aj}{y:aj}:∀t,lI t=true->ap (nl x (bj y) t)=ap t
 |.mk v n a,h=>by
  have ih:=tM (x:=x) (y:=y) a;simp only[lI,ak]at h;unfold nl ep
  cases v with
  |true=>
   exact qcn
  |false=>
   simp only[bR,↓reduceIte,ap];rw[gJ];exact congrArg (·+1) (ih h.2)
theorem tM{x:aj}{y:aj}:∀l,eC l=true->af (fU x (bj y) l)=af l
 |[],_=>by simp[fU]
 |t::l,h=>by
  have ih:=tM (x:=x) (y:=y) l;simp only[fU]at ih⊢;simp only[eC,ak]at h;simp only[cM,af,ih h.2,Nr t h.1]
end
theorem DE:∀(s:List Fm),(∀g∈s,ag (φ g)=ag g)->ah (s.map φ)=ah s
 |[],_=>rfl
 |g::s,h=>by simp only[cM,ah];rw[h g (fT ..),DE s (fun x hx=>h x (fS _ hx))]
theorem DF:∀(s:List Fm),(∀g∈s,a_ (φ g)=a_ g)->bl (s.map φ)=bl s
 |[],_=>rfl
 |g::s,h=>by simp only[cM,bl];rw[h g (fT ..),DF s (fun x hx=>h x (fS _ hx))]
theorem kT:∀(s:List Fm),gy s=true↔∀g∈s,iV g=true
 |[]=>by simp[gy]
 |g::s=>by simp[gy,kT s]
theorem kg:∀(s:List Fm),hO s=true↔∀g∈s,il g=true
 |[]=>by simp[hO]
 |g::s=>by simp[hO,kg s]
theorem mP:∀(s:List Fm)(g:Fm),g∈s->a_ g<=bl s
 |[],g,h=>by cases h
 |x::s,g,h=>by
  simp only[bl];rcases dc.1 h with rfl|h
  ·omega
  ·have:=mP s g h;omega
theorem mQ:∀(s:List Fm)(g:Fm),g∈s->ag g<=ah s
 |[],g,h=>by cases h
 |x::s,g,h=>by
  simp only[ah];rcases dc.1 h with rfl|h
  ·omega
  ·have:=mQ s g h;omega
mutual
theorem qM:∀t,(aL t).length<=ap t
 |.mk v n a=>by
  have:=wD a;simp only[aL,ap];split<;>simp <;>omega
theorem wD:∀t,(aF t).length<=af t
 |[]=>by simp[aF]
 |t::l=>by have:=qM t;have:=wD l;simp only[aF,af,ei];omega
end
mutual
theorem fI:∀(f:Fm)(b:List aj),(aP b f).length<=ag f
 |.mk o n a s,b=>by
  have h1:=wD a;have h2:=GV s (if br o then n::b else b);have h3:=List.length_filter_le (fun x=>!b.contains x) (aF a);simp only[aP,ag,ei];omega
theorem GV:∀(f:List Fm)(b:List aj),(bK b f).length<=ah f
 |[],b=>by simp[bK]
 |t::l,b=>by have:=fI t b;have:=GV l b;simp only[bK,ah,ei];omega
end
theorem oB(f:Fm):1<=a_ f:=by obtain⟨o,n,a,s⟩:=f;simp[a_]
theorem rK(hq:br o=true):h_ (k+1) x u (.mk o n a [g])=
  if n==x|| !(aP [] g).contains x then .mk o n a [g]
  else if(aL u).contains n then .mk o (dy (aP [] g++aL u)) (fU x u a) [h_ k x u (h_ k n (bj (dy (aP [] g++aL u))) g)]
  else .mk o n (fU x u a) [h_ k x u g]:=by
 simp only[h_,hq,if_true]
theorem Aa(hq:br o=false):h_ (k+1) x u (.mk o n a s)=.mk o n (fU x u a) (s.map (h_ k x u)):=by
 simp only[h_,hq,bR,↓reduceIte]
theorem jz:∀(k:Nat)(f:Fm)(x y:aj),iV f=true->il f=true->a_ f<=k->iV (h_ k x (bj y) f)=true/\il (h_ k x (bj y) f)=true/\a_ (h_ k x (bj y) f)=a_ f/\ag (h_ k x (bj y) f)=ag f
 |0,f,x,y,hw,hq,hd=>by have:=oB f;omega
 |k+1,.mk o n a s,x,y,hw,hq1,hd=>by
  have pD:=hw;have Ss:=();exact qaW
theorem DG(σ:aj->Dt)(h:x≠y)(u v:Dt):jP (jP σ x u) y v=jP (jP σ y v) x u:=by
 funext z
 unfold jP
 by_cases h1:z=x
 ·subst h1;have:(z==y)=false:=by simpa using h
  simp[this]
 ·have:(z==x)=false:=by simpa using h1
  simp[this]
theorem KU(h:(aL u).contains n=false)(σ:aj->Dt)(v:Dt):iH (jP σ n v) u=iH σ u:=by
 refine DA u (fun z hz=>?_);unfold jP;split
 ·rename_i h1;rw[ef]at h1;subst h1;have:(aL u).contains z=true:=by simpa using hz
  rw[h]at this;cases this
 ·rfl
theorem KV(φ:Fm->Fm)(σ τ:aj->Dt)(d:Nat):∀(s:List Fm),(∀g∈s,li σ d (φ g)=li τ d g)->fv σ d (s.map φ)=fv τ d s
 |[],_=>rfl
 |g::s,h=>by simp only[cM,fv];rw[h g (fT ..),KV φ σ τ d s (fun x hx=>h x (fS _ hx))]
theorem To{m:aj}(h:m∉aP [] g)(σ:aj->Dt)(v:Dt)(d:Nat):li (jP σ m v) d g=li σ d g:=by
 refine yp g _ _ d (fun z hz=>?_);unfold jP;split
 ·rename_i h1;rw[ef]at h1;subst h1;exact absurd hz h
 ·rfl
theorem rL:∀(k:Nat)(f:Fm)(x:aj)(u:Tm)(σ:aj->Dt)(d:Nat),iV f=true->il f=true->a_ f<=k->ag f+ap u<10^19->li σ d (h_ k x u f)=li (jP σ x (iH σ u)) d f
 |0,f,x,u,σ,d,hw,hq,hd,hn=>by have:=oB f;omega
 |k+1,.mk o n a s,x,u,σ,d,hw,hq1,hd,hn=>by
  have ZU:=();exact qaW
theorem Tp:∀k n,n<10^(k+1)->zU (k+1) n=Lib.decDigits n:=by
 intro k
 induction k with
 |zero=>intro n h;rw[zU,aG (by omega),Lib.decDigits,dif_pos (by omega)]
 |succ k ih=>
  intro n h;rw[zU,Lib.decDigits]
  by_cases hn:n<10
  ·rw[aG hn,dif_pos hn]
  ·rw[aw hn,dif_neg hn,ih (n / 10) (by rw[Nat.pow_succ]at h;omega)]
theorem Ns{n:Nat}(h:n<10^20):ig n=120::Lib.itoa (n:Int):=by
 unfold ig;rw[Tp 19 n h,Lib.itoa,aw (by omega)];simp
theorem KW(ht:t.length<10^19){j:Nat}(h1:1<=j)(hn:ig j∉t)(hb:∀i,1<=i->i<j->ig i∈t):dy t=ig j:=by
 obtain⟨j',h1',qY,he,SC⟩:=qL t ht;have FE:=qK t ht;rw[he]at FE;rcases Nat.lt_trichotomy j j' with h|h|h
 ·exact absurd (SC j h1 h) hn
 ·rw[he,h]
 ·exact absurd (hb j' h1' h) FE
theorem Nt(ht:t.length<10^19){n:Nat}(hb:∀i,1<=i->i<n->ig i∈t):n<=t.length+1:=by
 obtain⟨j',h1',qY,he,_⟩:=qL t ht;have FE:=qK t ht;rw[he]at FE
 by_cases h:j'<n
 ·exact absurd (hb j' h1' h) FE
 ·omega
theorem GW{t':List aj}(ht:t.length<10^19)(ht':t'.length<10^19)(h:∀x,x∈t↔x∈t'):dy t=dy t':=by
 obtain⟨j',h1',qY,he,SC⟩:=qL t' ht';have FE:=qK t' ht';rw[he]at FE⊢;exact KW ht h1' (fun hx=>FE ((h _).1 hx)) (fun i h1 h2=>(h _).2 (SC i h1 h2))
