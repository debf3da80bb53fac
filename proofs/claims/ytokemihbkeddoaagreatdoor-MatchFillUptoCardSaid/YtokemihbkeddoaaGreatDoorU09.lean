/-
The iterator of the places of a schema and a formula.
-/
import Derived.Test.YtokemihbkeddoaaGreatDoorU08
namespace Go.Proofs.YtokemihbkeddoaaGreatDoor
open Go Go.RowKit Lib
set_option maxRecDepth 100000
set_option maxHeartbeats 64000000
variable {c:Sco} {l m:List Fm} {k:Nat} {M M':Nat->Prop} {W W':World} {v:Value} {n:Str}
section
attribute [local go_sem] Oper.semAt_some
theorem mM {m:List Fm} {k:Nat} (hl:k<l.length) (hm:k<m.length):aE c (l.take (k+1)) (m.take (k+1))=aE c (l.take k) (m.take k) ++ aR c l[k] m[k]:=by
 induction l generalizing k m with
 | nil=>simp at hl
 | cons t l ih=>
  cases m with
  | nil=>simp at hm
  | cons u m=>
   cases k with
   | zero=>simp[aE]
   | succ k=>have:=ih (k:=k) (m:=m) (by simpa using hl) (by simpa using hm);simp[aE]at this ⊢;rw[this]
theorem mN {m:List Fm} {k:Nat}:aE c l m=aE c (l.take k) (m.take k) ++ aE c (l.drop k) (m.drop k):=by
 induction l generalizing k m with
 | nil=>simp[aE]
 | cons t l ih=>
  cases m with
  | nil=>cases k <;> simp[aE]
  | cons u m=>
   cases k with
   | zero=>simp[aE]
   | succ k=>have:=ih (k:=k) (m:=m);simp only[List.take_succ_cons,List.drop_succ_cons,aE,List.append_assoc];rw[this]
theorem uT {c:Sco} {l m:List Fm} {k:Nat} (hk:k=min l.length m.length):aE c (l.take k) (m.take k)=aE c l m:=by
 rw[mN (c:=c) (l:=l) (m:=m) (k:=k)];rcases Nat.le_total l.length m.length with h | h
 ·have h0:l.drop k=[]:=gD (by omega);rw[h0];simp[aE]
 ·have h0:m.drop k=[]:=gD (by omega);rw[h0];cases l.drop k <;> simp[aE]
theorem PK:(Tryz.prog.info? 213).map (fun i=>(i.zero,i.size,i.bytes))=some (some (.agg #[.string ByteArray.empty,.string ByteArray.empty]),2,32):=by kernel_rfl
def PairsN (M:Nat->Prop) (W:World) (v:Value) (ps:List (Str×Str)):Prop:=PairsV W v ps/\∀ b,v.ownBlock=some b->¬M b
theorem PairsN.kp {ps:List (Str×Str)} (h:PairsN M W v ps) (hk:Kp M W W'):PairsN M W' v ps:=by
 have pp271:=();exact pm271
def PL (M:Nat->Prop) (B:Nat) (W:World) (vs:Array Value) (x:Pl):Prop:=∃(q:PlQ) (ps:List (Str×Str)),vs=#[q.val]/\x.c=ps.reverse/\ps.length<=1000000/\FormV (fun b=>b<B/\¬M b) W q.s.val x.s/\FormV (fun b=>b<B/\¬M b) W q.f.val x.f/\PairsN M W (.slice q.a q.l q.c) ps
def YieldX {T:Type} (M:Nat->Prop) (l:Nat) (J Jx:List T->World->Prop) (At:World->Array Value->T->Prop) (xs:List T) (W:World):Prop:=
 ∀ pre vs x W1,J pre W1->Kp M W W1->At W1 vs x->(pre ++ [x]) <+: xs->YieldAt Fence.wide 0 Tryz.prog l vs W1 fun e W'=>(e=.returned (.bool true)/\J (pre ++ [x]) W'/\Kp M W1 W')\/(e=.returned (.bool false)/\Jx (pre ++ [x]) W'/\KpFrom M (l+1) W1 W')
theorem YieldX.later {T:Type} {l:Nat} {J Jx:List T->World->Prop} {At:World->Array Value->T->Prop} {xs:List T} (h:YieldX M l J Jx At xs W) (hk:Kp M W W'):YieldX M l J Jx At xs W':=
 fun pre vs x W1 hj j9 hat hp=>h pre vs x W1 hj (hk.trans j9) hat hp
theorem J':∀ (s:Fm),∀ (f:Fm),fitF f->∀ (ps:List (Str×Str)),ps.length+nodesF s<=1000000->∀ (M:Nat->Prop) (B l:Nat) (J Jx:List Pl->World->Prop) (xs pre:List Pl) (W:World) (q:PlQ),
  (∀ b,M b->b<W.heap.size)->(l<W.heap.size/\¬M l)->(∀ t,Abides W.heap.size (J t))->(∀ t,Abides W.heap.size (Jx t))->YieldX M l J Jx (PL M B) xs W->FormV (fun b=>b<B/\¬M b) W q.s.val s->FormV (fun b=>b<B/\¬M b) W q.f.val f->PairsN M W (.slice q.a q.l q.c) ps →
  (pre ++ aR ps.reverse s f) <+: xs->J pre W →
  Calls Tryz.prog 103 #[q.val,.func (.yield l) #[] #[]] W fun e W'=>(e=.returned (.bool true)/\J (pre ++ aR ps.reverse s f) W'/\Kp M W W')\/(e=.returned (.bool false)/\∃Fp,Fp <+: xs/\Jx Fp W'/\KpFrom M (l+1) W W'):=by
 obtain ⟨i0,hi,oM,ju,iy⟩:=info_parts PK;intro s
 induction s using Fm.ind with
 | h so sn LO ss ih=>
 intro f PM ps mg M B l J Jx xs pre W q hM hl hJ hJx hY tY Dj gX dx hj;obtain ⟨fo,fn,UO,fs⟩:=f;obtain ⟨⟨SQ,sn',sa,sl,sc,sb,sm,se⟩,⟨fo',fn',fa,fl,fc,fb,fm,fe⟩,ca,cl,cc⟩:=q;obtain ⟨v1,v2,h1,hsa,Ph⟩:=aT.1 tY;obtain ⟨v3,v4,h2,xZ,Ct⟩:=aT.1 Dj;have pp209:=();exact pm209
theorem J_ (x y n:Str) (X:Nat) (w:World) (hX:w.cell? ⟨X,0,none⟩=some (.string ⟨n.toArray⟩)) :
  Calls Tryz.prog 228 #[.agg #[.string ⟨x.toArray⟩,.string ⟨y.toArray⟩],.pointer (some ⟨X,0,none⟩)] w fun e w'=>e=.returned (.bool (x == n))/\Below w.heap.size w w':=by
 have hb:Below w.heap.size w (w.alloc (.cells #[.string ⟨x.toArray⟩,.string ⟨y.toArray⟩] 213)):=cO;have h1:=aa hb hX;have HB:=ac hb;clear hb;go_enter Tryz.func228,Tryz.ntmps228;go_wp2;go_ret;exact ⟨rfl,HB.o⟩
theorem Ka (ps:List (Str×Str)) (mg:ps.length<=1000000) (n:Str) (X:Nat) (w:World) (v:Value) (hv:PairsV w v ps) (hX:w.cell? ⟨X,0,none⟩=some (.string ⟨n.toArray⟩)) :
  Calls Tryz.prog 274 #[v,.func (.func 228) #[] #[.pointer (some ⟨X,0,none⟩)]] w fun e w'=>(∃r:Int,e=.returned (.int .i64 r)/\(decide (0<=r)=(ps.map (·.1)).contains n)/\-1<=r/\r<=1000000)/\Below w.heap.size w w':=by
 obtain ⟨a,cap,rfl,hc,hs⟩:=hv;obtain ⟨k0,bX⟩:=am ps.length;rw[<-bX]at mg hc;rw[<-bX];obtain ⟨HK,HS,HX⟩:=cH bX hs hX;clear bX hs hX;go_enter Tryz.func274,Tryz.ntmps274;go_wp2;go_loopw [8] (fun i wr=>∃k:Nat,k<=k0/\i=.int .i64 k/\Below w.heap.size w wr/\∀ p∈ps.take k,p.1≠n) (fun i _=>k0 - (intOf i).toNat)
 case atStart=>exact ⟨0,aX _,rfl,aj _ _,by simp⟩
 case round=>
  obtain ⟨k,hk,rfl,ar,gE⟩:=hrel
  by_cases hlt:k<k0
  ·have bg:=ce HK.o hlt;have gX:ps≠[]:=fun h=>by rw[h]at bg;simp at bg
   rcases HS.o with ⟨h,_⟩ | ⟨b,off,rfl,hcs⟩
   ·exact absurd h gX
   obtain ⟨c0,c1⟩:=hcs k bg;obtain ⟨d0,d1⟩:=zS ar c0 c1;obtain ⟨⟨px,py⟩,hp⟩:∃p,p=ps[k]:=⟨_,rfl⟩;rw[<-hp]at d0 d1;simp only at d0 d1;have CB:=J_ px py n X wr (aa ar HX.o);have DK:(k:Int)<(k0:Int):=by omega
   cases hq:(px == n) with
   | true=>
    rw[hq]at CB;have HC:=ac CB;have HE:=ac (show (ps.map (·.1)).contains n=true by rw[List.contains_iff_mem];exact List.mem_map.2 ⟨ps[k],aw bg,by rw[<-hp];exact eq_of_beq hq⟩);have pp190:=();exact pm190
   | false=>
    rw[hq]at CB;have HC:=ac CB;have AD:=ac (show ∀ p∈ps.take (k+1),p.1≠n by
     intro p hm;rw[List.take_add_one,gT bg,<-hp]at hm;rcases List.mem_append.1 hm with h | h
     ·exact gE p h
     ·obtain rfl:p=(px,py):=by simpa using h
      exact fun e=>by rw[show px=n from e]at hq;simp at hq)
    exact pm190
  ·obtain rfl:k=k0:=by omega
   have HE:=ac (show (ps.map (·.1)).contains n=false by
    rw[HK.o,cY]at gE;rw[Bool.eq_false_iff,ne_eq,List.contains_iff_mem];intro h;obtain ⟨p,hp,he⟩:=List.mem_map.1 h;exact gE p hp he)
   have HB:=ac ar;clear ar gE;go_wp2;go_ret;exact ⟨⟨_,rfl,by rw[HE.o];simp,by omega,by omega⟩,HB.o⟩
theorem Dl (ps:List (Str×Str)) (mg:ps.length<=1000000) (n:Str) (X:Nat) (w:World) (v:Value) (hv:PairsV w v ps) (hX:w.cell? ⟨X,0,none⟩=some (.string ⟨n.toArray⟩)) :
  Calls Tryz.prog 227 #[v,.func (.func 228) #[] #[.pointer (some ⟨X,0,none⟩)]] w fun e w'=>e=.returned (.bool ((ps.map (·.1)).contains n))/\Below w.heap.size w w':=by
 have CC:=Ka ps mg n X w v hv hX;obtain ⟨B,hB⟩:=am ((ps.map (·.1)).contains n);rw[<-hB]at CC ⊢;have HC:=ac CC;clear CC hv hX hB;go_enter Tryz.func227,Tryz.ntmps227;go_wp2_with (go_at_call 274;refine HC.o.mono ?_;rintro e w4 ⟨⟨r,rfl,hr,_,_⟩,aO⟩;have H4:=aG hr aO;clear hr aO);go_ret;exact ⟨by rw[<-H4.o.1];rfl,H4.o.2⟩
theorem Ec (q:PlQ) (ps:List (Str×Str)) (mg:ps.length<=1000000) (n:Str) (w:World) (hv:PairsV w (.slice q.a q.l q.c) ps) :
  Calls Tryz.prog 163 #[q.val,.string ⟨n.toArray⟩] w fun e w'=>e=.returned (.bool ((ps.map (·.1)).contains n))/\Below w.heap.size w w':=by
 obtain ⟨W2,a_⟩:=am ((w.alloc (.cells q.cells 89)).alloc (.cells #[.string ⟨n.toArray⟩] 9));have bB:=lv a_;have x1:W2.cell? ⟨w.heap.size+1,0,none⟩=some (.string ⟨n.toArray⟩):=by rw[a_];exact ah (ai (by simp)) 0
 have CC:=Dl ps mg n (w.heap.size+1) W2 _ (hv.later bB) x1;obtain ⟨B,hB⟩:=am ((ps.map (·.1)).contains n);rw[<-hB]at CC ⊢;obtain ⟨HC,HB,fp⟩:=cH CC bB a_;clear CC bB hv x1 a_ hB;have pp90b:=();exact pm90
end
theorem nh:∀ a b:Str,Lib.compareBytes a b=0 ↔ a=b
 | [],[]=>by simp[Lib.compareBytes]
 | [],_ :: _=>by simp[Lib.compareBytes]
 | _ :: _,[]=>by simp[Lib.compareBytes]
 | x :: a,y :: b=>by
  have ih:=nh a b;have e:x.toNat=y.toNat ↔ x=y:=UInt8.toNat_inj;simp only[Lib.compareBytes,b_,UInt8.lt_iff_toNat_lt]at *
  by_cases h:x=y
  ·simp[h,ih]
  ·have:x.toNat≠y.toNat:=fun h'=>h (e.1 h');simp only[h,false_and,iff_false];split
   ·simp
   ·split
    ·simp
    ·omega
theorem pJ (x y:Int):Lib.compareInt x y=0 ↔ x=y:=by
 unfold Lib.compareInt;split
 ·simp;omega
 ·split
  ·simp;omega
  ·simp;omega
mutual
def uU:Tm->Tm->Int
 | .mk v n a,.mk v' n' a'=>if (v != v')=true then (if v=true then -1 else 1) else if Lib.compareBytes n n'≠0 then Lib.compareBytes n n' else if Lib.compareInt a.length a'.length≠0 then Lib.compareInt a.length a'.length else AP a a'
def AP:List Tm->List Tm->Int
 | [],_=>0
 | t :: l,m=>match m with | []=>0 | u :: m=>if uU t u≠0 then uU t u else AP l m
end
def Ed (l m:List Tm):Int:=if Lib.compareInt l.length m.length≠0 then Lib.compareInt l.length m.length else AP l m
theorem LP (v v':Bool) (n n':Str) (a a':List Tm):uU (.mk v n a) (.mk v' n' a')=if (v != v')=true then (if v=true then -1 else 1) else if Lib.compareBytes n n'≠0 then Lib.compareBytes n n' else Ed a a':=by
 rw[uU];rfl
mutual
theorem Ee:∀ t u,uU t u=0 ↔ t=u
 | .mk v n a,.mk v' n' a'=>by
  rw[LP];have h1:=nh n n';have h2:=pJ a.length a'.length;have h3:=Ef a a';unfold Ed;cases v <;> cases v' <;> simp only[bne_self_eq_false,bW,if_false,Tm.mk.injEq,true_and] <;> try (simp;done)
  all_goals
   by_cases hn:n=n'
   ·have hz:=h1.2 hn;rw[hz];simp only[ne_eq,not_true,if_false,hn,true_and]
    by_cases hl:a.length=a'.length
    ·have iy:=h2.2 (by omega);rw[iy];simp only[not_true,if_false];exact h3 hl
    ·have:Lib.compareInt a.length a'.length≠0:=fun h=>hl (by have:=h2.1 h;omega);simp only[this,not_false_eq_true,if_true,false_iff];intro h;exact hl (by rw[h])
   ·have hz:Lib.compareBytes n n'≠0:=fun h=>hn (h1.1 h);simp[hz,hn]
theorem Ef:∀ l m,l.length=m.length->(AP l m=0 ↔ l=m)
 | [],[],_=>by simp[AP]
 | [],_ :: _,h=>by simp at h
 | _ :: _,[],h=>by simp at h
 | t :: l,u :: m,h=>by
  have h1:=Ee t u;have h2:=Ef l m (by simpa using h);rw[AP]
  by_cases ht:t=u
  ·rw[h1.2 ht];simp[ht,h2]
  ·have hz:uU t u≠0:=fun h=>ht (h1.1 h);simp[hz,ht]
end
theorem M8 {l m:List Tm} (hl:k<l.length) (hm:k<m.length):AP (l.drop k) (m.drop k)=if uU l[k] m[k]≠0 then uU l[k] m[k] else AP (l.drop (k+1)) (m.drop (k+1)):=by
 rw[gj hl,gj hm,AP]
def ST (l:List Tm):Prop:=∀ (m:List Tm) (ok ok':Nat->Prop) (w:World) (a:Option Addr) (n c:Nat) (a':Option Addr) (n' c':Nat),fitTs l->fitTs m->TermsV ok w (.slice a n c) l->TermsV ok' w (.slice a' n' c') m →
 Calls Tryz.prog 273 #[.slice a n c,.slice a' n' c',.func (.func 226) #[] #[]] w fun e w'=>e=.returned (.int .i64 (Ed l m))/\Below w.heap.size w w'
theorem pK (t:Tm) (ih:ST t.a) (u:Tm) (ok ok':Nat->Prop) (w:World) (q q':TQ) (hf:fitT t) (EW:fitT u) (hq:TermV ok w q.val t) (ip:TermV ok' w q'.val u) :
  Calls Tryz.prog 226 #[q.val,q'.val] w fun e w'=>e=.returned (.int .i64 (uU t u))/\Below w.heap.size w w':=by
 obtain ⟨xv,xn,xa⟩:=t;have pp136b:=();exact pm136
theorem SU (l:List Tm) (ih:∀ t∈l,ST t.a):ST l:=by
 intro m ok ok' w a n c a' n' c' hfit LQ hl hm;obtain rfl:=hl.len;obtain rfl:=hm.len;have hlen:=hfit.len;have zaB:=LQ.len;obtain ⟨k0,bX⟩:=am l.length;obtain ⟨m0,dW⟩:=am m.length;obtain ⟨R,hR⟩:=am (Ed l m);have UQ:=hR;unfold Ed at UQ;rw[<-bX,<-dW]at UQ;rw[<-bX]at hlen;rw[<-dW]at zaB;rw[<-bX,<-dW,<-hR];obtain ⟨d,hd⟩:=am (Lib.compareInt (k0:Int) (m0:Int));have HC0:Hd (∀ W,Calls Tryz.prog 287 #[.int .i64 (k0:Int),.int .i64 (m0:Int)] W fun e w'=>e=.returned (.int .i64 d)/\w'=W):=ac (fun W=>by rw[hd];exact Tryz.cmp_Compare_int _ _ W);have hz:=pJ (k0:Int) (m0:Int);rw[<-hd]at UQ hz;obtain ⟨dA,gR,HL,HM,fR,HF,fw⟩:=VF bX dW hl hm ih hfit LQ
 by_cases h0:d=0
 ·subst h0;have WK:k0=m0:=by have:=hz.1 rfl;omega
  simp at UQ;obtain ⟨HR,HKM⟩:=aW UQ WK;clear bX dW hl hm ih hfit LQ hd hz hR UQ WK;have pp158:=();exact pm158
 ·have d1:(d == 0)=false:=by simpa using h0
  have d2:(d != 0)=true:=by simpa using h0
  simp[h0]at UQ;subst UQ;clear bX dW hl hm ih hfit LQ hd hz hR;exact pm158
theorem PP:∀ t:Tm,ST t.a:=by
 intro t
 induction t using Tm.ind with
 | h v n a ih=>exact SU a ih
theorem wZ (t u:Tm) (ok ok':Nat->Prop) (w:World) (q q':TQ) (hf:fitT t) (EW:fitT u) (hq:TermV ok w q.val t) (ip:TermV ok' w q'.val u) :
  Calls Tryz.prog 226 #[q.val,q'.val] w fun e w'=>e=.returned (.int .i64 (uU t u))/\Below w.heap.size w w':=pK t (PP t) u ok ok' w q q' hf EW hq ip
theorem uV (t u:Tm) (ok ok':Nat->Prop) (w:World) (q q':TQ) (hf:fitT t) (EW:fitT u) (hq:TermV ok w q.val t) (ip:TermV ok' w q'.val u) :
  Calls Tryz.prog 162 #[q.val,q'.val] w fun e w'=>e=.returned (.bool (wA t u))/\Below w.heap.size w w':=by
 have hb:Below w.heap.size w ((w.alloc (.cells #[.bool q.v,.string q.n,.slice q.a q.l q.c] 43)).alloc (.cells #[.bool q'.v,.string q'.n,.slice q'.a q'.l q'.c] 43)):=cO.alloc (by simp) _;have C1:=wZ t u ok ok' _ q q' hf EW (hq.later hb) (ip.later hb);have he:wA t u=(uU t u == 0):=by
  rw[gV,ux,<-Ee];simp
 rw[he];obtain ⟨c,hc⟩:=am (uU t u);rw[<-hc]at C1 ⊢;obtain ⟨HC,HB⟩:=aW C1 hb;clear hb C1 hq ip he hc hf EW;unfold TQ.val at HC ⊢;go_enter Tryz.func162,Tryz.ntmps162;go_wp2_with (go_at_call 226;refine HC.o.mono ?_;rintro e w3 ⟨rfl,aM⟩;have bD:=ac aM;clear aM);go_ret;exact ⟨rfl,HB.o.trans (bD.o.mono (by simp;omega))⟩
section
attribute [local go_sem] Oper.semAt_some
theorem TermV.kpM {t:Tm} (h:TermV (fun b=>¬M b) W v t) (hk:Kp M' W W') (hM:∀ b,M' b->M b):TermV (fun b=>¬M b) W' v t:=h.move (fun b hb hlt=>⟨hb,hk.same b hlt (fun h=>hb (hM b h))⟩)
theorem TermsV.kpM {t:List Tm} (h:TermsV (fun b=>¬M b) W v t) (hk:Kp M' W W') (hM:∀ b,M' b->M b):TermsV (fun b=>¬M b) W' v t:=h.move (fun b hb hlt=>⟨hb,hk.same b hlt (fun h=>hb (hM b h))⟩)
theorem FormV.kpM {t:Fm} (h:FormV (fun b=>¬M b) W v t) (hk:Kp M' W W') (hM:∀ b,M' b->M b):FormV (fun b=>¬M b) W' v t:=h.move (fun b hb hlt=>⟨hb,hk.same b hlt (fun h=>hb (hM b h))⟩)
theorem AQ {α:Type} {v:α} {l:List (Str×α)} (h:getB l n=none) (y:Str):getB (fS n v l) y=if y=n then some v else getB l y:=by
 rw[uw n _ _ h y]
 by_cases e:y=n
 ·subst e;simp
 ·rw[ak e,ak (fun b=>e (eq_of_beq b).symm)]
theorem o9 {a:List Tm} {j:Nat} (h:j<a.length):nodesTs (a.take j)+nodesT a[j]=nodesTs (a.take (j+1))/\nodesTs (a.take (j+1))<=nodesTs a:=by
 induction a generalizing j with
 | nil=>simp at h
 | cons t a ih=>
  cases j with
  | zero=>simp[nodesTs]
  | succ j=>have:=ih (j:=j) (by simpa using h);simp[nodesTs]at this ⊢;omega
theorem PQ (h:n.length<=1999999):fitT (ao (bQ n)):=by
 refine ⟨by unfold ao nodesT nodesTs;omega,?_⟩;unfold ao j5 nmTs bQ;simp;omega
def EqA (q:PlQ) (ps:List (Str×Str)) (PF:Fm->Prop) (PT:Tm->Prop) (M:Nat->Prop) (kb mF mT:Nat) (t:Tm):Prop:=
 ∀ im,PT im->∀ (W:World) (nF nT:Nat) (k:Bd) (tq uq:TQ),KnV (fun b=>¬M b) PF PT W kb mF mT nF nT k->nT+nodesT t<=3000000->PairsN M W (.slice q.a q.l q.c) ps->TermV (fun b=>¬M b) W tq.val t->TermV (fun b=>¬M b) W uq.val im →
  Calls Tryz.prog 95 #[.pointer (some ⟨kb,0,none⟩),q.val,tq.val,uq.val] W fun e W'=>Kp (fun b=>b=mT) W W'/\∃r:Bool,e=.returned (.bool r) ∧
   (cJ (ps.reverse.map (·.1)) k.ts t im=none->r=false)/\∀ ts,cJ (ps.reverse.map (·.1)) k.ts t im=some ts->r=true/\∃uW,uW<=nT+nodesT t/\KnV (fun b=>¬M b) PF PT W' kb mF mT nF uW ⟨k.fs,ts⟩
theorem M9 (q:PlQ) (ps:List (Str×Str)) (mg:ps.length<=1000000) (PF:Fm->Prop) (PT:Tm->Prop) (UN:∀ t,PT t->fitT t) (hPA:∀ v n a,PT (.mk v n a)->∀ u∈a,PT u) (M:Nat->Prop) (kb mF mT:Nat) (RY:M mT) (RZ:M mF) (R1:¬M kb) :
  ∀ t,fitT t->j5 1999999 t=true->EqA q ps PF PT M kb mF mT t:=by
 have HG:=rU mg UN hPA RY RZ R1;clear mg UN hPA RY RZ R1;have pp184b:=();exact pm184
