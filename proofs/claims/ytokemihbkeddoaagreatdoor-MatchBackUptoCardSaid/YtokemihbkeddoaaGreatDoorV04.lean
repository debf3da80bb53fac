/-
The iterator of the places of a schema and a formula.
-/
import Derived.Test.YtokemihbkeddoaaGreatDoorV03
namespace Go.Proofs.YtokemihbkeddoaaGreatDoor
open Go Go.RowKit Lib
set_option maxRecDepth 100000
set_option maxHeartbeats 64000000
variable {c:Sco} {l m:List Fm} {k j mF mT kb nF nT:Nat} {M:Nat->Prop} {W W':World} {v:Value} {t u:Tm} {a:List Tm} {s x:Str} {f im:Fm} {b:Bd} {p:Pl}
section
attribute [local go_sem] Oper.semAt_some
theorem m_ {m:List Fm} {k:Nat} (hl:k<l.length) (hm:k<m.length):aJ c (l.take (k+1)) (m.take (k+1))=aJ c (l.take k) (m.take k) ++ a_ c l[k] m[k]:=by
 induction l generalizing k m with
 | nil=>simp at hl
 | cons t l ih=>
  cases m with
  | nil=>simp at hm
  | cons u m=>
   cases k with
   | zero=>simp[aJ]
   | succ k=>have:=ih (k:=k) (m:=m) (by simpa using hl) (by simpa using hm);simp[aJ]at this ⊢;rw[this]
theorem nd {m:List Fm} {k:Nat}:aJ c l m=aJ c (l.take k) (m.take k) ++ aJ c (l.drop k) (m.drop k):=by
 induction l generalizing k m with
 | nil=>simp[aJ]
 | cons t l ih=>
  cases m with
  | nil=>cases k <;> simp[aJ]
  | cons u m=>
   cases k with
   | zero=>simp[aJ]
   | succ k=>have:=ih (k:=k) (m:=m);simp only[List.take_succ_cons,List.drop_succ_cons,aJ,List.append_assoc];rw[this]
theorem vW {c:Sco} {l m:List Fm} {k:Nat} (hk:k=min l.length m.length):aJ c (l.take k) (m.take k)=aJ c l m:=by
 rw[nd (c:=c) (l:=l) (m:=m) (k:=k)];rcases Nat.le_total l.length m.length with h | h
 ·have h0:l.drop k=[]:=gT (by omega);rw[h0];simp[aJ]
 ·have h0:m.drop k=[]:=gT (by omega);rw[h0];cases l.drop k <;> simp[aJ]
theorem RM:(Tryz.prog.info? 213).map (fun i=>(i.zero,i.size,i.bytes))=some (some (.agg #[.string ByteArray.empty,.string ByteArray.empty]),2,32):=by kernel_rfl
def PairsN (M:Nat->Prop) (W:World) (v:Value) (ps:List (Str×Str)):Prop:=PairsV W v ps/\∀ b,v.ownBlock=some b->¬M b
theorem PairsN.kp {ps:List (Str×Str)} (h:PairsN M W v ps) (hk:Kp M W W'):PairsN M W' v ps:=by
 have qmM:=();exact qeL
def RN (M:Nat->Prop) (B:Nat) (W:World) (vs:Array Value) (x:Pl):Prop:=∃(q:PlQ) (ps:List (Str×Str)),vs=#[q.val]/\x.c=ps.reverse/\ps.length<=1000000/\FormV (fun b=>b<B/\¬M b) W q.s.val x.s/\FormV (fun b=>b<B/\¬M b) W q.f.val x.f/\PairsN M W (.slice q.a q.l q.c) ps
def YieldX {T:Type} (M:Nat->Prop) (l:Nat) (J Jx:List T->World->Prop) (At:World->Array Value->T->Prop) (xs:List T) (W:World):Prop:=
 ∀ pre vs x W1,J pre W1->Kp M W W1->At W1 vs x->(pre ++ [x]) <+: xs->YieldAt Fence.wide 0 Tryz.prog l vs W1 fun e W'=>(e=.returned (.bool true)/\J (pre ++ [x]) W'/\Kp M W1 W')\/(e=.returned (.bool false)/\Jx (pre ++ [x]) W'/\KpFrom M (l+1) W1 W')
theorem YieldX.later {T:Type} {l:Nat} {J Jx:List T->World->Prop} {At:World->Array Value->T->Prop} {xs:List T} (h:YieldX M l J Jx At xs W) (hk:Kp M W W'):YieldX M l J Jx At xs W':=
 fun pre vs x W1 hj kt hat hp=>h pre vs x W1 hj (hk.trans kt) hat hp
theorem LV:∀ (s:Fm),∀ (f:Fm),fitF f->∀ (ps:List (Str×Str)),ps.length+nodesF s<=1000000->∀ (M:Nat->Prop) (B l:Nat) (J Jx:List Pl->World->Prop) (xs pre:List Pl) (W:World) (q:PlQ),
  (∀ b,M b->b<W.heap.size)->(l<W.heap.size/\¬M l)->(∀ t,Abides W.heap.size (J t))->(∀ t,Abides W.heap.size (Jx t))->YieldX M l J Jx (RN M B) xs W->FormV (fun b=>b<B/\¬M b) W q.s.val s->FormV (fun b=>b<B/\¬M b) W q.f.val f->PairsN M W (.slice q.a q.l q.c) ps →
  (pre ++ a_ ps.reverse s f) <+: xs->J pre W →
  Calls Tryz.prog 103 #[q.val,.func (.yield l) #[] #[]] W fun e W'=>(e=.returned (.bool true)/\J (pre ++ a_ ps.reverse s f) W'/\Kp M W W')\/(e=.returned (.bool false)/\∃GH,GH <+: xs/\Jx GH W'/\KpFrom M (l+1) W W'):=by
 obtain ⟨i0,hi,ow,iM,gY⟩:=info_parts RM;intro s
 induction s using Fm.ind with
 | h so sn Ny ss ih=>
 intro f RO ps hpl M B l J Jx xs pre W q hM hl hJ hJx hY uQ Es iG dq hj;obtain ⟨fo,fn,Yb,fs⟩:=f;obtain ⟨⟨Vw,sn',sa,sl,sc,sb,sm,se⟩,⟨fo',fn',fa,fl,fc,fb,fm,fe⟩,ca,cl,cc⟩:=q;obtain ⟨v1,v2,h1,hsa,Rm⟩:=aQ.1 uQ;obtain ⟨v3,v4,h2,uO,hfs⟩:=aQ.1 Es;have qmN:=();exact qce
theorem LX (x y n:Str) (X:Nat) (w:World) (hX:w.cell? ⟨X,0,none⟩=some (.string ⟨n.toArray⟩)) :
  Calls Tryz.prog 228 #[.agg #[.string ⟨x.toArray⟩,.string ⟨y.toArray⟩],.pointer (some ⟨X,0,none⟩)] w fun e w'=>e=.returned (.bool (x == n))/\Below w.heap.size w w':=by
 have hb:Below w.heap.size w (w.alloc (.cells #[.string ⟨x.toArray⟩,.string ⟨y.toArray⟩] 213)):=cI;have h1:=aa hb hX;have HB:=ab hb;clear hb;go_enter Tryz.func228,Tryz.ntmps228;go_wp2;go_ret;exact ⟨rfl,HB.o⟩
theorem LY (ps:List (Str×Str)) (hpl:ps.length<=1000000) (n:Str) (X:Nat) (w:World) (v:Value) (hv:PairsV w v ps) (hX:w.cell? ⟨X,0,none⟩=some (.string ⟨n.toArray⟩)) :
  Calls Tryz.prog 274 #[v,.func (.func 228) #[] #[.pointer (some ⟨X,0,none⟩)]] w fun e w'=>(∃r:Int,e=.returned (.int .i64 r)/\(decide (0<=r)=(ps.map (·.1)).contains n)/\-1<=r/\r<=1000000)/\Below w.heap.size w w':=by
 obtain ⟨a,cap,rfl,hc,hs⟩:=hv;have ⟨k0,cd⟩:=aj ps.length;rw[<-cd]at hpl hc;rw[<-cd];have ⟨HK,HS,HX⟩:=cE cd hs hX;clear cd hs hX;go_enter Tryz.func274,Tryz.ntmps274;go_wp2;go_loopw [8] (fun i wr=>∃k:Nat,k<=k0/\i=.int .i64 k/\Below w.heap.size w wr/\∀ p∈ps.take k,p.1≠n) (fun i _=>k0 - (intOf i).toNat)
 case atStart=>exact ⟨0,aX _,rfl,ai _ _,by simp⟩
 case round=>
  obtain ⟨k,hk,rfl,aq,gV⟩:=hrel
  by_cases hlt:k<k0
  ·have bj:=cb HK.o hlt;have iG:ps≠[]:=fun h=>by rw[h]at bj;simp at bj
   rcases HS.o with ⟨h,_⟩ | ⟨b,off,rfl,hcs⟩
   ·exact absurd h iG
   obtain ⟨c0,c1⟩:=hcs k bj;have ⟨d0,d1⟩:=AN aq c0 c1;obtain ⟨⟨px,py⟩,hp⟩:∃p,p=ps[k]:=⟨_,rfl⟩;rw[<-hp]at d0 d1;simp only at d0 d1;have CB:=LX px py n X wr (aa aq HX.o);have D3:(k:Int)<(k0:Int):=by omega
   cases hq:(px == n) with
   | true=>
    rw[hq]at CB;have HC:=ab CB;have HE:=ab (show (ps.map (·.1)).contains n=true by rw[List.contains_iff_mem];exact List.mem_map.2 ⟨ps[k],ap bj,by rw[<-hp];exact eq_of_beq hq⟩);have qmO:=();exact qeM
   | false=>
    rw[hq]at CB;have HC:=ab CB;have BH:=ab (show ∀ p∈ps.take (k+1),p.1≠n by
     intro p hm;rw[List.take_add_one,io bj,<-hp]at hm;rcases List.mem_append.1 hm with h | h
     ·exact gV p h
     ·obtain rfl:p=(px,py):=by simpa using h
      exact fun e=>by rw[show px=n from e]at hq;simp at hq)
    exact qeM
  ·obtain rfl:k=k0:=by omega
   have HE:=ab (show (ps.map (·.1)).contains n=false by
    rw[HK.o,cK]at gV;rw[Bool.eq_false_iff,ne_eq,List.contains_iff_mem];intro h;obtain ⟨p,hp,he⟩:=List.mem_map.1 h;exact gV p hp he)
   have HB:=ab aq;clear aq gV;go_wp2;go_ret;exact ⟨⟨_,rfl,by rw[HE.o];simp,by omega,by omega⟩,HB.o⟩
theorem Ew (ps:List (Str×Str)) (hpl:ps.length<=1000000) (n:Str) (X:Nat) (w:World) (v:Value) (hv:PairsV w v ps) (hX:w.cell? ⟨X,0,none⟩=some (.string ⟨n.toArray⟩)) :
  Calls Tryz.prog 227 #[v,.func (.func 228) #[] #[.pointer (some ⟨X,0,none⟩)]] w fun e w'=>e=.returned (.bool ((ps.map (·.1)).contains n))/\Below w.heap.size w w':=by
 have CC:=LY ps hpl n X w v hv hX;have ⟨B,hB⟩:=aj ((ps.map (·.1)).contains n);rw[<-hB]at CC ⊢;have HC:=ab CC;clear CC hv hX hB;go_enter Tryz.func227,Tryz.ntmps227;go_wp2_with (go_at_call 274;refine HC.o.mono ?_;rintro e w4 ⟨⟨r,rfl,hr,_,_⟩,aR⟩;have H4:=aA hr aR;clear hr aR);exact qcf
theorem Fj (q:PlQ) (ps:List (Str×Str)) (hpl:ps.length<=1000000) (n:Str) (w:World) (hv:PairsV w (.slice q.a q.l q.c) ps) :
  Calls Tryz.prog 163 #[q.val,.string ⟨n.toArray⟩] w fun e w'=>e=.returned (.bool ((ps.map (·.1)).contains n))/\Below w.heap.size w w':=by
 have ⟨W2,aZ⟩:=aj ((w.alloc (.cells q.cells 89)).alloc (.cells #[.string ⟨n.toArray⟩] 9));have bG:=k_ aZ;have x1:W2.cell? ⟨w.heap.size+1,0,none⟩=some (.string ⟨n.toArray⟩):=by rw[aZ];exact ag (ah (by simp)) 0
 have CC:=Ew ps hpl n (w.heap.size+1) W2 _ (hv.later bG) x1;have ⟨B,hB⟩:=aj ((ps.map (·.1)).contains n);rw[<-hB]at CC ⊢;have ⟨HC,HB,fj⟩:=cE CC bG aZ;clear CC bG hv x1 aZ hB;have qmP:=();exact qaj
end
theorem nV:∀ a b:Str,Lib.compareBytes a b=0 ↔ a=b
 | [],[]=>by simp[Lib.compareBytes]
 | [],_ :: _=>by simp[Lib.compareBytes]
 | _ :: _,[]=>by simp[Lib.compareBytes]
 | x :: a,y :: b=>by
  have ih:=nV a b;have e:x.toNat=y.toNat ↔ x=y:=UInt8.toNat_inj;simp only[Lib.compareBytes,bP,UInt8.lt_iff_toNat_lt]at *
  by_cases h:x=y
  ·simp[h,ih]
  ·have:x.toNat≠y.toNat:=fun h'=>h (e.1 h');simp only[h,false_and,iff_false];split
   ·simp
   ·split
    ·simp
    ·omega
theorem qj (x y:Int):Lib.compareInt x y=0 ↔ x=y:=by
 unfold Lib.compareInt;split
 ·simp;omega
 ·split
  ·simp;omega
  ·simp;omega
mutual
def vY:Tm->Tm->Int
 | .mk v n a,.mk v' n' a'=>if (v != v')=true then (if v=true then -1 else 1) else if Lib.compareBytes n n'≠0 then Lib.compareBytes n n' else if Lib.compareInt a.length a'.length≠0 then Lib.compareInt a.length a'.length else BS a a'
def BS:List Tm->List Tm->Int
 | [],_=>0
 | t :: l,m=>match m with | []=>0 | u :: m=>if vY t u≠0 then vY t u else BS l m
end
def Fk (l m:List Tm):Int:=if Lib.compareInt l.length m.length≠0 then Lib.compareInt l.length m.length else BS l m
theorem Nz (v v':Bool) (n n':Str) (a a':List Tm):vY (.mk v n a) (.mk v' n' a')=if (v != v')=true then (if v=true then -1 else 1) else if Lib.compareBytes n n'≠0 then Lib.compareBytes n n' else Fk a a':=by
 rw[vY];rfl
mutual
theorem Fl:∀ t u,vY t u=0 ↔ t=u
 | .mk v n a,.mk v' n' a'=>by
  rw[Nz];have h1:=nV n n';have h2:=qj a.length a'.length;have h3:=Fo a a';unfold Fk;cases v <;> cases v' <;> simp only[bne_self_eq_false,bO,if_false,Tm.mk.injEq,true_and] <;> try (simp;done)
  all_goals
   by_cases hn:n=n'
   ·have hz:=h1.2 hn;rw[hz];simp only[ne_eq,not_true,if_false,hn,true_and]
    by_cases hl:a.length=a'.length
    ·have gY:=h2.2 (by omega);rw[gY];simp only[not_true,if_false];exact h3 hl
    ·have:Lib.compareInt a.length a'.length≠0:=fun h=>hl (by have:=h2.1 h;omega);simp only[this,not_false_eq_true,if_true,false_iff];intro h;exact hl (by rw[h])
   ·have hz:Lib.compareBytes n n'≠0:=fun h=>hn (h1.1 h);simp[hz,hn]
theorem Fo:∀ l m,l.length=m.length->(BS l m=0 ↔ l=m)
 | [],[],_=>by simp[BS]
 | [],_ :: _,h=>by simp at h
 | _ :: _,[],h=>by simp at h
 | t :: l,u :: m,h=>by
  have h1:=Fl t u;have h2:=Fo l m (by simpa using h);rw[BS]
  by_cases ht:t=u
  ·rw[h1.2 ht];simp[ht,h2]
  ·have hz:vY t u≠0:=fun h=>ht (h1.1 h);simp[hz,ht]
end
theorem OW {l m:List Tm} (hl:k<l.length) (hm:k<m.length):BS (l.drop k) (m.drop k)=if vY l[k] m[k]≠0 then vY l[k] m[k] else BS (l.drop (k+1)) (m.drop (k+1)):=by
 rw[gB hl,gB hm,BS]
def Vx (l:List Tm):Prop:=∀ (m:List Tm) (ok ok':Nat->Prop) (w:World) (a:Option Addr) (n c:Nat) (a':Option Addr) (n' c':Nat),fitTs l->fitTs m->TermsV ok w (.slice a n c) l->TermsV ok' w (.slice a' n' c') m →
 Calls Tryz.prog 273 #[.slice a n c,.slice a' n' c',.func (.func 226) #[] #[]] w fun e w'=>e=.returned (.int .i64 (Fk l m))/\Below w.heap.size w w'
theorem qk (t:Tm) (ih:Vx t.a) (u:Tm) (ok ok':Nat->Prop) (w:World) (q q':TQ) (hf:fitT t) (E3:fitT u) (hq:TermV ok w q.val t) (iN:TermV ok' w q'.val u) :
  Calls Tryz.prog 226 #[q.val,q'.val] w fun e w'=>e=.returned (.int .i64 (vY t u))/\Below w.heap.size w w':=by
 obtain ⟨xv,xn,xa⟩:=t;have qmQ:=();exact qcd
theorem Vy (l:List Tm) (ih:∀ t∈l,Vx t.a):Vx l:=by
 intro m ok ok' w a n c a' n' c' ar NA hl hm;obtain rfl:=hl.len;obtain rfl:=hm.len;have bW:=ar.len;have zbp:=NA.len;have ⟨k0,cd⟩:=aj l.length;have ⟨m0,dQ⟩:=aj m.length;have ⟨R,hR⟩:=aj (Fk l m);have Yd:=hR;unfold Fk at Yd;rw[<-cd,<-dQ]at Yd;rw[<-cd]at bW;rw[<-dQ]at zbp;rw[<-cd,<-dQ,<-hR];have ⟨d,hd⟩:=aj (Lib.compareInt (k0:Int) (m0:Int));have HC0:Hd (∀ W,Calls Tryz.prog 287 #[.int .i64 (k0:Int),.int .i64 (m0:Int)] W fun e w'=>e=.returned (.int .i64 d)/\w'=W):=ab (fun W=>by rw[hd];exact Tryz.cmp_Compare_int _ _ W);have hz:=qj (k0:Int) (m0:Int);rw[<-hd]at Yd hz;have ⟨du,gt,HL,HM,fd,HF,fh⟩:=Zc cd dQ hl hm ih ar NA
 by_cases h0:d=0
 ·subst h0;have Z_:k0=m0:=by have:=hz.1 rfl;omega
  simp at Yd;have ⟨HR,HKM⟩:=aS Yd Z_;clear cd dQ hl hm ih ar NA hd hz hR Yd Z_;have qmR:=();exact qeN
 ·have d1:(d == 0)=false:=by simpa using h0
  have d2:(d != 0)=true:=by simpa using h0
  simp[h0]at Yd;subst Yd;clear cd dQ hl hm ih ar NA hd hz hR;exact qeN
theorem RR:∀ t:Tm,Vx t.a:=by
 intro t
 induction t using Tm.ind with
 | h v n a ih=>exact Vy a ih
theorem yp (t u:Tm) (ok ok':Nat->Prop) (w:World) (q q':TQ) (hf:fitT t) (E3:fitT u) (hq:TermV ok w q.val t) (iN:TermV ok' w q'.val u) :
  Calls Tryz.prog 226 #[q.val,q'.val] w fun e w'=>e=.returned (.int .i64 (vY t u))/\Below w.heap.size w w':=qk t (RR t) u ok ok' w q q' hf E3 hq iN
theorem vZ (t u:Tm) (ok ok':Nat->Prop) (w:World) (q q':TQ) (hf:fitT t) (E3:fitT u) (hq:TermV ok w q.val t) (iN:TermV ok' w q'.val u) :
  Calls Tryz.prog 162 #[q.val,q'.val] w fun e w'=>e=.returned (.bool (xF t u))/\Below w.heap.size w w':=by
 have hb:Below w.heap.size w ((w.alloc (.cells #[.bool q.v,.string q.n,.slice q.a q.l q.c] 43)).alloc (.cells #[.bool q'.v,.string q'.n,.slice q'.a q'.l q'.c] 43)):=cI.alloc (by simp) _;have C1:=yp t u ok ok' _ q q' hf E3 (hq.later hb) (iN.later hb);have he:xF t u=(vY t u == 0):=by
  rw[ip,A_,<-Fl];simp
 rw[he];have ⟨c,hc⟩:=aj (vY t u);rw[<-hc]at C1 ⊢;have ⟨HC,HB⟩:=aS C1 hb;clear hb C1 hq iN he hc hf E3;unfold TQ.val at HC ⊢;go_enter Tryz.func162,Tryz.ntmps162;go_wp2_with (go_at_call 226;refine HC.o.mono ?_;rintro e w3 ⟨rfl,aG⟩;have bD:=ab aG;clear aG);exact qeE
section
attribute [local go_sem] Oper.semAt_some
theorem TermV.kpM {M':Nat->Prop} (h:TermV (fun b=>¬M b) W v t) (hk:Kp M' W W') (hM:∀ b,M' b->M b):TermV (fun b=>¬M b) W' v t:=h.move (fun b hb hlt=>⟨hb,hk.same b hlt (fun h=>hb (hM b h))⟩)
theorem BU {α:Type} {n:Str} {v:α} {l:List (Str×α)} (h:getB l n=none) (y:Str):getB (g_ n v l) y=if y=n then some v else getB l y:=by
 rw[oJ n _ _ h y]
 by_cases e:y=n
 ·subst e;simp
 ·rw[ak e,ak (fun b=>e (eq_of_beq b).symm)]
theorem pI {j:Nat} (h:j<a.length):nodesTs (a.take j)+nodesT a[j]=nodesTs (a.take (j+1))/\nodesTs (a.take (j+1))<=nodesTs a:=by
 induction a generalizing j with
 | nil=>simp at h
 | cons t a ih=>
  cases j with
  | zero=>simp[nodesTs]
  | succ j=>have:=ih (j:=j) (by simpa using h);simp[nodesTs]at this ⊢;omega
theorem RT {n:Str} (h:n.length<=1999999):fitT (aP (bI n)):=by
 refine ⟨by unfold aP nodesT nodesTs;omega,?_⟩;unfold aP jJ nmTs bI;simp;omega
def EqA (q:PlQ) (ps:List (Str×Str)) (PF:Fm->Prop) (PT:Tm->Prop) (M:Nat->Prop) (kb mF mT:Nat) (t:Tm):Prop:=
 ∀ im,PT im->∀ (W:World) (nF nT:Nat) (k:Bd) (tq uq:TQ),KnV (fun b=>¬M b) PF PT W kb mF mT nF nT k->nT+nodesT t<=3000000->PairsN M W (.slice q.a q.l q.c) ps->TermV (fun b=>¬M b) W tq.val t->TermV (fun b=>¬M b) W uq.val im →
  Calls Tryz.prog 95 #[.pointer (some ⟨kb,0,none⟩),q.val,tq.val,uq.val] W fun e W'=>Kp (fun b=>b=mT) W W'/\∃r:Bool,e=.returned (.bool r) ∧
   (cY (ps.reverse.map (·.1)) k.ts t im=none->r=false)/\∀ ts,cY (ps.reverse.map (·.1)) k.ts t im=some ts->r=true/\∃v_,v_<=nT+nodesT t/\KnV (fun b=>¬M b) PF PT W' kb mF mT nF v_ ⟨k.fs,ts⟩
theorem OX (q:PlQ) (ps:List (Str×Str)) (hpl:ps.length<=1000000) (PF:Fm->Prop) (PT:Tm->Prop) (Ya:∀ t,PT t->fitT t) (hPA:∀ v n a,PT (.mk v n a)->∀ u∈a,PT u) (M:Nat->Prop) (kb mF mT:Nat) (UC:M mT) (UD:M mF) (UE:¬M kb) :
  ∀ t,fitT t->jJ 1999999 t=true->EqA q ps PF PT M kb mF mT t:=by
 have HG:=sC hpl Ya hPA UC UD UE;clear hpl Ya hPA UC UD UE;have qmS:=();exact qav
end
theorem jk {f o:UInt8->Bool} (h:nN f o s=true):s.length<=16:=by
 cases s with
 | nil=>simp
 | cons c r=>simp only[nN,ae,br]at h;simp;omega
theorem gh (h:cX s=true):s.length<=16:=by
 simp only[cX,ae,br]at h;exact h.1
theorem t_ (h:dA s=true):s.length<=16:=by
 simp only[dA,ae,br]at h;exact h.1
mutual
theorem RX {sc:Bool}:∀ t,jc sc t=true->jJ 16 t=true
 | .mk v n a,h=>by
  simp only[jc]at h
  cases v with
  | true=>
   simp only[↓reduceIte,ae,Bool.or_eq_true]at h;obtain rfl:a=[]:=by simpa using h.1
   simp only[jJ,nmTs,Bool.and_true,br];rcases h.2 with h | h
   ·exact jk h
   ·exact gh h.2
  | false=>
   simp only[bO,↓reduceIte,ae]at h;simp only[jJ,ae,br];exact ⟨jk h.2.1,GL a h.2.2⟩
theorem GL {sc:Bool}:∀ l,d9 sc l=true->nmTs 16 l=true
 | [],_=>rfl
 | t :: l,h=>by
  simp only[d9,ae]at h;simp only[nmTs,ae];exact ⟨RX t h.1,GL l h.2⟩
end
mutual
theorem Fp:∀ t,jJ 16 (aK t)=true->jJ 17 t=true
 | .mk v n a,h=>by
  simp only[aK,jJ,ae,br]at h ⊢;refine ⟨?_,ud a h.2⟩;have h1:=h.1;split at h1
  ·simp at h1;omega
  ·omega
theorem ud:∀ l,nmTs 16 (bF l)=true->nmTs 17 l=true
 | [],_=>rfl
 | t :: l,h=>by
  simp only[bF,nmTs,ae]at h ⊢;exact ⟨Fp t h.1,ud l h.2⟩
end
mutual
theorem Fq:∀ t,jL (aK t)=jL t
 | .mk v n a=>by
  have h:(bF a).isEmpty=a.isEmpty:=by cases a <;> rfl
  simp only[aK,jL,h,uf a]
theorem uf:∀ l,dO (bF l)=dO l
 | []=>rfl
 | t :: l=>by simp only[bF,dO,Fq t,uf l]
end
theorem OY {o:Int} {sc:Bool} (h:((rowOp o).1 || (sc && (rowOp o).2.1))=true):0<=o/\o<=255:=by
 unfold rowOp at h
 by_cases h1:o=1
 ·omega
 by_cases h2:o=2
 ·omega
 by_cases h3:o=8\/o=9
 ·omega
 by_cases h4:o=3\/(10<=o/\o<=13)
 ·omega
 by_cases h5:(4<=o/\o<=7)\/o=14
 ·omega
 by_cases h6:o=15
 ·omega
 by_cases h7:o=16
 ·omega
 simp[h1,h2,h3,h4,h5,h6,h7]at h
theorem OZ (h:qP k s=true):s.length<=16:=by
 unfold qP at h;split at h
 ·exact jk h
 ·exact jk h
 ·exact t_ h
 ·simp at h;simp[h]
mutual
theorem iD {sc:Bool}:∀ f,okF sc f=true->li 16 f=true
 | .mk o n a s,h=>by
  simp only[okF]at h;rw[ae,ae,ae,ae,ae,ae]at h;simp only[li,ae,br];exact ⟨OY h.1,OZ h.2.1.1,GL a h.2.2.2.1,NB s h.2.2.2.2⟩
theorem NB {sc:Bool}:∀ l,dt sc l=true->nmFs 16 l=true
 | [],_=>rfl
 | t :: l,h=>by
  simp only[dt,ae]at h;simp only[nmFs,ae];exact ⟨iD t h.1,NB l h.2⟩
end
mutual
theorem Fr:∀ f,li 16 (bl f)=true->li 17 f=true
 | .mk o n a s,h=>by
  simp only[bl,li,ae,br]at h ⊢;exact ⟨h.1,by omega,ud a h.2.2.1,BZ s h.2.2.2⟩
theorem BZ:∀ l,nmFs 16 (bR l)=true->nmFs 17 l=true
 | [],_=>rfl
 | t :: l,h=>by
  simp only[bR,nmFs,ae]at h ⊢;exact ⟨Fr t h.1,BZ l h.2⟩
end
mutual
theorem Ft:∀ f,gS (bl f)=gS f
 | .mk o n a s=>by simp only[bl,gS,uf a,B0 s]
theorem B0:∀ l,eR (bR l)=eR l
 | []=>rfl
 | t :: l=>by simp only[bR,eR,Ft t,B0 l]
end
theorem zx:∀ s,(bR s).length=s.length
 | []=>rfl
 | t :: l=>by simp only[bR,eT,zx l]
mutual
theorem zy:∀ f,qone (bl f)=qone f
 | .mk o n a s=>by
  have h1:(bR s).length=s.length:=zx s;have h2:(bF a).isEmpty=a.isEmpty:=by cases a <;> rfl
  simp only[bl,qone,h1,h2,wa s]
theorem wa:∀ l,fF (bR l)=fF l
 | []=>rfl
 | t :: l=>by simp only[bR,fF,zy t,wa l]
end
def goodT (t:Tm):Prop:=jc false (aK t)=true/\nodesT t<=1000
def goodF (f:Fm):Prop:=bT (bl f)=true
theorem goodT.nm (h:goodT t):jJ 17 t=true:=Fp t (RX _ h.1)
theorem goodT.fit (h:goodT t):fitT t:=⟨by have:=h.2;omega,kw (by omega) t h.nm⟩
theorem goodT.args {v:Bool} {n:Str} (h:goodT (.mk v n a)):∀ u∈a,goodT u:=by
 intro u hu;obtain ⟨i,hi,rfl⟩:=List.getElem_of_mem hu;refine ⟨q_ (bF a) i _ (Bg h.1) (by rw[nR];simp[hi]),?_⟩;have h2:=h.2;have:=gW hu;simp only[nodesT]at h2;omega
theorem goodF.ok (h:goodF f):okF false (bl f)=true:=by unfold goodF bT at h;simp only[ae]at h;exact h.1
theorem goodF.nodes (h:goodF f):nodesF f<=400:=by unfold goodF bT at h;simp only[ae,br]at h;have:=(g9 f).1;omega
theorem goodF.nm (h:goodF f):li 17 f=true:=Fr f (iD _ h.ok)
theorem goodF.fit (h:goodF f):fitF f:=⟨by have:=h.nodes;omega,jK (by omega) f h.nm⟩
theorem goodF.wf (h:goodF f):gS f=true:=by rw[<-Ft];exact oh _ h.ok
theorem goodF.qone (h:goodF f):qone f=true:=by rw[<-zy];exact vE _ h.ok
theorem NC (hv:validB b=true):∀ x∈b.fs,goodF x.2/\dA x.1=true:=by
 intro x hx;simp only[validB,ae,List.all_eq_true]at hv;exact ⟨(hv.1.1 x hx).2,(hv.1.1 x hx).1⟩
theorem AB (hv:validB b=true) (hn:∀ x∈b.ts,nodesT x.2<=1000):∀ x∈b.ts,goodT x.2/\cX x.1=true:=by
 intro x hx;simp only[validB,ae,List.all_eq_true]at hv;exact ⟨⟨(hv.1.2 x hx).2,hn x hx⟩,(hv.1.2 x hx).1⟩
mutual
theorem mM:∀ (s f:Fm) (c:Sco),∀ p∈a_ c s f,nodesF p.s<=nodesF s
 | .mk o n a l,.mk o' n' a' l',c,p,hp=>by
  unfold a_ at hp;rcases cG.1 hp with rfl | hp
  ·exact aC _
  ·have:=B4 l l' _ p hp;simp only[nodesF];omega
theorem B4:∀ (s f:List Fm) (c:Sco),∀ p∈aJ c s f,nodesF p.s<=nodesFs s
 | [],_,c,p,hp=>by simp[aJ]at hp
 | _ :: _,[],c,p,hp=>by simp[aJ]at hp
 | t :: l,u :: m,c,p,hp=>by
  unfold aJ at hp;simp only[nodesFs];rcases List.mem_append.1 hp with hp | hp
  ·have:=mM t u c p hp;omega
  ·have:=B4 l m c p hp;omega
end
mutual
theorem rq:∀ (s f:Fm) (c:Sco),(a_ c s f).length<=nodesF s
 | .mk o n a l,.mk o' n' a' l',c=>by
  have:=Fu l l' (if bm o then (n,n') :: c else c);unfold a_;simp only[eT,nodesF];omega
theorem Fu:∀ (s f:List Fm) (c:Sco),(aJ c s f).length<=nodesFs s
 | [],_,c=>by simp[aJ]
 | _ :: _,[],c=>by simp[aJ]
 | t :: l,u :: m,c=>by
  have h1:=rq t u c;have h2:=Fu l m c;simp only[aJ,cU,nodesFs];omega
end
mutual
theorem VC {x:Str} {u:Tm}:∀ t,nodesT (lG x u t)<=nodesT t * nodesT u
 | .mk v n a=>by
  have hu:=jY u;have ih:=B8 (x:=x) (u:=u) a;unfold lG gC
  by_cases h:v=true/\n=x
  ·obtain ⟨rfl,rfl⟩:=h;simp only[↓reduceIte,beq_self_eq_true,nodesT];exact Nat.le_mul_of_pos_left _ (by omega)
  ·have h0:(if v=true then (if (n == x)=true then some u else none) else none)=none:=by
    by_cases hv:v=true
    ·have hn:(n == x)=false:=by simp;exact fun e=>h ⟨hv,e⟩
     simp[hv,hn]
    ·simp[hv]
   simp only[h0,nodesT,Nat.add_mul];rw[iz];have ih2:nodesTs (a.map (gC fun n=>if (n == x)=true then some u else none))<=nodesTs a * nodesT u:=ih;omega
theorem B8 {x:Str} {u:Tm}:∀ l,nodesTs (eL x u l)<=nodesTs l * nodesT u
 | []=>by simp[eL,nodesTs]
 | t :: l=>by
  have h1:=VC (x:=x) (u:=u) t;have h2:=B8 (x:=x) (u:=u) l;simp only[eL,cC,nodesTs,Nat.add_mul]at h2 ⊢;omega
end
theorem RY {φ:Fm->Fm} {U:Nat}:∀ (s:List Fm),(∀ g∈s,nodesF (φ g)<=nodesF g * U)->nodesFs (s.map φ)<=nodesFs s * U
 | [],_=>by simp[nodesFs]
 | g :: s,h=>by
  have h1:=h g (gp ..);have h2:=RY s (fun g hg=>h g (fL _ hg));simp only[cC,nodesFs,Nat.add_mul];omega
theorem we:∀ (k:Nat) (f:Fm) (x:Str) (u:Tm),gS f=true->qone f=true->depthF f<=k->nodesF (fI k x u f)<=nodesF f * nodesT u
 | 0,f,x,u,hw,hq,hd=>by have:=mL f;omega
 | k+1,.mk o n a s,x,u,hw,hq1,hd=>by
  have hu:=jY u;have qmT:=();exact qaP
theorem wg (hf:goodF f) (hu:goodT u):fitF (e9 x u f):=by
 have h1:=hf.nodes;have h2:=hu.2;have h3:=we (depthF f) f x u hf.wf hf.qone (aC _);have h4:nodesF f * nodesT u<=400 * 1000:=Nat.mul_le_mul h1 h2;exact ⟨by unfold e9;omega,pG _ f x u hf.wf hf.qone (aC _) (by omega) hf.fit.2 hu.fit.2⟩
theorem zz:∀ (p:List Nat) (l:List Tm) (t:Tm),jI l p=some t->nodesT t<=nodesTs l
 | [],l,t,h=>by cases l <;> simp[jI]at h
 | [i],l,t,h=>by
  simp only[jI]at h;exact gW (List.mem_of_getElem? h)
 | i :: j :: r,l,t,h=>by
  simp only[jI]at h
  cases hi:l[i]? with
  | none=>rw[hi]at h;cases h
  | some u=>
   rw[hi]at h;have h1:=zz (j :: r) u.a t h;have h2:=gW (List.mem_of_getElem? hi);obtain ⟨v,n,a⟩:=u;simp only[Tm.a]at h1;simp only[nodesT]at h2;omega
theorem zA:∀ (p:List Nat) (f:Fm) (ins:List Str) (g:Fm) (sH:List Str),j7 f p ins=some (g,sH)->nodesF g<=nodesF f
 | [],f,ins,g,sH,h=>by simp only[j7,c9,Prod.mk.injEq]at h;rw[h.1];exact aC _
 | i :: r,f,ins,g,sH,h=>by
  simp only[j7]at h
  cases hi:f.s[i]? with
  | none=>rw[hi]at h;cases h
  | some u=>
   rw[hi]at h;have h1:=zA r u _ g sH h;have h2:=fO (List.mem_of_getElem? hi);obtain ⟨o,n,a,s⟩:=f;simp only[Fm.s]at h2;simp only[nodesF];omega
theorem L1 (g:Fm):nodesTs g.a<=nodesF g:=by
 obtain ⟨o,n,a,s⟩:=g;simp only[Fm.a,nodesF];omega
theorem Jp (h:gD f im x=some t):nodesT t<=nodesF im:=by
 unfold gD at h;split at h
 ·cases h
 ·split at h
  ·cases h
  ·rename_i hw;split at h
   ·cases h
   ·rename_i M4;split at h
    ·cases h
    ·cases h;have h1:=zA _ _ _ _ _ hw;have h2:=zz _ _ _ M4;exact aN h2 (aN (L1 _) h1)
theorem L2 (hok:okF false (bl im)=true) (hn:nodesF im<=400) (h:gD f im x=some t):goodT t:=⟨IV hok h,by have:=Jp h;omega⟩
theorem Jq (hp:PlOk p) (h:e8 p.c [] p.f=some im):goodF im:=E7 hp h
theorem O0 (hp:PlOk p) (ht:t∈p.f.a) (h:iB p.c [] t=some u):goodT u:=by
 obtain ⟨s,⟨o,n,a,l⟩,c⟩:=p;have hf:=hp.f;have hn:=hp.n;simp only[Fm.a]at ht;simp only[okF,ae]at hf;simp only[nodesF]at hn;obtain ⟨i,hi,rfl⟩:=List.getElem_of_mem ht;have h1:=q_ a i _ hf.2.2.2.1 (io hi);obtain ⟨h2,h3,_⟩:=Aw hp.c [] _ _ h1 h;have h4:=gW (ap hi);exact ⟨h2,by omega⟩
def eI (f:Fm):Nat:=nodesF f
theorem wh (o:Int) (n:Str) (a:List Tm) (s:List Fm):∀ t∈s,eI t+1<=eI (.mk o n a s):=fun t ht=>by
 have:=fO ht;simp only[eI,nodesF];omega
theorem Fv (c:Sco) (o o':Int) (n n':Str) (a a':List Tm) (s s':List Fm):cg c (.mk o n a s) (.mk o' n' a' s')=((o == o' && (a.length == a'.length && s.length == s'.length)) && ((n == n' || bm o) && (cf c a a' && cJ (if bm o then (n,n') :: c else c) s s'))):=by
 rw[cg]
theorem O1:(Tryz.prog.info? 213).map (fun i=>(i.zero,i.size,i.bytes))=some (some (.agg #[.string ByteArray.empty,.string ByteArray.empty]),2,32):=by kernel_rfl
def zdC (t:Fm):Prop:=∀ (u:Fm) (ps:List (Str×Str)) (v:Value) (ok ok':Nat->Prop) (w:World) (q q':FQ),ps.length+eI t<=1000000000->fitF t->FormV ok w q.val t->FormV ok' w q'.val u->PairsV w v ps →
 Calls Tryz.prog 92 #[q.val,q'.val,v] w fun e w'=>e=.returned (.bool (cg ps.reverse t u))/\Below w.heap.size w w'
theorem wi:∀ t,zdC t:=by
 obtain ⟨i0,hi,ow,iM,gY⟩:=info_parts O1;intro t
 induction t using Fm.ind with
 | h uo xn xa xs ih=>
 intro u ps v ok ok' w q q' iG hf hq iN hp;have qmU:=();exact qeO
section
attribute [local go_sem] Oper.semAt_some
structure PlV (M:Nat->Prop) (W:World) (q:PlQ) (ps:List (Str×Str)) (p:Pl):Prop where
 s:FormV (fun b=>¬M b) W q.s.val p.s
 f:FormV (fun b=>¬M b) W q.f.val p.f
 c:PairsN M W (.slice q.a q.l q.c) ps
 e:p.c=ps.reverse
 l:ps.length<=1000000
def N2 (mF mT:Nat):Nat->Prop:=fun b=>b=mF\/b=mT
theorem Kp.two {X Y:World} (h:Kp (N2 mF mT) X Y) (hF:M mF) (hT:M mT):Kp M X Y:=h.mono (fun b _ hb=>by rcases hb with rfl | rfl;exact hF;exact hT)
def StepPost (M:Nat->Prop) (kb mF mT nF nT:Nat) (W:World) (r:Bd×Int) (e:Ending) (W':World):Prop:=Kp (N2 mF mT) W W'/\e=.returned (.int .i64 r.2)/\(r.2=0->∃zB v_,zB<=nF+1/\v_<=nT+400/\KnV (fun b=>¬M b) goodF goodT W' kb mF mT zB v_ r.1)
theorem StepPost.bad {r:Bd×Int} {k:Bd} {er:Int} (h:r=(k,er)) (h0:er≠0) (hk:Kp (N2 mF mT) W W'):StepPost M kb mF mT nF nT W r (.returned (.int .i64 er)) W':=by
 subst h;exact ⟨hk,rfl,fun h=>absurd h h0⟩
theorem StepPost.good {r:Bd×Int} {k:Bd} (zB v_:Nat) (h:r=(k,0)) (hk:Kp (N2 mF mT) W W') (h1:zB<=nF+1) (h2:v_<=nT+400) (h3:KnV (fun b=>¬M b) goodF goodT W' kb mF mT zB v_ k):StepPost M kb mF mT nF nT W r (.returned (.int .i64 0)) W':=by
 subst h;exact ⟨hk,rfl,fun _=>⟨zB,v_,h1,h2,h3⟩⟩
def Yi (W0:World) (fn:Nat) (step:Bd->Pl->Bd×Int):Prop:=
 ∀ (M:Nat->Prop) (kb mF mT:Nat),M mF->M mT->¬M kb->(∀ b,M b->W0.heap.size<=b)->∀ (p:Pl),PlOk p->nodesF p.s<=400->∀ (W:World) (nF nT:Nat) (k:Bd) (q:PlQ) (ps:List (Str×Str)),(∀ b,M b->b<W.heap.size)->Tabs W0 W →
  KnV (fun b=>¬M b) goodF goodT W kb mF mT nF nT k->nF<3000000->nT+400<=3000000->PlV M W q ps p →
  Calls Tryz.prog fn #[.pointer (some ⟨kb,0,none⟩),q.val] W fun e W'=>StepPost M kb mF mT nF nT W (step k p) e W'
section
variable {F:Fence} {n:Nat} {P:Program} {ops:Array Oper} {Q:Exit->Act->World->Prop} {md:Region.Mode} {S:World->Prop} {e:Nat}
theorem _c {i:Nat} {oi oj:Oper} {cO:Nat} {listed:Array Bool} {a:Act} {w:World} (hi:ops[i]?=some oi) (hj:ops[j]?=some oj) (hr:Region.ready md ops listed=[i,j]) (hwi:Region.wanted oi (yielded ops a.tmps)=true) (hwj:Region.wanted oj (yielded ops a.tmps)=true)
  (h1:∀ K:Act->World->Prop,(∀ a w,(i<e->S w)->((i<e->S w)->dG F n P md ops Q S e cO (listed.setIfInBounds i true) a w)->K a w)->Oper.wpIn F n P oi a w K Q)
  (h2:∀ K:Act->World->Prop,(∀ a w,(j<e->S w)->((j<e->S w)->dG F n P md ops Q S e cO (listed.setIfInBounds j true) a w)->K a w)->Oper.wpIn F n P oj a w K Q):dG F n P md ops Q S e (cO+1) listed a w:=by
 exact qeP
end
theorem Fw (W:World):StrsN W (.slice none 0 0) []/\∀ b,(Value.slice none 0 0).ownBlock=some b->b<W.heap.size:=⟨⟨none,0,rfl,aC _,.inl ⟨rfl,rfl,rfl⟩⟩,fun b h=>by simp[Value.ownBlock]at h⟩
theorem mN (W:World):(zeroValue 36).run Tryz.prog W=.ok (.agg #[.int .u8 0,.string ⟨#[]⟩,.slice none 0 0,.slice none 0 0]) W:=by kernel_rfl
theorem PlOk.sc (hp:PlOk p):∀ x∈p.c.map (·.1),x.length<=16:=fun x hx=>jk (hp.c x hx)
theorem PlOk.ps (hp:PlOk p) {ps:List (Str×Str)} (he:p.c=ps.reverse):∀ x∈ps,x.1.length<=2000000:=fun x hx=>by
 have h:=hp.sc x.1 (List.mem_map.2 ⟨x,by rw[he];simpa using hx,rfl⟩);omega
theorem Jt {k:List (Str×Tm)} {a':List Tm} (h:j<a.length) (h':j<a'.length):cA c k (a.drop j) (a'.drop j)=match iB c [] a'[j] with | none=>none | some im=>match cY (c.map (·.1)) k a[j] im with | some k'=>cA c k' (a.drop (j+1)) (a'.drop (j+1)) | none=>none:=by
 rw[gB h,gB h',cA];rfl
theorem Ju (k:Bd) (o o':Int) (n n':Str) (a a':List Tm) (s s':List Fm) (c:Sco):aY k ⟨.mk o n a s,.mk o' n' a' s',c⟩ =
  if o=16 then ((k,0):Bd×Int)
  else if o=15 then match e8 c [] (.mk o' n' a' s') with
   | none=>(k,70)
   | some im=>match getB k.fs n with
    | none=>({ k with fs:=g_ n im k.fs },0)
    | some g=>if cg [] g im=true then (k,(0:Int)) else (k,70)
  else if o != o' || (a.length != a'.length || (s.length != s'.length || (n != n' && !bm o))) then (k,70)
  else match cA c k.ts a a' with
   | none=>(k,70)
   | some ts=>({ k with ts:=ts },0):=rfl
structure Cmp (W W1:World) (B5 B6:Nat) (S F:Array Value) (W3:World):Prop where
 s:W3.heap[B5]?=some (.cells S 36 (0,0))
 f:W3.heap[B6]?=some (.cells F 36 (0,0))
 b:Below W1.heap.size W1 W3
 n:B5≠B6
 l:W1.heap.size<=B5/\W1.heap.size<=B6
theorem Cmp.one (W W1:World) (S F:Array Value):Cmp W W1 W1.heap.size (W1.heap.size+1) S F ((W1.alloc (.cells S 36)).alloc (.cells F 36)).drew:=
 ⟨(bH _ _ _ (by simp)).trans (ah rfl),ah (by simp),(cI.alloc (by simp) _).drew,by omega,by omega,by omega⟩
theorem Cmp.two (W W1:World) (S F:Array Value):Cmp W W1 (W1.heap.size+1) W1.heap.size S F ((W1.alloc (.cells F 36)).alloc (.cells S 36)).drew:=
 ⟨ah (by simp),(bH _ _ _ (by simp)).trans (ah rfl),(cI.alloc (by simp) _).drew,by omega,by omega,by omega⟩
theorem Jv (W0:World):Yi W0 47 aY:=by
 intro M kb mF mT UD UC UE _d p hp sf W nF nT k q ps _e Ca d_ sL qW hpv;obtain ⟨⟨o,n,a,s⟩,⟨o',n',a',s'⟩,c⟩:=p;have qmV:=();exact qaj
