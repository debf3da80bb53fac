/-
The iterator of the places of a schema and a formula: 'visit','places' of package match. (Printed by gen_mplaces.py.)
'binds' of package match: whether a name is one of the scope.
Contracts of 'compareTerms','compareLists','SameTerm' of package syntax.
-/
import Derived.Test.YtokemihbkeddoaaGreatDoorU00
import Derived.Test.YtokemihbkeddoaaGreatDoorU12
import Derived.Test.YtokemihbkeddoaaGreatDoorU06
import Derived.Test.YtokemihbkeddoaaGreatDoorU08
import Derived.Test.YtokemihbkeddoaaGreatDoorU07
import Derived.Test.YtokemihbkeddoaaGreatDoorShelf
namespace Go.Proofs.YtokemihbkeddoaaGreatDoor
open Go Go.RowKit Lib
set_option maxRecDepth 100000
set_option maxHeartbeats 64000000
section
attribute [local go_sem] Oper.semAt_some
theorem lv {c:Sco} {l m:List Fm} {k:Nat} (hl:k<l.length) (hm:k<m.length):aT c (l.take (k+1)) (m.take (k+1))=aT c (l.take k) (m.take k) ++ bE c l[k] m[k]:=by
 induction l generalizing k m with
 | nil=>simp at hl
 | cons t l ih=>
  cases m with
  | nil=>simp at hm
  | cons u m=>
   cases k with
   | zero=>simp[aT]
   | succ k=>have:=ih (k:=k) (m:=m) (by simpa using hl) (by simpa using hm);simp[aT]at this ⊢;rw[this]
theorem lw {c:Sco} {l m:List Fm} {k:Nat}:aT c l m=aT c (l.take k) (m.take k) ++ aT c (l.drop k) (m.drop k):=by
 induction l generalizing k m with
 | nil=>simp[aT]
 | cons t l ih=>
  cases m with
  | nil=>cases k <;> simp[aT]
  | cons u m=>
   cases k with
   | zero=>simp[aT]
   | succ k=>have:=ih (k:=k) (m:=m);simp only[List.take_succ_cons,List.drop_succ_cons,aT,List.append_assoc];rw[this]
theorem rX {c:Sco} {l m:List Fm} {k:Nat} (hk:k=min l.length m.length):aT c (l.take k) (m.take k)=aT c l m:=by
 rw[lw (c:=c) (l:=l) (m:=m) (k:=k)]
 rcases Nat.le_total l.length m.length with h | h
 ·have h0:l.drop k=[]:=List.drop_eq_nil_of_le (by omega)
  rw[h0];simp[aT]
 ·have h0:m.drop k=[]:=List.drop_eq_nil_of_le (by omega)
  rw[h0]
  cases l.drop k <;> simp[aT]
theorem MI:(Tryz.prog.info? 213).map (fun i=>(i.zero,i.size,i.bytes))=some (some (.agg #[.string ByteArray.empty,.string ByteArray.empty]),2,32):=by kernel_rfl
def PairsN (M:Nat->Prop) (W:World) (v:Value) (ps:List (Str×Str)):Prop:=PairsV W v ps/\∀ b,v.ownBlock=some b->¬M b
theorem PairsN.kp {M:Nat->Prop} {W W':World} {v:Value} {ps:List (Str×Str)} (h:PairsN M W v ps) (hk:Kp M W W'):PairsN M W' v ps:=by
 have pp265:=();exact pm265
def MJ (M:Nat->Prop) (B:Nat) (W:World) (vs:Array Value) (x:Pl):Prop:=∃(q:PlQ) (ps:List (Str×Str)),vs=#[q.val]/\x.c=ps.reverse/\ps.length<=1000000/\FormV (fun b=>b<B/\¬M b) W q.s.val x.s/\FormV (fun b=>b<B/\¬M b) W q.f.val x.f/\PairsN M W (.slice q.a q.l q.c) ps
def YieldX {T:Type} (M:Nat->Prop) (l:Nat) (J Jx:List T->World->Prop) (At:World->Array Value->T->Prop) (xs:List T) (W:World):Prop:=
 ∀ pre vs x W1,J pre W1->Kp M W W1->At W1 vs x->(pre ++ [x]) <+: xs->YieldAt Fence.wide 0 Tryz.prog l vs W1 fun e W'=>(e=.returned (.bool true)/\J (pre ++ [x]) W'/\Kp M W1 W')\/(e=.returned (.bool false)/\Jx (pre ++ [x]) W'/\KpFrom M (l+1) W1 W')
theorem YieldX.later {T:Type} {M:Nat->Prop} {l:Nat} {J Jx:List T->World->Prop} {At:World->Array Value->T->Prop} {xs:List T} {W W':World} (h:YieldX M l J Jx At xs W) (hk:Kp M W W'):YieldX M l J Jx At xs W':=
 fun pre vs x W1 hj iT hat hp=>h pre vs x W1 hj (hk.trans iT) hat hp
theorem G0:∀ (s:Fm),∀ (f:Fm),fitF f->∀ (ps:List (Str×Str)),ps.length+nodesF s<=1000000->∀ (M:Nat->Prop) (B l:Nat) (J Jx:List Pl->World->Prop) (xs pre:List Pl) (W:World) (q:PlQ),
  (∀ b,M b->b<W.heap.size)->(l<W.heap.size/\¬M l)->(∀ t,Abides W.heap.size (J t))->(∀ t,Abides W.heap.size (Jx t))->YieldX M l J Jx (MJ M B) xs W->FormV (fun b=>b<B/\¬M b) W q.s.val s->FormV (fun b=>b<B/\¬M b) W q.f.val f->PairsN M W (.slice q.a q.l q.c) ps →
  (pre ++ bE ps.reverse s f) <+: xs->J pre W →
  Calls Tryz.prog 103 #[q.val,.func (.yield l) #[] #[]] W fun e W'=>(e=.returned (.bool true)/\J (pre ++ bE ps.reverse s f) W'/\Kp M W W')\/(e=.returned (.bool false)/\∃Ck,Ck <+: xs/\Jx Ck W'/\KpFrom M (l+1) W W'):=by
 obtain ⟨i0,hi,rq,jS,hO⟩:=info_parts MI
 intro s
 induction s using Fm.ind with
 | h so sn I2 ss ih=>
 intro f MK ps kP M B l J Jx xs pre W q hM hl hJ Xy hY rj Ag gh cV hj
 obtain ⟨fo,fn,RA,fs⟩:=f
 obtain ⟨⟨Px,sn',sa,sl,sc,sb,sm,se⟩,⟨Xz,fn',fa,fl,fc,fb,fm,fe⟩,ca,cl,cc⟩:=q
 obtain ⟨v1,v2,h1,hsa,Mf⟩:=aQ.1 rj
 obtain ⟨v3,v4,h2,uK,GF⟩:=aQ.1 Ag
 have pp181:=();exact pm181
theorem G1 (x y n:Str) (X:Nat) (w:World) (hX:w.cell? ⟨X,0,none⟩=some (.string ⟨n.toArray⟩)) :
  Calls Tryz.prog 228 #[.agg #[.string ⟨x.toArray⟩,.string ⟨y.toArray⟩],.pointer (some ⟨X,0,none⟩)] w fun e w'=>e=.returned (.bool (x == n))/\Below w.heap.size w w':=by
 have hb:Below w.heap.size w (w.alloc (.cells #[.string ⟨x.toArray⟩,.string ⟨y.toArray⟩] 213)):=ct
 have h1:=aa hb hX
 have HB:=ab hb
 clear hb
 go_enter Tryz.func228,Tryz.ntmps228
 go_wp2
 go_ret
 exact ⟨rfl,HB.o⟩
theorem G3 (ps:List (Str×Str)) (kP:ps.length<=1000000) (n:Str) (X:Nat) (w:World) (v:Value) (hv:PairsV w v ps) (hX:w.cell? ⟨X,0,none⟩=some (.string ⟨n.toArray⟩)) :
  Calls Tryz.prog 274 #[v,.func (.func 228) #[] #[.pointer (some ⟨X,0,none⟩)]] w fun e w'=>(∃r:Int,e=.returned (.int .i64 r)/\(decide (0<=r)=(ps.map (·.1)).contains n)/\-1<=r/\r<=1000000)/\Below w.heap.size w w':=by
 obtain ⟨a,cap,rfl,hc,hs⟩:=hv
 obtain ⟨k0,bO⟩:=ao ps.length
 rw[<-bO]at kP hc
 rw[<-bO]
 obtain ⟨HK,HS,HX⟩:=cf bO hs hX
 clear bO hs hX
 go_enter Tryz.func274,Tryz.ntmps274
 go_wp2
 go_loopw [8] (fun i wr=>∃k:Nat,k<=k0/\i=.int .i64 k/\Below w.heap.size w wr/\∀ p∈ps.take k,p.1≠n) (fun i _=>k0 - (intOf i).toNat)
 case atStart=>exact ⟨0,Nat.zero_le _,rfl,Below.refl _ _,by simp⟩
 case round=>
  obtain ⟨k,hk,rfl,az,fP⟩:=hrel
  by_cases hlt:k<k0
  ·have bc:=bR HK.o hlt
   have gh:ps≠[]:=fun h=>by rw[h]at bc;simp at bc
   rcases HS.o with ⟨h,_⟩ | ⟨b,off,rfl,hcs⟩
   ·exact absurd h gh
   obtain ⟨c0,c1⟩:=hcs k bc
   obtain ⟨d0,d1⟩:=wN az c0 c1
   obtain ⟨⟨px,py⟩,hp⟩:∃p,p=ps[k]:=⟨_,rfl⟩
   rw[<-hp]at d0 d1
   simp only at d0 d1
   have CB:=G1 px py n X wr (aa az HX.o)
   have Ip:(k:Int)<(k0:Int):=by omega
   cases hq:(px == n) with
   | true=>
    rw[hq]at CB
    have HC:=ab CB
    have HE:=ab (show (ps.map (·.1)).contains n=true by rw[List.contains_iff_mem];exact List.mem_map.2 ⟨ps[k],List.getElem_mem bc,by rw[<-hp];exact eq_of_beq hq⟩)
    have pp198:=();exact pm198
   | false=>
    rw[hq]at CB
    have HC:=ab CB
    have GN:=ab (show ∀ p∈ps.take (k+1),p.1≠n by
     intro p hm
     rw[List.take_add_one,List.getElem?_eq_getElem bc,<-hp]at hm
     rcases List.mem_append.1 hm with h | h
     ·exact fP p h
     ·obtain rfl:p=(px,py):=by simpa using h
      exact fun e=>by rw[show px=n from e]at hq;simp at hq)
    exact pm198
  ·obtain rfl:k=k0:=by omega
   have HE:=ab (show (ps.map (·.1)).contains n=false by
    rw[HK.o,List.take_length]at fP
    rw[Bool.eq_false_iff,ne_eq,List.contains_iff_mem]
    intro h
    obtain ⟨p,hp,he⟩:=List.mem_map.1 h
    exact fP p hp he)
   have HB:=ab az
   clear az fP
   go_wp2
   go_ret
   exact ⟨⟨_,rfl,by rw[HE.o];simp,by omega,by omega⟩,HB.o⟩
theorem Ai (ps:List (Str×Str)) (kP:ps.length<=1000000) (n:Str) (X:Nat) (w:World) (v:Value) (hv:PairsV w v ps) (hX:w.cell? ⟨X,0,none⟩=some (.string ⟨n.toArray⟩)) :
  Calls Tryz.prog 227 #[v,.func (.func 228) #[] #[.pointer (some ⟨X,0,none⟩)]] w fun e w'=>e=.returned (.bool ((ps.map (·.1)).contains n))/\Below w.heap.size w w':=by
 have CC:=G3 ps kP n X w v hv hX
 obtain ⟨B,hB⟩:=ao ((ps.map (·.1)).contains n)
 rw[<-hB]at CC ⊢
 have HC:=ab CC
 clear CC hv hX hB
 go_enter Tryz.func227,Tryz.ntmps227
 go_wp2_with (go_at_call 274;refine HC.o.mono ?_;rintro e w4 ⟨⟨r,rfl,hr,_,_⟩,aN⟩;have H4:=aF hr aN;clear hr aN)
 go_ret
 exact ⟨by rw[<-H4.o.1];rfl,H4.o.2⟩
theorem AY (q:PlQ) (ps:List (Str×Str)) (kP:ps.length<=1000000) (n:Str) (w:World) (hv:PairsV w (.slice q.a q.l q.c) ps) :
  Calls Tryz.prog 163 #[q.val,.string ⟨n.toArray⟩] w fun e w'=>e=.returned (.bool ((ps.map (·.1)).contains n))/\Below w.heap.size w w':=by
 obtain ⟨W2,aY⟩:=ao ((w.alloc (.cells q.cells 89)).alloc (.cells #[.string ⟨n.toArray⟩] 9))
 have bA:=j7 aY
 have x1:W2.cell? ⟨w.heap.size+1,0,none⟩=some (.string ⟨n.toArray⟩):=by rw[aY];exact ai (aj (by simp)) 0
 have CC:=Ai ps kP n (w.heap.size+1) W2 _ (hv.later bA) x1
 obtain ⟨B,hB⟩:=ao ((ps.map (·.1)).contains n)
 rw[<-hB]at CC ⊢
 obtain ⟨HC,HB,eN⟩:=cf CC bA aY
 clear CC bA hv x1 aY hB
 have pp97b:=();exact pm97
end
theorem lW:∀ a b:Str,Lib.compareBytes a b=0 ↔ a=b
 | [],[]=>by simp[Lib.compareBytes]
 | [],_ :: _=>by simp[Lib.compareBytes]
 | _ :: _,[]=>by simp[Lib.compareBytes]
 | x :: a,y :: b=>by
  have ih:=lW a b
  have e:x.toNat=y.toNat ↔ x=y:=UInt8.toNat_inj
  simp only[Lib.compareBytes,List.cons.injEq,UInt8.lt_iff_toNat_lt]at *
  by_cases h:x=y
  ·simp[h,ih]
  ·have:x.toNat≠y.toNat:=fun h'=>h (e.1 h')
   simp only[h,false_and,iff_false]
   split
   ·simp
   ·split
    ·simp
    ·omega
theorem nI (x y:Int):Lib.compareInt x y=0 ↔ x=y:=by
 unfold Lib.compareInt
 split
 ·simp;omega
 ·split
  ·simp;omega
  ·simp;omega
mutual
def rY:Tm->Tm->Int
 | .mk v n a,.mk v' n' a'=>if (v != v')=true then (if v=true then -1 else 1) else if Lib.compareBytes n n'≠0 then Lib.compareBytes n n' else if Lib.compareInt a.length a'.length≠0 then Lib.compareInt a.length a'.length else yk a a'
def yk:List Tm->List Tm->Int
 | [],_=>0
 | t :: l,m=>match m with | []=>0 | u :: m=>if rY t u≠0 then rY t u else yk l m
end
def AZ (l m:List Tm):Int:=if Lib.compareInt l.length m.length≠0 then Lib.compareInt l.length m.length else yk l m
theorem I3 (v v':Bool) (n n':Str) (a a':List Tm):rY (.mk v n a) (.mk v' n' a')=if (v != v')=true then (if v=true then -1 else 1) else if Lib.compareBytes n n'≠0 then Lib.compareBytes n n' else AZ a a':=by
 rw[rY];rfl
mutual
theorem A_:∀ t u,rY t u=0 ↔ t=u
 | .mk v n a,.mk v' n' a'=>by
  rw[I3]
  have h1:=lW n n'
  have h2:=nI a.length a'.length
  have h3:=Ba a a'
  unfold AZ
  cases v <;> cases v' <;> simp only[bne_self_eq_false,Bool.false_eq_true,if_false,Tm.mk.injEq,true_and] <;> try (simp;done)
  all_goals
   by_cases hn:n=n'
   ·have hz:=h1.2 hn
    rw[hz]
    simp only[ne_eq,not_true,if_false,hn,true_and]
    by_cases hl:a.length=a'.length
    ·have hO:=h2.2 (by omega)
     rw[hO]
     simp only[not_true,if_false]
     exact h3 hl
    ·have:Lib.compareInt a.length a'.length≠0:=fun h=>hl (by have:=h2.1 h;omega)
     simp only[this,not_false_eq_true,if_true,false_iff]
     intro h;exact hl (by rw[h])
   ·have hz:Lib.compareBytes n n'≠0:=fun h=>hn (h1.1 h)
    simp[hz,hn]
theorem Ba:∀ l m,l.length=m.length->(yk l m=0 ↔ l=m)
 | [],[],_=>by simp[yk]
 | [],_ :: _,h=>by simp at h
 | _ :: _,[],h=>by simp at h
 | t :: l,u :: m,h=>by
  have h1:=A_ t u
  have h2:=Ba l m (by simpa using h)
  rw[yk]
  by_cases ht:t=u
  ·rw[h1.2 ht];simp[ht,h2]
  ·have hz:rY t u≠0:=fun h=>ht (h1.1 h)
   simp[hz,ht]
end
theorem Kd {l m:List Tm} {k:Nat} (hl:k<l.length) (hm:k<m.length):yk (l.drop k) (m.drop k)=if rY l[k] m[k]≠0 then rY l[k] m[k] else yk (l.drop (k+1)) (m.drop (k+1)):=by
 rw[List.drop_eq_getElem_cons hl,List.drop_eq_getElem_cons hm,yk]
def PA (l:List Tm):Prop:=∀ (m:List Tm) (ok ok':Nat->Prop) (w:World) (a:Option Addr) (n c:Nat) (a':Option Addr) (n' c':Nat),fitTs l->fitTs m->TermsV ok w (.slice a n c) l->TermsV ok' w (.slice a' n' c') m →
 Calls Tryz.prog 273 #[.slice a n c,.slice a' n' c',.func (.func 226) #[] #[]] w fun e w'=>e=.returned (.int .i64 (AZ l m))/\Below w.heap.size w w'
theorem nJ (t:Tm) (ih:PA t.a) (u:Tm) (ok ok':Nat->Prop) (w:World) (q q':TQ) (hf:fitT t) (Ge:fitT u) (hq:TermV ok w q.val t) (jC:TermV ok' w q'.val u) :
  Calls Tryz.prog 226 #[q.val,q'.val] w fun e w'=>e=.returned (.int .i64 (rY t u))/\Below w.heap.size w w':=by
 obtain ⟨xv,xn,xa⟩:=t
 have pp140b:=();exact pm140
theorem PB (l:List Tm) (ih:∀ t∈l,PA t.a):PA l:=by
 intro m ok ok' w a n c a' n' c' aD I4 hl hm
 obtain rfl:=hl.len
 obtain rfl:=hm.len
 have cq:=aD.len
 have XD:=I4.len
 obtain ⟨k0,bO⟩:=ao l.length
 obtain ⟨m0,du⟩:=ao m.length
 obtain ⟨R,hR⟩:=ao (AZ l m)
 have RC:=hR
 unfold AZ at RC
 rw[<-bO,<-du]at RC
 rw[<-bO]at cq
 rw[<-du]at XD
 rw[<-bO,<-du,<-hR]
 obtain ⟨d,hd⟩:=ao (Lib.compareInt (k0:Int) (m0:Int))
 have HC0:Hd (∀ W,Calls Tryz.prog 287 #[.int .i64 (k0:Int),.int .i64 (m0:Int)] W fun e w'=>e=.returned (.int .i64 d)/\w'=W):=ab (fun W=>by rw[hd];exact Tryz.cmp_Compare_int _ _ W)
 have hz:=nI (k0:Int) (m0:Int)
 rw[<-hd]at RC hz
 obtain ⟨cY,fN,HL,HM,eM,HF,eq⟩:=Sp bO du hl hm ih aD I4
 by_cases h0:d=0
 ·subst h0
  have Ts:k0=m0:=by have:=hz.1 rfl;omega
  simp at RC
  obtain ⟨HR,HKM⟩:=aS RC Ts
  clear bO du hl hm ih aD I4 hd hz hR RC Ts
  have pp162:=();exact pm162
 ·have d1:(d == 0)=false:=by simpa using h0
  have d2:(d != 0)=true:=by simpa using h0
  simp[h0]at RC
  subst RC
  clear bO du hl hm ih aD I4 hd hz hR
  exact pm162
theorem MN:∀ t:Tm,PA t.a:=by
 intro t
 induction t using Tm.ind with
 | h v n a ih=>exact PB a ih
theorem tT (t u:Tm) (ok ok':Nat->Prop) (w:World) (q q':TQ) (hf:fitT t) (Ge:fitT u) (hq:TermV ok w q.val t) (jC:TermV ok' w q'.val u) :
  Calls Tryz.prog 226 #[q.val,q'.val] w fun e w'=>e=.returned (.int .i64 (rY t u))/\Below w.heap.size w w':=nJ t (MN t) u ok ok' w q q' hf Ge hq jC
theorem rZ (t u:Tm) (ok ok':Nat->Prop) (w:World) (q q':TQ) (hf:fitT t) (Ge:fitT u) (hq:TermV ok w q.val t) (jC:TermV ok' w q'.val u) :
  Calls Tryz.prog 162 #[q.val,q'.val] w fun e w'=>e=.returned (.bool (te t u))/\Below w.heap.size w w':=by
 have hb:Below w.heap.size w ((w.alloc (.cells #[.bool q.v,.string q.n,.slice q.a q.l q.c] 43)).alloc (.cells #[.bool q'.v,.string q'.n,.slice q'.a q'.l q'.c] 43)):=ct.alloc (by simp) _
 have C1:=tT t u ok ok' _ q q' hf Ge (hq.later hb) (jC.later hb)
 have he:te t u=(rY t u == 0):=by
  rw[Bool.eq_iff_iff,D7,<-A_];simp
 rw[he]
 obtain ⟨c,hc⟩:=ao (rY t u)
 rw[<-hc]at C1 ⊢
 obtain ⟨HC,HB⟩:=aS C1 hb
 clear hb C1 hq jC he hc hf Ge
 unfold TQ.val at HC ⊢
 go_enter Tryz.func162,Tryz.ntmps162
 go_wp2_with (go_at_call 226;refine HC.o.mono ?_;rintro e w3 ⟨rfl,aJ⟩;have bp:=ab aJ;clear aJ)
 go_ret
 exact ⟨rfl,HB.o.trans (bp.o.mono (by simp;omega))⟩
end Go.Proofs.YtokemihbkeddoaaGreatDoor
