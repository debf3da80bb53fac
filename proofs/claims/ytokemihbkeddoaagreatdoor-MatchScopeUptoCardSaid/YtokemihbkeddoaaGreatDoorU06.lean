/-
Contracts of 'Term','Right','Schema' of package syntax,and of the judge's methods.
The iterator 'walk' of package syntax;contracts of 'count','Nodes',and of match's 'termNodes'.
The iterator of a term's names: 'visitTerm','termNames' of package subst.
-/
import Derived.Test.YtokemihbkeddoaaGreatDoorU00
import Derived.Test.YtokemihbkeddoaaGreatDoorU05
namespace Go.Proofs.YtokemihbkeddoaaGreatDoor
open Go Go.RowKit Lib
set_option maxRecDepth 100000
set_option maxHeartbeats 64000000
def JAt (J:Nat) (sc:Bool) (left bh:Int) (w:World):Prop:=w.heap[J]?=some (.cells #[.bool sc,.int .i64 left,.int .i64 bh] 111 (0,0))
def JPost (J:Nat) (sc:Bool) (left bh:Int) (n:Nat) (b:Bool) (w:World):Ending->World->Prop:=fun e w'=>
 e=.returned (.bool b)/\Kp (fun c=>c=J) w w'/\∃l:Int,JAt J sc l bh w'/\-1<=l/\l<=left/\(b=true->l=left - n)
theorem JAt.set {J:Nat} {sc:Bool} {left bh:Int} {w:World} (h:JAt J sc left bh w) (l:Int):JAt J sc l bh (w.setCell ⟨J,1,none⟩ (.int .i64 l)):=(aV h _).trans rfl
theorem mZ {J k:Nat} {w:World} (u:Value):Kp (fun c=>c=J) w (w.setCell ⟨J,k,none⟩ u):=⟨rfl,rfl,rfl,by simp,fun b _ hb=>Below.heap_setCell _ _ _ _ (by simpa using hb)⟩
theorem JAt.later {J:Nat} {sc:Bool} {left bh:Int} {w w':World} (h:JAt J sc left bh w) (hb:Below w.heap.size w w'):JAt J sc left bh w':=(hb.block J (bl h)).trans h
theorem JAt.c0 {J:Nat} {sc:Bool} {left bh:Int} {w:World} (h:JAt J sc left bh w):w.cell? ⟨J,0,none⟩=some (.bool sc):=ai h 0
theorem JAt.c1 {J:Nat} {sc:Bool} {left bh:Int} {w:World} (h:JAt J sc left bh w):w.cell? ⟨J,1,none⟩=some (.int .i64 left):=ai h 1
theorem JAt.c2 {J:Nat} {sc:Bool} {left bh:Int} {w:World} (h:JAt J sc left bh w):w.cell? ⟨J,2,none⟩=some (.int .i64 bh):=ai h 2
theorem D1 (J:Nat) (sc:Bool) (left bh aX:Int) (w:World) (h:JAt J sc left bh w) (h1:1<=left) (h2:left<=9223372036854775807) (hd:aX<=bh) :
  Calls Tryz.prog 115 #[.pointer (some ⟨J,0,none⟩),.int .i64 aX] w fun e w'=>e=.returned (.bool true)/\w'=w.setCell ⟨J,1,none⟩ (.int .i64 (left - 1)):=by
 have c1:=h.c1
 have c2:=h.c2
 have z1:=ae h 1
 have d1:decide (0<=left - 1)=true:=by simp;omega
 have d1':decide (1<=left)=true:=by simp;omega
 have d2:decide (aX<=bh)=true:=by simp;omega
 clear h
 exact pm163
theorem IE (J:Nat) (sc:Bool) (left bh aX:Int) (w:World) (h:JAt J sc left bh w) (h1:0<=left) (h2:left<=9223372036854775807) (hd:¬(1<=left/\aX<=bh)) :
  Calls Tryz.prog 115 #[.pointer (some ⟨J,0,none⟩),.int .i64 aX] w fun e w'=>e=.returned (.bool false)/\w'=w.setCell ⟨J,1,none⟩ (.int .i64 (left - 1)):=by
 have c1:=h.c1
 have c2:=h.c2
 have z1:=ae h 1
 clear h
 by_cases hl:1<=left
 ·have d1:decide (0<=left - 1)=true:=by simp;omega
  have d1':decide (1<=left)=true:=by simp;omega
  have d2:decide (aX<=bh)=false:=by simp;omega
  clear hd
  exact pm163
 ·have d1:decide (0<=left - 1)=false:=by simp;omega
  have d1':decide (1<=left)=false:=by simp;omega
  clear hd
  exact pm163
def Q8 (t:Tm):Prop:=∀ (ok:Nat->Prop) (J:Nat) (sc:Bool) (left bh aX:Int) (w:World) (q:TQ),TermV ok w q.val t->(∀ b,ok b->b≠J)->JAt J sc left bh w->0<=left->left<=9223372036854775807->bh<=9223372036854775807->1<=aX->aX+nodesT t<=100000000 →
 Calls Tryz.prog 122 #[.pointer (some ⟨J,0,none⟩),q.val,.int .i64 aX] w (JPost J sc left bh (nodesT t) (iX sc t && (decide ((nodesT t:Int)<=left) && decide (aX+cR t<=bh+1))) w)
theorem lQ {l:List Tm} {k:Nat} (h:k<l.length):ac (l.take (k+1))=ac (l.take k)+nodesT l[k]:=by
 induction l generalizing k with
 | nil=>simp at h
 | cons t l ih=>
  cases k with
  | zero=>simp[ac]
  | succ k=>have:=ih (k:=k) (by simpa using h);simp[ac]at this ⊢;omega
theorem ru {l:List Tm} {k:Nat} (h:k<l.length):bz (l.take (k+1))=max (bz (l.take k)) (cR l[k]):=by
 induction l generalizing k with
 | nil=>simp at h
 | cons t l ih=>
  cases k with
  | zero=>simp[bz]
  | succ k=>have:=ih (k:=k) (by simpa using h);simp[bz]at this ⊢;omega
theorem wV {sc:Bool} {l:List Tm} {k:Nat} (h:k<l.length):dO sc (l.take (k+1))=(dO sc (l.take k) && iX sc l[k]):=by
 induction l generalizing k with
 | nil=>simp at h
 | cons t l ih=>
  cases k with
  | zero=>simp[dO]
  | succ k=>have:=ih (k:=k) (by simpa using h);simp[dO]at this ⊢;rw[this,Bool.and_assoc]
theorem ii (l:List Tm) (k:Nat):ac (l.take k)<=ac l:=by
 induction l generalizing k with
 | nil=>simp
 | cons t l ih=>cases k with
  | zero=>simp[ac]
  | succ k=>have:=ih k;simp[ac];omega
theorem D2 {l:List Tm} {k:Nat} (h:k<l.length):cR l[k]<=bz l:=by
 induction l generalizing k with
 | nil=>simp at h
 | cons t l ih=>
  cases k with
  | zero=>simp[bz];omega
  | succ k=>have:=ih (k:=k) (by simpa using h);simp[bz];omega
theorem LO {sc:Bool} {l:List Tm} {k:Nat} (h:k<l.length) (hf:iX sc l[k]=false):dO sc l=false:=by
 induction l generalizing k with
 | nil=>simp at h
 | cons t l ih=>
  cases k with
  | zero=>simp at hf;simp[dO,hf]
  | succ k=>have:=ih (k:=k) (by simpa using h) (by simpa using hf);simp[dO,this]
theorem oz:∀ t,cR t<=nodesT t:=by
 intro t
 induction t using Tm.ind with
 | h v n a ih=>
  have:bz a<=ac a:=by
   clear v n
   induction a with
   | nil=>simp[bz,ac]
   | cons u l ih2=>
    have h1:=ih u (by simp)
    have h2:=ih2 (fun x hx=>ih x (by simp[hx]))
    simp[bz,ac];omega
  simp[cR,nodesT];omega
theorem rv (l:List Tm) (hl:∀ t∈l,Q8 t) (ok:Nat->Prop) (J:Nat) (sc:Bool) (left bh aX:Int) (w:World) (a:Option Addr) (n c:Nat) (hv:TermsV ok w (.slice a n c) l) (hok:∀ b,ok b->b≠J) (hJ:JAt J sc left bh w) (h0:0<=left) (h1:left<=9223372036854775807) (Li:bh<=9223372036854775807) (hd:1<=aX) (Q3:aX<=bh+1) (hn:aX+ac l<=100000000) :
  Calls Tryz.prog 118 #[.pointer (some ⟨J,0,none⟩),.slice a n c,.int .i64 aX] w (JPost J sc left bh (ac l) (dO sc l && (decide ((ac l:Int)<=left) && decide (aX+bz l<=bh+1))) w):=by
 have cq:=hv.len
 have mv:=gy l
 subst cq
 obtain ⟨k0,bO⟩:=ao l.length
 rw[<-bO]
 obtain ⟨HV,HK,HL,n8,HJ⟩:=vD hv bO hl hok hJ
 have iT:k0<=100000000:=by omega
 clear hv hl hok hJ bO
 go_enter Tryz.func118,Tryz.ntmps118
 go_wp2
 go_loopw [11] (fun i wr=>∃k:Nat,k<=k0/\i=.int .i64 k/\Kp (fun c=>c=J) w wr/\JAt J sc (left - ac (l.take k)) bh wr/\dO sc (l.take k)=true/\(ac (l.take k):Int)<=left/\aX+bz (l.take k)<=bh+1) (fun i _=>k0 - (intOf i).toNat)
 case atStart=>exact ⟨0,Nat.zero_le _,rfl,Kp.refl _,by simpa[ac] using HJ.o,by simp[dO],by simpa[ac] using h0,by simpa[bz] using Q3⟩
 case round=>
  obtain ⟨k,hk,rfl,aZ,hj,ha,hb,hc⟩:=hrel
  by_cases hlt:k<k0
  ·have bc:=bR HK.o hlt
   obtain ⟨b,off,u,rfl,gV,hu,c0,c1,c2⟩:=HV.o.get bc
   have pp244a:=();exact pm244
  ·obtain rfl:k=k0:=by omega
   have ht:l.take k=l:=by rw[HK.o];exact List.take_length
   rw[ht]at hj ha hb hc
   have jd:(dO sc l && (decide ((ac l:Int)<=left) && decide (aX+bz l<=bh+1)))=true:=by rw[ha];simp;omega
   obtain ⟨HF,wA,jA⟩:=cf jd hj aZ
   clear jd hj aZ ha hc ht
   go_wp2
   go_ret
   exact ⟨aA HF.o.symm,jA.o,_,wA.o,by omega,by omega,fun _=>rfl⟩
theorem JPost.no {J:Nat} {sc:Bool} {left bh l:Int} {n:Nat} {b:Bool} {w w':World} (hb:b=false) (hk:Kp (fun c=>c=J) w w') (hj:JAt J sc l bh w') (h1:-1<=l) (h2:l<=left):JPost J sc left bh n b w (.returned (.bool false)) w':=⟨by rw[hb],hk,l,hj,h1,h2,fun h=>by rw[hb]at h;cases h⟩
theorem JPost.yes {J:Nat} {sc:Bool} {left bh:Int} {n:Nat} {b:Bool} {w w':World} (hb:b=true) (hk:Kp (fun c=>c=J) w w') (hj:JAt J sc (left - n) bh w') (h1:(n:Int)<=left):JPost J sc left bh n b w (.returned (.bool true)) w':=⟨by rw[hb],hk,_,hj,by omega,by omega,fun _=>rfl⟩
theorem LP:∀ (t:Tm),fitT t->Q8 t:=by
 intro t
 induction t using Tm.ind with
 | h v n a ih=>
  intro aD ok J sc left bh aX w q hq hok hJ h0 h1 Li hd hn
  have pp197c:=();exact pm197
section
attribute [local go_sem] Oper.semAt_some
mutual
def jB:Fm->List Fm | .mk o n a s=>.mk o n a s :: dn s
def dn:List Fm->List Fm | []=>[] | t :: l=>jB t ++ dn l
end
theorem rx {l:List Fm} {k:Nat} (h:k<l.length):dn (l.take (k+1))=dn (l.take k) ++ jB l[k]:=by
 induction l generalizing k with
 | nil=>simp at h
 | cons t l ih=>
  cases k with
  | zero=>simp[dn]
  | succ k=>have:=ih (k:=k) (by simpa using h);simp[dn]at this ⊢;rw[this]
theorem oB:∀ l m,dn (l ++ m)=dn l ++ dn m
 | [],m=>rfl
 | t :: l,m=>by simp[dn,oB l m]
def nO (l:List Fm):Nat:=(l.map fun f=>1+ac f.a).sum
theorem lS (l m:List Fm):nO (l ++ m)=nO l+nO m:=by simp[nO]
mutual
theorem qC:∀ f,nO (jB f)=nodesF f
 | .mk o n a s=>by have:=uD s;simp[jB,nO,nodesF,Fm.a]at this ⊢;omega
theorem uD:∀ l,nO (dn l)=ah l
 | []=>rfl
 | t :: l=>by unfold dn;rw[lS,qC t,uD l];rfl
end
theorem O7 {l m:List Fm} (h:l <+: m):nO l<=nO m:=by obtain ⟨r,rfl⟩:=h;rw[lS];omega
def NAt (N:Nat) (k:Int) (w:World):Prop:=w.heap[N]?=some (.cells #[.int .i64 k] 3 (0,0))
theorem NAt.c0 {N:Nat} {k:Int} {w:World} (h:NAt N k w):w.cell? ⟨N,0,none⟩=some (.int .i64 k):=ai h 0
theorem NAt.later {N:Nat} {k:Int} {w w':World} (h:NAt N k w) (hb:Below w.heap.size w w'):NAt N k w':=(hb.block N (bl h)).trans h
theorem NAt.set {N:Nat} {k:Int} {w:World} (h:NAt N k w) (l:Int):NAt N l (w.setCell ⟨N,0,none⟩ (.int .i64 l)):=(aV h _).trans rfl
theorem NAt.kp {N J:Nat} {k:Int} {w w':World} (h:NAt N k w) (hk:Kp (fun c=>c=J) w w') (jt:N≠J):NAt N k w':=(hk.same N (bl h) jt).trans h
theorem Gl (N L:Nat) (Vh:N≠L) (k:Int) (w:World) (q:TQ) (hN:NAt N k w) (hL:NAt L 9223372036854775807 w) (h0:0<=k) (h1:k<=1000000000000) :
  Calls Tryz.prog 231 #[q.val,.pointer (some ⟨N,0,none⟩),.pointer (some ⟨L,0,none⟩)] w fun e w'=>e=.returned (.bool true)/\Kp (fun c=>c=N) w w'/\NAt N (k+1) w':=by
 obtain ⟨qv,qn,qa,ql,qc⟩:=q
 have hn:=(bl hN)
 have hl:=(bl hL)
 have hB:Below w.heap.size w (w.alloc (.cells #[.bool qv,.string qn,.slice qa ql qc] 43)):=ct
 have n1:=hN.later hB
 have l1:=hL.later hB
 have c0:=n1.c0
 have c1:=l1.c0
 have z0:=ae n1 0
 have cc0:=hN.c0
 have cc1:=hL.c0
 have zz0:=ae hN 0
 have n2:=(hN.set (k+1)).later ((Below.refl _ (w.setCell ⟨N,0,none⟩ (.int .i64 (k+1)))).alloc (Nat.le_refl _) (.cells #[.bool qv,.string qn,.slice qa ql qc] 43))
 have OG:=ab n2
 have d1:decide (k+1<=9223372036854775807)=true:=by simp;omega
 have O8:¬N=w.heap.size:=by omega
 have SF:¬L=w.heap.size:=by omega
 have zcx:¬L=N:=fun h=>Vh h.symm
 clear n2 hN hL n1 l1 hB
 unfold TQ.val
 go_enter Tryz.func231,Tryz.ntmps231
 go_wp2
 go_ret
 exact ⟨rfl,(mZ _).trans (Kp.below ct),OG.o⟩
abbrev cnt (N L:Nat):Value:=.func (.func 231) #[] #[.pointer (some ⟨N,0,none⟩),.pointer (some ⟨L,0,none⟩)]
def O9 (l:List Tm):Prop:=∀ (N L:Nat) (ok:Nat->Prop) (k:Int) (w:World) (a:Option Addr) (n c:Nat),N≠L->fitTs l->TermsV ok w (.slice a n c) l->(∀ b,ok b->b≠N)->NAt N k w->NAt L 9223372036854775807 w->0<=k->k+ac l<=1000000000000 →
 Calls Tryz.prog 230 #[.slice a n c,cnt N L] w fun e w'=>e=.returned (.bool true)/\Kp (fun c=>c=N) w w'/\NAt N (k+ac l) w'
theorem IF (l:List Tm) (ih:∀ t∈l,O9 t.a):O9 l:=by
 intro N L ok k w a n c Vh aD hl hok hN hL h0 h1
 obtain rfl:=hl.len
 have cq:=aD.len
 obtain ⟨k0,bO⟩:=ao l.length
 rw[<-bO]at cq ⊢
 obtain ⟨cY,HV,eM,HF,n8,HN,HL⟩:=Sp bO hl ih aD hok hN hL
 clear bO hl ih aD hok hN hL
 go_enter Tryz.func230,Tryz.ntmps230
 go_wp2
 go_loopw [9] (fun i wr=>∃j:Nat,j<=k0/\i=.int .i64 j/\Kp (fun c=>c=N) w wr/\NAt N (k+ac (l.take j)) wr) (fun i _=>k0 - (intOf i).toNat)
 case atStart=>exact ⟨0,Nat.zero_le _,rfl,Kp.refl _,by simpa[ac] using HN.o⟩
 case round=>
  obtain ⟨j,hj,rfl,aZ,hn⟩:=hrel
  by_cases hlt:j<k0
  ·have bc:=bR cY.o hlt
   obtain ⟨b,off,u,rfl,gV,hu,c0,c1,c2⟩:=HV.o.get bc
   have pp244b:=();exact pm244
  ·obtain rfl:j=k0:=by omega
   have ht:l.take j=l:=by rw[cY.o];exact List.take_length
   rw[ht]at hn
   have HH:=aF aZ hn
   clear aZ hn ht
   go_wp2
   go_ret
   exact ⟨rfl,HH.o.1,HH.o.2⟩
theorem LS:∀ t:Tm,O9 t.a:=by
 intro t
 induction t using Tm.ind with
 | h v n a ih=>exact IF a ih
theorem wX (l:List Tm):O9 l:=IF l (fun t _=>LS t)
def Q9 (M:Nat->Prop) (B:Nat) (W:World) (vs:Array Value) (x:Fm):Prop:=∃q:FQ,vs=#[q.val]/\FormV (fun b=>b<B/\¬M b) W q.val x
theorem FormV.kp {M:Nat->Prop} {B:Nat} {W W':World} {v:Value} {t:Fm} (h:FormV (fun b=>b<B/\¬M b) W v t) (hk:Kp M W W'):FormV (fun b=>b<B/\¬M b) W' v t:=h.move (fun b hb hlt=>⟨hb,hk.same b hlt hb.2⟩)
theorem TermV.kp {M:Nat->Prop} {B:Nat} {W W':World} {v:Value} {t:Tm} (h:TermV (fun b=>b<B/\¬M b) W v t) (hk:Kp M W W'):TermV (fun b=>b<B/\¬M b) W' v t:=h.move (fun b hb hlt=>⟨hb,hk.same b hlt hb.2⟩)
theorem TermsV.kp {M:Nat->Prop} {B:Nat} {W W':World} {v:Value} {t:List Tm} (h:TermsV (fun b=>b<B/\¬M b) W v t) (hk:Kp M W W'):TermsV (fun b=>b<B/\¬M b) W' v t:=h.move (fun b hb hlt=>⟨hb,hk.same b hlt hb.2⟩)
theorem FormsV.kp {M:Nat->Prop} {B:Nat} {W W':World} {v:Value} {t:List Fm} (h:FormsV (fun b=>b<B/\¬M b) W v t) (hk:Kp M W W'):FormsV (fun b=>b<B/\¬M b) W' v t:=h.move (fun b hb hlt=>⟨hb,hk.same b hlt hb.2⟩)
def YieldK {T:Type} (M:Nat->Prop) (l:Nat) (J:List T->World->Prop) (At:World->Array Value->T->Prop) (xs:List T) (W:World):Prop:=
 ∀ pre vs x W1,J pre W1->Kp M W W1->At W1 vs x->(pre ++ [x]) <+: xs->YieldAt Fence.wide 0 Tryz.prog l vs W1 fun e W'=>e=.returned (.bool true)/\J (pre ++ [x]) W'/\Kp M W1 W'
theorem YieldK.later {T:Type} {M:Nat->Prop} {l:Nat} {J:List T->World->Prop} {At:World->Array Value->T->Prop} {xs:List T} {W W':World} (h:YieldK M l J At xs W) (hk:Kp M W W'):YieldK M l J At xs W':=
 fun pre vs x W1 hj iT hat hp=>h pre vs x W1 hj (hk.trans iT) hat hp
theorem iC {T:Type} {a b c xs:List T} (h:(a ++ (b ++ c)) <+: xs):(a ++ b) <+: xs:=by
 obtain ⟨r,rfl⟩:=h;exact ⟨c ++ r,by simp⟩
theorem JO:∀ (f:Fm),fitF f->∀ (M:Nat->Prop) (B l:Nat) (J:List Fm->World->Prop) (xs pre:List Fm) (W:World) (q:FQ),(∀ b,M b->b<W.heap.size)->(∀ s,Abides W.heap.size (J s))->YieldK M l J (Q9 M B) xs W->FormV (fun b=>b<B/\¬M b) W q.val f->(pre ++ jB f) <+: xs->J pre W →
  Calls Tryz.prog 151 #[q.val,.func (.yield l) #[] #[]] W fun e W'=>e=.returned (.bool true)/\J (pre ++ jB f) W'/\Kp M W W':=by
 intro t
 induction t using Fm.ind with
 | h o n a s ih=>
  intro aD M B l J xs pre W q hM hJ hY hq cV hj
  have Gm:=hq
  have pp23b:=();exact pm23
theorem eE {l:List Tm} {k:Nat} (h:k<l.length):ar (l.take (k+1))=ar (l.take k) ++ aI l[k]:=by
 induction l generalizing k with
 | nil=>simp at h
 | cons t l ih=>
  cases k with
  | zero=>simp[ar]
  | succ k=>have:=ih (k:=k) (by simpa using h);simp[ar]at this ⊢;rw[this]
theorem fh:∀ l m,ar (l ++ m)=ar l ++ ar m
 | [],m=>rfl
 | t :: l,m=>by simp[ar,fh l m]
def wY (_:World) (vs:Array Value) (x:Str):Prop:=vs=#[.string ⟨x.toArray⟩]
theorem zT:∀ (t:Tm),fitT t->∀ (M:Nat->Prop) (B l:Nat) (J:List Str->World->Prop) (xs pre:List Str) (W:World) (q:TQ),(∀ b,M b->b<W.heap.size)->(∀ s,Abides W.heap.size (J s))->YieldK M l J wY xs W->TermV (fun b=>b<B/\¬M b) W q.val t->(pre ++ aI t) <+: xs->J pre W →
  Calls Tryz.prog 214 #[q.val,.func (.yield l) #[] #[]] W fun e W'=>e=.returned (.bool true)/\J (pre ++ aI t) W'/\Kp M W W':=by
 intro t
 induction t using Tm.ind with
 | h v n a ih=>
  intro aD M B l J xs pre W q hM hJ hY hq cV hj
  obtain ⟨qv,qn,qa,ql,qc⟩:=q
  obtain ⟨sa,hs,bD⟩:=aP.1 hq
  have pp35d:=();exact pm35
theorem zU (q:TQ) (w:World) :
  Calls Tryz.prog 220 #[q.val] w fun e w'=>e=.returned (.func (.func 270) #[] #[.pointer (some ⟨w.heap.size,0,none⟩)])/\w'=w.alloc (.cells #[.bool q.v,.string q.n,.slice q.a q.l q.c] 43):=by
 obtain ⟨v,n,a,l,c⟩:=q
 unfold TQ.val
 go_enter Tryz.func220,Tryz.ntmps220
 go_wp2
 go_ret
 exact ⟨rfl,rfl⟩
theorem zV (t:Tm) (aD:fitT t) (M:Nat->Prop) (B X:Nat) (w:World) (q:TQ) (hX:w.heap[X]?=some (.cells #[.bool q.v,.string q.n,.slice q.a q.l q.c] 43 (0,0))) (FP:¬M X) (hq:TermV (fun b=>b<B/\¬M b) w q.val t) :
  Gb M False Tryz.prog 270 #[.pointer (some ⟨X,0,none⟩)] (aI t) wY w:=by
 have pp232a:=();exact pm232
end
end Go.Proofs.YtokemihbkeddoaaGreatDoor
