/-
Rows of what metavariables stand for that a call makes,element by element.
-/
import Derived.Test.YtokemihbkeddoaaGreatDoorU11
namespace Go.Proofs.YtokemihbkeddoaaGreatDoor
open Go Go.RowKit Lib
set_option maxRecDepth 100000
set_option maxHeartbeats 64000000
variable {g lo cap R F:Nat} {v row:Value} {W W' W1 w4 wr A:World} {x:Str} {t:Fm} {T:TypeId} {o:Obj}
theorem GK {w:World} {base size n c:Nat} {e:TypeId} {xs:List Value} (h:w.ownsRow base e size (.slice (some ⟨g,0,none⟩) n c) n xs):n<=c:=by
 exact pm163
def BF (e:Str×FQ):List Value:=.string ⟨e.1.toArray⟩ :: e.2.cells
theorem V7 (es:List (Str×FQ)):∀ j (h:j<es.length),(es.flatMap BF)[j * 5]?=some (.string ⟨es[j].1.toArray⟩)/\(es.flatMap BF)[j * 5+1]?=some (.int .u8 es[j].2.o)/\(es.flatMap BF)[j * 5+2]?=some (.string es[j].2.n)/\(es.flatMap BF)[j * 5+3]?=some (.slice es[j].2.a es[j].2.l es[j].2.c)/\(es.flatMap BF)[j * 5+4]?=some (.slice es[j].2.b es[j].2.m es[j].2.e):=by
 induction es with
 | nil=>intro j h;simp at h
 | cons q es ih=>
  intro j h
  cases j with
  | zero=>simp[BF,FQ.cells]
  | succ j=>
   have:=ih j (by simpa using h);simp only[List.flatMap_cons,BF,FQ.cells,ky,pf];rw[show (j+1) * 5=j * 5+1+1+1+1+1 by omega,show j * 5+1+1+1+1+1+1=(j * 5+1)+1+1+1+1+1 by omega,show j * 5+1+1+1+1+1+2=(j * 5+2)+1+1+1+1+1 by omega,show j * 5+1+1+1+1+1+3=(j * 5+3)+1+1+1+1+1 by omega,show j * 5+1+1+1+1+1+4=(j * 5+4)+1+1+1+1+1 by omega];simpa[BF,FQ.cells] using this
def RowFB (lo:Nat) (v:Value) (l:List (Str×Fm)) (W:World):Prop:=
 ∃es:List (Str×FQ),es.length=l.length/\W.ownsRow lo 40 5 v l.length (es.flatMap BF)/\∀ j (h:j<es.length) (h2:j<l.length),es[j].1=l[j].1/\FormV (fun b=>lo<=b/\v.ownBlock≠some b) W es[j].2.val l[j].2
theorem RowFB.nil (lo:Nat) (W:World):RowFB lo (.slice none 0 0) [] W:=⟨[],rfl,World.ownsRow_nil _ _ _ _,fun j h=>by simp at h⟩
theorem RowFB.slice {ts:List (Str×Fm)} (h:RowFB lo v ts W):∃a c,v=.slice a ts.length c:=by
 obtain ⟨es,_,ho,_⟩:=h;exact pm177
theorem RowFB.held {ts:List (Str×Fm)} (h:RowFB lo v ts W) (hb:∀ b,lo<=b->b<W.heap.size->W'.heap[b]?=W.heap[b]?):RowFB lo v ts W':=by
 exact pm207
theorem RowFB.below {ts:List (Str×Fm)} (h:RowFB lo v ts W) (hb:Below W.heap.size W W'):RowFB lo v ts W':=h.held (fun b _ hlt=>hb.block b hlt)
theorem RowFB.binds {ts:List (Str×Fm)} (h:RowFB lo v ts W):FBindsV (lo<=·) W v ts:=by
 obtain ⟨es,hk,ho,ht⟩:=h;rcases eH ho with ⟨rfl,h0⟩ | ⟨g,cap,rfl,hg,_⟩
 ·obtain rfl:=jk h0;exact ⟨none,0,fun _=>⟨0,⟨#[]⟩,none,0,0,none,0,0⟩,rfl,aI _,.inl rfl,fun j hj=>by simp at hj⟩
 ·refine ⟨_,cap,fun j=>if h:j<es.length then es[j].2 else ⟨0,⟨#[]⟩,none,0,0,none,0,0⟩,rfl,GK ho,.inr ⟨g,0,rfl,hg,fun j hj=>?_⟩,fun j hj=>?_⟩
  ·have oJ:j<es.length:=by omega
   obtain ⟨c0,c1,c2,c3,c4⟩:=V7 es j oJ;have pp175:=();exact pm175
  ·have oJ:j<es.length:=by omega
   simp only[dif_pos oJ];exact (ht j oJ hj).2.move (fun b hok _=>⟨hok.1,rfl⟩)
theorem RowFB.step {ts:List (Str×Fm)} {qs:List (Str×FQ)} {q:FQ} (hk:qs.length=ts.length) (hb:Below W.heap.size W W1) (hlo:lo<=W.heap.size)
  (ht:∀ j (h:j<qs.length) (h2:j<ts.length),qs[j].1=ts[j].1/\FormV (fun b=>lo<=b/\v.ownBlock≠some b) W qs[j].2.val ts[j].2) (hv:∀ b,v.ownBlock=some b->b<W.heap.size)
  (hq:FormV (W.heap.size<=·) W1 q.val t) (aR:w4.ownsRow lo 40 5 (.slice (some ⟨g,0,none⟩) (ts.length+1) cap) (ts.length+1) (qs.flatMap BF ++ BF (x,q)))
  (hold:∀ c,lo<=c->c<W1.heap.size->v.ownBlock≠some c->w4.heap[c]?=W1.heap[c]?) (hg:v.ownBlock=some g\/W1.heap.size<=g) :
  RowFB lo (.slice (some ⟨g,0,none⟩) (ts.length+1) cap) (ts ++ [(x,t)]) w4:=by
 exact pm42
theorem Fills.stepFB {mk:Value->Array Value} {ts:List (Str×Fm)} {qs:List (Str×FQ)} {p:FQ}
  (h:Fills T R lo mk (fun r=>RowFB lo r ts) W1 wr row) (au:wr.ownsRow lo 40 5 row ts.length (qs.flatMap BF)) (et:qs.length=ts.length) (gp:∀ j (h:j<qs.length) (h2:j<ts.length),qs[j].1=ts[j].1/\FormV (fun b=>lo<=b/\row.ownBlock≠some b) wr qs[j].2.val ts[j].2)
  (hA:Below wr.heap.size wr A) (hp:FormV (wr.heap.size<=·) A p.val t)
  (aR:w4.ownsRow lo 40 5 (.slice (some ⟨g,0,none⟩) (ts.length+1) cap) (ts.length+1) (qs.flatMap BF ++ BF (x,p))) (ao:(A.alloc o).grownBy w4 row.ownBlock) (hg:row.ownBlock=some g\/g=A.heap.size+1)
  (wa:(mk row).setIfInBounds F (.slice (some ⟨g,0,none⟩) (ts.length+1) cap)=mk (.slice (some ⟨g,0,none⟩) (ts.length+1) cap)) :
  Fills T R lo mk (fun r=>RowFB lo r (ts ++ [(x,t)])) W1 (w4.setCell ⟨R,F,none⟩ (.slice (some ⟨g,0,none⟩) (ts.length+1) cap)) (.slice (some ⟨g,0,none⟩) (ts.length+1) cap):=by
 have pp84c:=();exact pm84
theorem Jn:(Tryz.prog.info? 40).map (fun i=>(i.zero,i.size,i.bytes))=some (some (.agg #[.string ByteArray.empty,.int .u8 0,.string ByteArray.empty,.slice none 0 0,.slice none 0 0]),5,88):=by kernel_rfl
def BT (e:Str×TQ):List Value:=.string ⟨e.1.toArray⟩ :: e.2.cells
theorem V8 (es:List (Str×TQ)):∀ j (h:j<es.length),(es.flatMap BT)[j * 4]?=some (.string ⟨es[j].1.toArray⟩)/\(es.flatMap BT)[j * 4+1]?=some (.bool es[j].2.v)/\(es.flatMap BT)[j * 4+2]?=some (.string es[j].2.n)/\(es.flatMap BT)[j * 4+3]?=some (.slice es[j].2.a es[j].2.l es[j].2.c):=by
 induction es with
 | nil=>intro j h;simp at h
 | cons q es ih=>
  intro j h
  cases j with
  | zero=>simp[BT,TQ.cells]
  | succ j=>
   have:=ih j (by simpa using h);simp only[List.flatMap_cons,BT,TQ.cells,ky,pf];exact pm160
def RowTB (lo:Nat) (v:Value) (l:List (Str×Tm)) (W:World):Prop:=
 ∃es:List (Str×TQ),es.length=l.length/\W.ownsRow lo 47 4 v l.length (es.flatMap BT)/\∀ j (h:j<es.length) (h2:j<l.length),es[j].1=l[j].1/\TermV (fun b=>lo<=b/\v.ownBlock≠some b) W es[j].2.val l[j].2
theorem RowTB.nil (lo:Nat) (W:World):RowTB lo (.slice none 0 0) [] W:=⟨[],rfl,World.ownsRow_nil _ _ _ _,fun j h=>by simp at h⟩
theorem RowTB.slice {ts:List (Str×Tm)} (h:RowTB lo v ts W):∃a c,v=.slice a ts.length c:=by
 obtain ⟨es,_,ho,_⟩:=h;exact pm177
theorem RowTB.held {ts:List (Str×Tm)} (h:RowTB lo v ts W) (hb:∀ b,lo<=b->b<W.heap.size->W'.heap[b]?=W.heap[b]?):RowTB lo v ts W':=by
 exact pm207
theorem RowTB.below {ts:List (Str×Tm)} (h:RowTB lo v ts W) (hb:Below W.heap.size W W'):RowTB lo v ts W':=h.held (fun b _ hlt=>hb.block b hlt)
theorem RowTB.binds {ts:List (Str×Tm)} (h:RowTB lo v ts W):TBindsV (lo<=·) W v ts:=by
 obtain ⟨es,hk,ho,ht⟩:=h;rcases eH ho with ⟨rfl,h0⟩ | ⟨g,cap,rfl,hg,_⟩
 ·obtain rfl:=jk h0;exact ⟨none,0,fun _=>⟨false,⟨#[]⟩,none,0,0⟩,rfl,aI _,.inl rfl,fun j hj=>by simp at hj⟩
 ·refine ⟨_,cap,fun j=>if h:j<es.length then es[j].2 else ⟨false,⟨#[]⟩,none,0,0⟩,rfl,GK ho,.inr ⟨g,0,rfl,hg,fun j hj=>?_⟩,fun j hj=>?_⟩
  ·have oJ:j<es.length:=by omega
   obtain ⟨c0,c1,c2,c3⟩:=V8 es j oJ;exact pm175
  ·have oJ:j<es.length:=by omega
   simp only[dif_pos oJ];exact (ht j oJ hj).2.move (fun b hok _=>⟨hok.1,rfl⟩)
theorem RowTB.step {ts:List (Str×Tm)} {t:Tm} {qs:List (Str×TQ)} {q:TQ} (hk:qs.length=ts.length) (hb:Below W.heap.size W W1) (hlo:lo<=W.heap.size)
  (ht:∀ j (h:j<qs.length) (h2:j<ts.length),qs[j].1=ts[j].1/\TermV (fun b=>lo<=b/\v.ownBlock≠some b) W qs[j].2.val ts[j].2) (hv:∀ b,v.ownBlock=some b->b<W.heap.size)
  (hq:TermV (W.heap.size<=·) W1 q.val t) (aR:w4.ownsRow lo 47 4 (.slice (some ⟨g,0,none⟩) (ts.length+1) cap) (ts.length+1) (qs.flatMap BT ++ BT (x,q)))
  (hold:∀ c,lo<=c->c<W1.heap.size->v.ownBlock≠some c->w4.heap[c]?=W1.heap[c]?) (hg:v.ownBlock=some g\/W1.heap.size<=g) :
  RowTB lo (.slice (some ⟨g,0,none⟩) (ts.length+1) cap) (ts ++ [(x,t)]) w4:=by
 exact pm42
theorem Fills.stepTB {mk:Value->Array Value} {ts:List (Str×Tm)} {t:Tm} {qs:List (Str×TQ)} {p:TQ}
  (h:Fills T R lo mk (fun r=>RowTB lo r ts) W1 wr row) (au:wr.ownsRow lo 47 4 row ts.length (qs.flatMap BT)) (et:qs.length=ts.length) (gp:∀ j (h:j<qs.length) (h2:j<ts.length),qs[j].1=ts[j].1/\TermV (fun b=>lo<=b/\row.ownBlock≠some b) wr qs[j].2.val ts[j].2)
  (hA:Below wr.heap.size wr A) (hp:TermV (wr.heap.size<=·) A p.val t)
  (aR:w4.ownsRow lo 47 4 (.slice (some ⟨g,0,none⟩) (ts.length+1) cap) (ts.length+1) (qs.flatMap BT ++ BT (x,p))) (ao:(A.alloc o).grownBy w4 row.ownBlock) (hg:row.ownBlock=some g\/g=A.heap.size+1)
  (wa:(mk row).setIfInBounds F (.slice (some ⟨g,0,none⟩) (ts.length+1) cap)=mk (.slice (some ⟨g,0,none⟩) (ts.length+1) cap)) :
  Fills T R lo mk (fun r=>RowTB lo r (ts ++ [(x,t)])) W1 (w4.setCell ⟨R,F,none⟩ (.slice (some ⟨g,0,none⟩) (ts.length+1) cap)) (.slice (some ⟨g,0,none⟩) (ts.length+1) cap):=by
 exact pm84
theorem Jo:(Tryz.prog.info? 47).map (fun i=>(i.zero,i.size,i.bytes))=some (some (.agg #[.string ByteArray.empty,.bool false,.string ByteArray.empty,.slice none 0 0]),4,64):=by kernel_rfl
end Go.Proofs.YtokemihbkeddoaaGreatDoor
namespace Go.Proofs
open Go.RowKit Go.Maps Go.Sort Go.Shelf
shelf_lay_g SlLaysZ.n7 Ggz 7 at Tryz 104 as Tryz.keysF
shelf_lay_g SlLaysZ.n7 Ggz 7 at Tryz 105 as Tryz.keysT
end Go.Proofs
namespace Go.Proofs.YtokemihbkeddoaaGreatDoor
open Go Go.RowKit Go.Maps Go.Sort Go.Shelf
theorem Mb (mb:Option Nat) (W:World):Calls Tryz.prog 104 #[.map mb] W fun e w'=>e=.returned (.func (.func 169) #[] #[.pointer (some ⟨W.heap.size,0,none⟩)])/\w'=W.alloc (.cells #[.map mb] 145):=
 aK.1 (AnyZ.keys_in Tryz.keysF Fence.wide 5 trivial rfl mb W)
theorem Mc (mb:Option Nat) (W:World):Calls Tryz.prog 105 #[.map mb] W fun e w'=>e=.returned (.func (.func 170) #[] #[.pointer (some ⟨W.heap.size,0,none⟩)])/\w'=W.alloc (.cells #[.map mb] 146):=
 aK.1 (AnyZ.keys_in Tryz.keysT Fence.wide 5 trivial rfl mb W)
theorem iz:∀ {l:List Str},dz l=true->Up l
 | [],_=>List.Pairwise.nil
 | x :: l,h=>by
  obtain ⟨h1,h2⟩:=mz.1 h;have h3:=iz h2;refine List.pairwise_cons.2 ⟨fun y hy=>?_,h3⟩
  cases l with
  | nil=>cases hy
  | cons z l=>
   have h4:=h1 z rfl;rcases cY.1 hy with rfl | hy
   ·exact h4
   ·exact s8 _ _ _ h4 ((List.pairwise_cons.1 h3).1 y hy)
theorem Ev {l:List Str} (h:Up l):dF l=l:=In _ _ (rY l) h (fun x=>dH x l)
theorem GL {V:Value->Fm->Prop} (m n:Nat) (l:List (Str×Fm)) (hn:n<=3000000) (hup:Up (l.map (·.1))) (W:World) (hs:MapV Tryz.prog 9 V W m n l) :
  Calls Tryz.prog 74 #[.func (.func 169) #[] #[.pointer (some ⟨W.heap.size,0,none⟩)]] (W.alloc (.cells #[.map (some m)] 145)) fun e w'=>∃v,e=.returned v/\RowS W.heap.size w' v (l.map (·.1))/\RowKit.Below W.heap.size W w':=by
 obtain ⟨D0,au,hx⟩:=hs;have Io:=au.lt;have hsz:=au.size_le;have nH:SeqGives Fence.wide 2 Tryz.prog 169 #[.pointer (some ⟨W.heap.size,0,none⟩)] encStr (fun ss=>ss.Perm (strKeys D0)) (Maps.size D0) (W.alloc (.cells #[.map (some m)] 145)):=
  AnyZ.keys_gives (ρ:=Tryz.keysF_ren) { Tryz.keysF with } Fence.wide _ trivial rfl (by omega) W.heap.size m n D0 _ (by simp) (by simp) (au.alloc _)
 have cS:=AnyZ.sorted_in Tryz.sortedA Fence.wide 5 trivial trivial trivial trivial rfl (by omega) (Tryz.sortsA _) (enters_of Tryz.func134 (by kernel_rfl) rfl) 169 #[.pointer (some ⟨W.heap.size,0,none⟩)] trivial (enters_of Tryz.func169 (by kernel_rfl) rfl) _ _ (by unfold maxLen;omega) (by omega) _ nH;exact pm27
theorem GM {V:Value->Tm->Prop} (m n:Nat) (l:List (Str×Tm)) (hn:n<=3000000) (hup:Up (l.map (·.1))) (W:World) (hs:MapV Tryz.prog 9 V W m n l) :
  Calls Tryz.prog 74 #[.func (.func 170) #[] #[.pointer (some ⟨W.heap.size,0,none⟩)]] (W.alloc (.cells #[.map (some m)] 146)) fun e w'=>∃v,e=.returned v/\RowS W.heap.size w' v (l.map (·.1))/\RowKit.Below W.heap.size W w':=by
 obtain ⟨D0,au,hx⟩:=hs;have Io:=au.lt;have hsz:=au.size_le;have nH:SeqGives Fence.wide 2 Tryz.prog 170 #[.pointer (some ⟨W.heap.size,0,none⟩)] encStr (fun ss=>ss.Perm (strKeys D0)) (Maps.size D0) (W.alloc (.cells #[.map (some m)] 146)):=
  AnyZ.keys_gives (ρ:=Tryz.keysT_ren) { Tryz.keysT with } Fence.wide _ trivial rfl (by omega) W.heap.size m n D0 _ (by simp) (by simp) (au.alloc _)
 have cS:=AnyZ.sorted_in Tryz.sortedA Fence.wide 5 trivial trivial trivial trivial rfl (by omega) (Tryz.sortsA _) (enters_of Tryz.func134 (by kernel_rfl) rfl) 170 #[.pointer (some ⟨W.heap.size,0,none⟩)] trivial (enters_of Tryz.func170 (by kernel_rfl) rfl) _ _ (by unfold maxLen;omega) (by omega) _ nH;exact pm27
end Go.Proofs.YtokemihbkeddoaaGreatDoor
namespace Go.Proofs.YtokemihbkeddoaaGreatDoor
open Go Go.RowKit Go.Maps Go.Sort Go.Shelf
variable {α:Type} {X:World} {B:Nat} {c0 c1:Value} {T:TypeId}
attribute [local go_sem] Oper.semAt_some
theorem MapV.len {k:TypeId} {V:Value->α->Prop} {W:World} {m n:Nat} {l:List (Str×α)} (hk:Tryz.prog.underlying k=some .string) (h:MapV Tryz.prog k V W m n l) (hup:Up (l.map (·.1))):l.length<=n:=by
 obtain ⟨D0,au,hx⟩:=h;obtain ⟨es,hD,UZ,_⟩:=au.entries (Maps.string_keyed hk);obtain ⟨Q6,NE,U0⟩:=au.keysOf;obtain rfl:es=Q6:=by rw[hD]at NE;simpa using NE
 have hsz:=au.size_le;have mZ:(dF (l.map (·.1))).Perm (strKeys D0):=by
  rw[hD];refine perm_strKeys UZ (fun p hp=>by obtain ⟨v,hv⟩:=U0 p hp;obtain ⟨x,_,hx,_⟩:=Maps.keyOf_str hk hv;exact ⟨x,hx⟩) (fW (rY _)) (fun x=>?_);rw[dH,<-hD]
  cases hg:getB l x with
  | none=>rw[(hx x).1 hg];simp only[dE,iff_false];exact (gG l x).1 hg
  | some a=>
   have h1:x∈l.map (·.1):=by
    by_cases h:x∈l.map (·.1)
    ·exact h
    ·rw[(gG l x).2 h]at hg;cases hg
   exact ⟨fun _=>((hx x).2 a hg).1,fun _=>h1⟩
 have h1:=mZ.length_eq;rw[Ev hup]at h1;have h2:(strKeys D0).length<=Maps.size D0:=by
  rw[hD];simp only[strKeys,Maps.size];simp
 simp at h1;omega
theorem sB (hx:X.heap[B]?=some (.cells #[c0,c1] T (0,0))):X.cell? ⟨B,0,none⟩=some c0/\X.cell? ⟨B,1,none⟩=some c1/\X.frozen? ⟨B,0,none⟩=false/\X.frozen? ⟨B,1,none⟩=false:=
 ⟨ai hx 0,ai hx 1,af hx 0,af hx 1⟩
theorem By (hx:X.heap[B]?=some (.cells #[c0,c1] T (0,0))) (v0 v1:Value):∃W6,W6=(X.setCell ⟨B,0,none⟩ v0).setCell ⟨B,1,none⟩ v1/\W6.heap[B]?=some (.cells #[v0,v1] T (0,0))/\Kp (fun b=>b=B) X W6/\W6.cell? ⟨B,0,none⟩=some v0/\W6.cell? ⟨B,1,none⟩=some v1:=by
 have h0:=bq (F:=0) hx v0;have h1:=(bq (F:=1) h0 v1).trans rfl;exact ⟨_,rfl,h1,⟨rfl,rfl,rfl,by simp,fun c _ hc=>(ei _ _ _ _ (by simpa using hc)).trans (ei _ _ _ _ (by simpa using hc))⟩,ai h1 0,ai h1 1⟩
theorem xQ {l:List (Str×α)} (h:(l.map (·.1)).Nodup) {j:Nat} (hj:j<l.length):getB l l[j].1=some l[j].2:=by
 have h1:=vw h hj l[j].1;rw[aH rfl]at h1;have h2:∀ (a b:List (Str×α)) (x:Str) (v:α),getB a x=some v->getB (a ++ b) x=some v:=by
  intro a b x v ha
  induction a with
  | nil=>cases ha
  | cons z a ih=>
   obtain ⟨z1,z2⟩:=z;simp only[ky,getB]at ha ⊢
   by_cases hz:(z1 == x)=true
   ·simpa[hz] using ha
   ·simp only[hz]at ha ⊢;exact ih ha
 have h3:=h2 _ (l.drop (j+1)) _ _ h1
 rwa [List.take_append_drop]at h3
theorem GN (k:Bd) (hv:bL k=true) (PF:Fm->Prop) (PT:Tm->Prop) (ZX:∀ f,PF f->fitF f) (TA:∀ t,PT t->fitT t) (ok:Nat->Prop) (w:World) (kb mF mT nF nT:Nat) (dS:KnV ok PF PT w kb mF mT nF nT k) (qY:nF<=3000000) (pE:nT<=3000000) :
  Calls Tryz.prog 50 #[.pointer (some ⟨kb,0,none⟩)] w fun e w'=>(∃q:BQ,e=.returned q.val/\BindV (w.heap.size<=·) w' q k)/\Below w.heap.size w w':=by
 obtain ⟨o6,hi,xH,uU,yi⟩:=info_parts Jn;obtain ⟨Lr,hq,V9,M0,hqc⟩:=info_parts Jo;have jd:=hv;simp only[bL,ah,List.all_eq_true]at jd;have huF:=iz jd.2.1;have huT:=iz jd.2.2;have hlF:=dS.fs.len Tryz.underlying9 huF;have hlT:=dS.ts.len Tryz.underlying9 huT;obtain ⟨n1,dX⟩:=am k.fs.length;obtain ⟨n2,ku⟩:=am k.ts.length;have LQ:n1<=3000000:=by omega
 have Rn:n2<=3000000:=by omega
 have HN:=aG dX ku;have HP:=cC (fW huF) (fW huT) ZX TA;have Ih:=aG (show ∀ x∈k.fs,x.1.length<=2000000 from fun x hx=>by have:=su (jd.1.1 x hx).1;omega) (show ∀ x∈k.ts,x.1.length<=2000000 from fun x hx=>by have:=fA (jd.1.2 x hx).1;omega);obtain ⟨W2,bm⟩:=am ((w.alloc (.cells #[.slice none 0 0,.slice none 0 0] 26)).alloc (.cells #[.slice none 0 0,.slice none 0 0] 26));have bD:=lF bm;have ig:=wW bm;have x0:=sQ bm;have x1:=jA bm;have eS:=dS.later bD;have k0:=ai eS.box 0;have CK:=GL mF nF k.fs qY huF W2 eS.fs;have OA:=ae (fun (V:World) (m n:Nat) (hs:MapV Tryz.prog 9 (TermK ok PT V) V m n k.ts) (h:n<=3000000)=>GM m n k.ts h huT V hs);have Yu:=ae CK;have H2:=cC bD ig x0 x1;have Hr:=ae dS;have HNB:=aG qY pE;have gK:=ae bm;rw[bm]at k0;clear hv jd huF huT hlF hlT ZX TA dS bD ig x0 x1 eS CK bm qY pE dX ku;go_enter Tryz.func50,Tryz.ntmps50;go_wp2_with (first | (go_at_call 104;rw[<-gK.o];refine (Mb _ _).mono ?_;rintro e w4 ⟨rfl,rfl⟩) | (go_at_call 74;refine Yu.o.mono ?_;rintro e w5 ⟨v5,rfl,Lw,bj⟩;obtain ⟨ka,kc,rfl⟩:=Lw.strs.slice;have H5:=aG Lw bj;clear Lw bj));obtain ⟨W3,ec⟩:=am w5;obtain ⟨RQ,wn⟩:=a_ H5.o.1.strs H5.o.2;clear H5;rw[List.length_map,<-HN.o.1]at RQ;rw[<-HN.o.1];rw[<-ec]at RQ wn ⊢;clear ec w5;have zal:Below w.heap.size w W3:=H2.o.1.tr wn.o;have M7:=bR wn.o H2.o.2.2.2;have x03:=bR wn.o H2.o.2.2.1;have V_:=ae (Fills.start (R:=w.heap.size+1) (mk:=fun rr=>#[rr,.slice none 0 0]) (Row:=fun r W=>RowFB W3.heap.size r (k.fs.take 0) W) M7 (RowFB.nil _ _));have Ln:=ae x03;have H3:=bG zal RQ.o H2.o.2.1;clear zal M7 x03 RQ;go_loopw [15] (fun i wr=>∃j:Nat,j<=n1/\i=.int .i64 j/\∃row,Fills 26 (w.heap.size+1) W3.heap.size (fun rr=>#[rr,.slice none 0 0]) (fun r W=>RowFB W3.heap.size r (k.fs.take j) W) W3 wr row) (fun i _=>n1 - (intOf i).toNat)
 case atStart=>exact ⟨0,bc _,rfl,_,V_.o⟩
 case round=>
  obtain ⟨j,hj,rfl,row,hF⟩:=hrel;have ar:=hF.below H3.o.1 (by omega)
  by_cases hlt:j<n1
  ·have dy:j<k.fs.length:=by rw[<-HN.o.1];exact hlt
   have dS:j<(k.fs.map (·.1)).length:=by simpa using dy
   obtain ⟨bk,LN,rfl,OW,ck⟩:=H3.o.2.1.get dS;obtain ⟨nm,dG⟩:=am (k.fs[j].1);simp only[List.getElem_map,<-dG]at ck;have Ht:=xQ HP.o.1 dy;rw[<-dG]at Ht;have OX:Kp (fun b=>b=w.heap.size+1) W3 wr:=hF.kp;have OY:bk≠w.heap.size+1:=by have:=H3.o.2.2;omega
   have dk:=OX.cell (a:=⟨bk,LN+j,none⟩) OY ck;have iO:=Hr.o.later ar;rcases iO.fs.look Tryz.underlying9 Tryz.underlying145 lD (x:=nm) (by rw[dG];exact Ih.o.1 _ (aA dy)) with ⟨hg,_⟩ | ⟨g,vg,hg,hvg,hlk⟩
   ·rw[Ht]at hg;cases hg
   rw[Ht]at hg;obtain rfl:k.fs[j].2=g:=by injection hg
   obtain ⟨⟨g0,g1,g2,g3,g4,g5,g6,g7⟩,rfl,ot,Gm⟩:=hvg;simp only[FQ.val]at hlk;have ct:(k.fs.take j).length=j:=by rw[dM];omega
   have pp219:=();exact pm219
  ·obtain rfl:n1=j:=by omega
   have ct:(k.fs.take n1).length=n1:=by rw[dM];have:=HN.o;omega
   have jG:k.fs.take n1=k.fs:=f8 (by have:=HN.o;omega);obtain ⟨fra,frc,rfl⟩:=hF.row.slice;rw[ct]at hF;rw[jG]at hF;have HRF:=ae hF.row;have iO:=Hr.o.later ar;have xb:=hF.box;have kpF:=hF.kp;have zam:=hF.size;obtain ⟨wo,IJ⟩:=am wr;subst IJ;have k1:=ai iO.box 1;have zcq:=ae (OA.o wo mT nT iO.ts HNB.o.2);have HO:=cC ar xb kpF zam;clear ar iO xb kpF zam hF ct jG;go_wp2_with (first | (go_at_call 105;refine (Mc _ _).mono ?_;rintro e w4 ⟨rfl,rfl⟩) | (go_at_call 74;refine zcq.o.mono ?_;rintro e w5 ⟨v5,rfl,Lw,bj⟩;obtain ⟨kta,ktc,rfl⟩:=Lw.strs.slice;have H5:=aG Lw bj;clear Lw bj));clear k1;obtain ⟨W6,da⟩:=am w5;obtain ⟨RQ,GO⟩:=a_ H5.o.1.strs H5.o.2;clear H5;rw[List.length_map,<-HN.o.2]at RQ;rw[<-HN.o.2];rw[<-da]at RQ GO ⊢;clear da w5;have zan:Below w.heap.size w W6:=HO.o.1.tr GO.o;have QO:=bR GO.o HO.o.2.1;have Wc:=ae (Fills.start (R:=w.heap.size+1) (mk:=fun rr=>#[.slice fra n1 frc,rr]) (Row:=fun r W=>RowTB W6.heap.size r (k.ts.take 0) W) QO (RowTB.nil _ _));have H6:=bG zan RQ.o (show w.heap.size+1<wo.heap.size from (bz HO.o.2.1));clear zan QO RQ;go_loopw [41] (fun i wr=>∃j:Nat,j<=n2/\i=.int .i64 j/\∃row,Fills 26 (w.heap.size+1) W6.heap.size (fun rr=>#[.slice fra n1 frc,rr]) (fun r W=>RowTB W6.heap.size r (k.ts.take j) W) W6 wr row) (fun i _=>n2 - (intOf i).toNat)
   case atStart=>exact ⟨0,bc _,rfl,_,Wc.o⟩
   case round=>
    obtain ⟨j,hj,rfl,row,hF⟩:=hrel;have ar:=hF.below H6.o.1 (by omega)
    by_cases hlt:j<n2
    ·have dy:j<k.ts.length:=by rw[<-HN.o.2];exact hlt
     have dS:j<(k.ts.map (·.1)).length:=by simpa using dy
     obtain ⟨bk,LN,rfl,OW,ck⟩:=H6.o.2.1.get dS;obtain ⟨nm,dG⟩:=am (k.ts[j].1);simp only[List.getElem_map,<-dG]at ck;have Ht:=xQ HP.o.2.1 dy;rw[<-dG]at Ht;have OX:Kp (fun b=>b=w.heap.size+1) W6 wr:=hF.kp;have OY:bk≠w.heap.size+1:=by have:=H6.o.2.2;omega
     have dk:=OX.cell (a:=⟨bk,LN+j,none⟩) OY ck;have iO:=Hr.o.later ar;rcases iO.ts.look Tryz.underlying9 Tryz.underlying146 jr (x:=nm) (by rw[dG];exact Ih.o.2 _ (aA dy)) with ⟨hg,_⟩ | ⟨g,vg,hg,hvg,hlk⟩
     ·rw[Ht]at hg;cases hg
     rw[Ht]at hg;obtain rfl:k.ts[j].2=g:=by injection hg
     obtain ⟨⟨g0,g1,g2,g3,g4⟩,rfl,ot,Gm⟩:=hvg;simp only[TQ.val]at hlk;have ct:(k.ts.take j).length=j:=by rw[dM];omega
     exact pm219
    ·obtain rfl:n2=j:=by omega
     have ct:(k.ts.take n2).length=n2:=by rw[dM];have:=HN.o;omega
     have jG:k.ts.take n2=k.ts:=f8 (by have:=HN.o;omega);obtain ⟨ra,rc,rfl⟩:=hF.row.slice;rw[ct]at hF;rw[jG]at hF;have UR:=ae hF.row;have hz:=HO.o.2.2.2;have ig:=GO.o.size;have x02:=(hF.kp.same _ (by have:=(bz HO.o.2.1);omega) (by omega)).trans ((GO.o.block _ (by have:=(bz HO.o.2.1);omega)).trans ((HO.o.2.2.1.same _ (bz Ln.o) (by omega)).trans Ln.o));obtain ⟨e0,e1,y0,y1⟩:=sB x02;obtain ⟨s0,s1,_,_⟩:=sB hF.box;have zcr:=ae (HRF.o.held (W':=wr) (fun b hb hlt=>(hF.kp.same b (bE hlt GO.o.size) (by have:=H3.o.1.size;have:=H2.o.2.1;have:=wn.o.size;omega)).trans (GO.o.block b hlt)));have HX:=aG x02 ar;clear hF ar x02 ct jG hz ig;go_wp2;obtain ⟨W8,lr,x8,k8,g0,g1⟩:=By HX.o.1 (.slice fra n1 frc) (.slice ra n2 rc);rw[<-lr];refine bJ (v:=BQ.val ⟨fra,n1,frc,ra,n2,rc⟩) (by simp[BQ.val,results,Tryz.results50,go_sem,g0,g1]) rfl ⟨⟨⟨fra,n1,frc,ra,n2,rc⟩,rfl,?_,?_⟩,Below.kp1 HX.o.2 k8 (by omega)⟩
     ·exact zcr.o.binds.move (fun b hb hlt=>⟨by have:=H3.o.1.size;omega,k8.same b hlt (by have:=H3.o.1.size;have:=H2.o.2.1;have:=wn.o.size;omega)⟩)
     ·exact UR.o.binds.move (fun b hb hlt=>⟨by have:=H6.o.1.size;omega,k8.same b hlt (by have:=H6.o.1.size;have:=GO.o.size;have:=HO.o.2.2.2;have:=H3.o.1.size;have:=H2.o.2.1;have:=wn.o.size;omega)⟩)
end Go.Proofs.YtokemihbkeddoaaGreatDoor
namespace Go.Proofs.YtokemihbkeddoaaGreatDoor
open Go Go.RowKit Lib
set_option maxRecDepth 100000
set_option maxHeartbeats 64000000
variable {B n:Nat} {x:Str} {tm:Array Value} {ds:List Deferred} {w w':World} {F:Fence} {P:Program}
section
attribute [local go_sem] Oper.semAt_some
theorem OZ (k:Bd) (o:Int) (n:Str) (a:List Tm) (s:List Fm) (F:Fm) (c:Sco):eF k ⟨.mk o n a s,F,c⟩ =
  if (o != 16)=true then ((k,0):Bd×Int)
  else match getB k.fs n with
  | none=>(k,71)
  | some f=>match ii c [] F with
   | none=>(k,70)
   | some im=>
    if gY (aX (.mk o n a s)).1 f=0 then (if ea [] f im=true then (k,0) else (k,70))
    else match (match getB k.ts (aX (.mk o n a s)).2 with | some t=>some (t,k.ts) | none=>(gZ f im (aX (.mk o n a s)).1).map fun t=>(t,fj (aX (.mk o n a s)).2 t k.ts)) with
     | none=>(k,70)
     | some (t,ts)=>if (nodesF f+gY (aX (.mk o n a s)).1 f * (nodesT t - 1) != nodesF im)=true then ({ k with ts:=ts },70)
      else if ea [] (iI (aX (.mk o n a s)).1 t f) im=true then ({ k with ts:=ts },0) else ({ k with ts:=ts },70):=rfl
theorem Jp {M:Nat->Prop} {W X Y:World} (h:Kp M W X) (k:Kp (fun b=>b=B) X Y) (hB:W.heap.size<=B):Kp M W Y:=
 ⟨k.os.trans h.os,k.tape.trans h.tape,k.output.trans h.output,aN h.size k.size,fun b hb hm=>(k.same b (bE hb h.size) (by omega)).trans (h.same b hb hm)⟩
theorem Jq:∀ (l:List Tm) (i:Nat),fE x l≠0->(eB x l i).isSome=true:=by
 have Li:∀ t:Tm,Dw x t≠0->(m8 x t).isSome=true:=by
  exact pm161
 intro l
 induction l with
 | nil=>intro i h;simp[fE]at h
 | cons u a VT=>
  intro i h;simp only[fE]at h;unfold eB
  cases hp:m8 x u with
  | some p=>rfl
  | none=>
   simp only;refine VT _ ?_;intro h0;have:=Li u (by omega);rw[hp]at this;cases this
theorem Md:∀ f:Fm,gY x f≠0->(kW x f).isSome=true:=by
 intro f
 induction f using Fm.ind with
 | h o n a s ih=>
 intro h;unfold kW
 cases hp:eB x a 0 with
 | some p=>rfl
 | none=>
  simp only;have h1:fE x a=0:=by
   by_cases h0:fE x a=0
   ·exact h0
   ·have:=Jq a 0 h0;rw[hp]at this;cases this
  simp only[gY,h1,Nat.zero_add]at h;clear hp h1;generalize 0=i
  induction s generalizing i with
  | nil=>simp[jB]at h
  | cons u s ihs=>
   simp only[jB]at h;unfold lH
   cases hp:kW x u with
   | some p=>rfl
   | none=>
    simp only;refine ihs (fun t ht=>ih t (eV _ ht)) ?_ _;intro h0;have:=ih u (fD ..) (by omega);rw[hp]at this;cases this
theorem Me (W0:World):TI W0 48 eF:=by
 intro M kb mF mT QG QF QH VM p hp qJ W nF nT k q ps VN zw dS qY pE hpv;obtain ⟨⟨o,n,a,s⟩,F,c⟩:=p;exact pm72
def gT (w:World) (q r:FQ):World:=(w.alloc (.cells #[.int .u8 q.o,.string q.n,.slice q.a q.l q.c,.slice q.b q.m q.e] 36)).alloc (.cells #[.int .u8 r.o,.string r.n,.slice r.a r.l r.c,.slice r.b r.m r.e] 36)
theorem fB (w:World) (q r:FQ):Below w.heap.size w (gT w q r):=cJ.alloc (by simp) _
theorem jP (w:World) (q r:FQ):(gT w q r).heap.size=w.heap.size+2:=by simp[gT]
theorem kG (w:World) (q r:FQ):(gT w q r).heap[w.heap.size]?=some (.cells #[.int .u8 q.o,.string q.n,.slice q.a q.l q.c,.slice q.b q.m q.e] 36 (0,0)):=by
 unfold gT;exact ((((ak _ (w.alloc (.cells #[.int .u8 q.o,.string q.n,.slice q.a q.l q.c,.slice q.b q.m q.e] 36))).alloc (aI _) _).block w.heap.size (by simp)).trans (aj rfl))
theorem kH (w:World) (q r:FQ):(gT w q r).heap[w.heap.size+1]?=some (.cells #[.int .u8 r.o,.string r.n,.slice r.a r.l r.c,.slice r.b r.m r.e] 36 (0,0)):=by
 unfold gT;exact aj (by simp)
theorem lY (q r:FQ) (w:World) :
  Calls Tryz.prog 49 #[q.val,r.val] w fun e w'=>e=.returned (.func (.func 102) #[] #[.pointer (some ⟨w.heap.size,0,none⟩),.pointer (some ⟨w.heap.size+1,0,none⟩)])/\w'=gT w q r:=by
 obtain ⟨o,n,a,l,c,b,m,e⟩:=q;obtain ⟨o2,n2,a2,l2,c2,b2,m2,e2⟩:=r;unfold FQ.val gT;go_enter Tryz.func49,Tryz.ntmps49;go_wp2;go_ret;exact ⟨by simp,rfl⟩
theorem lZ (s f:Fm) (az:fitF f) (xy:nodesF s<=1000000) (M:Nat->Prop) (B X Y:Nat) (w:World) (q r:FQ) (hX:w.heap[X]?=some (.cells #[.int .u8 q.o,.string q.n,.slice q.a q.l q.c,.slice q.b q.m q.e] 36 (0,0))) (Hj:¬M X)
  (hY0:w.heap[Y]?=some (.cells #[.int .u8 r.o,.string r.n,.slice r.a r.l r.c,.slice r.b r.m r.e] 36 (0,0))) (Wo:¬M Y) (hq:FormV (fun b=>b<B/\¬M b) w q.val s) (hr:FormV (fun b=>b<B/\¬M b) w r.val f) :
  Hx M True Tryz.prog 102 #[.pointer (some ⟨X,0,none⟩),.pointer (some ⟨Y,0,none⟩)] (bA [] s f) (Om M B) w:=by
 intro l J Jx W hk hM hl X7 hJ ZZ hY hj;have QA:=(bz hX);have hYl:=(bz hY0);have xf:=(hk.same X QA Hj).trans hX;have hYW:=(hk.same Y hYl Wo).trans hY0;exact pm77
end
def iN (tm:Array Value) (us:Nat->Value):List Nat->Array Value
 | []=>tm
 | s :: l=>(iN tm us l).setIfInBounds s (us s)
theorem wK (tm:Array Value) (us:Nat->Value):∀ ss,(iN tm us ss).size=tm.size
 | []=>rfl
 | s :: l=>by simp only[iN,Array.size_setIfInBounds,wK tm us l]
theorem wL (tm:Array Value):∀ ss,iN tm (fun s=>tm.getD s undef) ss=tm
 | []=>rfl
 | s :: l=>by
  simp only[iN,wL tm l];apply Array.ext
  ·simp
  ·intro i h1 h2;rw[Array.getElem_setIfInBounds];split
   ·rename_i h;subst h;simp[Array.getD,h2]
   ·rfl
theorem zR (tm:Array Value) (us:Nat->Value) (s0:Nat) (h0:s0<tm.size):∀ ss,s0∈ss->(iN tm us ss).getD s0 undef=us s0
 | [],h=>by cases h
 | s :: l,h=>by
  simp only[iN];have hz:=wK tm us l
  by_cases hs:s=s0
  ·subst hs;simp[Array.getD,hz,h0]
  ·have ih:=zR tm us s0 h0 l (by rcases cY.1 h with h | h;exact absurd h.symm hs;exact h);rw[<-ih];simp only[Array.getD,Array.size_setIfInBounds]
   by_cases hlt:s0<(iN tm us l).size
   ·simp[hlt,hs]
   ·simp[hlt]
def RoundEnd (tm:Array Value) (ss:List Nat) (s0:Nat) (rel:(Nat->Value)->List Deferred->World->Prop) (μ:Value->Nat) (m:Nat) (a:Act) (w:World):Prop:=(∃us',a.tmps=iN tm us' ss/\rel us' a.defers w)/\μ (a.tmps.getD s0 undef)<m
theorem RoundEnd.mk {ss:List Nat} {s0:Nat} {rel:(Nat->Value)->List Deferred->World->Prop} {μ:Value->Nat} {m:Nat} {T:Array Value} (hT:iN tm (fun s=>T.getD s undef) ss=T) (hr:rel (fun s=>T.getD s undef) ds w) (hm:μ (T.getD s0 undef)<m):RoundEnd tm ss s0 rel μ m { tmps:=T,defers:=ds } w:=⟨⟨_,hT.symm,hr⟩,hm⟩
theorem kU {Q:Exit->Act->World->Prop} {c:Code} (ss:List Nat) (s0:Nat) (rel:(Nat->Value)->List Deferred->World->Prop) (μ:Value->Nat)
  (iP:s0<tm.size) (kK:s0∈ss) (h0:rel (fun s=>tm.getD s undef) ds w)
  (round:∀ us ds' wr,rel us ds' wr->c.wpIn F n P (Exit.then (RoundEnd tm ss s0 rel μ (μ (us s0))) Q) { tmps:=iN tm us ss,defers:=ds' } wr) :
  (Code.loop c).wpIn F n P Q { tmps:=tm,defers:=ds } w:=by
 refine wpIn_loop (fun a w=>∃us,a.tmps=iN tm us ss/\rel us a.defers w) (fun a _=>μ (a.tmps.getD s0 undef)) ⟨_,(wL tm ss).symm,h0⟩ ?_;have Ii:∀ us,(iN tm us ss).getD s0 undef=us s0:=fun us=>zR tm us s0 iP ss kK;rintro ⟨T,ds'⟩ wr ⟨us,hT,hr⟩;simp only at hT hr;subst hT;refine wpIn_mono (round us ds' wr hr) ?_;intro e a' w' h
 cases e with
 | normal=>exact ⟨h.1,by have:=h.2;rw[<-Ii us]at this;exact this⟩
 | _=>exact h
def mkD (D:Nat):Deferred:={ target:=.collected D,args:=#[] }
def Marks (B:Nat) (w:World) (ds:List Deferred):Prop:=∃Ds:List Nat,ds=Ds.map mkD/\Ds.Nodup/\∀ D∈Ds,B<=D/\w.heap[D]?=some (.deferred (some []))
theorem Marks.nil (B:Nat) (w:World):Marks B w []:=⟨[],rfl,List.nodup_nil,fun _ h=>by cases h⟩
theorem Marks.move (h:Marks B w ds) (hk:∀ D,B<=D->w.heap[D]?=some (.deferred (some []))->w'.heap[D]?=some (.deferred (some []))):Marks B w' ds:=by
 obtain ⟨Ds,rfl,hn,h⟩:=h;exact ⟨Ds,rfl,hn,fun D hD=>⟨(h D hD).1,hk D (h D hD).1 (h D hD).2⟩⟩
theorem Marks.more {D:Nat} (h:Marks B w ds) (hk:∀ D,B<=D->w.heap[D]?=some (.deferred (some []))->w'.heap[D]?=some (.deferred (some []))) (hD:w.heap.size<=D) (hB:B<=D) (hd:w'.heap[D]?=some (.deferred (some []))):Marks B w' ({ target:=.collected D,args:=#[] } :: ds):=by
 obtain ⟨Ds,rfl,hn,h⟩:=h;refine ⟨D :: Ds,rfl,List.nodup_cons.2 ⟨fun hm=>?_,hn⟩,fun E hE=>?_⟩
 ·have:=(bz (h D hm).2);omega
 ·rcases cY.1 hE with rfl | hE
  ·exact ⟨hB,hd⟩
  ·exact ⟨(h E hE).1,hk E (h E hE).1 (h E hE).2⟩
theorem ef {fn:Func} {tmps:Array Value} {R:Ending->World->Prop} (h:Marks B w ds) (hR:∀ w',Nw B w w'->LeavesInM F n P fn tmps R [] .returning w'):LeavesInM F n P fn tmps R ds .returning w:=by
 obtain ⟨Ds,rfl,hn,h⟩:=h
 induction Ds generalizing w with
 | nil=>exact hR w (Nw.refl _ _)
 | cons D Ds ih=>
  have hd:=h D (fD ..);have hD:=(List.nodup_cons.1 hn).1;refine ⟨by simp,.inl ⟨D,_,rfl,run_takeDeferred hd.2,?_⟩⟩;have hw:Nw B w (w.putObj D (.deferred none)):=Nw.put hd.1 hd.2 rfl rfl;refine ih (fun w' hk=>hR w' (hw.trans hk)) (List.nodup_cons.1 hn).2 (fun E hE=>⟨(h E (eV _ hE)).1,?_⟩);exact (m6 (fun e=>hD (by rw[<-e];exact hE))).trans (h E (eV _ hE)).2
