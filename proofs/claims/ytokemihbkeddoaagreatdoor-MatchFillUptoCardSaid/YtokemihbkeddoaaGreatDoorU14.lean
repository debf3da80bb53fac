/-
Rows of what metavariables stand for that a call makes,element by element.
-/
import Derived.Test.YtokemihbkeddoaaGreatDoorU11
namespace Go.Proofs.YtokemihbkeddoaaGreatDoor
open Go Go.RowKit Lib
set_option maxRecDepth 100000
set_option maxHeartbeats 64000000
variable {g lo cap R F:Nat} {v row:Value} {W W' W1 w4 wr A:World} {x:Str} {t:Fm} {T:TypeId} {o:Obj}
theorem Iz {w:World} {base size n c:Nat} {e:TypeId} {xs:List Value} (h:w.ownsRow base e size (.slice (some ⟨g,0,none⟩) n c) n xs):n<=c:=by
 exact pm186
def BF (e:Str×FQ):List Value:=.string ⟨e.1.toArray⟩ :: e.2.cells
theorem Xf (es:List (Str×FQ)):∀ j (h:j<es.length),(es.flatMap BF)[j * 5]?=some (.string ⟨es[j].1.toArray⟩)/\(es.flatMap BF)[j * 5+1]?=some (.int .u8 es[j].2.o)/\(es.flatMap BF)[j * 5+2]?=some (.string es[j].2.n)/\(es.flatMap BF)[j * 5+3]?=some (.slice es[j].2.a es[j].2.l es[j].2.c)/\(es.flatMap BF)[j * 5+4]?=some (.slice es[j].2.b es[j].2.m es[j].2.e):=by
 induction es with
 | nil=>intro j h;simp at h
 | cons q es ih=>
  intro j h
  cases j with
  | zero=>simp[BF,FQ.cells]
  | succ j=>
   have:=ih j (by simpa using h);simp only[List.flatMap_cons,BF,FQ.cells,lG,sj];rw[show (j+1) * 5=j * 5+1+1+1+1+1 by omega,show j * 5+1+1+1+1+1+1=(j * 5+1)+1+1+1+1+1 by omega,show j * 5+1+1+1+1+1+2=(j * 5+2)+1+1+1+1+1 by omega,show j * 5+1+1+1+1+1+3=(j * 5+3)+1+1+1+1+1 by omega,show j * 5+1+1+1+1+1+4=(j * 5+4)+1+1+1+1+1 by omega];simpa[BF,FQ.cells] using this
def RowFB (lo:Nat) (v:Value) (l:List (Str×Fm)) (W:World):Prop:=
 ∃es:List (Str×FQ),es.length=l.length/\W.ownsRow lo 40 5 v l.length (es.flatMap BF)/\∀ j (h:j<es.length) (h2:j<l.length),es[j].1=l[j].1/\FormV (fun b=>lo<=b/\v.ownBlock≠some b) W es[j].2.val l[j].2
theorem RowFB.nil (lo:Nat) (W:World):RowFB lo (.slice none 0 0) [] W:=⟨[],rfl,World.ownsRow_nil _ _ _ _,fun j h=>by simp at h⟩
theorem RowFB.slice {ts:List (Str×Fm)} (h:RowFB lo v ts W):∃a c,v=.slice a ts.length c:=by
 obtain ⟨es,_,ho,_⟩:=h;exact pm199
theorem RowFB.held {ts:List (Str×Fm)} (h:RowFB lo v ts W) (hb:∀ b,lo<=b->b<W.heap.size->W'.heap[b]?=W.heap[b]?):RowFB lo v ts W':=by
 exact pm231
theorem RowFB.below {ts:List (Str×Fm)} (h:RowFB lo v ts W) (hb:Below W.heap.size W W'):RowFB lo v ts W':=h.held (fun b _ hlt=>hb.block b hlt)
theorem RowFB.binds {ts:List (Str×Fm)} (h:RowFB lo v ts W):FBindsV (lo<=·) W v ts:=by
 obtain ⟨es,hk,ho,ht⟩:=h;rcases fT ho with ⟨rfl,h0⟩ | ⟨g,cap,rfl,hg,_⟩
 ·obtain rfl:=jJ h0;exact ⟨none,0,fun _=>⟨0,⟨#[]⟩,none,0,0,none,0,0⟩,rfl,aD _,.inl rfl,fun j hj=>by simp at hj⟩
 ·refine ⟨_,cap,fun j=>if h:j<es.length then es[j].2 else ⟨0,⟨#[]⟩,none,0,0,none,0,0⟩,rfl,Iz ho,.inr ⟨g,0,rfl,hg,fun j hj=>?_⟩,fun j hj=>?_⟩
  ·have sS:j<es.length:=by omega
   obtain ⟨c0,c1,c2,c3,c4⟩:=Xf es j sS;have pp197:=();exact pm197
  ·have sS:j<es.length:=by omega
   simp only[dif_pos sS];exact (ht j sS hj).2.move (fun b hok _=>⟨hok.1,rfl⟩)
theorem RowFB.step {ts:List (Str×Fm)} {qs:List (Str×FQ)} {q:FQ} (hk:qs.length=ts.length) (hb:Below W.heap.size W W1) (hlo:lo<=W.heap.size)
  (ht:∀ j (h:j<qs.length) (h2:j<ts.length),qs[j].1=ts[j].1/\FormV (fun b=>lo<=b/\v.ownBlock≠some b) W qs[j].2.val ts[j].2) (hv:∀ b,v.ownBlock=some b->b<W.heap.size)
  (hq:FormV (W.heap.size<=·) W1 q.val t) (aV:w4.ownsRow lo 40 5 (.slice (some ⟨g,0,none⟩) (ts.length+1) cap) (ts.length+1) (qs.flatMap BF ++ BF (x,q)))
  (hold:∀ c,lo<=c->c<W1.heap.size->v.ownBlock≠some c->w4.heap[c]?=W1.heap[c]?) (hg:v.ownBlock=some g\/W1.heap.size<=g) :
  RowFB lo (.slice (some ⟨g,0,none⟩) (ts.length+1) cap) (ts ++ [(x,t)]) w4:=by
 exact pm47
theorem Fills.stepFB {mk:Value->Array Value} {ts:List (Str×Fm)} {qs:List (Str×FQ)} {p:FQ}
  (h:Fills T R lo mk (fun r=>RowFB lo r ts) W1 wr row) (aA:wr.ownsRow lo 40 5 row ts.length (qs.flatMap BF)) (eE:qs.length=ts.length) (gL:∀ j (h:j<qs.length) (h2:j<ts.length),qs[j].1=ts[j].1/\FormV (fun b=>lo<=b/\row.ownBlock≠some b) wr qs[j].2.val ts[j].2)
  (hA:Below wr.heap.size wr A) (hp:FormV (wr.heap.size<=·) A p.val t)
  (aV:w4.ownsRow lo 40 5 (.slice (some ⟨g,0,none⟩) (ts.length+1) cap) (ts.length+1) (qs.flatMap BF ++ BF (x,p))) (aq:(A.alloc o).grownBy w4 row.ownBlock) (hg:row.ownBlock=some g\/g=A.heap.size+1)
  (xK:(mk row).setIfInBounds F (.slice (some ⟨g,0,none⟩) (ts.length+1) cap)=mk (.slice (some ⟨g,0,none⟩) (ts.length+1) cap)) :
  Fills T R lo mk (fun r=>RowFB lo r (ts ++ [(x,t)])) W1 (w4.setCell ⟨R,F,none⟩ (.slice (some ⟨g,0,none⟩) (ts.length+1) cap)) (.slice (some ⟨g,0,none⟩) (ts.length+1) cap):=by
 have pp95c:=();exact pm95
theorem KB:(Tryz.prog.info? 40).map (fun i=>(i.zero,i.size,i.bytes))=some (some (.agg #[.string ByteArray.empty,.int .u8 0,.string ByteArray.empty,.slice none 0 0,.slice none 0 0]),5,88):=by kernel_rfl
def BT (e:Str×TQ):List Value:=.string ⟨e.1.toArray⟩ :: e.2.cells
theorem Xg (es:List (Str×TQ)):∀ j (h:j<es.length),(es.flatMap BT)[j * 4]?=some (.string ⟨es[j].1.toArray⟩)/\(es.flatMap BT)[j * 4+1]?=some (.bool es[j].2.v)/\(es.flatMap BT)[j * 4+2]?=some (.string es[j].2.n)/\(es.flatMap BT)[j * 4+3]?=some (.slice es[j].2.a es[j].2.l es[j].2.c):=by
 induction es with
 | nil=>intro j h;simp at h
 | cons q es ih=>
  intro j h
  cases j with
  | zero=>simp[BT,TQ.cells]
  | succ j=>
   have:=ih j (by simpa using h);simp only[List.flatMap_cons,BT,TQ.cells,lG,sj];exact pm182
def RowTB (lo:Nat) (v:Value) (l:List (Str×Tm)) (W:World):Prop:=
 ∃es:List (Str×TQ),es.length=l.length/\W.ownsRow lo 47 4 v l.length (es.flatMap BT)/\∀ j (h:j<es.length) (h2:j<l.length),es[j].1=l[j].1/\TermV (fun b=>lo<=b/\v.ownBlock≠some b) W es[j].2.val l[j].2
theorem RowTB.nil (lo:Nat) (W:World):RowTB lo (.slice none 0 0) [] W:=⟨[],rfl,World.ownsRow_nil _ _ _ _,fun j h=>by simp at h⟩
theorem RowTB.slice {ts:List (Str×Tm)} (h:RowTB lo v ts W):∃a c,v=.slice a ts.length c:=by
 obtain ⟨es,_,ho,_⟩:=h;exact pm199
theorem RowTB.held {ts:List (Str×Tm)} (h:RowTB lo v ts W) (hb:∀ b,lo<=b->b<W.heap.size->W'.heap[b]?=W.heap[b]?):RowTB lo v ts W':=by
 exact pm231
theorem RowTB.below {ts:List (Str×Tm)} (h:RowTB lo v ts W) (hb:Below W.heap.size W W'):RowTB lo v ts W':=h.held (fun b _ hlt=>hb.block b hlt)
theorem RowTB.binds {ts:List (Str×Tm)} (h:RowTB lo v ts W):TBindsV (lo<=·) W v ts:=by
 obtain ⟨es,hk,ho,ht⟩:=h;rcases fT ho with ⟨rfl,h0⟩ | ⟨g,cap,rfl,hg,_⟩
 ·obtain rfl:=jJ h0;exact ⟨none,0,fun _=>⟨false,⟨#[]⟩,none,0,0⟩,rfl,aD _,.inl rfl,fun j hj=>by simp at hj⟩
 ·refine ⟨_,cap,fun j=>if h:j<es.length then es[j].2 else ⟨false,⟨#[]⟩,none,0,0⟩,rfl,Iz ho,.inr ⟨g,0,rfl,hg,fun j hj=>?_⟩,fun j hj=>?_⟩
  ·have sS:j<es.length:=by omega
   obtain ⟨c0,c1,c2,c3⟩:=Xg es j sS;exact pm197
  ·have sS:j<es.length:=by omega
   simp only[dif_pos sS];exact (ht j sS hj).2.move (fun b hok _=>⟨hok.1,rfl⟩)
theorem RowTB.step {ts:List (Str×Tm)} {t:Tm} {qs:List (Str×TQ)} {q:TQ} (hk:qs.length=ts.length) (hb:Below W.heap.size W W1) (hlo:lo<=W.heap.size)
  (ht:∀ j (h:j<qs.length) (h2:j<ts.length),qs[j].1=ts[j].1/\TermV (fun b=>lo<=b/\v.ownBlock≠some b) W qs[j].2.val ts[j].2) (hv:∀ b,v.ownBlock=some b->b<W.heap.size)
  (hq:TermV (W.heap.size<=·) W1 q.val t) (aV:w4.ownsRow lo 47 4 (.slice (some ⟨g,0,none⟩) (ts.length+1) cap) (ts.length+1) (qs.flatMap BT ++ BT (x,q)))
  (hold:∀ c,lo<=c->c<W1.heap.size->v.ownBlock≠some c->w4.heap[c]?=W1.heap[c]?) (hg:v.ownBlock=some g\/W1.heap.size<=g) :
  RowTB lo (.slice (some ⟨g,0,none⟩) (ts.length+1) cap) (ts ++ [(x,t)]) w4:=by
 exact pm47
theorem Fills.stepTB {mk:Value->Array Value} {ts:List (Str×Tm)} {t:Tm} {qs:List (Str×TQ)} {p:TQ}
  (h:Fills T R lo mk (fun r=>RowTB lo r ts) W1 wr row) (aA:wr.ownsRow lo 47 4 row ts.length (qs.flatMap BT)) (eE:qs.length=ts.length) (gL:∀ j (h:j<qs.length) (h2:j<ts.length),qs[j].1=ts[j].1/\TermV (fun b=>lo<=b/\row.ownBlock≠some b) wr qs[j].2.val ts[j].2)
  (hA:Below wr.heap.size wr A) (hp:TermV (wr.heap.size<=·) A p.val t)
  (aV:w4.ownsRow lo 47 4 (.slice (some ⟨g,0,none⟩) (ts.length+1) cap) (ts.length+1) (qs.flatMap BT ++ BT (x,p))) (aq:(A.alloc o).grownBy w4 row.ownBlock) (hg:row.ownBlock=some g\/g=A.heap.size+1)
  (xK:(mk row).setIfInBounds F (.slice (some ⟨g,0,none⟩) (ts.length+1) cap)=mk (.slice (some ⟨g,0,none⟩) (ts.length+1) cap)) :
  Fills T R lo mk (fun r=>RowTB lo r (ts ++ [(x,t)])) W1 (w4.setCell ⟨R,F,none⟩ (.slice (some ⟨g,0,none⟩) (ts.length+1) cap)) (.slice (some ⟨g,0,none⟩) (ts.length+1) cap):=by
 exact pm95
theorem KC:(Tryz.prog.info? 47).map (fun i=>(i.zero,i.size,i.bytes))=some (some (.agg #[.string ByteArray.empty,.bool false,.string ByteArray.empty,.slice none 0 0]),4,64):=by kernel_rfl
end Go.Proofs.YtokemihbkeddoaaGreatDoor
namespace Go.Proofs
open Go.RowKit Go.Maps Go.Sort Go.Shelf
shelf_lay_g SlLaysZ.n7 Ggz 7 at Tryz 104 as Tryz.keysF
shelf_lay_g SlLaysZ.n7 Ggz 7 at Tryz 105 as Tryz.keysT
end Go.Proofs
namespace Go.Proofs.YtokemihbkeddoaaGreatDoor
open Go Go.RowKit Go.Maps Go.Sort Go.Shelf
theorem NC (mb:Option Nat) (W:World):Calls Tryz.prog 104 #[.map mb] W fun e w'=>e=.returned (.func (.func 169) #[] #[.pointer (some ⟨W.heap.size,0,none⟩)])/\w'=W.alloc (.cells #[.map mb] 145):=
 aK.1 (AnyZ.keys_in Tryz.keysF Fence.wide 5 trivial rfl mb W)
theorem ND (mb:Option Nat) (W:World):Calls Tryz.prog 105 #[.map mb] W fun e w'=>e=.returned (.func (.func 170) #[] #[.pointer (some ⟨W.heap.size,0,none⟩)])/\w'=W.alloc (.cells #[.map mb] 146):=
 aK.1 (AnyZ.keys_in Tryz.keysT Fence.wide 5 trivial rfl mb W)
theorem kQ:∀ {l:List Str},dK l=true->Up l
 | [],_=>List.Pairwise.nil
 | x :: l,h=>by
  obtain ⟨h1,h2⟩:=ng.1 h;have h3:=kQ h2;refine List.pairwise_cons.2 ⟨fun y hy=>?_,h3⟩
  cases l with
  | nil=>cases hy
  | cons z l=>
   have h4:=h1 z rfl;rcases cd.1 hy with rfl | hy
   ·exact h4
   ·exact uA _ _ _ h4 ((List.pairwise_cons.1 h3).1 y hy)
theorem FT {l:List Str} (h:Up l):dI l=l:=JC _ _ (tf l) h (fun x=>dQ x l)
theorem IA {V:Value->Fm->Prop} (m n:Nat) (l:List (Str×Fm)) (hn:n<=3000000) (hup:Up (l.map (·.1))) (W:World) (hs:MapV Tryz.prog 9 V W m n l) :
  Calls Tryz.prog 74 #[.func (.func 169) #[] #[.pointer (some ⟨W.heap.size,0,none⟩)]] (W.alloc (.cells #[.map (some m)] 145)) fun e w'=>∃v,e=.returned v/\RowS W.heap.size w' v (l.map (·.1))/\RowKit.Below W.heap.size W w':=by
 obtain ⟨D0,aA,hx⟩:=hs;have JD:=aA.lt;have hsz:=aA.size_le;have oI:SeqGives Fence.wide 2 Tryz.prog 169 #[.pointer (some ⟨W.heap.size,0,none⟩)] encStr (fun ss=>ss.Perm (strKeys D0)) (Maps.size D0) (W.alloc (.cells #[.map (some m)] 145)):=
  AnyZ.keys_gives (ρ:=Tryz.keysF_ren) { Tryz.keysF with } Fence.wide _ trivial rfl (by omega) W.heap.size m n D0 _ (by simp) (by simp) (aA.alloc _)
 have cS:=AnyZ.sorted_in Tryz.sortedA Fence.wide 5 trivial trivial trivial trivial rfl (by omega) (Tryz.sortsA _) (enters_of Tryz.func134 (by kernel_rfl) rfl) 169 #[.pointer (some ⟨W.heap.size,0,none⟩)] trivial (enters_of Tryz.func169 (by kernel_rfl) rfl) _ _ (by unfold maxLen;omega) (by omega) _ oI;exact pm29
theorem IB {V:Value->Tm->Prop} (m n:Nat) (l:List (Str×Tm)) (hn:n<=3000000) (hup:Up (l.map (·.1))) (W:World) (hs:MapV Tryz.prog 9 V W m n l) :
  Calls Tryz.prog 74 #[.func (.func 170) #[] #[.pointer (some ⟨W.heap.size,0,none⟩)]] (W.alloc (.cells #[.map (some m)] 146)) fun e w'=>∃v,e=.returned v/\RowS W.heap.size w' v (l.map (·.1))/\RowKit.Below W.heap.size W w':=by
 obtain ⟨D0,aA,hx⟩:=hs;have JD:=aA.lt;have hsz:=aA.size_le;have oI:SeqGives Fence.wide 2 Tryz.prog 170 #[.pointer (some ⟨W.heap.size,0,none⟩)] encStr (fun ss=>ss.Perm (strKeys D0)) (Maps.size D0) (W.alloc (.cells #[.map (some m)] 146)):=
  AnyZ.keys_gives (ρ:=Tryz.keysT_ren) { Tryz.keysT with } Fence.wide _ trivial rfl (by omega) W.heap.size m n D0 _ (by simp) (by simp) (aA.alloc _)
 have cS:=AnyZ.sorted_in Tryz.sortedA Fence.wide 5 trivial trivial trivial trivial rfl (by omega) (Tryz.sortsA _) (enters_of Tryz.func134 (by kernel_rfl) rfl) 170 #[.pointer (some ⟨W.heap.size,0,none⟩)] trivial (enters_of Tryz.func170 (by kernel_rfl) rfl) _ _ (by unfold maxLen;omega) (by omega) _ oI;exact pm29
end Go.Proofs.YtokemihbkeddoaaGreatDoor
namespace Go.Proofs.YtokemihbkeddoaaGreatDoor
open Go Go.RowKit Go.Maps Go.Sort Go.Shelf
variable {α:Type} {X:World} {B:Nat} {c0 c1:Value} {T:TypeId}
attribute [local go_sem] Oper.semAt_some
theorem MapV.len {k:TypeId} {V:Value->α->Prop} {W:World} {m n:Nat} {l:List (Str×α)} (hk:Tryz.prog.underlying k=some .string) (h:MapV Tryz.prog k V W m n l) (hup:Up (l.map (·.1))):l.length<=n:=by
 obtain ⟨D0,aA,hx⟩:=h;obtain ⟨es,hD,RV,_⟩:=aA.entries (Maps.string_keyed hk);obtain ⟨St,O1,VV⟩:=aA.keysOf;obtain rfl:es=St:=by rw[hD]at O1;simpa using O1
 have hsz:=aA.size_le;have kZ:(dI (l.map (·.1))).Perm (strKeys D0):=by
  rw[hD];refine perm_strKeys RV (fun p hp=>by obtain ⟨v,hv⟩:=VV p hp;obtain ⟨x,_,hx,_⟩:=Maps.keyOf_str hk hv;exact ⟨x,hx⟩) (iB (tf _)) (fun x=>?_);rw[dQ,<-hD]
  cases hg:getB l x with
  | none=>rw[(hx x).1 hg];simp only[bW,iff_false];exact (ia l x).1 hg
  | some a=>
   have h1:x∈l.map (·.1):=by
    by_cases h:x∈l.map (·.1)
    ·exact h
    ·rw[(ia l x).2 h]at hg;cases hg
   exact ⟨fun _=>((hx x).2 a hg).1,fun _=>h1⟩
 have h1:=kZ.length_eq;rw[FT hup]at h1;have h2:(strKeys D0).length<=Maps.size D0:=by
  rw[hD];simp only[strKeys,Maps.size];simp
 simp at h1;omega
theorem tN (hx:X.heap[B]?=some (.cells #[c0,c1] T (0,0))):X.cell? ⟨B,0,none⟩=some c0/\X.cell? ⟨B,1,none⟩=some c1/\X.frozen? ⟨B,0,none⟩=false/\X.frozen? ⟨B,1,none⟩=false:=
 ⟨ah hx 0,ah hx 1,ae hx 0,ae hx 1⟩
theorem Dv (hx:X.heap[B]?=some (.cells #[c0,c1] T (0,0))) (v0 v1:Value):∃W6,W6=(X.setCell ⟨B,0,none⟩ v0).setCell ⟨B,1,none⟩ v1/\W6.heap[B]?=some (.cells #[v0,v1] T (0,0))/\Kp (fun b=>b=B) X W6/\W6.cell? ⟨B,0,none⟩=some v0/\W6.cell? ⟨B,1,none⟩=some v1:=by
 have h0:=aY (F:=0) hx v0;have h1:=(aY (F:=1) h0 v1).trans rfl;exact ⟨_,rfl,h1,⟨rfl,rfl,rfl,by simp,fun c _ hc=>(dV _ _ _ _ (by simpa using hc)).trans (dV _ _ _ _ (by simpa using hc))⟩,ah h1 0,ah h1 1⟩
theorem L6 {l:List (Str×α)} (h:(l.map (·.1)).Nodup) {j:Nat} (hj:j<l.length):getB l l[j].1=some l[j].2:=by
 have h1:=wY h hj l[j].1;rw[au rfl]at h1;have h2:∀ (a b:List (Str×α)) (x:Str) (v:α),getB a x=some v->getB (a ++ b) x=some v:=by
  intro a b x v ha
  induction a with
  | nil=>cases ha
  | cons z a ih=>
   obtain ⟨z1,z2⟩:=z;simp only[lG,getB]at ha ⊢
   by_cases hz:(z1 == x)=true
   ·simpa[hz] using ha
   ·simp only[hz]at ha ⊢;exact ih ha
 have h3:=h2 _ (l.drop (j+1)) _ _ h1
 rwa [List.take_append_drop]at h3
theorem IC (k:Bd) (hv:bw k=true) (PF:Fm->Prop) (PT:Tm->Prop) (hPF:∀ f,PF f->fitF f) (UN:∀ t,PT t->fitT t) (ok:Nat->Prop) (w:World) (kb mF mT nF nT:Nat) (dZ:KnV ok PF PT w kb mF mT nF nT k) (sd:nF<=3000000) (qC:nT<=3000000) :
  Calls Tryz.prog 50 #[.pointer (some ⟨kb,0,none⟩)] w fun e w'=>(∃q:BQ,e=.returned q.val/\BindV (w.heap.size<=·) w' q k)/\Below w.heap.size w w':=by
 obtain ⟨p9,hi,zp,wJ,zY⟩:=info_parts KB;obtain ⟨MG,hq,hqa,Je,hqc⟩:=info_parts KC;have jy:=hv;simp only[bw,af,List.all_eq_true]at jy;have huF:=kQ jy.2.1;have huT:=kQ jy.2.2;have hlF:=dZ.fs.len Tryz.underlying9 huF;have hlT:=dZ.ts.len Tryz.underlying9 huT;obtain ⟨n1,ea⟩:=am k.fs.length;obtain ⟨n2,kY⟩:=am k.ts.length;have M5:n1<=3000000:=by omega
 have SM:n2<=3000000:=by omega
 have HN:=aG ea kY;have HP:=cG (iB huF) (iB huT) hPF UN;have Jy:=aG (show ∀ x∈k.fs,x.1.length<=2000000 from fun x hx=>by have:=tF (jy.1.1 x hx).1;omega) (show ∀ x∈k.ts,x.1.length<=2000000 from fun x hx=>by have:=fX (jy.1.2 x hx).1;omega);obtain ⟨W2,a_⟩:=am ((w.alloc (.cells #[.slice none 0 0,.slice none 0 0] 26)).alloc (.cells #[.slice none 0 0,.slice none 0 0] 26));have bB:=lv a_;have iy:=yJ a_;have x0:=t_ a_;have x1:=j_ a_;have fA:=dZ.later bB;have k0:=ah fA.box 0;have CK:=IA mF nF k.fs sd huF W2 fA.fs;have Jd:=ac (fun (V:World) (m n:Nat) (hs:MapV Tryz.prog 9 (TermK ok PT V) V m n k.ts) (h:n<=3000000)=>IB m n k.ts h huT V hs);have Zm:=ac CK;have H2:=cG bB iy x0 x1;have Jf:=ac dZ;have HNB:=aG sd qC;have fp:=ac a_;rw[a_]at k0;clear hv jy huF huT hlF hlT hPF UN dZ bB iy x0 x1 fA CK a_ sd qC ea kY;go_enter Tryz.func50,Tryz.ntmps50;go_wp2_with (first | (go_at_call 104;rw[<-fp.o];refine (NC _ _).mono ?_;rintro e w4 ⟨rfl,rfl⟩) | (go_at_call 74;refine Zm.o.mono ?_;rintro e w5 ⟨v5,rfl,MK,bm⟩;obtain ⟨ka,kc,rfl⟩:=MK.strs.slice;have H5:=aG MK bm;clear MK bm));obtain ⟨W3,dB⟩:=am w5;obtain ⟨Tf,yb⟩:=aW H5.o.1.strs H5.o.2;clear H5;rw[List.length_map,<-HN.o.1]at Tf;rw[<-HN.o.1];rw[<-dB]at Tf yb ⊢;clear dB w5;have zaP:Below w.heap.size w W3:=H2.o.1.tr yb.o;have Ov:=bJ yb.o H2.o.2.2.2;have x03:=bJ yb.o H2.o.2.2.1;have Xh:=ac (Fills.start (R:=w.heap.size+1) (mk:=fun rr=>#[rr,.slice none 0 0]) (Row:=fun r W=>RowFB W3.heap.size r (k.fs.take 0) W) Ov (RowFB.nil _ _));have MC:=ac x03;have H3:=bF zaP Tf.o H2.o.2.1;clear zaP Ov x03 Tf;go_loopw [15] (fun i wr=>∃j:Nat,j<=n1/\i=.int .i64 j/\∃row,Fills 26 (w.heap.size+1) W3.heap.size (fun rr=>#[rr,.slice none 0 0]) (fun r W=>RowFB W3.heap.size r (k.fs.take j) W) W3 wr row) (fun i _=>n1 - (intOf i).toNat)
 case atStart=>exact ⟨0,aX _,rfl,_,Xh.o⟩
 case round=>
  obtain ⟨j,hj,rfl,row,hF⟩:=hrel;have ar:=hF.below H3.o.1 (by omega)
  by_cases hlt:j<n1
  ·have dJ:j<k.fs.length:=by rw[<-HN.o.1];exact hlt
   have dZ:j<(k.fs.map (·.1)).length:=by simpa using dJ
   obtain ⟨bk,MZ,rfl,hbk,ck⟩:=H3.o.2.1.get dZ;obtain ⟨nm,dD⟩:=am (k.fs[j].1);simp only[List.getElem_map,<-dD]at ck;have L7:=L6 HP.o.1 dJ;rw[<-dD]at L7;have QB:Kp (fun b=>b=w.heap.size+1) W3 wr:=hF.kp;have QC:bk≠w.heap.size+1:=by have:=H3.o.2.2;omega
   have dk:=QB.cell (a:=⟨bk,MZ+j,none⟩) QC ck;have ji:=Jf.o.later ar;rcases ji.fs.look Tryz.underlying9 Tryz.underlying145 ml (x:=nm) (by rw[dD];exact Jy.o.1 _ (aw dJ)) with ⟨hg,_⟩ | ⟨g,vg,hg,hvg,hlk⟩
   ·rw[L7]at hg;cases hg
   rw[L7]at hg;obtain rfl:k.fs[j].2=g:=by injection hg
   obtain ⟨⟨g0,g1,g2,g3,g4,g5,g6,g7⟩,rfl,pf,Ic⟩:=hvg;simp only[FQ.val]at hlk;have cB:(k.fs.take j).length=j:=by rw[dT];omega
   have pp241:=();exact pm241
  ·obtain rfl:n1=j:=by omega
   have cB:(k.fs.take n1).length=n1:=by rw[dT];have:=HN.o;omega
   have ki:k.fs.take n1=k.fs:=gU (by have:=HN.o;omega);obtain ⟨fra,frc,rfl⟩:=hF.row.slice;rw[cB]at hF;rw[ki]at hF;have HRF:=ac hF.row;have ji:=Jf.o.later ar;have xb:=hF.box;have kpF:=hF.kp;have zaQ:=hF.size;obtain ⟨wo,JT⟩:=am wr;subst JT;have k1:=ah ji.box 1;have zcR:=ac (Jd.o wo mT nT ji.ts HNB.o.2);have HO:=cG ar xb kpF zaQ;clear ar ji xb kpF zaQ hF cB ki;go_wp2_with (first | (go_at_call 105;refine (ND _ _).mono ?_;rintro e w4 ⟨rfl,rfl⟩) | (go_at_call 74;refine zcR.o.mono ?_;rintro e w5 ⟨v5,rfl,MK,bm⟩;obtain ⟨kta,ktc,rfl⟩:=MK.strs.slice;have H5:=aG MK bm;clear MK bm));clear k1;obtain ⟨W6,dm⟩:=am w5;obtain ⟨Tf,ID⟩:=aW H5.o.1.strs H5.o.2;clear H5;rw[List.length_map,<-HN.o.2]at Tf;rw[<-HN.o.2];rw[<-dm]at Tf ID ⊢;clear dm w5;have zaR:Below w.heap.size w W6:=HO.o.1.tr ID.o;have R7:=bJ ID.o HO.o.2.1;have Xi:=ac (Fills.start (R:=w.heap.size+1) (mk:=fun rr=>#[.slice fra n1 frc,rr]) (Row:=fun r W=>RowTB W6.heap.size r (k.ts.take 0) W) R7 (RowTB.nil _ _));have H6:=bF zaR Tf.o (show w.heap.size+1<wo.heap.size from (bz HO.o.2.1));clear zaR R7 Tf;go_loopw [41] (fun i wr=>∃j:Nat,j<=n2/\i=.int .i64 j/\∃row,Fills 26 (w.heap.size+1) W6.heap.size (fun rr=>#[.slice fra n1 frc,rr]) (fun r W=>RowTB W6.heap.size r (k.ts.take j) W) W6 wr row) (fun i _=>n2 - (intOf i).toNat)
   case atStart=>exact ⟨0,aX _,rfl,_,Xi.o⟩
   case round=>
    obtain ⟨j,hj,rfl,row,hF⟩:=hrel;have ar:=hF.below H6.o.1 (by omega)
    by_cases hlt:j<n2
    ·have dJ:j<k.ts.length:=by rw[<-HN.o.2];exact hlt
     have dZ:j<(k.ts.map (·.1)).length:=by simpa using dJ
     obtain ⟨bk,MZ,rfl,hbk,ck⟩:=H6.o.2.1.get dZ;obtain ⟨nm,dD⟩:=am (k.ts[j].1);simp only[List.getElem_map,<-dD]at ck;have L7:=L6 HP.o.2.1 dJ;rw[<-dD]at L7;have QB:Kp (fun b=>b=w.heap.size+1) W6 wr:=hF.kp;have QC:bk≠w.heap.size+1:=by have:=H6.o.2.2;omega
     have dk:=QB.cell (a:=⟨bk,MZ+j,none⟩) QC ck;have ji:=Jf.o.later ar;rcases ji.ts.look Tryz.underlying9 Tryz.underlying146 jT (x:=nm) (by rw[dD];exact Jy.o.2 _ (aw dJ)) with ⟨hg,_⟩ | ⟨g,vg,hg,hvg,hlk⟩
     ·rw[L7]at hg;cases hg
     rw[L7]at hg;obtain rfl:k.ts[j].2=g:=by injection hg
     obtain ⟨⟨g0,g1,g2,g3,g4⟩,rfl,pf,Ic⟩:=hvg;simp only[TQ.val]at hlk;have cB:(k.ts.take j).length=j:=by rw[dT];omega
     exact pm241
    ·obtain rfl:n2=j:=by omega
     have cB:(k.ts.take n2).length=n2:=by rw[dT];have:=HN.o;omega
     have ki:k.ts.take n2=k.ts:=gU (by have:=HN.o;omega);obtain ⟨ra,rc,rfl⟩:=hF.row.slice;rw[cB]at hF;rw[ki]at hF;have VO:=ac hF.row;have hz:=HO.o.2.2.2;have iy:=ID.o.size;have x02:=(hF.kp.same _ (by have:=(bz HO.o.2.1);omega) (by omega)).trans ((ID.o.block _ (by have:=(bz HO.o.2.1);omega)).trans ((HO.o.2.2.1.same _ (bz MC.o) (by omega)).trans MC.o));obtain ⟨e0,e1,y0,y1⟩:=tN x02;obtain ⟨s0,s1,_,_⟩:=tN hF.box;have zcS:=ac (HRF.o.held (W':=wr) (fun b hb hlt=>(hF.kp.same b (bH hlt ID.o.size) (by have:=H3.o.1.size;have:=H2.o.2.1;have:=yb.o.size;omega)).trans (ID.o.block b hlt)));have HX:=aG x02 ar;clear hF ar x02 cB ki hz iy;go_wp2;obtain ⟨W8,l8,x8,k8,g0,g1⟩:=Dv HX.o.1 (.slice fra n1 frc) (.slice ra n2 rc);rw[<-l8];refine bI (v:=BQ.val ⟨fra,n1,frc,ra,n2,rc⟩) (by simp[BQ.val,results,Tryz.results50,go_sem,g0,g1]) rfl ⟨⟨⟨fra,n1,frc,ra,n2,rc⟩,rfl,?_,?_⟩,Below.kp1 HX.o.2 k8 (by omega)⟩
     ·exact zcS.o.binds.move (fun b hb hlt=>⟨by have:=H3.o.1.size;omega,k8.same b hlt (by have:=H3.o.1.size;have:=H2.o.2.1;have:=yb.o.size;omega)⟩)
     ·exact VO.o.binds.move (fun b hb hlt=>⟨by have:=H6.o.1.size;omega,k8.same b hlt (by have:=H6.o.1.size;have:=ID.o.size;have:=HO.o.2.2.2;have:=H3.o.1.size;have:=H2.o.2.1;have:=yb.o.size;omega)⟩)
end Go.Proofs.YtokemihbkeddoaaGreatDoor
namespace Go.Proofs.YtokemihbkeddoaaGreatDoor
open Go Go.RowKit Lib
set_option maxRecDepth 100000
set_option maxHeartbeats 64000000
variable {B n:Nat} {x:Str} {tm:Array Value} {ds:List Deferred} {w w':World} {F:Fence} {P:Program}
section
attribute [local go_sem] Oper.semAt_some
theorem QD (k:Bd) (o:Int) (n:Str) (a:List Tm) (s:List Fm) (F:Fm) (c:Sco):ev k ⟨.mk o n a s,F,c⟩ =
  if (o != 16)=true then ((k,0):Bd×Int)
  else match getB k.fs n with
  | none=>(k,71)
  | some f=>match eT c [] F with
   | none=>(k,70)
   | some im=>
    if fG (aJ (.mk o n a s)).1 f=0 then (if cP [] f im=true then (k,0) else (k,70))
    else match (match getB k.ts (aJ (.mk o n a s)).2 with | some t=>some (t,k.ts) | none=>(ie f im (aJ (.mk o n a s)).1).map fun t=>(t,fS (aJ (.mk o n a s)).2 t k.ts)) with
     | none=>(k,70)
     | some (t,ts)=>if (nodesF f+fG (aJ (.mk o n a s)).1 f * (nodesT t - 1) != nodesF im)=true then ({ k with ts:=ts },70)
      else if cP [] (fH (aJ (.mk o n a s)).1 t f) im=true then ({ k with ts:=ts },0) else ({ k with ts:=ts },70):=rfl
theorem KD {M:Nat->Prop} {W X Y:World} (h:Kp M W X) (k:Kp (fun b=>b=B) X Y) (hB:W.heap.size<=B):Kp M W Y:=
 ⟨k.os.trans h.os,k.tape.trans h.tape,k.output.trans h.output,aU h.size k.size,fun b hb hm=>(k.same b (bH hb h.size) (by omega)).trans (h.same b hb hm)⟩
theorem KE:∀ (l:List Tm) (i:Nat),eV x l≠0->(eK x l i).isSome=true:=by
 have Jm:∀ t:Tm,zR x t≠0->(nZ x t).isSome=true:=by
  exact pm184
 intro l
 induction l with
 | nil=>intro i h;simp[eV]at h
 | cons u a O3=>
  intro i h;simp only[eV]at h;unfold eK
  cases hp:nZ x u with
  | some p=>rfl
  | none=>
   simp only;refine O3 _ ?_;intro h0;have:=Jm u (by omega);rw[hp]at this;cases this
theorem NE:∀ f:Fm,fG x f≠0->(lI x f).isSome=true:=by
 intro f
 induction f using Fm.ind with
 | h o n a s ih=>
 intro h;unfold lI
 cases hp:eK x a 0 with
 | some p=>rfl
 | none=>
  simp only;have h1:eV x a=0:=by
   by_cases h0:eV x a=0
   ·exact h0
   ·have:=KE a 0 h0;rw[hp]at this;cases this
  simp only[fG,h1,Nat.zero_add]at h;clear hp h1;generalize 0=i
  induction s generalizing i with
  | nil=>simp[i9]at h
  | cons u s ihs=>
   simp only[i9]at h;unfold mr
   cases hp:lI x u with
   | some p=>rfl
   | none=>
    simp only;refine ihs (fun t ht=>ih t (fD _ ht)) ?_ _;intro h0;have:=ih u (f8 ..) (by omega);rw[hp]at this;cases this
theorem NG (W0:World):UV W0 48 ev:=by
 intro M kb mF mT RZ RY R1 WN p hp rI W nF nT k q ps WO AZ dZ sd qC hpv;obtain ⟨⟨o,n,a,s⟩,F,c⟩:=p;exact pm90
def iq (w:World) (q r:FQ):World:=(w.alloc (.cells #[.int .u8 q.o,.string q.n,.slice q.a q.l q.c,.slice q.b q.m q.e] 36)).alloc (.cells #[.int .u8 r.o,.string r.n,.slice r.a r.l r.c,.slice r.b r.m r.e] 36)
theorem fY (w:World) (q r:FQ):Below w.heap.size w (iq w q r):=cO.alloc (by simp) _
theorem kw (w:World) (q r:FQ):(iq w q r).heap.size=w.heap.size+2:=by simp[iq]
theorem ll (w:World) (q r:FQ):(iq w q r).heap[w.heap.size]?=some (.cells #[.int .u8 q.o,.string q.n,.slice q.a q.l q.c,.slice q.b q.m q.e] 36 (0,0)):=by
 unfold iq;exact ((((aj _ (w.alloc (.cells #[.int .u8 q.o,.string q.n,.slice q.a q.l q.c,.slice q.b q.m q.e] 36))).alloc (aD _) _).block w.heap.size (by simp)).trans (ai rfl))
theorem lm (w:World) (q r:FQ):(iq w q r).heap[w.heap.size+1]?=some (.cells #[.int .u8 r.o,.string r.n,.slice r.a r.l r.c,.slice r.b r.m r.e] 36 (0,0)):=by
 unfold iq;exact ai (by simp)
theorem mQ (q r:FQ) (w:World) :
  Calls Tryz.prog 49 #[q.val,r.val] w fun e w'=>e=.returned (.func (.func 102) #[] #[.pointer (some ⟨w.heap.size,0,none⟩),.pointer (some ⟨w.heap.size+1,0,none⟩)])/\w'=iq w q r:=by
 obtain ⟨o,n,a,l,c,b,m,e⟩:=q;obtain ⟨o2,n2,a2,l2,c2,b2,m2,e2⟩:=r;unfold FQ.val iq;go_enter Tryz.func49,Tryz.ntmps49;go_wp2;go_ret;exact ⟨by simp,rfl⟩
theorem mR (s f:Fm) (hfit:fitF f) (ze:nodesF s<=1000000) (M:Nat->Prop) (B X Y:Nat) (w:World) (q r:FQ) (hX:w.heap[X]?=some (.cells #[.int .u8 q.o,.string q.n,.slice q.a q.l q.c,.slice q.b q.m q.e] 36 (0,0))) (I6:¬M X)
  (hY0:w.heap[Y]?=some (.cells #[.int .u8 r.o,.string r.n,.slice r.a r.l r.c,.slice r.b r.m r.e] 36 (0,0))) (Xu:¬M Y) (hq:FormV (fun b=>b<B/\¬M b) w q.val s) (hr:FormV (fun b=>b<B/\¬M b) w r.val f) :
  Jn M True Tryz.prog 102 #[.pointer (some ⟨X,0,none⟩),.pointer (some ⟨Y,0,none⟩)] (aR [] s f) (PL M B) w:=by
 intro l J Jx W hk hM hl YZ hJ hJx hY hj;have RR:=(bz hX);have hYl:=(bz hY0);have yP:=(hk.same X RR I6).trans hX;have hYW:=(hk.same Y hYl Xu).trans hY0;exact pm87
end
def jd (tm:Array Value) (us:Nat->Value):List Nat->Array Value
 | []=>tm
 | s :: l=>(jd tm us l).setIfInBounds s (us s)
theorem yA (tm:Array Value) (us:Nat->Value):∀ ss,(jd tm us ss).size=tm.size
 | []=>rfl
 | s :: l=>by simp only[jd,Array.size_setIfInBounds,yA tm us l]
theorem yB (tm:Array Value):∀ ss,jd tm (fun s=>tm.getD s undef) ss=tm
 | []=>rfl
 | s :: l=>by
  simp only[jd,yB tm l];apply Array.ext
  ·simp
  ·intro i h1 h2;rw[Array.getElem_setIfInBounds];split
   ·rename_i h;subst h;simp[Array.getD,h2]
   ·rfl
theorem BD (tm:Array Value) (us:Nat->Value) (s0:Nat) (h0:s0<tm.size):∀ ss,s0∈ss->(jd tm us ss).getD s0 undef=us s0
 | [],h=>by cases h
 | s :: l,h=>by
  simp only[jd];have hz:=yA tm us l
  by_cases hs:s=s0
  ·subst hs;simp[Array.getD,hz,h0]
  ·have ih:=BD tm us s0 h0 l (by rcases cd.1 h with h | h;exact absurd h.symm hs;exact h);rw[<-ih];simp only[Array.getD,Array.size_setIfInBounds]
   by_cases hlt:s0<(jd tm us l).size
   ·simp[hlt,hs]
   ·simp[hlt]
def RoundEnd (tm:Array Value) (ss:List Nat) (s0:Nat) (rel:(Nat->Value)->List Deferred->World->Prop) (μ:Value->Nat) (m:Nat) (a:Act) (w:World):Prop:=(∃us',a.tmps=jd tm us' ss/\rel us' a.defers w)/\μ (a.tmps.getD s0 undef)<m
theorem RoundEnd.mk {ss:List Nat} {s0:Nat} {rel:(Nat->Value)->List Deferred->World->Prop} {μ:Value->Nat} {m:Nat} {T:Array Value} (hT:jd tm (fun s=>T.getD s undef) ss=T) (hr:rel (fun s=>T.getD s undef) ds w) (hm:μ (T.getD s0 undef)<m):RoundEnd tm ss s0 rel μ m { tmps:=T,defers:=ds } w:=⟨⟨_,hT.symm,hr⟩,hm⟩
theorem lD {Q:Exit->Act->World->Prop} {c:Code} (ss:List Nat) (s0:Nat) (rel:(Nat->Value)->List Deferred->World->Prop) (μ:Value->Nat)
  (gY:s0<tm.size) (jP:s0∈ss) (h0:rel (fun s=>tm.getD s undef) ds w)
  (round:∀ us ds' wr,rel us ds' wr->c.wpIn F n P (Exit.then (RoundEnd tm ss s0 rel μ (μ (us s0))) Q) { tmps:=jd tm us ss,defers:=ds' } wr) :
  (Code.loop c).wpIn F n P Q { tmps:=tm,defers:=ds } w:=by
 refine wpIn_loop (fun a w=>∃us,a.tmps=jd tm us ss/\rel us a.defers w) (fun a _=>μ (a.tmps.getD s0 undef)) ⟨_,(yB tm ss).symm,h0⟩ ?_;have Jz:∀ us,(jd tm us ss).getD s0 undef=us s0:=fun us=>BD tm us s0 gY ss jP;rintro ⟨T,ds'⟩ wr ⟨us,hT,hr⟩;simp only at hT hr;subst hT;refine wpIn_mono (round us ds' wr hr) ?_;intro e a' w' h
 cases e with
 | normal=>exact ⟨h.1,by have:=h.2;rw[<-Jz us]at this;exact this⟩
 | _=>exact h
def mkD (D:Nat):Deferred:={ target:=.collected D,args:=#[] }
def Marks (B:Nat) (w:World) (ds:List Deferred):Prop:=∃Ds:List Nat,ds=Ds.map mkD/\Ds.Nodup/\∀ D∈Ds,B<=D/\w.heap[D]?=some (.deferred (some []))
theorem Marks.nil (B:Nat) (w:World):Marks B w []:=⟨[],rfl,List.nodup_nil,fun _ h=>by cases h⟩
theorem Marks.move (h:Marks B w ds) (hk:∀ D,B<=D->w.heap[D]?=some (.deferred (some []))->w'.heap[D]?=some (.deferred (some []))):Marks B w' ds:=by
 obtain ⟨Ds,rfl,hn,h⟩:=h;exact ⟨Ds,rfl,hn,fun D hD=>⟨(h D hD).1,hk D (h D hD).1 (h D hD).2⟩⟩
theorem Marks.more {D:Nat} (h:Marks B w ds) (hk:∀ D,B<=D->w.heap[D]?=some (.deferred (some []))->w'.heap[D]?=some (.deferred (some []))) (hD:w.heap.size<=D) (hB:B<=D) (hd:w'.heap[D]?=some (.deferred (some []))):Marks B w' ({ target:=.collected D,args:=#[] } :: ds):=by
 obtain ⟨Ds,rfl,hn,h⟩:=h;refine ⟨D :: Ds,rfl,List.nodup_cons.2 ⟨fun hm=>?_,hn⟩,fun E hE=>?_⟩
 ·have:=(bz (h D hm).2);omega
 ·rcases cd.1 hE with rfl | hE
  ·exact ⟨hB,hd⟩
  ·exact ⟨(h E hE).1,hk E (h E hE).1 (h E hE).2⟩
theorem em {fn:Func} {tmps:Array Value} {R:Ending->World->Prop} (h:Marks B w ds) (hR:∀ w',Nw B w w'->LeavesInM F n P fn tmps R [] .returning w'):LeavesInM F n P fn tmps R ds .returning w:=by
 obtain ⟨Ds,rfl,hn,h⟩:=h
 induction Ds generalizing w with
 | nil=>exact hR w (Nw.refl _ _)
 | cons D Ds ih=>
  have hd:=h D (f8 ..);have hD:=(List.nodup_cons.1 hn).1;refine ⟨by simp,.inl ⟨D,_,rfl,run_takeDeferred hd.2,?_⟩⟩;have hw:Nw B w (w.putObj D (.deferred none)):=Nw.put hd.1 hd.2 rfl rfl;refine ih (fun w' hk=>hR w' (hw.trans hk)) (List.nodup_cons.1 hn).2 (fun E hE=>⟨(h E (fD _ hE)).1,?_⟩);exact (nW (fun e=>hD (by rw[<-e];exact hE))).trans (h E (fD _ hE)).2
