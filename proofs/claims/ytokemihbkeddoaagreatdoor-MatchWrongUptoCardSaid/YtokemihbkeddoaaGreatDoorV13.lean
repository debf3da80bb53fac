/-
Rows of what metavariables stand for that a call makes,element by element.
-/
import Derived.Test.YtokemihbkeddoaaGreatDoorV11
namespace Go.Proofs.YtokemihbkeddoaaGreatDoor
open Go Go.RowKit Lib
set_option maxRecDepth 100000
set_option maxHeartbeats 64000000
variable {g lo cap R F:Nat} {v row:Value} {W W' W1 w4 wr A:World} {x:Str} {t:Fm} {T:TypeId} {o:Obj}
theorem Aj {w:World} {base size n c:Nat} {e:TypeId} {xs:List Value} (h:w.ownsRow base e size (.slice (some ⟨g,0,none⟩) n c) n xs):n<=c:=by
 exact pm168
def BF (e:Str×FQ):List Value:=.string ⟨e.1.toArray⟩ :: e.2.cells
theorem Qp (es:List (Str×FQ)):∀ j (h:j<es.length),(es.flatMap BF)[j * 5]?=some (.string ⟨es[j].1.toArray⟩)/\(es.flatMap BF)[j * 5+1]?=some (.int .u8 es[j].2.o)/\(es.flatMap BF)[j * 5+2]?=some (.string es[j].2.n)/\(es.flatMap BF)[j * 5+3]?=some (.slice es[j].2.a es[j].2.l es[j].2.c)/\(es.flatMap BF)[j * 5+4]?=some (.slice es[j].2.b es[j].2.m es[j].2.e):=by
 induction es with
 | nil=>intro j h;simp at h
 | cons q es ih=>
  intro j h
  cases j with
  | zero=>simp[BF,FQ.cells]
  | succ j=>
   have:=ih j (by simpa using h);simp only[List.flatMap_cons,BF,FQ.cells,nK,rU];rw[show (j+1) * 5=j * 5+1+1+1+1+1 by omega,show j * 5+1+1+1+1+1+1=(j * 5+1)+1+1+1+1+1 by omega,show j * 5+1+1+1+1+1+2=(j * 5+2)+1+1+1+1+1 by omega,show j * 5+1+1+1+1+1+3=(j * 5+3)+1+1+1+1+1 by omega,show j * 5+1+1+1+1+1+4=(j * 5+4)+1+1+1+1+1 by omega];simpa[BF,FQ.cells] using this
def RowFB (lo:Nat) (v:Value) (l:List (Str×Fm)) (W:World):Prop:=
 ∃es:List (Str×FQ),es.length=l.length/\W.ownsRow lo 40 5 v l.length (es.flatMap BF)/\∀ j (h:j<es.length) (h2:j<l.length),es[j].1=l[j].1/\FormV (fun b=>lo<=b/\v.ownBlock≠some b) W es[j].2.val l[j].2
theorem RowFB.nil (lo:Nat) (W:World):RowFB lo (.slice none 0 0) [] W:=⟨[],rfl,World.ownsRow_nil _ _ _ _,fun j h=>by simp at h⟩
theorem RowFB.slice {ts:List (Str×Fm)} (h:RowFB lo v ts W):∃a c,v=.slice a ts.length c:=by
 obtain ⟨es,_,ho,_⟩:=h;exact pm182
theorem RowFB.held {ts:List (Str×Fm)} (h:RowFB lo v ts W) (hb:∀ b,lo<=b->b<W.heap.size->W'.heap[b]?=W.heap[b]?):RowFB lo v ts W':=by
 exact pm211
theorem RowFB.below {ts:List (Str×Fm)} (h:RowFB lo v ts W) (hb:Below W.heap.size W W'):RowFB lo v ts W':=h.held (fun b _ hlt=>hb.block b hlt)
theorem RowFB.binds {ts:List (Str×Fm)} (h:RowFB lo v ts W):FBindsV (lo<=·) W v ts:=by
 obtain ⟨es,hk,ho,ht⟩:=h;have pp178:=();exact pm178
theorem RowFB.step {ts:List (Str×Fm)} {qs:List (Str×FQ)} {q:FQ} (hk:qs.length=ts.length) (hb:Below W.heap.size W W1) (hlo:lo<=W.heap.size)
  (ht:∀ j (h:j<qs.length) (h2:j<ts.length),qs[j].1=ts[j].1/\FormV (fun b=>lo<=b/\v.ownBlock≠some b) W qs[j].2.val ts[j].2) (hv:∀ b,v.ownBlock=some b->b<W.heap.size)
  (hq:FormV (W.heap.size<=·) W1 q.val t) (aR:w4.ownsRow lo 40 5 (.slice (some ⟨g,0,none⟩) (ts.length+1) cap) (ts.length+1) (qs.flatMap BF ++ BF (x,q)))
  (hold:∀ c,lo<=c->c<W1.heap.size->v.ownBlock≠some c->w4.heap[c]?=W1.heap[c]?) (hg:v.ownBlock=some g\/W1.heap.size<=g) :
  RowFB lo (.slice (some ⟨g,0,none⟩) (ts.length+1) cap) (ts ++ [(x,t)]) w4:=by
 exact pm43
theorem Fills.stepFB {mk:Value->Array Value} {ts:List (Str×Fm)} {qs:List (Str×FQ)} {p:FQ}
  (h:Fills T R lo mk (fun r=>RowFB lo r ts) W1 wr row) (au:wr.ownsRow lo 40 5 row ts.length (qs.flatMap BF)) (ew:qs.length=ts.length) (gh:∀ j (h:j<qs.length) (h2:j<ts.length),qs[j].1=ts[j].1/\FormV (fun b=>lo<=b/\row.ownBlock≠some b) wr qs[j].2.val ts[j].2)
  (hA:Below wr.heap.size wr A) (hp:FormV (wr.heap.size<=·) A p.val t)
  (aR:w4.ownsRow lo 40 5 (.slice (some ⟨g,0,none⟩) (ts.length+1) cap) (ts.length+1) (qs.flatMap BF ++ BF (x,p))) (ap:(A.alloc o).grownBy w4 row.ownBlock) (hg:row.ownBlock=some g\/g=A.heap.size+1)
  (wV:(mk row).setIfInBounds F (.slice (some ⟨g,0,none⟩) (ts.length+1) cap)=mk (.slice (some ⟨g,0,none⟩) (ts.length+1) cap)) :
  Fills T R lo mk (fun r=>RowFB lo r (ts ++ [(x,t)])) W1 (w4.setCell ⟨R,F,none⟩ (.slice (some ⟨g,0,none⟩) (ts.length+1) cap)) (.slice (some ⟨g,0,none⟩) (ts.length+1) cap):=by
 have pp86c:=();exact pm86
theorem s_:(Tryz.prog.info? 40).map (fun i=>(i.zero,i.size,i.bytes))=some (some (.agg #[.string ByteArray.empty,.int .u8 0,.string ByteArray.empty,.slice none 0 0,.slice none 0 0]),5,88):=by kernel_rfl
def BT (e:Str×TQ):List Value:=.string ⟨e.1.toArray⟩ :: e.2.cells
theorem Xs (es:List (Str×TQ)):∀ j (h:j<es.length),(es.flatMap BT)[j * 4]?=some (.string ⟨es[j].1.toArray⟩)/\(es.flatMap BT)[j * 4+1]?=some (.bool es[j].2.v)/\(es.flatMap BT)[j * 4+2]?=some (.string es[j].2.n)/\(es.flatMap BT)[j * 4+3]?=some (.slice es[j].2.a es[j].2.l es[j].2.c):=by
 induction es with
 | nil=>intro j h;simp at h
 | cons q es ih=>
  intro j h
  cases j with
  | zero=>simp[BT,TQ.cells]
  | succ j=>
   have:=ih j (by simpa using h);simp only[List.flatMap_cons,BT,TQ.cells,nK,rU];exact pm165
def RowTB (lo:Nat) (v:Value) (l:List (Str×Tm)) (W:World):Prop:=
 ∃es:List (Str×TQ),es.length=l.length/\W.ownsRow lo 47 4 v l.length (es.flatMap BT)/\∀ j (h:j<es.length) (h2:j<l.length),es[j].1=l[j].1/\TermV (fun b=>lo<=b/\v.ownBlock≠some b) W es[j].2.val l[j].2
theorem RowTB.nil (lo:Nat) (W:World):RowTB lo (.slice none 0 0) [] W:=⟨[],rfl,World.ownsRow_nil _ _ _ _,fun j h=>by simp at h⟩
theorem RowTB.slice {ts:List (Str×Tm)} (h:RowTB lo v ts W):∃a c,v=.slice a ts.length c:=by
 obtain ⟨es,_,ho,_⟩:=h;exact pm182
theorem RowTB.held {ts:List (Str×Tm)} (h:RowTB lo v ts W) (hb:∀ b,lo<=b->b<W.heap.size->W'.heap[b]?=W.heap[b]?):RowTB lo v ts W':=by
 exact pm211
theorem RowTB.below {ts:List (Str×Tm)} (h:RowTB lo v ts W) (hb:Below W.heap.size W W'):RowTB lo v ts W':=h.held (fun b _ hlt=>hb.block b hlt)
theorem RowTB.binds {ts:List (Str×Tm)} (h:RowTB lo v ts W):TBindsV (lo<=·) W v ts:=by
 obtain ⟨es,hk,ho,ht⟩:=h;rcases eM ho with ⟨rfl,h0⟩ | ⟨g,cap,rfl,hg,_⟩
 ·obtain rfl:=jj h0;exact ⟨none,0,fun _=>⟨false,⟨#[]⟩,none,0,0⟩,rfl,aF _,.inl rfl,fun j hj=>by simp at hj⟩
 ·refine ⟨_,cap,fun j=>if h:j<es.length then es[j].2 else ⟨false,⟨#[]⟩,none,0,0⟩,rfl,Aj ho,.inr ⟨g,0,rfl,hg,fun j hj=>?_⟩,fun j hj=>?_⟩
  ·have pD:j<es.length:=by omega
   obtain ⟨c0,c1,c2,c3⟩:=Xs es j pD;have pp180:=();exact pm180
  ·have pD:j<es.length:=by omega
   simp only[dif_pos pD];exact (ht j pD hj).2.move (fun b hok _=>⟨hok.1,rfl⟩)
theorem RowTB.step {ts:List (Str×Tm)} {t:Tm} {qs:List (Str×TQ)} {q:TQ} (hk:qs.length=ts.length) (hb:Below W.heap.size W W1) (hlo:lo<=W.heap.size)
  (ht:∀ j (h:j<qs.length) (h2:j<ts.length),qs[j].1=ts[j].1/\TermV (fun b=>lo<=b/\v.ownBlock≠some b) W qs[j].2.val ts[j].2) (hv:∀ b,v.ownBlock=some b->b<W.heap.size)
  (hq:TermV (W.heap.size<=·) W1 q.val t) (aR:w4.ownsRow lo 47 4 (.slice (some ⟨g,0,none⟩) (ts.length+1) cap) (ts.length+1) (qs.flatMap BT ++ BT (x,q)))
  (hold:∀ c,lo<=c->c<W1.heap.size->v.ownBlock≠some c->w4.heap[c]?=W1.heap[c]?) (hg:v.ownBlock=some g\/W1.heap.size<=g) :
  RowTB lo (.slice (some ⟨g,0,none⟩) (ts.length+1) cap) (ts ++ [(x,t)]) w4:=by
 exact pm43
theorem Fills.stepTB {mk:Value->Array Value} {ts:List (Str×Tm)} {t:Tm} {qs:List (Str×TQ)} {p:TQ}
  (h:Fills T R lo mk (fun r=>RowTB lo r ts) W1 wr row) (au:wr.ownsRow lo 47 4 row ts.length (qs.flatMap BT)) (ew:qs.length=ts.length) (gh:∀ j (h:j<qs.length) (h2:j<ts.length),qs[j].1=ts[j].1/\TermV (fun b=>lo<=b/\row.ownBlock≠some b) wr qs[j].2.val ts[j].2)
  (hA:Below wr.heap.size wr A) (hp:TermV (wr.heap.size<=·) A p.val t)
  (aR:w4.ownsRow lo 47 4 (.slice (some ⟨g,0,none⟩) (ts.length+1) cap) (ts.length+1) (qs.flatMap BT ++ BT (x,p))) (ap:(A.alloc o).grownBy w4 row.ownBlock) (hg:row.ownBlock=some g\/g=A.heap.size+1)
  (wV:(mk row).setIfInBounds F (.slice (some ⟨g,0,none⟩) (ts.length+1) cap)=mk (.slice (some ⟨g,0,none⟩) (ts.length+1) cap)) :
  Fills T R lo mk (fun r=>RowTB lo r (ts ++ [(x,t)])) W1 (w4.setCell ⟨R,F,none⟩ (.slice (some ⟨g,0,none⟩) (ts.length+1) cap)) (.slice (some ⟨g,0,none⟩) (ts.length+1) cap):=by
 exact pm86
theorem Ke:(Tryz.prog.info? 47).map (fun i=>(i.zero,i.size,i.bytes))=some (some (.agg #[.string ByteArray.empty,.bool false,.string ByteArray.empty,.slice none 0 0]),4,64):=by kernel_rfl
end Go.Proofs.YtokemihbkeddoaaGreatDoor
namespace Go.Proofs
open Go.RowKit Go.Maps Go.Sort Go.Shelf
shelf_lay_g SlLaysZ.n7 Ggz 7 at Tryz 104 as Tryz.keysF
shelf_lay_g SlLaysZ.n7 Ggz 7 at Tryz 105 as Tryz.keysT
end Go.Proofs
namespace Go.Proofs.YtokemihbkeddoaaGreatDoor
open Go Go.RowKit Go.Maps Go.Sort Go.Shelf
theorem Nr (mb:Option Nat) (W:World):Calls Tryz.prog 104 #[.map mb] W fun e w'=>e=.returned (.func (.func 169) #[] #[.pointer (some ⟨W.heap.size,0,none⟩)])/\w'=W.alloc (.cells #[.map mb] 145):=
 aL.1 (AnyZ.keys_in Tryz.keysF Fence.wide 5 trivial rfl mb W)
theorem Ns (mb:Option Nat) (W:World):Calls Tryz.prog 105 #[.map mb] W fun e w'=>e=.returned (.func (.func 170) #[] #[.pointer (some ⟨W.heap.size,0,none⟩)])/\w'=W.alloc (.cells #[.map mb] 146):=
 aL.1 (AnyZ.keys_in Tryz.keysT Fence.wide 5 trivial rfl mb W)
theorem oo:∀ {l:List Str},dD l=true->Up l
 | [],_=>List.Pairwise.nil
 | x :: l,h=>by
  obtain ⟨h1,h2⟩:=mV.1 h;have h3:=oo h2;refine List.pairwise_cons.2 ⟨fun y hy=>?_,h3⟩
  cases l with
  | nil=>cases hy
  | cons z l=>
   have h4:=h1 z rfl;rcases dw.1 hy with rfl | hy
   ·exact h4
   ·exact tT _ _ _ h4 ((List.pairwise_cons.1 h3).1 y hy)
theorem EX {l:List Str} (h:Up l):cm l=l:=Jh _ _ (sL l) h (fun x=>dL x l)
theorem Hg {V:Value->Fm->Prop} (m n:Nat) (l:List (Str×Fm)) (hn:n<=3000000) (hup:Up (l.map (·.1))) (W:World) (hs:MapV Tryz.prog 9 V W m n l) :
  Calls Tryz.prog 74 #[.func (.func 169) #[] #[.pointer (some ⟨W.heap.size,0,none⟩)]] (W.alloc (.cells #[.map (some m)] 145)) fun e w'=>∃v,e=.returned v/\RowS W.heap.size w' v (l.map (·.1))/\RowKit.Below W.heap.size W w':=by
 obtain ⟨D0,au,hx⟩:=hs;have Om:=au.lt;have hsz:=au.size_le;have oB:SeqGives Fence.wide 2 Tryz.prog 169 #[.pointer (some ⟨W.heap.size,0,none⟩)] encStr (fun ss=>ss.Perm (strKeys D0)) (Maps.size D0) (W.alloc (.cells #[.map (some m)] 145)):=
  AnyZ.keys_gives (ρ:=Tryz.keysF_ren) { Tryz.keysF with } Fence.wide _ trivial rfl (by omega) W.heap.size m n D0 _ (by simp) (by simp) (au.alloc _)
 have cS:=AnyZ.sorted_in Tryz.sortedA Fence.wide 5 trivial trivial trivial trivial rfl (by omega) (Tryz.sortsA _) (enters_of Tryz.func134 (by kernel_rfl) rfl) 169 #[.pointer (some ⟨W.heap.size,0,none⟩)] trivial (enters_of Tryz.func169 (by kernel_rfl) rfl) _ _ (by unfold maxLen;omega) (by omega) _ oB;exact pm28
theorem Hh {V:Value->Tm->Prop} (m n:Nat) (l:List (Str×Tm)) (hn:n<=3000000) (hup:Up (l.map (·.1))) (W:World) (hs:MapV Tryz.prog 9 V W m n l) :
  Calls Tryz.prog 74 #[.func (.func 170) #[] #[.pointer (some ⟨W.heap.size,0,none⟩)]] (W.alloc (.cells #[.map (some m)] 146)) fun e w'=>∃v,e=.returned v/\RowS W.heap.size w' v (l.map (·.1))/\RowKit.Below W.heap.size W w':=by
 obtain ⟨D0,au,hx⟩:=hs;have Om:=au.lt;have hsz:=au.size_le;have oB:SeqGives Fence.wide 2 Tryz.prog 170 #[.pointer (some ⟨W.heap.size,0,none⟩)] encStr (fun ss=>ss.Perm (strKeys D0)) (Maps.size D0) (W.alloc (.cells #[.map (some m)] 146)):=
  AnyZ.keys_gives (ρ:=Tryz.keysT_ren) { Tryz.keysT with } Fence.wide _ trivial rfl (by omega) W.heap.size m n D0 _ (by simp) (by simp) (au.alloc _)
 have cS:=AnyZ.sorted_in Tryz.sortedA Fence.wide 5 trivial trivial trivial trivial rfl (by omega) (Tryz.sortsA _) (enters_of Tryz.func134 (by kernel_rfl) rfl) 170 #[.pointer (some ⟨W.heap.size,0,none⟩)] trivial (enters_of Tryz.func170 (by kernel_rfl) rfl) _ _ (by unfold maxLen;omega) (by omega) _ oB;exact pm28
end Go.Proofs.YtokemihbkeddoaaGreatDoor
namespace Go.Proofs.YtokemihbkeddoaaGreatDoor
open Go Go.RowKit Go.Maps Go.Sort Go.Shelf
variable {α:Type} {X:World} {B:Nat} {c0 c1:Value} {T:TypeId}
attribute [local go_sem] Oper.semAt_some
theorem MapV.len {k:TypeId} {V:Value->α->Prop} {W:World} {m n:Nat} {l:List (Str×α)} (hk:Tryz.prog.underlying k=some .string) (h:MapV Tryz.prog k V W m n l) (hup:Up (l.map (·.1))):l.length<=n:=by
 obtain ⟨D0,au,hx⟩:=h;obtain ⟨es,hD,V_,_⟩:=au.entries (Maps.string_keyed hk);obtain ⟨Sz,O3,Wc⟩:=au.keysOf;obtain rfl:es=Sz:=by rw[hD]at O3;simpa using O3
 have hsz:=au.size_le;have nD:(cm (l.map (·.1))).Perm (strKeys D0):=by
  rw[hD];refine perm_strKeys V_ (fun p hp=>by obtain ⟨v,hv⟩:=Wc p hp;obtain ⟨x,_,hx,_⟩:=Maps.keyOf_str hk hv;exact ⟨x,hx⟩) (j9 (sL _)) (fun x=>?_);rw[dL,<-hD]
  cases hg:getB l x with
  | none=>rw[(hx x).1 hg];simp only[bZ,iff_false];exact (gQ l x).1 hg
  | some a=>
   have h1:x∈l.map (·.1):=by
    by_cases h:x∈l.map (·.1)
    ·exact h
    ·rw[(gQ l x).2 h]at hg;cases hg
   exact ⟨fun _=>((hx x).2 a hg).1,fun _=>h1⟩
 have h1:=nD.length_eq;rw[EX hup]at h1;have h2:(strKeys D0).length<=Maps.size D0:=by
  rw[hD];simp only[strKeys,Maps.size];simp
 simp at h1;omega
theorem tb (hx:X.heap[B]?=some (.cells #[c0,c1] T (0,0))):X.cell? ⟨B,0,none⟩=some c0/\X.cell? ⟨B,1,none⟩=some c1/\X.frozen? ⟨B,0,none⟩=false/\X.frozen? ⟨B,1,none⟩=false:=
 ⟨ah hx 0,ah hx 1,ac hx 0,ac hx 1⟩
theorem Cm (hx:X.heap[B]?=some (.cells #[c0,c1] T (0,0))) (v0 v1:Value):∃W6,W6=(X.setCell ⟨B,0,none⟩ v0).setCell ⟨B,1,none⟩ v1/\W6.heap[B]?=some (.cells #[v0,v1] T (0,0))/\Kp (fun b=>b=B) X W6/\W6.cell? ⟨B,0,none⟩=some v0/\W6.cell? ⟨B,1,none⟩=some v1:=by
 have h0:=bm (F:=0) hx v0;have h1:=(bm (F:=1) h0 v1).trans rfl;exact ⟨_,rfl,h1,⟨rfl,rfl,rfl,by simp,fun c _ hc=>(d9 _ _ _ _ (by simpa using hc)).trans (d9 _ _ _ _ (by simpa using hc))⟩,ah h1 0,ah h1 1⟩
theorem LR {l:List (Str×α)} (h:(l.map (·.1)).Nodup) {j:Nat} (hj:j<l.length):getB l l[j].1=some l[j].2:=by
 have h1:=wl h hj l[j].1;rw[aX rfl]at h1;have h2:∀ (a b:List (Str×α)) (x:Str) (v:α),getB a x=some v->getB (a ++ b) x=some v:=by
  intro a b x v ha
  induction a with
  | nil=>cases ha
  | cons z a ih=>
   obtain ⟨z1,z2⟩:=z;simp only[nK,getB]at ha ⊢
   by_cases hz:(z1 == x)=true
   ·simpa[hz] using ha
   ·simp only[hz]at ha ⊢;exact ih ha
 have h3:=h2 _ (l.drop (j+1)) _ _ h1
 rwa [List.take_append_drop]at h3
theorem Hi (k:Bd) (hv:validB k=true) (PF:Fm->Prop) (PT:Tm->Prop) (hPF:∀ f,PF f->fitF f) (UX:∀ t,PT t->fitT t) (ok:Nat->Prop) (w:World) (kb mF mT nF nT:Nat) (dV:KnV ok PF PT w kb mF mT nF nT k) (rP:nF<=3000000) (qw:nT<=3000000) :
  Calls Tryz.prog 50 #[.pointer (some ⟨kb,0,none⟩)] w fun e w'=>(∃q:BQ,e=.returned q.val/\BindV (w.heap.size<=·) w' q k)/\Below w.heap.size w w':=by
 obtain ⟨pY,hi,yF,vX,yX⟩:=info_parts s_;obtain ⟨Ec,hq,hqa,Ot,hqc⟩:=info_parts Ke;have jS:=hv;simp only[validB,ae,List.all_eq_true]at jS;have huF:=oo jS.2.1;have huT:=oo jS.2.2;have hlF:=dV.fs.len Tryz.underlying9 huF;have hlT:=dV.ts.len Tryz.underlying9 huT;obtain ⟨n1,dT⟩:=ao k.fs.length;obtain ⟨n2,ks⟩:=ao k.ts.length;have MY:n1<=3000000:=by omega
 have SR:n2<=3000000:=by omega
 have HN:=aC dT ks;have HP:=cC (j9 huF) (j9 huT) hPF UX;have Jc:=aC (show ∀ x∈k.fs,x.1.length<=2000000 from fun x hx=>by have:=zV (jS.1.1 x hx).1;omega) (show ∀ x∈k.ts,x.1.length<=2000000 from fun x hx=>by have:=gp (jS.1.2 x hx).1;omega);obtain ⟨W2,bl⟩:=ao ((w.alloc (.cells #[.slice none 0 0,.slice none 0 0] 26)).alloc (.cells #[.slice none 0 0,.slice none 0 0] 26));have bF:=lB bl;have gV:=xV bl;have x0:=rV bl;have x1:=jC bl;have eX:=dV.later bF;have k0:=ah eX.box 0;have CK:=Hg mF nF k.fs rP huF W2 eX.fs;have PV:=ab (fun (V:World) (m n:Nat) (hs:MapV Tryz.prog 9 (TermK ok PT V) V m n k.ts) (h:n<=3000000)=>Hh m n k.ts h huT V hs);have ZG:=ab CK;have H2:=cC bF gV x0 x1;have IT:=ab dV;have HNB:=aC rP qw;have gF:=ab bl;rw[bl]at k0;clear hv jS huF huT hlF hlT hPF UX dV bF gV x0 x1 eX CK bl rP qw dT ks;go_enter Tryz.func50,Tryz.ntmps50;go_wp2_with (first | (go_at_call 104;rw[<-gF.o];refine (Nr _ _).mono ?_;rintro e w4 ⟨rfl,rfl⟩) | (go_at_call 74;refine ZG.o.mono ?_;rintro e w5 ⟨v5,rfl,IL,bi⟩;obtain ⟨ka,kc,rfl⟩:=IL.strs.slice;have H5:=aC IL bi;clear IL bi));obtain ⟨W3,ec⟩:=ao w5;obtain ⟨Tj,yk⟩:=aZ H5.o.1.strs H5.o.2;clear H5;rw[List.length_map,<-HN.o.1]at Tj;rw[<-HN.o.1];rw[<-ec]at Tj yk ⊢;clear ec w5;have za3:Below w.heap.size w W3:=H2.o.1.tr yk.o;have Ow:=bT yk.o H2.o.2.2.2;have x03:=bT yk.o H2.o.2.2.1;have Xt:=ab (Fills.start (R:=w.heap.size+1) (mk:=fun rr=>#[rr,.slice none 0 0]) (Row:=fun r W=>RowFB W3.heap.size r (k.fs.take 0) W) Ow (RowFB.nil _ _));have MA:=ab x03;have H3:=bE za3 Tj.o H2.o.2.1;clear za3 Ow x03 Tj;go_loopw [15] (fun i wr=>∃j:Nat,j<=n1/\i=.int .i64 j/\∃row,Fills 26 (w.heap.size+1) W3.heap.size (fun rr=>#[rr,.slice none 0 0]) (fun r W=>RowFB W3.heap.size r (k.fs.take j) W) W3 wr row) (fun i _=>n1 - (intOf i).toNat)
 case atStart=>exact ⟨0,bc _,rfl,_,Xt.o⟩
 case round=>
  obtain ⟨j,hj,rfl,row,hF⟩:=hrel;have ar:=hF.below H3.o.1 (by omega)
  by_cases hlt:j<n1
  ·have dG:j<k.fs.length:=by rw[<-HN.o.1];exact hlt
   have dV:j<(k.fs.map (·.1)).length:=by simpa using dG
   obtain ⟨bk,MV,rfl,hbk,ck⟩:=H3.o.2.1.get dV;obtain ⟨nm,dK⟩:=ao (k.fs[j].1);simp only[List.getElem_map,<-dK]at ck;have LS:=LR HP.o.1 dG;rw[<-dK]at LS;have Qq:Kp (fun b=>b=w.heap.size+1) W3 wr:=hF.kp;have Qr:bk≠w.heap.size+1:=by have:=H3.o.2.2;omega
   have dk:=Qq.cell (a:=⟨bk,MV+j,none⟩) Qr ck;have jf:=IT.o.later ar;rcases jf.fs.look Tryz.underlying9 Tryz.underlying145 l9 (x:=nm) (by rw[dK];exact Jc.o.1 _ (az dG)) with ⟨hg,_⟩ | ⟨g,vg,hg,hvg,hlk⟩
   ·rw[LS]at hg;cases hg
   rw[LS]at hg;obtain rfl:k.fs[j].2=g:=by injection hg
   obtain ⟨⟨g0,g1,g2,g3,g4,g5,g6,g7⟩,rfl,oZ,GW⟩:=hvg;simp only[FQ.val]at hlk;have cb:(k.fs.take j).length=j:=by rw[dX];omega
   have pp222:=();exact pm222
  ·obtain rfl:n1=j:=by omega
   have cb:(k.fs.take n1).length=n1:=by rw[dX];have:=HN.o;omega
   have j4:k.fs.take n1=k.fs:=ii (by have:=HN.o;omega);obtain ⟨fra,frc,rfl⟩:=hF.row.slice;rw[cb]at hF;rw[j4]at hF;have HRF:=ab hF.row;have jf:=IT.o.later ar;have xb:=hF.box;have kpF:=hF.kp;have za4:=hF.size;obtain ⟨wo,JB⟩:=ao wr;subst JB;have k1:=ah jf.box 1;have zc2:=ab (PV.o wo mT nT jf.ts HNB.o.2);have HO:=cC ar xb kpF za4;clear ar jf xb kpF za4 hF cb j4;go_wp2_with (first | (go_at_call 105;refine (Ns _ _).mono ?_;rintro e w4 ⟨rfl,rfl⟩) | (go_at_call 74;refine zc2.o.mono ?_;rintro e w5 ⟨v5,rfl,IL,bi⟩;obtain ⟨kta,ktc,rfl⟩:=IL.strs.slice;have H5:=aC IL bi;clear IL bi));clear k1;obtain ⟨W6,cP⟩:=ao w5;obtain ⟨Tj,Hj⟩:=aZ H5.o.1.strs H5.o.2;clear H5;rw[List.length_map,<-HN.o.2]at Tj;rw[<-HN.o.2];rw[<-cP]at Tj Hj ⊢;clear cP w5;have za5:Below w.heap.size w W6:=HO.o.1.tr Hj.o;have Sc:=bT Hj.o HO.o.2.1;have Xu:=ab (Fills.start (R:=w.heap.size+1) (mk:=fun rr=>#[.slice fra n1 frc,rr]) (Row:=fun r W=>RowTB W6.heap.size r (k.ts.take 0) W) Sc (RowTB.nil _ _));have H6:=bE za5 Tj.o (show w.heap.size+1<wo.heap.size from (bn HO.o.2.1));clear za5 Sc Tj;go_loopw [41] (fun i wr=>∃j:Nat,j<=n2/\i=.int .i64 j/\∃row,Fills 26 (w.heap.size+1) W6.heap.size (fun rr=>#[.slice fra n1 frc,rr]) (fun r W=>RowTB W6.heap.size r (k.ts.take j) W) W6 wr row) (fun i _=>n2 - (intOf i).toNat)
   case atStart=>exact ⟨0,bc _,rfl,_,Xu.o⟩
   case round=>
    obtain ⟨j,hj,rfl,row,hF⟩:=hrel;have ar:=hF.below H6.o.1 (by omega)
    by_cases hlt:j<n2
    ·have dG:j<k.ts.length:=by rw[<-HN.o.2];exact hlt
     have dV:j<(k.ts.map (·.1)).length:=by simpa using dG
     obtain ⟨bk,MV,rfl,hbk,ck⟩:=H6.o.2.1.get dV;obtain ⟨nm,dK⟩:=ao (k.ts[j].1);simp only[List.getElem_map,<-dK]at ck;have LS:=LR HP.o.2.1 dG;rw[<-dK]at LS;have Qq:Kp (fun b=>b=w.heap.size+1) W6 wr:=hF.kp;have Qr:bk≠w.heap.size+1:=by have:=H6.o.2.2;omega
     have dk:=Qq.cell (a:=⟨bk,MV+j,none⟩) Qr ck;have jf:=IT.o.later ar;rcases jf.ts.look Tryz.underlying9 Tryz.underlying146 jK (x:=nm) (by rw[dK];exact Jc.o.2 _ (az dG)) with ⟨hg,_⟩ | ⟨g,vg,hg,hvg,hlk⟩
     ·rw[LS]at hg;cases hg
     rw[LS]at hg;obtain rfl:k.ts[j].2=g:=by injection hg
     obtain ⟨⟨g0,g1,g2,g3,g4⟩,rfl,oZ,GW⟩:=hvg;simp only[TQ.val]at hlk;have cb:(k.ts.take j).length=j:=by rw[dX];omega
     exact pm222
    ·obtain rfl:n2=j:=by omega
     have cb:(k.ts.take n2).length=n2:=by rw[dX];have:=HN.o;omega
     have j4:k.ts.take n2=k.ts:=ii (by have:=HN.o;omega);obtain ⟨ra,rc,rfl⟩:=hF.row.slice;rw[cb]at hF;rw[j4]at hF;have V0:=ab hF.row;have hz:=HO.o.2.2.2;have gV:=Hj.o.size;have x02:=(hF.kp.same _ (by have:=(bn HO.o.2.1);omega) (by omega)).trans ((Hj.o.block _ (by have:=(bn HO.o.2.1);omega)).trans ((HO.o.2.2.1.same _ (bn MA.o) (by omega)).trans MA.o));obtain ⟨e0,e1,y0,y1⟩:=tb x02;obtain ⟨s0,s1,_,_⟩:=tb hF.box;have zc3:=ab (HRF.o.held (W':=wr) (fun b hb hlt=>(hF.kp.same b (bN hlt Hj.o.size) (by have:=H3.o.1.size;have:=H2.o.2.1;have:=yk.o.size;omega)).trans (Hj.o.block b hlt)));have HX:=aC x02 ar;clear hF ar x02 cb j4 hz gV;go_wp2;obtain ⟨W8,lQ,x8,k8,g0,g1⟩:=Cm HX.o.1 (.slice fra n1 frc) (.slice ra n2 rc);rw[<-lQ];refine bI (v:=BQ.val ⟨fra,n1,frc,ra,n2,rc⟩) (by simp[BQ.val,results,Tryz.results50,go_sem,g0,g1]) rfl ⟨⟨⟨fra,n1,frc,ra,n2,rc⟩,rfl,?_,?_⟩,Below.kp1 HX.o.2 k8 (by omega)⟩
     ·exact zc3.o.binds.move (fun b hb hlt=>⟨by have:=H3.o.1.size;omega,k8.same b hlt (by have:=H3.o.1.size;have:=H2.o.2.1;have:=yk.o.size;omega)⟩)
     ·exact V0.o.binds.move (fun b hb hlt=>⟨by have:=H6.o.1.size;omega,k8.same b hlt (by have:=H6.o.1.size;have:=Hj.o.size;have:=HO.o.2.2.2;have:=H3.o.1.size;have:=H2.o.2.1;have:=yk.o.size;omega)⟩)
end Go.Proofs.YtokemihbkeddoaaGreatDoor
namespace Go.Proofs.YtokemihbkeddoaaGreatDoor
open Go Go.RowKit Lib
set_option maxRecDepth 100000
set_option maxHeartbeats 64000000
variable {B n:Nat} {x:Str} {tm:Array Value} {ds:List Deferred} {w w':World} {F:Fence} {P:Program}
section
attribute [local go_sem] Oper.semAt_some
theorem Qs (k:Bd) (o:Int) (n:Str) (a:List Tm) (s:List Fm) (F:Fm) (c:Sco):kP k ⟨.mk o n a s,F,c⟩ =
  if (o != 16)=true then ((k,0):Bd×Int)
  else match getB k.fs n with
  | none=>(k,71)
  | some f=>match kv c [] F with
   | none=>(k,70)
   | some im=>
    if iC (bp (.mk o n a s)).1 f=0 then (if eB [] f im=true then (k,0) else (k,70))
    else match (match getB k.ts (bp (.mk o n a s)).2 with | some t=>some (t,k.ts) | none=>(jU f im (bp (.mk o n a s)).1).map fun t=>(t,iE (bp (.mk o n a s)).2 t k.ts)) with
     | none=>(k,70)
     | some (t,ts)=>if (nodesF f+iC (bp (.mk o n a s)).1 f * (nodesT t - 1) != nodesF im)=true then ({ k with ts:=ts },70)
      else if eB [] (iD (bp (.mk o n a s)).1 t f) im=true then ({ k with ts:=ts },0) else ({ k with ts:=ts },70):=rfl
theorem Kf {M:Nat->Prop} {W X Y:World} (h:Kp M W X) (k:Kp (fun b=>b=B) X Y) (hB:W.heap.size<=B):Kp M W Y:=
 ⟨k.os.trans h.os,k.tape.trans h.tape,k.output.trans h.output,aQ h.size k.size,fun b hb hm=>(k.same b (bN hb h.size) (by omega)).trans (h.same b hb hm)⟩
theorem Kg:∀ (l:List Tm) (i:Nat),fG x l≠0->(eC x l i).isSome=true:=by
 have Mu:∀ t:Tm,D3 x t≠0->(nN x t).isSome=true:=by
  exact pm166
 intro l
 induction l with
 | nil=>intro i h;simp[fG]at h
 | cons u a Xh=>
  intro i h;simp only[fG]at h;unfold eC
  cases hp:nN x u with
  | some p=>rfl
  | none=>
   simp only;refine Xh _ ?_;intro h0;have:=Mu u (by omega);rw[hp]at this;cases this
theorem Nt:∀ f:Fm,iC x f≠0->(lu x f).isSome=true:=by
 intro f
 induction f using Fm.ind with
 | h o n a s ih=>
 intro h;unfold lu
 cases hp:eC x a 0 with
 | some p=>rfl
 | none=>
  simp only;have h1:fG x a=0:=by
   by_cases h0:fG x a=0
   ·exact h0
   ·have:=Kg a 0 h0;rw[hp]at this;cases this
  simp only[iC,h1,Nat.zero_add]at h;clear hp h1;generalize 0=i
  induction s generalizing i with
  | nil=>simp[jT]at h
  | cons u s ihs=>
   simp only[jT]at h;unfold mg
   cases hp:lu x u with
   | some p=>rfl
   | none=>
    simp only;refine ihs (fun t ht=>ih t (iU _ ht)) ?_ _;intro h0;have:=ih u (ij ..) (by omega);rw[hp]at this;cases this
theorem Nu (W0:World):U5 W0 48 kP:=by
 intro M kb mF mT R5 R4 R6 Xa p hp ry W nF nT k q ps Xb z6 dV rP qw hpv;obtain ⟨⟨o,n,a,s⟩,F,c⟩:=p;exact pm73
def h_ (w:World) (q r:FQ):World:=(w.alloc (.cells #[.int .u8 q.o,.string q.n,.slice q.a q.l q.c,.slice q.b q.m q.e] 36)).alloc (.cells #[.int .u8 r.o,.string r.n,.slice r.a r.l r.c,.slice r.b r.m r.e] 36)
theorem fE (w:World) (q r:FQ):Below w.heap.size w (h_ w q r):=cQ.alloc (by simp) _
theorem kg (w:World) (q r:FQ):(h_ w q r).heap.size=w.heap.size+2:=by simp[h_]
theorem kZ (w:World) (q r:FQ):(h_ w q r).heap[w.heap.size]?=some (.cells #[.int .u8 q.o,.string q.n,.slice q.a q.l q.c,.slice q.b q.m q.e] 36 (0,0)):=by
 unfold h_;exact ((((ak _ (w.alloc (.cells #[.int .u8 q.o,.string q.n,.slice q.a q.l q.c,.slice q.b q.m q.e] 36))).alloc (aF _) _).block w.heap.size (by simp)).trans (aj rfl))
theorem k_ (w:World) (q r:FQ):(h_ w q r).heap[w.heap.size+1]?=some (.cells #[.int .u8 r.o,.string r.n,.slice r.a r.l r.c,.slice r.b r.m r.e] 36 (0,0)):=by
 unfold h_;exact aj (by simp)
theorem my (q r:FQ) (w:World) :
  Calls Tryz.prog 49 #[q.val,r.val] w fun e w'=>e=.returned (.func (.func 102) #[] #[.pointer (some ⟨w.heap.size,0,none⟩),.pointer (some ⟨w.heap.size+1,0,none⟩)])/\w'=h_ w q r:=by
 obtain ⟨o,n,a,l,c,b,m,e⟩:=q;obtain ⟨o2,n2,a2,l2,c2,b2,m2,e2⟩:=r;unfold FQ.val h_;go_enter Tryz.func49,Tryz.ntmps49;go_wp2;go_ret;exact ⟨by simp,rfl⟩
theorem mz (s f:Fm) (aA:fitF f) (JL:nodesF s<=1000000) (M:Nat->Prop) (B X Y:Nat) (w:World) (q r:FQ) (hX:w.heap[X]?=some (.cells #[.int .u8 q.o,.string q.n,.slice q.a q.l q.c,.slice q.b q.m q.e] 36 (0,0))) (IK:¬M X)
  (hY0:w.heap[Y]?=some (.cells #[.int .u8 r.o,.string r.n,.slice r.a r.l r.c,.slice r.b r.m r.e] 36 (0,0))) (XG:¬M Y) (hq:FormV (fun b=>b<B/\¬M b) w q.val s) (hr:FormV (fun b=>b<B/\¬M b) w r.val f) :
  I2 M True Tryz.prog 102 #[.pointer (some ⟨X,0,none⟩),.pointer (some ⟨Y,0,none⟩)] (bJ [] s f) (PJ M B) w:=by
 intro l J Jx W hk hM hl Zi hJ hJx hY hj;have RZ:=(bn hX);have hYl:=(bn hY0);have yd:=(hk.same X RZ IK).trans hX;have hYW:=(hk.same Y hYl XG).trans hY0;exact pm79
end
def jc (tm:Array Value) (us:Nat->Value):List Nat->Array Value
 | []=>tm
 | s :: l=>(jc tm us l).setIfInBounds s (us s)
theorem xH (tm:Array Value) (us:Nat->Value):∀ ss,(jc tm us ss).size=tm.size
 | []=>rfl
 | s :: l=>by simp only[jc,Array.size_setIfInBounds,xH tm us l]
theorem xI (tm:Array Value):∀ ss,jc tm (fun s=>tm.getD s undef) ss=tm
 | []=>rfl
 | s :: l=>by
  simp only[jc,xI tm l];apply Array.ext
  ·simp
  ·intro i h1 h2;rw[Array.getElem_setIfInBounds];split
   ·rename_i h;subst h;simp[Array.getD,h2]
   ·rfl
theorem Ao (tm:Array Value) (us:Nat->Value) (s0:Nat) (h0:s0<tm.size):∀ ss,s0∈ss->(jc tm us ss).getD s0 undef=us s0
 | [],h=>by cases h
 | s :: l,h=>by
  simp only[jc];have hz:=xH tm us l
  by_cases hs:s=s0
  ·subst hs;simp[Array.getD,hz,h0]
  ·have ih:=Ao tm us s0 h0 l (by rcases dw.1 h with h | h;exact absurd h.symm hs;exact h);rw[<-ih];simp only[Array.getD,Array.size_setIfInBounds]
   by_cases hlt:s0<(jc tm us l).size
   ·simp[hlt,hs]
   ·simp[hlt]
def RoundEnd (tm:Array Value) (ss:List Nat) (s0:Nat) (rel:(Nat->Value)->List Deferred->World->Prop) (μ:Value->Nat) (m:Nat) (a:Act) (w:World):Prop:=(∃us',a.tmps=jc tm us' ss/\rel us' a.defers w)/\μ (a.tmps.getD s0 undef)<m
theorem RoundEnd.mk {ss:List Nat} {s0:Nat} {rel:(Nat->Value)->List Deferred->World->Prop} {μ:Value->Nat} {m:Nat} {T:Array Value} (hT:jc tm (fun s=>T.getD s undef) ss=T) (hr:rel (fun s=>T.getD s undef) ds w) (hm:μ (T.getD s0 undef)<m):RoundEnd tm ss s0 rel μ m { tmps:=T,defers:=ds } w:=⟨⟨_,hT.symm,hr⟩,hm⟩
theorem lr {Q:Exit->Act->World->Prop} {c:Code} (ss:List Nat) (s0:Nat) (rel:(Nat->Value)->List Deferred->World->Prop) (μ:Value->Nat)
  (gx:s0<tm.size) (lg:s0∈ss) (h0:rel (fun s=>tm.getD s undef) ds w)
  (round:∀ us ds' wr,rel us ds' wr->c.wpIn F n P (Exit.then (RoundEnd tm ss s0 rel μ (μ (us s0))) Q) { tmps:=jc tm us ss,defers:=ds' } wr) :
  (Code.loop c).wpIn F n P Q { tmps:=tm,defers:=ds } w:=by
 refine wpIn_loop (fun a w=>∃us,a.tmps=jc tm us ss/\rel us a.defers w) (fun a _=>μ (a.tmps.getD s0 undef)) ⟨_,(xI tm ss).symm,h0⟩ ?_;have FD:∀ us,(jc tm us ss).getD s0 undef=us s0:=fun us=>Ao tm us s0 gx ss lg;rintro ⟨T,ds'⟩ wr ⟨us,hT,hr⟩;simp only at hT hr;subst hT;refine wpIn_mono (round us ds' wr hr) ?_;intro e a' w' h
 cases e with
 | normal=>exact ⟨h.1,by have:=h.2;rw[<-FD us]at this;exact this⟩
 | _=>exact h
def mkD (D:Nat):Deferred:={ target:=.collected D,args:=#[] }
def Marks (B:Nat) (w:World) (ds:List Deferred):Prop:=∃Ds:List Nat,ds=Ds.map mkD/\Ds.Nodup/\∀ D∈Ds,B<=D/\w.heap[D]?=some (.deferred (some []))
theorem Marks.nil (B:Nat) (w:World):Marks B w []:=⟨[],rfl,List.nodup_nil,fun _ h=>by cases h⟩
theorem Marks.move (h:Marks B w ds) (hk:∀ D,B<=D->w.heap[D]?=some (.deferred (some []))->w'.heap[D]?=some (.deferred (some []))):Marks B w' ds:=by
 obtain ⟨Ds,rfl,hn,h⟩:=h;exact ⟨Ds,rfl,hn,fun D hD=>⟨(h D hD).1,hk D (h D hD).1 (h D hD).2⟩⟩
theorem Marks.more {D:Nat} (h:Marks B w ds) (hk:∀ D,B<=D->w.heap[D]?=some (.deferred (some []))->w'.heap[D]?=some (.deferred (some []))) (hD:w.heap.size<=D) (hB:B<=D) (hd:w'.heap[D]?=some (.deferred (some []))):Marks B w' ({ target:=.collected D,args:=#[] } :: ds):=by
 obtain ⟨Ds,rfl,hn,h⟩:=h;refine ⟨D :: Ds,rfl,List.nodup_cons.2 ⟨fun hm=>?_,hn⟩,fun E hE=>?_⟩
 ·have:=(bn (h D hm).2);omega
 ·rcases dw.1 hE with rfl | hE
  ·exact ⟨hB,hd⟩
  ·exact ⟨(h E hE).1,hk E (h E hE).1 (h E hE).2⟩
theorem ei {fn:Func} {tmps:Array Value} {R:Ending->World->Prop} (h:Marks B w ds) (hR:∀ w',Nw B w w'->LeavesInM F n P fn tmps R [] .returning w'):LeavesInM F n P fn tmps R ds .returning w:=by
 obtain ⟨Ds,rfl,hn,h⟩:=h
 induction Ds generalizing w with
 | nil=>exact hR w (Nw.refl _ _)
 | cons D Ds ih=>
  have hd:=h D (ij ..);have hD:=(List.nodup_cons.1 hn).1;refine ⟨by simp,.inl ⟨D,_,rfl,run_takeDeferred hd.2,?_⟩⟩;have hw:Nw B w (w.putObj D (.deferred none)):=Nw.put hd.1 hd.2 rfl rfl;refine ih (fun w' hk=>hR w' (hw.trans hk)) (List.nodup_cons.1 hn).2 (fun E hE=>⟨(h E (iU _ hE)).1,?_⟩);exact (nJ (fun e=>hD (by rw[<-e];exact hE))).trans (h E (iU _ hE)).2
