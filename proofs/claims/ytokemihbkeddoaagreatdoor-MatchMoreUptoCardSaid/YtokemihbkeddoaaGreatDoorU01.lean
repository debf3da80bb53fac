/-
A range over a function whose body writes blocks of its own that lay ahead of the loop (a.
-/
import Derived.Test.YtokemihbkeddoaaGreatDoorU00
namespace Go.Proofs.YtokemihbkeddoaaGreatDoor
open Go Go.RowKit Lib
set_option maxRecDepth 100000
set_option maxHeartbeats 64000000
variable {m l R B B' L g base cap lo p c:Nat} {f:FuncId} {tmps:Array Value} {assign body:Code} {A C X Y W2 W' W1 w4 wr:World} {a ts:List Tm} {v row a0 v0:Value} {o:Obj} {t:Tm} {I:World->Prop} {st:Prop} {xs:List Value} {ps:Array Tmp} {e:TypeId} {q:Int->Bool} {s:List Fm} {Row:Value->World->Prop}
theorem Dx {F:Fence} (hd:F.depth=none) (k:Nat):F.room k:=fun d h=>by rw[hd]at h;cases h
theorem Fq {F:Fence} (hd:F.depth=none) {m':Nat} {P:Program} {w:World} {R:Ending->World->Prop}
  (h:RoundIn F m P l f tmps assign body w R):RoundIn F m' P l f tmps assign body w R:=⟨h.1,fun c cs _=>h.2 c cs (Dx hd _)⟩
theorem jl (m':Nat) {P:Program} {args:Array Value} {W:World} {R:Ending->World->Prop} (h:YieldAt Fence.wide m P l args W R):YieldAt Fence.wide m' P l args W R:=by
 obtain ⟨fn,tmps,assign,body,hy,hR⟩:=h;exact ⟨fn,tmps,assign,body,hy,Fq rfl hR⟩
structure Kp (M:Nat->Prop) (X Y:World):Prop where
 os:Y.os=X.os
 tape:Y.tape=X.tape
 output:Y.output=X.output
 size:X.heap.size<=Y.heap.size
 same:∀ b,b<X.heap.size->¬M b->Y.heap[b]?=X.heap[b]?
structure KpFrom (M:Nat->Prop) (B:Nat) (X Y:World):Prop where
 size:X.heap.size<=Y.heap.size
 same:∀ b,B<=b->b<X.heap.size->¬M b->Y.heap[b]?=X.heap[b]?
variable {M:Nat->Prop}
theorem Kp.refl (W:World):Kp M W W:=⟨rfl,rfl,rfl,aI _,fun _ _ _=>rfl⟩
theorem Kp.trans {B:World} (h:Kp M A B) (k:Kp M B C):Kp M A C:=
 ⟨k.os.trans h.os,k.tape.trans h.tape,k.output.trans h.output,aN h.size k.size,fun b hb hm=>(k.same b (bE hb h.size) hm).trans (h.same b hb hm)⟩
theorem Kp.mono {M':Nat->Prop} {B:World} (h:Kp M A B) (hM:∀ b,b<A.heap.size->M b->M' b):Kp M' A B:=⟨h.os,h.tape,h.output,h.size,fun b hb hm=>h.same b hb (fun h'=>hm (hM b hb h'))⟩
theorem Kp.from {B:World} (h:Kp M A B) (n:Nat):KpFrom M n A B:=⟨h.size,fun b _ hb hm=>h.same b hb hm⟩
theorem KpFrom.trans {n:Nat} {B:World} (h:KpFrom M n A B) (k:KpFrom M n B C):KpFrom M n A C:=
 ⟨aN h.size k.size,fun b hn hb hm=>(k.same b hn (bE hb h.size) hm).trans (h.same b hn hb hm)⟩
theorem KpFrom.mono {n n':Nat} {B:World} (h:KpFrom M n A B) (hn:n<=n'):KpFrom M n' A B:=⟨h.size,fun b hb hs=>h.same b (aN hn hb) hs⟩
theorem Kp.below {B:World} (h:Below A.heap.size A B):Kp M A B:=⟨h.os,h.tape,h.output,h.size,fun b hb _=>h.block b hb⟩
theorem Kp.empty {B:World} (h:Kp (fun _=>False) A B):Below A.heap.size A B:=⟨h.os,h.tape,h.output,h.size,fun b hb=>h.same b hb id⟩
theorem Kp.cell {B:World} (h:Kp M A B) {a:Addr} (hm:¬M a.block) (hc:A.cell? a=some v):B.cell? a=some v:=
 (World.cell?_of_block (h.same a.block (World.block_lt_of_cell? A a hc) hm)).trans hc
theorem Kp.grown {B:World} {r:Nat} (h:A.grownBy B (some r)) (hr:M r):Kp M A B:=⟨h.os,h.tape,h.output,h.size,fun b hb hm=>h.block b hb (fun e=>hm (by cases e;exact hr))⟩
structure Nw (B:Nat) (X Y:World):Prop where
 os:Y.os=X.os
 tape:Y.tape=X.tape
 output:Y.output=X.output
 size:X.heap.size<=Y.heap.size
 same:∀ b,b<X.heap.size->Y.heap[b]?=X.heap[b]?\/(B<=b/\(∃o:Obj,X.heap[b]?=some o/\o.isCells=false)/\∃o:Obj,Y.heap[b]?=some o/\o.isCells=false)
theorem Nw.refl (B:Nat) (X:World):Nw B X X:=⟨rfl,rfl,rfl,aI _,fun _ _=>.inl rfl⟩
theorem Nw.trans {Z:World} (h:Nw B X Y) (k:Nw B Y Z):Nw B X Z:=
 ⟨k.os.trans h.os,k.tape.trans h.tape,k.output.trans h.output,aN h.size k.size,fun b hb=>by
  rcases h.same b hb with h1 | ⟨h1,h2,h3⟩
  ·rcases k.same b (bE hb h.size) with k1 | ⟨k1,k2,k3⟩
   ·exact .inl (k1.trans h1)
   ·exact .inr ⟨k1,by rw[<-h1];exact k2,k3⟩
  ·rcases k.same b (bE hb h.size) with k1 | ⟨k1,k2,k3⟩
   ·exact .inr ⟨h1,h2,by rw[k1];exact h3⟩
   ·exact .inr ⟨h1,h2,k3⟩⟩
theorem Nw.mono (h:Nw B' X Y) (hB:B<=B'):Nw B X Y:=⟨h.os,h.tape,h.output,h.size,fun b hb=>by
 rcases h.same b hb with h1 | ⟨h1,h2⟩
 ·exact .inl h1
 ·exact .inr ⟨aN hB h1,h2⟩⟩
theorem Nw.below (h:Below X.heap.size X Y):Nw B X Y:=⟨h.os,h.tape,h.output,h.size,fun b hb=>.inl (h.block b hb)⟩
theorem Nw.put {o':Obj} (hB:B<=l) (hl:X.heap[l]?=some o) (ho:o.isCells=false) (Nj:o'.isCells=false):Nw B X (X.putObj l o'):=
 ⟨rfl,rfl,rfl,by simp,fun b hb=>by
  by_cases h:b=l
  ·subst h;exact .inr ⟨hB,⟨o,hl,ho⟩,o',World.putObj_heap_same hb,Nj⟩
  ·exact .inl (m6 h)⟩
theorem Nw.old (h:Nw B X Y) {b:Nat} (hb:b<B) (hx:b<X.heap.size):Y.heap[b]?=X.heap[b]?:=by
 rcases h.same b hx with h1 | ⟨h1,_⟩
 ·exact h1
 ·omega
theorem Nw.cells (h:Nw B X Y) {b:Nat} {cs:Array Value} {t:TypeId} {fr:Nat×Nat} (hc:X.heap[b]?=some (.cells cs t fr)):Y.heap[b]?=some (.cells cs t fr):=by
 rcases h.same b (bz hc) with h1 | ⟨_,⟨o,h1,h2⟩,_⟩
 ·exact h1.trans hc
 ·rw[hc]at h1;cases h1;cases h2
theorem Nw.cell (h:Nw B X Y) {a:Addr} (hc:X.cell? a=some v):Y.cell? a=some v:=by
 cases ho:X.heap[a.block]? with
 | none=>simp[World.cell?,ho]at hc
 | some o=>
  cases o with
  | cells cs t fr=>exact (World.cell?_of_block ((h.cells ho).trans ho.symm)).trans hc
  | _=>simp[World.cell?,ho]at hc
def Abides (B:Nat) (I:World->Prop):Prop:=∀ X Y,Nw B X Y->I X->I Y
theorem Abides.mono (h:Abides B I) (hB:B<=B'):Abides B' I:=fun X Y hn=>h X Y (hn.mono hB)
theorem Abides.and {I':World->Prop} (h:Abides B I) (h':Abides B I'):Abides B (fun W=>I W/\I' W):=fun X Y hn hi=>⟨h X Y hn hi.1,h' X Y hn hi.2⟩
def Hx (M:Nat->Prop) (st:Prop) (P:Program) (gf:Nat) (lb:Array Value) {T:Type} (xs:List T) (At:World->Array Value->T->Prop) (w:World):Prop:=
 ∀ (l:Nat) (J Jx:List T->World->Prop) (W:World),Kp M w W->(∀ b,M b->b<w.heap.size)->l<W.heap.size->¬M l →
  (∀ s,Abides W.heap.size (J s))->(∀ s,Abides W.heap.size (Jx s)) →
  (∀ pre vs x W1,J pre W1->Kp M W W1->At W1 vs x->(pre ++ [x]) <+: xs->YieldAt Fence.wide 0 P l vs W1 fun e W'=>
    (e=.returned (.bool true)/\J (pre ++ [x]) W'/\Kp M W1 W')\/(st/\e=.returned (.bool false)/\Jx (pre ++ [x]) W'/\KpFrom M (l+1) W1 W')) →
  J [] W →
  Calls P gf (#[.func (.yield l) #[] #[]] ++ lb) W fun e W'=>(∃v,e=.returned v) ∧
   ((J xs W'/\Kp M W W')\/(st/\∃pre,pre <+: xs/\Jx pre W'/\KpFrom M (l+1) W W'))
def SZ (M:Nat->Prop) (st:Prop) {T:Type} (B:Nat) (I:List T->World->Prop) (Ix:Code->List T->World->Prop) (xs:List T) (W:World):Exit->Act->World->Prop
 | .normal,_,W'=>Kp M W W'/\I xs W'
 | .ret,_,W'=>st/\KpFrom M B W W'/\Ix .ret xs W'
 | .exit id,_,W'=>st/\KpFrom M B W W'/\Ix (.exit id) xs W'
 | .goto t,_,W'=>st/\KpFrom M B W W'/\Ix (.goto t) xs W'
 | .panic _,_,_=>False
 | .outgrown,_,_=>False
structure Busy (l:Nat) (W W2:World):Prop where
 os:W2.os=W.os
 tape:W2.tape=W.tape
 output:W2.output=W.output
 size:W2.heap.size=W.heap.size
 same:∀ b,b≠l->W2.heap[b]?=W.heap[b]?
 lrec:∃r,W2.heap[l]?=some (.loop r)
theorem Busy.kp {W:World} (h:Busy l W W2):Kp (·=l) W W2:=⟨h.os,h.tape,h.output,Nat.le_of_eq h.size.symm,fun b _ hb=>h.same b hb⟩
theorem Busy.cell {W:World} (h:Busy l W W2) (hl:∃r,W.heap[l]?=some (.loop r)) {a:Addr} (hc:W.cell? a=some v):W2.cell? a=some v:=by
 refine (World.cell?_of_block (h.same a.block (fun e=>?_))).trans hc;obtain ⟨r,hr⟩:=hl;rw[World.cell?,e,hr]at hc;simp at hc
theorem Dy {w:World} (o:Obj) (hk:Kp M w X) (hL:w.heap.size<=L):Kp M w (X.putObj L o):=
 ⟨hk.os,hk.tape,hk.output,by simpa using hk.size,fun b hb hm=>(m6 (by omega)).trans (hk.same b hb hm)⟩
theorem QU {P:Program} {T:Type} {xs:List T} {w:World} {fn:Nat} {dd:Nat} (XX:w.heap.size<=L) (hM:∀ b,M b->b<w.heap.size)
  {ux:LoopState->Option Code->Loop} (wZ:ux=fun st pe=>{ state:=st,pending:=pe,fn,tmps,params:=ps,assign,body,defers:=dd })
  {At:World->Array Value->T->Prop} (gU:∀ W vs x,At W vs x->vs.size=ps.size)
  (I:List T->World->Prop) (Ix:Code->List T->World->Prop) (hI:∀ s,Abides w.heap.size (I s)) (hIx:∀ c s,Abides w.heap.size (Ix c s))
  (Hy:∀ (l:Nat) (pre:List T) (vs:Array Value) (x:T) (W:World),w.heap.size<=l->(∃r,W.heap[l]?=some (.loop r))->I pre W->At W vs x->Kp M w W->(pre ++ [x]) <+: xs →
    assign.wpIn (Fence.wide.inRound l) 3 P (Exit.then (fun a' W'=>Kp M W W'/\I pre W'/\∀ W2,Busy l W' W2->I pre W2->Kp M w W2 →
     body.wpIn (Fence.wide.inRound l) 3 P (SZ M st w.heap.size I Ix (pre ++ [x]) W2) a' W2) (fun _ _ _=>False)) { tmps:=(ps.zip vs).foldl (fun t (p,v)=>t.setIfInBounds p v) tmps,defers:=[] } W)
  (pre:List T) (vs:Array Value) (x:T) (W:World) (hi:I pre W) (hl:W.heap[L]?=some (.loop (ux .ready none))) (iO:Kp M w W) (hat:At W vs x) (dn:(pre ++ [x]) <+: xs)
  (D:Nat) (od:Obj) (hD:w.heap.size<=D/\D≠L) (hd:W.heap[D]?=some od) :
  YieldAt Fence.wide 0 P L vs W fun e W'=>
   (e=.returned (.bool true)/\(I (pre ++ [x]) W'/\W'.heap[L]?=some (.loop (ux .ready none))/\W'.heap[D]?=some od/\Kp M w W')/\Kp M W W') ∨
   (st/\e=.returned (.bool false)/\(∃c,Ix c (pre ++ [x]) W'/\W'.heap[L]?=some (.loop (ux .done (some c)))/\W'.heap[D]?=some od)/\KpFrom M (L+1) W W'):=by
 refine jl (m:=3) 0 ?_;have hy:=run_yield (P:=P) (args:=vs) hl (by rw[wZ];exact gU W vs x hat);rw[wZ]at hy;refine ⟨fn,_,assign,body,hy,roundIn_of_wpIn trivial (wpIn_mono (Hy L pre vs x W XX ⟨_,hl⟩ hi hat iO dn) ?_)⟩;clear hy hat;intro e1 a' Wa hq1
 cases e1 with
 | ret=>exact hq1.elim
 | exit id=>exact hq1.elim
 | goto t=>exact hq1.elim
 | panic ch=>exact hq1.elim
 | outgrown=>exact hq1.elim
 | normal=>?_
 obtain ⟨dy,xH,YZ⟩:=hq1;have hLW:=(bz hl);have hDW:=(bz hd);have hLm:¬M L:=fun h=>by have:=hM L h;omega
 have hDm:¬M D:=fun h=>by have:=hM D h;omega
 have UL:Wa.heap[L]?=some (.loop (ux .ready none)):=(dy.same L hLW hLm).trans hl;have hda:Wa.heap[D]?=some od:=(dy.same D hDW hDm).trans hd;have Y0:L<Wa.heap.size:=(bz UL);refine ⟨_,run_beginRound UL (by rw[wZ]),?_⟩;have rK:(Wa.putObj L (.loop { ux .ready none with state:=.busy })).heap[L]?=some (.loop { ux .ready none with state:=.busy }):=World.putObj_heap_same Y0;have Nh:(Wa.putObj L (.loop { ux .ready none with state:=.busy })).heap[D]?=some od:=(m6 hD.2).trans hda;have zbF:=iO.trans dy;refine wpIn_mono (YZ _ ⟨rfl,rfl,rfl,by simp,fun b hb=>m6 hb,_,rK⟩ (hI pre _ _ (Nw.put XX UL rfl rfl) xH) (Dy _ zbF XX)) ?_;have fin:∀ (qT:Option Code) (W3:World),KpFrom M w.heap.size (Wa.putObj L (.loop { ux .ready none with state:=.busy })) W3 →
   (Instr.endRound L qT).run P W3=.ok (.bool qT.isNone) (W3.putObj L (.loop (ux (if qT.isNone then .ready else .done) qT))) ∧
   W3.heap[L]?=some (.loop { ux .ready none with state:=.busy }) ∧
   (W3.putObj L (.loop (ux (if qT.isNone then .ready else .done) qT))).heap[L]?=some (.loop (ux (if qT.isNone then .ready else .done) qT)) ∧
   (W3.putObj L (.loop (ux (if qT.isNone then .ready else .done) qT))).heap[D]?=some od ∧
   (∀ b,w.heap.size<=b->b≠L->b<W.heap.size->(W3.putObj L (.loop (ux (if qT.isNone then .ready else .done) qT))).heap[b]?=W.heap[b]?) ∧
   W.heap.size<=(W3.putObj L (.loop (ux (if qT.isNone then .ready else .done) qT))).heap.size:=fun qT W3 j5=>by
  have Lj:=(j5.same L XX (by simpa using Y0) hLm).trans rK;have MS:=(j5.same D hD.1 (by simp;have:=dy.size;omega) hDm).trans Nh;have:=run_endRound (P:=P) qT Lj;rw[wZ]at this ⊢;refine ⟨this,by rw[wZ]at Lj;exact Lj,World.putObj_heap_same (bz Lj),(m6 hD.2).trans MS,fun b hb XY hs=>?_,?_⟩
  ·have hbm:¬M b:=fun h=>by have:=hM b h;omega
   exact (m6 XY).trans ((j5.same b hb (by simp;have:=dy.size;omega) hbm).trans ((m6 XY).trans (dy.same b hs hbm)))
  ·have:=dy.size;have:=j5.size;simp at *;omega
 rintro e a3 W3 hp;have UM:∀ (c:Code),st->KpFrom M w.heap.size (Wa.putObj L (.loop { ux .ready none with state:=.busy })) W3->Ix c (pre ++ [x]) W3 →
   ∃v w',(Instr.endRound L (some c)).run P W3=.ok v w'/\((Ending.returned v=.returned (.bool true)/\(I (pre ++ [x]) w'/\w'.heap[L]?=some (.loop (ux .ready none))/\w'.heap[D]?=some od/\Kp M w w')/\Kp M W w') ∨
   (st/\Ending.returned v=.returned (.bool false)/\(∃c,Ix c (pre ++ [x]) w'/\w'.heap[L]?=some (.loop (ux .done (some c)))/\w'.heap[D]?=some od)/\KpFrom M (L+1) W w')):=fun c cH j5 hi3=>by
  obtain ⟨hr,Lj,Fr,Qz,ew,hsz⟩:=fin (some c) W3 j5;exact ⟨_,_,hr,.inr ⟨cH,rfl,⟨c,hIx c (pre ++ [x]) _ _ (Nw.put XX Lj rfl rfl) hi3,Fr,Qz⟩,⟨hsz,fun b hb hs _=>ew b (by omega) (by omega) hs⟩⟩⟩
 cases e with
 | normal=>
  obtain ⟨j5,hi3⟩:=hp;obtain ⟨hr,Lj,Fr,Qz,ew,hsz⟩:=fin none W3 (j5.from _);have vY:Kp M W (W3.putObj L (.loop (ux (if (none:Option Code).isNone then .ready else .done) none))):=
   ⟨j5.os.trans dy.os,j5.tape.trans dy.tape,j5.output.trans dy.output,hsz,fun b hs hm=>by
    by_cases XY:b=L
    ·subst XY;exact Fr.trans hl.symm
    ·exact (m6 XY).trans ((j5.same b (by simp;have:=dy.size;omega) hm).trans ((m6 XY).trans (dy.same b hs hm)))⟩
  exact ⟨_,_,hr,.inl ⟨rfl,⟨hI (pre ++ [x]) _ _ (Nw.put XX Lj rfl rfl) hi3,Fr,Qz,iO.trans vY⟩,vY⟩⟩
 | ret=>exact UM .ret hp.1 hp.2.1 hp.2.2
 | exit id=>exact UM (.exit id) hp.1 hp.2.1 hp.2.2
 | goto t=>exact UM (.goto t) hp.1 hp.2.1 hp.2.2
 | panic ch=>exact hp.elim
 | outgrown=>exact hp.elim
theorem gi {P:Program} {T:Type} {xs:List T} {g:Operand} {Q:Exit->Act->World->Prop} {a:Act} {w:World}
  {gf:Nat} {lb:Array Value} (hg:a.eval g=.func (.func gf) #[] lb) (eg:∀ args w,(callFunc gf args).run P w=.ok (.enter gf args) w) (hM:∀ b,M b->b<w.heap.size)
  {At:World->Array Value->T->Prop} (nH:Hx M st P gf lb xs At w) (gU:∀ W vs x,At W vs x->vs.size=ps.size)
  (I:List T->World->Prop) (Ix:Code->List T->World->Prop) (hI:∀ s,Abides w.heap.size (I s)) (hIx:∀ c s,Abides w.heap.size (Ix c s)) (h0:I [] w)
  (Hy:∀ (l:Nat) (pre:List T) (vs:Array Value) (x:T) (W:World),w.heap.size<=l->(∃r,W.heap[l]?=some (.loop r))->I pre W->At W vs x->Kp M w W->(pre ++ [x]) <+: xs →
    assign.wpIn (Fence.wide.inRound l) 3 P (Exit.then (fun a' W'=>Kp M W W'/\I pre W'/\∀ W2,Busy l W' W2->I pre W2->Kp M w W2 →
     body.wpIn (Fence.wide.inRound l) 3 P (SZ M st w.heap.size I Ix (pre ++ [x]) W2) a' W2) (fun _ _ _=>False)) { tmps:=(ps.zip vs).foldl (fun t (p,v)=>t.setIfInBounds p v) a.tmps,defers:=[] } W)
  (Y1:∀ (D:Nat) (W:World),w.heap.size<=D->I xs W->Kp M w W->W.heap[D]?=some (.deferred (some []))->Q .normal { a with defers:={ target:=.collected D,args:=#[] } :: a.defers } W)
  (Y2:∀ (D:Nat) (c:Code) (pre:List T) (W:World),st->w.heap.size<=D->pre <+: xs->Ix c pre W->W.heap[D]?=some (.deferred (some []))->c.wpIn Fence.wide 3 P Q { a with defers:={ target:=.collected D,args:=#[] } :: a.defers } W) :
  (Code.rangeFunc g ps assign body).wpIn Fence.wide 3 P Q a w:=by
 refine wpIn_rangeFunc ?_;intro fn _;obtain ⟨ux,wZ⟩:∃ux:LoopState->Option Code->Loop,ux=fun st pe=>{ state:=st,pending:=pe,fn,tmps:=a.tmps,params:=ps,assign,body,defers:=w.heap.size }:=⟨_,rfl⟩;obtain ⟨W1,bX⟩:∃W1,(w.alloc (.deferred (some []))).alloc (.loop (ux .ready none))=W1:=⟨_,rfl⟩;have Y3:W1.heap[w.heap.size+1]?=some (.loop (ux .ready none)):=by
  rw[<-bX];have:=fP (w.alloc (.deferred (some []))) (.loop (ux .ready none));rwa [World.size_alloc]at this
 have hK1:W1.heap[w.heap.size]?=some (.deferred (some [])):=by
  rw[<-bX];exact (bI _ _ _ (by simp)).trans (fP w _)
 have hb1:Below w.heap.size w W1:=by
  rw[<-bX];exact ((ak _ w).alloc (aI _) _).alloc (by simp) _
 have iP:W1.heap.size=w.heap.size+2:=by rw[<-bX];simp
 have hI1:I [] W1:=hI [] _ _ (Nw.below hb1) h0;have AL:Kp M w W1:=Kp.below hb1;have i9:∀ b,w.heap.size<=b->¬M b:=fun b hb h=>by have:=hM b h;omega
 refine ⟨w.heap.size+1,[{ target:=.collected w.heap.size,args:=#[] }],W1,{ target:=.fn (.func gf) lb,args:=#[.func (.yield (w.heap.size+1)) #[] #[]] },W1,gf,
  #[.func (.yield (w.heap.size+1)) #[] #[]] ++ lb,W1,?_,?_,?_,?_,(fun h=>by cases h),?_⟩
 ·rw[<-bX,wZ];exact run_enterLoop_outer _ _ _ _ _
 ·simp only[resolve,hg];simp[go_sem]
 ·intro f' Hz;simp[Target.leads]at Hz;subst Hz;trivial
 ·simp[invoke,go_sem,eg]
 ·refine aK.2 ((nH (w.heap.size+1)
   (fun pre W=>I pre W/\W.heap[w.heap.size+1]?=some (.loop (ux .ready none))/\W.heap[w.heap.size]?=some (.deferred (some []))/\Kp M w W)
   (fun pre W=>∃c,Ix c pre W/\W.heap[w.heap.size+1]?=some (.loop (ux .done (some c)))/\W.heap[w.heap.size]?=some (.deferred (some [])))
   W1 AL hM (by omega) (i9 _ (by omega)) ?_ ?_ ?_ ⟨hI1,Y3,hK1,AL⟩).mono ?_)
  ·rintro s X Y hn ⟨h1,h2,h3,h4⟩;refine ⟨hI s X Y (hn.mono (by omega)) h1,(hn.old (by omega) (bz h2)).trans h2,(hn.old (by omega) (bz h3)).trans h3,hn.os.trans h4.os,hn.tape.trans h4.tape,hn.output.trans h4.output,aN h4.size hn.size,fun b hb hm=>?_⟩;exact (hn.old (by omega) (bE hb h4.size)).trans (h4.same b hb hm)
  ·rintro s X Y hn ⟨c,h1,h2,h3⟩;exact ⟨c,hIx c s X Y (hn.mono (by omega)) h1,(hn.old (by omega) (bz h2)).trans h2,(hn.old (by omega) (bz h3)).trans h3⟩
  ·rintro pre vs x W ⟨hi,hl,hd,iO⟩ E5 hat dn;exact QU (by omega) hM wZ gU I Ix hI hIx Hy pre vs x W hi hl iO hat dn _ _ ⟨aI _,by simp⟩ hd
  ·rintro e W2 ⟨⟨v,rfl⟩,(⟨⟨hi,hl,hd,iO⟩,_⟩ | ⟨cH,pre,hSp,⟨c,hi,hl,hd⟩,S2⟩)⟩
   ·exact ⟨none,_,by have:=run_endLoop (P:=P) hl (by rw[wZ];simp);rw[wZ]at this;exact this,Y1 _ _ (aI _) (hI xs _ _ (Nw.put (by omega) hl rfl rfl) hi) (Dy _ iO (by omega)) ((m6 (by simp)).trans hd)⟩
   ·exact ⟨some c,_,by have:=run_endLoop (P:=P) hl (by rw[wZ];simp);rw[wZ]at this;exact this,Y2 _ c pre _ cH (aI _) hSp (hIx c pre _ _ (Nw.put (by omega) hl rfl rfl) hi) ((m6 (by simp)).trans hd)⟩
theorem aj {w:World} {k:Nat} (h:k=w.heap.size):(w.alloc o).heap[k]?=some o:=by rw[h];exact fP w o
theorem nI {w:World} {a:Addr} (h:w.cell? a=some v):a.block<w.heap.size:=World.block_lt_of_cell? w a h
theorem aa {W w:World} (hb:Below W.heap.size W w) {a:Addr} (h:W.cell? a=some v):w.cell? a=some v:=(hb.cell (nI h)).trans h
theorem aE {W:World} {b:Nat} {cs:Array Value} {T:TypeId} {fr:Nat×Nat} (h:W.heap[b]?=some (.cells cs T fr)) (k:Nat):W.cell? ⟨b,k,none⟩=cs[k]?:=by simp[World.cell?,h]
theorem af {W:World} {b:Nat} {cs:Array Value} {T:TypeId} (h:W.heap[b]?=some (.cells cs T (0,0))) (k:Nat):W.frozen? ⟨b,k,none⟩=false:=by simp[World.frozen?,h]
theorem ai {W:World} {b:Nat} {cs:Array Value} {T:TypeId} {fr:Nat×Nat} (h:W.heap[b]?=some (.cells cs T fr)) (k:Nat) {v:Option Value} (e:cs[k]?=v:=by rfl):W.cell? ⟨b,k,none⟩=v:=(aE h k).trans e
section
variable {W w:World} {b:Nat} {cs:Array Value} {T:TypeId} {fr:Nat×Nat}
theorem QV (h:W.heap[b]?=some (.cells cs T fr)):W.cell? ⟨b,0,none⟩=cs[0]?/\W.cell? ⟨b,1,none⟩=cs[1]?:=⟨aE h 0,aE h 1⟩
theorem li (h:W.heap[b]?=some (.cells cs T fr)):W.cell? ⟨b,0,none⟩=cs[0]?/\W.cell? ⟨b,1,none⟩=cs[1]?/\W.cell? ⟨b,2,none⟩=cs[2]?:=⟨aE h 0,aE h 1,aE h 2⟩
theorem mm (h:W.heap[b]?=some (.cells cs T fr)):W.cell? ⟨b,0,none⟩=cs[0]?/\W.cell? ⟨b,1,none⟩=cs[1]?/\W.cell? ⟨b,2,none⟩=cs[2]?/\W.cell? ⟨b,3,none⟩=cs[3]?:=⟨aE h 0,aE h 1,aE h 2,aE h 3⟩
theorem zd2 (h:W.heap[b]?=some (.cells cs T fr)):W.cell? ⟨b,0,none⟩=cs[0]?/\W.cell? ⟨b,1,none⟩=cs[1]?/\W.cell? ⟨b,2,none⟩=cs[2]?/\W.cell? ⟨b,3,none⟩=cs[3]?/\W.cell? ⟨b,4,none⟩=cs[4]?:=⟨aE h 0,aE h 1,aE h 2,aE h 3,aE h 4⟩
theorem zd3 (h:W.heap[b]?=some (.cells cs T fr)):W.cell? ⟨b,0,none⟩=cs[0]?/\W.cell? ⟨b,1,none⟩=cs[1]?/\W.cell? ⟨b,2,none⟩=cs[2]?/\W.cell? ⟨b,3,none⟩=cs[3]?/\W.cell? ⟨b,4,none⟩=cs[4]?/\W.cell? ⟨b,5,none⟩=cs[5]?:=⟨aE h 0,aE h 1,aE h 2,aE h 3,aE h 4,aE h 5⟩
theorem zd4 (h:W.heap[b]?=some (.cells cs T fr)):W.cell? ⟨b,0,none⟩=cs[0]?/\W.cell? ⟨b,1,none⟩=cs[1]?/\W.cell? ⟨b,2,none⟩=cs[2]?/\W.cell? ⟨b,3,none⟩=cs[3]?/\W.cell? ⟨b,4,none⟩=cs[4]?/\W.cell? ⟨b,5,none⟩=cs[5]?/\W.cell? ⟨b,6,none⟩=cs[6]?:=⟨aE h 0,aE h 1,aE h 2,aE h 3,aE h 4,aE h 5,aE h 6⟩
theorem AM (h:W.heap[b]?=some (.cells cs T fr)):W.cell? ⟨b,0,none⟩=cs[0]?/\W.cell? ⟨b,1,none⟩=cs[1]?/\W.cell? ⟨b,2,none⟩=cs[2]?/\W.cell? ⟨b,3,none⟩=cs[3]?/\W.cell? ⟨b,4,none⟩=cs[4]?/\W.cell? ⟨b,5,none⟩=cs[5]?/\W.cell? ⟨b,6,none⟩=cs[6]?/\W.cell? ⟨b,7,none⟩=cs[7]?:=⟨aE h 0,aE h 1,aE h 2,aE h 3,aE h 4,aE h 5,aE h 6,aE h 7⟩
variable {a1 a2 a3 a4 a5 a6 a7 a8 a9:Addr} {v1 v2 v3 v4 v5 v6 v7 v8 v9:Value}
theorem AN (hb:Below W.heap.size W w) (h1:W.cell? a1=some v1) (h2:W.cell? a2=some v2):w.cell? a1=some v1/\w.cell? a2=some v2:=⟨aa hb h1,aa hb h2⟩
theorem ke (hb:Below W.heap.size W w) (h1:W.cell? a1=some v1) (h2:W.cell? a2=some v2) (h3:W.cell? a3=some v3):w.cell? a1=some v1/\w.cell? a2=some v2/\w.cell? a3=some v3:=⟨aa hb h1,aa hb h2,aa hb h3⟩
theorem mG (hb:Below W.heap.size W w) (h1:W.cell? a1=some v1) (h2:W.cell? a2=some v2) (h3:W.cell? a3=some v3) (h4:W.cell? a4=some v4):w.cell? a1=some v1/\w.cell? a2=some v2/\w.cell? a3=some v3/\w.cell? a4=some v4:=⟨aa hb h1,aa hb h2,aa hb h3,aa hb h4⟩
theorem UN (hb:Below W.heap.size W w) (h1:W.cell? a1=some v1) (h2:W.cell? a2=some v2) (h3:W.cell? a3=some v3) (h4:W.cell? a4=some v4) (h5:W.cell? a5=some v5):w.cell? a1=some v1/\w.cell? a2=some v2/\w.cell? a3=some v3/\w.cell? a4=some v4/\w.cell? a5=some v5:=⟨aa hb h1,aa hb h2,aa hb h3,aa hb h4,aa hb h5⟩
theorem zbG (hb:Below W.heap.size W w) (h1:W.cell? a1=some v1) (h2:W.cell? a2=some v2) (h3:W.cell? a3=some v3) (h4:W.cell? a4=some v4) (h5:W.cell? a5=some v5) (h6:W.cell? a6=some v6):w.cell? a1=some v1/\w.cell? a2=some v2/\w.cell? a3=some v3/\w.cell? a4=some v4/\w.cell? a5=some v5/\w.cell? a6=some v6:=⟨aa hb h1,aa hb h2,aa hb h3,aa hb h4,aa hb h5,aa hb h6⟩
theorem zd5 (hb:Below W.heap.size W w) (h1:W.cell? a1=some v1) (h2:W.cell? a2=some v2) (h3:W.cell? a3=some v3) (h4:W.cell? a4=some v4) (h5:W.cell? a5=some v5) (h6:W.cell? a6=some v6) (h7:W.cell? a7=some v7):w.cell? a1=some v1/\w.cell? a2=some v2/\w.cell? a3=some v3/\w.cell? a4=some v4/\w.cell? a5=some v5/\w.cell? a6=some v6/\w.cell? a7=some v7:=⟨aa hb h1,aa hb h2,aa hb h3,aa hb h4,aa hb h5,aa hb h6,aa hb h7⟩
theorem H' (hb:Below W.heap.size W w) (h1:W.cell? a1=some v1) (h2:W.cell? a2=some v2) (h3:W.cell? a3=some v3) (h4:W.cell? a4=some v4) (h5:W.cell? a5=some v5) (h6:W.cell? a6=some v6) (h7:W.cell? a7=some v7) (h8:W.cell? a8=some v8):w.cell? a1=some v1/\w.cell? a2=some v2/\w.cell? a3=some v3/\w.cell? a4=some v4/\w.cell? a5=some v5/\w.cell? a6=some v6/\w.cell? a7=some v7/\w.cell? a8=some v8:=⟨aa hb h1,aa hb h2,aa hb h3,aa hb h4,aa hb h5,aa hb h6,aa hb h7,aa hb h8⟩
theorem zd6 (hb:Below W.heap.size W w) (h1:W.cell? a1=some v1) (h2:W.cell? a2=some v2) (h3:W.cell? a3=some v3) (h4:W.cell? a4=some v4) (h5:W.cell? a5=some v5) (h6:W.cell? a6=some v6) (h7:W.cell? a7=some v7) (h8:W.cell? a8=some v8) (h9:W.cell? a9=some v9):w.cell? a1=some v1/\w.cell? a2=some v2/\w.cell? a3=some v3/\w.cell? a4=some v4/\w.cell? a5=some v5/\w.cell? a6=some v6/\w.cell? a7=some v7/\w.cell? a8=some v8/\w.cell? a9=some v9:=⟨aa hb h1,aa hb h2,aa hb h3,aa hb h4,aa hb h5,aa hb h6,aa hb h7,aa hb h8,aa hb h9⟩
end
theorem lv (g k:Nat):(⟨g,0,none⟩:Addr).add k=⟨g,k,none⟩:=by unfold Addr.add;split <;> simp_all
theorem eH {w:World} {size n:Nat} (h:w.ownsRow base e size v n xs):(v=.slice none 0 0/\n=0)\/∃g cap,v=.slice (some ⟨g,0,none⟩) n cap/\base<=g/\g<w.heap.size:=by
 rcases h.2 with ⟨h1,h2⟩ | ⟨g,cap,cur,h1,h2,h3,_⟩
 ·exact .inl ⟨h1,h2⟩
 ·exact .inr ⟨g,cap,h1,h2,(bz h3)⟩
def TQ.cells (q:TQ):List Value:=[.bool q.v,.string q.n,.slice q.a q.l q.c]
def FQ.cells (q:FQ):List Value:=[.int .u8 q.o,.string q.n,.slice q.a q.l q.c,.slice q.b q.m q.e]
theorem Y4 (qs:List TQ):∀ j (h:j<qs.length),(qs.flatMap TQ.cells)[j * 3]?=some (.bool qs[j].v)/\(qs.flatMap TQ.cells)[j * 3+1]?=some (.string qs[j].n)/\(qs.flatMap TQ.cells)[j * 3+2]?=some (.slice qs[j].a qs[j].l qs[j].c):=by
 induction qs with
 | nil=>intro j h;simp at h
 | cons q qs ih=>
  intro j h
  cases j with
  | zero=>simp[TQ.cells]
  | succ j=>
   have:=ih j (by simpa using h);simp only[List.flatMap_cons,TQ.cells,ky,pf];rw[show (j+1) * 3=j * 3+1+1+1 by omega,show j * 3+1+1+1+1=(j * 3+1)+1+1+1 by omega,show j * 3+1+1+1+2=(j * 3+2)+1+1+1 by omega];simpa using this
theorem Y5 (qs:List FQ):∀ j (h:j<qs.length),(qs.flatMap FQ.cells)[j * 4]?=some (.int .u8 qs[j].o)/\(qs.flatMap FQ.cells)[j * 4+1]?=some (.string qs[j].n)/\(qs.flatMap FQ.cells)[j * 4+2]?=some (.slice qs[j].a qs[j].l qs[j].c)/\(qs.flatMap FQ.cells)[j * 4+3]?=some (.slice qs[j].b qs[j].m qs[j].e):=by
 induction qs with
 | nil=>intro j h;simp at h
 | cons q qs ih=>
  intro j h
  cases j with
  | zero=>simp[FQ.cells]
  | succ j=>
   have:=ih j (by simpa using h);simp only[List.flatMap_cons,FQ.cells,ky,pf];have pp160:=();exact pm160
theorem Fs {w:World} {g n:Nat} {qs:List TQ} (h:w.ownsRow base 43 3 (.slice (some ⟨g,0,none⟩) n cap) n (qs.flatMap TQ.cells)):∀ j (hj:j<qs.length),Cells3 w g (j * 3) qs[j].val:=by
 intro j hj;obtain ⟨h0,h1,h2⟩:=Y4 qs j hj;have c0:=h.cells (g:=g) rfl _ _ h0;have c1:=h.cells (g:=g) rfl _ _ h1;have c2:=h.cells (g:=g) rfl _ _ h2;rw[lv]at c0 c1 c2;exact ⟨_,_,_,rfl,c0,c1,c2⟩
theorem vZ {w:World} {g n:Nat} {qs:List FQ} (h:w.ownsRow base 36 4 (.slice (some ⟨g,0,none⟩) n cap) n (qs.flatMap FQ.cells)):∀ j (hj:j<qs.length),Cells4 w g (j * 4) qs[j].val:=by
 intro j hj;obtain ⟨h0,h1,h2,h3⟩:=Y5 qs j hj;have c0:=h.cells (g:=g) rfl _ _ h0;have c1:=h.cells (g:=g) rfl _ _ h1;have c2:=h.cells (g:=g) rfl _ _ h2;have c3:=h.cells (g:=g) rfl _ _ h3;rw[lv]at c0 c1 c2 c3;exact ⟨_,_,_,_,rfl,c0,c1,c2,c3⟩
def RowT (lo:Nat) (v:Value) (ts:List Tm) (W:World):Prop:=
 ∃qs:List TQ,qs.length=ts.length/\W.ownsRow lo 43 3 v ts.length (qs.flatMap TQ.cells)/\∀ j (h:j<qs.length) (h2:j<ts.length),TermV (fun b=>lo<=b/\v.ownBlock≠some b) W qs[j].val ts[j]
def RowF (lo:Nat) (v:Value) (ts:List Fm) (W:World):Prop:=
 ∃qs:List FQ,qs.length=ts.length/\W.ownsRow lo 36 4 v ts.length (qs.flatMap FQ.cells)/\∀ j (h:j<qs.length) (h2:j<ts.length),FormV (fun b=>lo<=b/\v.ownBlock≠some b) W qs[j].val ts[j]
theorem RowT.nil (lo:Nat) (W:World):RowT lo (.slice none 0 0) [] W:=⟨[],rfl,World.ownsRow_nil _ _ _ _,fun j h=>by simp at h⟩
theorem RowF.nil (lo:Nat) (W:World):RowF lo (.slice none 0 0) [] W:=⟨[],rfl,World.ownsRow_nil _ _ _ _,fun j h=>by simp at h⟩
theorem RowT.shape {W:World} (h:RowT lo v ts W):(v=.slice none 0 0/\ts.length=0)\/∃g cap,v=.slice (some ⟨g,0,none⟩) ts.length cap/\lo<=g/\g<W.heap.size:=by
 obtain ⟨qs,_,ho,_⟩:=h;exact eH ho
theorem RowF.shape {ts:List Fm} {W:World} (h:RowF lo v ts W):(v=.slice none 0 0/\ts.length=0)\/∃g cap,v=.slice (some ⟨g,0,none⟩) ts.length cap/\lo<=g/\g<W.heap.size:=by
 obtain ⟨qs,_,ho,_⟩:=h;exact eH ho
theorem RowT.slice {W:World} (h:RowT lo v ts W):∃a c,v=.slice a ts.length c:=by
 rcases h.shape with ⟨rfl,h0⟩ | ⟨g,cap,rfl,_⟩
 ·exact ⟨none,0,by rw[h0]⟩
 ·exact ⟨_,_,rfl⟩
theorem RowF.slice {ts:List Fm} {W:World} (h:RowF lo v ts W):∃a c,v=.slice a ts.length c:=by
 rcases h.shape with ⟨rfl,h0⟩ | ⟨g,cap,rfl,_⟩
 ·exact ⟨none,0,by rw[h0]⟩
 ·exact ⟨_,_,rfl⟩
theorem aZ {size n:Nat} {W:World} (h:W.ownsRow lo e size v n xs) (hb:∀ b,lo<=b->b<W.heap.size->W'.heap[b]?=W.heap[b]?):W'.ownsRow lo e size v n xs:=by
 refine ⟨h.1,?_⟩;rcases h.2 with h1 | ⟨g,cap,cur,h1,h2,h3,h4⟩
 ·exact .inl h1
 ·exact .inr ⟨g,cap,cur,h1,h2,(hb g h2 (bz h3)).trans h3,h4⟩
theorem RowT.held {W:World} (h:RowT lo v ts W) (hb:∀ b,lo<=b->b<W.heap.size->W'.heap[b]?=W.heap[b]?):RowT lo v ts W':=by
 exact pm251
theorem RowF.held {ts:List Fm} {W:World} (h:RowF lo v ts W) (hb:∀ b,lo<=b->b<W.heap.size->W'.heap[b]?=W.heap[b]?):RowF lo v ts W':=by
 exact pm251
theorem RowT.below {W:World} (h:RowT lo v ts W) (hb:Below W.heap.size W W'):RowT lo v ts W':=h.held (fun b _ hlt=>hb.block b hlt)
theorem RowF.below {ts:List Fm} {W:World} (h:RowF lo v ts W) (hb:Below W.heap.size W W'):RowF lo v ts W':=h.held (fun b _ hlt=>hb.block b hlt)
theorem RowT.terms {W:World} (h:RowT lo v ts W):TermsV (lo<=·) W v ts:=by
 have pp241a:=();exact pm241
theorem RowF.forms {ts:List Fm} {W:World} (h:RowF lo v ts W):FormsV (lo<=·) W v ts:=by
 have pp241b:=();exact pm241
theorem RowT.step {W:World} {qs:List TQ} {q:TQ} (hk:qs.length=ts.length) (hb:Below W.heap.size W W1) (hlo:lo<=W.heap.size)
  (ht:∀ j (h:j<qs.length) (h2:j<ts.length),TermV (fun b=>lo<=b/\v.ownBlock≠some b) W qs[j].val ts[j]) (hv:∀ b,v.ownBlock=some b->b<W.heap.size)
  (hq:TermV (W.heap.size<=·) W1 q.val t) (aR:w4.ownsRow lo 43 3 (.slice (some ⟨g,0,none⟩) (ts.length+1) cap) (ts.length+1) (qs.flatMap TQ.cells ++ q.cells))
  (hold:∀ c,lo<=c->c<W1.heap.size->v.ownBlock≠some c->w4.heap[c]?=W1.heap[c]?) (hg:v.ownBlock=some g\/W1.heap.size<=g) :
  RowT lo (.slice (some ⟨g,0,none⟩) (ts.length+1) cap) (ts ++ [t]) w4:=by
 exact pm45
theorem RowF.step {ts:List Fm} {t:Fm} {W:World} {qs:List FQ} {q:FQ} (hk:qs.length=ts.length) (hb:Below W.heap.size W W1) (hlo:lo<=W.heap.size)
  (ht:∀ j (h:j<qs.length) (h2:j<ts.length),FormV (fun b=>lo<=b/\v.ownBlock≠some b) W qs[j].val ts[j]) (hv:∀ b,v.ownBlock=some b->b<W.heap.size)
  (hq:FormV (W.heap.size<=·) W1 q.val t) (aR:w4.ownsRow lo 36 4 (.slice (some ⟨g,0,none⟩) (ts.length+1) cap) (ts.length+1) (qs.flatMap FQ.cells ++ q.cells))
  (hold:∀ c,lo<=c->c<W1.heap.size->v.ownBlock≠some c->w4.heap[c]?=W1.heap[c]?) (hg:v.ownBlock=some g\/W1.heap.size<=g) :
  RowF lo (.slice (some ⟨g,0,none⟩) (ts.length+1) cap) (ts ++ [t]) w4:=by
 exact pm45
theorem c_ {w:World} {cs:Array Value} {t:TypeId} {fr:Nat×Nat} (hb:w.heap[B]?=some (.cells cs t fr)):∀ j u,cs.toList[j]?=some u->w.cell? ((⟨B,0,none⟩:Addr).add j)=some u:=fun j u hu=>by
 rw[lv,aE hb];simpa using hu
theorem gE:(Tryz.prog.info? 43).map (fun i=>(i.zero,i.size,i.bytes))=some (some (.agg #[.bool false,.string ByteArray.empty,.slice none 0 0]),3,48):=by kernel_rfl
theorem jm:(Tryz.prog.info? 36).map (fun i=>(i.zero,i.size,i.bytes))=some (some (.agg #[.int .u8 0,.string ByteArray.empty,.slice none 0 0,.slice none 0 0]),4,72):=by kernel_rfl
mutual
def jw (p:Nat):Tm->Bool | .mk _ n a=>decide (n.length<=p) && nmTs p a
def nmTs (p:Nat):List Tm->Bool | []=>true | t :: l=>jw p t && nmTs p l
end
mutual
def kJ (p:Nat):Fm->Bool | .mk o n a s=>decide (0<=o/\o<=255) && (decide (n.length<=p) && (nmTs p a && nmFs p s))
def nmFs (p:Nat):List Fm->Bool | []=>true | t :: l=>kJ p t && nmFs p l
end
def fitT (t:Tm):Prop:=nodesT t<=2000000/\jw 2000000 t=true
def fitTs (l:List Tm):Prop:=nodesTs l<=2000000/\nmTs 2000000 l=true
def fitF (f:Fm):Prop:=nodesF f<=2000000/\kJ 2000000 f=true
def fitFs (l:List Fm):Prop:=nodesFs l<=2000000/\nmFs 2000000 l=true
theorem jg (t:Tm):0<nodesT t:=by cases t;unfold nodesT;omega
theorem yd (t:Fm):0<nodesF t:=by cases t;unfold nodesF;omega
theorem g9 (l:List Tm):l.length<=nodesTs l:=by
 induction l with
 | nil=>simp
 | cons t l ih=>have:=jg t;simp[nodesTs];omega
theorem pw (l:List Fm):l.length<=nodesFs l:=by
 induction l with
 | nil=>simp
 | cons t l ih=>have:=yd t;simp[nodesFs];omega
theorem gd {l:List Tm} (h:t∈l):nodesT t<=nodesTs l:=by
 induction l with
 | nil=>cases h
 | cons u l ih=>
  unfold nodesTs;rcases cY.1 h with rfl | h
  ·omega
  ·have:=ih h;omega
theorem jn {l:List Fm} {t:Fm} (h:t∈l):nodesF t<=nodesFs l:=by
 induction l with
 | nil=>cases h
 | cons u l ih=>
  unfold nodesFs;rcases cY.1 h with rfl | h
  ·omega
  ·have:=ih h;omega
theorem eY {l:List Tm}:nmTs p l=true ↔ ∀ t∈l,jw p t=true:=by
 induction l with
 | nil=>simp[nmTs]
 | cons u l ih=>simp[nmTs,ih]
theorem pz {l:List Fm}:nmFs p l=true ↔ ∀ t∈l,kJ p t=true:=by
 induction l with
 | nil=>simp[nmFs]
 | cons u l ih=>simp[nmFs,ih]
theorem fitTs.mem {l:List Tm} (h:fitTs l) (ht:t∈l):fitT t:=⟨aN (gd ht) h.1,eY.1 h.2 t ht⟩
theorem fitFs.mem {l:List Fm} (h:fitFs l) {t:Fm} (ht:t∈l):fitF t:=⟨aN (jn ht) h.1,pz.1 h.2 t ht⟩
theorem fitTs.len {l:List Tm} (h:fitTs l):l.length<=2000000:=aN (g9 l) h.1
theorem fitFs.len {l:List Fm} (h:fitFs l):l.length<=2000000:=aN (pw l) h.1
theorem fitT.args {v:Bool} {n:Str} (h:fitT (.mk v n a)):fitTs a:=by
 obtain ⟨h1,h2⟩:=h;simp[nodesT,jw]at h1 h2;exact ⟨by omega,h2.2⟩
theorem fitT.name {v:Bool} {n:Str} (h:fitT (.mk v n a)):n.length<=2000000:=by
 obtain ⟨h1,h2⟩:=h;simp[jw]at h2;exact h2.1
theorem fitF.args {o:Int} {n:Str} (h:fitF (.mk o n a s)):fitTs a:=by
 obtain ⟨h1,h2⟩:=h;simp[nodesF,kJ]at h1 h2;exact ⟨by omega,h2.2.2.1⟩
theorem fitF.subs {o:Int} {n:Str} (h:fitF (.mk o n a s)):fitFs s:=by
 obtain ⟨h1,h2⟩:=h;simp[nodesF,kJ]at h1 h2;exact ⟨by omega,h2.2.2.2⟩
theorem fitF.name {o:Int} {n:Str} (h:fitF (.mk o n a s)):n.length<=2000000:=by
 obtain ⟨h1,h2⟩:=h;simp[kJ]at h2;exact h2.2.1
theorem fitF.op {o:Int} {n:Str} (h:fitF (.mk o n a s)):0<=o/\o<=255:=by
 obtain ⟨h1,h2⟩:=h;simp[kJ]at h2;exact h2.1
mutual
theorem jC {q:Nat} (h:p<=q):∀ t,jw p t=true->jw q t=true
 | .mk v n a,ht=>by
  simp only[jw,ah,bx]at ht ⊢;exact ⟨by omega,dQ h a ht.2⟩
theorem dQ {q:Nat} (h:p<=q):∀ t,nmTs p t=true->nmTs q t=true
 | [],_=>rfl
 | t :: l,ht=>by
  simp only[nmTs,ah]at ht ⊢;exact ⟨jC h t ht.1,dQ h l ht.2⟩
end
mutual
theorem gz {q:Nat} (h:p<=q):∀ t,kJ p t=true->kJ q t=true
 | .mk v n a s,ht=>by
  simp only[kJ,ah,bx]at ht ⊢;exact ⟨ht.1,by omega,dQ h a ht.2.2.1,eT h s ht.2.2.2⟩
theorem eT {q:Nat} (h:p<=q):∀ t,nmFs p t=true->nmFs q t=true
 | [],_=>rfl
 | t :: l,ht=>by
  simp only[nmFs,ah]at ht ⊢;exact ⟨gz h t ht.1,eT h l ht.2⟩
end
theorem aO {a b:Bool} (h:a=b):Ending.returned (.bool a)=.returned (.bool b):=by rw[h]
theorem qA {k:IntKind} {a b:Int} (h:a=b):Ending.returned (.int k a)=.returned (.int k b):=by rw[h]
theorem QW {a b:ByteArray} (h:a=b):Ending.returned (.string a)=.returned (.string b):=by rw[h]
theorem fv {P:Program} {args:Array Value} {w:World} {n:Nat}
  (h:Calls P f args (w.drewN n) fun e w'=>e=.returned v/\w.drewN n=w'):Calls P f args (w.drewN n) fun e Dr=>e=.returned v/\∃m,Dr=w.drewN m:=
 h.mono fun _ _ ⟨he,hm⟩=>⟨he,n,hm.symm⟩
theorem B7 {w:World} (h:∃n,wr=w.drewN n) (m:Nat):∃n,wr.drewN m=w.drewN n:=by
 obtain ⟨n,rfl⟩:=h;exact ⟨_,by rw[World.drewN_drewN]⟩
theorem jD (s:ByteArray):s.data.toList.length=s.size:=by simp
theorem ye (s:ByteArray):s.data.toList.take s.size=s.data.toList:=f8 (by simp)
theorem gQ (n:Str):(⟨n.toArray⟩:ByteArray).size=n.length:=by simp[ByteArray.size]
theorem Dz (n:Str):(⟨n.toArray⟩:ByteArray).data.toList=n:=by simp
theorem pA {w w':World} (h:∃n,w'=w.drewN n):Below w.heap.size w w':=by obtain ⟨n,rfl⟩:=h;exact ⟨rfl,rfl,rfl,aI _,fun _ _=>rfl⟩
def S3 (c:Int):Bool:=decide (97<=c/\c<=116)
def Ft (c:Int):Bool:=decide (117<=c/\c<=122)
def uO (c:Int):Bool:=decide (97<=c/\c<=122)
def DA (c:Int):Bool:=decide (65<=c/\c<=90)
def AO (c:Int):Bool:=decide (48<=c/\c<=57)
def kO (c:Int):Bool:=uO c || DA c || AO c
theorem Kb (c:Int) (w:World) :
  Calls Tryz.prog 190 #[.int .u8 c] w fun e w'=>e=.returned (.bool (S3 c))/\w=w':=by
 by_cases h1:97<=c <;> by_cases h2:c<=116
 all_goals
  have hs:S3 c=(decide (97<=c) && decide (c<=116)):=by simp[S3]
  rw[hs];clear hs;go_enter Tryz.func190,Tryz.ntmps190;go_wp2;go_ret;simp[h1,h2]
theorem Fu (c:Int) (w:World) :
  Calls Tryz.prog 216 #[.int .u8 c] w fun e w'=>e=.returned (.bool (Ft c))/\w=w':=by
 by_cases h1:117<=c <;> by_cases h2:c<=122
 all_goals
  have hs:Ft c=(decide (117<=c) && decide (c<=122)):=by simp[Ft]
  rw[hs];clear hs;go_enter Tryz.func216,Tryz.ntmps216;go_wp2;go_ret;simp[h1,h2]
theorem H_ (c:Int) (w:World) :
  Calls Tryz.prog 241 #[.int .u8 c] w fun e w'=>e=.returned (.bool (uO c))/\w=w':=by
 by_cases h1:97<=c <;> by_cases h2:c<=122
 all_goals
  have hs:uO c=(decide (97<=c) && decide (c<=122)):=by simp[uO]
  rw[hs];clear hs;go_enter Tryz.func241,Tryz.ntmps241;go_wp2;go_ret;simp[h1,h2]
theorem yf (c:Int) (w:World) :
  Calls Tryz.prog 188 #[.int .u8 c] w fun e w'=>e=.returned (.bool (DA c))/\w=w':=by
 by_cases h1:65<=c <;> by_cases h2:c<=90
 all_goals
  have hs:DA c=(decide (65<=c) && decide (c<=90)):=by simp[DA]
  rw[hs];clear hs;go_enter Tryz.func188,Tryz.ntmps188;go_wp2;go_ret;simp[h1,h2]
theorem yg (c:Int) (w:World) :
  Calls Tryz.prog 217 #[.int .u8 c] w fun e w'=>e=.returned (.bool (AO c))/\w=w':=by
 by_cases h1:48<=c <;> by_cases h2:c<=57
 all_goals
  have hs:AO c=(decide (48<=c) && decide (c<=57)):=by simp[AO]
  rw[hs];clear hs;go_enter Tryz.func217,Tryz.ntmps217;go_wp2;go_ret;simp[h1,h2]
theorem nJ (c:Int) (w:World) :
  Calls Tryz.prog 189 #[.int .u8 c] w fun e w'=>e=.returned (.bool (kO c))/\w=w':=by
 unfold kO;go_enter Tryz.func189,Tryz.ntmps189;go_wp2_with (first
  | (go_at_call 241;refine (H_ _ _).mono ?_;rintro e w' ⟨rfl,rfl⟩)
  | (go_at_call 188;refine (yf _ _).mono ?_;rintro e w' ⟨rfl,rfl⟩)
  | (go_at_call 217;refine (yg _ _).mono ?_;rintro e w' ⟨rfl,rfl⟩))
 all_goals (go_ret;simp_all)
def ij (l:List UInt8):Bool:=UK.contains l
theorem eC (s:ByteArray) (w:World) :
  Calls Tryz.prog 240 #[.string s] w fun e w'=>e=.returned (.bool (ij s.data.toList))/\w=w':=by
 go_enter Tryz.func240,Tryz.ntmps240;go_wp2
 all_goals
  go_ret;refine ⟨aO ?_,rfl⟩;rw[<-ByteArray.toList_eq]
  simp_all [ij,UK]
def kY (p:Int->Bool) (l:List UInt8):Bool:=l.all fun c=>p c.toNat
def j7 (first other:Int->Bool) (l:List UInt8):Bool:=decide (1<=l.length/\l.length<=16) && (!ij l && (first (l.headD 0).toNat && kY other l.tail))
theorem na {s:ByteArray} (h:1<=s.size):s.data.toList.headD 0=s[0]:=by
 have h':0<s.data.toList.length:=by simp;omega
 cases hs:s.data.toList with
 | nil=>rw[hs]at h';simp at h'
 | cons a b=>
  have:s[0]=s.data.toList[0]:=by simp[ByteArray.getElem_eq_getElem_data]
  rw[this];simp[hs]
theorem uP (s:ByteArray) (k:Nat) (h1:1<=k) (h:k<s.size) (p:Int->Bool) :
  kY p (s.data.toList.take (k+1)).tail=(kY p (s.data.toList.take k).tail && p s[k].toNat):=by
 rw[mt (by simpa using h)];have h0:(s.data.toList.take k)≠[]:=by
  intro e;have:(s.data.toList.take k).length=0:=by rw[e];rfl
  have hl:s.data.toList.length=s.size:=by simp
  rw[dM,hl]at this;omega
 rw[List.tail_append_of_ne_nil h0];simp[kY,ByteArray.getElem_eq_getElem_data]
theorem rM (s:ByteArray) (k:Nat) (h1:1<=k) (h:k<s.size) (p:Int->Bool) (hp:p s[k].toNat=false):kY p s.data.toList.tail=false:=by
 unfold kY;rw[List.all_eq_false];refine ⟨s[k],?_,by simp[hp]⟩;rw[List.mem_iff_getElem];refine ⟨k - 1,by simp;omega,?_⟩;simp only[List.getElem_tail];simp[ByteArray.getElem_eq_getElem_data,show k - 1+1=k by omega]
theorem lw {p:Int->Bool} {l:List UInt8} (h:¬(1<=l.length/\l.length<=16)):j7 p q l=false:=by simp[j7,h]
theorem uQ {p:Int->Bool} {l:List UInt8} (h:ij l=true):j7 p q l=false:=by simp[j7,h]
theorem pB {p:Int->Bool} {l:List UInt8} (h:p (l.headD 0).toNat=false):j7 p q l=false:=by unfold j7;rw[h];simp
theorem rN {p:Int->Bool} {l:List UInt8} (h:kY q l.tail=false):j7 p q l=false:=by simp[j7,h]
theorem uR {p:Int->Bool} {l:List UInt8} (h1:1<=l.length/\l.length<=16) (h2:ij l=false) (h3:p (l.headD 0).toNat=true) (h4:kY q l.tail=true):j7 p q l=true:=by unfold j7;rw[h3,h2,h4];simp[h1]
theorem yh {p:Int->Bool} {f o:UInt8->Bool} (h1:∀ c:UInt8,p c.toNat=f c) (h2:∀ c:UInt8,q c.toNat=o c):∀ n:Str,j7 p q n=rn f o n
 | []=>rfl
 | c :: r=>by
  have e:kY q r=r.all o:=by unfold kY;congr 1;funext c;exact h2 c
  have d:decide (1<=(c :: r).length/\(c :: r).length<=16)=decide (r.length<16):=by rw[gy];simp;omega
  unfold j7 rn ij;rw[d];simp[h1,e]
theorem Ia (b1 b2:Nat) (s:ByteArray) (w:World) (hs:s.size<=9223372036854775807) (UO:w.cell? ⟨b1,0,none⟩=some (.func (.func 190) #[] #[])) (B8:w.cell? ⟨b2,0,none⟩=some (.func (.func 189) #[] #[])) :
  Calls Tryz.prog 239 #[.string s,.pointer (some ⟨b1,0,none⟩),.pointer (some ⟨b2,0,none⟩)] w fun e w'=>e=.returned (.bool (j7 S3 kO s.data.toList))/\∃n,w'=w.drewN n:=by
 by_cases h1:1<=s.size
 ·have d1:decide ((s.size:Int)<1)=false:=by simp;omega
  have h0:0<s.size:=h1
  by_cases h2:s.size<=16
  ·have d2:decide (16<(s.size:Int))=false:=by simp;omega
   cases hr:ij s.data.toList
   ·cases hf:S3 s[0].toNat
    ·have HR:=ae hr;have pp196a:=();exact pm196
    ·have HR:=ae hr;have pp196b:=();exact pm196
   ·have HR:=ae hr;exact pm269
  ·have d2:decide (16<(s.size:Int))=true:=by simp;omega
   have pp43d:=();exact pm43
 ·have d1:decide ((s.size:Int)<1)=true:=by simp;omega
  have pp43d:=();exact pm43
theorem Fv (b1 b2:Nat) (s:ByteArray) (w:World) (hs:s.size<=9223372036854775807) (UO:w.cell? ⟨b1,0,none⟩=some (.func (.func 216) #[] #[])) (B8:w.cell? ⟨b2,0,none⟩=some (.func (.func 217) #[] #[])) :
  Calls Tryz.prog 239 #[.string s,.pointer (some ⟨b1,0,none⟩),.pointer (some ⟨b2,0,none⟩)] w fun e w'=>e=.returned (.bool (j7 Ft AO s.data.toList))/\∃n,w'=w.drewN n:=by
 by_cases h1:1<=s.size
 ·have d1:decide ((s.size:Int)<1)=false:=by simp;omega
  have h0:0<s.size:=h1
  by_cases h2:s.size<=16
  ·have d2:decide (16<(s.size:Int))=false:=by simp;omega
   cases hr:ij s.data.toList
   ·cases hf:Ft s[0].toNat
    ·have HR:=ae hr;have pp196c:=();exact pm196
    ·have HR:=ae hr;have pp196d:=();exact pm196
   ·have HR:=ae hr;exact pm269
  ·have d2:decide (16<(s.size:Int))=true:=by simp;omega
   have pp43d:=();exact pm43
 ·have d1:decide ((s.size:Int)<1)=true:=by simp;omega
  have pp43d:=();exact pm43
theorem Fw (b1 b2:Nat) (s:ByteArray) (w:World) (hs:s.size<=9223372036854775807) (UO:w.cell? ⟨b1,0,none⟩=some (.func (.func 188) #[] #[])) (B8:w.cell? ⟨b2,0,none⟩=some (.func (.func 189) #[] #[])) :
  Calls Tryz.prog 239 #[.string s,.pointer (some ⟨b1,0,none⟩),.pointer (some ⟨b2,0,none⟩)] w fun e w'=>e=.returned (.bool (j7 DA kO s.data.toList))/\∃n,w'=w.drewN n:=by
 by_cases h1:1<=s.size
 ·have d1:decide ((s.size:Int)<1)=false:=by simp;omega
  have h0:0<s.size:=h1
  by_cases h2:s.size<=16
  ·have d2:decide (16<(s.size:Int))=false:=by simp;omega
   cases hr:ij s.data.toList
   ·cases hf:DA s[0].toNat
    ·have HR:=ae hr;have pp196e:=();exact pm196
    ·have HR:=ae hr;exact pm196
   ·have HR:=ae hr;exact pm269
  ·have d2:decide (16<(s.size:Int))=true:=by simp;omega
   have pp43d:=();exact pm43
 ·have d1:decide ((s.size:Int)<1)=true:=by simp;omega
  have pp43d:=();exact pm43
theorem UP (c:UInt8):S3 c.toNat=(decide (97<=c) && decide (c<=116)):=by rw[gy];simp[S3,UInt8.le_iff_toNat_le];omega
theorem QX (c:UInt8):Ft c.toNat=(decide (117<=c) && decide (c<=122)):=by rw[gy];simp[Ft,UInt8.le_iff_toNat_le];omega
theorem Lk (c:UInt8):uO c.toNat=Nl c:=by rw[gy];simp[uO,Nl,UInt8.le_iff_toNat_le];omega
theorem Kc (c:UInt8):DA c.toNat=J' c:=by rw[gy];simp[DA,J',UInt8.le_iff_toNat_le];omega
theorem Kd (c:UInt8):AO c.toNat=J_ c:=by rw[gy];simp[AO,J_,UInt8.le_iff_toNat_le];omega
theorem B9 (c:UInt8):kO c.toNat=Ka c:=by simp only[kO,Ka,Lk,Kc,Kd,Bool.or_assoc]
theorem rO (f o:Nat) (w:World) :
  Calls Tryz.prog 187 #[.func (.func f) #[] #[],.func (.func o) #[] #[]] w fun e w'=>
   e=.returned (.func (.func 239) #[] #[.pointer (some ⟨w.heap.size,0,none⟩),.pointer (some ⟨w.heap.size+1,0,none⟩)])/\w'=(w.alloc (.cells #[.func (.func f) #[] #[]] 228)).alloc (.cells #[.func (.func o) #[] #[]] 228):=by
 go_enter Tryz.func187,Tryz.ntmps187;go_wp2;go_ret;simp
theorem QY (n:Str):j7 Ft AO n=je n:=yh QX Kd n
theorem ik (n:Str) (w:World) (hn:n.length<=1000000000) :
  Calls Tryz.prog 152 #[.string ⟨n.toArray⟩] w fun e w'=>e=.returned (.bool (je n))/\Below w.heap.size w w':=by
 have hc:=Fv w.heap.size (w.heap.size+1) ⟨n.toArray⟩ ((w.alloc (.cells #[.func (.func 216) #[] #[]] 228)).alloc (.cells #[.func (.func 217) #[] #[]] 228)) (by rw[gQ];omega) (by simp) (by simp);rw[Dz,QY]at hc;have HC:=ae hc;clear hc;go_enter Tryz.func152,Tryz.ntmps152;exact pm67
theorem QZ (n:Str):j7 S3 kO n=AJ n:=yh UP B9 n
theorem lj (n:Str) (w:World) (hn:n.length<=1000000000) :
  Calls Tryz.prog 121 #[.string ⟨n.toArray⟩] w fun e w'=>e=.returned (.bool (AJ n))/\Below w.heap.size w w':=by
 have hc:=Ia w.heap.size (w.heap.size+1) ⟨n.toArray⟩ ((w.alloc (.cells #[.func (.func 190) #[] #[]] 228)).alloc (.cells #[.func (.func 189) #[] #[]] 228)) (by rw[gQ];omega) (by simp) (by simp);rw[Dz,QZ]at hc;have HC:=ae hc;clear hc;go_enter Tryz.func121,Tryz.ntmps121;exact pm67
theorem Nm (n:Str):j7 DA kO n=vW n:=yh Kc B9 n
theorem mH (n:Str) (w:World) (hn:n.length<=1000000000) :
  Calls Tryz.prog 120 #[.string ⟨n.toArray⟩] w fun e w'=>e=.returned (.bool (vW n))/\Below w.heap.size w w':=by
 have hc:=Fw w.heap.size (w.heap.size+1) ⟨n.toArray⟩ ((w.alloc (.cells #[.func (.func 188) #[] #[]] 228)).alloc (.cells #[.func (.func 189) #[] #[]] 228)) (by rw[gQ];omega) (by simp) (by simp);rw[Dz,Nm]at hc;have HC:=ae hc;clear hc;go_enter Tryz.func120,Tryz.ntmps120;exact pm67
theorem Ll (c:UInt8) (r:Str):(⟨(c :: r).toArray⟩:ByteArray).extract 1 (c :: r).length=⟨r.toArray⟩:=by
 apply ByteArray.ext;simp[ByteArray.data_extract]
theorem jh (c:UInt8) (r:Str):(⟨(c :: r).toArray⟩:ByteArray).extract 1 (r.length+1)=⟨r.toArray⟩:=Ll c r
theorem Nn (c:UInt8) (r:Str):(((⟨(c :: r).toArray⟩:ByteArray).extract 0 1)).toList=[c]:=by
 have:(⟨(c :: r).toArray⟩:ByteArray).extract 0 1=⟨#[c]⟩:=by apply ByteArray.ext;simp[ByteArray.data_extract]
 rw[this];simp[ByteArray.toList_eq]
theorem nb (n:Str) (w:World) (hn:n.length<=1000000000) :
  Calls Tryz.prog 242 #[.string ⟨n.toArray⟩,.string ⟨#[63]⟩] w fun e w'=>e=.returned (.bool (n.head? == some 63))/\w=w':=by
 cases n with
 | nil=>
  have pp284:=();exact pm284
 | cons c r=>
  have hs:=gQ (c :: r);simp at hs;have h1:((1:Int)<=((c :: r).length:Int)):=by simp;omega
  exact pm284
theorem v_ (n:Str) (w:World) (hn:n.length<=1000000000) :
  Calls Tryz.prog 191 #[.string ⟨n.toArray⟩,.string ⟨#[63]⟩] w fun e w'=>e=.returned (.bool (n.head? == some 63))/\w=w':=by
 go_enter Tryz.func191,Tryz.ntmps191;go_wp2_with (go_at_call 242;refine (nb n _ hn).mono ?_;rintro e w' ⟨rfl,rfl⟩);go_ret;exact ⟨rfl,rfl⟩
theorem mI (r:Str) (w:World) (hn:(63 :: r).length<=1000000000) :
  Calls Tryz.prog 191 #[.string ⟨(63 :: r).toArray⟩,.string ⟨#[63]⟩] w fun e w'=>e=.returned (.bool true)/\w=w':=v_ (63 :: r) w hn
theorem nK (n:Str) (w:World) (hn:n.length<=1000000000) (h:(n.head? == some 63)=false) :
  Calls Tryz.prog 191 #[.string ⟨n.toArray⟩,.string ⟨#[63]⟩] w fun e w'=>e=.returned (.bool false)/\w=w':=h ▸ v_ n w hn
theorem rP {n:Str} (h:(n.head? == some 63)=true):∃r,n=63 :: r:=by
 cases n with
 | nil=>simp at h
 | cons c r=>simp at h;exact ⟨r,by rw[h]⟩
theorem jE (n:Str) (w:World) (hn:n.length<=1000000000) :
  Calls Tryz.prog 123 #[.string ⟨n.toArray⟩] w fun e w'=>e=.returned (.bool (dV n))/\Below w.heap.size w w':=by
 cases h:(n.head? == some 63) with
 | false=>
  have hp:dV n=false:=by simp only[dV,h,Bool.false_and]
  rw[hp];have CP:=ae (fun w=>nK n w hn h);clear h hp;go_enter Tryz.func123,Tryz.ntmps123;exact pm140
 | true=>
  obtain ⟨r,rfl⟩:=rP h;have hp:dV (63 :: r)=je r:=by simp[dV]
  rw[hp];have CP:=ae (fun w=>mI r w hn);have pp189:=();exact pm189
theorem mJ (n:Str) (w:World) (hn:n.length<=1000000000) :
  Calls Tryz.prog 185 #[.string ⟨n.toArray⟩] w fun e w'=>e=.returned (.bool (dx n))/\Below w.heap.size w w':=by
 have hs:=gQ n
 by_cases hl:n.length<=16
 ·have d1:decide ((n.length:Int)<=16)=true:=by simp;omega
  cases h:(n.head? == some 63) with
  | false=>
   have hp:dx n=false:=by simp only[dx,h,Bool.false_and,Bool.and_false]
   rw[hp];have CP:=ae (fun w=>nK n w hn h);clear h hp;go_enter Tryz.func185,Tryz.ntmps185;exact pm140
  | true=>
   obtain ⟨r,rfl⟩:=rP h;have hp:dx (63 :: r)=vW r:=by simp only[dx,hl,List.head?_cons,List.tail_cons,decide_true,dU,beq_self_eq_true]
   have pp133:=();exact pm133
 ·have d1:decide ((n.length:Int)<=16)=false:=by simp;omega
  have hp:dx n=false:=by simp[dx,hl]
  rw[hp];clear hp;go_enter Tryz.func185,Tryz.ntmps185;go_wp2;go_ret;exact ⟨rfl,ak _ _⟩
theorem kt (n:Str) (w:World) (hn:n.length<=1000000000) :
  Calls Tryz.prog 186 #[.string ⟨n.toArray⟩] w fun e w'=>e=.returned (.bool (cP n))/\Below w.heap.size w w':=by
 have hs:=gQ n
 by_cases hl:n.length<=16
 ·have d1:decide ((n.length:Int)<=16)=true:=by simp;omega
  cases h:(n.head? == some 63) with
  | false=>
   have hp:cP n=false:=by simp only[cP,h,Bool.false_and,Bool.and_false]
   rw[hp];have CP:=ae (fun w=>nK n w hn h);clear h hp;go_enter Tryz.func186,Tryz.ntmps186;exact pm140
  | true=>
   obtain ⟨r,rfl⟩:=rP h;have hp:cP (63 :: r)=AJ r:=by simp only[cP,hl,List.head?_cons,List.tail_cons,decide_true,dU,beq_self_eq_true]
   exact pm133
 ·have d1:decide ((n.length:Int)<=16)=false:=by simp;omega
  have hp:cP n=false:=by simp[cP,hl]
  rw[hp];clear hp;go_enter Tryz.func186,Tryz.ntmps186;go_wp2;go_ret;exact ⟨rfl,ak _ _⟩
theorem jF (n:Str) (w:World) (hn:n.length<=1000000000) :
  Calls Tryz.prog 119 #[.string ⟨n.toArray⟩] w fun e w'=>e=.returned (.bool (dC n))/\Below w.heap.size w w':=by
 unfold dC
 cases h1:dx n with
 | true=>
  have pp267:=();exact pm267
 | false=>
  exact pm267
theorem Ib (n:Str):dx n=(dC n && vW n.tail):=by
 exact pm264
theorem DB (n:Str) (w:World) (hn:n.length<=1000000000) :
  Calls Tryz.prog 65 #[.string ⟨n.toArray⟩] w fun e w'=>e=.returned (.bool (dx n))/\Below w.heap.size w w':=by
 rw[Ib]
 cases h:dC n with
 | false=>
  have C1:=ae (fun w=>h ▸ jF n w hn);clear h;go_enter Tryz.func65,Tryz.ntmps65;exact pm248
 | true=>
  have pp103:=();exact pm103
theorem Ic (n:Str):cP n=(dC n && AJ n.tail):=by
 exact pm264
theorem DC (n:Str) (w:World) (hn:n.length<=1000000000) :
  Calls Tryz.prog 67 #[.string ⟨n.toArray⟩] w fun e w'=>e=.returned (.bool (cP n))/\Below w.heap.size w w':=by
 rw[Ic]
 cases h:dC n with
 | false=>
  have C1:=ae (fun w=>h ▸ jF n w hn);clear h;go_enter Tryz.func67,Tryz.ntmps67;exact pm248
 | true=>
  exact pm103
theorem eI (q:FQ) (w:World) :
  Calls Tryz.prog 93 #[q.val] w fun e w'=>e=.returned (.bool (bU q.o))/\Below w.heap.size w w':=by
 obtain ⟨o,n,a,l,c,b,m,e⟩:=q;unfold FQ.val bU;go_enter Tryz.func93,Tryz.ntmps93;go_wp2
 all_goals (go_ret;refine ⟨aO (by simp_all),cJ⟩)
theorem oK (q:FQ) (w:World) :
  Calls Tryz.prog 146 #[q.val] w fun e w'=>e=.returned (.bool (bU q.o))/\Below w.heap.size w w':=by
 obtain ⟨o,n,a,l,c,b,m,e⟩:=q;unfold FQ.val bU;go_enter Tryz.func146,Tryz.ntmps146;go_wp2
 all_goals (go_ret;refine ⟨aO (by simp_all),cJ⟩)
theorem eU (n:Str) (w:World) (hn:n.length<=1000000000) :
  Calls Tryz.prog 130 #[.string ⟨n.toArray⟩] w fun e w'=>e=.returned (.string ⟨(dc n).toArray⟩)/\w=w':=by
 have hs:=gQ n;go_enter Tryz.func130,Tryz.ntmps130;go_wp2;go_ret;exact ⟨QW (by apply ByteArray.ext;simp[dc]),rfl⟩
theorem gj (n:Str) (w:World) :
  Calls Tryz.prog 131 #[.string ⟨n.toArray⟩] w fun e w'=>e=.returned (.agg #[.bool true,.string ⟨n.toArray⟩,.slice none 0 0])/\Below w.heap.size w w':=by
 go_enter Tryz.func131,Tryz.ntmps131;go_wp2;refine bJ (v:=.agg #[.bool true,.string ⟨n.toArray⟩,.slice none 0 0]) (by simp[results,Tryz.results131,go_sem]) rfl ⟨rfl,?_⟩;exact cJ
section
variable {F:Fence} {n:Nat} {P:Program} {Q:Exit->Act->World->Prop}
theorem bw {o:Oper} {a:Act} {w:World} {K:Act->World->Prop} (s x:Operand) (t:TypeId)
  (ho:o.op=.call { callee:=.builtin .append,args:=#[s,x],argTypes:=#[t,t] })
  (base:Nat) (e:TypeId) (i:TypeInfo) (z:Value) (size bytes:Nat) (ht:P.underlying t=some (.slice e)) (hi:P.info? e=some i) (hz:i.zero=some z)
  (Ke:i.size=size) (hby:i.bytes=bytes) (hzs:z.cells.size=size) (hsz:0<size)
  (v:Value) (k:Nat) (xs:List Value) (hs:a.eval s=v) (au:w.ownsRow base e size v k xs)
  (ad:Addr) (m c:Nat) (uS:List Value) (hx:a.eval x=.slice (some ad) m c) (hl:uS.length=m * size) (Kf:∀ j u,uS[j]?=some u->w.cell? (ad.add j)=some u) (h1:∀ u∈uS,u.oneCell'=true)
  (hm:0<m) (h63:k+m<=maxLen) (DD:(k+m) * bytes<=140737488355328) (Y6:base<=w.heap.size) (H:Nat) (hH:w.heap.size=H)
  (h:∀ g cap w',w'.ownsRow base e size (.slice (some ⟨g,0,none⟩) (k+m) cap) (k+m) (xs ++ uS)->w.grownBy w' v.ownBlock->(v.ownBlock=some g\/g=H)->g<w'.heap.size->K (a.put o.dst (.slice (some ⟨g,0,none⟩) (k+m) cap)) w'):o.wpIn F n P a w K Q:=by
 obtain ⟨g,cap,w',hr,h2,h3,h4,h5⟩:=run_append_lies (P:=P) w t o.type base e i z size bytes ht hi hz Ke hby hzs hsz v k xs au ad m c uS hl Kf h1 hm h63 DD Y6 H hH;unfold Oper.wpIn;refine ⟨?_,?_⟩
 ·simp[Oper.about,ho,resolve,Target.leads,Sem.run_pure]
 ·rw[Oper.semAt_plain F _ _ (by rw[ho];intro c Y7;cases Y7)];simp[execOp,ho,resolve,invoke,builtin,hs,hx,hr,Result.andThen];exact h g cap w' h2 h3 h4 h5
end
structure Fills (T:TypeId) (R lo:Nat) (mk:Value->Array Value) (Row:Value->World->Prop) (W1 W:World) (row:Value):Prop where
 box:W.heap[R]?=some (.cells (mk row) T (0,0))
 row:Row row W
 kp:Kp (fun b=>b=R) W1 W
 lt:R<lo
 base:lo=W1.heap.size
theorem Fills.size {T:TypeId} {mk:Value->Array Value} {W:World} (h:Fills T R lo mk Row W1 W row):lo<=W.heap.size:=by have:=h.kp.size;have:=h.base;omega
theorem Fills.cell {T:TypeId} {mk:Value->Array Value} {W:World} (h:Fills T R lo mk Row W1 W row) (k:Nat):W.cell? ⟨R,k,none⟩=(mk row)[k]?:=aE h.box k
theorem Fills.below {T:TypeId} {mk:Value->Array Value} {w W:World} (h:Fills T R lo mk Row W1 W row) (hb:Below w.heap.size w W1) (hR:w.heap.size<=R):Below w.heap.size w W:=
 ⟨h.kp.os.trans hb.os,h.kp.tape.trans hb.tape,h.kp.output.trans hb.output,aN hb.size h.kp.size,fun b hlt=>(h.kp.same b (bE hlt hb.size) (by omega)).trans (hb.block b hlt)⟩
theorem Fills.start {T:TypeId} {mk:Value->Array Value} (hx:W1.heap[R]?=some (.cells (mk row) T (0,0))) (hr:Row row W1):Fills T R W1.heap.size mk Row W1 W1 row:=
 ⟨hx,hr,Kp.refl _,(bz hx),rfl⟩
theorem Fills.later {T:TypeId} {mk:Value->Array Value} {W:World} (h:Fills T R lo mk Row W1 W row) (hb:Below W.heap.size W W') (hr:Row row W->Row row W'):Fills T R lo mk Row W1 W' row:=
 ⟨(hb.block R (bz h.box)).trans h.box,hr h.row,h.kp.trans (Kp.below hb),h.lt,h.base⟩
theorem Fills.other {T:TypeId} {mk:Value->Array Value} {W:World} (h:Fills T R lo mk Row W1 W row) {b:Nat} (i9:b≠R) (hb:W1.heap[b]?=some o):W.heap[b]?=some o:=
 (h.kp.same b (bz hb) i9).trans hb
theorem bq {W:World} {F:Nat} {cs:Array Value} {T:TypeId} (h:W.heap[R]?=some (.cells cs T (0,0))) (u:Value):(W.setCell ⟨R,F,none⟩ u).heap[R]?=some (.cells (cs.setIfInBounds F u) T (0,0)):=heap_setCell_same _ _ F _ _ u h
theorem Fills.at4 {T:TypeId} {size n kk:Nat} {mk:Value->Array Value}
  (h:Fills T R lo mk Row W1 wr row) (au:wr.ownsRow lo e size row n xs) (hA:Below wr.heap.size wr A) (ao:(A.alloc o).grownBy w4 row.ownBlock):w4.heap[R]?=some (.cells (mk row) T (0,0))/\w4.frozen? ⟨R,kk,none⟩=false/\w4.cell? ⟨R,kk,none⟩=(mk row)[kk]?:=by
 have hlt:=(bz h.box);have hs:=hA.size;have hx:w4.heap[R]?=some (.cells (mk row) T (0,0)):=(ao.block R (by simp;omega) (fun e=>by have:=(au.lt R e.symm).1;have:=h.lt;omega)).trans ((bI _ _ _ (by omega)).trans ((hA.block R hlt).trans h.box));exact ⟨hx,by simp[World.frozen?,hx],aE hx kk⟩
theorem Fills.kp5 {T:TypeId} {size n F:Nat} {mk:Value->Array Value} {u:Value}
  (h:Fills T R lo mk Row W1 wr row) (au:wr.ownsRow lo e size row n xs) (hA:Below wr.heap.size wr A) (ao:(A.alloc o).grownBy w4 row.ownBlock):Kp (fun b=>b=R) W1 (w4.setCell ⟨R,F,none⟩ u):=by
 have hs:=hA.size;have hg:=ao.size;simp only[World.size_alloc]at hg;have h1:Kp (fun b=>b=R) wr (w4.setCell ⟨R,F,none⟩ u)->Kp (fun b=>b=R) W1 (w4.setCell ⟨R,F,none⟩ u):=fun k=>h.kp.trans k;refine ⟨ao.os.trans (hA.os.trans h.kp.os),ao.tape.trans (hA.tape.trans h.kp.tape),ao.output.trans (hA.output.trans h.kp.output),by have:=h.kp.size;simp;omega,fun b hb i9=>?_⟩;have bD:b<wr.heap.size:=bE hb h.kp.size;exact (ei _ _ _ _ (by simpa using i9)).trans ((ao.block b (by simp;omega) (fun e=>by have:=(au.lt b e.symm).1;have:=h.base;omega)).trans ((bI _ _ _ (by omega)).trans ((hA.block b bD).trans (h.kp.same b hb i9))))
theorem Fills.stepT {T:TypeId} {F:Nat} {mk:Value->Array Value} {qs:List TQ} {p:TQ}
  (h:Fills T R lo mk (fun r=>RowT lo r ts) W1 wr row) (au:wr.ownsRow lo 43 3 row ts.length (qs.flatMap TQ.cells)) (et:qs.length=ts.length) (gp:∀ j (h:j<qs.length) (h2:j<ts.length),TermV (fun b=>lo<=b/\row.ownBlock≠some b) wr qs[j].val ts[j])
  (hA:Below wr.heap.size wr A) (hp:TermV (wr.heap.size<=·) A p.val t)
  (aR:w4.ownsRow lo 43 3 (.slice (some ⟨g,0,none⟩) (ts.length+1) cap) (ts.length+1) (qs.flatMap TQ.cells ++ p.cells)) (ao:(A.alloc o).grownBy w4 row.ownBlock) (hg:row.ownBlock=some g\/g=A.heap.size+1)
  (wa:(mk row).setIfInBounds F (.slice (some ⟨g,0,none⟩) (ts.length+1) cap)=mk (.slice (some ⟨g,0,none⟩) (ts.length+1) cap)) :
  Fills T R lo mk (fun r=>RowT lo r (ts ++ [t])) W1 (w4.setCell ⟨R,F,none⟩ (.slice (some ⟨g,0,none⟩) (ts.length+1) cap)) (.slice (some ⟨g,0,none⟩) (ts.length+1) cap):=by
 have pp84a:=();exact pm84
theorem Fills.stepF {T:TypeId} {F:Nat} {mk:Value->Array Value} {ts:List Fm} {t:Fm} {qs:List FQ} {p:FQ}
  (h:Fills T R lo mk (fun r=>RowF lo r ts) W1 wr row) (au:wr.ownsRow lo 36 4 row ts.length (qs.flatMap FQ.cells)) (et:qs.length=ts.length) (gp:∀ j (h:j<qs.length) (h2:j<ts.length),FormV (fun b=>lo<=b/\row.ownBlock≠some b) wr qs[j].val ts[j])
  (hA:Below wr.heap.size wr A) (hp:FormV (wr.heap.size<=·) A p.val t)
  (aR:w4.ownsRow lo 36 4 (.slice (some ⟨g,0,none⟩) (ts.length+1) cap) (ts.length+1) (qs.flatMap FQ.cells ++ p.cells)) (ao:(A.alloc o).grownBy w4 row.ownBlock) (hg:row.ownBlock=some g\/g=A.heap.size+1)
  (wa:(mk row).setIfInBounds F (.slice (some ⟨g,0,none⟩) (ts.length+1) cap)=mk (.slice (some ⟨g,0,none⟩) (ts.length+1) cap)) :
  Fills T R lo mk (fun r=>RowF lo r (ts ++ [t])) W1 (w4.setCell ⟨R,F,none⟩ (.slice (some ⟨g,0,none⟩) (ts.length+1) cap)) (.slice (some ⟨g,0,none⟩) (ts.length+1) cap):=by
 have pp84b:=();exact pm84
theorem pC {W:World} {b:Nat} {a1 a2 v1 v2:Value} {T:TypeId} (h:W.heap[b]?=some (.cells #[a0,a1,a2] T (0,0))) :
  (((W.setCell ⟨b,0,none⟩ v0).setCell ⟨b,1,none⟩ v1).setCell ⟨b,2,none⟩ v2).heap[b]?=some (.cells #[v0,v1,v2] T (0,0)):=by
 have h0:=bq (F:=0) h v0;have h1:=bq (F:=1) h0 v1;exact (bq (F:=2) h1 v2).trans rfl
theorem kP {W:World} {b:Nat} {a1 a2 a3 v1 v2 v3:Value} {T:TypeId} (h:W.heap[b]?=some (.cells #[a0,a1,a2,a3] T (0,0))) :
  ((((W.setCell ⟨b,0,none⟩ v0).setCell ⟨b,1,none⟩ v1).setCell ⟨b,2,none⟩ v2).setCell ⟨b,3,none⟩ v3).heap[b]?=some (.cells #[v0,v1,v2,v3] T (0,0)):=by
 have h0:=bq (F:=0) h v0;have h1:=bq (F:=1) h0 v1;have h2:=bq (F:=2) h1 v2;exact (bq (F:=3) h2 v3).trans rfl
theorem eD {W:World} {b:Nat} {v1 v2:Value}:Kp (fun c=>c=b) W (((W.setCell ⟨b,0,none⟩ v0).setCell ⟨b,1,none⟩ v1).setCell ⟨b,2,none⟩ v2):=
 ⟨rfl,rfl,rfl,by simp,fun c _ hc=>(ei _ _ _ _ (by simpa using hc)).trans ((ei _ _ _ _ (by simpa using hc)).trans (ei _ _ _ _ (by simpa using hc)))⟩
theorem dA {W:World} {b:Nat} {v1 v2 v3:Value}:Kp (fun c=>c=b) W ((((W.setCell ⟨b,0,none⟩ v0).setCell ⟨b,1,none⟩ v1).setCell ⟨b,2,none⟩ v2).setCell ⟨b,3,none⟩ v3):=
 ⟨rfl,rfl,rfl,by simp,fun c _ hc=>(ei _ _ _ _ (by simpa using hc)).trans ((ei _ _ _ _ (by simpa using hc)).trans ((ei _ _ _ _ (by simpa using hc)).trans (ei _ _ _ _ (by simpa using hc))))⟩
theorem Below.kp1 {w W:World} {b:Nat} (h:Below w.heap.size w W) (hk:Kp (fun c=>c=b) W W') (hb:w.heap.size<=b):Below w.heap.size w W':=
 ⟨hk.os.trans h.os,hk.tape.trans h.tape,hk.output.trans h.output,aN h.size hk.size,fun c hc=>(hk.same c (bE hc h.size) (by omega)).trans (h.block c hc)⟩
theorem RowT.kp1 {b:Nat} {W:World} (h:RowT lo v ts W) (hk:Kp (fun c=>c=b) W W') (hb:b<lo):RowT lo v ts W':=h.held (fun c hc hlt=>hk.same c hlt (by omega))
theorem RowF.kp1 {b:Nat} {ts:List Fm} {W:World} (h:RowF lo v ts W) (hk:Kp (fun c=>c=b) W W') (hb:b<lo):RowF lo v ts W':=h.held (fun c hc hlt=>hk.same c hlt (by omega))
theorem RowT.term {w:Nat} {W:World} {v:Bool} {n:Str} {a:Option Addr} (h:RowT lo (.slice a l c) ts W) (hw:w<=lo):TermV (w<=·) W (TQ.val ⟨v,⟨n.toArray⟩,a,l,c⟩) (.mk v n ts):=
 aV.2 ⟨_,rfl,h.terms.move (fun _ hok _=>⟨aN hw hok,rfl⟩)⟩
theorem RowF.form {lo2 w:Nat} {W:World} {o:Int} {n:Str} {fs:List Fm} {a b:Option Addr} {e:Nat} (ht:RowT lo (.slice a l c) ts W) (hf:RowF lo2 (.slice b m e) fs W) (hw:w<=lo) (MT:w<=lo2):FormV (w<=·) W (FQ.val ⟨o,⟨n.toArray⟩,a,l,c,b,m,e⟩) (.mk o n ts fs):=
 aW.2 ⟨_,_,rfl,ht.terms.move (fun _ hok _=>⟨aN hw hok,rfl⟩),hf.forms.move (fun _ hok _=>⟨aN MT hok,rfl⟩)⟩
section
attribute [local go_sem] Oper.semAt_some
theorem nL:∀ (t:Tm),fitT t->∀ (ok:Nat->Prop) (w:World) (q:TQ),TermV ok w q.val t →
  Calls Tryz.prog 53 #[q.val] w fun e w'=>∃p:TQ,e=.returned p.val/\TermV (w.heap.size<=·) w' p.val t/\Below w.heap.size w w':=by
 obtain ⟨i0,hi,nM,i_,ig⟩:=info_parts gE;intro t
 induction t using Tm.ind with
 | h v n a ih=>
  intro az ok w q hq;have pp167a:=();exact pm167
