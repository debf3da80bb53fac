/-
A range over a function whose body writes blocks of its own that lay ahead of the loop (a fixed set of them),and whose iterator makes new blocks: the notions,and the law at a loop of a function.
Rows of terms and of formulas that a call makes,element by element.
Terms and formulas that are not too great for the walks: a bound on the nodes,and on each name's bytes.
-/
import Derived.Test.YtokemihbkeddoaaGreatDoorU00
import Derived.RangeFuncNested
import Derived.RangeFuncBound
import Derived.RangeFuncLeaves
import Derived.RangeFuncBox
import Derived.WalkKit
import Derived.Lib.Hide
import Derived.Below
import Derived.Test.YtokemihbkeddoaaGreatDoorProg
import Derived.Test.YtokemihbkeddoaaGreatDoorU01
import Derived.Deep.AppendLies
namespace Go.Proofs.YtokemihbkeddoaaGreatDoor
open Go Go.RowKit Lib
set_option maxRecDepth 100000
set_option maxHeartbeats 64000000
theorem BK {F:Fence} (hd:F.depth=none) (k:Nat):F.room k:=fun d h=>by rw[hd]at h;cases h
theorem DS {F:Fence} (hd:F.depth=none) {m m':Nat} {P:Program} {l:Nat} {f:FuncId} {tmps:Array Value} {assign body:Code} {w:World} {R:Ending->World->Prop}
  (h:RoundIn F m P l f tmps assign body w R):RoundIn F m' P l f tmps assign body w R:=⟨h.1,fun c cs _=>h.2 c cs (BK hd _)⟩
theorem iz {m:Nat} (m':Nat) {P:Program} {l:Nat} {args:Array Value} {W:World} {R:Ending->World->Prop} (h:YieldAt Fence.wide m P l args W R):YieldAt Fence.wide m' P l args W R:=by
 obtain ⟨fn,tmps,assign,body,hy,hR⟩:=h
 exact ⟨fn,tmps,assign,body,hy,DS rfl hR⟩
structure Kp (M:Nat->Prop) (X Y:World):Prop where
 os:Y.os=X.os
 tape:Y.tape=X.tape
 output:Y.output=X.output
 size:X.heap.size<=Y.heap.size
 same:∀ b,b<X.heap.size->¬M b->Y.heap[b]?=X.heap[b]?
structure KpFrom (M:Nat->Prop) (B:Nat) (X Y:World):Prop where
 size:X.heap.size<=Y.heap.size
 same:∀ b,B<=b->b<X.heap.size->¬M b->Y.heap[b]?=X.heap[b]?
variable {M:Nat->Prop}
theorem Kp.refl (W:World):Kp M W W:=⟨rfl,rfl,rfl,Nat.le_refl _,fun _ _ _=>rfl⟩
theorem Kp.trans {A B C:World} (h:Kp M A B) (k:Kp M B C):Kp M A C:=
 ⟨k.os.trans h.os,k.tape.trans h.tape,k.output.trans h.output,Nat.le_trans h.size k.size,fun b hb hm=>(k.same b (Nat.lt_of_lt_of_le hb h.size) hm).trans (h.same b hb hm)⟩
theorem Kp.mono {M':Nat->Prop} {A B:World} (h:Kp M A B) (hM:∀ b,b<A.heap.size->M b->M' b):Kp M' A B:=⟨h.os,h.tape,h.output,h.size,fun b hb hm=>h.same b hb (fun h'=>hm (hM b hb h'))⟩
theorem Kp.from {A B:World} (h:Kp M A B) (n:Nat):KpFrom M n A B:=⟨h.size,fun b _ hb hm=>h.same b hb hm⟩
theorem KpFrom.trans {n:Nat} {A B C:World} (h:KpFrom M n A B) (k:KpFrom M n B C):KpFrom M n A C:=
 ⟨Nat.le_trans h.size k.size,fun b hn hb hm=>(k.same b hn (Nat.lt_of_lt_of_le hb h.size) hm).trans (h.same b hn hb hm)⟩
theorem KpFrom.mono {n n':Nat} {A B:World} (h:KpFrom M n A B) (hn:n<=n'):KpFrom M n' A B:=⟨h.size,fun b hb hs=>h.same b (Nat.le_trans hn hb) hs⟩
theorem Kp.below {A B:World} (h:Below A.heap.size A B):Kp M A B:=⟨h.os,h.tape,h.output,h.size,fun b hb _=>h.block b hb⟩
theorem Kp.empty {A B:World} (h:Kp (fun _=>False) A B):Below A.heap.size A B:=⟨h.os,h.tape,h.output,h.size,fun b hb=>h.same b hb id⟩
theorem Kp.cell {A B:World} (h:Kp M A B) {a:Addr} {v:Value} (hm:¬M a.block) (hc:A.cell? a=some v):B.cell? a=some v:=
 (World.cell?_of_block (h.same a.block (World.block_lt_of_cell? A a hc) hm)).trans hc
theorem Kp.grown {A B:World} {r:Nat} (h:A.grownBy B (some r)) (hr:M r):Kp M A B:=⟨h.os,h.tape,h.output,h.size,fun b hb hm=>h.block b hb (fun e=>hm (by cases e;exact hr))⟩
structure Nw (B:Nat) (X Y:World):Prop where
 os:Y.os=X.os
 tape:Y.tape=X.tape
 output:Y.output=X.output
 size:X.heap.size<=Y.heap.size
 same:∀ b,b<X.heap.size->Y.heap[b]?=X.heap[b]?\/(B<=b/\(∃o:Obj,X.heap[b]?=some o/\o.isCells=false)/\∃o:Obj,Y.heap[b]?=some o/\o.isCells=false)
theorem Nw.refl (B:Nat) (X:World):Nw B X X:=⟨rfl,rfl,rfl,Nat.le_refl _,fun _ _=>.inl rfl⟩
theorem Nw.trans {B:Nat} {X Y Z:World} (h:Nw B X Y) (k:Nw B Y Z):Nw B X Z:=
 ⟨k.os.trans h.os,k.tape.trans h.tape,k.output.trans h.output,Nat.le_trans h.size k.size,fun b hb=>by
  rcases h.same b hb with h1 | ⟨h1,h2,h3⟩
  ·rcases k.same b (Nat.lt_of_lt_of_le hb h.size) with k1 | ⟨k1,k2,k3⟩
   ·exact .inl (k1.trans h1)
   ·exact .inr ⟨k1,by rw[<-h1];exact k2,k3⟩
  ·rcases k.same b (Nat.lt_of_lt_of_le hb h.size) with k1 | ⟨k1,k2,k3⟩
   ·exact .inr ⟨h1,h2,by rw[k1];exact h3⟩
   ·exact .inr ⟨h1,h2,k3⟩⟩
theorem Nw.mono {B B':Nat} {X Y:World} (h:Nw B' X Y) (hB:B<=B'):Nw B X Y:=⟨h.os,h.tape,h.output,h.size,fun b hb=>by
 rcases h.same b hb with h1 | ⟨h1,h2⟩
 ·exact .inl h1
 ·exact .inr ⟨Nat.le_trans hB h1,h2⟩⟩
theorem Nw.below {B:Nat} {X Y:World} (h:Below X.heap.size X Y):Nw B X Y:=⟨h.os,h.tape,h.output,h.size,fun b hb=>.inl (h.block b hb)⟩
theorem Nw.put {B l:Nat} {X:World} {o o':Obj} (hB:B<=l) (hl:X.heap[l]?=some o) (ho:o.isCells=false) (LG:o'.isCells=false):Nw B X (X.putObj l o'):=
 ⟨rfl,rfl,rfl,by simp,fun b hb=>by
  by_cases h:b=l
  ·subst h;exact .inr ⟨hB,⟨o,hl,ho⟩,o',World.putObj_heap_same hb,LG⟩
  ·exact .inl (World.putObj_heap_other h)⟩
theorem Nw.old {B:Nat} {X Y:World} (h:Nw B X Y) {b:Nat} (hb:b<B) (hx:b<X.heap.size):Y.heap[b]?=X.heap[b]?:=by
 rcases h.same b hx with h1 | ⟨h1,_⟩
 ·exact h1
 ·omega
theorem Nw.cells {B:Nat} {X Y:World} (h:Nw B X Y) {b:Nat} {cs:Array Value} {t:TypeId} {fr:Nat×Nat} (hc:X.heap[b]?=some (.cells cs t fr)):Y.heap[b]?=some (.cells cs t fr):=by
 rcases h.same b (bl hc) with h1 | ⟨_,⟨o,h1,h2⟩,_⟩
 ·exact h1.trans hc
 ·rw[hc]at h1;cases h1;cases h2
theorem Nw.cell {B:Nat} {X Y:World} (h:Nw B X Y) {a:Addr} {v:Value} (hc:X.cell? a=some v):Y.cell? a=some v:=by
 cases ho:X.heap[a.block]? with
 | none=>simp[World.cell?,ho]at hc
 | some o=>
  cases o with
  | cells cs t fr=>exact (World.cell?_of_block ((h.cells ho).trans ho.symm)).trans hc
  | _=>simp[World.cell?,ho]at hc
def Abides (B:Nat) (I:World->Prop):Prop:=∀ X Y,Nw B X Y->I X->I Y
theorem Abides.mono {B B':Nat} {I:World->Prop} (h:Abides B I) (hB:B<=B'):Abides B' I:=fun X Y hn=>h X Y (hn.mono hB)
theorem Abides.and {B:Nat} {I I':World->Prop} (h:Abides B I) (h':Abides B I'):Abides B (fun W=>I W/\I' W):=fun X Y hn hi=>⟨h X Y hn hi.1,h' X Y hn hi.2⟩
def Gb (M:Nat->Prop) (st:Prop) (P:Program) (gf:Nat) (lb:Array Value) {T:Type} (xs:List T) (At:World->Array Value->T->Prop) (w:World):Prop:=
 ∀ (l:Nat) (J Jx:List T->World->Prop) (W:World),Kp M w W->(∀ b,M b->b<w.heap.size)->l<W.heap.size->¬M l →
  (∀ s,Abides W.heap.size (J s))->(∀ s,Abides W.heap.size (Jx s)) →
  (∀ pre vs x W1,J pre W1->Kp M W W1->At W1 vs x->(pre ++ [x]) <+: xs->YieldAt Fence.wide 0 P l vs W1 fun e W'=>
    (e=.returned (.bool true)/\J (pre ++ [x]) W'/\Kp M W1 W')\/(st/\e=.returned (.bool false)/\Jx (pre ++ [x]) W'/\KpFrom M (l+1) W1 W')) →
  J [] W →
  Calls P gf (#[.func (.yield l) #[] #[]] ++ lb) W fun e W'=>(∃v,e=.returned v) ∧
   ((J xs W'/\Kp M W W')\/(st/\∃pre,pre <+: xs/\Jx pre W'/\KpFrom M (l+1) W W'))
def Q4 (M:Nat->Prop) (st:Prop) {T:Type} (B:Nat) (I:List T->World->Prop) (Ix:Code->List T->World->Prop) (xs:List T) (W:World):Exit->Act->World->Prop
 | .normal,_,W'=>Kp M W W'/\I xs W'
 | .ret,_,W'=>st/\KpFrom M B W W'/\Ix .ret xs W'
 | .exit id,_,W'=>st/\KpFrom M B W W'/\Ix (.exit id) xs W'
 | .goto t,_,W'=>st/\KpFrom M B W W'/\Ix (.goto t) xs W'
 | .panic _,_,_=>False
 | .outgrown,_,_=>False
structure Busy (l:Nat) (W W2:World):Prop where
 os:W2.os=W.os
 tape:W2.tape=W.tape
 output:W2.output=W.output
 size:W2.heap.size=W.heap.size
 same:∀ b,b≠l->W2.heap[b]?=W.heap[b]?
 lrec:∃r,W2.heap[l]?=some (.loop r)
theorem Busy.kp {l:Nat} {W W2:World} (h:Busy l W W2):Kp (·=l) W W2:=⟨h.os,h.tape,h.output,Nat.le_of_eq h.size.symm,fun b _ hb=>h.same b hb⟩
theorem Busy.cell {l:Nat} {W W2:World} (h:Busy l W W2) (hl:∃r,W.heap[l]?=some (.loop r)) {a:Addr} {v:Value} (hc:W.cell? a=some v):W2.cell? a=some v:=by
 refine (World.cell?_of_block (h.same a.block (fun e=>?_))).trans hc
 obtain ⟨r,hr⟩:=hl
 rw[World.cell?,e,hr]at hc
 simp at hc
theorem BL {w X:World} {L:Nat} (o:Obj) (hk:Kp M w X) (hL:w.heap.size<=L):Kp M w (X.putObj L o):=
 ⟨hk.os,hk.tape,hk.output,by simpa using hk.size,fun b hb hm=>(World.putObj_heap_other (by omega)).trans (hk.same b hb hm)⟩
theorem O0 {P:Program} {st:Prop} {T:Type} {xs:List T} {ps:Array Tmp} {assign body:Code} {w:World} {fn:Nat} {tmps:Array Value} {L dd:Nat} (Vf:w.heap.size<=L) (hM:∀ b,M b->b<w.heap.size)
  {sS:LoopState->Option Code->Loop} (vI:sS=fun st pe=>{ state:=st,pending:=pe,fn,tmps,params:=ps,assign,body,defers:=dd })
  {At:World->Array Value->T->Prop} (gh:∀ W vs x,At W vs x->vs.size=ps.size)
  (I:List T->World->Prop) (Ix:Code->List T->World->Prop) (hI:∀ s,Abides w.heap.size (I s)) (hIx:∀ c s,Abides w.heap.size (Ix c s))
  (Gc:∀ (l:Nat) (pre:List T) (vs:Array Value) (x:T) (W:World),w.heap.size<=l->(∃r,W.heap[l]?=some (.loop r))->I pre W->At W vs x->Kp M w W->(pre ++ [x]) <+: xs →
    assign.wpIn (Fence.wide.inRound l) 3 P (Exit.then (fun a' W'=>Kp M W W'/\I pre W'/\∀ W2,Busy l W' W2->I pre W2->Kp M w W2 →
     body.wpIn (Fence.wide.inRound l) 3 P (Q4 M st w.heap.size I Ix (pre ++ [x]) W2) a' W2) (fun _ _ _=>False)) { tmps:=(ps.zip vs).foldl (fun t (p,v)=>t.setIfInBounds p v) tmps,defers:=[] } W)
  (pre:List T) (vs:Array Value) (x:T) (W:World) (hi:I pre W) (hl:W.heap[L]?=some (.loop (sS .ready none))) (g_:Kp M w W) (hat:At W vs x) (cV:(pre ++ [x]) <+: xs)
  (D:Nat) (od:Obj) (hD:w.heap.size<=D/\D≠L) (hd:W.heap[D]?=some od) :
  YieldAt Fence.wide 0 P L vs W fun e W'=>
   (e=.returned (.bool true)/\(I (pre ++ [x]) W'/\W'.heap[L]?=some (.loop (sS .ready none))/\W'.heap[D]?=some od/\Kp M w W')/\Kp M W W') ∨
   (st/\e=.returned (.bool false)/\(∃c,Ix c (pre ++ [x]) W'/\W'.heap[L]?=some (.loop (sS .done (some c)))/\W'.heap[D]?=some od)/\KpFrom M (L+1) W W'):=by
 refine iz (m:=3) 0 ?_
 have hy:=run_yield (P:=P) (args:=vs) hl (by rw[vI];exact gh W vs x hat)
 rw[vI]at hy
 refine ⟨fn,_,assign,body,hy,roundIn_of_wpIn trivial (wpIn_mono (Gc L pre vs x W Vf ⟨_,hl⟩ hi hat g_ cV) ?_)⟩
 clear hy hat
 intro e1 a' Wa hq1
 cases e1 with
 | ret=>exact hq1.elim
 | exit id=>exact hq1.elim
 | goto t=>exact hq1.elim
 | panic ch=>exact hq1.elim
 | outgrown=>exact hq1.elim
 | normal=>?_
 obtain ⟨da,wy,Wg⟩:=hq1
 have hLW:=(bl hl)
 have hDW:=(bl hd)
 have hLm:¬M L:=fun h=>by have:=hM L h;omega
 have hDm:¬M D:=fun h=>by have:=hM D h;omega
 have hla:Wa.heap[L]?=some (.loop (sS .ready none)):=(da.same L hLW hLm).trans hl
 have hda:Wa.heap[D]?=some od:=(da.same D hDW hDm).trans hd
 have Wh:L<Wa.heap.size:=(bl hla)
 refine ⟨_,run_beginRound hla (by rw[vI]),?_⟩
 have pT:(Wa.putObj L (.loop { sS .ready none with state:=.busy })).heap[L]?=some (.loop { sS .ready none with state:=.busy }):=World.putObj_heap_same Wh
 have Q3:(Wa.putObj L (.loop { sS .ready none with state:=.busy })).heap[D]?=some od:=(World.putObj_heap_other hD.2).trans hda
 have zal:=g_.trans da
 refine wpIn_mono (Wg _ ⟨rfl,rfl,rfl,by simp,fun b hb=>World.putObj_heap_other hb,_,pT⟩ (hI pre _ _ (Nw.put Vf hla rfl rfl) wy) (BL _ zal Vf)) ?_
 have fin:∀ (pJ:Option Code) (W3:World),KpFrom M w.heap.size (Wa.putObj L (.loop { sS .ready none with state:=.busy })) W3 →
   (Instr.endRound L pJ).run P W3=.ok (.bool pJ.isNone) (W3.putObj L (.loop (sS (if pJ.isNone then .ready else .done) pJ))) ∧
   W3.heap[L]?=some (.loop { sS .ready none with state:=.busy }) ∧
   (W3.putObj L (.loop (sS (if pJ.isNone then .ready else .done) pJ))).heap[L]?=some (.loop (sS (if pJ.isNone then .ready else .done) pJ)) ∧
   (W3.putObj L (.loop (sS (if pJ.isNone then .ready else .done) pJ))).heap[D]?=some od ∧
   (∀ b,w.heap.size<=b->b≠L->b<W.heap.size->(W3.putObj L (.loop (sS (if pJ.isNone then .ready else .done) pJ))).heap[b]?=W.heap[b]?) ∧
   W.heap.size<=(W3.putObj L (.loop (sS (if pJ.isNone then .ready else .done) pJ))).heap.size:=fun pJ W3 ju=>by
  have Iw:=(ju.same L Vf (by simpa using Wh) hLm).trans pT
  have Sw:=(ju.same D hD.1 (by simp;have:=da.size;omega) hDm).trans Q3
  have:=run_endRound (P:=P) pJ Iw
  rw[vI]at this ⊢
  refine ⟨this,by rw[vI]at Iw;exact Iw,World.putObj_heap_same (bl Iw),(World.putObj_heap_other hD.2).trans Sw,fun b hb Vg hs=>?_,?_⟩
  ·have hbm:¬M b:=fun h=>by have:=hM b h;omega
   exact (World.putObj_heap_other Vg).trans ((ju.same b hb (by simp;have:=da.size;omega) hbm).trans ((World.putObj_heap_other Vg).trans (da.same b hs hbm)))
  ·have:=da.size;have:=ju.size;simp at *;omega
 rintro e a3 W3 hp
 have Sx:∀ (c:Code),st->KpFrom M w.heap.size (Wa.putObj L (.loop { sS .ready none with state:=.busy })) W3->Ix c (pre ++ [x]) W3 →
   ∃v w',(Instr.endRound L (some c)).run P W3=.ok v w'/\((Ending.returned v=.returned (.bool true)/\(I (pre ++ [x]) w'/\w'.heap[L]?=some (.loop (sS .ready none))/\w'.heap[D]?=some od/\Kp M w w')/\Kp M W w') ∨
   (st/\Ending.returned v=.returned (.bool false)/\(∃c,Ix c (pre ++ [x]) w'/\w'.heap[L]?=some (.loop (sS .done (some c)))/\w'.heap[D]?=some od)/\KpFrom M (L+1) W w')):=fun c cw ju hi3=>by
  obtain ⟨hr,Iw,Gd,LJ,dW,hsz⟩:=fin (some c) W3 ju
  exact ⟨_,_,hr,.inr ⟨cw,rfl,⟨c,hIx c (pre ++ [x]) _ _ (Nw.put Vf Iw rfl rfl) hi3,Gd,LJ⟩,⟨hsz,fun b hb hs _=>dW b (by omega) (by omega) hs⟩⟩⟩
 cases e with
 | normal=>
  obtain ⟨ju,hi3⟩:=hp
  obtain ⟨hr,Iw,Gd,LJ,dW,hsz⟩:=fin none W3 (ju.from _)
  have uy:Kp M W (W3.putObj L (.loop (sS (if (none:Option Code).isNone then .ready else .done) none))):=
   ⟨ju.os.trans da.os,ju.tape.trans da.tape,ju.output.trans da.output,hsz,fun b hs hm=>by
    by_cases Vg:b=L
    ·subst Vg;exact Gd.trans hl.symm
    ·exact (World.putObj_heap_other Vg).trans ((ju.same b (by simp;have:=da.size;omega) hm).trans ((World.putObj_heap_other Vg).trans (da.same b hs hm)))⟩
  exact ⟨_,_,hr,.inl ⟨rfl,⟨hI (pre ++ [x]) _ _ (Nw.put Vf Iw rfl rfl) hi3,Gd,LJ,g_.trans uy⟩,uy⟩⟩
 | ret=>exact Sx .ret hp.1 hp.2.1 hp.2.2
 | exit id=>exact Sx (.exit id) hp.1 hp.2.1 hp.2.2
 | goto t=>exact Sx (.goto t) hp.1 hp.2.1 hp.2.2
 | panic ch=>exact hp.elim
 | outgrown=>exact hp.elim
theorem fE {P:Program} {st:Prop} {T:Type} {xs:List T} {g:Operand} {ps:Array Tmp} {assign body:Code} {Q:Exit->Act->World->Prop} {a:Act} {w:World}
  {gf:Nat} {lb:Array Value} (hg:a.eval g=.func (.func gf) #[] lb) (eg:∀ args w,(callFunc gf args).run P w=.ok (.enter gf args) w) (hM:∀ b,M b->b<w.heap.size)
  {At:World->Array Value->T->Prop} (mR:Gb M st P gf lb xs At w) (gh:∀ W vs x,At W vs x->vs.size=ps.size)
  (I:List T->World->Prop) (Ix:Code->List T->World->Prop) (hI:∀ s,Abides w.heap.size (I s)) (hIx:∀ c s,Abides w.heap.size (Ix c s)) (h0:I [] w)
  (Gc:∀ (l:Nat) (pre:List T) (vs:Array Value) (x:T) (W:World),w.heap.size<=l->(∃r,W.heap[l]?=some (.loop r))->I pre W->At W vs x->Kp M w W->(pre ++ [x]) <+: xs →
    assign.wpIn (Fence.wide.inRound l) 3 P (Exit.then (fun a' W'=>Kp M W W'/\I pre W'/\∀ W2,Busy l W' W2->I pre W2->Kp M w W2 →
     body.wpIn (Fence.wide.inRound l) 3 P (Q4 M st w.heap.size I Ix (pre ++ [x]) W2) a' W2) (fun _ _ _=>False)) { tmps:=(ps.zip vs).foldl (fun t (p,v)=>t.setIfInBounds p v) a.tmps,defers:=[] } W)
  (Wi:∀ (D:Nat) (W:World),w.heap.size<=D->I xs W->Kp M w W->W.heap[D]?=some (.deferred (some []))->Q .normal { a with defers:={ target:=.collected D,args:=#[] } :: a.defers } W)
  (Wj:∀ (D:Nat) (c:Code) (pre:List T) (W:World),st->w.heap.size<=D->pre <+: xs->Ix c pre W->W.heap[D]?=some (.deferred (some []))->c.wpIn Fence.wide 3 P Q { a with defers:={ target:=.collected D,args:=#[] } :: a.defers } W) :
  (Code.rangeFunc g ps assign body).wpIn Fence.wide 3 P Q a w:=by
 refine wpIn_rangeFunc ?_
 intro fn _
 obtain ⟨sS,vI⟩:∃sS:LoopState->Option Code->Loop,sS=fun st pe=>{ state:=st,pending:=pe,fn,tmps:=a.tmps,params:=ps,assign,body,defers:=w.heap.size }:=⟨_,rfl⟩
 obtain ⟨W1,bQ⟩:∃W1,(w.alloc (.deferred (some []))).alloc (.loop (sS .ready none))=W1:=⟨_,rfl⟩
 have Wk:W1.heap[w.heap.size+1]?=some (.loop (sS .ready none)):=by
  rw[<-bQ];have:=World.alloc_heap_new (w.alloc (.deferred (some []))) (.loop (sS .ready none));rwa [World.size_alloc]at this
 have hK1:W1.heap[w.heap.size]?=some (.deferred (some [])):=by
  rw[<-bQ];exact (Below.heap_alloc _ _ _ (by simp)).trans (World.alloc_heap_new w _)
 have hb1:Below w.heap.size w W1:=by
  rw[<-bQ];exact ((Below.refl _ w).alloc (Nat.le_refl _) _).alloc (by simp) _
 have gu:W1.heap.size=w.heap.size+2:=by rw[<-bQ];simp
 have hI1:I [] W1:=hI [] _ _ (Nw.below hb1) h0
 have zO:Kp M w W1:=Kp.below hb1
 have jt:∀ b,w.heap.size<=b->¬M b:=fun b hb h=>by have:=hM b h;omega
 refine ⟨w.heap.size+1,[{ target:=.collected w.heap.size,args:=#[] }],W1,{ target:=.fn (.func gf) lb,args:=#[.func (.yield (w.heap.size+1)) #[] #[]] },W1,gf,
  #[.func (.yield (w.heap.size+1)) #[] #[]] ++ lb,W1,?_,?_,?_,?_,(fun h=>by cases h),?_⟩
 ·rw[<-bQ,vI];exact run_enterLoop_outer _ _ _ _ _
 ·simp only[resolve,hg]
  simp[go_sem]
 ·intro f' Ge;simp[Target.leads]at Ge;subst Ge;trivial
 ·simp[invoke,go_sem,eg]
 ·refine callsIn_wide.2 ((mR (w.heap.size+1)
   (fun pre W=>I pre W/\W.heap[w.heap.size+1]?=some (.loop (sS .ready none))/\W.heap[w.heap.size]?=some (.deferred (some []))/\Kp M w W)
   (fun pre W=>∃c,Ix c pre W/\W.heap[w.heap.size+1]?=some (.loop (sS .done (some c)))/\W.heap[w.heap.size]?=some (.deferred (some [])))
   W1 zO hM (by omega) (jt _ (by omega)) ?_ ?_ ?_ ⟨hI1,Wk,hK1,zO⟩).mono ?_)
  ·rintro s X Y hn ⟨h1,h2,h3,h4⟩
   refine ⟨hI s X Y (hn.mono (by omega)) h1,(hn.old (by omega) (bl h2)).trans h2,(hn.old (by omega) (bl h3)).trans h3,hn.os.trans h4.os,hn.tape.trans h4.tape,hn.output.trans h4.output,Nat.le_trans h4.size hn.size,fun b hb hm=>?_⟩
   exact (hn.old (by omega) (Nat.lt_of_lt_of_le hb h4.size)).trans (h4.same b hb hm)
  ·rintro s X Y hn ⟨c,h1,h2,h3⟩
   exact ⟨c,hIx c s X Y (hn.mono (by omega)) h1,(hn.old (by omega) (bl h2)).trans h2,(hn.old (by omega) (bl h3)).trans h3⟩
  ·rintro pre vs x W ⟨hi,hl,hd,g_⟩ DD hat cV
   exact O0 (by omega) hM vI gh I Ix hI hIx Gc pre vs x W hi hl g_ hat cV _ _ ⟨Nat.le_refl _,by simp⟩ hd
  ·rintro e W2 ⟨⟨v,rfl⟩,(⟨⟨hi,hl,hd,g_⟩,_⟩ | ⟨cw,pre,hSp,⟨c,hi,hl,hd⟩,Q5⟩)⟩
   ·exact ⟨none,_,by have:=run_endLoop (P:=P) hl (by rw[vI];simp);rw[vI]at this;exact this,Wi _ _ (Nat.le_refl _) (hI xs _ _ (Nw.put (by omega) hl rfl rfl) hi) (BL _ g_ (by omega)) ((World.putObj_heap_other (by simp)).trans hd)⟩
   ·exact ⟨some c,_,by have:=run_endLoop (P:=P) hl (by rw[vI];simp);rw[vI]at this;exact this,Wj _ c pre _ cw (Nat.le_refl _) hSp (hIx c pre _ _ (Nw.put (by omega) hl rfl rfl) hi) ((World.putObj_heap_other (by simp)).trans hd)⟩
theorem aj {w:World} {o:Obj} {k:Nat} (h:k=w.heap.size):(w.alloc o).heap[k]?=some o:=by rw[h];exact World.alloc_heap_new w o
theorem jK {w:World} {a:Addr} {v:Value} (h:w.cell? a=some v):a.block<w.heap.size:=World.block_lt_of_cell? w a h
theorem aa {W w:World} (hb:Below W.heap.size W w) {a:Addr} {v:Value} (h:W.cell? a=some v):w.cell? a=some v:=(hb.cell (jK h)).trans h
theorem aL {W:World} {b:Nat} {cs:Array Value} {T:TypeId} {fr:Nat×Nat} (h:W.heap[b]?=some (.cells cs T fr)) (k:Nat):W.cell? ⟨b,k,none⟩=cs[k]?:=by simp[World.cell?,h]
theorem ae {W:World} {b:Nat} {cs:Array Value} {T:TypeId} (h:W.heap[b]?=some (.cells cs T (0,0))) (k:Nat):W.frozen? ⟨b,k,none⟩=false:=by simp[World.frozen?,h]
theorem ai {W:World} {b:Nat} {cs:Array Value} {T:TypeId} {fr:Nat×Nat} (h:W.heap[b]?=some (.cells cs T fr)) (k:Nat) {v:Option Value} (e:cs[k]?=v:=by rfl):W.cell? ⟨b,k,none⟩=v:=(aL h k).trans e
section
variable {W w:World} {b:Nat} {cs:Array Value} {T:TypeId} {fr:Nat×Nat}
theorem Wl (h:W.heap[b]?=some (.cells cs T fr)):W.cell? ⟨b,0,none⟩=cs[0]?/\W.cell? ⟨b,1,none⟩=cs[1]?:=⟨aL h 0,aL h 1⟩
theorem lE (h:W.heap[b]?=some (.cells cs T fr)):W.cell? ⟨b,0,none⟩=cs[0]?/\W.cell? ⟨b,1,none⟩=cs[1]?/\W.cell? ⟨b,2,none⟩=cs[2]?:=⟨aL h 0,aL h 1,aL h 2⟩
theorem lF (h:W.heap[b]?=some (.cells cs T fr)):W.cell? ⟨b,0,none⟩=cs[0]?/\W.cell? ⟨b,1,none⟩=cs[1]?/\W.cell? ⟨b,2,none⟩=cs[2]?/\W.cell? ⟨b,3,none⟩=cs[3]?:=⟨aL h 0,aL h 1,aL h 2,aL h 3⟩
theorem zcr (h:W.heap[b]?=some (.cells cs T fr)):W.cell? ⟨b,0,none⟩=cs[0]?/\W.cell? ⟨b,1,none⟩=cs[1]?/\W.cell? ⟨b,2,none⟩=cs[2]?/\W.cell? ⟨b,3,none⟩=cs[3]?/\W.cell? ⟨b,4,none⟩=cs[4]?:=⟨aL h 0,aL h 1,aL h 2,aL h 3,aL h 4⟩
theorem zcs (h:W.heap[b]?=some (.cells cs T fr)):W.cell? ⟨b,0,none⟩=cs[0]?/\W.cell? ⟨b,1,none⟩=cs[1]?/\W.cell? ⟨b,2,none⟩=cs[2]?/\W.cell? ⟨b,3,none⟩=cs[3]?/\W.cell? ⟨b,4,none⟩=cs[4]?/\W.cell? ⟨b,5,none⟩=cs[5]?:=⟨aL h 0,aL h 1,aL h 2,aL h 3,aL h 4,aL h 5⟩
theorem zct (h:W.heap[b]?=some (.cells cs T fr)):W.cell? ⟨b,0,none⟩=cs[0]?/\W.cell? ⟨b,1,none⟩=cs[1]?/\W.cell? ⟨b,2,none⟩=cs[2]?/\W.cell? ⟨b,3,none⟩=cs[3]?/\W.cell? ⟨b,4,none⟩=cs[4]?/\W.cell? ⟨b,5,none⟩=cs[5]?/\W.cell? ⟨b,6,none⟩=cs[6]?:=⟨aL h 0,aL h 1,aL h 2,aL h 3,aL h 4,aL h 5,aL h 6⟩
theorem zP (h:W.heap[b]?=some (.cells cs T fr)):W.cell? ⟨b,0,none⟩=cs[0]?/\W.cell? ⟨b,1,none⟩=cs[1]?/\W.cell? ⟨b,2,none⟩=cs[2]?/\W.cell? ⟨b,3,none⟩=cs[3]?/\W.cell? ⟨b,4,none⟩=cs[4]?/\W.cell? ⟨b,5,none⟩=cs[5]?/\W.cell? ⟨b,6,none⟩=cs[6]?/\W.cell? ⟨b,7,none⟩=cs[7]?:=⟨aL h 0,aL h 1,aL h 2,aL h 3,aL h 4,aL h 5,aL h 6,aL h 7⟩
variable {a1 a2 a3 a4 a5 a6 a7 a8 a9:Addr} {v1 v2 v3 v4 v5 v6 v7 v8 v9:Value}
theorem wN (hb:Below W.heap.size W w) (h1:W.cell? a1=some v1) (h2:W.cell? a2=some v2):w.cell? a1=some v1/\w.cell? a2=some v2:=⟨aa hb h1,aa hb h2⟩
theorem iM (hb:Below W.heap.size W w) (h1:W.cell? a1=some v1) (h2:W.cell? a2=some v2) (h3:W.cell? a3=some v3):w.cell? a1=some v1/\w.cell? a2=some v2/\w.cell? a3=some v3:=⟨aa hb h1,aa hb h2,aa hb h3⟩
theorem lg (hb:Below W.heap.size W w) (h1:W.cell? a1=some v1) (h2:W.cell? a2=some v2) (h3:W.cell? a3=some v3) (h4:W.cell? a4=some v4):w.cell? a1=some v1/\w.cell? a2=some v2/\w.cell? a3=some v3/\w.cell? a4=some v4:=⟨aa hb h1,aa hb h2,aa hb h3,aa hb h4⟩
theorem Wm (hb:Below W.heap.size W w) (h1:W.cell? a1=some v1) (h2:W.cell? a2=some v2) (h3:W.cell? a3=some v3) (h4:W.cell? a4=some v4) (h5:W.cell? a5=some v5):w.cell? a1=some v1/\w.cell? a2=some v2/\w.cell? a3=some v3/\w.cell? a4=some v4/\w.cell? a5=some v5:=⟨aa hb h1,aa hb h2,aa hb h3,aa hb h4,aa hb h5⟩
theorem zcu (hb:Below W.heap.size W w) (h1:W.cell? a1=some v1) (h2:W.cell? a2=some v2) (h3:W.cell? a3=some v3) (h4:W.cell? a4=some v4) (h5:W.cell? a5=some v5) (h6:W.cell? a6=some v6):w.cell? a1=some v1/\w.cell? a2=some v2/\w.cell? a3=some v3/\w.cell? a4=some v4/\w.cell? a5=some v5/\w.cell? a6=some v6:=⟨aa hb h1,aa hb h2,aa hb h3,aa hb h4,aa hb h5,aa hb h6⟩
theorem zcv (hb:Below W.heap.size W w) (h1:W.cell? a1=some v1) (h2:W.cell? a2=some v2) (h3:W.cell? a3=some v3) (h4:W.cell? a4=some v4) (h5:W.cell? a5=some v5) (h6:W.cell? a6=some v6) (h7:W.cell? a7=some v7):w.cell? a1=some v1/\w.cell? a2=some v2/\w.cell? a3=some v3/\w.cell? a4=some v4/\w.cell? a5=some v5/\w.cell? a6=some v6/\w.cell? a7=some v7:=⟨aa hb h1,aa hb h2,aa hb h3,aa hb h4,aa hb h5,aa hb h6,aa hb h7⟩
theorem Gf (hb:Below W.heap.size W w) (h1:W.cell? a1=some v1) (h2:W.cell? a2=some v2) (h3:W.cell? a3=some v3) (h4:W.cell? a4=some v4) (h5:W.cell? a5=some v5) (h6:W.cell? a6=some v6) (h7:W.cell? a7=some v7) (h8:W.cell? a8=some v8):w.cell? a1=some v1/\w.cell? a2=some v2/\w.cell? a3=some v3/\w.cell? a4=some v4/\w.cell? a5=some v5/\w.cell? a6=some v6/\w.cell? a7=some v7/\w.cell? a8=some v8:=⟨aa hb h1,aa hb h2,aa hb h3,aa hb h4,aa hb h5,aa hb h6,aa hb h7,aa hb h8⟩
theorem zcw (hb:Below W.heap.size W w) (h1:W.cell? a1=some v1) (h2:W.cell? a2=some v2) (h3:W.cell? a3=some v3) (h4:W.cell? a4=some v4) (h5:W.cell? a5=some v5) (h6:W.cell? a6=some v6) (h7:W.cell? a7=some v7) (h8:W.cell? a8=some v8) (h9:W.cell? a9=some v9):w.cell? a1=some v1/\w.cell? a2=some v2/\w.cell? a3=some v3/\w.cell? a4=some v4/\w.cell? a5=some v5/\w.cell? a6=some v6/\w.cell? a7=some v7/\w.cell? a8=some v8/\w.cell? a9=some v9:=⟨aa hb h1,aa hb h2,aa hb h3,aa hb h4,aa hb h5,aa hb h6,aa hb h7,aa hb h8,aa hb h9⟩
end
theorem mq (g k:Nat):(⟨g,0,none⟩:Addr).add k=⟨g,k,none⟩:=by unfold Addr.add;split <;> simp_all
theorem gx {w:World} {base size n:Nat} {e:TypeId} {v:Value} {xs:List Value} (h:w.ownsRow base e size v n xs):(v=.slice none 0 0/\n=0)\/∃g cap,v=.slice (some ⟨g,0,none⟩) n cap/\base<=g/\g<w.heap.size:=by
 rcases h.2 with ⟨h1,h2⟩ | ⟨g,cap,cur,h1,h2,h3,_⟩
 ·exact .inl ⟨h1,h2⟩
 ·exact .inr ⟨g,cap,h1,h2,(bl h3)⟩
def TQ.cells (q:TQ):List Value:=[.bool q.v,.string q.n,.slice q.a q.l q.c]
def FQ.cells (q:FQ):List Value:=[.int .u8 q.o,.string q.n,.slice q.a q.l q.c,.slice q.b q.m q.e]
theorem Wn (qs:List TQ):∀ j (h:j<qs.length),(qs.flatMap TQ.cells)[j * 3]?=some (.bool qs[j].v)/\(qs.flatMap TQ.cells)[j * 3+1]?=some (.string qs[j].n)/\(qs.flatMap TQ.cells)[j * 3+2]?=some (.slice qs[j].a qs[j].l qs[j].c):=by
 induction qs with
 | nil=>intro j h;simp at h
 | cons q qs ih=>
  intro j h
  cases j with
  | zero=>simp[TQ.cells]
  | succ j=>
   have:=ih j (by simpa using h)
   simp only[List.flatMap_cons,TQ.cells,List.cons_append,List.nil_append]
   rw[show (j+1) * 3=j * 3+1+1+1 by omega,show j * 3+1+1+1+1=(j * 3+1)+1+1+1 by omega,show j * 3+1+1+1+2=(j * 3+2)+1+1+1 by omega]
   simpa using this
theorem Wo (qs:List FQ):∀ j (h:j<qs.length),(qs.flatMap FQ.cells)[j * 4]?=some (.int .u8 qs[j].o)/\(qs.flatMap FQ.cells)[j * 4+1]?=some (.string qs[j].n)/\(qs.flatMap FQ.cells)[j * 4+2]?=some (.slice qs[j].a qs[j].l qs[j].c)/\(qs.flatMap FQ.cells)[j * 4+3]?=some (.slice qs[j].b qs[j].m qs[j].e):=by
 induction qs with
 | nil=>intro j h;simp at h
 | cons q qs ih=>
  intro j h
  cases j with
  | zero=>simp[FQ.cells]
  | succ j=>
   have:=ih j (by simpa using h)
   simp only[List.flatMap_cons,FQ.cells,List.cons_append,List.nil_append]
   have pp188:=();exact pm188
theorem DT {w:World} {base g n cap:Nat} {qs:List TQ} (h:w.ownsRow base 43 3 (.slice (some ⟨g,0,none⟩) n cap) n (qs.flatMap TQ.cells)):∀ j (hj:j<qs.length),Cells3 w g (j * 3) qs[j].val:=by
 intro j hj
 obtain ⟨h0,h1,h2⟩:=Wn qs j hj
 have c0:=h.cells (g:=g) rfl _ _ h0
 have c1:=h.cells (g:=g) rfl _ _ h1
 have c2:=h.cells (g:=g) rfl _ _ h2
 rw[mq]at c0 c1 c2
 exact ⟨_,_,_,rfl,c0,c1,c2⟩
theorem DU {w:World} {base g n cap:Nat} {qs:List FQ} (h:w.ownsRow base 36 4 (.slice (some ⟨g,0,none⟩) n cap) n (qs.flatMap FQ.cells)):∀ j (hj:j<qs.length),Cells4 w g (j * 4) qs[j].val:=by
 intro j hj
 obtain ⟨h0,h1,h2,h3⟩:=Wo qs j hj
 have c0:=h.cells (g:=g) rfl _ _ h0
 have c1:=h.cells (g:=g) rfl _ _ h1
 have c2:=h.cells (g:=g) rfl _ _ h2
 have c3:=h.cells (g:=g) rfl _ _ h3
 rw[mq]at c0 c1 c2 c3
 exact ⟨_,_,_,_,rfl,c0,c1,c2,c3⟩
def RowT (lo:Nat) (v:Value) (ts:List Tm) (W:World):Prop:=
 ∃qs:List TQ,qs.length=ts.length/\W.ownsRow lo 43 3 v ts.length (qs.flatMap TQ.cells)/\∀ j (h:j<qs.length) (h2:j<ts.length),TermV (fun b=>lo<=b/\v.ownBlock≠some b) W qs[j].val ts[j]
def RowF (lo:Nat) (v:Value) (ts:List Fm) (W:World):Prop:=
 ∃qs:List FQ,qs.length=ts.length/\W.ownsRow lo 36 4 v ts.length (qs.flatMap FQ.cells)/\∀ j (h:j<qs.length) (h2:j<ts.length),FormV (fun b=>lo<=b/\v.ownBlock≠some b) W qs[j].val ts[j]
theorem RowT.nil (lo:Nat) (W:World):RowT lo (.slice none 0 0) [] W:=⟨[],rfl,World.ownsRow_nil _ _ _ _,fun j h=>by simp at h⟩
theorem RowF.nil (lo:Nat) (W:World):RowF lo (.slice none 0 0) [] W:=⟨[],rfl,World.ownsRow_nil _ _ _ _,fun j h=>by simp at h⟩
theorem RowT.shape {lo:Nat} {v:Value} {ts:List Tm} {W:World} (h:RowT lo v ts W):(v=.slice none 0 0/\ts.length=0)\/∃g cap,v=.slice (some ⟨g,0,none⟩) ts.length cap/\lo<=g/\g<W.heap.size:=by
 obtain ⟨qs,_,ho,_⟩:=h;exact gx ho
theorem RowF.shape {lo:Nat} {v:Value} {ts:List Fm} {W:World} (h:RowF lo v ts W):(v=.slice none 0 0/\ts.length=0)\/∃g cap,v=.slice (some ⟨g,0,none⟩) ts.length cap/\lo<=g/\g<W.heap.size:=by
 obtain ⟨qs,_,ho,_⟩:=h;exact gx ho
theorem RowT.slice {lo:Nat} {v:Value} {ts:List Tm} {W:World} (h:RowT lo v ts W):∃a c,v=.slice a ts.length c:=by
 rcases h.shape with ⟨rfl,h0⟩ | ⟨g,cap,rfl,_⟩
 ·exact ⟨none,0,by rw[h0]⟩
 ·exact ⟨_,_,rfl⟩
theorem RowF.slice {lo:Nat} {v:Value} {ts:List Fm} {W:World} (h:RowF lo v ts W):∃a c,v=.slice a ts.length c:=by
 rcases h.shape with ⟨rfl,h0⟩ | ⟨g,cap,rfl,_⟩
 ·exact ⟨none,0,by rw[h0]⟩
 ·exact ⟨_,_,rfl⟩
theorem ba {lo size n:Nat} {e:TypeId} {v:Value} {xs:List Value} {W W':World} (h:W.ownsRow lo e size v n xs) (hb:∀ b,lo<=b->b<W.heap.size->W'.heap[b]?=W.heap[b]?):W'.ownsRow lo e size v n xs:=by
 refine ⟨h.1,?_⟩
 rcases h.2 with h1 | ⟨g,cap,cur,h1,h2,h3,h4⟩
 ·exact .inl h1
 ·exact .inr ⟨g,cap,cur,h1,h2,(hb g h2 (bl h3)).trans h3,h4⟩
theorem RowT.held {lo:Nat} {v:Value} {ts:List Tm} {W W':World} (h:RowT lo v ts W) (hb:∀ b,lo<=b->b<W.heap.size->W'.heap[b]?=W.heap[b]?):RowT lo v ts W':=by
 exact pm269
theorem RowF.held {lo:Nat} {v:Value} {ts:List Fm} {W W':World} (h:RowF lo v ts W) (hb:∀ b,lo<=b->b<W.heap.size->W'.heap[b]?=W.heap[b]?):RowF lo v ts W':=by
 exact pm269
theorem RowT.below {lo:Nat} {v:Value} {ts:List Tm} {W W':World} (h:RowT lo v ts W) (hb:Below W.heap.size W W'):RowT lo v ts W':=h.held (fun b _ hlt=>hb.block b hlt)
theorem RowF.below {lo:Nat} {v:Value} {ts:List Fm} {W W':World} (h:RowF lo v ts W) (hb:Below W.heap.size W W'):RowF lo v ts W':=h.held (fun b _ hlt=>hb.block b hlt)
theorem RowT.terms {lo:Nat} {v:Value} {ts:List Tm} {W:World} (h:RowT lo v ts W):TermsV (lo<=·) W v ts:=by
 obtain ⟨qs,hk,ho,ht⟩:=h
 rcases gx ho with ⟨rfl,h0⟩ | ⟨g,cap,rfl,hg,_⟩
 ·obtain rfl:=List.eq_nil_of_length_eq_zero h0
  exact bV
 ·refine ⟨_,cap,fun j=>if h:j<qs.length then qs[j].val else .bool false,rfl,.inr ⟨g,0,rfl,hg,fun j hj=>?_⟩,fun j hj=>?_⟩
  ·have vJ:j<qs.length:=by omega
   simp only[dif_pos vJ,Nat.zero_add]
   exact DT ho j vJ
  ·have vJ:j<qs.length:=by omega
   simp only[dif_pos vJ]
   exact (ht j vJ hj).move (fun b hok _=>⟨hok.1,rfl⟩)
theorem RowF.forms {lo:Nat} {v:Value} {ts:List Fm} {W:World} (h:RowF lo v ts W):FormsV (lo<=·) W v ts:=by
 obtain ⟨qs,hk,ho,ht⟩:=h
 rcases gx ho with ⟨rfl,h0⟩ | ⟨g,cap,rfl,hg,_⟩
 ·obtain rfl:=List.eq_nil_of_length_eq_zero h0
  exact jz
 ·refine ⟨_,cap,fun j=>if h:j<qs.length then qs[j].val else .bool false,rfl,.inr ⟨g,0,rfl,hg,fun j hj=>?_⟩,fun j hj=>?_⟩
  ·have vJ:j<qs.length:=by omega
   simp only[dif_pos vJ,Nat.zero_add]
   exact DU ho j vJ
  ·have vJ:j<qs.length:=by omega
   simp only[dif_pos vJ]
   exact (ht j vJ hj).move (fun b hok _=>⟨hok.1,rfl⟩)
theorem RowT.step {lo g cap:Nat} {v:Value} {ts:List Tm} {t:Tm} {W W1 w4:World} {qs:List TQ} {q:TQ} (hk:qs.length=ts.length) (hb:Below W.heap.size W W1) (hlo:lo<=W.heap.size)
  (ht:∀ j (h:j<qs.length) (h2:j<ts.length),TermV (fun b=>lo<=b/\v.ownBlock≠some b) W qs[j].val ts[j]) (hv:∀ b,v.ownBlock=some b->b<W.heap.size)
  (hq:TermV (W.heap.size<=·) W1 q.val t) (aR:w4.ownsRow lo 43 3 (.slice (some ⟨g,0,none⟩) (ts.length+1) cap) (ts.length+1) (qs.flatMap TQ.cells ++ q.cells))
  (hold:∀ c,lo<=c->c<W1.heap.size->v.ownBlock≠some c->w4.heap[c]?=W1.heap[c]?) (hg:v.ownBlock=some g\/W1.heap.size<=g) :
  RowT lo (.slice (some ⟨g,0,none⟩) (ts.length+1) cap) (ts ++ [t]) w4:=by
 exact pm54
theorem RowF.step {lo g cap:Nat} {v:Value} {ts:List Fm} {t:Fm} {W W1 w4:World} {qs:List FQ} {q:FQ} (hk:qs.length=ts.length) (hb:Below W.heap.size W W1) (hlo:lo<=W.heap.size)
  (ht:∀ j (h:j<qs.length) (h2:j<ts.length),FormV (fun b=>lo<=b/\v.ownBlock≠some b) W qs[j].val ts[j]) (hv:∀ b,v.ownBlock=some b->b<W.heap.size)
  (hq:FormV (W.heap.size<=·) W1 q.val t) (aR:w4.ownsRow lo 36 4 (.slice (some ⟨g,0,none⟩) (ts.length+1) cap) (ts.length+1) (qs.flatMap FQ.cells ++ q.cells))
  (hold:∀ c,lo<=c->c<W1.heap.size->v.ownBlock≠some c->w4.heap[c]?=W1.heap[c]?) (hg:v.ownBlock=some g\/W1.heap.size<=g) :
  RowF lo (.slice (some ⟨g,0,none⟩) (ts.length+1) cap) (ts ++ [t]) w4:=by
 exact pm54
theorem cK {w:World} {B:Nat} {cs:Array Value} {t:TypeId} {fr:Nat×Nat} (hb:w.heap[B]?=some (.cells cs t fr)):∀ j u,cs.toList[j]?=some u->w.cell? ((⟨B,0,none⟩:Addr).add j)=some u:=fun j u hu=>by
 rw[mq,aL hb]
 simpa using hu
theorem fW:(Tryz.prog.info? 43).map (fun i=>(i.zero,i.size,i.bytes))=some (some (.agg #[.bool false,.string ByteArray.empty,.slice none 0 0]),3,48):=by kernel_rfl
theorem mr:(Tryz.prog.info? 36).map (fun i=>(i.zero,i.size,i.bytes))=some (some (.agg #[.int .u8 0,.string ByteArray.empty,.slice none 0 0,.slice none 0 0]),4,72):=by kernel_rfl
mutual
def iS (p:Nat):Tm->Bool | .mk _ n a=>decide (n.length<=p) && dF p a
def dF (p:Nat):List Tm->Bool | []=>true | t :: l=>iS p t && dF p l
end
mutual
def ks (p:Nat):Fm->Bool | .mk o n a s=>decide (0<=o/\o<=255) && (decide (n.length<=p) && (dF p a && fd p s))
def fd (p:Nat):List Fm->Bool | []=>true | t :: l=>ks p t && fd p l
end
def fitT (t:Tm):Prop:=nodesT t<=2000000/\iS 2000000 t=true
def fitTs (l:List Tm):Prop:=ac l<=2000000/\dF 2000000 l=true
def fitF (f:Fm):Prop:=nodesF f<=2000000/\ks 2000000 f=true
def fitFs (l:List Fm):Prop:=ah l<=2000000/\fd 2000000 l=true
theorem iq (t:Tm):0<nodesT t:=by cases t;unfold nodesT;omega
theorem wO (t:Fm):0<nodesF t:=by cases t;unfold nodesF;omega
theorem gy (l:List Tm):l.length<=ac l:=by
 induction l with
 | nil=>simp
 | cons t l ih=>have:=iq t;simp[ac];omega
theorem ot (l:List Fm):l.length<=ah l:=by
 induction l with
 | nil=>simp
 | cons t l ih=>have:=wO t;simp[ah];omega
theorem fA {l:List Tm} {t:Tm} (h:t∈l):nodesT t<=ac l:=by
 induction l with
 | nil=>cases h
 | cons u l ih=>
  unfold ac
  exact pm260
theorem iA {l:List Fm} {t:Fm} (h:t∈l):nodesF t<=ah l:=by
 induction l with
 | nil=>cases h
 | cons u l ih=>
  unfold ah
  exact pm260
theorem eB {p:Nat} {l:List Tm}:dF p l=true ↔ ∀ t∈l,iS p t=true:=by
 induction l with
 | nil=>simp[dF]
 | cons u l ih=>simp[dF,ih]
theorem ov {p:Nat} {l:List Fm}:fd p l=true ↔ ∀ t∈l,ks p t=true:=by
 induction l with
 | nil=>simp[fd]
 | cons u l ih=>simp[fd,ih]
theorem fitTs.mem {l:List Tm} (h:fitTs l) {t:Tm} (ht:t∈l):fitT t:=⟨Nat.le_trans (fA ht) h.1,eB.1 h.2 t ht⟩
theorem fitFs.mem {l:List Fm} (h:fitFs l) {t:Fm} (ht:t∈l):fitF t:=⟨Nat.le_trans (iA ht) h.1,ov.1 h.2 t ht⟩
theorem fitTs.len {l:List Tm} (h:fitTs l):l.length<=2000000:=Nat.le_trans (gy l) h.1
theorem fitFs.len {l:List Fm} (h:fitFs l):l.length<=2000000:=Nat.le_trans (ot l) h.1
theorem fitT.args {v:Bool} {n:Str} {a:List Tm} (h:fitT (.mk v n a)):fitTs a:=by
 obtain ⟨h1,h2⟩:=h
 simp[nodesT,iS]at h1 h2
 exact ⟨by omega,h2.2⟩
theorem fitT.name {v:Bool} {n:Str} {a:List Tm} (h:fitT (.mk v n a)):n.length<=2000000:=by
 obtain ⟨h1,h2⟩:=h
 simp[iS]at h2
 exact h2.1
theorem fitF.args {o:Int} {n:Str} {a:List Tm} {s:List Fm} (h:fitF (.mk o n a s)):fitTs a:=by
 obtain ⟨h1,h2⟩:=h
 simp[nodesF,ks]at h1 h2
 exact ⟨by omega,h2.2.2.1⟩
theorem fitF.subs {o:Int} {n:Str} {a:List Tm} {s:List Fm} (h:fitF (.mk o n a s)):fitFs s:=by
 obtain ⟨h1,h2⟩:=h
 simp[nodesF,ks]at h1 h2
 exact ⟨by omega,h2.2.2.2⟩
theorem fitF.name {o:Int} {n:Str} {a:List Tm} {s:List Fm} (h:fitF (.mk o n a s)):n.length<=2000000:=by
 obtain ⟨h1,h2⟩:=h
 simp[ks]at h2
 exact h2.2.1
theorem fitF.op {o:Int} {n:Str} {a:List Tm} {s:List Fm} (h:fitF (.mk o n a s)):0<=o/\o<=255:=by
 obtain ⟨h1,h2⟩:=h
 simp[ks]at h2
 exact h2.1
mutual
theorem lh {p q:Nat} (h:p<=q):∀ t,iS p t=true->iS q t=true
 | .mk v n a,ht=>by
  simp only[iS,Bool.and_eq_true,decide_eq_true_eq]at ht ⊢
  exact ⟨by omega,ev h a ht.2⟩
theorem ev {p q:Nat} (h:p<=q):∀ t,dF p t=true->dF q t=true
 | [],_=>rfl
 | t :: l,ht=>by
  simp only[dF,Bool.and_eq_true]at ht ⊢
  exact ⟨lh h t ht.1,ev h l ht.2⟩
end
mutual
theorem jR {p q:Nat} (h:p<=q):∀ t,ks p t=true->ks q t=true
 | .mk v n a s,ht=>by
  simp only[ks,Bool.and_eq_true,decide_eq_true_eq]at ht ⊢
  exact ⟨ht.1,by omega,ev h a ht.2.2.1,ms h s ht.2.2.2⟩
theorem ms {p q:Nat} (h:p<=q):∀ t,fd p t=true->fd q t=true
 | [],_=>rfl
 | t :: l,ht=>by
  simp only[fd,Bool.and_eq_true]at ht ⊢
  exact ⟨jR h t ht.1,ms h l ht.2⟩
end
end Go.Proofs.YtokemihbkeddoaaGreatDoor
