/-
  A range over a function whose iterator writes a map that lay ahead of the loop, and whose body writes blocks of its own: the notions, and the law at a loop of a function and at a loop within a round.
-/
import Derived.RangeFuncNested
import Derived.RangeFuncBound
import Derived.RangeFuncLeaves
import Derived.RangeFuncBox
import Derived.WalkKit
import Derived.Lib.Hide
namespace Go.Proofs.YthmnffgjckpkiaaGreatDoor
open Go Go.RowKit

theorem room_of_none {F : Fence} (hd : F.depth = none) (k : Nat) : F.room k := fun d h => by rw [hd] at h; cases h
theorem roundIn_any {F : Fence} (hd : F.depth = none) {m m' : Nat} {P : Program} {l : Nat} {f : FuncId} {tmps : Array Value} {assign body : Code} {w : World} {R : Ending → World → Prop}
    (h : RoundIn F m P l f tmps assign body w R) : RoundIn F m' P l f tmps assign body w R := ⟨h.1, fun c cs _ => h.2 c cs (room_of_none hd _)⟩
theorem yieldAt_any {m : Nat} (m' : Nat) {P : Program} {l : Nat} {args : Array Value} {W : World} {R : Ending → World → Prop} (h : YieldAt Fence.wide m P l args W R) : YieldAt Fence.wide m' P l args W R := by
  obtain ⟨fn, tmps, assign, body, hy, hR⟩ := h
  exact ⟨fn, tmps, assign, body, hy, roundIn_any rfl hR⟩

/-- A block that holds no cells, or one bool alone. -/
def loose (o : Obj) : Prop := o.isCells = false ∨ ∃ v, o = .cells #[v] 4 (0, 0)
/-- A step that writes one block at most, the map's or a loose one. -/
def SmallStep (m : Nat) (X : World) (row : Option Nat) : Prop := ∀ r, row = some r → r = m ∨ ∃ o : Obj, X.heap[r]? = some o ∧ loose o

/-- What is agreed between an iterator and a body: the map's block m, which the iterator may write; the blocks sf that the body leaves alone; what holds of every world between two steps. -/
structure Rg where
  m : Nat
  ok : World → Prop
  sf : World → Nat → Prop
  lt : ∀ {W b}, sf W b → b < W.heap.size
  ne : ∀ {W b}, sf W b → b ≠ m
  mlt : ∀ {W}, ok W → m < W.heap.size
  move : ∀ {X Y row b}, ok X → X.grownBy Y row → SmallStep m X row → sf X b → sf Y b
  new : ∀ {X Y row b}, ok X → X.grownBy Y row → SmallStep m X row → X.heap.size ≤ b → b < Y.heap.size → sf Y b
  okMove : ∀ {X Y row}, ok X → X.grownBy Y row → (∀ r, row = some r → r ≠ m ∧ ∃ o : Obj, X.heap[r]? = some o ∧ loose o) → ok Y

variable (R : Rg)

/-- A step of the iterator: new blocks, and the map. -/
structure Mv (X Y : World) : Prop where
  grown : X.grownBy Y (some R.m)
  ok : R.ok X → R.ok Y
/-- What a whole step keeps. -/
structure Kp (X Y : World) : Prop where
  size : X.heap.size ≤ Y.heap.size
  same : ∀ b, R.sf X b → R.sf Y b ∧ Y.heap[b]? = X.heap[b]?
  ok : R.ok X → R.ok Y
/-- What is kept from block B on. -/
structure KpFrom (B : Nat) (X Y : World) : Prop where
  size : X.heap.size ≤ Y.heap.size
  same : ∀ b, B ≤ b → R.sf X b → R.sf Y b ∧ Y.heap[b]? = X.heap[b]?

variable {R}
theorem Kp.refl (W : World) : Kp R W W := ⟨Nat.le_refl _, fun _ h => ⟨h, rfl⟩, id⟩
theorem Kp.trans {A B C : World} (h : Kp R A B) (k : Kp R B C) : Kp R A C :=
  ⟨Nat.le_trans h.size k.size, fun b hb => ⟨(k.same b (h.same b hb).1).1, (k.same b (h.same b hb).1).2.trans (h.same b hb).2⟩, fun h0 => k.ok (h.ok h0)⟩
theorem Kp.from {A B : World} (h : Kp R A B) (n : Nat) : KpFrom R n A B := ⟨h.size, fun b _ hb => h.same b hb⟩
theorem KpFrom.trans {n : Nat} {A B C : World} (h : KpFrom R n A B) (k : KpFrom R n B C) : KpFrom R n A C :=
  ⟨Nat.le_trans h.size k.size, fun b hn hb => ⟨(k.same b hn (h.same b hn hb).1).1, (k.same b hn (h.same b hn hb).1).2.trans (h.same b hn hb).2⟩⟩
theorem KpFrom.mono {n n' : Nat} {A B : World} (h : KpFrom R n A B) (hn : n ≤ n') : KpFrom R n' A B := ⟨h.size, fun b hb hs => h.same b (Nat.le_trans hn hb) hs⟩
theorem KpFrom.refl (n : Nat) (W : World) : KpFrom R n W W := (Kp.refl W).from n
theorem Mv.refl (W : World) : Mv R W W := ⟨⟨rfl, rfl, rfl, Nat.le_refl _, fun _ _ _ => rfl⟩, id⟩
theorem grownBy_trans' {A B C : World} {r : Option Nat} (h : A.grownBy B r) (k : B.grownBy C r) : A.grownBy C r :=
  ⟨k.os.trans h.os, k.tape.trans h.tape, k.output.trans h.output, Nat.le_trans h.size k.size, fun b hb hne => (k.block b (Nat.lt_of_lt_of_le hb h.size) hne).trans (h.block b hb hne)⟩
theorem Mv.trans {A B C : World} (h : Mv R A B) (k : Mv R B C) : Mv R A C := ⟨grownBy_trans' h.grown k.grown, fun h0 => k.ok (h.ok h0)⟩
theorem smallM (m : Nat) (X : World) : SmallStep m X (some m) := fun r e => .inl (by cases e; rfl)
theorem Mv.kp {A B : World} (h : Mv R A B) (h0 : R.ok A) : Kp R A B :=
  ⟨h.grown.size, fun b hb => ⟨R.move h0 h.grown (smallM _ _) hb, h.grown.block b (R.lt hb) (fun e => R.ne hb (Option.some.inj e))⟩, h.ok⟩
/-- New blocks alone. -/
theorem Mv.of_below {A B : World} (h0 : R.ok A) (h : Below A.heap.size A B) : Mv R A B := by
  have hg : A.grownBy B none := ⟨h.os, h.tape, h.output, h.size, fun k hk _ => h.block k hk⟩
  exact ⟨⟨h.os, h.tape, h.output, h.size, fun k hk _ => h.block k hk⟩, fun _ => R.okMove h0 hg (fun r e => by cases e)⟩
theorem Kp.of_below {A B : World} (h0 : R.ok A) (h : Below A.heap.size A B) : Kp R A B := (Mv.of_below h0 h).kp h0
theorem Rg.fresh {A B : World} (h0 : R.ok A) (h : Below A.heap.size A B) {b : Nat} (h1 : A.heap.size ≤ b) (h2 : b < B.heap.size) : R.sf B b :=
  R.new (row := none) h0 ⟨h.os, h.tape, h.output, h.size, fun k hk _ => h.block k hk⟩ (fun r e => by cases e) h1 h2

/-- A turn of a block that holds no cells and is not the map. -/
theorem move_put {W : World} {l : Nat} {o o' : Obj} (h0 : R.ok W) (hl : W.heap[l]? = some o) (ho : o.isCells = false) {b : Nat} (hb : R.sf W b) : R.sf (W.putObj l o') b :=
  R.move h0 (grownBy_putObj' W l o') (fun r e => by cases e; exact .inr ⟨o, hl, .inl ho⟩) hb
theorem ok_put {W : World} {l : Nat} {o o' : Obj} (h0 : R.ok W) (hm : l ≠ R.m) (hl : W.heap[l]? = some o) (ho : o.isCells = false) : R.ok (W.putObj l o') :=
  R.okMove h0 (grownBy_putObj' W l o') (fun r e => by cases e; exact ⟨hm, o, hl, .inl ho⟩)

variable (R)
/-- What a caller says between two steps abides: new blocks; the map's steps; turns of blocks from B on that hold no cells. -/
def Abides (B : Nat) (I : World → Prop) : Prop :=
  ∀ X Y row, X.grownBy Y row → (∀ r, row = some r → (r = R.m ∧ (R.ok X → R.ok Y)) ∨ (B ≤ r ∧ r ≠ R.m ∧ ∃ o : Obj, X.heap[r]? = some o ∧ loose o)) → R.ok X → I X → I Y

/-- **The contract of an iterator's value: it yields xs.** -/
def SeqM (P : Program) (gf : Nat) (lb : Array Value) {T : Type} (xs : List T) (At : World → Array Value → T → Prop) (w : World) : Prop :=
  ∀ (l : Nat) (J Jx : List T → World → Prop) (W : World), Kp R w W → R.ok W → l < W.heap.size →
    (∀ s, Abides R W.heap.size (J s)) → (∀ s, Abides R W.heap.size (Jx s)) →
    (∀ pre vs x W1, J pre W1 → Kp R W W1 → R.ok W1 → At W1 vs x → (pre ++ [x]) <+: xs → YieldAt Fence.wide 0 P l vs W1 fun e W' =>
      (e = .returned (.bool true) ∧ J (pre ++ [x]) W' ∧ Kp R W1 W') ∨ (e = .returned (.bool false) ∧ Jx (pre ++ [x]) W' ∧ R.ok W' ∧ KpFrom R (l + 1) W1 W')) →
    J [] W →
    Calls P gf (#[.func (.yield l) #[] #[]] ++ lb) W fun e W' => (∃ v, e = .returned v) ∧
      ((J xs W' ∧ Kp R W W') ∨ (∃ pre, pre <+: xs ∧ Jx pre W' ∧ R.ok W' ∧ KpFrom R (l + 1) W W'))

variable {R}
theorem Abides.mono {B B' : Nat} {I : World → Prop} (h : Abides R B I) (hB : B ≤ B') : Abides R B' I := fun X Y row hg hr => h X Y row hg (fun r e => by
  rcases hr r e with h1 | ⟨h1, h2⟩
  · exact .inl h1
  · exact .inr ⟨Nat.le_trans hB h1, h2⟩)
theorem Abides.mv {B : Nat} {I : World → Prop} (h : Abides R B I) {X Y : World} (hm : Mv R X Y) (hok : R.ok X) (hi : I X) : I Y :=
  h X Y _ hm.grown (fun r e => by cases e; exact .inl ⟨rfl, hm.ok⟩) hok hi
theorem Abides.and {B : Nat} {I I' : World → Prop} (h : Abides R B I) (h' : Abides R B I') : Abides R B (fun W => I W ∧ I' W) := fun X Y row hg hr hok hi => ⟨h X Y row hg hr hok hi.1, h' X Y row hg hr hok hi.2⟩
theorem SeqM.later {P : Program} {gf : Nat} {lb : Array Value} {T : Type} {xs : List T} {At : World → Array Value → T → Prop} {w w' : World} (h : SeqM R P gf lb xs At w) (hk : Kp R w w') : SeqM R P gf lb xs At w' :=
  fun l J Jx W hW h0 hl hJ hJx hY hJ0 => h l J Jx W (hk.trans hW) h0 hl hJ hJx hY hJ0

variable (R)
/-- How the body of a round may be left. -/
def postM {T : Type} (B : Nat) (I : List T → World → Prop) (Ix : Code → List T → World → Prop) (xs : List T) (W : World) : Exit → Act → World → Prop
  | .normal, _, W' => Kp R W W' ∧ I xs W'
  | .ret, _, W' => KpFrom R B W W' ∧ R.ok W' ∧ Ix .ret xs W'
  | .exit id, _, W' => KpFrom R B W W' ∧ R.ok W' ∧ Ix (.exit id) xs W'
  | .goto t, _, W' => KpFrom R B W W' ∧ R.ok W' ∧ Ix (.goto t) xs W'
  | .panic _, _, _ => False
  | .outgrown, _, _ => False

variable {R} {P : Program}

theorem abides_put {B l : Nat} {I : World → Prop} (hI : Abides R B I) {W : World} {o : Obj} (o' : Obj) (h0 : R.ok W) (hi : I W) (hB : B ≤ l) (hm : l ≠ R.m) (hl : W.heap[l]? = some o) (ho : o.isCells = false) : I (W.putObj l o') :=
  hI W _ (some l) (grownBy_putObj' W l o') (fun r e => by cases e; exact .inr ⟨hB, hm, o, hl, .inl ho⟩) h0 hi
/-- A store into a variable of a bool. -/
theorem abides_set {B b : Nat} {I : World → Prop} (hI : Abides R B I) {W : World} {u : Value} (v : Value) (h0 : R.ok W) (hi : I W) (hB : B ≤ b) (hm : b ≠ R.m) (hb : Boxed W b 4 u) : I (W.setCell ⟨b, 0, none⟩ v) :=
  hI W _ (some b) (grownBy_setCell' W b v) (fun r e => by cases e; exact .inr ⟨hB, hm, _, hb, .inr ⟨u, rfl⟩⟩) h0 hi
theorem move_set {W : World} {b c : Nat} {u v : Value} (h0 : R.ok W) (hb : Boxed W b 4 u) (hc : R.sf W c) : R.sf (W.setCell ⟨b, 0, none⟩ v) c :=
  R.move h0 (grownBy_setCell' W b v) (fun r e => by cases e; exact .inr ⟨_, hb, .inr ⟨u, rfl⟩⟩) hc
theorem ok_set {W : World} {b : Nat} {u v : Value} (h0 : R.ok W) (hm : b ≠ R.m) (hb : Boxed W b 4 u) : R.ok (W.setCell ⟨b, 0, none⟩ v) :=
  R.okMove h0 (grownBy_setCell' W b v) (fun r e => by cases e; exact ⟨hm, _, hb, .inr ⟨u, rfl⟩⟩)
theorem abides_alloc {B : Nat} {I : World → Prop} (hI : Abides R B I) {W : World} (o : Obj) (h0 : R.ok W) (hi : I W) : I (W.alloc o) :=
  hI W _ none (World.grownBy_alloc W o none) (fun r e => by cases e) h0 hi
theorem ok_alloc {W : World} (o : Obj) (h0 : R.ok W) : R.ok (W.alloc o) := R.okMove h0 (World.grownBy_alloc W o none) (fun r e => by cases e)

/-- What the laws carry themselves abides. -/
theorem rec_abides {w : World} {B L : Nat} (hB : w.heap.size ≤ B) (hL : L < B) (dl : List (Nat × Obj)) (hdl : ∀ p ∈ dl, p.1 < B) (o : Obj) :
    Abides R B (fun W => W.heap[L]? = some o ∧ (∀ p ∈ dl, W.heap[p.1]? = some p.2 ∧ R.sf W p.1) ∧ R.sf W L ∧ Kp R w W ∧ R.ok W) := by
  rintro X Y row hg hr hok ⟨hl, hd, hsl, hkw, _⟩
  have hsm : SmallStep R.m X row := fun r e => by
    rcases hr r e with ⟨h, _⟩ | ⟨_, _, h⟩
    · exact .inl h
    · exact .inr h
  have hsame : ∀ b, b < B → R.sf X b → Y.heap[b]? = X.heap[b]? := fun b hb hs => hg.block b (R.lt hs) (fun e => by
    rcases hr b e.symm with ⟨h, _⟩ | ⟨h, _⟩
    · exact R.ne hs h
    · omega)
  have hokY : R.ok Y := by
    by_cases hm : row = some R.m
    · rcases hr R.m hm with ⟨_, h⟩ | ⟨_, h, _⟩
      · exact h hok
      · exact absurd rfl h
    · exact R.okMove hok hg (fun r e => by
        rcases hr r e with ⟨h, _⟩ | ⟨_, h1, h2⟩
        · exact absurd (by rw [e, h]) hm
        · exact ⟨h1, h2⟩)
  refine ⟨(hsame L hL hsl).trans hl, fun p hp => ⟨(hsame _ (hdl p hp) (hd p hp).2).trans (hd p hp).1, R.move hok hg hsm (hd p hp).2⟩, R.move hok hg hsm hsl, ⟨Nat.le_trans hkw.size hg.size, fun b hb => ?_, fun _ => hokY⟩, hokY⟩
  have h1 := hkw.same b hb
  exact ⟨R.move hok hg hsm h1.1, (hsame b (Nat.lt_of_lt_of_le (R.lt hb) hB) h1.1).trans h1.2⟩
theorem done_abides {B L : Nat} (hL : L < B) (hLm : L ≠ R.m) (dl : List (Nat × Obj)) (hdl : ∀ p ∈ dl, p.1 < B ∧ p.1 ≠ R.m) (o : Obj) :
    Abides R B (fun W => W.heap[L]? = some o ∧ (∀ p ∈ dl, W.heap[p.1]? = some p.2)) := by
  rintro X Y row hg hr _ ⟨hl, hd⟩
  have hsame : ∀ b, b < B → b ≠ R.m → b < X.heap.size → Y.heap[b]? = X.heap[b]? := fun b hb hne hlt => hg.block b hlt (fun e => by
    rcases hr b e.symm with ⟨h, _⟩ | ⟨h, _⟩
    · exact hne h
    · omega)
  exact ⟨(hsame L hL hLm (Array.getElem?_eq_some_iff.1 hl).1).trans hl, fun p hp => (hsame _ (hdl p hp).1 (hdl p hp).2 (Array.getElem?_eq_some_iff.1 (hd p hp)).1).trans (hd p hp)⟩

/-- One round of a loop with record L. -/
theorem round_M {T : Type} {xs : List T} {ps : Array Tmp} {assign body : Code} {w : World} {fn : Nat} {tmps : Array Value} {L dd : Nat} (hL0 : w.heap.size ≤ L)
    {rec : LoopState → Option Code → Loop} (hrec : rec = fun st pe => { state := st, pending := pe, fn, tmps, params := ps, assign, body, defers := dd })
    {At : World → Array Value → T → Prop} (hps : ∀ W vs x, At W vs x → vs.size = ps.size)
    (I : List T → World → Prop) (Ix : Code → List T → World → Prop) (hI : ∀ s, Abides R w.heap.size (I s)) (hIx : ∀ c s, Abides R w.heap.size (Ix c s))
    (hround : ∀ (l : Nat) (pre : List T) (vs : Array Value) (x : T) (W : World), w.heap.size ≤ l → I pre W → At W vs x → Kp R w W → R.ok W → (pre ++ [x]) <+: xs →
      assign.wpIn (Fence.wide.inRound l) 3 P (Exit.then (fun a' W' => Kp R W W' ∧ I pre W' ∧ ∀ W2, l < W2.heap.size → (∃ r, W2.heap[l]? = some (.loop r)) → R.sf W2 l → I pre W2 → Kp R w W2 → R.ok W2 → W'.heap.size ≤ W2.heap.size → (∀ F : World → Prop, Abides R w.heap.size F → F W' → F W2) →
        body.wpIn (Fence.wide.inRound l) 3 P (postM R w.heap.size I Ix (pre ++ [x]) W2) a' W2) (fun _ _ _ => False)) { tmps := (ps.zip vs).foldl (fun t (p, v) => t.setIfInBounds p v) tmps, defers := [] } W)
    (pre : List T) (vs : Array Value) (x : T) (W : World) (hi : I pre W) (hl : W.heap[L]? = some (.loop (rec .ready none))) (hsl : R.sf W L) (hkw : Kp R w W) (hok : R.ok W) (hat : At W vs x) (hpre : (pre ++ [x]) <+: xs)
    (dl : List (Nat × Obj)) (hdl : ∀ p ∈ dl, w.heap.size ≤ p.1 ∧ p.1 ≠ L) (hd : ∀ p ∈ dl, W.heap[p.1]? = some p.2 ∧ R.sf W p.1) :
    YieldAt Fence.wide 0 P L vs W fun e W' =>
      (e = .returned (.bool true) ∧ (I (pre ++ [x]) W' ∧ W'.heap[L]? = some (.loop (rec .ready none)) ∧ (∀ p ∈ dl, W'.heap[p.1]? = some p.2 ∧ R.sf W' p.1) ∧ R.sf W' L ∧ Kp R w W' ∧ R.ok W') ∧ Kp R W W') ∨
      (e = .returned (.bool false) ∧ (∃ c, Ix c (pre ++ [x]) W' ∧ W'.heap[L]? = some (.loop (rec .done (some c))) ∧ (∀ p ∈ dl, W'.heap[p.1]? = some p.2)) ∧ R.ok W' ∧ KpFrom R (L + 1) W W') := by
  refine yieldAt_any (m := 3) 0 ?_
  have hy := run_yield (P := P) (args := vs) hl (by rw [hrec]; exact hps W vs x hat)
  rw [hrec] at hy
  refine ⟨fn, _, assign, body, hy, roundIn_of_wpIn trivial (wpIn_mono (hround L pre vs x W hL0 hi hat hkw hok hpre) ?_)⟩
  clear hy hat
  intro e1 a' Wa hq1
  cases e1 with
  | ret => exact hq1.elim
  | exit id => exact hq1.elim
  | goto t => exact hq1.elim
  | panic ch => exact hq1.elim
  | outgrown => exact hq1.elim
  | normal => ?_
  obtain ⟨hka, hia, hbody⟩ := hq1
  have hoka := hka.ok hok
  have hla : Wa.heap[L]? = some (.loop (rec .ready none)) := (hka.same L hsl).2.trans hl
  have hsla := (hka.same L hsl).1
  have hda : ∀ p ∈ dl, Wa.heap[p.1]? = some p.2 ∧ R.sf Wa p.1 := fun p hp => ⟨(hka.same _ (hd p hp).2).2.trans (hd p hp).1, (hka.same _ (hd p hp).2).1⟩
  have hlta : L < Wa.heap.size := R.lt hsla
  have hLm : L ≠ R.m := R.ne hsla
  refine ⟨_, run_beginRound hla (by rw [hrec]), ?_⟩
  have hl2 : (Wa.putObj L (.loop { rec .ready none with state := .busy })).heap[L]? = some (.loop { rec .ready none with state := .busy }) := World.putObj_heap_same hlta
  have hd2 : ∀ p ∈ dl, (Wa.putObj L (.loop { rec .ready none with state := .busy })).heap[p.1]? = some p.2 := fun p hp => (World.putObj_heap_other (hdl p hp).2).trans (hda p hp).1
  have hok2 : R.ok (Wa.putObj L (.loop { rec .ready none with state := .busy })) := ok_put hoka hLm hla rfl
  have hkwa := hkw.trans hka
  have hkw2 : Kp R w (Wa.putObj L (.loop { rec .ready none with state := .busy })) :=
    ⟨by simpa using hkwa.size, fun b hb => ⟨move_put hoka hla rfl (hkwa.same b hb).1, (World.putObj_heap_other (by have := R.lt hb; omega)).trans (hkwa.same b hb).2⟩, fun _ => hok2⟩
  refine wpIn_mono (hbody _ (by simpa using hlta) ⟨_, hl2⟩ (move_put hoka hla rfl hsla) (abides_put (hI pre) _ hoka hia hL0 hLm hla rfl) hkw2 hok2 (by simp) (fun F hF hf => abides_put hF _ hoka hf hL0 hLm hla rfl)) ?_
  have fin : ∀ (jump : Option Code) (W3 : World), KpFrom R w.heap.size (Wa.putObj L (.loop { rec .ready none with state := .busy })) W3 → R.ok W3 →
      (Instr.endRound L jump).run P W3 = .ok (.bool jump.isNone) (W3.putObj L (.loop (rec (if jump.isNone then .ready else .done) jump))) ∧
      W3.heap[L]? = some (.loop { rec .ready none with state := .busy }) ∧ R.sf W3 L ∧
      (W3.putObj L (.loop (rec (if jump.isNone then .ready else .done) jump))).heap[L]? = some (.loop (rec (if jump.isNone then .ready else .done) jump)) ∧
      (∀ p ∈ dl, (W3.putObj L (.loop (rec (if jump.isNone then .ready else .done) jump))).heap[p.1]? = some p.2 ∧ R.sf (W3.putObj L (.loop (rec (if jump.isNone then .ready else .done) jump))) p.1) ∧
      (∀ b, w.heap.size ≤ b → b ≠ L → R.sf W b → R.sf (W3.putObj L (.loop (rec (if jump.isNone then .ready else .done) jump))) b ∧ (W3.putObj L (.loop (rec (if jump.isNone then .ready else .done) jump))).heap[b]? = W.heap[b]?) ∧
      W.heap.size ≤ (W3.putObj L (.loop (rec (if jump.isNone then .ready else .done) jump))).heap.size := fun jump W3 hk3 ho3 => by
    have hb3 := hk3.same L hL0 (move_put hoka hla rfl hsla)
    have hl3 := hb3.2.trans hl2
    have hbd := fun p hp => hk3.same p.1 (hdl p hp).1 (move_put hoka hla rfl (hda p hp).2)
    have := run_endRound (P := P) jump hl3
    rw [hrec] at this ⊢
    refine ⟨this, by rw [hrec] at hl3; exact hl3, hb3.1, World.putObj_heap_same (Array.getElem?_eq_some_iff.1 hl3).1, fun p hp => ⟨(World.putObj_heap_other (hdl p hp).2).trans ((hbd p hp).2.trans (hd2 p hp)), move_put ho3 hl3 rfl (hbd p hp).1⟩, fun b hb hbL hs => ?_, ?_⟩
    · have h1 := hka.same b hs
      have h2 := hk3.same b hb (move_put hoka hla rfl h1.1)
      exact ⟨move_put ho3 hl3 rfl h2.1, (World.putObj_heap_other hbL).trans (h2.2.trans ((World.putObj_heap_other hbL).trans h1.2))⟩
    · have := hka.size; have := hk3.size; simp at *; omega
  rintro e a3 W3 hp
  have hbad : ∀ (c : Code), KpFrom R w.heap.size (Wa.putObj L (.loop { rec .ready none with state := .busy })) W3 → R.ok W3 → Ix c (pre ++ [x]) W3 →
      ∃ v w', (Instr.endRound L (some c)).run P W3 = .ok v w' ∧ ((Ending.returned v = .returned (.bool true) ∧ (I (pre ++ [x]) w' ∧ w'.heap[L]? = some (.loop (rec .ready none)) ∧ (∀ p ∈ dl, w'.heap[p.1]? = some p.2 ∧ R.sf w' p.1) ∧ R.sf w' L ∧ Kp R w w' ∧ R.ok w') ∧ Kp R W w') ∨
      (Ending.returned v = .returned (.bool false) ∧ (∃ c, Ix c (pre ++ [x]) w' ∧ w'.heap[L]? = some (.loop (rec .done (some c))) ∧ (∀ p ∈ dl, w'.heap[p.1]? = some p.2)) ∧ R.ok w' ∧ KpFrom R (L + 1) W w')) := fun c hk3 ho3 hi3 => by
    obtain ⟨hr, hl3, hs3, hl4, hd4, hall, hsz⟩ := fin (some c) W3 hk3 ho3
    exact ⟨_, _, hr, .inr ⟨rfl, ⟨c, abides_put (hIx c (pre ++ [x])) _ ho3 hi3 hL0 hLm hl3 rfl, hl4, fun p hp => (hd4 p hp).1⟩, ok_put ho3 hLm hl3 rfl, ⟨hsz, fun b hb hs => hall b (by omega) (by omega) hs⟩⟩⟩
  cases e with
  | normal =>
    obtain ⟨hk3, hi3⟩ := hp
    have ho3 := hk3.ok hok2
    obtain ⟨hr, hl3, hs3, hl4, hd4, hall, hsz⟩ := fin none W3 (hk3.from _) ho3
    have ho4 : R.ok (W3.putObj L (.loop (rec (if (none : Option Code).isNone then .ready else .done) none))) := ok_put ho3 hLm hl3 rfl
    have hW4 : Kp R W (W3.putObj L (.loop (rec (if (none : Option Code).isNone then .ready else .done) none))) :=
      ⟨hsz, fun b hs => by
        by_cases hbL : b = L
        · subst hbL; exact ⟨move_put ho3 hl3 rfl hs3, hl4.trans hl.symm⟩
        · have h1 := hka.same b hs
          have h2 := hk3.same b (move_put hoka hla rfl h1.1)
          exact ⟨move_put ho3 hl3 rfl h2.1, (World.putObj_heap_other hbL).trans (h2.2.trans ((World.putObj_heap_other hbL).trans h1.2))⟩, fun _ => ho4⟩
    exact ⟨_, _, hr, .inl ⟨rfl, ⟨abides_put (hI (pre ++ [x])) _ ho3 hi3 hL0 hLm hl3 rfl, hl4, hd4, move_put ho3 hl3 rfl hs3, hkw.trans hW4, ho4⟩, hW4⟩⟩
  | ret => exact hbad .ret hp.1 hp.2.1 hp.2.2
  | exit id => exact hbad (.exit id) hp.1 hp.2.1 hp.2.2
  | goto t => exact hbad (.goto t) hp.1 hp.2.1 hp.2.2
  | panic ch => exact hp.elim
  | outgrown => exact hp.elim

/-- **The loop of a function.** -/
theorem wpIn_range_M {T : Type} {xs : List T} {g : Operand} {ps : Array Tmp} {assign body : Code} {Q : Exit → Act → World → Prop} {a : Act} {w : World}
    {gf : Nat} {lb : Array Value} (hg : a.eval g = .func (.func gf) #[] lb) (eg : ∀ args w, (callFunc gf args).run P w = .ok (.enter gf args) w)
    {At : World → Array Value → T → Prop} (hseq : SeqM R P gf lb xs At w) (hok : R.ok w) (hps : ∀ W vs x, At W vs x → vs.size = ps.size)
    (I : List T → World → Prop) (Ix : Code → List T → World → Prop) (hI : ∀ s, Abides R w.heap.size (I s)) (hIx : ∀ c s, Abides R w.heap.size (Ix c s)) (h0 : I [] w)
    (hround : ∀ (l : Nat) (pre : List T) (vs : Array Value) (x : T) (W : World), w.heap.size ≤ l → I pre W → At W vs x → Kp R w W → R.ok W → (pre ++ [x]) <+: xs →
      assign.wpIn (Fence.wide.inRound l) 3 P (Exit.then (fun a' W' => Kp R W W' ∧ I pre W' ∧ ∀ W2, l < W2.heap.size → (∃ r, W2.heap[l]? = some (.loop r)) → R.sf W2 l → I pre W2 → Kp R w W2 → R.ok W2 → W'.heap.size ≤ W2.heap.size → (∀ F : World → Prop, Abides R w.heap.size F → F W' → F W2) →
        body.wpIn (Fence.wide.inRound l) 3 P (postM R w.heap.size I Ix (pre ++ [x]) W2) a' W2) (fun _ _ _ => False)) { tmps := (ps.zip vs).foldl (fun t (p, v) => t.setIfInBounds p v) a.tmps, defers := [] } W)
    (hdone : ∀ (D : Nat) (W : World), w.heap.size ≤ D → I xs W → Kp R w W → R.ok W → W.heap[D]? = some (.deferred (some [])) → R.sf W D → Q .normal { a with defers := { target := .collected D, args := #[] } :: a.defers } W)
    (hstop : ∀ (D : Nat) (c : Code) (pre : List T) (W : World), w.heap.size ≤ D → pre <+: xs → Ix c pre W → KpFrom R w.heap.size w W → R.ok W → W.heap[D]? = some (.deferred (some [])) → c.wpIn Fence.wide 3 P Q { a with defers := { target := .collected D, args := #[] } :: a.defers } W) :
    (Code.rangeFunc g ps assign body).wpIn Fence.wide 3 P Q a w := by
  refine wpIn_rangeFunc ?_
  intro fn _
  obtain ⟨rec, hrec⟩ : ∃ rec : LoopState → Option Code → Loop, rec = fun st pe => { state := st, pending := pe, fn, tmps := a.tmps, params := ps, assign, body, defers := w.heap.size } := ⟨_, rfl⟩
  obtain ⟨W1, hW1⟩ : ∃ W1, (w.alloc (.deferred (some []))).alloc (.loop (rec .ready none)) = W1 := ⟨_, rfl⟩
  have hL1 : W1.heap[w.heap.size + 1]? = some (.loop (rec .ready none)) := by
    rw [← hW1]; have := World.alloc_heap_new (w.alloc (.deferred (some []))) (.loop (rec .ready none)); rwa [World.size_alloc] at this
  have hK1 : W1.heap[w.heap.size]? = some (.deferred (some [])) := by
    rw [← hW1]; exact (Below.heap_alloc _ _ _ (by simp)).trans (World.alloc_heap_new w _)
  have hb1 : Below w.heap.size w W1 := by
    rw [← hW1]; exact ((Below.refl _ w).alloc (Nat.le_refl _) _).alloc (by simp) _
  have hs1 : W1.heap.size = w.heap.size + 2 := by rw [← hW1]; simp
  have hI1 : I [] W1 := by rw [← hW1]; exact abides_alloc (hI []) _ (ok_alloc _ hok) (abides_alloc (hI []) _ hok h0)
  have hmv1 : Mv R w W1 := Mv.of_below hok hb1
  have hok1 := hmv1.ok hok
  have hkp1 := hmv1.kp hok
  have hm0 := R.mlt hok
  refine ⟨w.heap.size + 1, [{ target := .collected w.heap.size, args := #[] }], W1, { target := .fn (.func gf) lb, args := #[.func (.yield (w.heap.size + 1)) #[] #[]] }, W1, gf,
    #[.func (.yield (w.heap.size + 1)) #[] #[]] ++ lb, W1, ?_, ?_, ?_, ?_, (fun h => by cases h), ?_⟩
  · rw [← hW1, hrec]; exact run_enterLoop_outer _ _ _ _ _
  · simp only [resolve, hg]
    simp [go_sem]
  · intro f' hf'; simp [Target.leads] at hf'; subst hf'; trivial
  · simp [invoke, go_sem, eg]
  · refine callsIn_wide.2 ((hseq (w.heap.size + 1)
      (fun pre W => I pre W ∧ W.heap[w.heap.size + 1]? = some (.loop (rec .ready none)) ∧ (∀ p ∈ [(w.heap.size, Obj.deferred (some []))], W.heap[p.1]? = some p.2 ∧ R.sf W p.1) ∧ R.sf W (w.heap.size + 1) ∧ Kp R w W ∧ R.ok W)
      (fun pre W => (∃ c, Ix c pre W ∧ W.heap[w.heap.size + 1]? = some (.loop (rec .done (some c))) ∧ (∀ p ∈ [(w.heap.size, Obj.deferred (some []))], W.heap[p.1]? = some p.2)))
      W1 hkp1 hok1 (by omega) ?_ ?_ ?_ ⟨hI1, hL1, (fun p hp => by obtain rfl := List.mem_singleton.1 hp; exact ⟨hK1, R.fresh hok hb1 (Nat.le_refl _) (by omega)⟩), R.fresh hok hb1 (by omega) (by omega), hkp1, hok1⟩).mono ?_)
    · intro s
      have h1 := ((hI s).mono (by omega : w.heap.size ≤ W1.heap.size)).and (rec_abides (w := w) (B := W1.heap.size) (L := w.heap.size + 1) (by omega) (by omega) [(w.heap.size, Obj.deferred (some []))] (fun p hp => by obtain rfl := List.mem_singleton.1 hp; simp; omega) (.loop (rec .ready none)))
      exact h1
    · rintro s X Y row hg2 hr2 hox ⟨c, hc, hx⟩
      have h1 := ((hIx c s).mono (by omega : w.heap.size ≤ W1.heap.size)).and (done_abides (R := R) (B := W1.heap.size) (L := w.heap.size + 1) (by omega) (by omega) [(w.heap.size, Obj.deferred (some []))] (fun p hp => by obtain rfl := List.mem_singleton.1 hp; simp; omega) (.loop (rec .done (some c))))
      exact ⟨c, h1 X Y row hg2 hr2 hox ⟨hc, hx⟩⟩
    · rintro pre vs x W ⟨hi, hl, hd, hsl, hkw, _⟩ hkW hokW hat hpre
      exact round_M (by omega) hrec hps I Ix hI hIx hround pre vs x W hi hl hsl hkw hokW hat hpre _ (fun p hp => by obtain rfl := List.mem_singleton.1 hp; exact ⟨Nat.le_refl _, by simp⟩) hd
    · rintro e W2 ⟨⟨v, rfl⟩, (⟨⟨hi, hl, hd, hsl, hkw, ho2⟩, _⟩ | ⟨pre, hSp, ⟨c, hi, hl, hd⟩, ho2, hkf⟩)⟩
      all_goals have hk := hd (w.heap.size, Obj.deferred (some [])) (List.mem_singleton.2 rfl)
      · refine ⟨none, _, by have := run_endLoop (P := P) hl (by rw [hrec]; simp); rw [hrec] at this; exact this, hdone _ _ (Nat.le_refl _) (abides_put (hI xs) _ ho2 hi (by omega) (by omega) hl rfl) ⟨by have := hkw.size; simp; omega, fun b hb => ⟨move_put ho2 hl rfl (hkw.same b hb).1, (World.putObj_heap_other (by have := R.lt hb; omega)).trans (hkw.same b hb).2⟩, fun _ => ok_put ho2 (by omega) hl rfl⟩ (ok_put ho2 (by omega) hl rfl) ((World.putObj_heap_other (by simp)).trans hk.1) (move_put ho2 hl rfl hk.2)⟩
      · refine ⟨some c, _, by have := run_endLoop (P := P) hl (by rw [hrec]; simp); rw [hrec] at this; exact this, hstop _ c pre _ (Nat.le_refl _) hSp (abides_put (hIx c pre) _ ho2 hi (by omega) (by omega) hl rfl) ⟨by have := hkf.size; simp; omega, fun b hb hs => absurd (R.lt hs) (by omega)⟩ (ok_put ho2 (by omega) hl rfl) ((World.putObj_heap_other (by simp)).trans hk)⟩

/-- **The loop within a round of loop l₀.** -/
theorem wpIn_range_N {T : Type} {xs : List T} {g : Operand} {ps : Array Tmp} {assign body : Code} {Q : Exit → Act → World → Prop} {a : Act} {w : World}
    {l₀ : Nat} {r₀ : Loop} (hl₀ : w.heap[l₀]? = some (.loop r₀)) {gf : Nat} {lb : Array Value} (hg : a.eval g = .func (.func gf) #[] lb) (eg : ∀ args w, (callFunc gf args).run P w = .ok (.enter gf args) w)
    {At : World → Array Value → T → Prop} (hseq : SeqM R P gf lb xs At w) (hok : R.ok w) (hps : ∀ W vs x, At W vs x → vs.size = ps.size)
    (I : List T → World → Prop) (Ix : Code → List T → World → Prop) (hI : ∀ s, Abides R w.heap.size (I s)) (hIx : ∀ c s, Abides R w.heap.size (Ix c s)) (h0 : I [] w)
    (hround : ∀ (l : Nat) (pre : List T) (vs : Array Value) (x : T) (W : World), w.heap.size ≤ l → I pre W → At W vs x → Kp R w W → R.ok W → (pre ++ [x]) <+: xs →
      assign.wpIn (Fence.wide.inRound l) 3 P (Exit.then (fun a' W' => Kp R W W' ∧ I pre W' ∧ ∀ W2, l < W2.heap.size → (∃ r, W2.heap[l]? = some (.loop r)) → R.sf W2 l → I pre W2 → Kp R w W2 → R.ok W2 → W'.heap.size ≤ W2.heap.size → (∀ F : World → Prop, Abides R w.heap.size F → F W' → F W2) →
        body.wpIn (Fence.wide.inRound l) 3 P (postM R w.heap.size I Ix (pre ++ [x]) W2) a' W2) (fun _ _ _ => False)) { tmps := (ps.zip vs).foldl (fun t (p, v) => t.setIfInBounds p v) a.tmps, defers := [] } W)
    (hdone : ∀ (W : World), I xs W → Kp R w W → R.ok W → Q .normal a W)
    (hstop : ∀ (c : Code) (pre : List T) (W : World), pre <+: xs → Ix c pre W → KpFrom R w.heap.size w W → R.ok W → c.wpIn (Fence.wide.inRound l₀) 3 P Q a W) :
    (Code.rangeFunc g ps assign body).wpIn (Fence.wide.inRound l₀) 3 P Q a w := by
  refine wpIn_rangeFunc ?_
  intro fn _
  obtain ⟨rec, hrec⟩ : ∃ rec : LoopState → Option Code → Loop, rec = fun st pe => { state := st, pending := pe, fn, tmps := a.tmps, params := ps, assign, body, defers := r₀.defers } := ⟨_, rfl⟩
  obtain ⟨W1, hW1⟩ : ∃ W1, w.alloc (.loop (rec .ready none)) = W1 := ⟨_, rfl⟩
  have hL1 : W1.heap[w.heap.size]? = some (.loop (rec .ready none)) := by rw [← hW1]; exact World.alloc_heap_new w _
  have hb1 : Below w.heap.size w W1 := by rw [← hW1]; exact (Below.refl _ w).alloc (Nat.le_refl _) _
  have hs1 : W1.heap.size = w.heap.size + 1 := by rw [← hW1]; simp
  have hI1 : I [] W1 := by rw [← hW1]; exact abides_alloc (hI []) _ hok h0
  have hmv1 : Mv R w W1 := Mv.of_below hok hb1
  have hok1 := hmv1.ok hok
  have hkp1 := hmv1.kp hok
  have hm0 := R.mlt hok
  refine ⟨w.heap.size, [], W1, { target := .fn (.func gf) lb, args := #[.func (.yield w.heap.size) #[] #[]] }, W1, gf,
    #[.func (.yield w.heap.size) #[] #[]] ++ lb, W1, ?_, ?_, ?_, ?_, (fun h => by cases h), ?_⟩
  · rw [← hW1, hrec]; exact run_enterLoop_inner hl₀ _ _ _ _ _
  · simp only [resolve, hg]
    simp [go_sem]
  · intro f' hf'; simp [Target.leads] at hf'; subst hf'; trivial
  · simp [invoke, go_sem, eg]
  · refine CallsIn.inRound l₀ (callsIn_wide.2 ((hseq w.heap.size
      (fun pre W => I pre W ∧ W.heap[w.heap.size]? = some (.loop (rec .ready none)) ∧ (∀ p ∈ ([] : List (Nat × Obj)), W.heap[p.1]? = some p.2 ∧ R.sf W p.1) ∧ R.sf W w.heap.size ∧ Kp R w W ∧ R.ok W)
      (fun pre W => (∃ c, Ix c pre W ∧ W.heap[w.heap.size]? = some (.loop (rec .done (some c))) ∧ (∀ p ∈ ([] : List (Nat × Obj)), W.heap[p.1]? = some p.2)))
      W1 hkp1 hok1 (by omega) ?_ ?_ ?_ ⟨hI1, hL1, (fun p hp => by simp at hp), R.fresh hok hb1 (by omega) (by omega), hkp1, hok1⟩).mono ?_))
    · intro s
      have h1 := ((hI s).mono (by omega : w.heap.size ≤ W1.heap.size)).and (rec_abides (w := w) (B := W1.heap.size) (L := w.heap.size) (by omega) (by omega) [] (fun p hp => by simp at hp) (.loop (rec .ready none)))
      exact h1
    · rintro s X Y row hg2 hr2 hox ⟨c, hc, hx⟩
      have h1 := ((hIx c s).mono (by omega : w.heap.size ≤ W1.heap.size)).and (done_abides (R := R) (B := W1.heap.size) (L := w.heap.size) (by omega) (by omega) [] (fun p hp => by simp at hp) (.loop (rec .done (some c))))
      exact ⟨c, h1 X Y row hg2 hr2 hox ⟨hc, hx⟩⟩
    · rintro pre vs x W ⟨hi, hl, hd, hsl, hkw, _⟩ hkW hokW hat hpre
      exact round_M (Nat.le_refl _) hrec hps I Ix hI hIx hround pre vs x W hi hl hsl hkw hokW hat hpre _ (fun p hp => by simp at hp) hd
    · rintro e W2 ⟨⟨v, rfl⟩, (⟨⟨hi, hl, hd, hsl, hkw, ho2⟩, _⟩ | ⟨pre, hSp, ⟨c, hi, hl, hd⟩, ho2, hkf⟩)⟩
      · refine ⟨none, _, by have := run_endLoop (P := P) hl (by rw [hrec]; simp); rw [hrec] at this; exact this, hdone _ (abides_put (hI xs) _ ho2 hi (Nat.le_refl _) (by omega) hl rfl) ⟨by have := hkw.size; simp; omega, fun b hb => ⟨move_put ho2 hl rfl (hkw.same b hb).1, (World.putObj_heap_other (by have := R.lt hb; omega)).trans (hkw.same b hb).2⟩, fun _ => ok_put ho2 (by omega) hl rfl⟩ (ok_put ho2 (by omega) hl rfl)⟩
      · refine ⟨some c, _, by have := run_endLoop (P := P) hl (by rw [hrec]; simp); rw [hrec] at this; exact this, hstop c pre _ hSp (abides_put (hIx c pre) _ ho2 hi (Nat.le_refl _) (by omega) hl rfl) ⟨by have := hkf.size; simp; omega, fun b hb hs => absurd (R.lt hs) (by omega)⟩ (ok_put ho2 (by omega) hl rfl)⟩
end Go.Proofs.YthmnffgjckpkiaaGreatDoor
