/-
  Contracts of 'shapeOf' and 'kindOf' of package english.
  The contract of 'kindOf' of package english.
  The contract of 'measured' of package english.
  The contract of 'right' of package english.
  The contracts of the helpers of 'write' of package english.
  Rows of words of the call's own, two or three of them apart from each other; append of one to another.
  Steps of the reference of chapter 34 in memory: rows of them that are the call's own; append of a row to a row.
  The contract of halves of the reference of chapter 34.
-/
import Derived.Test.YthmnffgjckpkiaaGreatDoorGEngB
import Derived.Test.YthmnffgjckpkiaaGreatDoorGEngE
import Derived.Test.YthmnffgjckpkiaaGreatDoorGEngH
import Derived.Test.YthmnffgjckpkiaaGreatDoorGLow
import Derived.Test.YthmnffgjckpkiaaGreatDoorSA
import Derived.Deep.RegionHeld3
import Derived.Deep.AppendLies
namespace Go.Proofs.YthmnffgjckpkiaaGreatDoor
open Go Go.RowKit Go.Shelf

/-- The words of a shape as a value: nil where there are none. -/
def WordsV (w : World) (v : Value) (ws : List (List UInt8)) : Prop := (ws = [] ∧ v = .slice none 0 0) ∨ (ws ≠ [] ∧ ∃ b n c, v = .slice (some ⟨b, 0, none⟩) n c ∧ StrSlice w v ws)
theorem WordsV.below {w w' : World} {v : Value} {ws : List (List UInt8)} (h : WordsV w v ws) (hb : Below w.heap.size w w') : WordsV w' v ws := by
  rcases h with h | ⟨h1, b, n, c, h2, h3⟩
  · exact .inl h
  · exact .inr ⟨h1, b, n, c, h2, h3.below hb⟩
theorem PartsAt.below {w w' : World} {v : Value} {ks : List Nat} (h : PartsAt w v ks) (hb : Below w.heap.size w w') : PartsAt w' v ks := by
  obtain ⟨a, cap, rfl, h⟩ := h
  refine ⟨a, cap, rfl, ?_⟩
  rcases h with h | ⟨b, rfl, hc⟩
  · exact .inl h
  · exact .inr ⟨b, rfl, fun j hj => cell_kept' hb (hc j hj)⟩
theorem at_below {w : World} {o x : Obj} {k : Nat} (h : w.heap[k]? = some x) : (w.alloc o).heap[k]? = some x := (Below.heap_alloc _ _ _ (Array.getElem?_eq_some_iff.1 h).1).trans h

theorem WordsV.form {w : World} {v : Value} {ws : List (List UInt8)} (h : WordsV w v ws) : ∃ a n c, v = .slice a n c := by
  rcases h with ⟨_, rfl⟩ | ⟨_, b, n, c, rfl, _⟩
  · exact ⟨_, _, _, rfl⟩
  · exact ⟨_, _, _, rfl⟩
end Go.Proofs.YthmnffgjckpkiaaGreatDoor
namespace Go.Proofs.YthmnffgjckpkiaaGreatDoor
open Go Go.RowKit Go.Shelf

end Go.Proofs.YthmnffgjckpkiaaGreatDoor
namespace Go.Proofs.YthmnffgjckpkiaaGreatDoor
open Go Go.RowKit Go.Shelf

theorem sizesT_take : ∀ (l : List Tr) (k : Nat) (h : k < l.length), sizesT (l.take (k + 1)) = sizesT (l.take k) + sizeT l[k]
  | [], k, h => by simp at h
  | t :: ts, 0, _ => by simp [sizesT]
  | t :: ts, k + 1, h => by
    have := sizesT_take ts k (by simpa using h)
    simp only [List.take_succ_cons, sizesT, List.getElem_cons_succ]
    omega
theorem sizesT_le : ∀ (l : List Tr) (k : Nat), sizesT (l.take k) ≤ sizesT l
  | [], k => by simp
  | t :: ts, 0 => by simp [sizesT]
  | t :: ts, k + 1 => by
    have := sizesT_le ts k
    simp only [List.take_succ_cons, sizesT]
    omega
end Go.Proofs.YthmnffgjckpkiaaGreatDoor
namespace Go.Proofs.YthmnffgjckpkiaaGreatDoor
open Go Go.RowKit Go.Shelf

/-- The parts of a parse in memory. -/
theorem TreeV.parts {W : World} {r e : Int} {w : ByteArray} {a : Option Addr} {n cap : Nat} {r' e' : Int} {w' : List UInt8} {sub : List Tr} (h : TreeV (fun _ => True) W (.agg #[.int .u8 r, .int .i64 e, .string w, .slice a n cap]) (.node r' e' w' sub)) :
    ∀ k (hk : k < sub.length), ∃ b off q, a = some ⟨b, off, none⟩ ∧ TreeV (fun _ => True) W (TV.val q) sub[k] ∧ sub[k].rule = q.r ∧ W.cell? ⟨b, off + k * 4, none⟩ = some (.int .u8 q.r) ∧ W.cell? ⟨b, off + k * 4 + 1, none⟩ = some (.int .i64 q.e) ∧ W.cell? ⟨b, off + k * 4 + 2, none⟩ = some (.string q.w) ∧ W.cell? ⟨b, off + k * 4 + 3, none⟩ = some (.slice q.a q.n q.c) := by
  cases h with
  | mk _ _ _ _ _ _ vs hs hv =>
    intro k hk
    obtain ⟨b, off, rfl, _, hc⟩ := hs.resolve_left (by intro h; rw [h] at hk; simp at hk)
    have htv := hv k hk
    obtain ⟨q, hq⟩ := htv.form
    obtain ⟨y0, y1, y2, y3, hy, g0, g1, g2, g3⟩ := hc k hk
    rw [hq] at hy htv
    have hr : sub[k].rule = q.r := by
      generalize sub[k] = t at htv
      generalize hgv : TV.val q = v at htv
      cases htv
      unfold TV.val at hgv
      simp only [Value.agg.injEq, Array.mk.injEq, List.cons.injEq, Value.int.injEq, and_true] at hgv
      exact hgv.1.2.symm
    unfold TV.val at hy
    simp only [Value.agg.injEq, Array.mk.injEq, List.cons.injEq, and_true] at hy
    obtain ⟨rfl, rfl, rfl, rfl⟩ := hy
    exact ⟨b, off, q, rfl, htv, hr, g0, g1, g2, g3⟩
end Go.Proofs.YthmnffgjckpkiaaGreatDoor
namespace Go.Proofs.YthmnffgjckpkiaaGreatDoor
open Go Go.RowKit Go.Shelf

/-- A row of words of the walk's own. -/
def RowW (B : Nat) (W : World) (v : Value) (xs : List (List UInt8)) : Prop := W.ownsRow B 9 1 v xs.length (xs.map strVal)
/-- What writing leaves: the words behind those that were there; no other block is touched. -/
def WPost (B : Nat) (w : World) (ov : Value) (ys : List (List UInt8)) (e : Ending) (w' : World) : Prop :=
  ∃ v', e = .returned v' ∧ RowW B w' v' ys ∧ w.grownBy w' ov.ownBlock ∧ (∀ g, v'.ownBlock = some g → ov.ownBlock = some g ∨ w.heap.size ≤ g)
theorem rowW_size {B : Nat} {W : World} {v : Value} {xs : List (List UInt8)} (h : RowW B W v xs) : ∃ a c, v = .slice a xs.length c := by
  obtain ⟨a, c, h⟩ := owns_form h
  exact ⟨a, c, h⟩
/-- The row's block. -/
theorem rowW_lt {B : Nat} {W : World} {v : Value} {xs : List (List UInt8)} (h : RowW B W v xs) {c : Nat} (hc : v.ownBlock = some c) : B ≤ c ∧ c < W.heap.size := by
  have := h.lt c hc
  exact this
theorem grown_chain {A C D : World} {o o' : Option Nat} (h1 : A.grownBy C o) (h2 : C.grownBy D o') (hn : ∀ g, o' = some g → o = some g ∨ A.heap.size ≤ g) : A.grownBy D o :=
  ⟨h2.os.trans h1.os, h2.tape.trans h1.tape, h2.output.trans h1.output, Nat.le_trans h1.size h2.size, fun b hb hne => (h2.block b (Nat.lt_of_lt_of_le hb h1.size) (fun e => by
    rcases hn b e.symm with h | h
    · exact hne h.symm
    · omega)).trans (h1.block b hb hne)⟩
theorem grown_alloc {A C : World} {o : Option Nat} (h : A.grownBy C o) (x : Obj) : A.grownBy (C.alloc x) o := ⟨h.os, h.tape, h.output, Nat.le_trans h.size (by simp), fun b hb hne => (Below.heap_alloc _ _ _ (Nat.lt_of_lt_of_le hb h.size)).trans (h.block b hb hne)⟩
theorem grown_self (A : World) (o : Option Nat) : A.grownBy A o := ⟨rfl, rfl, rfl, Nat.le_refl _, fun _ _ _ => rfl⟩
theorem grown_drew {A C : World} {o : Option Nat} (h : A.grownBy C o) : A.grownBy C.drew o := ⟨h.os, h.tape, h.output, h.size, h.block⟩
theorem kept_block {C D : World} {o : Option Nat} {T : Nat} {x : Obj} (h : C.grownBy D o) (hT : C.heap[T]? = some x) (hn : ∀ g, o = some g → g ≠ T) : D.heap[T]? = some x :=
  (h.block T (Array.getElem?_eq_some_iff.1 hT).1 (fun e => hn T e.symm rfl)).trans hT
theorem TreeV.headW {W : World} {r e : Int} {w : ByteArray} {s : Value} {r1 e1 : Int} {w1 : List UInt8} {sub : List Tr} (h : TreeV (fun _ => True) W (.agg #[.int .u8 r, .int .i64 e, .string w, s]) (.node r1 e1 w1 sub)) : r = r1 ∧ e = e1 ∧ w = ⟨w1.toArray⟩ := by
  cases h; exact ⟨rfl, rfl, rfl⟩
/-- A row of n words of the walk's own. -/
def RowN (B : Nat) (W : World) (a : Option Addr) (n c : Nat) (xs : List (List UInt8)) : Prop := n = xs.length ∧ W.ownsRow B 9 1 (.slice a n c) n (xs.map strVal)
theorem RowN.of {B : Nat} {W : World} {v : Value} {xs : List (List UInt8)} (h : RowW B W v xs) : ∃ a n c, v = .slice a n c ∧ RowN B W a n c xs := by
  obtain ⟨a, c, rfl⟩ := rowW_size h
  exact ⟨a, _, c, rfl, rfl, h⟩
theorem RowN.row {B : Nat} {W : World} {a : Option Addr} {n c : Nat} {xs : List (List UInt8)} (h : RowN B W a n c xs) : RowW B W (.slice a n c) xs := by
  obtain ⟨rfl, h⟩ := h
  exact h
theorem RowN.alloc {B : Nat} {W : World} {a : Option Addr} {n c : Nat} {xs : List (List UInt8)} (h : RowN B W a n c xs) (o : Obj) : RowN B (W.alloc o) a n c xs := ⟨h.1, World.ownsRow.alloc h.2 o⟩
theorem RowN.drew {B : Nat} {W : World} {a : Option Addr} {n c : Nat} {xs : List (List UInt8)} (h : RowN B W a n c xs) : RowN B W.drew a n c xs := h
theorem RowN.add {B g n m cap : Nat} {W : World} {xs : List (List UInt8)} (ys : List (List UInt8)) {zs : List Value} (hn : n = xs.length) (hm : ys.length = m) (hz : zs = ys.map strVal) (h : W.ownsRow B 9 1 (.slice (some ⟨g, 0, none⟩) (n + m) cap) (n + m) (xs.map strVal ++ zs)) : RowN B W (some ⟨g, 0, none⟩) (n + m) cap (xs ++ ys) := by
  subst hn hm hz
  refine ⟨by rw [List.length_append], ?_⟩
  rw [List.map_append]
  exact h
theorem RowN.lt {B : Nat} {W : World} {a : Option Addr} {n c : Nat} {xs : List (List UInt8)} (h : RowN B W a n c xs) {g : Nat} (hg : (Value.slice a n c).ownBlock = some g) : B ≤ g ∧ g < W.heap.size := rowW_lt h.row hg
theorem RowN.kept {B : Nat} {W W' : World} {a : Option Addr} {n c : Nat} {xs : List (List UInt8)} (h : RowN B W a n c xs) {o : Option Nat} (hg : W.grownBy W' o) (ho : ∀ g, o = some g → (Value.slice a n c).ownBlock ≠ some g) : RowN B W' a n c xs := ⟨h.1, h.2.kept hg (by
  cases ho' : (Value.slice a n c).ownBlock with
  | none => simp
  | some g => exact .inr (fun h => ho g h.symm ho'))⟩
/-- Where the walk stands: the argument's block, the lexicon and the parse, the row and what it may be. -/
structure At (W0 w : World) (o : Option Nat) (T : Nat) (x : Obj) (W : World) (a : Option Addr) (n c : Nat) (xs : List (List UInt8)) : Prop where
  box : W.heap[T]? = some x
  below : Below W0.heap.size W0 W
  grown : w.grownBy W o
  row : RowN W0.heap.size W a n c xs
  own : ∀ g, (Value.slice a n c).ownBlock = some g → o = some g ∨ w.heap.size ≤ g
  far : ∀ g, (Value.slice a n c).ownBlock = some g → g ≠ T
section
variable {W0 w W : World} {o : Option Nat} {T : Nat} {x : Obj} {a : Option Addr} {n c : Nat} {xs : List (List UInt8)}
theorem At.alloc (h : At W0 w o T x W a n c xs) (y : Obj) : At W0 w o T x (W.alloc y) a n c xs := ⟨at_below h.box, h.below.alloc h.below.size _, grown_alloc h.grown _, h.row.alloc _, h.own, h.far⟩
theorem At.drew (h : At W0 w o T x W a n c xs) : At W0 w o T x W.drew a n c xs := ⟨h.box, h.below.drew, grown_drew h.grown, h.row, h.own, h.far⟩
theorem At.lt (h : At W0 w o T x W a n c xs) : T < W.heap.size := (Array.getElem?_eq_some_iff.1 h.box).1
theorem At.oB (ho : ∀ g, o = some g → W0.heap.size ≤ g) (h : Below W0.heap.size W0 w) {W' : World} (hg : w.grownBy W' o) : Below W0.heap.size W0 W' := h.grown hg h.size ho
/-- Behind a call that writes. -/
theorem At.next (h : At W0 w o T x W a n c xs) (hB : Below W0.heap.size W0 w) (ho : ∀ g, o = some g → W0.heap.size ≤ g) {ys : List (List UInt8)} {e : Ending} {W' : World} (hp : WPost W0.heap.size W (.slice a n c) ys e W') :
    ∃ a' n' c', e = .returned (.slice a' n' c') ∧ At W0 w o T x W' a' n' c' ys := by
  obtain ⟨v', rfl, hr, hg, hn⟩ := hp
  obtain ⟨a', n', c', rfl, hr'⟩ := RowN.of hr
  have hG := grown_chain h.grown hg h.own
  refine ⟨a', n', c', rfl, kept_block hg h.box h.far, At.oB ho hB hG, hG, hr', fun g hg' => ?_, fun g hg' => ?_⟩
  · rcases hn g hg' with h1 | h1
    · exact h.own g h1
    · exact .inr (Nat.le_trans h.grown.size h1)
  · rcases hn g hg' with h1 | h1
    · exact h.far g h1
    · have := h.lt; omega
/-- Behind an append. -/
theorem At.more (h : At W0 w o T x W a n c xs) (hB : Below W0.heap.size W0 w) (ho : ∀ g, o = some g → W0.heap.size ≤ g) {g cap m H : Nat} {W' : World} {ys : List (List UInt8)} {zs : List Value} (hm : ys.length = m) (hz : zs = ys.map strVal)
    (hown : W'.ownsRow W0.heap.size 9 1 (.slice (some ⟨g, 0, none⟩) (n + m) cap) (n + m) (xs.map strVal ++ zs)) (hg : W.grownBy W' (Value.slice a n c).ownBlock) (hat : (Value.slice a n c).ownBlock = some g ∨ g = H) (hH : W.heap.size = H) :
    At W0 w o T x W' (some ⟨g, 0, none⟩) (n + m) cap (xs ++ ys) := by
  have hG := grown_chain h.grown hg h.own
  refine ⟨kept_block hg h.box h.far, At.oB ho hB hG, hG, RowN.add ys h.row.1 hm hz hown, fun g' hg' => ?_, fun g' hg' => ?_⟩
  · obtain rfl : g = g' := by simpa [Value.ownBlock] using hg'
    rcases hat with h1 | h1
    · exact h.own g h1
    · exact .inr (by have := h.grown.size; omega)
  · obtain rfl : g = g' := by simpa [Value.ownBlock] using hg'
    rcases hat with h1 | h1
    · exact h.far g h1
    · have := h.lt; omega
theorem At.post (h : At W0 w o T x W a n c xs) {ov : Value} (ho : o = ov.ownBlock) : WPost W0.heap.size w ov xs (.returned (.slice a n c)) W := by
  subst ho
  exact ⟨_, rfl, h.row.row, h.grown, h.own⟩
theorem WPost.kept {B : Nat} {W W' : World} {ov : Value} {ys : List (List UInt8)} {e : Ending} {b : Nat} {y : Obj} (h : WPost B W ov ys e W') (hb : W.heap[b]? = some y) (hn : ∀ g, ov.ownBlock = some g → g ≠ b) : W'.heap[b]? = some y := by
  obtain ⟨_, _, _, hg, _⟩ := h
  exact kept_block hg hb hn
/-- At a function's beginning, its argument boxed. -/
theorem At.start (hB : Below W0.heap.size W0 w) (hr : RowN W0.heap.size w a n c xs) (ho : o = (Value.slice a n c).ownBlock) : At W0 w o w.heap.size x (w.alloc x) a n c xs :=
  ⟨heap_atC rfl, hB.alloc hB.size _, grown_alloc (grown_self _ _) _, hr.alloc _, fun g h => .inl (by rw [ho]; exact h), fun g h e => by have := (hr.lt h).2; omega⟩
end
end Go.Proofs.YthmnffgjckpkiaaGreatDoor
namespace Go.Proofs.YthmnffgjckpkiaaGreatDoor
open Go Go.RowKit Go.Shelf

/-- The rows of two slices are not the same. -/
def Dis (v v' : Value) : Prop := ∀ g, v.ownBlock = some g → v'.ownBlock ≠ some g
theorem Dis.symm {v v' : Value} (h : Dis v v') : Dis v' v := fun g h1 h2 => h g h2 h1
theorem dis_nil (v : Value) : Dis v (.slice none 0 0) := fun g _ h => by simp [Value.ownBlock] at h
theorem Dis.or {v v' : Value} (h : Dis v v') : v'.ownBlock = none ∨ v'.ownBlock ≠ v.ownBlock := by
  cases hv : v'.ownBlock with
  | none => exact .inl rfl
  | some g =>
    refine .inr (fun e => ?_)
    exact h g e.symm hv
theorem rowW_kept {B : Nat} {W W' : World} {v s : Value} {xs : List (List UInt8)} (h : RowW B W v xs) (hg : W.grownBy W' s.ownBlock) (hd : Dis s v) : RowW B W' v xs := h.kept hg hd.or
/-- Two rows, and three. -/
structure Pair (w W : World) (s : Value) (S : List (List UInt8)) (b : Value) (Bl : List (List UInt8)) : Prop where
  below : Below w.heap.size w W
  rs : RowW w.heap.size W s S
  rb : RowW w.heap.size W b Bl
  sb : Dis s b
structure Tri (w W : World) (s : Value) (S : List (List UInt8)) (a : Value) (A : List (List UInt8)) (b : Value) (Bl : List (List UInt8)) : Prop where
  below : Below w.heap.size w W
  rs : RowW w.heap.size W s S
  ra : RowW w.heap.size W a A
  rb : RowW w.heap.size W b Bl
  sa : Dis s a
  sb : Dis s b
  ab : Dis a b
section
variable {w W : World} {s a b : Value} {S A Bl : List (List UInt8)}
theorem Tri.tail (h : Tri w W s S a A b Bl) : Pair w W a A b Bl := ⟨h.below, h.ra, h.rb, h.ab⟩
theorem Pair.later (h : Pair w W s S b Bl) {W' : World} (hb : Below W.heap.size W W') : Pair w W' s S b Bl := ⟨h.below.trans (hb.mono h.below.size), ownsRow_below h.rs hb, ownsRow_below h.rb hb, h.sb⟩
theorem Tri.later (h : Tri w W s S a A b Bl) {W' : World} (hb : Below W.heap.size W W') : Tri w W' s S a A b Bl := ⟨h.below.trans (hb.mono h.below.size), ownsRow_below h.rs hb, ownsRow_below h.ra hb, ownsRow_below h.rb hb, h.sa, h.sb, h.ab⟩
theorem Pair.nil (h : Pair w W s S a A) : Tri w W s S a A (.slice none 0 0) [] := ⟨h.below, h.rs, h.rb, World.ownsRow_nil _ _ _ _, h.sb, dis_nil _, dis_nil _⟩
theorem Tri.grown (h : Tri w W s S a A b Bl) {v' : Value} {W' : World} {T : List (List UInt8)} (hr : RowW w.heap.size W' v' T) (hg : W.grownBy W' s.ownBlock) (ho : v'.ownBlock = s.ownBlock ∨ v'.ownBlock = some W.heap.size) : Tri w W' v' T a A b Bl := by
  have key : ∀ {x : Value} {xs : List (List UInt8)}, RowW w.heap.size W x xs → Dis s x → Dis v' x := by
    intro x xs hx hd g h1 h2
    rcases ho with ho | ho
    · exact hd g (ho ▸ h1) h2
    · rw [ho] at h1
      injection h1 with h1
      have := (World.ownsRow.lt hx g h2).2
      omega
  exact ⟨h.below.grown hg h.below.size (fun k hk => (World.ownsRow.lt h.rs k hk).1), hr, rowW_kept h.ra hg h.sa, rowW_kept h.rb hg h.sb, key h.ra h.sa, key h.rb h.sb, h.ab⟩
end
end Go.Proofs.YthmnffgjckpkiaaGreatDoor
namespace Go.Proofs.YthmnffgjckpkiaaGreatDoor
open Go Go.RowKit Go.Shelf

theorem info_step : (Tryz.prog.info? 148).map (fun i => (i.zero, i.size, i.bytes)) = some (some (.agg #[.int .u8 0, .int .i64 0, .string ByteArray.empty, .slice none 0 0]), 4, 56) := by kernel_rfl
def spanCells (p : Nat × Nat × Nat) : List Value := [.int .i64 p.1, .int .i64 p.2.1, .int .i64 p.2.2]
/-- The spans of a step in memory. -/
def SpansAt (W : World) (v : Value) (ps : List (Nat × Nat × Nat)) : Prop :=
  (ps = [] ∧ v = .slice none 0 0) ∨ ∃ b cap cs, v = .slice (some ⟨b, 0, none⟩) ps.length cap ∧ W.heap[b]? = some (Obj.cells cs 115 (0, 0)) ∧ cs.toList = ps.flatMap spanCells
theorem SpansAt.block {W W' : World} {v : Value} {ps : List (Nat × Nat × Nat)} (h : SpansAt W v ps) (hb : ∀ (b : Nat) (cs : Array Value), W.heap[b]? = some (Obj.cells cs 115 (0, 0)) → W'.heap[b]? = W.heap[b]?) : SpansAt W' v ps := by
  rcases h with h | ⟨b, cap, cs, hv, hh, hc⟩
  · exact .inl h
  · exact .inr ⟨b, cap, cs, hv, (hb b cs hh).trans hh, hc⟩
theorem SpansAt.below {W W' : World} {v : Value} {ps : List (Nat × Nat × Nat)} (h : SpansAt W v ps) (hb : Below W.heap.size W W') : SpansAt W' v ps :=
  h.block (fun b _ hh => hb.block b (Array.getElem?_eq_some_iff.1 hh).1)
theorem SpansAt.form {W : World} {v : Value} {ps : List (Nat × Nat × Nat)} (h : SpansAt W v ps) : ∃ a cap, v = .slice a ps.length cap := by
  rcases h with ⟨rfl, h⟩ | ⟨b, cap, _, h, _⟩
  · exact ⟨none, 0, h⟩
  · exact ⟨_, cap, h⟩
theorem flatSpan (ps : List (Nat × Nat × Nat)) : ∀ j (h : j < ps.length), (ps.flatMap spanCells)[j * 3]? = some (.int .i64 ps[j].1) ∧ (ps.flatMap spanCells)[j * 3 + 1]? = some (.int .i64 ps[j].2.1) ∧ (ps.flatMap spanCells)[j * 3 + 2]? = some (.int .i64 ps[j].2.2) := by
  induction ps with
  | nil => intro j h; simp at h
  | cons q qs ih =>
    intro j h
    cases j with
    | zero => simp [spanCells]
    | succ j =>
      have := ih j (by simpa using h)
      simp only [List.flatMap_cons, spanCells, List.cons_append, List.nil_append]
      rw [show (j + 1) * 3 = j * 3 + 1 + 1 + 1 by omega, show j * 3 + 1 + 1 + 1 + 1 = (j * 3 + 1) + 1 + 1 + 1 by omega, show j * 3 + 1 + 1 + 1 + 2 = (j * 3 + 2) + 1 + 1 + 1 by omega]
      simpa using this
/-- A span's cells. -/
theorem SpansAt.cells {W : World} {v : Value} {ps : List (Nat × Nat × Nat)} (h : SpansAt W v ps) {j : Nat} (hj : j < ps.length) :
    ∃ b cap, v = .slice (some ⟨b, 0, none⟩) ps.length cap ∧ W.cell? ⟨b, j * 3, none⟩ = some (.int .i64 ps[j].1) ∧ W.cell? ⟨b, j * 3 + 1, none⟩ = some (.int .i64 ps[j].2.1) ∧ W.cell? ⟨b, j * 3 + 2, none⟩ = some (.int .i64 ps[j].2.2) := by
  rcases h with ⟨rfl, _⟩ | ⟨b, cap, cs, hv, hh, hc⟩
  · simp at hj
  · obtain ⟨h0, h1, h2⟩ := flatSpan ps j hj
    refine ⟨b, cap, hv, ?_, ?_, ?_⟩ <;> rw [cell_rowC hh, ← Array.getElem?_toList, hc] <;> assumption
/-- A step's value. -/
def StepV (W : World) (q : TV) (s : StepS) : Prop := q.r = s.rule ∧ q.e = s.entry ∧ q.w = ⟨s.word.toArray⟩ ∧ SpansAt W (.slice q.a q.n q.c) s.parts
theorem StepV.block {W W' : World} {q : TV} {s : StepS} (h : StepV W q s) (hb : ∀ (b : Nat) (cs : Array Value), W.heap[b]? = some (Obj.cells cs 115 (0, 0)) → W'.heap[b]? = W.heap[b]?) : StepV W' q s := ⟨h.1, h.2.1, h.2.2.1, h.2.2.2.block hb⟩
/-- A row of steps of the call's own. -/
def StepsR (B : Nat) (W : World) (v : Value) (ss : List StepS) : Prop :=
  ∃ qs : List TV, qs.length = ss.length ∧ W.ownsRow B 148 4 v ss.length (qs.flatMap TV.cells) ∧ ∀ j (h : j < qs.length) (h2 : j < ss.length), StepV W qs[j] ss[j]
theorem StepsR.nil (B : Nat) (W : World) : StepsR B W (.slice none 0 0) [] := ⟨[], rfl, World.ownsRow_nil _ _ _ _, fun j h => by simp at h⟩
theorem StepsR.below {B : Nat} {W W' : World} {v : Value} {ss : List StepS} (h : StepsR B W v ss) (hb : Below W.heap.size W W') : StepsR B W' v ss := by
  obtain ⟨qs, h1, h2, h3⟩ := h
  exact ⟨qs, h1, ownsRow_below h2 hb, fun j a b => (h3 j a b).block (fun c _ hh => hb.block c (Array.getElem?_eq_some_iff.1 hh).1)⟩
theorem StepsR.base {B B' : Nat} {W : World} {v : Value} {ss : List StepS} (h : StepsR B W v ss) (hb : B' ≤ B) : StepsR B' W v ss := by
  obtain ⟨qs, h1, ⟨h2, h2'⟩, h3⟩ := h
  refine ⟨qs, h1, ⟨h2, ?_⟩, h3⟩
  rcases h2' with h | ⟨g, cap, cur, a, b, c⟩
  · exact .inl h
  · exact .inr ⟨g, cap, cur, a, Nat.le_trans hb b, c⟩
theorem StepsR.form {B : Nat} {W : World} {v : Value} {ss : List StepS} (h : StepsR B W v ss) : ∃ a cap, v = .slice a ss.length cap := by
  obtain ⟨qs, _, hown, _⟩ := h
  exact owns_form hown
/-- The block of a row of steps holds no spans. -/
theorem steps_span {B : Nat} {W : World} {v : Value} {n : Nat} {xs : List Value} (h : W.ownsRow B 148 4 v n xs) {b : Nat} {cs : Array Value} (hb : W.heap[b]? = some (Obj.cells cs 115 (0, 0))) : v.ownBlock ≠ some b := by
  intro he
  rcases h.2 with ⟨rfl, _⟩ | ⟨g, cap, cur, rfl, _, hg, _⟩
  · simp [Value.ownBlock] at he
  · obtain rfl : g = b := by simpa [Value.ownBlock] using he
    rw [hg] at hb
    injection hb with hb
    injection hb with _ hb
    exact absurd hb (by decide)
theorem stepsR_grown {B : Nat} {W W' : World} {s : Value} {n : Nat} {xs : List Value} (hs : W.ownsRow B 148 4 s n xs) (hg : W.grownBy W' s.ownBlock) : ∀ (b : Nat) (cs : Array Value), W.heap[b]? = some (Obj.cells cs 115 (0, 0)) → W'.heap[b]? = W.heap[b]? :=
  fun b _ hh => hg.block b (Array.getElem?_eq_some_iff.1 hh).1 (fun e => steps_span hs hh e.symm)
/-- One step in a new row. -/
theorem StepsR.new {B : Nat} {W : World} (hB : B ≤ W.heap.size) {q : TV} {s : StepS} (h : StepV W q s) : StepsR B (W.alloc (.cells #[.int .u8 q.r, .int .i64 q.e, .string q.w, .slice q.a q.n q.c] 148)) (.slice (some ⟨W.heap.size, 0, none⟩) 1 1) [s] := by
  refine ⟨[q], rfl, ⟨by simp [TV.cells], .inr ⟨W.heap.size, 1, _, rfl, hB, World.alloc_heap_new _ _, Nat.le_refl _, by decide, by simp, by simp [TV.cells]⟩⟩, fun j h1 h2 => ?_⟩
  obtain rfl : j = 0 := by simp at h1; omega
  exact h.block (fun b _ hh => Below.heap_alloc _ _ _ (Array.getElem?_eq_some_iff.1 hh).1)

/-- append of a row of steps to a row of steps. -/
theorem run_append_steps (w : World) (ty : TypeId) (base : Nat) (v : Value) (p : List StepS) (hp : StepsR base w v p) (bx : Nat) (x : Value) (q : List StepS) (hx : StepsR bx w x q)
    (hn : p.length + q.length ≤ 1000000) (hbase : base ≤ w.heap.size) :
    ∃ v' w', (Builtin.append_ #[144, 144] ty #[v, x]).run Tryz.prog w = .ok v' w' ∧ StepsR base w' v' (p ++ q) ∧ w.grownBy w' v.ownBlock ∧ (v'.ownBlock = v.ownBlock ∨ v'.ownBlock = some w.heap.size) := by
  obtain ⟨i0, hi, hz0, hz1, hz2⟩ := info_parts info_step
  obtain ⟨qs, h1, hown, h3⟩ := hp
  obtain ⟨rs, k1, kown, k3⟩ := hx
  rcases kown.2 with ⟨rfl, hz⟩ | ⟨g, cap, cur, rfl, _⟩
  · have hq : q = [] := List.eq_nil_of_length_eq_zero hz
    subst hq
    refine ⟨v, w, ?_, by rw [List.append_nil]; exact ⟨qs, h1, hown, h3⟩, ⟨rfl, rfl, rfl, Nat.le_refl _, fun _ _ _ => rfl⟩, .inl rfl⟩
    exact run_append_owned_none (P := Tryz.prog) (w := w) base 144 ty 148 i0 4 Tryz.underlying144 hi v p.length _ hown
  · have hnews : ∀ j u, (rs.flatMap TV.cells)[j]? = some u → w.cell? ((⟨g, 0, none⟩ : Addr).add j) = some u := fun j u hu => kown.cells (g := g) rfl j u hu
    obtain ⟨v', w', hr, h2, hg, _, h5⟩ := run_append_own_at (P := Tryz.prog) w base 144 ty 148 i0 _ 4 56 Tryz.underlying144 hi hz0 hz1 hz2 rfl (by decide) v p.length _ hown ⟨g, 0, none⟩ q.length cap (rs.flatMap TV.cells) (by rw [cells_len, k1]) hnews
      (by intro u hu; obtain ⟨y, _, hy⟩ := List.mem_flatMap.1 hu; simp only [TV.cells, List.mem_cons, List.not_mem_nil, or_false] at hy; rcases hy with rfl | rfl | rfl | rfl <;> rfl) (by unfold maxLen; omega) (by omega) hbase
    refine ⟨v', w', hr, ⟨qs ++ rs, by simp [h1, k1], by rw [List.length_append, List.flatMap_append]; exact h2, fun j a b => ?_⟩, hg, h5⟩
    have hk := stepsR_grown hown hg
    by_cases hj : j < qs.length
    · rw [List.getElem_append_left hj, List.getElem_append_left (by omega)]
      exact (h3 j hj (by omega)).block hk
    · rw [List.getElem_append_right (by omega), List.getElem_append_right (by omega)]
      have hjr : j - qs.length < rs.length := by simp at a; omega
      have := (k3 (j - qs.length) hjr (by omega)).block hk
      simpa [h1] using this
theorem wpList_append_steps {ops : Array Oper} {rest : List Oper} {o : Oper} {a : Act} {w : World} {Q : Exit → Act → World → Prop} (hgd : o.guard = none) (s x : Operand)
    (ho : o.op = .call { callee := .builtin .append, args := #[s, x], argTypes := #[144, 144] })
    (base : Nat) (v : Value) (p : List StepS) (hs : a.eval s = v) (hown : StepsR base w v p) (bx : Nat) (vx : Value) (q : List StepS) (hvx : a.eval x = vx) (hx : StepsR bx w vx q)
    (hn : p.length + q.length ≤ 1000000) (hbase : base ≤ w.heap.size)
    (h : ∀ v' w', StepsR base w' v' (p ++ q) → w.grownBy w' v.ownBlock → (v'.ownBlock = v.ownBlock ∨ v'.ownBlock = some w.heap.size) → wpList Tryz.prog ops Q rest (a.put o.dst v') w') : wpList Tryz.prog ops Q (o :: rest) a w := by
  refine wpList_plain hgd fun K hK => ?_
  obtain ⟨v', w', hr, h1, h2, h3⟩ := run_append_steps w o.type base v p hown bx vx q hx hn hbase
  unfold Oper.wp execOp
  simp only [ho, resolve, invoke, builtin, Sem.run_bind, Sem.run_pure, Result.andThen_ok, List.map_toArray, List.map_cons, List.map_nil, hs, hvx, hr]
  exact hK _ _ (h v' w' h1 h2 h3)
theorem StepsR.grownBelow {B : Nat} {W W' : World} {v : Value} {ss : List StepS} {w : World} (h : StepsR w.heap.size W v ss) (hb : Below w.heap.size w W) (hg : W.grownBy W' v.ownBlock) (_hB : B = B) : Below w.heap.size w W' := by
  obtain ⟨qs, _, hown, _⟩ := h
  exact hb.grown hg hb.size (fun k hk => (World.ownsRow.lt hown k hk).1)
end Go.Proofs.YthmnffgjckpkiaaGreatDoor
namespace Go.Proofs.YthmnffgjckpkiaaGreatDoor
open Go Go.RowKit Go.Shelf

theorem StepsR.new' {B : Nat} {W : World} (hB : B ≤ W.heap.size) (H : Nat) (hH : W.heap.size = H) {q : TV} {s : StepS} (h : StepV W q s) : StepsR B (W.alloc (.cells #[.int .u8 q.r, .int .i64 q.e, .string q.w, .slice q.a q.n q.c] 148)) (.slice (some ⟨H, 0, none⟩) 1 1) [s] := by
  subst hH
  exact StepsR.new hB h
/-- The halves found up to a place. -/
def halvesTo (g : Gr) (f t rule : Nat) (between : List UInt8) (kind k : Nat) : List StepS :=
  ((List.range (k - f)).map (· + f)).filterMap fun k => if tokAt g k = between then some ⟨rule, 0, [], [(kind, f, k), (kind, k + 1, t)]⟩ else none
theorem halvesTo_start (g : Gr) (f t rule : Nat) (between : List UInt8) (kind : Nat) : halvesTo g f t rule between kind f = [] := by unfold halvesTo; simp
theorem halvesTo_next (g : Gr) (f t rule : Nat) (between : List UInt8) (kind k : Nat) (h : f ≤ k) : halvesTo g f t rule between kind (k + 1) = halvesTo g f t rule between kind k ++ if tokAt g k = between then [⟨rule, 0, [], [(kind, f, k), (kind, k + 1, t)]⟩] else [] := by
  unfold halvesTo
  rw [show k + 1 - f = (k - f) + 1 by omega, List.range_succ, List.map_append, List.filterMap_append]
  congr 1
  simp only [List.map_cons, List.map_nil, List.filterMap_cons, List.filterMap_nil, show k - f + f = k by omega]
  split <;> simp_all
theorem halvesTo_len (g : Gr) (f t rule : Nat) (between : List UInt8) (kind k : Nat) : (halvesTo g f t rule between kind k).length ≤ k - f := by
  unfold halvesTo
  refine Nat.le_trans (List.length_filterMap_le _ _) ?_
  simp

set_option maxRecDepth 100000 in
set_option maxHeartbeats 4000000 in
theorem rHalves_any (w : World) (g : Gr) (tv : Value) (hts : StrSlice w tv g.toks) (f t r kind : Nat) (between : List UInt8) (ht : t ≤ g.toks.length) (h1000 : g.toks.length ≤ 1000) (hf : f ≤ 1001) :
    Calls Tryz.prog 149 #[tv, .int .i64 f, .int .i64 t, .int .u8 r, .string ⟨between.toArray⟩, .int .i64 kind] w fun e w' => ∃ v', e = .returned v' ∧ StepsR w.heap.size w' v' (halvesS g f t r between kind) ∧ Below w.heap.size w w' := by
  obtain ⟨ta, tcap, rfl, htc, htcm, htf⟩ := hts
  obtain ⟨n, hn⟩ : ∃ n, n = g.toks.length := ⟨_, rfl⟩
  rw [← hn] at ht h1000 ⊢
  have HN := Lib.hid hn
  have HTf := Lib.hid htf
  have HRes := Lib.hid (show halvesS g f t r between kind = halvesTo g f t r between kind (if f ≤ t then t else f) by
    unfold halvesS halvesTo
    split
    · rfl
    · rw [show t - f = 0 by omega, show f - f = 0 by omega])
  clear hn htf htc htcm
  go_enter Tryz.func149, Tryz.ntmps149
  go_wp2
  go_loopw [13, 14] (fun s q wr => ∃ k : Nat, f ≤ k ∧ (k ≤ t ∨ k = f) ∧ q = .int .i64 k ∧ StepsR w.heap.size wr s (halvesTo g f t r between kind k) ∧ Below w.heap.size w wr) (fun _ q _ => t - (intOf q).toNat)
  case atStart => exact ⟨f, Nat.le_refl _, .inr rfl, rfl, by rw [halvesTo_start]; exact StepsR.nil _ _, Below.refl _ _⟩
  case round =>
    obtain ⟨k, hfk, hkt, rfl, hst, hbr⟩ := hrel
    obtain ⟨va, vc, rfl⟩ := hst.form
    have HSt := Lib.hid hst
    have HBr := Lib.hid hbr
    obtain ⟨L, hL⟩ : ∃ L, L = (halvesTo g f t r between kind k).length := ⟨_, rfl⟩
    rw [← hL]
    have hL1 : L ≤ 1001 := by have := halvesTo_len g f t r between kind k; omega
    have HL := Lib.hid hL
    by_cases hlt : k < t
    · have hd : decide ((k : Int) < (t : Int)) = true := decide_eq_true (by omega)
      have hd2 : decide (k < t) = true := decide_eq_true hlt
      have hkn : k < g.toks.length := by rw [← HN.out]; omega
      obtain ⟨tb, toff, rfl, hc⟩ := HTf.out.resolve_left (fun h => by rw [h] at hkn; simp at hkn)
      have d0 := cell_kept' hbr (hc k hkn)
      obtain ⟨tk, htk⟩ : ∃ tk, tk = g.toks[k] := ⟨_, rfl⟩
      rw [← htk] at d0
      have htok : tokAt g k = tk := by unfold tokAt; rw [htk]; simp [List.getD, List.getElem?_eq_getElem hkn]
      have HTk := Lib.hid htok
      have b1 : (0 : Int) ≤ (k : Int) := by omega
      have b2 : (k : Int) < (n : Int) := by omega
      have y1 : IntKind.i64.wrap ((k : Int) + 1) = ((k + 1 : Nat) : Int) := by rw [show (k : Int) + 1 = ((k + 1 : Nat) : Int) by omega]; exact IntWalk.i64_in _ (by omega)
      have hnx := halvesTo_next g f t r between kind k hfk
      rw [htok] at hnx
      have HNx := Lib.hid hnx
      have hk1 : k + 1 ≤ t := hlt
      clear hc htk htok hst hbr hnx hL
      by_cases htb : tk = between
      · have e1 : (tk == between) = true := by simpa using htb
        have HTb := Lib.hid htb
        clear htb
        go_wp2_with (first
          | (at_builtin; refine wpList_append_steps rfl (.tmp 27) (.tmp 40) rfl w.heap.size (.slice va L vc) (halvesTo g f t r between kind k) rfl (HL.out ▸ (HSt.out.below (((Below.refl wr.heap.size wr).alloc (Nat.le_refl _) _).alloc (by simp) _))) w.heap.size (.slice (some ⟨wr.heap.size + 1, 0, none⟩) 1 1) [⟨r, 0, [], [(kind, f, k), (kind, k + 1, t)]⟩] rfl (StepsR.new' (q := ⟨r, 0, ⟨#[]⟩, some ⟨wr.heap.size, 0, none⟩, 2, 2⟩) (Nat.le_trans HBr.out.size (by simp)) (wr.heap.size + 1) (by simp) ⟨rfl, rfl, rfl, .inr ⟨_, _, _, rfl, World.alloc_heap_new _ _, by simp [spanCells]⟩⟩) (by rw [← HL.out]; simp; omega) (Nat.le_trans HBr.out.size (by simp; omega)) ?_; intro v6 w6 hs6 hg6 hat6; have HS6 := Lib.hid hs6; have HG6 := Lib.hid hg6; clear hs6 hg6 hat6)
          | fail)
        have hb6 : Below w.heap.size w w6 := by
          refine ((HBr.out.alloc HBr.out.size _).alloc (Nat.le_trans HBr.out.size (by simp)) _).grown HG6.out (Nat.le_trans HBr.out.size (by simp; omega)) (fun c hc => ?_)
          obtain ⟨_, _, hown, _⟩ := HSt.out
          rw [HL.out] at hc
          exact (World.ownsRow.lt hown c hc).1
        have HB6 := Lib.hid hb6
        clear hb6
        go_roundw
        case rel => exact ⟨k + 1, by omega, .inl hk1, by go_num, by rw [HNx.out, if_pos HTb.out]; exact HS6.out, HB6.out⟩
        case measure => simp [intOf]; omega
      · have e1 : (tk == between) = false := by simpa using htb
        have HTb := Lib.hid htb
        clear htb
        go_wp2
        go_roundw
        case rel => exact ⟨k + 1, by omega, .inl hk1, by go_num, by rw [HNx.out, if_neg HTb.out, List.append_nil, HL.out]; exact HSt.out, HBr.out⟩
        case measure => simp [intOf]; omega
    · have hd : decide ((k : Int) < (t : Int)) = false := decide_eq_false (by omega)
      have hd2 : decide (k < t) = false := decide_eq_false hlt
      have hke : k = if f ≤ t then t else f := by split <;> omega
      have HKe := Lib.hid hke
      clear hke hbr hst hL
      go_wp2
      go_ret
      exact ⟨_, rfl, by rw [HRes.out, ← HKe.out, HL.out]; exact HSt.out, HBr.out⟩
end Go.Proofs.YthmnffgjckpkiaaGreatDoor
