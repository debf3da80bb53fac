/-
  The contracts of the helpers of 'write' of package english.
-/
import Derived.Test.YthmnffgjckpkiaaGreatDoorRight34
import Derived.Test.YthmnffgjckpkiaaGreatDoorPlainE
import Derived.Deep.RegionHeld3
import Derived.Deep.AppendLies
namespace Go.Proofs.YthmnffgjckpkiaaGreatDoor
open Go Go.RowKit Go.Shelf

/-- A row of words of the walk's own. -/
def RowW (B : Nat) (W : World) (v : Value) (xs : List (List UInt8)) : Prop := W.ownsRow B 9 1 v xs.length (xs.map strVal)
/-- What writing leaves: the words behind those that were there; no other block is touched. -/
def WPost (B : Nat) (w : World) (ov : Value) (ys : List (List UInt8)) (e : Ending) (w' : World) : Prop :=
  ∃ v', e = .returned v' ∧ RowW B w' v' ys ∧ w.grownBy w' ov.ownBlock ∧ (∀ g, v'.ownBlock = some g → ov.ownBlock = some g ∨ w.heap.size ≤ g)
def WOk (W0 : World) (l : List Ent) (lv : Value) (t : Tr) : Prop :=
  ∀ (w : World) (q : TV) (ov : Value) (xs : List (List UInt8)), TreeV (fun _ => True) W0 q.val t → Below W0.heap.size W0 w → RowW W0.heap.size w ov xs → xs.length + 8 * sizeT t ≤ 4000 →
    Calls Tryz.prog 56 #[lv, ov, q.val] w (WPost W0.heap.size w ov (xs ++ wordsF l t false))

/-- No parse has more than three words a step. -/
theorem words_le {l : List Ent} : ∀ (x : Tr), okS l x = true → ∀ b, (wordsF l x b).length ≤ 3 * sizeT x := by
  intro x
  induction x using Tr.ind with
  | h r e w sub ih =>
    intro h b
    rcases ok_shape h with (⟨hr, _, _, y, z, rfl, hy, hz⟩ | ⟨rfl, _, _, y, z, rfl, hy, hz⟩ | ⟨n, _, _, _, rfl, hr⟩ | ⟨rfl, _, _, y, rfl, hy⟩ | ⟨n, _, _, _, y, rfl, hy, hr⟩) | (⟨n, _, _, _, _, ⟨rfl, y, rfl, hy⟩ | ⟨rfl, y, z, rfl, hy, hz⟩⟩ | ⟨rfl, _, _, y, rfl, hy⟩ | ⟨rfl, _, _, y, rfl, hy⟩ | ⟨hr, _, _, y, z, rfl, hy, hz⟩)
    · have a1 := ih y (by simp) hy.2 false
      have a2 := ih z (by simp) hz.2 false
      rw [wordsF_2, size_2]
      rcases hr with rfl | rfl | rfl | rfl <;> simp [stepW] <;> omega
    · have a1 := ih y (by simp) hy.2 false
      have a2 := ih z (by simp) hz.2 false
      rw [wordsF_2, size_2]
      simp [stepW]; omega
    · rw [wordsF_0, size_0]
      rcases hr with ⟨rfl, _⟩ | ⟨rfl, _⟩ | ⟨rfl, _⟩ | ⟨rfl, _⟩ | ⟨rfl, _⟩ <;> cases b <;> simp [stepW]
    · have a1 := ih y (by simp) hy.2 false
      rw [wordsF_1, size_1]
      simp [stepW]; omega
    · have a1 := ih y (by simp) hy false
      rw [wordsF_1, size_1]
      rcases hr with ⟨rfl, _⟩ | ⟨rfl, _⟩ <;> simp [stepW] <;> omega
    · have a1 := ih y (by simp) hy.2 false
      rw [wordsF_1, size_1]
      simp [stepW]; omega
    · have a1 := ih y (by simp) hy.2 false
      have a2 := ih z (by simp) hz.2 false
      rw [wordsF_2, size_2]
      simp [stepW]; omega
    · have a1 := ih y (by simp) hy.2 false
      rw [wordsF_1, size_1]
      cases b <;> simp [stepW] <;> omega
    · have a1 := ih y (by simp) hy.2.1 true
      have : stepW 16 w (ownW l e) y.rule (wordsF l y true) [] b = (if 13 < y.rule then [wIs, wNot] else [wDoes, wNot]) ++ (wordsF l y true ++ []) := rfl
      rw [wordsF_1, size_1, show ((16 : Int) == 16) = true from rfl, this]
      split <;> simp <;> omega
    · have a1 := ih y (by simp) hy.2 false
      have a2 := ih z (by simp) hz.2 false
      rw [wordsF_2, size_2]
      rcases hr with rfl | rfl <;> simp [stepW] <;> omega

theorem info_str : (Tryz.prog.info? 9).map (fun i => (i.zero, i.size, i.bytes)) = some (some (.string ByteArray.empty), 1, 16) := by kernel_rfl
theorem rowW_size {B : Nat} {W : World} {v : Value} {xs : List (List UInt8)} (h : RowW B W v xs) : ∃ a c, v = .slice a xs.length c := by
  obtain ⟨a, c, h⟩ := owns_form h
  exact ⟨a, c, h⟩
/-- The row's block. -/
theorem rowW_lt {B : Nat} {W : World} {v : Value} {xs : List (List UInt8)} (h : RowW B W v xs) {c : Nat} (hc : v.ownBlock = some c) : B ≤ c ∧ c < W.heap.size := by
  have := h.lt c hc
  exact this
theorem grown_Below {B : Nat} {W0 w w' : World} {o : Option Nat} (h : Below B W0 w) (hg : w.grownBy w' o) (hB : B ≤ w.heap.size) (ho : ∀ c, o = some c → B ≤ c) : Below B W0 w' := h.grown hg hB ho
theorem catAt_in {l : List Ent} {n : Nat} (h : n < l.length) : catAt l n = l[n].cat := by unfold catAt; rw [List.getElem?_eq_getElem h]

set_option maxRecDepth 100000 in
/-- **third.** -/
theorem third_any (Wt W0 w : World) (ht : Tabs Wt w) (l : List Ent) (lv : Value) (q : TV) (hl : EntSlice W0 lv l) (hb : Below W0.heap.size W0 w) (n : Nat) (hn : n < l.length) (hq : q.e = n) :
    Calls Tryz.prog 92 #[lv, q.val] w fun e w' => e = .returned (.string ⟨(thirdV (ownW l n)).toArray⟩) ∧ Below w.heap.size w w' := by
  obtain ⟨r, e, wd, a, m, c⟩ := q
  obtain rfl : e = n := hq
  obtain ⟨⟨la, lcap, rfl, _, _, hform⟩, hok⟩ := hl
  obtain ⟨b, off, rfl, _, hc⟩ := hform.resolve_left (by intro h; rw [h] at hn; simp at hn)
  have c0 := cell_kept' hb (hc n hn).1
  have hown : ownW l (n : Int) = l[n].w := ownW_at hn
  have hws : l[n].word.size ≤ 9223372036854775807 := by have := (hok _ (List.getElem_mem hn)).1; unfold maxLen at this; omega
  obtain ⟨x, hx⟩ : ∃ x, x = l[n].word := ⟨_, rfl⟩
  rw [hown]
  unfold Ent.w
  rw [← hx] at c0 hws ⊢
  obtain ⟨N, hN⟩ : ∃ N, N = l.length := ⟨_, rfl⟩
  rw [← hN] at hn ⊢
  have hlt : b < w.heap.size := cell_lt c0
  have b1 : (0 : Int) ≤ (n : Int) := by omega
  have b2 : (n : Int) < (N : Int) := by omega
  have Ht := Lib.hid ht
  have H3 := Lib.hid (fun W (h : Tabs Wt W) => Third_any Wt W h x hws)
  clear hok hform hc hown hx hN hb ht hws
  unfold TV.val
  go_enter Tryz.func92, Tryz.ntmps92
  go_wp2_with (go_at_call 114; refine (H3.out _ (Ht.out.alloc _)).mono ?_; rintro r w1 ⟨rfl, hb1⟩)
  go_ret
  exact ⟨rfl, ((Below.refl _ _).alloc (Nat.le_refl _) _).trans (hb1.mono (by simp))⟩

theorem grown_chain {A C D : World} {o o' : Option Nat} (h1 : A.grownBy C o) (h2 : C.grownBy D o') (hn : ∀ g, o' = some g → o = some g ∨ A.heap.size ≤ g) : A.grownBy D o :=
  ⟨h2.os.trans h1.os, h2.tape.trans h1.tape, h2.output.trans h1.output, Nat.le_trans h1.size h2.size, fun b hb hne => (h2.block b (Nat.lt_of_lt_of_le hb h1.size) (fun e => by
    rcases hn b e.symm with h | h
    · exact hne h.symm
    · omega)).trans (h1.block b hb hne)⟩
theorem grown_alloc {A C : World} {o : Option Nat} (h : A.grownBy C o) (x : Obj) : A.grownBy (C.alloc x) o := ⟨h.os, h.tape, h.output, Nat.le_trans h.size (by simp), fun b hb hne => (Below.heap_alloc _ _ _ (Nat.lt_of_lt_of_le hb h.size)).trans (h.block b hb hne)⟩
theorem grown_self (A : World) (o : Option Nat) : A.grownBy A o := ⟨rfl, rfl, rfl, Nat.le_refl _, fun _ _ _ => rfl⟩
theorem grown_drew {A C : World} {o : Option Nat} (h : A.grownBy C o) : A.grownBy C.drew o := ⟨h.os, h.tape, h.output, h.size, h.block⟩
theorem kept_block {C D : World} {o : Option Nat} {T : Nat} {x : Obj} (h : C.grownBy D o) (hT : C.heap[T]? = some x) (hn : ∀ g, o = some g → g ≠ T) : D.heap[T]? = some x :=
  (h.block T (Array.getElem?_eq_some_iff.1 hT).1 (fun e => hn T e.symm rfl)).trans hT
theorem TreeV.lenW {W : World} {r e : Int} {w : ByteArray} {a : Option Addr} {n cap : Nat} {r1 e1 : Int} {w1 : List UInt8} {sub : List Tr} (h : TreeV (fun _ => True) W (.agg #[.int .u8 r, .int .i64 e, .string w, .slice a n cap]) (.node r1 e1 w1 sub)) : n = sub.length := by
  cases h; rfl
theorem TreeV.headW {W : World} {r e : Int} {w : ByteArray} {s : Value} {r1 e1 : Int} {w1 : List UInt8} {sub : List Tr} (h : TreeV (fun _ => True) W (.agg #[.int .u8 r, .int .i64 e, .string w, s]) (.node r1 e1 w1 sub)) : r = r1 ∧ e = e1 ∧ w = ⟨w1.toArray⟩ := by
  cases h; exact ⟨rfl, rfl, rfl⟩
theorem rowW_alloc {B : Nat} {W : World} {v : Value} {xs : List (List UInt8)} (h : RowW B W v xs) (o : Obj) : RowW B (W.alloc o) v xs := World.ownsRow.alloc h o
theorem rowW_drew {B : Nat} {W : World} {v : Value} {xs : List (List UInt8)} (h : RowW B W v xs) : RowW B W.drew v xs := h
theorem rowW_add {B g cap : Nat} {W : World} {xs ys : List (List UInt8)} {zs : List Value} (hz : zs = ys.map strVal) (h : W.ownsRow B 9 1 (.slice (some ⟨g, 0, none⟩) (xs.length + ys.length) cap) (xs.length + ys.length) (xs.map strVal ++ zs)) : RowW B W (.slice (some ⟨g, 0, none⟩) (xs.length + ys.length) cap) (xs ++ ys) := by
  unfold RowW
  rw [List.length_append, List.map_append, ← hz]
  exact h
theorem grown_tree {W0 w w' : World} {o : Option Nat} (hb : Below W0.heap.size W0 w) (hg : w.grownBy w' o) (ho : ∀ c, o = some c → W0.heap.size ≤ c) : Below W0.heap.size W0 w' := hb.grown hg hb.size ho

/-- A row of n words of the walk's own. -/
def RowN (B : Nat) (W : World) (a : Option Addr) (n c : Nat) (xs : List (List UInt8)) : Prop := n = xs.length ∧ W.ownsRow B 9 1 (.slice a n c) n (xs.map strVal)
theorem RowN.of {B : Nat} {W : World} {v : Value} {xs : List (List UInt8)} (h : RowW B W v xs) : ∃ a n c, v = .slice a n c ∧ RowN B W a n c xs := by
  obtain ⟨a, c, rfl⟩ := rowW_size h
  exact ⟨a, _, c, rfl, rfl, h⟩
theorem RowN.row {B : Nat} {W : World} {a : Option Addr} {n c : Nat} {xs : List (List UInt8)} (h : RowN B W a n c xs) : RowW B W (.slice a n c) xs := by
  obtain ⟨rfl, h⟩ := h
  exact h
theorem RowN.alloc {B : Nat} {W : World} {a : Option Addr} {n c : Nat} {xs : List (List UInt8)} (h : RowN B W a n c xs) (o : Obj) : RowN B (W.alloc o) a n c xs := ⟨h.1, World.ownsRow.alloc h.2 o⟩
theorem RowN.drew {B : Nat} {W : World} {a : Option Addr} {n c : Nat} {xs : List (List UInt8)} (h : RowN B W a n c xs) : RowN B W.drew a n c xs := h
theorem RowN.add {B g n m cap : Nat} {W : World} {xs : List (List UInt8)} (ys : List (List UInt8)) {zs : List Value} (hn : n = xs.length) (hm : ys.length = m) (hz : zs = ys.map strVal) (h : W.ownsRow B 9 1 (.slice (some ⟨g, 0, none⟩) (n + m) cap) (n + m) (xs.map strVal ++ zs)) : RowN B W (some ⟨g, 0, none⟩) (n + m) cap (xs ++ ys) := by
  subst hn hm hz
  refine ⟨by rw [List.length_append], ?_⟩
  rw [List.map_append]
  exact h
theorem RowN.lt {B : Nat} {W : World} {a : Option Addr} {n c : Nat} {xs : List (List UInt8)} (h : RowN B W a n c xs) {g : Nat} (hg : (Value.slice a n c).ownBlock = some g) : B ≤ g ∧ g < W.heap.size := rowW_lt h.row hg
theorem RowN.kept {B : Nat} {W W' : World} {a : Option Addr} {n c : Nat} {xs : List (List UInt8)} (h : RowN B W a n c xs) {o : Option Nat} (hg : W.grownBy W' o) (ho : ∀ g, o = some g → (Value.slice a n c).ownBlock ≠ some g) : RowN B W' a n c xs := ⟨h.1, h.2.kept hg (by
  cases ho' : (Value.slice a n c).ownBlock with
  | none => simp
  | some g => exact .inr (fun h => ho g h.symm ho'))⟩
/-- Where the walk stands: the argument's block, the lexicon and the parse, the row and what it may be. -/
structure At (W0 w : World) (o : Option Nat) (T : Nat) (x : Obj) (W : World) (a : Option Addr) (n c : Nat) (xs : List (List UInt8)) : Prop where
  box : W.heap[T]? = some x
  below : Below W0.heap.size W0 W
  grown : w.grownBy W o
  row : RowN W0.heap.size W a n c xs
  own : ∀ g, (Value.slice a n c).ownBlock = some g → o = some g ∨ w.heap.size ≤ g
  far : ∀ g, (Value.slice a n c).ownBlock = some g → g ≠ T
section
variable {W0 w W : World} {o : Option Nat} {T : Nat} {x : Obj} {a : Option Addr} {n c : Nat} {xs : List (List UInt8)}
theorem At.alloc (h : At W0 w o T x W a n c xs) (y : Obj) : At W0 w o T x (W.alloc y) a n c xs := ⟨at_below h.box, h.below.alloc h.below.size _, grown_alloc h.grown _, h.row.alloc _, h.own, h.far⟩
theorem At.drew (h : At W0 w o T x W a n c xs) : At W0 w o T x W.drew a n c xs := ⟨h.box, h.below.drew, grown_drew h.grown, h.row, h.own, h.far⟩
theorem At.lt (h : At W0 w o T x W a n c xs) : T < W.heap.size := (Array.getElem?_eq_some_iff.1 h.box).1
theorem At.oB (ho : ∀ g, o = some g → W0.heap.size ≤ g) (h : Below W0.heap.size W0 w) {W' : World} (hg : w.grownBy W' o) : Below W0.heap.size W0 W' := h.grown hg h.size ho
/-- Behind a call that writes. -/
theorem At.next (h : At W0 w o T x W a n c xs) (hB : Below W0.heap.size W0 w) (ho : ∀ g, o = some g → W0.heap.size ≤ g) {ys : List (List UInt8)} {e : Ending} {W' : World} (hp : WPost W0.heap.size W (.slice a n c) ys e W') :
    ∃ a' n' c', e = .returned (.slice a' n' c') ∧ At W0 w o T x W' a' n' c' ys := by
  obtain ⟨v', rfl, hr, hg, hn⟩ := hp
  obtain ⟨a', n', c', rfl, hr'⟩ := RowN.of hr
  have hG := grown_chain h.grown hg h.own
  refine ⟨a', n', c', rfl, kept_block hg h.box h.far, At.oB ho hB hG, hG, hr', fun g hg' => ?_, fun g hg' => ?_⟩
  · rcases hn g hg' with h1 | h1
    · exact h.own g h1
    · exact .inr (Nat.le_trans h.grown.size h1)
  · rcases hn g hg' with h1 | h1
    · exact h.far g h1
    · have := h.lt; omega
/-- Behind an append. -/
theorem At.more (h : At W0 w o T x W a n c xs) (hB : Below W0.heap.size W0 w) (ho : ∀ g, o = some g → W0.heap.size ≤ g) {g cap m H : Nat} {W' : World} {ys : List (List UInt8)} {zs : List Value} (hm : ys.length = m) (hz : zs = ys.map strVal)
    (hown : W'.ownsRow W0.heap.size 9 1 (.slice (some ⟨g, 0, none⟩) (n + m) cap) (n + m) (xs.map strVal ++ zs)) (hg : W.grownBy W' (Value.slice a n c).ownBlock) (hat : (Value.slice a n c).ownBlock = some g ∨ g = H) (hH : W.heap.size = H) :
    At W0 w o T x W' (some ⟨g, 0, none⟩) (n + m) cap (xs ++ ys) := by
  have hG := grown_chain h.grown hg h.own
  refine ⟨kept_block hg h.box h.far, At.oB ho hB hG, hG, RowN.add ys h.row.1 hm hz hown, fun g' hg' => ?_, fun g' hg' => ?_⟩
  · obtain rfl : g = g' := by simpa [Value.ownBlock] using hg'
    rcases hat with h1 | h1
    · exact h.own g h1
    · exact .inr (by have := h.grown.size; omega)
  · obtain rfl : g = g' := by simpa [Value.ownBlock] using hg'
    rcases hat with h1 | h1
    · exact h.far g h1
    · have := h.lt; omega
theorem At.post (h : At W0 w o T x W a n c xs) {ov : Value} (ho : o = ov.ownBlock) : WPost W0.heap.size w ov xs (.returned (.slice a n c)) W := by
  subst ho
  exact ⟨_, rfl, h.row.row, h.grown, h.own⟩
theorem WPost.kept {B : Nat} {W W' : World} {ov : Value} {ys : List (List UInt8)} {e : Ending} {b : Nat} {y : Obj} (h : WPost B W ov ys e W') (hb : W.heap[b]? = some y) (hn : ∀ g, ov.ownBlock = some g → g ≠ b) : W'.heap[b]? = some y := by
  obtain ⟨_, _, _, hg, _⟩ := h
  exact kept_block hg hb hn
/-- At a function's beginning, its argument boxed. -/
theorem At.start (hB : Below W0.heap.size W0 w) (hr : RowN W0.heap.size w a n c xs) (ho : o = (Value.slice a n c).ownBlock) : At W0 w o w.heap.size x (w.alloc x) a n c xs :=
  ⟨heap_atC rfl, hB.alloc hB.size _, grown_alloc (grown_self _ _) _, hr.alloc _, fun g h => .inl (by rw [ho]; exact h), fun g h e => by have := (hr.lt h).2; omega⟩
end
end Go.Proofs.YthmnffgjckpkiaaGreatDoor
