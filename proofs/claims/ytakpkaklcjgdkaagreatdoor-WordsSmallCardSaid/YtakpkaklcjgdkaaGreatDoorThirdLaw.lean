/-
  Plain laws of the third form.
-/
import Derived.Test.YtakpkaklcjgdkaaGreatDoorThree
namespace Go.Proofs.YtakpkaklcjgdkaaGreatDoor
open Go Go.RowKit

theorem third_some (l : List UInt8) : ∃ e ∈ endsS, fitsS l e = true ∧ thirdS l = putS l e := by
  have h : (endsS.find? (fitsS l)).isSome = true := by
    rw [List.find?_isSome]
    exact ⟨([], false, 0, [115]), by decide, by simp [fitsS, Lib.hasSuffix]⟩
  obtain ⟨e, he⟩ := Option.isSome_iff_exists.1 h
  exact ⟨e, List.mem_of_find?_eq_some he, List.find?_some he, by simp [thirdS, he]⟩

theorem ends_cases (P : List UInt8 × Bool × Nat × List UInt8 → Prop) (hP : ∀ e ∈ endsS, P e) : P ([121], true, 1, [105, 101, 115]) ∧ ∀ e ∈ endsS, e.2.2.1 = 0 ∨ e = ([121], true, 1, [105, 101, 115]) := by
  refine ⟨hP _ (by decide), ?_⟩
  decide

theorem third_ends (l : List UInt8) : Lib.hasSuffix (thirdS l) [115] = true := by
  obtain ⟨e, he, _, h⟩ := third_some l
  have hs : ∀ e ∈ endsS, [115] <:+ e.2.2.2 := by decide
  rw [h, Lib.hasSuffix, List.isSuffixOf_iff_suffix, putS]
  exact (hs e he).trans (List.suffix_append _ _)
theorem third_shape (l : List UInt8) : (thirdS l = l ++ [115] ∨ thirdS l = l ++ [101, 115]) ∨ ([121] <:+ l ∧ thirdS l = l.take (l.length - 1) ++ [105, 101, 115]) := by
  obtain ⟨e, he, hf, h⟩ := third_some l
  have hs : ∀ e ∈ endsS, (e.2.2.1 = 0 ∧ (e.2.2.2 = [115] ∨ e.2.2.2 = [101, 115])) ∨ (e.1 = [121] ∧ e.2.2.1 = 1 ∧ e.2.2.2 = [105, 101, 115]) := by decide
  rcases hs e he with ⟨h0, h1⟩ | ⟨h1, h2, h3⟩
  · refine .inl ?_
    rw [h, putS, h0, Nat.sub_zero, List.take_length]
    rcases h1 with h1 | h1 <;> rw [h1]
    · exact .inl rfl
    · exact .inr rfl
  · refine .inr ⟨?_, by rw [h, putS, h2, h3]⟩
    simp only [fitsS, Bool.and_eq_true, Lib.hasSuffix, List.isSuffixOf_iff_suffix] at hf
    rw [h1] at hf
    exact hf.1
theorem third_init (l : List UInt8) : Lib.hasPrefix (thirdS l) (l.take (l.length - 1)) = true := by
  rw [Lib.hasPrefix, List.isPrefixOf_iff_prefix]
  rcases third_shape l with (h | h) | ⟨_, h⟩ <;> rw [h]
  · exact (List.take_prefix _ _).trans (List.prefix_append _ _)
  · exact (List.take_prefix _ _).trans (List.prefix_append _ _)
  · exact List.prefix_append _ _
theorem third_whole (l : List UInt8) (h : ¬ [121] <:+ l) : Lib.hasPrefix (thirdS l) l = true := by
  rw [Lib.hasPrefix, List.isPrefixOf_iff_prefix]
  rcases third_shape l with (h' | h') | ⟨hy, _⟩
  · rw [h']; exact List.prefix_append _ _
  · rw [h']; exact List.prefix_append _ _
  · exact absurd hy h
theorem third_len (l : List UInt8) (h : l ≠ []) : l.length + 1 ≤ (thirdS l).length ∧ (thirdS l).length ≤ l.length + 2 := by
  have : 0 < l.length := List.length_pos_iff.2 h
  rcases third_shape l with (h | h) | ⟨_, h⟩ <;> rw [h] <;> simp <;> omega

theorem suffix_two (p : List UInt8) (x y : UInt8) (e : List UInt8) (h : e.length ≤ 2) : Lib.hasSuffix (p ++ [x, y]) e = Lib.hasSuffix [x, y] e := by
  rw [Bool.eq_iff_iff, Lib.hasSuffix, Lib.hasSuffix, List.isSuffixOf_iff_suffix, List.isSuffixOf_iff_suffix]
  constructor
  · intro hs
    exact List.suffix_of_suffix_length_le hs (List.suffix_append _ _) (by simpa using h)
  · intro hs
    exact hs.trans (List.suffix_append _ _)
theorem fits_two (p : List UInt8) (x y : UInt8) (e : List UInt8 × Bool × Nat × List UInt8) (he : e ∈ endsS) : fitsS (p ++ [x, y]) e = fitsS [x, y] e := by
  have h2 : ∀ e ∈ endsS, e.1.length ≤ 2 ∧ (e.2.1 = true → e.1.length = 1) := by decide
  obtain ⟨h2, h1⟩ := h2 e he
  unfold fitsS
  rw [suffix_two p x y e.1 h2]
  cases hs : Lib.hasSuffix [x, y] e.1
  · rfl
  · cases hh : e.2.1
    · rfl
    · have hs' : Lib.hasSuffix (p ++ [x, y]) e.1 = true := by rw [suffix_two p x y e.1 h2]; exact hs
      have h1 := h1 hh
      have e1 : Lib.trimSuffix (p ++ [x, y]) e.1 = p ++ [x] := by
        rw [Lib.trimSuffix, if_pos hs', h1]
        simp [List.take_append]
        exact List.take_of_length_le (by simp)
      have e2 : Lib.trimSuffix [x, y] e.1 = [x] := by rw [Lib.trimSuffix, if_pos hs, h1]; rfl
      rw [e1, e2]
      simp [hardS]
theorem third_two (p : List UInt8) (x y : UInt8) : thirdS (p ++ [x, y]) = p ++ thirdS [x, y] := by
  have hf : endsS.find? (fitsS (p ++ [x, y])) = endsS.find? (fitsS [x, y]) := by
    have : ∀ es : List (List UInt8 × Bool × Nat × List UInt8), (∀ e ∈ es, e ∈ endsS) → es.find? (fitsS (p ++ [x, y])) = es.find? (fitsS [x, y]) := by
      intro es
      induction es with
      | nil => intro _; rfl
      | cons e es ih =>
        intro h
        rw [List.find?_cons, List.find?_cons, fits_two p x y e (h e (by simp)), ih (fun e he => h e (by simp [he]))]
    exact this endsS (fun e h => h)
  have h1 := third_some [x, y]
  obtain ⟨e, he, hfit, _⟩ := h1
  have hs : (endsS.find? (fitsS [x, y])).isSome = true := by rw [List.find?_isSome]; exact ⟨e, he, hfit⟩
  obtain ⟨e', he'⟩ := Option.isSome_iff_exists.1 hs
  have hm := List.mem_of_find?_eq_some he'
  have hc : ∀ e ∈ endsS, e.2.2.1 ≤ 1 := by decide
  have := hc e' hm
  simp only [thirdS, hf, he', putS]
  rw [List.take_append, List.append_assoc]
  congr 1
  · rw [List.take_of_length_le (by simp; omega)]
  · congr 2
    simp; omega
/-- Words that end alike, in their last two letters, get the same ending. -/
theorem third_alike (l m : List UInt8) (hl : 2 ≤ l.length) (hm : 2 ≤ m.length) (h : l.drop (l.length - 2) = m.drop (m.length - 2)) : (thirdS l).drop (l.length - 1) = (thirdS m).drop (m.length - 1) := by
  have cut : ∀ l : List UInt8, 2 ≤ l.length → ∃ p x y, l = p ++ [x, y] := by
    intro l hl
    have h2 : (l.drop (l.length - 2)).length = 2 := by simp; omega
    match hd : l.drop (l.length - 2), h2 with
    | [x, y], _ => exact ⟨l.take (l.length - 2), x, y, by rw [← hd, List.take_append_drop]⟩
  obtain ⟨p, x, y, rfl⟩ := cut l hl
  obtain ⟨q, u, v, rfl⟩ := cut m hm
  simp at h
  obtain ⟨rfl, rfl⟩ := h
  rw [third_two, third_two]
  have d : ∀ p : List UInt8, (p ++ thirdS [x, y]).drop ((p ++ [x, y]).length - 1) = (thirdS [x, y]).drop 1 := by
    intro p
    rw [List.drop_append, List.drop_of_length_le (by simp)]
    simp
  rw [d p, d q]
end Go.Proofs.YtakpkaklcjgdkaaGreatDoor
