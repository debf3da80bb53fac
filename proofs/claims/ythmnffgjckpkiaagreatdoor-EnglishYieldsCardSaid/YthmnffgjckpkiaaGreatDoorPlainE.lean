/-
  Plain laws of third forms and of right parses (the few that the walks want).
-/
import Derived.Test.YthmnffgjckpkiaaGreatDoorGLow
import Derived.Test.YthmnffgjckpkiaaGreatDoorGEngB
namespace Go.Proofs.YthmnffgjckpkiaaGreatDoor
open Go Go.RowKit

theorem third_some (l : List UInt8) : ∃ e ∈ endsS, fitsS l e = true ∧ thirdS l = putS l e := by
  have h : (endsS.find? (fitsS l)).isSome = true := by
    rw [List.find?_isSome]
    exact ⟨([], false, 0, [115]), by decide, by simp [fitsS, Lib.hasSuffix]⟩
  obtain ⟨e, he⟩ := Option.isSome_iff_exists.1 h
  exact ⟨e, List.mem_of_find?_eq_some he, List.find?_some he, by simp [thirdS, he]⟩
theorem suffix_two (p : List UInt8) (x y : UInt8) (e : List UInt8) (h : e.length ≤ 2) : Lib.hasSuffix (p ++ [x, y]) e = Lib.hasSuffix [x, y] e := by
  rw [Bool.eq_iff_iff, Lib.hasSuffix, Lib.hasSuffix, List.isSuffixOf_iff_suffix, List.isSuffixOf_iff_suffix]
  constructor
  · intro hs
    exact List.suffix_of_suffix_length_le hs (List.suffix_append _ _) (by simpa using h)
  · intro hs
    exact hs.trans (List.suffix_append _ _)
theorem fits_two (p : List UInt8) (x y : UInt8) (e : List UInt8 × Bool × Nat × List UInt8) (he : e ∈ endsS) : fitsS (p ++ [x, y]) e = fitsS [x, y] e := by
  have h2 : ∀ e ∈ endsS, e.1.length ≤ 2 ∧ (e.2.1 = true → e.1.length = 1) := by decide
  obtain ⟨h2, h1⟩ := h2 e he
  unfold fitsS
  rw [suffix_two p x y e.1 h2]
  cases hs : Lib.hasSuffix [x, y] e.1
  · rfl
  · cases hh : e.2.1
    · rfl
    · have hs' : Lib.hasSuffix (p ++ [x, y]) e.1 = true := by rw [suffix_two p x y e.1 h2]; exact hs
      have h1 := h1 hh
      have e1 : Lib.trimSuffix (p ++ [x, y]) e.1 = p ++ [x] := by
        rw [Lib.trimSuffix, if_pos hs', h1]
        simp [List.take_append]
        exact List.take_of_length_le (by simp)
      have e2 : Lib.trimSuffix [x, y] e.1 = [x] := by rw [Lib.trimSuffix, if_pos hs, h1]; rfl
      rw [e1, e2]
      simp [hardS]
theorem third_two (p : List UInt8) (x y : UInt8) : thirdS (p ++ [x, y]) = p ++ thirdS [x, y] := by
  have hf : endsS.find? (fitsS (p ++ [x, y])) = endsS.find? (fitsS [x, y]) := by
    have : ∀ es : List (List UInt8 × Bool × Nat × List UInt8), (∀ e ∈ es, e ∈ endsS) → es.find? (fitsS (p ++ [x, y])) = es.find? (fitsS [x, y]) := by
      intro es
      induction es with
      | nil => intro _; rfl
      | cons e es ih =>
        intro h
        rw [List.find?_cons, List.find?_cons, fits_two p x y e (h e (by simp)), ih (fun e he => h e (by simp [he]))]
    exact this endsS (fun e h => h)
  have h1 := third_some [x, y]
  obtain ⟨e, he, hfit, _⟩ := h1
  have hs : (endsS.find? (fitsS [x, y])).isSome = true := by rw [List.find?_isSome]; exact ⟨e, he, hfit⟩
  obtain ⟨e', he'⟩ := Option.isSome_iff_exists.1 hs
  have hm := List.mem_of_find?_eq_some he'
  have hc : ∀ e ∈ endsS, e.2.2.1 ≤ 1 := by decide
  have := hc e' hm
  simp only [thirdS, hf, he', putS]
  rw [List.take_append, List.append_assoc]
  congr 1
  · rw [List.take_of_length_le (by simp; omega)]
  · congr 2
    simp; omega
theorem ownW_at {l : List Ent} {e : Nat} (h : e < l.length) : ownW l (e : Int) = l[e].w := by
  unfold ownW
  rw [Int.toNat_natCast, List.getElem?_eq_getElem h]
theorem catAt_at {l : List Ent} {e : Nat} (h : e < l.length) : catAt l e = l[e].cat := by
  unfold catAt; rw [List.getElem?_eq_getElem h]
theorem valid_right {l : List Ent} (hv : validS l = true) {e : Nat} (h : e < l.length) : rightS l[e] = true := by
  unfold validS at hv
  rw [Bool.and_eq_true] at hv
  have := List.all_eq_true.1 hv.2 e (by simpa using h)
  rw [stepS_eq h, Bool.and_eq_true] at this
  exact this.1
theorem right_verb {x : Ent} (h : rightS x = true) (hc : x.cat = 4 ∨ x.cat = 5) : plainS x.w = true := by
  unfold rightS at h
  rw [if_neg (by omega), if_pos (by omega), Bool.and_eq_true] at h
  exact h.1
theorem wordsF_0 (l : List Ent) (r e : Int) (w : List UInt8) (b : Bool) : wordsF l (.node r e w []) b = stepW r w (ownW l e) 0 [] [] b := by simp [wordsF, firstRule, firstF, secondF]
theorem wordsF_1 (l : List Ent) (r e : Int) (w : List UInt8) (y : Tr) (b : Bool) : wordsF l (.node r e w [y]) b = stepW r w (ownW l e) y.rule (wordsF l y (r == 16)) [] b := by simp [wordsF, firstRule, firstF, secondF]
theorem wordsF_2 (l : List Ent) (r e : Int) (w : List UInt8) (y z : Tr) (b : Bool) : wordsF l (.node r e w [y, z]) b = stepW r w (ownW l e) y.rule (wordsF l y (r == 16)) (wordsF l z false) b := by simp [wordsF, firstRule, firstF, secondF]
theorem size_0 (r e : Int) (w : List UInt8) : sizeT (.node r e w []) = 1 := by simp [sizeT, sizesT]
theorem size_1 (r e : Int) (w : List UInt8) (y : Tr) : sizeT (.node r e w [y]) = 1 + sizeT y := by simp [sizeT, sizesT]
theorem size_2 (r e : Int) (w : List UInt8) (y z : Tr) : sizeT (.node r e w [y, z]) = 1 + sizeT y + sizeT z := by simp [sizeT, sizesT]; omega
theorem kind_rules (r : Int) : (kindS r = 1 → 1 ≤ r ∧ r ≤ 5) ∧ (kindS r = 2 → 6 ≤ r ∧ r ≤ 7) ∧ (kindS r = 3 → 8 ≤ r ∧ r ≤ 11) ∧ (kindS r = 4 → 12 ≤ r ∧ r ≤ 18) ∧ (kindS r = 5 → r = 19) ∧ (kindS r ≠ 0 → 1 ≤ r ∧ r ≤ 19) ∧ kindS r ≤ 5 := by
  by_cases hr : 1 ≤ r ∧ r ≤ 19
  · rcases (show r = 1 ∨ r = 2 ∨ r = 3 ∨ r = 4 ∨ r = 5 ∨ r = 6 ∨ r = 7 ∨ r = 8 ∨ r = 9 ∨ r = 10 ∨ r = 11 ∨ r = 12 ∨ r = 13 ∨ r = 14 ∨ r = 15 ∨ r = 16 ∨ r = 17 ∨ r = 18 ∨ r = 19 by omega) with rfl | rfl | rfl | rfl | rfl | rfl | rfl | rfl | rfl | rfl | rfl | rfl | rfl | rfl | rfl | rfl | rfl | rfl | rfl <;> decide
  · have h0 : kindS r = 0 := by
      unfold kindS shapeS
      repeat rw [if_neg (by omega)]
    rw [h0]
    refine ⟨fun h => by omega, fun h => by omega, fun h => by omega, fun h => by omega, fun h => by omega, fun h => absurd rfl h, by omega⟩
theorem okS_parts {l : List Ent} {r e : Int} {w : List UInt8} {sub : List Tr} (h : okS l (.node r e w sub) = true) :
    1 ≤ r ∧ r ≤ 19 ∧ sub.length = (shapeS r).parts.length ∧ entryOk l (shapeS r).cat e = true ∧ wordOk (shapeS r).words w = true ∧ okSubs l sub (shapeS r).parts = true ∧ (r = 16 → 12 ≤ firstRule sub ∧ firstRule sub ≤ 15) := by
  unfold okS at h
  simp only [Bool.and_eq_true, bne_iff_ne, ne_eq, beq_iff_eq, Bool.or_eq_true, decide_eq_true_eq] at h
  obtain ⟨⟨⟨⟨⟨h1, h2⟩, h3⟩, h4⟩, h5⟩, h6⟩ := h
  have h7 := (kind_rules r).2.2.2.2.2.1 h1
  exact ⟨h7.1, h7.2, h2, h3, h4, h5, fun h => h6.resolve_left (fun n => n h)⟩
theorem entry_inv {l : List Ent} {c e : Int} (h : entryOk l c e = true) (h0 : c ≠ 0) : ∃ n : Nat, e = n ∧ n < l.length ∧ catAt l n = c := by
  unfold entryOk at h
  rw [if_neg h0] at h
  simp only [Bool.and_eq_true, decide_eq_true_eq, beq_iff_eq] at h
  exact ⟨e.toNat, by omega, by omega, h.2⟩
theorem entry_none {l : List Ent} {e : Int} (h : entryOk l 0 e = true) : e = ((0 : Nat) : Int) := by
  unfold entryOk at h
  simpa using h
theorem word_none {w : List UInt8} (h : wordOk [] w = true) : w = [] := by
  unfold wordOk at h
  simpa using h
theorem len_0 {sub : List Tr} (h : sub.length = 0) : sub = [] := List.length_eq_zero_iff.1 h
theorem len_1 {sub : List Tr} (h : sub.length = 1) : ∃ y, sub = [y] := List.length_eq_one_iff.1 h
theorem len_2 {sub : List Tr} (h : sub.length = 2) : ∃ y z, sub = [y, z] := by
  rcases sub with _ | ⟨y, _ | ⟨z, _ | ⟨u, us⟩⟩⟩
  · simp at h
  · simp at h
  · exact ⟨y, z, rfl⟩
  · simp at h
theorem inv_1 {l : List Ent} {y : Tr} {k : Nat} (h : okSubs l [y] [k] = true) : kindS y.rule = k ∧ okS l y = true := by simpa [okSubs] using h
theorem inv_2 {l : List Ent} {y z : Tr} {k k' : Nat} (h : okSubs l [y, z] [k, k'] = true) : (kindS y.rule = k ∧ okS l y = true) ∧ kindS z.rule = k' ∧ okS l z = true := by simpa [okSubs] using h
/-- What a right parse looks like. -/
theorem ok_shape {l : List Ent} {r e : Int} {w : List UInt8} {sub : List Tr} (h : okS l (.node r e w sub) = true) :
    (((r = 1 ∨ r = 2 ∨ r = 3 ∨ r = 4) ∧ e = ((0 : Nat) : Int) ∧ w = [] ∧ ∃ y z, sub = [y, z] ∧ (kindS y.rule = 1 ∧ okS l y = true) ∧ kindS z.rule = 1 ∧ okS l z = true) ∨
    (r = 5 ∧ e = ((0 : Nat) : Int) ∧ w = [] ∧ ∃ y z, sub = [y, z] ∧ (kindS y.rule = 2 ∧ okS l y = true) ∧ kindS z.rule = 4 ∧ okS l z = true) ∨
    (∃ n : Nat, e = n ∧ n < l.length ∧ w = [] ∧ sub = [] ∧ ((r = 6 ∧ catAt l n = 3) ∨ (r = 8 ∧ catAt l n = 1) ∨ (r = 12 ∧ catAt l n = 4) ∨ (r = 14 ∧ catAt l n = 2) ∨ (r = 19 ∧ catAt l n = 5))) ∨
    (r = 7 ∧ e = ((0 : Nat) : Int) ∧ wordOk [wEvery, wEach, wSome, wNo, wA] w = true ∧ ∃ y, sub = [y] ∧ kindS y.rule = 3 ∧ okS l y = true) ∨
    (∃ n : Nat, e = n ∧ n < l.length ∧ w = [] ∧ ∃ y, sub = [y] ∧ okS l y = true ∧ ((r = 9 ∧ catAt l n = 2 ∧ kindS y.rule = 3) ∨ (r = 13 ∧ catAt l n = 5 ∧ kindS y.rule = 2)))) ∨
    ((∃ n : Nat, e = n ∧ n < l.length ∧ catAt l n = 1 ∧ wordOk [wWho, wThat] w = true ∧ ((r = 10 ∧ ∃ y, sub = [y] ∧ kindS y.rule = 4 ∧ okS l y = true) ∨ (r = 11 ∧ ∃ y z, sub = [y, z] ∧ (kindS y.rule = 2 ∧ okS l y = true) ∧ kindS z.rule = 5 ∧ okS l z = true))) ∨
    (r = 15 ∧ e = ((0 : Nat) : Int) ∧ w = [] ∧ ∃ y, sub = [y] ∧ kindS y.rule = 3 ∧ okS l y = true) ∨
    (r = 16 ∧ e = ((0 : Nat) : Int) ∧ w = [] ∧ ∃ y, sub = [y] ∧ kindS y.rule = 4 ∧ okS l y = true ∧ 12 ≤ y.rule ∧ y.rule ≤ 15) ∨
    ((r = 17 ∨ r = 18) ∧ e = ((0 : Nat) : Int) ∧ w = [] ∧ ∃ y z, sub = [y, z] ∧ (kindS y.rule = 4 ∧ okS l y = true) ∧ kindS z.rule = 4 ∧ okS l z = true)) := by
  obtain ⟨h1, h19, hl, he, hw, hs, h16⟩ := okS_parts h
  rcases (show r = 1 ∨ r = 2 ∨ r = 3 ∨ r = 4 ∨ r = 5 ∨ r = 6 ∨ r = 7 ∨ r = 8 ∨ r = 9 ∨ r = 10 ∨ r = 11 ∨ r = 12 ∨ r = 13 ∨ r = 14 ∨ r = 15 ∨ r = 16 ∨ r = 17 ∨ r = 18 ∨ r = 19 by omega) with rfl | rfl | rfl | rfl | rfl | rfl | rfl | rfl | rfl | rfl | rfl | rfl | rfl | rfl | rfl | rfl | rfl | rfl | rfl
  · obtain ⟨y, z, rfl⟩ := len_2 hl
    exact .inl (.inl ⟨by omega, entry_none he, word_none hw, y, z, rfl, inv_2 hs⟩)
  · obtain ⟨y, z, rfl⟩ := len_2 hl
    exact .inl (.inl ⟨by omega, entry_none he, word_none hw, y, z, rfl, inv_2 hs⟩)
  · obtain ⟨y, z, rfl⟩ := len_2 hl
    exact .inl (.inl ⟨by omega, entry_none he, word_none hw, y, z, rfl, inv_2 hs⟩)
  · obtain ⟨y, z, rfl⟩ := len_2 hl
    exact .inl (.inl ⟨by omega, entry_none he, word_none hw, y, z, rfl, inv_2 hs⟩)
  · obtain ⟨y, z, rfl⟩ := len_2 hl
    exact .inl (.inr (.inl ⟨rfl, entry_none he, word_none hw, y, z, rfl, inv_2 hs⟩))
  · obtain rfl := len_0 hl
    obtain ⟨n, rfl, hn, hc⟩ := entry_inv he (by decide)
    exact .inl (.inr (.inr (.inl ⟨n, rfl, hn, word_none hw, rfl, .inl ⟨rfl, hc⟩⟩)))
  · obtain ⟨y, rfl⟩ := len_1 hl
    exact .inl (.inr (.inr (.inr (.inl ⟨rfl, entry_none he, hw, y, rfl, inv_1 hs⟩))))
  · obtain rfl := len_0 hl
    obtain ⟨n, rfl, hn, hc⟩ := entry_inv he (by decide)
    exact .inl (.inr (.inr (.inl ⟨n, rfl, hn, word_none hw, rfl, .inr (.inl ⟨rfl, hc⟩)⟩)))
  · obtain ⟨y, rfl⟩ := len_1 hl
    obtain ⟨n, rfl, hn, hc⟩ := entry_inv he (by decide)
    exact .inl (.inr (.inr (.inr (.inr ⟨n, rfl, hn, word_none hw, y, rfl, (inv_1 hs).2, .inl ⟨rfl, hc, (inv_1 hs).1⟩⟩))))
  · obtain ⟨y, rfl⟩ := len_1 hl
    obtain ⟨n, rfl, hn, hc⟩ := entry_inv he (by decide)
    exact .inr (.inl ⟨n, rfl, hn, hc, hw, .inl ⟨rfl, y, rfl, inv_1 hs⟩⟩)
  · obtain ⟨y, z, rfl⟩ := len_2 hl
    obtain ⟨n, rfl, hn, hc⟩ := entry_inv he (by decide)
    exact .inr (.inl ⟨n, rfl, hn, hc, hw, .inr ⟨rfl, y, z, rfl, inv_2 hs⟩⟩)
  · obtain rfl := len_0 hl
    obtain ⟨n, rfl, hn, hc⟩ := entry_inv he (by decide)
    exact .inl (.inr (.inr (.inl ⟨n, rfl, hn, word_none hw, rfl, .inr (.inr (.inl ⟨rfl, hc⟩))⟩)))
  · obtain ⟨y, rfl⟩ := len_1 hl
    obtain ⟨n, rfl, hn, hc⟩ := entry_inv he (by decide)
    exact .inl (.inr (.inr (.inr (.inr ⟨n, rfl, hn, word_none hw, y, rfl, (inv_1 hs).2, .inr ⟨rfl, hc, (inv_1 hs).1⟩⟩))))
  · obtain rfl := len_0 hl
    obtain ⟨n, rfl, hn, hc⟩ := entry_inv he (by decide)
    exact .inl (.inr (.inr (.inl ⟨n, rfl, hn, word_none hw, rfl, .inr (.inr (.inr (.inl ⟨rfl, hc⟩)))⟩)))
  · obtain ⟨y, rfl⟩ := len_1 hl
    exact .inr (.inr (.inl ⟨rfl, entry_none he, word_none hw, y, rfl, inv_1 hs⟩))
  · obtain ⟨y, rfl⟩ := len_1 hl
    exact .inr (.inr (.inr (.inl ⟨rfl, entry_none he, word_none hw, y, rfl, (inv_1 hs).1, (inv_1 hs).2, h16 rfl⟩)))
  · obtain ⟨y, z, rfl⟩ := len_2 hl
    exact .inr (.inr (.inr (.inr ⟨by omega, entry_none he, word_none hw, y, z, rfl, inv_2 hs⟩)))
  · obtain ⟨y, z, rfl⟩ := len_2 hl
    exact .inr (.inr (.inr (.inr ⟨by omega, entry_none he, word_none hw, y, z, rfl, inv_2 hs⟩)))
  · obtain rfl := len_0 hl
    obtain ⟨n, rfl, hn, hc⟩ := entry_inv he (by decide)
    exact .inl (.inr (.inr (.inl ⟨n, rfl, hn, word_none hw, rfl, .inr (.inr (.inr (.inr ⟨rfl, hc⟩)))⟩)))
/-- A right parse has a word. -/
theorem words_pos {l : List Ent} : ∀ (x : Tr), okS l x = true → ∀ b, wordsF l x b ≠ [] := by
  intro x
  induction x using Tr.ind with
  | h r e w sub ih =>
    intro h b
    rcases ok_shape h with (⟨hr, _, _, y, z, rfl, hy, hz⟩ | ⟨rfl, _, _, y, z, rfl, hy, hz⟩ | ⟨n, _, _, _, rfl, hr⟩ | ⟨rfl, _, _, y, rfl, hy⟩ | ⟨n, _, _, _, y, rfl, hy, hr⟩) | (⟨n, _, _, _, _, ⟨rfl, y, rfl, hy⟩ | ⟨rfl, y, z, rfl, hy, hz⟩⟩ | ⟨rfl, _, _, y, rfl, hy⟩ | ⟨rfl, _, _, y, rfl, hy⟩ | ⟨hr, _, _, y, z, rfl, hy, hz⟩)
    · rw [wordsF_2]
      rcases hr with rfl | rfl | rfl | rfl <;> simp [stepW]
    · rw [wordsF_2]
      have := ih y (by simp) hy.2 false
      simp [stepW, this]
    · rw [wordsF_0]
      rcases hr with ⟨rfl, _⟩ | ⟨rfl, _⟩ | ⟨rfl, _⟩ | ⟨rfl, _⟩ | ⟨rfl, _⟩ <;> simp [stepW]
    · rw [wordsF_1]; simp [stepW]
    · rw [wordsF_1]
      rcases hr with ⟨rfl, _⟩ | ⟨rfl, _⟩ <;> simp [stepW]
    · rw [wordsF_1]; simp [stepW]
    · rw [wordsF_2]; simp [stepW]
    · rw [wordsF_1]; simp [stepW]
    · rw [wordsF_1]
      simp [stepW]
      split <;> simp
    · rw [wordsF_2]
      rcases hr with rfl | rfl <;> simp [stepW]
end Go.Proofs.YthmnffgjckpkiaaGreatDoor
