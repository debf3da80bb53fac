/-
  Plain laws of the order of entries: a valid lexicon is sorted; where a new entry goes.
-/
import Derived.Test.YtakpkaklcjgdkaaGreatDoorRemove
namespace Go.Proofs.YtakpkaklcjgdkaaGreatDoor
open Go Go.RowKit

theorem bl_irrefl : ∀ a : List UInt8, Op.bytesLess a a = false
  | [] => rfl
  | c :: a => by simp [Op.bytesLess, bl_irrefl a]
theorem bl_trans : ∀ a b c : List UInt8, Op.bytesLess a b = true → Op.bytesLess b c = true → Op.bytesLess a c = true
  | _, [], _, h, _ => by simp [Op.bytesLess] at h
  | _, _ :: _, [], _, h => by simp [Op.bytesLess] at h
  | [], _ :: _, _ :: _, _, _ => rfl
  | x :: a, y :: b, z :: c, h1, h2 => by
    simp only [Op.bytesLess, Bool.or_eq_true, Bool.and_eq_true, decide_eq_true_eq, beq_iff_eq] at h1 h2 ⊢
    rcases h1 with h1 | ⟨rfl, h1⟩
    · rcases h2 with h2 | ⟨rfl, h2⟩
      · exact .inl (UInt8.lt_trans h1 h2)
      · exact .inl h1
    · rcases h2 with h2 | ⟨rfl, h2⟩
      · exact .inl h2
      · exact .inr ⟨rfl, bl_trans a b c h1 h2⟩
theorem bl_tri : ∀ a b : List UInt8, Op.bytesLess a b = false → Op.bytesLess b a = false → a = b
  | [], [], _, _ => rfl
  | [], _ :: _, h, _ => by simp [Op.bytesLess] at h
  | _ :: _, [], _, h => by simp [Op.bytesLess] at h
  | x :: a, y :: b, h1, h2 => by
    simp only [Op.bytesLess, Bool.or_eq_false_iff, Bool.and_eq_false_iff, decide_eq_false_iff_not, beq_eq_false_iff_ne] at h1 h2
    have hxy : x = y := by
      apply UInt8.toNat_inj.1
      have a1 := h1.1
      have a2 := h2.1
      rw [UInt8.lt_iff_toNat_lt] at a1 a2
      omega
    subst hxy
    rw [bl_tri a b (h1.2.resolve_left (fun h => h rfl)) (h2.2.resolve_left (fun h => h rfl))]
theorem cmpStr_cases (a b : List UInt8) : (Op.bytesLess a b = true ∧ cmpStr a b = -1) ∨ (a = b ∧ cmpStr a b = 0) ∨ (Op.bytesLess b a = true ∧ cmpStr a b = 1) := by
  unfold cmpStr
  cases h1 : Op.bytesLess a b
  · by_cases h : a = b
    · exact .inr (.inl ⟨h, by simp [h]⟩)
    · cases h2 : Op.bytesLess b a
      · exact absurd (bl_tri a b h1 h2) h
      · exact .inr (.inr ⟨rfl, by simp [h]⟩)
  · exact .inl ⟨rfl, by simp⟩
/-- An entry that stands ahead of another one. -/
def ltE (a b : Ent) : Prop := Op.bytesLess a.w b.w = true ∨ (a.w = b.w ∧ a.cat < b.cat)
theorem lt_iff (a b : Ent) : compareS a b < 0 ↔ ltE a b := by
  unfold compareS orInt ltE cmpInt
  rcases cmpStr_cases a.w b.w with ⟨h1, h2⟩ | ⟨h1, h2⟩ | ⟨h1, h2⟩
  · rw [h2]; simp [h1]
  · rw [h2, h1]
    simp only [bl_irrefl, if_true]
    by_cases h3 : a.cat < b.cat
    · simp [h3]
    · by_cases h4 : b.cat < a.cat <;> simp [h3, h4]
  · rw [h2]
    have h3 : Op.bytesLess a.w b.w = false := by
      cases h : Op.bytesLess a.w b.w
      · rfl
      · have := bl_trans _ _ _ h h1; rw [bl_irrefl] at this; cases this
    have h4 : a.w ≠ b.w := by intro e; rw [e, bl_irrefl] at h1; cases h1
    simp [h3, h4]
theorem eq_iff (a b : Ent) : compareS a b = 0 ↔ a.w = b.w ∧ a.cat = b.cat := by
  unfold compareS orInt cmpInt
  rcases cmpStr_cases a.w b.w with ⟨h1, h2⟩ | ⟨h1, h2⟩ | ⟨h1, h2⟩
  · rw [h2]
    have h4 : a.w ≠ b.w := by intro e; rw [e, bl_irrefl] at h1; cases h1
    simp [h4]
  · rw [h2]
    simp only [if_true, h1, true_and]
    by_cases h3 : a.cat < b.cat
    · simp [h3]; omega
    · by_cases h4 : b.cat < a.cat
      · simp [h3, h4]; omega
      · simp [h3, h4]; omega
  · rw [h2]
    have h4 : a.w ≠ b.w := by intro e; rw [e, bl_irrefl] at h1; cases h1
    simp [h4]
theorem ltE_trans {a b c : Ent} (h1 : ltE a b) (h2 : ltE b c) : ltE a c := by
  rcases h1 with h1 | ⟨h1, k1⟩
  · rcases h2 with h2 | ⟨h2, k2⟩
    · exact .inl (bl_trans _ _ _ h1 h2)
    · exact .inl (h2 ▸ h1)
  · rcases h2 with h2 | ⟨h2, k2⟩
    · exact .inl (h1 ▸ h2)
    · exact .inr ⟨h1.trans h2, by omega⟩
theorem ltE_irrefl (a : Ent) : ¬ ltE a a := by
  rintro (h | ⟨_, h⟩)
  · rw [bl_irrefl] at h; cases h
  · omega
theorem ltE_tri (a b : Ent) (h1 : ¬ ltE a b) (h2 : ¬ (a.w = b.w ∧ a.cat = b.cat)) : ltE b a := by
  rcases cmpStr_cases a.w b.w with ⟨k, _⟩ | ⟨k, _⟩ | ⟨k, _⟩
  · exact absurd (.inl k) h1
  · refine .inr ⟨k.symm, ?_⟩
    have : ¬ a.cat < b.cat := fun h => h1 (.inr ⟨k, h⟩)
    have : a.cat ≠ b.cat := fun h => h2 ⟨k, h⟩
    omega
  · exact .inl k

theorem thoseTo_nil {p : Ent → Bool} {l : List Ent} {k : Nat} (hk : k ≤ l.length) : thoseTo p l k = [] ↔ ∀ j (h : j < k), p (l[j]'(by omega)) = false := by
  unfold thoseTo
  rw [List.filter_eq_nil_iff]
  constructor
  · intro h j hj
    have := h j (by simpa using hj)
    rw [List.getElem?_eq_getElem (by omega)] at this
    simpa using this
  · intro h j hj
    have hj : j < k := by simpa using hj
    rw [List.getElem?_eq_getElem (by omega)]
    simp [h j hj]
theorem step_iff {l : List Ent} {i : Nat} (hi : i < l.length) : stepS l i = true ↔ rightS l[i] = true ∧ (∀ h : 0 < i, ltE (l[i - 1]'(by omega)) l[i]) ∧ ∀ j (h : j < i), clashS (l[j]'(by omega)) l[i] = false := by
  rw [stepS_eq hi]
  simp only [Bool.and_eq_true, decide_eq_true_eq, thoseTo_nil (Nat.le_of_lt hi)]
  constructor
  · rintro ⟨h1, h2, h3⟩
    refine ⟨h1, fun h0 => ?_, h3⟩
    have e : (i == 0) = false := by simp; omega
    rw [e, Bool.false_or, List.getElem?_eq_getElem (by omega)] at h2
    exact (lt_iff _ _).1 (by simpa using h2)
  · rintro ⟨h1, h2, h3⟩
    refine ⟨h1, ?_, h3⟩
    by_cases h0 : i = 0
    · simp [h0]
    · have := (lt_iff _ _).2 (h2 (by omega))
      rw [List.getElem?_eq_getElem (by omega)]
      simp [this]
/-- What 'Valid' says in other words. -/
theorem valid_iff (l : List Ent) : validS l = true ↔ l.length ≤ 100 ∧ (∀ e ∈ l, rightS e = true) ∧ l.Pairwise ltE ∧ l.Pairwise (fun a b => clashS a b = false) := by
  have hall : validS l = true ↔ l.length ≤ 100 ∧ ∀ i, i < l.length → stepS l i = true := by
    unfold validS
    rw [Bool.and_eq_true, decide_eq_true_eq, List.all_eq_true]
    constructor
    · rintro ⟨h1, h2⟩; exact ⟨h1, fun i hi => h2 i (by simpa using hi)⟩
    · rintro ⟨h1, h2⟩; exact ⟨h1, fun i hi => h2 i (by simpa using hi)⟩
  rw [hall]
  constructor
  · rintro ⟨h1, h2⟩
    have hs := fun i (hi : i < l.length) => (step_iff hi).1 (h2 i hi)
    refine ⟨h1, ?_, ?_, ?_⟩
    · intro e he
      obtain ⟨i, hi, rfl⟩ := List.getElem_of_mem he
      exact (hs i hi).1
    · rw [List.pairwise_iff_getElem]
      have : ∀ d i (hi : i + d + 1 < l.length), ltE (l[i]'(by omega)) (l[i + d + 1]'hi) := by
        intro d
        induction d with
        | zero => intro i hi; exact (hs (i + 1) hi).2.1 (by omega)
        | succ d ih =>
          intro i hi
          exact ltE_trans (ih i (by omega)) ((hs (i + (d + 1) + 1) hi).2.1 (by omega))
      intro i j hi hj hij
      have h := this (j - i - 1) i (by omega)
      have e : i + (j - i - 1) + 1 = j := by omega
      simp only [e] at h
      exact h
    · rw [List.pairwise_iff_getElem]
      intro i j hi hj hij
      exact (hs j hj).2.2 i hij
  · rintro ⟨h1, h2, h3, h4⟩
    rw [List.pairwise_iff_getElem] at h3 h4
    refine ⟨h1, fun i hi => (step_iff hi).2 ⟨h2 _ (List.getElem_mem hi), fun h0 => h3 (i - 1) i (by omega) hi (by omega), fun j hj => h4 j i (by omega) hi hj⟩⟩

theorem filt_down (q : Nat → Bool) : ∀ n, (∀ i j, i < j → j < n → q j = true → q i = true) → ∀ i, i < n → (i < ((List.range n).filter q).length ↔ q i = true)
  | 0, _, i, hi => by omega
  | n + 1, h, i, hi => by
    have ih := filt_down q n (fun i j hij hj => h i j hij (by omega))
    have hle := List.length_filter_le q (List.range n)
    rw [List.length_range] at hle
    rw [List.range_succ, List.filter_append, List.length_append]
    cases hq : q n
    · have e : ([n].filter q).length = 0 := by simp [hq]
      rw [e, Nat.add_zero]
      by_cases hin : i < n
      · exact ih i hin
      · obtain rfl : i = n := by omega
        rw [hq]
        constructor
        · intro h'; omega
        · intro h'; cases h'
    · have hall : (List.range n).filter q = List.range n := by
        rw [List.filter_eq_self]
        intro a ha
        exact h a n (by simpa using ha) (by omega) hq
      have e : ([n].filter q).length = 1 := by simp [hq]
      rw [hall, e, List.length_range]
      by_cases hin : i < n
      · have := h i n hin (by omega) hq
        simp [this]; omega
      · obtain rfl : i = n := by omega
        simp [hq]
/-- Where a new entry goes: ahead of it is what is less. -/
theorem place_iff {l : List Ent} (hl : l.Pairwise ltE) (e : Ent) {i : Nat} (hi : i < l.length) : i < (thoseS (fun o => decide (compareS o e < 0)) l).length ↔ ltE l[i] e := by
  rw [List.pairwise_iff_getElem] at hl
  have hd := filt_down (fun i => match l[i]? with | some o => decide (compareS o e < 0) | none => false) l.length (by
    intro a b hab hb hq
    have ha : a < l.length := by omega
    simp only [List.getElem?_eq_getElem hb] at hq
    simp only [List.getElem?_eq_getElem ha]
    have h1 := (lt_iff _ _).1 (of_decide_eq_true hq)
    exact decide_eq_true ((lt_iff _ _).2 (ltE_trans (hl a b ha hb hab) h1))) i hi
  simp only [List.getElem?_eq_getElem hi, decide_eq_true_eq] at hd
  exact hd.trans (lt_iff _ _)
/-- A lexicon with one more entry. -/
def putAt (l : List Ent) (k : Nat) (e : Ent) : List Ent := l.take k ++ ([e] ++ l.drop k)
theorem add_valid {l : List Ent} {e : Ent} {m : List Ent} (h : addS l e = (m, 0)) :
    validS l = true ∧ rightS e = true ∧ (∀ o ∈ l, compareS o e ≠ 0) ∧ (∀ o ∈ l, clashS o e = false) ∧ l.length < 100 ∧ m = putAt l (thoseS (fun o => decide (compareS o e < 0)) l).length e := by
  unfold addS at h
  split at h
  · rename_i hv
    rw [Bool.and_eq_true] at hv
    split at h
    · simp at h
    · rename_i h1
      split at h
      · simp at h
      · rename_i h2
        split at h
        · simp at h
        · rename_i h3
          simp only [Prod.mk.injEq, and_true] at h
          have g1 : thoseTo (fun o => compareS o e == 0) l l.length = [] := Classical.not_not.1 h1
          have g2 : thoseTo (fun o => clashS o e) l l.length = [] := Classical.not_not.1 h2
          rw [thoseTo_nil (Nat.le_refl _)] at g1 g2
          refine ⟨hv.1, hv.2, ?_, ?_, by omega, h.symm⟩
          · intro o ho
            obtain ⟨i, hi, rfl⟩ := List.getElem_of_mem ho
            simpa using g1 i hi
          · intro o ho
            obtain ⟨i, hi, rfl⟩ := List.getElem_of_mem ho
            exact g2 i hi
  · simp at h

theorem clash_comm (a b : Ent) : clashS a b = clashS b a := by
  unfold clashS
  rw [Bool.eq_iff_iff]
  simp only [Bool.and_eq_true, beq_iff_eq, bne_iff_ne, ne_eq]
  constructor
  · rintro ⟨h1, h2, h3, h4⟩; exact ⟨h1.symm, h3, h2, fun h => h4 h.symm⟩
  · rintro ⟨h1, h2, h3, h4⟩; exact ⟨h1.symm, h3, h2, fun h => h4 h.symm⟩
theorem take_lt {l : List Ent} (hl : l.Pairwise ltE) (e : Ent) : ∀ o ∈ l.take (thoseS (fun o => decide (compareS o e < 0)) l).length, ltE o e := by
  intro o ho
  obtain ⟨i, hi, rfl⟩ := List.getElem_of_mem ho
  have hi2 : i < (thoseS (fun o => decide (compareS o e < 0)) l).length ∧ i < l.length := by
    rw [List.length_take] at hi; omega
  rw [List.getElem_take]
  exact (place_iff hl e hi2.2).1 hi2.1
theorem drop_gt {l : List Ent} (hl : l.Pairwise ltE) (e : Ent) (hne : ∀ o ∈ l, compareS o e ≠ 0) : ∀ o ∈ l.drop (thoseS (fun o => decide (compareS o e < 0)) l).length, ltE e o := by
  intro o ho
  obtain ⟨i, hi, rfl⟩ := List.getElem_of_mem ho
  rw [List.length_drop] at hi
  rw [List.getElem_drop]
  have hlt : (thoseS (fun o => decide (compareS o e < 0)) l).length + i < l.length := by omega
  have h1 : ¬ ltE l[(thoseS (fun o => decide (compareS o e < 0)) l).length + i] e := fun h => by
    have := (place_iff hl e hlt).2 h
    omega
  exact ltE_tri _ _ h1 (fun h => hne _ (List.getElem_mem hlt) ((eq_iff _ _).2 h))
theorem mem_putAt {l : List Ent} {k : Nat} {e x : Ent} : x ∈ putAt l k e ↔ x = e ∨ x ∈ l := by
  unfold putAt
  have h : x ∈ l ↔ x ∈ l.take k ∨ x ∈ l.drop k := by rw [← List.mem_append, List.take_append_drop]
  rw [List.mem_append, List.mem_append, List.mem_singleton, h]
  constructor
  · rintro (h | h | h)
    · exact .inr (.inl h)
    · exact .inl h
    · exact .inr (.inr h)
  · rintro (h | h | h)
    · exact .inr (.inl h)
    · exact .inl h
    · exact .inr (.inr h)
theorem pair_putAt {R : Ent → Ent → Prop} {l : List Ent} {k : Nat} {e : Ent} (hl : l.Pairwise R) (h1 : ∀ o ∈ l.take k, R o e) (h2 : ∀ o ∈ l.drop k, R e o) : (putAt l k e).Pairwise R := by
  unfold putAt
  have hc : (l.take k ++ l.drop k).Pairwise R := by rw [List.take_append_drop]; exact hl
  rw [List.pairwise_append] at hc
  obtain ⟨a, b, c⟩ := hc
  rw [List.pairwise_append]
  refine ⟨a, ?_, ?_⟩
  · rw [List.singleton_append, List.pairwise_cons]; exact ⟨h2, b⟩
  · intro x hx y hy
    rw [List.singleton_append] at hy
    rcases List.mem_cons.1 hy with rfl | hy
    · exact h1 x hx
    · exact c x hx y hy
theorem putAt_len (l : List Ent) (k : Nat) (e : Ent) : (putAt l k e).length = l.length + 1 := by
  unfold putAt
  rw [List.length_append, List.length_append, List.length_take, List.length_drop, List.length_singleton]; omega
/-- What 'Add' makes is valid. -/
theorem add_valid' {l : List Ent} {e : Ent} {m : List Ent} (h : addS l e = (m, 0)) : validS m = true ∧ m.length = l.length + 1 := by
  obtain ⟨hv, hr, hne, hcl, hlen, rfl⟩ := add_valid h
  obtain ⟨_, v2, v3, v4⟩ := (valid_iff l).1 hv
  refine ⟨(valid_iff _).2 ⟨by rw [putAt_len]; omega, ?_, pair_putAt v3 (take_lt v3 e) (drop_gt v3 e hne), pair_putAt v4 ?_ ?_⟩, putAt_len _ _ _⟩
  · intro x hx
    rcases mem_putAt.1 hx with rfl | hx
    · exact hr
    · exact v2 x hx
  · intro o ho; exact hcl o (List.mem_of_mem_take ho)
  · intro o ho; rw [clash_comm]; exact hcl o (List.mem_of_mem_drop ho)

theorem thoseS_append (p : Ent → Bool) (a b : List Ent) : thoseS p (a ++ b) = thoseS p a ++ (thoseS p b).map (a.length + ·) := by
  unfold thoseS thoseTo
  rw [List.length_append, List.range_add, List.filter_append]
  congr 1
  · apply List.filter_congr
    intro i hi
    have hi : i < a.length := by simpa using hi
    rw [List.getElem?_append_left hi]
  · rw [List.filter_map]
    congr 1
    apply List.filter_congr
    intro i hi
    simp only [Function.comp]
    rw [List.getElem?_append_right (by omega), Nat.add_sub_cancel_left]
theorem thoseS_none {p : Ent → Bool} {l : List Ent} (h : ∀ o ∈ l, p o = false) : thoseS p l = [] := by
  unfold thoseS
  rw [thoseTo_nil (Nat.le_refl _)]
  intro j hj
  exact h _ (List.getElem_mem hj)
theorem thoseS_one {p : Ent → Bool} {e : Ent} : thoseS p [e] = if p e then [0] else [] := by
  unfold thoseS thoseTo
  cases h : p e <;> simp [h, List.range_succ]
theorem thoseS_putAt {p : Ent → Bool} {l : List Ent} {k : Nat} {e : Ent} (hk : k ≤ l.length) (h : ∀ o ∈ l, p o = false) (he : p e = true) : thoseS p (putAt l k e) = [k] := by
  unfold putAt
  rw [thoseS_append, thoseS_append, thoseS_none (fun o ho => h o (List.mem_of_mem_take ho)), thoseS_none (l := l.drop k) (fun o ho => h o (List.mem_of_mem_drop ho)), thoseS_one, he]
  simp; omega
theorem isIt_iff (e o : Ent) : isIt e.word e.cat o = true ↔ compareS o e = 0 := by
  unfold isIt
  rw [eq_iff, Bool.and_eq_true, beq_iff_eq, beq_iff_eq, ByteArray.toList_eq, ByteArray.toList_eq]
  rfl
/-- Removing what was added gives the lexicon that was there. -/
theorem remove_added {l : List Ent} {e : Ent} {m : List Ent} (h : addS l e = (m, 0)) : removeS m e.word e.cat = (l, 0) := by
  have hm := (add_valid' h).1
  obtain ⟨hv, hr, hne, hcl, hlen, rfl⟩ := add_valid h
  have hk : (thoseS (fun o => decide (compareS o e < 0)) l).length ≤ l.length := thoseTo_len _ _ _
  have h1 := thoseS_putAt (p := isIt e.word e.cat) (e := e) hk (fun o ho => by
    cases hc : isIt e.word e.cat o
    · rfl
    · exact absurd ((isIt_iff e o).1 hc) (hne o ho)) ((isIt_iff e e).2 ((eq_iff _ _).2 ⟨rfl, rfl⟩))
  unfold removeS
  rw [hm, if_pos rfl, h1]
  simp only [Prod.mk.injEq, and_true]
  generalize (thoseS (fun o => decide (compareS o e < 0)) l).length = k at hk
  unfold putAt
  have e1 : (l.take k).length = k := by rw [List.length_take]; omega
  have e2 : (l.take k ++ [e]).length = k + 1 := by rw [List.length_append, e1]; rfl
  have a1 : (l.take k ++ ([e] ++ l.drop k)).take k = l.take k := List.take_left' e1
  have a2 : (l.take k ++ ([e] ++ l.drop k)).drop (k + 1) = l.drop k := by rw [← List.append_assoc]; exact List.drop_left' e2
  rw [a1, a2, List.take_append_drop]
/-- It cannot be added twice. -/
theorem add_twice {l : List Ent} {e : Ent} {m : List Ent} (h : addS l e = (m, 0)) : addS m e = ([], 330) := by
  have hm := (add_valid' h).1
  obtain ⟨hv, hr, hne, hcl, hlen, rfl⟩ := add_valid h
  have hk : (thoseS (fun o => decide (compareS o e < 0)) l).length ≤ l.length := thoseTo_len _ _ _
  have h1 := thoseS_putAt (p := fun o => compareS o e == 0) (e := e) hk (fun o ho => by simpa using hne o ho) (by simpa using (eq_iff e e).2 ⟨rfl, rfl⟩)
  unfold addS
  rw [hm, hr, h1]
  simp

/-- What is found in a lexicon with one more entry. -/
theorem those_put {p : Ent → Bool} {l : List Ent} {k : Nat} {e : Ent} (hk : k ≤ l.length) :
    thoseS p (putAt l k e) = thoseS p (l.take k) ++ ((if p e then [k] else []) ++ (thoseS p (l.drop k)).map (k + 1 + ·)) := by
  unfold putAt
  have e1 : (l.take k).length = k := by rw [List.length_take]; omega
  rw [thoseS_append, thoseS_append, thoseS_one, e1, List.map_append, List.map_map]
  congr 1
  congr 1
  · cases p e <;> simp
  · apply List.map_congr_left
    intro x _
    simp; omega
theorem those_cut {p : Ent → Bool} {l : List Ent} {k : Nat} (hk : k ≤ l.length) : thoseS p l = thoseS p (l.take k) ++ (thoseS p (l.drop k)).map (k + ·) := by
  have e1 : (l.take k).length = k := by rw [List.length_take]; omega
  have h := thoseS_append p (l.take k) (l.drop k)
  rw [List.take_append_drop, e1] at h
  exact h
end Go.Proofs.YtakpkaklcjgdkaaGreatDoor
