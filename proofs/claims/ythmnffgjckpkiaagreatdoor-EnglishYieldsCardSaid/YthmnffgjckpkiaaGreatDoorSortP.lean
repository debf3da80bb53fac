/-
  Plain laws of the order of entries: a valid lexicon is sorted.
-/
import Derived.Test.YthmnffgjckpkiaaGreatDoorGLow
namespace Go.Proofs.YthmnffgjckpkiaaGreatDoor
open Go Go.RowKit

theorem bl_irrefl : ∀ a : List UInt8, Op.bytesLess a a = false
  | [] => rfl
  | c :: a => by simp [Op.bytesLess, bl_irrefl a]
theorem bl_trans : ∀ a b c : List UInt8, Op.bytesLess a b = true → Op.bytesLess b c = true → Op.bytesLess a c = true
  | _, [], _, h, _ => by simp [Op.bytesLess] at h
  | _, _ :: _, [], _, h => by simp [Op.bytesLess] at h
  | [], _ :: _, _ :: _, _, _ => rfl
  | x :: a, y :: b, z :: c, h1, h2 => by
    simp only [Op.bytesLess, Bool.or_eq_true, Bool.and_eq_true, decide_eq_true_eq, beq_iff_eq] at h1 h2 ⊢
    rcases h1 with h1 | ⟨rfl, h1⟩
    · rcases h2 with h2 | ⟨rfl, h2⟩
      · exact .inl (UInt8.lt_trans h1 h2)
      · exact .inl h1
    · rcases h2 with h2 | ⟨rfl, h2⟩
      · exact .inl h2
      · exact .inr ⟨rfl, bl_trans a b c h1 h2⟩
theorem bl_tri : ∀ a b : List UInt8, Op.bytesLess a b = false → Op.bytesLess b a = false → a = b
  | [], [], _, _ => rfl
  | [], _ :: _, h, _ => by simp [Op.bytesLess] at h
  | _ :: _, [], _, h => by simp [Op.bytesLess] at h
  | x :: a, y :: b, h1, h2 => by
    simp only [Op.bytesLess, Bool.or_eq_false_iff, Bool.and_eq_false_iff, decide_eq_false_iff_not, beq_eq_false_iff_ne] at h1 h2
    have hxy : x = y := by
      apply UInt8.toNat_inj.1
      have a1 := h1.1
      have a2 := h2.1
      rw [UInt8.lt_iff_toNat_lt] at a1 a2
      omega
    subst hxy
    rw [bl_tri a b (h1.2.resolve_left (fun h => h rfl)) (h2.2.resolve_left (fun h => h rfl))]
theorem cmpStr_cases (a b : List UInt8) : (Op.bytesLess a b = true ∧ cmpStr a b = -1) ∨ (a = b ∧ cmpStr a b = 0) ∨ (Op.bytesLess b a = true ∧ cmpStr a b = 1) := by
  unfold cmpStr
  cases h1 : Op.bytesLess a b
  · by_cases h : a = b
    · exact .inr (.inl ⟨h, by simp [h]⟩)
    · cases h2 : Op.bytesLess b a
      · exact absurd (bl_tri a b h1 h2) h
      · exact .inr (.inr ⟨rfl, by simp [h]⟩)
  · exact .inl ⟨rfl, by simp⟩
/-- An entry that stands ahead of another one. -/
def ltE (a b : Ent) : Prop := Op.bytesLess a.w b.w = true ∨ (a.w = b.w ∧ a.cat < b.cat)
theorem lt_iff (a b : Ent) : compareS a b < 0 ↔ ltE a b := by
  unfold compareS orInt ltE cmpInt
  rcases cmpStr_cases a.w b.w with ⟨h1, h2⟩ | ⟨h1, h2⟩ | ⟨h1, h2⟩
  · rw [h2]; simp [h1]
  · rw [h2, h1]
    simp only [bl_irrefl, if_true]
    by_cases h3 : a.cat < b.cat
    · simp [h3]
    · by_cases h4 : b.cat < a.cat <;> simp [h3, h4]
  · rw [h2]
    have h3 : Op.bytesLess a.w b.w = false := by
      cases h : Op.bytesLess a.w b.w
      · rfl
      · have := bl_trans _ _ _ h h1; rw [bl_irrefl] at this; cases this
    have h4 : a.w ≠ b.w := by intro e; rw [e, bl_irrefl] at h1; cases h1
    simp [h3, h4]
theorem eq_iff (a b : Ent) : compareS a b = 0 ↔ a.w = b.w ∧ a.cat = b.cat := by
  unfold compareS orInt cmpInt
  rcases cmpStr_cases a.w b.w with ⟨h1, h2⟩ | ⟨h1, h2⟩ | ⟨h1, h2⟩
  · rw [h2]
    have h4 : a.w ≠ b.w := by intro e; rw [e, bl_irrefl] at h1; cases h1
    simp [h4]
  · rw [h2]
    simp only [if_true, h1, true_and]
    by_cases h3 : a.cat < b.cat
    · simp [h3]; omega
    · by_cases h4 : b.cat < a.cat
      · simp [h3, h4]; omega
      · simp [h3, h4]; omega
  · rw [h2]
    have h4 : a.w ≠ b.w := by intro e; rw [e, bl_irrefl] at h1; cases h1
    simp [h4]
theorem ltE_trans {a b c : Ent} (h1 : ltE a b) (h2 : ltE b c) : ltE a c := by
  rcases h1 with h1 | ⟨h1, k1⟩
  · rcases h2 with h2 | ⟨h2, k2⟩
    · exact .inl (bl_trans _ _ _ h1 h2)
    · exact .inl (h2 ▸ h1)
  · rcases h2 with h2 | ⟨h2, k2⟩
    · exact .inl (h1 ▸ h2)
    · exact .inr ⟨h1.trans h2, by omega⟩
theorem ltE_irrefl (a : Ent) : ¬ ltE a a := by
  rintro (h | ⟨_, h⟩)
  · rw [bl_irrefl] at h; cases h
  · omega
theorem ltE_tri (a b : Ent) (h1 : ¬ ltE a b) (h2 : ¬ (a.w = b.w ∧ a.cat = b.cat)) : ltE b a := by
  rcases cmpStr_cases a.w b.w with ⟨k, _⟩ | ⟨k, _⟩ | ⟨k, _⟩
  · exact absurd (.inl k) h1
  · refine .inr ⟨k.symm, ?_⟩
    have : ¬ a.cat < b.cat := fun h => h1 (.inr ⟨k, h⟩)
    have : a.cat ≠ b.cat := fun h => h2 ⟨k, h⟩
    omega
  · exact .inl k

theorem thoseTo_nil {p : Ent → Bool} {l : List Ent} {k : Nat} (hk : k ≤ l.length) : thoseTo p l k = [] ↔ ∀ j (h : j < k), p (l[j]'(by omega)) = false := by
  unfold thoseTo
  rw [List.filter_eq_nil_iff]
  constructor
  · intro h j hj
    have := h j (by simpa using hj)
    rw [List.getElem?_eq_getElem (by omega)] at this
    simpa using this
  · intro h j hj
    have hj : j < k := by simpa using hj
    rw [List.getElem?_eq_getElem (by omega)]
    simp [h j hj]
theorem step_iff {l : List Ent} {i : Nat} (hi : i < l.length) : stepS l i = true ↔ rightS l[i] = true ∧ (∀ h : 0 < i, ltE (l[i - 1]'(by omega)) l[i]) ∧ ∀ j (h : j < i), clashS (l[j]'(by omega)) l[i] = false := by
  rw [stepS_eq hi]
  simp only [Bool.and_eq_true, decide_eq_true_eq, thoseTo_nil (Nat.le_of_lt hi)]
  constructor
  · rintro ⟨h1, h2, h3⟩
    refine ⟨h1, fun h0 => ?_, h3⟩
    have e : (i == 0) = false := by simp; omega
    rw [e, Bool.false_or, List.getElem?_eq_getElem (by omega)] at h2
    exact (lt_iff _ _).1 (by simpa using h2)
  · rintro ⟨h1, h2, h3⟩
    refine ⟨h1, ?_, h3⟩
    by_cases h0 : i = 0
    · simp [h0]
    · have := (lt_iff _ _).2 (h2 (by omega))
      rw [List.getElem?_eq_getElem (by omega)]
      simp [this]
/-- What 'Valid' says in other words. -/
theorem valid_iff (l : List Ent) : validS l = true ↔ l.length ≤ 100 ∧ (∀ e ∈ l, rightS e = true) ∧ l.Pairwise ltE ∧ l.Pairwise (fun a b => clashS a b = false) := by
  have hall : validS l = true ↔ l.length ≤ 100 ∧ ∀ i, i < l.length → stepS l i = true := by
    unfold validS
    rw [Bool.and_eq_true, decide_eq_true_eq, List.all_eq_true]
    constructor
    · rintro ⟨h1, h2⟩; exact ⟨h1, fun i hi => h2 i (by simpa using hi)⟩
    · rintro ⟨h1, h2⟩; exact ⟨h1, fun i hi => h2 i (by simpa using hi)⟩
  rw [hall]
  constructor
  · rintro ⟨h1, h2⟩
    have hs := fun i (hi : i < l.length) => (step_iff hi).1 (h2 i hi)
    refine ⟨h1, ?_, ?_, ?_⟩
    · intro e he
      obtain ⟨i, hi, rfl⟩ := List.getElem_of_mem he
      exact (hs i hi).1
    · rw [List.pairwise_iff_getElem]
      have : ∀ d i (hi : i + d + 1 < l.length), ltE (l[i]'(by omega)) (l[i + d + 1]'hi) := by
        intro d
        induction d with
        | zero => intro i hi; exact (hs (i + 1) hi).2.1 (by omega)
        | succ d ih =>
          intro i hi
          exact ltE_trans (ih i (by omega)) ((hs (i + (d + 1) + 1) hi).2.1 (by omega))
      intro i j hi hj hij
      have h := this (j - i - 1) i (by omega)
      have e : i + (j - i - 1) + 1 = j := by omega
      simp only [e] at h
      exact h
    · rw [List.pairwise_iff_getElem]
      intro i j hi hj hij
      exact (hs j hj).2.2 i hij
  · rintro ⟨h1, h2, h3, h4⟩
    rw [List.pairwise_iff_getElem] at h3 h4
    refine ⟨h1, fun i hi => (step_iff hi).2 ⟨h2 _ (List.getElem_mem hi), fun h0 => h3 (i - 1) i (by omega) hi (by omega), fun j hj => h4 j i (by omega) hi hj⟩⟩
end Go.Proofs.YthmnffgjckpkiaaGreatDoor
