/-
  Plain laws of the reference's Valid.
-/
import Derived.Test.YthmnffgjckpkiaaGreatDoorSortP
namespace Go.Proofs.YthmnffgjckpkiaaGreatDoor
open Go Go.RowKit

theorem clash_comm (a b : Ent) : clashS a b = clashS b a := by
  unfold clashS
  rw [Bool.eq_iff_iff]
  simp only [Bool.and_eq_true, beq_iff_eq, bne_iff_ne, ne_eq]
  constructor
  · rintro ⟨h1, h2, h3, h4⟩; exact ⟨h1.symm, h3, h2, fun h => h4 h.symm⟩
  · rintro ⟨h1, h2, h3, h4⟩; exact ⟨h1.symm, h3, h2, fun h => h4 h.symm⟩
theorem clash_self (e : Ent) : clashS e e = false := by unfold clashS; simp
theorem clash_none {l : List Ent} (h : validS l = true) {i : Nat} (hi : i < l.length) : ∀ o ∈ l, clashS o l[i] = false := by
  obtain ⟨_, _, _, h4⟩ := (valid_iff l).1 h
  rw [List.pairwise_iff_getElem] at h4
  intro o ho
  obtain ⟨j, hj, rfl⟩ := List.getElem_of_mem ho
  rcases Nat.lt_trichotomy j i with hji | rfl | hji
  · exact h4 j i hj hi hji
  · exact clash_self _
  · rw [clash_comm]; exact h4 i j hi hj hji
/-- Where the reference's 'Valid' says no. -/
theorem rval_right {l : List Ent} {i : Nat} (hi : i < l.length) (h : rightS l[i] = false) : validS l = false := by
  cases hv : validS l
  · rfl
  · have := ((valid_iff l).1 hv).2.1 _ (List.getElem_mem hi); rw [h] at this; cases this
theorem rval_ahead {l : List Ent} {i : Nat} (hi : i < l.length) (h0 : 0 < i) (h : ¬ ltE (l[i - 1]'(by omega)) l[i]) : validS l = false := by
  cases hv : validS l
  · rfl
  · have h3 := ((valid_iff l).1 hv).2.2.1
    rw [List.pairwise_iff_getElem] at h3
    exact absurd (h3 (i - 1) i (by omega) hi (by omega)) h
theorem rval_clash {l : List Ent} {i : Nat} (hi : i < l.length) (h : l.any (fun o => clashS o l[i]) = true) : validS l = false := by
  cases hv : validS l
  · rfl
  · obtain ⟨o, ho, hc⟩ := List.any_eq_true.1 h
    have := clash_none hv hi o ho
    rw [this] at hc; cases hc
/-- What the reference's 'Valid' asks at the i-th entry. -/
def rstepB (l : List Ent) (i : Nat) : Prop := ∀ h : i < l.length, rightS l[i] = true ∧ (∀ _h0 : 0 < i, ltE (l[i - 1]'(by omega)) l[i]) ∧ l.any (fun o => clashS o l[i]) = false
theorem rval_all {l : List Ent} (h : ∀ i, i < l.length → rstepB l i) : validS l = decide (l.length ≤ 100) := by
  by_cases hl : l.length ≤ 100
  · rw [decide_eq_true hl]
    unfold validS
    rw [decide_eq_true hl, Bool.true_and, List.all_eq_true]
    intro i hi
    have hi : i < l.length := by simpa using hi
    obtain ⟨h1, h2, h3⟩ := h i hi hi
    refine (step_iff hi).2 ⟨h1, h2, fun j hj => ?_⟩
    rw [List.any_eq_false] at h3
    simpa using h3 _ (List.getElem_mem (show j < l.length by omega))
  · rw [decide_eq_false hl]
    simp [validS, hl]
/-- The order of entries as the reference asks for it. -/
def aheadS (a b : Ent) : Bool := Op.bytesLess a.w b.w || (a.w == b.w && decide (a.cat < b.cat))
theorem ahead_iff (a b : Ent) : aheadS a b = true ↔ ltE a b := by
  unfold aheadS ltE
  simp
end Go.Proofs.YthmnffgjckpkiaaGreatDoor
