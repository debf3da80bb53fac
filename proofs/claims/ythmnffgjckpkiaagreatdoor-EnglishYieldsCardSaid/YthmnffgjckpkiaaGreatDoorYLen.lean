/-
  A yield is short.
-/
import Derived.Test.YthmnffgjckpkiaaGreatDoorYield
namespace Go.Proofs.YthmnffgjckpkiaaGreatDoor
open Go Go.RowKit Go.Shelf

theorem yield_len {l : List Ent} (t : Tr) : (yieldS l t).1.length ≤ 1000 := by
  cases h : okAll l t
  · rw [yieldS_bad h]; simp
  · rw [yieldS_good h]
    have hoks : okS l t = true := by unfold okAll at h; simp only [Bool.and_eq_true] at h; exact h.2
    have hsz : sizeT t ≤ 200 := by unfold okAll at h; simp only [Bool.and_eq_true, decide_eq_true_eq] at h; exact h.1.2
    have := words_le t hoks false
    simp only [yieldW, List.length_append]
    split <;> simp <;> omega
end Go.Proofs.YthmnffgjckpkiaaGreatDoor
