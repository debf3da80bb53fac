/-
  A small parse is slim.
-/
import Derived.Test.YthmnffgjckpkiaaGreatDoorGEngH
import Derived.Test.YthmnffgjckpkiaaGreatDoorGEngJ
namespace Go.Proofs.YthmnffgjckpkiaaGreatDoor
open Go Go.RowKit

theorem slim_of : ∀ (t : Tr), sizeT t ≤ 1000 → Slim t := by
  intro t
  induction t using Tr.ind with
  | h r e w sub ih =>
    intro h
    simp only [sizeT] at h
    have hl := len_sizes sub sub.length (Nat.le_refl _)
    rw [List.take_length] at hl
    refine .mk _ _ _ _ (by omega) (fun t ht => ih t ht ?_)
    obtain ⟨k, hk, rfl⟩ := List.getElem_of_mem ht
    have h1 := sizesT_take sub k hk
    have h2 := sizesT_le sub (k + 1)
    omega
end Go.Proofs.YthmnffgjckpkiaaGreatDoor
