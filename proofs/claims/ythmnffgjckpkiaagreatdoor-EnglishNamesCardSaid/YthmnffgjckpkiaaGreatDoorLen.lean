/-
  There are as many parses as the count tells.
-/
import Derived.Test.YthmnffgjckpkiaaGreatDoorRefS
namespace Go.Proofs.YthmnffgjckpkiaaGreatDoor
open Go Go.RowKit

theorem sat_mul {a b c d : Nat} (h1 : min most a = c) (h2 : min most b = d) : min most (a * b) = min most (c * d) := by
  by_cases ha : a ≤ most
  · by_cases hb : b ≤ most
    · have e1 : a = c := by omega
      have e2 : b = d := by omega
      rw [e1, e2]
    · have e1 : a = c := by omega
      have e2 : d = most := by omega
      rw [e1, e2]
      rcases Nat.eq_zero_or_pos c with h0 | h0
      · simp [h0]
      · have h3 : most ≤ c * b := Nat.le_trans (by omega) (Nat.le_mul_of_pos_left b h0)
        have h4 : most ≤ c * most := Nat.le_mul_of_pos_left most h0
        omega
  · have e1 : c = most := by omega
    rcases Nat.eq_zero_or_pos b with h0 | h0
    · have e2 : d = 0 := by omega
      rw [h0, e2]; simp
    · have e2 : 0 < d := by have := most_pos; omega
      have h3 : most ≤ a * b := Nat.le_trans (by omega) (Nat.le_mul_of_pos_right a h0)
      have h4 : most ≤ c * d := by rw [e1]; exact Nat.le_mul_of_pos_right most e2
      omega
theorem sum_min {α : Type} (F G : α → Nat) : ∀ l : List α, (∀ a ∈ l, min most (F a) = G a) → min most ((l.map F).sum) = min most ((l.map G).sum)
  | [], _ => rfl
  | a :: l, h => by
    have h1 := sum_min F G l (fun b hb => h b (by simp [hb]))
    have h2 := h a (by simp)
    simp only [List.map_cons, List.sum_cons]
    omega
theorem len_flatMap {α β : Type} (F : α → List β) : ∀ l : List α, (l.flatMap F).length = (l.map fun a => (F a).length).sum
  | [] => rfl
  | a :: l => by simp [List.flatMap_cons, len_flatMap F l]
/-- The parts of a step lie within its span, and are shorter. -/
def Within (f t : Nat) (s : StepS) : Prop := s.parts.length ≤ 2 ∧ ∀ p ∈ s.parts, p.2.2 - p.2.1 < t - f ∧ f ≤ p.2.1 ∧ p.2.2 ≤ t
theorem prog_within (g : Gr) {k f t : Nat} (h : f < t) : ∀ s ∈ progSteps g k f t, Within f t s := by
  intro s hs
  obtain ⟨r, hr, hs⟩ := List.mem_flatMap.1 hs
  split at hs
  · obtain ⟨o, ho, hs⟩ := List.mem_flatMap.1 hs
    have hrow := rowsS_ok g r hr
    have hat := hrow.at1 f t o (by omega) ho
    have hone := hrow.one f t o (by omega) ho
    unfold opnSteps at hs
    split at hs
    · split at hs
      · obtain rfl := List.mem_singleton.1 hs
        exact ⟨by simp, by simp⟩
      · cases hs
    · rename_i k1 hp
      obtain rfl := List.mem_singleton.1 hs
      have := hone (by rw [hp]; rfl)
      exact ⟨by simp, fun p hp => by obtain rfl := List.mem_singleton.1 hp; simp; omega⟩
    · obtain ⟨x, hx, rfl⟩ := List.mem_map.1 hs
      have := splitsS_mem hx
      refine ⟨by simp, fun p hp => ?_⟩
      simp only [List.mem_cons, List.not_mem_nil, or_false] at hp
      rcases hp with rfl | rfl
      · simp; omega
      · simp; omega
  · cases hs
theorem step_len (g : Gr) (s : StepS) (h2 : s.parts.length ≤ 2) (h : ∀ p ∈ s.parts, min most (treesS g p.1 p.2.1 p.2.2).length = cntS g p.1 p.2.1 p.2.2) : min most (stepTrees g s).length = prodS (cntS g) s.parts := by
  have hm := most_pos
  obtain ⟨rule, entry, word, parts⟩ := s
  simp only at h h2
  unfold stepTrees
  simp only
  split
  · rename_i h0; rw [h0]; rfl
  · rw [List.length_map]
    rcases parts with _ | ⟨p, _ | ⟨q, _ | ⟨r, rs⟩⟩⟩
    · simp [subsS, prodS]; omega
    · rw [subsS_one, prodS_one, List.length_map]
      exact h p (by simp)
    · rw [subsS_two, prodS_two, len_flatMap]
      simp only [List.length_map]
      rw [List.map_const', List.sum_replicate_nat]
      exact sat_mul (h p (by simp)) (h q (by simp))
    · simp at h2
/-- **As many as the count tells, most at most.** -/
theorem trees_len (g : Gr) : ∀ (d k f t : Nat), t - f ≤ d → min most (treesS g k f t).length = cntS g k f t := by
  intro d
  induction d with
  | zero => intro k f t h; rw [treesS_none g (cntS_zero g (by omega)), cntS_zero g (by omega)]; rfl
  | succ d ih =>
    intro k f t h
    by_cases hlt : f < t
    · by_cases h0 : cntS g k f t = 0
      · rw [treesS_none g h0, h0]; rfl
      · have ht : treesS g k f t = (progSteps g k f t).flatMap (stepTrees g) := by
          rw [treesS_eq, if_neg h0]
          unfold progSteps
          rw [List.flatMap_assoc]
          exact flatMap_congr' _ (fun r _ => row_trees g k f t r)
        rw [ht, len_flatMap, sum_min _ (fun s => prodS (cntS g) s.parts) _ (fun s hs => ?_), cntS_eq g hlt, rows_sum]
        · rfl
        · have hw := prog_within g hlt s hs
          exact step_len g s hw.1 (fun p hp => ih _ _ _ (by have := hw.2 p hp; omega))
    · rw [treesS_none g (cntS_zero g (by omega)), cntS_zero g (by omega)]; rfl
theorem trees_count (g : Gr) {k f t : Nat} (h : cntS g k f t < most) : (treesS g k f t).length = cntS g k f t := by
  have := trees_len g _ k f t (Nat.le_refl _)
  omega
end Go.Proofs.YthmnffgjckpkiaaGreatDoor
