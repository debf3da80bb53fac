/-
  The contract of 'Small' of the laws of chapter 33, for the laws of chapter 34.
-/
import Derived.Test.YthmnffgjckpkiaaGreatDoorGEngH
namespace Go.Proofs.YthmnffgjckpkiaaGreatDoor
open Go Go.RowKit

/-- Whether an entry's texts are short. -/
def entSmall (e : Ent) : Bool := decide (e.word.size ≤ 40) && decide (e.sym.size ≤ 40)
/-- Whether a lexicon is examined. -/
def smallL (l : List Ent) : Bool := decide (l.length ≤ 103) && l.all entSmall
theorem small_no {l : List Ent} {k : Nat} (h : k < l.length) (hk : k = 103 ∨ entSmall l[k] = false) : smallL l = false := by
  rcases hk with rfl | hk
  · simp [smallL]; intro h'; omega
  · have : l.all entSmall = false := by rw [List.all_eq_false]; exact ⟨l[k], List.getElem_mem h, by simp [hk]⟩
    simp [smallL, this]

set_option maxRecDepth 100000 in
set_option maxHeartbeats 1000000 in
theorem Small_any (w : World) (v : Value) (l : List Ent) (hl : EntSlice w v l) :
    Calls Tryz.prog 13 #[v] w fun r w' => r = .returned (.bool (smallL l)) ∧ w = w' := by
  obtain ⟨⟨a, cap, rfl, hcap, hcm, hform⟩, hok⟩ := hl
  have HFo := Lib.hid hform
  clear hform hok
  have hlm : l.length ≤ 9223372036854775807 := by unfold maxLen at hcm; omega
  go_enter Tryz.func13, Tryz.ntmps13
  go_wp2
  go_loop [3] (fun i => ∃ k : Nat, k ≤ l.length ∧ i = .int .i64 k ∧ k ≤ 103 ∧ (l.take k).all entSmall = true) (fun i => l.length - (intOf i).toNat)
  case atStart => exact ⟨0, Nat.zero_le _, rfl, by omega, rfl⟩
  case round =>
    obtain ⟨k, hk, rfl, h103, hall⟩ := hrel
    have HA := Lib.hid hall
    clear hall
    by_cases hlt : k < l.length
    · rcases HFo.out with h0 | ⟨b, off, rfl, hbl, hc⟩
      · rw [h0] at hlt; exact absurd hlt (by simp)
      · obtain ⟨c0, _, c2⟩ := hc k hlt
        obtain ⟨e, he⟩ : ∃ e, e = l[k] := ⟨_, rfl⟩
        rw [← he] at c0 c2
        have HE := Lib.hid he
        clear he hc hbl
        cases h3 : ((k : Int) == 103)
        · have h3' : k ≠ 103 := by simp at h3; omega
          have H3 := Lib.hid h3'
          clear h3'
          by_cases hw : e.word.size ≤ 40
          · by_cases hy : e.sym.size ≤ 40
            · go_wp2
              go_round
              case rel => exact ⟨k + 1, by omega, by go_num, by have := H3.out; omega, by rw [List.take_succ_eq_append_getElem hlt, List.all_append, HA.out, ← HE.out]; simp [entSmall, hw, hy]⟩
              case measure => simp [intOf]; omega
            · go_wp2
              go_ret
              exact ⟨ret_bool (small_no hlt (.inr (by rw [← HE.out]; simp [entSmall]; omega))).symm, rfl⟩
          · go_wp2
            go_ret
            exact ⟨ret_bool (small_no hlt (.inr (by rw [← HE.out]; simp [entSmall]; omega))).symm, rfl⟩
        · have h3' : k = 103 := by simp at h3; omega
          have H3 := Lib.hid h3'
          clear h3'
          go_wp2
          go_ret
          exact ⟨ret_bool (small_no hlt (.inl H3.out)).symm, rfl⟩
    · obtain rfl : k = l.length := by omega
      go_wp2
      go_ret
      exact ⟨ret_bool (by have := HA.out; rw [List.take_length] at this; simp [smallL, h103, this]), rfl⟩
end Go.Proofs.YthmnffgjckpkiaaGreatDoor
