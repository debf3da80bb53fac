/-
  Contracts of 'Small' of the laws, and of 'Valid' and 'Look' at every lexicon.
-/
import Derived.Test.YtakpkaklcjgdkaaGreatDoorAny
namespace Go.Proofs.YtakpkaklcjgdkaaGreatDoor
open Go Go.RowKit

theorem Valid_any (W0 w : World) (ht : Tabs W0 w) (v : Value) (l : List Ent) (hl : EntSlice w v l) :
    Calls Tryz.prog 26 #[v] w fun r w' => r = .returned (.bool (validS l)) ∧ Below w.heap.size w w' := by
  by_cases h100 : l.length ≤ 100
  · exact Valid_short W0 w ht v l hl h100
  · obtain ⟨⟨a, cap, rfl, hcap, hcm, _⟩, _⟩ := hl
    have e : validS l = false := by simp [validS, h100]
    rw [e]
    refine (Valid_long w a l.length cap (by omega) (by unfold maxLen at hcm; omega)).mono ?_
    rintro r w' ⟨rfl, rfl⟩
    exact ⟨rfl, Below.refl _ _⟩
theorem Look_no (W0 w : World) (ht : Tabs W0 w) (v : Value) (l : List Ent) (hl : EntSlice w v l) (tok : ByteArray) (hv : validS l = false) :
    Calls Tryz.prog 24 #[v, .string tok] w fun r w' => r = .returned (.tuple #[.slice none 0 0, .int .i64 2]) ∧ Below w.heap.size w w' :=
  Look_bad w v tok fun w' hb => hv ▸ Valid_any W0 w' (ht.next hb) v l (hl.below hb)
theorem Look_yes (W0 w : World) (ht : Tabs W0 w) (v : Value) (l : List Ent) (hl : EntSlice w v l) (tok : ByteArray) (hv : validS l = true) :
    Calls Tryz.prog 24 #[v, .string tok] w fun r w' => ∃ r', r = .returned (.tuple #[r', .int .i64 0]) ∧ FormSlice w' r' (lookS tok.data.toList l) ∧ Below w.heap.size w w' :=
  Look_good W0 w ht v l hl (by simp [validS] at hv; exact hv.1) hv tok

/-- Whether an entry's texts are short. -/
def entSmall (e : Ent) : Bool := decide (e.word.size ≤ 40) && decide (e.sym.size ≤ 40)
/-- Whether a lexicon is examined. -/
def smallL (l : List Ent) : Bool := decide (l.length ≤ 103) && l.all entSmall
theorem small_no {l : List Ent} {k : Nat} (h : k < l.length) (hk : k = 103 ∨ entSmall l[k] = false) : smallL l = false := by
  rcases hk with rfl | hk
  · simp [smallL]; intro h'; omega
  · have : l.all entSmall = false := by rw [List.all_eq_false]; exact ⟨l[k], List.getElem_mem h, by simp [hk]⟩
    simp [smallL, this]

set_option maxRecDepth 100000 in
set_option maxHeartbeats 1000000 in
theorem Small_any (w : World) (v : Value) (l : List Ent) (hl : EntSlice w v l) :
    Calls Tryz.prog 8 #[v] w fun r w' => r = .returned (.bool (smallL l)) ∧ w = w' := by
  obtain ⟨⟨a, cap, rfl, hcap, hcm, hform⟩, hok⟩ := hl
  have HFo := Lib.hid hform
  clear hform hok
  have hlm : l.length ≤ 9223372036854775807 := by unfold maxLen at hcm; omega
  go_enter Tryz.func8, Tryz.ntmps8
  go_wp2
  go_loop [3] (fun i => ∃ k : Nat, k ≤ l.length ∧ i = .int .i64 k ∧ k ≤ 103 ∧ (l.take k).all entSmall = true) (fun i => l.length - (intOf i).toNat)
  case atStart => exact ⟨0, Nat.zero_le _, rfl, by omega, rfl⟩
  case round =>
    obtain ⟨k, hk, rfl, h103, hall⟩ := hrel
    have HA := Lib.hid hall
    clear hall
    by_cases hlt : k < l.length
    · rcases HFo.out with h0 | ⟨b, off, rfl, hbl, hc⟩
      · rw [h0] at hlt; exact absurd hlt (by simp)
      · obtain ⟨c0, _, c2⟩ := hc k hlt
        obtain ⟨e, he⟩ : ∃ e, e = l[k] := ⟨_, rfl⟩
        rw [← he] at c0 c2
        have HE := Lib.hid he
        clear he hc hbl
        cases h3 : ((k : Int) == 103)
        · have h3' : k ≠ 103 := by simp at h3; omega
          have H3 := Lib.hid h3'
          clear h3'
          by_cases hw : e.word.size ≤ 40
          · by_cases hy : e.sym.size ≤ 40
            · go_wp2
              go_round
              case rel => exact ⟨k + 1, by omega, by go_num, by have := H3.out; omega, by rw [List.take_succ_eq_append_getElem hlt, List.all_append, HA.out, ← HE.out]; simp [entSmall, hw, hy]⟩
              case measure => simp [intOf]; omega
            · go_wp2
              go_ret
              exact ⟨ret_bool (small_no hlt (.inr (by rw [← HE.out]; simp [entSmall]; omega))).symm, rfl⟩
          · go_wp2
            go_ret
            exact ⟨ret_bool (small_no hlt (.inr (by rw [← HE.out]; simp [entSmall]; omega))).symm, rfl⟩
        · have h3' : k = 103 := by simp at h3; omega
          have H3 := Lib.hid h3'
          clear h3'
          go_wp2
          go_ret
          exact ⟨ret_bool (small_no hlt (.inl H3.out)).symm, rfl⟩
    · obtain rfl : k = l.length := by omega
      go_wp2
      go_ret
      exact ⟨ret_bool (by have := HA.out; rw [List.take_length] at this; simp [smallL, h103, this]), rfl⟩
end Go.Proofs.YtakpkaklcjgdkaaGreatDoor
