/-
  Contracts of the byte tests and of 'made', 'plain', 'proper' of package words, over the seat's translation.
-/
import Derived.Test.YthmnffgjckpkiaaGreatDoorProg
import Derived.WalkKit
import Derived.WalkLawsBesides
import Derived.WalkSpells
import Derived.Lib.Hide
namespace Go.Proofs.YthmnffgjckpkiaaGreatDoor
open Go Go.RowKit

/-- A small letter. -/
def smallI (c : Int) : Bool := decide (97 ≤ c ∧ c ≤ 122)
/-- A letter. -/
def letterI (c : Int) : Bool := decide ((97 ≤ c ∧ c ≤ 122) ∨ (65 ≤ c ∧ c ≤ 90))

theorem small_any (c : Int) (w : World) :
    Calls Tryz.prog 103 #[.int .u8 c] w fun e w' => e = .returned (.bool (smallI c)) ∧ w = w' := by
  by_cases h1 : 97 ≤ c <;> by_cases h2 : c ≤ 122
  all_goals
    have hs : smallI c = (decide (97 ≤ c) && decide (c ≤ 122)) := by simp [smallI]
    rw [hs]; clear hs
    go_enter Tryz.func103, Tryz.ntmps103
    go_wp2
    go_ret
    simp [h1, h2]

theorem letter_any (c : Int) (w : World) :
    Calls Tryz.prog 64 #[.int .u8 c] w fun e w' => e = .returned (.bool (letterI c)) ∧ w = w' := by
  have hl : letterI c = (smallI c || (decide (65 ≤ c) && decide (c ≤ 90))) := by simp [letterI, smallI]
  rw [hl]; clear hl
  by_cases h1 : 65 ≤ c <;> by_cases h2 : c ≤ 90
  all_goals
    go_enter Tryz.func64, Tryz.ntmps64
    go_wp2_with (go_at_call 103; refine (small_any _ _).mono ?_; rintro e w' ⟨rfl, rfl⟩)
    all_goals (go_ret; simp_all)


theorem ret_bool {a b : Bool} (h : a = b) : Ending.returned (.bool a) = .returned (.bool b) := by rw [h]
theorem ret_int {k : IntKind} {a b : Int} (h : a = b) : Ending.returned (.int k a) = .returned (.int k b) := by rw [h]
theorem ret_str {a b : ByteArray} (h : a = b) : Ending.returned (.string a) = .returned (.string b) := by rw [h]
/-- Whether all bytes of a text are small letters, or letters. -/
def allSmall (l : List UInt8) : Bool := l.all fun c => smallI c.toNat
def allLetter (l : List UInt8) : Bool := l.all fun c => letterI c.toNat

theorem all_take_succ (p : UInt8 → Bool) (s : ByteArray) (k : Nat) (h : k < s.size) :
    (s.data.toList.take (k + 1)).all p = ((s.data.toList.take k).all p && p s[k]) := by
  rw [List.take_succ_eq_append_getElem (by simpa using h)]
  simp; rfl
theorem all_false_at (p : UInt8 → Bool) (s : ByteArray) (k : Nat) (h : k < s.size) (hp : p s[k] = false) : s.data.toList.all p = false := by
  rw [List.all_eq_false]
  exact ⟨s[k], by simp [ByteArray.getElem_eq_getElem_data], by simp [hp]⟩

set_option maxHeartbeats 400000 in
theorem made_small (s : ByteArray) (w : World) (hs : s.size ≤ 9223372036854775807) :
    Calls Tryz.prog 133 #[.string s, .func (.func 103) #[] #[]] w fun e w' => e = .returned (.bool (allSmall s.data.toList)) ∧ w = w' := by
  go_enter Tryz.func133, Tryz.ntmps133
  go_wp2
  go_loop [5] (fun i => ∃ k : Nat, k ≤ s.size ∧ i = .int .i64 k ∧ allSmall (s.data.toList.take k) = true) (fun i => s.size - (intOf i).toNat)
  case atStart => exact ⟨0, Nat.zero_le _, rfl, by simp [allSmall]⟩
  case round =>
    obtain ⟨k, hk, rfl, ha⟩ := hrel
    have HA := Lib.hid ha
    clear ha
    by_cases hlt : k < s.size
    · go_wp2_with (go_at_call 103; refine (small_any _ _).mono ?_; rintro e w' ⟨rfl, rfl⟩)
      · have hp : (!smallI ↑s[k].toNat) = true := by assumption
        go_ret
        exact ⟨ret_bool (all_false_at (fun c => smallI c.toNat) s k hlt (by simpa using hp)).symm, rfl⟩
      · have hp : (!smallI ↑s[k].toNat) = false := by assumption
        go_round
        case rel => exact ⟨k + 1, by omega, by go_num, by unfold allSmall; rw [all_take_succ _ _ _ hlt]; have := HA.out; unfold allSmall at this; rw [this]; simpa using hp⟩
        case measure => simp [intOf]; omega
    · go_wp2
      go_ret
      exact ⟨ret_bool (by rw [← HA.out, List.take_of_length_le (by simp; omega)]), rfl⟩

set_option maxHeartbeats 400000 in
theorem made_letter (s : ByteArray) (w : World) (hs : s.size ≤ 9223372036854775807) :
    Calls Tryz.prog 133 #[.string s, .func (.func 64) #[] #[]] w fun e w' => e = .returned (.bool (allLetter s.data.toList)) ∧ w = w' := by
  go_enter Tryz.func133, Tryz.ntmps133
  go_wp2
  go_loop [5] (fun i => ∃ k : Nat, k ≤ s.size ∧ i = .int .i64 k ∧ allLetter (s.data.toList.take k) = true) (fun i => s.size - (intOf i).toNat)
  case atStart => exact ⟨0, Nat.zero_le _, rfl, by simp [allLetter]⟩
  case round =>
    obtain ⟨k, hk, rfl, ha⟩ := hrel
    have HA := Lib.hid ha
    clear ha
    by_cases hlt : k < s.size
    · go_wp2_with (go_at_call 64; refine (letter_any _ _).mono ?_; rintro e w' ⟨rfl, rfl⟩)
      · have hp : (!letterI ↑s[k].toNat) = true := by assumption
        go_ret
        exact ⟨ret_bool (all_false_at (fun c => letterI c.toNat) s k hlt (by simpa using hp)).symm, rfl⟩
      · have hp : (!letterI ↑s[k].toNat) = false := by assumption
        go_round
        case rel => exact ⟨k + 1, by omega, by go_num, by unfold allLetter; rw [all_take_succ _ _ _ hlt]; have := HA.out; unfold allLetter at this; rw [this]; simpa using hp⟩
        case measure => simp [intOf]; omega
    · go_wp2
      go_ret
      exact ⟨ret_bool (by rw [← HA.out, List.take_of_length_le (by simp; omega)]), rfl⟩

/-- A plain word, a proper word. -/
def plainS (l : List UInt8) : Bool := decide (1 ≤ l.length ∧ l.length ≤ 16) && allSmall l
def properS (l : List UInt8) : Bool := decide (1 ≤ l.length ∧ l.length ≤ 16) && (letterI (l.headD 0).toNat && (!smallI (l.headD 0).toNat && allSmall l.tail))

theorem plain_any (s : ByteArray) (w : World) (hs : s.size ≤ 9223372036854775807) :
    Calls Tryz.prog 96 #[.string s] w fun e w' => e = .returned (.bool (plainS s.data.toList)) ∧ w = w' := by
  have hp : plainS s.data.toList = (decide (1 ≤ s.size) && (decide (s.size ≤ 16) && allSmall s.data.toList)) := by
    unfold plainS; rw [Bool.decide_and, Bool.and_assoc]; rfl
  rw [hp]; clear hp
  by_cases h1 : 1 ≤ s.size <;> by_cases h2 : s.size ≤ 16
  all_goals
    go_enter Tryz.func96, Tryz.ntmps96
    go_wp2_with (go_at_call 133; refine (made_small _ _ hs).mono ?_; rintro e w' ⟨rfl, rfl⟩)
    all_goals (go_ret; simp [h1, h2])
end Go.Proofs.YthmnffgjckpkiaaGreatDoor
