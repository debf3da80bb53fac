/-
  Contracts of 'Article', 'endings' and 'Third' of package words.
-/
import Derived.Test.YthmnffgjckpkiaaGreatDoorFn
import Derived.Laws.EntriesVeiled
namespace Go.Proofs.YthmnffgjckpkiaaGreatDoor
open Go Go.RowKit

def aeiou : List UInt8 := [97, 101, 105, 111, 117]
/-- What strings.Contains says of the five letters and a text. -/
def inVowels (l : List UInt8) : Bool := Lib.contains aeiou l

theorem inVowels_call (W0 w : World) (ht : Tabs W0 w) (sub : ByteArray) :
    Calls Tryz.prog 162 #[.string ⟨#[97, 101, 105, 111, 117]⟩, .string sub] w fun e w' => e = .returned (.bool (inVowels sub.data.toList)) ∧ w = w' := by
  obtain ⟨m, hm⟩ := ht.t0.maxLen
  refine (Tryz.strings_Contains ⟨#[97, 101, 105, 111, 117]⟩ sub m w (by decide) hm).mono ?_
  rintro e w' ⟨rfl, rfl⟩
  exact ⟨rfl, rfl⟩

/-- The empty text, as the walk asks for it. -/
theorem data_empty {s : ByteArray} (h : s.size = 0) : s.data.toList = [] := by
  have : s.data.toList.length = 0 := by simpa using h
  exact List.eq_nil_of_length_eq_zero this
theorem str_empty {s : ByteArray} (h : s.size = 0) : s.toList = [] := by rw [ByteArray.toList_eq]; exact data_empty h
theorem data_some {s : ByteArray} (h : 0 < s.size) : s.data.toList.isEmpty = false := by
  have : 0 < s.data.toList.length := by simpa using h
  cases hs : s.data.toList with
  | nil => rw [hs] at this; simp at this
  | cons a b => rfl
theorem str_some {s : ByteArray} (h : 0 < s.size) : s.toList.isEmpty = false := by rw [ByteArray.toList_eq]; exact data_some h

def articleS (l : List UInt8) : List UInt8 := if !l.isEmpty && inVowels (l.take 1) then [97, 110] else [97]

theorem Article_any (W0 w : World) (ht : Tabs W0 w) (s : ByteArray) :
    Calls Tryz.prog 132 #[.string s] w fun e w' => e = .returned (.string ⟨(articleS s.data.toList).toArray⟩) ∧ w = w' := by
  by_cases h : s.size = 0
  · have h1 := str_empty h
    have h2 : s.toList.isEmpty = true := by rw [h1]; rfl
    go_enter Tryz.func132, Tryz.ntmps132
    go_wp2
    go_ret
    exact ⟨ret_str (by rw [data_empty h]; rfl), rfl⟩
  · have h1 := str_some (Nat.pos_of_ne_zero h)
    have h3 := data_some (Nat.pos_of_ne_zero h)
    go_enter Tryz.func132, Tryz.ntmps132
    go_wp2_with (go_at_call 162; refine (inVowels_call W0 _ ht _).mono ?_; rintro e w' ⟨rfl, rfl⟩)
    · have hv : inVowels (List.take 1 s.data.toList) = true := by assumption
      go_ret
      exact ⟨ret_str (by unfold articleS; rw [h3, hv]; rfl), rfl⟩
    · have hv : inVowels (List.take 1 s.data.toList) = false := by assumption
      go_ret
      exact ⟨ret_str (by unfold articleS; rw [h3, hv]; rfl), rfl⟩

/-- Whether what stands ahead of 'o' or 'y' is a letter other than the five. -/
def hardS (l : List UInt8) : Bool := !l.isEmpty && !inVowels (l.drop (l.length - 1))

theorem always_any (w : World) (s : ByteArray) :
    Calls Tryz.prog 176 #[.string s] w fun e w' => e = .returned (.bool true) ∧ w = w' := by
  go_enter Tryz.func176, Tryz.ntmps176
  go_wp2
  go_ret
  exact ⟨rfl, rfl⟩

theorem hard_any (W0 w : World) (ht : Tabs W0 w) (s : ByteArray) (hs : s.size ≤ 9223372036854775807) :
    Calls Tryz.prog 177 #[.string s] w fun e w' => e = .returned (.bool (hardS s.data.toList)) ∧ w = w' := by
  by_cases h : s.size = 0
  · have h1 := str_empty h
    have h2 : s.toList.isEmpty = true := by rw [h1]; rfl
    go_enter Tryz.func177, Tryz.ntmps177
    go_wp2
    go_ret
    exact ⟨ret_bool (by rw [data_empty h]; rfl), rfl⟩
  · have h1 := str_some (Nat.pos_of_ne_zero h)
    have h3 := data_some (Nat.pos_of_ne_zero h)
    have h4 : 1 ≤ s.size := Nat.pos_of_ne_zero h
    go_enter Tryz.func177, Tryz.ntmps177
    go_wp2_with (go_at_call 162; refine (inVowels_call W0 _ ht _).mono ?_; rintro e w' ⟨rfl, rfl⟩)
    go_ret
    refine ⟨ret_bool ?_, rfl⟩
    have e : List.take (s.size - (s.size - 1)) (List.drop (s.size - 1) s.data.toList) = List.drop (s.size - 1) s.data.toList := List.take_of_length_le (by simp)
    simp [hardS, h3, e]

end Go.Proofs.YthmnffgjckpkiaaGreatDoor
