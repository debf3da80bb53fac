/-
  Contract of 'Third' of package words.
-/
import Derived.Test.YthmnffgjckpkiaaGreatDoorEnd
import Derived.BigQuiet
import Derived.Deep.QuietTactic
namespace Go.Proofs.YthmnffgjckpkiaaGreatDoor
open Go Go.RowKit

/-- The endings: the end, whether a hard letter is asked for ahead of it, how many letters go, what comes. -/
def endsS : List (List UInt8 × Bool × Nat × List UInt8) :=
  [([115], false, 0, [101, 115]), ([120], false, 0, [101, 115]), ([122], false, 0, [101, 115]), ([99, 104], false, 0, [101, 115]), ([115, 104], false, 0, [101, 115]),
   ([111], true, 0, [101, 115]), ([121], true, 1, [105, 101, 115]), ([], false, 0, [115])]
def fitsS (l : List UInt8) (e : List UInt8 × Bool × Nat × List UInt8) : Bool := Lib.hasSuffix l e.1 && (!e.2.1 || hardS (Lib.trimSuffix l e.1))
def putS (l : List UInt8) (e : List UInt8 × Bool × Nat × List UInt8) : List UInt8 := l.take (l.length - e.2.2.1) ++ e.2.2.2
def thirdS (l : List UInt8) : List UInt8 := match endsS.find? (fitsS l) with | some e => putS l e | none => []

theorem find_at (l : List UInt8) (k : Nat) (hk : k < endsS.length) (hno : ∀ j, j < k → fitsS l (endsS.getD j ([], false, 0, [])) = false) (hy : fitsS l endsS[k] = true) :
    thirdS l = putS l endsS[k] := by
  have : endsS.find? (fitsS l) = some endsS[k] := by
    rw [List.find?_eq_some_iff_getElem]
    refine ⟨hy, k, hk, rfl, fun j hj => ?_⟩
    have := hno j hj
    simp only [List.getD, List.getElem?_eq_getElem (Nat.lt_trans hj hk), Option.getD_some] at this
    simp [this]
  simp [thirdS, this]

theorem Third_bad (w : World) (s : ByteArray) (hs : s.size ≤ 9223372036854775807) (hp : plainS s.data.toList = false) :
    Calls Tryz.prog 114 #[.string s] w fun e w' => e = .returned (.tuple #[.string ⟨#[]⟩, .int .i64 2]) ∧ w = w' := by
  go_enter Tryz.func114, Tryz.ntmps114
  go_wp2_with (go_at_call 96; refine (plain_any _ _ hs).mono ?_; rintro e w' ⟨rfl, rfl⟩)
  go_ret2
  exact ⟨rfl, rfl⟩

theorem take_all (s : ByteArray) : List.take s.size s.data.toList = s.data.toList := List.take_of_length_le (by simp)
theorem cat_str (s : ByteArray) (l : List UInt8) : s ++ ⟨l.toArray⟩ = ⟨(s.data.toList ++ l).toArray⟩ := by
  apply ByteArray.ext
  simp [ByteArray.data_append]
theorem cut_str (s : ByteArray) (n : Nat) (l : List UInt8) : s.extract 0 n ++ ⟨l.toArray⟩ = ⟨(s.data.toList.take n ++ l).toArray⟩ := by
  rw [cat_str]
  congr 3
  simp

theorem no_more {l : List UInt8} {k : Nat} (h : ∀ j, j < k → fitsS l (endsS.getD j ([], false, 0, [])) = false) (h1 : fitsS l (endsS.getD k ([], false, 0, [])) = false) :
    ∀ j, j < k + 1 → fitsS l (endsS.getD j ([], false, 0, [])) = false := fun j hj => by
  rcases Nat.lt_succ_iff_lt_or_eq.1 hj with h' | rfl
  · exact h j h'
  · exact h1
theorem trim_size (s : ByteArray) (e : List UInt8) (h : s.size ≤ 16) : (⟨(Lib.trimSuffix s.data.toList e).toArray⟩ : ByteArray).size ≤ 9223372036854775807 := by
  have e1 : (⟨(Lib.trimSuffix s.data.toList e).toArray⟩ : ByteArray).size = (Lib.trimSuffix s.data.toList e).length := by show Array.size _ = _; exact List.size_toArray
  rw [e1]
  have : (Lib.trimSuffix s.data.toList e).length ≤ s.data.toList.length := by
    unfold Lib.trimSuffix; split
    · simp
    · exact Nat.le_refl _
  have h2 : s.data.toList.length = s.size := by simp
  omega

set_option maxHeartbeats 4000000 in
theorem Third_good (W0 w : World) (ht : Tabs W0 w) (s : ByteArray) (hp : plainS s.data.toList = true) (h1 : 1 ≤ s.size) (h16 : s.size ≤ 16) :
    Calls Tryz.prog 114 #[.string s] w fun e w' => e = .returned (.tuple #[.string ⟨(thirdS s.data.toList).toArray⟩, .int .i64 0]) ∧ Below w.heap.size w w' := by
  have hs : s.size ≤ 9223372036854775807 := by omega
  go_enter Tryz.func114, Tryz.ntmps114
  go_wp2_with (first
    | (go_at_call 96; refine (plain_any _ _ hs).mono ?_; rintro e w' ⟨rfl, rfl⟩)
    | (go_at_call 153; refine (endings_any _).mono ?_; rintro e w' ⟨rfl, hb0⟩))
  clear hp
  go_loopw [12] (fun i wr => ∃ k : Nat, k ≤ 8 ∧ i = .int .i64 k ∧ (∀ j, j < k → fitsS s.data.toList (endsS.getD j ([], false, 0, [])) = false) ∧ Below w.heap.size w wr) (fun i _ => 8 - (intOf i).toNat)
  case atStart => exact ⟨0, Nat.zero_le _, rfl, fun j hj => absurd hj (Nat.not_lt_zero j), hb0⟩
  case round =>
    obtain ⟨k, hk, rfl, hno, hb⟩ := hrel
    have HN := Lib.hid hno
    have htr := ht.next hb
    clear hno hb0
    have hk8 : k = 0 ∨ k = 1 ∨ k = 2 ∨ k = 3 ∨ k = 4 ∨ k = 5 ∨ k = 6 ∨ k = 7 ∨ k = 8 := by omega
    rcases hk8 with rfl | rfl | rfl | rfl | rfl | rfl | rfl | rfl | rfl
    · have hi0 : ∀ w, (Instr.index 194 endingsV (.int .i64 0)).run Tryz.prog w = .ok (.agg (endV [115] 176 0 [101, 115]).toArray) w := fun w => by kernel_rfl
      have hadd : ∀ w, (Op.stringOp .add s ⟨#[101, 115]⟩).run Tryz.prog w = .ok (.string (s ++ ⟨#[101, 115]⟩)) w := fun w => run_string_add w _ _ (by omega) (by decide)
      simp only [endV] at hi0
      go_wp2_with (first
        | (go_at_call 154; refine (Tryz.strings_CutSuffix _ _ _ hs).mono ?_; rintro e w' ⟨rfl, rfl⟩)
        | (go_at_call 176; refine (always_any _ _).mono ?_; rintro e w' ⟨rfl, rfl⟩))
      · have hf : Lib.hasSuffix s.data.toList [115] = true := by assumption
        have e1 : IntKind.i64.wrap (↑s.size) = (s.size : Int) := IntWalk.i64_in _ (by omega)
        go_quiet (fail)
        go_wp2
        go_ret2
        have hfit : fitsS s.data.toList (endsS[0]'(by decide)) = true := by simp [fitsS, endsS, hf]
        refine ⟨?_, (hb.alloc hb.size _).drewsN _⟩
        rw [find_at s.data.toList 0 (by decide) HN.out hfit, cat_str]
        simp [putS, endsS, take_all]
      · have hf : ¬ Lib.hasSuffix s.data.toList [115] = true := by assumption
        go_roundw
        case rel => exact ⟨1, by omega, rfl, no_more HN.out (by simp [fitsS, endsS, hf]), hb.alloc hb.size _⟩
        case measure => simp [intOf]
    · have hi0 : ∀ w, (Instr.index 194 endingsV (.int .i64 1)).run Tryz.prog w = .ok (.agg (endV [120] 176 0 [101, 115]).toArray) w := fun w => by kernel_rfl
      have hadd : ∀ w, (Op.stringOp .add s ⟨#[101, 115]⟩).run Tryz.prog w = .ok (.string (s ++ ⟨#[101, 115]⟩)) w := fun w => run_string_add w _ _ (by omega) (by decide)
      simp only [endV] at hi0
      go_wp2_with (first
        | (go_at_call 154; refine (Tryz.strings_CutSuffix _ _ _ hs).mono ?_; rintro e w' ⟨rfl, rfl⟩)
        | (go_at_call 176; refine (always_any _ _).mono ?_; rintro e w' ⟨rfl, rfl⟩))
      · have hf : Lib.hasSuffix s.data.toList [120] = true := by assumption
        have e1 : IntKind.i64.wrap (↑s.size) = (s.size : Int) := IntWalk.i64_in _ (by omega)
        go_quiet (fail)
        go_wp2
        go_ret2
        have hfit : fitsS s.data.toList (endsS[1]'(by decide)) = true := by simp [fitsS, endsS, hf]
        refine ⟨?_, (hb.alloc hb.size _).drewsN _⟩
        rw [find_at s.data.toList 1 (by decide) HN.out hfit, cat_str]
        simp [putS, endsS, take_all]
      · have hf : ¬ Lib.hasSuffix s.data.toList [120] = true := by assumption
        go_roundw
        case rel => exact ⟨2, by omega, rfl, no_more HN.out (by simp [fitsS, endsS, hf]), hb.alloc hb.size _⟩
        case measure => simp [intOf]
    · have hi0 : ∀ w, (Instr.index 194 endingsV (.int .i64 2)).run Tryz.prog w = .ok (.agg (endV [122] 176 0 [101, 115]).toArray) w := fun w => by kernel_rfl
      have hadd : ∀ w, (Op.stringOp .add s ⟨#[101, 115]⟩).run Tryz.prog w = .ok (.string (s ++ ⟨#[101, 115]⟩)) w := fun w => run_string_add w _ _ (by omega) (by decide)
      simp only [endV] at hi0
      go_wp2_with (first
        | (go_at_call 154; refine (Tryz.strings_CutSuffix _ _ _ hs).mono ?_; rintro e w' ⟨rfl, rfl⟩)
        | (go_at_call 176; refine (always_any _ _).mono ?_; rintro e w' ⟨rfl, rfl⟩))
      · have hf : Lib.hasSuffix s.data.toList [122] = true := by assumption
        have e1 : IntKind.i64.wrap (↑s.size) = (s.size : Int) := IntWalk.i64_in _ (by omega)
        go_quiet (fail)
        go_wp2
        go_ret2
        have hfit : fitsS s.data.toList (endsS[2]'(by decide)) = true := by simp [fitsS, endsS, hf]
        refine ⟨?_, (hb.alloc hb.size _).drewsN _⟩
        rw [find_at s.data.toList 2 (by decide) HN.out hfit, cat_str]
        simp [putS, endsS, take_all]
      · have hf : ¬ Lib.hasSuffix s.data.toList [122] = true := by assumption
        go_roundw
        case rel => exact ⟨3, by omega, rfl, no_more HN.out (by simp [fitsS, endsS, hf]), hb.alloc hb.size _⟩
        case measure => simp [intOf]
    · have hi0 : ∀ w, (Instr.index 194 endingsV (.int .i64 3)).run Tryz.prog w = .ok (.agg (endV [99, 104] 176 0 [101, 115]).toArray) w := fun w => by kernel_rfl
      have hadd : ∀ w, (Op.stringOp .add s ⟨#[101, 115]⟩).run Tryz.prog w = .ok (.string (s ++ ⟨#[101, 115]⟩)) w := fun w => run_string_add w _ _ (by omega) (by decide)
      simp only [endV] at hi0
      go_wp2_with (first
        | (go_at_call 154; refine (Tryz.strings_CutSuffix _ _ _ hs).mono ?_; rintro e w' ⟨rfl, rfl⟩)
        | (go_at_call 176; refine (always_any _ _).mono ?_; rintro e w' ⟨rfl, rfl⟩))
      · have hf : Lib.hasSuffix s.data.toList [99, 104] = true := by assumption
        have e1 : IntKind.i64.wrap (↑s.size) = (s.size : Int) := IntWalk.i64_in _ (by omega)
        go_quiet (fail)
        go_wp2
        go_ret2
        have hfit : fitsS s.data.toList (endsS[3]'(by decide)) = true := by simp [fitsS, endsS, hf]
        refine ⟨?_, (hb.alloc hb.size _).drewsN _⟩
        rw [find_at s.data.toList 3 (by decide) HN.out hfit, cat_str]
        simp [putS, endsS, take_all]
      · have hf : ¬ Lib.hasSuffix s.data.toList [99, 104] = true := by assumption
        go_roundw
        case rel => exact ⟨4, by omega, rfl, no_more HN.out (by simp [fitsS, endsS, hf]), hb.alloc hb.size _⟩
        case measure => simp [intOf]
    · have hi0 : ∀ w, (Instr.index 194 endingsV (.int .i64 4)).run Tryz.prog w = .ok (.agg (endV [115, 104] 176 0 [101, 115]).toArray) w := fun w => by kernel_rfl
      have hadd : ∀ w, (Op.stringOp .add s ⟨#[101, 115]⟩).run Tryz.prog w = .ok (.string (s ++ ⟨#[101, 115]⟩)) w := fun w => run_string_add w _ _ (by omega) (by decide)
      simp only [endV] at hi0
      go_wp2_with (first
        | (go_at_call 154; refine (Tryz.strings_CutSuffix _ _ _ hs).mono ?_; rintro e w' ⟨rfl, rfl⟩)
        | (go_at_call 176; refine (always_any _ _).mono ?_; rintro e w' ⟨rfl, rfl⟩))
      · have hf : Lib.hasSuffix s.data.toList [115, 104] = true := by assumption
        have e1 : IntKind.i64.wrap (↑s.size) = (s.size : Int) := IntWalk.i64_in _ (by omega)
        go_quiet (fail)
        go_wp2
        go_ret2
        have hfit : fitsS s.data.toList (endsS[4]'(by decide)) = true := by simp [fitsS, endsS, hf]
        refine ⟨?_, (hb.alloc hb.size _).drewsN _⟩
        rw [find_at s.data.toList 4 (by decide) HN.out hfit, cat_str]
        simp [putS, endsS, take_all]
      · have hf : ¬ Lib.hasSuffix s.data.toList [115, 104] = true := by assumption
        go_roundw
        case rel => exact ⟨5, by omega, rfl, no_more HN.out (by simp [fitsS, endsS, hf]), hb.alloc hb.size _⟩
        case measure => simp [intOf]
    · have hi0 : ∀ w, (Instr.index 194 endingsV (.int .i64 5)).run Tryz.prog w = .ok (.agg (endV [111] 177 0 [101, 115]).toArray) w := fun w => by kernel_rfl
      have hadd : ∀ w, (Op.stringOp .add s ⟨#[101, 115]⟩).run Tryz.prog w = .ok (.string (s ++ ⟨#[101, 115]⟩)) w := fun w => run_string_add w _ _ (by omega) (by decide)
      simp only [endV] at hi0
      go_wp2_with (first
        | (go_at_call 154; refine (Tryz.strings_CutSuffix _ _ _ hs).mono ?_; rintro e w' ⟨rfl, rfl⟩)
        | (go_at_call 177; refine (hard_any W0 _ (htr.alloc _) _ (trim_size _ _ h16)).mono ?_; rintro e w' ⟨rfl, rfl⟩))
      · have hf : Lib.hasSuffix s.data.toList [111] = true := by assumption
        have hh : hardS (Lib.trimSuffix s.data.toList [111]) = true := by assumption
        have e1 : IntKind.i64.wrap (↑s.size) = (s.size : Int) := IntWalk.i64_in _ (by omega)
        go_quiet (fail)
        go_wp2
        go_ret2
        have hfit : fitsS s.data.toList (endsS[5]'(by decide)) = true := by simp [fitsS, endsS, hf, hh]
        refine ⟨?_, (hb.alloc hb.size _).drewsN _⟩
        rw [find_at s.data.toList 5 (by decide) HN.out hfit, cat_str]
        simp [putS, endsS, take_all]
      · have hf : Lib.hasSuffix s.data.toList [111] = true := by assumption
        have hh : hardS (Lib.trimSuffix s.data.toList [111]) = false := by assumption
        go_roundw
        case rel => exact ⟨6, by omega, rfl, no_more HN.out (by simp [fitsS, endsS, hf, hh]), hb.alloc hb.size _⟩
        case measure => simp [intOf]
      · have hf : ¬ Lib.hasSuffix s.data.toList [111] = true := by assumption
        go_roundw
        case rel => exact ⟨6, by omega, rfl, no_more HN.out (by simp [fitsS, endsS, hf]), hb.alloc hb.size _⟩
        case measure => simp [intOf]
    · have hi0 : ∀ w, (Instr.index 194 endingsV (.int .i64 6)).run Tryz.prog w = .ok (.agg (endV [121] 177 1 [105, 101, 115]).toArray) w := fun w => by kernel_rfl
      have hadd : ∀ w, (Op.stringOp .add (s.extract 0 (s.size - 1)) ⟨#[105, 101, 115]⟩).run Tryz.prog w = .ok (.string ((s.extract 0 (s.size - 1)) ++ ⟨#[105, 101, 115]⟩)) w := fun w => run_string_add w _ _ (by simp; omega) (by decide)
      simp only [endV] at hi0
      go_wp2_with (first
        | (go_at_call 154; refine (Tryz.strings_CutSuffix _ _ _ hs).mono ?_; rintro e w' ⟨rfl, rfl⟩)
        | (go_at_call 177; refine (hard_any W0 _ (htr.alloc _) _ (trim_size _ _ h16)).mono ?_; rintro e w' ⟨rfl, rfl⟩))
      · have hf : Lib.hasSuffix s.data.toList [121] = true := by assumption
        have hh : hardS (Lib.trimSuffix s.data.toList [121]) = true := by assumption
        have e1 : IntKind.i64.wrap (↑s.size) = (s.size : Int) := IntWalk.i64_in _ (by omega)
        have e2 : IntKind.i64.wrap (↑s.size - 1) = (s.size : Int) - 1 := IntWalk.i64_in _ (by omega)
        have e3 : ((s.size : Int) - 1).toNat = s.size - 1 := by omega
        have e4 : (0 : Int) ≤ (s.size : Int) - 1 := by omega
        have e5 : ((s.size : Int) - 1) ≤ (s.size : Int) := by omega
        go_quiet (fail)
        go_wp2
        go_ret2
        have hfit : fitsS s.data.toList (endsS[6]'(by decide)) = true := by simp [fitsS, endsS, hf, hh]
        refine ⟨?_, (hb.alloc hb.size _).drewsN _⟩
        rw [find_at s.data.toList 6 (by decide) HN.out hfit, cut_str]
        simp [putS, endsS]
      · have hf : Lib.hasSuffix s.data.toList [121] = true := by assumption
        have hh : hardS (Lib.trimSuffix s.data.toList [121]) = false := by assumption
        go_roundw
        case rel => exact ⟨7, by omega, rfl, no_more HN.out (by simp [fitsS, endsS, hf, hh]), hb.alloc hb.size _⟩
        case measure => simp [intOf]
      · have hf : ¬ Lib.hasSuffix s.data.toList [121] = true := by assumption
        go_roundw
        case rel => exact ⟨7, by omega, rfl, no_more HN.out (by simp [fitsS, endsS, hf]), hb.alloc hb.size _⟩
        case measure => simp [intOf]
    · have hi0 : ∀ w, (Instr.index 194 endingsV (.int .i64 7)).run Tryz.prog w = .ok (.agg (endV [] 176 0 [115]).toArray) w := fun w => by kernel_rfl
      have hadd : ∀ w, (Op.stringOp .add s ⟨#[115]⟩).run Tryz.prog w = .ok (.string (s ++ ⟨#[115]⟩)) w := fun w => run_string_add w _ _ (by omega) (by decide)
      simp only [endV] at hi0
      have hsuf : Lib.hasSuffix s.data.toList [] = true := by simp [Lib.hasSuffix]
      go_wp2_with (first
        | (go_at_call 154; refine (Tryz.strings_CutSuffix _ _ _ hs).mono ?_; rintro e w' ⟨rfl, rfl⟩)
        | (go_at_call 176; refine (always_any _ _).mono ?_; rintro e w' ⟨rfl, rfl⟩))
      · have hf := hsuf
        have e1 : IntKind.i64.wrap (↑s.size) = (s.size : Int) := IntWalk.i64_in _ (by omega)
        go_quiet (fail)
        go_wp2
        go_ret2
        have hfit : fitsS s.data.toList (endsS[7]'(by decide)) = true := by simp [fitsS, endsS, hf]
        refine ⟨?_, (hb.alloc hb.size _).drewsN _⟩
        rw [find_at s.data.toList 7 (by decide) HN.out hfit, cat_str]
        simp [putS, endsS, take_all]
    · have h7 := HN.out 7 (by decide)
      simp [fitsS, endsS, Lib.hasSuffix] at h7
end Go.Proofs.YthmnffgjckpkiaaGreatDoor
