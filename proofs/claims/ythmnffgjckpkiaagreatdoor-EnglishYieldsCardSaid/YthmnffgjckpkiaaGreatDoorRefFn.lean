/-
  Contracts of the reference's byte tests, 'Function' and 'lower'.
-/
import Derived.Test.YthmnffgjckpkiaaGreatDoorGTok
import Derived.Test.YthmnffgjckpkiaaGreatDoorEntsE
import Derived.Test.YthmnffgjckpkiaaGreatDoorPlainE
import Derived.Laws.BytesArg
namespace Go.Proofs.YthmnffgjckpkiaaGreatDoor
open Go Go.RowKit

def capitalI (c : Int) : Bool := decide (65 ≤ c ∧ c ≤ 90)
theorem rsmall_any (c : Int) (w : World) :
    Calls Tryz.prog 109 #[.int .u8 c] w fun e w' => e = .returned (.bool (smallI c)) ∧ w = w' := by
  by_cases h1 : 97 ≤ c <;> by_cases h2 : c ≤ 122
  all_goals
    have hs : smallI c = (decide (97 ≤ c) && decide (c ≤ 122)) := by simp [smallI]
    rw [hs]; clear hs
    go_enter Tryz.func109, Tryz.ntmps109
    go_wp2
    go_ret
    simp [h1, h2]
theorem rcapital_any (c : Int) (w : World) :
    Calls Tryz.prog 110 #[.int .u8 c] w fun e w' => e = .returned (.bool (capitalI c)) ∧ w = w' := by
  by_cases h1 : 65 ≤ c <;> by_cases h2 : c ≤ 90
  all_goals
    have hs : capitalI c = (decide (65 ≤ c) && decide (c ≤ 90)) := by simp [capitalI]
    rw [hs]; clear hs
    go_enter Tryz.func110, Tryz.ntmps110
    go_wp2
    go_ret
    simp [h1, h2]
theorem rletter_any (c : Int) (w : World) :
    Calls Tryz.prog 69 #[.int .u8 c] w fun e w' => e = .returned (.bool (letterI c)) ∧ w = w' := by
  have hl : letterI c = (smallI c || capitalI c) := by simp [letterI, smallI, capitalI]
  rw [hl]; clear hl
  go_enter Tryz.func69, Tryz.ntmps69
  go_wp2_with (first
    | (go_at_call 109; refine (rsmall_any _ _).mono ?_; rintro e w' ⟨rfl, rfl⟩)
    | (go_at_call 110; refine (rcapital_any _ _).mono ?_; rintro e w' ⟨rfl, rfl⟩))
  all_goals (go_ret; simp_all)

set_option maxRecDepth 100000 in
set_option maxHeartbeats 2000000 in
theorem rFunction_any (s : ByteArray) (w : World) :
    Calls Tryz.prog 70 #[.string s] w fun e w' => e = .returned (.bool (isFn s.data.toList)) ∧ w = w' := by
  have he := ByteArray.toList_eq s
  obtain ⟨l, hl⟩ : ∃ l, l = s.data.toList := ⟨_, rfl⟩
  rw [← hl] at he ⊢
  have HE := Lib.hid he
  clear he hl
  go_enter Tryz.func70, Tryz.ntmps70
  go_wp2
  all_goals
    go_ret
    refine ⟨ret_bool ?_, rfl⟩
    have := HE.out
    simp_all [isFn, fnWords]

/-- A text of one byte, made of a new slice. -/
theorem one_byte (w : World) (n : Int) : (convert 48 9 (.slice (some ⟨w.heap.size, 0, none⟩) 1 1)).run Tryz.prog (w.alloc (.cells #[.int .u8 n] 5)) = .ok (.string ⟨#[UInt8.ofNat n.toNat]⟩) (w.alloc (.cells #[.int .u8 n] 5)) := by
  have h := run_convert_bytes_arg (P := Tryz.prog) (w.alloc (.cells #[.int .u8 n] 5)) 48 5 Tryz.underlying48 Tryz.underlying5 w.heap.size 0 1 1 [n] rfl (fun i hi => by
    obtain rfl : i = 0 := by omega
    simp) 9 Tryz.underlying9
  rw [h]
  simp [strOfNums]
theorem lower_byte (c : UInt8) : Lib.lowerB c = if capitalI c.toNat then UInt8.ofNat (c.toNat + 32) else c := by
  have e : Lib.isUpperB c = capitalI c.toNat := by
    simp only [Lib.isUpperB, capitalI]
    rw [Bool.eq_iff_iff]; simp [UInt8.le_iff_toNat_le]; omega
  unfold Lib.lowerB
  rw [e]
  split
  · rename_i h
    simp [capitalI] at h
    apply UInt8.toNat_inj.1
    simp [UInt8.toNat_add]
  · rfl
theorem lowerA_take (s : ByteArray) (k : Nat) (h : k < s.size) : Lib.toLowerA (s.data.toList.take (k + 1)) = Lib.toLowerA (s.data.toList.take k) ++ [Lib.lowerB s[k]] := by
  rw [List.take_succ_eq_append_getElem (by simpa using h), Lib.toLowerA, Lib.toLowerA, List.map_append]
  rfl
theorem push_str (l : List UInt8) (c : UInt8) : (⟨l.toArray⟩ : ByteArray) ++ ⟨#[c]⟩ = ⟨(l ++ [c]).toArray⟩ := by
  apply ByteArray.ext
  simp [ByteArray.data_append]

set_option maxRecDepth 100000 in
set_option maxHeartbeats 1000000 in
theorem rlower_any (s : ByteArray) (w : World) (hs : s.size ≤ 1000000000) :
    Calls Tryz.prog 71 #[.string s] w fun e w' => e = .returned (.string ⟨(Lib.toLowerA s.data.toList).toArray⟩) ∧ Below w.heap.size w w' := by
  have hone := one_byte
  go_enter Tryz.func71, Tryz.ntmps71
  go_wp2
  go_loopw [3, 4] (fun o i wr => ∃ k : Nat, k ≤ s.size ∧ i = .int .i64 k ∧ o = .string ⟨(Lib.toLowerA (s.data.toList.take k)).toArray⟩ ∧ Below w.heap.size w wr) (fun _ i _ => s.size - (intOf i).toNat)
  case atStart => exact ⟨0, Nat.zero_le _, rfl, by simp [Lib.toLowerA], Below.refl _ _⟩
  case round =>
    obtain ⟨k, hk, rfl, rfl, hb⟩ := hrel
    obtain ⟨o, ho⟩ : ∃ o, o = (⟨(Lib.toLowerA (s.data.toList.take k)).toArray⟩ : ByteArray) := ⟨_, rfl⟩
    have hos : o.size ≤ k := by rw [ho, bytes_size]; simp [Lib.toLowerA]; omega
    rw [← ho]
    have HO := Lib.hid ho
    clear ho
    by_cases hlt : k < s.size
    · have hadd : ∀ (c : UInt8) w, (Op.stringOp .add o ⟨#[c]⟩).run Tryz.prog w = .ok (.string (o ++ ⟨#[c]⟩)) w := fun c w => run_string_add_sum w _ _ (by have h1 : (⟨#[c]⟩ : ByteArray).size = 1 := rfl; omega)
      have hstep := lowerA_take s k hlt
      have hbt := lower_byte s[k]
      have HS := Lib.hid hstep
      have HB := Lib.hid hbt
      have hk256 : s[k].toNat < 256 := UInt8.toNat_lt _
      clear hstep hbt
      cases hc : capitalI s[k].toNat
      · have HC := Lib.hid hc
        go_wp2_with (go_at_call 110; refine (rcapital_any _ _).mono ?_; rintro e w' ⟨rfl, rfl⟩)
        go_roundw
        case rel => exact ⟨k + 1, by omega, by go_num, by rw [HS.out, HB.out, HC.out, HO.out, push_str]; simp, hb.alloc hb.size _⟩
        case measure => simp [intOf]; omega
      · have hcap : 65 ≤ s[k].toNat ∧ s[k].toNat ≤ 90 := by simp [capitalI] at hc; omega
        obtain ⟨hc1, hc2⟩ := hcap
        have HC := Lib.hid hc
        go_wp2_with (go_at_call 110; refine (rcapital_any _ _).mono ?_; rintro e w' ⟨rfl, rfl⟩)
        go_roundw
        case rel => exact ⟨k + 1, by omega, by go_num, by rw [HS.out, HB.out, HC.out, HO.out, push_str]; simp, hb.alloc hb.size _⟩
        case measure => simp [intOf]; omega
    · obtain rfl : k = s.size := by omega
      go_wp2
      go_ret
      exact ⟨ret_str (by rw [HO.out, List.take_of_length_le (by simp)]), hb⟩
end Go.Proofs.YthmnffgjckpkiaaGreatDoor
