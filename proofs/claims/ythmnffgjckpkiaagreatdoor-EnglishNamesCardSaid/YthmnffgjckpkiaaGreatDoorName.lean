/-
  Contracts of the names of package syntax: 'Function', 'Predicate', and what they call.
-/
import Derived.Test.YthmnffgjckpkiaaGreatDoorThree
import Derived.BigQuiet
import Derived.Deep.QuietTactic
namespace Go.Proofs.YthmnffgjckpkiaaGreatDoor
open Go Go.RowKit

theorem quietE {P : Program} {f : FuncId} {args : Array Value} {w : World} {n : Nat} {v : Value}
    (h : Calls P f args (w.drewN n) fun e w' => e = .returned v ∧ w.drewN n = w') : Calls P f args (w.drewN n) fun e w'' => e = .returned v ∧ ∃ m, w'' = w.drewN m :=
  h.mono fun _ _ ⟨he, hm⟩ => ⟨he, n, hm.symm⟩

def capI (c : Int) : Bool := decide (65 ≤ c ∧ c ≤ 90)
def digI (c : Int) : Bool := decide (48 ≤ c ∧ c ≤ 57)
def alnumI (c : Int) : Bool := smallI c || capI c || digI c
def fnI (c : Int) : Bool := decide (97 ≤ c ∧ c ≤ 116)

theorem sfn_any (c : Int) (w : World) :
    Calls Tryz.prog 135 #[.int .u8 c] w fun e w' => e = .returned (.bool (fnI c)) ∧ w = w' := by
  by_cases h1 : 97 ≤ c <;> by_cases h2 : c ≤ 116
  all_goals
    have hs : fnI c = (decide (97 ≤ c) && decide (c ≤ 116)) := by simp [fnI]
    rw [hs]; clear hs
    go_enter Tryz.func135, Tryz.ntmps135
    go_wp2
    go_ret
    simp [h1, h2]
theorem ssmall_any (c : Int) (w : World) :
    Calls Tryz.prog 165 #[.int .u8 c] w fun e w' => e = .returned (.bool (smallI c)) ∧ w = w' := by
  by_cases h1 : 97 ≤ c <;> by_cases h2 : c ≤ 122
  all_goals
    have hs : smallI c = (decide (97 ≤ c) && decide (c ≤ 122)) := by simp [smallI]
    rw [hs]; clear hs
    go_enter Tryz.func165, Tryz.ntmps165
    go_wp2
    go_ret
    simp [h1, h2]
theorem scap_any (c : Int) (w : World) :
    Calls Tryz.prog 138 #[.int .u8 c] w fun e w' => e = .returned (.bool (capI c)) ∧ w = w' := by
  by_cases h1 : 65 ≤ c <;> by_cases h2 : c ≤ 90
  all_goals
    have hs : capI c = (decide (65 ≤ c) && decide (c ≤ 90)) := by simp [capI]
    rw [hs]; clear hs
    go_enter Tryz.func138, Tryz.ntmps138
    go_wp2
    go_ret
    simp [h1, h2]
theorem sdig_any (c : Int) (w : World) :
    Calls Tryz.prog 166 #[.int .u8 c] w fun e w' => e = .returned (.bool (digI c)) ∧ w = w' := by
  by_cases h1 : 48 ≤ c <;> by_cases h2 : c ≤ 57
  all_goals
    have hs : digI c = (decide (48 ≤ c) && decide (c ≤ 57)) := by simp [digI]
    rw [hs]; clear hs
    go_enter Tryz.func166, Tryz.ntmps166
    go_wp2
    go_ret
    simp [h1, h2]
theorem salnum_any (c : Int) (w : World) :
    Calls Tryz.prog 136 #[.int .u8 c] w fun e w' => e = .returned (.bool (alnumI c)) ∧ w = w' := by
  unfold alnumI
  go_enter Tryz.func136, Tryz.ntmps136
  go_wp2_with (first
    | (go_at_call 165; refine (ssmall_any _ _).mono ?_; rintro e w' ⟨rfl, rfl⟩)
    | (go_at_call 138; refine (scap_any _ _).mono ?_; rintro e w' ⟨rfl, rfl⟩)
    | (go_at_call 166; refine (sdig_any _ _).mono ?_; rintro e w' ⟨rfl, rfl⟩))
  all_goals (go_ret; simp_all)

def reservedL : List (List UInt8) := [[97, 108, 108], [115, 111, 109, 101], [102, 97, 108, 115, 101], [110, 101, 120, 116], [97, 108, 119, 97, 121, 115], [117, 110, 116, 105, 108]]
def reservedS (l : List UInt8) : Bool := reservedL.contains l

theorem reserved_any (s : ByteArray) (w : World) :
    Calls Tryz.prog 164 #[.string s] w fun e w' => e = .returned (.bool (reservedS s.data.toList)) ∧ w = w' := by
  go_enter Tryz.func164, Tryz.ntmps164
  go_wp2
  all_goals
    go_ret
    refine ⟨ret_bool ?_, rfl⟩
    rw [← ByteArray.toList_eq]
    simp_all [reservedS, reservedL]

/-- A name: its first byte, its other bytes, its length; no reserved word. -/
def allOf (p : Int → Bool) (l : List UInt8) : Bool := l.all fun c => p c.toNat
def nameS (first : Int → Bool) (l : List UInt8) : Bool := decide (1 ≤ l.length ∧ l.length ≤ 16) && (!reservedS l && (first (l.headD 0).toNat && allOf alnumI l.tail))

theorem head_get {s : ByteArray} (h : 1 ≤ s.size) : s.data.toList.headD 0 = s[0] := by
  have h' : 0 < s.data.toList.length := by simp; omega
  cases hs : s.data.toList with
  | nil => rw [hs] at h'; simp at h'
  | cons a b => 
    have : s[0] = s.data.toList[0] := by simp [ByteArray.getElem_eq_getElem_data]
    rw [this]; simp [hs]
theorem tail_take (s : ByteArray) (k : Nat) (h1 : 1 ≤ k) (h : k < s.size) (p : Int → Bool) :
    allOf p (s.data.toList.take (k + 1)).tail = (allOf p (s.data.toList.take k).tail && p s[k].toNat) := by
  rw [List.take_succ_eq_append_getElem (by simpa using h)]
  have h0 : (s.data.toList.take k) ≠ [] := by
    intro e
    have : (s.data.toList.take k).length = 0 := by rw [e]; rfl
    have hl : s.data.toList.length = s.size := by simp
    rw [List.length_take, hl] at this
    omega
  rw [List.tail_append_of_ne_nil h0]
  simp [allOf, ByteArray.getElem_eq_getElem_data]
theorem tail_false (s : ByteArray) (k : Nat) (h1 : 1 ≤ k) (h : k < s.size) (p : Int → Bool) (hp : p s[k].toNat = false) : allOf p s.data.toList.tail = false := by
  unfold allOf
  rw [List.all_eq_false]
  refine ⟨s[k], ?_, by simp [hp]⟩
  rw [List.mem_iff_getElem]
  refine ⟨k - 1, by simp; omega, ?_⟩
  simp only [List.getElem_tail]
  simp [ByteArray.getElem_eq_getElem_data, show k - 1 + 1 = k by omega]

theorem nameS_len {p : Int → Bool} {l : List UInt8} (h : ¬ (1 ≤ l.length ∧ l.length ≤ 16)) : nameS p l = false := by simp [nameS, h]
theorem nameS_res {p : Int → Bool} {l : List UInt8} (h : reservedS l = true) : nameS p l = false := by simp [nameS, h]
theorem nameS_first {p : Int → Bool} {l : List UInt8} (h : p (l.headD 0).toNat = false) : nameS p l = false := by unfold nameS; rw [h]; simp
theorem nameS_tail {p : Int → Bool} {l : List UInt8} (h : allOf alnumI l.tail = false) : nameS p l = false := by simp [nameS, h]
theorem nameS_yes {p : Int → Bool} {l : List UInt8} (h1 : 1 ≤ l.length ∧ l.length ≤ 16) (h2 : reservedS l = false) (h3 : p (l.headD 0).toNat = true) (h4 : allOf alnumI l.tail = true) : nameS p l = true := by unfold nameS; rw [h3, h2, h4]; simp [h1]
theorem drews {w wr : World} (h : ∃ n, wr = w.drewN n) (m : Nat) : ∃ n, wr.drewN m = w.drewN n := by
  obtain ⟨n, rfl⟩ := h; exact ⟨_, by rw [World.drewN_drewN]⟩
theorem len_size (s : ByteArray) : s.data.toList.length = s.size := by simp

set_option maxHeartbeats 1000000 in
theorem checker_fn (b1 b2 : Nat) (s : ByteArray) (w : World) (hs : s.size ≤ 9223372036854775807) (hc1 : w.cell? ⟨b1, 0, none⟩ = some (.func (.func 135) #[] #[])) (hc2 : w.cell? ⟨b2, 0, none⟩ = some (.func (.func 136) #[] #[])) :
    Calls Tryz.prog 163 #[.string s, .pointer (some ⟨b1, 0, none⟩), .pointer (some ⟨b2, 0, none⟩)] w fun e w' => e = .returned (.bool (nameS fnI s.data.toList)) ∧ ∃ n, w' = w.drewN n := by
  by_cases h1 : 1 ≤ s.size
  · have d1 : decide ((s.size : Int) < 1) = false := by simp; omega
    have h0 : 0 < s.size := h1
    by_cases h2 : s.size ≤ 16
    · have d2 : decide (16 < (s.size : Int)) = false := by simp; omega
      cases hr : reservedS s.data.toList
      · cases hf : fnI s[0].toNat
        · have HR := Lib.hid hr
          have HF := Lib.hid hf
          have CR := Lib.hid (fun w : World => hr ▸ reserved_any s w)
          have CF := Lib.hid (fun w : World => hf ▸ sfn_any s[0].toNat w)
          clear hr hf
          go_enter Tryz.func163, Tryz.ntmps163
          go_wp2
          go_quiet ((first | (go_at_call 164; exact quietE (CR.out _)) | (go_at_call 135; exact quietE (CF.out _))))
          go_wp2
          go_ret
          exact ⟨ret_bool (nameS_first (by rw [head_get h1]; exact HF.out)).symm, ⟨_, rfl⟩⟩
        · have HR := Lib.hid hr
          have HF := Lib.hid hf
          have CR := Lib.hid (fun w : World => hr ▸ reserved_any s w)
          have CF := Lib.hid (fun w : World => hf ▸ sfn_any s[0].toNat w)
          clear hr hf
          go_enter Tryz.func163, Tryz.ntmps163
          go_wp2
          go_quiet ((first | (go_at_call 164; exact quietE (CR.out _)) | (go_at_call 135; exact quietE (CF.out _))))
          go_wp2
          go_loopw [5] (fun i wr => ∃ k : Nat, 1 ≤ k ∧ k ≤ s.size ∧ i = .int .i64 k ∧ allOf alnumI (s.data.toList.take k).tail = true ∧ ∃ n, wr = w.drewN n) (fun i _ => s.size - (intOf i).toNat)
          case atStart => exact ⟨1, Nat.le_refl _, h1, rfl, by rw [List.take_one]; cases s.data.toList <;> simp [allOf], ⟨_, rfl⟩⟩
          case round =>
            obtain ⟨k, hk1, hk, rfl, ha, hw⟩ := hrel
            have hc3 : wr.cell? ⟨b2, 0, none⟩ = some (.func (.func 136) #[] #[]) := by obtain ⟨n, rfl⟩ := hw; exact hc2
            have HA := Lib.hid ha
            have HW := Lib.hid hw
            clear ha d1 d2 hw hc1 hc2
            by_cases hlt : k < s.size
            · cases hp : alnumI s[k].toNat
              · have HP := Lib.hid hp
                have CP := Lib.hid (fun w : World => hp ▸ salnum_any s[k].toNat w)
                clear hp
                go_wp2
                go_quiet ((go_at_call 136; exact quietE (CP.out _)))
                go_wp2
                go_ret
                exact ⟨ret_bool (nameS_tail (tail_false s k hk1 hlt _ HP.out)).symm, drews HW.out _⟩
              · have HP := Lib.hid hp
                have CP := Lib.hid (fun w : World => hp ▸ salnum_any s[k].toNat w)
                clear hp
                go_wp2
                go_quiet ((go_at_call 136; exact quietE (CP.out _)))
                go_wp2
                go_roundw
                case rel => exact ⟨k + 1, by omega, by omega, by go_num, by rw [tail_take s k hk1 hlt, HA.out, HP.out]; rfl, drews HW.out _⟩
                case measure => simp [intOf]; omega
            · obtain rfl : k = s.size := by omega
              go_wp2
              go_ret
              exact ⟨ret_bool (nameS_yes (by rw [len_size]; omega) HR.out (by rw [head_get h1]; exact HF.out) (by have := HA.out; rwa [take_all] at this)).symm, HW.out⟩
      · have HR := Lib.hid hr
        have CR := Lib.hid (fun w : World => hr ▸ reserved_any s w)
        clear hr
        go_enter Tryz.func163, Tryz.ntmps163
        go_wp2
        go_quiet ((go_at_call 164; exact quietE (CR.out _)))
        go_wp2
        go_ret
        exact ⟨ret_bool (nameS_res HR.out).symm, ⟨_, rfl⟩⟩
    · have d2 : decide (16 < (s.size : Int)) = true := by simp; omega
      go_enter Tryz.func163, Tryz.ntmps163
      go_wp2
      go_quiet (fail)
      go_wp2
      go_ret
      exact ⟨ret_bool (nameS_len (by rw [len_size]; omega)).symm, ⟨_, rfl⟩⟩
  · have d1 : decide ((s.size : Int) < 1) = true := by simp; omega
    go_enter Tryz.func163, Tryz.ntmps163
    go_wp2
    go_quiet (fail)
    go_wp2
    go_ret
    exact ⟨ret_bool (nameS_len (by rw [len_size]; omega)).symm, ⟨_, rfl⟩⟩

set_option maxHeartbeats 1000000 in
theorem checker_cap (b1 b2 : Nat) (s : ByteArray) (w : World) (hs : s.size ≤ 9223372036854775807) (hc1 : w.cell? ⟨b1, 0, none⟩ = some (.func (.func 138) #[] #[])) (hc2 : w.cell? ⟨b2, 0, none⟩ = some (.func (.func 136) #[] #[])) :
    Calls Tryz.prog 163 #[.string s, .pointer (some ⟨b1, 0, none⟩), .pointer (some ⟨b2, 0, none⟩)] w fun e w' => e = .returned (.bool (nameS capI s.data.toList)) ∧ ∃ n, w' = w.drewN n := by
  by_cases h1 : 1 ≤ s.size
  · have d1 : decide ((s.size : Int) < 1) = false := by simp; omega
    have h0 : 0 < s.size := h1
    by_cases h2 : s.size ≤ 16
    · have d2 : decide (16 < (s.size : Int)) = false := by simp; omega
      cases hr : reservedS s.data.toList
      · cases hf : capI s[0].toNat
        · have HR := Lib.hid hr
          have HF := Lib.hid hf
          have CR := Lib.hid (fun w : World => hr ▸ reserved_any s w)
          have CF := Lib.hid (fun w : World => hf ▸ scap_any s[0].toNat w)
          clear hr hf
          go_enter Tryz.func163, Tryz.ntmps163
          go_wp2
          go_quiet ((first | (go_at_call 164; exact quietE (CR.out _)) | (go_at_call 138; exact quietE (CF.out _))))
          go_wp2
          go_ret
          exact ⟨ret_bool (nameS_first (by rw [head_get h1]; exact HF.out)).symm, ⟨_, rfl⟩⟩
        · have HR := Lib.hid hr
          have HF := Lib.hid hf
          have CR := Lib.hid (fun w : World => hr ▸ reserved_any s w)
          have CF := Lib.hid (fun w : World => hf ▸ scap_any s[0].toNat w)
          clear hr hf
          go_enter Tryz.func163, Tryz.ntmps163
          go_wp2
          go_quiet ((first | (go_at_call 164; exact quietE (CR.out _)) | (go_at_call 138; exact quietE (CF.out _))))
          go_wp2
          go_loopw [5] (fun i wr => ∃ k : Nat, 1 ≤ k ∧ k ≤ s.size ∧ i = .int .i64 k ∧ allOf alnumI (s.data.toList.take k).tail = true ∧ ∃ n, wr = w.drewN n) (fun i _ => s.size - (intOf i).toNat)
          case atStart => exact ⟨1, Nat.le_refl _, h1, rfl, by rw [List.take_one]; cases s.data.toList <;> simp [allOf], ⟨_, rfl⟩⟩
          case round =>
            obtain ⟨k, hk1, hk, rfl, ha, hw⟩ := hrel
            have hc3 : wr.cell? ⟨b2, 0, none⟩ = some (.func (.func 136) #[] #[]) := by obtain ⟨n, rfl⟩ := hw; exact hc2
            have HA := Lib.hid ha
            have HW := Lib.hid hw
            clear ha d1 d2 hw hc1 hc2
            by_cases hlt : k < s.size
            · cases hp : alnumI s[k].toNat
              · have HP := Lib.hid hp
                have CP := Lib.hid (fun w : World => hp ▸ salnum_any s[k].toNat w)
                clear hp
                go_wp2
                go_quiet ((go_at_call 136; exact quietE (CP.out _)))
                go_wp2
                go_ret
                exact ⟨ret_bool (nameS_tail (tail_false s k hk1 hlt _ HP.out)).symm, drews HW.out _⟩
              · have HP := Lib.hid hp
                have CP := Lib.hid (fun w : World => hp ▸ salnum_any s[k].toNat w)
                clear hp
                go_wp2
                go_quiet ((go_at_call 136; exact quietE (CP.out _)))
                go_wp2
                go_roundw
                case rel => exact ⟨k + 1, by omega, by omega, by go_num, by rw [tail_take s k hk1 hlt, HA.out, HP.out]; rfl, drews HW.out _⟩
                case measure => simp [intOf]; omega
            · obtain rfl : k = s.size := by omega
              go_wp2
              go_ret
              exact ⟨ret_bool (nameS_yes (by rw [len_size]; omega) HR.out (by rw [head_get h1]; exact HF.out) (by have := HA.out; rwa [take_all] at this)).symm, HW.out⟩
      · have HR := Lib.hid hr
        have CR := Lib.hid (fun w : World => hr ▸ reserved_any s w)
        clear hr
        go_enter Tryz.func163, Tryz.ntmps163
        go_wp2
        go_quiet ((go_at_call 164; exact quietE (CR.out _)))
        go_wp2
        go_ret
        exact ⟨ret_bool (nameS_res HR.out).symm, ⟨_, rfl⟩⟩
    · have d2 : decide (16 < (s.size : Int)) = true := by simp; omega
      go_enter Tryz.func163, Tryz.ntmps163
      go_wp2
      go_quiet (fail)
      go_wp2
      go_ret
      exact ⟨ret_bool (nameS_len (by rw [len_size]; omega)).symm, ⟨_, rfl⟩⟩
  · have d1 : decide ((s.size : Int) < 1) = true := by simp; omega
    go_enter Tryz.func163, Tryz.ntmps163
    go_wp2
    go_quiet (fail)
    go_wp2
    go_ret
    exact ⟨ret_bool (nameS_len (by rw [len_size]; omega)).symm, ⟨_, rfl⟩⟩
end Go.Proofs.YthmnffgjckpkiaaGreatDoor
