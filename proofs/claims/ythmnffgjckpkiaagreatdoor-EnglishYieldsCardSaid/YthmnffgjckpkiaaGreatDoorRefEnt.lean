/-
  Contracts of the references' names and entries: 'in', 'letters', 'Function', 'Predicate' of lyceumref02, 'Proper' and 'Right' of lyceumref33.
-/
import Derived.Test.YthmnffgjckpkiaaGreatDoorRefThird
namespace Go.Proofs.YthmnffgjckpkiaaGreatDoor
open Go Go.RowKit

def inI (lo hi c : Int) : Bool := decide (lo ≤ c ∧ c ≤ hi)
theorem rin_any (c lo hi : Int) (w : World) :
    Calls Tryz.prog 148 #[.int .u8 c, .int .u8 lo, .int .u8 hi] w fun e w' => e = .returned (.bool (inI lo hi c)) ∧ w = w' := by
  by_cases h1 : lo ≤ c <;> by_cases h2 : c ≤ hi
  all_goals
    have hs : inI lo hi c = (decide (lo ≤ c) && decide (c ≤ hi)) := by simp [inI]
    rw [hs]; clear hs
    go_enter Tryz.func148, Tryz.ntmps148
    go_wp2
    go_ret
    simp [h1, h2]

/-- All bytes from the second one on are as p says, up to the k-th one. -/
def From1 (p : Int → Bool) (s : ByteArray) (k : Nat) : Prop := ∀ j (h : j < s.size), 1 ≤ j → j < k → p s[j].toNat = true
theorem from1_more {p : Int → Bool} {s : ByteArray} {k : Nat} (h : From1 p s k) (hk : k < s.size) (hp : p s[k].toNat = true) : From1 p s (k + 1) := fun j hj h1 h2 => by
  rcases Nat.lt_succ_iff_lt_or_eq.1 h2 with h3 | rfl
  · exact h j hj h1 h3
  · exact hp
theorem tail_get (s : ByteArray) (j : Nat) (h : j < s.data.toList.tail.length) : s.data.toList.tail[j] = s[j + 1]'(by simp at h; omega) := by
  simp [ByteArray.getElem_eq_getElem_data]
theorem tail_all {p : Int → Bool} {s : ByteArray} (h : From1 p s s.size) : allOf p s.data.toList.tail = true := by
  unfold allOf
  rw [List.all_eq_true]
  intro c hc
  obtain ⟨j, hj, rfl⟩ := List.getElem_of_mem hc
  rw [tail_get s j hj]
  have hj' : j + 1 < s.size := by simp at hj; omega
  exact h (j + 1) hj' (by omega) hj'
theorem tail_bad {p : Int → Bool} {s : ByteArray} {k : Nat} (h1 : 1 ≤ k) (h : k < s.size) (hp : p s[k].toNat = false) : allOf p s.data.toList.tail = false := by
  unfold allOf
  rw [List.all_eq_false]
  refine ⟨s[k], ?_, by simp [hp]⟩
  have hl : k - 1 < s.data.toList.tail.length := by simp; omega
  have := List.getElem_mem hl
  rw [tail_get s (k - 1) hl] at this
  have e : k - 1 + 1 = k := by omega
  simp only [e] at this
  exact this

/-- Letters and digits behind the first byte. -/
def lettersS (l : List UInt8) : Bool := decide (1 ≤ l.length ∧ l.length ≤ 16) && allOf alnumI l.tail
theorem alnum_in (c : Int) : alnumI c = (inI 48 57 c || (inI 65 90 c || inI 97 122 c)) := by
  unfold alnumI smallI capI digI inI
  rw [Bool.eq_iff_iff]; simp; omega

set_option maxHeartbeats 1000000 in
theorem rletters_any (s : ByteArray) (w : World) (hs : s.size ≤ 9223372036854775807) :
    Calls Tryz.prog 147 #[.string s, .bool false] w fun e w' => e = .returned (.bool (lettersS s.data.toList)) ∧ w = w' := by
  go_enter Tryz.func147, Tryz.ntmps147
  go_wp2
  go_loop [5] (fun i => ∃ k : Nat, 1 ≤ k ∧ k ≤ s.size + 1 ∧ i = .int .i64 k ∧ From1 alnumI s k) (fun i => s.size + 1 - (intOf i).toNat)
  case atStart => exact ⟨1, by omega, by omega, rfl, fun j _ h1 h2 => by omega⟩
  case round =>
    obtain ⟨k, h1, hk, rfl, ha⟩ := hrel
    have HA := Lib.hid ha
    clear ha
    by_cases hlt : k < s.size
    · have hal := alnum_in s[k].toNat
      have HAl := Lib.hid hal
      clear hal
      go_wp2_with (go_at_call 148; refine (rin_any _ _ _ _).mono ?_; rintro e w' ⟨rfl, rfl⟩)
      · have hp : inI 48 57 ↑s[k].toNat = true := by assumption
        go_round
        case rel => exact ⟨k + 1, by omega, by omega, by go_num, from1_more HA.out hlt (by rw [HAl.out, hp]; rfl)⟩
        case measure => simp [intOf]; omega
      · have hp : inI 65 90 ↑s[k].toNat = true := by assumption
        go_round
        case rel => exact ⟨k + 1, by omega, by omega, by go_num, from1_more HA.out hlt (by rw [HAl.out, hp]; simp)⟩
        case measure => simp [intOf]; omega
      · have hp : ¬ inI 48 57 ↑s[k].toNat = true := by assumption
        have hq : ¬ inI 65 90 ↑s[k].toNat = true := by assumption
        have hr : (!inI 97 122 ↑s[k].toNat) = true := by assumption
        go_ret
        have h0 := tail_bad (p := alnumI) h1 hlt (by rw [HAl.out, eq_false_of_ne_true hp, eq_false_of_ne_true hq, (by simpa using hr : inI 97 122 ↑s[k].toNat = false)]; rfl)
        exact ⟨ret_bool (by unfold lettersS; rw [h0, Bool.and_false]), rfl⟩
      · have hr : (!inI 97 122 ↑s[k].toNat) = false := by assumption
        go_round
        case rel => exact ⟨k + 1, by omega, by omega, by go_num, from1_more HA.out hlt (by rw [HAl.out, (by simpa using hr : inI 97 122 ↑s[k].toNat = true)]; simp)⟩
        case measure => simp [intOf]; omega
    · have hall := tail_all (p := alnumI) (s := s) (fun j hj h2 _ => HA.out j hj h2 (by omega))
      have HAll := Lib.hid hall
      clear hall
      by_cases h3 : 0 < s.size
      · by_cases h4 : s.size ≤ 16
        · go_wp2
          go_ret
          exact ⟨ret_bool (by unfold lettersS; rw [HAll.out, len_data]; rw [Bool.eq_iff_iff]; simp; omega), rfl⟩
        · go_wp2
          go_ret
          exact ⟨ret_bool (by unfold lettersS; rw [HAll.out, len_data]; rw [Bool.eq_iff_iff]; simp; omega), rfl⟩
      · go_wp2
        go_ret
        exact ⟨ret_bool (by unfold lettersS; rw [HAll.out, len_data]; simp; omega), rfl⟩

/-- The five words that are no names of functions. -/
def resR : List (List UInt8) := [[97, 108, 108], [115, 111, 109, 101], [102, 97, 108, 115, 101], [110, 101, 120, 116], [97, 108, 119, 97, 121, 115]]
theorem letters_pos {l : List UInt8} (h : lettersS l = true) : 1 ≤ l.length ∧ l.length ≤ 16 := by
  unfold lettersS at h; simp only [Bool.and_eq_true, decide_eq_true_eq] at h; exact h.1
theorem nameS_no {f : Int → Bool} {l : List UInt8} (h : lettersS l = false) : nameS f l = false := by
  unfold lettersS at h
  unfold nameS
  cases h1 : decide (1 ≤ l.length ∧ l.length ≤ 16)
  · rfl
  · rw [h1, Bool.true_and] at h
    rw [h]; simp
theorem rname_yes {f : Int → Bool} {l : List UInt8} (h : lettersS l = true) (hr : reservedS l = true → f (l.headD 0).toNat = false) : nameS f l = f (l.headD 0).toNat := by
  unfold lettersS at h
  unfold nameS
  simp only [Bool.and_eq_true] at h
  rw [h.1, h.2]
  cases hc : reservedS l
  · simp
  · rw [hr hc]; rfl
theorem res_head {l : List UInt8} (h : reservedS l = true) : ∃ c : UInt8, l.headD 0 = c ∧ 97 ≤ c.toNat := by
  unfold reservedS reservedL at h
  simp at h
  rcases h with rfl | rfl | rfl | rfl | rfl | rfl
  all_goals exact ⟨_, rfl, by decide⟩
theorem fn_res {l : List UInt8} (h : reservedS l = true) (hn : l ∉ resR) : fnI (l.headD 0).toNat = false := by
  unfold reservedS reservedL at h
  unfold resR at hn
  simp at h hn
  rcases h with rfl | rfl | rfl | rfl | rfl | rfl
  all_goals first | decide | (simp at hn)
theorem fn_in (c : Int) : fnI c = inI 97 116 c := rfl
theorem cap_in (c : Int) : capI c = inI 65 90 c := rfl

set_option maxHeartbeats 1000000 in
theorem rPredicate_any (s : ByteArray) (w : World) (hs : s.size ≤ 9223372036854775807) :
    Calls Tryz.prog 108 #[.string s] w fun e w' => e = .returned (.bool (nameS capI s.data.toList)) ∧ w = w' := by
  cases hl : lettersS s.data.toList
  · rw [nameS_no hl]
    have HL := Lib.hid hl
    clear hl
    go_enter Tryz.func108, Tryz.ntmps108
    go_wp2_with fail
    refine (HL.out ▸ rletters_any s w hs).mono ?_
    rintro e w' ⟨rfl, rfl⟩
    go_wp2
    go_ret
    exact ⟨rfl, rfl⟩
  · have hp := letters_pos hl
    rw [len_data] at hp
    rw [rname_yes hl (fun h => by obtain ⟨c, hc, h97⟩ := res_head h; rw [hc]; unfold capI; simp; omega), headD_get (by omega), cap_in]
    have HL := Lib.hid hl
    clear hl
    have h0 : 0 < s.size := by omega
    go_enter Tryz.func108, Tryz.ntmps108
    go_wp2_with fail
    refine (HL.out ▸ rletters_any s w hs).mono ?_
    rintro e w' ⟨rfl, rfl⟩
    go_wp2_with (go_at_call 148; refine (rin_any _ _ _ _).mono ?_; rintro e w' ⟨rfl, rfl⟩)
    go_ret
    exact ⟨rfl, rfl⟩
set_option maxHeartbeats 1000000 in
theorem rSynFunction_any (s : ByteArray) (w : World) (hs : s.size ≤ 9223372036854775807) :
    Calls Tryz.prog 106 #[.string s] w fun e w' => e = .returned (.bool (nameS fnI s.data.toList)) ∧ w = w' := by
  by_cases hm : s.data.toList ∈ resR
  · have hn : nameS fnI s.data.toList = false := by
      unfold resR at hm
      simp at hm
      rcases hm with h | h | h | h | h <;> (rw [h]; decide)
    rw [hn]
    have he := ByteArray.toList_eq s
    obtain ⟨l, hl⟩ : ∃ l, l = s.data.toList := ⟨_, rfl⟩
    rw [← hl] at he hm
    clear hl hn
    unfold resR at hm
    simp at hm
    rcases hm with rfl | rfl | rfl | rfl | rfl
    all_goals
      go_enter Tryz.func106, Tryz.ntmps106
      go_wp2
      go_ret
      exact ⟨rfl, rfl⟩
  · have hmm := hm
    unfold resR at hmm
    simp only [List.mem_cons, List.not_mem_nil, or_false, not_or] at hmm
    obtain ⟨n1, n2, n3, n4, n5⟩ := hmm
    rw [← ByteArray.toList_eq] at n1 n2 n3 n4 n5
    have n1 := beq_eq_false_iff_ne.2 n1
    have n2 := beq_eq_false_iff_ne.2 n2
    have n3 := beq_eq_false_iff_ne.2 n3
    have n4 := beq_eq_false_iff_ne.2 n4
    have n5 := beq_eq_false_iff_ne.2 n5
    cases hl : lettersS s.data.toList
    · rw [nameS_no hl]
      have HL := Lib.hid hl
      clear hl
      go_enter Tryz.func106, Tryz.ntmps106
      go_wp2_with fail
      refine (HL.out ▸ rletters_any s w hs).mono ?_
      rintro e w' ⟨rfl, rfl⟩
      go_wp2
      go_ret
      exact ⟨rfl, rfl⟩
    · have hp := letters_pos hl
      rw [len_data] at hp
      rw [rname_yes hl (fun h => fn_res h hm), headD_get (by omega), fn_in]
      have HL := Lib.hid hl
      clear hl
      have h0 : 0 < s.size := by omega
      go_enter Tryz.func106, Tryz.ntmps106
      go_wp2_with fail
      refine (HL.out ▸ rletters_any s w hs).mono ?_
      rintro e w' ⟨rfl, rfl⟩
      go_wp2_with (go_at_call 148; refine (rin_any _ _ _ _).mono ?_; rintro e w' ⟨rfl, rfl⟩)
      go_ret
      exact ⟨rfl, rfl⟩
end Go.Proofs.YthmnffgjckpkiaaGreatDoor
