/-
  Contracts of the reference's 'Plain', 'ThirdOf', 'Third' and 'Article': what the program's functions return.
-/
import Derived.Test.YthmnffgjckpkiaaGreatDoorRefFn
import Derived.Test.YthmnffgjckpkiaaGreatDoorPlainE
namespace Go.Proofs.YthmnffgjckpkiaaGreatDoor
open Go Go.RowKit

def vowelI (c : Int) : Bool := c == 97 || c == 101 || c == 105 || c == 111 || c == 117
theorem rvowel_any (c : Int) (w : World) :
    Calls Tryz.prog 161 #[.int .u8 c] w fun e w' => e = .returned (.bool (vowelI c)) ∧ w = w' := by
  go_enter Tryz.func161, Tryz.ntmps161
  go_wp2
  all_goals
    go_ret
    refine ⟨ret_bool ?_, rfl⟩
    simp_all [vowelI]
theorem vowel_one (c : UInt8) : inVowels [c] = vowelI c.toNat := by
  have h : ∀ n, n < 256 → inVowels [UInt8.ofNat n] = vowelI (UInt8.ofNat n).toNat := by decide +kernel
  have := h c.toNat (UInt8.toNat_lt _)
  simpa using this

set_option maxHeartbeats 1000000 in
theorem rPlain_any (s : ByteArray) (w : World) (hs : s.size ≤ 9223372036854775807) :
    Calls Tryz.prog 107 #[.string s] w fun e w' => e = .returned (.bool (plainS s.data.toList)) ∧ w = w' := by
  have hp : plainS s.data.toList = (decide (1 ≤ s.size) && (decide (s.size ≤ 16) && allSmall s.data.toList)) := by
    unfold plainS; rw [Bool.decide_and, Bool.and_assoc]; rfl
  rw [hp]; clear hp
  go_enter Tryz.func107, Tryz.ntmps107
  go_wp2
  go_loop [3] (fun i => ∃ k : Nat, k ≤ s.size ∧ i = .int .i64 k ∧ allSmall (s.data.toList.take k) = true) (fun i => s.size - (intOf i).toNat)
  case atStart => exact ⟨0, Nat.zero_le _, rfl, by simp [allSmall]⟩
  case round =>
    obtain ⟨k, hk, rfl, ha⟩ := hrel
    have HA := Lib.hid ha
    clear ha
    by_cases hlt : k < s.size
    · go_wp2_with (go_at_call 109; refine (rsmall_any _ _).mono ?_; rintro e w' ⟨rfl, rfl⟩)
      · have hp : (!smallI ↑s[k].toNat) = true := by assumption
        go_ret
        have h0 : allSmall s.data.toList = false := all_false_at (fun c => smallI c.toNat) s k hlt (by simpa using hp)
        exact ⟨ret_bool (by rw [h0]; simp), rfl⟩
      · have hp : (!smallI ↑s[k].toNat) = false := by assumption
        go_round
        case rel => exact ⟨k + 1, by omega, by go_num, by unfold allSmall; rw [all_take_succ _ _ _ hlt]; have := HA.out; unfold allSmall at this; rw [this]; simpa using hp⟩
        case measure => simp [intOf]; omega
    · have hall : allSmall s.data.toList = true := by have := HA.out; rw [List.take_of_length_le (by simp; omega)] at this; exact this
      have HAll := Lib.hid hall
      clear hall
      by_cases h1 : 1 ≤ s.size
      · by_cases h2 : s.size ≤ 16
        · go_wp2
          go_ret
          exact ⟨ret_bool (by simp [HAll.out]; omega), rfl⟩
        · go_wp2
          go_ret
          exact ⟨ret_bool (by simp; omega), rfl⟩
      · go_wp2
        go_ret
        exact ⟨ret_bool (by simp), rfl⟩

/-- The third form by the last two letters. -/
def thirdR (l : List UInt8) (x y : Nat) : List UInt8 :=
  if y = 115 ∨ y = 120 ∨ y = 122 then l ++ [101, 115]
  else if y = 104 ∧ (x = 99 ∨ x = 115) then l ++ [101, 115]
  else if y = 111 ∧ vowelI x = false then l ++ [101, 115]
  else if y = 121 ∧ vowelI x = false then l.take (l.length - 1) ++ [105, 101, 115]
  else l ++ [115]
theorem third_pair (x y : UInt8) : thirdS [x, y] = thirdR [x, y] x.toNat y.toNat := by
  have n : ∀ (a b : UInt8), (a = b) = (a.toNat = b.toNat) := fun a b => by rw [UInt8.toNat_inj]
  have e1 : ∀ c : UInt8, Lib.hasSuffix [x, y] [c] = decide (y.toNat = c.toNat) := by
    intro c
    rw [Bool.eq_iff_iff, Lib.hasSuffix, List.isSuffixOf_iff_suffix, decide_eq_true_eq, ← n]
    constructor
    · rintro ⟨p, hp⟩
      match p, hp with
      | [z], h => simp at h; exact h.2.symm
      | [], h => simp at h
      | z :: z' :: r, h => simp at h
    · rintro rfl; exact ⟨[x], rfl⟩
  have e2 : ∀ c d : UInt8, Lib.hasSuffix [x, y] [c, d] = decide (x.toNat = c.toNat ∧ y.toNat = d.toNat) := by
    intro c d
    rw [Bool.eq_iff_iff, Lib.hasSuffix, List.isSuffixOf_iff_suffix, decide_eq_true_eq, ← n, ← n]
    constructor
    · rintro ⟨p, hp⟩
      match p, hp with
      | [], h => simp at h; exact ⟨h.1.symm, h.2.symm⟩
      | z :: r, h => simp at h; have := congrArg List.length h.2; simp at this
    · rintro ⟨rfl, rfl⟩; exact ⟨[], rfl⟩
  have e0 : Lib.hasSuffix [x, y] [] = true := by simp [Lib.hasSuffix]
  have t1 : ∀ c : UInt8, y.toNat = c.toNat → hardS (Lib.trimSuffix [x, y] [c]) = !vowelI x.toNat := by
    intro c hc
    have : Lib.trimSuffix [x, y] [c] = [x] := by rw [Lib.trimSuffix, if_pos (by rw [e1]; simpa using hc)]; rfl
    rw [this, hardS]
    simp [vowel_one]
  have f1 := t1 111
  have f2 := t1 121
  unfold thirdS endsS
  simp only [List.find?, fitsS, e1, e2, e0]
  unfold thirdR
  by_cases h1 : y.toNat = 115
  · simp [h1, putS]
  · by_cases h2 : y.toNat = 120
    · simp [h2, putS]
    · by_cases h3 : y.toNat = 122
      · simp [h3, putS]
      · by_cases h4 : y.toNat = 104
        · by_cases h5 : x.toNat = 99
          · simp [h4, h5, putS]
          · by_cases h6 : x.toNat = 115
            · simp [h4, h6, putS]
            · simp [h4, h5, h6, putS]
        · by_cases h5 : y.toNat = 111
          · have := f1 h5
            cases hv : vowelI x.toNat
            · rw [hv] at this; simp [h5, this, putS]
            · rw [hv] at this; simp [h5, this, putS]
          · by_cases h6 : y.toNat = 121
            · have := f2 h6
              cases hv : vowelI x.toNat
              · rw [hv] at this; simp [h6, this, putS]
              · rw [hv] at this; simp [h6, this, putS]
            · simp [h1, h2, h3, h4, h5, h6, putS]
theorem third_single (y : UInt8) : thirdS [y] = if y.toNat = 115 ∨ y.toNat = 120 ∨ y.toNat = 122 then [y, 101, 115] else [y, 115] := by
  have h : ∀ n, n < 256 → thirdS [UInt8.ofNat n] = if (UInt8.ofNat n).toNat = 115 ∨ (UInt8.ofNat n).toNat = 120 ∨ (UInt8.ofNat n).toNat = 122 then [UInt8.ofNat n, 101, 115] else [UInt8.ofNat n, 115] := by decide +kernel
  have := h y.toNat (UInt8.toNat_lt _)
  simpa using this
theorem thirdR_app (p : List UInt8) (x y : UInt8) (a b : Nat) : thirdR (p ++ [x, y]) a b = p ++ thirdR [x, y] a b := by
  have e : (p ++ [x, y]).take ((p ++ [x, y]).length - 1) = p ++ [x] := by
    rw [List.take_append, List.take_of_length_le (by simp)]
    congr 1
    have : (p ++ [x, y]).length - 1 - p.length = 1 := by simp
    rw [this]; rfl
  unfold thirdR
  rw [e]
  by_cases c1 : b = 115 ∨ b = 120 ∨ b = 122
  · rw [if_pos c1, if_pos c1]; simp
  · rw [if_neg c1, if_neg c1]
    by_cases c2 : b = 104 ∧ (a = 99 ∨ a = 115)
    · rw [if_pos c2, if_pos c2]; simp
    · rw [if_neg c2, if_neg c2]
      by_cases c3 : b = 111 ∧ vowelI a = false
      · rw [if_pos c3, if_pos c3]; simp
      · rw [if_neg c3, if_neg c3]
        by_cases c4 : b = 121 ∧ vowelI a = false
        · rw [if_pos c4, if_pos c4]; simp
        · rw [if_neg c4, if_neg c4]; simp
theorem third_long (l : List UInt8) (x y : UInt8) (h : 2 ≤ l.length) (hx : l[l.length - 2]? = some x) (hy : l[l.length - 1]? = some y) : thirdS l = thirdR l x.toNat y.toNat := by
  have hl : l = l.take (l.length - 2) ++ [x, y] := by
    have h2 : (l.drop (l.length - 2)) = [x, y] := by
      apply List.ext_getElem?
      intro i
      rw [List.getElem?_drop]
      match i with
      | 0 => simpa using hx
      | 1 => rw [show l.length - 2 + 1 = l.length - 1 by omega]; simpa using hy
      | i + 2 => rw [List.getElem?_eq_none (by omega)]; simp
    rw [← h2, List.take_append_drop]
  obtain ⟨p, hp⟩ : ∃ p, p = l.take (l.length - 2) := ⟨_, rfl⟩
  rw [← hp] at hl
  subst hl
  rw [third_two, third_pair]
  exact (thirdR_app p x y _ _).symm

set_option maxRecDepth 100000 in
set_option maxHeartbeats 4000000 in
theorem rThirdOf_any (s : ByteArray) (w : World) (h1 : 1 ≤ s.size) (hs : s.size ≤ 1000000) :
    Calls Tryz.prog 127 #[.string s] w fun e w' => e = .returned (.string ⟨(thirdS s.data.toList).toArray⟩) ∧ Below w.heap.size w w' := by
  have hlen := len_data s
  obtain ⟨y, hy⟩ : ∃ y : UInt8, s.data.toList[s.size - 1]? = some y := ⟨s.data.toList[s.size - 1]'(by omega), List.getElem?_eq_getElem _⟩
  have hyy : s[s.size - 1]'(Nat.sub_lt h1 (by decide)) = y := by
    rw [List.getElem?_eq_getElem (by omega)] at hy
    rw [← Option.some.inj hy]; simp [ByteArray.getElem_eq_getElem_data]
  have hlt1 : s.size - 1 < s.size := by omega
  have i1 : IntKind.i64.wrap ((s.size : Int) - 1) = (s.size : Int) - 1 := IntWalk.i64_in _ (by omega)
  have i2 : ((s.size : Int) - 1).toNat = s.size - 1 := by omega
  have i3 : (0 : Int) ≤ (s.size : Int) - 1 := by omega
  have i4 : (s.size : Int) - 1 < s.size := by omega
  have i5 : (s.size : Int) - 1 ≤ s.size := by omega
  have a1 : ∀ w, (Op.stringOp .add s ⟨#[101, 115]⟩).run Tryz.prog w = .ok (.string ⟨(s.data.toList ++ [101, 115]).toArray⟩) w := fun w => by rw [← cat_str]; exact run_string_add_sum w _ _ (by have h1 : (⟨#[101, 115]⟩ : ByteArray).size = 2 := rfl; omega)
  have a2 : ∀ w, (Op.stringOp .add s ⟨#[115]⟩).run Tryz.prog w = .ok (.string ⟨(s.data.toList ++ [115]).toArray⟩) w := fun w => by rw [← cat_str]; exact run_string_add_sum w _ _ (by have h1 : (⟨#[115]⟩ : ByteArray).size = 1 := rfl; omega)
  have a3 : ∀ w, (Op.stringOp .add (s.extract 0 (s.size - 1)) ⟨#[105, 101, 115]⟩).run Tryz.prog w = .ok (.string ⟨(s.data.toList.take (s.size - 1) ++ [105, 101, 115]).toArray⟩) w := fun w => by rw [← cut_str]; exact run_string_add_sum w _ _ (by have h1 : (⟨#[105, 101, 115]⟩ : ByteArray).size = 3 := rfl; simp; omega)
  by_cases h2 : 2 ≤ s.size
  · obtain ⟨x, hx⟩ : ∃ x : UInt8, s.data.toList[s.size - 2]? = some x := ⟨s.data.toList[s.size - 2]'(by omega), List.getElem?_eq_getElem _⟩
    have hxx : s[s.size - 2]'(Nat.sub_lt h1 (by decide)) = x := by
      rw [List.getElem?_eq_getElem (by omega)] at hx
      rw [← Option.some.inj hx]; simp [ByteArray.getElem_eq_getElem_data]
    have hlt2 : s.size - 2 < s.size := by omega
    have hT := third_long s.data.toList x y (by omega) (by rw [hlen]; exact hx) (by rw [hlen]; exact hy)
    have HT := Lib.hid hT
    have HL := Lib.hid hlen
    have j1 : IntKind.i64.wrap ((s.size : Int) - 2) = (s.size : Int) - 2 := IntWalk.i64_in _ (by omega)
    have j2 : ((s.size : Int) - 2).toNat = s.size - 2 := by omega
    have j3 : (0 : Int) ≤ (s.size : Int) - 2 := by omega
    have j4 : (s.size : Int) - 2 < s.size := by omega
    clear hx hy hT hlen
    go_enter Tryz.func127, Tryz.ntmps127
    go_wp2_with (go_at_call 161; refine (rvowel_any _ _).mono ?_; rintro e w' ⟨rfl, rfl⟩)
    all_goals
      go_ret
      refine ⟨ret_str ?_, Below.refl _ _⟩
      rw [HT.out]
      unfold thirdR
      rw [HL.out]
      repeat' split
      all_goals first
        | rfl
        | (exfalso; omega)
        | (exfalso; simp_all; done)
        | (exfalso; simp_all; omega)
  · have hs1 : s.size = 1 := by omega
    have hl : s.data.toList = [y] := by
      have h3 : s.data.toList.length = 1 := by omega
      match hd : s.data.toList, h3 with
      | [z], _ => rw [hd, hs1] at hy; simp at hy; rw [hy]
    have hT := third_single y
    rw [hl]
    have HT := Lib.hid hT
    have HL := Lib.hid hl
    clear hy hT hlen hl hs1
    go_enter Tryz.func127, Tryz.ntmps127
    go_wp2_with (go_at_call 161; refine (rvowel_any _ _).mono ?_; rintro e w' ⟨rfl, rfl⟩)
    all_goals
      go_ret
      refine ⟨ret_str ?_, Below.refl _ _⟩
      rw [HT.out, HL.out]
      repeat' split
      all_goals first
        | rfl
        | (exfalso; omega)
        | (exfalso; simp_all; done)
        | (exfalso; simp_all; omega)

theorem rArticle_any (s : ByteArray) (w : World) (hs : s.size ≤ 9223372036854775807) :
    Calls Tryz.prog 128 #[.string s] w fun e w' => e = .returned (.string ⟨(articleS s.data.toList).toArray⟩) ∧ w = w' := by
  by_cases h : s.size = 0
  · have e : articleS s.data.toList = [97] := by rw [data_empty h]; rfl
    rw [e]
    clear e
    go_enter Tryz.func128, Tryz.ntmps128
    go_wp2
    go_ret
    exact ⟨rfl, rfl⟩
  · have h0 : 0 < s.size := Nat.pos_of_ne_zero h
    have h3 := data_some h0
    have h4 : inVowels (s.data.toList.take 1) = vowelI s[0].toNat := by
      have e : s.data.toList.take 1 = [s[0]] := by
        rw [← headD_get h0]
        have hl := len_data s
        match hd : s.data.toList with
        | [] => rw [hd] at hl; simp at hl; omega
        | c :: r => simp
      rw [e, vowel_one]
    have H4 := Lib.hid h4
    have H3 := Lib.hid h3
    clear h h3 h4
    cases hv : vowelI s[0].toNat
    all_goals
      have C := Lib.hid (fun w => hv ▸ rvowel_any (s[0].toNat : Int) w)
      have HV := Lib.hid hv
      clear hv
      go_enter Tryz.func128, Tryz.ntmps128
      go_wp2_with (go_at_call 161; refine (C.out _).mono ?_; rintro e w' ⟨rfl, rfl⟩)
      go_ret
      exact ⟨ret_str (by unfold articleS; rw [H3.out, H4.out, HV.out]; rfl), rfl⟩
end Go.Proofs.YthmnffgjckpkiaaGreatDoor
