/-
  The contracts of Count, Parses and Sentence of the reference of chapter 34.
-/
import Derived.Test.YthmnffgjckpkiaaGreatDoorRTrees
import Derived.Test.YthmnffgjckpkiaaGreatDoorSD
import Derived.Test.YthmnffgjckpkiaaGreatDoorSB
import Derived.Test.YthmnffgjckpkiaaGreatDoorSA
import Derived.Test.YthmnffgjckpkiaaGreatDoorGEngI
namespace Go.Proofs.YthmnffgjckpkiaaGreatDoor
open Go Go.RowKit Go.Shelf

theorem bare_len (toks : List (List UInt8)) : (bareS toks).length ≤ toks.length := by
  unfold bareS
  split
  · rw [List.length_dropLast]; omega
  · simp
theorem count_is (l : List Ent) (toks : List (List UInt8)) (hv : validS l = true) (h24 : toks.length ≤ 24) : countS l toks = (cntS ⟨l, bareS toks⟩ 1 0 (bareS toks).length, 0) := by
  rw [countS_good hv h24]
  by_cases h : toks.getLast? = some wDot
  · rw [if_pos (by simpa using h)]
  · rw [if_neg (by simpa using h)]
    have hb : bareS toks = [] := by unfold bareS; rw [if_neg h]
    rw [hb]
    show _ = (cntS ⟨l, []⟩ 1 0 0, (0 : Int))
    rw [cntS_zero ⟨l, []⟩ (Nat.le_refl 0)]
set_option maxRecDepth 100000 in
set_option maxHeartbeats 4000000 in
theorem rCount_any (w : World) (lv tv : Value) (l : List Ent) (hl : EntSlice w lv l) (toks : List (List UInt8)) (hts : StrSlice w tv toks) :
    Calls Tryz.prog 44 #[lv, tv] w fun e w' => e = .returned (.tuple #[.int .i64 (countS l toks).1, .int .i64 (countS l toks).2]) ∧ Below w.heap.size w w' := by
  obtain ⟨ta, tcap, htv, htc, htcm, htf⟩ := id hts
  have HV := Lib.hid (rValid_any w lv l hl)
  have HL := Lib.hid hl
  have HTs := Lib.hid hts
  obtain ⟨n, hn⟩ : ∃ n, n = toks.length := ⟨_, rfl⟩
  rw [← hn] at htv
  subst htv
  have HN := Lib.hid hn
  clear hl hts htc htcm htf hn
  cases hval : validS l with
  | false =>
    rw [hval] at HV
    rw [countS_bad hval]
    clear hval
    go_enter Tryz.func44, Tryz.ntmps44
    go_wp2_with (go_at_call 41; refine HV.out.mono ?_; rintro _ w1 ⟨rfl, hb1⟩)
    go_ret2
    exact ⟨rfl, hb1⟩
  | true =>
    rw [hval] at HV
    have HVal := Lib.hid hval
    by_cases h24 : 24 < n
    · rw [countS_long hval (by rw [← HN.out]; exact h24)]
      have d1 : decide ((24 : Int) < (n : Int)) = true := decide_eq_true (by omega)
      have d2 : decide (24 < n) = true := decide_eq_true h24
      clear hval h24
      go_enter Tryz.func44, Tryz.ntmps44
      go_wp2_with (go_at_call 41; refine HV.out.mono ?_; rintro _ w1 ⟨rfl, hb1⟩)
      go_ret2
      exact ⟨rfl, hb1⟩
    · have hc := count_is l toks hval (by rw [← HN.out]; omega)
      rw [hc]
      have d1 : decide ((24 : Int) < (n : Int)) = false := decide_eq_false (by omega)
      have d2 : decide (24 < n) = false := decide_eq_false h24
      have hbl : (bareS toks).length ≤ 24 := by have := bare_len toks; rw [← HN.out] at this; omega
      obtain ⟨bt, hbt⟩ : ∃ bt, bt = bareS toks := ⟨_, rfl⟩
      rw [← hbt] at hbl ⊢
      have HBt := Lib.hid hbt
      have HBl := Lib.hid hbl
      obtain ⟨C, hC⟩ : ∃ C, C = cntS ⟨l, bt⟩ 1 0 bt.length := ⟨_, rfl⟩
      rw [← hC]
      have HC := Lib.hid hC
      clear hval h24 hc hbl hbt hC
      go_enter Tryz.func44, Tryz.ntmps44
      go_wp2_with fail
      refine HV.out.mono ?_
      rintro _ w1 ⟨rfl, hb1⟩
      have HB1 := Lib.hid hb1
      clear hb1
      go_wp2_with fail
      refine (rBare_any w1 _ toks (by rw [HN.out] ; exact HN.out ▸ HTs.out.below HB1.out)).mono ?_
      rintro _ w2 ⟨bv, rfl, hbv, hb2⟩
      rw [← HBt.out] at hbv
      have hb2' := HB1.out.trans (hb2.mono HB1.out.size)
      have hgin : GIn w2 ⟨l, bt⟩ lv bv := ⟨HL.out.below hb2', hbv, HVal.out, valid_100 HVal.out, by show bt.length ≤ 1000; have := HBl.out; omega⟩
      obtain ⟨ba, bcap, hbf, _⟩ := id hbv
      have HBv := Lib.hid hbf
      have HG := Lib.hid hgin
      have HB2 := Lib.hid hb2'
      clear hbv hb2 hb2' hgin hbf
      obtain ⟨m, hm⟩ : ∃ m, m = bt.length := ⟨_, rfl⟩
      have HM := Lib.hid hm
      have hbf := HBv.out
      rw [← hm] at hbf
      subst hbf
      clear hm HBv
      go_wp2_with fail
      refine (rTable_any w2 ⟨l, bt⟩ lv _ HG.out (by show bt.length ≤ 900; have := HBl.out; omega)).mono ?_
      rintro _ w3 ⟨tabv, d, rfl, hT, hF, hb3⟩
      have HT := Lib.hid hT
      have HF := Lib.hid hF
      have HB3 := Lib.hid (HB2.out.trans (hb3.mono HB2.out.size))
      clear hT hF hb3
      have hcall := rNumber_any w3 w2.heap.size bt.length tabv d HT.out (1, 0, m) (by have := HBl.out; omega) (by show 1 < 8; decide) (Nat.zero_le _) (by rw [HM.out]; exact Nat.le_refl _)
      have hnum : numS (cOf d) (1, 0, m) = C := by
        rw [HC.out, ← HM.out]
        have := HF.out.num (p := (1, 0, m)) (Nat.le_refl 1) (Nat.le_of_ble_eq_true rfl) (by show m ≤ bt.length; rw [HM.out]; exact Nat.le_refl _) (by show m - 0 < bt.length + 1; rw [HM.out]; omega)
        rw [this, numS_cnt]
      rw [hnum] at hcall
      have HCall := Lib.hid hcall
      clear hcall hnum
      go_wp2_with fail
      refine HCall.out.mono ?_
      rintro _ w4 ⟨rfl, hb4⟩
      have HB4 := Lib.hid (HB3.out.trans (hb4.mono HB3.out.size))
      clear hb4
      go_wp2
      go_ret2
      exact ⟨rfl, HB4.out⟩
/-- What Parses of the reference returns. -/
def RParsesOk (w : World) (x : List Tr × Int) (e : Ending) (w' : World) : Prop := ∃ rv, e = .returned (.tuple #[rv, .int .i64 x.2]) ∧ TreesR w.heap.size w' rv x.1 ∧ Below w.heap.size w w'
set_option maxRecDepth 100000 in
set_option maxHeartbeats 4000000 in
theorem rParses_any (w : World) (lv tv : Value) (l : List Ent) (hl : EntSlice w lv l) (toks : List (List UInt8)) (hts : StrSlice w tv toks) :
    Calls Tryz.prog 43 #[lv, tv] w (RParsesOk w (parsesS l toks)) := by
  have hC := rCount_any w lv tv l hl toks hts
  obtain ⟨C, hCC⟩ : ∃ C, C = countS l toks := ⟨_, rfl⟩
  have hp : parsesS l toks = if C.2 ≠ 0 then ([], C.2) else if C.1 = 0 then ([], 6) else if 64 < C.1 then ([], 5) else (treesS ⟨l, bareS toks⟩ 1 0 (bareS toks).length, 0) := by rw [hCC]; rfl
  rw [← hCC] at hC
  have HC := Lib.hid hC
  have HP := Lib.hid hp
  have HCC := Lib.hid hCC
  have HL := Lib.hid hl
  have HTs := Lib.hid hts
  clear hC hp hCC hl hts
  obtain ⟨c, e⟩ := C
  simp only at HC
  by_cases he : e = 0
  · have e1 : (e != 0) = false := by rw [he]; rfl
    have e1' : (e == 0) = true := by rw [he]; rfl
    by_cases h0 : c = 0
    · have e2 : ((c : Int) == 0) = true := by rw [h0]; rfl
      have hr : parsesS l toks = ([], 6) := by rw [HP.out, if_neg (by simpa using he), if_pos h0]
      rw [hr]
      clear hr h0
      have HE := Lib.hid he
      clear he
      go_enter Tryz.func43, Tryz.ntmps43
      go_wp2_with (go_at_call 44; refine HC.out.mono ?_; rintro _ w1 ⟨rfl, hb1⟩)
      go_ret2
      exact ⟨_, rfl, TreesR.nil _ _ _, hb1⟩
    · have e2 : ((c : Int) == 0) = false := by simp; exact h0
      by_cases h64 : 64 < c
      · have e3 : decide ((64 : Int) < (c : Int)) = true := decide_eq_true (by omega)
        have e3' : decide (64 < c) = true := decide_eq_true h64
        have hr : parsesS l toks = ([], 5) := by rw [HP.out, if_neg (by simpa using he), if_neg h0, if_pos h64]
        rw [hr]
        have HE := Lib.hid he
        clear hr h0 he h64
        go_enter Tryz.func43, Tryz.ntmps43
        go_wp2_with (go_at_call 44; refine HC.out.mono ?_; rintro _ w1 ⟨rfl, hb1⟩)
        go_ret2
        exact ⟨_, rfl, TreesR.nil _ _ _, hb1⟩
      · have e3 : decide ((64 : Int) < (c : Int)) = false := decide_eq_false (by omega)
        have e3' : decide (64 < c) = false := decide_eq_false h64
        have hr : parsesS l toks = (treesS ⟨l, bareS toks⟩ 1 0 (bareS toks).length, 0) := by rw [HP.out, if_neg (by simpa using he), if_neg h0, if_neg h64]
        have hval : validS l = true := by
          cases hv : validS l with
          | true => rfl
          | false =>
            have h9 := HCC.out
            rw [countS_bad hv] at h9
            injection h9 with _ h2
            omega
        have h24 : toks.length ≤ 24 := by
          by_cases hv : toks.length ≤ 24
          · exact hv
          · have h9 := HCC.out
            rw [countS_long hval (by omega)] at h9
            injection h9 with _ h2
            omega
        have hcc : c = cntS ⟨l, bareS toks⟩ 1 0 (bareS toks).length := by
          have := HCC.out
          rw [count_is l toks hval h24] at this
          injection this
        rw [hr]
        have hbl : (bareS toks).length ≤ 24 := by have := bare_len toks; omega
        obtain ⟨bt, hbt⟩ : ∃ bt, bt = bareS toks := ⟨_, rfl⟩
        rw [← hbt] at hbl hcc ⊢
        have HBt := Lib.hid hbt
        have HBl := Lib.hid hbl
        have HVal := Lib.hid hval
        have HCn := Lib.hid (show cntS ⟨l, bt⟩ 1 0 bt.length ≤ 64 by omega)
        have HE := Lib.hid he
        clear hr h0 h64 hval h24 hcc hbl hbt he
        go_enter Tryz.func43, Tryz.ntmps43
        go_wp2_with fail
        refine HC.out.mono ?_
        rintro _ w1 ⟨rfl, hb1⟩
        have HB1 := Lib.hid hb1
        clear hb1
        go_wp2_with fail
        refine (rBare_any w1 _ toks (HTs.out.below HB1.out)).mono ?_
        rintro _ w2 ⟨bv, rfl, hbv, hb2⟩
        rw [← HBt.out] at hbv
        have hb2' := HB1.out.trans (hb2.mono HB1.out.size)
        have hgin : GIn w2 ⟨l, bt⟩ lv bv := ⟨HL.out.below hb2', hbv, HVal.out, valid_100 HVal.out, by show bt.length ≤ 1000; have := HBl.out; omega⟩
        obtain ⟨ba, bcap, hbf, _⟩ := id hbv
        have HG := Lib.hid hgin
        have HB2 := Lib.hid hb2'
        clear hbv hb2 hb2' hgin
        obtain ⟨m, hm⟩ : ∃ m, m = bt.length := ⟨_, rfl⟩
        have HM := Lib.hid hm
        rw [← hm] at hbf
        subst hbf
        clear hm
        go_wp2_with fail
        refine (rTable_any w2 ⟨l, bt⟩ lv _ HG.out (by show bt.length ≤ 900; have := HBl.out; omega)).mono ?_
        rintro _ w3 ⟨tabv, d, rfl, hT, hF, hb3⟩
        have HTC := Lib.hid (TabC.mk (g := ⟨l, bt⟩) hT hF)
        have HB3 := Lib.hid hb3
        clear hT hF hb3
        have hcall := rTrees_any ⟨l, bt⟩ lv (.slice ba m bcap) tabv w2.heap.size d m 1 0 m (by omega) (by decide) (by decide) (by show m ≤ bt.length; rw [HM.out]; exact Nat.le_refl _) (Nat.zero_le _) (by show bt.length ≤ 900; have := HBl.out; omega) (by rw [HM.out]; exact HCn.out) w3 (HG.out.below HB3.out) HTC.out
        have HCall := Lib.hid hcall
        clear hcall
        go_wp2_with fail
        refine HCall.out.mono ?_
        rintro _ w4 ⟨rv, rfl, htr, hb4⟩
        have hbw3 := HB2.out.trans (HB3.out.mono HB2.out.size)
        have HTr := Lib.hid (htr.base hbw3.size hbw3.size)
        have HB4 := Lib.hid (hbw3.trans (hb4.mono hbw3.size))
        clear htr hb4 hbw3
        go_wp2
        go_ret2
        exact ⟨_, rfl, by have := HTr.out; rw [HM.out] at this; exact this, HB4.out⟩
  · have e1 : (e != 0) = true := by simpa using he
    have e1' : (e == 0) = false := by simpa using he
    have hr : parsesS l toks = ([], e) := by rw [HP.out, if_pos (by simpa using he)]
    rw [hr]
    clear hr he
    go_enter Tryz.func43, Tryz.ntmps43
    go_wp2_with (go_at_call 44; refine HC.out.mono ?_; rintro _ w1 ⟨rfl, hb1⟩)
    go_ret2
    exact ⟨_, rfl, TreesR.nil _ _ _, hb1⟩
/-- What Sentence of the reference returns. -/
def RSentenceOk (w : World) (x : List Tr × Int × Int) (e : Ending) (w' : World) : Prop := ∃ rv, e = .returned (.tuple #[rv, .int .i64 x.2.1, .int .i64 x.2.2]) ∧ TreesR w.heap.size w' rv x.1 ∧ Below w.heap.size w w'
set_option maxRecDepth 100000 in
set_option maxHeartbeats 4000000 in
theorem rSentence_any (w : World) (lv : Value) (l : List Ent) (hl : EntSlice w lv l) (s : ByteArray) (hs : s.size ≤ 1000) :
    Calls Tryz.prog 16 #[lv, .string s] w (RSentenceOk w (sentenceS l s.data.toList)) := by
  have HV := Lib.hid (rValid_any w lv l hl)
  have HT := Lib.hid (fun (W : World) => rTokens_short W s hs)
  have hS : sentenceS l s.data.toList = if !validS l then ([], 0, 2) else if (tokensS s.data.toList).2.2 ≠ 0 then ([], (tokensS s.data.toList).2.1, (tokensS s.data.toList).2.2) else ((parsesS l (tokensS s.data.toList).1).1, 0, (parsesS l (tokensS s.data.toList).1).2) := rfl
  obtain ⟨T, hTT⟩ : ∃ T, T = tokensS s.data.toList := ⟨_, rfl⟩
  rw [← hTT] at HT hS
  have HS := Lib.hid hS
  have HL := Lib.hid hl
  clear hS hTT hl hs
  obtain ⟨toks, k, e⟩ := T
  simp only at HT
  cases hval : validS l with
  | false =>
    rw [hval] at HV
    have hr : sentenceS l s.data.toList = ([], 0, 2) := by rw [HS.out, hval]; rfl
    rw [hr]
    clear hr hval
    go_enter Tryz.func16, Tryz.ntmps16
    go_wp2_with (go_at_call 41; refine HV.out.mono ?_; rintro _ w1 ⟨rfl, hb1⟩)
    go_ret3
    exact ⟨_, rfl, TreesR.nil _ _ _, hb1⟩
  | true =>
    rw [hval] at HV
    by_cases he : e = 0
    · have e1 : (e != 0) = false := by rw [he]; rfl
      have e1' : (e == 0) = true := by rw [he]; rfl
      have hr : sentenceS l s.data.toList = ((parsesS l toks).1, 0, (parsesS l toks).2) := by rw [HS.out, hval, if_neg (by decide), if_neg (by simpa using he)]
      rw [hr]
      obtain ⟨P, hP⟩ : ∃ P, P = parsesS l toks := ⟨_, rfl⟩
      rw [← hP]
      have HP := Lib.hid hP
      have HE := Lib.hid he
      clear hr hval he hP
      obtain ⟨pt, pe⟩ := P
      go_enter Tryz.func16, Tryz.ntmps16
      go_wp2_with fail
      refine HV.out.mono ?_
      rintro _ w1 ⟨rfl, hb1⟩
      have HB1 := Lib.hid hb1
      clear hb1
      go_wp2_with fail
      refine (HT.out w1).mono ?_
      rintro _ w2 ⟨tv, rfl, hts, hb2⟩
      have HTs := Lib.hid hts
      have HB2 := Lib.hid (HB1.out.trans (hb2.mono HB1.out.size))
      clear hts hb2
      have hcall := rParses_any w2 lv tv l (HL.out.below HB2.out) toks HTs.out
      rw [← HP.out] at hcall
      have HCall := Lib.hid hcall
      clear hcall
      go_wp2_with fail
      refine HCall.out.mono ?_
      rintro _ w3 ⟨rv, rfl, htr, hb3⟩
      have HTr := Lib.hid (htr.base HB2.out.size HB2.out.size)
      have HB3 := Lib.hid (HB2.out.trans (hb3.mono HB2.out.size))
      clear htr hb3
      go_wp2
      go_ret3
      exact ⟨_, rfl, HTr.out, HB3.out⟩
    · have e1 : (e != 0) = true := by simpa using he
      have e1' : (e == 0) = false := by simpa using he
      have hr : sentenceS l s.data.toList = ([], k, e) := by rw [HS.out, hval, if_neg (by decide), if_pos (by simpa using he)]
      rw [hr]
      clear hr hval he
      go_enter Tryz.func16, Tryz.ntmps16
      go_wp2_with fail
      refine HV.out.mono ?_
      rintro _ w1 ⟨rfl, hb1⟩
      have HB1 := Lib.hid hb1
      clear hb1
      go_wp2_with fail
      refine (HT.out w1).mono ?_
      rintro _ w2 ⟨tv, rfl, hts, hb2⟩
      have HB2 := Lib.hid (HB1.out.trans (hb2.mono HB1.out.size))
      clear hts hb2
      go_wp2
      go_ret3
      exact ⟨_, rfl, TreesR.nil _ _ _, HB2.out⟩
end Go.Proofs.YthmnffgjckpkiaaGreatDoor
