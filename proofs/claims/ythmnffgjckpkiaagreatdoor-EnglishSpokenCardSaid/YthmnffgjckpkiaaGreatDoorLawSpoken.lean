/-
  The walk of 'EnglishSpoken'.
-/
import Derived.Test.YthmnffgjckpkiaaGreatDoorSpokenS
import Derived.Test.YthmnffgjckpkiaaGreatDoorForG
import Derived.Test.YthmnffgjckpkiaaGreatDoorBefore
import Derived.Test.YthmnffgjckpkiaaGreatDoorRight34
import Derived.Test.YthmnffgjckpkiaaGreatDoorSmall34
import Derived.Test.YthmnffgjckpkiaaGreatDoorExch
import Derived.Test.YthmnffgjckpkiaaGreatDoorGEngI
import Derived.Test.YthmnffgjckpkiaaGreatDoorSame
namespace Go.Proofs.YthmnffgjckpkiaaGreatDoor
open Go Go.RowKit Go.Shelf

set_option maxRecDepth 100000 in
set_option maxHeartbeats 16000000 in
theorem EnglishSpoken_any (W0 w : World) (ht : Tabs W0 w) (lv tv : Value) (l : List Ent) (hl : EntSlice w lv l) (toks : List (List UInt8)) (hts : StrSlice w tv toks) :
    Calls Tryz.prog 11 #[lv, tv] w fun e w' => e = .returned (.bool true) ∧ Below w.heap.size w w' := by
  have HL := Lib.hid hl
  have HS := Lib.hid hts
  have HT := Lib.hid ht
  clear hl hts ht
  go_enter Tryz.func11, Tryz.ntmps11
  go_wp2_with fail
  refine (awake34_any W0 w HT.out).mono ?_
  rintro _ w1 ⟨rfl, hb1⟩
  have HB1 := Lib.hid hb1
  clear hb1
  obtain ⟨b1, hb1e⟩ : ∃ b, b = smallL l := ⟨_, rfl⟩
  have hSm := Small_any w1 _ l (HL.out.below HB1.out)
  rw [← hb1e] at hSm
  have HSm := Lib.hid hSm
  clear hSm hb1e
  go_wp2_with fail
  refine HSm.out.mono ?_
  rintro _ w1' ⟨rfl, h2⟩
  rw [← h2]
  clear h2 w1' HSm
  cases b1
  · go_wp2
    go_ret
    exact ⟨rfl, HB1.out⟩
  obtain ⟨b2, hb2e⟩ : ∃ b, b = shortS toks := ⟨_, rfl⟩
  have hSh := Short34_any w1 _ toks (HS.out.below HB1.out)
  rw [← hb2e] at hSh
  have HSh := Lib.hid hSh
  have HSe := Lib.hid hb2e
  clear hSh hb2e
  go_wp2_with fail
  refine HSh.out.mono ?_
  rintro _ _ ⟨rfl, rfl⟩
  clear HSh
  cases b2
  · go_wp2
    go_ret
    exact ⟨rfl, HB1.out⟩
  have h26 : toks.length ≤ 1000 := by
    have h := HSe.out.symm
    unfold shortS at h
    simp only [Bool.and_eq_true, decide_eq_true_eq] at h
    omega
  have H26 := Lib.hid h26
  obtain ⟨c, ce, ts, pe, hC, hP, hcm, hcase⟩ := parse_cases l toks
  have HC := Lib.hid hC
  have HP := Lib.hid hP
  have hcall := Count_any W0 w1 (HT.out.next HB1.out) lv tv l (HL.out.below HB1.out) toks (HS.out.below HB1.out)
  rw [hC] at hcall
  have HCall := Lib.hid hcall
  have HCase := Lib.hid hcase
  have HCm := Lib.hid hcm
  clear hcall hC hP hcase hcm h26
  go_wp2_with fail
  refine HCall.out.mono ?_
  rintro _ w2 ⟨rfl, hb2⟩
  have HB2 := Lib.hid (HB1.out.trans (hb2.mono HB1.out.size))
  clear hb2 HCall
  have hcall := Parses_any W0 w2 (HT.out.next HB2.out) lv tv l (HL.out.below HB2.out) toks (HS.out.below HB2.out)
  rw [HP.out] at hcall
  have HCall := Lib.hid hcall
  clear hcall
  go_wp2_with fail
  refine HCall.out.mono ?_
  rintro _ w3 ⟨rv, rfl, hb3, hF⟩
  have HF := Lib.hid hF
  have HB3 := Lib.hid (HB2.out.trans (hb3.mono HB2.out.size))
  clear hb3 hF HCall
  obtain ⟨N, hN⟩ : ∃ N, N = ts.length := ⟨_, rfl⟩
  obtain ⟨va, vc, rfl⟩ : ∃ va vc, rv = .slice va N vc := by obtain ⟨_, _, _, _, hown, _⟩ := HF.out; rw [hN]; exact owns_form hown
  have HN := Lib.hid hN
  clear hN
  rcases HCase.out with ⟨hv, rfl, rfl, rfl, rfl⟩ | ⟨hv, _, rfl, rfl, rfl, rfl⟩ | ⟨hv, _, rfl, rfl, rfl, rfl⟩ | ⟨hv, _, h64, rfl, rfl, rfl⟩ | ⟨hv, h24, h0, h64, rfl, rfl, hlen⟩
  · obtain rfl : N = 0 := HN.out
    have hVa := Valid_all W0 w3 (HT.out.next HB3.out) lv l (HL.out.below HB3.out)
    rw [hv] at hVa
    have HVa := Lib.hid hVa
    clear hVa hv
    go_wp2_with fail
    refine HVa.out.mono ?_
    rintro _ w4 ⟨rfl, hb4⟩
    go_wp2
    go_ret
    exact ⟨rfl, HB3.out.trans (hb4.mono HB3.out.size)⟩
  · obtain rfl : N = 0 := HN.out
    have hVa := Valid_all W0 w3 (HT.out.next HB3.out) lv l (HL.out.below HB3.out)
    rw [hv] at hVa
    have HVa := Lib.hid hVa
    clear hVa hv
    go_wp2_with fail
    refine HVa.out.mono ?_
    rintro _ w4 ⟨rfl, hb4⟩
    go_wp2
    go_ret
    exact ⟨rfl, HB3.out.trans (hb4.mono HB3.out.size)⟩
  · obtain rfl : N = 0 := HN.out
    clear hv
    go_wp2
    go_ret
    exact ⟨rfl, HB3.out⟩
  · obtain rfl : N = 0 := HN.out
    have e1 : decide ((64 : Int) < (c : Int)) = true := decide_eq_true (by omega)
    have e2 : decide (64 < c) = true := decide_eq_true h64
    have e3 : ((c : Int) == 0) = false := by simp; omega
    have e4 : (c == 0) = false := by simp; omega
    have H64 := Lib.hid h64
    clear hv h64
    go_wp2
    go_ret
    exact ⟨rfl, HB3.out⟩
  · have hNc : N = c := by rw [← hlen]; exact HN.out
    subst hNc
    have e1 : decide ((64 : Int) < (N : Int)) = false := decide_eq_false (by omega)
    have e2 : decide (64 < N) = false := decide_eq_false (by omega)
    have e3 : ((N : Int) != (N : Int)) = false := by simp
    have hK : ∀ i (hi : i < ts.length), okAll l ts[i] = true ∧ yieldW l ts[i] = toks ∧ ts[i].rule ≤ 5 ∧ Slim ts[i] := fun i hi => by
      refine spoken_mem HC.out h0 (by omega) ?_
      rw [HP.out]; exact List.getElem_mem hi
    have hpw : ts.Pairwise (Bef l) := by
      have h := spoken_pw HC.out h0 (by omega)
      rwa [HP.out] at h
    have HK := Lib.hid hK
    have HPw := Lib.hid hpw
    have HLen := Lib.hid hlen
    clear hv h24 h0 hK hpw hlen HCase
    rw [HLen.out] at HF
    go_wp2
    go_loopw [9] (fun q wr => ∃ i : Nat, i ≤ N ∧ q = .int .i64 i ∧ Below w3.heap.size w3 wr) (fun q _ => N - (intOf q).toNat)
    case atStart => exact ⟨0, Nat.zero_le _, rfl, Below.refl _ _⟩
    case round =>
      obtain ⟨i, hi, rfl, hbr⟩ := hrel
      have HBr := Lib.hid hbr
      clear hbr
      by_cases hlt : i < N
      · have hd : decide ((i : Int) < (N : Int)) = true := decide_eq_true (by omega)
        have hii : (i : Int) < (N : Int) := by omega
        have hit : i < ts.length := by rw [HLen.out]; exact hlt
        have HBw := Lib.hid (HB3.out.trans (HBr.out.mono HB3.out.size))
        obtain ⟨g, q, rfl, htv, a0, a1, a2, a3⟩ := forG_get HF.out hlt hit
        obtain ⟨hok, hyw, hru, hsl⟩ := HK.out i hit
        have c0 := cell_kept' HBr.out a0
        have c1 := cell_kept' HBr.out a1
        have c2 := cell_kept' HBr.out a2
        have c3 := cell_kept' HBr.out a3
        have htr : TreeV (fun _ => True) wr (TV.val q) ts[i] := htv.move (fun b _ h => ⟨trivial, by obtain ⟨_, _, h⟩ := h; exact HBr.out.block b (cell_lt h)⟩)
        have HTr := Lib.hid htr
        have HTv := Lib.hid htv
        have HCe := Lib.hid (And.intro a0 (And.intro a1 (And.intro a2 a3)))
        have HOk := Lib.hid hok
        have hqr : ts[i].rule = q.r := by
          obtain ⟨qr, qe, qw, qa, qn, qc⟩ := q
          generalize ts[i] = x at htv
          obtain ⟨r, e, wd, sub⟩ := x
          exact (TreeV.headW (show TreeV (fun _ => True) w3 (.agg #[.int .u8 qr, .int .i64 qe, .string qw, .slice qa qn qc]) _ from htv)).1.symm
        have hr5 : decide ((5 : Int) < q.r) = false := decide_eq_false (by rw [← hqr]; omega)
        have hy := Yield_any W0 wr (HT.out.next HBw.out) l _ (TV.val q) ts[i] (HL.out.below HBw.out) htr
        rw [yieldS_good hok] at hy
        simp only at hy
        rw [hyw] at hy
        have HY := Lib.hid hy
        clear hyw hru hsl htr hok hqr a0 a1 a2 a3 htv hy
        go_wp2_with fail
        refine HY.out.mono ?_
        rintro _ w4 ⟨sv, rfl, hss, hb4⟩
        have d0 := cell_kept' hb4 c0
        have d1 := cell_kept' hb4 c1
        have d2 := cell_kept' hb4 c2
        have d3 := cell_kept' hb4 c3
        have HSs := Lib.hid hss
        have HB34 := Lib.hid (HBr.out.trans (hb4.mono HBr.out.size))
        have HB4 := Lib.hid (HB3.out.trans (HB34.out.mono HB3.out.size))
        have f0 := fun x : Later w4 => x.get d0
        have f1 := fun x : Later w4 => x.get d1
        have f2 := fun x : Later w4 => x.get d2
        have f3 := fun x : Later w4 => x.get d3
        have HSt : Go.RowKit.Hid (∀ x : Later w4, Calls Tryz.prog 32 #[sv, tv] x.w fun e w' => e = .returned (.bool true) ∧ Below x.w.heap.size x.w w') := Lib.hid (fun x => by
          have hx : Below w.heap.size w x.w := HB4.out.trans (x.below.mono HB4.out.size)
          have h := SameTexts_any x.w sv tv toks toks (HSs.out.below x.below) (HS.out.below hx) (by have := H26.out; omega)
          rw [beq_self_eq_true] at h
          exact h)
        have HRt : Go.RowKit.Hid (∀ x : Later w4, Calls Tryz.prog 29 #[lv, TV.val q] x.w fun e w' => e = .returned (.bool true) ∧ Below x.w.heap.size x.w w') := Lib.hid (fun x => by
          have hx : Below w.heap.size w x.w := HB4.out.trans (x.below.mono HB4.out.size)
          have hx3 : Below w3.heap.size w3 x.w := HB34.out.trans (x.below.mono HB34.out.size)
          have h := Right34_any W0 x.w (HT.out.next hx) l lv (TV.val q) ts[i] (HL.out.below hx) (HTv.out.move (fun b _ h => ⟨trivial, by obtain ⟨_, _, h⟩ := h; exact hx3.block b (cell_lt h)⟩))
          rw [HOk.out] at h
          exact h)
        unfold TV.val at HRt
        clear c0 c1 c2 c3 hss hb4 HY
        by_cases hi0 : i = 0
        · subst hi0
          go_wp2
          clear d0 d1 d2 d3
          refine wp_region_later (by kernel_rfl) (by kernel_rfl) ?_
          repeat (go_big_quiet_step (first | (go_at_call 32; exact later_call (HSt.out _)) | (go_at_call 29; exact later_call (HRt.out _))))
          refine wpQuiet_nil ?_
          rintro _ ⟨x, rfl⟩
          have HBx := Lib.hid (HB34.out.trans (x.below.mono HB34.out.size))
          go_wp2
          go_roundw
          case rel => exact ⟨1, by omega, rfl, HBx.out⟩
          case measure => simp [intOf]; omega
        · obtain ⟨k, rfl⟩ : ∃ k, i = k + 1 := ⟨i - 1, by omega⟩
          have hkN : k < N := by omega
          have hkt : k < ts.length := by rw [HLen.out]; exact hkN
          obtain ⟨g', p, hg', htp, a0, a1, a2, a3⟩ := forG_get HF.out hkN hkt
          cases hg'
          obtain ⟨_, _, _, hslp⟩ := HK.out k hkt
          have hbef : Bef l ts[k] ts[k + 1] := pw_at HPw.out (Nat.lt_succ_self k) hit
          have p0 := fun x : Later w4 => x.get (cell_kept' HB34.out a0)
          have p1 := fun x : Later w4 => x.get (cell_kept' HB34.out a1)
          have p2 := fun x : Later w4 => x.get (cell_kept' HB34.out a2)
          have p3 := fun x : Later w4 => x.get (cell_kept' HB34.out a3)
          have HTp := Lib.hid htp
          have HBf := Lib.hid (And.intro hbef hslp)
          have HBe : Go.RowKit.Hid (∀ x : Later w4, Calls Tryz.prog 38 #[lv, TV.val p, TV.val q] x.w fun e w' => e = .returned (.bool true) ∧ Below x.w.heap.size x.w w') := Lib.hid (fun x => by
            have hx : Below w.heap.size w x.w := HB4.out.trans (x.below.mono HB4.out.size)
            have hx3 : Below w3.heap.size w3 x.w := HB34.out.trans (x.below.mono HB34.out.size)
            exact before_any W0 l lv ts[k] ts[k + 1] HBf.out.1 HBf.out.2 x.w p q (HT.out.next hx) (HL.out.below hx) (HTp.out.move (fun b _ h => ⟨trivial, by obtain ⟨_, _, h⟩ := h; exact hx3.block b (cell_lt h)⟩)) (HTv.out.move (fun b _ h => ⟨trivial, by obtain ⟨_, _, h⟩ := h; exact hx3.block b (cell_lt h)⟩)))
          unfold TV.val at HBe
          have j1 : decide ((0 : Int) < ((k + 1 : Nat) : Int)) = true := decide_eq_true (by omega)
          have j2 : decide ((0 : Int) < (k : Int) + 1) = true := decide_eq_true (by omega)
          have hw1 : IntKind.i64.wrap (((k + 1 : Nat) : Int) - 1) = (k : Int) := by rw [show ((k + 1 : Nat) : Int) - 1 = (k : Int) by omega]; exact IntWalk.i64_in _ (by omega)
          have hw2 : IntKind.i64.wrap ((k : Int) + 1 - 1) = (k : Int) := by rw [show (k : Int) + 1 - 1 = (k : Int) by omega]; exact IntWalk.i64_in _ (by omega)
          have j3 : (k : Int) < (N : Int) := by omega
          clear hbef hslp htp a0 a1 a2 a3 hi0
          go_wp2
          clear d0 d1 d2 d3
          refine wp_region_later (by kernel_rfl) (by kernel_rfl) ?_
          repeat (go_big_quiet_step (first | (go_at_call 32; exact later_call (HSt.out _)) | (go_at_call 29; exact later_call (HRt.out _)) | (go_at_call 38; exact later_call (HBe.out _))))
          refine wpQuiet_nil ?_
          rintro _ ⟨x, rfl⟩
          have HBx := Lib.hid (HB34.out.trans (x.below.mono HB34.out.size))
          go_wp2
          go_roundw
          case rel => exact ⟨k + 1 + 1, by omega, by go_num, HBx.out⟩
          case measure => simp [intOf]; omega
      · have hd : decide ((i : Int) < (N : Int)) = false := decide_eq_false (by omega)
        obtain rfl : i = N := by omega
        go_wp2
        go_ret
        exact ⟨rfl, HB3.out.trans (HBr.out.mono HB3.out.size)⟩
end Go.Proofs.YthmnffgjckpkiaaGreatDoor
