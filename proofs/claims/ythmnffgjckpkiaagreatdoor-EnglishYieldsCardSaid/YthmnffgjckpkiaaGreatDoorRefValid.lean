/-
  Contract of the reference's 'Valid'.
-/
import Derived.Test.YthmnffgjckpkiaaGreatDoorRefVal
import Derived.IntWalk
namespace Go.Proofs.YthmnffgjckpkiaaGreatDoor
open Go Go.RowKit

set_option maxRecDepth 100000 in
set_option maxHeartbeats 8000000 in
theorem rValid_any (w : World) (v : Value) (l : List Ent) (hl : EntSlice w v l) :
    Calls Tryz.prog 41 #[v] w fun r w' => r = .returned (.bool (validS l)) ∧ Below w.heap.size w w' := by
  have HL := Lib.hid hl
  obtain ⟨⟨a, cap, rfl, hcap, hcm, hform⟩, hok⟩ := hl
  have HFo := Lib.hid hform
  have HOk := Lib.hid hok
  clear hform hok
  have hlm : l.length ≤ 9223372036854775807 := by unfold maxLen at hcm; omega
  go_enter Tryz.func41, Tryz.ntmps41
  go_wp2
  go_loopw [3] (fun i wr => ∃ k : Nat, k ≤ l.length ∧ i = .int .i64 k ∧ (∀ j, j < k → rstepB l j) ∧ Below w.heap.size w wr) (fun i _ => l.length - (intOf i).toNat)
  case atStart => exact ⟨0, Nat.zero_le _, rfl, fun j hj => by omega, Below.refl _ _⟩
  case round =>
    obtain ⟨k, hk, rfl, ha, hb⟩ := hrel
    have HA := Lib.hid ha
    clear ha
    by_cases hlt : k < l.length
    · rcases HFo.out with h0 | ⟨b, off, rfl, hbl, hc⟩
      · rw [h0] at hlt; exact absurd hlt (by simp)
      obtain ⟨c0, c1, c2⟩ := hc k hlt
      have hprev : ∀ h : 0 < k, _ := fun h => hc (k - 1) (by omega)
      have hoe := HOk.out _ (List.getElem_mem hlt)
      have HRb := Lib.hid (fun h => rval_right hlt h)
      have HAb := Lib.hid (fun h0 h => rval_ahead hlt h0 h)
      have HCb := Lib.hid (fun h => rval_clash hlt h)
      have HStep := Lib.hid (fun (h : rstepB l k) => (fun j (hj : j < k + 1) => by
        rcases Nat.lt_succ_iff_lt_or_eq.1 hj with h' | rfl
        · exact HA.out j h'
        · exact h : ∀ j, j < k + 1 → rstepB l j))
      have hst : (rightS l[k] = true ∧ (∀ _h0 : 0 < k, ltE (l[k - 1]'(by omega)) l[k]) ∧ l.any (fun o => clashS o l[k]) = false) → rstepB l k := fun h _ => h
      have HSt := Lib.hid hst
      obtain ⟨e, he⟩ : ∃ e, e = l[k] := ⟨_, rfl⟩
      rw [← he] at c0 c1 c2 hoe HRb HAb HCb HSt
      have f0 := fun x : Later wr => x.get (cell_kept' hb c0)
      have f1 := fun x : Later wr => x.get (cell_kept' hb c1)
      have f2 := fun x : Later wr => x.get (cell_kept' hb c2)
      have CR := Lib.hid (fun x : Later wr => rRight_any x.w e hoe)
      have CC := Lib.hid (fun x : Later wr => rclash_any x.w _ l ((HL.out.below hb).below x.below) e)
      have e3 : (k : Int) < (l.length : Int) := by omega
      have e5 : (0 : Int) ≤ k := by omega
      clear hst he c0 c1 c2 hoe hc
      cases hr : rightS e
      · rw [hr] at CR
        have HR := Lib.hid hr
        clear hr hprev
        go_wp2
        refine wp_region_later (by kernel_rfl) (by kernel_rfl) ?_
        repeat (go_big_quiet_step ((go_at_call 66; exact later_call (CR.out _))))
        refine wpQuiet_nil ?_
        rintro _ ⟨x, rfl⟩
        go_wp2
        go_ret
        exact ⟨ret_bool (HRb.out HR.out).symm, hb.trans (x.below.mono hb.size)⟩
      rw [hr] at CR
      have HR := Lib.hid hr
      clear hr
      cases hcl : l.any (fun o => clashS o e)
      all_goals
        rw [hcl] at CC
        have HC := Lib.hid hcl
        clear hcl
        by_cases hk0 : 0 < k
        · have hkz : decide (0 < (k : Int)) = true := by simp; omega
          have hkn : decide (0 < k) = true := by simp; omega
          obtain ⟨b0, b1, b2⟩ := hprev hk0
          have HAb2 := Lib.hid (HAb.out hk0)
          have HSt2 := Lib.hid (fun h1 (h2 : ltE (l[k - 1]'(by omega)) e) h3 => HSt.out ⟨h1, fun _ => h2, h3⟩)
          obtain ⟨d, hd⟩ : ∃ d, d = l[k - 1]'(by omega) := ⟨_, rfl⟩
          rw [← hd] at b0 b1 b2 HAb2 HSt2
          have hkk : off + (k - 1) * 3 = off + (k - 1) * 3 := rfl
          have g0 := fun x : Later wr => x.get (cell_kept' hb b0)
          have g1 := fun x : Later wr => x.get (cell_kept' hb b1)
          have g2 := fun x : Later wr => x.get (cell_kept' hb b2)
          have s1 : IntKind.i64.wrap ((k : Int) - 1) = (k : Int) - 1 := IntWalk.i64_in _ (by omega)
          have s2 : (0 : Int) ≤ (k : Int) - 1 := by omega
          have s3 : (k : Int) - 1 < (l.length : Int) := by omega
          have s4 : ((k : Int) - 1).toNat = k - 1 := by omega
          have CA := Lib.hid (fun x : Later wr => rahead_any x.w d e)
          clear hd b0 b1 b2 hkk hprev hk0
          cases hah : aheadS d e
          · rw [hah] at CA
            have HH := Lib.hid hah
            clear hah
            go_wp2
            refine wp_region_later (by kernel_rfl) (by kernel_rfl) ?_
            repeat (go_big_quiet_step ((first | (go_at_call 66; exact later_call (CR.out _)) | (go_at_call 67; exact later_call (CA.out _)))))
            refine wpQuiet_nil ?_
            rintro _ ⟨x, rfl⟩
            clear s1 s2 s3 s4 g0 g1 g2
            go_wp2
            go_ret
            exact ⟨ret_bool (HAb2.out (fun h => by have := (ahead_iff d e).2 h; rw [HH.out] at this; cases this)).symm, hb.trans (x.below.mono hb.size)⟩
          · rw [hah] at CA
            have HH := Lib.hid hah
            clear hah
            go_wp2
            refine wp_region_later (by kernel_rfl) (by kernel_rfl) ?_
            repeat (go_big_quiet_step ((first | (go_at_call 66; exact later_call (CR.out _)) | (go_at_call 67; exact later_call (CA.out _)) | (go_at_call 68; exact later_call (CC.out _)))))
            refine wpQuiet_nil ?_
            rintro _ ⟨x, rfl⟩
            clear s1 s2 s3 s4 g0 g1 g2
            go_wp2
            first
              | (go_ret
                 exact ⟨ret_bool (HCb.out HC.out).symm, hb.trans (x.below.mono hb.size)⟩)
              | (go_roundw
                 case rel => exact ⟨k + 1, by omega, by go_num, HStep.out (HSt2.out HR.out ((ahead_iff d e).1 HH.out) HC.out), hb.trans (x.below.mono hb.size)⟩
                 case measure => simp [intOf]; omega)
        · have hkz : decide (0 < (k : Int)) = false := by simp; omega
          have hkn : decide (0 < k) = false := by simp; omega
          have HK0 := Lib.hid hk0
          clear hk0 hprev
          go_wp2
          refine wp_region_later (by kernel_rfl) (by kernel_rfl) ?_
          repeat (go_big_quiet_step ((first | (go_at_call 66; exact later_call (CR.out _)) | (go_at_call 68; exact later_call (CC.out _)))))
          refine wpQuiet_nil ?_
          rintro _ ⟨x, rfl⟩
          go_wp2
          first
            | (go_ret
               exact ⟨ret_bool (HCb.out HC.out).symm, hb.trans (x.below.mono hb.size)⟩)
            | (go_roundw
               case rel => exact ⟨k + 1, by omega, by go_num, HStep.out (HSt.out ⟨HR.out, fun h => absurd h HK0.out, HC.out⟩), hb.trans (x.below.mono hb.size)⟩
               case measure => simp [intOf]; omega)
    · obtain rfl : k = l.length := by omega
      have HV := Lib.hid (rval_all (l := l) HA.out)
      by_cases h100 : l.length ≤ 100
      all_goals
        go_wp2
        go_ret
        exact ⟨ret_bool (by rw [HV.out, Bool.eq_iff_iff]; simp; omega), hb⟩
end Go.Proofs.YthmnffgjckpkiaaGreatDoor
