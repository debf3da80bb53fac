/-
  Contract of the reference's 'Look'.
-/
import Derived.Test.YtakpkaklcjgdkaaGreatDoorRefAdd
namespace Go.Proofs.YtakpkaklcjgdkaaGreatDoor
open Go Go.RowKit

theorem info_formR : (Tryz.prog.info? 67).map (fun i => (i.zero, i.size, i.bytes)) = some (some (.agg #[.int .i64 0, .bool false]), 2, 16) := by kernel_rfl
theorem form_one (f : Nat × Bool) : ∀ u ∈ formCells f, u.oneCell' = true := by
  intro u hu
  simp [formCells] at hu
  rcases hu with rfl | rfl <;> rfl
theorem forms_app {p : List (Nat × Bool)} {f : Nat × Bool} : (p ++ [f]).flatMap formCells = p.flatMap formCells ++ formCells f ∧ (p ++ [f]).length = p.length + 1 := by
  rw [List.flatMap_append, List.length_append]; simp
theorem str_eq (a : List UInt8) (t : ByteArray) : (a == t.data.toList) = ((⟨a.toArray⟩ : ByteArray).toList == t.toList) := by
  rw [ByteArray.toList_eq, ByteArray.toList_eq]

set_option maxRecDepth 100000 in
set_option maxHeartbeats 8000000 in
theorem rLook_any (w : World) (v : Value) (l : List Ent) (hl : EntSlice w v l) (hn : l.length ≤ 1000000) (tok : ByteArray) :
    Calls Tryz.prog 33 #[v, .string tok] w fun r w' => ∃ v', r = .returned (.tuple #[v', .int .i64 (if validS l then 0 else 2)]) ∧ FormSlice w' v' (if validS l then lookS tok.data.toList l else []) ∧ Below w.heap.size w w' := by
  obtain ⟨i0, hi, hz0, hz1, hz2⟩ := info_parts info_formR
  have HL := Lib.hid hl
  clear hl
  cases hv : validS l
  · have HV := Lib.hid hv
    simp only [Bool.false_eq_true, if_false]
    clear hv
    go_enter Tryz.func33, Tryz.ntmps33
    go_wp2_with fail
    refine (HV.out ▸ rValid_any _ v l HL.out).mono ?_
    rintro r w1 ⟨rfl, hx1⟩
    go_wp2
    go_ret2
    exact ⟨_, rfl, ⟨none, 0, rfl, .inl rfl⟩, hx1⟩
  have HV := Lib.hid hv
  simp only [if_true]
  clear hv
  go_enter Tryz.func33, Tryz.ntmps33
  go_wp2_with fail
  refine (HV.out ▸ rValid_any _ v l HL.out).mono ?_
  rintro r w1 ⟨rfl, hx1⟩
  have HL2 := Lib.hid (HL.out.below hx1)
  obtain ⟨⟨a, cap, rfl, hcap, hcm, hform⟩, hok⟩ := HL2.out
  have HFo := Lib.hid hform
  have HOk := Lib.hid hok
  clear hform hok
  have hrt := ((valid_iff l).1 HV.out).2.1
  have HRt := Lib.hid hrt
  clear hrt
  go_wp2
  go_loopw [6, 7] (fun o i wr => ∃ k : Nat, k ≤ l.length ∧ i = .int .i64 k ∧ wr.ownsRow w1.heap.size 67 2 o (lookTo tok.data.toList l k).length ((lookTo tok.data.toList l k).flatMap formCells) ∧ Below w1.heap.size w1 wr) (fun _ i _ => l.length - (intOf i).toNat)
  case atStart => exact ⟨0, Nat.zero_le _, rfl, World.ownsRow_nil _ _ _ _, Below.refl _ _⟩
  case round =>
    obtain ⟨k, hk, rfl, hown, hb⟩ := hrel
    have HO := Lib.hid hown
    clear hown
    by_cases hlt : k < l.length
    · rcases HFo.out with h0 | ⟨b, off, rfl, hbl, hc⟩
      · rw [h0] at hlt; exact absurd hlt (by simp)
      obtain ⟨c0, c1, _⟩ := hc k hlt
      have HNo := Lib.hid (fun h => lookTo_no (tok := tok.data.toList) hlt h)
      have HYes := Lib.hid (fun h => lookTo_yes (tok := tok.data.toList) hlt h)
      have hre := HRt.out _ (List.getElem_mem hlt)
      have hkl := lookTo_len tok.data.toList l k
      obtain ⟨o, ho⟩ : ∃ o, o = l[k] := ⟨_, rfl⟩
      rw [← ho] at c0 c1 HNo HYes hre
      have c0 := cell_kept' hb c0
      have c1 := cell_kept' hb c1
      have hwt : (o.w == tok.data.toList) = (o.word.toList == tok.toList) := by unfold Ent.w; rw [ByteArray.toList_eq, ByteArray.toList_eq]
      have HWt := Lib.hid hwt
      have HRe := Lib.hid hre
      clear ho hc hwt hre
      cases hw : (o.word.toList == tok.toList)
      · by_cases h4 : 4 ≤ o.cat
        · have hpl := right_plain HRe.out h4
          have hsz : 1 ≤ o.word.size ∧ o.word.size ≤ 16 := by
            unfold plainS at hpl
            simp only [Bool.and_eq_true, decide_eq_true_eq] at hpl
            have := hpl.1
            unfold Ent.w at this
            rwa [len_data] at this
          have HT := Lib.hid (rThirdOf_any o.word wr hsz.1 (by omega))
          have hfv := form_verb (tok := tok.data.toList) HRe.out h4
          rw [HWt.out, hw, Bool.false_or, str_eq] at hfv
          have hfv : formS tok.data.toList o = ((⟨(thirdS o.word.data.toList).toArray⟩ : ByteArray).toList == tok.toList) := hfv
          obtain ⟨t, ht⟩ : ∃ t : ByteArray, t = ⟨(thirdS o.word.data.toList).toArray⟩ := ⟨_, rfl⟩
          rw [← ht] at HT hfv
          have HFv := Lib.hid hfv
          clear ht hfv hpl
          cases hth : (t.toList == tok.toList)
          · have HFf : Hid (formS tok.data.toList o = false) := Lib.hid (by rw [HFv.out, hth])
            go_wp2_with (go_at_call 43; refine HT.out.mono ?_; rintro r w4 ⟨rfl, hb4⟩)
            go_roundw
            case rel => exact ⟨k + 1, by omega, by go_num, by rw [HNo.out HFf.out]; exact ownsRow_below HO.out hb4, hb.trans (hb4.mono hb.size)⟩
            case measure => simp [intOf]; omega
          · have HFt : Hid (formS tok.data.toList o = true) := Lib.hid (by rw [HFv.out, hth])
            have HOw : Hid (lookTo tok.data.toList l (k + 1) = lookTo tok.data.toList l k ++ [(k, true)]) := Lib.hid (by rw [HYes.out HFt.out, bne, HWt.out, hw]; rfl)
            have HKl := Lib.hid hkl
            clear hkl
            go_wp2_with fail
            refine HT.out.mono ?_
            rintro r w4 ⟨rfl, hb4⟩
            have HO4 := Lib.hid (ownsRow_below HO.out hb4)
            have hb4' := hb.trans (hb4.mono hb.size)
            clear hb4
            go_wp2_with (at_builtin; refine wpList_append_own _ rfl _ _ 60 rfl w1.heap.size 67 i0 _ 2 16 Tryz.underlying60 hi hz0 hz1 hz2 rfl (by decide) _ (lookTo tok.data.toList l k).length ((lookTo tok.data.toList l k).flatMap formCells) rfl (HO4.out.alloc _) ⟨w4.heap.size, 0, none⟩ 1 1 (formCells (k, true)) rfl rfl (news_at (heap_alloc_new _ _)) (form_one _) (by have := HKl.out; unfold maxLen; omega) (by have := HKl.out; omega) (by have := hb4'.size; simp; omega) ?_)
            intro v' w9 hown9 hgrow _
            have hb9 : Below w1.heap.size w1 w9 := (hb4'.alloc hb4'.size _).grown hgrow (by have := hb4'.size; simp; omega) (fun k hk => (HO4.out.lt k hk).1)
            have HO9 := Lib.hid hown9
            clear hown9 hgrow
            go_wp2
            go_roundw
            case rel => exact ⟨k + 1, by omega, by go_num, by rw [HOw.out, forms_app.1, forms_app.2]; exact HO9.out, hb9⟩
            case measure => simp [intOf]; omega
        · have HFf : Hid (formS tok.data.toList o = false) := Lib.hid (by rw [form_noun h4, HWt.out, hw])
          go_wp2
          go_roundw
          case rel => exact ⟨k + 1, by omega, by go_num, by rw [HNo.out HFf.out]; exact HO.out, hb⟩
          case measure => simp [intOf]; omega
      · have HFt : Hid (formS tok.data.toList o = true) := Lib.hid (by unfold formS; rw [HWt.out, hw]; rfl)
        have HOw : Hid (lookTo tok.data.toList l (k + 1) = lookTo tok.data.toList l k ++ [(k, false)]) := Lib.hid (by rw [HYes.out HFt.out, bne, HWt.out, hw]; rfl)
        have HKl := Lib.hid hkl
        clear hkl
        go_wp2_with (at_builtin; refine wpList_append_own _ rfl _ _ 60 rfl w1.heap.size 67 i0 _ 2 16 Tryz.underlying60 hi hz0 hz1 hz2 rfl (by decide) _ (lookTo tok.data.toList l k).length ((lookTo tok.data.toList l k).flatMap formCells) rfl (HO.out.alloc _) ⟨wr.heap.size, 0, none⟩ 1 1 (formCells (k, false)) rfl rfl (news_at (heap_alloc_new _ _)) (form_one _) (by have := HKl.out; unfold maxLen; omega) (by have := HKl.out; omega) (by have := hb.size; simp; omega) ?_)
        intro v' w9 hown9 hgrow _
        have hb9 : Below w1.heap.size w1 w9 := (hb.alloc hb.size _).grown hgrow (by have := hb.size; simp; omega) (fun k hk => (HO.out.lt k hk).1)
        have HO9 := Lib.hid hown9
        clear hown9 hgrow
        go_wp2
        go_roundw
        case rel => exact ⟨k + 1, by omega, by go_num, by rw [HOw.out, forms_app.1, forms_app.2]; exact HO9.out, hb9⟩
        case measure => simp [intOf]; omega
    · obtain rfl : k = l.length := by omega
      go_wp2
      go_ret2
      exact ⟨_, rfl, formSlice_of_owns HO.out, hx1.trans (hb.mono hx1.size)⟩
end Go.Proofs.YtakpkaklcjgdkaaGreatDoor
