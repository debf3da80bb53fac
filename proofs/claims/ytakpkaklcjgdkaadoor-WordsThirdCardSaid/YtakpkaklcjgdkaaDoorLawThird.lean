/-
  The walk of 'WordsThird'.
-/
import Derived.Test.YtakpkaklcjgdkaaDoorAwake
import Derived.Test.YtakpkaklcjgdkaaDoorThirdLaw
namespace Go.Proofs.YtakpkaklcjgdkaaDoor
open Go Go.RowKit

theorem last_of (s : ByteArray) (h : s.size - 1 < s.size) (hs : [121] <:+ s.data.toList) : (s[s.size - 1]'h).toNat = 121 := by
  obtain ⟨p, hp⟩ := hs
  have hl : s.size = p.length + 1 := by
    have h1 : s.size = s.data.toList.length := by simp
    rw [h1, ← hp]; simp
  have e : (s[s.size - 1]'h) = s.data.toList[s.size - 1]'(by simp; omega) := by simp [ByteArray.getElem_eq_getElem_data]
  rw [e]
  have : s.data.toList[s.size - 1]? = some 121 := by
    rw [← hp, hl]; simp
  rw [List.getElem?_eq_getElem (by simp; omega)] at this
  rw [Option.some.inj this]
  rfl
theorem cut_end (s : ByteArray) (n : Nat) : (s.extract n s.size).data.toList = s.data.toList.drop n := by
  simp [ByteArray.data_extract]
  exact List.take_of_length_le (by simp)

set_option maxRecDepth 100000 in
set_option maxHeartbeats 4000000 in
theorem WordsThird_any (W0 w : World) (ht : Tabs W0 w) (s t : ByteArray) :
    Calls Tryd.prog 7 #[.string s, .string t] w fun e w' => e = .returned (.bool true) ∧ Below w.heap.size w w' := by
  have HA := Lib.hid (awake_any W0 w ht)
  go_enter Tryd.func7, Tryd.ntmps7
  go_wp2_with fail
  refine HA.out.mono ?_
  rintro e w1 ⟨rfl, hb1⟩
  by_cases hs : s.size ≤ 40 ∧ t.size ≤ 40
  · obtain ⟨hs, hu⟩ := hs
    go_wp2_with fail
    refine (Third_any W0 _ (ht.next hb1) s (by omega)).mono ?_
    rintro e w2 ⟨rfl, hb2⟩
    go_wp2_with fail
    refine (Third_any W0 _ ((ht.next hb1).next hb2) t (by omega)).mono ?_
    rintro e w3 ⟨rfl, hb3⟩
    have hb := (hb1.trans (hb2.mono hb1.size)).trans (hb3.mono (Nat.le_trans hb1.size hb2.size))
    cases hp : plainS s.data.toList
    · cases hq : plainS t.data.toList
      · simp only [thirdE, thirdV, hp, hq]
        clear hp hq
        go_wp2
        go_ret
        exact ⟨rfl, hb⟩
      · simp only [thirdE, thirdV, hp, hq]
        obtain ⟨b, hbb⟩ : ∃ b, b = (⟨(thirdS t.data.toList).toArray⟩ : ByteArray) := ⟨_, rfl⟩
        simp only [if_true, Bool.false_eq_true, if_false, ← hbb]
        clear hp hq hbb
        go_wp2
        go_ret
        exact ⟨rfl, hb⟩
    · cases hq : plainS t.data.toList
      · simp only [thirdE, thirdV, hp, hq]
        obtain ⟨b, hbb⟩ : ∃ b, b = (⟨(thirdS s.data.toList).toArray⟩ : ByteArray) := ⟨_, rfl⟩
        simp only [if_true, Bool.false_eq_true, if_false, ← hbb]
        clear hp hq hbb
        go_wp2
        go_ret
        exact ⟨rfl, hb⟩
      · simp only [thirdE, thirdV, hp, hq]
        have hs1 : 1 ≤ s.size := by simp [plainS] at hp; omega
        have ht1 : 1 ≤ t.size := by simp [plainS] at hq; omega
        obtain ⟨a, ha⟩ : ∃ b, b = (⟨(thirdS s.data.toList).toArray⟩ : ByteArray) := ⟨_, rfl⟩
        obtain ⟨b, hbb⟩ : ∃ b, b = (⟨(thirdS t.data.toList).toArray⟩ : ByteArray) := ⟨_, rfl⟩
        simp only [if_true, ← hbb, ← ha]
        have hla : a.data.toList = thirdS s.data.toList := by rw [ha]
        have hlb : b.data.toList = thirdS t.data.toList := by rw [hbb]
        have hsl : s.data.toList.length = s.size := by simp
        have hns : s.data.toList ≠ [] := by intro e; rw [e] at hsl; simp at hsl; omega
        have hlen := third_len s.data.toList hns
        have hal : a.size = (thirdS s.data.toList).length := by rw [← hla]; simp
        have hbl : b.size = (thirdS t.data.toList).length := by rw [← hlb]; simp
        have htl : t.data.toList.length = t.size := by simp
        have hnt : t.data.toList ≠ [] := by intro e; rw [e] at htl; simp at htl; omega
        have hlent := third_len t.data.toList hnt
        have ha1 : s.size + 1 ≤ a.size := by omega
        have ha2 : a.size ≤ s.size + 2 := by omega
        have hb1' : t.size + 1 ≤ b.size := by omega
        have hb2' : b.size ≤ t.size + 2 := by omega
        have hx : (s.extract 0 (s.size - 1)).data.toList = s.data.toList.take (s.data.toList.length - 1) := by simp [ByteArray.data_extract, List.dropLast_eq_take]
        have K1 : Lib.hasSuffix a.data.toList (⟨#[115]⟩ : ByteArray).data.toList = true := by rw [hla]; exact third_ends _
        have K2 : Lib.hasPrefix a.data.toList (s.extract 0 (s.size - 1)).data.toList = true := by rw [hla, hx]; exact third_init _
        have C1 := Lib.hid (fun w => K1 ▸ Tryd.strings_HasSuffix a ⟨#[115]⟩ w (by omega))
        have C2 := Lib.hid (fun w => K2 ▸ Tryd.strings_HasPrefix a (s.extract 0 (s.size - 1)) w)
        have HAl := Lib.hid (third_alike s.data.toList t.data.toList)
        have HLa := Lib.hid hla
        have HLb := Lib.hid hlb
        have HW := Lib.hid (third_whole s.data.toList)
        have hlt1 : s.size - 1 < s.size := by omega
        have i1 : IntKind.i64.wrap ((s.size : Int) - 1) = (s.size : Int) - 1 := IntWalk.i64_in _ (by omega)
        have i2 : ((s.size : Int) - 1).toNat = s.size - 1 := by omega
        have i3 : (0 : Int) ≤ (s.size : Int) - 1 := by omega
        have i4 : (s.size : Int) - 1 ≤ s.size := by omega
        clear hp hq hbb ha hlen hsl hal hbl htl hns hnt hlent hx K1 K2 hla hlb
        cases hpv : Lib.hasPrefix a.data.toList s.data.toList
        · have hy : (s[s.size - 1]'hlt1).toNat = 121 := by
            have hsf : [121] <:+ s.data.toList := by
              apply Classical.byContradiction
              intro hn
              rw [HLa.out, HW.out hn] at hpv
              cases hpv
            exact last_of s hlt1 hsf
          have C3 := Lib.hid (fun w => hpv ▸ Tryd.strings_HasPrefix a s w)
          clear hpv
          go_wp2_with (first | (go_at_call 22; refine (C1.out _).mono ?_; rintro e w' ⟨rfl, rfl⟩) | (go_at_call 23; refine (C2.out _).mono ?_; rintro e w' ⟨rfl, rfl⟩) | (go_at_call 23; refine (C3.out _).mono ?_; rintro e w' ⟨rfl, rfl⟩))
          cases hA : decide ((s.size : Int) < 2)
          · have hA' : 2 ≤ s.size := by simp at hA; omega
            have j1 : IntKind.i64.wrap ((s.size : Int) - 2) = (s.size : Int) - 2 := IntWalk.i64_in _ (by omega)
            have j2 : ((s.size : Int) - 2).toNat = s.size - 2 := by omega
            have j3 : (0 : Int) ≤ (s.size : Int) - 2 := by omega
            have j4 : (s.size : Int) - 2 ≤ s.size := by omega
            cases hB : decide ((t.size : Int) < 2)
            · have hB' : 2 ≤ t.size := by simp at hB; omega
              have k1 : IntKind.i64.wrap ((t.size : Int) - 2) = (t.size : Int) - 2 := IntWalk.i64_in _ (by omega)
              have k2 : ((t.size : Int) - 2).toNat = t.size - 2 := by omega
              have k3 : (0 : Int) ≤ (t.size : Int) - 2 := by omega
              have k4 : (t.size : Int) - 2 ≤ t.size := by omega
              cases hE : ((s.extract (s.size - 2) s.size).toList == (t.extract (t.size - 2) t.size).toList)
              · refine wp_region_later (by kernel_rfl) (by kernel_rfl) ?_
                repeat (go_big_quiet_step (fail))
                refine wpQuiet_nil ?_
                rintro _ ⟨x, rfl⟩
                clear i1 i2 i3 i4 j1 j2 j3 j4 k1 k2 k3 k4
                go_wp2
                go_ret
                exact ⟨rfl, hb.trans (x.below.mono hb.size)⟩
              · have n1 : IntKind.i64.wrap ((t.size : Int) - 1) = (t.size : Int) - 1 := IntWalk.i64_in _ (by omega)
                have n2 : ((t.size : Int) - 1).toNat = t.size - 1 := by omega
                have n3 : (0 : Int) ≤ (t.size : Int) - 1 := by omega
                have n4 : (t.size : Int) - 1 ≤ b.size := by omega
                have n5 : (s.size : Int) - 1 ≤ a.size := by omega
                have e1 : (a.extract (s.size - 1) a.size).toList = (b.extract (t.size - 1) b.size).toList := by
                  have h2 : s.data.toList.drop (s.data.toList.length - 2) = t.data.toList.drop (t.data.toList.length - 2) := by
                    have h1 := beq_iff_eq.1 hE
                    rw [ByteArray.toList_eq, ByteArray.toList_eq, cut_end, cut_end] at h1
                    rw [show s.data.toList.length = s.size by simp, show t.data.toList.length = t.size by simp]
                    exact h1
                  have h3 := HAl.out (by simp; omega) (by simp; omega) h2
                  rw [← HLa.out, ← HLb.out] at h3
                  rw [ByteArray.toList_eq, ByteArray.toList_eq, cut_end, cut_end]
                  simpa using h3
                refine wp_region_later (by kernel_rfl) (by kernel_rfl) ?_
                repeat (go_big_quiet_step (fail))
                refine wpQuiet_nil ?_
                rintro _ ⟨x, rfl⟩
                clear j1 j2 j3 j4 k1 k2 k3 k4
                go_wp2
                have hbx := hb.trans (x.below.mono hb.size)
                refine wp_region_later (by kernel_rfl) (by kernel_rfl) ?_
                repeat (go_big_quiet_step (fail))
                refine wpQuiet_nil ?_
                rintro _ ⟨y, rfl⟩
                clear i1 i2 i3 i4 n1 n2 n3 n4 n5
                go_wp2
                go_ret
                exact ⟨ret_bool (by first | rfl | (rw [e1]; simp)), hbx.trans (y.below.mono hbx.size)⟩
            · refine wp_region_later (by kernel_rfl) (by kernel_rfl) ?_
              repeat (go_big_quiet_step (fail))
              refine wpQuiet_nil ?_
              rintro _ ⟨x, rfl⟩
              clear i1 i2 i3 i4 j1 j2 j3 j4
              go_wp2
              go_ret
              exact ⟨rfl, hb.trans (x.below.mono hb.size)⟩
          · refine wp_region_later (by kernel_rfl) (by kernel_rfl) ?_
            repeat (go_big_quiet_step (fail))
            refine wpQuiet_nil ?_
            rintro _ ⟨x, rfl⟩
            clear i1 i2 i3 i4
            go_wp2
            go_ret
            exact ⟨rfl, hb.trans (x.below.mono hb.size)⟩
        · have C3 := Lib.hid (fun w => hpv ▸ Tryd.strings_HasPrefix a s w)
          clear hpv
          go_wp2_with (first | (go_at_call 22; refine (C1.out _).mono ?_; rintro e w' ⟨rfl, rfl⟩) | (go_at_call 23; refine (C2.out _).mono ?_; rintro e w' ⟨rfl, rfl⟩) | (go_at_call 23; refine (C3.out _).mono ?_; rintro e w' ⟨rfl, rfl⟩))
          cases hA : decide ((s.size : Int) < 2)
          · have hA' : 2 ≤ s.size := by simp at hA; omega
            have j1 : IntKind.i64.wrap ((s.size : Int) - 2) = (s.size : Int) - 2 := IntWalk.i64_in _ (by omega)
            have j2 : ((s.size : Int) - 2).toNat = s.size - 2 := by omega
            have j3 : (0 : Int) ≤ (s.size : Int) - 2 := by omega
            have j4 : (s.size : Int) - 2 ≤ s.size := by omega
            cases hB : decide ((t.size : Int) < 2)
            · have hB' : 2 ≤ t.size := by simp at hB; omega
              have k1 : IntKind.i64.wrap ((t.size : Int) - 2) = (t.size : Int) - 2 := IntWalk.i64_in _ (by omega)
              have k2 : ((t.size : Int) - 2).toNat = t.size - 2 := by omega
              have k3 : (0 : Int) ≤ (t.size : Int) - 2 := by omega
              have k4 : (t.size : Int) - 2 ≤ t.size := by omega
              cases hE : ((s.extract (s.size - 2) s.size).toList == (t.extract (t.size - 2) t.size).toList)
              · refine wp_region_later (by kernel_rfl) (by kernel_rfl) ?_
                repeat (go_big_quiet_step (fail))
                refine wpQuiet_nil ?_
                rintro _ ⟨x, rfl⟩
                clear i1 i2 i3 i4 j1 j2 j3 j4 k1 k2 k3 k4
                go_wp2
                go_ret
                exact ⟨rfl, hb.trans (x.below.mono hb.size)⟩
              · have n1 : IntKind.i64.wrap ((t.size : Int) - 1) = (t.size : Int) - 1 := IntWalk.i64_in _ (by omega)
                have n2 : ((t.size : Int) - 1).toNat = t.size - 1 := by omega
                have n3 : (0 : Int) ≤ (t.size : Int) - 1 := by omega
                have n4 : (t.size : Int) - 1 ≤ b.size := by omega
                have n5 : (s.size : Int) - 1 ≤ a.size := by omega
                have e1 : (a.extract (s.size - 1) a.size).toList = (b.extract (t.size - 1) b.size).toList := by
                  have h2 : s.data.toList.drop (s.data.toList.length - 2) = t.data.toList.drop (t.data.toList.length - 2) := by
                    have h1 := beq_iff_eq.1 hE
                    rw [ByteArray.toList_eq, ByteArray.toList_eq, cut_end, cut_end] at h1
                    rw [show s.data.toList.length = s.size by simp, show t.data.toList.length = t.size by simp]
                    exact h1
                  have h3 := HAl.out (by simp; omega) (by simp; omega) h2
                  rw [← HLa.out, ← HLb.out] at h3
                  rw [ByteArray.toList_eq, ByteArray.toList_eq, cut_end, cut_end]
                  simpa using h3
                refine wp_region_later (by kernel_rfl) (by kernel_rfl) ?_
                repeat (go_big_quiet_step (fail))
                refine wpQuiet_nil ?_
                rintro _ ⟨x, rfl⟩
                clear j1 j2 j3 j4 k1 k2 k3 k4
                go_wp2
                have hbx := hb.trans (x.below.mono hb.size)
                refine wp_region_later (by kernel_rfl) (by kernel_rfl) ?_
                repeat (go_big_quiet_step (fail))
                refine wpQuiet_nil ?_
                rintro _ ⟨y, rfl⟩
                clear i1 i2 i3 i4 n1 n2 n3 n4 n5
                go_wp2
                go_ret
                exact ⟨ret_bool (by first | rfl | (rw [e1]; simp)), hbx.trans (y.below.mono hbx.size)⟩
            · refine wp_region_later (by kernel_rfl) (by kernel_rfl) ?_
              repeat (go_big_quiet_step (fail))
              refine wpQuiet_nil ?_
              rintro _ ⟨x, rfl⟩
              clear i1 i2 i3 i4 j1 j2 j3 j4
              go_wp2
              go_ret
              exact ⟨rfl, hb.trans (x.below.mono hb.size)⟩
          · refine wp_region_later (by kernel_rfl) (by kernel_rfl) ?_
            repeat (go_big_quiet_step (fail))
            refine wpQuiet_nil ?_
            rintro _ ⟨x, rfl⟩
            clear i1 i2 i3 i4
            go_wp2
            go_ret
            exact ⟨rfl, hb.trans (x.below.mono hb.size)⟩
  · go_wp2
    all_goals
      go_ret
      exact ⟨rfl, hb1⟩
end Go.Proofs.YtakpkaklcjgdkaaDoor
