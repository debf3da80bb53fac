/-
  The walk of 'WordsTexts'.
-/
import Derived.Test.YtakpkaklcjgdkaaGreatDoorRefText
namespace Go.Proofs.YtakpkaklcjgdkaaGreatDoor
open Go Go.RowKit

theorem CopyTexts_reach (w : World) (v : Value) (l : List (List UInt8)) (hl : StrSlice w v l) (hn : l.length * 16 ≤ 140737488355328) (h0 : ∀ n cap, v = .slice none n cap → v = .slice none 0 0) :
    Calls Tryz.prog 38 #[v] w fun e w' => ∃ v', e = .returned v' ∧ w'.ownsRow w.heap.size 9 1 v' l.length (l.map strVal) ∧ Below w.heap.size w w' := by
  obtain ⟨i0, hi, hz0, hz1, hz2⟩ := info_parts info_string
  obtain ⟨a, cap, rfl, hcap, hcm, hl⟩ := hl
  cases a with
  | none =>
    have e := h0 _ _ rfl
    have hl0 : l = [] := by rcases hl with h | ⟨b, off, h, _⟩; exact h; cases h
    subst hl0
    obtain rfl : cap = 0 := by simpa using e
    clear h0 e hl
    go_enter Tryz.func38, Tryz.ntmps38
    go_wp2_with (at_builtin; refine wpList_append_own_none rfl _ _ 29 rfl w.heap.size 9 i0 1 Tryz.underlying29 hi _ _ _ rfl (World.ownsRow_nil _ _ _ _) rfl ?_)
    go_ret
    exact ⟨_, rfl, World.ownsRow_nil _ _ _ _, Below.refl _ _⟩
  | some ad =>
    have hnews : ∀ j u, (l.map strVal)[j]? = some u → w.cell? (ad.add j) = some u := by
      intro j u hu
      rcases hl with rfl | ⟨b, off, hb, hc⟩
      · simp at hu
      · cases hb
        have hj : j < l.length := by
          rcases Nat.lt_or_ge j l.length with h | h
          · exact h
          · rw [List.getElem?_eq_none (by simpa using h)] at hu; cases hu
        have hadd : (⟨b, off, none⟩ : Addr).add j = ⟨b, off + j, none⟩ := by unfold Addr.add; split <;> simp_all
        rw [hadd, hc j hj]
        rw [List.getElem?_map, List.getElem?_eq_getElem hj] at hu
        exact hu
    clear hl h0
    have HN := Lib.hid hnews
    clear hnews
    go_enter Tryz.func38, Tryz.ntmps38
    go_wp2_with (at_builtin; go_loud (refine wpList_append_own _ rfl _ _ 29 rfl w.heap.size 9 i0 (.string ByteArray.empty) 1 16 Tryz.underlying29 hi hz0 hz1 hz2 rfl (by decide) _ _ _ rfl (World.ownsRow_nil _ _ _ _) ad l.length cap (l.map strVal) rfl (by simp) HN.out (by simp [strVal, Value.oneCell']) (by unfold maxLen; omega) (by omega) (Nat.le_refl _) ?_; intro v' w1 hown hgrow _))
    go_ret
    exact ⟨_, rfl, by simpa using hown, (Below.refl _ _).grown hgrow (Nat.le_refl _) (fun k hk => by have h2 : (Value.slice none 0 0).ownBlock = some k := hk; simp [Value.ownBlock] at h2)⟩

set_option maxRecDepth 100000 in
set_option maxHeartbeats 4000000 in
theorem WordsTexts_any (W0 w : World) (ht : Tabs W0 w) (v : Value) (l : List (List UInt8)) (hl : StrSlice w v l) (hn : l.length * 16 ≤ 140737488355328) (h0 : ∀ n cap, v = .slice none n cap → v = .slice none 0 0) :
    Calls Tryz.prog 10 #[v] w fun e w' => e = .returned (.bool true) ∧ Below w.heap.size w w' := by
  have HL := Lib.hid hl
  have HC := Lib.hid (CopyTexts_reach w v l hl hn h0)
  clear h0
  obtain ⟨a, cap, rfl, hcap, hcm, hlc⟩ := hl
  have HLc := Lib.hid hlc
  clear hlc
  go_enter Tryz.func10, Tryz.ntmps10
  go_wp2_with fail
  refine HC.out.mono ?_
  rintro e w1 ⟨v1, rfl, hown, hb1⟩
  have hs1 := strSlice_of_owns hown
  have HS1 := Lib.hid hs1
  clear hown hs1
  go_wp2
  go_loop [4] (fun i => ∃ k : Nat, k ≤ l.length ∧ i = .int .i64 k ∧ k ≤ 300 ∧ ∀ j, j < k → (l.getD j []).length ≤ 40) (fun i => l.length - (intOf i).toNat)
  case atStart => exact ⟨0, Nat.zero_le _, rfl, by omega, fun j hj => absurd hj (Nat.not_lt_zero j)⟩
  case round =>
    obtain ⟨k, hk, rfl, h300, hall⟩ := hrel
    have HA := Lib.hid hall
    clear hall
    have ht1 := ht.next hb1
    by_cases hlt : k < l.length
    · rcases HLc.out with h0 | ⟨b, off, rfl, hc⟩
      · rw [h0] at hlt; exact absurd hlt (by simp)
      · have c := cell_kept' hb1 (hc k hlt)
        obtain ⟨t, htk⟩ : ∃ t, t = (⟨(l[k]'hlt).toArray⟩ : ByteArray) := ⟨_, rfl⟩
        rw [← htk] at c
        have hgk : (l.getD k []).length = t.size := by rw [htk, bytes_size]; simp [List.getD_eq_getElem?_getD]; rw [List.getElem?_eq_getElem (by omega)]; rfl
        have HGk := Lib.hid hgk
        clear hgk htk hc
        have HAw := Lib.hid (awake_any W0 w1 ht1)
        by_cases h3 : k = 300
        · have g3 : ((k : Int) == 300) = true := beqI_t (by omega)
          clear h3
          go_wp2_with fail
          refine HAw.out.mono ?_
          rintro e w2 ⟨rfl, hb2⟩
          go_wp2
          go_ret
          exact ⟨rfl, hb1.trans (hb2.mono hb1.size)⟩
        · have g3 : ((k : Int) == 300) = false := beqI_f (by omega)
          have hk3 : k < 300 := by omega
          clear h3
          by_cases h4 : t.size ≤ 40
          · go_wp2
            go_round
            case rel => exact ⟨k + 1, by omega, by go_num, by omega, fun j hj => by
              rcases Nat.lt_succ_iff_lt_or_eq.1 hj with h' | rfl
              · exact HA.out j h'
              · rw [HGk.out]; exact h4⟩
            case measure => simp [intOf]; omega
          · go_wp2_with fail
            refine HAw.out.mono ?_
            rintro e w2 ⟨rfl, hb2⟩
            go_wp2
            go_ret
            exact ⟨rfl, hb1.trans (hb2.mono hb1.size)⟩
    · obtain rfl : k = l.length := by omega
      have hall : ∀ t ∈ l, t.length ≤ 1000000 := by
        intro t htm
        obtain ⟨j, hj, rfl⟩ := List.getElem_of_mem htm
        have := HA.out j hj
        rw [List.getD_eq_getElem?_getD, List.getElem?_eq_getElem hj] at this
        exact Nat.le_trans this (by omega)
      have HAl := Lib.hid hall
      obtain ⟨T, E, hTE⟩ : ∃ T E, (T, E) = textS l := ⟨_, _, rfl⟩
      have HTE := Lib.hid hTE
      clear hall hTE
      go_wp2_with fail
      refine (Text_is W0 _ ht1 v1 l HS1.out (by omega) HAl.out HTE.out.symm).mono ?_
      rintro e w2 ⟨rfl, hb2⟩
      have hq2 := hb1.trans (hb2.mono hb1.size)
      obtain ⟨t, htT⟩ : ∃ t, t = (⟨T.toArray⟩ : ByteArray) := ⟨_, rfl⟩
      have HtT := Lib.hid htT
      rw [← htT]
      clear htT
      go_wp2_with fail
      refine (rText_any _ _ l (HL.out.below hq2) (by omega) HAl.out).mono ?_
      rintro e w3 ⟨rfl, hb3⟩
      have hq3 := hq2.trans (hb3.mono hq2.size)
      rw [← HTE.out]
      simp only []
      rw [← HtT.out]
      have hs3 := (HS1.out.below hb2).below hb3
      go_wp2_with fail
      refine (SameTexts_any _ v1 _ l l hs3 (HL.out.below hq3) (by omega)).mono ?_
      rintro e w4 ⟨rfl, hb4⟩
      have hq4 := hq3.trans (hb4.mono hq3.size)
      have hbt : (l == l) = true := by simp
      rw [hbt]
      clear hbt hs3
      go_wp2_with fail
      refine (awake_any W0 _ (ht.next hq4)).mono ?_
      rintro e w5 ⟨rfl, hb5⟩
      go_wp2
      go_ret
      exact ⟨rfl, hq4.trans (hb5.mono hq4.size)⟩
end Go.Proofs.YtakpkaklcjgdkaaGreatDoor
