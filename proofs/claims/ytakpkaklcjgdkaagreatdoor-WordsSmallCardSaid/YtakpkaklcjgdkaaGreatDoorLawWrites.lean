/-
  The walks of 'writes' and 'WordsWrites'.
-/
import Derived.Test.YtakpkaklcjgdkaaGreatDoorRefTok
import Derived.Test.YtakpkaklcjgdkaaGreatDoorRefThird
import Derived.Test.YtakpkaklcjgdkaaGreatDoorLawTexts
namespace Go.Proofs.YtakpkaklcjgdkaaGreatDoor
open Go Go.RowKit

theorem rTokens_is (w : World) (s : ByteArray) (hs : s.size ≤ 9223372036854775807) {toks : List (List UInt8)} {k e : Int} (h : tokensS s.data.toList = (toks, k, e)) :
    Calls Tryz.prog 16 #[.string s] w fun r w' => ∃ v, r = .returned (.tuple #[v, .int .i64 k, .int .i64 e]) ∧ StrSlice w' v toks ∧ Below w.heap.size w w' := by
  by_cases hl : 1000 < s.size
  · have e1 : tokensS s.data.toList = ([], 0, 3) := by unfold tokensS; rw [if_pos (by rw [len_data]; exact hl)]
    rw [e1] at h
    simp only [Prod.mk.injEq] at h
    obtain ⟨rfl, rfl, rfl⟩ := h
    clear e1
    go_enter Tryz.func16, Tryz.ntmps16
    go_wp2
    go_ret3
    exact ⟨_, rfl, strSlice_nil _, Below.refl _ _⟩
  · have h1 := rTokens_short w s (by omega)
    rw [h] at h1
    exact h1
theorem text_sizes {s : List UInt8} {toks : List (List UInt8)} {k e : Int} (h : tokensS s = (toks, k, e)) (hs : s.length ≤ 1200) : toks.length ≤ 1200 ∧ ∀ t ∈ toks, t.length ≤ 1200 := by
  rcases tokens_errs s with ⟨ts, h'⟩ | ⟨n, h', _⟩ | ⟨h', _⟩
  · rw [h'] at h
    obtain ⟨_, z2, z3⟩ := tokens_sizes h'
    simp only [Prod.mk.injEq] at h
    obtain ⟨rfl, _, _⟩ := h
    exact ⟨by omega, fun t ht => by have := z3 t ht; omega⟩
  · rw [h'] at h
    simp only [Prod.mk.injEq] at h
    obtain ⟨rfl, _, _⟩ := h
    simp
  · rw [h'] at h
    simp only [Prod.mk.injEq] at h
    obtain ⟨rfl, _, _⟩ := h
    simp

set_option maxRecDepth 100000 in
set_option maxHeartbeats 4000000 in
theorem writes_any (W0 w : World) (ht : Tabs W0 w) (s : ByteArray) (hs : s.size ≤ 1200) :
    Calls Tryz.prog 6 #[.string s] w fun e w' => e = .returned (.bool true) ∧ Below w.heap.size w w' := by
  have hsz : s.size ≤ 9223372036854775807 := by omega
  obtain ⟨a, ha⟩ : ∃ a, a = (⟨(thirdV s.data.toList).toArray⟩ : ByteArray) := ⟨_, rfl⟩
  obtain ⟨e, he⟩ : ∃ e, e = thirdE s.data.toList := ⟨_, rfl⟩
  have T1 := fun w ht => Third_any W0 w ht s hsz
  have T2 := fun w => rThird_any s w hsz
  rw [← ha, ← he] at T1 T2
  have HT1 := Lib.hid T1
  clear T1
  have HT2 := Lib.hid T2
  clear T2
  obtain ⟨toks, k, er, htk⟩ : ∃ toks k er, tokensS s.data.toList = (toks, k, er) := ⟨_, _, _, rfl⟩
  obtain ⟨z1, z2⟩ := text_sizes htk (by rw [len_data]; exact hs)
  obtain ⟨x, xe, htx⟩ : ∃ x xe, textS toks = (x, xe) := ⟨_, _, rfl⟩
  have z2' : ∀ t ∈ toks, t.length ≤ 1000000 := fun t h => by have := z2 t h; omega
  obtain ⟨y, hy⟩ : ∃ y, y = (⟨x.toArray⟩ : ByteArray) := ⟨_, rfl⟩
  have K1 := fun w ht => Tokens_is W0 w ht s hsz htk
  have K2 := fun w => rTokens_is w s hsz htk
  have X1 := fun w ht v hv => Text_is W0 w ht v toks hv (by omega) z2' htx
  have X2 := fun w v hv => rText_any w v toks hv (by omega) z2'
  rw [← hy] at X1
  rw [htx] at X2
  simp only [] at X2
  rw [← hy] at X2
  obtain ⟨f, hf⟩ : ∃ f, f = isFn s.data.toList := ⟨_, rfl⟩
  have F1 := fun w ht => Function_any W0 w ht s (by unfold maxLen; omega)
  have F2 := fun w => rFunction_any s w
  rw [← hf] at F1 F2
  obtain ⟨r, hr⟩ : ∃ r, r = (⟨(articleS s.data.toList).toArray⟩ : ByteArray) := ⟨_, rfl⟩
  have A1 := fun w ht => Article_any W0 w ht s
  have A2 := fun w => rArticle_any s w hsz
  rw [← hr] at A1 A2
  have HK1 := Lib.hid K1
  clear K1
  have HK2 := Lib.hid K2
  clear K2
  have HX1 := Lib.hid X1
  clear X1
  have HX2 := Lib.hid X2
  clear X2
  have HF1 := Lib.hid F1
  clear F1
  have HF2 := Lib.hid F2
  clear F2
  have HA1 := Lib.hid A1
  clear A1
  have HA2 := Lib.hid A2
  clear A2
  clear ha he htk htx hy hf hr z2 z2'
  go_enter Tryz.func6, Tryz.ntmps6
  go_wp2_with fail
  refine (HT1.out _ ht).mono ?_
  rintro r1 w1 ⟨rfl, hb1⟩
  go_wp2_with fail
  refine (HT2.out _).mono ?_
  rintro r2 w2 ⟨rfl, hb2⟩
  have q2 := hb1.trans (hb2.mono hb1.size)
  go_wp2_with fail
  refine (HK1.out _ (ht.next q2)).mono ?_
  rintro r3 w3 ⟨v1, rfl, hv1, hb3⟩
  have q3 := q2.trans (hb3.mono q2.size)
  go_wp2_with fail
  refine (HK2.out _).mono ?_
  rintro r4 w4 ⟨v2, rfl, hv2, hb4⟩
  have q4 := q3.trans (hb4.mono q3.size)
  have hv14 := hv1.below hb4
  go_wp2_with fail
  refine (HX1.out _ (ht.next q4) v1 hv14).mono ?_
  rintro r5 w5 ⟨rfl, hb5⟩
  have q5 := q4.trans (hb5.mono q4.size)
  have hv15 := hv14.below hb5
  have hv25 := hv2.below hb5
  go_wp2_with fail
  refine (HX2.out _ v1 hv15).mono ?_
  rintro r6 w6 ⟨rfl, hb6⟩
  have q6 := q5.trans (hb6.mono q5.size)
  have hv16 := hv15.below hb6
  have hv26 := hv25.below hb6
  go_wp2_with fail
  refine (HF1.out _ (ht.next q6)).mono ?_
  rintro r7 w7 ⟨rfl, hb7⟩
  have q7 := q6.trans (hb7.mono q6.size)
  have hv17 := hv16.below hb7
  have hv27 := hv26.below hb7
  go_wp2_with fail
  refine (HF2.out _).mono ?_
  rintro r8 w8 ⟨rfl, rfl⟩
  go_wp2_with fail
  refine (HA1.out _ (ht.next q7)).mono ?_
  rintro r9 w9 ⟨rfl, rfl⟩
  go_wp2_with fail
  refine (HA2.out _).mono ?_
  rintro r10 w10 ⟨rfl, rfl⟩
  go_wp2_with fail
  refine (SameTexts_any _ v1 v2 toks toks hv17 hv27 (by omega)).mono ?_
  rintro r11 w11 ⟨rfl, hb11⟩
  have hbt : (toks == toks) = true := by simp
  rw [hbt]
  clear hbt hv1 hv2 hv14 hv15 hv25 hv16 hv26 hv17 hv27
  go_wp2
  go_ret
  exact ⟨rfl, q7.trans (hb11.mono q7.size)⟩
/-- 'WordsWrites' returns true. -/
theorem WordsWrites_any (W0 w : World) (ht : Tabs W0 w) (s : ByteArray) (hs : s.size ≤ 9223372036854775807) :
    Calls Tryz.prog 3 #[.string s] w fun e w' => e = .returned (.bool true) ∧ Below w.heap.size w w' := by
  by_cases h : s.size ≤ 1200
  · have HW := Lib.hid (writes_any W0 w ht s h)
    go_enter Tryz.func3, Tryz.ntmps3
    go_wp2_with fail
    refine HW.out.mono ?_
    rintro e w1 ⟨rfl, hb1⟩
    go_wp2_with fail
    refine (awake_any W0 _ (ht.next hb1)).mono ?_
    rintro e w2 ⟨rfl, hb2⟩
    go_wp2
    go_ret
    exact ⟨rfl, hb1.trans (hb2.mono hb1.size)⟩
  · go_enter Tryz.func3, Tryz.ntmps3
    go_wp2_with fail
    refine (awake_any W0 _ ht).mono ?_
    rintro e w2 ⟨rfl, hb2⟩
    go_wp2
    go_ret
    exact ⟨rfl, hb2⟩
end Go.Proofs.YtakpkaklcjgdkaaGreatDoor
