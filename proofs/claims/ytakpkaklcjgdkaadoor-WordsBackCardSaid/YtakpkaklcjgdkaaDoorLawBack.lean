/-
  The walk of 'WordsBack'.
-/
import Derived.Test.YtakpkaklcjgdkaaDoorAny
namespace Go.Proofs.YtakpkaklcjgdkaaDoor
open Go Go.RowKit

set_option maxRecDepth 100000 in
set_option maxHeartbeats 4000000 in
theorem WordsBack_any (W0 w : World) (ht : Tabs W0 w) (s : ByteArray) (hsz : s.size ≤ 9223372036854775807) :
    Calls Tryd.prog 5 #[.string s] w fun e w' => e = .returned (.bool true) ∧ Below w.heap.size w w' := by
  have HA := Lib.hid (awake_any W0 w ht)
  have hlen := len_data s
  by_cases hs : s.size ≤ 1200
  · rcases tokens_errs s.data.toList with ⟨toks, h⟩ | ⟨n, h, hn⟩ | ⟨h, hn⟩
    · obtain ⟨hsent, _, hle, _⟩ := tokens_sentence h
      obtain ⟨z1, z2, z3⟩ := tokens_sizes h
      have hT := textS_of hsent
      have HTk := Lib.hid h
      by_cases hbl : (bufTo toks toks.length).length ≤ 1000
      · rw [if_pos hbl] at hT
        have HT := Lib.hid hT
        obtain ⟨t, ht'⟩ : ∃ t, t = (⟨(bufTo toks toks.length).toArray⟩ : ByteArray) := ⟨_, rfl⟩
        have htl : t.data.toList = bufTo toks toks.length := by rw [ht']
        have hts : t.size ≤ 1000 := by rw [← len_data, htl]; exact hbl
        have hTT := tokens_text hsent hbl
        rw [← htl] at hTT
        have hok := okSp_text hsent
        rw [← htl] at hok
        have HTT := Lib.hid hTT
        have n1 := contains_no (x := 32) (by decide) hok
        have n2 := contains_no (x := 44) (by decide) hok
        have n3 := contains_no (x := 46) (by decide) hok
        have HC : ∀ x : UInt8, Lib.contains t.data.toList [32, x] = false → ∀ w, Tabs W0 w → Calls Tryd.prog 21 #[.string t, .string ⟨#[32, x]⟩] w fun e w' => e = .returned (.bool false) ∧ w = w' := by
          intro x hx w ht
          obtain ⟨m, hm⟩ := ht.t0.maxLen
          refine (Tryd.strings_Contains t ⟨#[32, x]⟩ m w (by omega) hm).mono ?_
          rintro e w' ⟨rfl, rfl⟩
          exact ⟨ret_bool hx, rfl⟩
        have C1 := Lib.hid (HC 32 n1)
        have C2 := Lib.hid (HC 44 n2)
        have C3 := Lib.hid (HC 46 n3)
        have Z2 := Lib.hid z2
        have Z3 := Lib.hid z3
        clear h hT hTT hok n1 n2 n3 HC htl hbl hsent hle z1 z2 z3
        go_enter Tryd.func5, Tryd.ntmps5
        go_wp2_with fail
        refine HA.out.mono ?_
        rintro e w1 ⟨rfl, hb1⟩
        go_wp2_with fail
        refine (Tokens_is W0 _ (ht.next hb1) s hsz HTk.out).mono ?_
        rintro e w2 ⟨v, rfl, hv, hb2⟩
        have hx2 := hb1.trans (hb2.mono hb1.size)
        go_wp2_with fail
        refine (Text_is W0 _ (ht.next hx2) v toks hv (by have := Z2.out; omega) (fun t h => by have := Z3.out t h; omega) HT.out).mono ?_
        rintro e w3 ⟨rfl, hb3⟩
        have hx3 := hx2.trans (hb3.mono hx2.size)
        have hv3 := hv.below hb3
        rw [← ht']
        clear ht'
        go_wp2_with fail
        refine (Tokens_is W0 _ (ht.next hx3) t (by omega) HTT.out).mono ?_
        rintro e w4 ⟨v', rfl, hv', hb4⟩
        have hx4 := hx3.trans (hb4.mono hx3.size)
        have hv4 := hv3.below hb4
        go_wp2_with fail
        refine (SameTexts_any _ v v' toks toks hv4 hv' (by have := Z2.out; omega)).mono ?_
        rintro e w5 ⟨rfl, hb5⟩
        have hx5 := hx4.trans (hb5.mono hx4.size)
        have ht5 := ht.next hx5
        have hbt : (toks == toks) = true := by simp
        rw [hbt]
        clear hbt
        go_wp2_with (first
          | (go_at_call 21; refine (C1.out _ ht5).mono ?_; rintro e w' ⟨rfl, rfl⟩)
          | (go_at_call 21; refine (C2.out _ ht5).mono ?_; rintro e w' ⟨rfl, rfl⟩)
          | (go_at_call 21; refine (C3.out _ ht5).mono ?_; rintro e w' ⟨rfl, rfl⟩))
        go_ret
        exact ⟨rfl, hx5⟩
      · rw [if_neg hbl] at hT
        have HT := Lib.hid hT
        have Z2 := Lib.hid z2
        have Z3 := Lib.hid z3
        clear h hT hbl hsent hle z1 z2 z3
        go_enter Tryd.func5, Tryd.ntmps5
        go_wp2_with fail
        refine HA.out.mono ?_
        rintro e w1 ⟨rfl, hb1⟩
        go_wp2_with fail
        refine (Tokens_is W0 _ (ht.next hb1) s hsz HTk.out).mono ?_
        rintro e w2 ⟨v, rfl, hv, hb2⟩
        have hx2 := hb1.trans (hb2.mono hb1.size)
        go_wp2_with fail
        refine (Text_is W0 _ (ht.next hx2) v toks hv (by have := Z2.out; omega) (fun t h => by have := Z3.out t h; omega) HT.out).mono ?_
        rintro e w3 ⟨rfl, hb3⟩
        have hx3 := hx2.trans (hb3.mono hx2.size)
        go_wp2
        go_ret
        exact ⟨rfl, hx3⟩
    · have HTk := Lib.hid h
      have hn' : n ≤ s.size := by omega
      clear h hn
      go_enter Tryd.func5, Tryd.ntmps5
      go_wp2_with fail
      refine HA.out.mono ?_
      rintro e w1 ⟨rfl, hb1⟩
      go_wp2_with fail
      refine (Tokens_is W0 _ (ht.next hb1) s hsz HTk.out).mono ?_
      rintro e w2 ⟨v, rfl, ⟨a, cap, rfl, _, _, _⟩, hb2⟩
      have hx2 := hb1.trans (hb2.mono hb1.size)
      go_wp2
      go_ret
      exact ⟨ret_bool (by simp), hx2⟩
    · have HTk := Lib.hid h
      have hn' : 1000 < s.size := by omega
      clear h hn
      go_enter Tryd.func5, Tryd.ntmps5
      go_wp2_with fail
      refine HA.out.mono ?_
      rintro e w1 ⟨rfl, hb1⟩
      go_wp2_with fail
      refine (Tokens_is W0 _ (ht.next hb1) s hsz HTk.out).mono ?_
      rintro e w2 ⟨v, rfl, ⟨a, cap, rfl, _, _, _⟩, hb2⟩
      have hx2 := hb1.trans (hb2.mono hb1.size)
      go_wp2
      go_ret
      exact ⟨rfl, hx2⟩
  · go_enter Tryd.func5, Tryd.ntmps5
    go_wp2_with fail
    refine HA.out.mono ?_
    rintro e w1 ⟨rfl, hb1⟩
    go_wp2
    go_ret
    exact ⟨rfl, hb1⟩
end Go.Proofs.YtakpkaklcjgdkaaDoor
