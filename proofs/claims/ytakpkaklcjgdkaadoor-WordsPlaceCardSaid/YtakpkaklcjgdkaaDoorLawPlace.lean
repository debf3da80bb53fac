/-
  The walk of 'WordsPlace'.
-/
import Derived.Test.YtakpkaklcjgdkaaDoorAny
namespace Go.Proofs.YtakpkaklcjgdkaaDoor
open Go Go.RowKit

theorem Tokens_len (W0 w : World) (ht : Tabs W0 w) (s : ByteArray) (hs : s.size ≤ 9223372036854775807) {T : List (List UInt8)} {k e : Int} (h : tokensS s.data.toList = (T, k, e)) :
    Calls Tryd.prog 20 #[.string s] w fun r w' => ∃ a cap, r = .returned (.tuple #[.slice a T.length cap, .int .i64 k, .int .i64 e]) ∧ Below w.heap.size w w' := by
  refine (Tokens_is W0 w ht s hs h).mono ?_
  rintro r w' ⟨v, rfl, ⟨a, cap, rfl, _⟩, hb⟩
  exact ⟨a, cap, rfl, hb⟩
/-- What the law says of three results. -/
def placeB (e3 e1 e2 : Int) (n1 n2 : Nat) : Bool := e3 == 0 || (e1 == 0 && decide (1 < n1)) || (e2 == 0 && decide (1 < n2))

set_option maxRecDepth 100000 in
set_option maxHeartbeats 4000000 in
theorem WordsPlace_any (W0 w : World) (ht : Tabs W0 w) (s t : ByteArray) (hsz : s.size ≤ 9223372036854775807) (htz : t.size ≤ 9223372036854775807) :
    Calls Tryd.prog 6 #[.string s, .string t] w fun e w' => e = .returned (.bool true) ∧ Below w.heap.size w w' := by
  have HA := Lib.hid (awake_any W0 w ht)
  have hlen := len_data s
  have hlent := len_data t
  by_cases hs : s.size ≤ 500 ∧ t.size ≤ 400
  · obtain ⟨hs, hts⟩ := hs
    rcases tokens_errs s.data.toList with ⟨toks, h⟩ | ⟨n, h, hn⟩ | ⟨h, hn⟩
    · have HTk := Lib.hid h
      clear h
      go_enter Tryd.func6, Tryd.ntmps6
      go_wp2_with fail
      refine HA.out.mono ?_
      rintro e w1 ⟨rfl, hb1⟩
      go_wp2_with fail
      refine (Tokens_len W0 _ (ht.next hb1) s hsz HTk.out).mono ?_
      rintro e w2 ⟨a, cap, rfl, hb2⟩
      go_wp2
      go_ret
      exact ⟨rfl, hb1.trans (hb2.mono hb1.size)⟩
    · have HTk := Lib.hid h
      obtain ⟨_, n', hnn, _, st, hst, hbehind⟩ := tokens_err h
      obtain rfl : n = n' := by omega
      have hn' : n ≤ s.size := by omega
      have hbeg := tokens_begin (a := s.data.toList.take n) (by simp; omega) hst
      have hcut : (s.extract 0 n).data.toList = s.data.toList.take n := by simp [ByteArray.data_extract]
      obtain ⟨x1, hx1⟩ : ∃ x : ByteArray, x = s.extract 0 n ++ ⟨#[46]⟩ := ⟨_, rfl⟩
      obtain ⟨x2, hx2⟩ : ∃ x : ByteArray, x = s.extract 0 n ++ ⟨#[32, 120, 46]⟩ := ⟨_, rfl⟩
      obtain ⟨x3, hx3⟩ : ∃ x : ByteArray, x = s.extract 0 n := ⟨_, rfl⟩
      have hd1 : x1.data.toList = s.data.toList.take n ++ [46] := by rw [hx1, ByteArray.data_append, Array.toList_append, hcut]
      have hd2 : x2.data.toList = s.data.toList.take n ++ [32, 120, 46] := by rw [hx2, ByteArray.data_append, Array.toList_append, hcut]
      have hd3 : x3.data.toList = s.data.toList.take n := by rw [hx3, hcut]
      have hz1 : x1.size ≤ 1000 := by rw [← len_data, hd1]; simp; omega
      have hz2 : x2.size ≤ 1000 := by rw [← len_data, hd2]; simp; omega
      have hz3 : x3.size ≤ 1000 := by rw [← len_data, hd3]; simp; omega
      obtain ⟨T1, k1, e1, h1⟩ : ∃ T k e, tokensS x1.data.toList = (T, k, e) := ⟨_, _, _, rfl⟩
      obtain ⟨T2, k2, e2, h2⟩ : ∃ T k e, tokensS x2.data.toList = (T, k, e) := ⟨_, _, _, rfl⟩
      obtain ⟨T3, k3, e3, h3⟩ : ∃ T k e, tokensS x3.data.toList = (T, k, e) := ⟨_, _, _, rfl⟩
      rw [← hd1, ← hd2, ← hd3, h1, h2, h3] at hbeg
      have hB : placeB e3 e1 e2 T1.length T2.length = true := by
        unfold placeB
        rcases hbeg with h | ⟨h, h'⟩ | ⟨h, h'⟩ <;> simp at h <;> simp [h] <;> first | done | (simp at h'; omega)
      have a1 : ∀ w, (Op.stringOp .add (s.extract 0 n) ⟨#[46]⟩).run Tryd.prog w = .ok (.string x1) w := fun w => by rw [hx1]; exact run_string_add w _ _ (by simp; omega) (by decide)
      have a2 : ∀ w, (Op.stringOp .add (s.extract 0 n) ⟨#[32, 120, 46]⟩).run Tryd.prog w = .ok (.string x2) w := fun w => by rw [hx2]; exact run_string_add w _ _ (by simp; omega) (by decide)
      have H1 := Lib.hid h1
      have H2 := Lib.hid h2
      have H3 := Lib.hid h3
      have HB := Lib.hid hB
      have HX3 := Lib.hid hx3
      by_cases hlt : n < s.size
      · have hbh := hbehind (by omega) t.data.toList (by omega)
        obtain ⟨x0, hx0⟩ : ∃ x : ByteArray, x = s.extract 0 (n + 1) ++ t := ⟨_, rfl⟩
        have hd0 : x0.data.toList = s.data.toList.take (n + 1) ++ t.data.toList := by
          rw [hx0, ByteArray.data_append, Array.toList_append]; simp [ByteArray.data_extract]
        have hz0 : x0.size ≤ 1000 := by rw [← len_data, hd0]; simp; omega
        rw [← hd0] at hbh
        have H0 := Lib.hid hbh
        have a0 : ∀ w, (Op.stringOp .add (s.extract 0 (n + 1)) t).run Tryd.prog w = .ok (.string x0) w := fun w => by rw [hx0]; exact run_string_add w _ _ (by simp; omega) (by omega)
        clear h hn h1 h2 h3 hB hbeg hcut hd1 hd2 hd3 hd0 hx0 hx1 hx2 hx3 hst hbehind hbh hnn hlen hlent
        go_enter Tryd.func6, Tryd.ntmps6
        go_wp2_with fail
        refine HA.out.mono ?_
        rintro e w1 ⟨rfl, hb1⟩
        go_wp2_with fail
        refine (Tokens_len W0 _ (ht.next hb1) s hsz HTk.out).mono ?_
        rintro e w2 ⟨b0, cap, rfl, hb2⟩
        have hq2 := hb1.trans (hb2.mono hb1.size)
        go_wp2_with fail
        refine (Tokens_len W0 _ (ht.next hq2) x0 (by omega) H0.out).mono ?_
        rintro e w3 ⟨b1, cap1, rfl, hb3⟩
        have hq3 := hq2.trans (hb3.mono hq2.size)
        go_wp2_with fail
        refine (Tokens_len W0 _ (ht.next hq3) x1 (by omega) H1.out).mono ?_
        rintro e w4 ⟨b2, cap2, rfl, hb4⟩
        have hq4 := hq3.trans (hb4.mono hq3.size)
        go_wp2_with fail
        refine (Tokens_len W0 _ (ht.next hq4) x2 (by omega) H2.out).mono ?_
        rintro e w5 ⟨b3, cap3, rfl, hb5⟩
        have hq5 := hq4.trans (hb5.mono hq4.size)
        go_wp2_with fail
        rw [← HX3.out]
        refine (Tokens_len W0 _ (ht.next hq5) x3 (by omega) H3.out).mono ?_
        rintro e w6 ⟨b4, cap4, rfl, hb6⟩
        have hq6 := hq5.trans (hb6.mono hq5.size)
        clear hq2 hq3 hq4 hq5
        go_wp2
        all_goals
          go_ret
          refine ⟨ret_bool ?_, hq6⟩
          have := HB.out
          unfold placeB at this
          first
            | (simp_all; done)
            | (simp_all; omega)
      · clear h hn h1 h2 h3 hB hbeg hcut hd1 hd2 hd3 hx1 hx2 hx3 hst hbehind hnn hlen hlent
        go_enter Tryd.func6, Tryd.ntmps6
        go_wp2_with fail
        refine HA.out.mono ?_
        rintro e w1 ⟨rfl, hb1⟩
        go_wp2_with fail
        refine (Tokens_len W0 _ (ht.next hb1) s hsz HTk.out).mono ?_
        rintro e w2 ⟨b0, cap, rfl, hb2⟩
        have hq3 := hb1.trans (hb2.mono hb1.size)
        go_wp2_with fail
        refine (Tokens_len W0 _ (ht.next hq3) x1 (by omega) H1.out).mono ?_
        rintro e w4 ⟨b2, cap2, rfl, hb4⟩
        have hq4 := hq3.trans (hb4.mono hq3.size)
        go_wp2_with fail
        refine (Tokens_len W0 _ (ht.next hq4) x2 (by omega) H2.out).mono ?_
        rintro e w5 ⟨b3, cap3, rfl, hb5⟩
        have hq5 := hq4.trans (hb5.mono hq4.size)
        go_wp2_with fail
        rw [← HX3.out]
        refine (Tokens_len W0 _ (ht.next hq5) x3 (by omega) H3.out).mono ?_
        rintro e w6 ⟨b4, cap4, rfl, hb6⟩
        have hq6 := hq5.trans (hb6.mono hq5.size)
        clear hq3 hq4 hq5
        go_wp2
        all_goals
          go_ret
          refine ⟨ret_bool ?_, hq6⟩
          have := HB.out
          unfold placeB at this
          first
            | (simp_all; done)
            | (simp_all; omega)
    · omega
  · by_cases h5 : s.size ≤ 500
    all_goals
      go_enter Tryd.func6, Tryd.ntmps6
      go_wp2_with fail
      refine HA.out.mono ?_
      rintro e w1 ⟨rfl, hb1⟩
      go_wp2
      all_goals
        go_ret
        exact ⟨rfl, hb1⟩
end Go.Proofs.YtakpkaklcjgdkaaDoor
