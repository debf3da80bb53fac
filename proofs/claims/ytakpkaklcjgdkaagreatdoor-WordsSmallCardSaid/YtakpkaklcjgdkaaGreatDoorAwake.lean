/-
  Contract of 'awake' of the laws: the examples of the chapter.
-/
import Derived.Test.YtakpkaklcjgdkaaGreatDoorExample
import Derived.Test.YtakpkaklcjgdkaaGreatDoorText
import Derived.Test.YtakpkaklcjgdkaaGreatDoorSame
namespace Go.Proofs.YtakpkaklcjgdkaaGreatDoor
open Go Go.RowKit

def basesL : List (List UInt8) := [[107, 110, 111, 119], [119, 97, 116, 99, 104], [103, 111], [112, 108, 97, 121], [116, 114, 121], [121]]
def thirdsL : List (List UInt8) := [[107, 110, 111, 119, 115], [119, 97, 116, 99, 104, 101, 115], [103, 111, 101, 115], [112, 108, 97, 121, 115], [116, 114, 105, 101, 115], [121, 115]]
def wantL : List (List UInt8) := [[101, 118, 101, 114, 121], [115, 116, 117, 100, 101, 110, 116], [44], [119, 104, 111], [115, 108, 101, 101, 112, 115], [44], [107, 110, 111, 119, 115], [65, 110, 110], [46]]
/-- A row of texts that lies in one block. -/
theorem strSlice_of_row {w : World} {g cap : Nat} {cs : Array Value} {t : TypeId} {fr : Nat × Nat} {l : List (List UInt8)} (hb : w.heap[g]? = some (.cells cs t fr)) (hcs : cs.toList = l.map strVal) (hn : l.length ≤ cap) (hc : cap ≤ maxLen) : StrSlice w (.slice (some ⟨g, 0, none⟩) l.length cap) l := by
  refine ⟨_, cap, rfl, hn, hc, .inr ⟨g, 0, rfl, fun j hj => ?_⟩⟩
  rw [Nat.zero_add, cell_of_row w g j cs t fr hb, ← Array.getElem?_toList, hcs, List.getElem?_map, List.getElem?_eq_getElem hj]
  rfl
theorem thirds_right : ∀ k (h : k < 6), thirdE (basesL[k]'h) = 0 ∧ thirdV (basesL[k]'h) = thirdsL[k]'h := by decide

theorem third_known (W0 w : World) (ht : Tabs W0 w) (k : Nat) (h : k < 6) (s t : ByteArray) (hs : s = ⟨(basesL[k]'h).toArray⟩) (hte : t = ⟨(thirdsL[k]'h).toArray⟩) :
    Calls Tryz.prog 13 #[.string s] w fun e w' => e = .returned (.tuple #[.string t, .int .i64 0]) ∧ Below w.heap.size w w' := by
  have hlen : ∀ k (h : k < 6), (basesL[k]'h).length ≤ 5 := by decide
  have h1 := Third_any W0 w ht s (by rw [hs, bytes_size]; have := hlen k h; omega)
  have e : s.data.toList = basesL[k]'h := by rw [hs]
  rw [e, (thirds_right k h).1, (thirds_right k h).2, ← hte] at h1
  exact h1
theorem tok1 : tokensS (⟨#[69, 118, 101, 114, 121, 32, 115, 116, 117, 100, 101, 110, 116, 32, 44, 32, 119, 104, 111, 32, 115, 108, 101, 101, 112, 115, 44, 32, 107, 110, 111, 119, 115, 32, 65, 110, 110, 32, 46]⟩ : ByteArray).data.toList = (wantL.set 0 [101, 118, 101, 114, 121], 0, 0) := by decide
theorem tok2 : (tokensS (⟨#[65, 110, 110, 32, 115, 108, 101, 101, 112, 115]⟩ : ByteArray).data.toList).2 = (10, 332) := by decide
theorem tok3 : (tokensS (⟨#[65, 110, 110, 46, 32, 66, 111, 98, 46]⟩ : ByteArray).data.toList).2 = (5, 332) := by decide
theorem tok4 : (tokensS (⟨#[44, 32, 65, 110, 110, 46]⟩ : ByteArray).data.toList).2 = (0, 332) := by decide
theorem tok5 : (tokensS (⟨#[65, 110, 110, 32, 50, 46]⟩ : ByteArray).data.toList).2 = (4, 332) := by decide
theorem text1 : textS wantL = ([69, 118, 101, 114, 121, 32, 115, 116, 117, 100, 101, 110, 116, 44, 32, 119, 104, 111, 32, 115, 108, 101, 101, 112, 115, 44, 32, 107, 110, 111, 119, 115, 32, 65, 110, 110, 46], 0) := by decide
theorem example_valid : validS exampleL = true := by decide
theorem look_known : lookS [112, 108, 97, 121, 115] exampleL = [(6, true), (7, true)] := by decide

theorem tokens1 (W0 w : World) (ht : Tabs W0 w) :
    Calls Tryz.prog 15 #[.string ⟨#[69, 118, 101, 114, 121, 32, 115, 116, 117, 100, 101, 110, 116, 32, 44, 32, 119, 104, 111, 32, 115, 108, 101, 101, 112, 115, 44, 32, 107, 110, 111, 119, 115, 32, 65, 110, 110, 32, 46]⟩] w fun e w' => ∃ v, e = .returned (.tuple #[v, .int .i64 0, .int .i64 0]) ∧ StrSlice w' v wantL ∧ Below w.heap.size w w' := by
  have h := Tokens_short W0 w ht ⟨#[69, 118, 101, 114, 121, 32, 115, 116, 117, 100, 101, 110, 116, 32, 44, 32, 119, 104, 111, 32, 115, 108, 101, 101, 112, 115, 44, 32, 107, 110, 111, 119, 115, 32, 65, 110, 110, 32, 46]⟩ (by decide)
  rw [tok1] at h
  exact h
theorem tokens2 (W0 w : World) (ht : Tabs W0 w) :
    Calls Tryz.prog 15 #[.string ⟨#[65, 110, 110, 32, 115, 108, 101, 101, 112, 115]⟩] w fun e w' => ∃ v, e = .returned (.tuple #[v, .int .i64 10, .int .i64 332]) ∧ Below w.heap.size w w' := by
  refine (Tokens_short W0 w ht ⟨#[65, 110, 110, 32, 115, 108, 101, 101, 112, 115]⟩ (by decide)).mono ?_
  rintro e w' ⟨v, rfl, _, hb⟩
  rw [tok2]
  exact ⟨v, rfl, hb⟩
theorem tokens3 (W0 w : World) (ht : Tabs W0 w) :
    Calls Tryz.prog 15 #[.string ⟨#[65, 110, 110, 46, 32, 66, 111, 98, 46]⟩] w fun e w' => ∃ v, e = .returned (.tuple #[v, .int .i64 5, .int .i64 332]) ∧ Below w.heap.size w w' := by
  refine (Tokens_short W0 w ht ⟨#[65, 110, 110, 46, 32, 66, 111, 98, 46]⟩ (by decide)).mono ?_
  rintro e w' ⟨v, rfl, _, hb⟩
  rw [tok3]
  exact ⟨v, rfl, hb⟩
theorem tokens4 (W0 w : World) (ht : Tabs W0 w) :
    Calls Tryz.prog 15 #[.string ⟨#[44, 32, 65, 110, 110, 46]⟩] w fun e w' => ∃ v, e = .returned (.tuple #[v, .int .i64 0, .int .i64 332]) ∧ Below w.heap.size w w' := by
  refine (Tokens_short W0 w ht ⟨#[44, 32, 65, 110, 110, 46]⟩ (by decide)).mono ?_
  rintro e w' ⟨v, rfl, _, hb⟩
  rw [tok4]
  exact ⟨v, rfl, hb⟩
theorem tokens5 (W0 w : World) (ht : Tabs W0 w) :
    Calls Tryz.prog 15 #[.string ⟨#[65, 110, 110, 32, 50, 46]⟩] w fun e w' => ∃ v, e = .returned (.tuple #[v, .int .i64 4, .int .i64 332]) ∧ Below w.heap.size w w' := by
  refine (Tokens_short W0 w ht ⟨#[65, 110, 110, 32, 50, 46]⟩ (by decide)).mono ?_
  rintro e w' ⟨v, rfl, _, hb⟩
  rw [tok5]
  exact ⟨v, rfl, hb⟩
theorem text_known (W0 w : World) (ht : Tabs W0 w) (v : Value) (hv : StrSlice w v wantL) :
    Calls Tryz.prog 17 #[v] w fun e w' => e = .returned (.tuple #[.string ⟨#[69, 118, 101, 114, 121, 32, 115, 116, 117, 100, 101, 110, 116, 44, 32, 119, 104, 111, 32, 115, 108, 101, 101, 112, 115, 44, 32, 107, 110, 111, 119, 115, 32, 65, 110, 110, 46]⟩, .int .i64 0]) ∧ Below w.heap.size w w' := by
  have h := Text_good W0 w ht v wantL hv (by decide) (by decide) (by decide)
  rw [text1] at h
  exact h

theorem article_known (W0 w : World) (ht : Tabs W0 w) :
    Calls Tryz.prog 21 #[.string ⟨#[111, 119, 108]⟩] w fun e w' => e = .returned (.string ⟨#[97, 110]⟩) ∧ w = w' := by
  have h := Article_any W0 w ht ⟨#[111, 119, 108]⟩
  rw [show articleS (⟨#[111, 119, 108]⟩ : ByteArray).data.toList = [97, 110] by decide] at h
  exact h
theorem valid_known (W0 w : World) (ht : Tabs W0 w) (v : Value) (hv : EntSlice w v exampleL) :
    Calls Tryz.prog 26 #[v] w fun r w' => r = .returned (.bool true) ∧ Below w.heap.size w w' := by
  have h := Valid_short W0 w ht v exampleL hv (by decide)
  rw [example_valid] at h
  exact h

set_option maxRecDepth 100000 in
set_option maxHeartbeats 4000000 in
theorem awake_any (W0 w : World) (ht : Tabs W0 w) :
    Calls Tryz.prog 7 #[] w fun r w' => r = .returned (.bool true) ∧ Below w.heap.size w w' := by
  go_enter Tryz.func7, Tryz.ntmps7
  go_wp2
  go_loopw [3] (fun i wr => ∃ k : Nat, k ≤ 6 ∧ i = .int .i64 k ∧ Below w.heap.size w wr ∧ (∀ j (h : j < 6), wr.cell? ⟨w.heap.size, j, none⟩ = some (.string ⟨(basesL[j]'h).toArray⟩)) ∧ (∀ j (h : j < 6), wr.cell? ⟨w.heap.size + 1, j, none⟩ = some (.string ⟨(thirdsL[j]'h).toArray⟩))) (fun i _ => 6 - (intOf i).toNat)
  case atStart =>
    refine ⟨0, Nat.zero_le _, rfl, ((Below.refl _ _).alloc (Nat.le_refl _) _).alloc (by simp) _, fun j hj => ?_, fun j hj => ?_⟩
    · rw [cell_of_row _ w.heap.size j _ _ _ (by rw [heap_alloc_old _ _ (by simp)]; exact heap_alloc_new _ _)]
      rcases j with _|_|_|_|_|_|j <;> first | rfl | omega
    · rw [cell_of_row _ (w.heap.size + 1) j _ _ _ (by rw [← World.size_alloc w (.cells #[.string ⟨#[107, 110, 111, 119]⟩, .string ⟨#[119, 97, 116, 99, 104]⟩, .string ⟨#[103, 111]⟩, .string ⟨#[112, 108, 97, 121]⟩, .string ⟨#[116, 114, 121]⟩, .string ⟨#[121]⟩] 9)]; exact heap_alloc_new _ _)]
      rcases j with _|_|_|_|_|_|j <;> first | rfl | omega
  case round =>
    obtain ⟨k, hk, rfl, hb, hc1, hc2⟩ := hrel
    by_cases hlt : k < 6
    · obtain ⟨s, hs⟩ : ∃ s, s = (⟨(basesL[k]'hlt).toArray⟩ : ByteArray) := ⟨_, rfl⟩
      obtain ⟨u, hu⟩ : ∃ u, u = (⟨(thirdsL[k]'hlt).toArray⟩ : ByteArray) := ⟨_, rfl⟩
      have c1 := hc1 k hlt
      have c2 := hc2 k hlt
      rw [← hs] at c1
      rw [← hu] at c2
      have H3 := Lib.hid (third_known W0 wr (ht.next hb) k hlt s u hs hu)
      have C1 := Lib.hid hc1
      have C2 := Lib.hid hc2
      clear hs hu hc1 hc2
      go_wp2_with (go_at_call 13; refine H3.out.mono ?_; rintro e w1 ⟨rfl, hb1⟩; have c3 := cell_kept' hb1 c2)
      go_roundw
      case rel => exact ⟨k + 1, by omega, by go_num, hb.trans (hb1.mono hb.size), fun j h => cell_kept' hb1 (C1.out j h), fun j h => cell_kept' hb1 (C2.out j h)⟩
      case measure => simp [intOf]; omega
    · obtain rfl : k = 6 := by omega
      clear hc1 hc2
      go_wp2_with fail
      have hz := hb.size
      have ht1 := (ht.next hb).alloc (.cells #[.string ⟨#[101, 118, 101, 114, 121]⟩, .string ⟨#[115, 116, 117, 100, 101, 110, 116]⟩, .string ⟨#[44]⟩, .string ⟨#[119, 104, 111]⟩, .string ⟨#[115, 108, 101, 101, 112, 115]⟩, .string ⟨#[44]⟩, .string ⟨#[107, 110, 111, 119, 115]⟩, .string ⟨#[65, 110, 110]⟩, .string ⟨#[46]⟩] 9)
      have hq1 := hb.alloc hz (.cells #[.string ⟨#[101, 118, 101, 114, 121]⟩, .string ⟨#[115, 116, 117, 100, 101, 110, 116]⟩, .string ⟨#[44]⟩, .string ⟨#[119, 104, 111]⟩, .string ⟨#[115, 108, 101, 101, 112, 115]⟩, .string ⟨#[44]⟩, .string ⟨#[107, 110, 111, 119, 115]⟩, .string ⟨#[65, 110, 110]⟩, .string ⟨#[46]⟩] 9)
      have hs1 : StrSlice (wr.alloc (.cells #[.string ⟨#[101, 118, 101, 114, 121]⟩, .string ⟨#[115, 116, 117, 100, 101, 110, 116]⟩, .string ⟨#[44]⟩, .string ⟨#[119, 104, 111]⟩, .string ⟨#[115, 108, 101, 101, 112, 115]⟩, .string ⟨#[44]⟩, .string ⟨#[107, 110, 111, 119, 115]⟩, .string ⟨#[65, 110, 110]⟩, .string ⟨#[46]⟩] 9)) (.slice (some ⟨wr.heap.size, 0, none⟩) wantL.length 9) wantL := strSlice_of_row (heap_alloc_new _ _) rfl (by decide) (by decide)
      refine (tokens1 W0 _ ht1).mono ?_
      rintro e w1 ⟨v1, rfl, hv1, hb1⟩
      have hs2 := hs1.below hb1
      have ht2 := ht1.next hb1
      go_wp2_with fail
      refine (text_known W0 _ ht2 _ hs2).mono ?_
      rintro e w2 ⟨rfl, hb2⟩
      have hs3 := hs2.below hb2
      have ht3 := ht2.next hb2
      have hv2 := hv1.below hb2
      go_wp2_with fail
      refine (tokens2 W0 _ ht3).mono ?_
      rintro e w3 ⟨u3, rfl, hb3⟩
      have hs4 := hs3.below hb3
      have ht4 := ht3.next hb3
      have hv3 := hv2.below hb3
      go_wp2_with fail
      refine (tokens3 W0 _ ht4).mono ?_
      rintro e w4 ⟨u4, rfl, hb4⟩
      have hs5 := hs4.below hb4
      have ht5 := ht4.next hb4
      have hv4 := hv3.below hb4
      go_wp2_with fail
      refine (tokens4 W0 _ ht5).mono ?_
      rintro e w5 ⟨u5, rfl, hb5⟩
      have hs6 := hs5.below hb5
      have ht6 := ht5.next hb5
      have hv5 := hv4.below hb5
      go_wp2_with fail
      refine (tokens5 W0 _ ht6).mono ?_
      rintro e w6 ⟨u6, rfl, hb6⟩
      have hs7 := hs6.below hb6
      have ht7 := ht6.next hb6
      have hv6 := hv5.below hb6
      go_wp2_with fail
      refine (Example_any _).mono ?_
      rintro e w7 ⟨ve, rfl, hve, hb7⟩
      have hs8 := hs7.below hb7
      have ht8 := ht7.next hb7
      have hv7 := hv6.below hb7
      go_wp2_with fail
      refine (Look_good W0 _ ht8 ve exampleL hve (by decide) example_valid ⟨#[112, 108, 97, 121, 115]⟩).mono ?_
      rintro e w8 ⟨vf, rfl, hvf, hb8⟩
      have hs9 := hs8.below hb8
      have ht9 := ht8.next hb8
      have hv8 := hv7.below hb8
      have hq8 := (hq1.trans ((((((((Below.refl _ _).trans hb1).trans (hb2.mono hb1.size)).trans (hb3.mono (Nat.le_trans hb1.size hb2.size))).trans (hb4.mono (Nat.le_trans hb1.size (Nat.le_trans hb2.size hb3.size)))).trans (hb5.mono (Nat.le_trans hb1.size (Nat.le_trans hb2.size (Nat.le_trans hb3.size hb4.size))))).trans (hb6.mono (Nat.le_trans hb1.size (Nat.le_trans hb2.size (Nat.le_trans hb3.size (Nat.le_trans hb4.size hb5.size)))))).mono hq1.size))
      have hq8' := (hq8.trans (hb7.mono hq8.size))
      have hq9 := (hq8'.trans (hb8.mono hq8'.size))
      rw [show lookS (⟨#[112, 108, 97, 121, 115]⟩ : ByteArray).data.toList exampleL = [(6, true), (7, true)] from look_known] at hvf
      obtain ⟨af, capf, rfl, hvf⟩ := hvf
      rcases hvf with hvf | ⟨gf, rfl, hcf⟩
      · cases hvf
      have cf0 := (hcf 1 (by decide)).1
      have cf1 := (hcf 1 (by decide)).2
      clear hcf
      go_wp2_with fail
      refine (SameTexts_any _ v1 _ wantL wantL hv8 hs9 (by decide)).mono ?_
      rintro e w9 ⟨rfl, hb9⟩
      have ht10 := ht9.next hb9
      have cf2 := cell_kept' hb9 cf0
      have cf3 := cell_kept' hb9 cf1
      go_wp2_with fail
      refine (article_known W0 _ ht10).mono ?_
      rintro e w9' ⟨rfl, rfl⟩
      go_wp2_with fail
      refine (Example_any _).mono ?_
      rintro e w10 ⟨vx, rfl, hvx, hb10⟩
      have ht11 := ht10.next hb10
      have cf4 := cell_kept' hb10 cf2
      have cf5 := cell_kept' hb10 cf3
      go_wp2_with fail
      refine (valid_known W0 _ ht11 vx hvx).mono ?_
      rintro e w11 ⟨rfl, hb11⟩
      have cf6 := cell_kept' hb11 cf4
      have cf7 := cell_kept' hb11 cf5
      have hq10 := hq9.trans (hb9.mono hq9.size)
      have hq11 := hq10.trans (hb10.mono hq10.size)
      have hq12 := hq11.trans (hb11.mono hq11.size)
      have HQ := Lib.hid hq12
      clear hq1 hq8 hq8' hq9 hq10 hq11 hq12 hb1 hb2 hb3 hb4 hb5 hb6 hb7 hb8 hb9 hb10 hb11 hv1 hv2 hv3 hv4 hv5 hv6 hv7 hv8 hs1 hs2 hs3 hs4 hs5 hs6 hs7 hs8 hs9 cf0 cf1 cf2 cf3 cf4 cf5
      go_wp2
      go_ret
      exact ⟨rfl, HQ.out⟩
end Go.Proofs.YtakpkaklcjgdkaaGreatDoor
