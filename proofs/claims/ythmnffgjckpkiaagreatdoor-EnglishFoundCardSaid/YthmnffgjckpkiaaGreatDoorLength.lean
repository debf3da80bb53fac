/-
  The contract of 'length' of the laws of chapter 34.
-/
import Derived.Test.YthmnffgjckpkiaaGreatDoorYield
import Derived.Test.YthmnffgjckpkiaaGreatDoorGPlain
namespace Go.Proofs.YthmnffgjckpkiaaGreatDoor
open Go Go.RowKit Go.Shelf

theorem yield_len {l : List Ent} (t : Tr) : (yieldS l t).1.length ≤ 1000 := by
  cases h : okAll l t
  · rw [yieldS_bad h]; simp
  · rw [yieldS_good h]
    have hoks : okS l t = true := by unfold okAll at h; simp only [Bool.and_eq_true] at h; exact h.2
    have hsz : sizeT t ≤ 200 := by unfold okAll at h; simp only [Bool.and_eq_true, decide_eq_true_eq] at h; exact h.1.2
    have := words_le t hoks false
    simp only [yieldW, List.length_append]
    split <;> simp <;> omega
set_option maxRecDepth 100000 in
set_option maxHeartbeats 4000000 in
/-- **length.** -/
theorem length_any (Wt w : World) (ht : Tabs Wt w) (l : List Ent) (lv : Value) (q : TV) (t : Tr) (hl : EntSlice w lv l) (hv : TreeV (fun _ => True) w q.val t) :
    Calls Tryz.prog 31 #[lv, q.val] w fun e w' => e = .returned (.int .i64 (lenS l t)) ∧ Below w.heap.size w w' := by
  have hle := yield_len (l := l) t
  obtain ⟨s, hs⟩ : ∃ s, s = (yieldS l t).1 := ⟨_, rfl⟩
  have hlen : lenS l t = if s.getLast? = some wDot then s.length - 1 else s.length := by unfold lenS; rw [hs]
  rw [hlen]
  obtain ⟨m, hm⟩ : ∃ m, m = (if s.getLast? = some wDot then s.length - 1 else s.length) := ⟨_, rfl⟩
  rw [← hm]
  have HM := Lib.hid hm
  rw [← hs] at hle
  obtain ⟨ee, hee⟩ : ∃ ee, ee = (yieldS l t).2 := ⟨_, rfl⟩
  have HY := Lib.hid (fun W h1 h2 h3 => Yield_any Wt W h1 l lv q.val t h2 h3)
  rw [← hs, ← hee] at HY
  have HL := Lib.hid hl
  have HV := Lib.hid hv
  have HTt := Lib.hid ht
  clear hl hv ht hs hlen hee hm
  unfold TV.val
  go_enter Tryz.func31, Tryz.ntmps31
  go_wp2_with fail
  obtain ⟨W1, hW1⟩ : ∃ W1, W1 = w.alloc (.cells #[.int .u8 q.r, .int .i64 q.e, .string q.w, .slice q.a q.n q.c] 36) := ⟨_, rfl⟩
  have hb : Below w.heap.size w W1 := by rw [hW1]; exact (Below.refl _ _).alloc (Nat.le_refl _) _
  rw [← hW1]
  clear hW1
  have HB := Lib.hid hb
  clear hb
  refine (HY.out W1 (HTt.out.next HB.out) (HL.out.below HB.out) (HV.out.move (fun b _ h => ⟨trivial, by obtain ⟨_, _, h⟩ := h; exact HB.out.block b (cell_lt h)⟩))).mono ?_
  rintro _ w2 ⟨v', rfl, hss, hb2⟩
  obtain ⟨a, cap, rfl, hc1, hc2, hform⟩ := hss
  have HB2 := Lib.hid (HB.out.trans (hb2.mono HB.out.size))
  clear hb2 hc1 hc2
  by_cases h0 : s = []
  · subst h0
    go_wp2
    go_ret
    exact ⟨ret_int (by rw [HM.out]; rfl), HB2.out⟩
  · obtain ⟨b, off, rfl, hc⟩ := hform.resolve_left h0
    have hpos := List.length_pos_iff.2 h0
    obtain ⟨n, hn⟩ : ∃ n, s.length = n + 1 := ⟨s.length - 1, by omega⟩
    have c0 := hc n (by omega)
    obtain ⟨lw, hlw⟩ : ∃ lw, lw = s[n] := ⟨_, rfl⟩
    rw [← hlw] at c0
    have hlast : s.getLast? = some lw := by
      rw [List.getLast?_eq_getElem?, hn, Nat.add_sub_cancel, List.getElem?_eq_getElem (by omega), hlw]
    rw [hn]
    have HN := Lib.hid hn
    have HLa := Lib.hid hlast
    have hw1 : IntKind.i64.wrap (((n + 1 : Nat) : Int) - 1) = (n : Int) := by rw [show ((n + 1 : Nat) : Int) - 1 = (n : Int) by omega]; exact IntWalk.i64_in _ (by omega)
    have hw2 : IntKind.i64.wrap ((n : Int) + 1 - 1) = (n : Int) := by rw [show (n : Int) + 1 - 1 = (n : Int) by omega]; exact IntWalk.i64_in _ (by omega)
    have b1 : (0 : Int) < ((n + 1 : Nat) : Int) := by omega
    have b2 : decide ((0 : Int) < ((n + 1 : Nat) : Int)) = true := decide_eq_true b1
    have b3 : (n : Int) < ((n + 1 : Nat) : Int) := by omega
    have b4 : (0 : Int) ≤ (n : Int) := by omega
    clear hform hc h0 hpos hlast hlw
    by_cases hd : lw = wDot
    · have e1 : (lw == [46]) = true := by rw [hd]; rfl
      have HD := Lib.hid hd
      clear hd
      go_wp2
      go_ret
      refine ⟨ret_int ?_, HB2.out⟩
      rw [HM.out, HLa.out, HN.out, if_pos (by rw [HD.out])]
      omega
    · have e1 : (lw == [46]) = false := by simpa [wDot] using hd
      have HD := Lib.hid hd
      clear hd
      go_wp2
      go_ret
      refine ⟨ret_int ?_, HB2.out⟩
      rw [HM.out, HLa.out, HN.out, if_neg (fun h => HD.out (Option.some.inj h))]
      omega
end Go.Proofs.YthmnffgjckpkiaaGreatDoor
