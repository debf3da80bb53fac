/-
  The contracts of 'Right', and of 'Yield' at a parse that is not right.
-/
import Derived.Test.YthmnffgjckpkiaaGreatDoorRig
import Derived.Test.YthmnffgjckpkiaaGreatDoorGEngH
namespace Go.Proofs.YthmnffgjckpkiaaGreatDoor
open Go Go.RowKit Go.Shelf

set_option maxRecDepth 100000 in
set_option maxHeartbeats 1000000 in
/-- **Right.** -/
theorem Right34_any (W0 w : World) (ht : Tabs W0 w) (l : List Ent) (lv v : Value) (t : Tr) (hl : EntSlice w lv l) (hv : TreeV (fun _ => True) w v t) :
    Calls Tryz.prog 29 #[lv, v] w fun e w' => e = .returned (.bool (okAll l t)) ∧ Below w.heap.size w w' := by
  obtain ⟨q, rfl⟩ := hv.form
  obtain ⟨⟨la, lcap, rfl, _⟩, _⟩ := id hl
  have HV := Lib.hid hv
  have HL := Lib.hid hl
  obtain ⟨N, hN⟩ : ∃ N, N = l.length := ⟨_, rfl⟩
  rw [← hN]
  have HN := Lib.hid hN
  clear hv hl hN
  have hok : okAll l t = (validS l && (decide (sizeT t ≤ 200) && okS l t)) := by unfold okAll; rw [Bool.and_assoc]
  obtain ⟨b1, hb1⟩ : ∃ b1, b1 = validS l := ⟨_, rfl⟩
  obtain ⟨b2, hb2⟩ : ∃ b2, b2 = decide (sizeT t ≤ 200) := ⟨_, rfl⟩
  obtain ⟨b3, hb3⟩ : ∃ b3, b3 = okS l t := ⟨_, rfl⟩
  rw [← hb1, ← hb2, ← hb3] at hok
  rw [hok]
  have HB1 := Lib.hid hb1
  have HB2 := Lib.hid hb2
  have HB3 := Lib.hid hb3
  clear hok hb1 hb2 hb3
  unfold TV.val
  go_enter Tryz.func29, Tryz.ntmps29
  go_upto_region 1 with (fail)
  obtain ⟨W1, hW1⟩ : ∃ W1, W1 = w.alloc (.cells #[.int .u8 q.r, .int .i64 q.e, .string q.w, .slice q.a q.n q.c] 36) := ⟨_, rfl⟩
  have hb : Below w.heap.size w W1 := by rw [hW1]; exact (Below.refl _ _).alloc (Nat.le_refl _) _
  have htb : W1.heap[w.heap.size]? = some (.cells #[.int .u8 q.r, .int .i64 q.e, .string q.w, .slice q.a q.n q.c] 36 (0, 0)) := by rw [hW1]; exact heap_atC rfl
  rw [← hW1]
  obtain ⟨T, hT⟩ : ∃ T, T = w.heap.size := ⟨_, rfl⟩
  rw [← hT] at htb ⊢
  have HB := Lib.hid hb
  have c0 : W1.cell? ⟨T, 0, none⟩ = some (.int .u8 q.r) := (cell_rowC htb 0).trans rfl
  have c1 : W1.cell? ⟨T, 1, none⟩ = some (.int .i64 q.e) := (cell_rowC htb 1).trans rfl
  have c2 : W1.cell? ⟨T, 2, none⟩ = some (.string q.w) := (cell_rowC htb 2).trans rfl
  have c3 : W1.cell? ⟨T, 3, none⟩ = some (.slice q.a q.n q.c) := (cell_rowC htb 3).trans rfl
  clear hW1 hb htb hT
  have hC1 := Valid_all W0 W1 (ht.next HB.out) _ l (HL.out.below HB.out)
  rw [← HN.out, ← HB1.out] at hC1
  have HC1 := Lib.hid hC1
  have Ht := Lib.hid ht
  clear hC1 ht
  go_wp2_with fail
  refine HC1.out.mono ?_
  rintro _ w2 ⟨rfl, hb2⟩
  have d0 := cell_kept' hb2 c0
  have d1 := cell_kept' hb2 c1
  have d2 := cell_kept' hb2 c2
  have d3 := cell_kept' hb2 c3
  have HB2b := Lib.hid (HB.out.trans (hb2.mono HB.out.size))
  clear c0 c1 c2 c3 hb2
  cases b1
  · go_wp2
    go_ret
    exact ⟨ret_bool rfl, HB2b.out⟩
  · have hC2 := measured_any w2 q.val t (HV.out.move (fun b _ h => ⟨trivial, by obtain ⟨_, _, h⟩ := h; exact HB2b.out.block b (cell_lt h)⟩))
    rw [← HB2.out] at hC2
    have HC2 := Lib.hid hC2
    clear hC2
    go_wp2_with fail
    refine HC2.out.mono ?_
    rintro _ w3 ⟨rfl, hb3⟩
    have e0 := cell_kept' hb3 d0
    have e1 := cell_kept' hb3 d1
    have e2 := cell_kept' hb3 d2
    have e3 := cell_kept' hb3 d3
    have HB3b := Lib.hid (HB2b.out.trans (hb3.mono HB2b.out.size))
    clear d0 d1 d2 d3 hb3
    cases b2
    · go_wp2
      go_ret
      exact ⟨ret_bool rfl, HB3b.out⟩
    · have hC3 := right_any l _ t w3 q.val (HL.out.below HB3b.out) (HV.out.move (fun b _ h => ⟨trivial, by obtain ⟨_, _, h⟩ := h; exact HB3b.out.block b (cell_lt h)⟩))
      rw [← HN.out, ← HB3.out] at hC3
      have HC3 := Lib.hid hC3
      clear hC3
      go_wp2_with fail
      refine HC3.out.mono ?_
      rintro _ w4 ⟨rfl, hb4⟩
      go_wp2
      go_ret
      exact ⟨ret_bool (by simp), HB3b.out.trans (hb4.mono HB3b.out.size)⟩
set_option maxRecDepth 100000 in
set_option maxHeartbeats 1000000 in
/-- **Yield**, at a parse that is not right. -/
theorem Yield_bad (W0 w : World) (ht : Tabs W0 w) (l : List Ent) (lv v : Value) (t : Tr) (hl : EntSlice w lv l) (hv : TreeV (fun _ => True) w v t) (hn : okAll l t = false) :
    Calls Tryz.prog 30 #[lv, v] w fun e w' => e = .returned (.tuple #[.slice none 0 0, .int .i64 2]) ∧ Below w.heap.size w w' := by
  obtain ⟨q, rfl⟩ := hv.form
  have HV := Lib.hid hv
  have HL := Lib.hid hl
  have Ht := Lib.hid ht
  have HNo := Lib.hid hn
  clear hv hl ht hn
  unfold TV.val
  go_enter Tryz.func30, Tryz.ntmps30
  go_upto_region 1 with (fail)
  obtain ⟨W1, hW1⟩ : ∃ W1, W1 = w.alloc (.cells #[.int .u8 q.r, .int .i64 q.e, .string q.w, .slice q.a q.n q.c] 36) := ⟨_, rfl⟩
  have hb : Below w.heap.size w W1 := by rw [hW1]; exact (Below.refl _ _).alloc (Nat.le_refl _) _
  have htb : W1.heap[w.heap.size]? = some (.cells #[.int .u8 q.r, .int .i64 q.e, .string q.w, .slice q.a q.n q.c] 36 (0, 0)) := by rw [hW1]; exact heap_atC rfl
  rw [← hW1]
  obtain ⟨T, hT⟩ : ∃ T, T = w.heap.size := ⟨_, rfl⟩
  rw [← hT] at htb ⊢
  have HB := Lib.hid hb
  have c0 : W1.cell? ⟨T, 0, none⟩ = some (.int .u8 q.r) := (cell_rowC htb 0).trans rfl
  have c1 : W1.cell? ⟨T, 1, none⟩ = some (.int .i64 q.e) := (cell_rowC htb 1).trans rfl
  have c2 : W1.cell? ⟨T, 2, none⟩ = some (.string q.w) := (cell_rowC htb 2).trans rfl
  have c3 : W1.cell? ⟨T, 3, none⟩ = some (.slice q.a q.n q.c) := (cell_rowC htb 3).trans rfl
  clear hW1 hb htb hT
  have hC := Right34_any W0 W1 (Ht.out.next HB.out) l lv q.val t (HL.out.below HB.out) (HV.out.move (fun b _ h => ⟨trivial, by obtain ⟨_, _, h⟩ := h; exact HB.out.block b (cell_lt h)⟩))
  rw [HNo.out] at hC
  have HC := Lib.hid hC
  clear hC
  go_wp2_with fail
  refine HC.out.mono ?_
  rintro _ w2 ⟨rfl, hb2⟩
  go_wp2
  go_ret2
  exact ⟨rfl, HB.out.trans (hb2.mono HB.out.size)⟩
end Go.Proofs.YthmnffgjckpkiaaGreatDoor
