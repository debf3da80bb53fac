/-
  The walk of 'EnglishWrong'.
-/
import Derived.Test.YthmnffgjckpkiaaGreatDoorWrongS
import Derived.Test.YthmnffgjckpkiaaGreatDoorRight34
import Derived.Test.YthmnffgjckpkiaaGreatDoorSmall34
import Derived.Test.YthmnffgjckpkiaaGreatDoorGEngI
namespace Go.Proofs.YthmnffgjckpkiaaGreatDoor
open Go Go.RowKit Go.Shelf

/-- Without entries no parse is right. -/
theorem ok_empty : ∀ (x : Tr), okS [] x = false := by
  intro x
  induction x using Tr.ind with
  | h r e w sub ih =>
    cases h : okS [] (.node r e w sub)
    · rfl
    · exfalso
      rcases ok_shape h with (⟨hr, _, _, y, z, rfl, hy, hz⟩ | ⟨rfl, _, _, y, z, rfl, hy, hz⟩ | ⟨n, _, hn, _, rfl, hr⟩ | ⟨rfl, _, _, y, rfl, hy⟩ | ⟨n, _, hn, _, y, rfl, hy, hr⟩) | (⟨n, _, hn, _, _, _⟩ | ⟨rfl, _, _, y, rfl, hy⟩ | ⟨rfl, _, _, y, rfl, hy⟩ | ⟨hr, _, _, y, z, rfl, hy, hz⟩)
      · have := ih y (by simp); rw [hy.2] at this; cases this
      · have := ih y (by simp); rw [hy.2] at this; cases this
      · simp at hn
      · have := ih y (by simp); rw [hy.2] at this; cases this
      · simp at hn
      · simp at hn
      · have := ih y (by simp); rw [hy.2] at this; cases this
      · have := ih y (by simp); rw [hy.2.1] at this; cases this
      · have := ih y (by simp); rw [hy.2] at this; cases this
set_option maxRecDepth 100000 in
set_option maxHeartbeats 16000000 in
theorem EnglishWrong_any (W0 w : World) (ht : Tabs W0 w) (lv v : Value) (l : List Ent) (hl : EntSlice w lv l) (t : Tr) (hv : TreeV (fun _ => True) w v t) (c : Int) (hc0 : 0 ≤ c) (hc1 : c ≤ 255) :
    Calls Tryz.prog 9 #[lv, v, .int .u8 c] w fun e w' => e = .returned (.bool true) ∧ Below w.heap.size w w' := by
  obtain ⟨i0, hi, hz0, hz1, hz2⟩ := info_parts info_tree
  obtain ⟨q, rfl⟩ := hv.form
  obtain ⟨⟨la, lcap, rfl, _⟩, _⟩ := id hl
  obtain ⟨N, hN⟩ : ∃ N, N = l.length := ⟨_, rfl⟩
  rw [← hN]
  have HN := Lib.hid hN
  have HV := Lib.hid hv
  have HL := Lib.hid hl
  have HT := Lib.hid ht
  clear hv hl ht hN
  unfold TV.val
  go_enter Tryz.func9, Tryz.ntmps9
  go_upto_region 1 with (fail)
  obtain ⟨W1, hW1⟩ : ∃ W1, W1 = w.alloc (.cells #[.int .u8 q.r, .int .i64 q.e, .string q.w, .slice q.a q.n q.c] 36) := ⟨_, rfl⟩
  have hb : Below w.heap.size w W1 := by rw [hW1]; exact (Below.refl _ _).alloc (Nat.le_refl _) _
  have htb : W1.heap[w.heap.size]? = some (.cells #[.int .u8 q.r, .int .i64 q.e, .string q.w, .slice q.a q.n q.c] 36 (0, 0)) := by rw [hW1]; exact heap_atC rfl
  rw [← hW1]
  obtain ⟨T, hT⟩ : ∃ T, T = w.heap.size := ⟨_, rfl⟩
  rw [← hT] at htb ⊢
  have HB1 := Lib.hid hb
  have c0 : W1.cell? ⟨T, 0, none⟩ = some (.int .u8 q.r) := (cell_rowC htb 0).trans rfl
  have c1 : W1.cell? ⟨T, 1, none⟩ = some (.int .i64 q.e) := (cell_rowC htb 1).trans rfl
  have c2 : W1.cell? ⟨T, 2, none⟩ = some (.string q.w) := (cell_rowC htb 2).trans rfl
  have c3 : W1.cell? ⟨T, 3, none⟩ = some (.slice q.a q.n q.c) := (cell_rowC htb 3).trans rfl
  have HTo := Lib.hid (show T < W1.heap.size from (Array.getElem?_eq_some_iff.1 htb).1)
  have HTe := Lib.hid hT
  clear hW1 hb htb hT
  have HA := Lib.hid (awake34_any W0 W1 (HT.out.next HB1.out))
  go_wp2_with fail
  refine HA.out.mono ?_
  rintro _ w2 ⟨rfl, hb2⟩
  have d0 := cell_kept' hb2 c0
  have d1 := cell_kept' hb2 c1
  have d2 := cell_kept' hb2 c2
  have d3 := cell_kept' hb2 c3
  have HB2 := Lib.hid (HB1.out.trans (hb2.mono HB1.out.size))
  clear c0 c1 c2 c3 hb2
  obtain ⟨b1, hb1e⟩ : ∃ b, b = smallL l := ⟨_, rfl⟩
  have hS := Small_any w2 _ l (HL.out.below HB2.out)
  rw [← HN.out, ← hb1e] at hS
  have HS := Lib.hid hS
  clear hS hb1e
  go_wp2_with fail
  refine HS.out.mono ?_
  rintro _ w2' ⟨rfl, h2⟩
  rw [← h2]
  clear h2 w2'
  cases b1
  · go_wp2
    go_ret
    exact ⟨rfl, HB2.out⟩
  obtain ⟨b2, hb2e⟩ : ∃ b, b = fewS t := ⟨_, rfl⟩
  have hF := few_any w2 q.val t (HV.out.move (fun b _ h => ⟨trivial, by obtain ⟨_, _, h⟩ := h; exact HB2.out.block b (cell_lt h)⟩))
  rw [← hb2e] at hF
  have HF := Lib.hid hF
  have HFe := Lib.hid hb2e
  clear hF hb2e
  go_wp2_with fail
  refine HF.out.mono ?_
  rintro _ w3 ⟨rfl, hb3⟩
  have e0 := cell_kept' hb3 d0
  have e1 := cell_kept' hb3 d1
  have e2 := cell_kept' hb3 d2
  have e3 := cell_kept' hb3 d3
  have HB3 := Lib.hid (HB2.out.trans (hb3.mono HB2.out.size))
  clear d0 d1 d2 d3 hb3
  cases b2
  · go_wp2
    go_ret
    exact ⟨rfl, HB3.out⟩
  obtain ⟨b3, hb3e⟩ : ∃ b, b = okAll l t := ⟨_, rfl⟩
  have hR := Right34_any W0 w3 (HT.out.next HB3.out) l _ q.val t (HL.out.below HB3.out) (HV.out.move (fun b _ h => ⟨trivial, by obtain ⟨_, _, h⟩ := h; exact HB3.out.block b (cell_lt h)⟩))
  rw [← hb3e, ← HN.out] at hR
  have HR := Lib.hid hR
  have HR2 := Lib.hid hb3e
  clear hR hb3e
  go_wp2_with fail
  refine HR.out.mono ?_
  rintro _ w4 ⟨rfl, hb4⟩
  have f0 := cell_kept' hb4 e0
  have f1 := cell_kept' hb4 e1
  have f2 := cell_kept' hb4 e2
  have f3 := cell_kept' hb4 e3
  have HB4 := Lib.hid (HB3.out.trans (hb4.mono HB3.out.size))
  clear e0 e1 e2 e3 hb4
  cases b3
  · go_wp2
    go_ret
    exact ⟨rfl, HB4.out⟩
  have hG := Given34_any t (slim_few HFe.out.symm) w4 q.val (HV.out.move (fun b _ h => ⟨trivial, by obtain ⟨_, _, h⟩ := h; exact HB4.out.block b (cell_lt h)⟩))
  have HG := Lib.hid hG
  clear hG
  go_wp2_with fail
  refine HG.out.mono ?_
  rintro _ w5 ⟨gv, rfl, hgi, hb5, _⟩
  have HB5 := Lib.hid (HB4.out.trans (hb5.mono HB4.out.size))
  have hTk := Taken34_any t (slim_few HFe.out.symm) w5 gv (hgi.treeV.move (fun b _ _ => ⟨trivial, rfl⟩))
  have HTk := Lib.hid hTk
  clear hTk hgi hb5 f0 f1 f2 f3
  go_wp2_with fail
  refine HTk.out.mono ?_
  rintro _ w6 ⟨tv, rfl, hti, hb6, p, rfl, hpn, hfor, hsz36⟩
  have HB6 := Lib.hid (HB5.out.trans (hb6.mono HB5.out.size))
  have HB56 := Lib.hid hb6
  have HTi := Lib.hid hti
  have HPn := Lib.hid hpn
  have HFor := Lib.hid hfor
  have HSz36 := Lib.hid hsz36
  clear hti hpn hfor hb6 hsz36
  obtain ⟨pr, pe, pw, pa, pn, pc⟩ := p
  obtain ⟨r, e, wd, sub⟩ := t
  have hhd := TreeV.head (HTi.out.treeV.move (ok' := fun _ => True) (fun b _ _ => ⟨trivial, rfl⟩))
  obtain ⟨rfl, rfl, rfl, hre⟩ := hhd
  have HRe := Lib.hid hre
  clear hre
  simp only at HPn HFor
  unfold TV.val
  simp only
  go_upto_region 6 with (fail)
  obtain ⟨W7, hW7⟩ : ∃ W7, W7 = w6.alloc (.cells #[.int .u8 pr, .int .i64 pe, .string ⟨wd.toArray⟩, .slice pa pn pc] 36) := ⟨_, rfl⟩
  have hb7 : Below w6.heap.size w6 W7 := by rw [hW7]; exact (Below.refl _ _).alloc (Nat.le_refl _) _
  have hz7 : W7.heap[w6.heap.size]? = some (.cells #[.int .u8 pr, .int .i64 pe, .string ⟨wd.toArray⟩, .slice pa pn pc] 36 (0, 0)) := by rw [hW7]; exact heap_atC rfl
  rw [← hW7]
  obtain ⟨Z, hZ⟩ : ∃ Z, Z = w6.heap.size := ⟨_, rfl⟩
  rw [← hZ] at hz7 ⊢
  have HB7 := Lib.hid (HB6.out.trans (hb7.mono HB6.out.size))
  have HB67 := Lib.hid hb7
  have HZ7 := Lib.hid hz7
  have HZ := Lib.hid hZ
  have k0 : W7.cell? ⟨Z, 0, none⟩ = some (.int .u8 pr) := (cell_rowC hz7 0).trans rfl
  have k1 : W7.cell? ⟨Z, 1, none⟩ = some (.int .i64 pe) := (cell_rowC hz7 1).trans rfl
  have k2 : W7.cell? ⟨Z, 2, none⟩ = some (.string ⟨wd.toArray⟩) := (cell_rowC hz7 2).trans rfl
  have k3 : W7.cell? ⟨Z, 3, none⟩ = some (.slice pa pn pc) := (cell_rowC hz7 3).trans rfl
  have z0 : W7.frozen? ⟨Z, 0, none⟩ = false := by simp [World.frozen?, hz7]
  have z1 : W7.frozen? ⟨Z, 1, none⟩ = false := by simp [World.frozen?, hz7]
  have z2 : W7.frozen? ⟨Z, 2, none⟩ = false := by simp [World.frozen?, hz7]
  have z3 : W7.frozen? ⟨Z, 3, none⟩ = false := by simp [World.frozen?, hz7]
  clear hW7 hb7 hz7 hZ
  have hno := fun j h3 => bad_wrong (l := l) (r := pr) (e := pe) (w := wd) (sub := sub) (HR2.out.symm) j h3
  have HLne : Go.RowKit.Hid (l ≠ []) := Lib.hid (by
    intro h0
    have h1 := okAll_ok HR2.out.symm
    rw [h0, ok_empty] at h1
    cases h1)
  have hN0 : ((N : Int) == 0) = false := by
    have := List.length_pos_iff.2 HLne.out
    have := HN.out
    simp; omega
  have hq : c % 8 = 0 ∨ c % 8 = 1 ∨ c % 8 = 2 ∨ c % 8 = 3 ∨ c % 8 = 4 ∨ c % 8 = 5 ∨ c % 8 = 6 ∨ c % 8 = 7 := by omega
  rcases hq with hq | hq | hq | hq | hq | hq | hq | hq
  · have HNo : Go.RowKit.Hid (okAll l (.node 0 pe wd sub) = false) := Lib.hid (hno 0 (fun _ => HLne.out))
    clear hno
    go_upto_region 24 with (fail)
    obtain ⟨W8, hW8⟩ : ∃ W8, W8 = W7.setCell ⟨Z, 0, none⟩ (.int .u8 0) := ⟨_, rfl⟩
    have hb8 : Below w6.heap.size w6 W8 := by rw [hW8]; exact HB67.out.setCell (by rw [← HZ.out]; exact Nat.le_refl _) _
    have hz8 : W8.heap[Z]? = some (.cells #[.int .u8 0, .int .i64 pe, .string ⟨wd.toArray⟩, .slice pa pn pc] 36 (0, 0)) := by rw [hW8]; exact (heap_setCell_same _ _ 0 _ _ _ HZ7.out).trans rfl
    rw [← hW8]
    have HBad := Lib.hid ((HRe.out 0 pe wd).move (ok' := fun _ => True) (fun b _ h => ⟨trivial, by obtain ⟨_, _, h⟩ := h; exact hb8.block b (cell_lt h)⟩))
    have HB8 := Lib.hid (HB6.out.trans (hb8.mono HB6.out.size))
    have m0 : W8.cell? ⟨Z, 0, none⟩ = some _ := (cell_rowC hz8 0).trans rfl
    have m1 : W8.cell? ⟨Z, 1, none⟩ = some _ := (cell_rowC hz8 1).trans rfl
    have m2 : W8.cell? ⟨Z, 2, none⟩ = some _ := (cell_rowC hz8 2).trans rfl
    have m3 : W8.cell? ⟨Z, 3, none⟩ = some _ := (cell_rowC hz8 3).trans rfl
    clear hW8 hb8 hz8 k0 k1 k2 k3 z0 z1 z2 z3
    have hY := Yield_bad W0 W8 (HT.out.next HB8.out) l _ _ _ (HL.out.below HB8.out) HBad.out HNo.out
    rw [← HN.out] at hY
    have HY := Lib.hid hY
    clear hY
    go_wp2_with fail
    refine HY.out.mono ?_
    rintro _ w9 ⟨rfl, hb9⟩
    have n0 := cell_kept' hb9 m0
    have n1 := cell_kept' hb9 m1
    have n2 := cell_kept' hb9 m2
    have n3 := cell_kept' hb9 m3
    have HB9 := Lib.hid (HB8.out.trans (hb9.mono HB8.out.size))
    have hR9 := Right34_any W0 w9 (HT.out.next HB9.out) l _ _ _ (HL.out.below HB9.out) (HBad.out.move (ok' := fun _ => True) (fun b _ h => ⟨trivial, by obtain ⟨_, _, h⟩ := h; exact hb9.block b (cell_lt h)⟩))
    rw [← HN.out, HNo.out] at hR9
    have HR9 := Lib.hid hR9
    clear hR9 hb9 m0 m1 m2 m3
    go_wp2_with fail
    refine HR9.out.mono ?_
    rintro _ w10 ⟨rfl, hb10⟩
    go_wp2
    go_ret
    exact ⟨rfl, HB9.out.trans (hb10.mono HB9.out.size)⟩
  · have HNo : Go.RowKit.Hid (okAll l (.node 20 pe wd sub) = false) := Lib.hid (hno 1 (fun _ => HLne.out))
    clear hno
    go_upto_region 24 with (fail)
    obtain ⟨W8, hW8⟩ : ∃ W8, W8 = W7.setCell ⟨Z, 0, none⟩ (.int .u8 20) := ⟨_, rfl⟩
    have hb8 : Below w6.heap.size w6 W8 := by rw [hW8]; exact HB67.out.setCell (by rw [← HZ.out]; exact Nat.le_refl _) _
    have hz8 : W8.heap[Z]? = some (.cells #[.int .u8 20, .int .i64 pe, .string ⟨wd.toArray⟩, .slice pa pn pc] 36 (0, 0)) := by rw [hW8]; exact (heap_setCell_same _ _ 0 _ _ _ HZ7.out).trans rfl
    rw [← hW8]
    have HBad := Lib.hid ((HRe.out 20 pe wd).move (ok' := fun _ => True) (fun b _ h => ⟨trivial, by obtain ⟨_, _, h⟩ := h; exact hb8.block b (cell_lt h)⟩))
    have HB8 := Lib.hid (HB6.out.trans (hb8.mono HB6.out.size))
    have m0 : W8.cell? ⟨Z, 0, none⟩ = some _ := (cell_rowC hz8 0).trans rfl
    have m1 : W8.cell? ⟨Z, 1, none⟩ = some _ := (cell_rowC hz8 1).trans rfl
    have m2 : W8.cell? ⟨Z, 2, none⟩ = some _ := (cell_rowC hz8 2).trans rfl
    have m3 : W8.cell? ⟨Z, 3, none⟩ = some _ := (cell_rowC hz8 3).trans rfl
    clear hW8 hb8 hz8 k0 k1 k2 k3 z0 z1 z2 z3
    have hY := Yield_bad W0 W8 (HT.out.next HB8.out) l _ _ _ (HL.out.below HB8.out) HBad.out HNo.out
    rw [← HN.out] at hY
    have HY := Lib.hid hY
    clear hY
    go_wp2_with fail
    refine HY.out.mono ?_
    rintro _ w9 ⟨rfl, hb9⟩
    have n0 := cell_kept' hb9 m0
    have n1 := cell_kept' hb9 m1
    have n2 := cell_kept' hb9 m2
    have n3 := cell_kept' hb9 m3
    have HB9 := Lib.hid (HB8.out.trans (hb9.mono HB8.out.size))
    have hR9 := Right34_any W0 w9 (HT.out.next HB9.out) l _ _ _ (HL.out.below HB9.out) (HBad.out.move (ok' := fun _ => True) (fun b _ h => ⟨trivial, by obtain ⟨_, _, h⟩ := h; exact hb9.block b (cell_lt h)⟩))
    rw [← HN.out, HNo.out] at hR9
    have HR9 := Lib.hid hR9
    clear hR9 hb9 m0 m1 m2 m3
    go_wp2_with fail
    refine HR9.out.mono ?_
    rintro _ w10 ⟨rfl, hb10⟩
    go_wp2
    go_ret
    exact ⟨rfl, HB9.out.trans (hb10.mono HB9.out.size)⟩
  · have HNo : Go.RowKit.Hid (okAll l (.node pr (-1) wd sub) = false) := Lib.hid (hno 2 (fun _ => HLne.out))
    clear hno
    go_upto_region 24 with (fail)
    obtain ⟨W8, hW8⟩ : ∃ W8, W8 = W7.setCell ⟨Z, 1, none⟩ (.int .i64 (-1)) := ⟨_, rfl⟩
    have hb8 : Below w6.heap.size w6 W8 := by rw [hW8]; exact HB67.out.setCell (by rw [← HZ.out]; exact Nat.le_refl _) _
    have hz8 : W8.heap[Z]? = some (.cells #[.int .u8 pr, .int .i64 (-1), .string ⟨wd.toArray⟩, .slice pa pn pc] 36 (0, 0)) := by rw [hW8]; exact (heap_setCell_same _ _ 1 _ _ _ HZ7.out).trans rfl
    rw [← hW8]
    have HBad := Lib.hid ((HRe.out pr (-1) wd).move (ok' := fun _ => True) (fun b _ h => ⟨trivial, by obtain ⟨_, _, h⟩ := h; exact hb8.block b (cell_lt h)⟩))
    have HB8 := Lib.hid (HB6.out.trans (hb8.mono HB6.out.size))
    have m0 : W8.cell? ⟨Z, 0, none⟩ = some _ := (cell_rowC hz8 0).trans rfl
    have m1 : W8.cell? ⟨Z, 1, none⟩ = some _ := (cell_rowC hz8 1).trans rfl
    have m2 : W8.cell? ⟨Z, 2, none⟩ = some _ := (cell_rowC hz8 2).trans rfl
    have m3 : W8.cell? ⟨Z, 3, none⟩ = some _ := (cell_rowC hz8 3).trans rfl
    clear hW8 hb8 hz8 k0 k1 k2 k3 z0 z1 z2 z3
    have hY := Yield_bad W0 W8 (HT.out.next HB8.out) l _ _ _ (HL.out.below HB8.out) HBad.out HNo.out
    rw [← HN.out] at hY
    have HY := Lib.hid hY
    clear hY
    go_wp2_with fail
    refine HY.out.mono ?_
    rintro _ w9 ⟨rfl, hb9⟩
    have n0 := cell_kept' hb9 m0
    have n1 := cell_kept' hb9 m1
    have n2 := cell_kept' hb9 m2
    have n3 := cell_kept' hb9 m3
    have HB9 := Lib.hid (HB8.out.trans (hb9.mono HB8.out.size))
    have hR9 := Right34_any W0 w9 (HT.out.next HB9.out) l _ _ _ (HL.out.below HB9.out) (HBad.out.move (ok' := fun _ => True) (fun b _ h => ⟨trivial, by obtain ⟨_, _, h⟩ := h; exact hb9.block b (cell_lt h)⟩))
    rw [← HN.out, HNo.out] at hR9
    have HR9 := Lib.hid hR9
    clear hR9 hb9 m0 m1 m2 m3
    go_wp2_with fail
    refine HR9.out.mono ?_
    rintro _ w10 ⟨rfl, hb10⟩
    go_wp2
    go_ret
    exact ⟨rfl, HB9.out.trans (hb10.mono HB9.out.size)⟩
  · have HNo : Go.RowKit.Hid (okAll l (.node pr (N : Int) wd sub) = false) := Lib.hid (by rw [HN.out]; exact hno 3 (fun _ => HLne.out))
    clear hno
    go_upto_region 24 with (fail)
    obtain ⟨W8, hW8⟩ : ∃ W8, W8 = W7.setCell ⟨Z, 1, none⟩ (.int .i64 N) := ⟨_, rfl⟩
    have hb8 : Below w6.heap.size w6 W8 := by rw [hW8]; exact HB67.out.setCell (by rw [← HZ.out]; exact Nat.le_refl _) _
    have hz8 : W8.heap[Z]? = some (.cells #[.int .u8 pr, .int .i64 N, .string ⟨wd.toArray⟩, .slice pa pn pc] 36 (0, 0)) := by rw [hW8]; exact (heap_setCell_same _ _ 1 _ _ _ HZ7.out).trans rfl
    rw [← hW8]
    have HBad := Lib.hid ((HRe.out pr (N : Int) wd).move (ok' := fun _ => True) (fun b _ h => ⟨trivial, by obtain ⟨_, _, h⟩ := h; exact hb8.block b (cell_lt h)⟩))
    have HB8 := Lib.hid (HB6.out.trans (hb8.mono HB6.out.size))
    have m0 : W8.cell? ⟨Z, 0, none⟩ = some _ := (cell_rowC hz8 0).trans rfl
    have m1 : W8.cell? ⟨Z, 1, none⟩ = some _ := (cell_rowC hz8 1).trans rfl
    have m2 : W8.cell? ⟨Z, 2, none⟩ = some _ := (cell_rowC hz8 2).trans rfl
    have m3 : W8.cell? ⟨Z, 3, none⟩ = some _ := (cell_rowC hz8 3).trans rfl
    clear hW8 hb8 hz8 k0 k1 k2 k3 z0 z1 z2 z3
    have hY := Yield_bad W0 W8 (HT.out.next HB8.out) l _ _ _ (HL.out.below HB8.out) HBad.out HNo.out
    rw [← HN.out] at hY
    have HY := Lib.hid hY
    clear hY
    go_wp2_with fail
    refine HY.out.mono ?_
    rintro _ w9 ⟨rfl, hb9⟩
    have n0 := cell_kept' hb9 m0
    have n1 := cell_kept' hb9 m1
    have n2 := cell_kept' hb9 m2
    have n3 := cell_kept' hb9 m3
    have HB9 := Lib.hid (HB8.out.trans (hb9.mono HB8.out.size))
    have hR9 := Right34_any W0 w9 (HT.out.next HB9.out) l _ _ _ (HL.out.below HB9.out) (HBad.out.move (ok' := fun _ => True) (fun b _ h => ⟨trivial, by obtain ⟨_, _, h⟩ := h; exact hb9.block b (cell_lt h)⟩))
    rw [← HN.out, HNo.out] at hR9
    have HR9 := Lib.hid hR9
    clear hR9 hb9 m0 m1 m2 m3
    go_wp2_with fail
    refine HR9.out.mono ?_
    rintro _ w10 ⟨rfl, hb10⟩
    go_wp2
    go_ret
    exact ⟨rfl, HB9.out.trans (hb10.mono HB9.out.size)⟩
  · have HNo : Go.RowKit.Hid (okAll l (.node pr pe (wd ++ [120]) sub) = false) := Lib.hid (hno 4 (fun _ => HLne.out))
    have hsz : (⟨wd.toArray⟩ : ByteArray).size ≤ 2000 := by
      have h := HFe.out
      unfold fewS at h
      have h2 := Bool.and_eq_true_iff.1 h.symm
      have h3 := h2.2
      simp only [shortT, Bool.and_eq_true, decide_eq_true_eq] at h3
      have : (⟨wd.toArray⟩ : ByteArray).size = wd.length := by simp [ByteArray.size]
      omega
    have hadd : ∀ W, (Op.stringOp .add ⟨wd.toArray⟩ ⟨#[120]⟩).run Tryz.prog W = .ok (.string ((⟨wd.toArray⟩ : ByteArray) ++ ⟨#[120]⟩)) W := fun W => run_string_add_sum W _ _ (by have : (⟨#[120]⟩ : ByteArray).size = 1 := rfl; omega)
    have hba : ((⟨wd.toArray⟩ : ByteArray) ++ ⟨#[120]⟩) = ⟨(wd ++ [120]).toArray⟩ := by apply ByteArray.ext; simp
    rw [hba] at hadd
    clear hno
    go_upto_region 24 with (fail)
    obtain ⟨W8, hW8⟩ : ∃ W8, W8 = W7.setCell ⟨Z, 2, none⟩ (.string ⟨(wd ++ [120]).toArray⟩) := ⟨_, rfl⟩
    have hb8 : Below w6.heap.size w6 W8 := by rw [hW8]; exact HB67.out.setCell (by rw [← HZ.out]; exact Nat.le_refl _) _
    have hz8 : W8.heap[Z]? = some (.cells #[.int .u8 pr, .int .i64 pe, .string ⟨(wd ++ [120]).toArray⟩, .slice pa pn pc] 36 (0, 0)) := by rw [hW8]; exact (heap_setCell_same _ _ 2 _ _ _ HZ7.out).trans rfl
    rw [← hW8]
    have HBad := Lib.hid ((HRe.out pr pe (wd ++ [120])).move (ok' := fun _ => True) (fun b _ h => ⟨trivial, by obtain ⟨_, _, h⟩ := h; exact hb8.block b (cell_lt h)⟩))
    have HB8 := Lib.hid (HB6.out.trans (hb8.mono HB6.out.size))
    have m0 : W8.cell? ⟨Z, 0, none⟩ = some _ := (cell_rowC hz8 0).trans rfl
    have m1 : W8.cell? ⟨Z, 1, none⟩ = some _ := (cell_rowC hz8 1).trans rfl
    have m2 : W8.cell? ⟨Z, 2, none⟩ = some _ := (cell_rowC hz8 2).trans rfl
    have m3 : W8.cell? ⟨Z, 3, none⟩ = some _ := (cell_rowC hz8 3).trans rfl
    clear hW8 hb8 hz8 k0 k1 k2 k3 z0 z1 z2 z3 hadd hba
    have hY := Yield_bad W0 W8 (HT.out.next HB8.out) l _ _ _ (HL.out.below HB8.out) HBad.out HNo.out
    rw [← HN.out] at hY
    have HY := Lib.hid hY
    clear hY
    go_wp2_with fail
    refine HY.out.mono ?_
    rintro _ w9 ⟨rfl, hb9⟩
    have n0 := cell_kept' hb9 m0
    have n1 := cell_kept' hb9 m1
    have n2 := cell_kept' hb9 m2
    have n3 := cell_kept' hb9 m3
    have HB9 := Lib.hid (HB8.out.trans (hb9.mono HB8.out.size))
    have hR9 := Right34_any W0 w9 (HT.out.next HB9.out) l _ _ _ (HL.out.below HB9.out) (HBad.out.move (ok' := fun _ => True) (fun b _ h => ⟨trivial, by obtain ⟨_, _, h⟩ := h; exact hb9.block b (cell_lt h)⟩))
    rw [← HN.out, HNo.out] at hR9
    have HR9 := Lib.hid hR9
    clear hR9 hb9 m0 m1 m2 m3
    go_wp2_with fail
    refine HR9.out.mono ?_
    rintro _ w10 ⟨rfl, hb10⟩
    go_wp2
    go_ret
    exact ⟨rfl, HB9.out.trans (hb10.mono HB9.out.size)⟩
  · have HNo : Go.RowKit.Hid (okAll l (.node pr pe wd (sub ++ [.node 6 0 [] []])) = false) := Lib.hid (hno 5 (fun _ => HLne.out))
    clear hno
    obtain ⟨qs, L, H, hqk, hown, hti, hin, hdis, hrow⟩ := HFor.out
    have HO7 := Lib.hid (ownsRow_below hown HB67.out)
    have HTi2 := Lib.hid hti
    have HIn := Lib.hid hin
    have HDis := Lib.hid hdis
    have HRow := Lib.hid hrow
    have HQk := Lib.hid hqk
    have hpn1000 : pn ≤ 1000 := by
      have h := slim_few HFe.out.symm
      cases h with
      | mk _ _ _ _ h _ => have h2 : pn = sub.length := HPn.out; omega
    have hzl : Z < W7.heap.size := (Array.getElem?_eq_some_iff.1 HZ7.out).1
    have hbase : w5.heap.size + 3 ≤ W7.heap.size := Nat.le_trans HSz36.out HB67.out.size
    have hz4 : (W7.alloc (.cells #[.int .u8 6, .int .i64 0, .string ⟨#[]⟩, .slice none 0 0] 36)).heap.size = W7.heap.size + 1 := by simp
    clear hqk hown hti hin hdis hrow
    go_wp2_with (at_builtin; refine wpList_append_lies _ rfl _ _ 25 rfl (w5.heap.size + 3) 36 i0 (.agg #[.int .u8 0, .int .i64 0, .string ByteArray.empty, .slice none 0 0]) 4 56 Tryz.underlying25 hi hz0 hz1 hz2 rfl (by decide) _ _ _ rfl (HO7.out.alloc _) ⟨W7.heap.size, 0, none⟩ 1 1 [.int .u8 6, .int .i64 0, .string ⟨#[]⟩, .slice none 0 0] rfl rfl (news_at (cs := #[.int .u8 6, .int .i64 0, .string ⟨#[]⟩, .slice none 0 0]) (t := 36) (fr := (0, 0)) (World.alloc_heap_new _ _)) (by simp [Value.oneCell']) (by decide) (by unfold maxLen; omega) (by omega) (by simp; omega) (W7.heap.size + 1) hz4 ?_)
    intro g cap4 w8 hown4 hgrow hg hglt
    have hown8 : (Value.slice pa pn pc).ownBlock ≠ some Z := fun h => by
      have := (HRow.out Z h).1
      have := HZ.out
      omega
    have hz8' : w8.heap[Z]? = some (.cells #[.int .u8 pr, .int .i64 pe, .string ⟨wd.toArray⟩, .slice pa pn pc] 36 (0, 0)) :=
      (hgrow.block Z (by simp; omega) (fun h => hown8 h.symm)).trans ((Below.heap_alloc _ _ _ hzl).trans HZ7.out)
    have hb8 : Below w5.heap.size w5 w8 := by
      have h1 : Below w5.heap.size w5 W7 := HB56.out.trans (HB67.out.mono HB56.out.size)
      exact (h1.alloc h1.size _).grown hgrow (by simp; have := h1.size; omega) (fun c hc => by have := (HO7.out.lt c hc).1; omega)
    have z30 : w8.frozen? ⟨Z, 3, none⟩ = false := by simp [World.frozen?, hz8']
    have z33 : w8.cell? ⟨Z, 3, none⟩ = some (.slice pa pn pc) := (cell_rowC hz8' 3).trans rfl
    have HOw := Lib.hid hown4
    have HGr := Lib.hid hgrow
    have HGg := Lib.hid hg
    have HB8a := Lib.hid hb8
    have HZ8a := Lib.hid hz8'
    clear hown4 hgrow hg hglt hown8 hz8' hb8 k0 k1 k2 k3 z0 z1 z2 z3
    go_upto_region 24 with (fail)
    obtain ⟨W8, hW8⟩ : ∃ W8, W8 = w8.setCell ⟨Z, 3, none⟩ (.slice (some ⟨g, 0, none⟩) (pn + 1) cap4) := ⟨_, rfl⟩
    have hge : w5.heap.size ≤ Z := by rw [HZ.out]; exact HB56.out.size
    have hb8 : Below w5.heap.size w5 W8 := by rw [hW8]; exact HB8a.out.setCell hge _
    have hz8 : W8.heap[Z]? = some (.cells #[.int .u8 pr, .int .i64 pe, .string ⟨wd.toArray⟩, .slice (some ⟨g, 0, none⟩) (pn + 1) cap4] 36 (0, 0)) := by rw [hW8]; exact (heap_setCell_same _ _ 3 _ _ _ HZ8a.out).trans rfl
    have hgz : g ≠ Z := by
      rcases HGg.out with h | h
      · have := (HRow.out g h).1
        have := HZ.out
        omega
      · omega
    have hold : ∀ c, c < w6.heap.size → (Value.slice pa pn pc).ownBlock ≠ some c → W8.heap[c]? = w6.heap[c]? := fun c hc hn => by
      have h67 := HB67.out.size
      have hz := HZ.out
      rw [hW8, Below.heap_setCell _ _ _ _ (by simp; omega), HGr.out.block c (by simp; omega) (fun e => hn e.symm), Below.heap_alloc _ _ _ (by omega)]
      exact HB67.out.block c hc
    have hgc : W8.heap[g]? = w8.heap[g]? := by rw [hW8]; exact Below.heap_setCell _ _ _ _ hgz
    rw [← hW8]
    obtain ⟨lq, hlq⟩ : ∃ lq : TV, lq = ⟨6, 0, ⟨#[]⟩, none, 0, 0⟩ := ⟨_, rfl⟩
    have hcells : ∀ j (hj : j < (qs ++ [lq]).length), CellsAt W8 g (j * 4) (qs ++ [lq])[j].val := fun j hj => by
      refine CellsAt.kept (owns_cells (base := w5.heap.size + 3) (n := pn + 1) (cap := cap4) ?_ j hj) hgc
      rw [List.flatMap_append, hlq]
      exact HOw.out
    have hsub : pn = sub.length := HPn.out
    have hbd : TreeV (fun _ => True) W8 (.agg #[.int .u8 pr, .int .i64 pe, .string ⟨wd.toArray⟩, .slice (some ⟨g, 0, none⟩) (sub ++ [Tr.node 6 0 [] []]).length cap4]) (.node pr pe wd (sub ++ [Tr.node 6 0 [] []])) := by
      have hl1 : (sub ++ [Tr.node 6 0 [] []]).length = (qs ++ [lq]).length := by simp [HQk.out, hsub]
      refine .mk pr pe wd _ _ cap4 (fun j => match (qs ++ [lq])[j]? with | some q => q.val | none => .agg #[]) (.inr ⟨g, 0, rfl, trivial, fun j hj => ?_⟩) (fun j hj => ?_)
      · have hjq : j < (qs ++ [lq]).length := by rw [← hl1]; exact hj
        simp only [List.getElem?_eq_getElem hjq, Nat.zero_add]
        exact hcells j hjq
      · have hjq : j < (qs ++ [lq]).length := by rw [← hl1]; exact hj
        simp only [List.getElem?_eq_getElem hjq]
        by_cases hjs : j < qs.length
        · have hjb : j < sub.length := by have := HQk.out; omega
          rw [List.getElem_append_left hjs, List.getElem_append_left hjb]
          refine (HTi2.out j hjs hjb).treeV.move (fun b hb _ => ⟨trivial, hold b ?_ ?_⟩)
          · have := (HIn.out j (by have := HQk.out; omega)).2; omega
          · intro h
            have := (HRow.out b h).2 j (by have := HQk.out; omega)
            omega
        · obtain rfl : j = qs.length := by simp at hjq; omega
          have hqs : qs.length = sub.length := by have := HQk.out; omega
          have e1 : (qs ++ [lq])[qs.length] = lq := by simp
          have e2 : (sub ++ [Tr.node 6 0 [] []])[qs.length] = Tr.node 6 0 [] [] := by simp [hqs]
          rw [e1, e2, hlq]
          exact TreeV.leaf W8 6 0 [] 0
    rw [show (sub ++ [Tr.node 6 0 [] []]).length = pn + 1 by simp [hsub]] at hbd
    have HBad := Lib.hid hbd
    have HB8 := Lib.hid (HB5.out.trans (hb8.mono HB5.out.size))
    have m0 : W8.cell? ⟨Z, 0, none⟩ = some _ := (cell_rowC hz8 0).trans rfl
    have m1 : W8.cell? ⟨Z, 1, none⟩ = some _ := (cell_rowC hz8 1).trans rfl
    have m2 : W8.cell? ⟨Z, 2, none⟩ = some _ := (cell_rowC hz8 2).trans rfl
    have m3 : W8.cell? ⟨Z, 3, none⟩ = some _ := (cell_rowC hz8 3).trans rfl
    clear hW8 hb8 hz8 hgz hold hgc hcells hbd hge hzl z30 z33 hsub hpn1000 hz4 hbase hlq
    have hY := Yield_bad W0 W8 (HT.out.next HB8.out) l _ _ _ (HL.out.below HB8.out) HBad.out HNo.out
    rw [← HN.out] at hY
    have HY := Lib.hid hY
    clear hY
    go_wp2_with fail
    refine HY.out.mono ?_
    rintro _ w9 ⟨rfl, hb9⟩
    have n0 := cell_kept' hb9 m0
    have n1 := cell_kept' hb9 m1
    have n2 := cell_kept' hb9 m2
    have n3 := cell_kept' hb9 m3
    have HB9 := Lib.hid (HB8.out.trans (hb9.mono HB8.out.size))
    have hR9 := Right34_any W0 w9 (HT.out.next HB9.out) l _ _ _ (HL.out.below HB9.out) (HBad.out.move (ok' := fun _ => True) (fun b _ h => ⟨trivial, by obtain ⟨_, _, h⟩ := h; exact hb9.block b (cell_lt h)⟩))
    rw [← HN.out, HNo.out] at hR9
    have HR9 := Lib.hid hR9
    clear hR9 hb9 m0 m1 m2 m3
    go_wp2_with fail
    refine HR9.out.mono ?_
    rintro _ w10 ⟨rfl, hb10⟩
    go_wp2
    go_ret
    exact ⟨rfl, HB9.out.trans (hb10.mono HB9.out.size)⟩
  · cases sub with
    | nil =>
      have HNo : Go.RowKit.Hid (okAll l (.node 18 pe wd []) = false) := Lib.hid (hno 6 (fun _ => HLne.out))
      have hp0 : pn = 0 := HPn.out
      have hpd : ((pn : Int) == 0) = true := by rw [hp0]; rfl
      clear hno
      go_upto_region 24 with (fail)
      obtain ⟨W8, hW8⟩ : ∃ W8, W8 = W7.setCell ⟨Z, 0, none⟩ (.int .u8 18) := ⟨_, rfl⟩
      have hb8 : Below w6.heap.size w6 W8 := by rw [hW8]; exact HB67.out.setCell (by rw [← HZ.out]; exact Nat.le_refl _) _
      have hz8 : W8.heap[Z]? = some (.cells #[.int .u8 18, .int .i64 pe, .string ⟨wd.toArray⟩, .slice pa pn pc] 36 (0, 0)) := by rw [hW8]; exact (heap_setCell_same _ _ 0 _ _ _ HZ7.out).trans rfl
      rw [← hW8]
      have HBad := Lib.hid ((HRe.out 18 pe wd).move (ok' := fun _ => True) (fun b _ h => ⟨trivial, by obtain ⟨_, _, h⟩ := h; exact hb8.block b (cell_lt h)⟩))
      have HB8 := Lib.hid (HB6.out.trans (hb8.mono HB6.out.size))
      have m0 : W8.cell? ⟨Z, 0, none⟩ = some _ := (cell_rowC hz8 0).trans rfl
      have m1 : W8.cell? ⟨Z, 1, none⟩ = some _ := (cell_rowC hz8 1).trans rfl
      have m2 : W8.cell? ⟨Z, 2, none⟩ = some _ := (cell_rowC hz8 2).trans rfl
      have m3 : W8.cell? ⟨Z, 3, none⟩ = some _ := (cell_rowC hz8 3).trans rfl
      clear hW8 hb8 hz8 k0 k1 k2 k3 z0 z1 z2 z3 hp0 hpd
      have hY := Yield_bad W0 W8 (HT.out.next HB8.out) l _ _ _ (HL.out.below HB8.out) HBad.out HNo.out
      rw [← HN.out] at hY
      have HY := Lib.hid hY
      clear hY
      go_wp2_with fail
      refine HY.out.mono ?_
      rintro _ w9 ⟨rfl, hb9⟩
      have n0 := cell_kept' hb9 m0
      have n1 := cell_kept' hb9 m1
      have n2 := cell_kept' hb9 m2
      have n3 := cell_kept' hb9 m3
      have HB9 := Lib.hid (HB8.out.trans (hb9.mono HB8.out.size))
      have hR9 := Right34_any W0 w9 (HT.out.next HB9.out) l _ _ _ (HL.out.below HB9.out) (HBad.out.move (ok' := fun _ => True) (fun b _ h => ⟨trivial, by obtain ⟨_, _, h⟩ := h; exact hb9.block b (cell_lt h)⟩))
      rw [← HN.out, HNo.out] at hR9
      have HR9 := Lib.hid hR9
      clear hR9 hb9 m0 m1 m2 m3
      go_wp2_with fail
      refine HR9.out.mono ?_
      rintro _ w10 ⟨rfl, hb10⟩
      go_wp2
      go_ret
      exact ⟨rfl, HB9.out.trans (hb10.mono HB9.out.size)⟩
    | cons y ys =>
      have HNo : Go.RowKit.Hid (okAll l (.node pr pe wd ys) = false) := Lib.hid (hno 6 (fun _ => HLne.out))
      clear hno
      have hp1 : pn = ys.length + 1 := HPn.out
      have hpd : ((pn : Int) == 0) = false := by simp; omega
      obtain ⟨b, off, rfl⟩ : ∃ b off, pa = some ⟨b, off, none⟩ := by
        obtain ⟨b, off, _, h, _⟩ := (HRe.out pr pe wd).parts 0 (by simp)
        exact ⟨b, off, h⟩
      have hpc : pn ≤ pc := by
        obtain ⟨_, _, _, _, hown, _⟩ := HFor.out
        rcases hown.2 with ⟨he, h0⟩ | ⟨g, cap', cur, he, _, _, hnc, _⟩
        · cases he
        · cases he; exact hnc
      have HPc := Lib.hid hpc
      have HP1 := Lib.hid hp1
      clear hpc
      go_upto_region 24 with (fail)
      obtain ⟨A, hA⟩ : ∃ A, A = (if pc = 1 then some (⟨b, off, none⟩ : Addr) else some ⟨b, off + 4, none⟩) := ⟨_, rfl⟩
      rw [← hA]
      obtain ⟨W8, hW8⟩ : ∃ W8, W8 = W7.setCell ⟨Z, 3, none⟩ (.slice A ys.length (pc - 1)) := ⟨_, rfl⟩
      have hb8 : Below w6.heap.size w6 W8 := by rw [hW8]; exact HB67.out.setCell (by rw [← HZ.out]; exact Nat.le_refl _) _
      have hz8 : W8.heap[Z]? = some (.cells #[.int .u8 pr, .int .i64 pe, .string ⟨wd.toArray⟩, .slice A ys.length (pc - 1)] 36 (0, 0)) := by rw [hW8]; exact (heap_setCell_same _ _ 3 _ _ _ HZ7.out).trans rfl
      rw [← hW8]
      have hbd : TreeV (fun _ => True) w6 (.agg #[.int .u8 pr, .int .i64 pe, .string ⟨wd.toArray⟩, .slice A ys.length (pc - 1)]) (.node pr pe wd ys) := by
        rw [hA]
        split
        · have h1 := HPc.out
          have h2 := HP1.out
          obtain rfl : ys = [] := List.eq_nil_of_length_eq_zero (by omega)
          exact TreeV.mk (W := w6) pr pe wd [] _ _ (fun _ => .bool false) (.inl rfl) (fun j hj => by simp at hj)
        · exact TreeV.less (HRe.out pr pe wd) HP1.out.symm
      have HBad := Lib.hid (hbd.move (ok' := fun _ => True) (fun b _ h => ⟨trivial, by obtain ⟨_, _, h⟩ := h; exact hb8.block b (cell_lt h)⟩))
      have HB8 := Lib.hid (HB6.out.trans (hb8.mono HB6.out.size))
      have m0 : W8.cell? ⟨Z, 0, none⟩ = some _ := (cell_rowC hz8 0).trans rfl
      have m1 : W8.cell? ⟨Z, 1, none⟩ = some _ := (cell_rowC hz8 1).trans rfl
      have m2 : W8.cell? ⟨Z, 2, none⟩ = some _ := (cell_rowC hz8 2).trans rfl
      have m3 : W8.cell? ⟨Z, 3, none⟩ = some _ := (cell_rowC hz8 3).trans rfl
      clear hW8 hb8 hz8 k0 k1 k2 k3 z0 z1 z2 z3 hbd hA hpd hp1
      have hY := Yield_bad W0 W8 (HT.out.next HB8.out) l _ _ _ (HL.out.below HB8.out) HBad.out HNo.out
      rw [← HN.out] at hY
      have HY := Lib.hid hY
      clear hY
      go_wp2_with fail
      refine HY.out.mono ?_
      rintro _ w9 ⟨rfl, hb9⟩
      have n0 := cell_kept' hb9 m0
      have n1 := cell_kept' hb9 m1
      have n2 := cell_kept' hb9 m2
      have n3 := cell_kept' hb9 m3
      have HB9 := Lib.hid (HB8.out.trans (hb9.mono HB8.out.size))
      have hR9 := Right34_any W0 w9 (HT.out.next HB9.out) l _ _ _ (HL.out.below HB9.out) (HBad.out.move (ok' := fun _ => True) (fun b _ h => ⟨trivial, by obtain ⟨_, _, h⟩ := h; exact hb9.block b (cell_lt h)⟩))
      rw [← HN.out, HNo.out] at hR9
      have HR9 := Lib.hid hR9
      clear hR9 hb9 m0 m1 m2 m3
      go_wp2_with fail
      refine HR9.out.mono ?_
      rintro _ w10 ⟨rfl, hb10⟩
      go_wp2
      go_ret
      exact ⟨rfl, HB9.out.trans (hb10.mono HB9.out.size)⟩
  · have HNo : Go.RowKit.Hid (okAll l (.node 16 0 [] [.node 16 0 [] [.node pr pe wd sub]]) = false) := Lib.hid (hno 7 (fun _ => HLne.out))
    clear hno
    have hzl : Z < W7.heap.size := (Array.getElem?_eq_some_iff.1 HZ7.out).1
    go_upto_region 24 with (fail)
    obtain ⟨Y, hY⟩ : ∃ Y, Y = W7.heap.size := ⟨_, rfl⟩
    rw [← hY]
    obtain ⟨W8, hW8⟩ : ∃ W8, W8 = (((((W7.setCell ⟨Z, 0, none⟩ (.int .u8 16)).setCell ⟨Z, 1, none⟩ (.int .i64 0)).setCell ⟨Z, 2, none⟩ (.string ⟨#[]⟩)).setCell ⟨Z, 3, none⟩ (.slice (some ⟨Y + 1, 0, none⟩) 1 1)).alloc (.cells #[.int .u8 pr, .int .i64 pe, .string ⟨wd.toArray⟩, .slice pa pn pc] 36)).alloc (.cells #[.int .u8 16, .int .i64 0, .string ⟨#[]⟩, .slice (some ⟨Y, 0, none⟩) 1 1] 36) := ⟨_, rfl⟩
    have hge : w6.heap.size ≤ Z := by rw [← HZ.out]; exact Nat.le_refl _
    have hsz : w6.heap.size ≤ W7.heap.size := HB67.out.size
    have hb8 : Below w6.heap.size w6 W8 := by
      rw [hW8]
      exact (((((HB67.out.setCell hge _).setCell hge _).setCell hge _).setCell hge _).alloc (by simp; omega) _).alloc (by simp; omega) _
    have hz8 : W8.heap[Z]? = some (.cells #[.int .u8 16, .int .i64 0, .string ⟨#[]⟩, .slice (some ⟨Y + 1, 0, none⟩) 1 1] 36 (0, 0)) := by
      rw [hW8, Below.heap_alloc _ _ _ (by simp; omega), Below.heap_alloc _ _ _ (by simp; omega)]
      have h1 := heap_setCell_same _ _ 0 _ _ (.int .u8 16) HZ7.out
      have h2 := heap_setCell_same _ _ 1 _ _ (.int .i64 0) h1
      have h3 := heap_setCell_same _ _ 2 _ _ (.string ⟨#[]⟩) h2
      exact (heap_setCell_same _ _ 3 _ _ (.slice (some ⟨Y + 1, 0, none⟩) 1 1) h3).trans rfl
    have hx8 : W8.heap[Y]? = some (.cells #[.int .u8 pr, .int .i64 pe, .string ⟨wd.toArray⟩, .slice pa pn pc] 36 (0, 0)) := by
      rw [hW8, Below.heap_alloc _ _ _ (by simp; omega)]
      exact heap_atC (by simp; omega)
    have hy8 : W8.heap[Y + 1]? = some (.cells #[.int .u8 16, .int .i64 0, .string ⟨#[]⟩, .slice (some ⟨Y, 0, none⟩) 1 1] 36 (0, 0)) := by
      rw [hW8]
      exact heap_atC (by simp; omega)
    rw [← hW8]
    have hbd := (HRe.out pr pe wd).move (ok' := fun _ => True) (W' := W8) (fun b _ h => ⟨trivial, by obtain ⟨_, _, h⟩ := h; exact hb8.block b (cell_lt h)⟩)
    have hbd1 := TreeV.over (r := 16) (e := 0) (w := []) (cap := 1) (q := ⟨pr, pe, ⟨wd.toArray⟩, pa, pn, pc⟩) hbd hx8
    have hbd2 := TreeV.over (r := 16) (e := 0) (w := []) (cap := 1) (q := ⟨16, 0, ⟨#[]⟩, some ⟨Y, 0, none⟩, 1, 1⟩) hbd1 hy8
    have HBad := Lib.hid hbd2
    have HB8 := Lib.hid (HB6.out.trans (hb8.mono HB6.out.size))
    have m0 : W8.cell? ⟨Z, 0, none⟩ = some _ := (cell_rowC hz8 0).trans rfl
    have m1 : W8.cell? ⟨Z, 1, none⟩ = some _ := (cell_rowC hz8 1).trans rfl
    have m2 : W8.cell? ⟨Z, 2, none⟩ = some _ := (cell_rowC hz8 2).trans rfl
    have m3 : W8.cell? ⟨Z, 3, none⟩ = some _ := (cell_rowC hz8 3).trans rfl
    clear hW8 hb8 hz8 hx8 hy8 k0 k1 k2 k3 z0 z1 z2 z3 hbd hbd1 hbd2 hY hge hsz hzl
    have hY := Yield_bad W0 W8 (HT.out.next HB8.out) l _ _ _ (HL.out.below HB8.out) HBad.out HNo.out
    rw [← HN.out] at hY
    have HY := Lib.hid hY
    clear hY
    go_wp2_with fail
    refine HY.out.mono ?_
    rintro _ w9 ⟨rfl, hb9⟩
    have n0 := cell_kept' hb9 m0
    have n1 := cell_kept' hb9 m1
    have n2 := cell_kept' hb9 m2
    have n3 := cell_kept' hb9 m3
    have HB9 := Lib.hid (HB8.out.trans (hb9.mono HB8.out.size))
    have hR9 := Right34_any W0 w9 (HT.out.next HB9.out) l _ _ _ (HL.out.below HB9.out) (HBad.out.move (ok' := fun _ => True) (fun b _ h => ⟨trivial, by obtain ⟨_, _, h⟩ := h; exact hb9.block b (cell_lt h)⟩))
    rw [← HN.out, HNo.out] at hR9
    have HR9 := Lib.hid hR9
    clear hR9 hb9 m0 m1 m2 m3
    go_wp2_with fail
    refine HR9.out.mono ?_
    rintro _ w10 ⟨rfl, hb10⟩
    go_wp2
    go_ret
    exact ⟨rfl, HB9.out.trans (hb10.mono HB9.out.size)⟩
end Go.Proofs.YthmnffgjckpkiaaGreatDoor
