/-
  The walk of 'EnglishYields'.
-/
import Derived.Test.YthmnffgjckpkiaaGreatDoorRYield
import Derived.Test.YthmnffgjckpkiaaGreatDoorGiven34
import Derived.Test.YthmnffgjckpkiaaGreatDoorGiven
import Derived.Test.YthmnffgjckpkiaaGreatDoorSmall34
import Derived.Test.YthmnffgjckpkiaaGreatDoorFew34
import Derived.Test.YthmnffgjckpkiaaGreatDoorGEngI
import Derived.Test.YthmnffgjckpkiaaGreatDoorSame
import Derived.Test.YthmnffgjckpkiaaGreatDoorYLen
import Derived.Test.YthmnffgjckpkiaaGreatDoorSlimOf
namespace Go.Proofs.YthmnffgjckpkiaaGreatDoor
open Go Go.RowKit Go.Shelf

set_option maxRecDepth 100000 in
set_option maxHeartbeats 16000000 in
theorem yields_any (W0 w : World) (ht : Tabs W0 w) (lv v : Value) (l : List Ent) (hl : EntSlice w lv l) (h0 : ∀ n cap, lv = .slice none n cap → lv = .slice none 0 0) (hln : l.length ≤ 103) (t : Tr) (hv : TreeV (fun _ => True) w v t) (hs : Slim t) :
    Calls Tryz.prog 28 #[lv, v] w fun e w' => e = .returned (.bool true) ∧ Below w.heap.size w w' := by
  obtain ⟨q, rfl⟩ := hv.form
  have HV := Lib.hid hv
  have HL := Lib.hid hl
  have HT := Lib.hid ht
  have H0 := Lib.hid h0
  have HS := Lib.hid hs
  have HYl := Lib.hid (yield_len (l := l) t)
  clear hv hl ht h0 hs
  unfold TV.val
  go_enter Tryz.func28, Tryz.ntmps28
  go_upto_region 1 with (fail)
  obtain ⟨W1, hW1⟩ : ∃ W1, W1 = w.alloc (.cells #[.int .u8 q.r, .int .i64 q.e, .string q.w, .slice q.a q.n q.c] 36) := ⟨_, rfl⟩
  have hb : Below w.heap.size w W1 := by rw [hW1]; exact (Below.refl _ _).alloc (Nat.le_refl _) _
  have htb : W1.heap[w.heap.size]? = some (.cells #[.int .u8 q.r, .int .i64 q.e, .string q.w, .slice q.a q.n q.c] 36 (0, 0)) := by rw [hW1]; exact heap_atC rfl
  rw [← hW1]
  obtain ⟨T, hTe⟩ : ∃ T, T = w.heap.size := ⟨_, rfl⟩
  rw [← hTe] at htb ⊢
  have HB1 := Lib.hid hb
  have c0 : W1.cell? ⟨T, 0, none⟩ = some (.int .u8 q.r) := (cell_rowC htb 0).trans rfl
  have c1 : W1.cell? ⟨T, 1, none⟩ = some (.int .i64 q.e) := (cell_rowC htb 1).trans rfl
  have c2 : W1.cell? ⟨T, 2, none⟩ = some (.string q.w) := (cell_rowC htb 2).trans rfl
  have c3 : W1.cell? ⟨T, 3, none⟩ = some (.slice q.a q.n q.c) := (cell_rowC htb 3).trans rfl
  clear hW1 hb htb hTe
  have hcall := Given34_any t HS.out W1 q.val (HV.out.move (fun b _ h => ⟨trivial, by obtain ⟨_, _, h⟩ := h; exact HB1.out.block b (cell_lt h)⟩))
  have HCall := Lib.hid hcall
  unfold TV.val at HCall
  clear hcall
  go_wp2_with fail
  refine HCall.out.mono ?_
  rintro _ w2 ⟨gv, rfl, hgi, hb2, hu1⟩
  clear hu1
  have d0 := cell_kept' hb2 c0
  have d1 := cell_kept' hb2 c1
  have d2 := cell_kept' hb2 c2
  have d3 := cell_kept' hb2 c3
  have HB2 := Lib.hid (HB1.out.trans (hb2.mono HB1.out.size))
  have hcall := Taken34_any t HS.out w2 gv (hgi.treeV.move (fun b _ _ => ⟨trivial, rfl⟩))
  clear HCall hgi hb2 c0 c1 c2 c3
  have HCall := Lib.hid hcall
  clear hcall
  go_wp2_with fail
  refine HCall.out.mono ?_
  rintro _ w3 ⟨tv3, rfl, hti, hb3, p2, rfl, hu1, hu2, hu3⟩
  clear hu1 hu2 hu3
  unfold TV.val
  have c0 := cell_kept' hb3 d0
  have c1 := cell_kept' hb3 d1
  have c2 := cell_kept' hb3 d2
  have c3 := cell_kept' hb3 d3
  have HB3 := Lib.hid (HB2.out.trans (hb3.mono HB2.out.size))
  have HTi := Lib.hid (hti.treeV.move (ok' := fun _ => True) (fun b _ _ => ⟨trivial, rfl⟩))
  clear HCall hti hb3 d0 d1 d2 d3
  have hL3 : ∀ o, EntSlice (w3.alloc o) lv l := fun o => HL.out.below (HB3.out.alloc HB3.out.size o)
  have HL3 := Lib.hid hL3
  have HLn := Lib.hid hln
  clear hL3 hln
  go_wp2_with (first
    | (at_builtin; refine wpList_append_ents rfl (.tmp 15) (.tmp 16) rfl w3.heap.size (.slice (some ⟨w3.heap.size, 0, none⟩) 0 0) [] rfl (ownEnts_empty (World.alloc_heap_new _ _) (Nat.le_refl _)) lv l rfl (HL3.out _) H0.out (by have := HLn.out; simp; omega) (by simp) ?_; intro v4 w4 ho4 hg4 hat4; have HO4 := Lib.hid ho4; have HG4 := Lib.hid hg4; clear ho4 hg4 hat4)
    | (go_at_call 17; fail)
    | fail)
  have hb34 : Below w3.heap.size w3 w4 := ((Below.refl w3.heap.size w3).alloc (Nat.le_refl _) _).grown HG4.out (by simp) (fun k hk => by simp [Value.ownBlock] at hk; omega)
  obtain ⟨W5, hW5⟩ : ∃ W5, W5 = w4.alloc (.cells #[.int .u8 p2.r, .int .i64 p2.e, .string p2.w, .slice p2.a p2.n p2.c] 36) := ⟨_, rfl⟩
  have hb45 : Below w4.heap.size w4 W5 := by rw [hW5]; exact (Below.refl _ _).alloc (Nat.le_refl _) _
  have hz5 : W5.heap[w4.heap.size]? = some (.cells #[.int .u8 p2.r, .int .i64 p2.e, .string p2.w, .slice p2.a p2.n p2.c] 36 (0, 0)) := by rw [hW5]; exact heap_atC rfl
  rw [← hW5]
  obtain ⟨Z, hZ⟩ : ∃ Z, Z = w4.heap.size := ⟨_, rfl⟩
  rw [← hZ] at hz5 ⊢
  have hb35 : Below w3.heap.size w3 W5 := hb34.trans (hb45.mono hb34.size)
  have HB35 := Lib.hid hb35
  have HB5 := Lib.hid (HB3.out.trans (hb35.mono HB3.out.size))
  have hlx : EntSlice W5 v4 l := by
    have h := HO4.out
    rw [List.nil_append] at h
    exact (entSlice_of_owns h HL.out.2).below hb45
  have HLx := Lib.hid hlx
  have k0 : W5.cell? ⟨Z, 0, none⟩ = some (.int .u8 p2.r) := (cell_rowC hz5 0).trans rfl
  have k1 : W5.cell? ⟨Z, 1, none⟩ = some (.int .i64 p2.e) := (cell_rowC hz5 1).trans rfl
  have k2 : W5.cell? ⟨Z, 2, none⟩ = some (.string p2.w) := (cell_rowC hz5 2).trans rfl
  have k3 : W5.cell? ⟨Z, 3, none⟩ = some (.slice p2.a p2.n p2.c) := (cell_rowC hz5 3).trans rfl
  have HC := Lib.hid (And.intro c0 (And.intro c1 (And.intro c2 c3)))
  have HK := Lib.hid (And.intro k0 (And.intro k1 (And.intro k2 k3)))
  clear hW5 hb34 hb45 hz5 hb35 hlx hZ c0 c1 c2 c3 k0 k1 k2 k3 HL3 HO4 HG4
  have hcall := Given_any W5 lv l (HL.out.below HB5.out) (by have := HLn.out; omega)
  have HCall := Lib.hid hcall
  clear hcall
  go_wp2_with fail
  refine HCall.out.mono ?_
  rintro _ w6 ⟨vr, rfl, hor, hb6⟩
  have HB56 := Lib.hid hb6
  have HB6 := Lib.hid (HB5.out.trans (hb6.mono HB5.out.size))
  have HRr := Lib.hid (entSlice_of_rowR hor HL.out.2)
  clear hor hb6 HCall
  obtain ⟨y, hy⟩ : ∃ y, y = yieldS l t := ⟨_, rfl⟩
  obtain ⟨y1, y2⟩ := y
  have hyl := HYl.out
  rw [← hy] at hyl
  have HYy := Lib.hid hy
  have hcall := Yield_any W0 w6 (HT.out.next HB6.out) l v4 p2.val t (HLx.out.below HB56.out) (HTi.out.move (fun b _ h => ⟨trivial, by obtain ⟨_, _, h⟩ := h; exact (HB35.out.trans (HB56.out.mono HB35.out.size)).block b (cell_lt h)⟩))
  rw [← hy] at hcall
  have HCall := Lib.hid hcall
  unfold TV.val at HCall
  have k0 := cell_kept' HB56.out HK.out.1
  have k1 := cell_kept' HB56.out HK.out.2.1
  have k2 := cell_kept' HB56.out HK.out.2.2.1
  have k3 := cell_kept' HB56.out HK.out.2.2.2
  clear hcall hy
  go_wp2_with fail
  refine HCall.out.mono ?_
  rintro _ w7 ⟨av, rfl, hsa, hb7⟩
  have HSa := Lib.hid hsa
  have HB57 := Lib.hid (HB56.out.trans (hb7.mono HB56.out.size))
  have HB67 := Lib.hid hb7
  have HB7 := Lib.hid (HB6.out.trans (hb7.mono HB6.out.size))
  clear hsa hb7 HCall k0 k1 k2 k3
  have HB37 := Lib.hid (HB35.out.trans (HB57.out.mono HB35.out.size))
  have c0 := cell_kept' HB37.out HC.out.1
  have c1 := cell_kept' HB37.out HC.out.2.1
  have c2 := cell_kept' HB37.out HC.out.2.2.1
  have c3 := cell_kept' HB37.out HC.out.2.2.2
  have hcall := Given34_any t HS.out w7 q.val (HV.out.move (fun b _ h => ⟨trivial, by obtain ⟨_, _, h⟩ := h; exact HB7.out.block b (cell_lt h)⟩))
  have HCall := Lib.hid hcall
  unfold TV.val at HCall
  clear hcall
  go_wp2_with fail
  refine HCall.out.mono ?_
  rintro _ w8 ⟨gv3, rfl, hgi, hb8, hu1⟩
  clear hu1
  have HB78 := Lib.hid hb8
  have HB8 := Lib.hid (HB7.out.trans (hb8.mono HB7.out.size))
  have hcall := rYield_any w8 l vr gv3 t (HRr.out.below (HB67.out.trans (hb8.mono HB67.out.size))) (hgi.treeV.move (fun b _ _ => ⟨trivial, rfl⟩))
  rw [← HYy.out] at hcall
  clear HCall hgi hb8 c0 c1 c2 c3
  have HCall := Lib.hid hcall
  clear hcall
  go_wp2_with fail
  refine HCall.out.mono ?_
  rintro _ w9 ⟨bv, rfl, hsb, hb9⟩
  have HSb := Lib.hid hsb
  have HB89 := Lib.hid hb9
  have HB79 := Lib.hid (HB78.out.trans (hb9.mono HB78.out.size))
  have HB9 := Lib.hid (HB8.out.trans (hb9.mono HB8.out.size))
  have HB59 := Lib.hid (HB57.out.trans (HB79.out.mono HB57.out.size))
  have HB39 := Lib.hid (HB35.out.trans (HB59.out.mono HB35.out.size))
  have HB69 := Lib.hid (HB67.out.trans (HB79.out.mono HB67.out.size))
  clear hsb hb9 HCall
  have q0 := cell_kept' HB39.out HC.out.1
  have q1 := cell_kept' HB39.out HC.out.2.1
  have q2 := cell_kept' HB39.out HC.out.2.2.1
  have q3 := cell_kept' HB39.out HC.out.2.2.2
  have k0 := cell_kept' HB59.out HK.out.1
  have k1 := cell_kept' HB59.out HK.out.2.1
  have k2 := cell_kept' HB59.out HK.out.2.2.1
  have k3 := cell_kept' HB59.out HK.out.2.2.2
  obtain ⟨bo, hbo⟩ : ∃ b, b = okAll l t := ⟨_, rfl⟩
  have CR : Go.RowKit.Hid (∀ W, Below w9.heap.size w9 W → Calls Tryz.prog 29 #[v4, .agg #[.int .u8 p2.r, .int .i64 p2.e, .string p2.w, .slice p2.a p2.n p2.c]] W fun r W' => r = .returned (.bool bo) ∧ Below w9.heap.size w9 W') := Lib.hid (fun W hW => (hbo ▸ Right34_any W0 W (HT.out.next (HB9.out.trans (hW.mono HB9.out.size))) l v4 p2.val t (HLx.out.below (HB59.out.trans (hW.mono HB59.out.size))) (HTi.out.move (fun b _ h => ⟨trivial, by obtain ⟨_, _, h⟩ := h; exact (HB39.out.trans (hW.mono HB39.out.size)).block b (cell_lt h)⟩))).mono fun r W' ⟨h1, h2⟩ => ⟨h1, hW.trans (h2.mono hW.size)⟩)
  have CG : Go.RowKit.Hid (∀ W, Below w9.heap.size w9 W → Calls Tryz.prog 33 #[.agg #[.int .u8 q.r, .int .i64 q.e, .string q.w, .slice q.a q.n q.c]] W fun r W' => ∃ p : TV, r = .returned (.agg #[.int .u8 p.r, .int .i64 p.e, .string p.w, .slice p.a p.n p.c]) ∧ TreeV (fun _ => True) W' p.val t ∧ Below w9.heap.size w9 W') := Lib.hid (fun W hW => (Given34_any t HS.out W q.val (HV.out.move (fun b _ h => ⟨trivial, by obtain ⟨_, _, h⟩ := h; exact (HB9.out.trans (hW.mono HB9.out.size)).block b (cell_lt h)⟩))).mono fun r W' ⟨v', h1, h2, h3, p, h4, _⟩ => ⟨p, by rw [h1, h4]; rfl, by rw [← h4]; exact h2.treeV.move (fun b _ _ => ⟨trivial, rfl⟩), hW.trans (h3.mono hW.size)⟩)
  have CS : Go.RowKit.Hid (∀ (W : World) (p : TV), Below w9.heap.size w9 W → TreeV (fun _ => True) W p.val t → Calls Tryz.prog 53 #[vr, .agg #[.int .u8 p.r, .int .i64 p.e, .string p.w, .slice p.a p.n p.c]] W fun r W' => r = .returned (.bool bo) ∧ Below w9.heap.size w9 W') := Lib.hid (fun W p hW hp => (hbo ▸ rRight34_any W l vr p.val t (HRr.out.below (HB69.out.trans (hW.mono HB69.out.size))) hp).mono fun r W' ⟨h1, h2⟩ => ⟨h1, hW.trans (h2.mono hW.size)⟩)
  have CT : Go.RowKit.Hid (∀ W, Below w9.heap.size w9 W → Calls Tryz.prog 32 #[av, bv] W fun r W' => r = .returned (.bool true) ∧ Below w9.heap.size w9 W') := Lib.hid (fun W hW => (SameTexts_any W av bv y1 y1 (HSa.out.below (HB79.out.trans (hW.mono HB79.out.size))) (HSb.out.below hW) (by omega)).mono fun r W' ⟨h1, h2⟩ => ⟨by rw [h1, beq_self_eq_true], hW.trans (h2.mono hW.size)⟩)
  have CX : Go.RowKit.Hid (∀ W, Below w9.heap.size w9 W → Calls Tryz.prog 18 #[.agg #[.int .u8 p2.r, .int .i64 p2.e, .string p2.w, .slice p2.a p2.n p2.c], .agg #[.int .u8 q.r, .int .i64 q.e, .string q.w, .slice q.a q.n q.c]] W fun r W' => r = .returned (.bool true) ∧ Below w9.heap.size w9 W') := Lib.hid (fun W hW => (Same34_any t HS.out t W p2.val q.val (HTi.out.move (fun b _ h => ⟨trivial, by obtain ⟨_, _, h⟩ := h; exact (HB39.out.trans (hW.mono HB39.out.size)).block b (cell_lt h)⟩)) (HV.out.move (fun b _ h => ⟨trivial, by obtain ⟨_, _, h⟩ := h; exact (HB9.out.trans (hW.mono HB9.out.size)).block b (cell_lt h)⟩))).mono fun r W' ⟨h1, h2⟩ => ⟨by rw [h1, eqT_refl], hW.trans (h2.mono hW.size)⟩)
  have CY : Go.RowKit.Hid (∀ W, Below w9.heap.size w9 W → Calls Tryz.prog 46 #[v4, lv] W fun r W' => r = .returned (.bool true) ∧ Below w9.heap.size w9 W') := Lib.hid (fun W hW => (Same_eq W v4 lv l (HLx.out.below (HB59.out.trans (hW.mono HB59.out.size))) (HL.out.below (HB9.out.trans (hW.mono HB9.out.size)))).mono fun r W' ⟨h1, h2⟩ => ⟨h1, hW.trans (h2.mono hW.size)⟩)
  have hdr : Below w9.heap.size w9 w9.drew := (Below.refl _ _).drew
  have e1 : (bo == bo) = true := by cases bo <;> rfl
  have e2 : (y2 == y2) = true := by simp
  clear hbo hyl
  go_wp2_with fail
  go_region_held3 (fun w' => (w'.cell? ⟨T, 0, none⟩ = some (.int .u8 q.r) ∧ w'.cell? ⟨T, 1, none⟩ = some (.int .i64 q.e) ∧ w'.cell? ⟨T, 2, none⟩ = some (.string q.w) ∧ w'.cell? ⟨T, 3, none⟩ = some (.slice q.a q.n q.c)) ∧ (w'.cell? ⟨Z, 0, none⟩ = some (.int .u8 p2.r) ∧ w'.cell? ⟨Z, 1, none⟩ = some (.int .i64 p2.e) ∧ w'.cell? ⟨Z, 2, none⟩ = some (.string p2.w) ∧ w'.cell? ⟨Z, 3, none⟩ = some (.slice p2.a p2.n p2.c)))
    (first | go_keep | exact ⟨⟨cell_kept' (by assumption) q0, cell_kept' (by assumption) q1, cell_kept' (by assumption) q2, cell_kept' (by assumption) q3⟩, ⟨cell_kept' (by assumption) k0, cell_kept' (by assumption) k1, cell_kept' (by assumption) k2, cell_kept' (by assumption) k3⟩⟩)
    (first
      | (go_at_call 29; refine (CR.out _ (by assumption)).mono ?_; rintro r X1 ⟨rfl, hX1⟩)
      | (go_at_call 33; refine (CG.out _ (by assumption)).mono ?_; rintro r X2 ⟨p4, rfl, hp4, hX2⟩)
      | (go_at_call 53; refine (CS.out _ _ (by assumption) (by assumption)).mono ?_; rintro r X3 ⟨rfl, hX3⟩)
      | (go_at_call 32; refine (CT.out _ (by assumption)).mono ?_; rintro r X4 ⟨rfl, hX4⟩)
      | (go_at_call 18; refine (CX.out _ (by assumption)).mono ?_; rintro r X5 ⟨rfl, hX5⟩)
      | (go_at_call 46; refine (CY.out _ (by assumption)).mono ?_; rintro r X6 ⟨rfl, hX6⟩))
  have HX6 := Lib.hid (HB9.out.trans (hX6.mono HB9.out.size))
  go_wp2
  go_ret
  exact ⟨rfl, HX6.out⟩
set_option maxRecDepth 100000 in
set_option maxHeartbeats 8000000 in
theorem EnglishYields_any (W0 w : World) (ht : Tabs W0 w) (lv v : Value) (l : List Ent) (hl : EntSlice w lv l) (h0 : ∀ n cap, lv = .slice none n cap → lv = .slice none 0 0) (t : Tr) (hv : TreeV (fun _ => True) w v t) :
    Calls Tryz.prog 7 #[lv, v] w fun e w' => e = .returned (.bool true) ∧ Below w.heap.size w w' := by
  obtain ⟨q, rfl⟩ := hv.form
  have HV := Lib.hid hv
  have HL := Lib.hid hl
  have HT := Lib.hid ht
  have H0 := Lib.hid h0
  clear hv hl ht h0
  unfold TV.val
  go_enter Tryz.func7, Tryz.ntmps7
  go_upto_region 1 with (fail)
  obtain ⟨W1, hW1⟩ : ∃ W1, W1 = w.alloc (.cells #[.int .u8 q.r, .int .i64 q.e, .string q.w, .slice q.a q.n q.c] 36) := ⟨_, rfl⟩
  have hb : Below w.heap.size w W1 := by rw [hW1]; exact (Below.refl _ _).alloc (Nat.le_refl _) _
  have htb : W1.heap[w.heap.size]? = some (.cells #[.int .u8 q.r, .int .i64 q.e, .string q.w, .slice q.a q.n q.c] 36 (0, 0)) := by rw [hW1]; exact heap_atC rfl
  rw [← hW1]
  obtain ⟨T, hT⟩ : ∃ T, T = w.heap.size := ⟨_, rfl⟩
  rw [← hT] at htb ⊢
  have HB1 := Lib.hid hb
  have d0 : W1.cell? ⟨T, 0, none⟩ = some (.int .u8 q.r) := (cell_rowC htb 0).trans rfl
  have d1 : W1.cell? ⟨T, 1, none⟩ = some (.int .i64 q.e) := (cell_rowC htb 1).trans rfl
  have d2 : W1.cell? ⟨T, 2, none⟩ = some (.string q.w) := (cell_rowC htb 2).trans rfl
  have d3 : W1.cell? ⟨T, 3, none⟩ = some (.slice q.a q.n q.c) := (cell_rowC htb 3).trans rfl
  clear hW1 hb htb hT
  obtain ⟨b1, hb1e⟩ : ∃ b, b = smallL l := ⟨_, rfl⟩
  have hS := Small_any W1 _ l (HL.out.below HB1.out)
  rw [← hb1e] at hS
  have HS := Lib.hid hS
  have HSe := Lib.hid hb1e
  clear hS hb1e
  go_wp2_with fail
  refine HS.out.mono ?_
  rintro _ w2' ⟨rfl, h2⟩
  rw [← h2]
  clear h2 w2' HS
  cases b1
  · go_wp2_with fail
    refine (awake34_any W0 W1 (HT.out.next HB1.out)).mono ?_
    rintro _ w5 ⟨rfl, hb5⟩
    go_wp2
    go_ret
    exact ⟨rfl, HB1.out.trans (hb5.mono HB1.out.size)⟩
  obtain ⟨b2, hb2e⟩ : ∃ b, b = fewS t := ⟨_, rfl⟩
  have hF := few_any W1 q.val t (HV.out.move (fun b _ h => ⟨trivial, by obtain ⟨_, _, h⟩ := h; exact HB1.out.block b (cell_lt h)⟩))
  rw [← hb2e] at hF
  have HF := Lib.hid hF
  have HFe := Lib.hid hb2e
  clear hF hb2e
  go_wp2_with fail
  refine HF.out.mono ?_
  rintro _ w3 ⟨rfl, hb3⟩
  have e0 := cell_kept' hb3 d0
  have e1 := cell_kept' hb3 d1
  have e2 := cell_kept' hb3 d2
  have e3 := cell_kept' hb3 d3
  have HB3 := Lib.hid (HB1.out.trans (hb3.mono HB1.out.size))
  clear d0 d1 d2 d3 hb3 HF
  cases b2
  · go_wp2_with fail
    refine (awake34_any W0 w3 (HT.out.next HB3.out)).mono ?_
    rintro _ w5 ⟨rfl, hb5⟩
    go_wp2
    go_ret
    exact ⟨rfl, HB3.out.trans (hb5.mono HB3.out.size)⟩
  have hsl : Slim t := by
    have h := HFe.out.symm
    unfold fewS at h
    simp only [Bool.and_eq_true, decide_eq_true_eq] at h
    exact slim_of t (by omega)
  have hl103 : l.length ≤ 103 := by
    have h := HSe.out.symm
    unfold smallL at h
    simp only [Bool.and_eq_true, decide_eq_true_eq] at h
    exact h.1
  have hcall := yields_any W0 w3 (HT.out.next HB3.out) lv q.val l (HL.out.below HB3.out) H0.out hl103 t (HV.out.move (fun b _ h => ⟨trivial, by obtain ⟨_, _, h⟩ := h; exact HB3.out.block b (cell_lt h)⟩)) hsl
  have HCall := Lib.hid hcall
  unfold TV.val at HCall
  clear hcall hsl hl103
  go_wp2_with fail
  refine HCall.out.mono ?_
  rintro _ w4 ⟨rfl, hb4⟩
  have HB4 := Lib.hid (HB3.out.trans (hb4.mono HB3.out.size))
  clear hb4 HCall e0 e1 e2 e3
  go_wp2_with fail
  refine (awake34_any W0 w4 (HT.out.next HB4.out)).mono ?_
  rintro _ w5 ⟨rfl, hb5⟩
  go_wp2
  go_ret
  exact ⟨rfl, HB4.out.trans (hb5.mono HB4.out.size)⟩
end Go.Proofs.YthmnffgjckpkiaaGreatDoor
