/-
  The cases of 'write' of package english, first part.
-/
import Derived.Test.YthmnffgjckpkiaaGreatDoorNeg
namespace Go.Proofs.YthmnffgjckpkiaaGreatDoor
open Go Go.RowKit Go.Shelf
attribute [local go_sem] Oper.semAt_some

set_option maxRecDepth 100000 in
set_option maxHeartbeats 8000000 in
/-- write, at if. -/
theorem write_1 (Wt W0 w : World) (ht : Tabs Wt W0) (l : List Ent) (lv : Value) (hl : EntSlice W0 lv l) (e : Int) (wd : List UInt8) (y z : Tr) (hwy : WOk W0 l lv y) (hoy : okS l y = true) (hwz : WOk W0 l lv z) (hoz : okS l z = true) (q : TV) (ov : Value) (xs : List (List UInt8)) (hv : TreeV (fun _ => True) W0 q.val (.node 1 e wd [y, z])) (hb : Below W0.heap.size W0 w) (ho : RowW W0.heap.size w ov xs) (hlen : xs.length + 8 * (sizeT y + sizeT z) + 8 ≤ 4000) :
    Calls Tryz.prog 56 #[lv, ov, q.val] w (WPost W0.heap.size w ov (xs ++ [wIf] ++ wordsF l y false ++ [wThen] ++ wordsF l z false)) := by
  obtain ⟨i0, hi, hz0, hz1, hz2⟩ := info_parts info_str
  obtain ⟨qr, qe, qw, qa, qn, qc⟩ := q
  obtain ⟨hqr, hqe, hqw⟩ := TreeV.headW (show TreeV (fun _ => True) W0 (.agg #[.int .u8 qr, .int .i64 qe, .string qw, .slice qa qn qc]) _ from hv)
  subst hqr hqe hqw
  have hqn : qn = 2 := hv.lenW
  have hpar := TreeV.parts hv
  obtain ⟨tb, toff, q0, hab, htv0, hr0, g0, g1, g2, g3⟩ := hpar 0 (by simp)
  obtain ⟨tb', toff', q1, hab', htv1, _, k0, k1, k2, k3⟩ := hpar 1 (by simp)
  simp only at hab
  subst hab
  simp only [Option.some.injEq, Addr.mk.injEq, and_true] at hab'
  obtain ⟨rfl, rfl⟩ := hab'
  simp only [Nat.zero_mul, Nat.add_zero, Nat.one_mul] at g0 g1 g2 g3 k0 k1 k2 k3
  subst hqn
  obtain ⟨va, vn, vc, rfl, hr⟩ := RowN.of ho
  have hlv : vn + 8 * (sizeT y + sizeT z) + 8 ≤ 4000 := by rw [hr.1]; exact hlen
  have hly := words_le y hoy false
  have HWy := Lib.hid hwy
  have hlz := words_le z hoz false
  have HWz := Lib.hid hwz
  have HVn := Lib.hid hr.1
  have HB := Lib.hid hb
  have HTt := Lib.hid ht
  have HLx := Lib.hid hl
  have HTv0 := Lib.hid htv0
  have HTv1 := Lib.hid htv1
  have HR0 := Lib.hid hr0
  have HTw := Lib.hid hv
  have HoB : Go.RowKit.Hid (∀ g, (Value.slice va vn vc).ownBlock = some g → W0.heap.size ≤ g) := Lib.hid (fun g h => (hr.lt h).1)
  have A1 : At W0 w (Value.slice va vn vc).ownBlock w.heap.size (.cells #[.int .u8 1, .int .i64 qe, .string ⟨wd.toArray⟩, .slice (some ⟨tb, toff, none⟩) 2 qc] 36 (0, 0)) (w.alloc (.cells #[.int .u8 1, .int .i64 qe, .string ⟨wd.toArray⟩, .slice (some ⟨tb, toff, none⟩) 2 qc] 36)) va vn vc xs := At.start hb hr rfl
  obtain ⟨T, hT⟩ : ∃ T, T = w.heap.size := ⟨_, rfl⟩
  obtain ⟨S, hS⟩ : ∃ S : World → Prop, S = fun V => V.heap[T]? = some (.cells #[.int .u8 1, .int .i64 qe, .string ⟨wd.toArray⟩, .slice (some ⟨tb, toff, none⟩) 2 qc] 36 (0, 0)) ∧ Below W0.heap.size W0 V := ⟨_, rfl⟩
  have f0 : ∀ V, S V → V.cell? ⟨T, 0, none⟩ = some (.int .u8 1) ∧ V.cell? ⟨T, 1, none⟩ = some (.int .i64 qe) ∧ V.cell? ⟨T, 2, none⟩ = some (.string ⟨wd.toArray⟩) ∧ V.cell? ⟨T, 3, none⟩ = some (.slice (some ⟨tb, toff, none⟩) 2 qc) := fun V h => by rw [hS] at h; exact ⟨(cell_rowC h.1 0).trans rfl, (cell_rowC h.1 1).trans rfl, (cell_rowC h.1 2).trans rfl, (cell_rowC h.1 3).trans rfl⟩
  have f1 : ∀ V, S V → V.cell? ⟨tb, toff, none⟩ = some (.int .u8 q0.r) ∧ V.cell? ⟨tb, toff + 1, none⟩ = some (.int .i64 q0.e) ∧ V.cell? ⟨tb, toff + 2, none⟩ = some (.string q0.w) ∧ V.cell? ⟨tb, toff + 3, none⟩ = some (.slice q0.a q0.n q0.c) := fun V h => by rw [hS] at h; exact ⟨cell_kept' h.2 g0, cell_kept' h.2 g1, cell_kept' h.2 g2, cell_kept' h.2 g3⟩
  have f2 : ∀ V, S V → V.cell? ⟨tb, toff + 4, none⟩ = some (.int .u8 q1.r) ∧ V.cell? ⟨tb, toff + 4 + 1, none⟩ = some (.int .i64 q1.e) ∧ V.cell? ⟨tb, toff + 4 + 2, none⟩ = some (.string q1.w) ∧ V.cell? ⟨tb, toff + 4 + 3, none⟩ = some (.slice q1.a q1.n q1.c) := fun V h => by rw [hS] at h; exact ⟨cell_kept' h.2 k0, cell_kept' h.2 k1, cell_kept' h.2 k2, cell_kept' h.2 k3⟩
  have HSS := Lib.hid hS
  clear hv hb ho hr ht hlen hl hwy hwz hpar htv0 hr0 htv1 hS g0 g1 g2 g3 k0 k1 k2 k3
  unfold TV.val
  refine (callsIn_wide (n := 3)).1 ?_
  refine callsIn_of_wp Tryz.func56 rfl trivial ?_ rfl
  simp only [Tryz.ntmps56, List.size_toArray, List.length_cons, List.length_nil, Nat.reduceAdd, Nat.reduceSub, Array.replicate_succ, Array.replicate_zero, List.push_toArray, List.append_toArray, List.nil_append, List.cons_append]
  have hfw : ∀ f, Fence.wide.fn f := fun _ => trivial
  gi_wp2_with fail
  obtain ⟨W1, hW1⟩ : ∃ W1, W1 = w.alloc (.cells #[.int .u8 1, .int .i64 qe, .string ⟨wd.toArray⟩, .slice (some ⟨tb, toff, none⟩) 2 qc] 36) := ⟨_, rfl⟩
  rw [← hW1, ← hT] at A1
  rw [← hW1, ← hT]
  clear hW1 hT
  have hSd : S W1.drew := by rw [HSS.out]; exact ⟨A1.drew.box, A1.drew.below⟩
  have A1d := A1.drew
  have HA1 := Lib.hid A1d
  clear A1 A1d
  refine regionM S 7 (by kernel_rfl) hSd (fun hpo hS0 => ?_)
  refine takeM (i := 0) 11 lv hpo rfl (by kernel_rfl) (fun _ _ _ h => h) rfl (by rfl) (fun V hX => (by go_simp)) (fun _ => rfl) hS0 (fun hS1 => ?_)
  simp only [List.setIfInBounds_toArray, List.set_cons_zero, List.set_cons_succ]
  refine takeM (i := 1) 12 (.slice va vn vc) hpo rfl (by kernel_rfl) (fun _ _ _ h => h) rfl (by rfl) (fun V hX => (by go_simp)) (fun _ => rfl) hS1 (fun hS2 => ?_)
  simp only [List.setIfInBounds_toArray, List.set_cons_zero, List.set_cons_succ]
  refine takeM (i := 4) 15 (.agg #[.int .u8 1, .int .i64 qe, .string ⟨wd.toArray⟩, .slice (some ⟨tb, toff, none⟩) 2 qc]) hpo rfl (by kernel_rfl) (fun _ _ _ h => h) rfl (by rfl) (fun V hX => (by obtain ⟨g0, g1, g2, g3⟩ := f0 V hX; go_simp)) (fun _ => rfl) hS2 (fun hS3 => ?_)
  simp only [List.setIfInBounds_toArray, List.set_cons_zero, List.set_cons_succ]
  refine oneM (i := 2) rfl (by kernel_rfl) (by rfl) (fun K hK => ?_)
  go_simp
  refine hK _ _ (fun _ => by rw [HSS.out]; exact ⟨(HA1.out.alloc _).box, (HA1.out.alloc _).below⟩) (fun _ => ?_)
  clear hK K
  have Hw2 := Lib.hid (HA1.out.alloc (.cells #[.string ⟨#[105, 102]⟩] 9))
  refine oneM (i := 3) rfl (by kernel_rfl) (by rfl) (fun K hK => ?_)
  refine wpIn_append_lies (.tmp 12) (.tmp 13) 41 rfl W0.heap.size 9 i0 (.string ByteArray.empty) 1 16 Tryz.underlying41 hi hz0 hz1 hz2 rfl (by decide) _ _ _ rfl Hw2.out.row.2 ⟨W1.drew.heap.size, 0, none⟩ 1 1 [.string ⟨#[105, 102]⟩] rfl rfl (news_at (World.alloc_heap_new W1.drew _)) (by simp [Value.oneCell']) (by decide) (by unfold maxLen; omega) (by omega) Hw2.out.below.size _ rfl ?_
  intro gw3 cw3 w3 how3 hgw3 hatw3 _
  have Aw3 := Hw2.out.more (m := 1) (ys := [wIf]) HB.out HoB.out rfl (by simp [strVal, wIf]) how3 hgw3 hatw3 rfl
  have Hw3 := Lib.hid Aw3
  clear how3 hgw3 hatw3 Aw3
  refine hK _ _ (fun _ => by rw [HSS.out]; exact ⟨Hw3.out.box, Hw3.out.below⟩) (fun _ => ?_)
  clear hK K
  refine oneM (i := 5) rfl (by kernel_rfl) (by rfl) (fun K hK => ?_)
  go_simp
  refine callsIn_wide.2 ((joined_any W0 _ l lv 1 qe wd y z HWy.out HWz.out ⟨1, qe, ⟨wd.toArray⟩, some ⟨tb, toff, none⟩, 2, qc⟩ _ _ wThen HTw.out Hw3.out.below Hw3.out.row.row (by have := Hw3.out.row.1; omega) hoy).mono ?_)
  rintro ew4 w4 hpost
  obtain ⟨aw4, nw4, cw4, rfl, Aw4⟩ := Hw3.out.next HB.out HoB.out hpost
  have Hw4 := Lib.hid Aw4
  clear hpost Aw4
  refine hK _ _ (fun _ => by rw [HSS.out]; exact ⟨Hw4.out.box, Hw4.out.below⟩) (fun _ => ?_)
  clear hK K
  refine oneM (i := 6) rfl (by kernel_rfl) (by rfl) (fun K hK => ?_)
  go_simp
  refine hK _ _ (fun _ => by rw [HSS.out]; exact ⟨Hw4.out.box, Hw4.out.below⟩) (fun _ => ?_)
  clear hK K
  refine doneM (by kernel_rfl) ?_ _
  gi_wp2
  go_ret
  exact Hw4.out.post rfl
set_option maxRecDepth 100000 in
set_option maxHeartbeats 8000000 in
/-- write, at two parts with a word between them. -/
theorem write_2 (Wt W0 w : World) (ht : Tabs Wt W0) (l : List Ent) (lv : Value) (hl : EntSlice W0 lv l) (e : Int) (wd : List UInt8) (y z : Tr) (hwy : WOk W0 l lv y) (hoy : okS l y = true) (hwz : WOk W0 l lv z) (hoz : okS l z = true) (q : TV) (ov : Value) (xs : List (List UInt8)) (hv : TreeV (fun _ => True) W0 q.val (.node 2 e wd [y, z])) (hb : Below W0.heap.size W0 w) (ho : RowW W0.heap.size w ov xs) (hlen : xs.length + 8 * (sizeT y + sizeT z) + 8 ≤ 4000) :
    Calls Tryz.prog 56 #[lv, ov, q.val] w (WPost W0.heap.size w ov (xs ++ wordsF l y false ++ [wIff] ++ wordsF l z false)) := by
  obtain ⟨i0, hi, hz0, hz1, hz2⟩ := info_parts info_str
  obtain ⟨qr, qe, qw, qa, qn, qc⟩ := q
  obtain ⟨hqr, hqe, hqw⟩ := TreeV.headW (show TreeV (fun _ => True) W0 (.agg #[.int .u8 qr, .int .i64 qe, .string qw, .slice qa qn qc]) _ from hv)
  subst hqr hqe hqw
  have hqn : qn = 2 := hv.lenW
  have hpar := TreeV.parts hv
  obtain ⟨tb, toff, q0, hab, htv0, hr0, g0, g1, g2, g3⟩ := hpar 0 (by simp)
  obtain ⟨tb', toff', q1, hab', htv1, _, k0, k1, k2, k3⟩ := hpar 1 (by simp)
  simp only at hab
  subst hab
  simp only [Option.some.injEq, Addr.mk.injEq, and_true] at hab'
  obtain ⟨rfl, rfl⟩ := hab'
  simp only [Nat.zero_mul, Nat.add_zero, Nat.one_mul] at g0 g1 g2 g3 k0 k1 k2 k3
  subst hqn
  obtain ⟨va, vn, vc, rfl, hr⟩ := RowN.of ho
  have hlv : vn + 8 * (sizeT y + sizeT z) + 8 ≤ 4000 := by rw [hr.1]; exact hlen
  have hly := words_le y hoy false
  have HWy := Lib.hid hwy
  have hlz := words_le z hoz false
  have HWz := Lib.hid hwz
  have HVn := Lib.hid hr.1
  have HB := Lib.hid hb
  have HTt := Lib.hid ht
  have HLx := Lib.hid hl
  have HTv0 := Lib.hid htv0
  have HTv1 := Lib.hid htv1
  have HR0 := Lib.hid hr0
  have HTw := Lib.hid hv
  have HoB : Go.RowKit.Hid (∀ g, (Value.slice va vn vc).ownBlock = some g → W0.heap.size ≤ g) := Lib.hid (fun g h => (hr.lt h).1)
  have A1 : At W0 w (Value.slice va vn vc).ownBlock w.heap.size (.cells #[.int .u8 2, .int .i64 qe, .string ⟨wd.toArray⟩, .slice (some ⟨tb, toff, none⟩) 2 qc] 36 (0, 0)) (w.alloc (.cells #[.int .u8 2, .int .i64 qe, .string ⟨wd.toArray⟩, .slice (some ⟨tb, toff, none⟩) 2 qc] 36)) va vn vc xs := At.start hb hr rfl
  obtain ⟨T, hT⟩ : ∃ T, T = w.heap.size := ⟨_, rfl⟩
  have HX := Lib.hid True.intro
  clear hv hb ho hr ht hlen hl hwy hwz hpar htv0 hr0 htv1
  unfold TV.val
  go_enter Tryz.func56, Tryz.ntmps56
  go_upto_region 1 with (fail)
  obtain ⟨W1, hW1⟩ : ∃ W1, W1 = w.alloc (.cells #[.int .u8 2, .int .i64 qe, .string ⟨wd.toArray⟩, .slice (some ⟨tb, toff, none⟩) 2 qc] 36) := ⟨_, rfl⟩
  rw [← hW1, ← hT] at A1
  rw [← hW1, ← hT]
  clear hW1 hT HX
  have HA1 := Lib.hid A1
  have c0 : W1.cell? ⟨T, 0, none⟩ = some _ := (cell_rowC A1.box 0).trans rfl
  have c1 : W1.cell? ⟨T, 1, none⟩ = some _ := (cell_rowC A1.box 1).trans rfl
  have c2 : W1.cell? ⟨T, 2, none⟩ = some _ := (cell_rowC A1.box 2).trans rfl
  have c3 : W1.cell? ⟨T, 3, none⟩ = some _ := (cell_rowC A1.box 3).trans rfl
  have d0 := cell_kept' A1.below g0
  have d1 := cell_kept' A1.below g1
  have d2 := cell_kept' A1.below g2
  have d3 := cell_kept' A1.below g3
  clear A1 g0 g1 g2 g3 k0 k1 k2 k3
  go_wp2_with fail
  refine (joined_any W0 _ l lv 2 qe wd y z HWy.out HWz.out ⟨2, qe, ⟨wd.toArray⟩, some ⟨tb, toff, none⟩, 2, qc⟩ _ _ wIff HTw.out HA1.out.below HA1.out.row.row (by have := HA1.out.row.1; omega) hoy).mono ?_
  rintro e2 w2 hpost
  obtain ⟨a2, n2, cc2, rfl, A2⟩ := HA1.out.next HB.out HoB.out hpost
  have HA2 := Lib.hid A2
  clear hpost A2
  go_wp2
  go_ret
  exact HA2.out.post rfl
set_option maxRecDepth 100000 in
set_option maxHeartbeats 8000000 in
/-- write, at two parts with a word between them. -/
theorem write_3 (Wt W0 w : World) (ht : Tabs Wt W0) (l : List Ent) (lv : Value) (hl : EntSlice W0 lv l) (e : Int) (wd : List UInt8) (y z : Tr) (hwy : WOk W0 l lv y) (hoy : okS l y = true) (hwz : WOk W0 l lv z) (hoz : okS l z = true) (q : TV) (ov : Value) (xs : List (List UInt8)) (hv : TreeV (fun _ => True) W0 q.val (.node 3 e wd [y, z])) (hb : Below W0.heap.size W0 w) (ho : RowW W0.heap.size w ov xs) (hlen : xs.length + 8 * (sizeT y + sizeT z) + 8 ≤ 4000) :
    Calls Tryz.prog 56 #[lv, ov, q.val] w (WPost W0.heap.size w ov (xs ++ wordsF l y false ++ [wOr] ++ wordsF l z false)) := by
  obtain ⟨i0, hi, hz0, hz1, hz2⟩ := info_parts info_str
  obtain ⟨qr, qe, qw, qa, qn, qc⟩ := q
  obtain ⟨hqr, hqe, hqw⟩ := TreeV.headW (show TreeV (fun _ => True) W0 (.agg #[.int .u8 qr, .int .i64 qe, .string qw, .slice qa qn qc]) _ from hv)
  subst hqr hqe hqw
  have hqn : qn = 2 := hv.lenW
  have hpar := TreeV.parts hv
  obtain ⟨tb, toff, q0, hab, htv0, hr0, g0, g1, g2, g3⟩ := hpar 0 (by simp)
  obtain ⟨tb', toff', q1, hab', htv1, _, k0, k1, k2, k3⟩ := hpar 1 (by simp)
  simp only at hab
  subst hab
  simp only [Option.some.injEq, Addr.mk.injEq, and_true] at hab'
  obtain ⟨rfl, rfl⟩ := hab'
  simp only [Nat.zero_mul, Nat.add_zero, Nat.one_mul] at g0 g1 g2 g3 k0 k1 k2 k3
  subst hqn
  obtain ⟨va, vn, vc, rfl, hr⟩ := RowN.of ho
  have hlv : vn + 8 * (sizeT y + sizeT z) + 8 ≤ 4000 := by rw [hr.1]; exact hlen
  have hly := words_le y hoy false
  have HWy := Lib.hid hwy
  have hlz := words_le z hoz false
  have HWz := Lib.hid hwz
  have HVn := Lib.hid hr.1
  have HB := Lib.hid hb
  have HTt := Lib.hid ht
  have HLx := Lib.hid hl
  have HTv0 := Lib.hid htv0
  have HTv1 := Lib.hid htv1
  have HR0 := Lib.hid hr0
  have HTw := Lib.hid hv
  have HoB : Go.RowKit.Hid (∀ g, (Value.slice va vn vc).ownBlock = some g → W0.heap.size ≤ g) := Lib.hid (fun g h => (hr.lt h).1)
  have A1 : At W0 w (Value.slice va vn vc).ownBlock w.heap.size (.cells #[.int .u8 3, .int .i64 qe, .string ⟨wd.toArray⟩, .slice (some ⟨tb, toff, none⟩) 2 qc] 36 (0, 0)) (w.alloc (.cells #[.int .u8 3, .int .i64 qe, .string ⟨wd.toArray⟩, .slice (some ⟨tb, toff, none⟩) 2 qc] 36)) va vn vc xs := At.start hb hr rfl
  obtain ⟨T, hT⟩ : ∃ T, T = w.heap.size := ⟨_, rfl⟩
  have HX := Lib.hid True.intro
  clear hv hb ho hr ht hlen hl hwy hwz hpar htv0 hr0 htv1
  unfold TV.val
  go_enter Tryz.func56, Tryz.ntmps56
  go_upto_region 1 with (fail)
  obtain ⟨W1, hW1⟩ : ∃ W1, W1 = w.alloc (.cells #[.int .u8 3, .int .i64 qe, .string ⟨wd.toArray⟩, .slice (some ⟨tb, toff, none⟩) 2 qc] 36) := ⟨_, rfl⟩
  rw [← hW1, ← hT] at A1
  rw [← hW1, ← hT]
  clear hW1 hT HX
  have HA1 := Lib.hid A1
  have c0 : W1.cell? ⟨T, 0, none⟩ = some _ := (cell_rowC A1.box 0).trans rfl
  have c1 : W1.cell? ⟨T, 1, none⟩ = some _ := (cell_rowC A1.box 1).trans rfl
  have c2 : W1.cell? ⟨T, 2, none⟩ = some _ := (cell_rowC A1.box 2).trans rfl
  have c3 : W1.cell? ⟨T, 3, none⟩ = some _ := (cell_rowC A1.box 3).trans rfl
  have d0 := cell_kept' A1.below g0
  have d1 := cell_kept' A1.below g1
  have d2 := cell_kept' A1.below g2
  have d3 := cell_kept' A1.below g3
  clear A1 g0 g1 g2 g3 k0 k1 k2 k3
  go_wp2_with fail
  refine (joined_any W0 _ l lv 3 qe wd y z HWy.out HWz.out ⟨3, qe, ⟨wd.toArray⟩, some ⟨tb, toff, none⟩, 2, qc⟩ _ _ wOr HTw.out HA1.out.below HA1.out.row.row (by have := HA1.out.row.1; omega) hoy).mono ?_
  rintro e2 w2 hpost
  obtain ⟨a2, n2, cc2, rfl, A2⟩ := HA1.out.next HB.out HoB.out hpost
  have HA2 := Lib.hid A2
  clear hpost A2
  go_wp2
  go_ret
  exact HA2.out.post rfl
set_option maxRecDepth 100000 in
set_option maxHeartbeats 8000000 in
/-- write, at two parts with a word between them. -/
theorem write_17 (Wt W0 w : World) (ht : Tabs Wt W0) (l : List Ent) (lv : Value) (hl : EntSlice W0 lv l) (e : Int) (wd : List UInt8) (y z : Tr) (hwy : WOk W0 l lv y) (hoy : okS l y = true) (hwz : WOk W0 l lv z) (hoz : okS l z = true) (q : TV) (ov : Value) (xs : List (List UInt8)) (hv : TreeV (fun _ => True) W0 q.val (.node 17 e wd [y, z])) (hb : Below W0.heap.size W0 w) (ho : RowW W0.heap.size w ov xs) (hlen : xs.length + 8 * (sizeT y + sizeT z) + 8 ≤ 4000) :
    Calls Tryz.prog 56 #[lv, ov, q.val] w (WPost W0.heap.size w ov (xs ++ wordsF l y false ++ [wOr] ++ wordsF l z false)) := by
  obtain ⟨i0, hi, hz0, hz1, hz2⟩ := info_parts info_str
  obtain ⟨qr, qe, qw, qa, qn, qc⟩ := q
  obtain ⟨hqr, hqe, hqw⟩ := TreeV.headW (show TreeV (fun _ => True) W0 (.agg #[.int .u8 qr, .int .i64 qe, .string qw, .slice qa qn qc]) _ from hv)
  subst hqr hqe hqw
  have hqn : qn = 2 := hv.lenW
  have hpar := TreeV.parts hv
  obtain ⟨tb, toff, q0, hab, htv0, hr0, g0, g1, g2, g3⟩ := hpar 0 (by simp)
  obtain ⟨tb', toff', q1, hab', htv1, _, k0, k1, k2, k3⟩ := hpar 1 (by simp)
  simp only at hab
  subst hab
  simp only [Option.some.injEq, Addr.mk.injEq, and_true] at hab'
  obtain ⟨rfl, rfl⟩ := hab'
  simp only [Nat.zero_mul, Nat.add_zero, Nat.one_mul] at g0 g1 g2 g3 k0 k1 k2 k3
  subst hqn
  obtain ⟨va, vn, vc, rfl, hr⟩ := RowN.of ho
  have hlv : vn + 8 * (sizeT y + sizeT z) + 8 ≤ 4000 := by rw [hr.1]; exact hlen
  have hly := words_le y hoy false
  have HWy := Lib.hid hwy
  have hlz := words_le z hoz false
  have HWz := Lib.hid hwz
  have HVn := Lib.hid hr.1
  have HB := Lib.hid hb
  have HTt := Lib.hid ht
  have HLx := Lib.hid hl
  have HTv0 := Lib.hid htv0
  have HTv1 := Lib.hid htv1
  have HR0 := Lib.hid hr0
  have HTw := Lib.hid hv
  have HoB : Go.RowKit.Hid (∀ g, (Value.slice va vn vc).ownBlock = some g → W0.heap.size ≤ g) := Lib.hid (fun g h => (hr.lt h).1)
  have A1 : At W0 w (Value.slice va vn vc).ownBlock w.heap.size (.cells #[.int .u8 17, .int .i64 qe, .string ⟨wd.toArray⟩, .slice (some ⟨tb, toff, none⟩) 2 qc] 36 (0, 0)) (w.alloc (.cells #[.int .u8 17, .int .i64 qe, .string ⟨wd.toArray⟩, .slice (some ⟨tb, toff, none⟩) 2 qc] 36)) va vn vc xs := At.start hb hr rfl
  obtain ⟨T, hT⟩ : ∃ T, T = w.heap.size := ⟨_, rfl⟩
  have HX := Lib.hid True.intro
  clear hv hb ho hr ht hlen hl hwy hwz hpar htv0 hr0 htv1
  unfold TV.val
  go_enter Tryz.func56, Tryz.ntmps56
  go_upto_region 1 with (fail)
  obtain ⟨W1, hW1⟩ : ∃ W1, W1 = w.alloc (.cells #[.int .u8 17, .int .i64 qe, .string ⟨wd.toArray⟩, .slice (some ⟨tb, toff, none⟩) 2 qc] 36) := ⟨_, rfl⟩
  rw [← hW1, ← hT] at A1
  rw [← hW1, ← hT]
  clear hW1 hT HX
  have HA1 := Lib.hid A1
  have c0 : W1.cell? ⟨T, 0, none⟩ = some _ := (cell_rowC A1.box 0).trans rfl
  have c1 : W1.cell? ⟨T, 1, none⟩ = some _ := (cell_rowC A1.box 1).trans rfl
  have c2 : W1.cell? ⟨T, 2, none⟩ = some _ := (cell_rowC A1.box 2).trans rfl
  have c3 : W1.cell? ⟨T, 3, none⟩ = some _ := (cell_rowC A1.box 3).trans rfl
  have d0 := cell_kept' A1.below g0
  have d1 := cell_kept' A1.below g1
  have d2 := cell_kept' A1.below g2
  have d3 := cell_kept' A1.below g3
  clear A1 g0 g1 g2 g3 k0 k1 k2 k3
  go_wp2_with fail
  refine (joined_any W0 _ l lv 17 qe wd y z HWy.out HWz.out ⟨17, qe, ⟨wd.toArray⟩, some ⟨tb, toff, none⟩, 2, qc⟩ _ _ wOr HTw.out HA1.out.below HA1.out.row.row (by have := HA1.out.row.1; omega) hoy).mono ?_
  rintro e2 w2 hpost
  obtain ⟨a2, n2, cc2, rfl, A2⟩ := HA1.out.next HB.out HoB.out hpost
  have HA2 := Lib.hid A2
  clear hpost A2
  go_wp2
  go_ret
  exact HA2.out.post rfl
set_option maxRecDepth 100000 in
set_option maxHeartbeats 8000000 in
/-- write, at two parts with a word between them. -/
theorem write_4 (Wt W0 w : World) (ht : Tabs Wt W0) (l : List Ent) (lv : Value) (hl : EntSlice W0 lv l) (e : Int) (wd : List UInt8) (y z : Tr) (hwy : WOk W0 l lv y) (hoy : okS l y = true) (hwz : WOk W0 l lv z) (hoz : okS l z = true) (q : TV) (ov : Value) (xs : List (List UInt8)) (hv : TreeV (fun _ => True) W0 q.val (.node 4 e wd [y, z])) (hb : Below W0.heap.size W0 w) (ho : RowW W0.heap.size w ov xs) (hlen : xs.length + 8 * (sizeT y + sizeT z) + 8 ≤ 4000) :
    Calls Tryz.prog 56 #[lv, ov, q.val] w (WPost W0.heap.size w ov (xs ++ wordsF l y false ++ [wAnd] ++ wordsF l z false)) := by
  obtain ⟨i0, hi, hz0, hz1, hz2⟩ := info_parts info_str
  obtain ⟨qr, qe, qw, qa, qn, qc⟩ := q
  obtain ⟨hqr, hqe, hqw⟩ := TreeV.headW (show TreeV (fun _ => True) W0 (.agg #[.int .u8 qr, .int .i64 qe, .string qw, .slice qa qn qc]) _ from hv)
  subst hqr hqe hqw
  have hqn : qn = 2 := hv.lenW
  have hpar := TreeV.parts hv
  obtain ⟨tb, toff, q0, hab, htv0, hr0, g0, g1, g2, g3⟩ := hpar 0 (by simp)
  obtain ⟨tb', toff', q1, hab', htv1, _, k0, k1, k2, k3⟩ := hpar 1 (by simp)
  simp only at hab
  subst hab
  simp only [Option.some.injEq, Addr.mk.injEq, and_true] at hab'
  obtain ⟨rfl, rfl⟩ := hab'
  simp only [Nat.zero_mul, Nat.add_zero, Nat.one_mul] at g0 g1 g2 g3 k0 k1 k2 k3
  subst hqn
  obtain ⟨va, vn, vc, rfl, hr⟩ := RowN.of ho
  have hlv : vn + 8 * (sizeT y + sizeT z) + 8 ≤ 4000 := by rw [hr.1]; exact hlen
  have hly := words_le y hoy false
  have HWy := Lib.hid hwy
  have hlz := words_le z hoz false
  have HWz := Lib.hid hwz
  have HVn := Lib.hid hr.1
  have HB := Lib.hid hb
  have HTt := Lib.hid ht
  have HLx := Lib.hid hl
  have HTv0 := Lib.hid htv0
  have HTv1 := Lib.hid htv1
  have HR0 := Lib.hid hr0
  have HTw := Lib.hid hv
  have HoB : Go.RowKit.Hid (∀ g, (Value.slice va vn vc).ownBlock = some g → W0.heap.size ≤ g) := Lib.hid (fun g h => (hr.lt h).1)
  have A1 : At W0 w (Value.slice va vn vc).ownBlock w.heap.size (.cells #[.int .u8 4, .int .i64 qe, .string ⟨wd.toArray⟩, .slice (some ⟨tb, toff, none⟩) 2 qc] 36 (0, 0)) (w.alloc (.cells #[.int .u8 4, .int .i64 qe, .string ⟨wd.toArray⟩, .slice (some ⟨tb, toff, none⟩) 2 qc] 36)) va vn vc xs := At.start hb hr rfl
  obtain ⟨T, hT⟩ : ∃ T, T = w.heap.size := ⟨_, rfl⟩
  have HX := Lib.hid True.intro
  clear hv hb ho hr ht hlen hl hwy hwz hpar htv0 hr0 htv1
  unfold TV.val
  go_enter Tryz.func56, Tryz.ntmps56
  go_upto_region 1 with (fail)
  obtain ⟨W1, hW1⟩ : ∃ W1, W1 = w.alloc (.cells #[.int .u8 4, .int .i64 qe, .string ⟨wd.toArray⟩, .slice (some ⟨tb, toff, none⟩) 2 qc] 36) := ⟨_, rfl⟩
  rw [← hW1, ← hT] at A1
  rw [← hW1, ← hT]
  clear hW1 hT HX
  have HA1 := Lib.hid A1
  have c0 : W1.cell? ⟨T, 0, none⟩ = some _ := (cell_rowC A1.box 0).trans rfl
  have c1 : W1.cell? ⟨T, 1, none⟩ = some _ := (cell_rowC A1.box 1).trans rfl
  have c2 : W1.cell? ⟨T, 2, none⟩ = some _ := (cell_rowC A1.box 2).trans rfl
  have c3 : W1.cell? ⟨T, 3, none⟩ = some _ := (cell_rowC A1.box 3).trans rfl
  have d0 := cell_kept' A1.below g0
  have d1 := cell_kept' A1.below g1
  have d2 := cell_kept' A1.below g2
  have d3 := cell_kept' A1.below g3
  clear A1 g0 g1 g2 g3 k0 k1 k2 k3
  go_wp2_with fail
  refine (joined_any W0 _ l lv 4 qe wd y z HWy.out HWz.out ⟨4, qe, ⟨wd.toArray⟩, some ⟨tb, toff, none⟩, 2, qc⟩ _ _ wAnd HTw.out HA1.out.below HA1.out.row.row (by have := HA1.out.row.1; omega) hoy).mono ?_
  rintro e2 w2 hpost
  obtain ⟨a2, n2, cc2, rfl, A2⟩ := HA1.out.next HB.out HoB.out hpost
  have HA2 := Lib.hid A2
  clear hpost A2
  go_wp2
  go_ret
  exact HA2.out.post rfl
set_option maxRecDepth 100000 in
set_option maxHeartbeats 8000000 in
/-- write, at two parts with a word between them. -/
theorem write_18 (Wt W0 w : World) (ht : Tabs Wt W0) (l : List Ent) (lv : Value) (hl : EntSlice W0 lv l) (e : Int) (wd : List UInt8) (y z : Tr) (hwy : WOk W0 l lv y) (hoy : okS l y = true) (hwz : WOk W0 l lv z) (hoz : okS l z = true) (q : TV) (ov : Value) (xs : List (List UInt8)) (hv : TreeV (fun _ => True) W0 q.val (.node 18 e wd [y, z])) (hb : Below W0.heap.size W0 w) (ho : RowW W0.heap.size w ov xs) (hlen : xs.length + 8 * (sizeT y + sizeT z) + 8 ≤ 4000) :
    Calls Tryz.prog 56 #[lv, ov, q.val] w (WPost W0.heap.size w ov (xs ++ wordsF l y false ++ [wAnd] ++ wordsF l z false)) := by
  obtain ⟨i0, hi, hz0, hz1, hz2⟩ := info_parts info_str
  obtain ⟨qr, qe, qw, qa, qn, qc⟩ := q
  obtain ⟨hqr, hqe, hqw⟩ := TreeV.headW (show TreeV (fun _ => True) W0 (.agg #[.int .u8 qr, .int .i64 qe, .string qw, .slice qa qn qc]) _ from hv)
  subst hqr hqe hqw
  have hqn : qn = 2 := hv.lenW
  have hpar := TreeV.parts hv
  obtain ⟨tb, toff, q0, hab, htv0, hr0, g0, g1, g2, g3⟩ := hpar 0 (by simp)
  obtain ⟨tb', toff', q1, hab', htv1, _, k0, k1, k2, k3⟩ := hpar 1 (by simp)
  simp only at hab
  subst hab
  simp only [Option.some.injEq, Addr.mk.injEq, and_true] at hab'
  obtain ⟨rfl, rfl⟩ := hab'
  simp only [Nat.zero_mul, Nat.add_zero, Nat.one_mul] at g0 g1 g2 g3 k0 k1 k2 k3
  subst hqn
  obtain ⟨va, vn, vc, rfl, hr⟩ := RowN.of ho
  have hlv : vn + 8 * (sizeT y + sizeT z) + 8 ≤ 4000 := by rw [hr.1]; exact hlen
  have hly := words_le y hoy false
  have HWy := Lib.hid hwy
  have hlz := words_le z hoz false
  have HWz := Lib.hid hwz
  have HVn := Lib.hid hr.1
  have HB := Lib.hid hb
  have HTt := Lib.hid ht
  have HLx := Lib.hid hl
  have HTv0 := Lib.hid htv0
  have HTv1 := Lib.hid htv1
  have HR0 := Lib.hid hr0
  have HTw := Lib.hid hv
  have HoB : Go.RowKit.Hid (∀ g, (Value.slice va vn vc).ownBlock = some g → W0.heap.size ≤ g) := Lib.hid (fun g h => (hr.lt h).1)
  have A1 : At W0 w (Value.slice va vn vc).ownBlock w.heap.size (.cells #[.int .u8 18, .int .i64 qe, .string ⟨wd.toArray⟩, .slice (some ⟨tb, toff, none⟩) 2 qc] 36 (0, 0)) (w.alloc (.cells #[.int .u8 18, .int .i64 qe, .string ⟨wd.toArray⟩, .slice (some ⟨tb, toff, none⟩) 2 qc] 36)) va vn vc xs := At.start hb hr rfl
  obtain ⟨T, hT⟩ : ∃ T, T = w.heap.size := ⟨_, rfl⟩
  have HX := Lib.hid True.intro
  clear hv hb ho hr ht hlen hl hwy hwz hpar htv0 hr0 htv1
  unfold TV.val
  go_enter Tryz.func56, Tryz.ntmps56
  go_upto_region 1 with (fail)
  obtain ⟨W1, hW1⟩ : ∃ W1, W1 = w.alloc (.cells #[.int .u8 18, .int .i64 qe, .string ⟨wd.toArray⟩, .slice (some ⟨tb, toff, none⟩) 2 qc] 36) := ⟨_, rfl⟩
  rw [← hW1, ← hT] at A1
  rw [← hW1, ← hT]
  clear hW1 hT HX
  have HA1 := Lib.hid A1
  have c0 : W1.cell? ⟨T, 0, none⟩ = some _ := (cell_rowC A1.box 0).trans rfl
  have c1 : W1.cell? ⟨T, 1, none⟩ = some _ := (cell_rowC A1.box 1).trans rfl
  have c2 : W1.cell? ⟨T, 2, none⟩ = some _ := (cell_rowC A1.box 2).trans rfl
  have c3 : W1.cell? ⟨T, 3, none⟩ = some _ := (cell_rowC A1.box 3).trans rfl
  have d0 := cell_kept' A1.below g0
  have d1 := cell_kept' A1.below g1
  have d2 := cell_kept' A1.below g2
  have d3 := cell_kept' A1.below g3
  clear A1 g0 g1 g2 g3 k0 k1 k2 k3
  go_wp2_with fail
  refine (joined_any W0 _ l lv 18 qe wd y z HWy.out HWz.out ⟨18, qe, ⟨wd.toArray⟩, some ⟨tb, toff, none⟩, 2, qc⟩ _ _ wAnd HTw.out HA1.out.below HA1.out.row.row (by have := HA1.out.row.1; omega) hoy).mono ?_
  rintro e2 w2 hpost
  obtain ⟨a2, n2, cc2, rfl, A2⟩ := HA1.out.next HB.out HoB.out hpost
  have HA2 := Lib.hid A2
  clear hpost A2
  go_wp2
  go_ret
  exact HA2.out.post rfl
set_option maxRecDepth 100000 in
set_option maxHeartbeats 8000000 in
/-- write, at a subject and what is said of it. -/
theorem write_5 (Wt W0 w : World) (ht : Tabs Wt W0) (l : List Ent) (lv : Value) (hl : EntSlice W0 lv l) (e : Int) (wd : List UInt8) (y z : Tr) (hwy : WOk W0 l lv y) (hoy : okS l y = true) (hwz : WOk W0 l lv z) (hoz : okS l z = true) (q : TV) (ov : Value) (xs : List (List UInt8)) (hv : TreeV (fun _ => True) W0 q.val (.node 5 e wd [y, z])) (hb : Below W0.heap.size W0 w) (ho : RowW W0.heap.size w ov xs) (hlen : xs.length + 8 * (sizeT y + sizeT z) + 8 ≤ 4000) :
    Calls Tryz.prog 56 #[lv, ov, q.val] w (WPost W0.heap.size w ov (xs ++ wordsF l y false ++ wordsF l z false)) := by
  obtain ⟨i0, hi, hz0, hz1, hz2⟩ := info_parts info_str
  obtain ⟨qr, qe, qw, qa, qn, qc⟩ := q
  obtain ⟨hqr, hqe, hqw⟩ := TreeV.headW (show TreeV (fun _ => True) W0 (.agg #[.int .u8 qr, .int .i64 qe, .string qw, .slice qa qn qc]) _ from hv)
  subst hqr hqe hqw
  have hqn : qn = 2 := hv.lenW
  have hpar := TreeV.parts hv
  obtain ⟨tb, toff, q0, hab, htv0, hr0, g0, g1, g2, g3⟩ := hpar 0 (by simp)
  obtain ⟨tb', toff', q1, hab', htv1, _, k0, k1, k2, k3⟩ := hpar 1 (by simp)
  simp only at hab
  subst hab
  simp only [Option.some.injEq, Addr.mk.injEq, and_true] at hab'
  obtain ⟨rfl, rfl⟩ := hab'
  simp only [Nat.zero_mul, Nat.add_zero, Nat.one_mul] at g0 g1 g2 g3 k0 k1 k2 k3
  subst hqn
  obtain ⟨va, vn, vc, rfl, hr⟩ := RowN.of ho
  have hlv : vn + 8 * (sizeT y + sizeT z) + 8 ≤ 4000 := by rw [hr.1]; exact hlen
  have hly := words_le y hoy false
  have HWy := Lib.hid hwy
  have hlz := words_le z hoz false
  have HWz := Lib.hid hwz
  have HVn := Lib.hid hr.1
  have HB := Lib.hid hb
  have HTt := Lib.hid ht
  have HLx := Lib.hid hl
  have HTv0 := Lib.hid htv0
  have HTv1 := Lib.hid htv1
  have HR0 := Lib.hid hr0
  have HTw := Lib.hid hv
  have HoB : Go.RowKit.Hid (∀ g, (Value.slice va vn vc).ownBlock = some g → W0.heap.size ≤ g) := Lib.hid (fun g h => (hr.lt h).1)
  have A1 : At W0 w (Value.slice va vn vc).ownBlock w.heap.size (.cells #[.int .u8 5, .int .i64 qe, .string ⟨wd.toArray⟩, .slice (some ⟨tb, toff, none⟩) 2 qc] 36 (0, 0)) (w.alloc (.cells #[.int .u8 5, .int .i64 qe, .string ⟨wd.toArray⟩, .slice (some ⟨tb, toff, none⟩) 2 qc] 36)) va vn vc xs := At.start hb hr rfl
  obtain ⟨T, hT⟩ : ∃ T, T = w.heap.size := ⟨_, rfl⟩
  obtain ⟨S, hS⟩ : ∃ S : World → Prop, S = fun V => V.heap[T]? = some (.cells #[.int .u8 5, .int .i64 qe, .string ⟨wd.toArray⟩, .slice (some ⟨tb, toff, none⟩) 2 qc] 36 (0, 0)) ∧ Below W0.heap.size W0 V := ⟨_, rfl⟩
  have f0 : ∀ V, S V → V.cell? ⟨T, 0, none⟩ = some (.int .u8 5) ∧ V.cell? ⟨T, 1, none⟩ = some (.int .i64 qe) ∧ V.cell? ⟨T, 2, none⟩ = some (.string ⟨wd.toArray⟩) ∧ V.cell? ⟨T, 3, none⟩ = some (.slice (some ⟨tb, toff, none⟩) 2 qc) := fun V h => by rw [hS] at h; exact ⟨(cell_rowC h.1 0).trans rfl, (cell_rowC h.1 1).trans rfl, (cell_rowC h.1 2).trans rfl, (cell_rowC h.1 3).trans rfl⟩
  have f1 : ∀ V, S V → V.cell? ⟨tb, toff, none⟩ = some (.int .u8 q0.r) ∧ V.cell? ⟨tb, toff + 1, none⟩ = some (.int .i64 q0.e) ∧ V.cell? ⟨tb, toff + 2, none⟩ = some (.string q0.w) ∧ V.cell? ⟨tb, toff + 3, none⟩ = some (.slice q0.a q0.n q0.c) := fun V h => by rw [hS] at h; exact ⟨cell_kept' h.2 g0, cell_kept' h.2 g1, cell_kept' h.2 g2, cell_kept' h.2 g3⟩
  have f2 : ∀ V, S V → V.cell? ⟨tb, toff + 4, none⟩ = some (.int .u8 q1.r) ∧ V.cell? ⟨tb, toff + 4 + 1, none⟩ = some (.int .i64 q1.e) ∧ V.cell? ⟨tb, toff + 4 + 2, none⟩ = some (.string q1.w) ∧ V.cell? ⟨tb, toff + 4 + 3, none⟩ = some (.slice q1.a q1.n q1.c) := fun V h => by rw [hS] at h; exact ⟨cell_kept' h.2 k0, cell_kept' h.2 k1, cell_kept' h.2 k2, cell_kept' h.2 k3⟩
  have HSS := Lib.hid hS
  clear hv hb ho hr ht hlen hl hwy hwz hpar htv0 hr0 htv1 hS g0 g1 g2 g3 k0 k1 k2 k3
  have E1 := Lib.hid (show (xs ++ wordsF l y false).length = xs.length + (wordsF l y false).length from List.length_append)
  unfold TV.val
  refine (callsIn_wide (n := 3)).1 ?_
  refine callsIn_of_wp Tryz.func56 rfl trivial ?_ rfl
  simp only [Tryz.ntmps56, List.size_toArray, List.length_cons, List.length_nil, Nat.reduceAdd, Nat.reduceSub, Array.replicate_succ, Array.replicate_zero, List.push_toArray, List.append_toArray, List.nil_append, List.cons_append]
  have hfw : ∀ f, Fence.wide.fn f := fun _ => trivial
  gi_wp2_with fail
  obtain ⟨W1, hW1⟩ : ∃ W1, W1 = w.alloc (.cells #[.int .u8 5, .int .i64 qe, .string ⟨wd.toArray⟩, .slice (some ⟨tb, toff, none⟩) 2 qc] 36) := ⟨_, rfl⟩
  rw [← hW1, ← hT] at A1
  rw [← hW1, ← hT]
  clear hW1 hT
  have hSd : S W1.drew := by rw [HSS.out]; exact ⟨A1.drew.box, A1.drew.below⟩
  have A1d := A1.drew
  have HA1 := Lib.hid A1d
  clear A1 A1d
  refine regionM S 14 (by kernel_rfl) hSd (fun hpo hS0 => ?_)
  refine takeM (i := 0) 39 lv hpo rfl (by kernel_rfl) (fun _ _ _ h => h) rfl (by rfl) (fun V hX => (by go_simp)) (fun _ => rfl) hS0 (fun hS1 => ?_)
  simp only [List.setIfInBounds_toArray, List.set_cons_zero, List.set_cons_succ]
  refine takeM (i := 1) 40 lv hpo rfl (by kernel_rfl) (fun _ _ _ h => h) rfl (by rfl) (fun V hX => (by go_simp)) (fun _ => rfl) hS1 (fun hS2 => ?_)
  simp only [List.setIfInBounds_toArray, List.set_cons_zero, List.set_cons_succ]
  refine takeM (i := 2) 41 (.slice va vn vc) hpo rfl (by kernel_rfl) (fun _ _ _ h => h) rfl (by rfl) (fun V hX => (by go_simp)) (fun _ => rfl) hS2 (fun hS3 => ?_)
  simp only [List.setIfInBounds_toArray, List.set_cons_zero, List.set_cons_succ]
  refine takeM (i := 3) 42 (.pointer (some ⟨T, 3, none⟩)) hpo rfl (by kernel_rfl) (fun _ _ _ h => h) rfl (by rfl) (fun V hX => (by go_simp)) (fun _ => rfl) hS3 (fun hS4 => ?_)
  simp only [List.setIfInBounds_toArray, List.set_cons_zero, List.set_cons_succ]
  refine takeM (i := 4) 43 (.slice (some ⟨tb, toff, none⟩) 2 qc) hpo rfl (by kernel_rfl) (fun _ _ _ h => h) rfl (by rfl) (fun V hX => (by obtain ⟨g0, g1, g2, g3⟩ := f0 V hX; go_simp)) (fun _ => rfl) hS4 (fun hS5 => ?_)
  simp only [List.setIfInBounds_toArray, List.set_cons_zero, List.set_cons_succ]
  refine takeM (i := 5) 44 (.pointer (some ⟨tb, toff, none⟩)) hpo rfl (by kernel_rfl) (fun _ _ _ h => h) rfl (by rfl) (fun V hX => (by go_simp)) (fun _ => rfl) hS5 (fun hS6 => ?_)
  simp only [List.setIfInBounds_toArray, List.set_cons_zero, List.set_cons_succ]
  refine takeM (i := 6) 45 (.agg #[.int .u8 q0.r, .int .i64 q0.e, .string q0.w, .slice q0.a q0.n q0.c]) hpo rfl (by kernel_rfl) (fun _ _ _ h => h) rfl (by rfl) (fun V hX => (by obtain ⟨g0, g1, g2, g3⟩ := f1 V hX; go_simp)) (fun _ => rfl) hS6 (fun hS7 => ?_)
  simp only [List.setIfInBounds_toArray, List.set_cons_zero, List.set_cons_succ]
  refine takeM (i := 8) 47 (.pointer (some ⟨T, 3, none⟩)) hpo rfl (by kernel_rfl) (fun _ _ _ h => h) rfl (by rfl) (fun V hX => (by go_simp)) (fun _ => rfl) hS7 (fun hS8 => ?_)
  simp only [List.setIfInBounds_toArray, List.set_cons_zero, List.set_cons_succ]
  refine takeM (i := 9) 48 (.slice (some ⟨tb, toff, none⟩) 2 qc) hpo rfl (by kernel_rfl) (fun _ _ _ h => h) rfl (by rfl) (fun V hX => (by obtain ⟨g0, g1, g2, g3⟩ := f0 V hX; go_simp)) (fun _ => rfl) hS8 (fun hS9 => ?_)
  simp only [List.setIfInBounds_toArray, List.set_cons_zero, List.set_cons_succ]
  refine takeM (i := 10) 49 (.pointer (some ⟨tb, toff + 4, none⟩)) hpo rfl (by kernel_rfl) (fun _ _ _ h => h) rfl (by rfl) (fun V hX => (by go_simp)) (fun _ => rfl) hS9 (fun hS10 => ?_)
  simp only [List.setIfInBounds_toArray, List.set_cons_zero, List.set_cons_succ]
  refine takeM (i := 11) 50 (.agg #[.int .u8 q1.r, .int .i64 q1.e, .string q1.w, .slice q1.a q1.n q1.c]) hpo rfl (by kernel_rfl) (fun _ _ _ h => h) rfl (by rfl) (fun V hX => (by obtain ⟨g0, g1, g2, g3⟩ := f2 V hX; go_simp)) (fun _ => rfl) hS10 (fun hS11 => ?_)
  simp only [List.setIfInBounds_toArray, List.set_cons_zero, List.set_cons_succ]
  refine oneM (i := 7) rfl (by kernel_rfl) (by rfl) (fun K hK => ?_)
  go_simp
  refine callsIn_wide.2 ((HWy.out _ q0 _ _ HTv0.out HA1.out.below HA1.out.row.row (by have := HA1.out.row.1; first | omega | (have := E1.out; have := HVn.out; omega))).mono ?_)
  rintro ew2 w2 hpost
  obtain ⟨aw2, nw2, cw2, rfl, Aw2⟩ := HA1.out.next HB.out HoB.out hpost
  have Hw2 := Lib.hid Aw2
  clear hpost Aw2
  refine hK _ _ (fun _ => by rw [HSS.out]; exact ⟨Hw2.out.box, Hw2.out.below⟩) (fun _ => ?_)
  clear hK K
  refine oneM (i := 12) rfl (by kernel_rfl) (by rfl) (fun K hK => ?_)
  go_simp
  refine callsIn_wide.2 ((HWz.out _ q1 _ _ HTv1.out Hw2.out.below Hw2.out.row.row (by have := Hw2.out.row.1; first | omega | (have := E1.out; have := HVn.out; omega))).mono ?_)
  rintro ew3 w3 hpost
  obtain ⟨aw3, nw3, cw3, rfl, Aw3⟩ := Hw2.out.next HB.out HoB.out hpost
  have Hw3 := Lib.hid Aw3
  clear hpost Aw3
  refine hK _ _ (fun _ => by rw [HSS.out]; exact ⟨Hw3.out.box, Hw3.out.below⟩) (fun _ => ?_)
  clear hK K
  refine oneM (i := 13) rfl (by kernel_rfl) (by rfl) (fun K hK => ?_)
  go_simp
  refine hK _ _ (fun _ => by rw [HSS.out]; exact ⟨Hw3.out.box, Hw3.out.below⟩) (fun _ => ?_)
  clear hK K
  refine doneM (by kernel_rfl) ?_ _
  gi_wp2
  go_ret
  exact Hw3.out.post rfl
set_option maxRecDepth 100000 in
set_option maxHeartbeats 8000000 in
/-- write, at a word. -/
theorem write_6 (Wt W0 w : World) (ht : Tabs Wt W0) (l : List Ent) (lv : Value) (hl : EntSlice W0 lv l) (n : Nat) (hn : n < l.length) (wd : List UInt8) (q : TV) (ov : Value) (xs : List (List UInt8)) (hv : TreeV (fun _ => True) W0 q.val (.node 6 (n : Int) wd [])) (hb : Below W0.heap.size W0 w) (ho : RowW W0.heap.size w ov xs) (hlen : xs.length + 8 * (0) + 8 ≤ 4000) :
    Calls Tryz.prog 56 #[lv, ov, q.val] w (WPost W0.heap.size w ov (xs ++ [ownW l n])) := by
  obtain ⟨i0, hi, hz0, hz1, hz2⟩ := info_parts info_str
  obtain ⟨qr, qe, qw, qa, qn, qc⟩ := q
  obtain ⟨hqr, hqe, hqw⟩ := TreeV.headW (show TreeV (fun _ => True) W0 (.agg #[.int .u8 qr, .int .i64 qe, .string qw, .slice qa qn qc]) _ from hv)
  subst hqr hqe hqw
  have hqn : qn = 0 := hv.lenW
  subst hqn
  obtain ⟨va, vn, vc, rfl, hr⟩ := RowN.of ho
  have hlv : vn + 8 * (0) + 8 ≤ 4000 := by rw [hr.1]; exact hlen
  have HVn := Lib.hid hr.1
  have HB := Lib.hid hb
  have HTt := Lib.hid ht
  have HLx := Lib.hid hl
  have HTw := Lib.hid hv
  have HoB : Go.RowKit.Hid (∀ g, (Value.slice va vn vc).ownBlock = some g → W0.heap.size ≤ g) := Lib.hid (fun g h => (hr.lt h).1)
  have A1 : At W0 w (Value.slice va vn vc).ownBlock w.heap.size (.cells #[.int .u8 6, .int .i64 (n : Int), .string ⟨wd.toArray⟩, .slice qa 0 qc] 36 (0, 0)) (w.alloc (.cells #[.int .u8 6, .int .i64 (n : Int), .string ⟨wd.toArray⟩, .slice qa 0 qc] 36)) va vn vc xs := At.start hb hr rfl
  obtain ⟨⟨la, lcap, rfl, _, _, hform⟩, hok⟩ := hl
  obtain ⟨lb, loff, rfl, _, hc⟩ := hform.resolve_left (by intro h; rw [h] at hn; simp at hn)
  have x0 := (hc n hn).1
  have hown : (⟨(ownW l n).toArray⟩ : ByteArray) = l[n].word := by rw [ownW_at hn]; simp [Ent.w]
  obtain ⟨x, hx⟩ : ∃ x, x = l[n].word := ⟨_, rfl⟩
  rw [← hx] at x0 hown
  have HOwn := Lib.hid hown
  have HNl := Lib.hid hn
  have b1 : (0 : Int) ≤ (n : Int) := by omega
  have b2 : (n : Int) < (l.length : Int) := by omega
  clear hok hform hc hown hx
  obtain ⟨T, hT⟩ : ∃ T, T = w.heap.size := ⟨_, rfl⟩
  have HX := Lib.hid True.intro
  clear hv hb ho hr ht hlen
  unfold TV.val
  go_enter Tryz.func56, Tryz.ntmps56
  go_upto_region 1 with (fail)
  obtain ⟨W1, hW1⟩ : ∃ W1, W1 = w.alloc (.cells #[.int .u8 6, .int .i64 (n : Int), .string ⟨wd.toArray⟩, .slice qa 0 qc] 36) := ⟨_, rfl⟩
  rw [← hW1, ← hT] at A1
  rw [← hW1, ← hT]
  clear hW1 hT HX
  have HA1 := Lib.hid A1
  have c0 : W1.cell? ⟨T, 0, none⟩ = some _ := (cell_rowC A1.box 0).trans rfl
  have c1 : W1.cell? ⟨T, 1, none⟩ = some _ := (cell_rowC A1.box 1).trans rfl
  have c2 : W1.cell? ⟨T, 2, none⟩ = some _ := (cell_rowC A1.box 2).trans rfl
  have c3 : W1.cell? ⟨T, 3, none⟩ = some _ := (cell_rowC A1.box 3).trans rfl
  have xl := cell_kept' A1.below x0
  clear A1 x0
  have HA2 := Lib.hid (HA1.out.alloc (.cells #[.string x] 9))
  go_wp2_with (at_builtin; refine wpList_append_lies _ rfl (.tmp 55) (.tmp 62) 41 rfl W0.heap.size 9 i0 (.string ByteArray.empty) 1 16 Tryz.underlying41 hi hz0 hz1 hz2 rfl (by decide) _ _ _ rfl HA2.out.row.2 ⟨W1.heap.size, 0, none⟩ 1 1 [.string x] rfl rfl (news_at (World.alloc_heap_new W1 _)) (by simp [Value.oneCell']) (by decide) (by unfold maxLen; omega) (by omega) HA2.out.below.size _ rfl ?_; intro g3 c3' w3 ho3 hg3 hat3 _; have hA3 := HA2.out.more (m := 1) (ys := [ownW l n]) HB.out HoB.out rfl (by simp [strVal, HOwn.out]) ho3 hg3 hat3 rfl; have HA3 := Lib.hid hA3; clear ho3 hg3 hat3 hA3)
  go_ret
  exact HA3.out.post rfl
set_option maxRecDepth 100000 in
set_option maxHeartbeats 8000000 in
/-- write, at a word. -/
theorem write_8 (Wt W0 w : World) (ht : Tabs Wt W0) (l : List Ent) (lv : Value) (hl : EntSlice W0 lv l) (n : Nat) (hn : n < l.length) (wd : List UInt8) (q : TV) (ov : Value) (xs : List (List UInt8)) (hv : TreeV (fun _ => True) W0 q.val (.node 8 (n : Int) wd [])) (hb : Below W0.heap.size W0 w) (ho : RowW W0.heap.size w ov xs) (hlen : xs.length + 8 * (0) + 8 ≤ 4000) :
    Calls Tryz.prog 56 #[lv, ov, q.val] w (WPost W0.heap.size w ov (xs ++ [ownW l n])) := by
  obtain ⟨i0, hi, hz0, hz1, hz2⟩ := info_parts info_str
  obtain ⟨qr, qe, qw, qa, qn, qc⟩ := q
  obtain ⟨hqr, hqe, hqw⟩ := TreeV.headW (show TreeV (fun _ => True) W0 (.agg #[.int .u8 qr, .int .i64 qe, .string qw, .slice qa qn qc]) _ from hv)
  subst hqr hqe hqw
  have hqn : qn = 0 := hv.lenW
  subst hqn
  obtain ⟨va, vn, vc, rfl, hr⟩ := RowN.of ho
  have hlv : vn + 8 * (0) + 8 ≤ 4000 := by rw [hr.1]; exact hlen
  have HVn := Lib.hid hr.1
  have HB := Lib.hid hb
  have HTt := Lib.hid ht
  have HLx := Lib.hid hl
  have HTw := Lib.hid hv
  have HoB : Go.RowKit.Hid (∀ g, (Value.slice va vn vc).ownBlock = some g → W0.heap.size ≤ g) := Lib.hid (fun g h => (hr.lt h).1)
  have A1 : At W0 w (Value.slice va vn vc).ownBlock w.heap.size (.cells #[.int .u8 8, .int .i64 (n : Int), .string ⟨wd.toArray⟩, .slice qa 0 qc] 36 (0, 0)) (w.alloc (.cells #[.int .u8 8, .int .i64 (n : Int), .string ⟨wd.toArray⟩, .slice qa 0 qc] 36)) va vn vc xs := At.start hb hr rfl
  obtain ⟨⟨la, lcap, rfl, _, _, hform⟩, hok⟩ := hl
  obtain ⟨lb, loff, rfl, _, hc⟩ := hform.resolve_left (by intro h; rw [h] at hn; simp at hn)
  have x0 := (hc n hn).1
  have hown : (⟨(ownW l n).toArray⟩ : ByteArray) = l[n].word := by rw [ownW_at hn]; simp [Ent.w]
  obtain ⟨x, hx⟩ : ∃ x, x = l[n].word := ⟨_, rfl⟩
  rw [← hx] at x0 hown
  have HOwn := Lib.hid hown
  have HNl := Lib.hid hn
  have b1 : (0 : Int) ≤ (n : Int) := by omega
  have b2 : (n : Int) < (l.length : Int) := by omega
  clear hok hform hc hown hx
  obtain ⟨T, hT⟩ : ∃ T, T = w.heap.size := ⟨_, rfl⟩
  have HX := Lib.hid True.intro
  clear hv hb ho hr ht hlen
  unfold TV.val
  go_enter Tryz.func56, Tryz.ntmps56
  go_upto_region 1 with (fail)
  obtain ⟨W1, hW1⟩ : ∃ W1, W1 = w.alloc (.cells #[.int .u8 8, .int .i64 (n : Int), .string ⟨wd.toArray⟩, .slice qa 0 qc] 36) := ⟨_, rfl⟩
  rw [← hW1, ← hT] at A1
  rw [← hW1, ← hT]
  clear hW1 hT HX
  have HA1 := Lib.hid A1
  have c0 : W1.cell? ⟨T, 0, none⟩ = some _ := (cell_rowC A1.box 0).trans rfl
  have c1 : W1.cell? ⟨T, 1, none⟩ = some _ := (cell_rowC A1.box 1).trans rfl
  have c2 : W1.cell? ⟨T, 2, none⟩ = some _ := (cell_rowC A1.box 2).trans rfl
  have c3 : W1.cell? ⟨T, 3, none⟩ = some _ := (cell_rowC A1.box 3).trans rfl
  have xl := cell_kept' A1.below x0
  clear A1 x0
  have HA2 := Lib.hid (HA1.out.alloc (.cells #[.string x] 9))
  go_wp2_with (at_builtin; refine wpList_append_lies _ rfl (.tmp 55) (.tmp 62) 41 rfl W0.heap.size 9 i0 (.string ByteArray.empty) 1 16 Tryz.underlying41 hi hz0 hz1 hz2 rfl (by decide) _ _ _ rfl HA2.out.row.2 ⟨W1.heap.size, 0, none⟩ 1 1 [.string x] rfl rfl (news_at (World.alloc_heap_new W1 _)) (by simp [Value.oneCell']) (by decide) (by unfold maxLen; omega) (by omega) HA2.out.below.size _ rfl ?_; intro g3 c3' w3 ho3 hg3 hat3 _; have hA3 := HA2.out.more (m := 1) (ys := [ownW l n]) HB.out HoB.out rfl (by simp [strVal, HOwn.out]) ho3 hg3 hat3 rfl; have HA3 := Lib.hid hA3; clear ho3 hg3 hat3 hA3)
  go_ret
  exact HA3.out.post rfl
set_option maxRecDepth 100000 in
set_option maxHeartbeats 8000000 in
/-- write, at is. -/
theorem write_14 (Wt W0 w : World) (ht : Tabs Wt W0) (l : List Ent) (lv : Value) (hl : EntSlice W0 lv l) (n : Nat) (hn : n < l.length) (wd : List UInt8) (q : TV) (ov : Value) (xs : List (List UInt8)) (hv : TreeV (fun _ => True) W0 q.val (.node 14 (n : Int) wd [])) (hb : Below W0.heap.size W0 w) (ho : RowW W0.heap.size w ov xs) (hlen : xs.length + 8 * (0) + 8 ≤ 4000) :
    Calls Tryz.prog 56 #[lv, ov, q.val] w (WPost W0.heap.size w ov (xs ++ [wIs, ownW l n])) := by
  obtain ⟨i0, hi, hz0, hz1, hz2⟩ := info_parts info_str
  obtain ⟨qr, qe, qw, qa, qn, qc⟩ := q
  obtain ⟨hqr, hqe, hqw⟩ := TreeV.headW (show TreeV (fun _ => True) W0 (.agg #[.int .u8 qr, .int .i64 qe, .string qw, .slice qa qn qc]) _ from hv)
  subst hqr hqe hqw
  have hqn : qn = 0 := hv.lenW
  subst hqn
  obtain ⟨va, vn, vc, rfl, hr⟩ := RowN.of ho
  have hlv : vn + 8 * (0) + 8 ≤ 4000 := by rw [hr.1]; exact hlen
  have HVn := Lib.hid hr.1
  have HB := Lib.hid hb
  have HTt := Lib.hid ht
  have HLx := Lib.hid hl
  have HTw := Lib.hid hv
  have HoB : Go.RowKit.Hid (∀ g, (Value.slice va vn vc).ownBlock = some g → W0.heap.size ≤ g) := Lib.hid (fun g h => (hr.lt h).1)
  have A1 : At W0 w (Value.slice va vn vc).ownBlock w.heap.size (.cells #[.int .u8 14, .int .i64 (n : Int), .string ⟨wd.toArray⟩, .slice qa 0 qc] 36 (0, 0)) (w.alloc (.cells #[.int .u8 14, .int .i64 (n : Int), .string ⟨wd.toArray⟩, .slice qa 0 qc] 36)) va vn vc xs := At.start hb hr rfl
  obtain ⟨⟨la, lcap, rfl, _, _, hform⟩, hok⟩ := hl
  obtain ⟨lb, loff, rfl, _, hc⟩ := hform.resolve_left (by intro h; rw [h] at hn; simp at hn)
  have x0 := (hc n hn).1
  have hown : (⟨(ownW l n).toArray⟩ : ByteArray) = l[n].word := by rw [ownW_at hn]; simp [Ent.w]
  obtain ⟨x, hx⟩ : ∃ x, x = l[n].word := ⟨_, rfl⟩
  rw [← hx] at x0 hown
  have HOwn := Lib.hid hown
  have HNl := Lib.hid hn
  have b1 : (0 : Int) ≤ (n : Int) := by omega
  have b2 : (n : Int) < (l.length : Int) := by omega
  clear hok hform hc hown hx
  obtain ⟨T, hT⟩ : ∃ T, T = w.heap.size := ⟨_, rfl⟩
  have HX := Lib.hid True.intro
  clear hv hb ho hr ht hlen
  unfold TV.val
  go_enter Tryz.func56, Tryz.ntmps56
  go_upto_region 1 with (fail)
  obtain ⟨W1, hW1⟩ : ∃ W1, W1 = w.alloc (.cells #[.int .u8 14, .int .i64 (n : Int), .string ⟨wd.toArray⟩, .slice qa 0 qc] 36) := ⟨_, rfl⟩
  rw [← hW1, ← hT] at A1
  rw [← hW1, ← hT]
  clear hW1 hT HX
  have HA1 := Lib.hid A1
  have c0 : W1.cell? ⟨T, 0, none⟩ = some _ := (cell_rowC A1.box 0).trans rfl
  have c1 : W1.cell? ⟨T, 1, none⟩ = some _ := (cell_rowC A1.box 1).trans rfl
  have c2 : W1.cell? ⟨T, 2, none⟩ = some _ := (cell_rowC A1.box 2).trans rfl
  have c3 : W1.cell? ⟨T, 3, none⟩ = some _ := (cell_rowC A1.box 3).trans rfl
  have xl := cell_kept' A1.below x0
  clear A1 x0
  have HA2 := Lib.hid (HA1.out.alloc (.cells #[.string ⟨#[105, 115]⟩, .string x] 9))
  go_wp2_with (at_builtin; refine wpList_append_lies _ rfl (.tmp 174) (.tmp 181) 41 rfl W0.heap.size 9 i0 (.string ByteArray.empty) 1 16 Tryz.underlying41 hi hz0 hz1 hz2 rfl (by decide) _ _ _ rfl HA2.out.row.2 ⟨W1.heap.size, 0, none⟩ 2 2 [.string ⟨#[105, 115]⟩, .string x] rfl rfl (news_at (World.alloc_heap_new W1 _)) (by simp [Value.oneCell']) (by decide) (by unfold maxLen; omega) (by omega) HA2.out.below.size _ rfl ?_; intro g3 c3' w3 ho3 hg3 hat3 _; have hA3 := HA2.out.more (m := 2) (ys := [wIs, ownW l n]) HB.out HoB.out rfl (by simp [strVal, HOwn.out, wIs]) ho3 hg3 hat3 rfl; have HA3 := Lib.hid hA3; clear ho3 hg3 hat3 hA3)
  go_ret
  exact HA3.out.post rfl
end Go.Proofs.YthmnffgjckpkiaaGreatDoor
