/-
  The cases of 'write' of package english, second part.
-/
import Derived.Test.YthmnffgjckpkiaaGreatDoorNeg
namespace Go.Proofs.YthmnffgjckpkiaaGreatDoor
open Go Go.RowKit Go.Shelf
attribute [local go_sem] Oper.semAt_some

set_option maxRecDepth 100000 in
set_option maxHeartbeats 8000000 in
/-- write, at every, each, some, no. -/
theorem write_7 (Wt W0 w : World) (ht : Tabs Wt W0) (l : List Ent) (lv : Value) (hl : EntSlice W0 lv l) (e : Int) (wd : List UInt8) (y : Tr) (hwy : WOk W0 l lv y) (hoy : okS l y = true) (hwa : wd ≠ wA) (q : TV) (ov : Value) (xs : List (List UInt8)) (hv : TreeV (fun _ => True) W0 q.val (.node 7 e wd [y])) (hb : Below W0.heap.size W0 w) (ho : RowW W0.heap.size w ov xs) (hlen : xs.length + 8 * (sizeT y) + 8 ≤ 4000) :
    Calls Tryz.prog 56 #[lv, ov, q.val] w (WPost W0.heap.size w ov (xs ++ [wd] ++ wordsF l y false)) := by
  obtain ⟨i0, hi, hz0, hz1, hz2⟩ := info_parts info_str
  obtain ⟨qr, qe, qw, qa, qn, qc⟩ := q
  obtain ⟨hqr, hqe, hqw⟩ := TreeV.headW (show TreeV (fun _ => True) W0 (.agg #[.int .u8 qr, .int .i64 qe, .string qw, .slice qa qn qc]) _ from hv)
  subst hqr hqe hqw
  have hqn : qn = 1 := hv.lenW
  have hpar := TreeV.parts hv
  obtain ⟨tb, toff, q0, hab, htv0, hr0, g0, g1, g2, g3⟩ := hpar 0 (by simp)
  simp only at hab
  subst hab
  simp only [Nat.zero_mul, Nat.add_zero] at g0 g1 g2 g3
  subst hqn
  obtain ⟨va, vn, vc, rfl, hr⟩ := RowN.of ho
  have hlv : vn + 8 * (sizeT y) + 8 ≤ 4000 := by rw [hr.1]; exact hlen
  have hly := words_le y hoy false
  have HWy := Lib.hid hwy
  have HVn := Lib.hid hr.1
  have HB := Lib.hid hb
  have HTt := Lib.hid ht
  have HLx := Lib.hid hl
  have HTv0 := Lib.hid htv0
  have HR0 := Lib.hid hr0
  have HTw := Lib.hid hv
  have HoB : Go.RowKit.Hid (∀ g, (Value.slice va vn vc).ownBlock = some g → W0.heap.size ≤ g) := Lib.hid (fun g h => (hr.lt h).1)
  have A1 : At W0 w (Value.slice va vn vc).ownBlock w.heap.size (.cells #[.int .u8 7, .int .i64 qe, .string ⟨wd.toArray⟩, .slice (some ⟨tb, toff, none⟩) 1 qc] 36 (0, 0)) (w.alloc (.cells #[.int .u8 7, .int .i64 qe, .string ⟨wd.toArray⟩, .slice (some ⟨tb, toff, none⟩) 1 qc] 36)) va vn vc xs := At.start hb hr rfl
  obtain ⟨T, hT⟩ : ∃ T, T = w.heap.size := ⟨_, rfl⟩
  obtain ⟨S, hS⟩ : ∃ S : World → Prop, S = fun V => V.heap[T]? = some (.cells #[.int .u8 7, .int .i64 qe, .string ⟨wd.toArray⟩, .slice (some ⟨tb, toff, none⟩) 1 qc] 36 (0, 0)) ∧ Below W0.heap.size W0 V := ⟨_, rfl⟩
  have f0 : ∀ V, S V → V.cell? ⟨T, 0, none⟩ = some (.int .u8 7) ∧ V.cell? ⟨T, 1, none⟩ = some (.int .i64 qe) ∧ V.cell? ⟨T, 2, none⟩ = some (.string ⟨wd.toArray⟩) ∧ V.cell? ⟨T, 3, none⟩ = some (.slice (some ⟨tb, toff, none⟩) 1 qc) := fun V h => by rw [hS] at h; exact ⟨(cell_rowC h.1 0).trans rfl, (cell_rowC h.1 1).trans rfl, (cell_rowC h.1 2).trans rfl, (cell_rowC h.1 3).trans rfl⟩
  have f1 : ∀ V, S V → V.cell? ⟨tb, toff, none⟩ = some (.int .u8 q0.r) ∧ V.cell? ⟨tb, toff + 1, none⟩ = some (.int .i64 q0.e) ∧ V.cell? ⟨tb, toff + 2, none⟩ = some (.string q0.w) ∧ V.cell? ⟨tb, toff + 3, none⟩ = some (.slice q0.a q0.n q0.c) := fun V h => by rw [hS] at h; exact ⟨cell_kept' h.2 g0, cell_kept' h.2 g1, cell_kept' h.2 g2, cell_kept' h.2 g3⟩
  have HSS := Lib.hid hS
  clear hv hb ho hr ht hlen hl hwy hpar htv0 hr0 hS g0 g1 g2 g3
  have hw1 : (wd != [97]) = true := by simpa [wA] using hwa
  have hw2 : (wd == [97]) = false := by simpa [wA] using hwa
  have HWa := Lib.hid hwa
  clear hwa
  unfold TV.val
  refine (callsIn_wide (n := 3)).1 ?_
  refine callsIn_of_wp Tryz.func56 rfl trivial ?_ rfl
  simp only [Tryz.ntmps56, List.size_toArray, List.length_cons, List.length_nil, Nat.reduceAdd, Nat.reduceSub, Array.replicate_succ, Array.replicate_zero, List.push_toArray, List.append_toArray, List.nil_append, List.cons_append]
  have hfw : ∀ f, Fence.wide.fn f := fun _ => trivial
  gi_wp2_with fail
  obtain ⟨W1, hW1⟩ : ∃ W1, W1 = w.alloc (.cells #[.int .u8 7, .int .i64 qe, .string ⟨wd.toArray⟩, .slice (some ⟨tb, toff, none⟩) 1 qc] 36) := ⟨_, rfl⟩
  rw [← hW1, ← hT] at A1
  rw [← hW1, ← hT]
  clear hW1 hT
  have hSd : S W1.drew := by rw [HSS.out]; exact ⟨A1.drew.box, A1.drew.below⟩
  have A1d := A1.drew
  have HA1 := Lib.hid A1d
  clear A1 A1d
  refine regionM S 12 (by kernel_rfl) hSd (fun hpo hS0 => ?_)
  refine takeM (i := 0) 69 lv hpo rfl (by kernel_rfl) (fun _ _ _ h => h) rfl (by rfl) (fun V hX => (by go_simp)) (fun _ => rfl) hS0 (fun hS1 => ?_)
  simp only [List.setIfInBounds_toArray, List.set_cons_zero, List.set_cons_succ]
  refine takeM (i := 1) 70 (.slice va vn vc) hpo rfl (by kernel_rfl) (fun _ _ _ h => h) rfl (by rfl) (fun V hX => (by go_simp)) (fun _ => rfl) hS1 (fun hS2 => ?_)
  simp only [List.setIfInBounds_toArray, List.set_cons_zero, List.set_cons_succ]
  refine takeM (i := 2) 71 (.pointer (some ⟨T, 2, none⟩)) hpo rfl (by kernel_rfl) (fun _ _ _ h => h) rfl (by rfl) (fun V hX => (by go_simp)) (fun _ => rfl) hS2 (fun hS3 => ?_)
  simp only [List.setIfInBounds_toArray, List.set_cons_zero, List.set_cons_succ]
  refine takeM (i := 3) 72 (.string ⟨wd.toArray⟩) hpo rfl (by kernel_rfl) (fun _ _ _ h => h) rfl (by rfl) (fun V hX => (by obtain ⟨g0, g1, g2, g3⟩ := f0 V hX; go_simp)) (fun _ => rfl) hS3 (fun hS4 => ?_)
  simp only [List.setIfInBounds_toArray, List.set_cons_zero, List.set_cons_succ]
  refine takeM (i := 6) 75 (.pointer (some ⟨T, 3, none⟩)) hpo rfl (by kernel_rfl) (fun _ _ _ h => h) rfl (by rfl) (fun V hX => (by go_simp)) (fun _ => rfl) hS4 (fun hS5 => ?_)
  simp only [List.setIfInBounds_toArray, List.set_cons_zero, List.set_cons_succ]
  refine takeM (i := 7) 76 (.slice (some ⟨tb, toff, none⟩) 1 qc) hpo rfl (by kernel_rfl) (fun _ _ _ h => h) rfl (by rfl) (fun V hX => (by obtain ⟨g0, g1, g2, g3⟩ := f0 V hX; go_simp)) (fun _ => rfl) hS5 (fun hS6 => ?_)
  simp only [List.setIfInBounds_toArray, List.set_cons_zero, List.set_cons_succ]
  refine takeM (i := 8) 77 (.pointer (some ⟨tb, toff, none⟩)) hpo rfl (by kernel_rfl) (fun _ _ _ h => h) rfl (by rfl) (fun V hX => (by go_simp)) (fun _ => rfl) hS6 (fun hS7 => ?_)
  simp only [List.setIfInBounds_toArray, List.set_cons_zero, List.set_cons_succ]
  refine takeM (i := 9) 78 (.agg #[.int .u8 q0.r, .int .i64 q0.e, .string q0.w, .slice q0.a q0.n q0.c]) hpo rfl (by kernel_rfl) (fun _ _ _ h => h) rfl (by rfl) (fun V hX => (by obtain ⟨g0, g1, g2, g3⟩ := f1 V hX; go_simp)) (fun _ => rfl) hS7 (fun hS8 => ?_)
  simp only [List.setIfInBounds_toArray, List.set_cons_zero, List.set_cons_succ]
  refine oneM (i := 4) rfl (by kernel_rfl) (by rfl) (fun K hK => ?_)
  go_simp
  refine hK _ _ (fun _ => by rw [HSS.out]; exact ⟨(HA1.out.alloc _).box, (HA1.out.alloc _).below⟩) (fun _ => ?_)
  clear hK K
  have Hw2 := Lib.hid (HA1.out.alloc (.cells #[.string ⟨wd.toArray⟩] 9))
  refine oneM (i := 5) rfl (by kernel_rfl) (by rfl) (fun K hK => ?_)
  refine wpIn_append_lies (.tmp 70) (.tmp 73) 41 rfl W0.heap.size 9 i0 (.string ByteArray.empty) 1 16 Tryz.underlying41 hi hz0 hz1 hz2 rfl (by decide) _ _ _ rfl Hw2.out.row.2 ⟨W1.drew.heap.size, 0, none⟩ 1 1 [.string ⟨wd.toArray⟩] rfl rfl (news_at (World.alloc_heap_new W1.drew _)) (by simp [Value.oneCell']) (by decide) (by unfold maxLen; omega) (by omega) Hw2.out.below.size _ rfl ?_
  intro gw3 cw3 w3 how3 hgw3 hatw3 _
  have Aw3 := Hw2.out.more (m := 1) (ys := [wd]) HB.out HoB.out rfl (by simp [strVal]) how3 hgw3 hatw3 rfl
  have Hw3 := Lib.hid Aw3
  clear how3 hgw3 hatw3 Aw3
  refine hK _ _ (fun _ => by rw [HSS.out]; exact ⟨Hw3.out.box, Hw3.out.below⟩) (fun _ => ?_)
  clear hK K
  refine oneM (i := 10) rfl (by kernel_rfl) (by rfl) (fun K hK => ?_)
  go_simp
  refine callsIn_wide.2 ((HWy.out _ q0 _ _ HTv0.out Hw3.out.below Hw3.out.row.row (by have := Hw3.out.row.1; first | omega | (have := E1.out; have := HVn.out; omega))).mono ?_)
  rintro ew4 w4 hpost
  obtain ⟨aw4, nw4, cw4, rfl, Aw4⟩ := Hw3.out.next HB.out HoB.out hpost
  have Hw4 := Lib.hid Aw4
  clear hpost Aw4
  refine hK _ _ (fun _ => by rw [HSS.out]; exact ⟨Hw4.out.box, Hw4.out.below⟩) (fun _ => ?_)
  clear hK K
  refine oneM (i := 11) rfl (by kernel_rfl) (by rfl) (fun K hK => ?_)
  go_simp
  refine hK _ _ (fun _ => by rw [HSS.out]; exact ⟨Hw4.out.box, Hw4.out.below⟩) (fun _ => ?_)
  clear hK K
  refine doneM (by kernel_rfl) ?_ _
  gi_wp2
  go_ret
  exact Hw4.out.post rfl
set_option maxRecDepth 100000 in
set_option maxHeartbeats 8000000 in
/-- write, at an article. -/
theorem write_7a (Wt W0 w : World) (ht : Tabs Wt W0) (l : List Ent) (lv : Value) (hl : EntSlice W0 lv l) (e : Int) (wd : List UInt8) (y : Tr) (hwy : WOk W0 l lv y) (hoy : okS l y = true) (hwa : wd = wA) (q : TV) (ov : Value) (xs : List (List UInt8)) (hv : TreeV (fun _ => True) W0 q.val (.node 7 e wd [y])) (hb : Below W0.heap.size W0 w) (ho : RowW W0.heap.size w ov xs) (hlen : xs.length + 8 * (sizeT y) + 8 ≤ 4000) :
    Calls Tryz.prog 56 #[lv, ov, q.val] w (WPost W0.heap.size w ov (xs ++ [articleS ((wordsF l y false).headD [])] ++ wordsF l y false)) := by
  obtain ⟨i0, hi, hz0, hz1, hz2⟩ := info_parts info_str
  obtain ⟨qr, qe, qw, qa, qn, qc⟩ := q
  obtain ⟨hqr, hqe, hqw⟩ := TreeV.headW (show TreeV (fun _ => True) W0 (.agg #[.int .u8 qr, .int .i64 qe, .string qw, .slice qa qn qc]) _ from hv)
  subst hqr hqe hqw
  have hqn : qn = 1 := hv.lenW
  have hpar := TreeV.parts hv
  obtain ⟨tb, toff, q0, hab, htv0, hr0, g0, g1, g2, g3⟩ := hpar 0 (by simp)
  simp only at hab
  subst hab
  simp only [Nat.zero_mul, Nat.add_zero] at g0 g1 g2 g3
  subst hqn
  obtain ⟨va, vn, vc, rfl, hr⟩ := RowN.of ho
  have hlv : vn + 8 * (sizeT y) + 8 ≤ 4000 := by rw [hr.1]; exact hlen
  have hly := words_le y hoy false
  have HWy := Lib.hid hwy
  have HVn := Lib.hid hr.1
  have HB := Lib.hid hb
  have HTt := Lib.hid ht
  have HLx := Lib.hid hl
  have HTv0 := Lib.hid htv0
  have HR0 := Lib.hid hr0
  have HTw := Lib.hid hv
  have HoB : Go.RowKit.Hid (∀ g, (Value.slice va vn vc).ownBlock = some g → W0.heap.size ≤ g) := Lib.hid (fun g h => (hr.lt h).1)
  have A1 : At W0 w (Value.slice va vn vc).ownBlock w.heap.size (.cells #[.int .u8 7, .int .i64 qe, .string ⟨wd.toArray⟩, .slice (some ⟨tb, toff, none⟩) 1 qc] 36 (0, 0)) (w.alloc (.cells #[.int .u8 7, .int .i64 qe, .string ⟨wd.toArray⟩, .slice (some ⟨tb, toff, none⟩) 1 qc] 36)) va vn vc xs := At.start hb hr rfl
  obtain ⟨T, hT⟩ : ∃ T, T = w.heap.size := ⟨_, rfl⟩
  subst hwa
  have HX := Lib.hid True.intro
  clear hv hb ho hr ht hlen hl hwy hpar htv0 hr0
  unfold TV.val
  go_enter Tryz.func56, Tryz.ntmps56
  go_upto_region 1 with (fail)
  obtain ⟨W1, hW1⟩ : ∃ W1, W1 = w.alloc (.cells #[.int .u8 7, .int .i64 qe, .string ⟨wA.toArray⟩, .slice (some ⟨tb, toff, none⟩) 1 qc] 36) := ⟨_, rfl⟩
  rw [← hW1, ← hT] at A1
  rw [← hW1, ← hT]
  clear hW1 hT HX
  have HA1 := Lib.hid A1
  have c0 : W1.cell? ⟨T, 0, none⟩ = some _ := (cell_rowC A1.box 0).trans rfl
  have c1 : W1.cell? ⟨T, 1, none⟩ = some _ := (cell_rowC A1.box 1).trans rfl
  have c2 : W1.cell? ⟨T, 2, none⟩ = some _ := (cell_rowC A1.box 2).trans rfl
  have c3 : W1.cell? ⟨T, 3, none⟩ = some _ := (cell_rowC A1.box 3).trans rfl
  have d0 := cell_kept' A1.below g0
  have d1 := cell_kept' A1.below g1
  have d2 := cell_kept' A1.below g2
  have d3 := cell_kept' A1.below g3
  clear A1 g0 g1 g2 g3
  go_wp2_with fail
  refine (withArticle_any Wt W0 _ HTt.out l lv y HWy.out q0 _ _ HTv0.out HA1.out.below HA1.out.row.row (by have := HA1.out.row.1; omega) hoy).mono ?_
  rintro e2 w2 hpost
  obtain ⟨a2, n2, cc2, rfl, A2⟩ := HA1.out.next HB.out HoB.out hpost
  have HA2 := Lib.hid A2
  clear hpost A2
  go_wp2
  go_ret
  exact HA2.out.post rfl
set_option maxRecDepth 100000 in
set_option maxHeartbeats 8000000 in
/-- write, at a noun behind is. -/
theorem write_15 (Wt W0 w : World) (ht : Tabs Wt W0) (l : List Ent) (lv : Value) (hl : EntSlice W0 lv l) (e : Int) (wd : List UInt8) (y : Tr) (hwy : WOk W0 l lv y) (hoy : okS l y = true) (q : TV) (ov : Value) (xs : List (List UInt8)) (hv : TreeV (fun _ => True) W0 q.val (.node 15 e wd [y])) (hb : Below W0.heap.size W0 w) (ho : RowW W0.heap.size w ov xs) (hlen : xs.length + 8 * (sizeT y) + 8 ≤ 4000) :
    Calls Tryz.prog 56 #[lv, ov, q.val] w (WPost W0.heap.size w ov (xs ++ [wIs] ++ [articleS ((wordsF l y false).headD [])] ++ wordsF l y false)) := by
  obtain ⟨i0, hi, hz0, hz1, hz2⟩ := info_parts info_str
  obtain ⟨qr, qe, qw, qa, qn, qc⟩ := q
  obtain ⟨hqr, hqe, hqw⟩ := TreeV.headW (show TreeV (fun _ => True) W0 (.agg #[.int .u8 qr, .int .i64 qe, .string qw, .slice qa qn qc]) _ from hv)
  subst hqr hqe hqw
  have hqn : qn = 1 := hv.lenW
  have hpar := TreeV.parts hv
  obtain ⟨tb, toff, q0, hab, htv0, hr0, g0, g1, g2, g3⟩ := hpar 0 (by simp)
  simp only at hab
  subst hab
  simp only [Nat.zero_mul, Nat.add_zero] at g0 g1 g2 g3
  subst hqn
  obtain ⟨va, vn, vc, rfl, hr⟩ := RowN.of ho
  have hlv : vn + 8 * (sizeT y) + 8 ≤ 4000 := by rw [hr.1]; exact hlen
  have hly := words_le y hoy false
  have HWy := Lib.hid hwy
  have HVn := Lib.hid hr.1
  have HB := Lib.hid hb
  have HTt := Lib.hid ht
  have HLx := Lib.hid hl
  have HTv0 := Lib.hid htv0
  have HR0 := Lib.hid hr0
  have HTw := Lib.hid hv
  have HoB : Go.RowKit.Hid (∀ g, (Value.slice va vn vc).ownBlock = some g → W0.heap.size ≤ g) := Lib.hid (fun g h => (hr.lt h).1)
  have A1 : At W0 w (Value.slice va vn vc).ownBlock w.heap.size (.cells #[.int .u8 15, .int .i64 qe, .string ⟨wd.toArray⟩, .slice (some ⟨tb, toff, none⟩) 1 qc] 36 (0, 0)) (w.alloc (.cells #[.int .u8 15, .int .i64 qe, .string ⟨wd.toArray⟩, .slice (some ⟨tb, toff, none⟩) 1 qc] 36)) va vn vc xs := At.start hb hr rfl
  obtain ⟨T, hT⟩ : ∃ T, T = w.heap.size := ⟨_, rfl⟩
  obtain ⟨S, hS⟩ : ∃ S : World → Prop, S = fun V => V.heap[T]? = some (.cells #[.int .u8 15, .int .i64 qe, .string ⟨wd.toArray⟩, .slice (some ⟨tb, toff, none⟩) 1 qc] 36 (0, 0)) ∧ Below W0.heap.size W0 V := ⟨_, rfl⟩
  have f0 : ∀ V, S V → V.cell? ⟨T, 0, none⟩ = some (.int .u8 15) ∧ V.cell? ⟨T, 1, none⟩ = some (.int .i64 qe) ∧ V.cell? ⟨T, 2, none⟩ = some (.string ⟨wd.toArray⟩) ∧ V.cell? ⟨T, 3, none⟩ = some (.slice (some ⟨tb, toff, none⟩) 1 qc) := fun V h => by rw [hS] at h; exact ⟨(cell_rowC h.1 0).trans rfl, (cell_rowC h.1 1).trans rfl, (cell_rowC h.1 2).trans rfl, (cell_rowC h.1 3).trans rfl⟩
  have f1 : ∀ V, S V → V.cell? ⟨tb, toff, none⟩ = some (.int .u8 q0.r) ∧ V.cell? ⟨tb, toff + 1, none⟩ = some (.int .i64 q0.e) ∧ V.cell? ⟨tb, toff + 2, none⟩ = some (.string q0.w) ∧ V.cell? ⟨tb, toff + 3, none⟩ = some (.slice q0.a q0.n q0.c) := fun V h => by rw [hS] at h; exact ⟨cell_kept' h.2 g0, cell_kept' h.2 g1, cell_kept' h.2 g2, cell_kept' h.2 g3⟩
  have HSS := Lib.hid hS
  clear hv hb ho hr ht hlen hl hwy hpar htv0 hr0 hS g0 g1 g2 g3
  unfold TV.val
  refine (callsIn_wide (n := 3)).1 ?_
  refine callsIn_of_wp Tryz.func56 rfl trivial ?_ rfl
  simp only [Tryz.ntmps56, List.size_toArray, List.length_cons, List.length_nil, Nat.reduceAdd, Nat.reduceSub, Array.replicate_succ, Array.replicate_zero, List.push_toArray, List.append_toArray, List.nil_append, List.cons_append]
  have hfw : ∀ f, Fence.wide.fn f := fun _ => trivial
  gi_wp2_with fail
  obtain ⟨W1, hW1⟩ : ∃ W1, W1 = w.alloc (.cells #[.int .u8 15, .int .i64 qe, .string ⟨wd.toArray⟩, .slice (some ⟨tb, toff, none⟩) 1 qc] 36) := ⟨_, rfl⟩
  rw [← hW1, ← hT] at A1
  rw [← hW1, ← hT]
  clear hW1 hT
  have hSd : S W1.drew := by rw [HSS.out]; exact ⟨A1.drew.box, A1.drew.below⟩
  have A1d := A1.drew
  have HA1 := Lib.hid A1d
  clear A1 A1d
  refine regionM S 10 (by kernel_rfl) hSd (fun hpo hS0 => ?_)
  refine takeM (i := 0) 185 lv hpo rfl (by kernel_rfl) (fun _ _ _ h => h) rfl (by rfl) (fun V hX => (by go_simp)) (fun _ => rfl) hS0 (fun hS1 => ?_)
  simp only [List.setIfInBounds_toArray, List.set_cons_zero, List.set_cons_succ]
  refine takeM (i := 1) 186 (.slice va vn vc) hpo rfl (by kernel_rfl) (fun _ _ _ h => h) rfl (by rfl) (fun V hX => (by go_simp)) (fun _ => rfl) hS1 (fun hS2 => ?_)
  simp only [List.setIfInBounds_toArray, List.set_cons_zero, List.set_cons_succ]
  refine takeM (i := 4) 189 (.pointer (some ⟨T, 3, none⟩)) hpo rfl (by kernel_rfl) (fun _ _ _ h => h) rfl (by rfl) (fun V hX => (by go_simp)) (fun _ => rfl) hS2 (fun hS3 => ?_)
  simp only [List.setIfInBounds_toArray, List.set_cons_zero, List.set_cons_succ]
  refine takeM (i := 5) 190 (.slice (some ⟨tb, toff, none⟩) 1 qc) hpo rfl (by kernel_rfl) (fun _ _ _ h => h) rfl (by rfl) (fun V hX => (by obtain ⟨g0, g1, g2, g3⟩ := f0 V hX; go_simp)) (fun _ => rfl) hS3 (fun hS4 => ?_)
  simp only [List.setIfInBounds_toArray, List.set_cons_zero, List.set_cons_succ]
  refine takeM (i := 6) 191 (.pointer (some ⟨tb, toff, none⟩)) hpo rfl (by kernel_rfl) (fun _ _ _ h => h) rfl (by rfl) (fun V hX => (by go_simp)) (fun _ => rfl) hS4 (fun hS5 => ?_)
  simp only [List.setIfInBounds_toArray, List.set_cons_zero, List.set_cons_succ]
  refine takeM (i := 7) 192 (.agg #[.int .u8 q0.r, .int .i64 q0.e, .string q0.w, .slice q0.a q0.n q0.c]) hpo rfl (by kernel_rfl) (fun _ _ _ h => h) rfl (by rfl) (fun V hX => (by obtain ⟨g0, g1, g2, g3⟩ := f1 V hX; go_simp)) (fun _ => rfl) hS5 (fun hS6 => ?_)
  simp only [List.setIfInBounds_toArray, List.set_cons_zero, List.set_cons_succ]
  refine oneM (i := 2) rfl (by kernel_rfl) (by rfl) (fun K hK => ?_)
  go_simp
  refine hK _ _ (fun _ => by rw [HSS.out]; exact ⟨(HA1.out.alloc _).box, (HA1.out.alloc _).below⟩) (fun _ => ?_)
  clear hK K
  have Hw2 := Lib.hid (HA1.out.alloc (.cells #[.string ⟨#[105, 115]⟩] 9))
  refine oneM (i := 3) rfl (by kernel_rfl) (by rfl) (fun K hK => ?_)
  refine wpIn_append_lies (.tmp 186) (.tmp 187) 41 rfl W0.heap.size 9 i0 (.string ByteArray.empty) 1 16 Tryz.underlying41 hi hz0 hz1 hz2 rfl (by decide) _ _ _ rfl Hw2.out.row.2 ⟨W1.drew.heap.size, 0, none⟩ 1 1 [.string ⟨#[105, 115]⟩] rfl rfl (news_at (World.alloc_heap_new W1.drew _)) (by simp [Value.oneCell']) (by decide) (by unfold maxLen; omega) (by omega) Hw2.out.below.size _ rfl ?_
  intro gw3 cw3 w3 how3 hgw3 hatw3 _
  have Aw3 := Hw2.out.more (m := 1) (ys := [wIs]) HB.out HoB.out rfl (by simp [strVal, wIs]) how3 hgw3 hatw3 rfl
  have Hw3 := Lib.hid Aw3
  clear how3 hgw3 hatw3 Aw3
  refine hK _ _ (fun _ => by rw [HSS.out]; exact ⟨Hw3.out.box, Hw3.out.below⟩) (fun _ => ?_)
  clear hK K
  refine oneM (i := 8) rfl (by kernel_rfl) (by rfl) (fun K hK => ?_)
  go_simp
  refine callsIn_wide.2 ((withArticle_any Wt W0 _ HTt.out l lv y HWy.out q0 _ _ HTv0.out Hw3.out.below Hw3.out.row.row (by have := Hw3.out.row.1; omega) hoy).mono ?_)
  rintro ew4 w4 hpost
  obtain ⟨aw4, nw4, cw4, rfl, Aw4⟩ := Hw3.out.next HB.out HoB.out hpost
  have Hw4 := Lib.hid Aw4
  clear hpost Aw4
  refine hK _ _ (fun _ => by rw [HSS.out]; exact ⟨Hw4.out.box, Hw4.out.below⟩) (fun _ => ?_)
  clear hK K
  refine oneM (i := 9) rfl (by kernel_rfl) (by rfl) (fun K hK => ?_)
  go_simp
  refine hK _ _ (fun _ => by rw [HSS.out]; exact ⟨Hw4.out.box, Hw4.out.below⟩) (fun _ => ?_)
  clear hK K
  refine doneM (by kernel_rfl) ?_ _
  gi_wp2
  go_ret
  exact Hw4.out.post rfl
set_option maxRecDepth 100000 in
set_option maxHeartbeats 8000000 in
/-- write, at an adjective. -/
theorem write_9 (Wt W0 w : World) (ht : Tabs Wt W0) (l : List Ent) (lv : Value) (hl : EntSlice W0 lv l) (n : Nat) (hn : n < l.length) (wd : List UInt8) (y : Tr) (hwy : WOk W0 l lv y) (hoy : okS l y = true) (q : TV) (ov : Value) (xs : List (List UInt8)) (hv : TreeV (fun _ => True) W0 q.val (.node 9 (n : Int) wd [y])) (hb : Below W0.heap.size W0 w) (ho : RowW W0.heap.size w ov xs) (hlen : xs.length + 8 * (sizeT y) + 8 ≤ 4000) :
    Calls Tryz.prog 56 #[lv, ov, q.val] w (WPost W0.heap.size w ov (xs ++ [ownW l n] ++ wordsF l y false)) := by
  obtain ⟨i0, hi, hz0, hz1, hz2⟩ := info_parts info_str
  obtain ⟨qr, qe, qw, qa, qn, qc⟩ := q
  obtain ⟨hqr, hqe, hqw⟩ := TreeV.headW (show TreeV (fun _ => True) W0 (.agg #[.int .u8 qr, .int .i64 qe, .string qw, .slice qa qn qc]) _ from hv)
  subst hqr hqe hqw
  have hqn : qn = 1 := hv.lenW
  have hpar := TreeV.parts hv
  obtain ⟨tb, toff, q0, hab, htv0, hr0, g0, g1, g2, g3⟩ := hpar 0 (by simp)
  simp only at hab
  subst hab
  simp only [Nat.zero_mul, Nat.add_zero] at g0 g1 g2 g3
  subst hqn
  obtain ⟨va, vn, vc, rfl, hr⟩ := RowN.of ho
  have hlv : vn + 8 * (sizeT y) + 8 ≤ 4000 := by rw [hr.1]; exact hlen
  have hly := words_le y hoy false
  have HWy := Lib.hid hwy
  have HVn := Lib.hid hr.1
  have HB := Lib.hid hb
  have HTt := Lib.hid ht
  have HLx := Lib.hid hl
  have HTv0 := Lib.hid htv0
  have HR0 := Lib.hid hr0
  have HTw := Lib.hid hv
  have HoB : Go.RowKit.Hid (∀ g, (Value.slice va vn vc).ownBlock = some g → W0.heap.size ≤ g) := Lib.hid (fun g h => (hr.lt h).1)
  have A1 : At W0 w (Value.slice va vn vc).ownBlock w.heap.size (.cells #[.int .u8 9, .int .i64 (n : Int), .string ⟨wd.toArray⟩, .slice (some ⟨tb, toff, none⟩) 1 qc] 36 (0, 0)) (w.alloc (.cells #[.int .u8 9, .int .i64 (n : Int), .string ⟨wd.toArray⟩, .slice (some ⟨tb, toff, none⟩) 1 qc] 36)) va vn vc xs := At.start hb hr rfl
  obtain ⟨⟨la, lcap, rfl, _, _, hform⟩, hok⟩ := hl
  obtain ⟨lb, loff, rfl, _, hc⟩ := hform.resolve_left (by intro h; rw [h] at hn; simp at hn)
  have x0 := (hc n hn).1
  have hown : (⟨(ownW l n).toArray⟩ : ByteArray) = l[n].word := by rw [ownW_at hn]; simp [Ent.w]
  obtain ⟨x, hx⟩ : ∃ x, x = l[n].word := ⟨_, rfl⟩
  rw [← hx] at x0 hown
  have HOwn := Lib.hid hown
  have HNl := Lib.hid hn
  have b1 : (0 : Int) ≤ (n : Int) := by omega
  have b2 : (n : Int) < (l.length : Int) := by omega
  clear hok hform hc hown hx
  obtain ⟨T, hT⟩ : ∃ T, T = w.heap.size := ⟨_, rfl⟩
  obtain ⟨S, hS⟩ : ∃ S : World → Prop, S = fun V => V.heap[T]? = some (.cells #[.int .u8 9, .int .i64 (n : Int), .string ⟨wd.toArray⟩, .slice (some ⟨tb, toff, none⟩) 1 qc] 36 (0, 0)) ∧ Below W0.heap.size W0 V := ⟨_, rfl⟩
  have f0 : ∀ V, S V → V.cell? ⟨T, 0, none⟩ = some (.int .u8 9) ∧ V.cell? ⟨T, 1, none⟩ = some (.int .i64 (n : Int)) ∧ V.cell? ⟨T, 2, none⟩ = some (.string ⟨wd.toArray⟩) ∧ V.cell? ⟨T, 3, none⟩ = some (.slice (some ⟨tb, toff, none⟩) 1 qc) := fun V h => by rw [hS] at h; exact ⟨(cell_rowC h.1 0).trans rfl, (cell_rowC h.1 1).trans rfl, (cell_rowC h.1 2).trans rfl, (cell_rowC h.1 3).trans rfl⟩
  have f1 : ∀ V, S V → V.cell? ⟨tb, toff, none⟩ = some (.int .u8 q0.r) ∧ V.cell? ⟨tb, toff + 1, none⟩ = some (.int .i64 q0.e) ∧ V.cell? ⟨tb, toff + 2, none⟩ = some (.string q0.w) ∧ V.cell? ⟨tb, toff + 3, none⟩ = some (.slice q0.a q0.n q0.c) := fun V h => by rw [hS] at h; exact ⟨cell_kept' h.2 g0, cell_kept' h.2 g1, cell_kept' h.2 g2, cell_kept' h.2 g3⟩
  have fe : ∀ V, S V → V.cell? ⟨lb, loff + n * 3, none⟩ = some (.string x) := fun V h => by rw [hS] at h; exact cell_kept' h.2 x0
  have HSS := Lib.hid hS
  clear hv hb ho hr ht hlen hwy hpar htv0 hr0 hS g0 g1 g2 g3 x0
  unfold TV.val
  refine (callsIn_wide (n := 3)).1 ?_
  refine callsIn_of_wp Tryz.func56 rfl trivial ?_ rfl
  simp only [Tryz.ntmps56, List.size_toArray, List.length_cons, List.length_nil, Nat.reduceAdd, Nat.reduceSub, Array.replicate_succ, Array.replicate_zero, List.push_toArray, List.append_toArray, List.nil_append, List.cons_append]
  have hfw : ∀ f, Fence.wide.fn f := fun _ => trivial
  gi_wp2_with fail
  obtain ⟨W1, hW1⟩ : ∃ W1, W1 = w.alloc (.cells #[.int .u8 9, .int .i64 (n : Int), .string ⟨wd.toArray⟩, .slice (some ⟨tb, toff, none⟩) 1 qc] 36) := ⟨_, rfl⟩
  rw [← hW1, ← hT] at A1
  rw [← hW1, ← hT]
  clear hW1 hT
  have hSd : S W1.drew := by rw [HSS.out]; exact ⟨A1.drew.box, A1.drew.below⟩
  have A1d := A1.drew
  have HA1 := Lib.hid A1d
  clear A1 A1d
  refine regionM S 16 (by kernel_rfl) hSd (fun hpo hS0 => ?_)
  refine takeM (i := 0) 89 (.slice (some ⟨lb, loff, none⟩) l.length lcap) hpo rfl (by kernel_rfl) (fun _ _ _ h => h) rfl (by rfl) (fun V hX => (by go_simp)) (fun _ => rfl) hS0 (fun hS1 => ?_)
  simp only [List.setIfInBounds_toArray, List.set_cons_zero, List.set_cons_succ]
  refine takeM (i := 1) 90 (.slice va vn vc) hpo rfl (by kernel_rfl) (fun _ _ _ h => h) rfl (by rfl) (fun V hX => (by go_simp)) (fun _ => rfl) hS1 (fun hS2 => ?_)
  simp only [List.setIfInBounds_toArray, List.set_cons_zero, List.set_cons_succ]
  refine takeM (i := 2) 91 (.slice (some ⟨lb, loff, none⟩) l.length lcap) hpo rfl (by kernel_rfl) (fun _ _ _ h => h) rfl (by rfl) (fun V hX => (by go_simp)) (fun _ => rfl) hS2 (fun hS3 => ?_)
  simp only [List.setIfInBounds_toArray, List.set_cons_zero, List.set_cons_succ]
  refine takeM (i := 3) 92 (.pointer (some ⟨T, 1, none⟩)) hpo rfl (by kernel_rfl) (fun _ _ _ h => h) rfl (by rfl) (fun V hX => (by go_simp)) (fun _ => rfl) hS3 (fun hS4 => ?_)
  simp only [List.setIfInBounds_toArray, List.set_cons_zero, List.set_cons_succ]
  refine takeM (i := 4) 93 (.int .i64 (n : Int)) hpo rfl (by kernel_rfl) (fun _ _ _ h => h) rfl (by rfl) (fun V hX => (by obtain ⟨g0, g1, g2, g3⟩ := f0 V hX; go_simp)) (fun _ => rfl) hS4 (fun hS5 => ?_)
  simp only [List.setIfInBounds_toArray, List.set_cons_zero, List.set_cons_succ]
  refine takeM (i := 5) 94 (.pointer (some ⟨lb, loff + n * 3, none⟩)) hpo rfl (by kernel_rfl) (fun _ _ _ h => h) rfl (by rfl) (fun V hX => (by go_simp; first | done | (simp only [if_pos b2]; try go_simp))) (fun _ => rfl) hS5 (fun hS6 => ?_)
  simp only [List.setIfInBounds_toArray, List.set_cons_zero, List.set_cons_succ]
  refine takeM (i := 6) 95 (.pointer (some ⟨lb, loff + n * 3, none⟩)) hpo rfl (by kernel_rfl) (fun _ _ _ h => h) rfl (by rfl) (fun V hX => (by go_simp)) (fun _ => rfl) hS6 (fun hS7 => ?_)
  simp only [List.setIfInBounds_toArray, List.set_cons_zero, List.set_cons_succ]
  refine takeM (i := 7) 96 (.string x) hpo rfl (by kernel_rfl) (fun _ _ _ h => h) rfl (by rfl) (fun V hX => (by have ge := fe V hX; go_simp)) (fun _ => rfl) hS7 (fun hS8 => ?_)
  simp only [List.setIfInBounds_toArray, List.set_cons_zero, List.set_cons_succ]
  refine takeM (i := 10) 99 (.pointer (some ⟨T, 3, none⟩)) hpo rfl (by kernel_rfl) (fun _ _ _ h => h) rfl (by rfl) (fun V hX => (by go_simp)) (fun _ => rfl) hS8 (fun hS9 => ?_)
  simp only [List.setIfInBounds_toArray, List.set_cons_zero, List.set_cons_succ]
  refine takeM (i := 11) 100 (.slice (some ⟨tb, toff, none⟩) 1 qc) hpo rfl (by kernel_rfl) (fun _ _ _ h => h) rfl (by rfl) (fun V hX => (by obtain ⟨g0, g1, g2, g3⟩ := f0 V hX; go_simp)) (fun _ => rfl) hS9 (fun hS10 => ?_)
  simp only [List.setIfInBounds_toArray, List.set_cons_zero, List.set_cons_succ]
  refine takeM (i := 12) 101 (.pointer (some ⟨tb, toff, none⟩)) hpo rfl (by kernel_rfl) (fun _ _ _ h => h) rfl (by rfl) (fun V hX => (by go_simp)) (fun _ => rfl) hS10 (fun hS11 => ?_)
  simp only [List.setIfInBounds_toArray, List.set_cons_zero, List.set_cons_succ]
  refine takeM (i := 13) 102 (.agg #[.int .u8 q0.r, .int .i64 q0.e, .string q0.w, .slice q0.a q0.n q0.c]) hpo rfl (by kernel_rfl) (fun _ _ _ h => h) rfl (by rfl) (fun V hX => (by obtain ⟨g0, g1, g2, g3⟩ := f1 V hX; go_simp)) (fun _ => rfl) hS11 (fun hS12 => ?_)
  simp only [List.setIfInBounds_toArray, List.set_cons_zero, List.set_cons_succ]
  refine oneM (i := 8) rfl (by kernel_rfl) (by rfl) (fun K hK => ?_)
  go_simp
  refine hK _ _ (fun _ => by rw [HSS.out]; exact ⟨(HA1.out.alloc _).box, (HA1.out.alloc _).below⟩) (fun _ => ?_)
  clear hK K
  have Hw2 := Lib.hid (HA1.out.alloc (.cells #[.string x] 9))
  refine oneM (i := 9) rfl (by kernel_rfl) (by rfl) (fun K hK => ?_)
  refine wpIn_append_lies (.tmp 90) (.tmp 97) 41 rfl W0.heap.size 9 i0 (.string ByteArray.empty) 1 16 Tryz.underlying41 hi hz0 hz1 hz2 rfl (by decide) _ _ _ rfl Hw2.out.row.2 ⟨W1.drew.heap.size, 0, none⟩ 1 1 [.string x] rfl rfl (news_at (World.alloc_heap_new W1.drew _)) (by simp [Value.oneCell']) (by decide) (by unfold maxLen; omega) (by omega) Hw2.out.below.size _ rfl ?_
  intro gw3 cw3 w3 how3 hgw3 hatw3 _
  have Aw3 := Hw2.out.more (m := 1) (ys := [ownW l n]) HB.out HoB.out rfl (by simp [strVal, HOwn.out]) how3 hgw3 hatw3 rfl
  have Hw3 := Lib.hid Aw3
  clear how3 hgw3 hatw3 Aw3
  refine hK _ _ (fun _ => by rw [HSS.out]; exact ⟨Hw3.out.box, Hw3.out.below⟩) (fun _ => ?_)
  clear hK K
  refine oneM (i := 14) rfl (by kernel_rfl) (by rfl) (fun K hK => ?_)
  go_simp
  refine callsIn_wide.2 ((HWy.out _ q0 _ _ HTv0.out Hw3.out.below Hw3.out.row.row (by have := Hw3.out.row.1; first | omega | (have := E1.out; have := HVn.out; omega))).mono ?_)
  rintro ew4 w4 hpost
  obtain ⟨aw4, nw4, cw4, rfl, Aw4⟩ := Hw3.out.next HB.out HoB.out hpost
  have Hw4 := Lib.hid Aw4
  clear hpost Aw4
  refine hK _ _ (fun _ => by rw [HSS.out]; exact ⟨Hw4.out.box, Hw4.out.below⟩) (fun _ => ?_)
  clear hK K
  refine oneM (i := 15) rfl (by kernel_rfl) (by rfl) (fun K hK => ?_)
  go_simp
  refine hK _ _ (fun _ => by rw [HSS.out]; exact ⟨Hw4.out.box, Hw4.out.below⟩) (fun _ => ?_)
  clear hK K
  refine doneM (by kernel_rfl) ?_ _
  gi_wp2
  go_ret
  exact Hw4.out.post rfl
set_option maxRecDepth 100000 in
set_option maxHeartbeats 8000000 in
/-- write, at a noun with who. -/
theorem write_10 (Wt W0 w : World) (ht : Tabs Wt W0) (l : List Ent) (lv : Value) (hl : EntSlice W0 lv l) (n : Nat) (hn : n < l.length) (wd : List UInt8) (y : Tr) (hwy : WOk W0 l lv y) (hoy : okS l y = true) (q : TV) (ov : Value) (xs : List (List UInt8)) (hv : TreeV (fun _ => True) W0 q.val (.node 10 (n : Int) wd [y])) (hb : Below W0.heap.size W0 w) (ho : RowW W0.heap.size w ov xs) (hlen : xs.length + 8 * (sizeT y) + 8 ≤ 4000) :
    Calls Tryz.prog 56 #[lv, ov, q.val] w (WPost W0.heap.size w ov (xs ++ [ownW l n, wd] ++ wordsF l y false)) := by
  obtain ⟨i0, hi, hz0, hz1, hz2⟩ := info_parts info_str
  obtain ⟨qr, qe, qw, qa, qn, qc⟩ := q
  obtain ⟨hqr, hqe, hqw⟩ := TreeV.headW (show TreeV (fun _ => True) W0 (.agg #[.int .u8 qr, .int .i64 qe, .string qw, .slice qa qn qc]) _ from hv)
  subst hqr hqe hqw
  have hqn : qn = 1 := hv.lenW
  have hpar := TreeV.parts hv
  obtain ⟨tb, toff, q0, hab, htv0, hr0, g0, g1, g2, g3⟩ := hpar 0 (by simp)
  simp only at hab
  subst hab
  simp only [Nat.zero_mul, Nat.add_zero] at g0 g1 g2 g3
  subst hqn
  obtain ⟨va, vn, vc, rfl, hr⟩ := RowN.of ho
  have hlv : vn + 8 * (sizeT y) + 8 ≤ 4000 := by rw [hr.1]; exact hlen
  have hly := words_le y hoy false
  have HWy := Lib.hid hwy
  have HVn := Lib.hid hr.1
  have HB := Lib.hid hb
  have HTt := Lib.hid ht
  have HLx := Lib.hid hl
  have HTv0 := Lib.hid htv0
  have HR0 := Lib.hid hr0
  have HTw := Lib.hid hv
  have HoB : Go.RowKit.Hid (∀ g, (Value.slice va vn vc).ownBlock = some g → W0.heap.size ≤ g) := Lib.hid (fun g h => (hr.lt h).1)
  have A1 : At W0 w (Value.slice va vn vc).ownBlock w.heap.size (.cells #[.int .u8 10, .int .i64 (n : Int), .string ⟨wd.toArray⟩, .slice (some ⟨tb, toff, none⟩) 1 qc] 36 (0, 0)) (w.alloc (.cells #[.int .u8 10, .int .i64 (n : Int), .string ⟨wd.toArray⟩, .slice (some ⟨tb, toff, none⟩) 1 qc] 36)) va vn vc xs := At.start hb hr rfl
  obtain ⟨⟨la, lcap, rfl, _, _, hform⟩, hok⟩ := hl
  obtain ⟨lb, loff, rfl, _, hc⟩ := hform.resolve_left (by intro h; rw [h] at hn; simp at hn)
  have x0 := (hc n hn).1
  have hown : (⟨(ownW l n).toArray⟩ : ByteArray) = l[n].word := by rw [ownW_at hn]; simp [Ent.w]
  obtain ⟨x, hx⟩ : ∃ x, x = l[n].word := ⟨_, rfl⟩
  rw [← hx] at x0 hown
  have HOwn := Lib.hid hown
  have HNl := Lib.hid hn
  have b1 : (0 : Int) ≤ (n : Int) := by omega
  have b2 : (n : Int) < (l.length : Int) := by omega
  clear hok hform hc hown hx
  obtain ⟨T, hT⟩ : ∃ T, T = w.heap.size := ⟨_, rfl⟩
  obtain ⟨S, hS⟩ : ∃ S : World → Prop, S = fun V => V.heap[T]? = some (.cells #[.int .u8 10, .int .i64 (n : Int), .string ⟨wd.toArray⟩, .slice (some ⟨tb, toff, none⟩) 1 qc] 36 (0, 0)) ∧ Below W0.heap.size W0 V := ⟨_, rfl⟩
  have f0 : ∀ V, S V → V.cell? ⟨T, 0, none⟩ = some (.int .u8 10) ∧ V.cell? ⟨T, 1, none⟩ = some (.int .i64 (n : Int)) ∧ V.cell? ⟨T, 2, none⟩ = some (.string ⟨wd.toArray⟩) ∧ V.cell? ⟨T, 3, none⟩ = some (.slice (some ⟨tb, toff, none⟩) 1 qc) := fun V h => by rw [hS] at h; exact ⟨(cell_rowC h.1 0).trans rfl, (cell_rowC h.1 1).trans rfl, (cell_rowC h.1 2).trans rfl, (cell_rowC h.1 3).trans rfl⟩
  have f1 : ∀ V, S V → V.cell? ⟨tb, toff, none⟩ = some (.int .u8 q0.r) ∧ V.cell? ⟨tb, toff + 1, none⟩ = some (.int .i64 q0.e) ∧ V.cell? ⟨tb, toff + 2, none⟩ = some (.string q0.w) ∧ V.cell? ⟨tb, toff + 3, none⟩ = some (.slice q0.a q0.n q0.c) := fun V h => by rw [hS] at h; exact ⟨cell_kept' h.2 g0, cell_kept' h.2 g1, cell_kept' h.2 g2, cell_kept' h.2 g3⟩
  have fe : ∀ V, S V → V.cell? ⟨lb, loff + n * 3, none⟩ = some (.string x) := fun V h => by rw [hS] at h; exact cell_kept' h.2 x0
  have HSS := Lib.hid hS
  clear hv hb ho hr ht hlen hwy hpar htv0 hr0 hS g0 g1 g2 g3 x0
  unfold TV.val
  refine (callsIn_wide (n := 3)).1 ?_
  refine callsIn_of_wp Tryz.func56 rfl trivial ?_ rfl
  simp only [Tryz.ntmps56, List.size_toArray, List.length_cons, List.length_nil, Nat.reduceAdd, Nat.reduceSub, Array.replicate_succ, Array.replicate_zero, List.push_toArray, List.append_toArray, List.nil_append, List.cons_append]
  have hfw : ∀ f, Fence.wide.fn f := fun _ => trivial
  gi_wp2_with fail
  obtain ⟨W1, hW1⟩ : ∃ W1, W1 = w.alloc (.cells #[.int .u8 10, .int .i64 (n : Int), .string ⟨wd.toArray⟩, .slice (some ⟨tb, toff, none⟩) 1 qc] 36) := ⟨_, rfl⟩
  rw [← hW1, ← hT] at A1
  rw [← hW1, ← hT]
  clear hW1 hT
  have hSd : S W1.drew := by rw [HSS.out]; exact ⟨A1.drew.box, A1.drew.below⟩
  have A1d := A1.drew
  have HA1 := Lib.hid A1d
  clear A1 A1d
  refine regionM S 18 (by kernel_rfl) hSd (fun hpo hS0 => ?_)
  refine takeM (i := 0) 106 (.slice (some ⟨lb, loff, none⟩) l.length lcap) hpo rfl (by kernel_rfl) (fun _ _ _ h => h) rfl (by rfl) (fun V hX => (by go_simp)) (fun _ => rfl) hS0 (fun hS1 => ?_)
  simp only [List.setIfInBounds_toArray, List.set_cons_zero, List.set_cons_succ]
  refine takeM (i := 1) 107 (.slice va vn vc) hpo rfl (by kernel_rfl) (fun _ _ _ h => h) rfl (by rfl) (fun V hX => (by go_simp)) (fun _ => rfl) hS1 (fun hS2 => ?_)
  simp only [List.setIfInBounds_toArray, List.set_cons_zero, List.set_cons_succ]
  refine takeM (i := 2) 108 (.slice (some ⟨lb, loff, none⟩) l.length lcap) hpo rfl (by kernel_rfl) (fun _ _ _ h => h) rfl (by rfl) (fun V hX => (by go_simp)) (fun _ => rfl) hS2 (fun hS3 => ?_)
  simp only [List.setIfInBounds_toArray, List.set_cons_zero, List.set_cons_succ]
  refine takeM (i := 3) 109 (.pointer (some ⟨T, 1, none⟩)) hpo rfl (by kernel_rfl) (fun _ _ _ h => h) rfl (by rfl) (fun V hX => (by go_simp)) (fun _ => rfl) hS3 (fun hS4 => ?_)
  simp only [List.setIfInBounds_toArray, List.set_cons_zero, List.set_cons_succ]
  refine takeM (i := 4) 110 (.int .i64 (n : Int)) hpo rfl (by kernel_rfl) (fun _ _ _ h => h) rfl (by rfl) (fun V hX => (by obtain ⟨g0, g1, g2, g3⟩ := f0 V hX; go_simp)) (fun _ => rfl) hS4 (fun hS5 => ?_)
  simp only [List.setIfInBounds_toArray, List.set_cons_zero, List.set_cons_succ]
  refine takeM (i := 5) 111 (.pointer (some ⟨lb, loff + n * 3, none⟩)) hpo rfl (by kernel_rfl) (fun _ _ _ h => h) rfl (by rfl) (fun V hX => (by go_simp; first | done | (simp only [if_pos b2]; try go_simp))) (fun _ => rfl) hS5 (fun hS6 => ?_)
  simp only [List.setIfInBounds_toArray, List.set_cons_zero, List.set_cons_succ]
  refine takeM (i := 6) 112 (.pointer (some ⟨lb, loff + n * 3, none⟩)) hpo rfl (by kernel_rfl) (fun _ _ _ h => h) rfl (by rfl) (fun V hX => (by go_simp)) (fun _ => rfl) hS6 (fun hS7 => ?_)
  simp only [List.setIfInBounds_toArray, List.set_cons_zero, List.set_cons_succ]
  refine takeM (i := 7) 113 (.string x) hpo rfl (by kernel_rfl) (fun _ _ _ h => h) rfl (by rfl) (fun V hX => (by have ge := fe V hX; go_simp)) (fun _ => rfl) hS7 (fun hS8 => ?_)
  simp only [List.setIfInBounds_toArray, List.set_cons_zero, List.set_cons_succ]
  refine takeM (i := 8) 114 (.pointer (some ⟨T, 2, none⟩)) hpo rfl (by kernel_rfl) (fun _ _ _ h => h) rfl (by rfl) (fun V hX => (by go_simp)) (fun _ => rfl) hS8 (fun hS9 => ?_)
  simp only [List.setIfInBounds_toArray, List.set_cons_zero, List.set_cons_succ]
  refine takeM (i := 9) 115 (.string ⟨wd.toArray⟩) hpo rfl (by kernel_rfl) (fun _ _ _ h => h) rfl (by rfl) (fun V hX => (by obtain ⟨g0, g1, g2, g3⟩ := f0 V hX; go_simp)) (fun _ => rfl) hS9 (fun hS10 => ?_)
  simp only [List.setIfInBounds_toArray, List.set_cons_zero, List.set_cons_succ]
  refine takeM (i := 12) 118 (.pointer (some ⟨T, 3, none⟩)) hpo rfl (by kernel_rfl) (fun _ _ _ h => h) rfl (by rfl) (fun V hX => (by go_simp)) (fun _ => rfl) hS10 (fun hS11 => ?_)
  simp only [List.setIfInBounds_toArray, List.set_cons_zero, List.set_cons_succ]
  refine takeM (i := 13) 119 (.slice (some ⟨tb, toff, none⟩) 1 qc) hpo rfl (by kernel_rfl) (fun _ _ _ h => h) rfl (by rfl) (fun V hX => (by obtain ⟨g0, g1, g2, g3⟩ := f0 V hX; go_simp)) (fun _ => rfl) hS11 (fun hS12 => ?_)
  simp only [List.setIfInBounds_toArray, List.set_cons_zero, List.set_cons_succ]
  refine takeM (i := 14) 120 (.pointer (some ⟨tb, toff, none⟩)) hpo rfl (by kernel_rfl) (fun _ _ _ h => h) rfl (by rfl) (fun V hX => (by go_simp)) (fun _ => rfl) hS12 (fun hS13 => ?_)
  simp only [List.setIfInBounds_toArray, List.set_cons_zero, List.set_cons_succ]
  refine takeM (i := 15) 121 (.agg #[.int .u8 q0.r, .int .i64 q0.e, .string q0.w, .slice q0.a q0.n q0.c]) hpo rfl (by kernel_rfl) (fun _ _ _ h => h) rfl (by rfl) (fun V hX => (by obtain ⟨g0, g1, g2, g3⟩ := f1 V hX; go_simp)) (fun _ => rfl) hS13 (fun hS14 => ?_)
  simp only [List.setIfInBounds_toArray, List.set_cons_zero, List.set_cons_succ]
  refine oneM (i := 10) rfl (by kernel_rfl) (by rfl) (fun K hK => ?_)
  go_simp
  refine hK _ _ (fun _ => by rw [HSS.out]; exact ⟨(HA1.out.alloc _).box, (HA1.out.alloc _).below⟩) (fun _ => ?_)
  clear hK K
  have Hw2 := Lib.hid (HA1.out.alloc (.cells #[.string x, .string ⟨wd.toArray⟩] 9))
  refine oneM (i := 11) rfl (by kernel_rfl) (by rfl) (fun K hK => ?_)
  refine wpIn_append_lies (.tmp 107) (.tmp 116) 41 rfl W0.heap.size 9 i0 (.string ByteArray.empty) 1 16 Tryz.underlying41 hi hz0 hz1 hz2 rfl (by decide) _ _ _ rfl Hw2.out.row.2 ⟨W1.drew.heap.size, 0, none⟩ 2 2 [.string x, .string ⟨wd.toArray⟩] rfl rfl (news_at (World.alloc_heap_new W1.drew _)) (by simp [Value.oneCell']) (by decide) (by unfold maxLen; omega) (by omega) Hw2.out.below.size _ rfl ?_
  intro gw3 cw3 w3 how3 hgw3 hatw3 _
  have Aw3 := Hw2.out.more (m := 2) (ys := [ownW l n, wd]) HB.out HoB.out rfl (by simp [strVal, HOwn.out]) how3 hgw3 hatw3 rfl
  have Hw3 := Lib.hid Aw3
  clear how3 hgw3 hatw3 Aw3
  refine hK _ _ (fun _ => by rw [HSS.out]; exact ⟨Hw3.out.box, Hw3.out.below⟩) (fun _ => ?_)
  clear hK K
  refine oneM (i := 16) rfl (by kernel_rfl) (by rfl) (fun K hK => ?_)
  go_simp
  refine callsIn_wide.2 ((HWy.out _ q0 _ _ HTv0.out Hw3.out.below Hw3.out.row.row (by have := Hw3.out.row.1; first | omega | (have := E1.out; have := HVn.out; omega))).mono ?_)
  rintro ew4 w4 hpost
  obtain ⟨aw4, nw4, cw4, rfl, Aw4⟩ := Hw3.out.next HB.out HoB.out hpost
  have Hw4 := Lib.hid Aw4
  clear hpost Aw4
  refine hK _ _ (fun _ => by rw [HSS.out]; exact ⟨Hw4.out.box, Hw4.out.below⟩) (fun _ => ?_)
  clear hK K
  refine oneM (i := 17) rfl (by kernel_rfl) (by rfl) (fun K hK => ?_)
  go_simp
  refine hK _ _ (fun _ => by rw [HSS.out]; exact ⟨Hw4.out.box, Hw4.out.below⟩) (fun _ => ?_)
  clear hK K
  refine doneM (by kernel_rfl) ?_ _
  gi_wp2
  go_ret
  exact Hw4.out.post rfl
set_option maxRecDepth 100000 in
set_option maxHeartbeats 8000000 in
/-- write, at a verb with an object. -/
theorem write_13 (Wt W0 w : World) (ht : Tabs Wt W0) (l : List Ent) (lv : Value) (hl : EntSlice W0 lv l) (n : Nat) (hn : n < l.length) (wd : List UInt8) (y : Tr) (hwy : WOk W0 l lv y) (hoy : okS l y = true) (q : TV) (ov : Value) (xs : List (List UInt8)) (hv : TreeV (fun _ => True) W0 q.val (.node 13 (n : Int) wd [y])) (hb : Below W0.heap.size W0 w) (ho : RowW W0.heap.size w ov xs) (hlen : xs.length + 8 * (sizeT y) + 8 ≤ 4000) :
    Calls Tryz.prog 56 #[lv, ov, q.val] w (WPost W0.heap.size w ov (xs ++ [thirdV (ownW l n)] ++ wordsF l y false)) := by
  obtain ⟨i0, hi, hz0, hz1, hz2⟩ := info_parts info_str
  obtain ⟨qr, qe, qw, qa, qn, qc⟩ := q
  obtain ⟨hqr, hqe, hqw⟩ := TreeV.headW (show TreeV (fun _ => True) W0 (.agg #[.int .u8 qr, .int .i64 qe, .string qw, .slice qa qn qc]) _ from hv)
  subst hqr hqe hqw
  have hqn : qn = 1 := hv.lenW
  have hpar := TreeV.parts hv
  obtain ⟨tb, toff, q0, hab, htv0, hr0, g0, g1, g2, g3⟩ := hpar 0 (by simp)
  simp only at hab
  subst hab
  simp only [Nat.zero_mul, Nat.add_zero] at g0 g1 g2 g3
  subst hqn
  obtain ⟨va, vn, vc, rfl, hr⟩ := RowN.of ho
  have hlv : vn + 8 * (sizeT y) + 8 ≤ 4000 := by rw [hr.1]; exact hlen
  have hly := words_le y hoy false
  have HWy := Lib.hid hwy
  have HVn := Lib.hid hr.1
  have HB := Lib.hid hb
  have HTt := Lib.hid ht
  have HLx := Lib.hid hl
  have HTv0 := Lib.hid htv0
  have HR0 := Lib.hid hr0
  have HTw := Lib.hid hv
  have HoB : Go.RowKit.Hid (∀ g, (Value.slice va vn vc).ownBlock = some g → W0.heap.size ≤ g) := Lib.hid (fun g h => (hr.lt h).1)
  have A1 : At W0 w (Value.slice va vn vc).ownBlock w.heap.size (.cells #[.int .u8 13, .int .i64 (n : Int), .string ⟨wd.toArray⟩, .slice (some ⟨tb, toff, none⟩) 1 qc] 36 (0, 0)) (w.alloc (.cells #[.int .u8 13, .int .i64 (n : Int), .string ⟨wd.toArray⟩, .slice (some ⟨tb, toff, none⟩) 1 qc] 36)) va vn vc xs := At.start hb hr rfl
  obtain ⟨⟨la, lcap, rfl, _, _, hform⟩, hok⟩ := hl
  obtain ⟨lb, loff, rfl, _, hc⟩ := hform.resolve_left (by intro h; rw [h] at hn; simp at hn)
  have x0 := (hc n hn).1
  have hown : (⟨(ownW l n).toArray⟩ : ByteArray) = l[n].word := by rw [ownW_at hn]; simp [Ent.w]
  obtain ⟨x, hx⟩ : ∃ x, x = l[n].word := ⟨_, rfl⟩
  rw [← hx] at x0 hown
  have HOwn := Lib.hid hown
  have HNl := Lib.hid hn
  have b1 : (0 : Int) ≤ (n : Int) := by omega
  have b2 : (n : Int) < (l.length : Int) := by omega
  clear hok hform hc hown hx
  obtain ⟨T, hT⟩ : ∃ T, T = w.heap.size := ⟨_, rfl⟩
  obtain ⟨S, hS⟩ : ∃ S : World → Prop, S = fun V => V.heap[T]? = some (.cells #[.int .u8 13, .int .i64 (n : Int), .string ⟨wd.toArray⟩, .slice (some ⟨tb, toff, none⟩) 1 qc] 36 (0, 0)) ∧ Below W0.heap.size W0 V := ⟨_, rfl⟩
  have f0 : ∀ V, S V → V.cell? ⟨T, 0, none⟩ = some (.int .u8 13) ∧ V.cell? ⟨T, 1, none⟩ = some (.int .i64 (n : Int)) ∧ V.cell? ⟨T, 2, none⟩ = some (.string ⟨wd.toArray⟩) ∧ V.cell? ⟨T, 3, none⟩ = some (.slice (some ⟨tb, toff, none⟩) 1 qc) := fun V h => by rw [hS] at h; exact ⟨(cell_rowC h.1 0).trans rfl, (cell_rowC h.1 1).trans rfl, (cell_rowC h.1 2).trans rfl, (cell_rowC h.1 3).trans rfl⟩
  have f1 : ∀ V, S V → V.cell? ⟨tb, toff, none⟩ = some (.int .u8 q0.r) ∧ V.cell? ⟨tb, toff + 1, none⟩ = some (.int .i64 q0.e) ∧ V.cell? ⟨tb, toff + 2, none⟩ = some (.string q0.w) ∧ V.cell? ⟨tb, toff + 3, none⟩ = some (.slice q0.a q0.n q0.c) := fun V h => by rw [hS] at h; exact ⟨cell_kept' h.2 g0, cell_kept' h.2 g1, cell_kept' h.2 g2, cell_kept' h.2 g3⟩
  have fe : ∀ V, S V → V.cell? ⟨lb, loff + n * 3, none⟩ = some (.string x) := fun V h => by rw [hS] at h; exact cell_kept' h.2 x0
  have HSS := Lib.hid hS
  clear hv hb ho hr ht hlen hwy hpar htv0 hr0 hS g0 g1 g2 g3 x0
  unfold TV.val
  refine (callsIn_wide (n := 3)).1 ?_
  refine callsIn_of_wp Tryz.func56 rfl trivial ?_ rfl
  simp only [Tryz.ntmps56, List.size_toArray, List.length_cons, List.length_nil, Nat.reduceAdd, Nat.reduceSub, Array.replicate_succ, Array.replicate_zero, List.push_toArray, List.append_toArray, List.nil_append, List.cons_append]
  have hfw : ∀ f, Fence.wide.fn f := fun _ => trivial
  gi_wp2_with fail
  obtain ⟨W1, hW1⟩ : ∃ W1, W1 = w.alloc (.cells #[.int .u8 13, .int .i64 (n : Int), .string ⟨wd.toArray⟩, .slice (some ⟨tb, toff, none⟩) 1 qc] 36) := ⟨_, rfl⟩
  rw [← hW1, ← hT] at A1
  rw [← hW1, ← hT]
  clear hW1 hT
  have hSd : S W1.drew := by rw [HSS.out]; exact ⟨A1.drew.box, A1.drew.below⟩
  have A1d := A1.drew
  have HA1 := Lib.hid A1d
  clear A1 A1d
  refine regionM S 13 (by kernel_rfl) hSd (fun hpo hS0 => ?_)
  refine takeM (i := 0) 160 (.slice (some ⟨lb, loff, none⟩) l.length lcap) hpo rfl (by kernel_rfl) (fun _ _ _ h => h) rfl (by rfl) (fun V hX => (by go_simp)) (fun _ => rfl) hS0 (fun hS1 => ?_)
  simp only [List.setIfInBounds_toArray, List.set_cons_zero, List.set_cons_succ]
  refine takeM (i := 1) 161 (.slice va vn vc) hpo rfl (by kernel_rfl) (fun _ _ _ h => h) rfl (by rfl) (fun V hX => (by go_simp)) (fun _ => rfl) hS1 (fun hS2 => ?_)
  simp only [List.setIfInBounds_toArray, List.set_cons_zero, List.set_cons_succ]
  refine takeM (i := 2) 162 (.slice (some ⟨lb, loff, none⟩) l.length lcap) hpo rfl (by kernel_rfl) (fun _ _ _ h => h) rfl (by rfl) (fun V hX => (by go_simp)) (fun _ => rfl) hS2 (fun hS3 => ?_)
  simp only [List.setIfInBounds_toArray, List.set_cons_zero, List.set_cons_succ]
  refine takeM (i := 3) 163 (.agg #[.int .u8 13, .int .i64 (n : Int), .string ⟨wd.toArray⟩, .slice (some ⟨tb, toff, none⟩) 1 qc]) hpo rfl (by kernel_rfl) (fun _ _ _ h => h) rfl (by rfl) (fun V hX => (by obtain ⟨g0, g1, g2, g3⟩ := f0 V hX; go_simp)) (fun _ => rfl) hS3 (fun hS4 => ?_)
  simp only [List.setIfInBounds_toArray, List.set_cons_zero, List.set_cons_succ]
  refine takeM (i := 7) 167 (.pointer (some ⟨T, 3, none⟩)) hpo rfl (by kernel_rfl) (fun _ _ _ h => h) rfl (by rfl) (fun V hX => (by go_simp)) (fun _ => rfl) hS4 (fun hS5 => ?_)
  simp only [List.setIfInBounds_toArray, List.set_cons_zero, List.set_cons_succ]
  refine takeM (i := 8) 168 (.slice (some ⟨tb, toff, none⟩) 1 qc) hpo rfl (by kernel_rfl) (fun _ _ _ h => h) rfl (by rfl) (fun V hX => (by obtain ⟨g0, g1, g2, g3⟩ := f0 V hX; go_simp)) (fun _ => rfl) hS5 (fun hS6 => ?_)
  simp only [List.setIfInBounds_toArray, List.set_cons_zero, List.set_cons_succ]
  refine takeM (i := 9) 169 (.pointer (some ⟨tb, toff, none⟩)) hpo rfl (by kernel_rfl) (fun _ _ _ h => h) rfl (by rfl) (fun V hX => (by go_simp)) (fun _ => rfl) hS6 (fun hS7 => ?_)
  simp only [List.setIfInBounds_toArray, List.set_cons_zero, List.set_cons_succ]
  refine takeM (i := 10) 170 (.agg #[.int .u8 q0.r, .int .i64 q0.e, .string q0.w, .slice q0.a q0.n q0.c]) hpo rfl (by kernel_rfl) (fun _ _ _ h => h) rfl (by rfl) (fun V hX => (by obtain ⟨g0, g1, g2, g3⟩ := f1 V hX; go_simp)) (fun _ => rfl) hS7 (fun hS8 => ?_)
  simp only [List.setIfInBounds_toArray, List.set_cons_zero, List.set_cons_succ]
  refine oneM (i := 4) rfl (by kernel_rfl) (by rfl) (fun K hK => ?_)
  go_simp
  refine callsIn_wide.2 ((third_any Wt W0 _ (HTt.out.next HA1.out.below) l _ ⟨13, (n : Int), ⟨wd.toArray⟩, some ⟨tb, toff, none⟩, 1, qc⟩ HLx.out HA1.out.below n HNl.out rfl).mono ?_)
  rintro _ w2 ⟨rfl, hbw2⟩
  have Hw2 := Lib.hid (HA1.out.later hbw2)
  clear hbw2
  refine hK _ _ (fun _ => by rw [HSS.out]; exact ⟨Hw2.out.box, Hw2.out.below⟩) (fun _ => ?_)
  clear hK K
  refine oneM (i := 5) rfl (by kernel_rfl) (by rfl) (fun K hK => ?_)
  go_simp
  refine hK _ _ (fun _ => by rw [HSS.out]; exact ⟨(Hw2.out.alloc _).box, (Hw2.out.alloc _).below⟩) (fun _ => ?_)
  clear hK K
  have Hw3 := Lib.hid (Hw2.out.alloc (.cells #[.string ⟨(thirdV (ownW l n)).toArray⟩] 9))
  refine oneM (i := 6) rfl (by kernel_rfl) (by rfl) (fun K hK => ?_)
  refine wpIn_append_lies (.tmp 161) (.tmp 165) 41 rfl W0.heap.size 9 i0 (.string ByteArray.empty) 1 16 Tryz.underlying41 hi hz0 hz1 hz2 rfl (by decide) _ _ _ rfl Hw3.out.row.2 ⟨w2.heap.size, 0, none⟩ 1 1 [.string ⟨(thirdV (ownW l n)).toArray⟩] rfl rfl (news_at (World.alloc_heap_new w2 _)) (by simp [Value.oneCell']) (by decide) (by unfold maxLen; omega) (by omega) Hw3.out.below.size _ rfl ?_
  intro gw4 cw4 w4 how4 hgw4 hatw4 _
  have Aw4 := Hw3.out.more (m := 1) (ys := [thirdV (ownW l n)]) HB.out HoB.out rfl (by simp [strVal]) how4 hgw4 hatw4 rfl
  have Hw4 := Lib.hid Aw4
  clear how4 hgw4 hatw4 Aw4
  refine hK _ _ (fun _ => by rw [HSS.out]; exact ⟨Hw4.out.box, Hw4.out.below⟩) (fun _ => ?_)
  clear hK K
  refine oneM (i := 11) rfl (by kernel_rfl) (by rfl) (fun K hK => ?_)
  go_simp
  refine callsIn_wide.2 ((HWy.out _ q0 _ _ HTv0.out Hw4.out.below Hw4.out.row.row (by have := Hw4.out.row.1; first | omega | (have := E1.out; have := HVn.out; omega))).mono ?_)
  rintro ew5 w5 hpost
  obtain ⟨aw5, nw5, cw5, rfl, Aw5⟩ := Hw4.out.next HB.out HoB.out hpost
  have Hw5 := Lib.hid Aw5
  clear hpost Aw5
  refine hK _ _ (fun _ => by rw [HSS.out]; exact ⟨Hw5.out.box, Hw5.out.below⟩) (fun _ => ?_)
  clear hK K
  refine oneM (i := 12) rfl (by kernel_rfl) (by rfl) (fun K hK => ?_)
  go_simp
  refine hK _ _ (fun _ => by rw [HSS.out]; exact ⟨Hw5.out.box, Hw5.out.below⟩) (fun _ => ?_)
  clear hK K
  refine doneM (by kernel_rfl) ?_ _
  gi_wp2
  go_ret
  exact Hw5.out.post rfl
end Go.Proofs.YthmnffgjckpkiaaGreatDoor
