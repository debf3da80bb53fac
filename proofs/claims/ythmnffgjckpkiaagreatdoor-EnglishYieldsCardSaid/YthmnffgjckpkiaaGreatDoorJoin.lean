/-
  The contract of 'joined' of package english.
-/
import Derived.Test.YthmnffgjckpkiaaGreatDoorWrite
import Derived.Test.YthmnffgjckpkiaaGreatDoorGEngC
import Derived.Test.YthmnffgjckpkiaaGreatDoorGEngI
namespace Go.Proofs.YthmnffgjckpkiaaGreatDoor
open Go Go.RowKit Go.Shelf
attribute [local go_sem] Oper.semAt_some

set_option maxRecDepth 100000 in
set_option maxHeartbeats 8000000 in
/-- **joined.** -/
theorem joined_any (W0 w : World) (l : List Ent) (lv : Value) (r e : Int) (wd : List UInt8) (y z : Tr) (hwy : WOk W0 l lv y) (hwz : WOk W0 l lv z) (q : TV) (ov : Value) (xs : List (List UInt8)) (glue : List UInt8)
    (hv : TreeV (fun _ => True) W0 q.val (.node r e wd [y, z])) (hb : Below W0.heap.size W0 w) (ho : RowW W0.heap.size w ov xs) (hlen : xs.length + 8 * (sizeT y + sizeT z) + 4 ≤ 4000) (hoy : okS l y = true) :
    Calls Tryz.prog 90 #[lv, ov, q.val, .string ⟨glue.toArray⟩] w (WPost W0.heap.size w ov (xs ++ wordsF l y false ++ [glue] ++ wordsF l z false)) := by
  obtain ⟨i0, hi, hz0, hz1, hz2⟩ := info_parts info_str
  obtain ⟨qr, qe, qw, qa, qn, qc⟩ := q
  have hpar := TreeV.parts hv
  obtain ⟨tb, toff, q0, hab, htv0, _, g0, g1, g2, g3⟩ := hpar 0 (by simp)
  obtain ⟨tb', toff', q1, hab', htv1, _, k0, k1, k2, k3⟩ := hpar 1 (by simp)
  have hqn : qn = 2 := hv.lenW
  simp only at hab hab'
  subst hab
  simp only [Option.some.injEq, Addr.mk.injEq, and_true] at hab'
  obtain ⟨rfl, rfl⟩ := hab'
  subst hqn
  simp only [Nat.zero_mul, Nat.add_zero, Nat.one_mul] at g0 g1 g2 g3 k0 k1 k2 k3
  obtain ⟨va, vn, vc, rfl, hr⟩ := RowN.of ho
  have hly := words_le y hoy false
  have HB := Lib.hid hb
  have HW0 := Lib.hid hwy
  have HW1 := Lib.hid hwz
  have HTv0 := Lib.hid htv0
  have HTv1 := Lib.hid htv1
  have HoB : Go.RowKit.Hid (∀ g, (Value.slice va vn vc).ownBlock = some g → W0.heap.size ≤ g) := Lib.hid (fun g h => (hr.lt h).1)
  have A1 : At W0 w (Value.slice va vn vc).ownBlock w.heap.size (.cells #[.int .u8 qr, .int .i64 qe, .string qw, .slice (some ⟨tb, toff, none⟩) 2 qc] 36 (0, 0)) (w.alloc (.cells #[.int .u8 qr, .int .i64 qe, .string qw, .slice (some ⟨tb, toff, none⟩) 2 qc] 36)) va vn vc xs := At.start hb hr rfl
  obtain ⟨T, hT⟩ : ∃ T, T = w.heap.size := ⟨_, rfl⟩
  obtain ⟨S, hS⟩ : ∃ S : World → Prop, S = fun V => V.heap[T]? = some (.cells #[.int .u8 qr, .int .i64 qe, .string qw, .slice (some ⟨tb, toff, none⟩) 2 qc] 36 (0, 0)) ∧ Below W0.heap.size W0 V := ⟨_, rfl⟩
  have f0 : ∀ V, S V → V.cell? ⟨T, 3, none⟩ = some (.slice (some ⟨tb, toff, none⟩) 2 qc) := fun V h => by rw [hS] at h; exact (cell_rowC h.1 3).trans rfl
  have f1 : ∀ V, S V → V.cell? ⟨tb, toff, none⟩ = some (.int .u8 q0.r) ∧ V.cell? ⟨tb, toff + 1, none⟩ = some (.int .i64 q0.e) ∧ V.cell? ⟨tb, toff + 2, none⟩ = some (.string q0.w) ∧ V.cell? ⟨tb, toff + 3, none⟩ = some (.slice q0.a q0.n q0.c) := fun V h => by rw [hS] at h; exact ⟨cell_kept' h.2 g0, cell_kept' h.2 g1, cell_kept' h.2 g2, cell_kept' h.2 g3⟩
  have f2 : ∀ V, S V → V.cell? ⟨tb, toff + 4, none⟩ = some (.int .u8 q1.r) ∧ V.cell? ⟨tb, toff + 4 + 1, none⟩ = some (.int .i64 q1.e) ∧ V.cell? ⟨tb, toff + 4 + 2, none⟩ = some (.string q1.w) ∧ V.cell? ⟨tb, toff + 4 + 3, none⟩ = some (.slice q1.a q1.n q1.c) := fun V h => by rw [hS] at h; exact ⟨cell_kept' h.2 k0, cell_kept' h.2 k1, cell_kept' h.2 k2, cell_kept' h.2 k3⟩
  have E1 := Lib.hid (show (xs ++ wordsF l y false).length = xs.length + (wordsF l y false).length from List.length_append)
  have E2 := Lib.hid (show (xs ++ wordsF l y false ++ [glue]).length = xs.length + (wordsF l y false).length + 1 by simp; omega)
  have HSS := Lib.hid hS
  clear hv hpar htv0 htv1 hb ho hwy hwz hr g0 g1 g2 g3 k0 k1 k2 k3 hS
  unfold TV.val
  refine (callsIn_wide (n := 3)).1 ?_
  refine callsIn_of_wp Tryz.func90 rfl trivial ?_ rfl
  simp only [Tryz.ntmps90, List.size_toArray, List.length_cons, List.length_nil, Nat.reduceAdd, Nat.reduceSub, Array.replicate_succ, Array.replicate_zero, List.push_toArray, List.append_toArray, List.nil_append, List.cons_append]
  have hfw : ∀ f, Fence.wide.fn f := fun _ => trivial
  gi_wp2_with fail
  obtain ⟨W1, hW1⟩ : ∃ W1, W1 = w.alloc (.cells #[.int .u8 qr, .int .i64 qe, .string qw, .slice (some ⟨tb, toff, none⟩) 2 qc] 36) := ⟨_, rfl⟩
  rw [← hW1, ← hT] at A1 ⊢
  clear hW1 hT
  have hSd : S W1.drew := by rw [HSS.out]; exact ⟨A1.drew.box, A1.drew.below⟩
  have A1d := A1.drew
  have HA1 := Lib.hid A1d
  clear A1 A1d
  refine regionM S 17 (by kernel_rfl) hSd (fun hpo hS0 => ?_)
  refine takeM (i := 0) 9 lv hpo rfl (by kernel_rfl) (fun _ _ _ h => h) rfl (by rfl) (fun V hX => (by go_simp)) (fun _ => rfl) hS0 (fun hS1 => ?_)
  simp only [List.setIfInBounds_toArray, List.set_cons_zero, List.set_cons_succ]
  refine takeM (i := 1) 10 lv hpo rfl (by kernel_rfl) (fun _ _ _ h => h) rfl (by rfl) (fun V hX => (by go_simp)) (fun _ => rfl) hS1 (fun hS2 => ?_)
  simp only [List.setIfInBounds_toArray, List.set_cons_zero, List.set_cons_succ]
  refine takeM (i := 2) 11 (.slice va vn vc) hpo rfl (by kernel_rfl) (fun _ _ _ h => h) rfl (by rfl) (fun V hX => (by go_simp)) (fun _ => rfl) hS2 (fun hS3 => ?_)
  simp only [List.setIfInBounds_toArray, List.set_cons_zero, List.set_cons_succ]
  refine takeM (i := 3) 12 (.pointer (some ⟨T, 3, none⟩)) hpo rfl (by kernel_rfl) (fun _ _ _ h => h) rfl (by rfl) (fun V hX => (by go_simp)) (fun _ => rfl) hS3 (fun hS4 => ?_)
  simp only [List.setIfInBounds_toArray, List.set_cons_zero, List.set_cons_succ]
  refine takeM (i := 4) 13 (.slice (some ⟨tb, toff, none⟩) 2 qc) hpo rfl (by kernel_rfl) (fun _ _ _ h => h) rfl (by rfl) (fun V hX => (by have g0 := f0 V hX; go_simp)) (fun _ => rfl) hS4 (fun hS5 => ?_)
  simp only [List.setIfInBounds_toArray, List.set_cons_zero, List.set_cons_succ]
  refine takeM (i := 5) 14 (.pointer (some ⟨tb, toff, none⟩)) hpo rfl (by kernel_rfl) (fun _ _ _ h => h) rfl (by rfl) (fun V hX => (by go_simp)) (fun _ => rfl) hS5 (fun hS6 => ?_)
  simp only [List.setIfInBounds_toArray, List.set_cons_zero, List.set_cons_succ]
  refine takeM (i := 6) 15 (.agg #[.int .u8 q0.r, .int .i64 q0.e, .string q0.w, .slice q0.a q0.n q0.c]) hpo rfl (by kernel_rfl) (fun _ _ _ h => h) rfl (by rfl) (fun V hX => (by obtain ⟨g0, g1, g2, g3⟩ := f1 V hX; go_simp)) (fun _ => rfl) hS6 (fun hS7 => ?_)
  simp only [List.setIfInBounds_toArray, List.set_cons_zero, List.set_cons_succ]
  refine takeM (i := 8) 17 (.string ⟨glue.toArray⟩) hpo rfl (by kernel_rfl) (fun _ _ _ h => h) rfl (by rfl) (fun V hX => (by go_simp)) (fun _ => rfl) hS7 (fun hS8 => ?_)
  simp only [List.setIfInBounds_toArray, List.set_cons_zero, List.set_cons_succ]
  refine takeM (i := 11) 20 (.pointer (some ⟨T, 3, none⟩)) hpo rfl (by kernel_rfl) (fun _ _ _ h => h) rfl (by rfl) (fun V hX => (by go_simp)) (fun _ => rfl) hS8 (fun hS9 => ?_)
  simp only [List.setIfInBounds_toArray, List.set_cons_zero, List.set_cons_succ]
  refine takeM (i := 12) 21 (.slice (some ⟨tb, toff, none⟩) 2 qc) hpo rfl (by kernel_rfl) (fun _ _ _ h => h) rfl (by rfl) (fun V hX => (by have g0 := f0 V hX; go_simp)) (fun _ => rfl) hS9 (fun hS10 => ?_)
  simp only [List.setIfInBounds_toArray, List.set_cons_zero, List.set_cons_succ]
  refine takeM (i := 13) 22 (.pointer (some ⟨tb, toff + 4, none⟩)) hpo rfl (by kernel_rfl) (fun _ _ _ h => h) rfl (by rfl) (fun V hX => (by go_simp)) (fun _ => rfl) hS10 (fun hS11 => ?_)
  simp only [List.setIfInBounds_toArray, List.set_cons_zero, List.set_cons_succ]
  refine takeM (i := 14) 23 (.agg #[.int .u8 q1.r, .int .i64 q1.e, .string q1.w, .slice q1.a q1.n q1.c]) hpo rfl (by kernel_rfl) (fun _ _ _ h => h) rfl (by rfl) (fun V hX => (by obtain ⟨g0, g1, g2, g3⟩ := f2 V hX; go_simp)) (fun _ => rfl) hS11 (fun hS12 => ?_)
  simp only [List.setIfInBounds_toArray, List.set_cons_zero, List.set_cons_succ]
  refine twoM (i := 7) (j := 9) rfl rfl (by kernel_rfl) (by rfl) (by rfl) (fun K hK => ?_) (fun K hK => ?_)
  · go_simp
    refine callsIn_wide.2 ((HW0.out _ q0 _ _ HTv0.out HA1.out.below HA1.out.row.row (by have := HA1.out.row.1; have := E1.out; have := E2.out; omega)).mono ?_)
    rintro ew2 w2 hpost
    obtain ⟨aw2, nw2, cw2, rfl, Aw2⟩ := HA1.out.next HB.out HoB.out hpost
    clear hpost
    refine hK _ _ (fun _ => by rw [HSS.out]; exact ⟨Aw2.box, Aw2.below⟩) (fun _ => ?_)
    clear hK K
    refine oneM (i := 9) rfl (by kernel_rfl) (by rfl) (fun K hK => ?_)
    go_simp
    refine hK _ _ (fun _ => by rw [HSS.out]; exact ⟨(Aw2.alloc _).box, (Aw2.alloc _).below⟩) (fun _ => ?_)
    clear hK K
    have Ab2 := Aw2.alloc (.cells #[.string ⟨glue.toArray⟩] 9)
    refine oneM (i := 10) rfl (by kernel_rfl) (by rfl) (fun K hK => ?_)
    refine wpIn_append_lies (.tmp 16) (.tmp 18) 41 rfl W0.heap.size 9 i0 (.string ByteArray.empty) 1 16 Tryz.underlying41 hi hz0 hz1 hz2 rfl (by decide) _ _ _ rfl Ab2.row.2 ⟨w2.heap.size, 0, none⟩ 1 1 [.string ⟨glue.toArray⟩] rfl rfl (news_at (World.alloc_heap_new w2 _)) (by simp [Value.oneCell']) (by decide) (by have := Ab2.row.1; have := E1.out; have := E2.out; unfold maxLen; omega) (by have := Ab2.row.1; have := E1.out; have := E2.out; omega) Ab2.below.size _ rfl ?_
    intro gw3 cw3 w3 how3 hgw3 hatw3 _
    have Aw3 := Ab2.more (m := 1) (ys := [glue]) HB.out HoB.out rfl rfl how3 hgw3 hatw3 rfl
    clear how3 hgw3 hatw3
    refine hK _ _ (fun _ => by rw [HSS.out]; exact ⟨Aw3.box, Aw3.below⟩) (fun _ => ?_)
    clear hK K
    have Hw3 := Lib.hid Aw3
    clear Aw3
    refine oneM (i := 15) rfl (by kernel_rfl) (by rfl) (fun K hK => ?_)
    go_simp
    refine callsIn_wide.2 ((HW1.out _ q1 _ _ HTv1.out Hw3.out.below Hw3.out.row.row (by have := Hw3.out.row.1; have := E1.out; have := E2.out; omega)).mono ?_)
    rintro ew4 w4 hpost
    obtain ⟨aw4, nw4, cw4, rfl, Aw4⟩ := Hw3.out.next HB.out HoB.out hpost
    clear hpost
    refine hK _ _ (fun _ => by rw [HSS.out]; exact ⟨Aw4.box, Aw4.below⟩) (fun _ => ?_)
    clear hK K
    refine oneM (i := 16) rfl (by kernel_rfl) (by rfl) (fun K hK => ?_)
    go_simp
    refine hK _ _ (fun _ => by rw [HSS.out]; exact ⟨Aw4.box, Aw4.below⟩) (fun _ => ?_)
    clear hK K
    refine doneM (by kernel_rfl) ?_ _
    have Hw4 := Lib.hid Aw4
    clear Aw4
    gi_wp2
    go_ret
    exact Hw4.out.post rfl
  · go_simp
    refine hK _ _ (fun _ => by rw [HSS.out]; exact ⟨(HA1.out.alloc _).box, (HA1.out.alloc _).below⟩) (fun _ => ?_)
    clear hK K
    have Ab1 := HA1.out.alloc (.cells #[.string ⟨glue.toArray⟩] 9)
    have hbk := World.alloc_heap_new W1.drew (.cells #[.string ⟨glue.toArray⟩] 9)
    refine oneM (i := 7) rfl (by kernel_rfl) (by rfl) (fun K hK => ?_)
    go_simp
    refine callsIn_wide.2 ((HW0.out _ q0 _ _ HTv0.out Ab1.below Ab1.row.row (by have := Ab1.row.1; have := E1.out; have := E2.out; omega)).mono ?_)
    rintro ew2 w2 hpost
    have hgl := hpost.kept hbk (fun g h e => by have := (HA1.out.row.lt h).2; omega)
    obtain ⟨aw2, nw2, cw2, rfl, Aw2⟩ := Ab1.next HB.out HoB.out hpost
    clear hpost
    refine hK _ _ (fun _ => by rw [HSS.out]; exact ⟨Aw2.box, Aw2.below⟩) (fun _ => ?_)
    clear hK K
    refine oneM (i := 10) rfl (by kernel_rfl) (by rfl) (fun K hK => ?_)
    refine wpIn_append_lies (.tmp 16) (.tmp 18) 41 rfl W0.heap.size 9 i0 (.string ByteArray.empty) 1 16 Tryz.underlying41 hi hz0 hz1 hz2 rfl (by decide) _ _ _ rfl Aw2.row.2 ⟨W1.drew.heap.size, 0, none⟩ 1 1 [.string ⟨glue.toArray⟩] rfl rfl (news_at hgl) (by simp [Value.oneCell']) (by decide) (by have := Aw2.row.1; have := E1.out; have := E2.out; unfold maxLen; omega) (by have := Aw2.row.1; have := E1.out; have := E2.out; omega) Aw2.below.size _ rfl ?_
    intro gw3 cw3 w3 how3 hgw3 hatw3 _
    have Aw3 := Aw2.more (m := 1) (ys := [glue]) HB.out HoB.out rfl rfl how3 hgw3 hatw3 rfl
    clear how3 hgw3 hatw3
    refine hK _ _ (fun _ => by rw [HSS.out]; exact ⟨Aw3.box, Aw3.below⟩) (fun _ => ?_)
    clear hK K
    have Hw3 := Lib.hid Aw3
    clear Aw3
    refine oneM (i := 15) rfl (by kernel_rfl) (by rfl) (fun K hK => ?_)
    go_simp
    refine callsIn_wide.2 ((HW1.out _ q1 _ _ HTv1.out Hw3.out.below Hw3.out.row.row (by have := Hw3.out.row.1; have := E1.out; have := E2.out; omega)).mono ?_)
    rintro ew4 w4 hpost
    obtain ⟨aw4, nw4, cw4, rfl, Aw4⟩ := Hw3.out.next HB.out HoB.out hpost
    clear hpost
    refine hK _ _ (fun _ => by rw [HSS.out]; exact ⟨Aw4.box, Aw4.below⟩) (fun _ => ?_)
    clear hK K
    refine oneM (i := 16) rfl (by kernel_rfl) (by rfl) (fun K hK => ?_)
    go_simp
    refine hK _ _ (fun _ => by rw [HSS.out]; exact ⟨Aw4.box, Aw4.below⟩) (fun _ => ?_)
    clear hK K
    refine doneM (by kernel_rfl) ?_ _
    have Hw4 := Lib.hid Aw4
    clear Aw4
    gi_wp2
    go_ret
    exact Hw4.out.post rfl
end Go.Proofs.YthmnffgjckpkiaaGreatDoor
