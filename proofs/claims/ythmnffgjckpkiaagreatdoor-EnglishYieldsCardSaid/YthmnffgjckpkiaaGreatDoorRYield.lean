/-
  The contract of Yield of the reference of chapter 34.
-/
import Derived.Test.YthmnffgjckpkiaaGreatDoorRWords
import Derived.Test.YthmnffgjckpkiaaGreatDoorYield
namespace Go.Proofs.YthmnffgjckpkiaaGreatDoor
open Go Go.RowKit Go.Shelf

set_option maxRecDepth 100000 in
set_option maxHeartbeats 4000000 in
theorem rYield_any (w : World) (l : List Ent) (lv v : Value) (t : Tr) (hl : EntSlice w lv l) (hv : TreeV (fun _ => True) w v t) :
    Calls Tryz.prog 52 #[lv, v] w fun e w' => ∃ v', e = .returned (.tuple #[v', .int .i64 (yieldS l t).2]) ∧ StrSlice w' v' (yieldS l t).1 ∧ Below w.heap.size w w' := by
  obtain ⟨q, rfl⟩ := hv.form
  have hqr : t.rule = q.r := by
    obtain ⟨qr, qe, qw, qa, qn, qc⟩ := q
    obtain ⟨r, e, wd, sub⟩ := t
    exact (TreeV.headW (show TreeV (fun _ => True) w (.agg #[.int .u8 qr, .int .i64 qe, .string qw, .slice qa qn qc]) _ from hv)).1.symm
  obtain ⟨y, hy⟩ : ∃ y, y = yieldS l t := ⟨_, rfl⟩
  obtain ⟨y1, y2⟩ := y
  rw [← hy]
  obtain ⟨b, hb⟩ : ∃ b, b = okAll l t := ⟨_, rfl⟩
  have HV := Lib.hid hv
  have HL := Lib.hid hl
  have HQr := Lib.hid hqr
  have HY := Lib.hid hy
  have HBo := Lib.hid hb
  clear hv hl hqr hy hb
  unfold TV.val
  go_enter Tryz.func52, Tryz.ntmps52
  go_upto_region 1 with (fail)
  obtain ⟨W1, hW1⟩ : ∃ W1, W1 = w.alloc (.cells #[.int .u8 q.r, .int .i64 q.e, .string q.w, .slice q.a q.n q.c] 39) := ⟨_, rfl⟩
  have hb : Below w.heap.size w W1 := by rw [hW1]; exact (Below.refl _ _).alloc (Nat.le_refl _) _
  have htb : W1.heap[w.heap.size]? = some (.cells #[.int .u8 q.r, .int .i64 q.e, .string q.w, .slice q.a q.n q.c] 39 (0, 0)) := by rw [hW1]; exact heap_atC rfl
  rw [← hW1]
  obtain ⟨T, hT⟩ : ∃ T, T = w.heap.size := ⟨_, rfl⟩
  rw [← hT] at htb ⊢
  have HB1 := Lib.hid hb
  have c0 : W1.cell? ⟨T, 0, none⟩ = some (.int .u8 q.r) := (cell_rowC htb 0).trans rfl
  have c1 : W1.cell? ⟨T, 1, none⟩ = some (.int .i64 q.e) := (cell_rowC htb 1).trans rfl
  have c2 : W1.cell? ⟨T, 2, none⟩ = some (.string q.w) := (cell_rowC htb 2).trans rfl
  have c3 : W1.cell? ⟨T, 3, none⟩ = some (.slice q.a q.n q.c) := (cell_rowC htb 3).trans rfl
  clear hW1 hb htb hT
  have hR := rRight34_any W1 l lv q.val t (HL.out.below HB1.out) (HV.out.move (fun b _ h => ⟨trivial, by obtain ⟨_, _, h⟩ := h; exact HB1.out.block b (cell_lt h)⟩))
  rw [← HBo.out] at hR
  have HR := Lib.hid hR
  clear hR
  go_wp2_with fail
  refine HR.out.mono ?_
  rintro _ w2 ⟨rfl, hb2⟩
  have d0 := cell_kept' hb2 c0
  have d1 := cell_kept' hb2 c1
  have d2 := cell_kept' hb2 c2
  have d3 := cell_kept' hb2 c3
  have HB2 := Lib.hid (HB1.out.trans (hb2.mono HB1.out.size))
  have HB12 := Lib.hid hb2
  clear c0 c1 c2 c3 hb2 HR
  cases b
  · have hyy := HY.out
    rw [yieldS_bad HBo.out.symm] at hyy
    injection hyy with h1 h2
    subst h1 h2
    go_wp2
    go_ret2
    exact ⟨_, rfl, ⟨none, 0, rfl, Nat.le_refl _, Nat.zero_le _, .inl rfl⟩, HB2.out⟩
  · have hyy := HY.out
    rw [yieldS_good HBo.out.symm] at hyy
    injection hyy with h1 h2
    subst h1 h2
    obtain ⟨hval, hsz, hok⟩ : validS l = true ∧ sizeT t ≤ 200 ∧ okS l t = true := by
      have h := HBo.out.symm
      unfold okAll at h
      simp only [Bool.and_eq_true, decide_eq_true_eq] at h
      exact ⟨h.1.1, h.1.2, h.2⟩
    have hcall := rWords_any l hval lv t hok hsz false w2 q (HL.out.below HB2.out) (HV.out.move (fun b _ h => ⟨trivial, by obtain ⟨_, _, h⟩ := h; exact HB2.out.block b (cell_lt h)⟩))
    have HCall := Lib.hid hcall
    have hlen : (wordsF l t false).length ≤ 700 := by have := words_le t hok false; omega
    obtain ⟨ws, hws⟩ : ∃ ws, ws = wordsF l t false := ⟨_, rfl⟩
    rw [← hws] at HCall hlen
    obtain ⟨K, hK⟩ : ∃ K, K = kindS q.r := ⟨_, rfl⟩
    have hyw : yieldW l t = ws ++ if K = 1 then [wDot] else [] := by unfold yieldW; rw [hws, hK, HQr.out]
    have HYw := Lib.hid hyw
    have HK := Lib.hid hK
    clear hcall hval hsz hok hws hyw hK
    unfold TV.val at HCall
    go_wp2_with fail
    refine HCall.out.mono ?_
    rintro _ w3 ⟨v3, rfl, hr3, hb3⟩
    have e0 := cell_kept' hb3 d0
    have HP3 : Go.RowKit.Hid (Pair w2 w3 v3 ws (.slice none 0 0) []) := Lib.hid ⟨hb3, hr3, World.ownsRow_nil _ _ _ _, dis_nil _⟩
    have hcall := rKind_any w3 q.r
    rw [← HK.out] at hcall
    clear HCall hr3 hb3 d0 d1 d2 d3
    have HCall := Lib.hid hcall
    clear hcall
    go_wp2_with fail
    refine HCall.out.mono ?_
    rintro _ w4 ⟨rfl, hb4⟩
    have HP4 := Lib.hid (HP3.out.later hb4)
    clear hb4 HCall HP3 e0
    by_cases hk1 : K = 1
    · have f1 : ((K : Int) == 1) = true := by rw [hk1]; rfl
      have HK1 := Lib.hid hk1
      clear hk1
      go_wp2_with (first
        | (at_builtin; refine wpList_tri_app rfl (.tmp 18) (.tmp 19) rfl rfl rfl (HP4.out.buildM #[.string ⟨#[46]⟩] [wDot] rfl 1 rfl (by decide)) (by simp; omega) ?_; intro v5 W5 T5; have HT5 := Lib.hid T5; clear T5)
        | fail)
      go_ret2
      refine ⟨_, rfl, ?_, HB2.out.trans (HT5.out.below.mono HB2.out.size)⟩
      rw [HYw.out, if_pos HK1.out]
      exact strSlice_of_owns HT5.out.rs
    · have f1 : ((K : Int) == 1) = false := by simp; omega
      have HK1 := Lib.hid hk1
      clear hk1
      go_wp2
      go_ret2
      refine ⟨_, rfl, ?_, HB2.out.trans (HP4.out.below.mono HB2.out.size)⟩
      rw [HYw.out, if_neg HK1.out, List.append_nil]
      exact strSlice_of_owns HP4.out.rs
end Go.Proofs.YthmnffgjckpkiaaGreatDoor
