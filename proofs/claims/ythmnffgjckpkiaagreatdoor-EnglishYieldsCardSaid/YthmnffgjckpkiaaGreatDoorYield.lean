/-
  The contract of 'Yield' of package english.
-/
import Derived.Test.YthmnffgjckpkiaaGreatDoorWriteC
namespace Go.Proofs.YthmnffgjckpkiaaGreatDoor
open Go Go.RowKit Go.Shelf

theorem yieldS_good {l : List Ent} {t : Tr} (h : okAll l t = true) : yieldS l t = (yieldW l t, 0) := by unfold yieldS; rw [if_pos h]
theorem yieldS_bad {l : List Ent} {t : Tr} (h : okAll l t = false) : yieldS l t = ([], 2) := by unfold yieldS; rw [if_neg (by rw [h]; decide)]
set_option maxRecDepth 100000 in
set_option maxHeartbeats 4000000 in
theorem Yield_good (Wt w : World) (ht : Tabs Wt w) (l : List Ent) (lv : Value) (q : TV) (t : Tr) (hl : EntSlice w lv l) (hv : TreeV (fun _ => True) w q.val t) (hok : okAll l t = true) :
    Calls Tryz.prog 30 #[lv, q.val] w fun e w' => ∃ v', e = .returned (.tuple #[v', .int .i64 0]) ∧ RowW w.heap.size w' v' (yieldW l t) ∧ Below w.heap.size w w' := by
  obtain ⟨i0, hi, hz0, hz1, hz2⟩ := info_parts info_str
  obtain ⟨qr, qe, qw, qa, qn, qc⟩ := q
  have hrule : t.rule = qr := by
    obtain ⟨r, e, wd, sub⟩ := t
    exact (TreeV.headW (show TreeV (fun _ => True) w (.agg #[.int .u8 qr, .int .i64 qe, .string qw, .slice qa qn qc]) _ from hv)).1.symm
  have hoks : okS l t = true := by unfold okAll at hok; simp only [Bool.and_eq_true] at hok; exact hok.2
  have hsz : sizeT t ≤ 200 := by unfold okAll at hok; simp only [Bool.and_eq_true, decide_eq_true_eq] at hok; exact hok.1.2
  have hlen := words_le t hoks false
  have A1 : At w w none w.heap.size (.cells #[.int .u8 qr, .int .i64 qe, .string qw, .slice qa qn qc] 36 (0, 0)) (w.alloc (.cells #[.int .u8 qr, .int .i64 qe, .string qw, .slice qa qn qc] 36)) none 0 0 [] := At.start (Below.refl _ _) (RowN.nil _ _) rfl
  have hoB : ∀ g, (none : Option Nat) = some g → w.heap.size ≤ g := fun g h => by cases h
  have HoB := Lib.hid hoB
  have HTt := Lib.hid ht
  have HL := Lib.hid hl
  have HV := Lib.hid hv
  have HOk := Lib.hid hok
  have HOks := Lib.hid hoks
  have HRu := Lib.hid hrule
  obtain ⟨T, hT⟩ : ∃ T, T = w.heap.size := ⟨_, rfl⟩
  obtain ⟨K, hK⟩ : ∃ K, K = kindS qr := ⟨_, rfl⟩
  have HKe := Lib.hid hK
  have HKd := Lib.hid (fun W => kindOf_any W qr)
  clear ht hl hv hok hoks hrule hoB hK
  unfold TV.val
  go_enter Tryz.func30, Tryz.ntmps30
  go_upto_region 1 with (fail)
  obtain ⟨W1, hW1⟩ : ∃ W1, W1 = w.alloc (.cells #[.int .u8 qr, .int .i64 qe, .string qw, .slice qa qn qc] 36) := ⟨_, rfl⟩
  rw [← hW1, ← hT] at A1
  rw [← hW1, ← hT]
  clear hW1 hT
  have HA1 := Lib.hid A1
  have c0 : W1.cell? ⟨T, 0, none⟩ = some (.int .u8 qr) := (cell_rowC A1.box 0).trans rfl
  have c1 : W1.cell? ⟨T, 1, none⟩ = some (.int .i64 qe) := (cell_rowC A1.box 1).trans rfl
  have c2 : W1.cell? ⟨T, 2, none⟩ = some (.string qw) := (cell_rowC A1.box 2).trans rfl
  have c3 : W1.cell? ⟨T, 3, none⟩ = some (.slice qa qn qc) := (cell_rowC A1.box 3).trans rfl
  have hR := Right34_any Wt W1 (HTt.out.next A1.below) l lv (TV.val ⟨qr, qe, qw, qa, qn, qc⟩) t (HL.out.below A1.below) (HV.out.move (fun b _ h => ⟨trivial, by obtain ⟨_, _, h⟩ := h; exact A1.below.block b (cell_lt h)⟩))
  rw [HOk.out] at hR
  have HR := Lib.hid hR
  clear A1 hR
  go_wp2_with fail
  refine HR.out.mono ?_
  rintro _ w2 ⟨rfl, hb2⟩
  have A2 := HA1.out.later hb2
  have d0 : w2.cell? ⟨T, 0, none⟩ = some (.int .u8 qr) := (cell_rowC A2.box 0).trans rfl
  have d1 : w2.cell? ⟨T, 1, none⟩ = some (.int .i64 qe) := (cell_rowC A2.box 1).trans rfl
  have d2 : w2.cell? ⟨T, 2, none⟩ = some (.string qw) := (cell_rowC A2.box 2).trans rfl
  have d3 : w2.cell? ⟨T, 3, none⟩ = some (.slice qa qn qc) := (cell_rowC A2.box 3).trans rfl
  have HA2 := Lib.hid A2
  have hW := write_any Wt w HTt.out l lv HL.out t HOks.out w2 ⟨qr, qe, qw, qa, qn, qc⟩ (.slice none 0 0) [] HV.out A2.below A2.row.row (by simp; omega)
  have HW := Lib.hid hW
  clear A2 hW hb2 c0 c1 c2 c3
  go_wp2_with fail
  refine HW.out.mono ?_
  rintro e3 w3 hpost
  obtain ⟨a3, n3, cc3, rfl, A3⟩ := HA2.out.next (Below.refl _ _) HoB.out hpost
  have f0 : w3.cell? ⟨T, 0, none⟩ = some (.int .u8 qr) := (cell_rowC A3.box 0).trans rfl
  have hn3 : n3 ≤ 600 := by rw [A3.row.1, List.nil_append]; omega
  have HA3 := Lib.hid A3
  have hKc := HKd.out w3
  rw [← HKe.out] at hKc
  have HKc := Lib.hid hKc
  clear hpost A3 hKc d0 d1 d2 d3
  go_wp2_with fail
  refine HKc.out.mono ?_
  rintro _ w4 ⟨rfl, hb4⟩
  have HA4 := Lib.hid (HA3.out.later hb4)
  clear hb4 f0
  by_cases hk1 : K = 1
  · have hd : ((K : Int) == 1) = true := by rw [hk1]; rfl
    have hy : yieldW l t = [] ++ wordsF l t false ++ [wDot] := by unfold yieldW; rw [HRu.out, ← HKe.out, hk1]; rfl
    have HY := Lib.hid hy
    have HA5 := Lib.hid (HA4.out.alloc (.cells #[.string ⟨#[46]⟩] 9))
    clear hk1 hy
    go_wp2_with (at_builtin; refine wpList_append_lies _ rfl (.tmp 18) (.tmp 19) 41 rfl w.heap.size 9 i0 (.string ByteArray.empty) 1 16 Tryz.underlying41 hi hz0 hz1 hz2 rfl (by decide) _ _ _ rfl HA5.out.row.2 ⟨w4.heap.size, 0, none⟩ 1 1 [.string ⟨#[46]⟩] rfl rfl (news_at (World.alloc_heap_new w4 _)) (by simp [Value.oneCell']) (by decide) (by unfold maxLen; omega) (by omega) HA5.out.below.size _ rfl ?_; intro g6 c6 w6 ho6 hg6 hat6 _; have hA6 := HA5.out.more (m := 1) (ys := [wDot]) (Below.refl _ _) HoB.out rfl (by simp [strVal, wDot]) ho6 hg6 hat6 rfl; have HA6 := Lib.hid hA6; clear ho6 hg6 hat6 hA6)
    go_ret2
    exact ⟨_, rfl, by rw [HY.out]; exact HA6.out.row.row, HA6.out.below⟩
  · have hd : ((K : Int) == 1) = false := by simp; omega
    have hy : yieldW l t = [] ++ wordsF l t false := by unfold yieldW; rw [HRu.out, ← HKe.out, if_neg hk1]; simp
    have HY := Lib.hid hy
    clear hk1 hy
    go_wp2
    go_ret2
    exact ⟨_, rfl, by rw [HY.out]; exact HA4.out.row.row, HA4.out.below⟩
/-- **Yield.** -/
theorem Yield_any (Wt w : World) (ht : Tabs Wt w) (l : List Ent) (lv v : Value) (t : Tr) (hl : EntSlice w lv l) (hv : TreeV (fun _ => True) w v t) :
    Calls Tryz.prog 30 #[lv, v] w fun e w' => ∃ v', e = .returned (.tuple #[v', .int .i64 (yieldS l t).2]) ∧ StrSlice w' v' (yieldS l t).1 ∧ Below w.heap.size w w' := by
  cases h : okAll l t
  · rw [yieldS_bad h]
    refine (Yield_bad Wt w ht l lv v t hl hv h).mono ?_
    rintro e w' ⟨rfl, hb⟩
    exact ⟨_, rfl, ⟨none, 0, rfl, Nat.le_refl _, Nat.zero_le _, .inl rfl⟩, hb⟩
  · rw [yieldS_good h]
    obtain ⟨q, rfl⟩ := hv.form
    refine (Yield_good Wt w ht l lv q t hl hv h).mono ?_
    rintro e w' ⟨v', rfl, hr, hb⟩
    exact ⟨_, rfl, strSlice_of_owns hr, hb⟩
end Go.Proofs.YthmnffgjckpkiaaGreatDoor
