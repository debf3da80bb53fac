/-
  The contract of 'before' of the laws of chapter 34, at a parse that comes ahead.
-/
import Derived.Test.YthmnffgjckpkiaaGreatDoorLength
import Derived.Test.YthmnffgjckpkiaaGreatDoorGEngI
import Derived.Test.YthmnffgjckpkiaaGreatDoorGPlain
namespace Go.Proofs.YthmnffgjckpkiaaGreatDoor
open Go Go.RowKit Go.Shelf

set_option maxRecDepth 100000 in
set_option maxHeartbeats 8000000 in
/-- **before**, at parses that differ in a part. -/
theorem before_node (Wt : World) (l : List Ent) (lv : Value) (r e : Int) (wd : List UInt8) (s s' : List Tr) (j : Nat) (hj : j < s.length) (hj' : j < s'.length)
    (heq : ∀ i (h : i < j), s[i]'(Nat.lt_trans h hj) = s'[i]'(Nat.lt_trans h hj')) (hne : s[j] ≠ s'[j]) (hl : lenS l (s[0]'(Nat.lt_of_le_of_lt (Nat.zero_le _) hj)) = lenS l (s'[0]'(Nat.lt_of_le_of_lt (Nat.zero_le _) hj'))) (hslim : Slim (.node r e wd s))
    (ih : ∀ (w : World) (qa qb : TV), Tabs Wt w → EntSlice w lv l → TreeV (fun _ => True) w qa.val s[j] → TreeV (fun _ => True) w qb.val s'[j] →
      Calls Tryz.prog 38 #[lv, qa.val, qb.val] w fun e w' => e = .returned (.bool true) ∧ Below w.heap.size w w')
    (w : World) (qa qb : TV) (ht : Tabs Wt w) (hlx : EntSlice w lv l) (hva : TreeV (fun _ => True) w qa.val (.node r e wd s)) (hvb : TreeV (fun _ => True) w qb.val (.node r e wd s')) :
    Calls Tryz.prog 38 #[lv, qa.val, qb.val] w fun e w' => e = .returned (.bool true) ∧ Below w.heap.size w w' := by
  obtain ⟨ar, ae, aw, aa, an, ac⟩ := qa
  obtain ⟨br, be, bw, ba, bn, bc⟩ := qb
  have hPA := TreeV.parts (show TreeV (fun _ => True) w (.agg #[.int .u8 ar, .int .i64 ae, .string aw, .slice aa an ac]) _ from hva)
  have hPB := TreeV.parts (show TreeV (fun _ => True) w (.agg #[.int .u8 br, .int .i64 be, .string bw, .slice ba bn bc]) _ from hvb)
  have hna := TreeV.lenW (show TreeV (fun _ => True) w (.agg #[.int .u8 ar, .int .i64 ae, .string aw, .slice aa an ac]) _ from hva)
  have hnb := TreeV.lenW (show TreeV (fun _ => True) w (.agg #[.int .u8 br, .int .i64 be, .string bw, .slice ba bn bc]) _ from hvb)
  obtain ⟨hr1, he1, hw1⟩ := TreeV.headW (show TreeV (fun _ => True) w (.agg #[.int .u8 ar, .int .i64 ae, .string aw, .slice aa an ac]) _ from hva)
  obtain ⟨hr2, he2, hw2⟩ := TreeV.headW (show TreeV (fun _ => True) w (.agg #[.int .u8 br, .int .i64 be, .string bw, .slice ba bn bc]) _ from hvb)
  subst hr1 he1 hw1 hr2 he2 hw2
  have hpa := hPA 0 (Nat.lt_of_le_of_lt (Nat.zero_le _) hj)
  have hpb := hPB 0 (Nat.lt_of_le_of_lt (Nat.zero_le _) hj')
  obtain ⟨tb, tof, q0, rfl, ht0, hz0, u0, u1, u2, u3⟩ := hpa
  obtain ⟨tc, tp, q1, rfl, ht1, hz1, v0, v1, v2, v3⟩ := hpb
  clear hz0 hz1
  simp only [Nat.zero_mul, Nat.add_zero] at u0 u1 u2 u3 v0 v1 v2 v3
  have hss : ∀ t ∈ s, Slim t := by cases hslim with | mk _ _ _ _ _ h => exact h
  have hsn : s.length ≤ 1000 := by cases hslim with | mk _ _ _ _ h _ => exact h
  have HSS := Lib.hid hss
  have hja : j < an := by rw [hna]; exact hj
  have hjb : j < bn := by rw [hnb]; exact hj'
  have hj1000 : j ≤ 1000 := by omega
  obtain ⟨m, hm, hk⟩ : ∃ m, m = lenS l (s[0]'(Nat.lt_of_le_of_lt (Nat.zero_le _) hj)) ∧ m = lenS l (s'[0]'(Nat.lt_of_le_of_lt (Nat.zero_le _) hj')) := ⟨_, rfl, hl⟩
  have HM := Lib.hid hm
  have HK := Lib.hid hk
  have HT := Lib.hid ht
  have HL := Lib.hid hlx
  have HT0 := Lib.hid ht0
  have HT1 := Lib.hid ht1
  have HEq := Lib.hid heq
  have HNe := Lib.hid hne
  have HIh := Lib.hid ih
  have HPA := Lib.hid hPA
  have HPB := Lib.hid hPB
  have HJ := Lib.hid hj
  have HJ' := Lib.hid hj'
  have h1 : ∀ z : Int, (z != z) = false := by simp
  have hd0 : decide ((0 : Int) < (an : Int)) = true := decide_eq_true (by omega)
  have hd1 : decide (0 < an) = true := decide_eq_true (by omega)
  have hd2 : decide ((0 : Int) < (bn : Int)) = true := decide_eq_true (by omega)
  have hd3 : decide (0 < bn) = true := decide_eq_true (by omega)
  have b1 : (0 : Int) < (an : Int) := by omega
  have b2 : (0 : Int) < (bn : Int) := by omega
  clear hva hvb hna hnb hm hk hl ht hlx ht0 ht1 heq hne ih hPA hPB hss hslim
  unfold TV.val
  go_enter Tryz.func38, Tryz.ntmps38
  go_upto_region 8 with (fail)
  obtain ⟨W1, hW1⟩ : ∃ W1, W1 = (w.alloc (.cells #[.int .u8 br, .int .i64 be, .string ⟨wd.toArray⟩, .slice (some ⟨tb, tof, none⟩) an ac] 36)).alloc (.cells #[.int .u8 br, .int .i64 be, .string ⟨wd.toArray⟩, .slice (some ⟨tc, tp, none⟩) bn bc] 36) := ⟨_, rfl⟩
  have hB : Below w.heap.size w W1 := by rw [hW1]; exact ((Below.refl _ _).alloc (by first | (simp; done) | (simp; omega)) _).alloc (by first | (simp; done) | (simp; omega)) _
  have hx : W1.heap[w.heap.size]? = some (.cells #[.int .u8 br, .int .i64 be, .string ⟨wd.toArray⟩, .slice (some ⟨tb, tof, none⟩) an ac] 36 (0, 0)) := by rw [hW1, Below.heap_alloc _ _ _ (by simp)]; exact heap_atC rfl
  have hy : W1.heap[w.heap.size + 1]? = some (.cells #[.int .u8 br, .int .i64 be, .string ⟨wd.toArray⟩, .slice (some ⟨tc, tp, none⟩) bn bc] 36 (0, 0)) := by rw [hW1]; exact heap_atC (by simp)
  rw [← hW1]
  obtain ⟨T, hTe⟩ : ∃ T, T = w.heap.size := ⟨_, rfl⟩
  rw [← hTe] at hx hy ⊢
  have y0 := (cell_rowC hx 3).trans (show _ = some (Value.slice (some ⟨tb, tof, none⟩) an ac) from rfl)
  have y1 := (cell_rowC hy 3).trans (show _ = some (Value.slice (some ⟨tc, tp, none⟩) bn bc) from rfl)
  have HY0 := Lib.hid y0
  have HY1 := Lib.hid y1
  have f0 : ∀ x : Later W1, x.w.cell? ⟨T, 3, none⟩ = some (.slice (some ⟨tb, tof, none⟩) an ac) := fun x => x.get y0
  have f1 : ∀ x : Later W1, x.w.cell? ⟨T + 1, 3, none⟩ = some (.slice (some ⟨tc, tp, none⟩) bn bc) := fun x => x.get y1
  have g0 := fun x : Later W1 => x.get (cell_kept' hB u0)
  have g1 := fun x : Later W1 => x.get (cell_kept' hB u1)
  have g2 := fun x : Later W1 => x.get (cell_kept' hB u2)
  have g3 := fun x : Later W1 => x.get (cell_kept' hB u3)
  have k0 := fun x : Later W1 => x.get (cell_kept' hB v0)
  have k1 := fun x : Later W1 => x.get (cell_kept' hB v1)
  have k2 := fun x : Later W1 => x.get (cell_kept' hB v2)
  have k3 := fun x : Later W1 => x.get (cell_kept' hB v3)
  have HB := Lib.hid hB
  have hCa : ∀ x : Later W1, Calls Tryz.prog 31 #[lv, q0.val] x.w fun e w' => e = .returned (.int .i64 m) ∧ Below x.w.heap.size x.w w' := fun x => by
    have hb : Below w.heap.size w x.w := HB.out.trans (x.below.mono HB.out.size)
    rw [HM.out]
    exact length_any Wt x.w (HT.out.next hb) l lv q0 _ (HL.out.below hb) (HT0.out.move (fun b _ h => ⟨trivial, by obtain ⟨_, _, h⟩ := h; exact hb.block b (cell_lt h)⟩))
  have hCb : ∀ x : Later W1, Calls Tryz.prog 31 #[lv, q1.val] x.w fun e w' => e = .returned (.int .i64 m) ∧ Below x.w.heap.size x.w w' := fun x => by
    have hb : Below w.heap.size w x.w := HB.out.trans (x.below.mono HB.out.size)
    rw [HK.out]
    exact length_any Wt x.w (HT.out.next hb) l lv q1 _ (HL.out.below hb) (HT1.out.move (fun b _ h => ⟨trivial, by obtain ⟨_, _, h⟩ := h; exact hb.block b (cell_lt h)⟩))
  have HCa := Lib.hid hCa
  have HCb := Lib.hid hCb
  clear hW1 hB hx hy hTe hCa hCb u0 u1 u2 u3 v0 v1 v2 v3 y0 y1
  refine wp_region_later (by kernel_rfl) (by kernel_rfl) ?_
  repeat (go_big_quiet_step (fail))
  go_big_quiet_step ((go_at_call 31; exact later_call (HCa.out _)))
  repeat (go_big_quiet_step (fail))
  go_big_quiet_step ((go_at_call 31; exact later_call (HCb.out _)))
  repeat (go_big_quiet_step (fail))
  refine wpQuiet_nil ?_
  rintro _ ⟨x, rfl⟩
  obtain ⟨W2, hW2⟩ : ∃ W2, W2 = x.w := ⟨_, rfl⟩
  have hb12 : Below W1.heap.size W1 W2 := by rw [hW2]; exact x.below
  rw [← hW2]
  have HB2 := Lib.hid hb12
  clear hW2 x hb12 f0 f1 g0 g1 g2 g3 k0 k1 k2 k3 HCa HCb
  go_wp2
  go_loopw [9] (fun q wr => ∃ k : Nat, k ≤ j ∧ q = .int .i64 k ∧ Below W2.heap.size W2 wr) (fun q _ => j + 1 - (intOf q).toNat)
  case atStart => exact ⟨0, Nat.zero_le _, rfl, Below.refl _ _⟩
  case round =>
    obtain ⟨k, hk, rfl, hbr⟩ := hrel
    have h1r : Below W1.heap.size W1 wr := HB2.out.trans (hbr.mono HB2.out.size)
    have HBr := Lib.hid h1r
    have HBr2 := Lib.hid hbr
    have hwr : Below w.heap.size w wr := HB.out.trans (h1r.mono HB.out.size)
    have hks : k < s.length := Nat.lt_of_le_of_lt hk HJ.out
    have hks' : k < s'.length := Nat.lt_of_le_of_lt hk HJ'.out
    obtain ⟨tb', tof', p, hab, htp, hz0, u0, u1, u2, u3⟩ := HPA.out k hks
    cases hab
    obtain ⟨tc', tp', p', hab', htp', hz1, v0, v1, v2, v3⟩ := HPB.out k hks'
    cases hab'
    clear hz0 hz1
    have hka : k < an := by omega
    have hkb : k < bn := by omega
    have hk1000 : k ≤ 1000 := by omega
    have d0 : decide ((k : Int) < (an : Int)) = true := decide_eq_true (by omega)
    have d1 : decide (k < an) = true := decide_eq_true hka
    have d2 : decide ((k : Int) < (bn : Int)) = true := decide_eq_true (by omega)
    have d3 : decide (k < bn) = true := decide_eq_true hkb
    have i1 : (k : Int) < (an : Int) := by omega
    have i2 : (k : Int) < (bn : Int) := by omega
    have c0 : wr.cell? ⟨T, 3, none⟩ = some (.slice (some ⟨tb, tof, none⟩) an ac) := cell_kept' h1r HY0.out
    have c1 : wr.cell? ⟨T + 1, 3, none⟩ = some (.slice (some ⟨tc, tp, none⟩) bn bc) := cell_kept' h1r HY1.out
    have cu0 := cell_kept' hwr u0
    have cu1 := cell_kept' hwr u1
    have cu2 := cell_kept' hwr u2
    have cu3 := cell_kept' hwr u3
    have cv0 := cell_kept' hwr v0
    have cv1 := cell_kept' hwr v1
    have cv2 := cell_kept' hwr v2
    have cv3 := cell_kept' hwr v3
    have HCells := Lib.hid (And.intro c0 (And.intro c1 (And.intro (And.intro cu0 (And.intro cu1 (And.intro cu2 cu3))) (And.intro cv0 (And.intro cv1 (And.intro cv2 cv3))))))
    have HTp := Lib.hid htp
    have HTp' := Lib.hid htp'
    have f0 := fun x : Later wr => x.get c0
    have f1 := fun x : Later wr => x.get c1
    have g0 := fun x : Later wr => x.get cu0
    have g1 := fun x : Later wr => x.get cu1
    have g2 := fun x : Later wr => x.get cu2
    have g3 := fun x : Later wr => x.get cu3
    have k0 := fun x : Later wr => x.get cv0
    have k1 := fun x : Later wr => x.get cv1
    have k2 := fun x : Later wr => x.get cv2
    have k3 := fun x : Later wr => x.get cv3
    obtain ⟨R, hR⟩ : ∃ R, R = eqT s[k] s'[k] := ⟨_, rfl⟩
    have hC : ∀ x : Later wr, Calls Tryz.prog 18 #[p.val, p'.val] x.w fun e w' => e = .returned (.bool R) ∧ Below x.w.heap.size x.w w' := fun x => by
      rw [hR]
      have hb : Below w.heap.size w x.w := hwr.trans (x.below.mono hwr.size)
      exact Same34_any s[k] (HSS.out _ (List.getElem_mem hks)) s'[k] x.w p.val p'.val (htp.move (fun b _ h => ⟨trivial, by obtain ⟨_, _, h⟩ := h; exact hb.block b (cell_lt h)⟩)) (htp'.move (fun b _ h => ⟨trivial, by obtain ⟨_, _, h⟩ := h; exact hb.block b (cell_lt h)⟩))
    have HC := Lib.hid hC
    have HR := Lib.hid hR
    have HWr := Lib.hid hwr
    unfold TV.val at HC
    clear hbr h1r hwr htp htp' u0 u1 u2 u3 v0 v1 v2 v3 cu0 cu1 cu2 cu3 cv0 cv1 cv2 cv3 hC hR
    go_wp2
    clear c0 c1
    refine wp_region_later (by kernel_rfl) (by kernel_rfl) ?_
    repeat (go_big_quiet_step ((go_at_call 18; exact later_call (HC.out _))))
    refine wpQuiet_nil ?_
    rintro _ ⟨x', rfl⟩
    obtain ⟨W3, hW3⟩ : ∃ W3, W3 = x'.w := ⟨_, rfl⟩
    have hb3 : Below wr.heap.size wr W3 := by rw [hW3]; exact x'.below
    rw [← hW3]
    clear hW3 x' f0 f1 g0 g1 g2 g3 k0 k1 k2 k3 HC
    have HB3 := Lib.hid hb3
    by_cases hkj : k < j
    · have hRt : R = true := by rw [HR.out, HEq.out k hkj]; exact eqT_refl _
      clear hb3
      subst hRt
      go_wp2
      go_roundw
      case rel => exact ⟨k + 1, by omega, by go_num, HBr2.out.trans (HB3.out.mono HBr2.out.size)⟩
      case measure => simp [intOf]; omega
    · obtain rfl : k = j := by omega
      have hRf : R = false := by
        rw [HR.out]
        cases h : eqT s[k] s'[k]
        · rfl
        · exact absurd ((eqT_iff _ _).1 h) HNe.out
      subst hRf
      obtain ⟨c0, c1, ⟨cu0, cu1, cu2, cu3⟩, ⟨cv0, cv1, cv2, cv3⟩⟩ := HCells.out
      have f0 := fun x : Later W3 => x.get (cell_kept' hb3 c0)
      have f1 := fun x : Later W3 => x.get (cell_kept' hb3 c1)
      have g0 := fun x : Later W3 => x.get (cell_kept' hb3 cu0)
      have g1 := fun x : Later W3 => x.get (cell_kept' hb3 cu1)
      have g2 := fun x : Later W3 => x.get (cell_kept' hb3 cu2)
      have g3 := fun x : Later W3 => x.get (cell_kept' hb3 cu3)
      have k0 := fun x : Later W3 => x.get (cell_kept' hb3 cv0)
      have k1 := fun x : Later W3 => x.get (cell_kept' hb3 cv1)
      have k2 := fun x : Later W3 => x.get (cell_kept' hb3 cv2)
      have k3 := fun x : Later W3 => x.get (cell_kept' hb3 cv3)
      have hw3 : Below w.heap.size w W3 := HWr.out.trans (hb3.mono HWr.out.size)
      have HW3 := Lib.hid hw3
      have hC : ∀ x : Later W3, Calls Tryz.prog 38 #[lv, p.val, p'.val] x.w fun e w' => e = .returned (.bool true) ∧ Below x.w.heap.size x.w w' := fun x => by
        have hb : Below w.heap.size w x.w := hw3.trans (x.below.mono hw3.size)
        exact HIh.out x.w p p' (HT.out.next hb) (HL.out.below hb) (HTp.out.move (fun b _ h => ⟨trivial, by obtain ⟨_, _, h⟩ := h; exact hb.block b (cell_lt h)⟩)) (HTp'.out.move (fun b _ h => ⟨trivial, by obtain ⟨_, _, h⟩ := h; exact hb.block b (cell_lt h)⟩))
      have HC := Lib.hid hC
      unfold TV.val at HC
      clear hC hw3 hb3 c0 c1 cu0 cu1 cu2 cu3 cv0 cv1 cv2 cv3
      go_wp2
      refine wp_region_later (by kernel_rfl) (by kernel_rfl) ?_
      repeat (go_big_quiet_step ((go_at_call 38; exact later_call (HC.out _))))
      refine wpQuiet_nil ?_
      rintro _ ⟨x'', rfl⟩
      go_wp2
      go_ret
      exact ⟨rfl, HW3.out.trans (x''.below.mono HW3.out.size)⟩

set_option maxRecDepth 100000 in
set_option maxHeartbeats 8000000 in
/-- **before**, at a parse that comes ahead of another one. -/
theorem before_any (Wt : World) (l : List Ent) (lv : Value) : ∀ (a b : Tr), Bef l a b → Slim a → ∀ (w : World) (qa qb : TV), Tabs Wt w → EntSlice w lv l → TreeV (fun _ => True) w qa.val a → TreeV (fun _ => True) w qb.val b →
    Calls Tryz.prog 38 #[lv, qa.val, qb.val] w fun e w' => e = .returned (.bool true) ∧ Below w.heap.size w w' := by
  intro a b h
  induction h with
  | rule r r' e e' wd wd' s s' hr =>
    intro _ w qa qb _ _ hva hvb
    obtain ⟨ar, ae, aw, aa, an, ac⟩ := qa
    obtain ⟨br, be, bw, ba, bn, bc⟩ := qb
    obtain ⟨rfl, rfl, rfl⟩ := TreeV.headW (show TreeV (fun _ => True) w (.agg #[.int .u8 ar, .int .i64 ae, .string aw, .slice aa an ac]) _ from hva)
    obtain ⟨rfl, rfl, rfl⟩ := TreeV.headW (show TreeV (fun _ => True) w (.agg #[.int .u8 br, .int .i64 be, .string bw, .slice ba bn bc]) _ from hvb)
    have h1 : (ar != br) = true := by simp; omega
    have h2 : decide (ar < br) = true := decide_eq_true hr
    clear hva hvb hr
    unfold TV.val
    go_enter Tryz.func38, Tryz.ntmps38
    go_wp2
    go_ret
    exact ⟨rfl, ((Below.refl _ _).alloc (by first | (simp; done) | (simp; omega)) _).alloc (by first | (simp; done) | (simp; omega)) _⟩
  | entry r e e' wd wd' s s' he =>
    intro _ w qa qb _ _ hva hvb
    obtain ⟨ar, ae, aw, aa, an, ac⟩ := qa
    obtain ⟨br, be, bw, ba, bn, bc⟩ := qb
    obtain ⟨rfl, rfl, rfl⟩ := TreeV.headW (show TreeV (fun _ => True) w (.agg #[.int .u8 ar, .int .i64 ae, .string aw, .slice aa an ac]) _ from hva)
    obtain ⟨rfl, rfl, rfl⟩ := TreeV.headW (show TreeV (fun _ => True) w (.agg #[.int .u8 br, .int .i64 be, .string bw, .slice ba bn bc]) _ from hvb)
    have h1 : (br != br) = false := by simp
    have h3 : (ae != be) = true := by simp; omega
    have h2 : decide (ae < be) = true := decide_eq_true he
    clear hva hvb he
    unfold TV.val
    go_enter Tryz.func38, Tryz.ntmps38
    go_wp2
    go_ret
    exact ⟨rfl, ((Below.refl _ _).alloc (by first | (simp; done) | (simp; omega)) _).alloc (by first | (simp; done) | (simp; omega)) _⟩
  | len r e wd a b s s' hl =>
    intro _ w qa qb ht hlx hva hvb
    obtain ⟨ar, ae, aw, aa, an, ac⟩ := qa
    obtain ⟨br, be, bw, ba, bn, bc⟩ := qb
    have hpa := TreeV.parts (show TreeV (fun _ => True) w (.agg #[.int .u8 ar, .int .i64 ae, .string aw, .slice aa an ac]) _ from hva) 0 (by simp)
    have hpb := TreeV.parts (show TreeV (fun _ => True) w (.agg #[.int .u8 br, .int .i64 be, .string bw, .slice ba bn bc]) _ from hvb) 0 (by simp)
    have hna := TreeV.lenW (show TreeV (fun _ => True) w (.agg #[.int .u8 ar, .int .i64 ae, .string aw, .slice aa an ac]) _ from hva)
    have hnb := TreeV.lenW (show TreeV (fun _ => True) w (.agg #[.int .u8 br, .int .i64 be, .string bw, .slice ba bn bc]) _ from hvb)
    obtain ⟨hr1, he1, hw1⟩ := TreeV.headW (show TreeV (fun _ => True) w (.agg #[.int .u8 ar, .int .i64 ae, .string aw, .slice aa an ac]) _ from hva)
    obtain ⟨hr2, he2, hw2⟩ := TreeV.headW (show TreeV (fun _ => True) w (.agg #[.int .u8 br, .int .i64 be, .string bw, .slice ba bn bc]) _ from hvb)
    subst hr1 he1 hw1 hr2 he2 hw2
    obtain ⟨tb, tof, q0, rfl, ht0, _, u0, u1, u2, u3⟩ := hpa
    obtain ⟨tc, tp, q1, rfl, ht1, _, v0, v1, v2, v3⟩ := hpb
    simp only [Nat.zero_mul, Nat.add_zero] at u0 u1 u2 u3 v0 v1 v2 v3
    have ha0 : 0 < an := by rw [hna]; simp
    have hb0 : 0 < bn := by rw [hnb]; simp
    obtain ⟨m, hm⟩ : ∃ m, m = lenS l a := ⟨_, rfl⟩
    obtain ⟨k, hk⟩ : ∃ k, k = lenS l b := ⟨_, rfl⟩
    rw [← hm, ← hk] at hl
    have HM := Lib.hid hm
    have HK := Lib.hid hk
    have HT := Lib.hid ht
    have HL := Lib.hid hlx
    have HT0 := Lib.hid ht0
    have HT1 := Lib.hid ht1
    have h1 : ∀ z : Int, (z != z) = false := by simp
    have hd0 : decide ((0 : Int) < (an : Int)) = true := decide_eq_true (by omega)
    have hd1 : decide (0 < an) = true := decide_eq_true ha0
    have hd2 : decide ((0 : Int) < (bn : Int)) = true := decide_eq_true (by omega)
    have hd3 : decide (0 < bn) = true := decide_eq_true hb0
    have b1 : (0 : Int) < (an : Int) := by omega
    have b2 : (0 : Int) < (bn : Int) := by omega
    have hn1 : ((m : Int) != (k : Int)) = true := by simp; omega
    have hn2 : (m != k) = true := by simp; omega
    have hn3 : decide ((m : Int) < (k : Int)) = true := decide_eq_true (by omega)
    have hn4 : decide (m < k) = true := decide_eq_true hl
    clear hva hvb hna hnb hm hk hl ht hlx ht0 ht1
    unfold TV.val
    go_enter Tryz.func38, Tryz.ntmps38
    go_upto_region 8 with (fail)
    obtain ⟨W1, hW1⟩ : ∃ W1, W1 = (w.alloc (.cells #[.int .u8 br, .int .i64 be, .string ⟨wd.toArray⟩, .slice (some ⟨tb, tof, none⟩) an ac] 36)).alloc (.cells #[.int .u8 br, .int .i64 be, .string ⟨wd.toArray⟩, .slice (some ⟨tc, tp, none⟩) bn bc] 36) := ⟨_, rfl⟩
    have hB : Below w.heap.size w W1 := by rw [hW1]; exact ((Below.refl _ _).alloc (by first | (simp; done) | (simp; omega)) _).alloc (by first | (simp; done) | (simp; omega)) _
    have hx : W1.heap[w.heap.size]? = some (.cells #[.int .u8 br, .int .i64 be, .string ⟨wd.toArray⟩, .slice (some ⟨tb, tof, none⟩) an ac] 36 (0, 0)) := by rw [hW1, Below.heap_alloc _ _ _ (by simp)]; exact heap_atC rfl
    have hy : W1.heap[w.heap.size + 1]? = some (.cells #[.int .u8 br, .int .i64 be, .string ⟨wd.toArray⟩, .slice (some ⟨tc, tp, none⟩) bn bc] 36 (0, 0)) := by rw [hW1]; exact heap_atC (by simp)
    rw [← hW1]
    obtain ⟨T, hTe⟩ : ∃ T, T = w.heap.size := ⟨_, rfl⟩
    rw [← hTe] at hx hy ⊢
    have f0 : ∀ x : Later W1, x.w.cell? ⟨T, 3, none⟩ = some (.slice (some ⟨tb, tof, none⟩) an ac) := fun x => x.get ((cell_rowC hx 3).trans rfl)
    have f1 : ∀ x : Later W1, x.w.cell? ⟨T + 1, 3, none⟩ = some (.slice (some ⟨tc, tp, none⟩) bn bc) := fun x => x.get ((cell_rowC hy 3).trans rfl)
    have g0 := fun x : Later W1 => x.get (cell_kept' hB u0)
    have g1 := fun x : Later W1 => x.get (cell_kept' hB u1)
    have g2 := fun x : Later W1 => x.get (cell_kept' hB u2)
    have g3 := fun x : Later W1 => x.get (cell_kept' hB u3)
    have k0 := fun x : Later W1 => x.get (cell_kept' hB v0)
    have k1 := fun x : Later W1 => x.get (cell_kept' hB v1)
    have k2 := fun x : Later W1 => x.get (cell_kept' hB v2)
    have k3 := fun x : Later W1 => x.get (cell_kept' hB v3)
    have HB := Lib.hid hB
    have hCa : ∀ x : Later W1, Calls Tryz.prog 31 #[lv, q0.val] x.w fun e w' => e = .returned (.int .i64 m) ∧ Below x.w.heap.size x.w w' := fun x => by
      have hb : Below w.heap.size w x.w := HB.out.trans (x.below.mono HB.out.size)
      rw [HM.out]
      exact length_any Wt x.w (HT.out.next hb) l lv q0 a (HL.out.below hb) (HT0.out.move (fun b _ h => ⟨trivial, by obtain ⟨_, _, h⟩ := h; exact hb.block b (cell_lt h)⟩))
    have hCb : ∀ x : Later W1, Calls Tryz.prog 31 #[lv, q1.val] x.w fun e w' => e = .returned (.int .i64 k) ∧ Below x.w.heap.size x.w w' := fun x => by
      have hb : Below w.heap.size w x.w := HB.out.trans (x.below.mono HB.out.size)
      rw [HK.out]
      exact length_any Wt x.w (HT.out.next hb) l lv q1 b (HL.out.below hb) (HT1.out.move (fun b _ h => ⟨trivial, by obtain ⟨_, _, h⟩ := h; exact hb.block b (cell_lt h)⟩))
    have HCa := Lib.hid hCa
    have HCb := Lib.hid hCb
    clear hW1 hB hx hy hTe hCa hCb u0 u1 u2 u3 v0 v1 v2 v3
    refine wp_region_later (by kernel_rfl) (by kernel_rfl) ?_
    repeat (go_big_quiet_step (fail))
    go_big_quiet_step ((go_at_call 31; exact later_call (HCa.out _)))
    repeat (go_big_quiet_step (fail))
    go_big_quiet_step ((go_at_call 31; exact later_call (HCb.out _)))
    repeat (go_big_quiet_step (fail))
    refine wpQuiet_nil ?_
    rintro _ ⟨x, rfl⟩
    go_wp2
    go_ret
    exact ⟨rfl, HB.out.trans (x.below.mono HB.out.size)⟩
  | first r e wd a b s s' hl hab ih =>
    intro hslim w qa qb ht hlx hva hvb
    have hsa : Slim a := by cases hslim with | mk _ _ _ _ _ h => exact h a (by simp)
    exact before_node Wt l lv r e wd (a :: s) (b :: s') 0 (by simp) (by simp) (fun i h => absurd h (Nat.not_lt_zero _)) hab.ne hl hslim (ih hsa) w qa qb ht hlx hva hvb
  | second r e wd c a b s s' hab ih =>
    intro hslim w qa qb ht hlx hva hvb
    have hsa : Slim a := by cases hslim with | mk _ _ _ _ _ h => exact h a (by simp)
    exact before_node Wt l lv r e wd (c :: a :: s) (c :: b :: s') 1 (by simp) (by simp) (fun i h => by
      have h0 : i = 0 := by omega
      subst h0
      rfl) hab.ne rfl hslim (ih hsa) w qa qb ht hlx hva hvb
end Go.Proofs.YthmnffgjckpkiaaGreatDoor
