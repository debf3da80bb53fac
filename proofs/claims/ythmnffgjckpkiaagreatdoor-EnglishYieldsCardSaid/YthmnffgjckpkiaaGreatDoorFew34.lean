/-
  The contracts of 'Small' and 'few' of the laws of chapter 34.
-/
import Derived.Test.YthmnffgjckpkiaaGreatDoorGEngJ
import Derived.Test.YthmnffgjckpkiaaGreatDoorGEngJ
namespace Go.Proofs.YthmnffgjckpkiaaGreatDoor
open Go Go.RowKit Go.Shelf

mutual
/-- Whether all words of a parse are short. -/
def shortT : Tr → Bool
  | .node _ _ w sub => decide (w.length ≤ 40) && shortTs sub
def shortTs : List Tr → Bool
  | [] => true
  | t :: ts => shortT t && shortTs ts
end
def fewS (t : Tr) : Bool := decide (sizeT t ≤ 210) && shortT t
theorem shortTs_take : ∀ (l : List Tr) (k : Nat) (h : k < l.length), shortTs (l.take (k + 1)) = (shortTs (l.take k) && shortT l[k])
  | [], k, h => by simp at h
  | t :: ts, 0, _ => by simp [shortTs]
  | t :: ts, k + 1, h => by
    have := shortTs_take ts k (by simpa using h)
    simp only [List.take_succ_cons, shortTs, List.getElem_cons_succ, this, Bool.and_assoc]
theorem shortTs_no : ∀ (l : List Tr) (k : Nat) (h : k < l.length), shortT l[k] = false → shortTs l = false
  | [], k, h, _ => by simp at h
  | t :: ts, 0, _, hn => by simp only [List.getElem_cons_zero] at hn; simp [shortTs, hn]
  | t :: ts, k + 1, h, hn => by
    have := shortTs_no ts k (by simpa using h) (by simpa using hn)
    simp [shortTs, this]

/-- What looking at a parse's size does. -/
def SmallOk (t : Tr) (x : Nat) (lb : Nat) (w : World) (e : Ending) (w' : World) : Prop :=
  e = .returned (.bool (decide (sizeT t ≤ x) && shortT t)) ∧ ((decide (sizeT t ≤ x) && shortT t) = true → Boxed w' lb 3 (.int .i64 ((x - sizeT t : Nat)))) ∧ w.grownBy w' (some lb)

set_option maxRecDepth 100000 in
set_option maxHeartbeats 4000000 in
theorem small_tree : ∀ (t : Tr) (w : World) (v : Value) (lb x : Nat), TreeV (fun _ => True) w v t → Boxed w lb 3 (.int .i64 x) → x ≤ 210 →
    Calls Tryz.prog 51 #[v, .pointer (some ⟨lb, 0, none⟩)] w (SmallOk t x lb w) := by
  intro t
  induction t using Tr.ind with
  | h r e wd sub ih =>
    intro w v lb x hv hl hx
    cases hv with
    | mk _ _ _ _ a cap vs hsub hval =>
    obtain ⟨n, hn⟩ : ∃ n, n = sub.length := ⟨_, rfl⟩
    rw [← hn]
    have HN := Lib.hid hn
    have HS := Lib.hid hsub
    have HV := Lib.hid hval
    have HIh := Lib.hid ih
    have HL := Lib.hid hl
    have hlc := hl.cell
    have hlf := hl.frozen
    have hlt := hl.lt
    have hsz : sizeT (.node r e wd sub) = 1 + sizesT sub := by simp only [sizeT]
    have hst : shortT (.node r e wd sub) = (decide (wd.length ≤ 40) && shortTs sub) := by simp only [shortT]
    have HSz := Lib.hid hsz
    have HSt := Lib.hid hst
    clear hn hsub hval ih hl hsz hst
    obtain ⟨c0, hc0⟩ : ∃ c0 : Int, c0 = (x : Int) - 1 := ⟨_, rfl⟩
    have hw1 : IntKind.i64.wrap ((x : Int) - 1) = c0 := by rw [← hc0]; exact IntWalk.i64_in _ (by omega)
    have HC0 := Lib.hid hc0
    clear hc0
    go_enter Tryz.func51, Tryz.ntmps51
    go_wp2
    obtain ⟨W1, hW1⟩ : ∃ W1, W1 = (w.setCell ⟨lb, 0, none⟩ (.int .i64 c0)).alloc (.cells #[.int .u8 r, .int .i64 e, .string ⟨wd.toArray⟩, .slice a n cap] 36) := ⟨_, rfl⟩
    have hg1 : w.grownBy W1 (some lb) := by rw [hW1]; exact grown_trans1 (grownBy_setCell' w lb _) (World.grownBy_alloc _ _ _)
    have hl1 : Boxed W1 lb 3 (.int .i64 c0) := by rw [hW1]; exact (HL.out.set _).alloc _
    have hlb : lb ≠ w.heap.size := by omega
    have ht1 : W1.heap[w.heap.size]? = some (.cells #[.int .u8 r, .int .i64 e, .string ⟨wd.toArray⟩, .slice a n cap] 36 (0, 0)) := by
      rw [hW1]; exact heap_atC (by simp)
    rw [← hW1]
    obtain ⟨T, hT⟩ : ∃ T, T = w.heap.size := ⟨_, rfl⟩
    rw [← hT] at ht1 ⊢
    have HT := Lib.hid hT
    have HG1 := Lib.hid hg1
    have HL1 := Lib.hid hl1
    have HT1 := Lib.hid ht1
    have HLb := Lib.hid hlb
    clear hW1 hg1 hl1 hlc hlf hw1 ht1 hT hlb hlt
    go_loopw [5] (fun q wr => ∃ (k : Nat) (c : Int), k ≤ n ∧ q = .int .i64 k ∧ Boxed wr lb 3 (.int .i64 c) ∧ c = (x : Int) - 1 - sizesT (sub.take k) ∧ shortTs (sub.take k) = true ∧ W1.grownBy wr (some lb)) (fun q _ => n - (intOf q).toNat)
    case atStart => exact ⟨0, c0, Nat.zero_le _, rfl, HL1.out, by rw [HC0.out]; simp [sizesT], by simp [shortTs], ⟨rfl, rfl, rfl, Nat.le_refl _, fun _ _ _ => rfl⟩⟩
    case round =>
      obtain ⟨k, c, hk, rfl, hlz, hcs, hst, hgr⟩ := hrel
      have ht3 : wr.cell? ⟨T, 3, none⟩ = some (.slice a n cap) := by
        have h := hgr.block T (by have := (Array.getElem?_eq_some_iff.1 HT1.out).1; exact this) (fun h => HLb.out (by rw [← HT.out]; exact (Option.some.inj h).symm))
        simp [World.cell?, h, HT1.out]
      have ht2 : wr.cell? ⟨T, 2, none⟩ = some (.string ⟨wd.toArray⟩) := by
        have h := hgr.block T (by have := (Array.getElem?_eq_some_iff.1 HT1.out).1; exact this) (fun h => HLb.out (by rw [← HT.out]; exact (Option.some.inj h).symm))
        simp [World.cell?, h, HT1.out]
      have hlc := hlz.cell
      have HLz := Lib.hid hlz
      have HCs := Lib.hid hcs
      have HSh := Lib.hid hst
      have HGr := Lib.hid hgr
      clear hlz hcs hst hgr
      by_cases hlt : k < n
      · have hd : decide ((k : Int) < (n : Int)) = true := decide_eq_true (by omega)
        have hdn : decide (k < n) = true := decide_eq_true hlt
        by_cases hc0 : 0 ≤ c
        · have hdc : decide (0 ≤ c) = true := decide_eq_true hc0
          obtain ⟨z, rfl⟩ : ∃ z : Nat, c = z := ⟨c.toNat, by omega⟩
          have hkl : k < sub.length := by rw [← HN.out]; exact hlt
          have hk210 : k ≤ 210 := by have := len_sizes sub k (by rw [← HN.out]; exact hk); have := HCs.out; omega
          have hsb : sub ≠ [] := by intro h; rw [h] at hkl; simp at hkl
          obtain ⟨b, off, rfl, _, hc⟩ := HS.out.resolve_left hsb
          have htv := HV.out k hkl
          obtain ⟨q, hq⟩ := htv.form
          obtain ⟨y0, y1, y2, y3, hy, g0, g1, g2, g3⟩ := hc k hkl
          rw [hq] at hy htv
          unfold TV.val at hy
          simp only [Value.agg.injEq, Array.mk.injEq, List.cons.injEq, and_true] at hy
          obtain ⟨rfl, rfl, rfl, rfl⟩ := hy
          have hbl : b ≠ lb := by
            rintro rfl
            have h1 := HL.out
            unfold World.cell? at g1
            rw [show w.heap[b]? = _ from h1] at g1
            simp at g1
          have HGw := Lib.hid (grown_trans1 HG1.out HGr.out)
          have d0 := cell_grown1 HGw.out g0 hbl
          have d1 := cell_grown1 HGw.out g1 hbl
          have d2 := cell_grown1 HGw.out g2 hbl
          have d3 := cell_grown1 HGw.out g3 hbl
          have hcall := HIh.out sub[k] (List.getElem_mem hkl) wr q.val lb z (tree_grown1 HL.out HGw.out htv) HLz.out (by have := HCs.out; omega)
          have hstp := sizesT_take sub k hkl
          have hstq := shortTs_take sub k hkl
          have HStp := Lib.hid hstp
          have HStq := Lib.hid hstq
          have b1 : (0 : Int) ≤ (k : Int) := by omega
          have b2 : (k : Int) < (n : Int) := by omega
          obtain ⟨bb, hbb⟩ : ∃ bb, bb = (decide (sizeT sub[k] ≤ z) && shortT sub[k]) := ⟨_, rfl⟩
          unfold SmallOk at hcall
          rw [← hbb] at hcall
          have HBb := Lib.hid hbb
          have HCall := Lib.hid hcall
          clear g0 g1 g2 g3 hc htv hq hstp hstq hcall hbb hc0
          go_wp2_with fail
          refine HCall.out.mono ?_
          rintro _ w3 ⟨rfl, hok, hg3⟩
          have HG3 := Lib.hid (grown_trans1 HGr.out hg3)
          cases bb
          · clear hok hg3
            go_wp2
            go_ret
            have h1 := HSz.out
            have h2 := HCs.out
            have h3 := HStp.out
            have h4 := sizesT_le sub (k + 1)
            have h5 := HBb.out
            have hno : (decide (1 + sizesT sub ≤ x) && (decide (wd.length ≤ 40) && shortTs sub)) = false := by
              by_cases hz : sizeT sub[k] ≤ z
              · rw [decide_eq_true hz, Bool.true_and] at h5
                rw [shortTs_no sub k hkl h5.symm]; simp
              · rw [decide_eq_false (by omega)]; rfl
            refine ⟨ret_bool ?_, fun h => ?_, grown_trans1 HG1.out HG3.out⟩
            · rw [h1, HSt.out, hno]
            · rw [h1, HSt.out, hno] at h; cases h
          · have hl3 := hok rfl
            have HL3 := Lib.hid hl3
            have h5 := HBb.out.symm
            rw [Bool.and_eq_true, decide_eq_true_eq] at h5
            have H5 := Lib.hid h5
            clear hok hg3 hl3 h5
            go_wp2
            go_roundw
            case rel => exact ⟨k + 1, _, by omega, by go_num, HL3.out, by have := HCs.out; have := HStp.out; have := H5.out.1; omega, by rw [HStq.out, HSh.out, H5.out.2]; rfl, HG3.out⟩
            case measure => simp [intOf]; omega
        · have hdc : decide (0 ≤ c) = false := decide_eq_false hc0
          have HC := Lib.hid hc0
          clear hc0
          go_wp2
          go_ret
          have h1 := HSz.out
          have h2 := HCs.out
          have h3 := HC.out
          have h4 := sizesT_le sub k
          refine ⟨ret_bool ?_, fun h => ?_, grown_trans1 HG1.out HGr.out⟩
          · rw [decide_eq_false (by omega)]; rfl
          · rw [decide_eq_false (by omega)] at h; cases h
      · have hd : decide ((k : Int) < (n : Int)) = false := decide_eq_false (by omega)
        obtain rfl : k = n := by omega
        have h2 := HCs.out
        have h4 := HSh.out
        rw [List.take_of_length_le (by rw [← HN.out]; omega)] at h2 h4
        have H2 := Lib.hid h2
        have H4 := Lib.hid h4
        clear h2 h4
        by_cases hc0 : 0 ≤ c
        · have hdc : decide (0 ≤ c) = true := decide_eq_true hc0
          have hsz : (⟨wd.toArray⟩ : ByteArray).size = wd.length := by simp [ByteArray.size]
          have HC := Lib.hid hc0
          clear hc0
          have hres : (decide (sizeT (.node r e wd sub) ≤ x) && shortT (.node r e wd sub)) = decide (wd.length ≤ 40) := by
            have h1 := HSz.out
            have h2 := H2.out
            have h3 := HC.out
            rw [HSt.out, H4.out, decide_eq_true (by omega)]; simp
          have HRes := Lib.hid hres
          clear hres
          have hbx : (decide (wd.length ≤ 40)) = true → Boxed wr lb 3 (.int .i64 ((x - sizeT (.node r e wd sub) : Nat))) := fun _ => by
            have h1 := HSz.out
            have h2 := H2.out
            have h3 := HC.out
            have h4 := HLz.out
            rw [show c = ((x - sizeT (.node r e wd sub) : Nat) : Int) by omega] at h4
            exact h4
          have HBx := Lib.hid hbx
          clear hbx
          by_cases hw40 : wd.length ≤ 40
          · have hdw : decide ((wd.length : Int) ≤ 40) = true := decide_eq_true (by omega)
            have hdw2 : decide (wd.length ≤ 40) = true := decide_eq_true hw40
            go_wp2
            go_ret
            refine ⟨ret_bool ?_, fun h => HBx.out hdw2, grown_trans1 HG1.out HGr.out⟩
            rw [HRes.out, hdw2]
          · have hdw : decide ((wd.length : Int) ≤ 40) = false := decide_eq_false (by omega)
            have hdw2 : decide (wd.length ≤ 40) = false := decide_eq_false hw40
            go_wp2
            go_ret
            refine ⟨ret_bool ?_, fun h => ?_, grown_trans1 HG1.out HGr.out⟩
            · rw [HRes.out, hdw2]
            · rw [HRes.out, hdw2] at h; cases h
        · have hdc : decide (0 ≤ c) = false := decide_eq_false hc0
          have HC := Lib.hid hc0
          clear hc0
          go_wp2
          go_ret
          have h1 := HSz.out
          have h2 := H2.out
          have h3 := HC.out
          refine ⟨ret_bool ?_, fun h => ?_, grown_trans1 HG1.out HGr.out⟩
          · rw [decide_eq_false (by omega)]; rfl
          · rw [decide_eq_false (by omega)] at h; cases h
/-- **few.** -/
theorem few_any (w : World) (v : Value) (t : Tr) (hv : TreeV (fun _ => True) w v t) : Calls Tryz.prog 27 #[v] w fun e w' => e = .returned (.bool (fewS t)) ∧ Below w.heap.size w w' := by
  obtain ⟨q, rfl⟩ := hv.form
  have HV := Lib.hid hv
  clear hv
  unfold TV.val
  go_enter Tryz.func27, Tryz.ntmps27
  go_wp2_with fail
  obtain ⟨W1, hW1⟩ : ∃ W1, W1 = (w.alloc (.cells #[.int .u8 q.r, .int .i64 q.e, .string q.w, .slice q.a q.n q.c] 36)).alloc (.cells #[.int .i64 210] 3) := ⟨_, rfl⟩
  have hb : Below w.heap.size w W1 := by rw [hW1]; exact ((Below.refl _ _).alloc (by first | (simp; done) | (simp; omega)) _).alloc (by first | (simp; done) | (simp; omega)) _
  have hl : Boxed W1 (w.heap.size + 1) 3 (.int .i64 (210 : Nat)) := by rw [hW1]; exact heap_atC (by simp)
  rw [← hW1]
  have hcall := small_tree t W1 q.val (w.heap.size + 1) 210 (TreeV.move (W := w) (W' := W1) (ok' := fun _ => True) (fun c _ h => ⟨trivial, by obtain ⟨_, _, h⟩ := h; exact hb.block c (cell_lt h)⟩) HV.out) hl (Nat.le_refl _)
  have HB := Lib.hid hb
  clear hW1 hb hl
  refine hcall.mono ?_
  clear hcall
  rintro _ w3 ⟨rfl, _, hg⟩
  have HG := Lib.hid hg
  clear hg
  go_wp2
  go_ret
  exact ⟨rfl, HB.out.grown HG.out HB.out.size (fun k hk => by cases hk; omega)⟩
end Go.Proofs.YthmnffgjckpkiaaGreatDoor
