/-
  Contracts of Nodes, right and Right of the reference of chapter 34.
-/
import Derived.Test.YthmnffgjckpkiaaGreatDoorRShape
import Derived.Test.YthmnffgjckpkiaaGreatDoorRig
import Derived.Test.YthmnffgjckpkiaaGreatDoorRefValid
import Derived.Test.YthmnffgjckpkiaaGreatDoorGEngH
namespace Go.Proofs.YthmnffgjckpkiaaGreatDoor
open Go Go.RowKit Go.Shelf

set_option maxRecDepth 100000 in
set_option maxHeartbeats 4000000 in
/-- **Nodes**: more than 200 are told as 201. -/
theorem rNodes_any : ∀ (t : Tr) (w : World) (v : Value), TreeV (fun _ => True) w v t →
    Calls Tryz.prog 85 #[v] w fun e w' => e = .returned (.int .i64 (min 201 (sizeT t) : Nat)) ∧ Below w.heap.size w w' := by
  intro t
  induction t using Tr.ind with
  | h r e wd sub ih =>
    intro w v hv
    cases hv with
    | mk _ _ _ _ a cap vs hs hsub =>
    have hsz : sizeT (.node r e wd sub) = 1 + sizesT sub := by simp only [sizeT]
    obtain ⟨Y, hY⟩ : ∃ Y, Y = min 201 (sizeT (.node r e wd sub)) := ⟨_, rfl⟩
    rw [← hY]
    have HY := Lib.hid hY
    have HSz := Lib.hid hsz
    obtain ⟨n, hn⟩ : ∃ n, n = sub.length := ⟨_, rfl⟩
    rw [← hn]
    have HN := Lib.hid hn
    have HS := Lib.hid hs
    have HSub := Lib.hid hsub
    have HIh := Lib.hid ih
    clear hn hs hsub ih hsz hY
    go_enter Tryz.func85, Tryz.ntmps85
    go_wp2
    obtain ⟨W1, hW1⟩ : ∃ W1, W1 = w.alloc (.cells #[.int .u8 r, .int .i64 e, .string ⟨wd.toArray⟩, .slice a n cap] 39) := ⟨_, rfl⟩
    have hB1 : Below w.heap.size w W1 := by rw [hW1]; exact (Below.refl _ _).alloc (Nat.le_refl _) _
    have x1 : W1.heap[w.heap.size]? = some (.cells #[.int .u8 r, .int .i64 e, .string ⟨wd.toArray⟩, .slice a n cap] 39 (0, 0)) := by rw [hW1]; exact heap_at2 rfl
    rw [← hW1]
    obtain ⟨T, hT⟩ : ∃ T, T = w.heap.size := ⟨_, rfl⟩
    rw [← hT] at x1 ⊢
    have c3 : W1.cell? ⟨T, 3, none⟩ = some (.slice a n cap) := by simp [World.cell?, x1]
    have HB1 := Lib.hid hB1
    clear hW1 hB1 x1 hT
    go_loopw [3, 4] (fun nv q wr => ∃ k m : Nat, k ≤ n ∧ q = .int .i64 k ∧ nv = .int .i64 m ∧ m = 1 + sizesT (sub.take k) ∧ m ≤ 200 ∧ Below W1.heap.size W1 wr) (fun _ q _ => n - (intOf q).toNat)
    case atStart => exact ⟨0, 1, Nat.zero_le _, rfl, rfl, by simp [sizesT], by decide, Below.refl _ _⟩
    case round =>
      obtain ⟨k, m, hk, rfl, rfl, hm, hm200, hbr⟩ := hrel
      have HM := Lib.hid hm
      have HBr := Lib.hid hbr
      have d3 := cell_kept' hbr c3
      have hk200 : k ≤ 200 := by
        have := len_sizes sub k (by rw [← HN.out]; exact hk)
        omega
      clear hm hbr
      by_cases hlt : k < n
      · have hd : decide ((k : Int) < (n : Int)) = true := decide_eq_true (by omega)
        have hkk : (k : Int) < (n : Int) := by omega
        have hkl : k < sub.length := by rw [← HN.out]; exact hlt
        obtain ⟨b, off, rfl, _, hc⟩ := HS.out.resolve_left (by intro h; rw [h] at hkl; simp at hkl)
        have htv := HSub.out k hkl
        obtain ⟨q, hq⟩ := htv.form
        obtain ⟨y0, y1, y2, y3, hy, g0, g1, g2, g3⟩ := hc k hkl
        rw [hq] at hy htv
        unfold TV.val at hy
        simp only [Value.agg.injEq, Array.mk.injEq, List.cons.injEq, and_true] at hy
        obtain ⟨rfl, rfl, rfl, rfl⟩ := hy
        have hbw : Below w.heap.size w wr := HB1.out.trans (HBr.out.mono HB1.out.size)
        have f0 := cell_kept' hbw g0
        have f1 := cell_kept' hbw g1
        have f2 := cell_kept' hbw g2
        have f3 := cell_kept' hbw g3
        have hcall := HIh.out sub[k] (List.getElem_mem hkl) wr q.val (htv.move (fun c _ h => ⟨trivial, by obtain ⟨_, _, h⟩ := h; exact hbw.block c (cell_lt h)⟩))
        obtain ⟨z, hz⟩ : ∃ z, z = min 201 (sizeT sub[k]) := ⟨_, rfl⟩
        rw [← hz] at hcall
        have HCall := Lib.hid hcall
        have HZ := Lib.hid hz
        have hz201 : z ≤ 201 := by omega
        have hst := sizesT_take sub k hkl
        have HSt := Lib.hid hst
        clear hc hq htv g0 g1 g2 g3 hbw hcall hz hst
        have hw1 : IntKind.i64.wrap ((m : Int) + (z : Int)) = ((m + z : Nat) : Int) := by
          rw [show (m : Int) + (z : Int) = ((m + z : Nat) : Int) by omega]; exact IntWalk.i64_in _ (by omega)
        obtain ⟨M, hMd⟩ : ∃ M, M = m + z := ⟨_, rfl⟩
        rw [← hMd] at hw1
        have HMd := Lib.hid hMd
        have hM402 : M ≤ 401 := by omega
        go_wp2_with fail
        refine HCall.out.mono ?_
        rintro _ w2 ⟨rfl, hb2⟩
        have HB2 := Lib.hid (HBr.out.trans (hb2.mono HBr.out.size))
        clear f0 f1 f2 f3 d3 hb2 HCall hMd
        by_cases h200 : 200 < M
        · have e1 : decide ((200 : Int) < (M : Int)) = true := decide_eq_true (by omega)
          have e2 : decide (200 < M) = true := decide_eq_true h200
          have H200 := Lib.hid h200
          clear h200
          go_wp2
          go_ret
          refine ⟨ret_int ?_, HB1.out.trans (HB2.out.mono HB1.out.size)⟩
          have h1 := HMd.out
          have h2 := HM.out
          have h3 := HZ.out
          have h4 := HSt.out
          have h5 := sizesT_le sub (k + 1)
          have h6 := H200.out
          rw [HY.out, HSz.out]
          omega
        · have e1 : decide ((200 : Int) < (M : Int)) = false := decide_eq_false (by omega)
          have e2 : decide (200 < M) = false := decide_eq_false h200
          have hM2 : M ≤ 200 := by omega
          clear h200
          go_wp2
          go_roundw
          case rel => exact ⟨k + 1, M, by omega, by go_num, rfl, by have h1 := HMd.out; have h2 := HM.out; have h3 := HZ.out; have h4 := HSt.out; omega, hM2, HB2.out⟩
          case measure => simp [intOf]; omega
      · have hd : decide ((k : Int) < (n : Int)) = false := decide_eq_false (by omega)
        obtain rfl : k = n := by omega
        go_wp2
        go_ret
        refine ⟨ret_int ?_, HB1.out.trans (HBr.out.mono HB1.out.size)⟩
        have h1 := HM.out
        rw [HN.out, List.take_length] at h1
        rw [HY.out, HSz.out]
        omega

set_option maxRecDepth 100000 in
set_option maxHeartbeats 8000000 in
/-- **right.** -/
theorem rright_any (l : List Ent) (lv : Value) : ∀ (t : Tr) (w : World) (v : Value), EntSlice w lv l → TreeV (fun _ => True) w v t →
    Calls Tryz.prog 86 #[lv, v] w fun e w' => e = .returned (.bool (okS l t)) ∧ Below w.heap.size w w' := by
  intro t
  induction t using Tr.ind with
  | h r e wd sub ih =>
    intro w v hl hv
    have HL := Lib.hid hl
    have HTV := Lib.hid hv
    cases hv with
    | mk _ _ _ _ a cap vs hsub hval =>
    obtain ⟨⟨la, lcap, rfl, hcap, hcm, hform⟩, hok⟩ := hl
    obtain ⟨n, hn⟩ : ∃ n, n = sub.length := ⟨_, rfl⟩
    obtain ⟨N, hNl⟩ : ∃ N, N = l.length := ⟨_, rfl⟩
    have hPar := TreeV.parts HTV.out
    rw [← hn]
    rw [← hNl]
    have HPar := Lib.hid hPar
    have HN := Lib.hid hn
    have HNL := Lib.hid hNl
    have HIh := Lib.hid ih
    clear hn hsub hval ih hNl hform hok hcap hcm HTV hPar
    go_enter Tryz.func86, Tryz.ntmps86
    go_upto_region 1 with (fail)
    obtain ⟨W1, hW1⟩ : ∃ W1, W1 = w.alloc (.cells #[.int .u8 r, .int .i64 e, .string ⟨wd.toArray⟩, .slice a n cap] 39) := ⟨_, rfl⟩
    have hb1 : Below w.heap.size w W1 := by rw [hW1]; exact (Below.refl _ _).alloc (Nat.le_refl _) _
    have ht : W1.heap[w.heap.size]? = some (.cells #[.int .u8 r, .int .i64 e, .string ⟨wd.toArray⟩, .slice a n cap] 39 (0, 0)) := by rw [hW1]; exact heap_at2 rfl
    rw [← hW1]
    obtain ⟨B, hB⟩ : ∃ B, B = w.heap.size := ⟨_, rfl⟩
    rw [← hB] at ht ⊢
    have c0 : W1.cell? ⟨B, 0, none⟩ = some (.int .u8 r) := by simp [World.cell?, ht]
    have c1 : W1.cell? ⟨B, 1, none⟩ = some (.int .i64 e) := by simp [World.cell?, ht]
    have c2 : W1.cell? ⟨B, 2, none⟩ = some (.string ⟨wd.toArray⟩) := by simp [World.cell?, ht]
    have c3 : W1.cell? ⟨B, 3, none⟩ = some (.slice a n cap) := by simp [World.cell?, ht]
    have HB1 := Lib.hid hb1
    clear hW1 hb1 ht hB
    obtain ⟨K, hK⟩ : ∃ K : Nat, K = kindS r := ⟨_, rfl⟩
    obtain ⟨C, hC⟩ : ∃ C, C = (shapeS r).cat := ⟨_, rfl⟩
    obtain ⟨pn, hpn⟩ : ∃ pn, pn = (shapeS r).parts.length := ⟨_, rfl⟩
    have hP := rParts_any W1 r
    have HP := Lib.hid hP
    have HK := Lib.hid hK
    have HC := Lib.hid hC
    have HPn := Lib.hid hpn
    clear hP hK hC hpn
    go_wp2_with fail
    refine HP.out.mono ?_
    rintro _ w2 ⟨pv, rfl, hpv, hb2⟩
    obtain ⟨pa, pc, rfl, hpx⟩ := id hpv
    rw [← HPn.out] at hpv ⊢
    have HPv := Lib.hid hpv
    have HB2 := Lib.hid (HB1.out.trans (hb2.mono HB1.out.size))
    have d0 := cell_kept' hb2 c0
    have d1 := cell_kept' hb2 c1
    have d2 := cell_kept' hb2 c2
    have d3 := cell_kept' hb2 c3
    have hcall := rCat_any w2 r
    rw [← HC.out] at hcall
    have HCall := Lib.hid hcall
    clear HP hpv hpx hb2 c0 c1 c2 c3 hcall
    go_wp2_with fail
    refine HCall.out.mono ?_
    rintro _ w3 ⟨rfl, hb3⟩
    have c0 := cell_kept' hb3 d0
    have c1 := cell_kept' hb3 d1
    have c2 := cell_kept' hb3 d2
    have c3 := cell_kept' hb3 d3
    have HB3 := Lib.hid (HB2.out.trans (hb3.mono HB2.out.size))
    have HPv3 := Lib.hid (HPv.out.below hb3)
    have hcall := rKind_any w3 r
    rw [← HK.out] at hcall
    clear HCall HPv HB2 hb3 d0 d1 d2 d3
    have HCall := Lib.hid hcall
    clear hcall
    go_wp2_with fail
    refine HCall.out.mono ?_
    rintro _ w4 ⟨rfl, hb4⟩
    have d0 := cell_kept' hb4 c0
    have d1 := cell_kept' hb4 c1
    have d2 := cell_kept' hb4 c2
    have d3 := cell_kept' hb4 c3
    have HB4 := Lib.hid (HB3.out.trans (hb4.mono HB3.out.size))
    have HPv4 := Lib.hid (HPv3.out.below hb4)
    clear HCall HPv3 HB3 hb4 c0 c1 c2 c3
    by_cases hk0 : K = 0
    · have hd0 : ((K : Int) == 0) = true := by rw [hk0]; rfl
      have HK0 := Lib.hid hk0
      clear hk0
      go_wp2
      go_ret
      refine ⟨ret_bool ?_, HB4.out⟩
      rw [okS_eq]; simp [headT, ← HK.out, HK0.out]
    have hd0 : ((K : Int) == 0) = false := by simpa using hk0
    have HK0 := Lib.hid hk0
    clear hk0
    have hcall := rWord_any w4 r wd
    obtain ⟨bw, hbw⟩ : ∃ bw, bw = wordOk (shapeS r).words wd := ⟨_, rfl⟩
    rw [← hbw] at hcall
    have HCall := Lib.hid hcall
    have HBw := Lib.hid hbw
    clear hcall hbw
    go_wp2_with fail
    refine HCall.out.mono ?_
    rintro _ w5 ⟨rfl, hb5⟩
    have c0 := cell_kept' hb5 d0
    have c1 := cell_kept' hb5 d1
    have c2 := cell_kept' hb5 d2
    have c3 := cell_kept' hb5 d3
    have HB5 := Lib.hid (HB4.out.trans (hb5.mono HB4.out.size))
    have HPv5 := Lib.hid (HPv4.out.below hb5)
    clear HCall HPv4 HB4 hb5 d0 d1 d2 d3
    cases bw
    · go_wp2
      go_ret
      refine ⟨ret_bool ?_, HB5.out⟩
      rw [okS_eq, ← HBw.out]; simp
    by_cases hnp : n = pn
    case neg =>
      have e1 : ((pn : Int) != (n : Int)) = true := by simp; omega
      have HNp := Lib.hid hnp
      clear hnp
      go_wp2
      go_ret
      refine ⟨ret_bool ?_, HB5.out⟩
      have h1 := HNp.out
      rw [HN.out, HPn.out] at h1
      rw [okS_eq]; simp [headT, h1]
    have e1 : ((pn : Int) != (n : Int)) = false := by simp; omega
    have HNp := Lib.hid hnp
    clear hnp
    have hent : entryOk l (shapeS r).cat e = (if C = 0 then e == 0 else decide (0 ≤ e) && decide (e < N) && catAt l e.toNat == C) := by
      unfold entryOk; rw [HC.out, HNL.out]
    have HEnt := Lib.hid hent
    have hfalse : (if C = 0 then e == 0 else decide (0 ≤ e) && decide (e < N) && catAt l e.toNat == C) = false → okS l (.node r e wd sub) = false := by
      intro h
      rw [okS_eq, HEnt.out, h]; simp
    have HFalse := Lib.hid hfalse
    have hcases : (C = 0 ∧ e ≠ 0) ∨ (C ≠ 0 ∧ e < 0) ∨ (C ≠ 0 ∧ 0 ≤ e ∧ (N : Int) ≤ e) ∨ (C ≠ 0 ∧ ∃ m : Nat, e = m ∧ m < N ∧ catAt l m ≠ C) ∨ ((C = 0 → e = 0) ∧ (C ≠ 0 → ∃ m : Nat, e = m ∧ m < N ∧ catAt l m = C)) := by
      by_cases h1 : C = 0
      · by_cases h2 : e = 0
        · exact .inr (.inr (.inr (.inr ⟨fun _ => h2, fun h => absurd h1 h⟩)))
        · exact .inl ⟨h1, h2⟩
      · by_cases h2 : e < 0
        · exact .inr (.inl ⟨h1, h2⟩)
        · by_cases h3 : (N : Int) ≤ e
          · exact .inr (.inr (.inl ⟨h1, by omega, h3⟩))
          · by_cases h4 : catAt l e.toNat = C
            · exact .inr (.inr (.inr (.inr ⟨fun h => absurd h h1, fun _ => ⟨e.toNat, by omega, by omega, h4⟩⟩)))
            · exact .inr (.inr (.inr (.inl ⟨h1, e.toNat, by omega, by omega, h4⟩)))
    have HCs := Lib.hid hcases
    clear hent hfalse hcases
    have HL5 := Lib.hid (HL.out.below HB5.out)
    rcases HCs.out with ⟨h1, h2⟩ | ⟨h1, h2⟩ | ⟨h1, h2, h3⟩ | ⟨h1, m, rfl, h3, h4⟩ | hE
    · have hdc : (C == 0) = true := by rw [h1]; rfl
      have hde : (e != 0) = true := by simpa using h2
      have H1 := Lib.hid h1
      have H2 := Lib.hid h2
      clear h1 h2 HCs
      go_wp2
      go_ret
      refine ⟨ret_bool (HFalse.out ?_).symm, HB5.out⟩
      rw [if_pos H1.out]; simpa using H2.out
    · have hdc : (C == 0) = false := by simpa using h1
      have hdc2 : (C != 0) = true := by simpa using h1
      have hde : decide (e < 0) = true := decide_eq_true h2
      have H1 := Lib.hid h1
      have H2 := Lib.hid h2
      clear h1 h2 HCs
      go_wp2
      go_ret
      refine ⟨ret_bool (HFalse.out ?_).symm, HB5.out⟩
      have := H2.out
      rw [if_neg H1.out, decide_eq_false (by omega)]; rfl
    · have hdc : (C == 0) = false := by simpa using h1
      have hdc2 : (C != 0) = true := by simpa using h1
      have hde : decide (e < 0) = false := decide_eq_false (by omega)
      have hde2 : decide ((N : Int) ≤ e) = true := decide_eq_true h3
      have H1 := Lib.hid h1
      have H2 := Lib.hid h3
      clear h1 h2 h3 HCs
      go_wp2
      go_ret
      refine ⟨ret_bool (HFalse.out ?_).symm, HB5.out⟩
      have := H2.out
      rw [if_neg H1.out, decide_eq_false (show ¬ e < N by omega)]; simp
    · have hdc : (C == 0) = false := by simpa using h1
      have hdc2 : (C != 0) = true := by simpa using h1
      have hde : decide ((m : Int) < 0) = false := decide_eq_false (by omega)
      have hde2 : decide ((N : Int) ≤ (m : Int)) = false := decide_eq_false (by omega)
      have hde3 : decide (N ≤ m) = false := decide_eq_false (by omega)
      have hml : m < l.length := by rw [← HNL.out]; exact h3
      obtain ⟨b, off, rfl, _, hcl⟩ := (show ∃ b off, la = some ⟨b, off, none⟩ ∧ b < w5.heap.size ∧ ∀ j (h : j < l.length), w5.cell? ⟨b, off + j * 3, none⟩ = some (.string l[j].word) ∧ w5.cell? ⟨b, off + j * 3 + 1, none⟩ = some (.int .u8 l[j].cat) ∧ w5.cell? ⟨b, off + j * 3 + 2, none⟩ = some (.string l[j].sym) by
        obtain ⟨a', c', he, _, _, h⟩ := HL5.out.form
        cases he
        exact h.resolve_left (fun h0 => by rw [h0] at hml; simp at hml))
      have hx1 := (hcl m hml).2.1
      have hcat : catAt l m = l[m].cat := by unfold catAt; rw [List.getElem?_eq_getElem hml]
      rw [← hcat] at hx1
      obtain ⟨D, hD⟩ : ∃ D, D = catAt l m := ⟨_, rfl⟩
      rw [← hD] at hx1 h4
      have hdd : (D != C) = true := by simpa using h4
      have H1 := Lib.hid h1
      have H4 := Lib.hid h4
      have H3 := Lib.hid h3
      have HD := Lib.hid hD
      have b1 : (0 : Int) ≤ (m : Int) := by omega
      have b2 : (m : Int) < (N : Int) := by omega
      clear h1 h4 h3 hD hcl hcat hml HCs
      go_wp2
      go_ret
      refine ⟨ret_bool (HFalse.out ?_).symm, HB5.out⟩
      rw [if_neg H1.out, Int.toNat_natCast, ← HD.out]
      simp [H4.out]
    have hEok : entryOk l (shapeS r).cat e = true := by
      rw [HEnt.out]
      by_cases h1 : C = 0
      · rw [if_pos h1, hE.1 h1]; rfl
      · obtain ⟨m, rfl, h3, h4⟩ := hE.2 h1
        rw [if_neg h1, Int.toNat_natCast, h4]
        have q1 : decide ((0 : Int) ≤ (m : Int)) = true := decide_eq_true (by omega)
        have q2 : decide ((m : Int) < (N : Int)) = true := decide_eq_true (by omega)
        rw [q1, q2]; simp
    have HEok := Lib.hid hEok
    have HE := Lib.hid hE
    have HLen : Go.RowKit.Hid (sub.length = (shapeS r).parts.length) := Lib.hid (by rw [← HN.out, HNp.out, HPn.out])
    have hOk : okSubs l sub (shapeS r).parts = true → okS l (.node r e wd sub) = lastT r sub := fun h => okS_all (by rw [← HK.out]; exact HK0.out) HLen.out HEok.out HBw.out.symm h
    have hNo : okSubs l sub (shapeS r).parts = false → okS l (.node r e wd sub) = false := fun h => by rw [okS_eq, HEok.out, ← HBw.out, h]; simp
    have HOk := Lib.hid hOk
    have HNo := Lib.hid hNo
    clear hEok hE hOk hNo HFalse HEnt HCs
    by_cases hC0 : C = 0
    case' pos =>
      have he0 : e = 0 := HE.out.1 hC0
      have hdc : (C == 0) = true := by rw [hC0]; rfl
      have hdc2 : (C != 0) = false := by rw [hC0]; rfl
      have hde : (e != 0) = false := by rw [he0]; rfl
      clear hC0 he0 HE
    case' neg =>
      obtain ⟨m, rfl, h3, h4⟩ := HE.out.2 hC0
      have hdc : (C == 0) = false := by simpa using hC0
      have hdc2 : (C != 0) = true := by simpa using hC0
      have hde : decide ((m : Int) < 0) = false := decide_eq_false (by omega)
      have hde2 : decide ((N : Int) ≤ (m : Int)) = false := decide_eq_false (by omega)
      have hde3 : decide (N ≤ m) = false := decide_eq_false (by omega)
      have hml : m < l.length := by rw [← HNL.out]; exact h3
      obtain ⟨b, off, rfl, _, hcl⟩ := (show ∃ b off, la = some ⟨b, off, none⟩ ∧ b < w5.heap.size ∧ ∀ j (h : j < l.length), w5.cell? ⟨b, off + j * 3, none⟩ = some (.string l[j].word) ∧ w5.cell? ⟨b, off + j * 3 + 1, none⟩ = some (.int .u8 l[j].cat) ∧ w5.cell? ⟨b, off + j * 3 + 2, none⟩ = some (.string l[j].sym) by
        obtain ⟨a', c', he, _, _, h⟩ := HL5.out.form
        cases he
        exact h.resolve_left (fun h0 => by rw [h0] at hml; simp at hml))
      have hx1 := (hcl m hml).2.1
      have hcat : catAt l m = l[m].cat := by unfold catAt; rw [List.getElem?_eq_getElem hml]
      rw [← hcat, h4] at hx1
      have hdd : (C != C) = false := by simp
      have b1 : (0 : Int) ≤ (m : Int) := by omega
      have b2 : (m : Int) < (N : Int) := by omega
      have H3 := Lib.hid h3
      clear hC0 h4 h3 hcl hcat hml HE
    all_goals
      go_wp2
      go_loopw [7] (fun q wr => ∃ k : Nat, k ≤ n ∧ q = .int .i64 k ∧ partsOk l sub (shapeS r).parts k ∧ Below w5.heap.size w5 wr) (fun q _ => n - (intOf q).toNat)
      case atStart => exact ⟨0, Nat.zero_le _, rfl, fun j _ _ h => by omega, Below.refl _ _⟩
      case round =>
        obtain ⟨k, hk, rfl, hpo, hbr⟩ := hrel
        have HPo := Lib.hid hpo
        have HBr := Lib.hid hbr
        have hn2 : n ≤ 2 := by rw [HNp.out, HPn.out]; exact parts_le r
        have HBw5 := Lib.hid (HB5.out.trans (hbr.mono HB5.out.size))
        clear hpo
        by_cases hlt : k < n
        · have hd : decide ((k : Int) < (pn : Int)) = true := decide_eq_true (by rw [← HNp.out]; omega)
          have hkl : k < sub.length := by rw [← HN.out]; exact hlt
          have hkp : k < (shapeS r).parts.length := by rw [← HLen.out]; exact hkl
          obtain ⟨tb, toff, q, hab, htv, hqr, g0, g1, g2, g3⟩ := HPar.out k hkl
          obtain ⟨_, _, hpv, hpx⟩ := HPv5.out
          simp only [Value.slice.injEq] at hpv
          obtain ⟨rfl, _, rfl⟩ := hpv
          obtain ⟨pb, rfl, hpc⟩ := hpx.resolve_left (by intro h; rw [h] at hkp; simp at hkp)
          subst hab
          have f0 := fun x : Later wr => x.get (cell_kept' HBw5.out g0)
          have f1 := fun x : Later wr => x.get (cell_kept' HBw5.out g1)
          have f2 := fun x : Later wr => x.get (cell_kept' HBw5.out g2)
          have f3 := fun x : Later wr => x.get (cell_kept' HBw5.out g3)
          obtain ⟨PK, hPK⟩ : ∃ PK, PK = (shapeS r).parts[k] := ⟨_, rfl⟩
          have hpk := hpc k hkp
          rw [← hPK] at hpk
          have f4 := fun x : Later wr => x.get (cell_kept' hbr hpk)
          have f5 := fun x : Later wr => x.get (cell_kept' hbr c3)
          have HPK := Lib.hid hPK
          have HQr := Lib.hid hqr
          have HTv := Lib.hid htv
          have b1 : (0 : Int) ≤ (k : Int) := by omega
          have b2 : (k : Int) < (n : Int) := by omega
          have b3 : (k : Int) < (pn : Int) := by rw [← HNp.out]; exact b2
          have HR : Go.RowKit.Hid (∀ x : Later wr, Calls Tryz.prog 86 #[.slice _ N lcap, .agg #[.int .u8 q.r, .int .i64 q.e, .string q.w, .slice q.a q.n q.c]] x.w fun e w' => e = .returned (.bool (okS l sub[k])) ∧ Below x.w.heap.size x.w w') := Lib.hid (fun x => by
            have hbx : Below w.heap.size w x.w := HBw5.out.trans (x.below.mono HBw5.out.size)
            have h1 := HIh.out sub[k] (List.getElem_mem hkl) x.w (TV.val q) (HL.out.below hbx) (HTv.out.move (fun b _ h => ⟨trivial, by obtain ⟨_, _, h⟩ := h; exact hbx.block b (cell_lt h)⟩))
            rw [← HNL.out] at h1
            exact h1)
          obtain ⟨KQ, hKQ⟩ : ∃ KQ, KQ = kindS q.r := ⟨_, rfl⟩
          have HKc : Go.RowKit.Hid (∀ x : Later wr, Calls Tryz.prog 84 #[.int .u8 q.r] x.w fun e w' => e = .returned (.int .i64 KQ) ∧ Below x.w.heap.size x.w w') := Lib.hid (fun x => by rw [hKQ]; exact rKind_any x.w q.r)
          have HKQ := Lib.hid hKQ
          obtain ⟨bk, hbk⟩ : ∃ bk, bk = okS l sub[k] := ⟨_, rfl⟩
          rw [← hbk] at HR
          have HBk := Lib.hid hbk
          clear g0 g1 g2 g3 hpc hpx hpk hPK hqr htv hbr hKQ hbk
          by_cases hkk : KQ = PK
          · have hdk : ((KQ : Int) != (PK : Int)) = false := by simp [hkk]
            have hdk2 : (KQ != PK) = false := by simp [hkk]
            have HKk := Lib.hid hkk
            clear hkk
            go_upto_region 10 with (fail)
            refine wp_region_later (by kernel_rfl) (by kernel_rfl) ?_
            repeat (go_big_quiet_step (first | (go_at_call 84; exact later_call (HKc.out _)) | (go_at_call 86; exact later_call (HR.out _))))
            refine wpQuiet_nil ?_
            rintro _ ⟨x, rfl⟩
            have HBx := Lib.hid (HBr.out.trans (x.below.mono HBr.out.size))
            clear f0 f1 f2 f3 f4 f5
            cases bk
            · go_wp2
              go_ret
              refine ⟨ret_bool (HNo.out ?_).symm, HB5.out.trans (HBx.out.mono HB5.out.size)⟩
              exact partsOk_no HLen.out hkl hkp (fun h => by have := h.2; rw [← HBk.out] at this; cases this)
            · go_wp2
              go_roundw
              case rel => exact ⟨k + 1, by omega, by go_num, partsOk_step HPo.out hkl hkp ⟨by rw [HQr.out, ← HKQ.out, HKk.out, HPK.out], HBk.out.symm⟩, HBx.out⟩
              case measure => simp [intOf]; omega
          · have hdk : ((KQ : Int) != (PK : Int)) = true := by simp; omega
            have hdk2 : (KQ != PK) = true := by simpa using hkk
            have HKk := Lib.hid hkk
            clear hkk
            go_upto_region 10 with (fail)
            refine wp_region_later (by kernel_rfl) (by kernel_rfl) ?_
            repeat (go_big_quiet_step ((go_at_call 84; exact later_call (HKc.out _))))
            refine wpQuiet_nil ?_
            rintro _ ⟨x, rfl⟩
            have HBx := Lib.hid (HBr.out.trans (x.below.mono HBr.out.size))
            clear f0 f1 f2 f3 f4 f5
            go_wp2
            go_ret
            refine ⟨ret_bool (HNo.out ?_).symm, HB5.out.trans (HBx.out.mono HB5.out.size)⟩
            exact partsOk_no HLen.out hkl hkp (fun h => HKk.out (by rw [HKQ.out, ← HQr.out, h.1, HPK.out]))
        · have hd : decide ((k : Int) < (pn : Int)) = false := decide_eq_false (by rw [← HNp.out]; omega)
          have hd2 : decide (k < pn) = false := decide_eq_false (by rw [← HNp.out]; omega)
          have hd3 : ¬ k < pn := by rw [← HNp.out]; omega
          obtain rfl : k = n := by omega
          have hr0 := cell_kept' hbr c0
          have hr3 := cell_kept' hbr c3
          have hsubs : okSubs l sub (shapeS r).parts = true := partsOk_all HLen.out (by rw [← HN.out]; exact HPo.out)
          have HRes := Lib.hid (HOk.out hsubs)
          clear hsubs
          by_cases h16 : r = 16
          · have h1 : k = 1 := by rw [HNp.out, HPn.out, h16]; rfl
            have hs0 : 0 < sub.length := by rw [← HN.out]; omega
            obtain ⟨tb, toff, q, hab, hq2, hqr, g0, _⟩ := HPar.out 0 hs0
            simp only [Nat.zero_mul, Nat.add_zero] at g0
            subst hab
            have r0 := cell_kept' HBw5.out g0
            have hfr : firstRule sub = q.r := by
              rw [← hqr]
              cases sub with
              | nil => simp at hs0
              | cons y ys => rfl
            have hk4 : kindS q.r = 4 := by
              have h := (HPo.out 0 hs0 (by rw [← HLen.out]; exact hs0) (by omega)).1
              rw [hqr] at h
              rw [h]
              simp only [h16]
              rfl
            have h12 := ((kind_rules q.r).2.2.2.1 hk4).1
            have HFr := Lib.hid hfr
            have hd16 : (r != 16) = false := by rw [h16]; rfl
            have H16 := Lib.hid h16
            have H12 := Lib.hid h12
            have b2 : (0 : Int) < (k : Int) := by omega
            have b3 : 0 < k := by omega
            clear h16 hfr hqr g0 hq2 hs0 h1 hbr hk4 h12
            by_cases h15 : q.r < 16
            · have hd15 : decide (q.r < 16) = true := decide_eq_true h15
              have H15 := Lib.hid h15
              clear h15
              go_wp2
              go_ret
              refine ⟨ret_bool ?_, HBw5.out⟩
              rw [HRes.out]
              unfold lastT
              have h1 := H12.out
              have h2 := H15.out
              rw [HFr.out, decide_eq_true h1, decide_eq_true (show q.r ≤ 15 by omega)]; simp
            · have hd15 : decide (q.r < 16) = false := decide_eq_false h15
              have H15 := Lib.hid h15
              clear h15
              go_wp2
              go_ret
              refine ⟨ret_bool ?_, HBw5.out⟩
              rw [HRes.out]
              unfold lastT
              have h2 := H15.out
              rw [HFr.out, decide_eq_false (show ¬ q.r ≤ 15 by omega), H16.out]; simp
          · have hd16 : (r != 16) = true := by simpa using h16
            have H16 := Lib.hid h16
            clear h16
            go_wp2
            go_ret
            refine ⟨ret_bool ?_, HBw5.out⟩
            rw [HRes.out]
            unfold lastT
            simp [H16.out]

set_option maxRecDepth 100000 in
set_option maxHeartbeats 1000000 in
/-- **Right.** -/
theorem rRight34_any (w : World) (l : List Ent) (lv v : Value) (t : Tr) (hl : EntSlice w lv l) (hv : TreeV (fun _ => True) w v t) :
    Calls Tryz.prog 53 #[lv, v] w fun e w' => e = .returned (.bool (okAll l t)) ∧ Below w.heap.size w w' := by
  obtain ⟨q, rfl⟩ := hv.form
  have HV := Lib.hid hv
  have HL := Lib.hid hl
  clear hv hl
  have hok : okAll l t = (validS l && (decide (sizeT t ≤ 200) && okS l t)) := by unfold okAll; rw [Bool.and_assoc]
  obtain ⟨b1, hb1⟩ : ∃ b1, b1 = validS l := ⟨_, rfl⟩
  obtain ⟨z, hz⟩ : ∃ z, z = min 201 (sizeT t) := ⟨_, rfl⟩
  obtain ⟨b3, hb3⟩ : ∃ b3, b3 = okS l t := ⟨_, rfl⟩
  have hb2 : decide (sizeT t ≤ 200) = decide (z ≤ 200) := by
    by_cases h : sizeT t ≤ 200
    · rw [decide_eq_true h, decide_eq_true (by omega)]
    · rw [decide_eq_false h, decide_eq_false (by omega)]
  rw [← hb1, hb2, ← hb3] at hok
  rw [hok]
  have HB1 := Lib.hid hb1
  have HZ := Lib.hid hz
  have HB3 := Lib.hid hb3
  have hz201 : z ≤ 201 := by omega
  clear hok hb1 hb2 hb3 hz
  unfold TV.val
  go_enter Tryz.func53, Tryz.ntmps53
  go_upto_region 1 with (fail)
  obtain ⟨W1, hW1⟩ : ∃ W1, W1 = w.alloc (.cells #[.int .u8 q.r, .int .i64 q.e, .string q.w, .slice q.a q.n q.c] 39) := ⟨_, rfl⟩
  have hb : Below w.heap.size w W1 := by rw [hW1]; exact (Below.refl _ _).alloc (Nat.le_refl _) _
  have htb : W1.heap[w.heap.size]? = some (.cells #[.int .u8 q.r, .int .i64 q.e, .string q.w, .slice q.a q.n q.c] 39 (0, 0)) := by rw [hW1]; exact heap_atC rfl
  rw [← hW1]
  obtain ⟨T, hT⟩ : ∃ T, T = w.heap.size := ⟨_, rfl⟩
  rw [← hT] at htb ⊢
  have HB := Lib.hid hb
  have c0 : W1.cell? ⟨T, 0, none⟩ = some (.int .u8 q.r) := (cell_rowC htb 0).trans rfl
  have c1 : W1.cell? ⟨T, 1, none⟩ = some (.int .i64 q.e) := (cell_rowC htb 1).trans rfl
  have c2 : W1.cell? ⟨T, 2, none⟩ = some (.string q.w) := (cell_rowC htb 2).trans rfl
  have c3 : W1.cell? ⟨T, 3, none⟩ = some (.slice q.a q.n q.c) := (cell_rowC htb 3).trans rfl
  clear hW1 hb htb hT
  have hC1 := rValid_any W1 _ l (HL.out.below HB.out)
  rw [← HB1.out] at hC1
  have HC1 := Lib.hid hC1
  clear hC1
  go_wp2_with fail
  refine HC1.out.mono ?_
  rintro _ w2 ⟨rfl, hb2⟩
  have d0 := cell_kept' hb2 c0
  have d1 := cell_kept' hb2 c1
  have d2 := cell_kept' hb2 c2
  have d3 := cell_kept' hb2 c3
  have HB2b := Lib.hid (HB.out.trans (hb2.mono HB.out.size))
  clear c0 c1 c2 c3 hb2
  cases b1
  · go_wp2
    go_ret
    exact ⟨ret_bool rfl, HB2b.out⟩
  · have hC2 := rNodes_any t w2 q.val (HV.out.move (fun b _ h => ⟨trivial, by obtain ⟨_, _, h⟩ := h; exact HB2b.out.block b (cell_lt h)⟩))
    rw [← HZ.out] at hC2
    have HC2 := Lib.hid hC2
    clear hC2
    go_wp2_with fail
    refine HC2.out.mono ?_
    rintro _ w3 ⟨rfl, hb3⟩
    have e0 := cell_kept' hb3 d0
    have e1 := cell_kept' hb3 d1
    have e2 := cell_kept' hb3 d2
    have e3 := cell_kept' hb3 d3
    have HB3b := Lib.hid (HB2b.out.trans (hb3.mono HB2b.out.size))
    clear d0 d1 d2 d3 hb3
    by_cases h200 : z ≤ 200
    · have q1 : decide ((z : Int) ≤ 200) = true := decide_eq_true (by omega)
      have q2 : decide (z ≤ 200) = true := decide_eq_true h200
      have q3 := q2
      have hC3 := rright_any l _ t w3 q.val (HL.out.below HB3b.out) (HV.out.move (fun b _ h => ⟨trivial, by obtain ⟨_, _, h⟩ := h; exact HB3b.out.block b (cell_lt h)⟩))
      rw [← HB3.out] at hC3
      have HC3 := Lib.hid hC3
      clear hC3 h200
      go_wp2_with fail
      refine HC3.out.mono ?_
      rintro _ w4 ⟨rfl, hb4⟩
      go_wp2
      go_ret
      exact ⟨ret_bool (by rw [q3]; simp), HB3b.out.trans (hb4.mono HB3b.out.size)⟩
    · have q1 : decide ((z : Int) ≤ 200) = false := decide_eq_false (by omega)
      have q2 : decide (z ≤ 200) = false := decide_eq_false h200
      have q3 := q2
      clear h200
      go_wp2
      go_ret
      exact ⟨ret_bool (by rw [q3]; simp), HB3b.out⟩
end Go.Proofs.YthmnffgjckpkiaaGreatDoor
