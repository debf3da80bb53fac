/-
  The contract of 'right' of package english.
-/
import Derived.Test.YthmnffgjckpkiaaGreatDoorGEngJ
import Derived.Test.YthmnffgjckpkiaaGreatDoorGLow
namespace Go.Proofs.YthmnffgjckpkiaaGreatDoor
open Go Go.RowKit Go.Shelf

/-- The tests of 'right', one by one. -/
def headT (r : Int) (sub : List Tr) : Bool := kindS r != 0 && sub.length == (shapeS r).parts.length
def lastT (r : Int) (sub : List Tr) : Bool := r != 16 || (decide (12 ≤ firstRule sub) && decide (firstRule sub ≤ 15))
theorem okS_eq (l : List Ent) (r e : Int) (w : List UInt8) (sub : List Tr) : okS l (.node r e w sub) = (headT r sub && entryOk l (shapeS r).cat e && wordOk (shapeS r).words w && okSubs l sub (shapeS r).parts && lastT r sub) := by
  simp only [okS, headT, lastT]
/-- The parts, up to the k-th one. -/
theorem okSubs_get (l : List Ent) : ∀ (sub : List Tr) (ks : List Nat), sub.length = ks.length → (okSubs l sub ks = true ↔ ∀ j (h : j < sub.length) (h2 : j < ks.length), kindS sub[j].rule = ks[j] ∧ okS l sub[j] = true)
  | [], [], _ => by simp [okSubs]
  | t :: ts, k :: ks, h => by
    have ih := okSubs_get l ts ks (by simpa using h)
    simp only [okSubs, Bool.and_eq_true, beq_iff_eq, ih]
    constructor
    · rintro ⟨h1, h2⟩ j hj hj2
      cases j with
      | zero => exact h1
      | succ j => exact h2 j (by simpa using hj) (by simpa using hj2)
    · intro h1
      exact ⟨h1 0 (by simp) (by simp), fun j hj hj2 => h1 (j + 1) (by simpa using hj) (by simpa using hj2)⟩
theorem contains_any (w : World) (v : Value) (ws : List (List UInt8)) (x : List UInt8) (h : StrSlice w v ws) (h0 : ws ≠ []) :
    Calls Tryz.prog 89 #[v, .string ⟨x.toArray⟩] w fun e w' => e = .returned (.bool (ws.contains x)) ∧ w' = w := by
  obtain ⟨a, cap, rfl, h1, h2, h3⟩ := h
  obtain ⟨b, off, rfl, hc⟩ := h3.resolve_left h0
  have hz : (ws.map fun l => (⟨l.toArray⟩ : ByteArray)).length = ws.length := by simp
  refine (Tryz.slices_Contains_string b off ws.length cap (ws.map fun l => ⟨l.toArray⟩) ⟨x.toArray⟩ w (by omega) (by unfold maxLen at h2; omega) ?_).mono ?_
  · intro j hj
    rw [List.length_map] at hj
    rw [hc j hj]
    simp [hj]
  · rintro e w' ⟨rfl, rfl⟩
    refine ⟨?_, rfl⟩
    congr 2
    rw [List.take_of_length_le (by omega), Bool.eq_iff_iff, Lib.containsS_iff]
    rw [List.contains_iff_mem, List.mem_map]
    constructor
    · rintro ⟨y, hy, he⟩
      have := bytes_inj he
      subst this
      exact hy
    · intro hx
      exact ⟨x, hx, rfl⟩
/-- The parts of a parse in memory. -/
theorem TreeV.parts {W : World} {r e : Int} {w : ByteArray} {a : Option Addr} {n cap : Nat} {r' e' : Int} {w' : List UInt8} {sub : List Tr} (h : TreeV (fun _ => True) W (.agg #[.int .u8 r, .int .i64 e, .string w, .slice a n cap]) (.node r' e' w' sub)) :
    ∀ k (hk : k < sub.length), ∃ b off q, a = some ⟨b, off, none⟩ ∧ TreeV (fun _ => True) W (TV.val q) sub[k] ∧ sub[k].rule = q.r ∧ W.cell? ⟨b, off + k * 4, none⟩ = some (.int .u8 q.r) ∧ W.cell? ⟨b, off + k * 4 + 1, none⟩ = some (.int .i64 q.e) ∧ W.cell? ⟨b, off + k * 4 + 2, none⟩ = some (.string q.w) ∧ W.cell? ⟨b, off + k * 4 + 3, none⟩ = some (.slice q.a q.n q.c) := by
  cases h with
  | mk _ _ _ _ _ _ vs hs hv =>
    intro k hk
    obtain ⟨b, off, rfl, _, hc⟩ := hs.resolve_left (by intro h; rw [h] at hk; simp at hk)
    have htv := hv k hk
    obtain ⟨q, hq⟩ := htv.form
    obtain ⟨y0, y1, y2, y3, hy, g0, g1, g2, g3⟩ := hc k hk
    rw [hq] at hy htv
    have hr : sub[k].rule = q.r := by
      generalize sub[k] = t at htv
      generalize hgv : TV.val q = v at htv
      cases htv
      unfold TV.val at hgv
      simp only [Value.agg.injEq, Array.mk.injEq, List.cons.injEq, Value.int.injEq, and_true] at hgv
      exact hgv.1.2.symm
    unfold TV.val at hy
    simp only [Value.agg.injEq, Array.mk.injEq, List.cons.injEq, and_true] at hy
    obtain ⟨rfl, rfl, rfl, rfl⟩ := hy
    exact ⟨b, off, q, rfl, htv, hr, g0, g1, g2, g3⟩
theorem parts_le (r : Int) : (shapeS r).parts.length ≤ 2 := by
  by_cases hr : 1 ≤ r ∧ r ≤ 19
  · rcases (show r = 1 ∨ r = 2 ∨ r = 3 ∨ r = 4 ∨ r = 5 ∨ r = 6 ∨ r = 7 ∨ r = 8 ∨ r = 9 ∨ r = 10 ∨ r = 11 ∨ r = 12 ∨ r = 13 ∨ r = 14 ∨ r = 15 ∨ r = 16 ∨ r = 17 ∨ r = 18 ∨ r = 19 by omega) with rfl | rfl | rfl | rfl | rfl | rfl | rfl | rfl | rfl | rfl | rfl | rfl | rfl | rfl | rfl | rfl | rfl | rfl | rfl <;> decide
  · have h0 : (shapeS r).parts = [] := by
      unfold shapeS
      repeat rw [if_neg (by omega)]
    rw [h0]; simp
/-- The first k parts are right. -/
def partsOk (l : List Ent) (sub : List Tr) (ks : List Nat) (k : Nat) : Prop := ∀ j (h : j < sub.length) (h2 : j < ks.length), j < k → kindS sub[j].rule = ks[j] ∧ okS l sub[j] = true
theorem partsOk_all {l : List Ent} {sub : List Tr} {ks : List Nat} (h : sub.length = ks.length) (hp : partsOk l sub ks sub.length) : okSubs l sub ks = true := (okSubs_get l sub ks h).2 (fun j hj hj2 => hp j hj hj2 hj)
theorem partsOk_no {l : List Ent} {sub : List Tr} {ks : List Nat} (h : sub.length = ks.length) {k : Nat} (hk : k < sub.length) (hk2 : k < ks.length) (hn : ¬ (kindS sub[k].rule = ks[k] ∧ okS l sub[k] = true)) : okSubs l sub ks = false := by
  cases he : okSubs l sub ks
  · rfl
  · exact absurd ((okSubs_get l sub ks h).1 he k hk hk2) hn
theorem partsOk_step {l : List Ent} {sub : List Tr} {ks : List Nat} {k : Nat} (hp : partsOk l sub ks k) (hk : k < sub.length) (hk2 : k < ks.length) (h : kindS sub[k].rule = ks[k] ∧ okS l sub[k] = true) : partsOk l sub ks (k + 1) := fun j hj hj2 hlt => by
  rcases Nat.lt_succ_iff_lt_or_eq.1 hlt with h' | rfl
  · exact hp j hj hj2 h'
  · exact h
theorem okS_all {l : List Ent} {r e : Int} {wd : List UInt8} {sub : List Tr} (hk : kindS r ≠ 0) (hn : sub.length = (shapeS r).parts.length) (he : entryOk l (shapeS r).cat e = true) (hw : wordOk (shapeS r).words wd = true) (hs : okSubs l sub (shapeS r).parts = true) : okS l (.node r e wd sub) = lastT r sub := by
  rw [okS_eq, he, hw, hs]
  simp [headT, hn, hk]

set_option maxRecDepth 100000 in
set_option maxHeartbeats 4000000 in
theorem right_any (l : List Ent) (lv : Value) : ∀ (t : Tr) (w : World) (v : Value), EntSlice w lv l → TreeV (fun _ => True) w v t →
    Calls Tryz.prog 55 #[lv, v] w fun e w' => e = .returned (.bool (okS l t)) ∧ Below w.heap.size w w' := by
  intro t
  induction t using Tr.ind with
  | h r e wd sub ih =>
    intro w v hl hv
    have HL := Lib.hid hl
    have HTV := Lib.hid hv
    cases hv with
    | mk _ _ _ _ a cap vs hsub hval =>
    obtain ⟨⟨la, lcap, rfl, hcap, hcm, hform⟩, hok⟩ := hl
    obtain ⟨n, hn⟩ : ∃ n, n = sub.length := ⟨_, rfl⟩
    obtain ⟨N, hNl⟩ : ∃ N, N = l.length := ⟨_, rfl⟩
    rw [← hn]
    rw [← hNl]
    have HN := Lib.hid hn
    have HNL := Lib.hid hNl
    have HS := Lib.hid hsub
    have HV := Lib.hid hval
    have HIh := Lib.hid ih
    have HF := Lib.hid hform
    have HSh := Lib.hid (fun w => shapeOf_any w r)
    clear hn hsub hval ih hNl hform hok hcap hcm HTV
    go_enter Tryz.func55, Tryz.ntmps55
    go_wp2_with fail
    obtain ⟨W1, hW1⟩ : ∃ W1, W1 = w.alloc (.cells #[.int .u8 r, .int .i64 e, .string ⟨wd.toArray⟩, .slice a n cap] 36) := ⟨_, rfl⟩
    have hb1 : Below w.heap.size w W1 := by rw [hW1]; exact (Below.refl _ _).alloc (by first | (simp; done) | (simp; omega)) _
    have ht : W1.heap[w.heap.size]? = some (.cells #[.int .u8 r, .int .i64 e, .string ⟨wd.toArray⟩, .slice a n cap] 36 (0, 0)) := by rw [hW1]; exact heap_at2 rfl
    rw [← hW1]
    obtain ⟨B, hB⟩ : ∃ B, B = w.heap.size := ⟨_, rfl⟩
    rw [← hB] at ht ⊢
    have hcall := HSh.out W1
    unfold ShapeOk at hcall
    obtain ⟨K, hK⟩ : ∃ K : Nat, K = kindS r := ⟨_, rfl⟩
    obtain ⟨S, hS⟩ : ∃ S, S = shapeS r := ⟨_, rfl⟩
    rw [← hS, ← hK] at hcall
    refine hcall.mono ?_
    clear hcall
    rintro ee w2 ⟨wv, pv, rfl, hw, hp, hb⟩
    obtain ⟨wa, wn, wc, rfl⟩ := hw.form
    obtain ⟨pa, pc, rfl, hpc⟩ := hp
    have HHb := Lib.hid hb
    have HHb1 := Lib.hid hb1
    have HHt := Lib.hid ht
    have HW := Lib.hid hw
    have HPc := Lib.hid hpc
    have HBq := Lib.hid hB
    have HK := Lib.hid hK
    have HSq := Lib.hid hS
    clear hW1 hb1 hb ht hw hpc hB hK hS
    obtain ⟨C, hC⟩ : ∃ C, C = S.cat := ⟨_, rfl⟩
    obtain ⟨pn, hpn⟩ : ∃ pn, pn = S.parts.length := ⟨_, rfl⟩
    rw [← hC, ← hpn]
    have HC := Lib.hid hC
    have HPn := Lib.hid hpn
    clear hC hpn
    have ht2 : w2.heap[B]? = some (.cells #[.int .u8 r, .int .i64 e, .string ⟨wd.toArray⟩, .slice a n cap] 36 (0, 0)) := by
      rw [HHb.out.block B (Array.getElem?_eq_some_iff.1 HHt.out).1]; exact HHt.out
    obtain ⟨W3, hW3⟩ : ∃ W3, W3 = w2.alloc (.cells #[.int .u8 K, .int .u8 C, .slice wa wn wc, .slice pa pn pc] 135) := ⟨_, rfl⟩
    have hb3 : Below w2.heap.size w2 W3 := by rw [hW3]; exact (Below.refl _ _).alloc (Nat.le_refl _) _
    have hs3 : W3.heap[w2.heap.size]? = some (.cells #[.int .u8 K, .int .u8 C, .slice wa wn wc, .slice pa pn pc] 135 (0, 0)) := by rw [hW3]; exact heap_at2 rfl
    have ht3 : W3.heap[B]? = some (.cells #[.int .u8 r, .int .i64 e, .string ⟨wd.toArray⟩, .slice a n cap] 36 (0, 0)) := by
      rw [hb3.block B (Array.getElem?_eq_some_iff.1 ht2).1]; exact ht2
    go_upto_region 2 with (fail)
    rw [← hW3]
    obtain ⟨Z, hZ⟩ : ∃ Z, Z = w2.heap.size := ⟨_, rfl⟩
    rw [← hZ] at hs3 ⊢
    have hB3 : Below w.heap.size w W3 := HHb1.out.trans ((HHb.out.trans (hb3.mono HHb.out.size)).mono HHb1.out.size)
    have HB3 := Lib.hid hB3
    have HW3 := Lib.hid (HW.out.below hb3)
    have HP3 : Go.RowKit.Hid (PartsAt W3 (.slice pa pn pc) S.parts) := Lib.hid (by rw [HPn.out]; exact PartsAt.below ⟨pa, pc, rfl, HPc.out⟩ hb3)
    have hc0 : W3.cell? ⟨B, 0, none⟩ = some (.int .u8 r) := by simp [World.cell?, ht3]
    have hc1 : W3.cell? ⟨B, 1, none⟩ = some (.int .i64 e) := by simp [World.cell?, ht3]
    have hc2 : W3.cell? ⟨B, 2, none⟩ = some (.string ⟨wd.toArray⟩) := by simp [World.cell?, ht3]
    have hc3 : W3.cell? ⟨B, 3, none⟩ = some (.slice a n cap) := by simp [World.cell?, ht3]
    have hs0 : W3.cell? ⟨Z, 0, none⟩ = some (.int .u8 K) := by simp [World.cell?, hs3]
    have hs1 : W3.cell? ⟨Z, 1, none⟩ = some (.int .u8 C) := by simp [World.cell?, hs3]
    have hs2 : W3.cell? ⟨Z, 2, none⟩ = some (.slice wa wn wc) := by simp [World.cell?, hs3]
    have hs3' : W3.cell? ⟨Z, 3, none⟩ = some (.slice pa pn pc) := by simp [World.cell?, hs3]
    have htv : TreeV (fun _ => True) W3 (.agg #[.int .u8 r, .int .i64 e, .string ⟨wd.toArray⟩, .slice a n cap]) (.node r e wd sub) := by
      have h0 : TreeV (fun _ => True) w (.agg #[.int .u8 r, .int .i64 e, .string ⟨wd.toArray⟩, .slice a sub.length cap]) (.node r e wd sub) := .mk r e wd sub a cap vs HS.out HV.out
      rw [← HN.out] at h0
      exact h0.move (fun b _ h => ⟨trivial, by obtain ⟨_, _, h⟩ := h; exact hB3.block b (cell_lt h)⟩)
    have HTV := Lib.hid htv
    have HL3 := Lib.hid (HL.out.below hB3)
    clear hW3 hs3 ht3 ht2 hZ hb3 HHb HHb1 HHt HW HPc HS HV HSh HL HF hB3 htv
    by_cases hk0 : K = 0
    · have hd0 : ((K : Int) == 0) = true := by rw [hk0]; rfl
      have HK0 := Lib.hid hk0
      clear hk0
      go_wp2
      go_ret
      refine ⟨ret_bool ?_, HB3.out⟩
      rw [okS_eq]; simp [headT, ← HK.out, HK0.out]
    have hd0 : ((K : Int) == 0) = false := by simpa using hk0
    have HK0 := Lib.hid hk0
    clear hk0
    have hdp : ((n : Int) != (pn : Int)) = !(decide (n = pn)) := by
      by_cases h : n = pn <;> simp [h] <;> omega
    by_cases hnp : n = pn
    case neg =>
      rw [decide_eq_false hnp] at hdp
      have HNp := Lib.hid hnp
      clear hnp
      go_wp2
      go_ret
      refine ⟨ret_bool ?_, HB3.out⟩
      have h1 := HNp.out
      rw [HN.out, HPn.out, HSq.out] at h1
      rw [okS_eq]; simp [headT, h1]
    rw [decide_eq_true hnp] at hdp
    have HNp := Lib.hid hnp
    clear hnp
    have hent : entryOk l (shapeS r).cat e = (if C = 0 then e == 0 else decide (0 ≤ e) && decide (e < N) && catAt l e.toNat == C) := by
      unfold entryOk; rw [HC.out, HSq.out, HNL.out]
    have HEnt := Lib.hid hent
    clear hent
    have hfalse : (if C = 0 then e == 0 else decide (0 ≤ e) && decide (e < N) && catAt l e.toNat == C) = false → okS l (.node r e wd sub) = false := by
      intro h
      rw [okS_eq, HEnt.out, h]; simp
    have HFalse := Lib.hid hfalse
    clear hfalse
    have hcases : (C = 0 ∧ e ≠ 0) ∨ (C ≠ 0 ∧ e < 0) ∨ (C ≠ 0 ∧ 0 ≤ e ∧ (N : Int) ≤ e) ∨ (C ≠ 0 ∧ ∃ m : Nat, e = m ∧ m < N ∧ catAt l m ≠ C) ∨ ((C = 0 → e = 0) ∧ (C ≠ 0 → ∃ m : Nat, e = m ∧ m < N ∧ catAt l m = C)) := by
      by_cases h1 : C = 0
      · by_cases h2 : e = 0
        · exact .inr (.inr (.inr (.inr ⟨fun _ => h2, fun h => absurd h1 h⟩)))
        · exact .inl ⟨h1, h2⟩
      · by_cases h2 : e < 0
        · exact .inr (.inl ⟨h1, h2⟩)
        · by_cases h3 : (N : Int) ≤ e
          · exact .inr (.inr (.inl ⟨h1, by omega, h3⟩))
          · by_cases h4 : catAt l e.toNat = C
            · exact .inr (.inr (.inr (.inr ⟨fun h => absurd h h1, fun _ => ⟨e.toNat, by omega, by omega, h4⟩⟩)))
            · exact .inr (.inr (.inr (.inl ⟨h1, e.toNat, by omega, by omega, h4⟩)))
    have F0 := Lib.hid (fun x : Later W3 => x.get hc0)
    have F1 := Lib.hid (fun x : Later W3 => x.get hc1)
    have F2 := Lib.hid (fun x : Later W3 => x.get hc2)
    have F3 := Lib.hid (fun x : Later W3 => x.get hc3)
    have G0 := Lib.hid (fun x : Later W3 => x.get hs0)
    have G1 := Lib.hid (fun x : Later W3 => x.get hs1)
    have G2 := Lib.hid (fun x : Later W3 => x.get hs2)
    have G3 := Lib.hid (fun x : Later W3 => x.get hs3')
    rcases hcases with ⟨h1, h2⟩ | ⟨h1, h2⟩ | ⟨h1, h2, h3⟩ | ⟨h1, m, rfl, h3, h4⟩ | hE
    · have hdc : (C == 0) = true := by rw [h1]; rfl
      have hde : (e != 0) = true := by simpa using h2
      have H1 := Lib.hid h1
      have H2 := Lib.hid h2
      clear h1 h2
      go_wp2
      go_ret
      refine ⟨ret_bool (HFalse.out ?_).symm, HB3.out⟩
      rw [if_pos H1.out]; simpa using H2.out
    · have hdc : (C == 0) = false := by simpa using h1
      have hdc2 : (C != 0) = true := by simpa using h1
      have hde : decide (e < 0) = true := decide_eq_true h2
      have H1 := Lib.hid h1
      have H2 := Lib.hid h2
      clear h1 h2
      go_upto_region 6 with (fail)
      have f1 := F1.out
      have g1 := G1.out
      refine wp_region_later (by kernel_rfl) (by kernel_rfl) ?_
      repeat (go_big_quiet_step (fail))
      refine wpQuiet_nil ?_
      rintro _ ⟨x, rfl⟩
      clear f1 g1
      go_wp2
      go_ret
      refine ⟨ret_bool (HFalse.out ?_).symm, HB3.out.trans (x.below.mono HB3.out.size)⟩
      have := H2.out
      rw [if_neg H1.out, decide_eq_false (by omega)]; rfl
    · have hdc : (C == 0) = false := by simpa using h1
      have hdc2 : (C != 0) = true := by simpa using h1
      have hde : decide (e < 0) = false := decide_eq_false (by omega)
      have hde2 : decide ((N : Int) ≤ e) = true := decide_eq_true h3
      have H1 := Lib.hid h1
      have H2 := Lib.hid h3
      clear h1 h2 h3
      go_upto_region 6 with (fail)
      have f1 := F1.out
      have g1 := G1.out
      refine wp_region_later (by kernel_rfl) (by kernel_rfl) ?_
      repeat (go_big_quiet_step (fail))
      refine wpQuiet_nil ?_
      rintro _ ⟨x, rfl⟩
      clear f1 g1
      go_wp2
      go_ret
      refine ⟨ret_bool (HFalse.out ?_).symm, HB3.out.trans (x.below.mono HB3.out.size)⟩
      have := H2.out
      rw [if_neg H1.out, decide_eq_false (show ¬ e < N by omega)]; simp
    · have hdc : (C == 0) = false := by simpa using h1
      have hdc2 : (C != 0) = true := by simpa using h1
      have hde : decide ((m : Int) < 0) = false := decide_eq_false (by omega)
      have hde2 : decide ((N : Int) ≤ (m : Int)) = false := decide_eq_false (by omega)
      have hde3 : decide (N ≤ m) = false := decide_eq_false (by omega)
      have hml : m < l.length := by rw [← HNL.out]; exact h3
      obtain ⟨b, off, rfl, _, hcl⟩ := (show ∃ b off, la = some ⟨b, off, none⟩ ∧ b < W3.heap.size ∧ ∀ j (h : j < l.length), W3.cell? ⟨b, off + j * 3, none⟩ = some (.string l[j].word) ∧ W3.cell? ⟨b, off + j * 3 + 1, none⟩ = some (.int .u8 l[j].cat) ∧ W3.cell? ⟨b, off + j * 3 + 2, none⟩ = some (.string l[j].sym) from by
        obtain ⟨a', c', he, _, _, h⟩ := HL3.out.form
        cases he
        exact h.resolve_left (fun h0 => by rw [h0] at hml; simp at hml))
      have hx1 := (hcl m hml).2.1
      have hcat : catAt l m = l[m].cat := by unfold catAt; rw [List.getElem?_eq_getElem hml]
      rw [← hcat] at hx1
      obtain ⟨D, hD⟩ : ∃ D, D = catAt l m := ⟨_, rfl⟩
      rw [← hD] at hx1 h4
      have hdd : (D != C) = true := by simpa using h4
      have H1 := Lib.hid h1
      have H4 := Lib.hid h4
      have H3 := Lib.hid h3
      have HD := Lib.hid hD
      have X1 := Lib.hid (fun x : Later W3 => x.get hx1)
      have b1 : (0 : Int) ≤ (m : Int) := by omega
      have b2 : (m : Int) < (N : Int) := by omega
      clear h1 h4 h3 hD hcl hcat hx1 hml
      go_upto_region 6 with (fail)
      have f1 := F1.out
      have g1 := G1.out
      have x1 := X1.out
      refine wp_region_later (by kernel_rfl) (by kernel_rfl) ?_
      repeat (go_big_quiet_step (fail))
      refine wpQuiet_nil ?_
      rintro _ ⟨x, rfl⟩
      clear f1 g1 x1
      go_wp2
      go_ret
      refine ⟨ret_bool (HFalse.out ?_).symm, HB3.out.trans (x.below.mono HB3.out.size)⟩
      rw [if_neg H1.out, Int.toNat_natCast, ← HD.out]
      simp [H4.out]
    have hEok : entryOk l (shapeS r).cat e = true := by
      rw [HEnt.out]
      by_cases h1 : C = 0
      · rw [if_pos h1, hE.1 h1]; rfl
      · obtain ⟨m, rfl, h3, h4⟩ := hE.2 h1
        rw [if_neg h1, Int.toNat_natCast, h4]
        simp [h3]
    have HEok := Lib.hid hEok
    have HE := Lib.hid hE
    clear hE hEok HFalse
    by_cases hC0 : C = 0
    case' pos =>
      have he0 := HE.out.1 hC0
      have hdc : (C == 0) = true := by rw [hC0]; rfl
      have hdc2 : (C != 0) = false := by rw [hC0]; rfl
      have hde : (e != 0) = false := by rw [he0]; rfl
      have H1 := Lib.hid hC0
      clear hC0 he0 HE
      go_upto_region 6 with (fail)
      have f1 := F1.out
      have g1 := G1.out
      refine wp_region_later (by kernel_rfl) (by kernel_rfl) ?_
      repeat (go_big_quiet_step (fail))
      refine wpQuiet_nil ?_
      rintro _ ⟨x, rfl⟩
      clear f1 g1
    case' neg =>
      obtain ⟨m, rfl, h3, h4⟩ := HE.out.2 hC0
      have hdc : (C == 0) = false := by simpa using hC0
      have hdc2 : (C != 0) = true := by simpa using hC0
      have hde : decide ((m : Int) < 0) = false := decide_eq_false (by omega)
      have hde2 : decide ((N : Int) ≤ (m : Int)) = false := decide_eq_false (by omega)
      have hde3 : decide (N ≤ m) = false := decide_eq_false (by omega)
      have hml : m < l.length := by rw [← HNL.out]; exact h3
      obtain ⟨b, off, hla, _, hcl⟩ := (show ∃ b off, la = some ⟨b, off, none⟩ ∧ b < W3.heap.size ∧ ∀ j (h : j < l.length), W3.cell? ⟨b, off + j * 3, none⟩ = some (.string l[j].word) ∧ W3.cell? ⟨b, off + j * 3 + 1, none⟩ = some (.int .u8 l[j].cat) ∧ W3.cell? ⟨b, off + j * 3 + 2, none⟩ = some (.string l[j].sym) from by
        obtain ⟨a', c', he, _, _, h⟩ := HL3.out.form
        cases he
        exact h.resolve_left (fun h0 => by rw [h0] at hml; simp at hml))
      subst hla
      have hx1 := (hcl m hml).2.1
      have hcat : catAt l m = l[m].cat := by unfold catAt; rw [List.getElem?_eq_getElem hml]
      rw [← hcat, h4] at hx1
      have hdd : (C != C) = false := by simp
      have H1 := Lib.hid hC0
      have H3 := Lib.hid h3
      have X1 := Lib.hid (fun x : Later W3 => x.get hx1)
      have b1 : (0 : Int) ≤ (m : Int) := by omega
      have b2 : (m : Int) < (N : Int) := by omega
      clear hC0 h4 h3 hcl hcat hx1 hml HE
      go_upto_region 6 with (fail)
      have f1 := F1.out
      have g1 := G1.out
      have x1 := X1.out
      refine wp_region_later (by kernel_rfl) (by kernel_rfl) ?_
      repeat (go_big_quiet_step (fail))
      refine wpQuiet_nil ?_
      rintro _ ⟨x, rfl⟩
      clear f1 g1 x1
    all_goals
      obtain ⟨W4, hW4⟩ : ∃ W4, W4 = x.w := ⟨_, rfl⟩
      have hb4 : Below W3.heap.size W3 W4 := by rw [hW4]; exact x.below
      rw [← hW4]
      clear hW4 x F0 F1 F2 F3 G0 G1 G2 G3
      have e0 := cell_kept' hb4 hc0
      have e2 := cell_kept' hb4 hc2
      have e3 := cell_kept' hb4 hc3
      have z2 := cell_kept' hb4 hs2
      have z3 := cell_kept' hb4 hs3'
      have HB4 := Lib.hid (HB3.out.trans (hb4.mono HB3.out.size))
      have HW4 := Lib.hid (HW3.out.below hb4)
      have HP4 := Lib.hid (HP3.out.below hb4)
      have HTV4 : Go.RowKit.Hid (TreeV (fun _ => True) W4 _ _) := Lib.hid (HTV.out.move (fun b _ h => ⟨trivial, by obtain ⟨_, _, h⟩ := h; exact hb4.block b (cell_lt h)⟩))
      have HL4 := Lib.hid (HL3.out.below hb4)
      clear HW3 HP3 HTV HL3 HB3 hb4 hc0 hc1 hc2 hc3 hs0 hs1 hs2 hs3'
      go_upto_region 8 with (fail)
      by_cases hw0 : S.words = []
      case' pos =>
        have hv := (HW4.out.resolve_right (fun h => h.1 hw0)).2
        simp only [Value.slice.injEq] at hv
        obtain ⟨rfl, rfl, rfl⟩ := hv
        have HW0 := Lib.hid hw0
        clear hw0 HW4
        have q1 : ∀ W, (binOp .eql 41 (.slice none 0 0) (.slice none 0 0)).run Tryz.prog W = .ok (.bool true) W := fun _ => rfl
        have q2 : ∀ W, (binOp .neq 41 (.slice none 0 0) (.slice none 0 0)).run Tryz.prog W = .ok (.bool false) W := fun _ => rfl
        by_cases hwd : wd = []
        case neg =>
          have hwe : wd.isEmpty = false := by simpa using hwd
          have HWd := Lib.hid hwd
          clear hwd
          go_wp2
          go_ret
          refine ⟨ret_bool ?_, HB4.out⟩
          have h1 : wordOk (shapeS r).words wd = false := by
            rw [← HSq.out, HW0.out]
            unfold wordOk
            simpa using HWd.out
          rw [okS_eq, h1]; simp
        have hwe : wd.isEmpty = true := by simpa using hwd
        have HWok : Go.RowKit.Hid (wordOk (shapeS r).words wd = true) := Lib.hid (by rw [← HSq.out, HW0.out, hwd]; rfl)
        clear hwd
        go_upto_region 10 with (fail)
      case' neg =>
        obtain ⟨_, wb, wn', wc', hv, hws⟩ := HW4.out.resolve_left (fun h => hw0 h.1)
        simp only [Value.slice.injEq] at hv
        obtain ⟨rfl, rfl, rfl⟩ := hv
        have q1 : ∀ W, (binOp .eql 41 (.slice (some ⟨wb, 0, none⟩) wn wc) (.slice none 0 0)).run Tryz.prog W = .ok (.bool false) W := fun _ => rfl
        have q2 : ∀ W, (binOp .neq 41 (.slice (some ⟨wb, 0, none⟩) wn wc) (.slice none 0 0)).run Tryz.prog W = .ok (.bool true) W := fun _ => rfl
        have HWs := Lib.hid (contains_any W4 _ S.words wd hws hw0)
        have HW0 := Lib.hid hw0
        clear hws hw0 HW4
        have hw1 : wordOk (shapeS r).words wd = S.words.contains wd := by
          rw [← HSq.out]; unfold wordOk; rw [if_neg HW0.out]
        have HW1 := Lib.hid hw1
        clear hw1
        obtain ⟨ct, hct⟩ : ∃ ct, ct = S.words.contains wd := ⟨_, rfl⟩
        rw [← hct] at HWs HW1
        clear hct
        cases ct
        case false =>
          go_wp2_with (go_at_call 89; refine HWs.out.mono ?_; rintro _ w5 ⟨rfl, h5⟩; rw [h5]; clear h5 w5)
          go_ret
          refine ⟨ret_bool ?_, HB4.out⟩
          rw [okS_eq, HW1.out]; simp
        have HWok := Lib.hid HW1.out
        go_upto_region 10 with (go_at_call 89; refine HWs.out.mono ?_; rintro _ w5 ⟨rfl, h5⟩; rw [h5]; clear h5 w5)
        clear HWs HW1
      all_goals
        have HPar := Lib.hid (TreeV.parts HTV4.out)
        have HKd := Lib.hid kindOf_any
        have hOk : okSubs l sub (shapeS r).parts = true → okS l (.node r _ wd sub) = lastT r sub := fun h => okS_all (by rw [← HK.out]; exact HK0.out) (by rw [← HN.out, HNp.out, HPn.out, HSq.out]) HEok.out HWok.out h
        have HOk := Lib.hid hOk
        have hNo : okSubs l sub (shapeS r).parts = false → okS l (.node r _ wd sub) = false := fun h => by rw [okS_eq, HEok.out, HWok.out, h]; simp
        have HNo := Lib.hid hNo
        have HLen : Go.RowKit.Hid (sub.length = S.parts.length) := Lib.hid (by rw [← HN.out, HNp.out, HPn.out])
        clear HTV4 hOk hNo
        go_wp2
        go_loopw [81] (fun q wr => ∃ k : Nat, k ≤ n ∧ q = .int .i64 k ∧ partsOk l sub S.parts k ∧ Below W4.heap.size W4 wr) (fun q _ => n - (intOf q).toNat)
        case atStart => exact ⟨0, Nat.zero_le _, rfl, fun j _ _ h => by omega, Below.refl _ _⟩
        case round =>
          obtain ⟨k, hk, rfl, hpo, hbr⟩ := hrel
          have HPo := Lib.hid hpo
          have HBr := Lib.hid hbr
          have hn2 : n ≤ 2 := by rw [HNp.out, HPn.out, HSq.out]; exact parts_le r
          clear hpo
          by_cases hlt : k < n
          · have hd : decide ((k : Int) < (n : Int)) = true := decide_eq_true (by omega)
            have hkl : k < sub.length := by rw [← HN.out]; exact hlt
            have hkp : k < S.parts.length := by rw [← HLen.out]; exact hkl
            obtain ⟨tb, toff, q, hab, htv, hqr, g0, g1, g2, g3⟩ := HPar.out k hkl
            obtain ⟨_, _, hpv, hpx⟩ := HP4.out
            simp only [Value.slice.injEq] at hpv
            obtain ⟨rfl, _, rfl⟩ := hpv
            obtain ⟨pb, rfl, hpc⟩ := hpx.resolve_left (by intro h; rw [h] at hkp; simp at hkp)
            subst hab
            have d0 := cell_kept' hbr g0
            have d1 := cell_kept' hbr g1
            have d2 := cell_kept' hbr g2
            have d3 := cell_kept' hbr g3
            have p0 := cell_kept' hbr (hpc k hkp)
            have y3 := cell_kept' hbr z3
            obtain ⟨PK, hPK⟩ : ∃ PK, PK = S.parts[k] := ⟨_, rfl⟩
            rw [← hPK] at p0
            have HPK := Lib.hid hPK
            have HQr := Lib.hid hqr
            have HTv := Lib.hid htv
            clear g0 g1 g2 g3 hpc hpx hPK hqr htv hbr
            have b1 : (0 : Int) ≤ (k : Int) := by omega
            have b2 : (k : Int) < (n : Int) := by omega
            have b3 : (k : Int) < (pn : Int) := by rw [← HNp.out]; exact b2
            go_upto_region 13 with (fail)
            obtain ⟨W5, hW5⟩ : ∃ W5, W5 = wr.alloc (.cells #[.int .u8 q.r, .int .i64 q.e, .string q.w, .slice q.a q.n q.c] 36) := ⟨_, rfl⟩
            have hb5 : Below wr.heap.size wr W5 := by rw [hW5]; exact (Below.refl _ _).alloc (Nat.le_refl _) _
            have ht5 : W5.heap[wr.heap.size]? = some (.cells #[.int .u8 q.r, .int .i64 q.e, .string q.w, .slice q.a q.n q.c] 36 (0, 0)) := by rw [hW5]; exact heap_at2 rfl
            rw [← hW5]
            obtain ⟨T, hT⟩ : ∃ T, T = wr.heap.size := ⟨_, rfl⟩
            rw [← hT] at ht5 ⊢
            have HB5 := Lib.hid (HBr.out.trans (hb5.mono HBr.out.size))
            have f0 : ∀ x : Later W5, x.w.cell? ⟨T, 0, none⟩ = some (.int .u8 q.r) := fun x => x.get (by simp [World.cell?, ht5])
            have f1 : ∀ x : Later W5, x.w.cell? ⟨T, 1, none⟩ = some (.int .i64 q.e) := fun x => x.get (by simp [World.cell?, ht5])
            have f2 : ∀ x : Later W5, x.w.cell? ⟨T, 2, none⟩ = some (.string q.w) := fun x => x.get (by simp [World.cell?, ht5])
            have f3 : ∀ x : Later W5, x.w.cell? ⟨T, 3, none⟩ = some (.slice q.a q.n q.c) := fun x => x.get (by simp [World.cell?, ht5])
            have f4 := fun x : Later W5 => x.get (cell_kept' hb5 y3)
            have f5 := fun x : Later W5 => x.get (cell_kept' hb5 p0)
            have HR : Go.RowKit.Hid (∀ x : Later W5, Calls Tryz.prog 55 #[.slice _ N lcap, .agg #[.int .u8 q.r, .int .i64 q.e, .string q.w, .slice q.a q.n q.c]] x.w fun e w' => e = .returned (.bool (okS l sub[k])) ∧ Below x.w.heap.size x.w w') := Lib.hid (fun x => by
              have hbx : Below W4.heap.size W4 x.w := HB5.out.trans (x.below.mono HB5.out.size)
              have h1 := HIh.out sub[k] (List.getElem_mem hkl) x.w (TV.val q) (HL4.out.below hbx) (HTv.out.move (fun b _ h => ⟨trivial, by obtain ⟨_, _, h⟩ := h; exact hbx.block b (cell_lt h)⟩))
              rw [← HNL.out] at h1
              exact h1)
            obtain ⟨KQ, hKQ⟩ : ∃ KQ, KQ = kindS q.r := ⟨_, rfl⟩
            have HKc : Go.RowKit.Hid (∀ x : Later W5, Calls Tryz.prog 57 #[.int .u8 q.r] x.w fun e w' => e = .returned (.int .u8 KQ) ∧ Below x.w.heap.size x.w w') := Lib.hid (fun x => by rw [hKQ]; exact HKd.out x.w q.r)
            have HKQ := Lib.hid hKQ
            obtain ⟨bk, hbk⟩ : ∃ bk, bk = okS l sub[k] := ⟨_, rfl⟩
            rw [← hbk] at HR
            have HBk := Lib.hid hbk
            have HT := Lib.hid hT
            clear hW5 hb5 ht5 hT hKQ hbk d0 d1 d2 d3 p0 y3 hd
            by_cases hkk : KQ = PK
            · have hdk : ((KQ : Int) != (PK : Int)) = false := by simp [hkk]
              have hdk2 : (KQ != PK) = false := by simp [hkk]
              have HKk := Lib.hid hkk
              clear hkk
              refine wp_region_later (by kernel_rfl) (by kernel_rfl) ?_
              repeat (go_big_quiet_step (first | (go_at_call 57; exact later_call (HKc.out _)) | (go_at_call 55; exact later_call (HR.out _))))
              refine wpQuiet_nil ?_
              rintro _ ⟨x, rfl⟩
              clear f0 f1 f2 f3 f4 f5
              cases bk
              · go_wp2
                go_ret
                refine ⟨ret_bool (HNo.out ?_).symm, HB4.out.trans ((HB5.out.trans (x.below.mono HB5.out.size)).mono HB4.out.size)⟩
                rw [← HSq.out]
                exact partsOk_no HLen.out hkl hkp (fun h => by have := h.2; rw [← HBk.out] at this; cases this)
              · go_wp2
                go_roundw
                case rel => exact ⟨k + 1, by omega, by go_num, partsOk_step HPo.out hkl hkp ⟨by rw [HQr.out, ← HKQ.out, HKk.out, HPK.out], HBk.out.symm⟩, HB5.out.trans (x.below.mono HB5.out.size)⟩
                case measure => simp [intOf]; omega
            · have hdk : ((KQ : Int) != (PK : Int)) = true := by simp; omega
              have hdk2 : (KQ != PK) = true := by simpa using hkk
              have HKk := Lib.hid hkk
              clear hkk
              refine wp_region_later (by kernel_rfl) (by kernel_rfl) ?_
              repeat (go_big_quiet_step ((go_at_call 57; exact later_call (HKc.out _))))
              refine wpQuiet_nil ?_
              rintro _ ⟨x, rfl⟩
              clear f0 f1 f2 f3 f4 f5
              go_wp2
              go_ret
              refine ⟨ret_bool (HNo.out ?_).symm, HB4.out.trans ((HB5.out.trans (x.below.mono HB5.out.size)).mono HB4.out.size)⟩
              rw [← HSq.out]
              exact partsOk_no HLen.out hkl hkp (fun h => HKk.out (by rw [HKQ.out, ← HQr.out, h.1, HPK.out]))
          · have hd : decide ((k : Int) < (n : Int)) = false := decide_eq_false (by omega)
            obtain rfl : k = n := by omega
            have hr0 := cell_kept' hbr e0
            have hr3 := cell_kept' hbr e3
            have HBw := Lib.hid (HB4.out.trans (HBr.out.mono HB4.out.size))
            have hsubs : okSubs l sub (shapeS r).parts = true := by
              rw [← HSq.out]
              exact partsOk_all HLen.out (by rw [← HN.out]; exact HPo.out)
            have HRes := Lib.hid (HOk.out hsubs)
            clear hsubs
            by_cases h16 : r = 16
            · have h1 : k = 1 := by rw [HNp.out, HPn.out, HSq.out, h16]; rfl
              have hs0 : 0 < sub.length := by rw [← HN.out]; omega
              obtain ⟨tb, toff, q, hab, hq2, hqr, g0, _⟩ := HPar.out 0 hs0
              simp only [Nat.zero_mul, Nat.add_zero] at g0
              subst hab
              have r0 := cell_kept' hbr g0
              have hfr : firstRule sub = q.r := by
                rw [← hqr]
                cases sub with
                | nil => simp at hs0
                | cons y ys => rfl
              have HFr := Lib.hid hfr
              have hd16 : (r != 16) = false := by rw [h16]; rfl
              have H16 := Lib.hid h16
              have b2 : (0 : Int) < (k : Int) := by omega
              have b3 : 0 < k := by omega
              clear h16 hfr hqr g0 hq2 hs0 h1 hbr
              by_cases h12 : 12 ≤ q.r
              · by_cases h15 : q.r ≤ 15
                · have hd12 : decide (12 ≤ q.r) = true := decide_eq_true h12
                  have hd15 : decide (q.r ≤ 15) = true := decide_eq_true h15
                  clear h12 h15
                  go_wp2
                  go_ret
                  refine ⟨ret_bool ?_, HBw.out⟩
                  rw [HRes.out]
                  unfold lastT
                  rw [HFr.out, hd12, hd15, H16.out]; rfl
                · have hd12 : decide (12 ≤ q.r) = true := decide_eq_true h12
                  have hd15 : decide (q.r ≤ 15) = false := decide_eq_false h15
                  clear h12 h15
                  go_wp2
                  go_ret
                  refine ⟨ret_bool ?_, HBw.out⟩
                  rw [HRes.out]
                  unfold lastT
                  rw [HFr.out, hd12, hd15, H16.out]; rfl
              · have hd12 : decide (12 ≤ q.r) = false := decide_eq_false h12
                clear h12
                go_wp2
                go_ret
                refine ⟨ret_bool ?_, HBw.out⟩
                rw [HRes.out]
                unfold lastT
                rw [HFr.out, hd12, H16.out]; rfl
            · have hd16 : (r != 16) = true := by simpa using h16
              have H16 := Lib.hid h16
              clear h16
              go_wp2
              go_ret
              refine ⟨ret_bool ?_, HBw.out⟩
              rw [HRes.out]
              unfold lastT
              simp [H16.out]
end Go.Proofs.YthmnffgjckpkiaaGreatDoor
