/-
  The contract of Words of the reference of chapter 34.
-/
import Derived.Test.YthmnffgjckpkiaaGreatDoorRRight
import Derived.Test.YthmnffgjckpkiaaGreatDoorRRows
import Derived.Test.YthmnffgjckpkiaaGreatDoorPlainE
import Derived.Deep.DeepCutAuto
namespace Go.Proofs.YthmnffgjckpkiaaGreatDoor
open Go Go.RowKit Go.Shelf

theorem str_back (s : ByteArray) : (⟨s.data.toList.toArray⟩ : ByteArray) = s := by cases s; simp
theorem Pair.nilS {w W : World} {a b : Value} {A Bl : List (List UInt8)} (h : Pair w W a A b Bl) : Tri w W (.slice none 0 0) [] a A b Bl :=
  ⟨h.below, World.ownsRow_nil _ _ _ _, h.rs, h.rb, fun g hg => by simp [Value.ownBlock] at hg, fun g hg => by simp [Value.ownBlock] at hg, h.sb⟩
theorem Pair.buildS' {w W : World} {a b : Value} {A Bl : List (List UInt8)} (h : Pair w W a A b Bl) (H : Nat) (hH : W.heap.size = H) (cs : Array Value) (xs : List (List UInt8)) (hc : cs.toList = xs.map strVal) (n : Nat) (hn : n = xs.length) (hm : n ≤ 100) : Tri w (W.alloc (.cells cs 9)) (.slice (some ⟨H, 0, none⟩) n n) xs a A b Bl := by
  subst hH
  exact h.buildS cs xs hc n hn hm
theorem rowW_base {B B' : Nat} {W : World} {v : Value} {xs : List (List UInt8)} (h : RowW B W v xs) (hb : B' ≤ B) : RowW B' W v xs := owns_base h hb
theorem wordsF_node (l : List Ent) (r e : Int) (wd : List UInt8) (sub : List Tr) (b : Bool) : wordsF l (.node r e wd sub) b = stepW r wd (ownW l e) (firstRule sub) (firstF l sub (r == 16)) (secondF l sub) b := by simp only [wordsF]

theorem noun_head {l : List Ent} (hokl : ∀ e ∈ l, e.ok) {y : Tr} (hy : okS l y = true) (hk : kindS y.rule = 3) (b : Bool) {a0 : List UInt8} {al : List (List UInt8)} (h : wordsF l y b = a0 :: al) : a0.length ≤ 9223372036854775807 := by
  obtain ⟨r, e, w, sub⟩ := y
  have hr := (kind_rules r).2.2.1 hk
  rw [wordsF_node] at h
  obtain ⟨_, _, _, hent, _, _, _⟩ := okS_parts hy
  obtain ⟨m, rfl, hm, _⟩ := entry_inv hent (by
    rcases (show r = 8 ∨ r = 9 ∨ r = 10 ∨ r = 11 by omega) with rfl | rfl | rfl | rfl <;> decide)
  have h0 : ownW l m = a0 := by
    rcases (show r = 8 ∨ r = 9 ∨ r = 10 ∨ r = 11 by omega) with rfl | rfl | rfl | rfl
    all_goals
      simp [stepW] at h
      exact h.1
  rw [← h0, ownW_at hm]
  have := (hokl _ (List.getElem_mem hm)).1
  unfold maxLen at this
  simp [Ent.w]
  omega
theorem rArticle_list (a0 : List UInt8) (h : a0.length ≤ 9223372036854775807) (W : World) : Calls Tryz.prog 128 #[.string ⟨a0.toArray⟩] W fun e w' => e = .returned (.string ⟨(articleS a0).toArray⟩) ∧ W = w' := by
  have h2 := rArticle_any ⟨a0.toArray⟩ W (by show a0.toArray.size ≤ _; simpa using h)
  have e : (⟨a0.toArray⟩ : ByteArray).data.toList = a0 := by simp
  rw [e] at h2
  exact h2
set_option maxRecDepth 100000 in
set_option maxHeartbeats 16000000 in
theorem rWords_any (l : List Ent) (hval : validS l = true) (lv : Value) : ∀ (t : Tr), okS l t = true → sizeT t ≤ 200 → ∀ (b : Bool) (w : World) (q : TV), EntSlice w lv l → TreeV (fun _ => True) w q.val t →
    Calls Tryz.prog 83 #[lv, q.val, .bool b] w fun e w' => ∃ v', e = .returned v' ∧ RowW w.heap.size w' v' (wordsF l t b) ∧ Below w.heap.size w w' := by
  intro t
  induction t using Tr.ind with
  | h r e wd sub ih =>
    intro hok hsz b w q hl hv
    obtain ⟨qr, qe, qw, qa, qn, qc⟩ := q
    have hPar := TreeV.parts (show TreeV (fun _ => True) w (.agg #[.int .u8 qr, .int .i64 qe, .string qw, .slice qa qn qc]) _ from hv)
    have hqn := TreeV.lenW (show TreeV (fun _ => True) w (.agg #[.int .u8 qr, .int .i64 qe, .string qw, .slice qa qn qc]) _ from hv)
    obtain ⟨rfl, rfl, rfl⟩ := TreeV.headW (show TreeV (fun _ => True) w (.agg #[.int .u8 qr, .int .i64 qe, .string qw, .slice qa qn qc]) _ from hv)
    obtain ⟨hr1, hr2, hlen, hent, hword, hsubs, h16⟩ := okS_parts hok
    obtain ⟨A, hA⟩ : ∃ A, A = firstF l sub (qr == 16) := ⟨_, rfl⟩
    obtain ⟨Bl, hBl⟩ : ∃ Bl, Bl = secondF l sub := ⟨_, rfl⟩
    have hW := wordsF_node l qr qe wd sub b
    rw [← hA, ← hBl] at hW
    have hAlen : A.length ≤ 700 := by
      rw [hA]
      cases sub with
      | nil => simp [firstF]
      | cons y ys =>
        have hy : okS l y = true := by
          have h := (okSubs_get l (y :: ys) (shapeS qr).parts hlen).1 hsubs 0 (by simp) (by rw [← hlen]; simp)
          exact h.2
        have := words_le y hy (qr == 16)
        have h2 : sizeT y ≤ 200 := by simp [sizeT, sizesT] at hsz; omega
        show (wordsF l y _).length ≤ 700
        omega
    have hBlen : Bl.length ≤ 700 := by
      rw [hBl]
      cases sub with
      | nil => simp [secondF]
      | cons y ys =>
        cases ys with
        | nil => simp [secondF, firstF]
        | cons z zs =>
          have hy : okS l z = true := by
            have h := (okSubs_get l (y :: z :: zs) (shapeS qr).parts hlen).1 hsubs 1 (by simp) (by rw [← hlen]; simp)
            exact h.2
          have := words_le z hy false
          have h2 : sizeT z ≤ 200 := by simp [sizeT, sizesT] at hsz; omega
          show (wordsF l z _).length ≤ 700
          omega
    have HIh := Lib.hid (fun y hy hok hs => ih y hy hok hs)
    have HOk := Lib.hid hok
    have HSz := Lib.hid hsz
    have HL := Lib.hid hl
    have HPar := Lib.hid hPar
    have HQn := Lib.hid hqn
    have HLen := Lib.hid hlen
    have HEnt := Lib.hid hent
    have HWord := Lib.hid hword
    have HSubs := Lib.hid hsubs
    have H16 := Lib.hid h16
    have HA := Lib.hid hA
    have HBl := Lib.hid hBl
    have HW := Lib.hid hW
    have HR := Lib.hid (And.intro hr1 hr2)
    have HAl := Lib.hid hAlen
    have HBll := Lib.hid hBlen
    have HVal := Lib.hid hval
    clear ih hok hsz hl hv hPar hqn hlen hent hword hsubs h16 hA hBl hW hr1 hr2 hAlen hBlen hval
    unfold TV.val
    go_enter Tryz.func83, Tryz.ntmps83
    go_upto_region 1 with (fail)
    obtain ⟨W1, hW1⟩ : ∃ W1, W1 = w.alloc (.cells #[.int .u8 qr, .int .i64 qe, .string ⟨wd.toArray⟩, .slice qa qn qc] 39) := ⟨_, rfl⟩
    have hb : Below w.heap.size w W1 := by rw [hW1]; exact (Below.refl _ _).alloc (Nat.le_refl _) _
    have htb : W1.heap[w.heap.size]? = some (.cells #[.int .u8 qr, .int .i64 qe, .string ⟨wd.toArray⟩, .slice qa qn qc] 39 (0, 0)) := by rw [hW1]; exact heap_atC rfl
    rw [← hW1]
    obtain ⟨T, hT⟩ : ∃ T, T = w.heap.size := ⟨_, rfl⟩
    rw [← hT] at htb ⊢
    have HB1 := Lib.hid hb
    have c0 : W1.cell? ⟨T, 0, none⟩ = some (.int .u8 qr) := (cell_rowC htb 0).trans rfl
    have c1 : W1.cell? ⟨T, 1, none⟩ = some (.int .i64 qe) := (cell_rowC htb 1).trans rfl
    have c2 : W1.cell? ⟨T, 2, none⟩ = some (.string ⟨wd.toArray⟩) := (cell_rowC htb 2).trans rfl
    have c3 : W1.cell? ⟨T, 3, none⟩ = some (.slice qa qn qc) := (cell_rowC htb 3).trans rfl
    have HC0 := Lib.hid c0
    have HC1 := Lib.hid c1
    have HC2 := Lib.hid c2
    have HC3 := Lib.hid c3
    have HT := Lib.hid hT
    clear hW1 hb htb hT
    go_upto_if 16 with (fail)
    go_cut [7] (fun s7 wx => RowW W1.heap.size wx s7 A ∧ Below W1.heap.size W1 wx ∧ (A = [] → s7 = .slice none 0 0))
    case first =>
      cases sub with
      | nil =>
        have hq0 : qn = 0 := HQn.out
        have hA0 : A = [] := HA.out
        subst hA0
        subst hq0
        go_wp2
        go_meet
        exact ⟨World.ownsRow_nil _ _ _ _, Below.refl _ _, fun _ => rfl⟩
      | cons y ys =>
        obtain ⟨tb, toff, p, rfl, htv, hpr, g0, g1, g2, g3⟩ := HPar.out 0 (by simp)
        simp only [Nat.zero_mul, Nat.add_zero] at g0 g1 g2 g3
        have hn0 : 0 < qn := by rw [HQn.out]; simp
        have e1 : decide ((0 : Int) < (qn : Int)) = true := decide_eq_true (by omega)
        have e2 : decide (0 < qn) = true := decide_eq_true hn0
        have e3 : (0 : Int) < (qn : Int) := by omega
        have hy : okS l y = true := ((okSubs_get l (y :: ys) (shapeS qr).parts HLen.out).1 HSubs.out 0 (by simp) (by rw [← HLen.out]; simp)).2
        have hsy : sizeT y ≤ 200 := by have := HSz.out; simp [sizeT, sizesT] at this; omega
        have d0 := cell_kept' HB1.out g0
        have d1 := cell_kept' HB1.out g1
        have d2 := cell_kept' HB1.out g2
        have d3 := cell_kept' HB1.out g3
        have hb1d : Below w.heap.size w W1.drew := HB1.out.drew
        have hcall := HIh.out y (by simp) hy hsy (qr == 16) W1.drew p (HL.out.below hb1d) (htv.move (fun b _ h => ⟨trivial, by obtain ⟨_, _, h⟩ := h; exact hb1d.block b (cell_lt h)⟩))
        have HCall := Lib.hid hcall
        unfold TV.val at HCall
        have HNe := Lib.hid (show A ≠ [] by rw [HA.out]; exact words_pos y hy _)
        clear g0 g1 g2 g3 htv hpr hcall hb1d hy hsy
        first | rw [e1] | rw [e2] | skip
        go_upto_region 3 with (fail)
        go_region_with (go_at_call 83; refine HCall.out.mono ?_; rintro _ w2 ⟨v', rfl, hr2, hb2⟩)
        all_goals
          first
            | (go_step; go_step; go_meet; exact ⟨by rw [HA.out]; exact hr2, (Below.refl _ _).drew.trans (hb2.mono (Nat.le_refl _)), fun h => absurd h HNe.out⟩)
            | (go_step; rename_i hmeet; refine hmeet _ _ ?_; go_meet; exact ⟨by rw [HA.out]; exact hr2, (Below.refl _ _).drew.trans (hb2.mono (Nat.le_refl _)), fun h => absurd h HNe.out⟩)
            | (go_wp2_with fail; go_meet; exact ⟨by rw [HA.out]; exact hr2, (Below.refl _ _).drew.trans (hb2.mono (Nat.le_refl _)), fun h => absurd h HNe.out⟩)
    case rest =>
    obtain ⟨hra, hb2, hna⟩ := hcut
    obtain ⟨w2, hw2⟩ : ∃ w2, w2 = wc := ⟨_, rfl⟩
    rw [← hw2] at hra hb2 ⊢
    obtain ⟨va, hva⟩ : ∃ va, va = u7 := ⟨_, rfl⟩
    rw [← hva] at hra hna ⊢
    have HNa := Lib.hid hna
    have HRa := Lib.hid hra
    have HB2 := Lib.hid hb2
    have c0 := cell_kept' hb2 HC0.out
    have c1 := cell_kept' hb2 HC1.out
    have c2 := cell_kept' hb2 HC2.out
    have c3 := cell_kept' hb2 HC3.out
    clear hw2 hra hb2 hva hna wc
    go_upto_if 29 with (fail)
    go_cut [8] (fun s8 wx => Pair W1 wx va A s8 Bl ∧ (Bl = [] → s8 = .slice none 0 0))
    case first =>
      by_cases hn1 : 1 < qn
      · have e1 : decide ((1 : Int) < (qn : Int)) = true := decide_eq_true (by omega)
        have e2 : decide (1 < qn) = true := decide_eq_true hn1
        have e3 : (1 : Int) < (qn : Int) := by omega
        have hn1s : 1 < sub.length := by rw [← HQn.out]; exact hn1
        obtain ⟨tb, toff, p, rfl, htv, hpr, g0, g1, g2, g3⟩ := HPar.out 1 hn1s
        simp only [Nat.one_mul] at g0 g1 g2 g3
        have hy : okS l sub[1] = true := ((okSubs_get l sub (shapeS qr).parts HLen.out).1 HSubs.out 1 hn1s (by rw [← HLen.out]; exact hn1s)).2
        have hsy : sizeT sub[1] ≤ 200 := by
          have h1 := HSz.out
          have h2 := sizesT_take sub 1 hn1s
          have h3 := sizesT_le sub (1 + 1)
          simp only [sizeT] at h1
          omega
        have hbl : Bl = wordsF l sub[1] false := by
          rw [HBl.out]
          match sub, hn1s with
          | y :: z :: zs, _ => rfl
        have hwb : Below w.heap.size w w2 := HB1.out.trans (HB2.out.mono HB1.out.size)
        have d0 := cell_kept' hwb g0
        have d1 := cell_kept' hwb g1
        have d2 := cell_kept' hwb g2
        have d3 := cell_kept' hwb g3
        have hcall := HIh.out sub[1] (List.getElem_mem hn1s) hy hsy false w2 p (HL.out.below hwb) (htv.move (fun b _ h => ⟨trivial, by obtain ⟨_, _, h⟩ := h; exact hwb.block b (cell_lt h)⟩))
        have HCall := Lib.hid hcall
        have HBe := Lib.hid hbl
        have HNe := Lib.hid (show Bl ≠ [] by rw [hbl]; exact words_pos _ hy _)
        unfold TV.val at HCall
        clear g0 g1 g2 g3 htv hpr hcall hwb hy hsy hbl hn1
        first | rw [e1] | rw [e2] | skip
        go_wp2_with (go_at_call 83; refine HCall.out.mono ?_; rintro _ w3 ⟨v', rfl, hr3, hb3⟩)
        go_meet
        exact ⟨⟨HB2.out.trans (hb3.mono HB2.out.size), ownsRow_below HRa.out hb3, by rw [HBe.out]; exact rowW_base hr3 HB2.out.size, fun g h1 h2 => by
          have := (World.ownsRow.lt HRa.out g h1).2
          have := (World.ownsRow.lt hr3 g h2).1
          omega⟩, fun h => absurd h HNe.out⟩
      · have e1 : decide ((1 : Int) < (qn : Int)) = false := decide_eq_false (by omega)
        have e2 : decide (1 < qn) = false := decide_eq_false hn1
        have hbl : Bl = [] := by
          rw [HBl.out]
          have := HQn.out
          match sub, this with
          | [], _ => rfl
          | [y], _ => rfl
          | y :: z :: zs, h => simp at h; omega
        have HBe := Lib.hid hbl
        clear hn1 hbl
        first | rw [e1] | rw [e2] | skip
        go_wp2
        go_meet
        rw [HBe.out]
        exact ⟨⟨HB2.out, HRa.out, World.ownsRow_nil _ _ _ _, dis_nil _⟩, fun _ => rfl⟩
    case rest =>
    obtain ⟨w3, hw3⟩ : ∃ w3, w3 = wc := ⟨_, rfl⟩
    rw [← hw3] at hcut ⊢
    obtain ⟨vb, hvb⟩ : ∃ vb, vb = u8 := ⟨_, rfl⟩
    rw [← hvb] at hcut ⊢
    have HP3 := Lib.hid hcut.1
    have HNb := Lib.hid hcut.2
    clear hw3 hcut hvb wc c0 c1 c2 c3
    have c0 := cell_kept' HP3.out.below HC0.out
    have c1 := cell_kept' HP3.out.below HC1.out
    have c2 := cell_kept' HP3.out.below HC2.out
    have c3 := cell_kept' HP3.out.below HC3.out
    obtain ⟨C, hC⟩ : ∃ C, C = (shapeS qr).cat := ⟨_, rfl⟩
    have hcall := rCat_any w3 qr
    rw [← hC] at hcall
    have HCall := Lib.hid hcall
    have HCe := Lib.hid hC
    clear hcall hC
    go_wp2_with fail
    refine HCall.out.mono ?_
    rintro _ w4 ⟨rfl, hb4⟩
    have HP4 := Lib.hid (HP3.out.later hb4)
    clear HCall HP3 hb4 c0 c1 c2 c3
    have c0 := cell_kept' HP4.out.below HC0.out
    have c1 := cell_kept' HP4.out.below HC1.out
    have c2 := cell_kept' HP4.out.below HC2.out
    have c3 := cell_kept' HP4.out.below HC3.out
    obtain ⟨own, hown⟩ : ∃ own, own = if C = 0 then [] else ownW l qe := ⟨_, rfl⟩
    obtain ⟨thd, hthd⟩ : ∃ thd, thd = if C = 0 then [] else if qr = 12 ∨ qr = 13 ∨ qr = 19 then thirdV (ownW l qe) else ownW l qe := ⟨_, rfl⟩
    have HOwn := Lib.hid hown
    have HThd := Lib.hid hthd
    clear hown hthd
    go_upto_if 39 with (fail)
    go_cut [9, 10] (fun s9 s10 wx => s9 = .string ⟨own.toArray⟩ ∧ s10 = .string ⟨thd.toArray⟩ ∧ Below w4.heap.size w4 wx)
    case first =>
      by_cases hC0 : C = 0
      · have e1 : (C != 0) = false := by rw [hC0]; rfl
        have h1 : own = [] := by rw [HOwn.out, if_pos hC0]
        have h2 : thd = [] := by rw [HThd.out, if_pos hC0]
        subst h1 h2
        first | rw [e1] | skip
        clear hC0
        go_wp2
        go_meet
        exact ⟨rfl, rfl, Below.refl _ _⟩
      · have e1 : (C != 0) = true := by simpa using hC0
        obtain ⟨m, hm, hml, hcat⟩ := entry_inv HEnt.out (by rw [← HCe.out]; exact hC0)
        subst hm
        have hwb : Below w.heap.size w w4 := HB1.out.trans (HP4.out.below.mono HB1.out.size)
        have hl4 := HL.out.below hwb
        obtain ⟨⟨la, lcap, rfl, _, _, hform⟩, _⟩ := id hl4
        obtain ⟨lb, loff, rfl, _, hcl⟩ := hform.resolve_left (fun h0 => by rw [h0] at hml; simp at hml)
        have hx0 := (hcl m hml).1
        obtain ⟨sw, hsw⟩ : ∃ sw, sw = l[m].word := ⟨_, rfl⟩
        rw [← hsw] at hx0
        have b1 : (0 : Int) ≤ (m : Int) := by omega
        have b2 : (m : Int) < (l.length : Int) := by omega
        have how : own = sw.data.toList := by rw [HOwn.out, if_neg hC0, ownW_at hml, hsw]; rfl
        have hss : sw = ⟨own.toArray⟩ := by rw [how, str_back]
        by_cases hr3 : qr = 12 ∨ qr = 13 ∨ qr = 19
        · have hcc : catAt l m = 4 ∨ catAt l m = 5 := by
            rw [hcat]
            rcases hr3 with h | h | h <;> rw [h]
            · exact .inl rfl
            · exact .inr rfl
            · exact .inr rfl
          have hpl : plainS l[m].w = true := right_verb (valid_right HVal.out hml) (by rw [← catAt_at hml]; exact hcc)
          have hth : thd = thirdS sw.data.toList := by
            rw [HThd.out, if_neg hC0, if_pos hr3, ownW_at hml]
            unfold thirdV
            rw [if_pos hpl, hsw]; rfl
          have hsz1 : 1 ≤ sw.size ∧ sw.size ≤ 16 := by
            have h := hpl
            have he : l[m].w = sw.data.toList := by rw [hsw]; rfl
            rw [he] at h
            simp [plainS] at h
            have := len_data sw
            omega
          have hcall := fun W => rThirdOf_any sw W hsz1.1 (by omega)
          have HCall := Lib.hid hcall
          have HTh := Lib.hid hth
          have HSs := Lib.hid hss
          clear hwb hl4 hform hcl hsw how hcc hpl hth hsz1 hcall hcat hml hC0 hss
          rcases hr3 with h | h | h
          all_goals
            have e2 : (qr == 12) = decide (qr = 12) := by by_cases h : qr = 12 <;> simp [h]
            subst h
            clear e2
            first | rw [e1] | skip
            go_wp2_with (go_at_call 127; refine (HCall.out _).mono ?_; rintro _ w5 ⟨rfl, hb5⟩)
            go_meet
            exact ⟨by rw [HSs.out], by rw [HTh.out], hb5⟩
        · have n1 : (qr == 12) = false := by simp; omega
          have n2 : (qr == 13) = false := by simp; omega
          have n3 : (qr == 19) = false := by simp; omega
          have hth : thd = own := by rw [HThd.out, if_neg hC0, if_neg hr3, HOwn.out, if_neg hC0]
          have HTh := Lib.hid hth
          have HSs := Lib.hid hss
          clear hwb hl4 hform hcl hsw how hth hcat hml hC0 hss hr3
          first | rw [e1] | skip
          go_wp2
          go_meet
          exact ⟨by rw [HSs.out], by rw [HTh.out, HSs.out], Below.refl _ _⟩
    case rest =>
    obtain ⟨h9, h10, hb5⟩ := hcut
    obtain ⟨w5, hw5⟩ : ∃ w5, w5 = wc := ⟨_, rfl⟩
    rw [← hw5] at hb5 ⊢
    have HP5 := Lib.hid (HP4.out.later hb5)
    rw [h9, h10]
    clear hw5 h9 h10 hb5 wc HP4 c0 c1 c2 c3
    obtain ⟨thb, hthb⟩ : ∃ thb, thb = if b = true then own else thd := ⟨_, rfl⟩
    have HThb := Lib.hid hthb
    clear hthb
    go_upto_if 62 with (fail)
    go_cut [10] (fun s10 wx => s10 = .string ⟨thb.toArray⟩ ∧ wx = w5)
    case first =>
      cases b
      · go_wp2
        go_meet
        exact ⟨by rw [HThb.out]; rfl, rfl⟩
      · go_wp2
        go_meet
        exact ⟨by rw [HThb.out]; rfl, rfl⟩
    case rest =>
    obtain ⟨h10, hw5⟩ := hcut
    rw [h10, hw5]
    clear h10 hw5 wc
    obtain ⟨IS, hIS⟩ : ∃ IS, IS = if b = true then ([] : List (List UInt8)) else [wIs] := ⟨_, rfl⟩
    have HIS := Lib.hid hIS
    clear hIS
    go_upto_if 65 with (fail)
    go_cut [11] (fun s11 wx => Tri W1 wx s11 IS va A vb Bl)
    case first =>
      cases b
      · go_wp2
        go_meet
        rw [HIS.out]
        exact HP5.out.buildS #[.string ⟨#[105, 115]⟩] [wIs] rfl 1 rfl (by decide)
      · go_wp2
        go_meet
        rw [HIS.out]
        exact (HP5.out.later ((Below.refl _ _).alloc (Nat.le_refl _) _)).nilS
    case rest =>
    obtain ⟨w6, hw6⟩ : ∃ w6, w6 = wc := ⟨_, rfl⟩
    rw [← hw6] at hcut ⊢
    obtain ⟨vi, hvi⟩ : ∃ vi, vi = u11 := ⟨_, rfl⟩
    rw [← hvi] at hcut ⊢
    have HT6 := Lib.hid hcut
    clear hw6 hcut hvi wc HP5
    have c0 := cell_kept' HT6.out.below HC0.out
    have c1 := cell_kept' HT6.out.below HC1.out
    have c2 := cell_kept' HT6.out.below HC2.out
    have c3 := cell_kept' HT6.out.below HC3.out
    have hrr := HR.out
    rcases (show qr = 1 ∨ qr = 2 ∨ qr = 3 ∨ qr = 4 ∨ qr = 5 ∨ qr = 6 ∨ qr = 7 ∨ qr = 8 ∨ qr = 9 ∨ qr = 10 ∨ qr = 11 ∨ qr = 12 ∨ qr = 13 ∨ qr = 14 ∨ qr = 15 ∨ qr = 16 ∨ qr = 17 ∨ qr = 18 ∨ qr = 19 by omega) with rfl | rfl | rfl | rfl | rfl | rfl | rfl | rfl | rfl | rfl | rfl | rfl | rfl | rfl | rfl | rfl | rfl | rfl | rfl
    · clear hrr
      go_wp2_with (first
        | (at_builtin; refine wpList_tri_app rfl (.tmp 70) (.tmp 71) rfl rfl rfl (HT6.out.tail.buildS #[.string ⟨#[105, 102]⟩] [wIf] rfl 1 rfl (by decide)) (by have h1 := HAl.out; have h2 := HBll.out; simp; omega) ?_; intro v1 W1 T1; have HT1 := Lib.hid T1; clear T1)
        | (at_builtin; refine wpList_tri_app rfl (.tmp 72) (.tmp 73) rfl rfl rfl (HT1.out.pair.buildM #[.string ⟨#[116, 104, 101, 110]⟩] [wThen] rfl 1 rfl (by decide)) (by have h1 := HAl.out; have h2 := HBll.out; simp; omega) ?_; intro v2 W2 T2; have HT2 := Lib.hid T2; clear T2)
        | (at_builtin; refine wpList_pair_app rfl (.tmp 74) (.tmp 75) rfl rfl rfl (HT2.out.pair) (by have h1 := HAl.out; have h2 := HBll.out; simp; omega) ?_; intro v3 W3 T3; have HT3 := Lib.hid T3; clear T3)
        | fail)
      go_ret
      refine ⟨_, rfl, ?_, HB1.out.trans (HT3.out.below.mono HB1.out.size)⟩
      have hfin := rowW_base HT3.out.rs HB1.out.size
      rw [HW.out]
      simpa [stepW] using hfin
    · clear hrr
      go_wp2_with (first
        | (at_builtin; refine wpList_tri_app rfl (.tmp 79) (.tmp 80) rfl rfl rfl (HT6.out.tail.buildM #[.string ⟨#[105, 102, 102]⟩] [wIff] rfl 1 rfl (by decide)) (by have h1 := HAl.out; have h2 := HBll.out; simp; omega) ?_; intro v1 W1 T1; have HT1 := Lib.hid T1; clear T1)
        | (at_builtin; refine wpList_pair_app rfl (.tmp 81) (.tmp 82) rfl rfl rfl (HT1.out.pair) (by have h1 := HAl.out; have h2 := HBll.out; simp; omega) ?_; intro v2 W2 T2; have HT2 := Lib.hid T2; clear T2)
        | fail)
      go_ret
      refine ⟨_, rfl, ?_, HB1.out.trans (HT2.out.below.mono HB1.out.size)⟩
      have hfin := rowW_base HT2.out.rs HB1.out.size
      rw [HW.out]
      simpa [stepW] using hfin
    · clear hrr
      go_wp2_with (first
        | (at_builtin; refine wpList_tri_app rfl (.tmp 87) (.tmp 88) rfl rfl rfl (HT6.out.tail.buildM #[.string ⟨#[111, 114]⟩] [wOr] rfl 1 rfl (by decide)) (by have h1 := HAl.out; have h2 := HBll.out; simp; omega) ?_; intro v1 W1 T1; have HT1 := Lib.hid T1; clear T1)
        | (at_builtin; refine wpList_pair_app rfl (.tmp 89) (.tmp 90) rfl rfl rfl (HT1.out.pair) (by have h1 := HAl.out; have h2 := HBll.out; simp; omega) ?_; intro v2 W2 T2; have HT2 := Lib.hid T2; clear T2)
        | fail)
      go_ret
      refine ⟨_, rfl, ?_, HB1.out.trans (HT2.out.below.mono HB1.out.size)⟩
      have hfin := rowW_base HT2.out.rs HB1.out.size
      rw [HW.out]
      simpa [stepW] using hfin
    · clear hrr
      go_wp2_with (first
        | (at_builtin; refine wpList_tri_app rfl (.tmp 95) (.tmp 96) rfl rfl rfl (HT6.out.tail.buildM #[.string ⟨#[97, 110, 100]⟩] [wAnd] rfl 1 rfl (by decide)) (by have h1 := HAl.out; have h2 := HBll.out; simp; omega) ?_; intro v1 W1 T1; have HT1 := Lib.hid T1; clear T1)
        | (at_builtin; refine wpList_pair_app rfl (.tmp 97) (.tmp 98) rfl rfl rfl (HT1.out.pair) (by have h1 := HAl.out; have h2 := HBll.out; simp; omega) ?_; intro v2 W2 T2; have HT2 := Lib.hid T2; clear T2)
        | fail)
      go_ret
      refine ⟨_, rfl, ?_, HB1.out.trans (HT2.out.below.mono HB1.out.size)⟩
      have hfin := rowW_base HT2.out.rs HB1.out.size
      rw [HW.out]
      simpa [stepW] using hfin
    · clear hrr
      go_wp2_with (first
        | (at_builtin; refine wpList_pair_app rfl (.tmp 115) (.tmp 116) rfl rfl rfl (HT6.out.tail) (by have h1 := HAl.out; have h2 := HBll.out; simp; omega) ?_; intro v1 W1 T1; have HT1 := Lib.hid T1; clear T1)
        | fail)
      go_ret
      refine ⟨_, rfl, ?_, HB1.out.trans (HT1.out.below.mono HB1.out.size)⟩
      have hfin := rowW_base HT1.out.rs HB1.out.size
      rw [HW.out]
      simpa [stepW] using hfin
    · clear hrr
      go_wp2_with (first
        | (at_builtin; refine wpList_tri_app rfl (.tmp 162) (.tmp 163) rfl rfl rfl (HT6.out.tail.buildS #[.string ⟨own.toArray⟩] [own] (by simp [strVal]) 1 rfl (by decide)) (by have h1 := HAl.out; have h2 := HBll.out; simp; omega) ?_; intro v1 W1 T1; have HT1 := Lib.hid T1; clear T1)
        | (at_builtin; refine wpList_pair_app rfl (.tmp 164) (.tmp 165) rfl rfl rfl (HT1.out.pair) (by have h1 := HAl.out; have h2 := HBll.out; simp; omega) ?_; intro v2 W2 T2; have HT2 := Lib.hid T2; clear T2)
        | fail)
      go_ret
      refine ⟨_, rfl, ?_, HB1.out.trans (HT2.out.below.mono HB1.out.size)⟩
      have hfin := rowW_base HT2.out.rs HB1.out.size
      rw [HW.out]
      have hcc : ¬ C = 0 := by rw [HCe.out]; decide
      have how : ownW l qe = own := by rw [HOwn.out, if_neg hcc]
      rw [how]
      simpa [stepW] using hfin
    · clear hrr
      obtain ⟨y, hsub⟩ := len_1 HLen.out
      subst hsub
      have hB0 : Bl = [] := by rw [HBl.out]; rfl
      subst hB0
      obtain rfl := HNb.out rfl
      have hy : okS l y = true := ((okSubs_get l [y] _ HLen.out).1 HSubs.out 0 (by simp) (by rw [← HLen.out]; simp)).2
      obtain ⟨bb, hAe⟩ : ∃ bb : Bool, A = wordsF l y bb := ⟨((7 : Int) == 16), HA.out⟩
      have hA1 : A ≠ [] := by rw [hAe]; exact words_pos y hy _
      obtain ⟨a0, al, hA⟩ := List.exists_cons_of_ne_nil hA1
      have hhead : A.headD [] = a0 := by rw [hA]; rfl
      obtain ⟨ga, cap, hva, hnews⟩ := (rowW_news HT6.out.ra).resolve_left (fun h => hA1 h.2)
      subst hva
      have ha0 := hnews 0 (strVal a0) (by rw [hA]; rfl)
      have hadd : (⟨ga, 0, none⟩ : Addr).add 0 = ⟨ga, 0, none⟩ := by unfold Addr.add; simp
      rw [hadd] at ha0
      unfold strVal at ha0
      have hpos : 0 < A.length := by rw [hA]; simp
      have hpos2 : (0 : Int) < (A.length : Int) := by omega
      have hk3 : kindS y.rule = 3 := ((okSubs_get l [y] _ HLen.out).1 HSubs.out 0 (by simp) (by rw [← HLen.out]; simp)).1
      have ha0len := noun_head HL.out.2 hy hk3 _ (hAe.symm.trans hA)
      have HHead := Lib.hid hhead
      have hart := fun W => rArticle_list a0 ha0len W
      have HArt := Lib.hid hart
      clear hy hAe hA1 hA hhead hnews hadd hart hk3 ha0len
      have hal : Below w6.heap.size w6 (w6.alloc (.cells #[.string ⟨wd.toArray⟩] 9)) := (Below.refl _ _).alloc (Nat.le_refl _) _
      have ha1 := cell_kept' hal ha0
      have f2 := cell_kept' hal c2
      have HAla := Lib.hid hal
      clear hal
      by_cases hwa : wd = wA
      · have e1 : (wd == [97]) = true := by rw [hwa]; rfl
        have HWa := Lib.hid hwa
        clear hwa
        go_wp2_with (first
          | (go_at_call 128; refine (HArt.out _).mono ?_; rintro _ _ ⟨rfl, rfl⟩)
          | (at_builtin; refine wpList_tri_app rfl (.tmp 162) (.tmp 163) rfl rfl rfl ((HT6.out.tail.later HAla.out).buildS' (w6.heap.size + 1) (by simp) #[.string ⟨(articleS a0).toArray⟩] [articleS a0] (by simp [strVal]) 1 rfl (by decide)) (by have h1 := HAl.out; have h2 := HBll.out; simp; omega) ?_; intro v1 W1 T1; have HT1 := Lib.hid T1; clear T1)
          | (at_builtin; refine wpList_pair_app rfl (.tmp 164) (.tmp 165) rfl rfl rfl (HT1.out.pair) (by have h1 := HAl.out; have h2 := HBll.out; simp; omega) ?_; intro v2 W2 T2; have HT2 := Lib.hid T2; clear T2)
          | fail)
        go_ret
        refine ⟨_, rfl, ?_, HB1.out.trans (HT2.out.below.mono HB1.out.size)⟩
        have hfin := rowW_base HT2.out.rs HB1.out.size
        rw [HW.out]
        have hst : stepW 7 wd (ownW l qe) (firstRule [y]) A [] b = articleS a0 :: (A ++ []) := by rw [HWa.out, ← HHead.out]; rfl
        rw [hst]
        simpa [stepW] using hfin
      · have e1 : (wd == [97]) = false := by simpa [wA] using hwa
        have HWa := Lib.hid hwa
        clear hwa
        go_wp2_with (first
          | (at_builtin; refine wpList_tri_app rfl (.tmp 162) (.tmp 163) rfl rfl rfl (HT6.out.tail.buildS #[.string ⟨wd.toArray⟩] [wd] (by simp [strVal]) 1 rfl (by decide)) (by have h1 := HAl.out; have h2 := HBll.out; simp; omega) ?_; intro v1 W1 T1; have HT1 := Lib.hid T1; clear T1)
          | (at_builtin; refine wpList_pair_app rfl (.tmp 164) (.tmp 165) rfl rfl rfl (HT1.out.pair) (by have h1 := HAl.out; have h2 := HBll.out; simp; omega) ?_; intro v2 W2 T2; have HT2 := Lib.hid T2; clear T2)
          | fail)
        go_ret
        refine ⟨_, rfl, ?_, HB1.out.trans (HT2.out.below.mono HB1.out.size)⟩
        have hfin := rowW_base HT2.out.rs HB1.out.size
        rw [HW.out]
        have hst : stepW 7 wd (ownW l qe) (firstRule [y]) A [] b = wd :: (A ++ []) := by
          show (if wd = wA then _ else _) :: _ = _
          rw [if_neg HWa.out]
        rw [hst]
        simpa [stepW] using hfin
    · clear hrr
      go_wp2_with (first
        | (at_builtin; refine wpList_tri_app rfl (.tmp 162) (.tmp 163) rfl rfl rfl (HT6.out.tail.buildS #[.string ⟨own.toArray⟩] [own] (by simp [strVal]) 1 rfl (by decide)) (by have h1 := HAl.out; have h2 := HBll.out; simp; omega) ?_; intro v1 W1 T1; have HT1 := Lib.hid T1; clear T1)
        | (at_builtin; refine wpList_pair_app rfl (.tmp 164) (.tmp 165) rfl rfl rfl (HT1.out.pair) (by have h1 := HAl.out; have h2 := HBll.out; simp; omega) ?_; intro v2 W2 T2; have HT2 := Lib.hid T2; clear T2)
        | fail)
      go_ret
      refine ⟨_, rfl, ?_, HB1.out.trans (HT2.out.below.mono HB1.out.size)⟩
      have hfin := rowW_base HT2.out.rs HB1.out.size
      rw [HW.out]
      have hcc : ¬ C = 0 := by rw [HCe.out]; decide
      have how : ownW l qe = own := by rw [HOwn.out, if_neg hcc]
      rw [how]
      simpa [stepW] using hfin
    · clear hrr
      go_wp2_with (first
        | (at_builtin; refine wpList_tri_app rfl (.tmp 162) (.tmp 163) rfl rfl rfl (HT6.out.tail.buildS #[.string ⟨own.toArray⟩] [own] (by simp [strVal]) 1 rfl (by decide)) (by have h1 := HAl.out; have h2 := HBll.out; simp; omega) ?_; intro v1 W1 T1; have HT1 := Lib.hid T1; clear T1)
        | (at_builtin; refine wpList_pair_app rfl (.tmp 164) (.tmp 165) rfl rfl rfl (HT1.out.pair) (by have h1 := HAl.out; have h2 := HBll.out; simp; omega) ?_; intro v2 W2 T2; have HT2 := Lib.hid T2; clear T2)
        | fail)
      go_ret
      refine ⟨_, rfl, ?_, HB1.out.trans (HT2.out.below.mono HB1.out.size)⟩
      have hfin := rowW_base HT2.out.rs HB1.out.size
      rw [HW.out]
      have hcc : ¬ C = 0 := by rw [HCe.out]; decide
      have how : ownW l qe = own := by rw [HOwn.out, if_neg hcc]
      rw [how]
      simpa [stepW] using hfin
    · clear hrr
      go_wp2_with (first
        | (at_builtin; refine wpList_tri_app rfl (.tmp 162) (.tmp 163) rfl rfl rfl (HT6.out.tail.buildS #[.string ⟨own.toArray⟩, .string ⟨wd.toArray⟩] [own, wd] (by simp [strVal]) 2 rfl (by decide)) (by have h1 := HAl.out; have h2 := HBll.out; simp; omega) ?_; intro v1 W1 T1; have HT1 := Lib.hid T1; clear T1)
        | (at_builtin; refine wpList_pair_app rfl (.tmp 164) (.tmp 165) rfl rfl rfl (HT1.out.pair) (by have h1 := HAl.out; have h2 := HBll.out; simp; omega) ?_; intro v2 W2 T2; have HT2 := Lib.hid T2; clear T2)
        | fail)
      go_ret
      refine ⟨_, rfl, ?_, HB1.out.trans (HT2.out.below.mono HB1.out.size)⟩
      have hfin := rowW_base HT2.out.rs HB1.out.size
      rw [HW.out]
      have hcc : ¬ C = 0 := by rw [HCe.out]; decide
      have how : ownW l qe = own := by rw [HOwn.out, if_neg hcc]
      rw [how]
      simpa [stepW] using hfin
    · clear hrr
      go_wp2_with (first
        | (at_builtin; refine wpList_tri_app rfl (.tmp 162) (.tmp 163) rfl rfl rfl (HT6.out.tail.buildS #[.string ⟨own.toArray⟩, .string ⟨wd.toArray⟩] [own, wd] (by simp [strVal]) 2 rfl (by decide)) (by have h1 := HAl.out; have h2 := HBll.out; simp; omega) ?_; intro v1 W1 T1; have HT1 := Lib.hid T1; clear T1)
        | (at_builtin; refine wpList_pair_app rfl (.tmp 164) (.tmp 165) rfl rfl rfl (HT1.out.pair) (by have h1 := HAl.out; have h2 := HBll.out; simp; omega) ?_; intro v2 W2 T2; have HT2 := Lib.hid T2; clear T2)
        | fail)
      go_ret
      refine ⟨_, rfl, ?_, HB1.out.trans (HT2.out.below.mono HB1.out.size)⟩
      have hfin := rowW_base HT2.out.rs HB1.out.size
      rw [HW.out]
      have hcc : ¬ C = 0 := by rw [HCe.out]; decide
      have how : ownW l qe = own := by rw [HOwn.out, if_neg hcc]
      rw [how]
      simpa [stepW] using hfin
    · clear hrr
      go_wp2_with (first
        | (at_builtin; refine wpList_tri_app rfl (.tmp 162) (.tmp 163) rfl rfl rfl (HT6.out.tail.buildS #[.string ⟨thb.toArray⟩] [thb] (by simp [strVal]) 1 rfl (by decide)) (by have h1 := HAl.out; have h2 := HBll.out; simp; omega) ?_; intro v1 W1 T1; have HT1 := Lib.hid T1; clear T1)
        | (at_builtin; refine wpList_pair_app rfl (.tmp 164) (.tmp 165) rfl rfl rfl (HT1.out.pair) (by have h1 := HAl.out; have h2 := HBll.out; simp; omega) ?_; intro v2 W2 T2; have HT2 := Lib.hid T2; clear T2)
        | fail)
      go_ret
      refine ⟨_, rfl, ?_, HB1.out.trans (HT2.out.below.mono HB1.out.size)⟩
      have hfin := rowW_base HT2.out.rs HB1.out.size
      rw [HW.out]
      have hcc : ¬ C = 0 := by rw [HCe.out]; decide
      have how : ownW l qe = own := by rw [HOwn.out, if_neg hcc]
      have hth : thb = if b = true then ownW l qe else thirdV (ownW l qe) := by rw [HThb.out, HThd.out]; simp [hcc, how]
      rw [hth] at hfin
      cases b
      · simpa [stepW] using hfin
      · simpa [stepW] using hfin
    · clear hrr
      go_wp2_with (first
        | (at_builtin; refine wpList_tri_app rfl (.tmp 162) (.tmp 163) rfl rfl rfl (HT6.out.tail.buildS #[.string ⟨thb.toArray⟩] [thb] (by simp [strVal]) 1 rfl (by decide)) (by have h1 := HAl.out; have h2 := HBll.out; simp; omega) ?_; intro v1 W1 T1; have HT1 := Lib.hid T1; clear T1)
        | (at_builtin; refine wpList_pair_app rfl (.tmp 164) (.tmp 165) rfl rfl rfl (HT1.out.pair) (by have h1 := HAl.out; have h2 := HBll.out; simp; omega) ?_; intro v2 W2 T2; have HT2 := Lib.hid T2; clear T2)
        | fail)
      go_ret
      refine ⟨_, rfl, ?_, HB1.out.trans (HT2.out.below.mono HB1.out.size)⟩
      have hfin := rowW_base HT2.out.rs HB1.out.size
      rw [HW.out]
      have hcc : ¬ C = 0 := by rw [HCe.out]; decide
      have how : ownW l qe = own := by rw [HOwn.out, if_neg hcc]
      have hth : thb = if b = true then ownW l qe else thirdV (ownW l qe) := by rw [HThb.out, HThd.out]; simp [hcc, how]
      rw [hth] at hfin
      cases b
      · simpa [stepW] using hfin
      · simpa [stepW] using hfin
    · clear hrr
      have hsub : sub = [] := len_0 HLen.out
      have hA0 : A = [] := by rw [HA.out, hsub]; rfl
      have hB0 : Bl = [] := by rw [HBl.out, hsub]; rfl
      subst hA0 hB0
      obtain rfl := HNa.out rfl
      obtain rfl := HNb.out rfl
      clear hsub
      have hisl : IS.length ≤ 1 := by rw [HIS.out]; cases b <;> simp
      go_wp2_with (first
        | (at_builtin; refine wpList_tri_app rfl (.tmp 139) (.tmp 141) rfl rfl rfl (HT6.out.front.buildM #[.string ⟨own.toArray⟩] [own] (by simp [strVal]) 1 rfl (by decide)) (by have h1 := HAl.out; have h2 := HBll.out; simp; omega) ?_; intro v1 W1 T1; have HT1 := Lib.hid T1; clear T1)
        | (at_builtin; refine wpList_tri_app rfl (.tmp 162) (.tmp 163) rfl rfl rfl (HT1.out.pair.nil) (by have h1 := HAl.out; have h2 := HBll.out; simp; omega) ?_; intro v2 W2 T2; have HT2 := Lib.hid T2; clear T2)
        | (at_builtin; refine wpList_pair_app rfl (.tmp 164) (.tmp 165) rfl rfl rfl (HT2.out.pair) (by have h1 := HAl.out; have h2 := HBll.out; simp; omega) ?_; intro v3 W3 T3; have HT3 := Lib.hid T3; clear T3)
        | fail)
      go_ret
      refine ⟨_, rfl, ?_, HB1.out.trans (HT3.out.below.mono HB1.out.size)⟩
      have hfin := rowW_base HT3.out.rs HB1.out.size
      rw [HW.out]
      have hcc : ¬ C = 0 := by rw [HCe.out]; decide
      have how : ownW l qe = own := by rw [HOwn.out, if_neg hcc]
      rw [how]
      rw [HIS.out] at hfin
      cases b
      · simpa [stepW] using hfin
      · simpa [stepW] using hfin
    · clear hrr
      obtain ⟨y, hsub⟩ := len_1 HLen.out
      subst hsub
      have hB0 : Bl = [] := by rw [HBl.out]; rfl
      subst hB0
      obtain rfl := HNb.out rfl
      have hy : okS l y = true := ((okSubs_get l [y] _ HLen.out).1 HSubs.out 0 (by simp) (by rw [← HLen.out]; simp)).2
      obtain ⟨bb, hAe⟩ : ∃ bb : Bool, A = wordsF l y bb := ⟨((15 : Int) == 16), HA.out⟩
      have hA1 : A ≠ [] := by rw [hAe]; exact words_pos y hy _
      obtain ⟨a0, al, hA⟩ := List.exists_cons_of_ne_nil hA1
      have hhead : A.headD [] = a0 := by rw [hA]; rfl
      obtain ⟨ga, cap, hva, hnews⟩ := (rowW_news HT6.out.ra).resolve_left (fun h => hA1 h.2)
      subst hva
      have ha0 := hnews 0 (strVal a0) (by rw [hA]; rfl)
      have hadd : (⟨ga, 0, none⟩ : Addr).add 0 = ⟨ga, 0, none⟩ := by unfold Addr.add; simp
      rw [hadd] at ha0
      unfold strVal at ha0
      have hpos : 0 < A.length := by rw [hA]; simp
      have hpos2 : (0 : Int) < (A.length : Int) := by omega
      have hk3 : kindS y.rule = 3 := ((okSubs_get l [y] _ HLen.out).1 HSubs.out 0 (by simp) (by rw [← HLen.out]; simp)).1
      have ha0len := noun_head HL.out.2 hy hk3 _ (hAe.symm.trans hA)
      have HHead := Lib.hid hhead
      have hart := fun W => rArticle_list a0 ha0len W
      have HArt := Lib.hid hart
      clear hy hAe hA1 hA hhead hnews hadd hart hk3 ha0len
      have hisl : IS.length ≤ 1 := by rw [HIS.out]; cases b <;> simp
      go_wp2_with (first
        | (go_at_call 128; refine (HArt.out _).mono ?_; rintro _ _ ⟨rfl, rfl⟩)
        | (at_builtin; refine wpList_tri_app rfl (.tmp 145) (.tmp 150) rfl rfl rfl (HT6.out.front.buildM #[.string ⟨(articleS a0).toArray⟩] [articleS a0] (by simp [strVal]) 1 rfl (by decide)) (by have h1 := HAl.out; have h2 := HBll.out; simp; omega) ?_; intro v1 W1 T1; have HT1 := Lib.hid T1; clear T1)
        | (at_builtin; refine wpList_tri_app rfl (.tmp 162) (.tmp 163) rfl rfl rfl (HT1.out.pair.nil) (by have h1 := HAl.out; have h2 := HBll.out; simp; omega) ?_; intro v2 W2 T2; have HT2 := Lib.hid T2; clear T2)
        | (at_builtin; refine wpList_pair_app rfl (.tmp 164) (.tmp 165) rfl rfl rfl (HT2.out.pair) (by have h1 := HAl.out; have h2 := HBll.out; simp; omega) ?_; intro v3 W3 T3; have HT3 := Lib.hid T3; clear T3)
        | fail)
      go_ret
      refine ⟨_, rfl, ?_, HB1.out.trans (HT3.out.below.mono HB1.out.size)⟩
      have hfin := rowW_base HT3.out.rs HB1.out.size
      rw [HW.out]
      have hst : stepW 15 wd (ownW l qe) (firstRule [y]) A [] b = (if b = true then [] else [wIs]) ++ articleS a0 :: (A ++ []) := by rw [← HHead.out]; rfl
      rw [hst]
      rw [HIS.out] at hfin
      cases b
      · simpa [stepW] using hfin
      · simpa [stepW] using hfin
    · clear hrr
      obtain ⟨y, hsub⟩ := len_1 HLen.out
      obtain ⟨tb, toff, p, hqa, htv, hpr, g0, _⟩ := HPar.out 0 (by rw [hsub]; simp)
      simp only [Nat.zero_mul, Nat.add_zero] at g0
      subst hqa
      have hfr : firstRule sub = p.r := by rw [← hpr]; simp only [hsub]; rfl
      have f0 := cell_kept' (HB1.out.trans (HT6.out.below.mono HB1.out.size)) g0
      have hal : Below w6.heap.size w6 (w6.alloc (.cells #[.string ⟨#[100, 111, 101, 115]⟩, .string ⟨#[110, 111, 116]⟩] 9)) := (Below.refl _ _).alloc (Nat.le_refl _) _
      have f1 := cell_kept' hal f0
      have f3 := cell_kept' hal c3
      have hq1 : qn = 1 := by rw [HQn.out, hsub]; rfl
      have hq0 : 0 < qn := by omega
      have hq2 : (0 : Int) < (qn : Int) := by omega
      have HAla := Lib.hid hal
      have HFr := Lib.hid hfr
      clear hsub htv hpr g0 hfr hal hq1
      by_cases h13 : 13 < p.r
      · have e1 : decide ((13 : Int) < p.r) = true := decide_eq_true h13
        have H13 := Lib.hid h13
        clear h13
        go_wp2_with (first
          | (at_builtin; refine wpList_tri_app rfl (.tmp 162) (.tmp 163) rfl rfl rfl ((HT6.out.tail.later HAla.out).buildS' (w6.heap.size + 1) (by simp) #[.string ⟨#[105, 115]⟩, .string ⟨#[110, 111, 116]⟩] [wIs, wNot] rfl 2 rfl (by decide)) (by have h1 := HAl.out; have h2 := HBll.out; simp; omega) ?_; intro v1 W1 T1; have HT1 := Lib.hid T1; clear T1)
          | (at_builtin; refine wpList_pair_app rfl (.tmp 164) (.tmp 165) rfl rfl rfl (HT1.out.pair) (by have h1 := HAl.out; have h2 := HBll.out; simp; omega) ?_; intro v2 W2 T2; have HT2 := Lib.hid T2; clear T2)
          | fail)
        go_ret
        refine ⟨_, rfl, ?_, HB1.out.trans (HT2.out.below.mono HB1.out.size)⟩
        have hfin := rowW_base HT2.out.rs HB1.out.size
        rw [HW.out]
        have hst : stepW 16 wd (ownW l qe) (firstRule sub) A Bl b = [wIs, wNot] ++ (A ++ Bl) := by
          show (if 13 < firstRule sub then _ else _) ++ _ = _
          rw [HFr.out, if_pos H13.out]
        rw [hst]
        simpa [stepW] using hfin
      · have e1 : decide ((13 : Int) < p.r) = false := decide_eq_false h13
        have H13 := Lib.hid h13
        clear h13
        go_wp2_with (first
          | (at_builtin; refine wpList_tri_app rfl (.tmp 162) (.tmp 163) rfl rfl rfl (HT6.out.tail.buildS #[.string ⟨#[100, 111, 101, 115]⟩, .string ⟨#[110, 111, 116]⟩] [wDoes, wNot] rfl 2 rfl (by decide)) (by have h1 := HAl.out; have h2 := HBll.out; simp; omega) ?_; intro v1 W1 T1; have HT1 := Lib.hid T1; clear T1)
          | (at_builtin; refine wpList_pair_app rfl (.tmp 164) (.tmp 165) rfl rfl rfl (HT1.out.pair) (by have h1 := HAl.out; have h2 := HBll.out; simp; omega) ?_; intro v2 W2 T2; have HT2 := Lib.hid T2; clear T2)
          | fail)
        go_ret
        refine ⟨_, rfl, ?_, HB1.out.trans (HT2.out.below.mono HB1.out.size)⟩
        have hfin := rowW_base HT2.out.rs HB1.out.size
        rw [HW.out]
        have hst : stepW 16 wd (ownW l qe) (firstRule sub) A Bl b = [wDoes, wNot] ++ (A ++ Bl) := by
          show (if 13 < firstRule sub then _ else _) ++ _ = _
          rw [HFr.out, if_neg (show ¬ (13 : Int) < p.r by have := H13.out; omega)]
        rw [hst]
        simpa [stepW] using hfin
    · clear hrr
      go_wp2_with (first
        | (at_builtin; refine wpList_tri_app rfl (.tmp 87) (.tmp 88) rfl rfl rfl (HT6.out.tail.buildM #[.string ⟨#[111, 114]⟩] [wOr] rfl 1 rfl (by decide)) (by have h1 := HAl.out; have h2 := HBll.out; simp; omega) ?_; intro v1 W1 T1; have HT1 := Lib.hid T1; clear T1)
        | (at_builtin; refine wpList_pair_app rfl (.tmp 89) (.tmp 90) rfl rfl rfl (HT1.out.pair) (by have h1 := HAl.out; have h2 := HBll.out; simp; omega) ?_; intro v2 W2 T2; have HT2 := Lib.hid T2; clear T2)
        | fail)
      go_ret
      refine ⟨_, rfl, ?_, HB1.out.trans (HT2.out.below.mono HB1.out.size)⟩
      have hfin := rowW_base HT2.out.rs HB1.out.size
      rw [HW.out]
      simpa [stepW] using hfin
    · clear hrr
      go_wp2_with (first
        | (at_builtin; refine wpList_tri_app rfl (.tmp 95) (.tmp 96) rfl rfl rfl (HT6.out.tail.buildM #[.string ⟨#[97, 110, 100]⟩] [wAnd] rfl 1 rfl (by decide)) (by have h1 := HAl.out; have h2 := HBll.out; simp; omega) ?_; intro v1 W1 T1; have HT1 := Lib.hid T1; clear T1)
        | (at_builtin; refine wpList_pair_app rfl (.tmp 97) (.tmp 98) rfl rfl rfl (HT1.out.pair) (by have h1 := HAl.out; have h2 := HBll.out; simp; omega) ?_; intro v2 W2 T2; have HT2 := Lib.hid T2; clear T2)
        | fail)
      go_ret
      refine ⟨_, rfl, ?_, HB1.out.trans (HT2.out.below.mono HB1.out.size)⟩
      have hfin := rowW_base HT2.out.rs HB1.out.size
      rw [HW.out]
      simpa [stepW] using hfin
    · clear hrr
      go_wp2_with (first
        | (at_builtin; refine wpList_tri_app rfl (.tmp 162) (.tmp 163) rfl rfl rfl (HT6.out.tail.buildS #[.string ⟨thb.toArray⟩] [thb] (by simp [strVal]) 1 rfl (by decide)) (by have h1 := HAl.out; have h2 := HBll.out; simp; omega) ?_; intro v1 W1 T1; have HT1 := Lib.hid T1; clear T1)
        | (at_builtin; refine wpList_pair_app rfl (.tmp 164) (.tmp 165) rfl rfl rfl (HT1.out.pair) (by have h1 := HAl.out; have h2 := HBll.out; simp; omega) ?_; intro v2 W2 T2; have HT2 := Lib.hid T2; clear T2)
        | fail)
      go_ret
      refine ⟨_, rfl, ?_, HB1.out.trans (HT2.out.below.mono HB1.out.size)⟩
      have hfin := rowW_base HT2.out.rs HB1.out.size
      rw [HW.out]
      have hcc : ¬ C = 0 := by rw [HCe.out]; decide
      have how : ownW l qe = own := by rw [HOwn.out, if_neg hcc]
      have hth : thb = if b = true then ownW l qe else thirdV (ownW l qe) := by rw [HThb.out, HThd.out]; simp [hcc, how]
      rw [hth] at hfin
      cases b
      · simpa [stepW] using hfin
      · simpa [stepW] using hfin
end Go.Proofs.YthmnffgjckpkiaaGreatDoor
