/-
  The walk of 'EnglishParts'.
-/
import Derived.Test.YthmnffgjckpkiaaGreatDoorPartsS
import Derived.Test.YthmnffgjckpkiaaGreatDoorLength
import Derived.Test.YthmnffgjckpkiaaGreatDoorRight34
import Derived.Test.YthmnffgjckpkiaaGreatDoorSmall34
import Derived.Test.YthmnffgjckpkiaaGreatDoorFew34
import Derived.Test.YthmnffgjckpkiaaGreatDoorGEngI
import Derived.Test.YthmnffgjckpkiaaGreatDoorSame
namespace Go.Proofs.YthmnffgjckpkiaaGreatDoor
open Go Go.RowKit Go.Shelf

theorem okAll_ok' {l : List Ent} {t : Tr} (h : okAll l t = true) : okS l t = true := by
  unfold okAll at h
  simp only [Bool.and_eq_true] at h
  exact h.2
/-- A piece of a row of words. -/
theorem piece {W : World} {b off : Nat} {s : List (List UInt8)} (hc : ∀ j (h : j < s.length), W.cell? ⟨b, off + j, none⟩ = some (.string ⟨s[j].toArray⟩)) (a m cap' : Nat) (h : a + m ≤ s.length) (hm : m ≤ cap') (hc' : cap' ≤ maxLen) : StrSlice W (.slice (some ⟨b, off + a, none⟩) m cap') ((s.drop a).take m) := by
  have hl : ((s.drop a).take m).length = m := by simp; omega
  refine ⟨_, cap', by rw [hl], by rw [hl]; exact hm, hc', .inr ⟨b, off + a, rfl, fun j hj => ?_⟩⟩
  rw [hl] at hj
  have := hc (a + j) (by omega)
  rw [Nat.add_assoc, this]
  simp
set_option maxRecDepth 100000 in
set_option maxHeartbeats 16000000 in
theorem EnglishParts_any (W0 w : World) (ht : Tabs W0 w) (lv v : Value) (l : List Ent) (hl : EntSlice w lv l) (t : Tr) (hv : TreeV (fun _ => True) w v t) :
    Calls Tryz.prog 8 #[lv, v] w fun e w' => e = .returned (.bool true) ∧ Below w.heap.size w w' := by
  obtain ⟨q, rfl⟩ := hv.form
  obtain ⟨⟨la, lcap, rfl, _⟩, _⟩ := id hl
  obtain ⟨N, hN⟩ : ∃ N, N = l.length := ⟨_, rfl⟩
  rw [← hN]
  have HN := Lib.hid hN
  have HV := Lib.hid hv
  have HL := Lib.hid hl
  have HT := Lib.hid ht
  clear hv hl ht hN
  unfold TV.val
  go_enter Tryz.func8, Tryz.ntmps8
  go_upto_region 1 with (fail)
  obtain ⟨W1, hW1⟩ : ∃ W1, W1 = w.alloc (.cells #[.int .u8 q.r, .int .i64 q.e, .string q.w, .slice q.a q.n q.c] 36) := ⟨_, rfl⟩
  have hb : Below w.heap.size w W1 := by rw [hW1]; exact (Below.refl _ _).alloc (Nat.le_refl _) _
  have htb : W1.heap[w.heap.size]? = some (.cells #[.int .u8 q.r, .int .i64 q.e, .string q.w, .slice q.a q.n q.c] 36 (0, 0)) := by rw [hW1]; exact heap_atC rfl
  rw [← hW1]
  obtain ⟨T, hT⟩ : ∃ T, T = w.heap.size := ⟨_, rfl⟩
  rw [← hT] at htb ⊢
  have HB1 := Lib.hid hb
  have c0 : W1.cell? ⟨T, 0, none⟩ = some (.int .u8 q.r) := (cell_rowC htb 0).trans rfl
  have c1 : W1.cell? ⟨T, 1, none⟩ = some (.int .i64 q.e) := (cell_rowC htb 1).trans rfl
  have c2 : W1.cell? ⟨T, 2, none⟩ = some (.string q.w) := (cell_rowC htb 2).trans rfl
  have c3 : W1.cell? ⟨T, 3, none⟩ = some (.slice q.a q.n q.c) := (cell_rowC htb 3).trans rfl
  have HTo := Lib.hid (show T < W1.heap.size from (Array.getElem?_eq_some_iff.1 htb).1)
  have HTe := Lib.hid hT
  clear hW1 hb htb hT
  have HA := Lib.hid (awake34_any W0 W1 (HT.out.next HB1.out))
  go_wp2_with fail
  refine HA.out.mono ?_
  rintro _ w2 ⟨rfl, hb2⟩
  have d0 := cell_kept' hb2 c0
  have d1 := cell_kept' hb2 c1
  have d2 := cell_kept' hb2 c2
  have d3 := cell_kept' hb2 c3
  have HB2 := Lib.hid (HB1.out.trans (hb2.mono HB1.out.size))
  clear c0 c1 c2 c3 hb2
  obtain ⟨b1, hb1e⟩ : ∃ b, b = smallL l := ⟨_, rfl⟩
  have hS := Small_any w2 _ l (HL.out.below HB2.out)
  rw [← HN.out, ← hb1e] at hS
  have HS := Lib.hid hS
  clear hS hb1e
  go_wp2_with fail
  refine HS.out.mono ?_
  rintro _ w2' ⟨rfl, h2⟩
  rw [← h2]
  clear h2 w2'
  cases b1
  · go_wp2
    go_ret
    exact ⟨rfl, HB2.out⟩
  obtain ⟨b2, hb2e⟩ : ∃ b, b = fewS t := ⟨_, rfl⟩
  have hF := few_any w2 q.val t (HV.out.move (fun b _ h => ⟨trivial, by obtain ⟨_, _, h⟩ := h; exact HB2.out.block b (cell_lt h)⟩))
  rw [← hb2e] at hF
  have HF := Lib.hid hF
  have HFe := Lib.hid hb2e
  clear hF hb2e
  go_wp2_with fail
  refine HF.out.mono ?_
  rintro _ w3 ⟨rfl, hb3⟩
  have e0 := cell_kept' hb3 d0
  have e1 := cell_kept' hb3 d1
  have e2 := cell_kept' hb3 d2
  have e3 := cell_kept' hb3 d3
  have HB3 := Lib.hid (HB2.out.trans (hb3.mono HB2.out.size))
  clear d0 d1 d2 d3 hb3
  cases b2
  · go_wp2
    go_ret
    exact ⟨rfl, HB3.out⟩
  obtain ⟨b3, hb3e⟩ : ∃ b, b = okAll l t := ⟨_, rfl⟩
  have hR := Right34_any W0 w3 (HT.out.next HB3.out) l _ q.val t (HL.out.below HB3.out) (HV.out.move (fun b _ h => ⟨trivial, by obtain ⟨_, _, h⟩ := h; exact HB3.out.block b (cell_lt h)⟩))
  rw [← hb3e, ← HN.out] at hR
  have HR := Lib.hid hR
  have HR2 := Lib.hid hb3e
  clear hR hb3e
  go_wp2_with fail
  refine HR.out.mono ?_
  rintro _ w4 ⟨rfl, hb4⟩
  have f0 := cell_kept' hb4 e0
  have f1 := cell_kept' hb4 e1
  have f2 := cell_kept' hb4 e2
  have f3 := cell_kept' hb4 e3
  have HB4 := Lib.hid (HB3.out.trans (hb4.mono HB3.out.size))
  clear e0 e1 e2 e3 hb4
  cases b3
  · go_wp2
    go_ret
    exact ⟨rfl, HB4.out⟩
  obtain ⟨r, e, wd, sub⟩ := t
  have hok : okAll l (.node r e wd sub) = true := HR2.out.symm
  have HOk := Lib.hid hok
  have hy := Yield_any W0 w4 (HT.out.next HB4.out) l _ q.val (.node r e wd sub) (HL.out.below HB4.out) (HV.out.move (fun b _ h => ⟨trivial, by obtain ⟨_, _, h⟩ := h; exact HB4.out.block b (cell_lt h)⟩))
  rw [yieldS_good hok, ← HN.out] at hy
  obtain ⟨s, hs⟩ : ∃ s, s = yieldW l (.node r e wd sub) := ⟨_, rfl⟩
  simp only at hy
  rw [← hs] at hy
  have HY := Lib.hid hy
  have HSq := Lib.hid hs
  clear hy hs hok
  go_wp2_with fail
  refine HY.out.mono ?_
  rintro _ w5 ⟨sv, rfl, hss, hb5⟩
  obtain ⟨sa, scap, rfl, hsc, hsm, hsf⟩ := hss
  have g0 := cell_kept' hb5 f0
  have g1 := cell_kept' hb5 f1
  have g2 := cell_kept' hb5 f2
  have g3 := cell_kept' hb5 f3
  have HB5 := Lib.hid (HB4.out.trans (hb5.mono HB4.out.size))
  clear hb5 f0 f1 f2 f3
  have hsl : s.length ≤ 1000 := by
    have h := yield_len (l := l) (.node r e wd sub)
    rw [yieldS_good HOk.out] at h
    rw [HSq.out]; exact h
  have hqr : q.r = r := by
    obtain ⟨qr, qe, qw, qa, qn, qc⟩ := q
    exact (TreeV.headW (show TreeV (fun _ => True) w (.agg #[.int .u8 qr, .int .i64 qe, .string qw, .slice qa qn qc]) _ from HV.out)).1
  have hqn : q.n = sub.length := by
    obtain ⟨qr, qe, qw, qa, qn, qc⟩ := q
    exact TreeV.lenW (show TreeV (fun _ => True) w (.agg #[.int .u8 qr, .int .i64 qe, .string qw, .slice qa qn qc]) _ from HV.out)
  have hpar := TreeV.parts (show TreeV (fun _ => True) w (.agg #[.int .u8 q.r, .int .i64 q.e, .string q.w, .slice q.a q.n q.c]) _ from HV.out)
  have hoks := okAll_ok' HOk.out
  have hspos : 0 < s.length := by rw [HSq.out]; exact List.length_pos_iff.2 (yieldW_pos hoks)
  obtain ⟨ks, hks⟩ : ∃ ks : Nat → Nat, r ≠ 16 → ∀ i, i < sub.length → Fit s (partW l sub i) (ks i) ∧ (i + 1 < sub.length → ks i + (partW l sub i).length ≤ ks (i + 1)) := by
    by_cases h : r = 16
    · exact ⟨fun _ => 0, fun h' => absurd h h'⟩
    · obtain ⟨ks, hk⟩ := parts_places hoks h
      refine ⟨ks, fun _ => ?_⟩
      rw [HSq.out]; exact hk
  rw [hqr] at g0
  have HPar := Lib.hid hpar
  have HKs := Lib.hid hks
  have HQn := Lib.hid hqn
  have HSf := Lib.hid hsf
  have HSc := Lib.hid hsc
  have HSm := Lib.hid hsm
  have hn2 : q.n ≤ 2 := by
    rw [hqn, (okS_parts hoks).2.2.1]; exact parts_le r
  obtain ⟨n, hn⟩ : ∃ n, n = q.n := ⟨_, rfl⟩
  rw [← hn] at g3 hn2
  have HNn := Lib.hid hn
  obtain ⟨S, hS⟩ : ∃ S, S = s.length := ⟨_, rfl⟩
  rw [← hS] at hsl hspos ⊢
  have HSl := Lib.hid hS
  clear hpar hks hqr hqn hsf hsc hsm hoks hn hS
  go_wp2
  go_loopw [7, 8] (fun av i wr => ∃ a k : Nat, k ≤ n ∧ av = .int .i64 a ∧ i = .int .i64 k ∧ a ≤ S ∧ (r = 16 → a = 0) ∧ (r ≠ 16 → k < n → a ≤ ks k) ∧ Below w5.heap.size w5 wr) (fun _ i _ => n - (intOf i).toNat)
  case atStart => exact ⟨0, 0, Nat.zero_le _, rfl, rfl, Nat.zero_le _, fun _ => rfl, fun _ _ => Nat.zero_le _, Below.refl _ _⟩
  case round =>
    obtain ⟨a, k, hk, rfl, rfl, haS, ha16, hak, hbr⟩ := hrel
    have HA16 := Lib.hid ha16
    have HAk := Lib.hid hak
    have HBr := Lib.hid hbr
    have t0 := cell_kept' hbr g0
    have t1 := cell_kept' hbr g1
    have t2 := cell_kept' hbr g2
    have t3 := cell_kept' hbr g3
    clear ha16 hak hbr
    by_cases hlt : k < n
    · have hd : decide ((k : Int) < (n : Int)) = true := decide_eq_true (by omega)
      have hkl : k < sub.length := by rw [← HQn.out, ← HNn.out]; exact hlt
      obtain ⟨tb, toff, qk, hab, htv, hqkr, u0, u1, u2, u3⟩ := HPar.out k hkl
      have HBw := Lib.hid (HB5.out.trans (HBr.out.mono HB5.out.size))
      rw [hab] at t3
      have v0 := cell_kept' HBw.out u0
      have v1 := cell_kept' HBw.out u1
      have v2 := cell_kept' HBw.out u2
      have v3 := cell_kept' HBw.out u3
      obtain ⟨y, hy⟩ : ∃ y, y = sub[k] := ⟨_, rfl⟩
      rw [← hy] at htv
      have hoky : okAll l y = true := by rw [hy]; exact okAll_sub HOk.out _ (List.getElem_mem hkl)
      have HOky := Lib.hid hoky
      have HTv := Lib.hid htv
      have hpw : partW l sub k = wordsF l y false := by unfold partW; rw [List.getElem?_eq_getElem hkl, hy]
      have HPw := Lib.hid hpw
      have hyy := Yield_any W0 wr (HT.out.next HBw.out) l _ (TV.val qk) y (HL.out.below HBw.out) (htv.move (fun b _ h => ⟨trivial, by obtain ⟨_, _, h⟩ := h; exact HBw.out.block b (cell_lt h)⟩))
      rw [yieldS_good hoky, ← HN.out] at hyy
      simp only at hyy
      obtain ⟨pw, hpwe⟩ : ∃ pw, pw = yieldW l y := ⟨_, rfl⟩
      rw [← hpwe] at hyy
      have HPe := Lib.hid hpwe
      have HYy := Lib.hid hyy
      have b1 : (0 : Int) ≤ (k : Int) := by omega
      have b2 : (k : Int) < (n : Int) := by omega
      clear hab htv hqkr u0 u1 u2 u3 hy hoky hpw hyy hpwe
      go_wp2_with fail
      refine HYy.out.mono ?_
      rintro _ w6 ⟨pv, rfl, hps, hb6⟩
      obtain ⟨pa, pcap, rfl, hpc, hpm, hpf⟩ := hps
      have x0 := cell_kept' hb6 t0
      have x1 := cell_kept' hb6 t1
      have x2 := cell_kept' hb6 t2
      have x3 := cell_kept' hb6 t3
      have y0 := cell_kept' hb6 v0
      have y1 := cell_kept' hb6 v1
      have y2 := cell_kept' hb6 v2
      have y3 := cell_kept' hb6 v3
      have HB6 := Lib.hid (HBw.out.trans (hb6.mono HBw.out.size))
      have HBr6 := Lib.hid (HBr.out.trans (hb6.mono HBr.out.size))
      have HPf := Lib.hid hpf
      have HPc := Lib.hid hpc
      have HPm := Lib.hid hpm
      obtain ⟨P, hP⟩ : ∃ P, P = pw.length := ⟨_, rfl⟩
      rw [← hP]
      have HPl := Lib.hid hP
      have hR6 := Right34_any W0 w6 (HT.out.next HB6.out) l _ (TV.val qk) y (HL.out.below HB6.out) (HTv.out.move (fun b _ h => ⟨trivial, by obtain ⟨_, _, h⟩ := h; exact HB6.out.block b (cell_lt h)⟩))
      rw [HOky.out, ← HN.out] at hR6
      have HR6 := Lib.hid hR6
      clear hb6 t0 t1 t2 t3 v0 v1 v2 v3 hpf hpc hpm hR6 hP
      go_wp2_with fail
      refine HR6.out.mono ?_
      rintro _ w7 ⟨rfl, hb7⟩
      have t0 := cell_kept' hb7 x0
      have t1 := cell_kept' hb7 x1
      have t2 := cell_kept' hb7 x2
      have t3 := cell_kept' hb7 x3
      have v0 := cell_kept' hb7 y0
      have v1 := cell_kept' hb7 y1
      have v2 := cell_kept' hb7 y2
      have v3 := cell_kept' hb7 y3
      have HB7 := Lib.hid (HB6.out.trans (hb7.mono HB6.out.size))
      have HBr7 := Lib.hid (HBr6.out.trans (hb7.mono HBr6.out.size))
      have HB67 := Lib.hid hb7
      clear hb7 x0 x1 x2 x3 y0 y1 y2 y3
      by_cases h16 : r = 16
      · have hd16 : (r == 16) = true := by simpa using h16
        have H16 := Lib.hid h16
        clear h16
        go_wp2
        go_roundw
        case rel => exact ⟨a, k + 1, by omega, rfl, by go_num, haS, HA16.out, fun h => absurd H16.out h, HBr7.out⟩
        case measure => simp [intOf]; omega
      · have hd16 : (r == 16) = false := by simpa using h16
        have H16 := Lib.hid h16
        have hln := length_any W0 w7 (HT.out.next HB7.out) l _ qk y (HL.out.below HB7.out) (HTv.out.move (fun b _ h => ⟨trivial, by obtain ⟨_, _, h⟩ := h; exact HB7.out.block b (cell_lt h)⟩))
        rw [lenS_right HOky.out, ← HN.out] at hln
        obtain ⟨m, hm⟩ : ∃ m, m = (wordsF l y false).length := ⟨_, rfl⟩
        rw [← hm] at hln
        have HLn := Lib.hid hln
        have HM := Lib.hid hm
        have hmpos : 0 < m := by rw [hm]; exact List.length_pos_iff.2 (words_pos y (okAll_ok' HOky.out) false)
        have hfit := HKs.out h16 k hkl
        rw [HPw.out] at hfit
        have hkm : ks k + m ≤ S := by rw [hm, HSl.out]; exact hfit.1.2
        have HFit := Lib.hid hfit
        have haks : a ≤ ks k := HAk.out h16 hlt
        clear h16 hln hm hfit
        go_wp2_with fail
        refine HLn.out.mono ?_
        rintro _ w8 ⟨rfl, hb8⟩
        have HB8 := Lib.hid (HB7.out.trans (hb8.mono HB7.out.size))
        have HBr8 := Lib.hid (HBr7.out.trans (hb8.mono HBr7.out.size))
        have HB68 := Lib.hid (HB67.out.trans (hb8.mono HB67.out.size))
        clear hb8 t0 t1 t2 t3 v0 v1 v2 v3
        have hsne : s ≠ [] := by intro h; have := HSl.out; rw [h] at this; simp at this; omega
        have hpm : pw.take m = wordsF l y false := by rw [HPe.out, HM.out]; unfold yieldW; rw [List.take_left]
        have hmP : m ≤ P := by
          rw [HPl.out, HPe.out, HM.out]
          unfold yieldW
          rw [List.length_append]; omega
        have hpne : pw ≠ [] := by intro h; have := HPl.out; rw [h] at this; simp at this; omega
        obtain ⟨sb, soff, rfl, hsc2⟩ := HSf.out.resolve_left hsne
        obtain ⟨pb, poff, rfl, hpc2⟩ := HPf.out.resolve_left hpne
        have hScap : S ≤ scap := by rw [HSl.out]; exact HSc.out
        have hPcap : P ≤ pcap := by rw [HPl.out]; exact HPc.out
        have HPm2 := Lib.hid hpm
        have HSc2 := Lib.hid hsc2
        have HPc2 := Lib.hid hpc2
        have HmP := Lib.hid hmP
        clear hsne hpm hpne hsc2 hpc2
        go_wp2
        go_loopw [7] (fun av wr => ∃ a2 : Nat, av = .int .i64 a2 ∧ a2 ≤ ks k ∧ Below w8.heap.size w8 wr) (fun av _ => ks k - (intOf av).toNat)
        case atStart => exact ⟨a, rfl, haks, Below.refl _ _⟩
        case round =>
          obtain ⟨a2, rfl, ha2, hbi⟩ := hrel
          obtain ⟨E, hE⟩ : ∃ E, E = a2 + m := ⟨_, rfl⟩
          have hES : E ≤ S := by omega
          have hwm : IntKind.i64.wrap ((a2 : Int) + (m : Int)) = (E : Int) := by rw [show (a2 : Int) + (m : Int) = (E : Int) by omega]; exact IntWalk.i64_in _ (by omega)
          have hdE : decide ((E : Int) ≤ (S : Int)) = true := decide_eq_true (by omega)
          have hdE2 : decide (E ≤ S) = true := decide_eq_true hES
          have hdG : decide ((S : Int) < (E : Int)) = false := decide_eq_false (by omega)
          have hdG2 : decide (S < E) = false := decide_eq_false (by omega)
          have hEm : E - a2 = m := by omega
          have hne : ¬ scap = a2 := by omega
          have i1 : a2 ≤ E := by omega
          have i2 : E ≤ scap := by omega
          have i3 : m ≤ pcap := by omega
          have i4 : (a2 : Int) ≤ (E : Int) := by omega
          have i5 : (E : Int) ≤ (scap : Int) := by omega
          have i6 : (m : Int) ≤ (pcap : Int) := by omega
          have i7 : (0 : Int) ≤ (a2 : Int) := by omega
          have i8 : (0 : Int) ≤ (m : Int) := by omega
          have HEq := Lib.hid hE
          have HBi := Lib.hid hbi
          obtain ⟨bt, hbt⟩ : ∃ bt, bt = ((s.drop a2).take m == pw.take m) := ⟨_, rfl⟩
          have HBt := Lib.hid hbt
          have HST : Go.RowKit.Hid (∀ x : Later wr, Calls Tryz.prog 32 #[.slice (some ⟨sb, soff + a2, none⟩) m (scap - a2), .slice (some ⟨pb, poff, none⟩) m pcap] x.w fun e w' => e = .returned (.bool bt) ∧ Below x.w.heap.size x.w w') := Lib.hid (fun x => by
            have hx8 : Below w8.heap.size w8 x.w := HBi.out.trans (x.below.mono HBi.out.size)
            have hx6 : Below w6.heap.size w6 x.w := HB68.out.trans (hx8.mono HB68.out.size)
            have hx5 : Below w5.heap.size w5 x.w := HBr8.out.trans (hx8.mono HBr8.out.size)
            have p1 := piece (W := x.w) (s := s) (fun j h => cell_kept' hx5 (HSc2.out j h)) a2 m (scap - a2) (by rw [← HSl.out]; omega) (by omega) (by have := HSm.out; omega)
            have p2 := piece (W := x.w) (s := pw) (fun j h => cell_kept' hx6 (HPc2.out j h)) 0 m pcap (by rw [← HPl.out]; have := HmP.out; omega) i3 HPm.out
            rw [Nat.add_zero, List.drop_zero] at p2
            have h := SameTexts_any x.w _ _ _ _ p1 p2 (by simp; omega)
            rw [← HBt.out] at h
            exact h)
          clear hE hbi hbt
          go_wp2_with fail
          refine wp_region_later (by kernel_rfl) (by kernel_rfl) ?_
          repeat (go_big_quiet_step ((go_at_call 32; exact later_call (HST.out _))))
          refine wpQuiet_nil ?_
          rintro _ ⟨x, rfl⟩
          have HBx := Lib.hid (HBi.out.trans (x.below.mono HBi.out.size))
          cases bt
          · have hlt2 : a2 < ks k := by
              rcases Nat.lt_or_ge a2 (ks k) with h | h
              · exact h
              · exfalso
                have he : a2 = ks k := by omega
                have h1 := HBt.out
                have h2 := HFit.out.1.1
                rw [he, HPm2.out] at h1
                rw [← HM.out] at h2
                rw [h2] at h1
                simp at h1
            have ha1000 : a2 + 1 ≤ 1001 := by omega
            go_wp2
            go_roundw
            case rel => exact ⟨a2 + 1, by go_num, by omega, HBx.out⟩
            case measure => simp [intOf]; omega
          · have hnext : k + 1 < n → E ≤ ks (k + 1) := fun h => by
              have h1 := HFit.out.2 (by rw [← HQn.out, ← HNn.out]; exact h)
              have h2 := HM.out
              have h3 := HEq.out
              omega
            have HNext := Lib.hid hnext
            clear hnext
            go_wp2
            go_roundw
            case rel => exact ⟨E, k + 1, by omega, by first | rfl | go_num, by go_num, hES, fun h => absurd h H16.out, fun _ h => HNext.out h, HBr8.out.trans (HBx.out.mono HBr8.out.size)⟩
            case measure => simp [intOf]; omega
    · have hd : decide ((k : Int) < (n : Int)) = false := decide_eq_false (by omega)
      have hS0 : decide ((0 : Int) < (S : Int)) = true := decide_eq_true (by omega)
      have hS1 : decide (0 < S) = true := decide_eq_true (by omega)
      obtain rfl : k = n := by omega
      go_wp2
      go_ret
      exact ⟨rfl, HB5.out.trans (HBr.out.mono HB5.out.size)⟩
end Go.Proofs.YthmnffgjckpkiaaGreatDoor
