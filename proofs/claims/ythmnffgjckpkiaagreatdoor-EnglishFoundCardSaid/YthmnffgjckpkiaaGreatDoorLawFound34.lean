/-
  The walk of 'EnglishFound'.
-/
import Derived.Test.YthmnffgjckpkiaaGreatDoorSpokenS
import Derived.Test.YthmnffgjckpkiaaGreatDoorForG
import Derived.Test.YthmnffgjckpkiaaGreatDoorLength
import Derived.Test.YthmnffgjckpkiaaGreatDoorRight34
import Derived.Test.YthmnffgjckpkiaaGreatDoorSmall34
import Derived.Test.YthmnffgjckpkiaaGreatDoorFew34
import Derived.Test.YthmnffgjckpkiaaGreatDoorGEngI
namespace Go.Proofs.YthmnffgjckpkiaaGreatDoor
open Go Go.RowKit Go.Shelf

set_option maxRecDepth 100000 in
set_option maxHeartbeats 16000000 in
theorem EnglishFound_any (W0 w : World) (ht : Tabs W0 w) (lv v : Value) (l : List Ent) (hl : EntSlice w lv l) (t : Tr) (hv : TreeV (fun _ => True) w v t) :
    Calls Tryz.prog 12 #[lv, v] w fun e w' => e = .returned (.bool true) ∧ Below w.heap.size w w' := by
  obtain ⟨q, rfl⟩ := hv.form
  have HV := Lib.hid hv
  have HL := Lib.hid hl
  have HT := Lib.hid ht
  clear hv hl ht
  unfold TV.val
  go_enter Tryz.func12, Tryz.ntmps12
  go_upto_region 1 with (fail)
  obtain ⟨W1, hW1⟩ : ∃ W1, W1 = w.alloc (.cells #[.int .u8 q.r, .int .i64 q.e, .string q.w, .slice q.a q.n q.c] 36) := ⟨_, rfl⟩
  have hb : Below w.heap.size w W1 := by rw [hW1]; exact (Below.refl _ _).alloc (Nat.le_refl _) _
  have htb : W1.heap[w.heap.size]? = some (.cells #[.int .u8 q.r, .int .i64 q.e, .string q.w, .slice q.a q.n q.c] 36 (0, 0)) := by rw [hW1]; exact heap_atC rfl
  rw [← hW1]
  obtain ⟨T, hT⟩ : ∃ T, T = w.heap.size := ⟨_, rfl⟩
  rw [← hT] at htb ⊢
  have HB1 := Lib.hid hb
  have c0 : W1.cell? ⟨T, 0, none⟩ = some (.int .u8 q.r) := (cell_rowC htb 0).trans rfl
  have c1 : W1.cell? ⟨T, 1, none⟩ = some (.int .i64 q.e) := (cell_rowC htb 1).trans rfl
  have c2 : W1.cell? ⟨T, 2, none⟩ = some (.string q.w) := (cell_rowC htb 2).trans rfl
  have c3 : W1.cell? ⟨T, 3, none⟩ = some (.slice q.a q.n q.c) := (cell_rowC htb 3).trans rfl
  clear hW1 hb htb hT
  go_wp2_with fail
  refine (awake34_any W0 W1 (HT.out.next HB1.out)).mono ?_
  rintro _ w2 ⟨rfl, hb2⟩
  have d0 := cell_kept' hb2 c0
  have d1 := cell_kept' hb2 c1
  have d2 := cell_kept' hb2 c2
  have d3 := cell_kept' hb2 c3
  have HB2 := Lib.hid (HB1.out.trans (hb2.mono HB1.out.size))
  clear c0 c1 c2 c3 hb2
  obtain ⟨b1, hb1e⟩ : ∃ b, b = smallL l := ⟨_, rfl⟩
  have hS := Small_any w2 _ l (HL.out.below HB2.out)
  rw [← hb1e] at hS
  have HS := Lib.hid hS
  clear hS hb1e
  go_wp2_with fail
  refine HS.out.mono ?_
  rintro _ w2' ⟨rfl, h2⟩
  rw [← h2]
  clear h2 w2' HS
  cases b1
  · go_wp2
    go_ret
    exact ⟨rfl, HB2.out⟩
  obtain ⟨b2, hb2e⟩ : ∃ b, b = fewS t := ⟨_, rfl⟩
  have hF := few_any w2 q.val t (HV.out.move (fun b _ h => ⟨trivial, by obtain ⟨_, _, h⟩ := h; exact HB2.out.block b (cell_lt h)⟩))
  rw [← hb2e] at hF
  have HF := Lib.hid hF
  have HFe := Lib.hid hb2e
  clear hF hb2e
  go_wp2_with fail
  refine HF.out.mono ?_
  rintro _ w3 ⟨rfl, hb3⟩
  have e0 := cell_kept' hb3 d0
  have e1 := cell_kept' hb3 d1
  have e2 := cell_kept' hb3 d2
  have e3 := cell_kept' hb3 d3
  have HB3 := Lib.hid (HB2.out.trans (hb3.mono HB2.out.size))
  clear d0 d1 d2 d3 hb3 HF
  cases b2
  · go_wp2
    go_ret
    exact ⟨rfl, HB3.out⟩
  obtain ⟨b3, hb3e⟩ : ∃ b, b = okAll l t := ⟨_, rfl⟩
  have HOk := Lib.hid hb3e
  have hy := Yield_any W0 w3 (HT.out.next HB3.out) l _ q.val t (HL.out.below HB3.out) (HV.out.move (fun b _ h => ⟨trivial, by obtain ⟨_, _, h⟩ := h; exact HB3.out.block b (cell_lt h)⟩))
  cases b3
  · rw [yieldS_bad hb3e.symm] at hy
    simp only at hy
    have HY := Lib.hid hy
    clear hy hb3e
    go_wp2_with fail
    refine HY.out.mono ?_
    rintro _ w5 ⟨sv, rfl, hss, hb5⟩
    have g0 := cell_kept' hb5 e0
    have g1 := cell_kept' hb5 e1
    have g2 := cell_kept' hb5 e2
    have g3 := cell_kept' hb5 e3
    have HB5 := Lib.hid (HB3.out.trans (hb5.mono HB3.out.size))
    have hR := Right34_any W0 w5 (HT.out.next HB5.out) l _ q.val t (HL.out.below HB5.out) (HV.out.move (fun b _ h => ⟨trivial, by obtain ⟨_, _, h⟩ := h; exact HB5.out.block b (cell_lt h)⟩))
    rw [← HOk.out] at hR
    have HR := Lib.hid hR
    obtain ⟨sa, scap, rfl, _⟩ := hss
    clear hb5 e0 e1 e2 e3 hR HY
    go_wp2_with fail
    refine HR.out.mono ?_
    rintro _ w6 ⟨rfl, hb6⟩
    go_wp2
    go_ret
    exact ⟨rfl, HB5.out.trans (hb6.mono HB5.out.size)⟩
  have hok : okAll l t = true := hb3e.symm
  rw [yieldS_good hok] at hy
  obtain ⟨s, hs⟩ : ∃ s, s = yieldW l t := ⟨_, rfl⟩
  simp only at hy
  rw [← hs] at hy
  have HY := Lib.hid hy
  have HSq := Lib.hid hs
  have hsl : s.length ≤ 1000 := by
    have h := yield_len (l := l) t
    rw [yieldS_good hok] at h
    rw [hs]; exact h
  have hlast := yield_last hok
  rw [← hs] at hlast
  have HLast := Lib.hid hlast
  clear hy hs hok hb3e hlast
  go_wp2_with fail
  refine HY.out.mono ?_
  rintro _ w5 ⟨sv, rfl, hss, hb5⟩
  have HSs := Lib.hid hss
  obtain ⟨sa, scap, rfl, hsc, hsm, hsf⟩ := hss
  have g0 := cell_kept' hb5 e0
  have g1 := cell_kept' hb5 e1
  have g2 := cell_kept' hb5 e2
  have g3 := cell_kept' hb5 e3
  have HB5 := Lib.hid (HB3.out.trans (hb5.mono HB3.out.size))
  have hpos := List.length_pos_iff.2 HLast.out.1
  obtain ⟨b, off, rfl, hc⟩ := hsf.resolve_left HLast.out.1
  obtain ⟨n, hn⟩ : ∃ n, s.length = n + 1 := ⟨s.length - 1, by omega⟩
  have k0 := hc n (by omega)
  obtain ⟨lw, hlw⟩ : ∃ lw, lw = s[n] := ⟨_, rfl⟩
  rw [← hlw] at k0
  have hla : s.getLast? = some lw := by
    rw [List.getLast?_eq_getElem?, hn, Nat.add_sub_cancel, List.getElem?_eq_getElem (by omega), hlw]
  have hkind : lw = wDot ↔ kindS t.rule = 1 := by
    rw [← HLast.out.2, hla]
    exact ⟨fun h => by rw [h], fun h => Option.some.inj h⟩
  rw [hn] at HSs ⊢
  have HN := Lib.hid hn
  have HK := Lib.hid hkind
  have hw1 : IntKind.i64.wrap (((n + 1 : Nat) : Int) - 1) = (n : Int) := by rw [show ((n + 1 : Nat) : Int) - 1 = (n : Int) by omega]; exact IntWalk.i64_in _ (by omega)
  have hw2 : IntKind.i64.wrap ((n : Int) + 1 - 1) = (n : Int) := by rw [show (n : Int) + 1 - 1 = (n : Int) by omega]; exact IntWalk.i64_in _ (by omega)
  have x1 : (0 : Int) < ((n + 1 : Nat) : Int) := by omega
  have x2 : decide ((0 : Int) < ((n + 1 : Nat) : Int)) = true := decide_eq_true x1
  have x3 : (n : Int) < ((n + 1 : Nat) : Int) := by omega
  have x4 : (0 : Int) ≤ (n : Int) := by omega
  have hn1000 : n ≤ 1000 := by omega
  clear hb5 e0 e1 e2 e3 hsf hc hpos hlw hla hkind hn hsl HY hsc hsm
  by_cases hd : lw = wDot
  · have y1 : (lw == [46]) = true := by rw [hd]; rfl
    have y2 : (lw != [46]) = false := by rw [hd]; rfl
    have hk1 := HK.out.1 hd
    have HK1 := Lib.hid hk1
    obtain ⟨c, ce, ts, pe, hC, hP, hcm, hcase⟩ := parse_cases l s
    have HC := Lib.hid hC
    have HP := Lib.hid hP
    have HCase := Lib.hid hcase
    have hcall := Count_any W0 w5 (HT.out.next HB5.out) lv _ l (HL.out.below HB5.out) s HSs.out
    rw [hC] at hcall
    have HCall := Lib.hid hcall
    clear hd hk1 hC hP hcm hcase hcall
    go_wp2_with fail
    refine HCall.out.mono ?_
    rintro _ w6 ⟨rfl, hb6⟩
    have f0 := cell_kept' hb6 g0
    have f1 := cell_kept' hb6 g1
    have f2 := cell_kept' hb6 g2
    have f3 := cell_kept' hb6 g3
    have HB56 := Lib.hid hb6
    have HB6 := Lib.hid (HB5.out.trans (hb6.mono HB5.out.size))
    have hcall := Parses_any W0 w6 (HT.out.next HB6.out) lv _ l (HL.out.below HB6.out) s (HSs.out.below hb6)
    rw [HP.out] at hcall
    clear hb6 g0 g1 g2 g3 k0 y1 y2 HCall
    have HCall := Lib.hid hcall
    clear hcall
    go_wp2_with fail
    refine HCall.out.mono ?_
    rintro _ w7 ⟨rv, rfl, hb7, hF⟩
    have g0 := cell_kept' hb7 f0
    have g1 := cell_kept' hb7 f1
    have g2 := cell_kept' hb7 f2
    have g3 := cell_kept' hb7 f3
    have HFo := Lib.hid hF
    have HB7 := Lib.hid (HB6.out.trans (hb7.mono HB6.out.size))
    clear hb7 hF HCall f0 f1 f2 f3
    obtain ⟨N, hN⟩ : ∃ N, N = ts.length := ⟨_, rfl⟩
    obtain ⟨va, vc, rfl⟩ : ∃ va vc, rv = .slice va N vc := by obtain ⟨_, _, _, _, hown, _⟩ := HFo.out; rw [hN]; exact owns_form hown
    have HNt := Lib.hid hN
    clear hN
    have hval : validS l = true := (okAll_parts HOk.out.symm).1
    have hcnt : s.length ≤ 24 → ∃ c, countS l s = (c, 0) ∧ 0 < c := fun h => by
      rw [HSq.out]
      exact found_count HOk.out.symm HK1.out (by rw [← HSq.out]; exact h)
    rcases HCase.out with ⟨hv, rfl, rfl, rfl, rfl⟩ | ⟨hv, h24, rfl, rfl, rfl, rfl⟩ | ⟨hv, h24, rfl, rfl, rfl, rfl⟩ | ⟨hv, _, h64, rfl, rfl, rfl⟩ | ⟨hv, h24, h0, h64, rfl, rfl, hlen⟩
    · rw [hval] at hv; cases hv
    · rw [HN.out] at h24
      have z1 : decide ((24 : Int) < ((n + 1 : Nat) : Int)) = true := decide_eq_true (by omega)
      have z2 : decide ((24 : Int) < (n : Int) + 1) = true := decide_eq_true (by omega)
      have z3 : decide (24 < n + 1) = true := decide_eq_true h24
      clear hv h24 hval hcnt
      go_wp2
      go_ret
      exact ⟨rfl, HB7.out⟩
    · obtain ⟨c, h1, h2⟩ := hcnt h24
      rw [HC.out] at h1
      injection h1 with h1 _
      omega
    · have z1 : decide ((64 : Int) < (c : Int)) = true := decide_eq_true (by omega)
      have z2 : decide (64 < c) = true := decide_eq_true h64
      clear hv h64 hval hcnt
      go_wp2
      go_ret
      exact ⟨rfl, HB7.out⟩
    · have hone : foundS ts t ts.length = 1 := by
        have h1 := HC.out
        rw [HSq.out] at h1
        have h := found_once HOk.out.symm HK1.out h1 h0 (by omega)
        rwa [← HSq.out, HP.out] at h
      have hsl : ∀ i (hi : i < ts.length), Slim ts[i] := fun i hi => by
        refine (spoken_mem HC.out h0 (by omega) ?_).2.2.2
        rw [HP.out]; exact List.getElem_mem hi
      have hN64 : N ≤ 64 := by rw [HNt.out, hlen]; exact h64
      have hfl : ∀ i, foundS ts t i ≤ 64 := fun i => Nat.le_trans (foundS_le ts t i) (by omega)
      have HOne := Lib.hid hone
      have HSlim := Lib.hid hsl
      have HFl := Lib.hid hfl
      clear hv h24 h0 h64 hval hcnt hone hsl hlen hfl
      have HF : Go.RowKit.Hid (ForG w6.heap.size (.slice va N vc) ts N w7) := Lib.hid (by have h := HFo.out; simp only at h; rw [← HNt.out] at h; exact h)
      clear HFo
      go_wp2
      go_loopw [11, 12] (fun f i wr => ∃ j fo : Nat, j ≤ N ∧ i = .int .i64 j ∧ f = .int .i64 fo ∧ fo = foundS ts t j ∧ Below w7.heap.size w7 wr) (fun _ i _ => N - (intOf i).toNat)
      case atStart => exact ⟨0, 0, Nat.zero_le _, rfl, rfl, rfl, Below.refl _ _⟩
      case round =>
        obtain ⟨j, fo, hj, rfl, rfl, hfo, hbr⟩ := hrel
        have HBr := Lib.hid hbr
        have hfo64 : fo ≤ 64 := by rw [hfo]; exact HFl.out j
        have HFo := Lib.hid hfo
        by_cases hlt : j < N
        · have hd : decide ((j : Int) < (N : Int)) = true := decide_eq_true (by omega)
          have hjj : (j : Int) < (N : Int) := by omega
          have hjt : j < ts.length := by rw [← HNt.out]; exact hlt
          obtain ⟨g, p, rfl, htv, a0, a1, a2, a3⟩ := forG_get HF.out hlt hjt
          have hwr : Below w.heap.size w wr := HB7.out.trans (hbr.mono HB7.out.size)
          have m0 := fun x : Later wr => x.get (cell_kept' hbr a0)
          have m1 := fun x : Later wr => x.get (cell_kept' hbr a1)
          have m2 := fun x : Later wr => x.get (cell_kept' hbr a2)
          have m3 := fun x : Later wr => x.get (cell_kept' hbr a3)
          have n0 := fun x : Later wr => x.get (cell_kept' hbr g0)
          have n1 := fun x : Later wr => x.get (cell_kept' hbr g1)
          have n2 := fun x : Later wr => x.get (cell_kept' hbr g2)
          have n3 := fun x : Later wr => x.get (cell_kept' hbr g3)
          obtain ⟨R, hR⟩ : ∃ R, R = eqT ts[j] t := ⟨_, rfl⟩
          have hCs : ∀ x : Later wr, Calls Tryz.prog 18 #[p.val, q.val] x.w fun e w' => e = .returned (.bool R) ∧ Below x.w.heap.size x.w w' := fun x => by
            rw [hR]
            have hx7 : Below w7.heap.size w7 x.w := hbr.trans (x.below.mono hbr.size)
            have hx : Below w.heap.size w x.w := hwr.trans (x.below.mono hwr.size)
            exact Same34_any ts[j] (HSlim.out j hjt) t x.w p.val q.val (htv.move (fun b _ h => ⟨trivial, by obtain ⟨_, _, h⟩ := h; exact hx7.block b (cell_lt h)⟩)) (HV.out.move (fun b _ h => ⟨trivial, by obtain ⟨_, _, h⟩ := h; exact hx.block b (cell_lt h)⟩))
          have HCs := Lib.hid hCs
          have HR := Lib.hid hR
          unfold TV.val at HCs
          have hnx := foundS_succ (t := t) hjt
          rw [← hR, ← hfo] at hnx
          have HNx := Lib.hid hnx
          clear hbr a0 a1 a2 a3 htv hCs hR hwr hfo hnx
          go_wp2
          refine wp_region_later (by kernel_rfl) (by kernel_rfl) ?_
          repeat (go_big_quiet_step ((go_at_call 18; exact later_call (HCs.out _))))
          refine wpQuiet_nil ?_
          rintro _ ⟨x, rfl⟩
          have HBx := Lib.hid (HBr.out.trans (x.below.mono HBr.out.size))
          clear m0 m1 m2 m3 n0 n1 n2 n3
          cases R
          · go_wp2
            go_roundw
            case rel => exact ⟨j + 1, fo, by omega, by go_num, rfl, by rw [HNx.out]; rfl, HBx.out⟩
            case measure => simp [intOf]; omega
          · go_wp2
            go_roundw
            case rel => exact ⟨j + 1, fo + 1, by omega, by go_num, by go_num, by rw [HNx.out]; rfl, HBx.out⟩
            case measure => simp [intOf]; omega
        · have hd : decide ((j : Int) < (N : Int)) = false := decide_eq_false (by omega)
          obtain rfl : j = N := by omega
          have hf1 : fo = 1 := by rw [hfo, HNt.out]; exact HOne.out
          clear hfo HFo
          subst hf1
          clear hbr
          go_wp2
          go_ret
          exact ⟨rfl, HB7.out.trans (HBr.out.mono HB7.out.size)⟩
  · have y1 : (lw == [46]) = false := by simpa [wDot] using hd
    have y2 : (lw != [46]) = true := by simpa [wDot] using hd
    have hR := Right34_any W0 w5 (HT.out.next HB5.out) l _ q.val t (HL.out.below HB5.out) (HV.out.move (fun b _ h => ⟨trivial, by obtain ⟨_, _, h⟩ := h; exact HB5.out.block b (cell_lt h)⟩))
    rw [← HOk.out] at hR
    have HR := Lib.hid hR
    clear hR hd
    go_wp2_with fail
    refine HR.out.mono ?_
    rintro _ w6 ⟨rfl, hb6⟩
    go_wp2
    go_ret
    exact ⟨rfl, HB5.out.trans (hb6.mono HB5.out.size)⟩
end Go.Proofs.YthmnffgjckpkiaaGreatDoor
