/-
  The contracts of number and times of the reference of chapter 34: a table of counts in memory.
  The contract of Table of the reference of chapter 34: it counts the parses of all spans.
  The walk of Table of the reference of chapter 34.
-/
import Derived.Test.YthmnffgjckpkiaaGreatDoorSC
import Derived.Test.YthmnffgjckpkiaaGreatDoorSD
import Derived.Test.YthmnffgjckpkiaaGreatDoorGLow
import Derived.Deep.OwnRows
import Derived.Test.YthmnffgjckpkiaaGreatDoorRSteps
import Derived.Test.YthmnffgjckpkiaaGreatDoorGEngC
import Derived.Deep.RegionHeld3
import Derived.Deep.AppendLies
namespace Go.Proofs.YthmnffgjckpkiaaGreatDoor
open Go Go.RowKit Go.Shelf

/-- The count that a table tells: by kind, place and length. -/
def cOf (d : Nat → Nat → Nat → Nat) : Nat → Nat → Nat → Nat := fun k f t => d k f (t - f)
/-- A table in memory of its own. -/
def TabAt (B : Nat) (W : World) (v : Value) (L : Nat) (d : Nat → Nat → Nat → Nat) : Prop :=
  ∃ (g cap : Nat) (rb rc : Nat → Nat) (cb : Nat → Nat → Nat), v = .slice (some ⟨g, 0, none⟩) 8 cap ∧
    (∀ k, k < 8 → W.cell? ⟨g, k, none⟩ = some (.slice (some ⟨rb k, 0, none⟩) (L + 1) (rc k))) ∧
    (∀ k f, k < 8 → f ≤ L → W.cell? ⟨rb k, f, none⟩ = some (.slice (some ⟨cb k f, 0, none⟩) (L + 1) (L + 1))) ∧
    (∀ k f, k < 8 → f ≤ L → B ≤ cb k f ∧ W.rowIs (cb k f) 3 (L + 1) (fun n => .int .i64 (d k f n))) ∧
    (∀ k f k' f', k < 8 → f ≤ L → k' < 8 → f' ≤ L → cb k f = cb k' f' → k = k' ∧ f = f')
theorem TabAt.below {B : Nat} {W W' : World} {v : Value} {L : Nat} {d : Nat → Nat → Nat → Nat} (h : TabAt B W v L d) (hb : Below W.heap.size W W') : TabAt B W' v L d := by
  obtain ⟨g, cap, rb, rc, cb, h0, h1, h2, h3, h4⟩ := h
  exact ⟨g, cap, rb, rc, cb, h0, fun k hk => cell_kept' hb (h1 k hk), fun k f hk hf => cell_kept' hb (h2 k f hk hf), fun k f hk hf => ⟨(h3 k f hk hf).1, (h3 k f hk hf).2.of_block (hb.block _ (h3 k f hk hf).2.lt)⟩, h4⟩

/-- A row of steps that can be read. -/
def StepsI (W : World) (v : Value) (ss : List StepS) : Prop :=
  ∃ a cap, v = .slice a ss.length cap ∧ (ss = [] ∨ ∃ b off, a = some ⟨b, off, none⟩ ∧ ∃ qs : Nat → TV, ∀ j (h : j < ss.length), StepV W (qs j) ss[j] ∧
    W.cell? ⟨b, off + j * 4, none⟩ = some (.int .u8 (qs j).r) ∧ W.cell? ⟨b, off + j * 4 + 1, none⟩ = some (.int .i64 (qs j).e) ∧ W.cell? ⟨b, off + j * 4 + 2, none⟩ = some (.string (qs j).w) ∧ W.cell? ⟨b, off + j * 4 + 3, none⟩ = some (.slice (qs j).a (qs j).n (qs j).c))
theorem StepV.below {W W' : World} {q : TV} {s : StepS} (h : StepV W q s) (hb : Below W.heap.size W W') : StepV W' q s := h.block (fun b _ hh => hb.block b (Array.getElem?_eq_some_iff.1 hh).1)
theorem StepsI.below {W W' : World} {v : Value} {ss : List StepS} (h : StepsI W v ss) (hb : Below W.heap.size W W') : StepsI W' v ss := by
  obtain ⟨a, cap, h0, h1⟩ := h
  refine ⟨a, cap, h0, ?_⟩
  rcases h1 with h1 | ⟨b, off, h1, qs, h2⟩
  · exact .inl h1
  · exact .inr ⟨b, off, h1, qs, fun j hj => ⟨(h2 j hj).1.below hb, cell_kept' hb (h2 j hj).2.1, cell_kept' hb (h2 j hj).2.2.1, cell_kept' hb (h2 j hj).2.2.2.1, cell_kept' hb (h2 j hj).2.2.2.2⟩⟩
theorem StepsR.view {B : Nat} {W : World} {v : Value} {ss : List StepS} (h : StepsR B W v ss) : StepsI W v ss := by
  obtain ⟨qs, h1, hown, h3⟩ := h
  rcases id hown.2 with ⟨rfl, h0⟩ | ⟨g, cap, cur, rfl, _⟩
  · refine ⟨none, 0, by rw [h0], .inl (List.eq_nil_of_length_eq_zero h0)⟩
  · refine ⟨_, cap, rfl, .inr ⟨g, 0, rfl, fun j => qs.getD j ⟨0, 0, ByteArray.empty, none, 0, 0⟩, fun j hj => ?_⟩⟩
    have hjq : j < qs.length := by omega
    have hadd : ∀ k, (⟨g, 0, none⟩ : Addr).add k = ⟨g, k, none⟩ := fun k => by unfold Addr.add; split <;> simp_all
    have hq : qs.getD j ⟨0, 0, ByteArray.empty, none, 0, 0⟩ = qs[j] := by simp [List.getD, List.getElem?_eq_getElem hjq]
    obtain ⟨x0, x1, x2, x3⟩ := flat4 qs j hjq
    have c0 := hown.cells (g := g) rfl _ _ x0
    have c1 := hown.cells (g := g) rfl _ _ x1
    have c2 := hown.cells (g := g) rfl _ _ x2
    have c3 := hown.cells (g := g) rfl _ _ x3
    rw [hadd] at c0 c1 c2 c3
    simp only [hq, Nat.zero_add]
    exact ⟨h3 j hjq hj, c0, c1, c2, c3⟩
theorem StepsI.one {W : World} {b off n cap : Nat} {ss : List StepS} (h : StepsI W (.slice (some ⟨b, off, none⟩) n cap) ss) {i : Nat} (hi : i < ss.length) (c : Nat) : StepsI W (.slice (some ⟨b, off + i * 4, none⟩) 1 c) [ss[i]] := by
  obtain ⟨a, cap', h0, h1⟩ := h
  injection h0 with h0 _ _
  obtain ⟨b', off', rfl, qs, h2⟩ := h1.resolve_left (fun e => by rw [e] at hi; simp at hi)
  injection h0 with h0
  injection h0 with h0 h00
  subst h0 h00
  refine ⟨_, c, rfl, .inr ⟨b, off + i * 4, rfl, fun _ => qs i, fun j hj => ?_⟩⟩
  obtain rfl : j = 0 := by simp at hj; omega
  simpa using h2 i hi

set_option maxRecDepth 100000 in
set_option maxHeartbeats 4000000 in
theorem rNumber_any (w : World) (B L : Nat) (v : Value) (d : Nat → Nat → Nat → Nat) (hT : TabAt B w v L d) (p : Nat × Nat × Nat) (hL : L ≤ 1000) (h1 : p.1 < 8) (h2 : p.2.1 ≤ L) (h3 : p.2.2 ≤ L) :
    Calls Tryz.prog 75 #[v, .agg #[.int .i64 p.1, .int .i64 p.2.1, .int .i64 p.2.2]] w fun e w' => e = .returned (.int .i64 (numS (cOf d) p)) ∧ Below w.heap.size w w' := by
  obtain ⟨k, f, t⟩ := p
  simp only at h1 h2 h3 ⊢
  obtain ⟨g, cap, rb, rc, cb, rfl, x1, x2, x3, _⟩ := hT
  have c1 := x1 k h1
  have c2 := x2 k f h1 h2
  have hrow := (x3 k f h1 h2).2
  by_cases h0 : t ≤ f
  · have hv : numS (cOf d) (k, f, t) = 0 := by unfold numS; rw [if_pos h0]
    rw [hv]
    have d1 : decide ((t : Int) ≤ (f : Int)) = true := decide_eq_true (by omega)
    have d2 : decide (t ≤ f) = true := decide_eq_true h0
    clear hv h0 x1 x2 x3 hrow
    go_enter Tryz.func75, Tryz.ntmps75
    go_wp2
    go_ret
    exact ⟨by first | rfl | simp, (Below.refl _ _).alloc (Nat.le_refl _) _⟩
  · have hv : numS (cOf d) (k, f, t) = d k f (t - f) := by unfold numS; rw [if_neg h0]; rfl
    rw [hv]
    have d1 : decide ((t : Int) ≤ (f : Int)) = false := decide_eq_false (by omega)
    have d2 : decide (t ≤ f) = false := decide_eq_false h0
    have c3 := hrow.cell (i := t - f) (by omega)
    obtain ⟨R, hR⟩ : ∃ R, R = d k f (t - f) := ⟨_, rfl⟩
    rw [← hR] at c3 ⊢
    obtain ⟨rk, hrk⟩ : ∃ rk, rk = rb k := ⟨_, rfl⟩
    obtain ⟨ck, hck⟩ : ∃ ck, ck = cb k f := ⟨_, rfl⟩
    rw [← hrk] at c1 c2
    rw [← hck] at c2 c3
    obtain ⟨n, hn⟩ : ∃ n, n = t - f := ⟨_, rfl⟩
    rw [← hn] at c3
    have y0 : IntKind.i64.wrap ((t : Int) - (f : Int)) = (n : Int) := by rw [show (t : Int) - (f : Int) = (n : Int) by omega]; exact IntWalk.i64_in _ (by omega)
    have b1 : (0 : Int) ≤ (k : Int) := by omega
    have b2 : (k : Int) < 8 := by omega
    have b3 : (0 : Int) ≤ (f : Int) := by omega
    have b4 : (f : Int) < ((L + 1 : Nat) : Int) := by omega
    have b5 : (0 : Int) ≤ (n : Int) := by omega
    have b6 : (n : Int) < ((L + 1 : Nat) : Int) := by omega
    have HC := Lib.hid (And.intro c1 (And.intro c2 c3))
    clear hv h0 x1 x2 x3 hrow hR hn hrk hck c1 c2 c3
    go_enter Tryz.func75, Tryz.ntmps75
    go_upto_region 1 with (fail)
    obtain ⟨W1, hW1⟩ : ∃ W1, W1 = w.alloc (.cells #[.int .i64 k, .int .i64 f, .int .i64 t] 115) := ⟨_, rfl⟩
    have hb : Below w.heap.size w W1 := by rw [hW1]; exact (Below.refl _ _).alloc (Nat.le_refl _) _
    have htb : W1.heap[w.heap.size]? = some (.cells #[.int .i64 k, .int .i64 f, .int .i64 t] 115 (0, 0)) := by rw [hW1]; exact World.alloc_heap_new _ _
    rw [← hW1]
    obtain ⟨T, hTT⟩ : ∃ T, T = w.heap.size := ⟨_, rfl⟩
    rw [← hTT] at htb ⊢
    have a0 : W1.cell? ⟨T, 0, none⟩ = some (.int .i64 k) := (cell_rowC htb 0).trans rfl
    have a1 : W1.cell? ⟨T, 1, none⟩ = some (.int .i64 f) := (cell_rowC htb 1).trans rfl
    have a2 : W1.cell? ⟨T, 2, none⟩ = some (.int .i64 t) := (cell_rowC htb 2).trans rfl
    have a3 := cell_kept' hb HC.out.1
    have a4 := cell_kept' hb HC.out.2.1
    have a5 := cell_kept' hb HC.out.2.2
    have HB := Lib.hid hb
    have m0 := fun x : Later W1 => x.get a0
    have m1 := fun x : Later W1 => x.get a1
    have m2 := fun x : Later W1 => x.get a2
    have m3 := fun x : Later W1 => x.get a3
    have m4 := fun x : Later W1 => x.get a4
    have m5 := fun x : Later W1 => x.get a5
    clear hW1 hb htb hTT
    go_wp2
    refine wp_region_later (by kernel_rfl) (by kernel_rfl) ?_
    repeat (go_big_quiet_step (fail))
    refine wpQuiet_nil ?_
    rintro _ ⟨x, rfl⟩
    have HX := Lib.hid x.below
    clear m0 m1 m2 m3 m4 m5
    go_wp2
    go_ret
    exact ⟨by first | rfl | simp, HB.out.trans (HX.out.mono HB.out.size)⟩

set_option maxRecDepth 100000 in
set_option maxHeartbeats 8000000 in
theorem rTimes_any (w : World) (B L : Nat) (v : Value) (d : Nat → Nat → Nat → Nat) (hT : TabAt B w v L d) (hd : ∀ k f t, cOf d k f t ≤ most) (hL : L ≤ 1000) (sv : Value) (ss : List StepS) (hS : StepsI w sv ss) (hn : ss.length ≤ 10000)
    (hok : ∀ s ∈ ss, s.parts.length ≤ 2 ∧ ∀ p ∈ s.parts, p.1 < 8 ∧ p.2.1 ≤ L ∧ p.2.2 ≤ L) :
    Calls Tryz.prog 112 #[v, sv] w fun e w' => e = .returned (.int .i64 (timesS (cOf d) ss)) ∧ Below w.heap.size w w' := by
  obtain ⟨sa, scap, rfl, hsf⟩ := id hS
  obtain ⟨c, hc⟩ : ∃ c, c = cOf d := ⟨_, rfl⟩
  obtain ⟨N, hN⟩ : ∃ N, N = ss.length := ⟨_, rfl⟩
  rw [← hN] at hn ⊢
  have HN := Lib.hid hN
  have HS := Lib.hid hS
  have HSf := Lib.hid hsf
  have HT := Lib.hid hT
  have HD := Lib.hid hd
  have HOk := Lib.hid hok
  have HAll := Lib.hid (sumTo_all c ss)
  have HLe := Lib.hid (sumTo_le c ss)
  have HC := Lib.hid hc
  rw [← hc]
  clear hN hS hsf hT hd hok hc
  go_enter Tryz.func112, Tryz.ntmps112
  go_wp2
  go_loopw [5, 6] (fun nv iv wr => ∃ i : Nat, i ≤ N ∧ iv = .int .i64 i ∧ nv = .int .i64 (sumTo c ss i) ∧ Below w.heap.size w wr) (fun _ iv _ => N - (intOf iv).toNat)
  case atStart => exact ⟨0, Nat.zero_le _, rfl, rfl, Below.refl _ _⟩
  case round =>
    obtain ⟨i, hi, rfl, rfl, hbr⟩ := hrel
    obtain ⟨S, hSS⟩ : ∃ S, S = sumTo c ss i := ⟨_, rfl⟩
    rw [← hSS]
    have HSS := Lib.hid hSS
    have HBr := Lib.hid hbr
    have hSle : S ≤ 10000 * most := by
      rw [hSS]
      exact Nat.le_trans (HLe.out i (by rw [← HN.out]; exact hi)) (Nat.mul_le_mul_right _ (by omega))
    have HSle := Lib.hid hSle
    clear hSS hbr hSle
    by_cases hlt : i < N
    · have hdi : decide ((i : Int) < (N : Int)) = true := decide_eq_true (by omega)
      have his : i < ss.length := by rw [← HN.out]; exact hlt
      obtain ⟨b, off, rfl, qs, hq⟩ := HSf.out.resolve_left (fun e => by rw [e] at his; simp at his)
      obtain ⟨hqv, _, _, _, q3⟩ := hq i his
      obtain ⟨ps, hps⟩ : ∃ ps, ps = ss[i].parts := ⟨_, rfl⟩
      have hsp := hqv.2.2.2
      rw [← hps] at hsp
      obtain ⟨pa, pc, hpf⟩ := hsp.form
      obtain ⟨q, hqq⟩ : ∃ q, q = qs i := ⟨_, rfl⟩
      rw [← hqq] at q3 hsp hpf
      rw [hpf] at q3 hsp
      have e3 := cell_kept' HBr.out q3
      have hnx := sumTo_next c ss i his
      rw [← hps, ← HSS.out] at hnx
      have hoks := HOk.out ss[i] (List.getElem_mem his)
      rw [← hps] at hoks
      obtain ⟨M, hM⟩ : ∃ M, M = ps.length := ⟨_, rfl⟩
      rw [← hM] at e3 hsp
      have hM2 : M ≤ 2 := by rw [hM]; exact hoks.1
      have HM := Lib.hid hM
      have HNx := Lib.hid hnx
      have HOks := Lib.hid hoks.2
      have HSp := Lib.hid hsp
      have HE3 := Lib.hid e3
      have b1 : (0 : Int) ≤ (i : Int) := by omega
      have b2 : (i : Int) < (N : Int) := by omega
      have HPle := Lib.hid (prodTo_le c ps)
      clear hq hqv hps hpf hqq q3 hnx hoks hM hsp
      go_wp2
      obtain ⟨wo, hwo⟩ : ∃ wo : World, wo = wr := ⟨_, rfl⟩
      rw [← hwo] at HBr HE3 e3 ⊢
      clear hwo
      go_loopw [7, 8] (fun kv jv wi => ∃ j : Nat, j ≤ M ∧ jv = .int .i64 j ∧ kv = .int .i64 (prodTo c ps j) ∧ Below wo.heap.size wo wi) (fun _ jv _ => M - (intOf jv).toNat)
      case atStart => exact ⟨0, Nat.zero_le _, rfl, rfl, Below.refl _ _⟩
      case round =>
        obtain ⟨j, hj, rfl, rfl, hbi⟩ := hrel
        obtain ⟨K, hK⟩ : ∃ K, K = prodTo c ps j := ⟨_, rfl⟩
        rw [← hK]
        have HK := Lib.hid hK
        have hKle : K ≤ most := by rw [hK]; exact HPle.out j (by rw [← HM.out]; exact hj)
        have HBi := Lib.hid (HBr.out.trans (hbi.mono HBr.out.size))
        have HBi2 := Lib.hid hbi
        have f3 := cell_kept' hbi HE3.out
        clear hK hbi e3
        by_cases hjl : j < M
        · have hdj : decide ((j : Int) < (M : Int)) = true := decide_eq_true (by omega)
          have hjp : j < ps.length := by rw [← HM.out]; exact hjl
          obtain ⟨sb, scap2, hse, g0, g1, g2⟩ := SpansAt.cells (HM.out ▸ HSp.out) hjp
          injection hse with hse _ hse2
          subst hse hse2
          have k0 := cell_kept' HBi.out g0
          have k1 := cell_kept' HBi.out g1
          have k2 := cell_kept' HBi.out g2
          have hp := HOks.out ps[j] (List.getElem_mem hjp)
          have hnx := prodTo_next c ps j hjp
          obtain ⟨p, hpp⟩ : ∃ p, p = ps[j] := ⟨_, rfl⟩
          rw [← hpp] at k0 k1 k2 hp hnx
          have hcall := fun W (hb : Below w.heap.size w W) => rNumber_any W B L v d (HT.out.below hb) p hL hp.1 hp.2.1 hp.2.2
          rw [← HC.out] at hcall
          obtain ⟨X, hX⟩ : ∃ X, X = numS c p := ⟨_, rfl⟩
          rw [← hX] at hcall hnx
          have hXle : X ≤ most := by rw [hX, HC.out]; exact numS_le HD.out p
          have HCall := Lib.hid hcall
          obtain ⟨Z, hZ⟩ : ∃ Z, Z = K * X := ⟨_, rfl⟩
          have hZle : Z ≤ 1000000000000 := by rw [hZ]; exact Nat.mul_le_mul hKle hXle
          rw [← HK.out, ← hZ] at hnx
          have HNx2 := Lib.hid hnx
          have y1 : IntKind.i64.wrap ((K : Int) * (X : Int)) = (Z : Int) := by
            rw [show (K : Int) * (X : Int) = (Z : Int) by rw [hZ]; simp]
            exact IntWalk.i64_in _ (by omega)
          have y2 : IntKind.i64.wrap ((j : Int) + 1) = ((j + 1 : Nat) : Int) := by rw [show (j : Int) + 1 = ((j + 1 : Nat) : Int) by omega]; exact IntWalk.i64_in _ (by omega)
          have b3 : (0 : Int) ≤ (j : Int) := by omega
          have b4 : (j : Int) < (M : Int) := by omega
          obtain ⟨p1, p2, p3⟩ := p
          simp only at k0 k1 k2
          clear g0 g1 g2 hp hpp hcall hX hXle hZ hnx
          by_cases hm : most < Z
          · have e1 : decide ((1000000 : Int) < (Z : Int)) = true := decide_eq_true (by unfold most at hm; omega)
            have HMm := Lib.hid hm
            clear hm
            go_wp2_with (go_at_call 75; refine (HCall.out _ HBi.out).mono ?_; rintro _ w5 ⟨rfl, hb5⟩; have HB5 := Lib.hid hb5; clear hb5)
            go_roundw
            case rel => exact ⟨j + 1, by omega, by go_num, by rw [HNx2.out, Nat.min_eq_left (Nat.le_of_lt HMm.out)]; rfl, HBi2.out.trans (HB5.out.mono HBi2.out.size)⟩
            case measure => simp [intOf]; omega
          · have e1 : decide ((1000000 : Int) < (Z : Int)) = false := decide_eq_false (by unfold most at hm; omega)
            have HMm := Lib.hid hm
            clear hm
            go_wp2_with (go_at_call 75; refine (HCall.out _ HBi.out).mono ?_; rintro _ w5 ⟨rfl, hb5⟩; have HB5 := Lib.hid hb5; clear hb5)
            go_roundw
            case rel => exact ⟨j + 1, by omega, by go_num, by rw [HNx2.out, Nat.min_eq_right (by have := HMm.out; omega)], HBi2.out.trans (HB5.out.mono HBi2.out.size)⟩
            case measure => simp [intOf]; omega
        · have hdj : decide ((j : Int) < (M : Int)) = false := decide_eq_false (by omega)
          have hjm : j = M := by omega
          have hKp : K = prodS c ps := by rw [HK.out, hjm, HM.out, prodTo_all]
          have HKp := Lib.hid hKp
          have y3 : IntKind.i64.wrap ((S : Int) + (K : Int)) = ((S + K : Nat) : Int) := by
            rw [show (S : Int) + (K : Int) = ((S + K : Nat) : Int) by omega]
            exact IntWalk.i64_in _ (by have := HSle.out; unfold most at this hKle; omega)
          have y4 : IntKind.i64.wrap ((i : Int) + 1) = ((i + 1 : Nat) : Int) := by rw [show (i : Int) + 1 = ((i + 1 : Nat) : Int) by omega]; exact IntWalk.i64_in _ (by omega)
          clear hjm hKp
          go_wp2
          go_roundw
          case rel => exact ⟨i + 1, by omega, by go_num, by rw [HNx.out, ← HKp.out, Int.natCast_add], HBi.out⟩
          case measure => simp [intOf]; omega
    · have hdi : decide ((i : Int) < (N : Int)) = false := decide_eq_false (by omega)
      obtain rfl : i = N := by omega
      have hres : timesS c ss = min most S := by rw [HAll.out, HSS.out, HN.out]
      by_cases hm : most < S
      · have e1 : decide ((1000000 : Int) < (S : Int)) = true := decide_eq_true (by unfold most at hm; omega)
        rw [Nat.min_eq_left (Nat.le_of_lt hm)] at hres
        have HRes := Lib.hid hres
        clear hm hres
        go_wp2
        go_ret
        exact ⟨by rw [HRes.out]; rfl, HBr.out⟩
      · have e1 : decide ((1000000 : Int) < (S : Int)) = false := decide_eq_false (by unfold most at hm; omega)
        rw [Nat.min_eq_right (by omega)] at hres
        have HRes := Lib.hid hres
        clear hm hres
        go_wp2
        go_ret
        exact ⟨by rw [HRes.out]; rfl, HBr.out⟩
end Go.Proofs.YthmnffgjckpkiaaGreatDoor
namespace Go.Proofs.YthmnffgjckpkiaaGreatDoor
open Go Go.RowKit Go.Shelf

theorem info_ints : (Tryz.prog.info? 96).map (fun i => (i.zero, i.size, i.bytes)) = some (some (.slice none 0 0), 1, 24) := by kernel_rfl
theorem info_intss : (Tryz.prog.info? 150).map (fun i => (i.zero, i.size, i.bytes)) = some (some (.slice none 0 0), 1, 24) := by kernel_rfl
/-- A row of numbers as a value. -/
def numV (L b : Nat) : Value := .slice (some ⟨b, 0, none⟩) (L + 1) (L + 1)
/-- Rows of zeros that grow: k of them have come. -/
def ZerosG (B : Nat) (W : World) (v : Value) (L : Nat) (k : Nat) : Prop :=
  ∃ bs : Nat → Nat, W.ownsRow B 96 1 v k ((List.range k).map fun j => numV L (bs j)) ∧ (∀ j, j < k → B ≤ bs j ∧ W.rowIs (bs j) 3 (L + 1) (fun _ => .int .i64 0)) ∧ (∀ i j, i < j → j < k → bs i < bs j)
theorem ZerosG.nil (B : Nat) (W : World) (L : Nat) : ZerosG B W (.slice none 0 0) L 0 := ⟨fun _ => 0, World.ownsRow_nil _ _ _ _, fun j h => by omega, fun i j _ h => by omega⟩
/-- A row of numbers is not a row of rows. -/
theorem num_not {B : Nat} {W : World} {t : TypeId} {v : Value} {n : Nat} {xs : List Value} (ht : t ≠ 3) (h : W.ownsRow B t 1 v n xs) {b : Nat} {m : Nat} {f : Nat → Value} (hb : W.rowIs b 3 m f) : v.ownBlock ≠ some b := by
  intro he
  obtain ⟨c, hc, _⟩ := hb
  rcases h.2 with ⟨rfl, _⟩ | ⟨g, cap, cur, rfl, _, hg, _⟩
  · simp [Value.ownBlock] at he
  · obtain rfl : g = b := by simpa [Value.ownBlock] using he
    rw [hg] at hc
    injection hc with hc
    injection hc with _ hc
    exact ht hc
theorem range_last (k : Nat) (f : Nat → Value) : (List.range (k + 1)).map f = (List.range k).map f ++ [f k] := by rw [List.range_succ, List.map_append]; rfl
theorem map_range_congr {k : Nat} {f g : Nat → Value} (h : ∀ j, j < k → f j = g j) : (List.range k).map f = (List.range k).map g := List.map_congr_left (fun j hj => h j (List.mem_range.1 hj))
/-- A row of zeros more: W: ahead of it; W2: the row laid, and its value in a row of its own; W3: behind the append. -/
theorem ZerosG.step {B : Nat} {W W3 : World} {v v' : Value} {L k : Nat} {o : Obj} {bs : Nat → Nat} (hown : W.ownsRow B 96 1 v k ((List.range k).map fun j => numV L (bs j))) (hz : ∀ j, j < k → B ≤ bs j ∧ W.rowIs (bs j) 3 (L + 1) (fun _ => .int .i64 0)) (hinc : ∀ i j, i < j → j < k → bs i < bs j)
    (hB : B ≤ W.heap.size) {W1 : World} (h1 : W1 = W.alloc (.cells (madeCells #[.int .i64 0] (L + 1)) 3))
    (hrow : W3.ownsRow B 96 1 v' (k + 1) (((List.range k).map fun j => numV L (bs j)) ++ [numV L W.heap.size])) (hg : (W1.alloc o).grownBy W3 v.ownBlock) : ZerosG B W3 v' L (k + 1) := by
  have hz1 : W1.rowIs W.heap.size 3 (L + 1) (fun _ => .int .i64 0) := by rw [h1]; exact World.rowIs_made W _ _ _
  have hown2 : (W1.alloc o).ownsRow B 96 1 v k ((List.range k).map fun j => numV L (bs j)) := by
    refine ownsRow_below hown ?_
    rw [h1]
    exact ((Below.refl _ _).alloc (Nat.le_refl _) _).alloc (by simp) _
  have hkeep : ∀ {b m : Nat} {f : Nat → Value}, (W1.alloc o).rowIs b 3 m f → W3.rowIs b 3 m f := fun hb => hb.of_block (hg.block _ hb.lt (fun e => num_not (by decide) hown2 hb e.symm))
  refine ⟨fun j => if j = k then W.heap.size else bs j, ?_, fun j hj => ?_, fun i j hij hj => ?_⟩
  · rw [range_last]
    simp only [if_true]
    rw [map_range_congr (g := fun j => numV L (bs j)) (fun j hj => by rw [if_neg (by omega)])]
    exact hrow
  · by_cases hjk : j = k
    · simp only [if_pos hjk]
      exact ⟨hB, hkeep (hz1.alloc _)⟩
    · simp only [if_neg hjk]
      have := hz j (by omega)
      refine ⟨this.1, hkeep (World.rowIs.alloc ?_ _)⟩
      rw [h1]
      exact this.2.alloc _
  · have hik : i ≠ k := by omega
    by_cases hjk : j = k
    · simp only [if_neg hik, if_pos hjk]
      exact (hz i (by omega)).2.lt
    · simp only [if_neg hik, if_neg hjk]
      exact hinc i j hij (by omega)
/-- Tables that grow: k kinds have come. -/
def TabG (B : Nat) (W : World) (v : Value) (L : Nat) (k : Nat) : Prop :=
  ∃ (rb rc : Nat → Nat) (cb : Nat → Nat → Nat), W.ownsRow B 150 1 v k ((List.range k).map fun j => .slice (some ⟨rb j, 0, none⟩) (L + 1) (rc j)) ∧
    (∀ j, j < k → ∃ cs, W.heap[rb j]? = some (.cells cs 96 (0, 0)) ∧ ∀ f, f ≤ L → cs[f]? = some (numV L (cb j f))) ∧
    (∀ j f, j < k → f ≤ L → B ≤ cb j f ∧ W.rowIs (cb j f) 3 (L + 1) (fun _ => .int .i64 0)) ∧
    (∀ j f j' f', j < k → f ≤ L → j' < k → f' ≤ L → cb j f = cb j' f' → j = j' ∧ f = f')
theorem TabG.nil (B : Nat) (W : World) (L : Nat) : TabG B W (.slice none 0 0) L 0 := ⟨fun _ => 0, fun _ => 0, fun _ _ => 0, World.ownsRow_nil _ _ _ _, fun j h => by omega, fun j f h => by omega, fun j f j' f' h => by omega⟩
theorem TabG.below {B : Nat} {W W' : World} {v : Value} {L k : Nat} (h : TabG B W v L k) (hb : Below W.heap.size W W') : TabG B W' v L k := by
  obtain ⟨rb, rc, cb, h1, h2, h3, h4⟩ := h
  refine ⟨rb, rc, cb, ownsRow_below h1 hb, fun j hj => ?_, fun j f hj hf => ⟨(h3 j f hj hf).1, (h3 j f hj hf).2.of_block (hb.block _ (h3 j f hj hf).2.lt)⟩, h4⟩
  obtain ⟨cs, hc, hf⟩ := h2 j hj
  exact ⟨cs, (hb.block _ (Array.getElem?_eq_some_iff.1 hc).1).trans hc, hf⟩
theorem TabG.tab {B : Nat} {W : World} {v : Value} {L : Nat} (h : TabG B W v L 8) : TabAt B W v L (fun _ _ _ => 0) := by
  obtain ⟨rb, rc, cb, hown, h2, h3, h4⟩ := h
  rcases id hown.2 with ⟨_, h0⟩ | ⟨g, cap, cur, rfl, _⟩
  · omega
  · refine ⟨g, cap, rb, rc, cb, rfl, fun k hk => ?_, fun k f hk hf => ?_, h3, h4⟩
    · have hadd : ∀ k, (⟨g, 0, none⟩ : Addr).add k = ⟨g, k, none⟩ := fun k => by unfold Addr.add; split <;> simp_all
      have := hown.cells (g := g) rfl k _ (by rw [List.getElem?_map, List.getElem?_range hk]; rfl)
      rw [hadd] at this
      exact this
    · obtain ⟨cs, hc, hcf⟩ := h2 k hk
      rw [cell_rowC hc]
      exact hcf f hf
/-- A kind more. -/
theorem TabG.step {B k L : Nat} {W0 W W3 : World} {v v' vr : Value} {o : Obj} {rb rc : Nat → Nat} {cb : Nat → Nat → Nat} (hown : W0.ownsRow B 150 1 v k ((List.range k).map fun j => .slice (some ⟨rb j, 0, none⟩) (L + 1) (rc j)))
    (h2 : ∀ j, j < k → ∃ cs, W0.heap[rb j]? = some (.cells cs 96 (0, 0)) ∧ ∀ f, f ≤ L → cs[f]? = some (numV L (cb j f)))
    (h3 : ∀ j f, j < k → f ≤ L → B ≤ cb j f ∧ W0.rowIs (cb j f) 3 (L + 1) (fun _ => .int .i64 0))
    (h4 : ∀ j f j' f', j < k → f ≤ L → j' < k → f' ≤ L → cb j f = cb j' f' → j = j' ∧ f = f') (hB : B ≤ W0.heap.size) (hb : Below W0.heap.size W0 W) (hr : ZerosG W0.heap.size W vr L (L + 1)) {rb' rc' : Nat} (hvr : vr = .slice (some ⟨rb', 0, none⟩) (L + 1) rc')
    (hrow : W3.ownsRow B 150 1 v' (k + 1) (((List.range k).map fun j => .slice (some ⟨rb j, 0, none⟩) (L + 1) (rc j)) ++ [vr])) (hg : (W.alloc o).grownBy W3 v.ownBlock) : TabG B W3 v' L (k + 1) := by
  obtain ⟨bs, rown, rz, rinc⟩ := hr
  have hb2 : Below W0.heap.size W0 (W.alloc o) := hb.alloc hb.size _
  have hown2 : (W.alloc o).ownsRow B 150 1 v k _ := ownsRow_below hown hb2
  have hkn : ∀ {b m : Nat} {f : Nat → Value}, (W.alloc o).rowIs b 3 m f → W3.rowIs b 3 m f := fun hb => hb.of_block (hg.block _ hb.lt (fun e => num_not (by decide) hown2 hb e.symm))
  have hkr : ∀ {b : Nat} {cs : Array Value}, (W.alloc o).heap[b]? = some (.cells cs 96 (0, 0)) → W3.heap[b]? = some (.cells cs 96 (0, 0)) := by
    intro b cs hc
    refine (hg.block b (Array.getElem?_eq_some_iff.1 hc).1 (fun e => ?_)).trans hc
    rcases hown2.2 with ⟨rfl, _⟩ | ⟨g, cap, cur, rfl, _, hg2, _⟩
    · simp [Value.ownBlock] at e
    · obtain rfl : b = g := by simpa [Value.ownBlock] using e
      rw [hg2] at hc
      injection hc with hc
      injection hc with _ hc
      exact absurd hc (by decide)
  refine ⟨fun j => if j = k then rb' else rb j, fun j => if j = k then rc' else rc j, fun j f => if j = k then bs f else cb j f, ?_, fun j hj => ?_, fun j f hj hf => ?_, fun j f j' f' hj hf hj' hf' e => ?_⟩
  · rw [range_last]
    simp only [if_true]
    rw [← hvr, map_range_congr (g := fun j => .slice (some ⟨rb j, 0, none⟩) (L + 1) (rc j)) (fun j hj => by rw [if_neg (by omega), if_neg (by omega)])]
    exact hrow
  · by_cases hjk : j = k
    · simp only [if_pos hjk]
      rcases rown.2 with ⟨e, h0⟩ | ⟨g, cap, cur, e, _, hg2, _, _, _, ht⟩
      · omega
      · rw [hvr] at e
        injection e with e _ _
        injection e with e
        injection e with e
        subst e
        refine ⟨cur, hkr ((Below.heap_alloc _ _ _ (Array.getElem?_eq_some_iff.1 hg2).1).trans hg2), fun f hf => ?_⟩
        have hx : (cur.toList.take ((L + 1) * 1))[f]? = some (numV L (bs f)) := by
          rw [ht, List.getElem?_map, List.getElem?_range (by omega)]; rfl
        rw [List.getElem?_take_of_lt (by omega), Array.getElem?_toList] at hx
        exact hx
    · simp only [if_neg hjk]
      obtain ⟨cs, hc, hcf⟩ := h2 j (by omega)
      exact ⟨cs, hkr ((hb2.block _ (Array.getElem?_eq_some_iff.1 hc).1).trans hc), hcf⟩
  · by_cases hjk : j = k
    · simp only [if_pos hjk]
      have := rz f (by omega)
      exact ⟨Nat.le_trans hB this.1, hkn (this.2.alloc _)⟩
    · simp only [if_neg hjk]
      have := h3 j f (by omega) hf
      exact ⟨this.1, hkn (this.2.of_block (hb2.block _ this.2.lt))⟩
  · by_cases hjk : j = k
    · by_cases hjk' : j' = k
      · simp only [if_pos hjk, if_pos hjk'] at e
        refine ⟨by omega, ?_⟩
        rcases Nat.lt_trichotomy f f' with hlt | heq | hgt
        · have := rinc f f' hlt (by omega); omega
        · exact heq
        · have := rinc f' f hgt (by omega); omega
      · simp only [if_pos hjk, if_neg hjk'] at e
        have a := (rz f (by omega)).1
        have b := (h3 j' f' (by omega) hf').2.lt
        omega
    · by_cases hjk' : j' = k
      · simp only [if_neg hjk, if_pos hjk'] at e
        have a := (rz f' (by omega)).1
        have b := (h3 j f (by omega) hf).2.lt
        omega
      · simp only [if_neg hjk, if_neg hjk'] at e
        exact h4 j f j' f' (by omega) hf (by omega) hf' e
/-- A number put into a table. -/
def updT (d : Nat → Nat → Nat → Nat) (k f n x : Nat) : Nat → Nat → Nat → Nat := fun k' f' n' => if k' = k ∧ f' = f ∧ n' = n then x else d k' f' n'
theorem TabAt.set {B : Nat} {W : World} {v : Value} {L : Nat} {d : Nat → Nat → Nat → Nat} (h : TabAt B W v L d) {k f n x : Nat} (hk : k < 8) (hf : f ≤ L) {b b2 g cap rc : Nat} (hv : v = .slice (some ⟨g, 0, none⟩) 8 cap)
    (h1 : W.cell? ⟨g, k, none⟩ = some (.slice (some ⟨b2, 0, none⟩) (L + 1) rc)) (h2 : W.cell? ⟨b2, f, none⟩ = some (.slice (some ⟨b, 0, none⟩) (L + 1) (L + 1))) : TabAt B (W.setCell ⟨b, n, none⟩ (.int .i64 x)) v L (updT d k f n x) := by
  obtain ⟨g', cap', rb, rc', cb, hv', c1, c2, c3, c4⟩ := h
  rw [hv] at hv'
  injection hv' with e1 _ e2
  injection e1 with e1
  injection e1 with e1
  subst e1 e2
  have a1 := h1.symm.trans (c1 k hk)
  injection a1 with a1
  injection a1 with a1 _ _
  injection a1 with a1
  injection a1 with a1
  subst a1
  have a2 := h2.symm.trans (c2 k f hk hf)
  injection a2 with a2
  injection a2 with a2 _ _
  injection a2 with a2
  injection a2 with a2
  subst a2
  have hne : ∀ {a : Nat} {y : Option Addr} {i : Nat} {m m' : Nat}, W.cell? ⟨a, i, none⟩ = some (.slice y m m') → a ≠ cb k f := by
    intro a y i m m' hc e
    obtain ⟨cs, hb, hsz, hcs⟩ := (c3 k f hk hf).2
    subst e
    rw [cell_rowC hb] at hc
    by_cases hi : i < L + 1
    · rw [hcs i hi] at hc
      cases hc
    · rw [Array.getElem?_eq_none (by omega)] at hc
      cases hc
  have hc : ∀ {a : Nat} {y : Option Addr} {i : Nat} {m m' : Nat}, W.cell? ⟨a, i, none⟩ = some (.slice y m m') → (W.setCell ⟨cb k f, n, none⟩ (.int .i64 x)).cell? ⟨a, i, none⟩ = some (.slice y m m') := by
    intro a y i m m' hc
    exact (World.cell?_of_block (a := ⟨a, i, none⟩) (Below.heap_setCell _ _ _ _ (by simpa using hne hc))).trans hc
  refine ⟨g, cap, rb, rc', cb, hv, fun k' hk' => hc (c1 k' hk'), fun k' f' hk' hf' => hc (c2 k' f' hk' hf'), fun k' f' hk' hf' => ⟨(c3 k' f' hk' hf').1, ?_⟩, c4⟩
  by_cases hs : k' = k ∧ f' = f
  · obtain ⟨rfl, rfl⟩ := hs
    refine ((c3 k' f' hk' hf').2.set n _).congr (fun i _ => ?_)
    unfold updT
    by_cases hi : i = n
    · simp [hi]
    · simp [hi]
  · have hne2 : cb k' f' ≠ cb k f := fun e => hs (c4 k' f' k f hk' hf' hk hf e)
    refine ((c3 k' f' hk' hf').2.setOther (by simpa using hne2) _).congr (fun i _ => ?_)
    unfold updT
    rw [if_neg (fun h => hs ⟨h.1, h.2.1⟩)]
/-- All shorter spans, and those of the length n ahead of a place and kind, are counted. -/
def Filled (g : Gr) (L n f k : Nat) (d : Nat → Nat → Nat → Nat) : Prop :=
  (∀ a b c, d a b c ≤ most) ∧ ∀ k' f' n', 1 ≤ k' → k' < 8 → f' + n' ≤ L → 1 ≤ n' → (n' < n ∨ n' = n ∧ (f' < f ∨ f' = f ∧ k' < k)) → d k' f' n' = cntS g k' f' (f' + n')
theorem Filled.start (g : Gr) (L : Nat) : Filled g L 1 0 1 (fun _ _ _ => 0) := ⟨fun _ _ _ => Nat.zero_le _, fun k' f' n' h1 h2 h3 h4 h5 => by omega⟩
theorem Filled.next {g : Gr} {L n f k : Nat} {d : Nat → Nat → Nat → Nat} (h : Filled g L n f k d) {x : Nat} (hx : x = cntS g k f (f + n)) : Filled g L n f (k + 1) (updT d k f n x) := by
  refine ⟨fun a b c => ?_, fun k' f' n' h1 h2 h3 h4 h5 => ?_⟩
  · unfold updT
    split
    · rw [hx]; exact cntS_le _ _ _ _
    · exact h.1 a b c
  · unfold updT
    by_cases he : k' = k ∧ f' = f ∧ n' = n
    · rw [if_pos he, hx, he.1, he.2.1, he.2.2]
    · rw [if_neg he]
      exact h.2 k' f' n' h1 h2 h3 h4 (by omega)
theorem Filled.row {g : Gr} {L n f : Nat} {d : Nat → Nat → Nat → Nat} (h : Filled g L n f 8 d) : Filled g L n (f + 1) 1 d := ⟨h.1, fun k' f' n' h1 h2 h3 h4 h5 => h.2 k' f' n' h1 h2 h3 h4 (by omega)⟩
theorem Filled.len {g : Gr} {L n f : Nat} {d : Nat → Nat → Nat → Nat} (h : Filled g L n f 1 d) (hf : L < f + n) : Filled g L (n + 1) 0 1 d := ⟨h.1, fun k' f' n' h1 h2 h3 h4 h5 => h.2 k' f' n' h1 h2 h3 h4 (by omega)⟩
theorem Filled.num {g : Gr} {L n f k : Nat} {d : Nat → Nat → Nat → Nat} (h : Filled g L n f k d) {p : Nat × Nat × Nat} (h1 : 1 ≤ p.1) (h7 : p.1 ≤ 7) (hL : p.2.2 ≤ L) (hlt : p.2.2 - p.2.1 < n) : numS (cOf d) p = numS (cntS g) p := by
  unfold numS
  by_cases h0 : p.2.2 ≤ p.2.1
  · rw [if_pos h0, if_pos h0]
  · rw [if_neg h0, if_neg h0]
    unfold cOf
    rw [h.2 p.1 p.2.1 (p.2.2 - p.2.1) h1 (by omega) (by omega) (by omega) (.inl hlt), show p.2.1 + (p.2.2 - p.2.1) = p.2.2 by omega]
theorem Filled.times {g : Gr} {n f k : Nat} {d : Nat → Nat → Nat → Nat} (h : Filled g g.toks.length n f k d) (h1 : 1 ≤ k) (h7 : k ≤ 7) (hn : f + n ≤ g.toks.length) : timesS (cOf d) (stepsS g k f (f + n)) = cntS g k f (f + n) := by
  rw [cnt_steps g h1 h7 hn]
  refine timesS_congr _ (fun s hs p hp => ?_)
  obtain ⟨a1, a2, a3, a4, a5, a6⟩ := (steps_ok g k f (f + n) s hs).2.2 p hp
  exact h.num a1 a2 (by omega) (by omega)
end Go.Proofs.YthmnffgjckpkiaaGreatDoor
namespace Go.Proofs.YthmnffgjckpkiaaGreatDoor
open Go Go.RowKit Go.Shelf

theorem row_ne {W : World} {b M : Nat} {F : Nat → Int} (h : W.rowIs b 3 M (fun n => .int .i64 (F n))) {a : Nat} {y : Option Addr} {i m m' : Nat} (hc : W.cell? ⟨a, i, none⟩ = some (.slice y m m')) : a ≠ b := by
  intro e
  obtain ⟨cs, hb, hsz, hcs⟩ := h
  subst e
  rw [cell_rowC hb] at hc
  by_cases hi : i < M
  · rw [hcs i hi] at hc
    cases hc
  · rw [Array.getElem?_eq_none (by omega)] at hc
    cases hc
theorem set_kept {W : World} {a i b n : Nat} {v u : Value} (h : W.cell? ⟨a, i, none⟩ = some v) (hne : a ≠ b) : (W.setCell ⟨b, n, none⟩ u).cell? ⟨a, i, none⟩ = some v :=
  (World.cell?_of_block (a := ⟨a, i, none⟩) (Below.heap_setCell _ _ _ _ (by simpa using hne))).trans h
theorem ZerosG.form {B : Nat} {W : World} {v : Value} {L k : Nat} (h : ZerosG B W v L k) : ∃ a cap, v = .slice a k cap := by
  obtain ⟨bs, hown, _⟩ := h
  exact owns_form hown
theorem TabG.form {B : Nat} {W : World} {v : Value} {L k : Nat} (h : TabG B W v L k) : ∃ a cap, v = .slice a k cap := by
  obtain ⟨_, _, _, hown, _⟩ := h
  exact owns_form hown
set_option maxRecDepth 100000 in
set_option maxHeartbeats 16000000 in
theorem rTable_any (w : World) (g : Gr) (lv tv : Value) (hg : GIn w g lv tv) (hL : g.toks.length ≤ 900) :
    Calls Tryz.prog 74 #[lv, tv] w fun e w' => ∃ v' d, e = .returned v' ∧ TabAt w.heap.size w' v' g.toks.length d ∧ Filled g g.toks.length (g.toks.length + 1) 0 1 d ∧ Below w.heap.size w w' := by
  obtain ⟨i0, hi, hz0, hz1, hz2⟩ := info_parts info_ints
  obtain ⟨j0, hj, hy0, hy1, hy2⟩ := info_parts info_intss
  obtain ⟨ta, tcap, rfl, _⟩ := id hg.t
  obtain ⟨L, hLL⟩ : ∃ L, L = g.toks.length := ⟨_, rfl⟩
  rw [← hLL] at hg hL ⊢
  have HG := Lib.hid hg
  have HLL := Lib.hid hLL
  obtain ⟨M, hM⟩ : ∃ M, M = L + 1 := ⟨_, rfl⟩
  have hmk : ∀ W : World, (Instr.makeSlice 96 (.int .i64 (M : Int)) (.int .i64 (M : Int))).run Tryz.prog W = .ok (.slice (some ⟨W.heap.size, 0, none⟩) M M) (W.alloc (.cells (madeCells #[.int .i64 0] M) 3)) :=
    fun W => run_make_row' 96 3 (.int .i64 0) 8 Tryz.underlying96 (by kernel_rfl) rfl .i64 .i64 M (by omega) (by omega) W
  have y0 : IntKind.i64.wrap ((L : Int) + 1) = (M : Int) := by rw [show (L : Int) + 1 = (M : Int) by omega]; exact IntWalk.i64_in _ (by omega)
  have HM := Lib.hid hM
  have hMle : M ≤ 901 := by omega
  clear hg hLL hM
  go_enter Tryz.func74, Tryz.ntmps74
  go_wp2
  go_loopw [5, 6] (fun ov kv wr => ∃ k : Nat, k ≤ 8 ∧ kv = .int .i64 k ∧ TabG w.heap.size wr ov L k ∧ Below w.heap.size w wr) (fun _ kv _ => 8 - (intOf kv).toNat)
  case atStart => exact ⟨0, Nat.zero_le _, rfl, TabG.nil _ _ _, Below.refl _ _⟩
  case round =>
    obtain ⟨k, hk, rfl, htg, hbr⟩ := hrel
    obtain ⟨oa, oc, rfl⟩ := htg.form
    have HTg := Lib.hid htg
    have HBr := Lib.hid hbr
    clear htg hbr
    by_cases hlt : k < 8
    · have hdk : decide ((k : Int) < 8) = true := decide_eq_true (by omega)
      go_wp2
      obtain ⟨wo, hwo⟩ : ∃ wo : World, wo = wr := ⟨_, rfl⟩
      rw [← hwo] at HBr HTg ⊢
      clear hwo
      go_loopw [7, 8] (fun rv fv wr => ∃ f : Nat, f ≤ M ∧ fv = .int .i64 f ∧ ZerosG wo.heap.size wr rv L f ∧ Below wo.heap.size wo wr) (fun _ fv _ => M - (intOf fv).toNat)
      case atStart => exact ⟨0, Nat.zero_le _, rfl, ZerosG.nil _ _ _, Below.refl _ _⟩
      case round =>
        obtain ⟨f, hf, rfl, hzg, hbi⟩ := hrel
        obtain ⟨ra, rcp, rfl⟩ := hzg.form
        obtain ⟨bs, hown, hz, hinc⟩ := id hzg
        have HZg := Lib.hid hzg
        have HOw := Lib.hid hown
        have HZz := Lib.hid (And.intro hz hinc)
        have HBi := Lib.hid hbi
        clear hzg hown hz hinc hbi
        by_cases hfl : f < M
        · have hdf : decide ((f : Int) ≤ (L : Int)) = true := decide_eq_true (by have := HM.out; omega)
          have hdf2 : decide (f ≤ L) = true := decide_eq_true (by have := HM.out; omega)
          have y1 : IntKind.i64.wrap ((f : Int) + 1) = ((f + 1 : Nat) : Int) := by rw [show (f : Int) + 1 = ((f + 1 : Nat) : Int) by omega]; exact IntWalk.i64_in _ (by omega)
          go_wp2_with (first
            | (at_builtin; refine wpList_append_lies _ rfl (.tmp 22) (.tmp 27) 150 rfl wo.heap.size 96 i0 (.slice none 0 0) 1 24 Tryz.underlying150 hi hz0 hz1 hz2 rfl (by decide) (.slice ra f rcp) f ((List.range f).map fun j => numV L (bs j)) rfl ((HOw.out.alloc _).alloc _) ⟨wr.heap.size + 1, 0, none⟩ 1 1 [.slice (some ⟨wr.heap.size, 0, none⟩) M M] rfl rfl (news_at (cs := #[.slice (some ⟨wr.heap.size, 0, none⟩) M M]) (t := 96) (fr := (0, 0)) (heap_atC (by simp))) (by simp [Value.oneCell']) (by decide) (by unfold maxLen; omega) (by omega) (by have := HBi.out.size; simp; omega) _ rfl ?_; intro g6 c6 w6 ho6 hg6 hat6 hlt6; have HO6 := Lib.hid ho6; have HG6 := Lib.hid hg6; clear ho6 hg6 hat6 hlt6)
            | fail)
          have hMv : (Value.slice (some ⟨wr.heap.size, 0, none⟩) M M) = numV L wr.heap.size := by rw [HM.out]; rfl
          have hz6 := ZerosG.step (o := .cells #[.slice (some ⟨wr.heap.size, 0, none⟩) M M] 96) HOw.out HZz.out.1 HZz.out.2 HBi.out.size rfl (by rw [← hMv]; exact HO6.out) (by rw [← HM.out]; exact HG6.out)
          have hb6 : Below wo.heap.size wo w6 := ((HBi.out.alloc HBi.out.size _).alloc (Nat.le_trans HBi.out.size (by simp)) _).grown HG6.out (Nat.le_trans HBi.out.size (by simp; omega)) (fun c hc => (World.ownsRow.lt HOw.out c hc).1)
          have HZ6 := Lib.hid hz6
          have HB6 := Lib.hid hb6
          clear hMv hz6 hb6
          go_roundw
          case rel => exact ⟨f + 1, by omega, by go_num, HZ6.out, HB6.out⟩
          case measure => simp [intOf]; omega
        · have hdf : decide ((M : Int) ≤ (L : Int)) = false := decide_eq_false (by have := HM.out; omega)
          have hdf2 : decide (M ≤ L) = false := decide_eq_false (by have := HM.out; omega)
          have hfM : f = M := by omega
          rw [hfM] at HZg HOw ⊢
          obtain ⟨rb, rc, cb, hown2, t2, t3, t4⟩ := id HTg.out
          have HOw2 := Lib.hid hown2
          have HTt := Lib.hid (And.intro t2 (And.intro t3 t4))
          clear hown2 t2 t3 t4
          have y1 : IntKind.i64.wrap ((k : Int) + 1) = ((k + 1 : Nat) : Int) := by rw [show (k : Int) + 1 = ((k + 1 : Nat) : Int) by omega]; exact IntWalk.i64_in _ (by omega)
          have hne : ∃ rb', ra = some ⟨rb', 0, none⟩ := by
            rcases HOw.out.2 with ⟨_, h0⟩ | ⟨g', cap', cur', e, _⟩
            · have := HM.out; omega
            · injection e with e _ _
              exact ⟨g', e⟩
          obtain ⟨rb', rfl⟩ := hne
          clear hfM hfl
          go_wp2_with (first
            | (at_builtin; (refine wpList_append_lies _ rfl (.tmp 29) (.tmp 31) 112 rfl w.heap.size 150 j0 (.slice none 0 0) 1 24 Tryz.underlying112 hj hy0 hy1 hy2 rfl (by decide) (.slice oa k oc) k _ rfl (ownsRow_below HOw2.out (HBi.out.alloc HBi.out.size _)) ⟨wr.heap.size, 0, none⟩ 1 1 [.slice (some ⟨rb', 0, none⟩) M rcp] rfl rfl (news_at (cs := #[.slice (some ⟨rb', 0, none⟩) M rcp]) (t := 150) (fr := (0, 0)) (World.alloc_heap_new _ _)) (by simp [Value.oneCell']) (by decide) (by unfold maxLen; omega) (by omega) (by have := HBi.out.size; have := HBr.out.size; simp; omega) _ rfl ?_); intro g6 c6 w6 ho6 hg6 hat6 hlt6; have HO6 := Lib.hid ho6; have HG6 := Lib.hid hg6; clear ho6 hg6 hat6 hlt6)
            | fail)
          have hz6 := TabG.step (vr := .slice (some ⟨rb', 0, none⟩) M rcp) (rb' := rb') (rc' := rcp) HOw2.out HTt.out.1 HTt.out.2.1 HTt.out.2.2 HBr.out.size HBi.out (by rw [← HM.out]; exact HZg.out) (by rw [HM.out]) HO6.out HG6.out
          have hb6 : Below w.heap.size w w6 := ((HBr.out.trans (HBi.out.mono HBr.out.size)).alloc (Nat.le_trans HBr.out.size HBi.out.size) _).grown HG6.out (by have := HBi.out.size; have := HBr.out.size; simp; omega) (fun c hc => (World.ownsRow.lt HOw2.out c hc).1)
          have HZ6 := Lib.hid hz6
          have HB6 := Lib.hid hb6
          clear hz6 hb6
          go_roundw
          case rel => exact ⟨k + 1, by omega, by go_num, HZ6.out, HB6.out⟩
          case measure => simp [intOf]; omega
    · have hdk : decide ((k : Int) < 8) = false := decide_eq_false (by omega)
      obtain rfl : k = 8 := by omega
      have htab := HTg.out.tab
      have HTab := Lib.hid htab
      clear htab HTg hlt hdk hk
      obtain ⟨ov, hov⟩ : ∃ ov, ov = Value.slice oa 8 oc := ⟨_, rfl⟩
      rw [← hov] at HTab ⊢
      clear hov
      go_wp2
      obtain ⟨wa, hwa⟩ : ∃ wa : World, wa = wr := ⟨_, rfl⟩
      rw [← hwa] at HBr HTab ⊢
      clear hwa
      go_loopw [9] (fun nv wr => ∃ (n : Nat) (d : Nat → Nat → Nat → Nat), 1 ≤ n ∧ n ≤ M ∧ nv = .int .i64 n ∧ TabAt w.heap.size wr ov L d ∧ Filled g L n 0 1 d ∧ Below w.heap.size w wr) (fun nv _ => M + 1 - (intOf nv).toNat)
      case atStart => exact ⟨1, _, Nat.le_refl _, by have := HM.out; omega, rfl, HTab.out, Filled.start _ _, HBr.out⟩
      case round =>
        obtain ⟨n, d, hn1, hnM, rfl, htn, hfn, hbn⟩ := hrel
        have HTn := Lib.hid htn
        have HFn := Lib.hid hfn
        have HBn := Lib.hid hbn
        clear htn hfn hbn
        by_cases hnl : n ≤ L
        · have hdn : decide ((n : Int) ≤ (L : Int)) = true := decide_eq_true (by omega)
          have hdn2 : decide (n ≤ L) = true := decide_eq_true hnl
          have yn : IntKind.i64.wrap ((n : Int) + 1) = ((n + 1 : Nat) : Int) := by rw [show (n : Int) + 1 = ((n + 1 : Nat) : Int) by omega]; exact IntWalk.i64_in _ (by omega)
          go_wp2
          obtain ⟨wb, hwb⟩ : ∃ wb : World, wb = wr := ⟨_, rfl⟩
          rw [← hwb] at HTn HBn ⊢
          clear hwb
          go_loopw [10] (fun fv wr => ∃ (f : Nat) (d : Nat → Nat → Nat → Nat), f ≤ M ∧ fv = .int .i64 f ∧ f + n ≤ L + 1 ∧ TabAt w.heap.size wr ov L d ∧ Filled g L n f 1 d ∧ Below w.heap.size w wr) (fun fv _ => M + 1 - (intOf fv).toNat)
          case atStart => exact ⟨0, _, Nat.zero_le _, rfl, by omega, HTn.out, HFn.out, HBn.out⟩
          case round =>
            obtain ⟨f, d2, hfM, rfl, hfn, htf, hff, hbf⟩ := hrel
            have HTf := Lib.hid htf
            have HFf := Lib.hid hff
            have HBf := Lib.hid hbf
            clear htf hff hbf
            have ys : IntKind.i64.wrap ((f : Int) + (n : Int)) = ((f + n : Nat) : Int) := by rw [show (f : Int) + (n : Int) = ((f + n : Nat) : Int) by omega]; exact IntWalk.i64_in _ (by omega)
            have yf : IntKind.i64.wrap ((f : Int) + 1) = ((f + 1 : Nat) : Int) := by rw [show (f : Int) + 1 = ((f + 1 : Nat) : Int) by omega]; exact IntWalk.i64_in _ (by omega)
            by_cases hfl : f + n ≤ L
            · have hdf : decide (((f + n : Nat) : Int) ≤ (L : Int)) = true := decide_eq_true (by omega)
              have hdf2 : decide (f + n ≤ L) = true := decide_eq_true hfl
              obtain ⟨S, hS⟩ : ∃ S, S = f + n := ⟨_, rfl⟩
              rw [← hS] at ys hdf hdf2
              have HS := Lib.hid hS
              clear hS
              go_wp2
              obtain ⟨wc, hwc⟩ : ∃ wc : World, wc = wr := ⟨_, rfl⟩
              rw [← hwc] at HTf HBf ⊢
              clear hwc
              go_loopw [11] (fun kv wr => ∃ (k : Nat) (d : Nat → Nat → Nat → Nat), 1 ≤ k ∧ k ≤ 8 ∧ kv = .int .i64 k ∧ TabAt w.heap.size wr ov L d ∧ Filled g L n f k d ∧ Below w.heap.size w wr) (fun kv _ => 8 - (intOf kv).toNat)
              case atStart => exact ⟨1, _, Nat.le_refl _, by decide, rfl, HTf.out, HFf.out, HBf.out⟩
              case round =>
                obtain ⟨k, d3, hk1, hk8, rfl, htk, hfk, hbk⟩ := hrel
                have HTk := Lib.hid htk
                have HFk := Lib.hid hfk
                have HBk := Lib.hid hbk
                by_cases hkl : k < 8
                · have hdk : decide ((k : Int) < 8) = true := decide_eq_true (by omega)
                  have yk : IntKind.i64.wrap ((k : Int) + 1) = ((k + 1 : Nat) : Int) := by rw [show (k : Int) + 1 = ((k + 1 : Nat) : Int) by omega]; exact IntWalk.i64_in _ (by omega)
                  obtain ⟨gb, cap, rb, rc, cb, hov, x1, x2, x3, x4⟩ := id htk
                  have c1 := x1 k hkl
                  have c2 := x2 k f hkl (by omega)
                  have c3 := (x3 k f hkl (by omega)).2
                  have hbase := (x3 k f hkl (by omega)).1
                  obtain ⟨rk, hrk⟩ : ∃ rk, rk = rb k := ⟨_, rfl⟩
                  obtain ⟨rl, hrl⟩ : ∃ rl, rl = rc k := ⟨_, rfl⟩
                  obtain ⟨ck, hck⟩ : ∃ ck, ck = cb k f := ⟨_, rfl⟩
                  rw [← hrk, ← hrl] at c1
                  rw [← hrk, ← hck] at c2
                  rw [← hck] at c3 hbase
                  have hcl := HM.out
                  rw [← hcl] at c1 c2 c3
                  subst hov
                  have b1 : (0 : Int) ≤ (k : Int) := by omega
                  have b2 : (k : Int) < 8 := by omega
                  have b3 : (0 : Int) ≤ (f : Int) := by omega
                  have b4 : (f : Int) < (M : Int) := by omega
                  have b5 : (0 : Int) ≤ (n : Int) := by omega
                  have b6 : (n : Int) < (M : Int) := by omega
                  have CS : Hid (∀ W, Below wr.heap.size wr W → Calls Tryz.prog 111 #[lv, .slice ta L tcap, .agg #[.int .i64 k, .int .i64 f, .int .i64 S]] W fun r W' => ∃ sv, r = .returned sv ∧ StepsI W' sv (stepsS g k f S) ∧ Below wr.heap.size wr W') :=
                    Lib.hid (fun W hW => (rSteps_any W g lv _ (HG.out.below (HBk.out.trans (hW.mono HBk.out.size))) k f S hk1 (by omega) (by have := HS.out; have := HLL.out; omega) (by omega)).mono fun r W' ⟨v', h1, h2, h3⟩ => ⟨v', h1, h2.view, hW.trans (h3.mono hW.size)⟩)
                  have hsl : (stepsS g k f S).length ≤ 10000 := by
                    have := steps_len g k f S (N := 1000) (fun tok => Nat.le_trans (look100 HG.out tok) (by decide)) (by decide) (by have := HS.out; omega)
                    omega
                  have hft : timesS (cOf d3) (stepsS g k f S) = cntS g k f S := by
                    rw [HS.out]
                    exact (HLL.out ▸ HFk.out).times hk1 (by omega) (by have := HLL.out; omega)
                  have hfo : ∀ s ∈ stepsS g k f S, s.parts.length ≤ 2 ∧ ∀ p ∈ s.parts, p.1 < 8 ∧ p.2.1 ≤ L ∧ p.2.2 ≤ L := fun s hs => by
                    have h1 := steps_ok g k f S s hs
                    refine ⟨h1.1, fun p hp => ?_⟩
                    obtain ⟨a1, a2, a3, a4, a5, a6⟩ := h1.2.2 p hp
                    have := HS.out
                    omega
                  obtain ⟨X, hX⟩ : ∃ X, X = cntS g k f S := ⟨_, rfl⟩
                  have CT : Hid (∀ W sv, Below wr.heap.size wr W → StepsI W sv (stepsS g k f S) → Calls Tryz.prog 112 #[.slice (some ⟨gb, 0, none⟩) 8 cap, sv] W fun r W' => r = .returned (.int .i64 X) ∧ Below wr.heap.size wr W') :=
                    Lib.hid (fun W sv hW hS => (rTimes_any W w.heap.size L _ d3 (HTk.out.below hW) (fun a b c => HFk.out.1 a b (c - b)) (by omega) sv (stepsS g k f S) hS hsl hfo).mono fun r W' ⟨h1, h2⟩ => ⟨by rw [h1, hft, hX], hW.trans (h2.mono hW.size)⟩)
                  have HX := Lib.hid (show X = cntS g k f (f + n) by rw [hX, HS.out])
                  have hc3 := c3.cell (i := n) (by omega)
                  have hf3 := c3.frozen n
                  have HNe := Lib.hid (And.intro (row_ne c3 c1) (row_ne c3 c2))
                  have HC := Lib.hid (And.intro c1 (And.intro c2 (And.intro hc3 (And.intro hf3 hbase))))
                  have hdr : Below wr.heap.size wr wr.drew := (Below.refl _ _).drew
                  have hckl : ck < wr.heap.size := c3.lt
                  have HCkl := Lib.hid hckl
                  clear hsl hft hfo hX x1 x2 x3 x4 hrk hrl hck hcl c3 hc3 hf3 hbase htk hfk hbk hckl
                  go_wp2_with fail
                  go_region_held3 (fun w' => w'.cell? ⟨gb, k, none⟩ = some (.slice (some ⟨rk, 0, none⟩) M rl) ∧ w'.cell? ⟨rk, f, none⟩ = some (.slice (some ⟨ck, 0, none⟩) M M))
                    (first | go_keep | exact ⟨cell_kept' (by assumption) HC.out.1, cell_kept' (by assumption) HC.out.2.1⟩ | exact ⟨set_kept (cell_kept' (by assumption) HC.out.1) HNe.out.1, set_kept (cell_kept' (by assumption) HC.out.2.1) HNe.out.2⟩)
                    (first
                      | (go_at_call 111; refine (CS.out _ (by assumption)).mono ?_; rintro r W1 ⟨sv, rfl, hsv, hW1⟩)
                      | (go_at_call 112; refine (CT.out _ _ (by assumption) (by assumption)).mono ?_; rintro r W2 ⟨rfl, hW2⟩; have z1 := cell_kept' hW2 HC.out.2.2.1; have z2 : W2.frozen? ⟨ck, n, none⟩ = false := (World.frozen?_of_block (a := ⟨ck, n, none⟩) (hW2.block ck HCkl.out)).trans HC.out.2.2.2.1))
                  have hset := TabAt.set (HTk.out.below hW2) (k := k) (f := f) (n := n) (x := X) hkl (by omega) rfl (HM.out ▸ cell_kept' hW2 HC.out.1) (HM.out ▸ cell_kept' hW2 HC.out.2.1)
                  have hb9 : Below w.heap.size w (W2.setCell ⟨ck, n, none⟩ (.int .i64 X)) := (HBk.out.trans (hW2.mono HBk.out.size)).setCell HC.out.2.2.2.2 _
                  obtain ⟨W9, hW9⟩ : ∃ W9, W9 = W2.setCell ⟨ck, n, none⟩ (.int .i64 X) := ⟨_, rfl⟩
                  rw [← hW9] at hset hb9 ⊢
                  have HSet := Lib.hid hset
                  have HB9 := Lib.hid hb9
                  clear hset hb9 hW9 z1 z2 hW1 hW2 hsv
                  go_wp2
                  go_roundw
                  case rel => first | exact ⟨k + 1, _, by omega, by omega, by go_num, HSet.out, HFk.out.next HX.out, HB9.out⟩ | ((repeat apply Exists.intro); exact ⟨⟨k + 1, _, by omega, by omega, by go_num, HSet.out, HFk.out.next HX.out, HB9.out⟩, rfl⟩)
                  case measure => simp [intOf]; omega
                · have hdk : decide ((k : Int) < 8) = false := decide_eq_false (by omega)
                  obtain rfl : k = 8 := by omega
                  have HFr := Lib.hid HFk.out.row
                  clear htk hfk hbk
                  go_wp2
                  go_roundw
                  case rel => exact ⟨f + 1, _, by have := HM.out; have := HS.out; omega, by go_num, by have := HS.out; omega, HTk.out, HFr.out, HBk.out⟩
                  case measure => simp [intOf]; omega
            · have hdf : decide (((f + n : Nat) : Int) ≤ (L : Int)) = false := decide_eq_false (by omega)
              have hdf2 : decide (f + n ≤ L) = false := decide_eq_false hfl
              have HFl := Lib.hid (HFf.out.len (by omega))
              obtain ⟨S, hS⟩ : ∃ S, S = f + n := ⟨_, rfl⟩
              rw [← hS] at ys hdf hdf2
              clear hS
              go_wp2
              go_roundw
              case rel => exact ⟨n + 1, _, by omega, by have := HM.out; omega, by go_num, HTf.out, HFl.out, HBf.out⟩
              case measure => simp [intOf]; omega
        · have hdn : decide ((n : Int) ≤ (L : Int)) = false := decide_eq_false (by omega)
          have hdn2 : decide (n ≤ L) = false := decide_eq_false hnl
          have hnL : n = L + 1 := by have := HM.out; omega
          have HF9 := Lib.hid (show Filled g L (L + 1) 0 1 d by rw [← hnL]; exact HFn.out)
          clear hnL
          go_wp2
          go_ret
          exact ⟨_, d, rfl, HTn.out, HF9.out, HBn.out⟩
end Go.Proofs.YthmnffgjckpkiaaGreatDoor
