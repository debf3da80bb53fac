/-
  The contract of Trees of the reference of chapter 34.
-/
import Derived.Test.YthmnffgjckpkiaaGreatDoorSF
import Derived.Test.YthmnffgjckpkiaaGreatDoorSE
import Derived.Deep.CutRange
import Derived.Test.YthmnffgjckpkiaaGreatDoorGEngI
namespace Go.Proofs.YthmnffgjckpkiaaGreatDoor
open Go Go.RowKit Go.Shelf

/-- A table that tells the counts. -/
structure TabC (B : Nat) (w : World) (v : Value) (g : Gr) (d : Nat → Nat → Nat → Nat) : Prop where
  tab : TabAt B w v g.toks.length d
  fill : Filled g g.toks.length (g.toks.length + 1) 0 1 d
theorem TabC.below {B : Nat} {w w' : World} {v : Value} {g : Gr} {d : Nat → Nat → Nat → Nat} (h : TabC B w v g d) (hb : Below w.heap.size w w') : TabC B w' v g d := ⟨h.tab.below hb, h.fill⟩
theorem step_one {g : Gr} {d : Nat → Nat → Nat → Nat} (h : Filled g g.toks.length (g.toks.length + 1) 0 1 d) {k f t : Nat} (ht : t ≤ g.toks.length) {s : StepS} (hs : s ∈ stepsS g k f t) : timesS (cOf d) [s] = prodS (cntS g) s.parts := by
  rw [timesS_one]
  refine prodS_congr _ (fun p hp => ?_)
  obtain ⟨a1, a2, a3, a4, a5, a6⟩ := (steps_ok g k f t s hs).2.2 p hp
  exact h.num a1 a2 (by omega) (by omega)
theorem StepsR.lenle {B : Nat} {W : World} {a : Option Addr} {n c : Nat} {ss : List StepS} (h : StepsR B W (.slice a n c) ss) : n = ss.length ∧ n ≤ c := by
  obtain ⟨qs, h1, hown, _⟩ := h
  rcases hown.2 with ⟨he, h0⟩ | ⟨g, cap, cur, he, _, _, hc, _⟩
  · injection he with _ e1 e2
    subst e1 e2
    exact ⟨h0.symm, Nat.le_refl _⟩
  · injection he with _ e1 e2
    subst e1 e2
    exact ⟨rfl, hc⟩
/-- A row as it was in a world, later. -/
theorem TreesQ.old {C B : Nat} {W W' : World} {v : Value} {ts : List Tr} (h : TreesQ C B W v ts) (hb : Below W.heap.size W W') :
    ∃ qs : List TV, qs.length = ts.length ∧ RowT B W' v qs ∧ ∀ j (h : j < qs.length) (h2 : j < ts.length), TreeV (fun b => C ≤ b ∧ b < W.heap.size) W' qs[j].val ts[j] ∧ (qs[j].a = none → qs[j].n = 0 ∧ qs[j].c = 0) := by
  obtain ⟨qs, h1, h2, h3⟩ := h
  exact ⟨qs, h1, h2.below hb, fun j a b => ⟨treeV_below (treeV_weak (h3 j a b).1 (fun _ hl h => ⟨h.1, hl⟩)) hb, (h3 j a b).2⟩⟩
/-- The trees of a step that the lists of parts so far make. -/
def partT (s : StepS) (T : Nat → Nat → Nat → List Tr) (j : Nat) : List Tr := (subsTo T s.parts j).map (Tr.node s.rule s.entry s.word)

theorem wpIn_append_trees {F : Fence} {n : Nat} {o : Oper} {a : Act} {w : World} {K : Act → World → Prop} {Q : Exit → Act → World → Prop} (_hfw : ∀ f, F.fn f) (s x : Operand)
    (ho : o.op = .call { callee := .builtin .append, args := #[s, x], argTypes := #[29, 29] })
    (base : Nat) {v : Value} {p : List TV} (hs : a.eval s = v) (hown : RowT base w v p) {vx : Value} {q : List TV} (hvx : a.eval x = vx) (hx : NewsT w vx q) (hn : p.length + q.length ≤ 1000000) (hbase : base ≤ w.heap.size)
    (h : ∀ v' w', RowT base w' v' (p ++ q) → w.grownBy w' v.ownBlock → (v'.ownBlock = v.ownBlock ∨ v'.ownBlock = some w.heap.size) → K (a.put o.dst v') w') : o.wpIn F n Tryz.prog a w K Q := by
  obtain ⟨v', w', hr, h2, h3, h4⟩ := run_append_trees w o.type base v p hown vx q hx hn hbase
  unfold Oper.wpIn
  refine ⟨?_, ?_⟩
  · simp [Oper.about, ho, resolve, Target.leads, Sem.run_pure]
  · rw [Oper.semAt_plain F _ _ (by rw [ho]; intro c hc'; cases hc')]
    simp [execOp, ho, resolve, invoke, builtin, hs, hvx, hr, Result.andThen]
    exact h v' w' h2 h3 h4
set_option maxRecDepth 100000 in
set_option maxHeartbeats 32000000 in
theorem rTrees_any (g : Gr) (lv tv tabv : Value) (B0 : Nat) (d : Nat → Nat → Nat → Nat) : ∀ (N k f t : Nat), t - f ≤ N → 1 ≤ k → k ≤ 7 → t ≤ g.toks.length → f ≤ g.toks.length → g.toks.length ≤ 900 → cntS g k f t ≤ 64 → ∀ w : World, GIn w g lv tv → TabC B0 w tabv g d →
    Calls Tryz.prog 73 #[lv, tv, tabv, .agg #[.int .i64 k, .int .i64 f, .int .i64 t]] w fun e w' => ∃ v', e = .returned v' ∧ TreesR w.heap.size w' v' (treesS g k f t) ∧ Below w.heap.size w w' := by
  intro N
  induction N using Nat.strongRecOn with
  | ind N ih =>
    intro k f t hd h1 h7 ht hf hL hc w hg htc
    have HIh := Lib.hid ih
    have HG := Lib.hid hg
    have HTc := Lib.hid htc
    have hst := fun (W : World) (hb : Below w.heap.size w W) => rSteps_any W g lv tv (hg.below hb) k f t h1 h7 ht (by omega)
    have HSt := Lib.hid hst
    have htr := trees_steps g h1 h7 ht (f := f)
    have HTr := Lib.hid htr
    have hlen := sub_trees_len hc
    rw [htr] at hlen
    have HLen := Lib.hid hlen
    have hok := steps_ok g k f t
    have hone := fun (s : StepS) hs => step_one htc.fill ht (k := k) (f := f) (s := s) hs
    have hsmall := fun (s : StepS) hs h0 => part_small h1 h7 ht hc (s := s) hs h0
    have hsl : (stepsS g k f t).length ≤ 10000 := by
      have := steps_len g k f t (N := 1000) (fun tok => Nat.le_trans (look100 hg tok) (by decide)) (by decide) (by omega)
      omega
    obtain ⟨ss, hss⟩ : ∃ ss, ss = stepsS g k f t := ⟨_, rfl⟩
    rw [← hss] at HSt HTr HLen hok hone hsmall hsl
    have HOk := Lib.hid hok
    have HOne := Lib.hid hone
    have HSm := Lib.hid hsmall
    have HBd := Lib.hid (And.intro hd (And.intro ht (And.intro hf hL)))
    clear ih hst htr hlen hok hone hsmall hss hg htc hd h1 h7 ht hf hL hc
    go_enter Tryz.func73, Tryz.ntmps73
    go_upto_region 2 with (fail)
    obtain ⟨W1, hW1⟩ : ∃ W1, W1 = w.alloc (.cells #[.int .i64 k, .int .i64 f, .int .i64 t] 115) := ⟨_, rfl⟩
    have hb : Below w.heap.size w W1 := by rw [hW1]; exact (Below.refl _ _).alloc (Nat.le_refl _) _
    have htb : W1.heap[w.heap.size]? = some (.cells #[.int .i64 k, .int .i64 f, .int .i64 t] 115 (0, 0)) := by rw [hW1]; exact heap_atC rfl
    rw [← hW1]
    obtain ⟨T, hT⟩ : ∃ T, T = w.heap.size := ⟨_, rfl⟩
    rw [← hT] at htb ⊢
    have c0 : W1.cell? ⟨T, 0, none⟩ = some (.int .i64 k) := (cell_rowC htb 0).trans rfl
    have c1 : W1.cell? ⟨T, 1, none⟩ = some (.int .i64 f) := (cell_rowC htb 1).trans rfl
    have c2 : W1.cell? ⟨T, 2, none⟩ = some (.int .i64 t) := (cell_rowC htb 2).trans rfl
    have HB1 := Lib.hid hb
    clear hW1 hb htb hT
    go_wp2_with fail
    refine (HSt.out _ HB1.out).mono ?_
    rintro _ W2 ⟨sv, rfl, hsr, hb2⟩
    obtain ⟨sa, sc, rfl⟩ := hsr.form
    have HSr := Lib.hid hsr
    have HSle := Lib.hid hsr.lenle
    have HB2 := Lib.hid (HB1.out.trans (hb2.mono HB1.out.size))
    obtain ⟨n, hn⟩ : ∃ n, n = ss.length := ⟨_, rfl⟩
    rw [← hn] at HSr HSle hsl ⊢
    have HN := Lib.hid hn
    clear hsr hb2 hn c0 c1 c2 HSt HB1
    go_wp2
    go_loopw [9, 11] (fun ov iv wr => ∃ i : Nat, i ≤ n ∧ iv = .int .i64 i ∧ TreesR W2.heap.size wr ov (treesTo g ss i) ∧ Below W2.heap.size W2 wr) (fun _ iv _ => n - (intOf iv).toNat)
    case atStart => exact ⟨0, Nat.zero_le _, rfl, by rw [show treesTo g ss 0 = [] by simp [treesTo]]; exact TreesR.nil _ _ _, Below.refl _ _⟩
    case round =>
      obtain ⟨i, hi, rfl, htr, hbr⟩ := hrel
      obtain ⟨oa, oc, rfl⟩ := htr.form
      have HTi := Lib.hid htr
      have HBr := Lib.hid hbr
      have hol : (treesTo g ss i).length ≤ 64 := Nat.le_trans (treesTo_len g ss i) HLen.out
      obtain ⟨ol, holl⟩ : ∃ ol, ol = (treesTo g ss i).length := ⟨_, rfl⟩
      rw [← holl] at HTi hol ⊢
      have HOl := Lib.hid holl
      clear htr hbr holl
      by_cases hlt : i < n
      · have hdi : decide ((i : Int) < (n : Int)) = true := decide_eq_true (by omega)
        have hdin : decide (i < n) = true := decide_eq_true hlt
        have his : i < ss.length := by rw [← HN.out]; exact hlt
        have hview := (HSr.out.view).below HBr.out
        obtain ⟨sa', sc', hse, hsf⟩ := id hview
        obtain ⟨b, off, hsa, qs, hq⟩ := hsf.resolve_left (fun e => by rw [e] at his; simp at his)
        injection hse with hse e1 e2
        clear e1 e2
        rw [hsa] at hse
        subst hse
        obtain ⟨hqv, q0, q1, q2, q3⟩ := hq i his
        obtain ⟨q, hqq⟩ : ∃ q, q = qs i := ⟨_, rfl⟩
        rw [← hqq] at hqv q0 q1 q2 q3
        have hvone := hview.one his (sc - i)
        have hmem : ss[i] ∈ ss := List.getElem_mem his
        have hnx := treesTo_next g ss i his
        obtain ⟨s, hs⟩ : ∃ s, s = ss[i] := ⟨_, rfl⟩
        rw [← hs] at hqv hvone hmem hnx
        have b1 : (0 : Int) ≤ (i : Int) := by omega
        have b2 : (i : Int) < (n : Int) := by omega
        have y1 : IntKind.i64.wrap ((i : Int) + 1) = ((i + 1 : Nat) : Int) := by rw [show (i : Int) + 1 = ((i + 1 : Nat) : Int) by omega]; exact IntWalk.i64_in _ (by omega)
        obtain ⟨pa, pc, hpf⟩ := hqv.2.2.2.form
        obtain ⟨m, hm⟩ : ∃ m, m = s.parts.length := ⟨_, rfl⟩
        rw [hpf, ← hm] at q3
        have hsp := hqv.2.2.2
        rw [hpf, ← hm] at hsp
        have hq0 := hqv.1
        have hq1 := hqv.2.1
        have hq2 := hqv.2.2.1
        rw [hq0] at q0
        rw [hq1] at q1
        rw [hq2] at q2
        have HSp := Lib.hid hsp
        have HM := Lib.hid hm
        have HVone := Lib.hid hvone
        have HMem := Lib.hid hmem
        have HNx := Lib.hid hnx
        have b3 : (i : Int) ≤ ((i + 1 : Nat) : Int) := by omega
        have b4 : ((i + 1 : Nat) : Int) ≤ (sc : Int) := by have := HSle.out.2; omega
        have hm2 : m ≤ 2 := by rw [hm]; exact (HOk.out s hmem).1
        clear hview hsf hsa hq hqq hqv hvone hmem hnx hs his hpf hsp hq0 hq1 hq2 hm
        go_upto_region 7 with (fail)
        obtain ⟨X, hX⟩ : ∃ X, X = wr.heap.size := ⟨_, rfl⟩
        obtain ⟨W3, hW3⟩ : ∃ W3, W3 = wr.alloc (.cells #[.int .u8 s.rule, .int .i64 s.entry, .string ⟨s.word.toArray⟩, .slice pa m pc] 148) := ⟨_, rfl⟩
        have hb3 : Below wr.heap.size wr W3 := by rw [hW3]; exact (Below.refl _ _).alloc (Nat.le_refl _) _
        have hx3 : W3.heap[X]? = some (.cells #[.int .u8 s.rule, .int .i64 s.entry, .string ⟨s.word.toArray⟩, .slice pa m pc] 148 (0, 0)) := by rw [hW3, hX]; exact heap_atC rfl
        rw [← hW3, ← hX]
        have HX3 := Lib.hid hx3
        have HB3 := Lib.hid hb3
        have HX := Lib.hid hX
        obtain ⟨P, hP⟩ : ∃ P, P = prodS (cntS g) s.parts := ⟨_, rfl⟩
        have hrd := HBd.out
        have htimes := fun V (hV : Below w.heap.size w V) (hI : StepsI V (.slice (some ⟨b, off + i * 4, none⟩) 1 (sc - i)) [s]) => rTimes_any V B0 g.toks.length tabv d (HTc.out.tab.below hV) (fun a b c => HTc.out.fill.1 a b (c - b)) (by omega) _ [s] hI (by simp) (fun x hx => by
          obtain rfl := List.mem_singleton.1 hx
          have h1 := HOk.out x HMem.out
          refine ⟨h1.1, fun p hp => ?_⟩
          obtain ⟨a1, a2, a3, a4, a5, a6⟩ := h1.2.2 p hp
          omega)
        rw [HOne.out s HMem.out, ← hP] at htimes
        have HTm := Lib.hid htimes
        have HP := Lib.hid hP
        have HBw3 := Lib.hid ((HB2.out.trans (HBr.out.mono HB2.out.size)).trans (hb3.mono (Nat.le_trans HB2.out.size HBr.out.size)))
        clear hX hW3 hb3 hx3 hP htimes q0 q1 q2 q3 hrd
        go_wp2_with fail
        refine (HTm.out _ HBw3.out (HVone.out.below HB3.out)).mono ?_
        rintro _ W4 ⟨rfl, hb4⟩
        have HB4 := Lib.hid hb4
        have HBw4 := Lib.hid (HBw3.out.trans (hb4.mono HBw3.out.size))
        have hx4 := (hb4.block X (Array.getElem?_eq_some_iff.1 HX3.out).1).trans HX3.out
        have HX4 := Lib.hid hx4
        have HBr4 := Lib.hid (HB3.out.trans (hb4.mono HB3.out.size))
        clear hb4 HTm
        by_cases hP0 : P = 0
        · have e1 : ((P : Int) == 0) = true := by rw [hP0]; rfl
          have hz : stepTrees g s = [] := by unfold stepTrees; rw [if_pos (HP.out ▸ hP0)]
          have hn2 : treesTo g ss (i + 1) = treesTo g ss i := by rw [HNx.out, hz, List.append_nil]
          have HN2 := Lib.hid hn2
          clear hP0 hz hn2 hx4
          go_wp2
          go_roundw
          case rel => exact ⟨i + 1, by omega, by go_num, by rw [HN2.out]; exact HOl.out ▸ HTi.out.below HBr4.out, HBr.out.trans (HBr4.out.mono HBr.out.size)⟩
          case measure => simp [intOf]; omega
        · have e1 : ((P : Int) == 0) = false := by simp; exact hP0
          have hz : stepTrees g s = partT s (treesS g) m := by
            unfold stepTrees partT
            rw [if_neg (HP.out ▸ hP0), HM.out, subsTo_all]
          have HZ := Lib.hid hz
          have hs64 := HSm.out s HMem.out (HP.out ▸ hP0)
          have HS64 := Lib.hid hs64.2
          have x0 : W4.cell? ⟨X, 0, none⟩ = some (.int .u8 s.rule) := (cell_rowC hx4 0).trans rfl
          have x1 : W4.cell? ⟨X, 1, none⟩ = some (.int .i64 s.entry) := (cell_rowC hx4 1).trans rfl
          have x2 : W4.cell? ⟨X, 2, none⟩ = some (.string ⟨s.word.toArray⟩) := (cell_rowC hx4 2).trans rfl
          clear hP0 hz hs64 hx4
          go_upto_region 9 with (fail)
          obtain ⟨W5, hW5⟩ : ∃ W5, W5 = W4.alloc (.cells #[.int .u8 s.rule, .int .i64 s.entry, .string ⟨s.word.toArray⟩, .slice none 0 0] 39) := ⟨_, rfl⟩
          have hb5 : Below W4.heap.size W4 W5 := by rw [hW5]; exact (Below.refl _ _).alloc (Nat.le_refl _) _
          have hp5 : TreesR W4.heap.size W5 (.slice (some ⟨W4.heap.size, 0, none⟩) 1 1) (partT s (treesS g) 0) := by
            have hpt : partT s (treesS g) 0 = [.node s.rule s.entry s.word []] := rfl
            rw [hpt]
            refine ⟨[⟨s.rule, s.entry, ⟨s.word.toArray⟩, none, 0, 0⟩], rfl, RowT.new (Nat.le_refl _) (by rw [hW5]; exact World.alloc_heap_new _ _), fun j h1 h2 => ?_⟩
            obtain rfl : j = 0 := by simp at h1; omega
            exact ⟨.mk _ _ _ [] none 0 (fun _ => .agg #[]) (.inl rfl) (fun j hj => by simp at hj), fun _ => ⟨rfl, rfl⟩⟩
          rw [← hW5]
          have HP5 := Lib.hid hp5
          have HB5 := Lib.hid hb5
          obtain ⟨S4, hS4⟩ : ∃ S4, S4 = W4.heap.size := ⟨_, rfl⟩
          rw [← hS4] at HP5 ⊢
          have HS4 := Lib.hid hS4
          clear hW5 hb5 hp5 hS4 x0 x1 x2
          go_wp2
          go_loopw [13, 14] (fun pv jv wr => ∃ j : Nat, j ≤ m ∧ jv = .int .i64 j ∧ TreesR S4 wr pv (partT s (treesS g) j) ∧ Below S4 W4 wr) (fun _ jv _ => m - (intOf jv).toNat)
          case atStart => exact ⟨0, Nat.zero_le _, rfl, HP5.out, by rw [HS4.out]; exact HB5.out⟩
          case round =>
            obtain ⟨j, hj, rfl, hpt, hbj⟩ := hrel
            have HPt := Lib.hid hpt
            have hbj' : Below W4.heap.size W4 wr := by rw [← HS4.out]; exact hbj
            have HBj := Lib.hid hbj'
            have hx := (hbj'.block X (Array.getElem?_eq_some_iff.1 HX4.out).1).trans HX4.out
            have x3 : wr.cell? ⟨X, 3, none⟩ = some (.slice pa m pc) := (cell_rowC hx 3).trans rfl
            obtain ⟨qa, qc, hqf⟩ := hpt.form
            clear hpt hbj hbj' hx
            by_cases hjl : j < m
            · have hdj : decide ((j : Int) < (m : Int)) = true := decide_eq_true (by omega)
              have hdjn : decide (j < m) = true := decide_eq_true hjl
              have hjp : j < s.parts.length := by rw [← HM.out]; exact hjl
              have yj : IntKind.i64.wrap ((j : Int) + 1) = ((j + 1 : Nat) : Int) := by rw [show (j : Int) + 1 = ((j + 1 : Nat) : Int) by omega]; exact IntWalk.i64_in _ (by omega)
              obtain ⟨sb, scap2, hse, g0, g1, g2⟩ := SpansAt.cells (HM.out ▸ HSp.out) hjp
              injection hse with hse e1 hse2
              clear e1
              subst hse hse2
              have hwj : Below wr.heap.size wr wr := Below.refl _ _
              have hbrj := HBr4.out.trans (HBj.out.mono HBr4.out.size)
              have k0 := cell_kept' hbrj g0
              have k1 := cell_kept' hbrj g1
              have k2 := cell_kept' hbrj g2
              have hp := (HOk.out s HMem.out).2.2 s.parts[j] (List.getElem_mem hjp)
              have hp64 := HS64.out s.parts[j] (List.getElem_mem hjp)
              have hnx := subsTo_next (treesS g) s.parts j hjp
              have hsl2 := subsTo_len (g := g) s.parts (HM.out ▸ hm2) HS64.out j (Nat.le_of_lt hjp)
              obtain ⟨p, hpp⟩ : ∃ p, p = s.parts[j] := ⟨_, rfl⟩
              rw [← hpp] at k0 k1 k2 hp hp64 hnx
              have hrd := HBd.out
              have hcall := HIh.out (p.2.2 - p.2.1) (by have := hp.2.2.2.2.2; omega) p.1 p.2.1 p.2.2 (Nat.le_refl _) hp.1 hp.2.1 (by have := hp.2.2.2.2.1; omega) (by have := hp.2.2.2.1; omega) hrd.2.2.2 hp64
              have hus := sub_trees_len hp64
              obtain ⟨us, hu⟩ : ∃ us, us = treesS g p.1 p.2.1 p.2.2 := ⟨_, rfl⟩
              obtain ⟨xs, hxs⟩ : ∃ xs, xs = subsTo (treesS g) s.parts j := ⟨_, rfl⟩
              rw [← hu] at hcall hus hnx
              rw [← hxs] at hnx hsl2
              have HCall := Lib.hid hcall
              have HNxj := Lib.hid hnx
              have HXs := Lib.hid hxs
              obtain ⟨p1, p2, p3⟩ := p
              simp only at k0 k1 k2 HCall
              have b5 : (0 : Int) ≤ (j : Int) := by omega
              have b6 : (j : Int) < (m : Int) := by omega
              have HBwj := Lib.hid (HBw4.out.trans (HBj.out.mono HBw4.out.size))
              clear g0 g1 g2 hwj hbrj hp hp64 hpp hrd hcall hu hnx hxs hjl
              subst hqf
              obtain ⟨al, hal⟩ : ∃ al, al = (partT s (treesS g) j).length := ⟨_, rfl⟩
              have halx : al = xs.length := by rw [hal, HXs.out]; simp [partT]
              rw [← hal] at HPt ⊢
              have HAl := Lib.hid halx
              rw [← halx] at hsl2
              clear hal halx
              go_wp2_with fail
              refine (HCall.out _ (HG.out.below HBwj.out) (HTc.out.below HBwj.out)).mono ?_
              rintro _ W7 ⟨uv, rfl, hut, hb7⟩
              obtain ⟨ua, uc, rfl⟩ := hut.form
              obtain ⟨ul, hul⟩ : ∃ ul, ul = us.length := ⟨_, rfl⟩
              rw [← hul] at hut hus ⊢
              have HUt := Lib.hid hut
              have HUl := Lib.hid hul
              have HB7 := Lib.hid hb7
              have HBj7 := Lib.hid (HBj.out.trans (hb7.mono HBj.out.size))
              have HPt7 := Lib.hid (HPt.out.below hb7)
              clear hut hul hb7 k0 k1 k2 x3 HCall
              go_wp2
              go_loopw [15, 17] (fun nv av wr => ∃ a : Nat, a ≤ al ∧ av = .int .i64 a ∧ TreesQ S4 W7.heap.size wr nv ((pairsTo xs us a 0).map (Tr.node s.rule s.entry s.word)) ∧ Below W7.heap.size W7 wr) (fun _ av _ => al - (intOf av).toNat)
              case atStart => exact ⟨0, Nat.zero_le _, rfl, by rw [pairsTo_start]; exact TreesR.nil _ _ _, Below.refl _ _⟩
              case round =>
                obtain ⟨a, ha, rfl, hnt, hba⟩ := hrel
                have HNt := Lib.hid hnt
                have HBa := Lib.hid hba
                clear hnt hba
                by_cases hal : a < al
                · have hda : decide ((a : Int) < (al : Int)) = true := decide_eq_true (by omega)
                  have hdan : decide (a < al) = true := decide_eq_true hal
                  have ya : IntKind.i64.wrap ((a : Int) + 1) = ((a + 1 : Nat) : Int) := by rw [show (a : Int) + 1 = ((a + 1 : Nat) : Int) by omega]; exact IntWalk.i64_in _ (by omega)
                  go_wp2
                  obtain ⟨wa, hwa⟩ : ∃ wa : World, wa = wr := ⟨_, rfl⟩
                  rw [← hwa] at HBa HNt ⊢
                  clear hwa
                  go_loopw [15, 18] (fun nv bv wr => ∃ b : Nat, b ≤ ul ∧ bv = .int .i64 b ∧ TreesQ S4 W7.heap.size wr nv ((pairsTo xs us a b).map (Tr.node s.rule s.entry s.word)) ∧ Below W7.heap.size W7 wr) (fun _ bv _ => ul - (intOf bv).toNat)
                  case atStart => exact ⟨0, Nat.zero_le _, rfl, HNt.out, HBa.out⟩
                  case round =>
                    obtain ⟨bi, hbl, rfl, hnt, hbb⟩ := hrel
                    have HNb := Lib.hid hnt
                    have HBb := Lib.hid hbb
                    by_cases hbul : bi < ul
                    · have hdb : decide ((bi : Int) < (ul : Int)) = true := decide_eq_true (by omega)
                      have hdbn : decide (bi < ul) = true := decide_eq_true hbul
                      have yb : IntKind.i64.wrap ((bi : Int) + 1) = ((bi + 1 : Nat) : Int) := by rw [show (bi : Int) + 1 = ((bi + 1 : Nat) : Int) by omega]; exact IntWalk.i64_in _ (by omega)
                      obtain ⟨na, nc, hnf⟩ := hnt.form
                      subst hnf
                      obtain ⟨nl, hnl⟩ : ∃ nl, nl = ((pairsTo xs us a bi).map (Tr.node s.rule s.entry s.word)).length := ⟨_, rfl⟩
                      rw [← hnl] at hnt ⊢
                      have HNl := Lib.hid hnl
                      clear hnl HNb
                      obtain ⟨ps, s1, s2, s3⟩ := HPt7.out.old HBb.out
                      obtain ⟨rs, r1, r2, r3⟩ := HUt.out.old HBb.out
                      obtain ⟨ns, n1, n2, n3⟩ := id hnt
                      have haps : a < ps.length := by rw [s1]; simp only [partT, List.length_map]; rw [← HXs.out, ← HAl.out]; exact hal
                      have hbrs : bi < rs.length := by rw [r1, ← HUl.out]; exact hbul
                      obtain ⟨pg, pcap, hpe, hpc⟩ := s2.cellsAt haps
                      obtain ⟨ug, ucap, hue, huc⟩ := r2.cellsAt hbrs
                      have htv := s3 a haps (by simp only [partT, List.length_map]; rw [← HXs.out, ← HAl.out]; exact hal)
                      have hav : a < xs.length := by rw [← HAl.out]; exact hal
                      have hga : ∀ (h : a < (partT s (treesS g) j).length), (partT s (treesS g) j)[a] = Tr.node s.rule s.entry s.word xs[a] := fun h => by simp only [partT, List.getElem_map, HXs.out]
                      rw [hga] at htv
                      have huv := r3 bi hbrs (by rw [← HUl.out]; exact hbul)
                      have hnx := pairsTo_next xs us a bi hav (by rw [← HUl.out]; exact hbul)
                      obtain ⟨X1, hX1⟩ : ∃ x, x = xs[a] := ⟨_, rfl⟩
                      obtain ⟨U1, hU1⟩ : ∃ x, x = us[bi]'(by rw [← HUl.out]; exact hbul) := ⟨_, rfl⟩
                      have hxl : X1.length ≤ 2 := by
                        rw [hX1]
                        have hxm : ∀ l, l ∈ xs → l ∈ subsTo (treesS g) s.parts j := fun l hl => by rw [← HXs.out]; exact hl
                        have := subsTo_mem (treesS g) s.parts j (by rw [← HM.out]; exact hj) xs[a] (hxm _ (List.getElem_mem hav))
                        omega
                      rw [← hX1] at htv hnx
                      rw [← hU1] at huv hnx
                      obtain ⟨tq, htq⟩ : ∃ x, x = ps[a] := ⟨_, rfl⟩
                      obtain ⟨uq, huq⟩ : ∃ x, x = rs[bi] := ⟨_, rfl⟩
                      rw [← htq] at htv hpc
                      rw [← huq] at huv huc
                      injection hpe with hpe e1 e2
                      injection hue with hue e3 e4
                      clear e1 e2 e3 e4
                      subst hpe hue
                      obtain ⟨hh1, hh2, hh3⟩ := TreeV.headW (show TreeV (fun _ => True) wr (.agg #[.int .u8 tq.r, .int .i64 tq.e, .string tq.w, .slice tq.a tq.n tq.c]) _ from treeV_weak htv.1 (fun _ _ _ => trivial))
                      obtain ⟨fs, f1, f2, f3⟩ := TreeV.newsT htv.1 htv.2
                      obtain ⟨_, _, _, _, hy, p0, p1, p2, p3'⟩ := hpc
                      obtain ⟨_, _, _, _, hz, u0', u1', u2', u3'⟩ := huc
                      unfold TV.val at hy hz
                      simp only [Value.agg.injEq, Array.mk.injEq, List.cons.injEq, and_true] at hy hz
                      obtain ⟨rfl, rfl, rfl, rfl⟩ := hy
                      obtain ⟨rfl, rfl, rfl, rfl⟩ := hz
                      have HHd := Lib.hid (And.intro hh1 (And.intro hh2 hh3))
                      have HF := Lib.hid (And.intro f1 (And.intro f2 f3))
                      have HNs := Lib.hid (And.intro n1 (And.intro n2 n3))
                      have HUv := Lib.hid huv
                      have HNx3 := Lib.hid hnx
                      have HUc := Lib.hid (And.intro u0' (And.intro u1' (And.intro u2' u3')))
                      have b7 : (0 : Int) ≤ (a : Int) := by omega
                      have b8 : (a : Int) < (al : Int) := by omega
                      have b9 : (0 : Int) ≤ (bi : Int) := by omega
                      have b10 : (bi : Int) < (ul : Int) := by omega
                      clear s1 s2 s3 r1 r2 r3 n1 n2 n3 haps hbrs htv hav hga huv hnx hX1 hU1 htq huq hh1 hh2 hh3 f1 f2 f3 u0' u1' u2' u3' hnt hbb
                      go_upto_region 21 with (fail)
                      obtain ⟨Y, hY⟩ : ∃ Y, Y = wr.heap.size := ⟨_, rfl⟩
                      obtain ⟨W8, hW8⟩ : ∃ W8, W8 = wr.alloc (.cells #[.int .u8 tq.r, .int .i64 tq.e, .string tq.w, .slice tq.a tq.n tq.c] 39) := ⟨_, rfl⟩
                      have hb8 : Below wr.heap.size wr W8 := by rw [hW8]; exact (Below.refl _ _).alloc (Nat.le_refl _) _
                      have hs8 : W8.heap.size = Y + 1 := by rw [hW8, hY]; simp
                      have hy8 : W8.heap[Y]? = some (.cells #[.int .u8 tq.r, .int .i64 tq.e, .string tq.w, .slice tq.a tq.n tq.c] 39 (0, 0)) := by rw [hW8, hY]; exact heap_atC rfl
                      rw [← hW8, ← hY]
                      have HY := Lib.hid hY
                      have HB8 := Lib.hid hb8
                      have HS8 := Lib.hid hs8
                      have HY8 := Lib.hid hy8
                      have HFn := Lib.hid (HF.out.2.1.below hb8)
                      have v0 := cell_kept' hb8 HUc.out.1
                      have v1 := cell_kept' hb8 HUc.out.2.1
                      have v2 := cell_kept' hb8 HUc.out.2.2.1
                      have v3 := cell_kept' hb8 HUc.out.2.2.2
                      have v4 : W8.cell? ⟨Y, 3, none⟩ = some (.slice tq.a tq.n tq.c) := (cell_rowC hy8 3).trans rfl
                      have hyl : Y < W8.heap.size := (Array.getElem?_eq_some_iff.1 hy8).1
                      have hyl1 : Y < W8.heap.size + 1 := by omega
                      have hyl2 : Y < W8.heap.size + 1 + 1 := by omega
                      have hul0 : ug < W8.heap.size := cell_lt v0
                      have hul1 : ug < W8.heap.size + 1 := by omega
                      have hul2 : ug < W8.heap.size + 1 + 1 := by omega
                      have hfz : W8.frozen? ⟨Y, 3, none⟩ = false := by simp [World.frozen?, hy8]
                      have HFz := Lib.hid (And.intro hfz hyl)
                      have hfl : fs.length ≤ 5000 := by rw [HF.out.1]; omega
                      have HFl := Lib.hid hfl
                      clear hY hW8 hb8 hs8 hfl hfz hy8
                      go_cut [] from 82 to 92 (fun wx => ∃ v6 w6, wx = w6.setCell ⟨Y, 3, none⟩ v6 ∧ RowT W8.heap.size w6 v6 (fs ++ [uq]) ∧ Below W8.heap.size W8 w6)
                      case first =>
                        have HV4 := Lib.hid v4
                        refine (wpIn_wide (n := 3)).1 ?_
                        have hfw : ∀ f, Fence.wide.fn f := fun _ => trivial
                        obtain ⟨S, hS⟩ : ∃ S : World → Prop, S = fun V => Below W8.heap.size W8 V := ⟨_, rfl⟩
                        have f0 : ∀ V, S V → V.cell? ⟨Y, 3, none⟩ = some (.slice tq.a tq.n tq.c) := fun V h => by rw [hS] at h; exact cell_kept' h v4
                        have f1 : ∀ V, S V → V.cell? ⟨ug, bi * 4, none⟩ = some (.int .u8 uq.r) ∧ V.cell? ⟨ug, bi * 4 + 1, none⟩ = some (.int .i64 uq.e) ∧ V.cell? ⟨ug, bi * 4 + 2, none⟩ = some (.string uq.w) ∧ V.cell? ⟨ug, bi * 4 + 3, none⟩ = some (.slice uq.a uq.n uq.c) := fun V h => by rw [hS] at h; exact ⟨cell_kept' h v0, cell_kept' h v1, cell_kept' h v2, cell_kept' h v3⟩
                        have hSd : S W8.drew := by rw [hS]; exact (Below.refl _ _).drew
                        have HSS := Lib.hid hS
                        clear hS v0 v1 v2 v3 v4
                        refine regionM S 11 (by kernel_rfl) hSd (fun hpo hS0 => ?_)
                        obtain ⟨D, hD⟩ : ∃ D, D = W8.drew := ⟨_, rfl⟩
                        have hbD : Below W8.heap.size W8 D := by rw [hD]; exact (Below.refl _ _).drew
                        have HD := Lib.hid hbD
                        rw [← hD] at hS0 ⊢
                        clear hD hbD hSd
                        refine takeM (i := 1) 83 (.pointer (some ⟨Y, 3, none⟩)) hpo rfl (by kernel_rfl) (fun _ _ _ h => h) rfl (by rfl) (fun V hX => (by go_simp)) (fun _ => rfl) hS0 (fun hS1 => ?_)
                        simp only [List.setIfInBounds_toArray, List.set_cons_zero, List.set_cons_succ]
                        refine takeM (i := 2) 84 (.slice tq.a tq.n tq.c) hpo rfl (by kernel_rfl) (fun _ _ _ h => h) rfl (by rfl) (fun V hX => (by have g0 := f0 V hX; go_simp)) (fun _ => rfl) hS1 (fun hS2 => ?_)
                        simp only [List.setIfInBounds_toArray, List.set_cons_zero, List.set_cons_succ]
                        refine takeM (i := 4) 86 (.slice (some ⟨ug, 0, none⟩) ul uc) hpo rfl (by kernel_rfl) (fun _ _ _ h => h) rfl (by rfl) (fun V hX => (by go_simp)) (fun _ => rfl) hS2 (fun hS3 => ?_)
                        simp only [List.setIfInBounds_toArray, List.set_cons_zero, List.set_cons_succ]
                        refine takeM (i := 5) 87 (.int .i64 bi) hpo rfl (by kernel_rfl) (fun _ _ _ h => h) rfl (by rfl) (fun V hX => (by go_simp)) (fun _ => rfl) hS3 (fun hS4 => ?_)
                        simp only [List.setIfInBounds_toArray, List.set_cons_zero, List.set_cons_succ]
                        refine takeM (i := 6) 88 (.pointer (some ⟨ug, bi * 4, none⟩)) hpo rfl (by kernel_rfl) (fun _ _ _ h => h) rfl (by rfl) (fun V hX => (by go_simp; first | done | (simp only [if_pos b10]; try go_simp))) (fun _ => rfl) hS4 (fun hS5 => ?_)
                        simp only [List.setIfInBounds_toArray, List.set_cons_zero, List.set_cons_succ]
                        refine takeM (i := 7) 89 (.agg #[.int .u8 uq.r, .int .i64 uq.e, .string uq.w, .slice uq.a uq.n uq.c]) hpo rfl (by kernel_rfl) (fun _ _ _ h => h) rfl (by rfl) (fun V hX => (by obtain ⟨g0, g1, g2, g3⟩ := f1 V hX; go_simp)) (fun _ => rfl) hS5 (fun hS6 => ?_)
                        simp only [List.setIfInBounds_toArray, List.set_cons_zero, List.set_cons_succ]
                        refine twoM (i := 0) (j := 8) rfl rfl (by kernel_rfl) (by rfl) (by rfl) (fun K hK => ?_) (fun K hK => ?_)
                        · go_simp
                          obtain ⟨EB, hEB⟩ : ∃ x, x = D.heap.size := ⟨_, rfl⟩
                          obtain ⟨A1, hA1⟩ : ∃ x, x = D.alloc (.cells #[] 39) := ⟨_, rfl⟩
                          rw [← hA1, ← hEB]
                          have hbA1 : Below W8.heap.size W8 A1 := by rw [hA1]; exact HD.out.alloc HD.out.size _
                          have hnA1 : A1.heap[EB]? = some (.cells #[] 39 (0, 0)) := by rw [hA1, hEB]; exact heap_atC rfl
                          have hlA1 : W8.heap.size ≤ EB := by rw [hEB]; exact HD.out.size
                          have HBA1 := Lib.hid hbA1
                          have HNA1 := Lib.hid (And.intro hnA1 hlA1)
                          clear hbA1 hnA1 hlA1 hA1 hEB
                          refine hK _ _ (fun _ => by rw [HSS.out]; exact HBA1.out) (fun hSn => ?_)
                          clear hK K hSn
                          refine twoM (i := 3) (j := 8) rfl rfl (by kernel_rfl) (by rfl) (by rfl) (fun K hK => ?_) (fun K hK => ?_)
                          · refine wpIn_append_trees hfw (.tmp 82) (.tmp 84) rfl W8.heap.size (p := []) rfl (RowT.empty HNA1.out.1 HNA1.out.2) rfl (HFn.out.below HBA1.out) (by have := HFl.out; simp; omega) HBA1.out.size ?_
                            intro v5 A2 r5 g5 a5
                            have hbA2 : Below W8.heap.size W8 A2 := HBA1.out.grown g5 HBA1.out.size (fun c hc => by injection hc with hc; rw [← hc]; exact HNA1.out.2)
                            have HBA2 := Lib.hid hbA2
                            have HVA2 := Lib.hid r5
                            clear hbA2 r5 g5 a5
                            refine hK _ _ (fun _ => by rw [HSS.out]; exact HBA2.out) (fun hSn => ?_)
                            clear hK K hSn
                            refine oneM (i := 8) rfl (by kernel_rfl) (by rfl) (fun K hK => ?_)
                            go_simp
                            obtain ⟨RB, hRB⟩ : ∃ x, x = A2.heap.size := ⟨_, rfl⟩
                            obtain ⟨A3, hA3⟩ : ∃ x, x = A2.alloc (.cells #[.int .u8 uq.r, .int .i64 uq.e, .string uq.w, .slice uq.a uq.n uq.c] 39) := ⟨_, rfl⟩
                            rw [← hA3, ← hRB]
                            have hbA3 : Below W8.heap.size W8 A3 := by rw [hA3]; exact HBA2.out.alloc HBA2.out.size _
                            have hnA3 : A3.heap[RB]? = some (.cells #[.int .u8 uq.r, .int .i64 uq.e, .string uq.w, .slice uq.a uq.n uq.c] 39 (0, 0)) := by rw [hA3, hRB]; exact heap_atC rfl
                            have hlA3 : W8.heap.size ≤ RB := by rw [hRB]; exact HBA2.out.size
                            have hvA3 : RowT W8.heap.size A3 v5 ([] ++ fs) := by rw [hA3]; exact HVA2.out.alloc _
                            have HBA3 := Lib.hid hbA3
                            have HNA3 := Lib.hid (And.intro hnA3 hlA3)
                            have HVA3 := Lib.hid hvA3
                            clear hbA3 hnA3 hlA3 hvA3 hA3 hRB
                            refine hK _ _ (fun _ => by rw [HSS.out]; exact HBA3.out) (fun hSn => ?_)
                            clear hK K hSn
                            refine oneM (i := 9) rfl (by kernel_rfl) (by rfl) (fun K hK => ?_)
                            refine wpIn_append_trees hfw (.tmp 85) (.tmp 90) rfl W8.heap.size (p := [] ++ fs) rfl HVA3.out rfl (NewsT.one (q := uq) rfl HNA3.out.1) (by have := HFl.out; simp; omega) HBA3.out.size ?_
                            intro v6 A4 r6 g6 a6
                            obtain ⟨va, vc, hvf⟩ := owns_form r6
                            subst hvf
                            have hbA4 : Below W8.heap.size W8 A4 := HBA3.out.grown g6 HBA3.out.size (fun c hc => (World.ownsRow.lt HVA3.out c hc).1)
                            have t4 := cell_kept' hbA4 HV4.out
                            have t5 : A4.frozen? ⟨Y, 3, none⟩ = false := (World.frozen?_of_block (a := ⟨Y, 3, none⟩) (hbA4.block Y HFz.out.2)).trans HFz.out.1
                            have HBA4 := Lib.hid hbA4
                            have HVA4 := Lib.hid r6
                            have HTA4 := Lib.hid (And.intro t4 t5)
                            clear hbA4 r6 g6 a6 t4 t5
                            refine hK _ _ (fun _ => by rw [HSS.out]; exact HBA4.out) (fun hSn => ?_)
                            clear hK K hSn
                            refine oneM (i := 10) rfl (by kernel_rfl) (by rfl) (fun K hK => ?_)
                            go_simp
                            refine hK _ _ (fun _ => by rw [HSS.out]; exact HBA4.out) (fun hSn => ?_)
                            clear hK K hSn
                            refine oneM (i := 11) rfl (by kernel_rfl) (by rfl) (fun K hK => ?_)
                            have t4 := HTA4.out.1
                            have t5 := HTA4.out.2
                            go_simp
                            refine hK _ _ (fun h => absurd h (by decide)) (fun hS11 => ?_)
                            clear hK K t4 t5 hS11
                            refine doneM (by kernel_rfl) ?_ _
                            go_step
                            go_step
                            go_meet
                            exact ⟨_, _, rfl, by simpa using HVA4.out, HBA4.out⟩
                          · go_simp
                            obtain ⟨RB, hRB⟩ : ∃ x, x = A1.heap.size := ⟨_, rfl⟩
                            obtain ⟨A2, hA2⟩ : ∃ x, x = A1.alloc (.cells #[.int .u8 uq.r, .int .i64 uq.e, .string uq.w, .slice uq.a uq.n uq.c] 39) := ⟨_, rfl⟩
                            rw [← hA2, ← hRB]
                            have hbA2 : Below W8.heap.size W8 A2 := by rw [hA2]; exact HBA1.out.alloc HBA1.out.size _
                            have hnA2 : A2.heap[RB]? = some (.cells #[.int .u8 uq.r, .int .i64 uq.e, .string uq.w, .slice uq.a uq.n uq.c] 39 (0, 0)) := by rw [hA2, hRB]; exact heap_atC rfl
                            have hlA2 : W8.heap.size ≤ RB := by rw [hRB]; exact HBA1.out.size
                            have hrA2 : A2.heap[EB]? = some (.cells #[] 39 (0, 0)) := by rw [hA2, Below.heap_alloc _ _ _ (Array.getElem?_eq_some_iff.1 HNA1.out.1).1]; exact HNA1.out.1
                            have hneA2 : RB ≠ EB := by rw [hRB]; exact (Nat.ne_of_lt (Array.getElem?_eq_some_iff.1 HNA1.out.1).1).symm
                            have HBA2 := Lib.hid hbA2
                            have HNA2 := Lib.hid (And.intro hnA2 hlA2)
                            have HRA2 := Lib.hid (And.intro hrA2 (And.intro HNA1.out.2 hneA2))
                            clear hbA2 hnA2 hlA2 hrA2 hneA2 hA2 hRB
                            refine hK _ _ (fun _ => by rw [HSS.out]; exact HBA2.out) (fun hSn => ?_)
                            clear hK K hSn
                            refine oneM (i := 3) rfl (by kernel_rfl) (by rfl) (fun K hK => ?_)
                            refine wpIn_append_trees hfw (.tmp 82) (.tmp 84) rfl W8.heap.size (p := []) rfl (RowT.empty HRA2.out.1 HRA2.out.2.1) rfl (HFn.out.below HBA2.out) (by have := HFl.out; simp; omega) HBA2.out.size ?_
                            intro v5 A3 r5 g5 a5
                            have hbA3 : Below W8.heap.size W8 A3 := HBA2.out.grown g5 HBA2.out.size (fun c hc => by injection hc with hc; rw [← hc]; exact HRA2.out.2.1)
                            have hrA3 := (g5.block RB (Array.getElem?_eq_some_iff.1 HNA2.out.1).1 (fun e => by injection e with e; exact HRA2.out.2.2 e)).trans HNA2.out.1
                            have HNA3 := Lib.hid hrA3
                            have HBA3 := Lib.hid hbA3
                            have HVA3 := Lib.hid r5
                            clear hbA3 r5 g5 a5 hrA3
                            refine hK _ _ (fun _ => by rw [HSS.out]; exact HBA3.out) (fun hSn => ?_)
                            clear hK K hSn
                            refine oneM (i := 9) rfl (by kernel_rfl) (by rfl) (fun K hK => ?_)
                            refine wpIn_append_trees hfw (.tmp 85) (.tmp 90) rfl W8.heap.size (p := [] ++ fs) rfl HVA3.out rfl (NewsT.one (q := uq) rfl HNA3.out) (by have := HFl.out; simp; omega) HBA3.out.size ?_
                            intro v6 A4 r6 g6 a6
                            obtain ⟨va, vc, hvf⟩ := owns_form r6
                            subst hvf
                            have hbA4 : Below W8.heap.size W8 A4 := HBA3.out.grown g6 HBA3.out.size (fun c hc => (World.ownsRow.lt HVA3.out c hc).1)
                            have t4 := cell_kept' hbA4 HV4.out
                            have t5 : A4.frozen? ⟨Y, 3, none⟩ = false := (World.frozen?_of_block (a := ⟨Y, 3, none⟩) (hbA4.block Y HFz.out.2)).trans HFz.out.1
                            have HBA4 := Lib.hid hbA4
                            have HVA4 := Lib.hid r6
                            have HTA4 := Lib.hid (And.intro t4 t5)
                            clear hbA4 r6 g6 a6 t4 t5
                            refine hK _ _ (fun _ => by rw [HSS.out]; exact HBA4.out) (fun hSn => ?_)
                            clear hK K hSn
                            refine oneM (i := 10) rfl (by kernel_rfl) (by rfl) (fun K hK => ?_)
                            go_simp
                            refine hK _ _ (fun _ => by rw [HSS.out]; exact HBA4.out) (fun hSn => ?_)
                            clear hK K hSn
                            refine oneM (i := 11) rfl (by kernel_rfl) (by rfl) (fun K hK => ?_)
                            have t4 := HTA4.out.1
                            have t5 := HTA4.out.2
                            go_simp
                            refine hK _ _ (fun h => absurd h (by decide)) (fun hS11 => ?_)
                            clear hK K t4 t5 hS11
                            refine doneM (by kernel_rfl) ?_ _
                            go_step
                            go_step
                            go_meet
                            exact ⟨_, _, rfl, by simpa using HVA4.out, HBA4.out⟩
                        · go_simp
                          obtain ⟨RB, hRB⟩ : ∃ x, x = D.heap.size := ⟨_, rfl⟩
                          obtain ⟨A1, hA1⟩ : ∃ x, x = D.alloc (.cells #[.int .u8 uq.r, .int .i64 uq.e, .string uq.w, .slice uq.a uq.n uq.c] 39) := ⟨_, rfl⟩
                          rw [← hA1, ← hRB]
                          have hbA1 : Below W8.heap.size W8 A1 := by rw [hA1]; exact HD.out.alloc HD.out.size _
                          have hnA1 : A1.heap[RB]? = some (.cells #[.int .u8 uq.r, .int .i64 uq.e, .string uq.w, .slice uq.a uq.n uq.c] 39 (0, 0)) := by rw [hA1, hRB]; exact heap_atC rfl
                          have hlA1 : W8.heap.size ≤ RB := by rw [hRB]; exact HD.out.size
                          have HBA1 := Lib.hid hbA1
                          have HNA1 := Lib.hid (And.intro hnA1 hlA1)
                          clear hbA1 hnA1 hlA1 hA1 hRB
                          refine hK _ _ (fun _ => by rw [HSS.out]; exact HBA1.out) (fun hSn => ?_)
                          clear hK K hSn
                          refine oneM (i := 0) rfl (by kernel_rfl) (by rfl) (fun K hK => ?_)
                          go_simp
                          obtain ⟨EB, hEB⟩ : ∃ x, x = A1.heap.size := ⟨_, rfl⟩
                          obtain ⟨A2, hA2⟩ : ∃ x, x = A1.alloc (.cells #[] 39) := ⟨_, rfl⟩
                          rw [← hA2, ← hEB]
                          have hbA2 : Below W8.heap.size W8 A2 := by rw [hA2]; exact HBA1.out.alloc HBA1.out.size _
                          have hnA2 : A2.heap[EB]? = some (.cells #[] 39 (0, 0)) := by rw [hA2, hEB]; exact heap_atC rfl
                          have hlA2 : W8.heap.size ≤ EB := by rw [hEB]; exact HBA1.out.size
                          have hrA2 : A2.heap[RB]? = some (.cells #[.int .u8 uq.r, .int .i64 uq.e, .string uq.w, .slice uq.a uq.n uq.c] 39 (0, 0)) := by rw [hA2, Below.heap_alloc _ _ _ (Array.getElem?_eq_some_iff.1 HNA1.out.1).1]; exact HNA1.out.1
                          have hneA2 : RB ≠ EB := by rw [hEB]; exact Nat.ne_of_lt (Array.getElem?_eq_some_iff.1 HNA1.out.1).1
                          have HBA2 := Lib.hid hbA2
                          have HNA2 := Lib.hid (And.intro hnA2 hlA2)
                          have HRA2 := Lib.hid (And.intro hrA2 (And.intro HNA1.out.2 hneA2))
                          clear hbA2 hnA2 hlA2 hrA2 hneA2 hA2 hEB
                          refine hK _ _ (fun _ => by rw [HSS.out]; exact HBA2.out) (fun hSn => ?_)
                          clear hK K hSn
                          refine oneM (i := 3) rfl (by kernel_rfl) (by rfl) (fun K hK => ?_)
                          refine wpIn_append_trees hfw (.tmp 82) (.tmp 84) rfl W8.heap.size (p := []) rfl (RowT.empty HNA2.out.1 HNA2.out.2) rfl (HFn.out.below HBA2.out) (by have := HFl.out; simp; omega) HBA2.out.size ?_
                          intro v5 A3 r5 g5 a5
                          have hbA3 : Below W8.heap.size W8 A3 := HBA2.out.grown g5 HBA2.out.size (fun c hc => by injection hc with hc; rw [← hc]; exact HNA2.out.2)
                          have hrA3 := (g5.block RB (Array.getElem?_eq_some_iff.1 HRA2.out.1).1 (fun e => by injection e with e; exact HRA2.out.2.2 e)).trans HRA2.out.1
                          have HNA3 := Lib.hid hrA3
                          have HBA3 := Lib.hid hbA3
                          have HVA3 := Lib.hid r5
                          clear hbA3 r5 g5 a5 hrA3
                          refine hK _ _ (fun _ => by rw [HSS.out]; exact HBA3.out) (fun hSn => ?_)
                          clear hK K hSn
                          refine oneM (i := 9) rfl (by kernel_rfl) (by rfl) (fun K hK => ?_)
                          refine wpIn_append_trees hfw (.tmp 85) (.tmp 90) rfl W8.heap.size (p := [] ++ fs) rfl HVA3.out rfl (NewsT.one (q := uq) rfl HNA3.out) (by have := HFl.out; simp; omega) HBA3.out.size ?_
                          intro v6 A4 r6 g6 a6
                          obtain ⟨va, vc, hvf⟩ := owns_form r6
                          subst hvf
                          have hbA4 : Below W8.heap.size W8 A4 := HBA3.out.grown g6 HBA3.out.size (fun c hc => (World.ownsRow.lt HVA3.out c hc).1)
                          have t4 := cell_kept' hbA4 HV4.out
                          have t5 : A4.frozen? ⟨Y, 3, none⟩ = false := (World.frozen?_of_block (a := ⟨Y, 3, none⟩) (hbA4.block Y HFz.out.2)).trans HFz.out.1
                          have HBA4 := Lib.hid hbA4
                          have HVA4 := Lib.hid r6
                          have HTA4 := Lib.hid (And.intro t4 t5)
                          clear hbA4 r6 g6 a6 t4 t5
                          refine hK _ _ (fun _ => by rw [HSS.out]; exact HBA4.out) (fun hSn => ?_)
                          clear hK K hSn
                          refine oneM (i := 10) rfl (by kernel_rfl) (by rfl) (fun K hK => ?_)
                          go_simp
                          refine hK _ _ (fun _ => by rw [HSS.out]; exact HBA4.out) (fun hSn => ?_)
                          clear hK K hSn
                          refine oneM (i := 11) rfl (by kernel_rfl) (by rfl) (fun K hK => ?_)
                          have t4 := HTA4.out.1
                          have t5 := HTA4.out.2
                          go_simp
                          refine hK _ _ (fun h => absurd h (by decide)) (fun hS11 => ?_)
                          clear hK K t4 t5 hS11
                          refine doneM (by kernel_rfl) ?_ _
                          go_step
                          go_step
                          go_meet
                          exact ⟨_, _, rfl, by simpa using HVA4.out, HBA4.out⟩
                      case rest =>
                      obtain ⟨v6, w6, hwx, r6, hb6⟩ := hcut
                      obtain ⟨W9, hW9⟩ : ∃ W9, W9 = wc := ⟨_, rfl⟩
                      rw [← hW9] at hwx ⊢
                      obtain ⟨va, vc, hvf⟩ := owns_form r6
                      subst hvf
                      have hyl' := HFz.out.2
                      have hy6 := (hb6.block Y hyl').trans HY8.out
                      have hy9 : W9.heap[Y]? = some (.cells #[.int .u8 tq.r, .int .i64 tq.e, .string tq.w, .slice va (fs ++ [uq]).length vc] 39 (0, 0)) := by rw [hwx]; exact (heap_setCell_same _ _ 3 _ _ _ hy6).trans rfl
                      have hb9 : Below Y W8 W9 := by rw [hwx]; exact (hb6.mono (Nat.le_of_lt hyl')).setCell (Nat.le_refl _) _
                      have hr9 : RowT W8.heap.size W9 (.slice va (fs ++ [uq]).length vc) (fs ++ [uq]) := by rw [hwx]; exact ownsRow_setCell_below r6 hyl' _
                      have hbw9 : Below wr.heap.size wr W9 := HB8.out.trans (by rw [← HY.out]; exact hb9)
                      have hs9 : W8.heap.size ≤ W9.heap.size := by rw [hwx]; simpa using hb6.size
                      have l0 : W9.cell? ⟨Y, 0, none⟩ = some (.int .u8 tq.r) := (cell_rowC hy9 0).trans rfl
                      have l1 : W9.cell? ⟨Y, 1, none⟩ = some (.int .i64 tq.e) := (cell_rowC hy9 1).trans rfl
                      have l2 : W9.cell? ⟨Y, 2, none⟩ = some (.string tq.w) := (cell_rowC hy9 2).trans rfl
                      have l3 : W9.cell? ⟨Y, 3, none⟩ = some (.slice va (fs ++ [uq]).length vc) := (cell_rowC hy9 3).trans rfl
                      obtain ⟨vl, hvl⟩ : ∃ vl, vl = (fs ++ [uq]).length := ⟨_, rfl⟩
                      rw [← hvl] at hr9 l3
                      have HR9 := Lib.hid hr9
                      have HBw9 := Lib.hid hbw9
                      have HVl := Lib.hid hvl
                      have HS9 := Lib.hid hs9
                      have HHd' := HHd.out
                      clear hwx hW9 r6 hb6 hyl' hy6 hy9 hb9 hr9 hbw9 hs9 hvl HHd' v0 v1 v2 v3 v4 hyl hyl1 hyl2 hul0 hul1 hul2 wc
                      have hnb := HNs.out.2.1.below HBw9.out
                      have HNr := Lib.hid (show RowT W7.heap.size W9 (.slice na nl nc) ns from hnb)
                      have hnsl : ns.length ≤ 300000 := by
                        rw [HNs.out.1, List.length_map]
                        have := pairsTo_len xs us (M := 4096) (N := 64) (by rw [← HAl.out]; exact hsl2) (by rw [← HUl.out]; exact hus) a bi (by rw [← HAl.out]; omega)
                        omega
                      have HNsl := Lib.hid hnsl
                      clear hnb hnsl
                      go_wp2_with (first
                        | (at_builtin; refine wpList_append_trees rfl (.tmp 93) (.tmp 95) rfl W7.heap.size rfl (HNr.out.alloc _) rfl (NewsT.one (q := ⟨tq.r, tq.e, tq.w, va, vl, vc⟩) rfl (World.alloc_heap_new _ _)) (by have := HNsl.out; simp; omega) (by have h1 := HBw9.out.size; have h2 := HBb.out.size; simp; omega) ?_; intro v10 w10 r10 g10 a10; have HR10 := Lib.hid (And.intro r10 (And.intro g10 a10)); clear r10 g10 a10)
                        | fail)
                      have hown : ∀ c, (Value.slice na nl nc).ownBlock = some c → W7.heap.size ≤ c ∧ c < wr.heap.size := fun c hc => World.ownsRow.lt HNs.out.2.1 c hc
                      have hal9 : Below wr.heap.size wr (W9.alloc (.cells #[.int .u8 tq.r, .int .i64 tq.e, .string tq.w, .slice va vl vc] 39)) := HBw9.out.alloc HBw9.out.size _
                      have hfin : TreesQ S4 W7.heap.size w10 v10 ((pairsTo xs us a (bi + 1)).map (Tr.node s.rule s.entry s.word)) := by
                        rw [HNx3.out, List.map_append]
                        refine TreesQ.app (ps := ns) (rs := [⟨tq.r, tq.e, tq.w, va, vl, vc⟩]) HNs.out.1 (fun j h1 h2 => ⟨treeV_below (HNs.out.2.2 j h1 h2).1 hal9, (HNs.out.2.2 j h1 h2).2⟩) rfl (fun j h1 h2 => ?_) HR10.out.1 HR10.out.2.1 HR10.out.2.2
                        obtain rfl : j = 0 := by simp at h1; omega
                        have hra : RowT W8.heap.size (W9.alloc (.cells #[.int .u8 tq.r, .int .i64 tq.e, .string tq.w, .slice va vl vc] 39)) (.slice va vl vc) (fs ++ [uq]) := HR9.out.alloc _
                        have hS4 : S4 ≤ W7.heap.size := by rw [HS4.out]; exact HBj7.out.size
                        have hS8 : W7.heap.size ≤ W8.heap.size := by have := HBb.out.size; have := HB8.out.size; omega
                        refine ⟨?_, fun e => ?_⟩
                        · have hw2 : tq.w = ⟨s.word.toArray⟩ := HHd.out.2.2
                          have hal9' := hal9
                          obtain ⟨WA, hWA⟩ : ∃ x, x = W9.alloc (.cells #[.int .u8 tq.r, .int .i64 tq.e, .string tq.w, .slice va vl vc] 39) := ⟨_, rfl⟩
                          rw [← hWA] at hra hal9' ⊢
                          clear hWA
                          show TreeV _ WA (TV.val ⟨tq.r, tq.e, tq.w, va, vl, vc⟩) (Tr.node s.rule s.entry s.word (X1 ++ [U1]))
                          rw [HHd.out.1, HHd.out.2.1, hw2]
                          refine RowT.treeV (us := X1 ++ [U1]) hra (by rw [List.length_append, List.length_append, HF.out.1]; rfl) (fun c hc => ?_) (fun j h1 h2 => ?_) _ _ _
                          · have hlt := World.ownsRow.lt hra c (by rw [hc]; rfl)
                            refine ⟨by omega, fun e => ?_⟩
                            have := (hown c e).2
                            have := HB8.out.size
                            omega
                          · by_cases hj : j < fs.length
                            · rw [List.getElem_append_left hj, List.getElem_append_left (by rw [← HF.out.1]; exact hj)]
                              have h3 := HF.out.2.2 j hj (by rw [← HF.out.1]; exact hj)
                              refine treeV_weak (treeV_below h3 hal9') (fun c _ hc => ⟨hc.1, fun e => ?_⟩)
                              have := (hown c e).1
                              omega
                            · have h9 : [uq].length = 1 := rfl
                              have hj0 : j = fs.length := by rw [List.length_append, h9] at h1; omega
                              subst hj0
                              have hX : X1.length ≤ fs.length := by rw [HF.out.1]; exact Nat.le_refl _
                              rw [List.getElem_append_right (Nat.le_refl _), List.getElem_append_right hX]
                              have hj1 : fs.length - X1.length = 0 := by rw [HF.out.1]; omega
                              simp only [Nat.sub_self, hj1, List.getElem_cons_zero]
                              refine treeV_weak (treeV_below HUv.out.1 hal9') (fun c _ hc => ⟨by have q1 := HBj.out.size; have q2 := HS4.out; have q3 := hc.1; omega, fun e => ?_⟩)
                              have := (hown c e).1
                              omega
                        · exfalso
                          have hvlp : 0 < vl := by rw [HVl.out, List.length_append]; exact Nat.lt_of_lt_of_le Nat.zero_lt_one (Nat.le_add_left _ _)
                          rcases hra.2 with ⟨e0, h0⟩ | ⟨_, _, _, e0, _⟩
                          · injection e0 with _ e1 _; omega
                          · injection e0 with e0 _ _
                            have e' : va = none := e
                            rw [e'] at e0
                            cases e0
                      have hbf : Below W7.heap.size W7 w10 := (HBb.out.trans (hal9.mono HBb.out.size)).grown HR10.out.2.1 (Nat.le_trans HBb.out.size hal9.size) (fun c hc => (hown c hc).1)
                      have HFin := Lib.hid (And.intro hfin hbf)
                      clear hfin hbf hown hal9 l0 l1 l2 l3
                      go_roundw
                      case rel => first | exact ⟨bi + 1, by omega, by go_num, HFin.out.1, HFin.out.2⟩ | ((repeat apply Exists.intro); exact ⟨⟨bi + 1, by omega, by go_num, HFin.out.1, HFin.out.2⟩, rfl⟩)
                      case measure => simp [intOf]; omega
                    · have hdb : decide ((bi : Int) < (ul : Int)) = false := decide_eq_false (by omega)
                      have hdbn : decide (bi < ul) = false := decide_eq_false hbul
                      obtain rfl : bi = ul := by omega
                      have hrw : pairsTo xs us (a + 1) 0 = pairsTo xs us a bi := by rw [HUl.out]; exact pairsTo_row xs us a (by rw [← HAl.out]; exact hal)
                      have HRw := Lib.hid hrw
                      clear hrw hnt hbb
                      go_wp2
                      go_roundw
                      case rel => exact ⟨a + 1, by omega, by go_num, by rw [HRw.out]; exact HNb.out, HBb.out⟩
                      case measure => simp [intOf]; omega
                · have hda : decide ((a : Int) < (al : Int)) = false := decide_eq_false (by omega)
                  have hdan : decide (a < al) = false := decide_eq_false hal
                  have hae : a = al := by omega
                  have hpt : partT s (treesS g) (j + 1) = (pairsTo xs us a 0).map (Tr.node s.rule s.entry s.word) := by
                    unfold partT
                    rw [HNxj.out, hae, HAl.out, pairsTo_all]
                  have HPn := Lib.hid hpt
                  clear hae hpt hal
                  go_wp2
                  go_roundw
                  case rel => exact ⟨j + 1, by omega, by go_num, by rw [HPn.out]; exact HNt.out.base (Nat.le_refl _) (by rw [HS4.out]; exact HBj7.out.size), by rw [HS4.out]; exact HBj7.out.trans (HBa.out.mono HBj7.out.size)⟩
                  case measure => simp [intOf]; omega
            · have hdj : decide ((j : Int) < (m : Int)) = false := decide_eq_false (by omega)
              have hdjn : decide (j < m) = false := decide_eq_false hjl
              have hjm : j = m := by omega
              have hnx : treesTo g ss (i + 1) = treesTo g ss i ++ partT s (treesS g) j := by rw [HNx.out, HZ.out, hjm]
              have HNx2 := Lib.hid hnx
              subst hqf
              obtain ⟨ps, o1, o2, o3⟩ := HTi.out.below (HBr4.out.trans (HBj.out.mono HBr4.out.size))
              obtain ⟨rs, r1, r2, r3⟩ := HPt.out
              have hplen : (partT s (treesS g) j).length ≤ 4096 := by
                unfold partT
                rw [List.length_map]
                exact subsTo_len (g := g) s.parts (HM.out ▸ hm2) HS64.out j (by rw [← HM.out]; exact hj)
              obtain ⟨pl, hpl⟩ : ∃ pl, pl = (partT s (treesS g) j).length := ⟨_, rfl⟩
              rw [← hpl] at r2 hplen ⊢
              have hpn : ps.length + rs.length ≤ 1000000 := by rw [o1, r1, ← HOl.out, ← hpl]; omega
              have HO2 := Lib.hid o2
              have HR2 := Lib.hid r2
              have HPn := Lib.hid hpn
              have hown : ∀ c, (Value.slice oa ol oc).ownBlock = some c → W2.heap.size ≤ c ∧ c < wr.heap.size ∧ c < S4 := fun c hc => by
                have h1 := World.ownsRow.lt o2 c hc
                obtain ⟨_, _, h2, _⟩ := HTi.out
                have h3 := World.ownsRow.lt h2 c hc
                have := HBr4.out.size
                have := HS4.out
                exact ⟨h1.1, h1.2, by omega⟩
              have HOwn := Lib.hid hown
              have HO := Lib.hid (And.intro o1 (And.intro o3 (And.intro r1 r3)))
              clear hjm hnx hplen hpl hpn o1 o2 o3 r1 r2 r3 hown hjl
              go_wp2_with (first
                | (at_builtin; refine wpList_append_trees rfl (.tmp 98) (.tmp 99) rfl W2.heap.size rfl HO2.out rfl HR2.out.news HPn.out (by have h1 := HBj.out.size; have h2 := HBr4.out.size; have h3 := HBr.out.size; omega) ?_; intro v9 w9 r9 g9 a9; have HR9 := Lib.hid (And.intro r9 (And.intro g9 a9)); clear r9 g9 a9)
                | fail)
              have hfin : TreesR W2.heap.size w9 v9 (treesTo g ss (i + 1)) := by
                rw [HNx2.out]
                refine TreesQ.app HO.out.1 HO.out.2.1 HO.out.2.2.1 (fun x h1 h2 => ?_) HR9.out.1 HR9.out.2.1 HR9.out.2.2
                have h3 := HO.out.2.2.2 x h1 h2
                refine ⟨treeV_weak h3.1 (fun c _ hc => ⟨?_, fun e => ?_⟩), h3.2⟩
                · have := HS4.out; have := HBr4.out.size; have := HBr.out.size; omega
                · have := (HOwn.out c e).2.2
                  omega
              have hbf : Below W2.heap.size W2 w9 := (HBr.out.trans ((HBr4.out.trans (HBj.out.mono HBr4.out.size)).mono HBr.out.size)).grown HR9.out.2.1 (by have h1 := HBj.out.size; have h2 := HBr4.out.size; have h3 := HBr.out.size; omega) (fun c hc => (HOwn.out c hc).1)
              have HFin := Lib.hid (And.intro hfin hbf)
              clear hfin hbf
              go_roundw
              case rel => exact ⟨i + 1, by omega, by go_num, HFin.out.1, HFin.out.2⟩
              case measure => simp [intOf]; omega
      · have hdi : decide ((i : Int) < (n : Int)) = false := decide_eq_false (by omega)
        have hdin : decide (i < n) = false := decide_eq_false hlt
        obtain rfl : i = n := by omega
        have hres : treesS g k f t = treesTo g ss i := by rw [HTr.out, HN.out, treesTo_all]
        have HRes := Lib.hid hres
        clear hres hlt
        go_wp2
        go_ret
        exact ⟨_, rfl, by rw [HRes.out]; exact HTi.out.base HB2.out.size HB2.out.size, HB2.out.trans (HBr.out.mono HB2.out.size)⟩
end Go.Proofs.YthmnffgjckpkiaaGreatDoor
