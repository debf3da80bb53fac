/-
  The contract of Steps of the reference of chapter 34.
-/
import Derived.Test.YthmnffgjckpkiaaGreatDoorSD
import Derived.Deep.CutRange
namespace Go.Proofs.YthmnffgjckpkiaaGreatDoor
open Go Go.RowKit Go.Shelf

/-- A row of steps of the call's own, behind a call's beginning. -/
structure Good (w W : World) (v : Value) (ss : List StepS) : Prop where
  own : StepsR w.heap.size W v ss
  below : Below w.heap.size w W
theorem Good.later {w W W' : World} {v : Value} {ss : List StepS} (h : Good w W v ss) (hb : Below W.heap.size W W') : Good w W' v ss := ⟨h.own.below hb, h.below.trans (hb.mono h.below.size)⟩
theorem Good.alloc {w W : World} {v : Value} {ss : List StepS} (h : Good w W v ss) (o : Obj) : Good w (W.alloc o) v ss := h.later ((Below.refl _ _).alloc (Nat.le_refl _) _)
theorem Good.fresh {w W W' : World} {v : Value} {ss : List StepS} (hb : Below w.heap.size w W) (h : StepsR W.heap.size W' v ss) (h2 : Below W.heap.size W W') : Good w W' v ss := ⟨h.base hb.size, hb.trans (h2.mono hb.size)⟩
theorem wpList_good_app {ops : Array Oper} {rest : List Oper} {o : Oper} {ac : Act} {w W : World} {Q : Exit → Act → World → Prop} (hgd : o.guard = none) (sx xx : Operand)
    (ho : o.op = .call { callee := .builtin .append, args := #[sx, xx], argTypes := #[144, 144] })
    {v x : Value} {p q : List StepS} (hs : ac.eval sx = v) (hx : ac.eval xx = x) (hp : Good w W v p) {bx : Nat} (hq : StepsR bx W x q) (hn : p.length + q.length ≤ 1000000)
    (h : ∀ v' W', Good w W' v' (p ++ q) → wpList Tryz.prog ops Q rest (ac.put o.dst v') W') : wpList Tryz.prog ops Q (o :: rest) ac W :=
  wpList_append_steps hgd sx xx ho w.heap.size v p hs hp.own bx x q hx hq hn hp.below.size (fun v' W' h1 h2 _ => h v' W' ⟨h1, StepsR.grownBelow (B := 0) hp.own hp.below h2 rfl⟩)
theorem word7_is (x : List UInt8) : wordOk (shapeS 7).words x = decide (x ∈ [wEvery, wEach, wSome, wNo, wA]) := by
  unfold wordOk
  rw [if_neg (by decide)]
  show List.contains [wEvery, wEach, wSome, wNo, wA] x = _
  rw [Bool.eq_iff_iff, List.contains_iff_mem, decide_eq_true_iff]
theorem word10_is (x : List UInt8) : wordOk (shapeS 10).words x = decide (x = wWho ∨ x = wThat) := by
  unfold wordOk
  rw [if_neg (by decide)]
  show List.contains [wWho, wThat] x = _
  rw [Bool.eq_iff_iff, List.contains_iff_mem, decide_eq_true_iff]
  simp
/-- The steps of rule 5 up to a place. -/
def saysTo (f t k : Nat) : List StepS := ((List.range (k - (f + 1))).map (· + (f + 1))).map fun k => ⟨5, 0, [], [(2, f, k), (4, k, t)]⟩
theorem saysTo_next (f t k : Nat) (h : f + 1 ≤ k) : saysTo f t (k + 1) = saysTo f t k ++ [⟨5, 0, [], [(2, f, k), (4, k, t)]⟩] := by
  unfold saysTo
  rw [show k + 1 - (f + 1) = (k - (f + 1)) + 1 by omega, List.range_succ, List.map_append, List.map_append]
  simp only [List.map_cons, List.map_nil, show k - (f + 1) + (f + 1) = k by omega]
theorem saysTo_len (f t k : Nat) : (saysTo f t k).length ≤ k := by unfold saysTo; simp
set_option maxRecDepth 100000 in
set_option maxHeartbeats 16000000 in
theorem rSteps_1 (w : World) (g : Gr) (lv tv : Value) (hg : GIn w g lv tv) (k f t : Nat) (hk : k = 1) (ht : t ≤ g.toks.length) (hf : f ≤ 1010) :
    Calls Tryz.prog 111 #[lv, tv, .agg #[.int .i64 k, .int .i64 f, .int .i64 t]] w fun e w' => ∃ v', e = .returned v' ∧ StepsR w.heap.size w' v' (stepsS g k f t) ∧ Below w.heap.size w w' := by
  have ht1 := hg.t1000
  have y0 : IntKind.i64.wrap ((t : Int) - (f : Int)) = (t : Int) - (f : Int) := IntWalk.i64_in _ (by omega)
  have HG := Lib.hid hg
  have HK := Lib.hid hk
  clear hk
  go_enter Tryz.func111, Tryz.ntmps111
  go_upto_region 1 with (fail)
  obtain ⟨W1, hW1⟩ : ∃ W1, W1 = w.alloc (.cells #[.int .i64 k, .int .i64 f, .int .i64 t] 115) := ⟨_, rfl⟩
  have hb : Below w.heap.size w W1 := by rw [hW1]; exact (Below.refl _ _).alloc (Nat.le_refl _) _
  have htb : W1.heap[w.heap.size]? = some (.cells #[.int .i64 k, .int .i64 f, .int .i64 t] 115 (0, 0)) := by rw [hW1]; exact heap_atC rfl
  rw [← hW1]
  obtain ⟨T, hT⟩ : ∃ T, T = w.heap.size := ⟨_, rfl⟩
  rw [← hT] at htb ⊢
  have c0 : W1.cell? ⟨T, 0, none⟩ = some (.int .i64 k) := (cell_rowC htb 0).trans rfl
  have c1 : W1.cell? ⟨T, 1, none⟩ = some (.int .i64 f) := (cell_rowC htb 1).trans rfl
  have c2 : W1.cell? ⟨T, 2, none⟩ = some (.int .i64 t) := (cell_rowC htb 2).trans rfl
  have m1 := fun x : Later W1 => x.get c1
  have m2 := fun x : Later W1 => x.get c2
  have HC0 := Lib.hid c0
  have HB1 := Lib.hid hb
  clear hW1 hb htb hT c0 c1 c2 hg
  go_wp2
  refine wp_region_later (by kernel_rfl) (by kernel_rfl) ?_
  repeat (go_big_quiet_step (fail))
  refine wpQuiet_nil ?_
  rintro _ ⟨x, rfl⟩
  obtain ⟨W2, hW2⟩ : ∃ W2, W2 = x.w := ⟨_, rfl⟩
  have hb2 : Below W1.heap.size W1 W2 := by rw [hW2]; exact x.below
  rw [← hW2]
  have HB2 := Lib.hid (HB1.out.trans (hb2.mono HB1.out.size))
  have c0 := cell_kept' hb2 HC0.out
  clear hW2 hb2 m1 m2 x HB1 HC0
  by_cases h0 : t ≤ f
  · have hv : stepsS g k f t = [] := by unfold stepsS; rw [if_pos h0]
    have HV := Lib.hid hv
    have d1 : decide ((t : Int) - (f : Int) < 1) = true := decide_eq_true (by omega)
    clear hv h0 HG
    go_wp2
    go_ret
    exact ⟨_, rfl, by rw [HV.out]; exact StepsR.nil _ _, HB2.out⟩
  have d1 : decide ((t : Int) - (f : Int) < 1) = false := decide_eq_false (by omega)
  obtain ⟨tb, toff, tcap, rfl, c1⟩ := HG.out.cell (i := f) (by omega)
  have b1 : (0 : Int) ≤ (f : Int) := by omega
  have b2 : (f : Int) < (g.toks.length : Int) := by omega
  have x1 := cell_kept' HB2.out c1
  obtain ⟨tk, htk⟩ : ∃ tk, tk = tokAt g f := ⟨_, rfl⟩
  rw [← htk] at x1 c1
  have HTk := Lib.hid htk
  have H0 := Lib.hid h0
  clear h0 c1 htk
  obtain ⟨sec, hsec⟩ : ∃ sec, sec = secondS g f t := ⟨_, rfl⟩
  have HSec := Lib.hid hsec
  clear hsec
  have y1 : IntKind.i64.wrap ((f : Int) + 1) = ((f + 1 : Nat) : Int) := by rw [show (f : Int) + 1 = ((f + 1 : Nat) : Int) by omega]; exact IntWalk.i64_in _ (by omega)
  go_upto_if 29 with (fail)
  go_cut [11] from 15 to 34 (fun s11 wx => s11 = .string ⟨sec.toArray⟩ ∧ wx = W2)
  case first =>
    by_cases h2 : f + 1 < t
    · have d2 : decide ((1 : Int) < (t : Int) - (f : Int)) = true := decide_eq_true (by omega)
      obtain ⟨tb', toff', tcap', he, c2⟩ := HG.out.cell (i := f + 1) (by omega)
      injection he with he1 _ he3
      injection he1 with he1
      injection he1 with he1 he2
      subst he1 he2 he3
      have x2 := cell_kept' HB2.out c2
      have b3 : (0 : Int) ≤ ((f + 1 : Nat) : Int) := by omega
      have b4 : ((f + 1 : Nat) : Int) < (g.toks.length : Int) := by omega
      have hs : sec = tokAt g (f + 1) := by rw [HSec.out]; unfold secondS; rw [if_pos h2]
      rw [← hs] at x2
      clear h2 c2 hs
      first | rw [d2] | skip
      go_wp2
      go_meet
      exact ⟨rfl, rfl⟩
    · have d2 : decide ((1 : Int) < (t : Int) - (f : Int)) = false := decide_eq_false (by omega)
      have hs : sec = [] := by rw [HSec.out]; unfold secondS; rw [if_neg h2]
      subst hs
      clear h2
      first | rw [d2] | skip
      go_wp2
      go_meet
      exact ⟨rfl, rfl⟩
  case rest =>
  obtain ⟨h11, hw2⟩ := hcut
  rw [h11, hw2]
  clear h11 hw2 wc
  go_upto_region 9 with (fail)
  obtain ⟨bv, hbv⟩ : ∃ bv, bv = Value.slice none 0 0 := ⟨_, rfl⟩
  rw [← hbv]
  have hgd : Good w W2 bv [] := by rw [hbv]; exact ⟨StepsR.nil _ _, HB2.out⟩
  have HGd := Lib.hid hgd
  have HTl : Go.RowKit.Hid (g.toks.length ≤ 1000) := Lib.hid ht1
  have HT := Lib.hid ht
  have hh := fun (W : World) (hb : Below w.heap.size w W) (f' r kind : Nat) (between : List UInt8) (hf' : f' ≤ 1001) => rHalves_any W g _ (HG.out.below hb).t f' t r kind between HT.out HTl.out hf'
  have HH := Lib.hid hh
  have hhl : ∀ f' r b kd, (halvesS g f' t r b kd).length ≤ 1000 := fun f' r b kd => by have := halves_len g f' t r b kd; have := HT.out; have := HTl.out; omega
  have HHl := Lib.hid hhl
  have he := fun (W : World) (hb : Below w.heap.size w W) (third : Bool) q s hr hq => rEnts W g lv _ (HG.out.below hb) tk third q s hr hq
  have HE := Lib.hid he
  have hel : ∀ third s, (entsS g tk third s).length ≤ 100 := fun third s => stp_ents_len g tk third s (look100 HG.out tk)
  have HEl := Lib.hid hel
  have hf1 : f ≤ 1000 := by have := H0.out; omega
  clear hbv hgd hh hhl he hel ht1 ht x1
  have hst : stepsS g k f t = if k = 1 then clauseS g f t else if k = 2 then nounPS g f t else if k = 3 then nounS' g f t else if k = 4 then verbPS g f t else if k = 5 then (if t = f + 1 then entsS g (tokAt g f) true ⟨19, 0, [], []⟩ else []) else if k = 6 then verbsS g f t false else if k = 7 then statesS g f t else [] := by
    unfold stepsS
    rw [if_neg H0.out]
  rw [← HTk.out] at hst
  have HSt := Lib.hid hst
  clear hst
  have hk := HK.out
  clear HK
  subst hk
  have HSk := Lib.hid (show stepsS g 1 f t = clauseS g f t from HSt.out)
  obtain ⟨S0, hS0⟩ : ∃ S0, S0 = if tk = wIf then halvesS g (f + 1) t 1 wThen 1 else [] := ⟨_, rfl⟩
  have hS0l : S0.length ≤ 1000 := by rw [hS0]; split; exact HHl.out _ _ _ _; simp
  have HS0 := Lib.hid hS0
  have HS0l := Lib.hid hS0l
  clear hS0 hS0l
  go_upto_if 40 with (fail)
  go_cut [12] from 35 to 45 (fun s12 wx => Good w wx s12 S0)
  case first =>
    by_cases hif : tk = wIf
    · have e1 : (tk == [105, 102]) = true := by rw [hif]; rfl
      have hs : S0 = halvesS g (f + 1) t 1 wThen 1 := by rw [HS0.out, if_pos hif]
      have HS := Lib.hid hs
      clear hs hif
      first | rw [e1] | skip
      go_wp2_with fail
      refine (HH.out _ HGd.out.below (f + 1) 1 1 wThen (by omega)).mono ?_
      rintro _ W3 ⟨v3, rfl, hs3, hb3⟩
      have HG3 := Lib.hid (Good.fresh HGd.out.below hs3 hb3)
      clear hs3 hb3
      go_wp2
      go_meet
      rw [HS.out]
      exact HG3.out
    · have e1 : (tk == [105, 102]) = false := by simpa [wIf] using hif
      have hs : S0 = [] := by rw [HS0.out, if_neg hif]
      have HS := Lib.hid hs
      clear hs hif
      first | rw [e1] | skip
      go_wp2
      go_meet
      rw [HS.out]
      exact HGd.out
  case rest =>
  obtain ⟨W3, hw3⟩ : ∃ W3, W3 = wc := ⟨_, rfl⟩
  rw [← hw3] at hcut ⊢
  obtain ⟨v3, hv3⟩ : ∃ v3, v3 = u12 := ⟨_, rfl⟩
  rw [← hv3] at hcut ⊢
  have HG3 := Lib.hid hcut
  clear hw3 hcut hv3 wc
  go_wp2_with fail
  refine (HH.out _ HG3.out.below f 2 1 wIff (by omega)).mono ?_
  rintro _ X4 ⟨x4, rfl, hs4, hb4⟩
  have HP4 := Lib.hid (HG3.out.later hb4)
  have HS4 := Lib.hid hs4
  clear hs4 hb4
  obtain ⟨Q4, hQ4⟩ : ∃ Q4, Q4 = halvesS g f t 2 wIff 1 := ⟨_, rfl⟩
  rw [← hQ4] at HS4
  have hql4 : Q4.length ≤ 1000 := by rw [hQ4]; exact HHl.out _ _ _ _
  have HQ4 := Lib.hid (And.intro hQ4 hql4)
  clear hQ4 hql4
  go_upto_region 14 with (first
    | (at_builtin; refine wpList_good_app rfl (.tmp 46) (.tmp 50) rfl rfl rfl HP4.out HS4.out (by have := HS0l.out; have := HQ4.out.2; simp; omega) ?_; intro v4 W4 hg4; have HG4 := Lib.hid hg4; clear hg4)
    | fail)
  go_wp2_with fail
  refine (HH.out _ HG4.out.below f 3 1 wOr (by omega)).mono ?_
  rintro _ X5 ⟨x5, rfl, hs5, hb5⟩
  have HP5 := Lib.hid (HG4.out.later hb5)
  have HS5 := Lib.hid hs5
  clear hs5 hb5
  obtain ⟨Q5, hQ5⟩ : ∃ Q5, Q5 = halvesS g f t 3 wOr 1 := ⟨_, rfl⟩
  rw [← hQ5] at HS5
  have hql5 : Q5.length ≤ 1000 := by rw [hQ5]; exact HHl.out _ _ _ _
  have HQ5 := Lib.hid (And.intro hQ5 hql5)
  clear hQ5 hql5
  go_upto_region 15 with (first
    | (at_builtin; refine wpList_good_app rfl (.tmp 52) (.tmp 56) rfl rfl rfl HP5.out HS5.out (by have := HS0l.out; have := HQ4.out.2; have := HQ5.out.2; simp; omega) ?_; intro v5 W5 hg5; have HG5 := Lib.hid hg5; clear hg5)
    | fail)
  go_wp2_with fail
  refine (HH.out _ HG5.out.below f 4 1 wAnd (by omega)).mono ?_
  rintro _ X6 ⟨x6, rfl, hs6, hb6⟩
  have HP6 := Lib.hid (HG5.out.later hb6)
  have HS6 := Lib.hid hs6
  clear hs6 hb6
  obtain ⟨Q6, hQ6⟩ : ∃ Q6, Q6 = halvesS g f t 4 wAnd 1 := ⟨_, rfl⟩
  rw [← hQ6] at HS6
  have hql6 : Q6.length ≤ 1000 := by rw [hQ6]; exact HHl.out _ _ _ _
  have HQ6 := Lib.hid (And.intro hQ6 hql6)
  clear hQ6 hql6
  go_upto_region 16 with (first
    | (at_builtin; refine wpList_good_app rfl (.tmp 58) (.tmp 62) rfl rfl rfl HP6.out HS6.out (by have := HS0l.out; have := HQ4.out.2; have := HQ5.out.2; have := HQ6.out.2; simp; omega) ?_; intro v6 W6 hg6; have HG6 := Lib.hid hg6; clear hg6)
    | fail)
  obtain ⟨S, hS⟩ : ∃ S, S = S0 ++ Q4 ++ Q5 ++ Q6 := ⟨_, rfl⟩
  rw [← hS] at HG6
  have hSl : S.length ≤ 4000 := by rw [hS]; have := HS0l.out; have := HQ4.out.2; have := HQ5.out.2; have := HQ6.out.2; simp; omega
  have HS := Lib.hid hS
  have HSl := Lib.hid hSl
  clear hS hSl
  go_wp2
  go_loopw [12, 13] (fun s q wr => ∃ m : Nat, f + 1 ≤ m ∧ m ≤ t ∧ q = .int .i64 m ∧ Good w wr s (S ++ saysTo f t m)) (fun _ q _ => t - (intOf q).toNat)
  case atStart => exact ⟨f + 1, Nat.le_refl _, by have := H0.out; omega, rfl, by rw [show saysTo f t (f + 1) = [] by unfold saysTo; simp, List.append_nil]; exact HG6.out⟩
  case round =>
    obtain ⟨m, hfm, hmt, rfl, hgm⟩ := hrel
    have HGm := Lib.hid hgm
    clear hgm
    by_cases hlt : m < t
    · have hd : decide ((m : Int) < (t : Int)) = true := decide_eq_true (by omega)
      have yy : IntKind.i64.wrap ((m : Int) + 1) = ((m + 1 : Nat) : Int) := by rw [show (m : Int) + 1 = ((m + 1 : Nat) : Int) by omega]; exact IntWalk.i64_in _ (by have := HT.out; have := HTl.out; omega)
      have hlen : (S ++ saysTo f t m).length + 1 ≤ 1000000 := by
        have := HSl.out; have := saysTo_len f t m; have := HT.out; have := HTl.out
        rw [List.length_append]; omega
      have HLen := Lib.hid hlen
      have HN := Lib.hid (saysTo_next f t m hfm)
      clear hlen
      go_wp2_with (first
        | (at_builtin; refine wpList_good_app rfl (.tmp 71) (.tmp 80) rfl rfl rfl ((HGm.out.alloc _).alloc _) (steps_new (B := 0) (q := ⟨5, 0, ⟨#[]⟩, some ⟨wr.heap.size, 0, none⟩, 2, 2⟩) (s := ⟨5, 0, [], [(2, f, m), (4, m, t)]⟩) (wr.heap.size + 1) (by simp) (Nat.zero_le _) ⟨rfl, rfl, rfl, spans_new _ rfl _ _ rfl _ _ rfl⟩) HLen.out ?_; intro v7 W7 hg7; have HG7 := Lib.hid hg7; clear hg7)
        | fail)
      go_roundw
      case rel => exact ⟨m + 1, by omega, by omega, by go_num, by rw [HN.out, ← List.append_assoc]; exact HG7.out⟩
      case measure => simp [intOf]; omega
    · have hd : decide ((m : Int) < (t : Int)) = false := decide_eq_false (by omega)
      obtain rfl : m = t := by omega
      go_wp2
      go_ret
      refine ⟨_, rfl, ?_, HGm.out.below⟩
      rw [HSk.out]
      have hcl : clauseS g f m = S ++ saysTo f m m := by
        unfold clauseS saysTo
        rw [HS.out, HS0.out, HQ4.out.1, HQ5.out.1, HQ6.out.1, HTk.out]
      rw [hcl]
      exact HGm.out.own
set_option maxRecDepth 100000 in
set_option maxHeartbeats 16000000 in
theorem rSteps_2 (w : World) (g : Gr) (lv tv : Value) (hg : GIn w g lv tv) (k f t : Nat) (hk : k = 2) (ht : t ≤ g.toks.length) (hf : f ≤ 1010) :
    Calls Tryz.prog 111 #[lv, tv, .agg #[.int .i64 k, .int .i64 f, .int .i64 t]] w fun e w' => ∃ v', e = .returned v' ∧ StepsR w.heap.size w' v' (stepsS g k f t) ∧ Below w.heap.size w w' := by
  have ht1 := hg.t1000
  have y0 : IntKind.i64.wrap ((t : Int) - (f : Int)) = (t : Int) - (f : Int) := IntWalk.i64_in _ (by omega)
  have HG := Lib.hid hg
  have HK := Lib.hid hk
  clear hk
  go_enter Tryz.func111, Tryz.ntmps111
  go_upto_region 1 with (fail)
  obtain ⟨W1, hW1⟩ : ∃ W1, W1 = w.alloc (.cells #[.int .i64 k, .int .i64 f, .int .i64 t] 115) := ⟨_, rfl⟩
  have hb : Below w.heap.size w W1 := by rw [hW1]; exact (Below.refl _ _).alloc (Nat.le_refl _) _
  have htb : W1.heap[w.heap.size]? = some (.cells #[.int .i64 k, .int .i64 f, .int .i64 t] 115 (0, 0)) := by rw [hW1]; exact heap_atC rfl
  rw [← hW1]
  obtain ⟨T, hT⟩ : ∃ T, T = w.heap.size := ⟨_, rfl⟩
  rw [← hT] at htb ⊢
  have c0 : W1.cell? ⟨T, 0, none⟩ = some (.int .i64 k) := (cell_rowC htb 0).trans rfl
  have c1 : W1.cell? ⟨T, 1, none⟩ = some (.int .i64 f) := (cell_rowC htb 1).trans rfl
  have c2 : W1.cell? ⟨T, 2, none⟩ = some (.int .i64 t) := (cell_rowC htb 2).trans rfl
  have m1 := fun x : Later W1 => x.get c1
  have m2 := fun x : Later W1 => x.get c2
  have HC0 := Lib.hid c0
  have HB1 := Lib.hid hb
  clear hW1 hb htb hT c0 c1 c2 hg
  go_wp2
  refine wp_region_later (by kernel_rfl) (by kernel_rfl) ?_
  repeat (go_big_quiet_step (fail))
  refine wpQuiet_nil ?_
  rintro _ ⟨x, rfl⟩
  obtain ⟨W2, hW2⟩ : ∃ W2, W2 = x.w := ⟨_, rfl⟩
  have hb2 : Below W1.heap.size W1 W2 := by rw [hW2]; exact x.below
  rw [← hW2]
  have HB2 := Lib.hid (HB1.out.trans (hb2.mono HB1.out.size))
  have c0 := cell_kept' hb2 HC0.out
  clear hW2 hb2 m1 m2 x HB1 HC0
  by_cases h0 : t ≤ f
  · have hv : stepsS g k f t = [] := by unfold stepsS; rw [if_pos h0]
    have HV := Lib.hid hv
    have d1 : decide ((t : Int) - (f : Int) < 1) = true := decide_eq_true (by omega)
    clear hv h0 HG
    go_wp2
    go_ret
    exact ⟨_, rfl, by rw [HV.out]; exact StepsR.nil _ _, HB2.out⟩
  have d1 : decide ((t : Int) - (f : Int) < 1) = false := decide_eq_false (by omega)
  obtain ⟨tb, toff, tcap, rfl, c1⟩ := HG.out.cell (i := f) (by omega)
  have b1 : (0 : Int) ≤ (f : Int) := by omega
  have b2 : (f : Int) < (g.toks.length : Int) := by omega
  have x1 := cell_kept' HB2.out c1
  obtain ⟨tk, htk⟩ : ∃ tk, tk = tokAt g f := ⟨_, rfl⟩
  rw [← htk] at x1 c1
  have HTk := Lib.hid htk
  have H0 := Lib.hid h0
  clear h0 c1 htk
  obtain ⟨sec, hsec⟩ : ∃ sec, sec = secondS g f t := ⟨_, rfl⟩
  have HSec := Lib.hid hsec
  clear hsec
  have y1 : IntKind.i64.wrap ((f : Int) + 1) = ((f + 1 : Nat) : Int) := by rw [show (f : Int) + 1 = ((f + 1 : Nat) : Int) by omega]; exact IntWalk.i64_in _ (by omega)
  go_upto_if 29 with (fail)
  go_cut [11] from 15 to 34 (fun s11 wx => s11 = .string ⟨sec.toArray⟩ ∧ wx = W2)
  case first =>
    by_cases h2 : f + 1 < t
    · have d2 : decide ((1 : Int) < (t : Int) - (f : Int)) = true := decide_eq_true (by omega)
      obtain ⟨tb', toff', tcap', he, c2⟩ := HG.out.cell (i := f + 1) (by omega)
      injection he with he1 _ he3
      injection he1 with he1
      injection he1 with he1 he2
      subst he1 he2 he3
      have x2 := cell_kept' HB2.out c2
      have b3 : (0 : Int) ≤ ((f + 1 : Nat) : Int) := by omega
      have b4 : ((f + 1 : Nat) : Int) < (g.toks.length : Int) := by omega
      have hs : sec = tokAt g (f + 1) := by rw [HSec.out]; unfold secondS; rw [if_pos h2]
      rw [← hs] at x2
      clear h2 c2 hs
      first | rw [d2] | skip
      go_wp2
      go_meet
      exact ⟨rfl, rfl⟩
    · have d2 : decide ((1 : Int) < (t : Int) - (f : Int)) = false := decide_eq_false (by omega)
      have hs : sec = [] := by rw [HSec.out]; unfold secondS; rw [if_neg h2]
      subst hs
      clear h2
      first | rw [d2] | skip
      go_wp2
      go_meet
      exact ⟨rfl, rfl⟩
  case rest =>
  obtain ⟨h11, hw2⟩ := hcut
  rw [h11, hw2]
  clear h11 hw2 wc
  go_upto_region 9 with (fail)
  obtain ⟨bv, hbv⟩ : ∃ bv, bv = Value.slice none 0 0 := ⟨_, rfl⟩
  rw [← hbv]
  have hgd : Good w W2 bv [] := by rw [hbv]; exact ⟨StepsR.nil _ _, HB2.out⟩
  have HGd := Lib.hid hgd
  have HTl : Go.RowKit.Hid (g.toks.length ≤ 1000) := Lib.hid ht1
  have HT := Lib.hid ht
  have hh := fun (W : World) (hb : Below w.heap.size w W) (f' r kind : Nat) (between : List UInt8) (hf' : f' ≤ 1001) => rHalves_any W g _ (HG.out.below hb).t f' t r kind between HT.out HTl.out hf'
  have HH := Lib.hid hh
  have hhl : ∀ f' r b kd, (halvesS g f' t r b kd).length ≤ 1000 := fun f' r b kd => by have := halves_len g f' t r b kd; have := HT.out; have := HTl.out; omega
  have HHl := Lib.hid hhl
  have he := fun (W : World) (hb : Below w.heap.size w W) (third : Bool) q s hr hq => rEnts W g lv _ (HG.out.below hb) tk third q s hr hq
  have HE := Lib.hid he
  have hel : ∀ third s, (entsS g tk third s).length ≤ 100 := fun third s => stp_ents_len g tk third s (look100 HG.out tk)
  have HEl := Lib.hid hel
  have hf1 : f ≤ 1000 := by have := H0.out; omega
  clear hbv hgd hh hhl he hel ht1 ht x1
  have hst : stepsS g k f t = if k = 1 then clauseS g f t else if k = 2 then nounPS g f t else if k = 3 then nounS' g f t else if k = 4 then verbPS g f t else if k = 5 then (if t = f + 1 then entsS g (tokAt g f) true ⟨19, 0, [], []⟩ else []) else if k = 6 then verbsS g f t false else if k = 7 then statesS g f t else [] := by
    unfold stepsS
    rw [if_neg H0.out]
  rw [← HTk.out] at hst
  have HSt := Lib.hid hst
  clear hst
  have hk := HK.out
  clear HK
  subst hk
  have HSk := Lib.hid (show stepsS g 2 f t = nounPS g f t from HSt.out)
  by_cases h : t = f + 1
  · have d2 : ((t : Int) - (f : Int) == 1) = true := by simp; omega
    have HH1 := Lib.hid h
    have hcall := HE.out W2 HGd.out.below false ⟨6, 0, ⟨#[]⟩, none, 0, 0⟩ ⟨6, 0, [], []⟩ (Nat.le_of_ble_eq_true rfl) ⟨rfl, rfl, rfl, .inl ⟨rfl, rfl⟩⟩
    unfold TV.val at hcall
    have HCall := Lib.hid hcall
    clear h hcall
    go_wp2_with fail
    refine HCall.out.mono ?_
    rintro _ W3 ⟨v3, rfl, hs3, hb3⟩
    have HG3 := Lib.hid (Good.fresh HGd.out.below hs3 hb3)
    clear hs3 hb3
    go_wp2
    go_ret
    refine ⟨_, rfl, ?_, HG3.out.below⟩
    rw [HSk.out]
    unfold nounPS
    rw [if_pos HH1.out, ← HTk.out]
    exact HG3.out.own
  · have d2 : ((t : Int) - (f : Int) == 1) = false := by simp; omega
    have hnp : nounPS g f t = if tk = wA ∨ tk = [97, 110] then (if tk = articleS sec then [⟨7, 0, wA, [(3, f + 1, t)]⟩] else []) else if tk ∈ [wEvery, wEach, wSome, wNo] then [⟨7, 0, tk, [(3, f + 1, t)]⟩] else [] := by
      unfold nounPS
      rw [if_neg h, ← HTk.out, ← HSec.out]
    have HNp := Lib.hid hnp
    have hf1t : f + 1 < t := by have := H0.out; omega
    have hart := fun W => rArticleL sec W
    have HArt := Lib.hid hart
    have hw7 := fun W x => rWord_any W 7 x
    have HW7 := Lib.hid hw7
    clear h hnp hart hw7 hf1t
    by_cases ha : tk = wA ∨ tk = [97, 110]
    · obtain ⟨ar, har⟩ : ∃ ar, ar = articleS sec := ⟨_, rfl⟩
      rw [← har] at HArt HNp
      have HA := Lib.hid ha
      clear har
      have e1 : ((tk == [97]) = true) ∨ ((tk == [97]) = false ∧ (tk == [97, 110]) = true) := by
        rcases ha with h | h
        · exact .inl (by rw [h]; rfl)
        · exact .inr (by rw [h]; exact ⟨rfl, rfl⟩)
      clear ha
      by_cases hq : tk = ar
      · have e3 : (tk != ar) = false := by simpa using hq
        have e3' : (tk == ar) = true := by simpa using hq
        have HQ := Lib.hid hq
        have hword : wordOk (shapeS 7).words wA = true := by rw [word7_is]; decide
        have HWd := Lib.hid hword
        clear hq hword
        rcases e1 with e1 | ⟨e1, e2⟩
        all_goals
          go_wp2_with fail
          refine (HArt.out _).mono ?_
          rintro _ _ ⟨rfl, rfl⟩
          go_wp2_with fail
          refine (HW7.out _ wA).mono ?_
          rintro _ W3 ⟨rfl, hb3⟩
          rw [HWd.out]
          have HG3 := Lib.hid (HGd.out.later hb3)
          clear hb3
          go_wp2_with (first
            | (at_builtin; refine wpList_good_app rfl (.tmp 103) (.tmp 111) rfl rfl rfl ((HG3.out.alloc _).alloc _) (steps_new (B := 0) (q := ⟨7, 0, ⟨#[97]⟩, some ⟨W3.heap.size, 0, none⟩, 1, 1⟩) (s := ⟨7, 0, wA, [(3, f + 1, t)]⟩) (W3.heap.size + 1) (by simp) (Nat.zero_le _) ⟨rfl, rfl, rfl, spans_new _ rfl _ _ rfl _ _ rfl⟩) (by simp) ?_; intro v7 W7 hg7; have HG7 := Lib.hid hg7; clear hg7)
            | fail)
          go_ret
          refine ⟨_, rfl, ?_, HG7.out.below⟩
          rw [HSk.out, HNp.out, if_pos HA.out, if_pos HQ.out]
          exact HG7.out.own
      · have e3 : (tk != ar) = true := by simpa using hq
        have e3' : (tk == ar) = false := by simpa using hq
        have HQ := Lib.hid hq
        clear hq
        rcases e1 with e1 | ⟨e1, e2⟩
        all_goals
          go_wp2_with fail
          refine (HArt.out _).mono ?_
          rintro _ _ ⟨rfl, rfl⟩
          go_wp2
          go_ret
          refine ⟨_, rfl, ?_, HB2.out⟩
          rw [HSk.out, HNp.out, if_pos HA.out, if_neg HQ.out]
          exact StepsR.nil _ _
    · have e1 : (tk == [97]) = false := by simp; exact fun h => ha (.inl h)
      have e2 : (tk == [97, 110]) = false := by simp; exact fun h => ha (.inr h)
      have HA := Lib.hid ha
      by_cases hm : tk ∈ [wEvery, wEach, wSome, wNo]
      · have hword : wordOk (shapeS 7).words tk = true := by
          rw [word7_is, decide_eq_true_iff]
          simp only [List.mem_cons, List.not_mem_nil, or_false] at hm ⊢
          rcases hm with h | h | h | h
          · exact .inl h
          · exact .inr (.inl h)
          · exact .inr (.inr (.inl h))
          · exact .inr (.inr (.inr (.inl h)))
        have HWd := Lib.hid hword
        have HM := Lib.hid hm
        clear ha hword hm
        go_wp2_with fail
        refine (HW7.out _ tk).mono ?_
        rintro _ W3 ⟨rfl, hb3⟩
        rw [HWd.out]
        have HG3 := Lib.hid (HGd.out.later hb3)
        clear hb3
        go_wp2_with (first
          | (at_builtin; refine wpList_good_app rfl (.tmp 103) (.tmp 111) rfl rfl rfl ((HG3.out.alloc _).alloc _) (steps_new (B := 0) (q := ⟨7, 0, ⟨tk.toArray⟩, some ⟨W3.heap.size, 0, none⟩, 1, 1⟩) (s := ⟨7, 0, tk, [(3, f + 1, t)]⟩) (W3.heap.size + 1) (by simp) (Nat.zero_le _) ⟨rfl, rfl, rfl, spans_new _ rfl _ _ rfl _ _ rfl⟩) (by simp) ?_; intro v7 W7 hg7; have HG7 := Lib.hid hg7; clear hg7)
          | fail)
        go_ret
        refine ⟨_, rfl, ?_, HG7.out.below⟩
        rw [HSk.out, HNp.out, if_neg HA.out, if_pos HM.out]
        exact HG7.out.own
      · have hword : wordOk (shapeS 7).words tk = false := by
          rw [word7_is, decide_eq_false_iff_not]
          intro h
          simp only [List.mem_cons, List.not_mem_nil, or_false] at hm h
          rcases h with h | h | h | h | h
          · exact hm (.inl h)
          · exact hm (.inr (.inl h))
          · exact hm (.inr (.inr (.inl h)))
          · exact hm (.inr (.inr (.inr h)))
          · exact ha (.inl h)
        have HWd := Lib.hid hword
        have HM := Lib.hid hm
        clear ha hword hm
        go_wp2_with fail
        refine (HW7.out _ tk).mono ?_
        rintro _ W3 ⟨rfl, hb3⟩
        rw [HWd.out]
        have HG3 := Lib.hid (HGd.out.later hb3)
        clear hb3
        go_wp2
        go_ret
        refine ⟨_, rfl, ?_, HG3.out.below⟩
        rw [HSk.out, HNp.out, if_neg HA.out, if_neg HM.out]
        exact HG3.out.own
set_option maxRecDepth 100000 in
set_option maxHeartbeats 16000000 in
theorem rSteps_3 (w : World) (g : Gr) (lv tv : Value) (hg : GIn w g lv tv) (k f t : Nat) (hk : k = 3) (ht : t ≤ g.toks.length) (hf : f ≤ 1010) :
    Calls Tryz.prog 111 #[lv, tv, .agg #[.int .i64 k, .int .i64 f, .int .i64 t]] w fun e w' => ∃ v', e = .returned v' ∧ StepsR w.heap.size w' v' (stepsS g k f t) ∧ Below w.heap.size w w' := by
  have ht1 := hg.t1000
  have y0 : IntKind.i64.wrap ((t : Int) - (f : Int)) = (t : Int) - (f : Int) := IntWalk.i64_in _ (by omega)
  have HG := Lib.hid hg
  have HK := Lib.hid hk
  clear hk
  go_enter Tryz.func111, Tryz.ntmps111
  go_upto_region 1 with (fail)
  obtain ⟨W1, hW1⟩ : ∃ W1, W1 = w.alloc (.cells #[.int .i64 k, .int .i64 f, .int .i64 t] 115) := ⟨_, rfl⟩
  have hb : Below w.heap.size w W1 := by rw [hW1]; exact (Below.refl _ _).alloc (Nat.le_refl _) _
  have htb : W1.heap[w.heap.size]? = some (.cells #[.int .i64 k, .int .i64 f, .int .i64 t] 115 (0, 0)) := by rw [hW1]; exact heap_atC rfl
  rw [← hW1]
  obtain ⟨T, hT⟩ : ∃ T, T = w.heap.size := ⟨_, rfl⟩
  rw [← hT] at htb ⊢
  have c0 : W1.cell? ⟨T, 0, none⟩ = some (.int .i64 k) := (cell_rowC htb 0).trans rfl
  have c1 : W1.cell? ⟨T, 1, none⟩ = some (.int .i64 f) := (cell_rowC htb 1).trans rfl
  have c2 : W1.cell? ⟨T, 2, none⟩ = some (.int .i64 t) := (cell_rowC htb 2).trans rfl
  have m1 := fun x : Later W1 => x.get c1
  have m2 := fun x : Later W1 => x.get c2
  have HC0 := Lib.hid c0
  have HB1 := Lib.hid hb
  clear hW1 hb htb hT c0 c1 c2 hg
  go_wp2
  refine wp_region_later (by kernel_rfl) (by kernel_rfl) ?_
  repeat (go_big_quiet_step (fail))
  refine wpQuiet_nil ?_
  rintro _ ⟨x, rfl⟩
  obtain ⟨W2, hW2⟩ : ∃ W2, W2 = x.w := ⟨_, rfl⟩
  have hb2 : Below W1.heap.size W1 W2 := by rw [hW2]; exact x.below
  rw [← hW2]
  have HB2 := Lib.hid (HB1.out.trans (hb2.mono HB1.out.size))
  have c0 := cell_kept' hb2 HC0.out
  clear hW2 hb2 m1 m2 x HB1 HC0
  by_cases h0 : t ≤ f
  · have hv : stepsS g k f t = [] := by unfold stepsS; rw [if_pos h0]
    have HV := Lib.hid hv
    have d1 : decide ((t : Int) - (f : Int) < 1) = true := decide_eq_true (by omega)
    clear hv h0 HG
    go_wp2
    go_ret
    exact ⟨_, rfl, by rw [HV.out]; exact StepsR.nil _ _, HB2.out⟩
  have d1 : decide ((t : Int) - (f : Int) < 1) = false := decide_eq_false (by omega)
  obtain ⟨tb, toff, tcap, rfl, c1⟩ := HG.out.cell (i := f) (by omega)
  have b1 : (0 : Int) ≤ (f : Int) := by omega
  have b2 : (f : Int) < (g.toks.length : Int) := by omega
  have x1 := cell_kept' HB2.out c1
  obtain ⟨tk, htk⟩ : ∃ tk, tk = tokAt g f := ⟨_, rfl⟩
  rw [← htk] at x1 c1
  have HTk := Lib.hid htk
  have H0 := Lib.hid h0
  clear h0 c1 htk
  obtain ⟨sec, hsec⟩ : ∃ sec, sec = secondS g f t := ⟨_, rfl⟩
  have HSec := Lib.hid hsec
  clear hsec
  have y1 : IntKind.i64.wrap ((f : Int) + 1) = ((f + 1 : Nat) : Int) := by rw [show (f : Int) + 1 = ((f + 1 : Nat) : Int) by omega]; exact IntWalk.i64_in _ (by omega)
  go_upto_if 29 with (fail)
  go_cut [11] from 15 to 34 (fun s11 wx => s11 = .string ⟨sec.toArray⟩ ∧ wx = W2)
  case first =>
    by_cases h2 : f + 1 < t
    · have d2 : decide ((1 : Int) < (t : Int) - (f : Int)) = true := decide_eq_true (by omega)
      obtain ⟨tb', toff', tcap', he, c2⟩ := HG.out.cell (i := f + 1) (by omega)
      injection he with he1 _ he3
      injection he1 with he1
      injection he1 with he1 he2
      subst he1 he2 he3
      have x2 := cell_kept' HB2.out c2
      have b3 : (0 : Int) ≤ ((f + 1 : Nat) : Int) := by omega
      have b4 : ((f + 1 : Nat) : Int) < (g.toks.length : Int) := by omega
      have hs : sec = tokAt g (f + 1) := by rw [HSec.out]; unfold secondS; rw [if_pos h2]
      rw [← hs] at x2
      clear h2 c2 hs
      first | rw [d2] | skip
      go_wp2
      go_meet
      exact ⟨rfl, rfl⟩
    · have d2 : decide ((1 : Int) < (t : Int) - (f : Int)) = false := decide_eq_false (by omega)
      have hs : sec = [] := by rw [HSec.out]; unfold secondS; rw [if_neg h2]
      subst hs
      clear h2
      first | rw [d2] | skip
      go_wp2
      go_meet
      exact ⟨rfl, rfl⟩
  case rest =>
  obtain ⟨h11, hw2⟩ := hcut
  rw [h11, hw2]
  clear h11 hw2 wc
  go_upto_region 9 with (fail)
  obtain ⟨bv, hbv⟩ : ∃ bv, bv = Value.slice none 0 0 := ⟨_, rfl⟩
  rw [← hbv]
  have hgd : Good w W2 bv [] := by rw [hbv]; exact ⟨StepsR.nil _ _, HB2.out⟩
  have HGd := Lib.hid hgd
  have HTl : Go.RowKit.Hid (g.toks.length ≤ 1000) := Lib.hid ht1
  have HT := Lib.hid ht
  have hh := fun (W : World) (hb : Below w.heap.size w W) (f' r kind : Nat) (between : List UInt8) (hf' : f' ≤ 1001) => rHalves_any W g _ (HG.out.below hb).t f' t r kind between HT.out HTl.out hf'
  have HH := Lib.hid hh
  have hhl : ∀ f' r b kd, (halvesS g f' t r b kd).length ≤ 1000 := fun f' r b kd => by have := halves_len g f' t r b kd; have := HT.out; have := HTl.out; omega
  have HHl := Lib.hid hhl
  have he := fun (W : World) (hb : Below w.heap.size w W) (third : Bool) q s hr hq => rEnts W g lv _ (HG.out.below hb) tk third q s hr hq
  have HE := Lib.hid he
  have hel : ∀ third s, (entsS g tk third s).length ≤ 100 := fun third s => stp_ents_len g tk third s (look100 HG.out tk)
  have HEl := Lib.hid hel
  have hf1 : f ≤ 1000 := by have := H0.out; omega
  clear hbv hgd hh hhl he hel ht1 ht x1
  have hst : stepsS g k f t = if k = 1 then clauseS g f t else if k = 2 then nounPS g f t else if k = 3 then nounS' g f t else if k = 4 then verbPS g f t else if k = 5 then (if t = f + 1 then entsS g (tokAt g f) true ⟨19, 0, [], []⟩ else []) else if k = 6 then verbsS g f t false else if k = 7 then statesS g f t else [] := by
    unfold stepsS
    rw [if_neg H0.out]
  rw [← HTk.out] at hst
  have HSt := Lib.hid hst
  clear hst
  have hk := HK.out
  clear HK
  subst hk
  have HSk := Lib.hid (show stepsS g 3 f t = nounS' g f t from HSt.out)
  by_cases h : t = f + 1
  · have d2 : ((t : Int) - (f : Int) == 1) = true := by simp; omega
    have HH1 := Lib.hid h
    have hcall := HE.out W2 HGd.out.below false ⟨8, 0, ⟨#[]⟩, none, 0, 0⟩ ⟨8, 0, [], []⟩ (Nat.le_of_ble_eq_true rfl) ⟨rfl, rfl, rfl, .inl ⟨rfl, rfl⟩⟩
    unfold TV.val at hcall
    have HCall := Lib.hid hcall
    clear h hcall
    go_wp2_with fail
    refine HCall.out.mono ?_
    rintro _ W3 ⟨v3, rfl, hs3, hb3⟩
    have HG3 := Lib.hid (Good.fresh HGd.out.below hs3 hb3)
    clear hs3 hb3
    go_wp2
    go_ret
    refine ⟨_, rfl, ?_, HG3.out.below⟩
    rw [HSk.out]
    unfold nounS'
    rw [if_pos HH1.out, ← HTk.out]
    exact HG3.out.own
  · have d2 : ((t : Int) - (f : Int) == 1) = false := by simp; omega
    have hf1t : f + 1 < t := by have := H0.out; omega
    have hnp : nounS' g f t = entsS g tk false ⟨9, 0, [], [(3, f + 1, t)]⟩ ++ (if (sec = wWho ∨ sec = wThat) ∧ f + 2 < t then entsS g tk false ⟨10, 0, sec, [(4, f + 2, t)]⟩ ++ entsS g tk false ⟨11, 0, sec, [(2, f + 2, t - 1), (5, t - 1, t)]⟩ else []) := by
      unfold nounS'
      rw [if_neg h, ← HTk.out, ← HSec.out]
    have HNp := Lib.hid hnp
    have y2 : IntKind.i64.wrap ((f : Int) + 2) = ((f + 2 : Nat) : Int) := by rw [show (f : Int) + 2 = ((f + 2 : Nat) : Int) by omega]; exact IntWalk.i64_in _ (by omega)
    have y3 : IntKind.i64.wrap ((t : Int) - 1) = ((t - 1 : Nat) : Int) := by rw [show (t : Int) - 1 = ((t - 1 : Nat) : Int) by omega]; exact IntWalk.i64_in _ (by have := HT.out; have := HTl.out; omega)
    have hw10 := fun W x => rWord_any W 10 x
    have HW10 := Lib.hid hw10
    clear h hnp hw10
    go_wp2_with fail
    refine (HE.out _ (HGd.out.alloc _).below false ⟨9, 0, ⟨#[]⟩, some ⟨W2.heap.size, 0, none⟩, 1, 1⟩ ⟨9, 0, [], [(3, f + 1, t)]⟩ (Nat.le_of_ble_eq_true rfl) ⟨rfl, rfl, rfl, spans_new _ rfl _ _ rfl _ _ rfl⟩).mono ?_
    rintro _ W3 ⟨v3, rfl, hs3, hb3⟩
    have HG3 := Lib.hid (Good.fresh (HGd.out.alloc _).below hs3 hb3)
    clear hs3 hb3
    obtain ⟨Q3, hQ3⟩ : ∃ Q3, Q3 = entsS g tk false ⟨9, 0, [], [(3, f + 1, t)]⟩ := ⟨_, rfl⟩
    rw [← hQ3] at HG3 HNp
    have HQ3 := Lib.hid (show Q3.length ≤ 100 by rw [hQ3]; exact HEl.out _ _)
    clear hQ3
    go_wp2_with fail
    refine (HW10.out _ sec).mono ?_
    rintro _ W4 ⟨rfl, hb4⟩
    have HG4 := Lib.hid (HG3.out.later hb4)
    clear hb4
    by_cases hrel : sec = wWho ∨ sec = wThat
    · have hword : wordOk (shapeS 10).words sec = true := by rw [word10_is, decide_eq_true_iff]; exact hrel
      rw [hword]
      have HR := Lib.hid hrel
      clear hword hrel
      by_cases h2 : f + 2 < t
      · have d3 : decide ((2 : Int) < (t : Int) - (f : Int)) = true := decide_eq_true (by omega)
        have H2 := Lib.hid h2
        go_wp2_with fail
        refine (HE.out _ (HG4.out.alloc _).below false ⟨10, 0, ⟨sec.toArray⟩, some ⟨W4.heap.size, 0, none⟩, 1, 1⟩ ⟨10, 0, sec, [(4, f + 2, t)]⟩ (Nat.le_of_ble_eq_true rfl) ⟨rfl, rfl, rfl, spans_new _ rfl _ _ rfl _ _ rfl⟩).mono ?_
        rintro _ W5 ⟨v5, rfl, hs5, hb5⟩
        have HP5 := Lib.hid ((HG4.out.alloc _).later hb5)
        have HS5 := Lib.hid hs5
        clear hs5 hb5
        obtain ⟨Q5, hQ5⟩ : ∃ Q5, Q5 = entsS g tk false ⟨10, 0, sec, [(4, f + 2, t)]⟩ := ⟨_, rfl⟩
        rw [← hQ5] at HS5 HNp
        have HQ5 := Lib.hid (show Q5.length ≤ 100 by rw [hQ5]; exact HEl.out _ _)
        clear hQ5
        go_upto_region 36 with (first
          | (at_builtin; refine wpList_good_app rfl (.tmp 136) (.tmp 146) rfl rfl rfl HP5.out HS5.out (by have := HQ3.out; have := HQ5.out; omega) ?_; intro v6 W6 hg6; have HG6 := Lib.hid hg6; clear hg6)
          | fail)
        go_wp2_with fail
        refine (HE.out _ (HG6.out.alloc _).below false ⟨11, 0, ⟨sec.toArray⟩, some ⟨W6.heap.size, 0, none⟩, 2, 2⟩ ⟨11, 0, sec, [(2, f + 2, t - 1), (5, t - 1, t)]⟩ (Nat.le_of_ble_eq_true rfl) ⟨rfl, rfl, rfl, spans_new _ rfl _ _ rfl _ _ rfl⟩).mono ?_
        rintro _ W7 ⟨v7, rfl, hs7, hb7⟩
        have HP7 := Lib.hid ((HG6.out.alloc _).later hb7)
        have HS7 := Lib.hid hs7
        clear hs7 hb7
        obtain ⟨Q7, hQ7⟩ : ∃ Q7, Q7 = entsS g tk false ⟨11, 0, sec, [(2, f + 2, t - 1), (5, t - 1, t)]⟩ := ⟨_, rfl⟩
        rw [← hQ7] at HS7 HNp
        have HQ7 := Lib.hid (show Q7.length ≤ 100 by rw [hQ7]; exact HEl.out _ _)
        clear hQ7
        go_wp2_with (first
          | (at_builtin; refine wpList_good_app rfl (.tmp 148) (.tmp 163) rfl rfl rfl HP7.out HS7.out (by have := HQ3.out; have := HQ5.out; have := HQ7.out; simp; omega) ?_; intro v8 W8 hg8; have HG8 := Lib.hid hg8; clear hg8)
          | fail)
        go_ret
        refine ⟨_, rfl, ?_, HG8.out.below⟩
        rw [HSk.out, HNp.out, if_pos ⟨HR.out, H2.out⟩, ← List.append_assoc]
        exact HG8.out.own
      · have d3 : decide ((2 : Int) < (t : Int) - (f : Int)) = false := decide_eq_false (by omega)
        have H2 := Lib.hid h2
        clear h2
        go_wp2
        go_ret
        refine ⟨_, rfl, ?_, HG4.out.below⟩
        rw [HSk.out, HNp.out, if_neg (fun x => H2.out x.2), List.append_nil]
        exact HG4.out.own
    · have hword : wordOk (shapeS 10).words sec = false := by rw [word10_is, decide_eq_false_iff_not]; exact hrel
      rw [hword]
      have HR := Lib.hid hrel
      clear hword hrel
      go_wp2
      go_ret
      refine ⟨_, rfl, ?_, HG4.out.below⟩
      rw [HSk.out, HNp.out, if_neg (fun x => HR.out x.1), List.append_nil]
      exact HG4.out.own
set_option maxRecDepth 100000 in
set_option maxHeartbeats 16000000 in
theorem rSteps_4 (w : World) (g : Gr) (lv tv : Value) (hg : GIn w g lv tv) (k f t : Nat) (hk : k = 4) (ht : t ≤ g.toks.length) (hf : f ≤ 1010) :
    Calls Tryz.prog 111 #[lv, tv, .agg #[.int .i64 k, .int .i64 f, .int .i64 t]] w fun e w' => ∃ v', e = .returned v' ∧ StepsR w.heap.size w' v' (stepsS g k f t) ∧ Below w.heap.size w w' := by
  have ht1 := hg.t1000
  have y0 : IntKind.i64.wrap ((t : Int) - (f : Int)) = (t : Int) - (f : Int) := IntWalk.i64_in _ (by omega)
  have HG := Lib.hid hg
  have HK := Lib.hid hk
  clear hk
  go_enter Tryz.func111, Tryz.ntmps111
  go_upto_region 1 with (fail)
  obtain ⟨W1, hW1⟩ : ∃ W1, W1 = w.alloc (.cells #[.int .i64 k, .int .i64 f, .int .i64 t] 115) := ⟨_, rfl⟩
  have hb : Below w.heap.size w W1 := by rw [hW1]; exact (Below.refl _ _).alloc (Nat.le_refl _) _
  have htb : W1.heap[w.heap.size]? = some (.cells #[.int .i64 k, .int .i64 f, .int .i64 t] 115 (0, 0)) := by rw [hW1]; exact heap_atC rfl
  rw [← hW1]
  obtain ⟨T, hT⟩ : ∃ T, T = w.heap.size := ⟨_, rfl⟩
  rw [← hT] at htb ⊢
  have c0 : W1.cell? ⟨T, 0, none⟩ = some (.int .i64 k) := (cell_rowC htb 0).trans rfl
  have c1 : W1.cell? ⟨T, 1, none⟩ = some (.int .i64 f) := (cell_rowC htb 1).trans rfl
  have c2 : W1.cell? ⟨T, 2, none⟩ = some (.int .i64 t) := (cell_rowC htb 2).trans rfl
  have m1 := fun x : Later W1 => x.get c1
  have m2 := fun x : Later W1 => x.get c2
  have HC0 := Lib.hid c0
  have HB1 := Lib.hid hb
  clear hW1 hb htb hT c0 c1 c2 hg
  go_wp2
  refine wp_region_later (by kernel_rfl) (by kernel_rfl) ?_
  repeat (go_big_quiet_step (fail))
  refine wpQuiet_nil ?_
  rintro _ ⟨x, rfl⟩
  obtain ⟨W2, hW2⟩ : ∃ W2, W2 = x.w := ⟨_, rfl⟩
  have hb2 : Below W1.heap.size W1 W2 := by rw [hW2]; exact x.below
  rw [← hW2]
  have HB2 := Lib.hid (HB1.out.trans (hb2.mono HB1.out.size))
  have c0 := cell_kept' hb2 HC0.out
  clear hW2 hb2 m1 m2 x HB1 HC0
  by_cases h0 : t ≤ f
  · have hv : stepsS g k f t = [] := by unfold stepsS; rw [if_pos h0]
    have HV := Lib.hid hv
    have d1 : decide ((t : Int) - (f : Int) < 1) = true := decide_eq_true (by omega)
    clear hv h0 HG
    go_wp2
    go_ret
    exact ⟨_, rfl, by rw [HV.out]; exact StepsR.nil _ _, HB2.out⟩
  have d1 : decide ((t : Int) - (f : Int) < 1) = false := decide_eq_false (by omega)
  obtain ⟨tb, toff, tcap, rfl, c1⟩ := HG.out.cell (i := f) (by omega)
  have b1 : (0 : Int) ≤ (f : Int) := by omega
  have b2 : (f : Int) < (g.toks.length : Int) := by omega
  have x1 := cell_kept' HB2.out c1
  obtain ⟨tk, htk⟩ : ∃ tk, tk = tokAt g f := ⟨_, rfl⟩
  rw [← htk] at x1 c1
  have HTk := Lib.hid htk
  have H0 := Lib.hid h0
  clear h0 c1 htk
  obtain ⟨sec, hsec⟩ : ∃ sec, sec = secondS g f t := ⟨_, rfl⟩
  have HSec := Lib.hid hsec
  clear hsec
  have y1 : IntKind.i64.wrap ((f : Int) + 1) = ((f + 1 : Nat) : Int) := by rw [show (f : Int) + 1 = ((f + 1 : Nat) : Int) by omega]; exact IntWalk.i64_in _ (by omega)
  go_upto_if 29 with (fail)
  go_cut [11] from 15 to 34 (fun s11 wx => s11 = .string ⟨sec.toArray⟩ ∧ wx = W2)
  case first =>
    by_cases h2 : f + 1 < t
    · have d2 : decide ((1 : Int) < (t : Int) - (f : Int)) = true := decide_eq_true (by omega)
      obtain ⟨tb', toff', tcap', he, c2⟩ := HG.out.cell (i := f + 1) (by omega)
      injection he with he1 _ he3
      injection he1 with he1
      injection he1 with he1 he2
      subst he1 he2 he3
      have x2 := cell_kept' HB2.out c2
      have b3 : (0 : Int) ≤ ((f + 1 : Nat) : Int) := by omega
      have b4 : ((f + 1 : Nat) : Int) < (g.toks.length : Int) := by omega
      have hs : sec = tokAt g (f + 1) := by rw [HSec.out]; unfold secondS; rw [if_pos h2]
      rw [← hs] at x2
      clear h2 c2 hs
      first | rw [d2] | skip
      go_wp2
      go_meet
      exact ⟨rfl, rfl⟩
    · have d2 : decide ((1 : Int) < (t : Int) - (f : Int)) = false := decide_eq_false (by omega)
      have hs : sec = [] := by rw [HSec.out]; unfold secondS; rw [if_neg h2]
      subst hs
      clear h2
      first | rw [d2] | skip
      go_wp2
      go_meet
      exact ⟨rfl, rfl⟩
  case rest =>
  obtain ⟨h11, hw2⟩ := hcut
  rw [h11, hw2]
  clear h11 hw2 wc
  go_upto_region 9 with (fail)
  obtain ⟨bv, hbv⟩ : ∃ bv, bv = Value.slice none 0 0 := ⟨_, rfl⟩
  rw [← hbv]
  have hgd : Good w W2 bv [] := by rw [hbv]; exact ⟨StepsR.nil _ _, HB2.out⟩
  have HGd := Lib.hid hgd
  have HTl : Go.RowKit.Hid (g.toks.length ≤ 1000) := Lib.hid ht1
  have HT := Lib.hid ht
  have hh := fun (W : World) (hb : Below w.heap.size w W) (f' r kind : Nat) (between : List UInt8) (hf' : f' ≤ 1001) => rHalves_any W g _ (HG.out.below hb).t f' t r kind between HT.out HTl.out hf'
  have HH := Lib.hid hh
  have hhl : ∀ f' r b kd, (halvesS g f' t r b kd).length ≤ 1000 := fun f' r b kd => by have := halves_len g f' t r b kd; have := HT.out; have := HTl.out; omega
  have HHl := Lib.hid hhl
  have he := fun (W : World) (hb : Below w.heap.size w W) (third : Bool) q s hr hq => rEnts W g lv _ (HG.out.below hb) tk third q s hr hq
  have HE := Lib.hid he
  have hel : ∀ third s, (entsS g tk third s).length ≤ 100 := fun third s => stp_ents_len g tk third s (look100 HG.out tk)
  have HEl := Lib.hid hel
  have hf1 : f ≤ 1000 := by have := H0.out; omega
  clear hbv hgd hh hhl he hel ht1 ht x1
  have hst : stepsS g k f t = if k = 1 then clauseS g f t else if k = 2 then nounPS g f t else if k = 3 then nounS' g f t else if k = 4 then verbPS g f t else if k = 5 then (if t = f + 1 then entsS g (tokAt g f) true ⟨19, 0, [], []⟩ else []) else if k = 6 then verbsS g f t false else if k = 7 then statesS g f t else [] := by
    unfold stepsS
    rw [if_neg H0.out]
  rw [← HTk.out] at hst
  have HSt := Lib.hid hst
  clear hst
  have hk := HK.out
  clear HK
  subst hk
  have HSk := Lib.hid (show stepsS g 4 f t = verbPS g f t from HSt.out)
  have y2 : IntKind.i64.wrap ((f : Int) + 2) = ((f + 2 : Nat) : Int) := by rw [show (f : Int) + 2 = ((f + 2 : Nat) : Int) by omega]; exact IntWalk.i64_in _ (by omega)
  have hcall := rVerbs_any W2 g lv _ (HG.out.below HGd.out.below) f t true HT.out (by omega)
  have HCall := Lib.hid hcall
  have hst := fun W (hb : Below w.heap.size w W) => rStates_any W g lv _ (HG.out.below hb) (f + 1) t HT.out (by omega)
  have HStt := Lib.hid hst
  have HVl := Lib.hid (show (verbsS g f t true).length ≤ 100 from verbs_len g f t true (fun x => look100 HG.out x))
  have HSl := Lib.hid (show (statesS g (f + 1) t).length ≤ 100 from states_len g (f + 1) t (fun x => look100 HG.out x) (by decide))
  clear hcall hst
  obtain ⟨P3, hP3⟩ : ∃ P3, P3 = verbsS g f t true := ⟨_, rfl⟩
  rw [← hP3] at HCall HVl
  have HP3 := Lib.hid hP3
  clear hP3
  go_wp2_with fail
  refine HCall.out.mono ?_
  rintro _ W3 ⟨v3, rfl, hs3, hb3⟩
  have HG3 := Lib.hid (Good.fresh HGd.out.below hs3 hb3)
  clear hs3 hb3
  obtain ⟨Q4, hQ4⟩ : ∃ Q4 : List StepS, Q4 = if tk = wIs then statesS g (f + 1) t else [] := ⟨_, rfl⟩
  have HQ4 := Lib.hid hQ4
  have HQl4 := Lib.hid (show Q4.length ≤ 100 by rw [hQ4]; split; exact HSl.out; simp)
  clear hQ4
  go_upto_if 173 with (fail)
  go_cut [12] from 167 to 173 (fun s12 wx => Good w wx s12 (P3 ++ Q4))
  case first =>
    by_cases hc1 : tk = wIs
    · have e1 : (tk == [105, 115]) = true := by rw [hc1]; rfl
      have hq : Q4 = statesS g (f + 1) t := by rw [HQ4.out, if_pos hc1]
      have HQ := Lib.hid hq
      clear hc1 hq
      first | rw [e1] | skip
      go_wp2_with fail
      refine (HStt.out _ HG3.out.below).mono ?_
      rintro _ W8 ⟨v8, rfl, hs8, hb8⟩
      have HP8 := Lib.hid (HG3.out.later hb8)
      rw [← HQ.out] at hs8
      have HS8 := Lib.hid hs8
      clear hs8 hb8
      go_wp2_with (first
        | (at_builtin; refine wpList_good_app rfl (.tmp 174) (.tmp 180) rfl rfl rfl HP8.out HS8.out (by have := HVl.out; have := HQl4.out; omega) ?_; intro v9 W9 hg9; have HG9 := Lib.hid hg9; clear hg9)
        | fail)
      go_meet
      exact HG9.out
    · have e1 : (tk == [105, 115]) = false := by simpa [wIs] using hc1
      have hq : Q4 = [] := by rw [HQ4.out, if_neg hc1]
      have HQ := Lib.hid hq
      clear hc1 hq
      first | rw [e1] | skip
      go_wp2
      go_meet
      rw [HQ.out, List.append_nil]
      exact HG3.out
  case rest =>
  obtain ⟨W4, hw4⟩ : ∃ W4, W4 = wc := ⟨_, rfl⟩
  rw [← hw4] at hcut ⊢
  obtain ⟨v4, hv4⟩ : ∃ v4, v4 = u12 := ⟨_, rfl⟩
  rw [← hv4] at hcut ⊢
  have HG4 := Lib.hid hcut
  clear hw4 hcut hv4 wc
  obtain ⟨P4, hP4⟩ : ∃ P4, P4 = P3 ++ Q4 := ⟨_, rfl⟩
  rw [← hP4] at HG4
  have HL4 := Lib.hid (show P4.length ≤ 200 by rw [hP4, List.length_append]; have := HVl.out; have := HQl4.out; omega)
  have HP4 := Lib.hid hP4
  clear hP4
  obtain ⟨Q5, hQ5⟩ : ∃ Q5 : List StepS, Q5 = if tk = wDoes ∧ sec = wNot then [⟨16, 0, [], [(6, f + 2, t)]⟩] else [] := ⟨_, rfl⟩
  have HQ5 := Lib.hid hQ5
  have HQl5 := Lib.hid (show Q5.length ≤ 1 by rw [hQ5]; split <;> simp)
  clear hQ5
  obtain ⟨B5, hB5⟩ : ∃ b : Bool, b = decide (tk = wDoes ∧ sec = wNot) := ⟨_, rfl⟩
  have HB5 := Lib.hid hB5
  clear hB5
  go_upto_region 41 with (fail)
  go_cut [187] from 167 to 187 (fun sb wx => sb = .bool B5 ∧ wx = W4)
  case first =>
    by_cases hc1 : tk = wDoes
    · have e1 : (tk == [100, 111, 101, 115]) = true := by rw [hc1]; rfl
      by_cases hc2 : sec = wNot
      · have e2 : (sec == [110, 111, 116]) = true := by rw [hc2]; rfl
        have hb : B5 = true := by rw [HB5.out]; exact decide_eq_true ⟨hc1, hc2⟩
        subst hb
        clear hc1 hc2
        go_wp2
        go_meet
        exact ⟨rfl, rfl⟩
      · have e2 : (sec == [110, 111, 116]) = false := by simpa [wNot] using hc2
        have hb : B5 = false := by rw [HB5.out]; exact decide_eq_false (fun x => hc2 x.2)
        subst hb
        clear hc1 hc2
        go_wp2
        go_meet
        exact ⟨rfl, rfl⟩
    · have e1 : (tk == [100, 111, 101, 115]) = false := by simpa [wDoes] using hc1
      have hb : B5 = false := by rw [HB5.out]; exact decide_eq_false (fun x => hc1 x.1)
      subst hb
      clear hc1
      go_wp2
      go_meet
      exact ⟨rfl, rfl⟩
  case rest =>
  obtain ⟨hb5, hw5⟩ := hcut
  rw [hb5, hw5]
  clear hb5 hw5 wc
  go_upto_if 187 with (fail)
  go_cut [12] from 167 to 187 (fun s12 wx => Good w wx s12 (P4 ++ Q5))
  case first =>
    cases B5 with
    | true =>
      have hq : Q5 = [⟨16, 0, [], [(6, f + 2, t)]⟩] := by rw [HQ5.out, if_pos (of_decide_eq_true HB5.out.symm)]
      have HQ := Lib.hid hq
      clear hq
      go_wp2_with (first
        | (at_builtin; refine wpList_good_app rfl (.tmp 188) (.tmp 195) rfl rfl rfl ((HG4.out.alloc _).alloc _) (steps_new (B := 0) (q := ⟨16, 0, ⟨#[]⟩, some ⟨W4.heap.size, 0, none⟩, 1, 1⟩) (s := ⟨16, 0, [], [(6, f + 2, t)]⟩) (W4.heap.size + 1) (by simp) (Nat.zero_le _) ⟨rfl, rfl, rfl, spans_new _ rfl _ _ rfl _ _ rfl⟩) (by have := HL4.out; simp; omega) ?_; intro v9 W9 hg9; have HG9 := Lib.hid hg9; clear hg9)
        | fail)
      go_meet
      rw [HQ.out]
      exact HG9.out
    | false =>
      have hq : Q5 = [] := by rw [HQ5.out, if_neg (of_decide_eq_false HB5.out.symm)]
      have HQ := Lib.hid hq
      clear hq
      go_wp2
      go_meet
      rw [HQ.out, List.append_nil]
      exact HG4.out
  case rest =>
  obtain ⟨W5, hw5⟩ : ∃ W5, W5 = wc := ⟨_, rfl⟩
  rw [← hw5] at hcut ⊢
  obtain ⟨v5, hv5⟩ : ∃ v5, v5 = u12 := ⟨_, rfl⟩
  rw [← hv5] at hcut ⊢
  have HG5 := Lib.hid hcut
  clear hw5 hcut hv5 wc
  obtain ⟨P5, hP5⟩ : ∃ P5, P5 = P4 ++ Q5 := ⟨_, rfl⟩
  rw [← hP5] at HG5
  have HL5 := Lib.hid (show P5.length ≤ 201 by rw [hP5, List.length_append]; have := HL4.out; have := HQl5.out; omega)
  have HP5 := Lib.hid hP5
  clear hP5
  obtain ⟨Q6, hQ6⟩ : ∃ Q6 : List StepS, Q6 = if tk = wIs ∧ sec = wNot then [⟨16, 0, [], [(7, f + 2, t)]⟩] else [] := ⟨_, rfl⟩
  have HQ6 := Lib.hid hQ6
  have HQl6 := Lib.hid (show Q6.length ≤ 1 by rw [hQ6]; split <;> simp)
  clear hQ6
  obtain ⟨B6, hB6⟩ : ∃ b : Bool, b = decide (tk = wIs ∧ sec = wNot) := ⟨_, rfl⟩
  have HB6 := Lib.hid hB6
  clear hB6
  go_upto_region 43 with (fail)
  go_cut [202] from 167 to 202 (fun sb wx => sb = .bool B6 ∧ wx = W5)
  case first =>
    by_cases hc1 : tk = wIs
    · have e1 : (tk == [105, 115]) = true := by rw [hc1]; rfl
      by_cases hc2 : sec = wNot
      · have e2 : (sec == [110, 111, 116]) = true := by rw [hc2]; rfl
        have hb : B6 = true := by rw [HB6.out]; exact decide_eq_true ⟨hc1, hc2⟩
        subst hb
        clear hc1 hc2
        go_wp2
        go_meet
        exact ⟨rfl, rfl⟩
      · have e2 : (sec == [110, 111, 116]) = false := by simpa [wNot] using hc2
        have hb : B6 = false := by rw [HB6.out]; exact decide_eq_false (fun x => hc2 x.2)
        subst hb
        clear hc1 hc2
        go_wp2
        go_meet
        exact ⟨rfl, rfl⟩
    · have e1 : (tk == [105, 115]) = false := by simpa [wIs] using hc1
      have hb : B6 = false := by rw [HB6.out]; exact decide_eq_false (fun x => hc1 x.1)
      subst hb
      clear hc1
      go_wp2
      go_meet
      exact ⟨rfl, rfl⟩
  case rest =>
  obtain ⟨hb6, hw6⟩ := hcut
  rw [hb6, hw6]
  clear hb6 hw6 wc
  go_upto_if 202 with (fail)
  go_cut [12] from 167 to 202 (fun s12 wx => Good w wx s12 (P5 ++ Q6))
  case first =>
    cases B6 with
    | true =>
      have hq : Q6 = [⟨16, 0, [], [(7, f + 2, t)]⟩] := by rw [HQ6.out, if_pos (of_decide_eq_true HB6.out.symm)]
      have HQ := Lib.hid hq
      clear hq
      go_wp2_with (first
        | (at_builtin; refine wpList_good_app rfl (.tmp 203) (.tmp 210) rfl rfl rfl ((HG5.out.alloc _).alloc _) (steps_new (B := 0) (q := ⟨16, 0, ⟨#[]⟩, some ⟨W5.heap.size, 0, none⟩, 1, 1⟩) (s := ⟨16, 0, [], [(7, f + 2, t)]⟩) (W5.heap.size + 1) (by simp) (Nat.zero_le _) ⟨rfl, rfl, rfl, spans_new _ rfl _ _ rfl _ _ rfl⟩) (by have := HL5.out; simp; omega) ?_; intro v9 W9 hg9; have HG9 := Lib.hid hg9; clear hg9)
        | fail)
      go_meet
      rw [HQ.out]
      exact HG9.out
    | false =>
      have hq : Q6 = [] := by rw [HQ6.out, if_neg (of_decide_eq_false HB6.out.symm)]
      have HQ := Lib.hid hq
      clear hq
      go_wp2
      go_meet
      rw [HQ.out, List.append_nil]
      exact HG5.out
  case rest =>
  obtain ⟨W6, hw6⟩ : ∃ W6, W6 = wc := ⟨_, rfl⟩
  rw [← hw6] at hcut ⊢
  obtain ⟨v6, hv6⟩ : ∃ v6, v6 = u12 := ⟨_, rfl⟩
  rw [← hv6] at hcut ⊢
  have HG6 := Lib.hid hcut
  clear hw6 hcut hv6 wc
  obtain ⟨P6, hP6⟩ : ∃ P6, P6 = P5 ++ Q6 := ⟨_, rfl⟩
  rw [← hP6] at HG6
  have HL6 := Lib.hid (show P6.length ≤ 202 by rw [hP6, List.length_append]; have := HL5.out; have := HQl6.out; omega)
  have HP6 := Lib.hid hP6
  clear hP6
  go_wp2_with fail
  refine (HH.out _ HG6.out.below f 17 4 wOr (by omega)).mono ?_
  rintro _ X7 ⟨x7, rfl, hs7, hb7⟩
  have HP7 := Lib.hid (HG6.out.later hb7)
  have HS7 := Lib.hid hs7
  clear hs7 hb7
  obtain ⟨Q7, hQ7⟩ : ∃ Q7, Q7 = halvesS g f t 17 wOr 4 := ⟨_, rfl⟩
  rw [← hQ7] at HS7
  have hql7 : Q7.length ≤ 1000 := by rw [hQ7]; exact HHl.out _ _ _ _
  have HQ7 := Lib.hid (And.intro hQ7 hql7)
  clear hQ7 hql7
  go_upto_region 46 with (first
    | (at_builtin; refine wpList_good_app rfl (.tmp 212) (.tmp 216) rfl rfl rfl HP7.out HS7.out (by have := HL6.out; have := HQ7.out.2; omega) ?_; intro v7 W7 hg7; have HG7 := Lib.hid hg7; clear hg7)
    | fail)
  go_wp2_with fail
  refine (HH.out _ HG7.out.below f 18 4 wAnd (by omega)).mono ?_
  rintro _ X8 ⟨x8, rfl, hs8, hb8⟩
  have HP8 := Lib.hid (HG7.out.later hb8)
  have HS8 := Lib.hid hs8
  clear hs8 hb8
  obtain ⟨Q8, hQ8⟩ : ∃ Q8, Q8 = halvesS g f t 18 wAnd 4 := ⟨_, rfl⟩
  rw [← hQ8] at HS8
  have hql8 : Q8.length ≤ 1000 := by rw [hQ8]; exact HHl.out _ _ _ _
  have HQ8 := Lib.hid (And.intro hQ8 hql8)
  clear hQ8 hql8
  go_upto_region 54 with (first
    | (at_builtin; refine wpList_good_app rfl (.tmp 218) (.tmp 222) rfl rfl rfl HP8.out HS8.out (by have := HL6.out; have := HQ7.out.2; have := HQ8.out.2; simp; omega) ?_; intro v8 W8 hg8; have HG8 := Lib.hid hg8; clear hg8)
    | fail)
  go_wp2
  go_ret
  refine ⟨_, rfl, ?_, HG8.out.below⟩
  have hv : verbPS g f t = P6 ++ Q7 ++ Q8 := by
    unfold verbPS
    rw [HP6.out, HP5.out, HP4.out, HP3.out, HQ4.out, HQ5.out, HQ6.out, HQ7.out.1, HQ8.out.1, HTk.out, HSec.out]
  rw [HSk.out, hv]
  exact HG8.out.own
set_option maxRecDepth 100000 in
set_option maxHeartbeats 16000000 in
theorem rSteps_5 (w : World) (g : Gr) (lv tv : Value) (hg : GIn w g lv tv) (k f t : Nat) (hk : k = 5) (ht : t ≤ g.toks.length) (hf : f ≤ 1010) :
    Calls Tryz.prog 111 #[lv, tv, .agg #[.int .i64 k, .int .i64 f, .int .i64 t]] w fun e w' => ∃ v', e = .returned v' ∧ StepsR w.heap.size w' v' (stepsS g k f t) ∧ Below w.heap.size w w' := by
  have ht1 := hg.t1000
  have y0 : IntKind.i64.wrap ((t : Int) - (f : Int)) = (t : Int) - (f : Int) := IntWalk.i64_in _ (by omega)
  have HG := Lib.hid hg
  have HK := Lib.hid hk
  clear hk
  go_enter Tryz.func111, Tryz.ntmps111
  go_upto_region 1 with (fail)
  obtain ⟨W1, hW1⟩ : ∃ W1, W1 = w.alloc (.cells #[.int .i64 k, .int .i64 f, .int .i64 t] 115) := ⟨_, rfl⟩
  have hb : Below w.heap.size w W1 := by rw [hW1]; exact (Below.refl _ _).alloc (Nat.le_refl _) _
  have htb : W1.heap[w.heap.size]? = some (.cells #[.int .i64 k, .int .i64 f, .int .i64 t] 115 (0, 0)) := by rw [hW1]; exact heap_atC rfl
  rw [← hW1]
  obtain ⟨T, hT⟩ : ∃ T, T = w.heap.size := ⟨_, rfl⟩
  rw [← hT] at htb ⊢
  have c0 : W1.cell? ⟨T, 0, none⟩ = some (.int .i64 k) := (cell_rowC htb 0).trans rfl
  have c1 : W1.cell? ⟨T, 1, none⟩ = some (.int .i64 f) := (cell_rowC htb 1).trans rfl
  have c2 : W1.cell? ⟨T, 2, none⟩ = some (.int .i64 t) := (cell_rowC htb 2).trans rfl
  have m1 := fun x : Later W1 => x.get c1
  have m2 := fun x : Later W1 => x.get c2
  have HC0 := Lib.hid c0
  have HB1 := Lib.hid hb
  clear hW1 hb htb hT c0 c1 c2 hg
  go_wp2
  refine wp_region_later (by kernel_rfl) (by kernel_rfl) ?_
  repeat (go_big_quiet_step (fail))
  refine wpQuiet_nil ?_
  rintro _ ⟨x, rfl⟩
  obtain ⟨W2, hW2⟩ : ∃ W2, W2 = x.w := ⟨_, rfl⟩
  have hb2 : Below W1.heap.size W1 W2 := by rw [hW2]; exact x.below
  rw [← hW2]
  have HB2 := Lib.hid (HB1.out.trans (hb2.mono HB1.out.size))
  have c0 := cell_kept' hb2 HC0.out
  clear hW2 hb2 m1 m2 x HB1 HC0
  by_cases h0 : t ≤ f
  · have hv : stepsS g k f t = [] := by unfold stepsS; rw [if_pos h0]
    have HV := Lib.hid hv
    have d1 : decide ((t : Int) - (f : Int) < 1) = true := decide_eq_true (by omega)
    clear hv h0 HG
    go_wp2
    go_ret
    exact ⟨_, rfl, by rw [HV.out]; exact StepsR.nil _ _, HB2.out⟩
  have d1 : decide ((t : Int) - (f : Int) < 1) = false := decide_eq_false (by omega)
  obtain ⟨tb, toff, tcap, rfl, c1⟩ := HG.out.cell (i := f) (by omega)
  have b1 : (0 : Int) ≤ (f : Int) := by omega
  have b2 : (f : Int) < (g.toks.length : Int) := by omega
  have x1 := cell_kept' HB2.out c1
  obtain ⟨tk, htk⟩ : ∃ tk, tk = tokAt g f := ⟨_, rfl⟩
  rw [← htk] at x1 c1
  have HTk := Lib.hid htk
  have H0 := Lib.hid h0
  clear h0 c1 htk
  obtain ⟨sec, hsec⟩ : ∃ sec, sec = secondS g f t := ⟨_, rfl⟩
  have HSec := Lib.hid hsec
  clear hsec
  have y1 : IntKind.i64.wrap ((f : Int) + 1) = ((f + 1 : Nat) : Int) := by rw [show (f : Int) + 1 = ((f + 1 : Nat) : Int) by omega]; exact IntWalk.i64_in _ (by omega)
  go_upto_if 29 with (fail)
  go_cut [11] from 15 to 34 (fun s11 wx => s11 = .string ⟨sec.toArray⟩ ∧ wx = W2)
  case first =>
    by_cases h2 : f + 1 < t
    · have d2 : decide ((1 : Int) < (t : Int) - (f : Int)) = true := decide_eq_true (by omega)
      obtain ⟨tb', toff', tcap', he, c2⟩ := HG.out.cell (i := f + 1) (by omega)
      injection he with he1 _ he3
      injection he1 with he1
      injection he1 with he1 he2
      subst he1 he2 he3
      have x2 := cell_kept' HB2.out c2
      have b3 : (0 : Int) ≤ ((f + 1 : Nat) : Int) := by omega
      have b4 : ((f + 1 : Nat) : Int) < (g.toks.length : Int) := by omega
      have hs : sec = tokAt g (f + 1) := by rw [HSec.out]; unfold secondS; rw [if_pos h2]
      rw [← hs] at x2
      clear h2 c2 hs
      first | rw [d2] | skip
      go_wp2
      go_meet
      exact ⟨rfl, rfl⟩
    · have d2 : decide ((1 : Int) < (t : Int) - (f : Int)) = false := decide_eq_false (by omega)
      have hs : sec = [] := by rw [HSec.out]; unfold secondS; rw [if_neg h2]
      subst hs
      clear h2
      first | rw [d2] | skip
      go_wp2
      go_meet
      exact ⟨rfl, rfl⟩
  case rest =>
  obtain ⟨h11, hw2⟩ := hcut
  rw [h11, hw2]
  clear h11 hw2 wc
  go_upto_region 9 with (fail)
  obtain ⟨bv, hbv⟩ : ∃ bv, bv = Value.slice none 0 0 := ⟨_, rfl⟩
  rw [← hbv]
  have hgd : Good w W2 bv [] := by rw [hbv]; exact ⟨StepsR.nil _ _, HB2.out⟩
  have HGd := Lib.hid hgd
  have HTl : Go.RowKit.Hid (g.toks.length ≤ 1000) := Lib.hid ht1
  have HT := Lib.hid ht
  have hh := fun (W : World) (hb : Below w.heap.size w W) (f' r kind : Nat) (between : List UInt8) (hf' : f' ≤ 1001) => rHalves_any W g _ (HG.out.below hb).t f' t r kind between HT.out HTl.out hf'
  have HH := Lib.hid hh
  have hhl : ∀ f' r b kd, (halvesS g f' t r b kd).length ≤ 1000 := fun f' r b kd => by have := halves_len g f' t r b kd; have := HT.out; have := HTl.out; omega
  have HHl := Lib.hid hhl
  have he := fun (W : World) (hb : Below w.heap.size w W) (third : Bool) q s hr hq => rEnts W g lv _ (HG.out.below hb) tk third q s hr hq
  have HE := Lib.hid he
  have hel : ∀ third s, (entsS g tk third s).length ≤ 100 := fun third s => stp_ents_len g tk third s (look100 HG.out tk)
  have HEl := Lib.hid hel
  have hf1 : f ≤ 1000 := by have := H0.out; omega
  clear hbv hgd hh hhl he hel ht1 ht x1
  have hst : stepsS g k f t = if k = 1 then clauseS g f t else if k = 2 then nounPS g f t else if k = 3 then nounS' g f t else if k = 4 then verbPS g f t else if k = 5 then (if t = f + 1 then entsS g (tokAt g f) true ⟨19, 0, [], []⟩ else []) else if k = 6 then verbsS g f t false else if k = 7 then statesS g f t else [] := by
    unfold stepsS
    rw [if_neg H0.out]
  rw [← HTk.out] at hst
  have HSt := Lib.hid hst
  clear hst
  have hk := HK.out
  clear HK
  subst hk
  have HSk := Lib.hid (show stepsS g 5 f t = (if t = f + 1 then entsS g tk true ⟨19, 0, [], []⟩ else []) from HSt.out)
  by_cases h : t = f + 1
  · have d2 : ((t : Int) - (f : Int) == 1) = true := by simp; omega
    have HH1 := Lib.hid h
    have hcall := HE.out W2 HGd.out.below true ⟨19, 0, ⟨#[]⟩, none, 0, 0⟩ ⟨19, 0, [], []⟩ (Nat.le_of_ble_eq_true rfl) ⟨rfl, rfl, rfl, .inl ⟨rfl, rfl⟩⟩
    unfold TV.val at hcall
    have HCall := Lib.hid hcall
    clear h hcall
    go_wp2_with fail
    refine HCall.out.mono ?_
    rintro _ W3 ⟨v3, rfl, hs3, hb3⟩
    have HG3 := Lib.hid (Good.fresh HGd.out.below hs3 hb3)
    clear hs3 hb3
    go_wp2
    go_ret
    refine ⟨_, rfl, ?_, HG3.out.below⟩
    rw [HSk.out, if_pos HH1.out]
    exact HG3.out.own
  · have d2 : ((t : Int) - (f : Int) == 1) = false := by simp; omega
    have HH1 := Lib.hid h
    clear h
    go_wp2
    go_ret
    refine ⟨_, rfl, ?_, HGd.out.below⟩
    rw [HSk.out, if_neg HH1.out]
    exact HGd.out.own
set_option maxRecDepth 100000 in
set_option maxHeartbeats 16000000 in
theorem rSteps_6 (w : World) (g : Gr) (lv tv : Value) (hg : GIn w g lv tv) (k f t : Nat) (hk : k = 6) (ht : t ≤ g.toks.length) (hf : f ≤ 1010) :
    Calls Tryz.prog 111 #[lv, tv, .agg #[.int .i64 k, .int .i64 f, .int .i64 t]] w fun e w' => ∃ v', e = .returned v' ∧ StepsR w.heap.size w' v' (stepsS g k f t) ∧ Below w.heap.size w w' := by
  have ht1 := hg.t1000
  have y0 : IntKind.i64.wrap ((t : Int) - (f : Int)) = (t : Int) - (f : Int) := IntWalk.i64_in _ (by omega)
  have HG := Lib.hid hg
  have HK := Lib.hid hk
  clear hk
  go_enter Tryz.func111, Tryz.ntmps111
  go_upto_region 1 with (fail)
  obtain ⟨W1, hW1⟩ : ∃ W1, W1 = w.alloc (.cells #[.int .i64 k, .int .i64 f, .int .i64 t] 115) := ⟨_, rfl⟩
  have hb : Below w.heap.size w W1 := by rw [hW1]; exact (Below.refl _ _).alloc (Nat.le_refl _) _
  have htb : W1.heap[w.heap.size]? = some (.cells #[.int .i64 k, .int .i64 f, .int .i64 t] 115 (0, 0)) := by rw [hW1]; exact heap_atC rfl
  rw [← hW1]
  obtain ⟨T, hT⟩ : ∃ T, T = w.heap.size := ⟨_, rfl⟩
  rw [← hT] at htb ⊢
  have c0 : W1.cell? ⟨T, 0, none⟩ = some (.int .i64 k) := (cell_rowC htb 0).trans rfl
  have c1 : W1.cell? ⟨T, 1, none⟩ = some (.int .i64 f) := (cell_rowC htb 1).trans rfl
  have c2 : W1.cell? ⟨T, 2, none⟩ = some (.int .i64 t) := (cell_rowC htb 2).trans rfl
  have m1 := fun x : Later W1 => x.get c1
  have m2 := fun x : Later W1 => x.get c2
  have HC0 := Lib.hid c0
  have HB1 := Lib.hid hb
  clear hW1 hb htb hT c0 c1 c2 hg
  go_wp2
  refine wp_region_later (by kernel_rfl) (by kernel_rfl) ?_
  repeat (go_big_quiet_step (fail))
  refine wpQuiet_nil ?_
  rintro _ ⟨x, rfl⟩
  obtain ⟨W2, hW2⟩ : ∃ W2, W2 = x.w := ⟨_, rfl⟩
  have hb2 : Below W1.heap.size W1 W2 := by rw [hW2]; exact x.below
  rw [← hW2]
  have HB2 := Lib.hid (HB1.out.trans (hb2.mono HB1.out.size))
  have c0 := cell_kept' hb2 HC0.out
  clear hW2 hb2 m1 m2 x HB1 HC0
  by_cases h0 : t ≤ f
  · have hv : stepsS g k f t = [] := by unfold stepsS; rw [if_pos h0]
    have HV := Lib.hid hv
    have d1 : decide ((t : Int) - (f : Int) < 1) = true := decide_eq_true (by omega)
    clear hv h0 HG
    go_wp2
    go_ret
    exact ⟨_, rfl, by rw [HV.out]; exact StepsR.nil _ _, HB2.out⟩
  have d1 : decide ((t : Int) - (f : Int) < 1) = false := decide_eq_false (by omega)
  obtain ⟨tb, toff, tcap, rfl, c1⟩ := HG.out.cell (i := f) (by omega)
  have b1 : (0 : Int) ≤ (f : Int) := by omega
  have b2 : (f : Int) < (g.toks.length : Int) := by omega
  have x1 := cell_kept' HB2.out c1
  obtain ⟨tk, htk⟩ : ∃ tk, tk = tokAt g f := ⟨_, rfl⟩
  rw [← htk] at x1 c1
  have HTk := Lib.hid htk
  have H0 := Lib.hid h0
  clear h0 c1 htk
  obtain ⟨sec, hsec⟩ : ∃ sec, sec = secondS g f t := ⟨_, rfl⟩
  have HSec := Lib.hid hsec
  clear hsec
  have y1 : IntKind.i64.wrap ((f : Int) + 1) = ((f + 1 : Nat) : Int) := by rw [show (f : Int) + 1 = ((f + 1 : Nat) : Int) by omega]; exact IntWalk.i64_in _ (by omega)
  go_upto_if 29 with (fail)
  go_cut [11] from 15 to 34 (fun s11 wx => s11 = .string ⟨sec.toArray⟩ ∧ wx = W2)
  case first =>
    by_cases h2 : f + 1 < t
    · have d2 : decide ((1 : Int) < (t : Int) - (f : Int)) = true := decide_eq_true (by omega)
      obtain ⟨tb', toff', tcap', he, c2⟩ := HG.out.cell (i := f + 1) (by omega)
      injection he with he1 _ he3
      injection he1 with he1
      injection he1 with he1 he2
      subst he1 he2 he3
      have x2 := cell_kept' HB2.out c2
      have b3 : (0 : Int) ≤ ((f + 1 : Nat) : Int) := by omega
      have b4 : ((f + 1 : Nat) : Int) < (g.toks.length : Int) := by omega
      have hs : sec = tokAt g (f + 1) := by rw [HSec.out]; unfold secondS; rw [if_pos h2]
      rw [← hs] at x2
      clear h2 c2 hs
      first | rw [d2] | skip
      go_wp2
      go_meet
      exact ⟨rfl, rfl⟩
    · have d2 : decide ((1 : Int) < (t : Int) - (f : Int)) = false := decide_eq_false (by omega)
      have hs : sec = [] := by rw [HSec.out]; unfold secondS; rw [if_neg h2]
      subst hs
      clear h2
      first | rw [d2] | skip
      go_wp2
      go_meet
      exact ⟨rfl, rfl⟩
  case rest =>
  obtain ⟨h11, hw2⟩ := hcut
  rw [h11, hw2]
  clear h11 hw2 wc
  go_upto_region 9 with (fail)
  obtain ⟨bv, hbv⟩ : ∃ bv, bv = Value.slice none 0 0 := ⟨_, rfl⟩
  rw [← hbv]
  have hgd : Good w W2 bv [] := by rw [hbv]; exact ⟨StepsR.nil _ _, HB2.out⟩
  have HGd := Lib.hid hgd
  have HTl : Go.RowKit.Hid (g.toks.length ≤ 1000) := Lib.hid ht1
  have HT := Lib.hid ht
  have hh := fun (W : World) (hb : Below w.heap.size w W) (f' r kind : Nat) (between : List UInt8) (hf' : f' ≤ 1001) => rHalves_any W g _ (HG.out.below hb).t f' t r kind between HT.out HTl.out hf'
  have HH := Lib.hid hh
  have hhl : ∀ f' r b kd, (halvesS g f' t r b kd).length ≤ 1000 := fun f' r b kd => by have := halves_len g f' t r b kd; have := HT.out; have := HTl.out; omega
  have HHl := Lib.hid hhl
  have he := fun (W : World) (hb : Below w.heap.size w W) (third : Bool) q s hr hq => rEnts W g lv _ (HG.out.below hb) tk third q s hr hq
  have HE := Lib.hid he
  have hel : ∀ third s, (entsS g tk third s).length ≤ 100 := fun third s => stp_ents_len g tk third s (look100 HG.out tk)
  have HEl := Lib.hid hel
  have hf1 : f ≤ 1000 := by have := H0.out; omega
  clear hbv hgd hh hhl he hel ht1 ht x1
  have hst : stepsS g k f t = if k = 1 then clauseS g f t else if k = 2 then nounPS g f t else if k = 3 then nounS' g f t else if k = 4 then verbPS g f t else if k = 5 then (if t = f + 1 then entsS g (tokAt g f) true ⟨19, 0, [], []⟩ else []) else if k = 6 then verbsS g f t false else if k = 7 then statesS g f t else [] := by
    unfold stepsS
    rw [if_neg H0.out]
  rw [← HTk.out] at hst
  have HSt := Lib.hid hst
  clear hst
  have hk := HK.out
  clear HK
  subst hk
  have HSk := Lib.hid (show stepsS g 6 f t = verbsS g f t false from HSt.out)
  have hcall := rVerbs_any W2 g lv _ (HG.out.below HGd.out.below) f t false HT.out (by omega)
  have HCall := Lib.hid hcall
  clear hcall
  go_wp2_with fail
  refine HCall.out.mono ?_
  rintro _ W3 ⟨v3, rfl, hs3, hb3⟩
  have HG3 := Lib.hid (Good.fresh HGd.out.below hs3 hb3)
  clear hs3 hb3
  go_wp2
  go_ret
  refine ⟨_, rfl, ?_, HG3.out.below⟩
  rw [HSk.out]
  exact HG3.out.own
set_option maxRecDepth 100000 in
set_option maxHeartbeats 16000000 in
theorem rSteps_7 (w : World) (g : Gr) (lv tv : Value) (hg : GIn w g lv tv) (k f t : Nat) (hk : k = 7) (ht : t ≤ g.toks.length) (hf : f ≤ 1010) :
    Calls Tryz.prog 111 #[lv, tv, .agg #[.int .i64 k, .int .i64 f, .int .i64 t]] w fun e w' => ∃ v', e = .returned v' ∧ StepsR w.heap.size w' v' (stepsS g k f t) ∧ Below w.heap.size w w' := by
  have ht1 := hg.t1000
  have y0 : IntKind.i64.wrap ((t : Int) - (f : Int)) = (t : Int) - (f : Int) := IntWalk.i64_in _ (by omega)
  have HG := Lib.hid hg
  have HK := Lib.hid hk
  clear hk
  go_enter Tryz.func111, Tryz.ntmps111
  go_upto_region 1 with (fail)
  obtain ⟨W1, hW1⟩ : ∃ W1, W1 = w.alloc (.cells #[.int .i64 k, .int .i64 f, .int .i64 t] 115) := ⟨_, rfl⟩
  have hb : Below w.heap.size w W1 := by rw [hW1]; exact (Below.refl _ _).alloc (Nat.le_refl _) _
  have htb : W1.heap[w.heap.size]? = some (.cells #[.int .i64 k, .int .i64 f, .int .i64 t] 115 (0, 0)) := by rw [hW1]; exact heap_atC rfl
  rw [← hW1]
  obtain ⟨T, hT⟩ : ∃ T, T = w.heap.size := ⟨_, rfl⟩
  rw [← hT] at htb ⊢
  have c0 : W1.cell? ⟨T, 0, none⟩ = some (.int .i64 k) := (cell_rowC htb 0).trans rfl
  have c1 : W1.cell? ⟨T, 1, none⟩ = some (.int .i64 f) := (cell_rowC htb 1).trans rfl
  have c2 : W1.cell? ⟨T, 2, none⟩ = some (.int .i64 t) := (cell_rowC htb 2).trans rfl
  have m1 := fun x : Later W1 => x.get c1
  have m2 := fun x : Later W1 => x.get c2
  have HC0 := Lib.hid c0
  have HB1 := Lib.hid hb
  clear hW1 hb htb hT c0 c1 c2 hg
  go_wp2
  refine wp_region_later (by kernel_rfl) (by kernel_rfl) ?_
  repeat (go_big_quiet_step (fail))
  refine wpQuiet_nil ?_
  rintro _ ⟨x, rfl⟩
  obtain ⟨W2, hW2⟩ : ∃ W2, W2 = x.w := ⟨_, rfl⟩
  have hb2 : Below W1.heap.size W1 W2 := by rw [hW2]; exact x.below
  rw [← hW2]
  have HB2 := Lib.hid (HB1.out.trans (hb2.mono HB1.out.size))
  have c0 := cell_kept' hb2 HC0.out
  clear hW2 hb2 m1 m2 x HB1 HC0
  by_cases h0 : t ≤ f
  · have hv : stepsS g k f t = [] := by unfold stepsS; rw [if_pos h0]
    have HV := Lib.hid hv
    have d1 : decide ((t : Int) - (f : Int) < 1) = true := decide_eq_true (by omega)
    clear hv h0 HG
    go_wp2
    go_ret
    exact ⟨_, rfl, by rw [HV.out]; exact StepsR.nil _ _, HB2.out⟩
  have d1 : decide ((t : Int) - (f : Int) < 1) = false := decide_eq_false (by omega)
  obtain ⟨tb, toff, tcap, rfl, c1⟩ := HG.out.cell (i := f) (by omega)
  have b1 : (0 : Int) ≤ (f : Int) := by omega
  have b2 : (f : Int) < (g.toks.length : Int) := by omega
  have x1 := cell_kept' HB2.out c1
  obtain ⟨tk, htk⟩ : ∃ tk, tk = tokAt g f := ⟨_, rfl⟩
  rw [← htk] at x1 c1
  have HTk := Lib.hid htk
  have H0 := Lib.hid h0
  clear h0 c1 htk
  obtain ⟨sec, hsec⟩ : ∃ sec, sec = secondS g f t := ⟨_, rfl⟩
  have HSec := Lib.hid hsec
  clear hsec
  have y1 : IntKind.i64.wrap ((f : Int) + 1) = ((f + 1 : Nat) : Int) := by rw [show (f : Int) + 1 = ((f + 1 : Nat) : Int) by omega]; exact IntWalk.i64_in _ (by omega)
  go_upto_if 29 with (fail)
  go_cut [11] from 15 to 34 (fun s11 wx => s11 = .string ⟨sec.toArray⟩ ∧ wx = W2)
  case first =>
    by_cases h2 : f + 1 < t
    · have d2 : decide ((1 : Int) < (t : Int) - (f : Int)) = true := decide_eq_true (by omega)
      obtain ⟨tb', toff', tcap', he, c2⟩ := HG.out.cell (i := f + 1) (by omega)
      injection he with he1 _ he3
      injection he1 with he1
      injection he1 with he1 he2
      subst he1 he2 he3
      have x2 := cell_kept' HB2.out c2
      have b3 : (0 : Int) ≤ ((f + 1 : Nat) : Int) := by omega
      have b4 : ((f + 1 : Nat) : Int) < (g.toks.length : Int) := by omega
      have hs : sec = tokAt g (f + 1) := by rw [HSec.out]; unfold secondS; rw [if_pos h2]
      rw [← hs] at x2
      clear h2 c2 hs
      first | rw [d2] | skip
      go_wp2
      go_meet
      exact ⟨rfl, rfl⟩
    · have d2 : decide ((1 : Int) < (t : Int) - (f : Int)) = false := decide_eq_false (by omega)
      have hs : sec = [] := by rw [HSec.out]; unfold secondS; rw [if_neg h2]
      subst hs
      clear h2
      first | rw [d2] | skip
      go_wp2
      go_meet
      exact ⟨rfl, rfl⟩
  case rest =>
  obtain ⟨h11, hw2⟩ := hcut
  rw [h11, hw2]
  clear h11 hw2 wc
  go_upto_region 9 with (fail)
  obtain ⟨bv, hbv⟩ : ∃ bv, bv = Value.slice none 0 0 := ⟨_, rfl⟩
  rw [← hbv]
  have hgd : Good w W2 bv [] := by rw [hbv]; exact ⟨StepsR.nil _ _, HB2.out⟩
  have HGd := Lib.hid hgd
  have HTl : Go.RowKit.Hid (g.toks.length ≤ 1000) := Lib.hid ht1
  have HT := Lib.hid ht
  have hh := fun (W : World) (hb : Below w.heap.size w W) (f' r kind : Nat) (between : List UInt8) (hf' : f' ≤ 1001) => rHalves_any W g _ (HG.out.below hb).t f' t r kind between HT.out HTl.out hf'
  have HH := Lib.hid hh
  have hhl : ∀ f' r b kd, (halvesS g f' t r b kd).length ≤ 1000 := fun f' r b kd => by have := halves_len g f' t r b kd; have := HT.out; have := HTl.out; omega
  have HHl := Lib.hid hhl
  have he := fun (W : World) (hb : Below w.heap.size w W) (third : Bool) q s hr hq => rEnts W g lv _ (HG.out.below hb) tk third q s hr hq
  have HE := Lib.hid he
  have hel : ∀ third s, (entsS g tk third s).length ≤ 100 := fun third s => stp_ents_len g tk third s (look100 HG.out tk)
  have HEl := Lib.hid hel
  have hf1 : f ≤ 1000 := by have := H0.out; omega
  clear hbv hgd hh hhl he hel ht1 ht x1
  have hst : stepsS g k f t = if k = 1 then clauseS g f t else if k = 2 then nounPS g f t else if k = 3 then nounS' g f t else if k = 4 then verbPS g f t else if k = 5 then (if t = f + 1 then entsS g (tokAt g f) true ⟨19, 0, [], []⟩ else []) else if k = 6 then verbsS g f t false else if k = 7 then statesS g f t else [] := by
    unfold stepsS
    rw [if_neg H0.out]
  rw [← HTk.out] at hst
  have HSt := Lib.hid hst
  clear hst
  have hk := HK.out
  clear HK
  subst hk
  have HSk := Lib.hid (show stepsS g 7 f t = statesS g f t from HSt.out)
  have hcall := rStates_any W2 g lv _ (HG.out.below HGd.out.below) f t HT.out (by omega)
  have HCall := Lib.hid hcall
  clear hcall
  go_wp2_with fail
  refine HCall.out.mono ?_
  rintro _ W3 ⟨v3, rfl, hs3, hb3⟩
  have HG3 := Lib.hid (Good.fresh HGd.out.below hs3 hb3)
  clear hs3 hb3
  go_wp2
  go_ret
  refine ⟨_, rfl, ?_, HG3.out.below⟩
  rw [HSk.out]
  exact HG3.out.own
/-- **Steps.** -/
theorem rSteps_any (w : World) (g : Gr) (lv tv : Value) (hg : GIn w g lv tv) (k f t : Nat) (h1 : 1 ≤ k) (h7 : k ≤ 7) (ht : t ≤ g.toks.length) (hf : f ≤ 1010) :
    Calls Tryz.prog 111 #[lv, tv, .agg #[.int .i64 k, .int .i64 f, .int .i64 t]] w fun e w' => ∃ v', e = .returned v' ∧ StepsR w.heap.size w' v' (stepsS g k f t) ∧ Below w.heap.size w w' := by
  rcases (show k = 1 ∨ k = 2 ∨ k = 3 ∨ k = 4 ∨ k = 5 ∨ k = 6 ∨ k = 7 by omega) with h | h | h | h | h | h | h
  · exact rSteps_1 w g lv tv hg k f t h ht hf
  · exact rSteps_2 w g lv tv hg k f t h ht hf
  · exact rSteps_3 w g lv tv hg k f t h ht hf
  · exact rSteps_4 w g lv tv hg k f t h ht hf
  · exact rSteps_5 w g lv tv hg k f t h ht hf
  · exact rSteps_6 w g lv tv hg k f t h ht hf
  · exact rSteps_7 w g lv tv hg k f t h ht hf
end Go.Proofs.YthmnffgjckpkiaaGreatDoor
