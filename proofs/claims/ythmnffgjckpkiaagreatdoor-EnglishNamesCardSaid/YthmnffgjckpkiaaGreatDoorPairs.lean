/-
  The iterators 'trees', 'pairs' of package english: what their makers hand back; the iterator of pairs.
-/
import Derived.Test.YthmnffgjckpkiaaGreatDoorTreeV
namespace Go.Proofs.YthmnffgjckpkiaaGreatDoor
open Go Go.RowKit Go.Shelf
attribute [local go_sem] Oper.semAt_some

theorem trees_any (gb k f t : Nat) (w : World) :
    Calls Tryz.prog 49 #[.pointer (some ⟨gb, 0, none⟩), .int .u8 k, .int .i64 f, .int .i64 t] w fun e w' =>
      e = .returned (.func (.func 79) #[] #[.pointer (some ⟨w.heap.size, 0, none⟩), .pointer (some ⟨w.heap.size + 1, 0, none⟩), .pointer (some ⟨w.heap.size + 1 + 1, 0, none⟩), .pointer (some ⟨w.heap.size + 1 + 1 + 1, 0, none⟩)]) ∧
      (((w.alloc (.cells #[.pointer (some ⟨gb, 0, none⟩)] 77)).alloc (.cells #[.int .u8 k] 5)).alloc (.cells #[.int .i64 f] 3)).alloc (.cells #[.int .i64 t] 3) = w' := by
  go_enter Tryz.func49, Tryz.ntmps49
  go_wp2
  go_ret
  exact ⟨rfl, rfl⟩
/-- The iterator of a span, as a value. -/
def treesV (b : Nat) : Value := .func (.func 79) #[] #[.pointer (some ⟨b, 0, none⟩), .pointer (some ⟨b + 1, 0, none⟩), .pointer (some ⟨b + 1 + 1, 0, none⟩), .pointer (some ⟨b + 1 + 1 + 1, 0, none⟩)]
def treesLb (b : Nat) : Array Value := #[.pointer (some ⟨b, 0, none⟩), .pointer (some ⟨b + 1, 0, none⟩), .pointer (some ⟨b + 1 + 1, 0, none⟩), .pointer (some ⟨b + 1 + 1 + 1, 0, none⟩)]
/-- The boxes of a span's iterator. -/
structure TreesBox (gb k f t b : Nat) (w : World) : Prop where
  c0 : w.cell? ⟨b, 0, none⟩ = some (.pointer (some ⟨gb, 0, none⟩))
  c1 : w.cell? ⟨b + 1, 0, none⟩ = some (.int .u8 k)
  c2 : w.cell? ⟨b + 1 + 1, 0, none⟩ = some (.int .i64 f)
  c3 : w.cell? ⟨b + 1 + 1 + 1, 0, none⟩ = some (.int .i64 t)
theorem trees_box (gb k f t : Nat) (w : World) :
    Calls Tryz.prog 49 #[.pointer (some ⟨gb, 0, none⟩), .int .u8 k, .int .i64 f, .int .i64 t] w fun e w' =>
      e = .returned (treesV w.heap.size) ∧ Below w.heap.size w w' ∧ w'.heap.size = w.heap.size + 4 ∧ TreesBox gb k f t w.heap.size w' := (trees_any gb k f t w).mono fun e w' ⟨he, hw⟩ => by
  subst hw
  refine ⟨he, (((((Below.refl _ _).alloc (Nat.le_refl _) _).alloc (by simp) _).alloc (by simp; omega) _).alloc (by simp; omega) _), by simp, ?_, ?_, ?_, ?_⟩
  all_goals go_simp
/-- **What is shown of the parses of a span**: its iterator yields them, whatever the agreement. -/
def TreesOk (m gb : Nat) (g : Gr) (W0 : World) (k f t : Nat) : Prop := ∀ (R : Rg), Counts R m g W0 → ∀ (w : World) (b : Nat), Since m W0 w → R.ok w → TreesBox gb k f t b w → R.sf w b → R.sf w (b + 1) → R.sf w (b + 1 + 1) → R.sf w (b + 1 + 1 + 1) →
  SeqM R Tryz.prog 79 (treesLb b) (treesS g k f t) (TreeA R) w

/-- The parses with a head and two parts. -/
def pairsS (r e : Int) (wd : List UInt8) (xs ys : List Tr) : List Tr := xs.flatMap fun x => ys.map fun y => .node r e wd [x, y]
theorem pairs_prefix {r e : Int} {wd : List UInt8} {xs ys pre pre2 : List Tr} {x y : Tr} (h1 : (pre ++ [x]) <+: xs) (h2 : (pre2 ++ [y]) <+: ys) :
    (pairsS r e wd pre ys ++ pre2.map (fun y => Tr.node r e wd [x, y]) ++ [.node r e wd [x, y]]) <+: pairsS r e wd xs ys := by
  obtain ⟨z1, rfl⟩ := h1
  obtain ⟨z2, rfl⟩ := h2
  refine ⟨z2.map (fun y => Tr.node r e wd [x, y]) ++ pairsS r e wd z1 (pre2 ++ [y] ++ z2), ?_⟩
  simp [pairsS]
theorem pairs_prefix_part {r e : Int} {wd : List UInt8} {xs ys pre : List Tr} (h1 : pre <+: pairsS r e wd xs ys) : pre <+: pairsS r e wd xs ys := h1
theorem pairsS_snoc (r e : Int) (wd : List UInt8) (pre ys : List Tr) (x : Tr) : pairsS r e wd (pre ++ [x]) ys = pairsS r e wd pre ys ++ ys.map fun y => Tr.node r e wd [x, y] := by simp [pairsS]

/-- A head without parts. -/
def headV (r e : Int) (wd : List UInt8) : List Value := [.int .u8 r, .int .i64 e, .string ⟨wd.toArray⟩, .slice none 0 0]

set_option maxRecDepth 100000 in
set_option maxHeartbeats 4000000 in
theorem pairs_seq {m gb : Nat} {g : Gr} {ended : Bool} {W0 : World} (hg : Gram m gb g ended W0) {R : Rg} (hR : Counts R m g W0) {w : World} (hs : Since m W0 w) (hok : R.ok w)
    (k1 i1 j1 k2 i2 j2 : Nat) (h1 : TreesOk m gb g W0 k1 i1 j1) (h2 : TreesOk m gb g W0 k2 i2 j2) (r e : Int) (wd : List UInt8) (b0 b1 b2 b3 : Nat)
    (x0 : w.heap[b0]? = some (.cells #[.pointer (some ⟨gb, 0, none⟩)] 77 (0, 0))) (x1 : w.heap[b1]? = some (.cells #[.int .u8 k1, .int .i64 i1, .int .i64 j1] 160 (0, 0)))
    (x2 : w.heap[b2]? = some (.cells #[.int .u8 k2, .int .i64 i2, .int .i64 j2] 160 (0, 0))) (x3 : w.heap[b3]? = some (.cells #[.int .u8 r, .int .i64 e, .string ⟨wd.toArray⟩, .slice none 0 0] 36 (0, 0)))
    (s0 : R.sf w b0) (s1 : R.sf w b1) (s2 : R.sf w b2) (s3 : R.sf w b3) :
    SeqM R Tryz.prog 160 #[.pointer (some ⟨b0, 0, none⟩), .pointer (some ⟨b1, 0, none⟩), .pointer (some ⟨b2, 0, none⟩), .pointer (some ⟨b3, 0, none⟩)] (pairsS r e wd (treesS g k1 i1 j1) (treesS g k2 i2 j2)) (TreeA R) w := by
  intro l J Jx W hW hokW hl hJ hJx hY hJ0
  have y0 := (hW.same _ s0).2.trans x0
  have y1 := (hW.same _ s1).2.trans x1
  have y2 := (hW.same _ s2).2.trans x2
  have y3 := (hW.same _ s3).2.trans x3
  have hsW := hs.kp hR.leaves hok hW
  have c0 : W.cell? ⟨b0, 0, none⟩ = some (.pointer (some ⟨gb, 0, none⟩)) := by simp [World.cell?, y0]
  have c1 : W.cell? ⟨b1, 0, none⟩ = some (.int .u8 k1) := by simp [World.cell?, y1]
  have c2 : W.cell? ⟨b1, 1, none⟩ = some (.int .i64 i1) := by simp [World.cell?, y1]
  have c3 : W.cell? ⟨b1, 2, none⟩ = some (.int .i64 j1) := by simp [World.cell?, y1]
  have l0 := R.lt (hW.same _ s0).1
  have l1 := R.lt (hW.same _ s1).1
  have l2 := R.lt (hW.same _ s2).1
  have l3 := R.lt (hW.same _ s3).1
  have HY := Lib.hid hY
  have HJ := Lib.hid hJ
  have HJx := Lib.hid hJx
  have HJ0 := Lib.hid hJ0
  have HG := Lib.hid hg
  have HR := Lib.hid hR
  have HS := Lib.hid hsW
  have HW := Lib.hid hW
  have H1 := Lib.hid h1
  have H2 := Lib.hid h2
  have S0 := Lib.hid (hW.same _ s0).1
  have S2 := Lib.hid (hW.same _ s2).1
  have S3 := Lib.hid (hW.same _ s3).1
  have Y0 := Lib.hid y0
  have Y2 := Lib.hid y2
  have Y3 := Lib.hid y3
  clear hY hJ hJx hJ0 hg hR hs hsW hW h1 h2 x0 x1 x2 x3 y0 y1 y2 y3 s0 s1 s2 s3
  refine (callsIn_wide (n := 3)).1 ?_
  refine callsIn_of_wp_marks Tryz.func160 rfl trivial ?_ rfl
  simp only [Tryz.ntmps160, List.size_toArray, List.length_cons, List.length_nil, Nat.reduceAdd, Nat.reduceSub, Array.replicate_succ, Array.replicate_zero, List.push_toArray, List.append_toArray, List.nil_append, List.cons_append]
  have hfw : ∀ f, Fence.wide.fn f := fun _ => trivial
  gi_wp2_with fail
  obtain ⟨W5, hW5⟩ : ∃ W5, W5 = W.alloc (.cells #[.func (.yield l) #[] #[]] 53) := ⟨_, rfl⟩
  have hb5 : Below W.heap.size W W5 := by rw [hW5]; exact (Below.refl _ _).alloc (Nat.le_refl _) _
  have hz5 : W5.heap.size = W.heap.size + 1 := by rw [hW5]; simp
  have xy : Boxed W5 W.heap.size 53 (.func (.yield l) #[] #[]) := by rw [hW5]; exact Boxed.new _ _ _
  rw [← hW5]
  clear hW5 c0 c1 c2 c3
  refine (callsIn_wide.2 (trees_box gb k1 i1 j1 W5)).mono ?_
  rintro _ W9 ⟨rfl, hb9, hz9, hx9⟩
  have hbW : Below W.heap.size W W9 := hb5.trans (hb9.mono hb5.size)
  have hmv9 : Mv R W W9 := Mv.of_below hokW hbW
  have hk9 := hmv9.kp hokW
  have hok9 := hmv9.ok hokW
  have fr : ∀ b, W.heap.size ≤ b → b < W9.heap.size → R.sf W9 b := fun b h1 h2 => R.fresh hokW hbW h1 h2
  have xy9 : Boxed W9 W.heap.size 53 (.func (.yield l) #[] #[]) := (hb9.block _ xy.lt).trans xy
  have sy9 := fr W.heap.size (Nat.le_refl _) (by omega)
  have hseq1 := H1.out R HR.out W9 W5.heap.size (HS.out.below hbW) hok9 hx9 (fr _ (by omega) (by omega)) (fr _ (by omega) (by omega)) (fr _ (by omega) (by omega)) (fr _ (by omega) (by omega))
  have HSeq1 := Lib.hid hseq1
  have HB9 := Lib.hid hbW
  have XY9 := Lib.hid xy9
  have FR := Lib.hid fr
  have hm0 := R.mlt hokW
  clear hseq1 hbW xy9 xy fr hb5 hb9 hx9
  simp only [treesV]
  gi_wp2
  refine wpIn_range_M rfl (enters_of Tryz.func79 (by kernel_rfl) rfl) HSeq1.out hok9 (fun _ _ _ h => by obtain ⟨v, rfl, _⟩ := h; rfl)
    (fun pre X => J (pairsS r e wd pre (treesS g k2 i2 j2)) X) (fun c pre X => c = .ret ∧ (∃ p, p <+: pairsS r e wd (treesS g k1 i1 j1) (treesS g k2 i2 j2) ∧ Jx p X) ∧ KpFrom R (l + 1) W X) (fun s => (HJ.out _).mono HB9.out.size) ?hIx ((HJ.out []).mv hmv9 hokW HJ0.out) ?round ?done ?stop
  case hIx =>
    rintro c pre X Y row hg hr hokX ⟨h1, ⟨p, hp, h2⟩, h3⟩
    exact ⟨h1, ⟨p, hp, (HJx.out p).mono HB9.out.size X Y row hg hr hokX h2⟩, kpFrom_abides HB9.out.size X Y row hg hr hokX h3⟩
  case done =>
    intro D X hD hjX hkX hokX hd _
    gi_wp2
    refine ⟨by simp, .inl ⟨_, _, rfl, run_takeDeferred hd, ?_⟩⟩
    refine ⟨_, results_none rfl _ _ _, ⟨_, rfl⟩, .inl ⟨?_, kp_put _ (hk9.trans hkX) hokX (by have := HB9.out.size; omega) (by omega) hd rfl⟩⟩
    exact abides_put (HJ.out _) _ hokX hjX (by have := HB9.out.size; omega) (by omega) hd rfl
  case stop =>
    rintro D c pre X hD hpre ⟨rfl, ⟨p, hp, h2⟩, h3⟩ _ hokX hd
    gi_wp2
    refine ⟨by simp, .inl ⟨_, _, rfl, run_takeDeferred hd, ?_⟩⟩
    refine ⟨_, results_none rfl _ _ _, ⟨_, rfl⟩, .inr ⟨p, hp, abides_put (HJx.out _) _ hokX h2 (by have := HB9.out.size; omega) (by omega) hd rfl, ok_put hokX (by omega) hd rfl, kpFrom_put _ h3 hokX (by have := HB9.out.size; omega) hd rfl⟩⟩
  case round =>
    rintro L pre vs x X hL hjX ⟨v, rfl, htv⟩ hkX hokX hpre
    obtain ⟨vr, ve, vw, va, vn, vc, rfl⟩ := treeV_form htv
    gi_wp2
    obtain ⟨X2, hX2⟩ : ∃ X2, X2 = X.alloc (.cells #[.int .u8 vr, .int .i64 ve, .string ⟨vw⟩, .slice va vn vc] 36) := ⟨_, rfl⟩
    have hbX : Below X.heap.size X X2 := by rw [hX2]; exact (Below.refl _ _).alloc (Nat.le_refl _) _
    have hcX : X2.heap[X.heap.size]? = some (.cells #[.int .u8 vr, .int .i64 ve, .string ⟨vw⟩, .slice va vn vc] 36 (0, 0)) := by rw [hX2]; exact World.alloc_heap_new X _
    have hzX : X2.heap.size = X.heap.size + 1 := by rw [hX2]; simp
    rw [← hX2]
    clear hX2
    have hmvX : Mv R X X2 := Mv.of_below hokX hbX
    have sX : R.sf X2 X.heap.size := R.fresh hokX hbX (Nat.le_refl _) (by omega)
    refine ⟨hmvX.kp hokX, ((HJ.out _).mono HB9.out.size).mv hmvX hokX hjX, ?_⟩
    intro W3 hl3 hr3 hsl3 hj3 hk3 hok3 hsz3 htr
    have hc3 := htr _ ((cells_abides W9.heap.size X.heap.size _ _ _ (by have := hkX.size; have := HB9.out.size; omega) (.inl (by decide))).and (sf_abides W9.heap.size X.heap.size)) ⟨hcX, sX⟩
    have ht3 := htr _ (treeR_abides R W9.heap.size _ x) (htv.kp (hmvX.kp hokX))
    have hkW3 := hk9.trans hk3
    have e0 := (hkW3.same _ S0.out).2.trans Y0.out
    have e2 := (hkW3.same _ S2.out).2.trans Y2.out
    have d0 : W3.cell? ⟨b0, 0, none⟩ = some (.pointer (some ⟨gb, 0, none⟩)) := by simp [World.cell?, e0]
    have d1 : W3.cell? ⟨b2, 0, none⟩ = some (.int .u8 k2) := by simp [World.cell?, e2]
    have d2 : W3.cell? ⟨b2, 1, none⟩ = some (.int .i64 i2) := by simp [World.cell?, e2]
    have d3 : W3.cell? ⟨b2, 2, none⟩ = some (.int .i64 j2) := by simp [World.cell?, e2]
    have HC3 := Lib.hid hc3
    have HT3 := Lib.hid ht3
    have hs3 := HS.out.kp HR.out.leaves hokW hkW3
    clear hc3 hcX ht3 htv e0 e2
    gi_wp2_with fail
    refine CallsIn.inRound L (callsIn_wide.2 ((trees_box gb k2 i2 j2 W3).mono ?_))
    rintro _ W5' ⟨rfl, hb5', hz5', hx5'⟩
    have hmv5 : Mv R W3 W5' := Mv.of_below hok3 hb5'
    have hk5 := hmv5.kp hok3
    have hok5 := hmv5.ok hok3
    have fr : ∀ b, W3.heap.size ≤ b → b < W5'.heap.size → R.sf W5' b := fun b h1 h2 => R.fresh hok3 hb5' h1 h2
    have hseq2 := H2.out R HR.out W5' W3.heap.size (hs3.below hb5') hok5 hx5' (fr _ (by omega) (by omega)) (fr _ (by omega) (by omega)) (fr _ (by omega) (by omega)) (fr _ (by omega) (by omega))
    obtain ⟨rec3, hrec3⟩ := hr3
    have hr5 : W5'.heap[L]? = some (.loop rec3) := (hb5'.block L hl3).trans hrec3
    have sL5 := (hk5.same _ hsl3).1
    have HSeq2 := Lib.hid hseq2
    have HB5 := Lib.hid hb5'
    have HR5 := Lib.hid hr5
    clear hseq2 hb5' hx5' fr hrec3 d0 d1 d2 d3 hr5
    simp only [treesV]
    gi_wp2
    refine wpIn_range_N HR5.out rfl (enters_of Tryz.func79 (by kernel_rfl) rfl) HSeq2.out hok5 (fun _ _ _ h => by obtain ⟨v, rfl, _⟩ := h; rfl)
      (fun pre2 Z => J (pairsS r e wd pre (treesS g k2 i2 j2) ++ pre2.map fun y => Tr.node r e wd [x, y]) Z)
      (fun c pre2 Z => c = .ret ∧ (∃ p, p <+: pairsS r e wd (treesS g k1 i1 j1) (treesS g k2 i2 j2) ∧ Jx p Z) ∧ KpFrom R (l + 1) W Z ∧ KpFrom R W9.heap.size W3 Z) ?hI2 ?hIx2 ?h02 ?round2 ?done2 ?stop2
    case hI2 => exact fun s => (HJ.out _).mono (by have := HB9.out.size; have := HB5.out.size; omega)
    case hIx2 =>
      rintro c pre2 X Y row hg hr hokX ⟨h1, ⟨p, hp, h2⟩, h3, h4⟩
      have hBB : W.heap.size ≤ W5'.heap.size := by have := HB9.out.size; have := HB5.out.size; omega
      exact ⟨h1, ⟨p, hp, (HJx.out p).mono hBB X Y row hg hr hokX h2⟩, kpFrom_abides hBB X Y row hg hr hokX h3, kpFrom_abides HB5.out.size X Y row hg hr hokX h4⟩
    case h02 =>
      have h := (HJ.out (pairsS r e wd pre (treesS g k2 i2 j2))).mv hmv5 hok3 hj3
      simpa using h
    case done2 =>
      intro Z hjZ hkZ hokZ
      gi_wp2
      refine ⟨hk5.trans hkZ, ?_⟩
      show J (pairsS r e wd (pre ++ [x]) (treesS g k2 i2 j2)) Z
      rw [pairsS_snoc]
      exact hjZ
    case stop2 =>
      rintro c pre2 Z hpre2 ⟨rfl, h2, h3, h4⟩ _ hokZ
      gi_wp2
      exact ⟨h4, hokZ, rfl, h2, h3⟩
    case round2 =>
      rintro L2 pre2 vs y Z hL2 hjZ ⟨v, rfl, hty⟩ hkZ hokZ hpre2
      obtain ⟨ur, ue, uw, ua, un, uc, rfl⟩ := treeV_form hty
      gi_wp2
      obtain ⟨Z2, hZ2⟩ : ∃ Z2, Z2 = Z.alloc (.cells #[.int .u8 ur, .int .i64 ue, .string ⟨uw⟩, .slice ua un uc] 36) := ⟨_, rfl⟩
      have hbZ : Below Z.heap.size Z Z2 := by rw [hZ2]; exact (Below.refl _ _).alloc (Nat.le_refl _) _
      have hcZ : Z2.heap[Z.heap.size]? = some (.cells #[.int .u8 ur, .int .i64 ue, .string ⟨uw⟩, .slice ua un uc] 36 (0, 0)) := by rw [hZ2]; exact World.alloc_heap_new Z _
      rw [← hZ2]
      clear hZ2
      have hmvZ : Mv R Z Z2 := Mv.of_below hokZ hbZ
      have hszB : W.heap.size ≤ W5'.heap.size := by have := HB9.out.size; have := HB5.out.size; omega
      refine ⟨hmvZ.kp hokZ, ((HJ.out _).mono hszB).mv hmvZ hokZ hjZ, ?_⟩
      intro W6 hl6 hr6 hsl6 hj6 hk6 hok6 hsz6 htr6
      have hc6 := htr6 _ (cells_abides W5'.heap.size Z.heap.size _ _ _ (by have := hkZ.size; omega) (.inl (by decide))) hcZ
      have hty6 := htr6 _ (treeR_abides R W5'.heap.size _ y) (hty.kp (hmvZ.kp hokZ))
      have hkW36 := hk5.trans hk6
      have htx6 := HT3.out.kp hkW36
      have hcx6 := (hkW36.same _ HC3.out.2).2.trans HC3.out.1
      have hkW6 := (hk9.trans hk3).trans hkW36
      have h36 := (hkW6.same _ S3.out).2.trans Y3.out
      have hy6 := ((hk3.trans hkW36).same _ sy9).2.trans XY9.out
      obtain ⟨fn, S, hS⟩ : ∃ (_ : Unit) (S : World → Prop), S = fun V => Below W6.heap.size W6 V := ⟨(), _, rfl⟩
      have keep : ∀ (V : World) (b : Nat) (o : Obj), S V → W6.heap[b]? = some o → V.heap[b]? = some o := fun V b o h hc => by
        rw [hS] at h
        exact (h.block b (Array.getElem?_eq_some_iff.1 hc).1).trans hc
      have f0 : ∀ V, S V → V.cell? ⟨W.heap.size, 0, none⟩ = some (.func (.yield l) #[] #[]) := fun V h => by simp [World.cell?, keep V _ _ h hy6]
      have f1 : ∀ V, S V → V.cell? ⟨b3, 0, none⟩ = some (.int .u8 r) ∧ V.cell? ⟨b3, 1, none⟩ = some (.int .i64 e) ∧ V.cell? ⟨b3, 2, none⟩ = some (.string ⟨wd.toArray⟩) ∧ V.cell? ⟨b3, 3, none⟩ = some (.slice none 0 0) := fun V h => by simp [World.cell?, keep V _ _ h h36]
      have f2 : ∀ V, S V → V.cell? ⟨X.heap.size, 0, none⟩ = some (.int .u8 vr) ∧ V.cell? ⟨X.heap.size, 1, none⟩ = some (.int .i64 ve) ∧ V.cell? ⟨X.heap.size, 2, none⟩ = some (.string ⟨vw⟩) ∧ V.cell? ⟨X.heap.size, 3, none⟩ = some (.slice va vn vc) := fun V h => by simp [World.cell?, keep V _ _ h hcx6]
      have f3 : ∀ V, S V → V.cell? ⟨Z.heap.size, 0, none⟩ = some (.int .u8 ur) ∧ V.cell? ⟨Z.heap.size, 1, none⟩ = some (.int .i64 ue) ∧ V.cell? ⟨Z.heap.size, 2, none⟩ = some (.string ⟨uw⟩) ∧ V.cell? ⟨Z.heap.size, 3, none⟩ = some (.slice ua un uc) := fun V h => by simp [World.cell?, keep V _ _ h hc6]
      have hSd : S W6.drew := by rw [hS]; exact (Below.refl _ _).drew
      have HSS := Lib.hid hS
      have HTx := Lib.hid htx6
      have HTy := Lib.hid hty6
      clear keep hS hc6 hcx6 h36 hy6 htx6 hty6 hcZ hty
      gi_wp2
      refine regionM S 6 (by kernel_rfl) hSd (fun hpo hS0 => ?_)
      refine takeM (i := 0) 26 (.func (.yield l) #[] #[]) hpo rfl (by kernel_rfl) (fun _ _ _ h => h) rfl (by rfl) (fun V hX => (by have g0 := f0 V hX; go_simp)) (fun _ => rfl) hS0 (fun hS1 => ?_)
      simp only [List.setIfInBounds_toArray, List.set_cons_zero, List.set_cons_succ]
      refine takeM (i := 1) 27 (.agg #[.int .u8 r, .int .i64 e, .string ⟨wd.toArray⟩, .slice none 0 0]) hpo rfl (by kernel_rfl) (fun _ _ _ h => h) rfl (by rfl) (fun V hX => (by obtain ⟨g0, g1, g2, g3⟩ := f1 V hX; go_simp)) (fun _ => rfl) hS1 (fun hS2 => ?_)
      simp only [List.setIfInBounds_toArray, List.set_cons_zero, List.set_cons_succ]
      refine takeM (i := 2) 28 (.agg #[.int .u8 vr, .int .i64 ve, .string ⟨vw⟩, .slice va vn vc]) hpo rfl (by kernel_rfl) (fun _ _ _ h => h) rfl (by rfl) (fun V hX => (by obtain ⟨g0, g1, g2, g3⟩ := f2 V hX; go_simp)) (fun _ => rfl) hS2 (fun hS3 => ?_)
      simp only [List.setIfInBounds_toArray, List.set_cons_zero, List.set_cons_succ]
      refine takeM (i := 3) 29 (.agg #[.int .u8 ur, .int .i64 ue, .string ⟨uw⟩, .slice ua un uc]) hpo rfl (by kernel_rfl) (fun _ _ _ h => h) rfl (by rfl) (fun V hX => (by obtain ⟨g0, g1, g2, g3⟩ := f3 V hX; go_simp)) (fun _ => rfl) hS3 (fun hS4 => ?_)
      simp only [List.setIfInBounds_toArray, List.set_cons_zero, List.set_cons_succ]
      refine oneM (i := 4) rfl (by kernel_rfl) (by rfl) (fun K hK => ?_)
      go_simp
      refine hK _ _ (fun _ => (by rw [HSS.out]; exact ((Below.refl _ _).alloc (Nat.le_refl _) _).drew)) (fun hT5 => ?_)
      have hS5 := hT5 (by decide)
      clear hK K
      obtain ⟨V4, hV4⟩ : ∃ V4, V4 = (W6.alloc (.cells #[.int .u8 vr, .int .i64 ve, .string ⟨vw⟩, .slice va vn vc, .int .u8 ur, .int .i64 ue, .string ⟨uw⟩, .slice ua un uc] 36)).drew := ⟨_, rfl⟩
      have hb46 : Below W6.heap.size W6 V4 := by rw [hV4]; exact ((Below.refl _ _).alloc (Nat.le_refl _) _).drew
      have hc4 : V4.heap[W6.heap.size]? = some (.cells #[.int .u8 vr, .int .i64 ve, .string ⟨vw⟩, .slice va vn vc, .int .u8 ur, .int .i64 ue, .string ⟨uw⟩, .slice ua un uc] 36 (0, 0)) := by rw [hV4]; exact World.alloc_heap_new W6 _
      rw [← hV4] at hS5 ⊢
      clear hV4 hT5
      refine oneM (i := 5) rfl (by kernel_rfl) (by rfl) (fun K hK => ?_)
      go_simp
      refine CallsIn.inRound L2 (callsIn_wide.2 ((headed_any r e ⟨wd.toArray⟩ none _ 0 0 2 2 _).mono ?_))
      rintro _ V5 ⟨rfl, hb54⟩
      refine hK _ _ (fun _ => (by rw [HSS.out] at hS5 ⊢; exact hS5.trans (hb54.mono hS5.size))) (fun hT6 => ?_)
      have hS6 := hT6 (by decide)
      clear hK K
      have hb56 : Below W6.heap.size W6 V5 := hb46.trans (hb54.mono hb46.size)
      have hc5 : V5.heap[W6.heap.size]? = some (.cells #[.int .u8 vr, .int .i64 ve, .string ⟨vw⟩, .slice va vn vc, .int .u8 ur, .int .i64 ue, .string ⟨uw⟩, .slice ua un uc] 36 (0, 0)) := (hb54.block _ (Array.getElem?_eq_some_iff.1 hc4).1).trans hc4
      have hmv5' : Mv R W6 V5 := Mv.of_below hok6 hb56
      have hkp5 := hmv5'.kp hok6
      have hok5' := hmv5'.ok hok6
      have sA : R.sf V5 W6.heap.size := R.fresh hok6 hb56 (Nat.le_refl _) (Array.getElem?_eq_some_iff.1 hc5).1
      have htree : TreeR R V5 (.agg #[.int .u8 r, .int .i64 e, .string ⟨wd.toArray⟩, .slice (some ⟨W6.heap.size, 0, none⟩) 2 2]) (.node r e wd [x, y]) := by
        refine TreeV.mk r e wd [x, y] (some ⟨W6.heap.size, 0, none⟩) 2 (fun j => if j = 0 then .agg #[.int .u8 vr, .int .i64 ve, .string ⟨vw⟩, .slice va vn vc] else .agg #[.int .u8 ur, .int .i64 ue, .string ⟨uw⟩, .slice ua un uc]) (.inr ⟨W6.heap.size, 0, rfl, sA, fun j hj => ?_⟩) (fun j hj => ?_)
        · rcases j with _ | _ | j
          · exact ⟨_, _, _, _, rfl, by simp [World.cell?, hc5], by simp [World.cell?, hc5], by simp [World.cell?, hc5], by simp [World.cell?, hc5]⟩
          · exact ⟨_, _, _, _, rfl, by simp [World.cell?, hc5], by simp [World.cell?, hc5], by simp [World.cell?, hc5], by simp [World.cell?, hc5]⟩
          · simp at hj; omega
        · rcases j with _ | _ | j
          · exact HTx.out.kp hkp5
          · exact HTy.out.kp hkp5
          · simp at hj; omega
      obtain ⟨fn, tmps, assign, body, hy, hRd⟩ := yieldAt_any 2 (HY.out _ _ _ V5 (((HJ.out _).mono hszB).mv hmv5' hok6 hj6) (hkW6.trans hkp5) hok5' ⟨_, rfl, htree⟩ (pairs_prefix hpre hpre2))
      have HTree := Lib.hid htree
      clear htree hc5 hc4 hS5
      refine oneM (i := 6) rfl (by kernel_rfl) (by rfl) (fun K hK => ?_)
      go_simp
      refine hRd.mono ?_
      rintro _ V6 (⟨rfl, hJ6, hk65⟩ | ⟨rfl, hJ6, hok6', hk65⟩)
      · refine hK _ _ (fun h => absurd h (by decide)) (fun _ => ?_)
        clear hK K
        refine oneM (i := 7) rfl (by kernel_rfl) (by rfl) (fun K hK => ?_)
        go_simp
        refine hK _ _ (fun h => absurd h (by decide)) (fun _ => ?_)
        clear hK K
        refine doneM (by kernel_rfl) ?_ _
        gi_wp2
        refine ⟨hkp5.trans hk65, ?_⟩
        show J (pairsS r e wd pre (treesS g k2 i2 j2) ++ (pre2 ++ [y]).map fun y => Tr.node r e wd [x, y]) V6
        rw [List.map_append, ← List.append_assoc]
        exact hJ6
      · refine hK _ _ (fun h => absurd h (by decide)) (fun _ => ?_)
        clear hK K
        refine oneM (i := 7) rfl (by kernel_rfl) (by rfl) (fun K hK => ?_)
        go_simp
        refine hK _ _ (fun h => absurd h (by decide)) (fun _ => ?_)
        clear hK K
        refine doneM (by kernel_rfl) ?_ _
        gi_wp2
        exact ⟨((hkp5.from _).trans hk65).mono (by omega), hok6', rfl, ⟨_, pairs_prefix hpre hpre2, hJ6⟩, ((hkW6.trans hkp5).from _).trans hk65, (((hkW36.trans hkp5).from _).trans hk65).mono (by have := HB9.out.size; omega)⟩
end Go.Proofs.YthmnffgjckpkiaaGreatDoor
