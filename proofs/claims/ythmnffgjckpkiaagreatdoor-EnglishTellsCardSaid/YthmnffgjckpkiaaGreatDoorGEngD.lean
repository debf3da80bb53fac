/-
  The iterator 'fill' of package english: the parses by a row that is opened in one way.
  The iterator 'fill' of package english at a row of two parts.
  The iterator 'trees' of package english yields the parses of a span, in their order.
-/
import Derived.Test.YthmnffgjckpkiaaGreatDoorGEngC
namespace Go.Proofs.YthmnffgjckpkiaaGreatDoor
open Go Go.RowKit Go.Shelf
attribute [local go_sem] Oper.semAt_some

def opnV (o : Opn) : Value := .agg #[.int .i64 o.entry, .string ⟨o.word.toArray⟩, .int .i64 o.at]
/-- The boxes of the iterator of an opened row. -/
structure FillBox (gb : Nat) (r : RowS) (fv pv : Value) (o : Opn) (t b : Nat) (w : World) : Prop where
  c0 : w.heap[b]? = some (.cells #[.pointer (some ⟨gb, 0, none⟩)] 77 (0, 0))
  c1 : w.heap[b + 1]? = some (.cells #[.int .u8 r.rule, .int .u8 r.kind, fv, pv, .string ⟨r.glue.toArray⟩] 124 (0, 0))
  c2 : w.heap[b + 1 + 1]? = some (.cells #[.int .i64 o.entry, .string ⟨o.word.toArray⟩, .int .i64 o.at] 127 (0, 0))
  c3 : w.heap[b + 1 + 1 + 1]? = some (.cells #[.int .i64 t] 3 (0, 0))
  c4 : w.heap[b + 1 + 1 + 1 + 1]? = some (.cells #[.int .u8 r.rule, .int .i64 o.entry, .string ⟨o.word.toArray⟩, .slice none 0 0] 36 (0, 0))
def fillLb (b : Nat) : Array Value := #[.pointer (some ⟨b + 1, 0, none⟩), .pointer (some ⟨b + 1 + 1 + 1 + 1, 0, none⟩), .pointer (some ⟨b, 0, none⟩), .pointer (some ⟨b + 1 + 1, 0, none⟩), .pointer (some ⟨b + 1 + 1 + 1, 0, none⟩)]

theorem heap_at {w : World} {o : Obj} {k : Nat} (h : k = w.heap.size) : (w.alloc o).heap[k]? = some o := by rw [h]; exact World.alloc_heap_new w o
theorem fill_box (gb : Nat) (r : RowS) (fv : Value) (fo : Nat) (bd caps : Array Value) (hfv : fv = .func (.func fo) bd caps) (pa : Option Addr) (pn pc : Nat) (o : Opn) (t : Nat) (w : World) :
    Calls Tryz.prog 82 #[.pointer (some ⟨gb, 0, none⟩), rowV r fv (.slice pa pn pc), opnV o, .int .i64 t] w fun e w' =>
      e = .returned (.func (.func 123) #[] (fillLb w.heap.size)) ∧ Below w.heap.size w w' ∧ w'.heap.size = w.heap.size + 5 ∧ FillBox gb r fv (.slice pa pn pc) o t w.heap.size w' := by
  subst hfv
  unfold rowV opnV strVal
  go_enter Tryz.func82, Tryz.ntmps82
  go_wp2
  go_ret
  refine ⟨rfl, ((((((Below.refl _ _).alloc (Nat.le_refl _) _).alloc (by simp) _).alloc (by simp; omega) _).alloc (by simp; omega) _).alloc (by simp; omega) _), by simp, ?_, ?_, ?_, ?_, ?_⟩
  all_goals
    repeat rw [Below.heap_alloc _ _ _ (by first | (simp; done) | (simp; omega))]
    exact heap_at (by simp)

structure FillSf (R : Rg) (b : Nat) (w : World) : Prop where
  s0 : R.sf w b
  s1 : R.sf w (b + 1)
  s2 : R.sf w (b + 1 + 1)
  s3 : R.sf w (b + 1 + 1 + 1)
  s4 : R.sf w (b + 1 + 1 + 1 + 1)
theorem FillBox.kp {R : Rg} {gb : Nat} {r : RowS} {fv pv : Value} {o : Opn} {t b : Nat} {w W : World} (h : FillBox gb r fv pv o t b w) (hs : FillSf R b w) (hk : Kp R w W) : FillBox gb r fv pv o t b W :=
  ⟨(hk.same _ hs.s0).2.trans h.c0, (hk.same _ hs.s1).2.trans h.c1, (hk.same _ hs.s2).2.trans h.c2, (hk.same _ hs.s3).2.trans h.c3, (hk.same _ hs.s4).2.trans h.c4⟩
theorem FillSf.kp {R : Rg} {b : Nat} {w W : World} (hs : FillSf R b w) (hk : Kp R w W) : FillSf R b W :=
  ⟨(hk.same _ hs.s0).1, (hk.same _ hs.s1).1, (hk.same _ hs.s2).1, (hk.same _ hs.s3).1, (hk.same _ hs.s4).1⟩
theorem FillBox.below {gb : Nat} {r : RowS} {fv pv : Value} {o : Opn} {t b : Nat} {w W : World} (h : FillBox gb r fv pv o t b w) (hb : Below w.heap.size w W) : FillBox gb r fv pv o t b W := by
  have k : ∀ (i : Nat) (ob : Obj), w.heap[i]? = some ob → W.heap[i]? = some ob := fun i ob hi => (hb.block i (Array.getElem?_eq_some_iff.1 hi).1).trans hi
  exact ⟨k _ _ h.c0, k _ _ h.c1, k _ _ h.c2, k _ _ h.c3, k _ _ h.c4⟩
/-- The cells that the iterator reads. -/
structure FillCells (gb : Nat) (r : RowS) (pv : Value) (o : Opn) (t b : Nat) (W : World) : Prop where
  g : W.cell? ⟨b, 0, none⟩ = some (.pointer (some ⟨gb, 0, none⟩))
  p : W.cell? ⟨b + 1, 3, none⟩ = some pv
  at_ : W.cell? ⟨b + 1 + 1, 2, none⟩ = some (.int .i64 o.at)
  t : W.cell? ⟨b + 1 + 1 + 1, 0, none⟩ = some (.int .i64 t)
  h0 : W.cell? ⟨b + 1 + 1 + 1 + 1, 0, none⟩ = some (.int .u8 r.rule)
  h1 : W.cell? ⟨b + 1 + 1 + 1 + 1, 1, none⟩ = some (.int .i64 o.entry)
  h2 : W.cell? ⟨b + 1 + 1 + 1 + 1, 2, none⟩ = some (.string ⟨o.word.toArray⟩)
  h3 : W.cell? ⟨b + 1 + 1 + 1 + 1, 3, none⟩ = some (.slice none 0 0)
theorem FillBox.cells {gb : Nat} {r : RowS} {fv pv : Value} {o : Opn} {t b : Nat} {W : World} (h : FillBox gb r fv pv o t b W) : FillCells gb r pv o t b W := by
  obtain ⟨c0, c1, c2, c3, c4⟩ := h
  refine ⟨?_, ?_, ?_, ?_, ?_, ?_, ?_, ?_⟩ <;> simp [World.cell?, c0, c1, c2, c3, c4]

set_option maxRecDepth 100000 in
set_option maxHeartbeats 4000000 in
theorem fill_nil {R : Rg} {w : World} {gb : Nat} (g : Gr) (r : RowS) (hr : r.parts = []) (fv : Value) (pa : Option Addr) (pc : Nat) (o : Opn) (t b : Nat)
    (hb : FillBox gb r fv (.slice pa 0 pc) o t b w) (hsf : FillSf R b w) : SeqM R Tryz.prog 123 (fillLb b) (fillS g r o t) (TreeA R) w := by
  intro l J Jx W hW hokW hl hJ hJx hY hJ0
  have hbW := hb.kp hsf hW
  have hsW := hsf.kp hW
  have hfs : fillS g r o t = [.node r.rule o.entry o.word []] := by unfold fillS fillF; rw [hr]
  obtain ⟨W2, hW2⟩ : ∃ W2, W2 = W.alloc (.cells #[.func (.yield l) #[] #[]] 53) := ⟨_, rfl⟩
  have hb2 : Below W.heap.size W W2 := by rw [hW2]; exact (Below.refl _ _).alloc (Nat.le_refl _) _
  have xy : Boxed W2 W.heap.size 53 (.func (.yield l) #[] #[]) := by rw [hW2]; exact Boxed.new _ _ _
  have cy := xy.cell
  obtain ⟨c1, c2, c3, c4, c5, c6, c7, c8⟩ := (hbW.below hb2).cells
  have hmv2 : Mv R W W2 := Mv.of_below hokW hb2
  have htree : TreeR R W2 (.agg #[.int .u8 r.rule, .int .i64 o.entry, .string ⟨o.word.toArray⟩, .slice none 0 0]) (.node r.rule o.entry o.word []) :=
    TreeV.mk r.rule o.entry o.word [] none 0 (fun _ => undef) (.inl rfl) (fun j hj => by simp at hj)
  rw [hfs] at hY ⊢
  obtain ⟨fn, tmps, assign, body, hy, hRd⟩ := yieldAt_any 2 (hY [] _ (.node r.rule o.entry o.word []) W2 ((hJ []).mv hmv2 hokW hJ0) (hmv2.kp hokW) (hmv2.ok hokW) ⟨_, rfl, htree⟩ (List.prefix_refl _))
  have hk2 := hmv2.kp hokW
  have HW2 := Lib.hid hW2
  clear hY hJ hJx hJ0 hbW hsW hb hsf htree hW2 hW
  refine (callsIn_wide (n := 3)).1 ?_
  refine callsIn_of_wp Tryz.func123 rfl trivial ?_ rfl
  unfold fillLb
  simp only [Tryz.ntmps123, List.size_toArray, List.length_cons, List.length_nil, Nat.reduceAdd, Nat.reduceSub, Array.replicate_succ, Array.replicate_zero, List.push_toArray, List.append_toArray, List.nil_append, List.cons_append]
  have hfw : ∀ f, Fence.wide.fn f := fun _ => trivial
  have hmk : ∀ w', w' = W.alloc (.cells #[.func (.yield l) #[] #[]] 53) → w' = W2 := fun w' h => h.trans HW2.out.symm
  gi_wp2
  refine hRd.mono ?_
  rintro _ V (⟨rfl, hJ6, hk6⟩ | ⟨rfl, hJ6, hok6, hk6⟩)
  · gi_wp2
    go_end0
    exact ⟨⟨_, rfl⟩, .inl ⟨hJ6, hk2.trans hk6⟩⟩
  · gi_wp2
    go_end0
    exact ⟨⟨_, rfl⟩, .inr ⟨_, List.prefix_refl _, hJ6, hok6, (hk2.from _).trans hk6⟩⟩

set_option maxRecDepth 100000 in
set_option maxHeartbeats 4000000 in
theorem fill_one {m gb : Nat} {g : Gr} {W0 : World} {R : Rg} (hR : Counts R m g W0) {w : World} (hs : Since m W0 w) (hok : R.ok w) (r : RowS) (k : Nat) (hr : r.parts = [k]) (fv : Value) (pa : Option Addr) (pc : Nat) (hp : PartsAt W0 (.slice pa 1 pc) [k]) (o : Opn) (t b : Nat)
    (hT : TreesOk m gb g W0 k o.at t) (hb : FillBox gb r fv (.slice pa 1 pc) o t b w) (hsf : FillSf R b w) : SeqM R Tryz.prog 123 (fillLb b) (fillS g r o t) (TreeA R) w := by
  intro l J Jx W hW hokW hl hJ hJx hY hJ0
  have hbW := hb.kp hsf hW
  have hsW := hsf.kp hW
  have hsinW := hs.kp hR.leaves hok hW
  have hfs : fillS g r o t = (treesS g k o.at t).map fun x => .node r.rule o.entry o.word [x] := by unfold fillS fillF; rw [hr]
  obtain ⟨pa', pc', hpe, hpb⟩ := hp
  obtain ⟨pb, hpa, hpc⟩ := hpb.resolve_left (by simp)
  simp only [Value.slice.injEq] at hpe
  obtain ⟨he1, -, he2⟩ := hpe
  subst he1 he2 hpa
  have hp0 := hsinW.cell (hpc 0 (by simp))
  simp only [List.getElem_cons_zero] at hp0
  obtain ⟨W2, hW2⟩ : ∃ W2, W2 = W.alloc (.cells #[.func (.yield l) #[] #[]] 53) := ⟨_, rfl⟩
  have hb2 : Below W.heap.size W W2 := by rw [hW2]; exact (Below.refl _ _).alloc (Nat.le_refl _) _
  have hz2 : W2.heap.size = W.heap.size + 1 := by rw [hW2]; simp
  have xy : Boxed W2 W.heap.size 53 (.func (.yield l) #[] #[]) := by rw [hW2]; exact Boxed.new _ _ _
  have hb2W := hbW.below hb2
  have c2 := hbW.cells.p
  have l1 := R.lt hsW.s1
  have hmv2 : Mv R W W2 := Mv.of_below hokW hb2
  have hk2 := hmv2.kp hokW
  have hok2 := hmv2.ok hokW
  have sy2 : R.sf W2 W.heap.size := R.fresh hokW hb2 (Nat.le_refl _) (by omega)
  have hp2 := cell_kept' hb2 hp0
  rw [hfs] at hY ⊢
  have HY := Lib.hid hY
  have HJ := Lib.hid hJ
  have HJx := Lib.hid hJx
  have HJ0 := Lib.hid hJ0
  have HT := Lib.hid hT
  have HR := Lib.hid hR
  have HSW := Lib.hid hsW
  have HBW := Lib.hid hb2W
  have HS := Lib.hid hsinW
  have HXY := Lib.hid xy
  have HW2 := Lib.hid hW2
  have HK2 := Lib.hid hk2
  have HB2 := Lib.hid hb2
  have hm0 := R.mlt hokW
  clear hY hJ hJx hJ0 hbW hsW hb hsf hW2 hW hT hR hs hsinW hpc hpb hp0 xy hb2W hfs hk2 hb2
  refine (callsIn_wide (n := 3)).1 ?_
  refine callsIn_of_wp_marks Tryz.func123 rfl trivial ?_ rfl
  unfold fillLb
  simp only [Tryz.ntmps123, List.size_toArray, List.length_cons, List.length_nil, Nat.reduceAdd, Nat.reduceSub, Array.replicate_succ, Array.replicate_zero, List.push_toArray, List.append_toArray, List.nil_append, List.cons_append]
  have hfw : ∀ f, Fence.wide.fn f := fun _ => trivial
  gi_wp2
  rw [← HW2.out]
  clear c2 l1
  obtain ⟨c1, c2, c3, c4, _, _, _, _⟩ := HBW.out.cells
  have C1 := Lib.hid c1
  have C2 := Lib.hid c2
  have C3 := Lib.hid c3
  have C4 := Lib.hid c4
  have C5 := Lib.hid hp2
  clear c1 c2 c3 c4 hp2
  obtain ⟨_, S, hS⟩ : ∃ (_ : Unit) (S : World → Prop), S = fun V => Below W2.heap.size W2 V := ⟨(), _, rfl⟩
  have keep : ∀ (V : World) (a : Addr) (v : Value), S V → W2.cell? a = some v → V.cell? a = some v := fun V a v h hc => by
    rw [hS] at h
    exact cell_kept' h hc
  have f1 := fun V h => keep V _ _ h C1.out
  have f2 := fun V h => keep V _ _ h C2.out
  have f3 := fun V h => keep V _ _ h C3.out
  have f4 := fun V h => keep V _ _ h C4.out
  have f5 := fun V h => keep V _ _ h C5.out
  have hSd : S W2.drew := by rw [hS]; exact (Below.refl _ _).drew
  clear keep hS
  refine regionM S 8 (by kernel_rfl) hSd (fun hpo hS0 => ?_)
  refine takeM (i := 0) 60 (.pointer (some ⟨gb, 0, none⟩)) hpo rfl (by kernel_rfl) (fun _ _ _ h => h) rfl (by rfl) (fun V hX => (by have g1 := f1 V hX; go_simp)) (fun _ => rfl) hS0 (fun hS1 => ?_)
  simp only [List.setIfInBounds_toArray, List.set_cons_zero, List.set_cons_succ]
  refine takeM (i := 1) 61 (.pointer (some ⟨b + 1, 3, none⟩)) hpo rfl (by kernel_rfl) (fun _ _ _ h => h) rfl (by rfl) (fun V hX => (by go_simp)) (fun _ => rfl) hS1 (fun hS2 => ?_)
  simp only [List.setIfInBounds_toArray, List.set_cons_zero, List.set_cons_succ]
  refine takeM (i := 2) 62 (.slice (some ⟨pb, 0, none⟩) 1 pc) hpo rfl (by kernel_rfl) (fun _ _ _ h => h) rfl (by rfl) (fun V hX => (by have g2 := f2 V hX; go_simp)) (fun _ => rfl) hS2 (fun hS3 => ?_)
  simp only [List.setIfInBounds_toArray, List.set_cons_zero, List.set_cons_succ]
  refine takeM (i := 3) 63 (.pointer (some ⟨pb, 0, none⟩)) hpo rfl (by kernel_rfl) (fun _ _ _ h => h) rfl (by rfl) (fun V hX => (by go_simp)) (fun _ => rfl) hS3 (fun hS4 => ?_)
  simp only [List.setIfInBounds_toArray, List.set_cons_zero, List.set_cons_succ]
  refine takeM (i := 4) 64 (.int .u8 k) hpo rfl (by kernel_rfl) (fun _ _ _ h => h) rfl (by rfl) (fun V hX => (by have g5 := f5 V hX; go_simp)) (fun _ => rfl) hS4 (fun hS5 => ?_)
  simp only [List.setIfInBounds_toArray, List.set_cons_zero, List.set_cons_succ]
  refine takeM (i := 5) 65 (.pointer (some ⟨b + 1 + 1, 2, none⟩)) hpo rfl (by kernel_rfl) (fun _ _ _ h => h) rfl (by rfl) (fun V hX => (by go_simp)) (fun _ => rfl) hS5 (fun hS6 => ?_)
  simp only [List.setIfInBounds_toArray, List.set_cons_zero, List.set_cons_succ]
  refine takeM (i := 6) 66 (.int .i64 o.at) hpo rfl (by kernel_rfl) (fun _ _ _ h => h) rfl (by rfl) (fun V hX => (by have g3 := f3 V hX; go_simp)) (fun _ => rfl) hS6 (fun hS7 => ?_)
  simp only [List.setIfInBounds_toArray, List.set_cons_zero, List.set_cons_succ]
  refine takeM (i := 7) 67 (.int .i64 t) hpo rfl (by kernel_rfl) (fun _ _ _ h => h) rfl (by rfl) (fun V hX => (by have g4 := f4 V hX; go_simp)) (fun _ => rfl) hS7 (fun hS8 => ?_)
  simp only [List.setIfInBounds_toArray, List.set_cons_zero, List.set_cons_succ]
  refine oneM (i := 8) rfl (by kernel_rfl) (by rfl) (fun K hK => ?_)
  go_simp
  refine callsIn_wide.2 ((trees_box gb k o.at t W2.drew).mono ?_)
  rintro _ W6 ⟨rfl, hb6, hz6, hx6⟩
  refine hK _ _ (fun h => absurd h (by decide)) (fun _ => ?_)
  clear hK K
  refine doneM (by kernel_rfl) ?_ _
  have hbW6 : Below W.heap.size W W6 := HB2.out.trans ((((Below.refl _ W2).drew).trans hb6).mono HB2.out.size)
  have hz6' : W6.heap.size = W.heap.size + 5 := by have : W2.drew.heap.size = W2.heap.size := rfl; omega
  have hmv6 : Mv R W W6 := Mv.of_below hokW hbW6
  have hk6 := hmv6.kp hokW
  have hok6 := hmv6.ok hokW
  have fr : ∀ c, W.heap.size ≤ c → c < W6.heap.size → R.sf W6 c := fun c h1 h2 => R.fresh hokW hbW6 h1 h2
  have hxy6 : Boxed W6 W.heap.size 53 (.func (.yield l) #[] #[]) := (hb6.block _ HXY.out.lt).trans HXY.out
  have sy6 := fr W.heap.size (Nat.le_refl _) (by omega)
  have hseq := HT.out R HR.out W6 W2.drew.heap.size (HS.out.below hbW6) hok6 hx6 (fr _ (by show _ ≤ W2.heap.size; omega) (by show W2.heap.size < _; omega)) (fr _ (by show _ ≤ W2.heap.size + 1; omega) (by show W2.heap.size + 1 < _; omega)) (fr _ (by show _ ≤ W2.heap.size + 1 + 1; omega) (by show W2.heap.size + 1 + 1 < _; omega)) (fr _ (by show _ ≤ W2.heap.size + 1 + 1 + 1; omega) (by show W2.heap.size + 1 + 1 + 1 < _; omega))
  have hB6 := (HBW.out.below (Below.refl _ _).drew).below hb6
  have hF6 := HSW.out.kp hk6
  have HSeq := Lib.hid hseq
  have HBW6 := Lib.hid hbW6
  have HXY6 := Lib.hid hxy6
  have HB6 := Lib.hid hB6
  have HF6 := Lib.hid hF6
  clear hseq hbW6 hxy6 fr hb6 hx6 hB6 hF6 hz6 f1 f2 f3 f4 f5 hS0 hS1 hS2 hS3 hS4 hS5 hS6 hS7 hS8 hpo hSd
  simp only [treesV]
  gi_wp2
  refine wpIn_range_M rfl (enters_of Tryz.func79 (by kernel_rfl) rfl) HSeq.out hok6 (fun _ _ _ h => by obtain ⟨v, rfl, _⟩ := h; rfl)
    (fun pre X => J (pre.map fun x => Tr.node r.rule o.entry o.word [x]) X) (fun c pre X => c = .ret ∧ (∃ p, p <+: (treesS g k o.at t).map (fun x => Tr.node r.rule o.entry o.word [x]) ∧ Jx p X) ∧ KpFrom R (l + 1) W X) (fun s => (HJ.out _).mono HBW6.out.size) ?hIx ((HJ.out []).mv hmv6 hokW HJ0.out) ?round ?done ?stop
  case hIx =>
    rintro c pre X Y row hg hr hokX ⟨h1, ⟨p, hp, h2⟩, h3⟩
    exact ⟨h1, ⟨p, hp, (HJx.out p).mono HBW6.out.size X Y row hg hr hokX h2⟩, kpFrom_abides HBW6.out.size X Y row hg hr hokX h3⟩
  case done =>
    intro D X hD hjX hkX hokX hd _
    gi_wp2
    refine ⟨by simp, .inl ⟨_, _, rfl, run_takeDeferred hd, ?_⟩⟩
    refine ⟨_, results_none rfl _ _ _, ⟨_, rfl⟩, .inl ⟨?_, kp_put _ (hk6.trans hkX) hokX (by have := HBW6.out.size; omega) (by omega) hd rfl⟩⟩
    exact abides_put (HJ.out _) _ hokX hjX (by have := HBW6.out.size; omega) (by omega) hd rfl
  case stop =>
    rintro D c pre X hD hpre ⟨rfl, ⟨p, hp, h2⟩, h3⟩ _ hokX hd
    gi_wp2
    refine ⟨by simp, .inl ⟨_, _, rfl, run_takeDeferred hd, ?_⟩⟩
    refine ⟨_, results_none rfl _ _ _, ⟨_, rfl⟩, .inr ⟨p, hp, abides_put (HJx.out _) _ hokX h2 (by have := HBW6.out.size; omega) (by omega) hd rfl, ok_put hokX (by omega) hd rfl, kpFrom_put _ h3 hokX (by have := HBW6.out.size; omega) hd rfl⟩⟩
  case round =>
    rintro L pre vs x Z hL hjZ ⟨v, rfl, hty⟩ hkZ hokZ hpre
    obtain ⟨ur, ue, uw, ua, un, uc, rfl⟩ := treeV_form hty
    gi_wp2
    obtain ⟨Z2, hZ2⟩ : ∃ Z2, Z2 = Z.alloc (.cells #[.int .u8 ur, .int .i64 ue, .string ⟨uw⟩, .slice ua un uc] 36) := ⟨_, rfl⟩
    have hbZ : Below Z.heap.size Z Z2 := by rw [hZ2]; exact (Below.refl _ _).alloc (Nat.le_refl _) _
    have hcZ : Z2.heap[Z.heap.size]? = some (.cells #[.int .u8 ur, .int .i64 ue, .string ⟨uw⟩, .slice ua un uc] 36 (0, 0)) := by rw [hZ2]; exact World.alloc_heap_new Z _
    rw [← hZ2]
    clear hZ2
    have hmvZ : Mv R Z Z2 := Mv.of_below hokZ hbZ
    refine ⟨hmvZ.kp hokZ, ((HJ.out _).mono HBW6.out.size).mv hmvZ hokZ hjZ, ?_⟩
    intro W7 hl7 hr7 hsl7 hj7 hk7 hok7 hsz7 htr7
    have hc7 := htr7 _ (cells_abides W6.heap.size Z.heap.size _ _ _ (by have := hkZ.size; have := HBW6.out.size; omega) (.inl (by decide))) hcZ
    have hty7 := htr7 _ (treeR_abides R W6.heap.size _ x) (hty.kp (hmvZ.kp hokZ))
    have hkW7 := hk6.trans hk7
    obtain ⟨_, _, _, _, d1, d2, d3, d4⟩ := (HB6.out.kp HF6.out hk7).cells
    have hy7 := ((hk7.same _ sy6).2.trans HXY6.out)
    have dy : W7.cell? ⟨W.heap.size, 0, none⟩ = some (.func (.yield l) #[] #[]) := by simp [World.cell?, hy7]
    obtain ⟨_, S, hS⟩ : ∃ (_ : Unit) (S : World → Prop), S = fun V => Below W7.heap.size W7 V := ⟨(), _, rfl⟩
    have keep : ∀ (V : World) (a : Addr) (v : Value), S V → W7.cell? a = some v → V.cell? a = some v := fun V a v h hc => by
      rw [hS] at h
      exact cell_kept' h hc
    have z0 : W7.cell? ⟨Z.heap.size, 0, none⟩ = some (.int .u8 ur) := by simp [World.cell?, hc7]
    have z1 : W7.cell? ⟨Z.heap.size, 1, none⟩ = some (.int .i64 ue) := by simp [World.cell?, hc7]
    have z2 : W7.cell? ⟨Z.heap.size, 2, none⟩ = some (.string ⟨uw⟩) := by simp [World.cell?, hc7]
    have z3 : W7.cell? ⟨Z.heap.size, 3, none⟩ = some (.slice ua un uc) := by simp [World.cell?, hc7]
    have f0 : ∀ V, S V → V.cell? ⟨W.heap.size, 0, none⟩ = some (.func (.yield l) #[] #[]) := fun V h => keep V _ _ h dy
    have f1 : ∀ V, S V → V.cell? ⟨b + 1 + 1 + 1 + 1, 0, none⟩ = some (.int .u8 r.rule) ∧ V.cell? ⟨b + 1 + 1 + 1 + 1, 1, none⟩ = some (.int .i64 o.entry) ∧ V.cell? ⟨b + 1 + 1 + 1 + 1, 2, none⟩ = some (.string ⟨o.word.toArray⟩) ∧ V.cell? ⟨b + 1 + 1 + 1 + 1, 3, none⟩ = some (.slice none 0 0) := fun V h => ⟨keep V _ _ h d1, keep V _ _ h d2, keep V _ _ h d3, keep V _ _ h d4⟩
    have f3 : ∀ V, S V → V.cell? ⟨Z.heap.size, 0, none⟩ = some (.int .u8 ur) ∧ V.cell? ⟨Z.heap.size, 1, none⟩ = some (.int .i64 ue) ∧ V.cell? ⟨Z.heap.size, 2, none⟩ = some (.string ⟨uw⟩) ∧ V.cell? ⟨Z.heap.size, 3, none⟩ = some (.slice ua un uc) := fun V h => ⟨keep V _ _ h z0, keep V _ _ h z1, keep V _ _ h z2, keep V _ _ h z3⟩
    have hSd : S W7.drew := by rw [hS]; exact (Below.refl _ _).drew
    have HSS := Lib.hid hS
    have HTy := Lib.hid hty7
    clear keep hS hc7 hty7 hcZ hty z0 z1 z2 z3 d1 d2 d3 d4 dy hy7
    gi_wp2
    refine regionM S 5 (by kernel_rfl) hSd (fun hpo hS0 => ?_)
    refine takeM (i := 0) 70 (.func (.yield l) #[] #[]) hpo rfl (by kernel_rfl) (fun _ _ _ h => h) rfl (by rfl) (fun V hX => (by have g0 := f0 V hX; go_simp)) (fun _ => rfl) hS0 (fun hS1 => ?_)
    simp only [List.setIfInBounds_toArray, List.set_cons_zero, List.set_cons_succ]
    refine takeM (i := 1) 71 (.agg #[.int .u8 r.rule, .int .i64 o.entry, .string ⟨o.word.toArray⟩, .slice none 0 0]) hpo rfl (by kernel_rfl) (fun _ _ _ h => h) rfl (by rfl) (fun V hX => (by obtain ⟨g0, g1, g2, g3⟩ := f1 V hX; go_simp)) (fun _ => rfl) hS1 (fun hS2 => ?_)
    simp only [List.setIfInBounds_toArray, List.set_cons_zero, List.set_cons_succ]
    refine takeM (i := 2) 72 (.agg #[.int .u8 ur, .int .i64 ue, .string ⟨uw⟩, .slice ua un uc]) hpo rfl (by kernel_rfl) (fun _ _ _ h => h) rfl (by rfl) (fun V hX => (by obtain ⟨g0, g1, g2, g3⟩ := f3 V hX; go_simp)) (fun _ => rfl) hS2 (fun hS3 => ?_)
    simp only [List.setIfInBounds_toArray, List.set_cons_zero, List.set_cons_succ]
    refine oneM (i := 3) rfl (by kernel_rfl) (by rfl) (fun K hK => ?_)
    go_simp
    refine hK _ _ (fun _ => (by rw [HSS.out]; exact ((Below.refl _ _).alloc (Nat.le_refl _) _).drew)) (fun hT4 => ?_)
    have hS4 := hT4 (by decide)
    clear hK K
    obtain ⟨V4, hV4⟩ : ∃ V4, V4 = (W7.alloc (.cells #[.int .u8 ur, .int .i64 ue, .string ⟨uw⟩, .slice ua un uc] 36)).drew := ⟨_, rfl⟩
    have hb47 : Below W7.heap.size W7 V4 := by rw [hV4]; exact ((Below.refl _ _).alloc (Nat.le_refl _) _).drew
    have hc4 : V4.heap[W7.heap.size]? = some (.cells #[.int .u8 ur, .int .i64 ue, .string ⟨uw⟩, .slice ua un uc] 36 (0, 0)) := by rw [hV4]; exact World.alloc_heap_new W7 _
    rw [← hV4] at hS4 ⊢
    clear hV4 hT4
    refine oneM (i := 4) rfl (by kernel_rfl) (by rfl) (fun K hK => ?_)
    go_simp
    refine CallsIn.inRound L (callsIn_wide.2 ((headed_any r.rule o.entry ⟨o.word.toArray⟩ none _ 0 0 1 1 _).mono ?_))
    rintro _ V5 ⟨rfl, hb54⟩
    refine hK _ _ (fun _ => (by rw [HSS.out] at hS4 ⊢; exact hS4.trans (hb54.mono hS4.size))) (fun hT5 => ?_)
    have hS5 := hT5 (by decide)
    clear hK K
    have hb57 : Below W7.heap.size W7 V5 := hb47.trans (hb54.mono hb47.size)
    have hc5 : V5.heap[W7.heap.size]? = some (.cells #[.int .u8 ur, .int .i64 ue, .string ⟨uw⟩, .slice ua un uc] 36 (0, 0)) := (hb54.block _ (Array.getElem?_eq_some_iff.1 hc4).1).trans hc4
    have hmv5' : Mv R W7 V5 := Mv.of_below hok7 hb57
    have hkp5 := hmv5'.kp hok7
    have hok5' := hmv5'.ok hok7
    have sA : R.sf V5 W7.heap.size := R.fresh hok7 hb57 (Nat.le_refl _) (Array.getElem?_eq_some_iff.1 hc5).1
    have htree : TreeR R V5 (.agg #[.int .u8 r.rule, .int .i64 o.entry, .string ⟨o.word.toArray⟩, .slice (some ⟨W7.heap.size, 0, none⟩) 1 1]) (.node r.rule o.entry o.word [x]) := by
      refine TreeV.mk r.rule o.entry o.word [x] (some ⟨W7.heap.size, 0, none⟩) 1 (fun _ => .agg #[.int .u8 ur, .int .i64 ue, .string ⟨uw⟩, .slice ua un uc]) (.inr ⟨W7.heap.size, 0, rfl, sA, fun j hj => ?_⟩) (fun j hj => ?_)
      · rcases j with _ | j
        · exact ⟨_, _, _, _, rfl, by simp [World.cell?, hc5], by simp [World.cell?, hc5], by simp [World.cell?, hc5], by simp [World.cell?, hc5]⟩
        · simp at hj
      · rcases j with _ | j
        · exact HTy.out.kp hkp5
        · simp at hj
    have hpm : (pre.map (fun x => Tr.node r.rule o.entry o.word [x]) ++ [.node r.rule o.entry o.word [x]]) <+: (treesS g k o.at t).map fun x => Tr.node r.rule o.entry o.word [x] := by
      obtain ⟨z, hz⟩ := hpre
      exact ⟨z.map (fun x => Tr.node r.rule o.entry o.word [x]), by rw [← hz]; simp⟩
    obtain ⟨fn, tmps, assign, body, hy, hRd⟩ := yieldAt_any 2 (HY.out _ _ _ V5 (((HJ.out _).mono HBW6.out.size).mv hmv5' hok7 hj7) (hkW7.trans hkp5) hok5' ⟨_, rfl, htree⟩ hpm)
    have HTree := Lib.hid htree
    clear htree hc5 hc4 hS4
    refine oneM (i := 5) rfl (by kernel_rfl) (by rfl) (fun K hK => ?_)
    go_simp
    refine hRd.mono ?_
    rintro _ V6 (⟨rfl, hJ6, hk65⟩ | ⟨rfl, hJ6, hok6', hk65⟩)
    · refine hK _ _ (fun h => absurd h (by decide)) (fun _ => ?_)
      clear hK K
      refine oneM (i := 6) rfl (by kernel_rfl) (by rfl) (fun K hK => ?_)
      go_simp
      refine hK _ _ (fun h => absurd h (by decide)) (fun _ => ?_)
      clear hK K
      refine doneM (by kernel_rfl) ?_ _
      gi_wp2
      refine ⟨hkp5.trans hk65, ?_⟩
      show J ((pre ++ [x]).map fun x => Tr.node r.rule o.entry o.word [x]) V6
      rw [List.map_append]
      exact hJ6
    · refine hK _ _ (fun h => absurd h (by decide)) (fun _ => ?_)
      clear hK K
      refine oneM (i := 6) rfl (by kernel_rfl) (by rfl) (fun K hK => ?_)
      go_simp
      refine hK _ _ (fun h => absurd h (by decide)) (fun _ => ?_)
      clear hK K
      refine doneM (by kernel_rfl) ?_ _
      gi_wp2
      exact ⟨((hkp5.from _).trans hk65).mono (by have := HBW6.out.size; omega), hok6', rfl, ⟨_, hpm, hJ6⟩, ((hkW7.trans hkp5).from _).trans hk65⟩

end Go.Proofs.YthmnffgjckpkiaaGreatDoor
namespace Go.Proofs.YthmnffgjckpkiaaGreatDoor
open Go Go.RowKit Go.Shelf
attribute [local go_sem] Oper.semAt_some

theorem pairs_box (gb : Nat) (r e : Int) (wd : ByteArray) (k1 i1 j1 k2 i2 j2 : Nat) (w : World) :
    Calls Tryz.prog 125 #[.pointer (some ⟨gb, 0, none⟩), .agg #[.int .u8 r, .int .i64 e, .string wd, .slice none 0 0], .agg #[.int .u8 k1, .int .i64 i1, .int .i64 j1], .agg #[.int .u8 k2, .int .i64 i2, .int .i64 j2]] w fun x w' =>
      x = .returned (.func (.func 160) #[] #[.pointer (some ⟨w.heap.size, 0, none⟩), .pointer (some ⟨w.heap.size + 1 + 1, 0, none⟩), .pointer (some ⟨w.heap.size + 1 + 1 + 1, 0, none⟩), .pointer (some ⟨w.heap.size + 1, 0, none⟩)]) ∧ Below w.heap.size w w' ∧ w'.heap.size = w.heap.size + 4 ∧
      w'.heap[w.heap.size]? = some (.cells #[.pointer (some ⟨gb, 0, none⟩)] 77 (0, 0)) ∧ w'.heap[w.heap.size + 1]? = some (.cells #[.int .u8 r, .int .i64 e, .string wd, .slice none 0 0] 36 (0, 0)) ∧
      w'.heap[w.heap.size + 1 + 1]? = some (.cells #[.int .u8 k1, .int .i64 i1, .int .i64 j1] 160 (0, 0)) ∧ w'.heap[w.heap.size + 1 + 1 + 1]? = some (.cells #[.int .u8 k2, .int .i64 i2, .int .i64 j2] 160 (0, 0)) := by
  go_enter Tryz.func125, Tryz.ntmps125
  go_wp2
  go_ret
  refine ⟨rfl, (((((Below.refl _ _).alloc (Nat.le_refl _) _).alloc (by simp) _).alloc (by simp; omega) _).alloc (by simp; omega) _), by simp, ?_, ?_, ?_, ?_⟩
  all_goals
    repeat rw [Below.heap_alloc _ _ _ (by first | (simp; done) | (simp; omega))]
    exact heap_at (by simp)

/-- What one place to part adds. -/
def splitTrees (g : Gr) (r : RowS) (o : Opn) (k1 k2 t : Nat) (s : Nat × Nat) : List Tr :=
  if 0 < cntS g k2 s.2 t then pairsS r.rule o.entry o.word (treesS g k1 o.at s.1) (treesS g k2 s.2 t) else []
theorem fillS_two {g : Gr} {r : RowS} {k1 k2 : Nat} (hr : r.parts = [k1, k2]) (o : Opn) (t : Nat) : fillS g r o t = (splitsS g r.glue o.at t).flatMap (splitTrees g r o k1 k2 t) := by
  unfold fillS fillF
  rw [hr]
  rfl
theorem flat_prefix {α β : Type} {F : α → List β} {xs pre : List α} {x : α} {p : List β} (h : (pre ++ [x]) <+: xs) (hp : p <+: F x) : (pre.flatMap F ++ p) <+: xs.flatMap F := by
  obtain ⟨z, rfl⟩ := h
  obtain ⟨q, hq⟩ := hp
  exact ⟨q ++ z.flatMap F, by simp [← hq]⟩

set_option maxRecDepth 100000 in
set_option maxHeartbeats 8000000 in
theorem fill_two {m gb : Nat} {g : Gr} {ended : Bool} {W0 : World} (hg : Gram m gb g ended W0) {R : Rg} (hR : Counts R m g W0) {w : World} (hs : Since m W0 w) (hok : R.ok w) (r : RowS) (k1 k2 : Nat) (hr : r.parts = [k1, k2]) (fv : Value) (fo : Nat) (bd caps : Array Value) (hfv : fv = .func (.func fo) bd caps) (pa : Option Addr) (pc : Nat) (hp : PartsAt W0 (.slice pa 2 pc) [k1, k2]) (o : Opn) (t b : Nat) (hat : o.at ≤ t) (ht : t ≤ g.toks.length)
    (hT : ∀ k f' t', o.at ≤ f' → f' < t' → t' ≤ t → t' - f' < t - o.at → TreesOk m gb g W0 k f' t') (hb : FillBox gb r fv (.slice pa 2 pc) o t b w) (hsf : FillSf R b w) : SeqM R Tryz.prog 123 (fillLb b) (fillS g r o t) (TreeA R) w := by
  intro l J Jx W hW hokW hl hJ hJx hY hJ0
  subst hfv
  have hbW := hb.kp hsf hW
  have hsW := hsf.kp hW
  have hsinW := hs.kp hR.leaves hok hW
  have hfs := fillS_two (g := g) hr o t
  obtain ⟨pa', pc', hpe, hpb⟩ := hp
  obtain ⟨pb, hpa, hpc⟩ := hpb.resolve_left (by simp)
  simp only [Value.slice.injEq] at hpe
  obtain ⟨he1, -, he2⟩ := hpe
  subst he1 he2 hpa
  have hp0 := hpc 0 (by simp)
  have hp1 := hpc 1 (by simp)
  simp only [List.getElem_cons_zero, List.getElem_cons_succ] at hp0 hp1
  obtain ⟨W2, hW2⟩ : ∃ W2, W2 = W.alloc (.cells #[.func (.yield l) #[] #[]] 53) := ⟨_, rfl⟩
  have hb2 : Below W.heap.size W W2 := by rw [hW2]; exact (Below.refl _ _).alloc (Nat.le_refl _) _
  have hz2 : W2.heap.size = W.heap.size + 1 := by rw [hW2]; simp
  have xy : Boxed W2 W.heap.size 53 (.func (.yield l) #[] #[]) := by rw [hW2]; exact Boxed.new _ _ _
  have hb2W := hbW.below hb2
  have c2 := hbW.cells.p
  have l1 := R.lt hsW.s1
  have l0 := R.lt hsW.s0
  have l2 := R.lt hsW.s2
  have l3 := R.lt hsW.s3
  have hrow : W.cell? ⟨b + 1, 0, none⟩ = some (.int .u8 r.rule) ∧ W.cell? ⟨b + 1, 1, none⟩ = some (.int .u8 r.kind) ∧ W.cell? ⟨b + 1, 2, none⟩ = some (.func (.func fo) bd caps) ∧ W.cell? ⟨b + 1, 4, none⟩ = some (.string ⟨r.glue.toArray⟩) := by simp [World.cell?, hbW.c1]
  obtain ⟨q0, q1, q2, q4⟩ := hrow
  have q5 := hbW.cells.g
  have q6 := hbW.cells.at_
  have q7 := hbW.cells.t
  rw [hfs] at hY ⊢
  have HY := Lib.hid hY
  have HJ := Lib.hid hJ
  have HJx := Lib.hid hJx
  have HJ0 := Lib.hid hJ0
  have HT := Lib.hid hT
  have HR := Lib.hid hR
  have HG := Lib.hid hg
  have HSW := Lib.hid hsW
  have HBW := Lib.hid hbW
  have HS := Lib.hid hsinW
  have HXY := Lib.hid xy
  have HW2 := Lib.hid hW2
  have HZ2 := Lib.hid hz2
  have HB2 := Lib.hid hb2
  have HP0 := Lib.hid hp0
  have HP1 := Lib.hid hp1
  have hm0 := R.mlt hokW
  clear hY hJ hJx hJ0 hbW hsW hb hsf hW2 hW hT hR hs hsinW hpc hpb hp0 hp1 xy hb2W hfs hb2 hg hz2
  refine (callsIn_wide (n := 3)).1 ?_
  refine callsIn_of_wp_marks Tryz.func123 rfl trivial ?_ rfl
  unfold fillLb
  simp only [Tryz.ntmps123, List.size_toArray, List.length_cons, List.length_nil, Nat.reduceAdd, Nat.reduceSub, Array.replicate_succ, Array.replicate_zero, List.push_toArray, List.append_toArray, List.nil_append, List.cons_append]
  have hfw : ∀ f, Fence.wide.fn f := fun _ => trivial
  gi_wp2_with fail
  rw [← HW2.out]
  clear c2 l1 l0 l2 l3 q0 q1 q2 q4 q5 q6 q7
  refine (callsIn_wide.2 (splits_any gb o.at t r (.func (.func fo) bd caps) (.slice (some ⟨pb, 0, none⟩) 2 pc) W2)).mono ?_
  rintro _ W6 ⟨rfl, hw6⟩
  have hb6 := box4_is W2 gb r (.func (.func fo) bd caps) (.slice (some ⟨pb, 0, none⟩) 2 pc) o.at t
  unfold box4 at hb6
  rw [hw6] at hb6
  clear hw6
  have hbW6 : Below W.heap.size W W6 := HB2.out.trans (hb6.below.mono HB2.out.size)
  have hz6 : W6.heap.size = W.heap.size + 5 := by have := hb6.size; have := HZ2.out; omega
  have hmv6 : Mv R W W6 := Mv.of_below hokW hbW6
  have hk6 := hmv6.kp hokW
  have hok6 := hmv6.ok hokW
  have fr : ∀ c, W.heap.size ≤ c → c < W6.heap.size → R.sf W6 c := fun c h1 h2 => R.fresh hokW hbW6 h1 h2
  have hxy6 : Boxed W6 W.heap.size 53 (.func (.yield l) #[] #[]) := (hb6.below.block _ HXY.out.lt).trans HXY.out
  have sy6 := fr W.heap.size (Nat.le_refl _) (by omega)
  have hz2 := HZ2.out
  have hseq := splits_seq HG.out HR.out.leaves (HS.out.below hbW6) hok6 o.at t hat ht r.glue (W2.heap.size + 1 + 1) (W2.heap.size + 1 + 1 + 1) (W2.heap.size + 1) W2.heap.size hb6.lo hb6.hi hb6.row4 hb6.ptr (fr _ (by omega) (by omega)) (fr _ (by omega) (by omega)) (fr _ (by omega) (by omega)) (fr _ (by omega) (by omega))
  have hBx6 := HBW.out.below hbW6
  have hF6 := HSW.out.kp hk6
  have HSeq := Lib.hid hseq
  have HBW6 := Lib.hid hbW6
  have HXY6 := Lib.hid hxy6
  have HBx6 := Lib.hid hBx6
  have HF6 := Lib.hid hF6
  clear hseq hbW6 hxy6 fr hb6 hBx6 hF6 hz2
  gi_wp2
  refine wpIn_range_M rfl (enters_of Tryz.func159 (by kernel_rfl) rfl) HSeq.out hok6 (fun _ _ _ h => by rw [h]; rfl)
    (fun pre X => J (pre.flatMap (splitTrees g r o k1 k2 t)) X) (fun c pre X => c = .ret ∧ (∃ p, p <+: (splitsS g r.glue o.at t).flatMap (splitTrees g r o k1 k2 t) ∧ Jx p X) ∧ KpFrom R (l + 1) W X) (fun s => (HJ.out _).mono HBW6.out.size) ?hIx ((HJ.out []).mv hmv6 hokW HJ0.out) ?round ?done ?stop
  case hIx =>
    rintro c pre X Y row hg hr hokX ⟨h1, ⟨p, hp, h2⟩, h3⟩
    exact ⟨h1, ⟨p, hp, (HJx.out p).mono HBW6.out.size X Y row hg hr hokX h2⟩, kpFrom_abides HBW6.out.size X Y row hg hr hokX h3⟩
  case done =>
    intro D X hD hjX hkX hokX hd _
    gi_wp2
    refine ⟨by simp, .inl ⟨_, _, rfl, run_takeDeferred hd, ?_⟩⟩
    refine ⟨_, results_none rfl _ _ _, ⟨_, rfl⟩, .inl ⟨?_, kp_put _ (hk6.trans hkX) hokX (by have := HBW6.out.size; omega) (by omega) hd rfl⟩⟩
    exact abides_put (HJ.out _) _ hokX hjX (by have := HBW6.out.size; omega) (by omega) hd rfl
  case stop =>
    rintro D c pre X hD hpre ⟨rfl, ⟨p, hp, h2⟩, h3⟩ _ hokX hd
    gi_wp2
    refine ⟨by simp, .inl ⟨_, _, rfl, run_takeDeferred hd, ?_⟩⟩
    refine ⟨_, results_none rfl _ _ _, ⟨_, rfl⟩, .inr ⟨p, hp, abides_put (HJx.out _) _ hokX h2 (by have := HBW6.out.size; omega) (by omega) hd rfl, ok_put hokX (by omega) hd rfl, kpFrom_put _ h3 hokX (by have := HBW6.out.size; omega) hd rfl⟩⟩
  case round =>
    intro L pre vs s X hL hjX hvs hkX hokX hpre
    subst hvs
    gi_wp2
    refine ⟨Kp.refl _, hjX, ?_⟩
    intro W7 hl7 hr7 hsl7 hj7 hk7 hok7 hsz7 _
    have hx := splitsS_mem (hpre.subset (List.mem_append_right _ (List.mem_singleton.2 rfl)))
    have hkW7 := hk6.trans hk7
    have hs7 := HS.out.kp HR.out.leaves hokW hkW7
    have hG7 := HR.out.good _ hok7
    have hBx7 := HBx6.out.kp HF6.out hk7
    obtain ⟨c1, c2, c3, c4, c5, c6, c7, c8⟩ := hBx7.cells
    have hp0 := hs7.cell HP0.out
    have hp1 := hs7.cell HP1.out
    have hy7 := (hk7.same _ sy6).2.trans HXY6.out
    have dy : W7.cell? ⟨W.heap.size, 0, none⟩ = some (.func (.yield l) #[] #[]) := by simp [World.cell?, hy7]
    obtain ⟨_, S, hS⟩ : ∃ (_ : Unit) (S : World → Prop), S = fun V => W7.grownBy V (some m) ∧ MapG g V.heap[m]? := ⟨(), _, rfl⟩
    have keep : ∀ (V : World) (a : Addr) (v : Value), S V → W7.cell? a = some v → V.cell? a = some v := fun V a v h hc => by
      rw [hS] at h
      exact ((Since.refl (mapG_map hG7)).grown h.1).cell hc
    have f0 : ∀ V, S V → V.cell? ⟨W.heap.size, 0, none⟩ = some (.func (.yield l) #[] #[]) := fun V h => keep V _ _ h dy
    have f1 := fun V h => keep V _ _ h c1
    have f2 := fun V h => keep V _ _ h c2
    have f3 := fun V h => keep V _ _ h c3
    have f4 := fun V h => keep V _ _ h c4
    have f5 : ∀ V, S V → V.cell? ⟨b + 1 + 1 + 1 + 1, 0, none⟩ = some (.int .u8 r.rule) ∧ V.cell? ⟨b + 1 + 1 + 1 + 1, 1, none⟩ = some (.int .i64 o.entry) ∧ V.cell? ⟨b + 1 + 1 + 1 + 1, 2, none⟩ = some (.string ⟨o.word.toArray⟩) ∧ V.cell? ⟨b + 1 + 1 + 1 + 1, 3, none⟩ = some (.slice none 0 0) := fun V h => ⟨keep V _ _ h c5, keep V _ _ h c6, keep V _ _ h c7, keep V _ _ h c8⟩
    have f6 := fun V h => keep V _ _ h hp0
    have f7 := fun V h => keep V _ _ h hp1
    have hSd : S W7.drew := by rw [hS]; exact ⟨⟨rfl, rfl, rfl, Nat.le_refl _, fun _ _ _ => rfl⟩, hG7⟩
    have HSS := Lib.hid hS
    have HG7 := Lib.hid hG7
    have HS7 := Lib.hid hs7
    clear keep hS c1 c2 c3 c4 c5 c6 c7 c8 hp0 hp1 dy hy7 hG7 hs7 hBx7
    obtain ⟨a2, ha2⟩ : ∃ a2, a2 = cntS g k2 s.2 t := ⟨_, rfl⟩
    have HA2 := Lib.hid ha2
    clear ha2
    gi_wp2
    refine regionM S 29 (by kernel_rfl) hSd (fun hpo hS0 => ?_)
    refine takeM (i := 0) 21 (.pointer (some ⟨gb, 0, none⟩)) hpo rfl (by kernel_rfl) (fun _ _ _ h => h) rfl (by rfl) (fun V hX => (by have g1 := f1 V hX; go_simp)) (fun _ => rfl) hS0 (fun hS1 => ?_)
    simp only [List.setIfInBounds_toArray, List.set_cons_zero, List.set_cons_succ]
    refine takeM (i := 1) 22 (.pointer (some ⟨b + 1, 3, none⟩)) hpo rfl (by kernel_rfl) (fun _ _ _ h => h) rfl (by rfl) (fun V hX => (by go_simp)) (fun _ => rfl) hS1 (fun hS2 => ?_)
    simp only [List.setIfInBounds_toArray, List.set_cons_zero, List.set_cons_succ]
    refine takeM (i := 2) 23 (.slice (some ⟨pb, 0, none⟩) 2 pc) hpo rfl (by kernel_rfl) (fun _ _ _ h => h) rfl (by rfl) (fun V hX => (by have g2 := f2 V hX; go_simp)) (fun _ => rfl) hS2 (fun hS3 => ?_)
    simp only [List.setIfInBounds_toArray, List.set_cons_zero, List.set_cons_succ]
    refine takeM (i := 3) 24 (.pointer (some ⟨pb, 1, none⟩)) hpo rfl (by kernel_rfl) (fun _ _ _ h => h) rfl (by rfl) (fun V hX => (by go_simp)) (fun _ => rfl) hS3 (fun hS4 => ?_)
    simp only [List.setIfInBounds_toArray, List.set_cons_zero, List.set_cons_succ]
    refine takeM (i := 4) 25 (.int .u8 k2) hpo rfl (by kernel_rfl) (fun _ _ _ h => h) rfl (by rfl) (fun V hX => (by have g7 := f7 V hX; go_simp)) (fun _ => rfl) hS4 (fun hS5 => ?_)
    simp only [List.setIfInBounds_toArray, List.set_cons_zero, List.set_cons_succ]
    refine takeM (i := 5) 26 (.int .i64 s.2) hpo rfl (by kernel_rfl) (fun _ _ _ h => h) rfl (by rfl) (fun V hX => (by go_simp)) (fun _ => rfl) hS5 (fun hS6 => ?_)
    simp only [List.setIfInBounds_toArray, List.set_cons_zero, List.set_cons_succ]
    refine takeM (i := 6) 27 (.int .i64 t) hpo rfl (by kernel_rfl) (fun _ _ _ h => h) rfl (by rfl) (fun V hX => (by have g4 := f4 V hX; go_simp)) (fun _ => rfl) hS6 (fun hS7 => ?_)
    simp only [List.setIfInBounds_toArray, List.set_cons_zero, List.set_cons_succ]
    refine oneM (i := 7) rfl (by kernel_rfl) (by rfl) (fun K hK => ?_)
    go_simp
    refine CallsIn.inRound L (callsIn_wide.2 ((count_all HG.out k2 s.2 t ht _ HS7.out.drew HG7.out).mono ?_))
    rintro _ W8 ⟨rfl, hg8, hG8⟩
    rw [← HA2.out]
    refine hK _ _ (fun _ => (by rw [HSS.out]; exact ⟨grown_undrew hg8, hG8⟩)) (fun hT8 => ?_)
    have hS8 := hT8 (by decide)
    clear hK K
    have hSw8 := hS8
    clear hS0 hS1 hS2 hS3 hS4 hS5 hS6 hS7
    by_cases hpos : 0 < a2
    · have hp1 : decide ((0 : Int) < (a2 : Int)) = true := by simpa using hpos
      refine takeM (i := 8) 29 (.bool true) hpo rfl (by kernel_rfl) (fun _ _ _ h => h) rfl (by rfl) (fun V hX => (by go_simp)) (fun _ => rfl) hS8 (fun hS9 => ?_)
      simp only [List.setIfInBounds_toArray, List.set_cons_zero, List.set_cons_succ]
      refine takeM (i := 9) 30 (.bool true) hpo rfl (by kernel_rfl) (fun _ _ _ h => h) rfl (by rfl) (fun V hX => (by go_simp)) (fun _ => rfl) hS9 (fun hS10 => ?_)
      simp only [List.setIfInBounds_toArray, List.set_cons_zero, List.set_cons_succ]
      refine takeM (i := 10) 31 (.pointer (some ⟨gb, 0, none⟩)) hpo rfl (by kernel_rfl) (fun _ _ _ h => h) rfl (by rfl) (fun V hX => (by have g1 := f1 V hX; go_simp)) (fun _ => rfl) hS10 (fun hS11 => ?_)
      simp only [List.setIfInBounds_toArray, List.set_cons_zero, List.set_cons_succ]
      refine takeM (i := 11) 32 (.agg #[.int .u8 r.rule, .int .i64 o.entry, .string ⟨o.word.toArray⟩, .slice none 0 0]) hpo rfl (by kernel_rfl) (fun _ _ _ h => h) rfl (by rfl) (fun V hX => (by obtain ⟨g0, g1, g2, g3⟩ := f5 V hX; go_simp)) (fun _ => rfl) hS11 (fun hS12 => ?_)
      simp only [List.setIfInBounds_toArray, List.set_cons_zero, List.set_cons_succ]
      refine takeM (i := 12) 33 (.pointer (some ⟨b + 1, 3, none⟩)) hpo rfl (by kernel_rfl) (fun _ _ _ h => h) rfl (by rfl) (fun V hX => (by go_simp)) (fun _ => rfl) hS12 (fun hS13 => ?_)
      simp only [List.setIfInBounds_toArray, List.set_cons_zero, List.set_cons_succ]
      refine takeM (i := 13) 34 (.slice (some ⟨pb, 0, none⟩) 2 pc) hpo rfl (by kernel_rfl) (fun _ _ _ h => h) rfl (by rfl) (fun V hX => (by have g2 := f2 V hX; go_simp)) (fun _ => rfl) hS13 (fun hS14 => ?_)
      simp only [List.setIfInBounds_toArray, List.set_cons_zero, List.set_cons_succ]
      refine takeM (i := 14) 35 (.pointer (some ⟨pb, 0, none⟩)) hpo rfl (by kernel_rfl) (fun _ _ _ h => h) rfl (by rfl) (fun V hX => (by go_simp)) (fun _ => rfl) hS14 (fun hS15 => ?_)
      simp only [List.setIfInBounds_toArray, List.set_cons_zero, List.set_cons_succ]
      refine takeM (i := 15) 36 (.int .u8 k1) hpo rfl (by kernel_rfl) (fun _ _ _ h => h) rfl (by rfl) (fun V hX => (by have g6 := f6 V hX; go_simp)) (fun _ => rfl) hS15 (fun hS16 => ?_)
      simp only [List.setIfInBounds_toArray, List.set_cons_zero, List.set_cons_succ]
      refine takeM (i := 16) 37 (.pointer (some ⟨b + 1 + 1, 2, none⟩)) hpo rfl (by kernel_rfl) (fun _ _ _ h => h) rfl (by rfl) (fun V hX => (by go_simp)) (fun _ => rfl) hS16 (fun hS17 => ?_)
      simp only [List.setIfInBounds_toArray, List.set_cons_zero, List.set_cons_succ]
      refine takeM (i := 17) 38 (.int .i64 o.at) hpo rfl (by kernel_rfl) (fun _ _ _ h => h) rfl (by rfl) (fun V hX => (by have g3 := f3 V hX; go_simp)) (fun _ => rfl) hS17 (fun hS18 => ?_)
      simp only [List.setIfInBounds_toArray, List.set_cons_zero, List.set_cons_succ]
      refine takeM (i := 18) 39 (.int .i64 s.1) hpo rfl (by kernel_rfl) (fun _ _ _ h => h) rfl (by rfl) (fun V hX => (by go_simp)) (fun _ => rfl) hS18 (fun hS19 => ?_)
      simp only [List.setIfInBounds_toArray, List.set_cons_zero, List.set_cons_succ]
      refine takeM (i := 19) 40 (.agg #[.int .u8 k1, .int .i64 o.at, .int .i64 s.1]) hpo rfl (by kernel_rfl) (fun _ _ _ h => h) rfl (by rfl) (fun V hX => (by go_simp)) (fun _ => rfl) hS19 (fun hS20 => ?_)
      simp only [List.setIfInBounds_toArray, List.set_cons_zero, List.set_cons_succ]
      refine takeM (i := 20) 41 (.pointer (some ⟨b + 1, 3, none⟩)) hpo rfl (by kernel_rfl) (fun _ _ _ h => h) rfl (by rfl) (fun V hX => (by go_simp)) (fun _ => rfl) hS20 (fun hS21 => ?_)
      simp only [List.setIfInBounds_toArray, List.set_cons_zero, List.set_cons_succ]
      refine takeM (i := 21) 42 (.slice (some ⟨pb, 0, none⟩) 2 pc) hpo rfl (by kernel_rfl) (fun _ _ _ h => h) rfl (by rfl) (fun V hX => (by have g2 := f2 V hX; go_simp)) (fun _ => rfl) hS21 (fun hS22 => ?_)
      simp only [List.setIfInBounds_toArray, List.set_cons_zero, List.set_cons_succ]
      refine takeM (i := 22) 43 (.pointer (some ⟨pb, 1, none⟩)) hpo rfl (by kernel_rfl) (fun _ _ _ h => h) rfl (by rfl) (fun V hX => (by go_simp)) (fun _ => rfl) hS22 (fun hS23 => ?_)
      simp only [List.setIfInBounds_toArray, List.set_cons_zero, List.set_cons_succ]
      refine takeM (i := 23) 44 (.int .u8 k2) hpo rfl (by kernel_rfl) (fun _ _ _ h => h) rfl (by rfl) (fun V hX => (by have g7 := f7 V hX; go_simp)) (fun _ => rfl) hS23 (fun hS24 => ?_)
      simp only [List.setIfInBounds_toArray, List.set_cons_zero, List.set_cons_succ]
      refine takeM (i := 24) 45 (.int .i64 s.2) hpo rfl (by kernel_rfl) (fun _ _ _ h => h) rfl (by rfl) (fun V hX => (by go_simp)) (fun _ => rfl) hS24 (fun hS25 => ?_)
      simp only [List.setIfInBounds_toArray, List.set_cons_zero, List.set_cons_succ]
      refine takeM (i := 25) 46 (.int .i64 t) hpo rfl (by kernel_rfl) (fun _ _ _ h => h) rfl (by rfl) (fun V hX => (by have g4 := f4 V hX; go_simp)) (fun _ => rfl) hS25 (fun hS26 => ?_)
      simp only [List.setIfInBounds_toArray, List.set_cons_zero, List.set_cons_succ]
      refine takeM (i := 26) 47 (.agg #[.int .u8 k2, .int .i64 s.2, .int .i64 t]) hpo rfl (by kernel_rfl) (fun _ _ _ h => h) rfl (by rfl) (fun V hX => (by go_simp)) (fun _ => rfl) hS26 (fun hS27 => ?_)
      simp only [List.setIfInBounds_toArray, List.set_cons_zero, List.set_cons_succ]
      refine takeM (i := 28) 49 (.func (.yield l) #[] #[]) hpo rfl (by kernel_rfl) (fun _ _ _ h => h) rfl (by rfl) (fun V hX => (by have g0 := f0 V hX; go_simp)) (fun _ => rfl) hS27 (fun hS28 => ?_)
      simp only [List.setIfInBounds_toArray, List.set_cons_zero, List.set_cons_succ]
      refine oneM (i := 27) rfl (by kernel_rfl) (by rfl) (fun K hK => ?_)
      go_simp
      refine CallsIn.inRound L (callsIn_wide.2 ((pairs_box gb r.rule o.entry ⟨o.word.toArray⟩ k1 o.at s.1 k2 s.2 t W8).mono ?_))
      rintro _ W9 ⟨rfl, hb9, hz9, p0, p1, p2, p3⟩
      refine hK _ _ (fun _ => (by rw [HSS.out] at hSw8 ⊢; exact ⟨grownBy_trans' hSw8.1 (below_grown hb9), mapG_below hSw8.2 hb9⟩)) (fun hT29 => ?_)
      have hS29 := hT29 (by decide)
      clear hK K
      have hmv8 : Mv R W7 W8 := HR.out.mv (grown_undrew hg8) (fun _ => hG8)
      have hok8 := hmv8.ok hok7
      have hmv9 : Mv R W8 W9 := Mv.of_below hok8 hb9
      have hok9 := hmv9.ok hok8
      have hmv79 := hmv8.trans hmv9
      have hk79 := hmv79.kp hok7
      have fr9 : ∀ c, W8.heap.size ≤ c → c < W9.heap.size → R.sf W9 c := fun c h1 h2 => R.fresh hok8 hb9 h1 h2
      have hs9 : Since m W0 W9 := (HS7.out.grown (grown_undrew hg8)).below hb9
      have hsz9 : W.heap.size ≤ W9.heap.size := by have := (hkW7.trans hk79).size; omega
      have hseqP := pairs_seq HG.out HR.out hs9 hok9 k1 o.at s.1 k2 s.2 t (HT.out k1 o.at s.1 (Nat.le_refl _) hx.1 (by omega) (by omega)) (by
          by_cases h0 : s.2 < t
          · exact HT.out k2 s.2 t (by omega) h0 (Nat.le_refl _) (by omega)
          · rw [HA2.out, cntS_zero g (by omega)] at hpos; exact absurd hpos (by omega)) r.rule o.entry o.word W8.heap.size (W8.heap.size + 1 + 1) (W8.heap.size + 1 + 1 + 1) (W8.heap.size + 1) p0 p2 p3 p1
        (fr9 _ (by omega) (by omega)) (fr9 _ (by omega) (by omega)) (fr9 _ (by omega) (by omega)) (fr9 _ (by omega) (by omega))
      obtain ⟨dn, hdn⟩ : ∃ dn, dn = pre.flatMap (splitTrees g r o k1 k2 t) := ⟨_, rfl⟩
      have hFs : splitTrees g r o k1 k2 t s = pairsS r.rule o.entry o.word (treesS g k1 o.at s.1) (treesS g k2 s.2 t) := by unfold splitTrees; rw [← HA2.out, if_pos hpos]
      have hpf : ∀ p, p <+: pairsS r.rule o.entry o.word (treesS g k1 o.at s.1) (treesS g k2 s.2 t) → (dn ++ p) <+: (splitsS g r.glue o.at t).flatMap (splitTrees g r o k1 k2 t) := fun p hp => by rw [hdn]; exact flat_prefix hpre (by rw [hFs]; exact hp)
      have hj9 : J dn W9 := by rw [hdn]; exact ((HJ.out _).mono HBW6.out.size).mv hmv79 hok7 hj7
      have hpass := pass_any 160 _ (enters_of Tryz.func160 (by kernel_rfl) rfl) hseqP hok9 l (by omega) (fun p => J (dn ++ p)) (fun p => Jx (dn ++ p)) (fun p => (HJ.out _).mono hsz9) (fun p => (HJx.out _).mono hsz9)
        (fun p2 vs y W1 hj hk1 hok1 hta hp2 => by
          have h := HY.out (dn ++ p2) vs y W1 hj ((hkW7.trans hk79).trans hk1) hok1 hta (by rw [List.append_assoc]; exact hpf _ hp2)
          rw [List.append_assoc] at h
          exact h) (by simpa using hj9)
      have HPass := Lib.hid hpass
      have HPf := Lib.hid hpf
      have HFs := Lib.hid hFs
      have HDn := Lib.hid hdn
      clear hpass hpf hFs hdn hseqP fr9 p0 p1 p2 p3 hb9 f0 f1 f2 f3 f4 f5 f6 f7
      refine oneM (i := 29) rfl (by kernel_rfl) (by rfl) (fun K hK => ?_)
      go_simp
      refine CallsIn.inRound L (callsIn_wide.2 (HPass.out.mono ?_))
      rintro _ V (⟨rfl, hJ6, hk9⟩ | ⟨rfl, p, hp, hJ6, hok6', hk9⟩)
      · refine hK _ _ (fun h => absurd h (by decide)) (fun _ => ?_)
        clear hK K
        refine oneM (i := 30) rfl (by kernel_rfl) (by rfl) (fun K hK => ?_)
        go_simp
        refine hK _ _ (fun h => absurd h (by decide)) (fun _ => ?_)
        clear hK K
        refine oneM (i := 31) rfl (by kernel_rfl) (by rfl) (fun K hK => ?_)
        go_simp
        refine hK _ _ (fun h => absurd h (by decide)) (fun _ => ?_)
        clear hK K
        refine doneM (by kernel_rfl) ?_ _
        gi_wp2
        refine ⟨hk79.trans hk9, ?_⟩
        show J ((pre ++ [s]).flatMap (splitTrees g r o k1 k2 t)) V
        rw [List.flatMap_append, ← HDn.out, List.flatMap_singleton, HFs.out]
        exact hJ6
      · refine hK _ _ (fun h => absurd h (by decide)) (fun _ => ?_)
        clear hK K
        refine oneM (i := 30) rfl (by kernel_rfl) (by rfl) (fun K hK => ?_)
        go_simp
        refine hK _ _ (fun h => absurd h (by decide)) (fun _ => ?_)
        clear hK K
        refine oneM (i := 31) rfl (by kernel_rfl) (by rfl) (fun K hK => ?_)
        go_simp
        refine hK _ _ (fun h => absurd h (by decide)) (fun _ => ?_)
        clear hK K
        refine doneM (by kernel_rfl) ?_ _
        gi_wp2
        exact ⟨((hk79.from _).trans hk9).mono (by have := HBW6.out.size; omega), hok6', rfl, ⟨_, HPf.out p hp, hJ6⟩, ((hkW7.trans hk79).from _).trans hk9⟩
    · have hp1 : decide ((0 : Int) < (a2 : Int)) = false := by simpa using hpos
      refine takeM (i := 8) 29 (.bool false) hpo rfl (by kernel_rfl) (fun _ _ _ h => h) rfl (by rfl) (fun V hX => (by go_simp)) (fun _ => rfl) hS8 (fun hS9 => ?_)
      simp only [List.setIfInBounds_toArray, List.set_cons_zero, List.set_cons_succ]
      refine takeM (i := 9) 30 (.bool false) hpo rfl (by kernel_rfl) (fun _ _ _ h => h) rfl (by rfl) (fun V hX => (by go_simp)) (fun _ => rfl) hS9 (fun hS10 => ?_)
      simp only [List.setIfInBounds_toArray, List.set_cons_zero, List.set_cons_succ]
      refine skipM (i := 10) 31 hpo rfl (by kernel_rfl) (fun _ _ _ h => h) rfl (by rfl) (fun _ => rfl) hS10 (fun hS11 => ?_)
      simp only [List.setIfInBounds_toArray, List.set_cons_zero, List.set_cons_succ]
      refine skipM (i := 11) 32 hpo rfl (by kernel_rfl) (fun _ _ _ h => h) rfl (by rfl) (fun _ => rfl) hS11 (fun hS12 => ?_)
      simp only [List.setIfInBounds_toArray, List.set_cons_zero, List.set_cons_succ]
      refine skipM (i := 12) 33 hpo rfl (by kernel_rfl) (fun _ _ _ h => h) rfl (by rfl) (fun _ => rfl) hS12 (fun hS13 => ?_)
      simp only [List.setIfInBounds_toArray, List.set_cons_zero, List.set_cons_succ]
      refine skipM (i := 13) 34 hpo rfl (by kernel_rfl) (fun _ _ _ h => h) rfl (by rfl) (fun _ => rfl) hS13 (fun hS14 => ?_)
      simp only [List.setIfInBounds_toArray, List.set_cons_zero, List.set_cons_succ]
      refine skipM (i := 14) 35 hpo rfl (by kernel_rfl) (fun _ _ _ h => h) rfl (by rfl) (fun _ => rfl) hS14 (fun hS15 => ?_)
      simp only [List.setIfInBounds_toArray, List.set_cons_zero, List.set_cons_succ]
      refine skipM (i := 15) 36 hpo rfl (by kernel_rfl) (fun _ _ _ h => h) rfl (by rfl) (fun _ => rfl) hS15 (fun hS16 => ?_)
      simp only [List.setIfInBounds_toArray, List.set_cons_zero, List.set_cons_succ]
      refine skipM (i := 16) 37 hpo rfl (by kernel_rfl) (fun _ _ _ h => h) rfl (by rfl) (fun _ => rfl) hS16 (fun hS17 => ?_)
      simp only [List.setIfInBounds_toArray, List.set_cons_zero, List.set_cons_succ]
      refine skipM (i := 17) 38 hpo rfl (by kernel_rfl) (fun _ _ _ h => h) rfl (by rfl) (fun _ => rfl) hS17 (fun hS18 => ?_)
      simp only [List.setIfInBounds_toArray, List.set_cons_zero, List.set_cons_succ]
      refine skipM (i := 18) 39 hpo rfl (by kernel_rfl) (fun _ _ _ h => h) rfl (by rfl) (fun _ => rfl) hS18 (fun hS19 => ?_)
      simp only [List.setIfInBounds_toArray, List.set_cons_zero, List.set_cons_succ]
      refine skipM (i := 19) 40 hpo rfl (by kernel_rfl) (fun _ _ _ h => h) rfl (by rfl) (fun _ => rfl) hS19 (fun hS20 => ?_)
      simp only [List.setIfInBounds_toArray, List.set_cons_zero, List.set_cons_succ]
      refine skipM (i := 20) 41 hpo rfl (by kernel_rfl) (fun _ _ _ h => h) rfl (by rfl) (fun _ => rfl) hS20 (fun hS21 => ?_)
      simp only [List.setIfInBounds_toArray, List.set_cons_zero, List.set_cons_succ]
      refine skipM (i := 21) 42 hpo rfl (by kernel_rfl) (fun _ _ _ h => h) rfl (by rfl) (fun _ => rfl) hS21 (fun hS22 => ?_)
      simp only [List.setIfInBounds_toArray, List.set_cons_zero, List.set_cons_succ]
      refine skipM (i := 22) 43 hpo rfl (by kernel_rfl) (fun _ _ _ h => h) rfl (by rfl) (fun _ => rfl) hS22 (fun hS23 => ?_)
      simp only [List.setIfInBounds_toArray, List.set_cons_zero, List.set_cons_succ]
      refine skipM (i := 23) 44 hpo rfl (by kernel_rfl) (fun _ _ _ h => h) rfl (by rfl) (fun _ => rfl) hS23 (fun hS24 => ?_)
      simp only [List.setIfInBounds_toArray, List.set_cons_zero, List.set_cons_succ]
      refine skipM (i := 24) 45 hpo rfl (by kernel_rfl) (fun _ _ _ h => h) rfl (by rfl) (fun _ => rfl) hS24 (fun hS25 => ?_)
      simp only [List.setIfInBounds_toArray, List.set_cons_zero, List.set_cons_succ]
      refine skipM (i := 25) 46 hpo rfl (by kernel_rfl) (fun _ _ _ h => h) rfl (by rfl) (fun _ => rfl) hS25 (fun hS26 => ?_)
      simp only [List.setIfInBounds_toArray, List.set_cons_zero, List.set_cons_succ]
      refine skipM (i := 26) 47 hpo rfl (by kernel_rfl) (fun _ _ _ h => h) rfl (by rfl) (fun _ => rfl) hS26 (fun hS27 => ?_)
      simp only [List.setIfInBounds_toArray, List.set_cons_zero, List.set_cons_succ]
      refine skipM (i := 28) 49 hpo rfl (by kernel_rfl) (fun _ _ _ h => h) rfl (by rfl) (fun _ => rfl) hS27 (fun hS28 => ?_)
      simp only [List.setIfInBounds_toArray, List.set_cons_zero, List.set_cons_succ]
      refine noneM (i := 27) 48 rfl (by kernel_rfl) rfl (by rfl) (fun _ _ => trivial) hS28 (fun hS29 => ?_)
      simp only [List.setIfInBounds_toArray, List.set_cons_zero, List.set_cons_succ]
      refine noneM (i := 29) 50 rfl (by kernel_rfl) rfl (by rfl) (fun _ _ => trivial) hS29 (fun hS30 => ?_)
      simp only [List.setIfInBounds_toArray, List.set_cons_zero, List.set_cons_succ]
      refine noneM (i := 30) 51 rfl (by kernel_rfl) rfl (by rfl) (fun _ _ => trivial) hS30 (fun hS31 => ?_)
      simp only [List.setIfInBounds_toArray, List.set_cons_zero, List.set_cons_succ]
      refine oneM (i := 31) rfl (by kernel_rfl) (by rfl) (fun K hK => ?_)
      go_simp
      refine hK _ _ (fun h => absurd h (by decide)) (fun _ => ?_)
      clear hK K
      refine doneM (by kernel_rfl) ?_ _
      have hmv8 : Mv R W7 W8 := HR.out.mv (grown_undrew hg8) (fun _ => hG8)
      have hF0 : splitTrees g r o k1 k2 t s = [] := by unfold splitTrees; rw [← HA2.out, if_neg hpos]
      have HF0 := Lib.hid hF0
      have HMv8 := Lib.hid hmv8
      clear hF0 hmv8
      gi_wp2
      refine ⟨HMv8.out.kp hok7, ?_⟩
      show J ((pre ++ [s]).flatMap (splitTrees g r o k1 k2 t)) W8
      rw [List.flatMap_append, List.flatMap_singleton, HF0.out, List.append_nil]
      exact ((HJ.out _).mono HBW6.out.size).mv HMv8.out hok7 hj7
end Go.Proofs.YthmnffgjckpkiaaGreatDoor
namespace Go.Proofs.YthmnffgjckpkiaaGreatDoor
open Go Go.RowKit Go.Shelf

theorem fill_seq {m gb : Nat} {g : Gr} {ended : Bool} {W0 : World} (hg : Gram m gb g ended W0) {R : Rg} (hR : Counts R m g W0) {w : World} (hs : Since m W0 w) (hok : R.ok w) (r : RowS) (hr : RowOk r) (fv : Value) (fo : Nat) (bd caps : Array Value) (hfv : fv = .func (.func fo) bd caps) (pa : Option Addr) (pc : Nat) (hp : PartsAt W0 (.slice pa r.parts.length pc) r.parts) (f : Nat) (o : Opn) (t b : Nat) (hft : f ≤ t) (ho : o ∈ r.opn f t) (ht : t ≤ g.toks.length)
    (hT : ∀ k f' t', f ≤ f' → f' ≤ t' → t' ≤ t → t' - f' < t - f → TreesOk m gb g W0 k f' t') (hlt : f < t) (hb : FillBox gb r fv (.slice pa r.parts.length pc) o t b w) (hsf : FillSf R b w) : SeqM R Tryz.prog 123 (fillLb b) (fillS g r o t) (TreeA R) w := by
  have hat := hr.at1 f t o hft ho
  cases hps : r.parts with
  | nil => rw [hps] at hb; exact fill_nil g r hps fv pa pc o t b hb hsf
  | cons k1 ks =>
    cases ks with
    | nil =>
      have h1 := hr.one f t o hft ho (by rw [hps]; rfl)
      rw [hps] at hb hp
      exact fill_one hR hs hok r k1 hps fv pa pc hp o t b (hT k1 o.at t hat.1 hat.2 (Nat.le_refl _) (by omega)) hb hsf
    | cons k2 ks =>
      have : ks = [] := by
        have h := hr.two
        rw [hps] at h
        cases ks with
        | nil => rfl
        | cons a b => simp at h
      subst this
      rw [hps] at hb hp
      exact fill_two hg hR hs hok r k1 k2 hps fv fo bd caps hfv pa pc hp o t b hat.2 ht (fun k f' t' h1 h2 h3 h4 => hT k f' t' (by omega) (by omega) h3 (by omega)) hb hsf

/-- The parses by the first rows; what an opening adds. -/
def rowsTr (g : Gr) (k f t j : Nat) : List Tr := ((rowsS g).take j).flatMap (rowTrees (treesS g) g k f t)
theorem rowsTr_step {g : Gr} {k f t j : Nat} (h : j < (rowsS g).length) : rowsTr g k f t (j + 1) = rowsTr g k f t j ++ rowTrees (treesS g) g k f t (rowsS g)[j] := by
  unfold rowsTr
  rw [List.take_succ_eq_append_getElem h, List.flatMap_append, List.flatMap_singleton]
theorem rowsTr_prefix (g : Gr) (k f t j : Nat) : rowsTr g k f t j <+: (rowsS g).flatMap (rowTrees (treesS g) g k f t) := by
  refine ⟨((rowsS g).drop j).flatMap (rowTrees (treesS g) g k f t), ?_⟩
  unfold rowsTr
  rw [← List.flatMap_append, List.take_append_drop]
def opnTr (g : Gr) (r : RowS) (t : Nat) (o : Opn) : List Tr := if 0 < partsS g r o.at t then fillS g r o t else []
theorem rowTrees_eq {g : Gr} {k f t : Nat} {r : RowS} (h : r.kind = k) : rowTrees (treesS g) g k f t r = (r.opn f t).flatMap (opnTr g r t) := by
  unfold rowTrees
  rw [if_pos h]
  rfl
/-- What has come so far is a part of the whole. -/
theorem come_prefix {g : Gr} {k f t j q : Nat} {r : RowS} {o : Opn} {p : List Tr} (hj : j < (rowsS g).length) (hr : r = (rowsS g)[j]) (hk : r.kind = k) (hq : q < (r.opn f t).length) (ho : o = (r.opn f t)[q]) (hp : p <+: opnTr g r t o) :
    (rowsTr g k f t j ++ ((r.opn f t).take q).flatMap (opnTr g r t) ++ p) <+: (rowsS g).flatMap (rowTrees (treesS g) g k f t) := by
  have h1 : (rowsS g).take j ++ [(rowsS g)[j]] <+: rowsS g := by rw [← List.take_succ_eq_append_getElem hj]; exact List.take_prefix _ _
  have h2 : (r.opn f t).take q ++ [(r.opn f t)[q]] <+: r.opn f t := by rw [← List.take_succ_eq_append_getElem hq]; exact List.take_prefix _ _
  have h3 := flat_prefix (F := opnTr g r t) h2 (by rw [← ho]; exact hp)
  have h4 := flat_prefix (F := rowTrees (treesS g) g k f t) h1 (p := ((r.opn f t).take q).flatMap (opnTr g r t) ++ p) (by rw [← hr, rowTrees_eq hk]; exact h3)
  rw [← List.append_assoc] at h4
  exact h4

theorem trees_none {m gb : Nat} {g : Gr} {ended : Bool} {W0 : World} (hg : Gram m gb g ended W0) (k f t : Nat) (ht : t ≤ g.toks.length) (h0 : cntS g k f t = 0) : TreesOk m gb g W0 k f t := by
  intro R hR w b hs hok hbx s0 s1 s2 s3 l J Jx W hW hokW hl hJ hJx hY hJ0
  have hx : treesS g k f t = [] := by rw [treesS_eq, if_pos h0]
  rw [hx]
  have hsW := hs.kp hR.leaves hok hW
  have hGW := hR.good _ hokW
  have c0 : W.cell? ⟨b, 0, none⟩ = some (.pointer (some ⟨gb, 0, none⟩)) := (World.cell?_of_block (a := ⟨b, 0, none⟩) (hW.same _ s0).2).trans hbx.c0
  have c1 : W.cell? ⟨b + 1, 0, none⟩ = some (.int .u8 k) := (World.cell?_of_block (a := ⟨b + 1, 0, none⟩) (hW.same _ s1).2).trans hbx.c1
  have c2 : W.cell? ⟨b + 1 + 1, 0, none⟩ = some (.int .i64 f) := (World.cell?_of_block (a := ⟨b + 1 + 1, 0, none⟩) (hW.same _ s2).2).trans hbx.c2
  have c3 : W.cell? ⟨b + 1 + 1 + 1, 0, none⟩ = some (.int .i64 t) := (World.cell?_of_block (a := ⟨b + 1 + 1 + 1, 0, none⟩) (hW.same _ s3).2).trans hbx.c3
  have hc := count_all hg k f t ht W hsW hGW
  rw [h0] at hc
  have HC := Lib.hid hc
  have HR := Lib.hid hR
  have HJ := Lib.hid (hJ [])
  have HJ0 := Lib.hid hJ0
  clear hc hY hJ hJx hW hs hsW hGW hbx hx hg hR hJ0
  unfold treesLb
  go_enter Tryz.func79, Tryz.ntmps79
  go_wp2_with fail
  refine HC.out.mono ?_
  rintro _ W1 ⟨rfl, hg1, hG1⟩
  have hmv : Mv R W W1 := HR.out.mv hg1 (fun _ => hG1)
  have HMv := Lib.hid hmv
  clear hmv hg1 hG1
  go_wp2
  refine bodyPost_ret (results_none rfl _ _ _) rfl ?_
  exact ⟨⟨_, rfl⟩, .inl ⟨HJ.out.mv HMv.out hokW HJ0.out, HMv.out.kp hokW⟩⟩

set_option maxRecDepth 100000 in
set_option maxHeartbeats 8000000 in
theorem trees_step {m gb : Nat} {g : Gr} {ended : Bool} {W0 : World} (hg : Gram m gb g ended W0) (k f t : Nat) (hlt : f < t) (ht : t ≤ g.toks.length) (h0 : 0 < cntS g k f t)
    (hT : ∀ k f' t', f ≤ f' → f' ≤ t' → t' ≤ t → t' - f' < t - f → TreesOk m gb g W0 k f' t') : TreesOk m gb g W0 k f t := by
  intro R hR w b hs hok hbx s0 s1 s2 s3 l J Jx W hW hokW hl hJ hJx hY hJ0
  have hx : treesS g k f t = (rowsS g).flatMap (rowTrees (treesS g) g k f t) := by rw [treesS_eq, if_neg (by omega)]
  rw [hx] at hY ⊢
  have hsW := hs.kp hR.leaves hok hW
  have hGW := hR.good _ hokW
  have c0 : W.cell? ⟨b, 0, none⟩ = some (.pointer (some ⟨gb, 0, none⟩)) := (World.cell?_of_block (a := ⟨b, 0, none⟩) (hW.same _ s0).2).trans hbx.c0
  have c1 : W.cell? ⟨b + 1, 0, none⟩ = some (.int .u8 k) := (World.cell?_of_block (a := ⟨b + 1, 0, none⟩) (hW.same _ s1).2).trans hbx.c1
  have c2 : W.cell? ⟨b + 1 + 1, 0, none⟩ = some (.int .i64 f) := (World.cell?_of_block (a := ⟨b + 1 + 1, 0, none⟩) (hW.same _ s2).2).trans hbx.c2
  have c3 : W.cell? ⟨b + 1 + 1 + 1, 0, none⟩ = some (.int .i64 t) := (World.cell?_of_block (a := ⟨b + 1 + 1 + 1, 0, none⟩) (hW.same _ s3).2).trans hbx.c3
  have cells : ∀ V, Kp R W V → V.cell? ⟨b, 0, none⟩ = some (.pointer (some ⟨gb, 0, none⟩)) ∧ V.cell? ⟨b + 1, 0, none⟩ = some (.int .u8 k) ∧ V.cell? ⟨b + 1 + 1, 0, none⟩ = some (.int .i64 f) ∧ V.cell? ⟨b + 1 + 1 + 1, 0, none⟩ = some (.int .i64 t) := fun V hV =>
    ⟨(World.cell?_of_block (a := ⟨b, 0, none⟩) (hV.same _ (hW.same _ s0).1).2).trans c0, (World.cell?_of_block (a := ⟨b + 1, 0, none⟩) (hV.same _ (hW.same _ s1).1).2).trans c1, (World.cell?_of_block (a := ⟨b + 1 + 1, 0, none⟩) (hV.same _ (hW.same _ s2).1).2).trans c2, (World.cell?_of_block (a := ⟨b + 1 + 1 + 1, 0, none⟩) (hV.same _ (hW.same _ s3).1).2).trans c3⟩
  have hc := count_all hg k f t ht W hsW hGW
  obtain ⟨tb, c4, hrows⟩ := hg.table
  have HC := Lib.hid hc
  have HR := Lib.hid hR
  have HJ := Lib.hid hJ
  have HJx := Lib.hid hJx
  have HJ0 := Lib.hid hJ0
  have HY := Lib.hid hY
  have HT := Lib.hid hT
  have HG := Lib.hid hg
  have HRows := Lib.hid hrows
  have HSW := Lib.hid hsW
  have HCells := Lib.hid cells
  have H4 := Lib.hid c4
  have hm0 := R.mlt hokW
  clear hc hY hJ hJx hW hs hsW hGW hbx hx hg hR hJ0 hT hrows cells c4
  unfold treesLb
  go_enter Tryz.func79, Tryz.ntmps79
  go_wp2_with fail
  refine HC.out.mono ?_
  rintro _ W1 ⟨rfl, hg1, hG1⟩
  have hmv : Mv R W W1 := HR.out.mv hg1 (fun _ => hG1)
  have hk1 := hmv.kp hokW
  have hok1 := hmv.ok hokW
  have hj1 := (HJ.out []).mv hmv hokW HJ0.out
  obtain ⟨d0, d1, d2, d3⟩ := HCells.out W1 hk1
  have d4 := (HSW.out.grown hg1).cell H4.out
  have hcn : (((cntS g k f t : Nat) : Int) == 0) = false := by simp; omega
  clear c0 c1 c2 c3 hmv hg1 hG1
  go_wp2
  clear d0 d1 d2 d3 d4
  go_loopw [21] (fun i wr => ∃ j : Nat, j ≤ 24 ∧ i = .int .i64 j ∧ J (rowsTr g k f t j) wr ∧ Kp R W wr) (fun i _ => 24 - (intOf i).toNat)
  case atStart => exact ⟨0, by omega, rfl, hj1, hk1⟩
  case round =>
    obtain ⟨j, hj, rfl, hJr, hkr⟩ := hrel
    have hokr := hkr.ok hokW
    by_cases hjl : j < 24
    · obtain ⟨fv, pv, hrow, a0, a1, a2, a3, a4⟩ := HRows.out j hjl
      have hsr : Since m W0 wr := HSW.out.kp HR.out.leaves hokW hkr
      have b0 := hsr.cell a0
      have b1 := hsr.cell a1
      have b2 := hsr.cell a2
      have b3 := hsr.cell a3
      have b4 := hsr.cell a4
      obtain ⟨r, hr⟩ : ∃ r, r = (rowsS g)[j]'hjl := ⟨_, rfl⟩
      rw [← hr] at b0 b1 b4 hrow
      have hrok : RowOk r := by rw [hr]; exact rowsS_ok g _ (List.getElem_mem hjl)
      obtain ⟨fo, bd, caps, rfl, he, hop⟩ := hrow.opn
      obtain ⟨pa, pcap, rfl, hpp⟩ := hrow.parts
      have b4' : wr.cell? ⟨tb, j * 5 + 4, none⟩ = some (.string ⟨r.glue.toArray⟩) := b4
      obtain ⟨x0, x1, x2, x3⟩ := HCells.out wr hkr
      have l1 := cell_lt x1
      have l2 := cell_lt x2
      have l3 := cell_lt x3
      simp only at l1 l2 l3
      have HOp := Lib.hid hop
      have HR1 := Lib.hid hr
      have HRow := Lib.hid hrow
      have HRok := Lib.hid hrok
      have HSr := Lib.hid hsr
      have HJr := Lib.hid hJr
      clear hop hpp b4 hr hrow hrok hsr hJr a0 a1 a2 a3 a4 x0
      by_cases hk : r.kind = k
      · have hk2 : ((r.kind : Int) != (k : Int)) = false := by simp; omega
        have hk3 : ((r.kind : Int) == (k : Int)) = true := by simp; omega
        have HK := Lib.hid hk
        clear hk
        go_wp2_with fail
        obtain ⟨wo, rfl⟩ : ∃ wo : World, wo = wr := ⟨_, rfl⟩
        obtain ⟨w2, hw2⟩ : ∃ w2, w2 = wo.alloc (.cells #[.int .u8 r.rule, .int .u8 r.kind, .func (.func fo) bd caps, .slice pa r.parts.length pcap, .string ⟨r.glue.toArray⟩] 124) := ⟨_, rfl⟩
        have hb2 : Below wo.heap.size wo w2 := by rw [hw2]; exact (Below.refl _ _).alloc (Nat.le_refl _) _
        have hrb2 : w2.heap[wo.heap.size]? = some (.cells #[.int .u8 r.rule, .int .u8 r.kind, .func (.func fo) bd caps, .slice pa r.parts.length pcap, .string ⟨r.glue.toArray⟩] 124 (0, 0)) := by rw [hw2]; exact World.alloc_heap_new wo _
        have hz2 : w2.heap.size = wo.heap.size + 1 := by rw [hw2]; simp
        rw [← hw2]
        clear hw2 b0 b1 b2 b3 b4' x1 x2 x3 l1 l2 l3
        refine (HOp.out w2 (HSr.out.below hb2) f t (by omega) ht).mono ?_
        rintro e w3 ⟨v, rfl, ho, hb3, hfresh⟩
        have hbw3 : Below wo.heap.size wo w3 := hb2.trans (hb3.mono hb2.size)
        have hmv3 : Mv R wo w3 := Mv.of_below hokr hbw3
        have hk3' := hkr.trans (hmv3.kp hokr)
        have hok3 := hmv3.ok hokr
        have hrb3 : w3.heap[wo.heap.size]? = some (.cells #[.int .u8 r.rule, .int .u8 r.kind, .func (.func fo) bd caps, .slice pa r.parts.length pcap, .string ⟨r.glue.toArray⟩] 124 (0, 0)) := (hb3.block _ (Array.getElem?_eq_some_iff.1 hrb2).1).trans hrb2
        have srb : R.sf w3 wo.heap.size := R.fresh hokr hbw3 (Nat.le_refl _) (Array.getElem?_eq_some_iff.1 hrb3).1
        have hj3 := (HJ.out (rowsTr g k f t j)).mv hmv3 hokr HJr.out
        obtain ⟨oa, ocap, rfl, hol, hoc⟩ := ho
        obtain ⟨os, hos⟩ : ∃ os, os = r.opn f t := ⟨_, rfl⟩
        rw [← hos] at hol hoc ⊢
        have hoc2 : os = [] ∨ ∃ ob, oa = some ⟨ob, 0, none⟩ ∧ R.sf w3 ob ∧ ∀ j (h : j < os.length), w3.cell? ⟨ob, j * 3, none⟩ = some (.int .i64 os[j].entry) ∧ w3.cell? ⟨ob, j * 3 + 1, none⟩ = some (strVal os[j].word) ∧ w3.cell? ⟨ob, j * 3 + 2, none⟩ = some (.int .i64 os[j].at) := by
          rcases hoc with h | ⟨ob, hoa, hc⟩
          · exact .inl h
          · by_cases hne : os = []
            · exact .inl hne
            · refine .inr ⟨ob, hoa, R.fresh hokr hbw3 ?_ ?_, hc⟩
              · have h1 := hfresh ob (by rw [hoa]; rfl)
                omega
              · have h2 := cell_lt (hc 0 (List.length_pos_iff.2 hne)).1
                exact h2
        have HOs := Lib.hid hos
        have HOc := Lib.hid hoc2
        have HRb3 := Lib.hid hrb3
        have HJ3 := Lib.hid hj3
        clear hos hoc hoc2 hrb2 hrb3 hb2 hb3 hj3 hfresh hmv3 hbw3
        go_wp2
        go_loopw [35] (fun i wr => ∃ q : Nat, q ≤ os.length ∧ i = .int .i64 q ∧ J (rowsTr g k f t j ++ (os.take q).flatMap (opnTr g r t)) wr ∧ Kp R w3 wr) (fun i _ => os.length - (intOf i).toNat)
        case atStart => exact ⟨0, Nat.zero_le _, rfl, by simpa using HJ3.out, Kp.refl _⟩
        case round =>
          obtain ⟨q, hq, rfl, hJq, hkq⟩ := hrel
          have hkWq := hk3'.trans hkq
          have hokq := hkWq.ok hokW
          by_cases hql : q < os.length
          · rcases HOc.out with h0 | ⟨ob, rfl, sob, hoc⟩
            · rw [h0] at hql; exact absurd hql (by simp)
            obtain ⟨o0, o1, o2⟩ := hoc q hql
            have hob := (hkq.same _ sob).2
            have p0 := (World.cell?_of_block (a := ⟨ob, q * 3, none⟩) hob).trans o0
            have p1 := (World.cell?_of_block (a := ⟨ob, q * 3 + 1, none⟩) hob).trans o1
            have p2 := (World.cell?_of_block (a := ⟨ob, q * 3 + 2, none⟩) hob).trans o2
            obtain ⟨o, ho⟩ : ∃ o, o = os[q] := ⟨_, rfl⟩
            rw [← ho] at p0 p1 p2
            have p1' : wr.cell? ⟨ob, q * 3 + 1, none⟩ = some (.string ⟨o.word.toArray⟩) := p1
            have hrbq := (hkq.same _ srb).2.trans HRb3.out
            have y0 : wr.cell? ⟨wo.heap.size, 0, none⟩ = some (.int .u8 r.rule) := by simp [World.cell?, hrbq]
            have y1 : wr.cell? ⟨wo.heap.size, 1, none⟩ = some (.int .u8 r.kind) := by simp [World.cell?, hrbq]
            have y2 : wr.cell? ⟨wo.heap.size, 2, none⟩ = some (.func (.func fo) bd caps) := by simp [World.cell?, hrbq]
            have y3 : wr.cell? ⟨wo.heap.size, 3, none⟩ = some (.slice pa r.parts.length pcap) := by simp [World.cell?, hrbq]
            have y4 : wr.cell? ⟨wo.heap.size, 4, none⟩ = some (.string ⟨r.glue.toArray⟩) := by simp [World.cell?, hrbq]
            have lrow : wo.heap.size < wr.heap.size := cell_lt y0
            obtain ⟨x0, x1, x2, x3⟩ := HCells.out wr hkWq
            have l0 := cell_lt x0
            have l3 := cell_lt x3
            simp only at l0 l3
            have hom : o ∈ r.opn f t := by rw [ho, ← HOs.out]; exact List.getElem_mem hql
            have hat := HRok.out.at1 f t o (by omega) hom
            have hst2 : (os.take (q + 1)).flatMap (opnTr g r t) = (os.take q).flatMap (opnTr g r t) ++ opnTr g r t o := by
              rw [List.take_succ_eq_append_getElem hql, List.flatMap_append, ← ho, List.flatMap_singleton]
            have hsq : Since m W0 wr := HSW.out.kp HR.out.leaves hokW hkWq
            have hGq := HR.out.good _ hokq
            have hcp : ∀ p, p <+: opnTr g r t o → (rowsTr g k f t j ++ (os.take q).flatMap (opnTr g r t) ++ p) <+: (rowsS g).flatMap (rowTrees (treesS g) g k f t) := fun p hp => by
              have h := come_prefix (q := q) (o := o) hjl HR1.out HK.out (by rw [← HOs.out]; exact hql) (by rw [ho]; congr 1) hp
              rw [← HOs.out] at h
              exact h
            have HOm := Lib.hid hom
            have HSt2 := Lib.hid hst2
            have HSq := Lib.hid hsq
            have HGq := Lib.hid hGq
            have HJq := Lib.hid hJq
            have HCp := Lib.hid hcp
            have HRbq := Lib.hid hrbq
            clear hom hst2 hsq hGq hJq hcp o0 o1 o2 p1 ho hoc hob hrbq x1 x2
            go_wp2_with fail
            obtain ⟨V3, hV3⟩ : ∃ V3, V3 = wr.alloc (.cells #[.int .i64 o.entry, .string ⟨o.word.toArray⟩, .int .i64 o.at] 127) := ⟨_, rfl⟩
            have hbV : Below wr.heap.size wr V3 := by rw [hV3]; exact (Below.refl _ _).alloc (Nat.le_refl _) _
            have hvb : V3.heap[wr.heap.size]? = some (.cells #[.int .i64 o.entry, .string ⟨o.word.toArray⟩, .int .i64 o.at] 127 (0, 0)) := by rw [hV3]; exact World.alloc_heap_new wr _
            have hrV : V3.heap[wo.heap.size]? = some (.cells #[.int .u8 r.rule, .int .u8 r.kind, .func (.func fo) bd caps, .slice pa r.parts.length pcap, .string ⟨r.glue.toArray⟩] 124 (0, 0)) := (hbV.block _ lrow).trans HRbq.out
            rw [← hV3]
            clear hV3 p0 p1' p2 y0 y1 y2 y3 y4 x0 x3
            have hmvV : Mv R wr V3 := Mv.of_below hokq hbV
            have hokV := hmvV.ok hokq
            have hsV : Since m W0 V3 := HSq.out.below hbV
            have hGV := HR.out.good _ hokV
            refine (parts_all HG.out r HRok.out (.func (.func fo) bd caps) _ HRow.out.parts o.at t hat.2 ht V3 hsV hGV).mono ?_
            rintro _ W4 ⟨rfl, hg4, hG4⟩
            have hmv4 : Mv R wr W4 := hmvV.trans (HR.out.mv hg4 (fun _ => hG4))
            have hok4 := hmv4.ok hokq
            have hk4 := hmv4.kp hokq
            have hs4 : Since m W0 W4 := hsV.grown hg4
            have ke : ∀ (a : Addr) (v : Value), V3.cell? a = some v → W4.cell? a = some v := fun a v hc => ((Since.refl (mapG_map hGV)).grown hg4).cell hc
            have p0 : W4.cell? ⟨wr.heap.size, 0, none⟩ = some (.int .i64 o.entry) := ke _ _ (by simp [World.cell?, hvb])
            have p1 : W4.cell? ⟨wr.heap.size, 1, none⟩ = some (.string ⟨o.word.toArray⟩) := ke _ _ (by simp [World.cell?, hvb])
            have p2 : W4.cell? ⟨wr.heap.size, 2, none⟩ = some (.int .i64 o.at) := ke _ _ (by simp [World.cell?, hvb])
            have y0 : W4.cell? ⟨wo.heap.size, 0, none⟩ = some (.int .u8 r.rule) := ke _ _ (by simp [World.cell?, hrV])
            have y1 : W4.cell? ⟨wo.heap.size, 1, none⟩ = some (.int .u8 r.kind) := ke _ _ (by simp [World.cell?, hrV])
            have y2 : W4.cell? ⟨wo.heap.size, 2, none⟩ = some (.func (.func fo) bd caps) := ke _ _ (by simp [World.cell?, hrV])
            have y3 : W4.cell? ⟨wo.heap.size, 3, none⟩ = some (.slice pa r.parts.length pcap) := ke _ _ (by simp [World.cell?, hrV])
            have y4 : W4.cell? ⟨wo.heap.size, 4, none⟩ = some (.string ⟨r.glue.toArray⟩) := ke _ _ (by simp [World.cell?, hrV])
            obtain ⟨x0, x1, x2, x3⟩ := HCells.out W4 (hkWq.trans hk4)
            obtain ⟨c, hc⟩ : ∃ c, c = partsS g r o.at t := ⟨_, rfl⟩
            rw [← hc]
            obtain ⟨dn, hdn⟩ : ∃ dn, dn = rowsTr g k f t j ++ (os.take q).flatMap (opnTr g r t) := ⟨_, rfl⟩
            have HC4 := Lib.hid hc
            have HJ4 := Lib.hid (show J dn W4 by rw [hdn]; exact (HJ.out _).mv hmv4 hokq HJq.out)
            have HDn := Lib.hid hdn
            have HMv4 := Lib.hid hmv4
            have HS4 := Lib.hid hs4
            clear hc hdn hmv4 hs4 ke hg4 hG4 hvb hrV hbV hmvV hsV hGV
            by_cases hpos : 0 < c
            · have hp1 : decide ((0 : Int) < (c : Int)) = true := by simpa using hpos
              have hp2 : decide (0 < c) = true := by simpa using hpos
              have hop : opnTr g r t o = fillS g r o t := by unfold opnTr; rw [← HC4.out, if_pos hpos]
              have HOp' := Lib.hid hop
              clear hop hpos
              go_wp2_with fail
              refine (fill_box gb r (.func (.func fo) bd caps) fo bd caps rfl pa r.parts.length pcap o t W4).mono ?_
              rintro _ W5 ⟨rfl, hb5, hz5, hBx⟩
              have hmv5 : Mv R W4 W5 := Mv.of_below hok4 hb5
              have hok5 := hmv5.ok hok4
              have hk45 := hmv5.kp hok4
              have hkW5 := (hkWq.trans hk4).trans hk45
              have fr5 : ∀ e, W4.heap.size ≤ e → e < W5.heap.size → R.sf W5 e := fun e h1 h2 => R.fresh hok4 hb5 h1 h2
              have hs5 : Since m W0 W5 := HS4.out.below hb5
              have hsz5 := hkW5.size
              have hsf : FillSf R W4.heap.size W5 := ⟨fr5 _ (by omega) (by omega), fr5 _ (by omega) (by omega), fr5 _ (by omega) (by omega), fr5 _ (by omega) (by omega), fr5 _ (by omega) (by omega)⟩
              have hseqF := fill_seq HG.out HR.out hs5 hok5 r HRok.out (.func (.func fo) bd caps) fo bd caps rfl pa pcap HRow.out.parts f o t W4.heap.size (by omega) HOm.out ht HT.out hlt hBx hsf
              have hj5 : J dn W5 := (HJ.out _).mv hmv5 hok4 HJ4.out
              have hpass := pass_any 123 _ (enters_of Tryz.func123 (by kernel_rfl) rfl) hseqF hok5 l (by omega) (fun p => J (dn ++ p)) (fun p => Jx (dn ++ p)) (fun p => (HJ.out _).mono hsz5) (fun p => (HJx.out _).mono hsz5)
                (fun p2 vs y W1 hj hk1 hok1 hta hp2 => by
                  have h := HY.out (dn ++ p2) vs y W1 hj (hkW5.trans hk1) hok1 hta (by rw [List.append_assoc, HDn.out]; exact HCp.out _ (by rw [HOp'.out]; exact hp2))
                  rw [List.append_assoc] at h
                  exact h) (by simpa using hj5)
              have HPass := Lib.hid hpass
              have HBx := Lib.hid hBx
              have HZ5 := Lib.hid hz5
              clear hpass hseqF hsf fr5 hs5 hj5 hb5 hBx hz5 p0 p1 p2 y0 y1 y2 y3 y4 x0 x1 x2 x3 hmv5
              go_wp2_with fail
              refine HPass.out.mono ?_
              rintro _ V (⟨rfl, hJ6, hk9⟩ | ⟨rfl, p, hp, hJ6, hok6', hk9⟩)
              · have HJ6 := Lib.hid (show J (rowsTr g k f t j ++ (os.take (q + 1)).flatMap (opnTr g r t)) V by rw [HSt2.out, ← List.append_assoc, ← HDn.out, HOp'.out]; exact hJ6)
                clear hJ6
                go_wp2
                go_roundw
                case rel => exact ⟨q + 1, by omega, by go_num, HJ6.out, ((hkq.trans hk4).trans hk45).trans hk9⟩
                case measure => simp [intOf]; omega
              · have HJ6 := Lib.hid hJ6
                have HP := Lib.hid hp
                clear hJ6 hp
                go_wp2
                refine bodyPost_ret (results_none rfl _ _ _) rfl ?_
                exact ⟨⟨_, rfl⟩, .inr ⟨dn ++ p, by rw [HDn.out]; exact HCp.out _ (by rw [HOp'.out]; exact HP.out), HJ6.out, hok6', (hkW5.from _).trans hk9⟩⟩
            · have hp1 : decide ((0 : Int) < (c : Int)) = false := by simpa using hpos
              have hp2 : decide (0 < c) = false := by simpa using hpos
              have hop : opnTr g r t o = [] := by unfold opnTr; rw [← HC4.out, if_neg hpos]
              have HOp' := Lib.hid hop
              clear hop hpos
              go_wp2
              go_roundw
              case rel => exact ⟨q + 1, by omega, by go_num, by rw [HSt2.out, HOp'.out, List.append_nil, ← HDn.out]; exact HJ4.out, hkq.trans hk4⟩
              case measure => simp [intOf]; omega
          · obtain rfl : q = os.length := by omega
            have hfin : rowsTr g k f t (j + 1) = rowsTr g k f t j ++ (os.take os.length).flatMap (opnTr g r t) := by
              rw [rowsTr_step (by exact hjl), ← HR1.out, rowTrees_eq HK.out, ← HOs.out, List.take_length]
            have HFin := Lib.hid hfin
            have HJq := Lib.hid hJq
            clear hfin hJq
            go_wp2
            go_roundw
            case rel => exact ⟨j + 1, by omega, by go_num, by rw [HFin.out]; exact HJq.out, hkWq⟩
            case measure => simp [intOf]; omega
      · have hk2 : ((r.kind : Int) != (k : Int)) = true := by simp; omega
        have hk3 : ((r.kind : Int) == (k : Int)) = false := by simp; omega
        have HK := Lib.hid hk
        clear hk
        go_wp2
        go_roundw
        case rel =>
          have hmv2 : ∀ o, Mv R wr (wr.alloc o) := fun o => Mv.of_below hokr ((Below.refl _ _).alloc (Nat.le_refl _) _)
          refine ⟨j + 1, by omega, by go_num, ?_, hkr.trans ((hmv2 _).kp hokr)⟩
          rw [rowsTr_step (by exact hjl), ← HR1.out]
          unfold rowTrees
          rw [if_neg HK.out, List.append_nil]
          exact (HJ.out _).mv (hmv2 _) hokr HJr.out
        case measure => simp [intOf]; omega
    · obtain rfl : j = 24 := by omega
      clear hj
      go_wp2
      go_end0
      exact ⟨⟨_, rfl⟩, .inl ⟨hJr, hkr⟩⟩

theorem trees_all {m gb : Nat} {g : Gr} {ended : Bool} {W0 : World} (hg : Gram m gb g ended W0) : ∀ (d k f t : Nat), t - f ≤ d → t ≤ g.toks.length → TreesOk m gb g W0 k f t := by
  intro d
  induction d with
  | zero => intro k f t h ht; exact trees_none hg k f t ht (cntS_zero g (by omega))
  | succ d ih =>
    intro k f t h ht
    by_cases h0 : cntS g k f t = 0
    · exact trees_none hg k f t ht h0
    · by_cases hlt : f < t
      · exact trees_step hg k f t hlt ht (by omega) (fun k f' t' _ _ h3 h4 => ih k f' t' (by omega) (by omega))
      · exact absurd (cntS_zero g (by omega)) h0
end Go.Proofs.YthmnffgjckpkiaaGreatDoor
