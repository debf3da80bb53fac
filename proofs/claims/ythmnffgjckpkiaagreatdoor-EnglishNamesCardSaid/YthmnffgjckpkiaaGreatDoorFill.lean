/-
  The iterator 'fill' of package english: the parses by a row that is opened in one way.
-/
import Derived.Test.YthmnffgjckpkiaaGreatDoorPairs
namespace Go.Proofs.YthmnffgjckpkiaaGreatDoor
open Go Go.RowKit Go.Shelf
attribute [local go_sem] Oper.semAt_some

def opnV (o : Opn) : Value := .agg #[.int .i64 o.entry, .string ⟨o.word.toArray⟩, .int .i64 o.at]
/-- The boxes of the iterator of an opened row. -/
structure FillBox (gb : Nat) (r : RowS) (fv pv : Value) (o : Opn) (t b : Nat) (w : World) : Prop where
  c0 : w.heap[b]? = some (.cells #[.pointer (some ⟨gb, 0, none⟩)] 77 (0, 0))
  c1 : w.heap[b + 1]? = some (.cells #[.int .u8 r.rule, .int .u8 r.kind, fv, pv, .string ⟨r.glue.toArray⟩] 124 (0, 0))
  c2 : w.heap[b + 1 + 1]? = some (.cells #[.int .i64 o.entry, .string ⟨o.word.toArray⟩, .int .i64 o.at] 127 (0, 0))
  c3 : w.heap[b + 1 + 1 + 1]? = some (.cells #[.int .i64 t] 3 (0, 0))
  c4 : w.heap[b + 1 + 1 + 1 + 1]? = some (.cells #[.int .u8 r.rule, .int .i64 o.entry, .string ⟨o.word.toArray⟩, .slice none 0 0] 36 (0, 0))
def fillLb (b : Nat) : Array Value := #[.pointer (some ⟨b + 1, 0, none⟩), .pointer (some ⟨b + 1 + 1 + 1 + 1, 0, none⟩), .pointer (some ⟨b, 0, none⟩), .pointer (some ⟨b + 1 + 1, 0, none⟩), .pointer (some ⟨b + 1 + 1 + 1, 0, none⟩)]

theorem heap_at {w : World} {o : Obj} {k : Nat} (h : k = w.heap.size) : (w.alloc o).heap[k]? = some o := by rw [h]; exact World.alloc_heap_new w o
theorem fill_box (gb : Nat) (r : RowS) (fv : Value) (fo : Nat) (bd caps : Array Value) (hfv : fv = .func (.func fo) bd caps) (pa : Option Addr) (pn pc : Nat) (o : Opn) (t : Nat) (w : World) :
    Calls Tryz.prog 82 #[.pointer (some ⟨gb, 0, none⟩), rowV r fv (.slice pa pn pc), opnV o, .int .i64 t] w fun e w' =>
      e = .returned (.func (.func 123) #[] (fillLb w.heap.size)) ∧ Below w.heap.size w w' ∧ w'.heap.size = w.heap.size + 5 ∧ FillBox gb r fv (.slice pa pn pc) o t w.heap.size w' := by
  subst hfv
  unfold rowV opnV strVal
  go_enter Tryz.func82, Tryz.ntmps82
  go_wp2
  go_ret
  refine ⟨rfl, ((((((Below.refl _ _).alloc (Nat.le_refl _) _).alloc (by simp) _).alloc (by simp; omega) _).alloc (by simp; omega) _).alloc (by simp; omega) _), by simp, ?_, ?_, ?_, ?_, ?_⟩
  all_goals
    repeat rw [Below.heap_alloc _ _ _ (by first | (simp; done) | (simp; omega))]
    exact heap_at (by simp)

structure FillSf (R : Rg) (b : Nat) (w : World) : Prop where
  s0 : R.sf w b
  s1 : R.sf w (b + 1)
  s2 : R.sf w (b + 1 + 1)
  s3 : R.sf w (b + 1 + 1 + 1)
  s4 : R.sf w (b + 1 + 1 + 1 + 1)
theorem FillBox.kp {R : Rg} {gb : Nat} {r : RowS} {fv pv : Value} {o : Opn} {t b : Nat} {w W : World} (h : FillBox gb r fv pv o t b w) (hs : FillSf R b w) (hk : Kp R w W) : FillBox gb r fv pv o t b W :=
  ⟨(hk.same _ hs.s0).2.trans h.c0, (hk.same _ hs.s1).2.trans h.c1, (hk.same _ hs.s2).2.trans h.c2, (hk.same _ hs.s3).2.trans h.c3, (hk.same _ hs.s4).2.trans h.c4⟩
theorem FillSf.kp {R : Rg} {b : Nat} {w W : World} (hs : FillSf R b w) (hk : Kp R w W) : FillSf R b W :=
  ⟨(hk.same _ hs.s0).1, (hk.same _ hs.s1).1, (hk.same _ hs.s2).1, (hk.same _ hs.s3).1, (hk.same _ hs.s4).1⟩
theorem FillBox.below {gb : Nat} {r : RowS} {fv pv : Value} {o : Opn} {t b : Nat} {w W : World} (h : FillBox gb r fv pv o t b w) (hb : Below w.heap.size w W) : FillBox gb r fv pv o t b W := by
  have k : ∀ (i : Nat) (ob : Obj), w.heap[i]? = some ob → W.heap[i]? = some ob := fun i ob hi => (hb.block i (Array.getElem?_eq_some_iff.1 hi).1).trans hi
  exact ⟨k _ _ h.c0, k _ _ h.c1, k _ _ h.c2, k _ _ h.c3, k _ _ h.c4⟩
/-- The cells that the iterator reads. -/
structure FillCells (gb : Nat) (r : RowS) (pv : Value) (o : Opn) (t b : Nat) (W : World) : Prop where
  g : W.cell? ⟨b, 0, none⟩ = some (.pointer (some ⟨gb, 0, none⟩))
  p : W.cell? ⟨b + 1, 3, none⟩ = some pv
  at_ : W.cell? ⟨b + 1 + 1, 2, none⟩ = some (.int .i64 o.at)
  t : W.cell? ⟨b + 1 + 1 + 1, 0, none⟩ = some (.int .i64 t)
  h0 : W.cell? ⟨b + 1 + 1 + 1 + 1, 0, none⟩ = some (.int .u8 r.rule)
  h1 : W.cell? ⟨b + 1 + 1 + 1 + 1, 1, none⟩ = some (.int .i64 o.entry)
  h2 : W.cell? ⟨b + 1 + 1 + 1 + 1, 2, none⟩ = some (.string ⟨o.word.toArray⟩)
  h3 : W.cell? ⟨b + 1 + 1 + 1 + 1, 3, none⟩ = some (.slice none 0 0)
theorem FillBox.cells {gb : Nat} {r : RowS} {fv pv : Value} {o : Opn} {t b : Nat} {W : World} (h : FillBox gb r fv pv o t b W) : FillCells gb r pv o t b W := by
  obtain ⟨c0, c1, c2, c3, c4⟩ := h
  refine ⟨?_, ?_, ?_, ?_, ?_, ?_, ?_, ?_⟩ <;> simp [World.cell?, c0, c1, c2, c3, c4]

set_option maxRecDepth 100000 in
set_option maxHeartbeats 4000000 in
theorem fill_nil {R : Rg} {w : World} {gb : Nat} (g : Gr) (r : RowS) (hr : r.parts = []) (fv : Value) (pa : Option Addr) (pc : Nat) (o : Opn) (t b : Nat)
    (hb : FillBox gb r fv (.slice pa 0 pc) o t b w) (hsf : FillSf R b w) : SeqM R Tryz.prog 123 (fillLb b) (fillS g r o t) (TreeA R) w := by
  intro l J Jx W hW hokW hl hJ hJx hY hJ0
  have hbW := hb.kp hsf hW
  have hsW := hsf.kp hW
  have hfs : fillS g r o t = [.node r.rule o.entry o.word []] := by unfold fillS fillF; rw [hr]
  obtain ⟨W2, hW2⟩ : ∃ W2, W2 = W.alloc (.cells #[.func (.yield l) #[] #[]] 53) := ⟨_, rfl⟩
  have hb2 : Below W.heap.size W W2 := by rw [hW2]; exact (Below.refl _ _).alloc (Nat.le_refl _) _
  have xy : Boxed W2 W.heap.size 53 (.func (.yield l) #[] #[]) := by rw [hW2]; exact Boxed.new _ _ _
  have cy := xy.cell
  obtain ⟨c1, c2, c3, c4, c5, c6, c7, c8⟩ := (hbW.below hb2).cells
  have hmv2 : Mv R W W2 := Mv.of_below hokW hb2
  have htree : TreeR R W2 (.agg #[.int .u8 r.rule, .int .i64 o.entry, .string ⟨o.word.toArray⟩, .slice none 0 0]) (.node r.rule o.entry o.word []) :=
    TreeV.mk r.rule o.entry o.word [] none 0 (fun _ => undef) (.inl rfl) (fun j hj => by simp at hj)
  rw [hfs] at hY ⊢
  obtain ⟨fn, tmps, assign, body, hy, hRd⟩ := yieldAt_any 2 (hY [] _ (.node r.rule o.entry o.word []) W2 ((hJ []).mv hmv2 hokW hJ0) (hmv2.kp hokW) (hmv2.ok hokW) ⟨_, rfl, htree⟩ (List.prefix_refl _))
  have hk2 := hmv2.kp hokW
  have HW2 := Lib.hid hW2
  clear hY hJ hJx hJ0 hbW hsW hb hsf htree hW2 hW
  refine (callsIn_wide (n := 3)).1 ?_
  refine callsIn_of_wp Tryz.func123 rfl trivial ?_ rfl
  unfold fillLb
  simp only [Tryz.ntmps123, List.size_toArray, List.length_cons, List.length_nil, Nat.reduceAdd, Nat.reduceSub, Array.replicate_succ, Array.replicate_zero, List.push_toArray, List.append_toArray, List.nil_append, List.cons_append]
  have hfw : ∀ f, Fence.wide.fn f := fun _ => trivial
  have hmk : ∀ w', w' = W.alloc (.cells #[.func (.yield l) #[] #[]] 53) → w' = W2 := fun w' h => h.trans HW2.out.symm
  gi_wp2
  refine hRd.mono ?_
  rintro _ V (⟨rfl, hJ6, hk6⟩ | ⟨rfl, hJ6, hok6, hk6⟩)
  · gi_wp2
    go_end0
    exact ⟨⟨_, rfl⟩, .inl ⟨hJ6, hk2.trans hk6⟩⟩
  · gi_wp2
    go_end0
    exact ⟨⟨_, rfl⟩, .inr ⟨_, List.prefix_refl _, hJ6, hok6, (hk2.from _).trans hk6⟩⟩

set_option maxRecDepth 100000 in
set_option maxHeartbeats 4000000 in
theorem fill_one {m gb : Nat} {g : Gr} {W0 : World} {R : Rg} (hR : Counts R m g W0) {w : World} (hs : Since m W0 w) (hok : R.ok w) (r : RowS) (k : Nat) (hr : r.parts = [k]) (fv : Value) (pa : Option Addr) (pc : Nat) (hp : PartsAt W0 (.slice pa 1 pc) [k]) (o : Opn) (t b : Nat)
    (hT : TreesOk m gb g W0 k o.at t) (hb : FillBox gb r fv (.slice pa 1 pc) o t b w) (hsf : FillSf R b w) : SeqM R Tryz.prog 123 (fillLb b) (fillS g r o t) (TreeA R) w := by
  intro l J Jx W hW hokW hl hJ hJx hY hJ0
  have hbW := hb.kp hsf hW
  have hsW := hsf.kp hW
  have hsinW := hs.kp hR.leaves hok hW
  have hfs : fillS g r o t = (treesS g k o.at t).map fun x => .node r.rule o.entry o.word [x] := by unfold fillS fillF; rw [hr]
  obtain ⟨pa', pc', hpe, hpb⟩ := hp
  obtain ⟨pb, hpa, hpc⟩ := hpb.resolve_left (by simp)
  simp only [Value.slice.injEq] at hpe
  obtain ⟨he1, -, he2⟩ := hpe
  subst he1 he2 hpa
  have hp0 := hsinW.cell (hpc 0 (by simp))
  simp only [List.getElem_cons_zero] at hp0
  obtain ⟨W2, hW2⟩ : ∃ W2, W2 = W.alloc (.cells #[.func (.yield l) #[] #[]] 53) := ⟨_, rfl⟩
  have hb2 : Below W.heap.size W W2 := by rw [hW2]; exact (Below.refl _ _).alloc (Nat.le_refl _) _
  have hz2 : W2.heap.size = W.heap.size + 1 := by rw [hW2]; simp
  have xy : Boxed W2 W.heap.size 53 (.func (.yield l) #[] #[]) := by rw [hW2]; exact Boxed.new _ _ _
  have hb2W := hbW.below hb2
  have c2 := hbW.cells.p
  have l1 := R.lt hsW.s1
  have hmv2 : Mv R W W2 := Mv.of_below hokW hb2
  have hk2 := hmv2.kp hokW
  have hok2 := hmv2.ok hokW
  have sy2 : R.sf W2 W.heap.size := R.fresh hokW hb2 (Nat.le_refl _) (by omega)
  have hp2 := cell_kept' hb2 hp0
  rw [hfs] at hY ⊢
  have HY := Lib.hid hY
  have HJ := Lib.hid hJ
  have HJx := Lib.hid hJx
  have HJ0 := Lib.hid hJ0
  have HT := Lib.hid hT
  have HR := Lib.hid hR
  have HSW := Lib.hid hsW
  have HBW := Lib.hid hb2W
  have HS := Lib.hid hsinW
  have HXY := Lib.hid xy
  have HW2 := Lib.hid hW2
  have HK2 := Lib.hid hk2
  have HB2 := Lib.hid hb2
  have hm0 := R.mlt hokW
  clear hY hJ hJx hJ0 hbW hsW hb hsf hW2 hW hT hR hs hsinW hpc hpb hp0 xy hb2W hfs hk2 hb2
  refine (callsIn_wide (n := 3)).1 ?_
  refine callsIn_of_wp_marks Tryz.func123 rfl trivial ?_ rfl
  unfold fillLb
  simp only [Tryz.ntmps123, List.size_toArray, List.length_cons, List.length_nil, Nat.reduceAdd, Nat.reduceSub, Array.replicate_succ, Array.replicate_zero, List.push_toArray, List.append_toArray, List.nil_append, List.cons_append]
  have hfw : ∀ f, Fence.wide.fn f := fun _ => trivial
  gi_wp2
  rw [← HW2.out]
  clear c2 l1
  obtain ⟨c1, c2, c3, c4, _, _, _, _⟩ := HBW.out.cells
  have C1 := Lib.hid c1
  have C2 := Lib.hid c2
  have C3 := Lib.hid c3
  have C4 := Lib.hid c4
  have C5 := Lib.hid hp2
  clear c1 c2 c3 c4 hp2
  obtain ⟨_, S, hS⟩ : ∃ (_ : Unit) (S : World → Prop), S = fun V => Below W2.heap.size W2 V := ⟨(), _, rfl⟩
  have keep : ∀ (V : World) (a : Addr) (v : Value), S V → W2.cell? a = some v → V.cell? a = some v := fun V a v h hc => by
    rw [hS] at h
    exact cell_kept' h hc
  have f1 := fun V h => keep V _ _ h C1.out
  have f2 := fun V h => keep V _ _ h C2.out
  have f3 := fun V h => keep V _ _ h C3.out
  have f4 := fun V h => keep V _ _ h C4.out
  have f5 := fun V h => keep V _ _ h C5.out
  have hSd : S W2.drew := by rw [hS]; exact (Below.refl _ _).drew
  clear keep hS
  refine regionM S 8 (by kernel_rfl) hSd (fun hpo hS0 => ?_)
  refine takeM (i := 0) 60 (.pointer (some ⟨gb, 0, none⟩)) hpo rfl (by kernel_rfl) (fun _ _ _ h => h) rfl (by rfl) (fun V hX => (by have g1 := f1 V hX; go_simp)) (fun _ => rfl) hS0 (fun hS1 => ?_)
  simp only [List.setIfInBounds_toArray, List.set_cons_zero, List.set_cons_succ]
  refine takeM (i := 1) 61 (.pointer (some ⟨b + 1, 3, none⟩)) hpo rfl (by kernel_rfl) (fun _ _ _ h => h) rfl (by rfl) (fun V hX => (by go_simp)) (fun _ => rfl) hS1 (fun hS2 => ?_)
  simp only [List.setIfInBounds_toArray, List.set_cons_zero, List.set_cons_succ]
  refine takeM (i := 2) 62 (.slice (some ⟨pb, 0, none⟩) 1 pc) hpo rfl (by kernel_rfl) (fun _ _ _ h => h) rfl (by rfl) (fun V hX => (by have g2 := f2 V hX; go_simp)) (fun _ => rfl) hS2 (fun hS3 => ?_)
  simp only [List.setIfInBounds_toArray, List.set_cons_zero, List.set_cons_succ]
  refine takeM (i := 3) 63 (.pointer (some ⟨pb, 0, none⟩)) hpo rfl (by kernel_rfl) (fun _ _ _ h => h) rfl (by rfl) (fun V hX => (by go_simp)) (fun _ => rfl) hS3 (fun hS4 => ?_)
  simp only [List.setIfInBounds_toArray, List.set_cons_zero, List.set_cons_succ]
  refine takeM (i := 4) 64 (.int .u8 k) hpo rfl (by kernel_rfl) (fun _ _ _ h => h) rfl (by rfl) (fun V hX => (by have g5 := f5 V hX; go_simp)) (fun _ => rfl) hS4 (fun hS5 => ?_)
  simp only [List.setIfInBounds_toArray, List.set_cons_zero, List.set_cons_succ]
  refine takeM (i := 5) 65 (.pointer (some ⟨b + 1 + 1, 2, none⟩)) hpo rfl (by kernel_rfl) (fun _ _ _ h => h) rfl (by rfl) (fun V hX => (by go_simp)) (fun _ => rfl) hS5 (fun hS6 => ?_)
  simp only [List.setIfInBounds_toArray, List.set_cons_zero, List.set_cons_succ]
  refine takeM (i := 6) 66 (.int .i64 o.at) hpo rfl (by kernel_rfl) (fun _ _ _ h => h) rfl (by rfl) (fun V hX => (by have g3 := f3 V hX; go_simp)) (fun _ => rfl) hS6 (fun hS7 => ?_)
  simp only [List.setIfInBounds_toArray, List.set_cons_zero, List.set_cons_succ]
  refine takeM (i := 7) 67 (.int .i64 t) hpo rfl (by kernel_rfl) (fun _ _ _ h => h) rfl (by rfl) (fun V hX => (by have g4 := f4 V hX; go_simp)) (fun _ => rfl) hS7 (fun hS8 => ?_)
  simp only [List.setIfInBounds_toArray, List.set_cons_zero, List.set_cons_succ]
  refine oneM (i := 8) rfl (by kernel_rfl) (by rfl) (fun K hK => ?_)
  go_simp
  refine callsIn_wide.2 ((trees_box gb k o.at t W2.drew).mono ?_)
  rintro _ W6 ⟨rfl, hb6, hz6, hx6⟩
  refine hK _ _ (fun h => absurd h (by decide)) (fun _ => ?_)
  clear hK K
  refine doneM (by kernel_rfl) ?_ _
  have hbW6 : Below W.heap.size W W6 := HB2.out.trans ((((Below.refl _ W2).drew).trans hb6).mono HB2.out.size)
  have hz6' : W6.heap.size = W.heap.size + 5 := by have : W2.drew.heap.size = W2.heap.size := rfl; omega
  have hmv6 : Mv R W W6 := Mv.of_below hokW hbW6
  have hk6 := hmv6.kp hokW
  have hok6 := hmv6.ok hokW
  have fr : ∀ c, W.heap.size ≤ c → c < W6.heap.size → R.sf W6 c := fun c h1 h2 => R.fresh hokW hbW6 h1 h2
  have hxy6 : Boxed W6 W.heap.size 53 (.func (.yield l) #[] #[]) := (hb6.block _ HXY.out.lt).trans HXY.out
  have sy6 := fr W.heap.size (Nat.le_refl _) (by omega)
  have hseq := HT.out R HR.out W6 W2.drew.heap.size (HS.out.below hbW6) hok6 hx6 (fr _ (by show _ ≤ W2.heap.size; omega) (by show W2.heap.size < _; omega)) (fr _ (by show _ ≤ W2.heap.size + 1; omega) (by show W2.heap.size + 1 < _; omega)) (fr _ (by show _ ≤ W2.heap.size + 1 + 1; omega) (by show W2.heap.size + 1 + 1 < _; omega)) (fr _ (by show _ ≤ W2.heap.size + 1 + 1 + 1; omega) (by show W2.heap.size + 1 + 1 + 1 < _; omega))
  have hB6 := (HBW.out.below (Below.refl _ _).drew).below hb6
  have hF6 := HSW.out.kp hk6
  have HSeq := Lib.hid hseq
  have HBW6 := Lib.hid hbW6
  have HXY6 := Lib.hid hxy6
  have HB6 := Lib.hid hB6
  have HF6 := Lib.hid hF6
  clear hseq hbW6 hxy6 fr hb6 hx6 hB6 hF6 hz6 f1 f2 f3 f4 f5 hS0 hS1 hS2 hS3 hS4 hS5 hS6 hS7 hS8 hpo hSd
  simp only [treesV]
  gi_wp2
  refine wpIn_range_M rfl (enters_of Tryz.func79 (by kernel_rfl) rfl) HSeq.out hok6 (fun _ _ _ h => by obtain ⟨v, rfl, _⟩ := h; rfl)
    (fun pre X => J (pre.map fun x => Tr.node r.rule o.entry o.word [x]) X) (fun c pre X => c = .ret ∧ (∃ p, p <+: (treesS g k o.at t).map (fun x => Tr.node r.rule o.entry o.word [x]) ∧ Jx p X) ∧ KpFrom R (l + 1) W X) (fun s => (HJ.out _).mono HBW6.out.size) ?hIx ((HJ.out []).mv hmv6 hokW HJ0.out) ?round ?done ?stop
  case hIx =>
    rintro c pre X Y row hg hr hokX ⟨h1, ⟨p, hp, h2⟩, h3⟩
    exact ⟨h1, ⟨p, hp, (HJx.out p).mono HBW6.out.size X Y row hg hr hokX h2⟩, kpFrom_abides HBW6.out.size X Y row hg hr hokX h3⟩
  case done =>
    intro D X hD hjX hkX hokX hd _
    gi_wp2
    refine ⟨by simp, .inl ⟨_, _, rfl, run_takeDeferred hd, ?_⟩⟩
    refine ⟨_, results_none rfl _ _ _, ⟨_, rfl⟩, .inl ⟨?_, kp_put _ (hk6.trans hkX) hokX (by have := HBW6.out.size; omega) (by omega) hd rfl⟩⟩
    exact abides_put (HJ.out _) _ hokX hjX (by have := HBW6.out.size; omega) (by omega) hd rfl
  case stop =>
    rintro D c pre X hD hpre ⟨rfl, ⟨p, hp, h2⟩, h3⟩ _ hokX hd
    gi_wp2
    refine ⟨by simp, .inl ⟨_, _, rfl, run_takeDeferred hd, ?_⟩⟩
    refine ⟨_, results_none rfl _ _ _, ⟨_, rfl⟩, .inr ⟨p, hp, abides_put (HJx.out _) _ hokX h2 (by have := HBW6.out.size; omega) (by omega) hd rfl, ok_put hokX (by omega) hd rfl, kpFrom_put _ h3 hokX (by have := HBW6.out.size; omega) hd rfl⟩⟩
  case round =>
    rintro L pre vs x Z hL hjZ ⟨v, rfl, hty⟩ hkZ hokZ hpre
    obtain ⟨ur, ue, uw, ua, un, uc, rfl⟩ := treeV_form hty
    gi_wp2
    obtain ⟨Z2, hZ2⟩ : ∃ Z2, Z2 = Z.alloc (.cells #[.int .u8 ur, .int .i64 ue, .string ⟨uw⟩, .slice ua un uc] 36) := ⟨_, rfl⟩
    have hbZ : Below Z.heap.size Z Z2 := by rw [hZ2]; exact (Below.refl _ _).alloc (Nat.le_refl _) _
    have hcZ : Z2.heap[Z.heap.size]? = some (.cells #[.int .u8 ur, .int .i64 ue, .string ⟨uw⟩, .slice ua un uc] 36 (0, 0)) := by rw [hZ2]; exact World.alloc_heap_new Z _
    rw [← hZ2]
    clear hZ2
    have hmvZ : Mv R Z Z2 := Mv.of_below hokZ hbZ
    refine ⟨hmvZ.kp hokZ, ((HJ.out _).mono HBW6.out.size).mv hmvZ hokZ hjZ, ?_⟩
    intro W7 hl7 hr7 hsl7 hj7 hk7 hok7 hsz7 htr7
    have hc7 := htr7 _ (cells_abides W6.heap.size Z.heap.size _ _ _ (by have := hkZ.size; have := HBW6.out.size; omega) (.inl (by decide))) hcZ
    have hty7 := htr7 _ (treeR_abides R W6.heap.size _ x) (hty.kp (hmvZ.kp hokZ))
    have hkW7 := hk6.trans hk7
    obtain ⟨_, _, _, _, d1, d2, d3, d4⟩ := (HB6.out.kp HF6.out hk7).cells
    have hy7 := ((hk7.same _ sy6).2.trans HXY6.out)
    have dy : W7.cell? ⟨W.heap.size, 0, none⟩ = some (.func (.yield l) #[] #[]) := by simp [World.cell?, hy7]
    obtain ⟨_, S, hS⟩ : ∃ (_ : Unit) (S : World → Prop), S = fun V => Below W7.heap.size W7 V := ⟨(), _, rfl⟩
    have keep : ∀ (V : World) (a : Addr) (v : Value), S V → W7.cell? a = some v → V.cell? a = some v := fun V a v h hc => by
      rw [hS] at h
      exact cell_kept' h hc
    have z0 : W7.cell? ⟨Z.heap.size, 0, none⟩ = some (.int .u8 ur) := by simp [World.cell?, hc7]
    have z1 : W7.cell? ⟨Z.heap.size, 1, none⟩ = some (.int .i64 ue) := by simp [World.cell?, hc7]
    have z2 : W7.cell? ⟨Z.heap.size, 2, none⟩ = some (.string ⟨uw⟩) := by simp [World.cell?, hc7]
    have z3 : W7.cell? ⟨Z.heap.size, 3, none⟩ = some (.slice ua un uc) := by simp [World.cell?, hc7]
    have f0 : ∀ V, S V → V.cell? ⟨W.heap.size, 0, none⟩ = some (.func (.yield l) #[] #[]) := fun V h => keep V _ _ h dy
    have f1 : ∀ V, S V → V.cell? ⟨b + 1 + 1 + 1 + 1, 0, none⟩ = some (.int .u8 r.rule) ∧ V.cell? ⟨b + 1 + 1 + 1 + 1, 1, none⟩ = some (.int .i64 o.entry) ∧ V.cell? ⟨b + 1 + 1 + 1 + 1, 2, none⟩ = some (.string ⟨o.word.toArray⟩) ∧ V.cell? ⟨b + 1 + 1 + 1 + 1, 3, none⟩ = some (.slice none 0 0) := fun V h => ⟨keep V _ _ h d1, keep V _ _ h d2, keep V _ _ h d3, keep V _ _ h d4⟩
    have f3 : ∀ V, S V → V.cell? ⟨Z.heap.size, 0, none⟩ = some (.int .u8 ur) ∧ V.cell? ⟨Z.heap.size, 1, none⟩ = some (.int .i64 ue) ∧ V.cell? ⟨Z.heap.size, 2, none⟩ = some (.string ⟨uw⟩) ∧ V.cell? ⟨Z.heap.size, 3, none⟩ = some (.slice ua un uc) := fun V h => ⟨keep V _ _ h z0, keep V _ _ h z1, keep V _ _ h z2, keep V _ _ h z3⟩
    have hSd : S W7.drew := by rw [hS]; exact (Below.refl _ _).drew
    have HSS := Lib.hid hS
    have HTy := Lib.hid hty7
    clear keep hS hc7 hty7 hcZ hty z0 z1 z2 z3 d1 d2 d3 d4 dy hy7
    gi_wp2
    refine regionM S 5 (by kernel_rfl) hSd (fun hpo hS0 => ?_)
    refine takeM (i := 0) 70 (.func (.yield l) #[] #[]) hpo rfl (by kernel_rfl) (fun _ _ _ h => h) rfl (by rfl) (fun V hX => (by have g0 := f0 V hX; go_simp)) (fun _ => rfl) hS0 (fun hS1 => ?_)
    simp only [List.setIfInBounds_toArray, List.set_cons_zero, List.set_cons_succ]
    refine takeM (i := 1) 71 (.agg #[.int .u8 r.rule, .int .i64 o.entry, .string ⟨o.word.toArray⟩, .slice none 0 0]) hpo rfl (by kernel_rfl) (fun _ _ _ h => h) rfl (by rfl) (fun V hX => (by obtain ⟨g0, g1, g2, g3⟩ := f1 V hX; go_simp)) (fun _ => rfl) hS1 (fun hS2 => ?_)
    simp only [List.setIfInBounds_toArray, List.set_cons_zero, List.set_cons_succ]
    refine takeM (i := 2) 72 (.agg #[.int .u8 ur, .int .i64 ue, .string ⟨uw⟩, .slice ua un uc]) hpo rfl (by kernel_rfl) (fun _ _ _ h => h) rfl (by rfl) (fun V hX => (by obtain ⟨g0, g1, g2, g3⟩ := f3 V hX; go_simp)) (fun _ => rfl) hS2 (fun hS3 => ?_)
    simp only [List.setIfInBounds_toArray, List.set_cons_zero, List.set_cons_succ]
    refine oneM (i := 3) rfl (by kernel_rfl) (by rfl) (fun K hK => ?_)
    go_simp
    refine hK _ _ (fun _ => (by rw [HSS.out]; exact ((Below.refl _ _).alloc (Nat.le_refl _) _).drew)) (fun hT4 => ?_)
    have hS4 := hT4 (by decide)
    clear hK K
    obtain ⟨V4, hV4⟩ : ∃ V4, V4 = (W7.alloc (.cells #[.int .u8 ur, .int .i64 ue, .string ⟨uw⟩, .slice ua un uc] 36)).drew := ⟨_, rfl⟩
    have hb47 : Below W7.heap.size W7 V4 := by rw [hV4]; exact ((Below.refl _ _).alloc (Nat.le_refl _) _).drew
    have hc4 : V4.heap[W7.heap.size]? = some (.cells #[.int .u8 ur, .int .i64 ue, .string ⟨uw⟩, .slice ua un uc] 36 (0, 0)) := by rw [hV4]; exact World.alloc_heap_new W7 _
    rw [← hV4] at hS4 ⊢
    clear hV4 hT4
    refine oneM (i := 4) rfl (by kernel_rfl) (by rfl) (fun K hK => ?_)
    go_simp
    refine CallsIn.inRound L (callsIn_wide.2 ((headed_any r.rule o.entry ⟨o.word.toArray⟩ none _ 0 0 1 1 _).mono ?_))
    rintro _ V5 ⟨rfl, hb54⟩
    refine hK _ _ (fun _ => (by rw [HSS.out] at hS4 ⊢; exact hS4.trans (hb54.mono hS4.size))) (fun hT5 => ?_)
    have hS5 := hT5 (by decide)
    clear hK K
    have hb57 : Below W7.heap.size W7 V5 := hb47.trans (hb54.mono hb47.size)
    have hc5 : V5.heap[W7.heap.size]? = some (.cells #[.int .u8 ur, .int .i64 ue, .string ⟨uw⟩, .slice ua un uc] 36 (0, 0)) := (hb54.block _ (Array.getElem?_eq_some_iff.1 hc4).1).trans hc4
    have hmv5' : Mv R W7 V5 := Mv.of_below hok7 hb57
    have hkp5 := hmv5'.kp hok7
    have hok5' := hmv5'.ok hok7
    have sA : R.sf V5 W7.heap.size := R.fresh hok7 hb57 (Nat.le_refl _) (Array.getElem?_eq_some_iff.1 hc5).1
    have htree : TreeR R V5 (.agg #[.int .u8 r.rule, .int .i64 o.entry, .string ⟨o.word.toArray⟩, .slice (some ⟨W7.heap.size, 0, none⟩) 1 1]) (.node r.rule o.entry o.word [x]) := by
      refine TreeV.mk r.rule o.entry o.word [x] (some ⟨W7.heap.size, 0, none⟩) 1 (fun _ => .agg #[.int .u8 ur, .int .i64 ue, .string ⟨uw⟩, .slice ua un uc]) (.inr ⟨W7.heap.size, 0, rfl, sA, fun j hj => ?_⟩) (fun j hj => ?_)
      · rcases j with _ | j
        · exact ⟨_, _, _, _, rfl, by simp [World.cell?, hc5], by simp [World.cell?, hc5], by simp [World.cell?, hc5], by simp [World.cell?, hc5]⟩
        · simp at hj
      · rcases j with _ | j
        · exact HTy.out.kp hkp5
        · simp at hj
    have hpm : (pre.map (fun x => Tr.node r.rule o.entry o.word [x]) ++ [.node r.rule o.entry o.word [x]]) <+: (treesS g k o.at t).map fun x => Tr.node r.rule o.entry o.word [x] := by
      obtain ⟨z, hz⟩ := hpre
      exact ⟨z.map (fun x => Tr.node r.rule o.entry o.word [x]), by rw [← hz]; simp⟩
    obtain ⟨fn, tmps, assign, body, hy, hRd⟩ := yieldAt_any 2 (HY.out _ _ _ V5 (((HJ.out _).mono HBW6.out.size).mv hmv5' hok7 hj7) (hkW7.trans hkp5) hok5' ⟨_, rfl, htree⟩ hpm)
    have HTree := Lib.hid htree
    clear htree hc5 hc4 hS4
    refine oneM (i := 5) rfl (by kernel_rfl) (by rfl) (fun K hK => ?_)
    go_simp
    refine hRd.mono ?_
    rintro _ V6 (⟨rfl, hJ6, hk65⟩ | ⟨rfl, hJ6, hok6', hk65⟩)
    · refine hK _ _ (fun h => absurd h (by decide)) (fun _ => ?_)
      clear hK K
      refine oneM (i := 6) rfl (by kernel_rfl) (by rfl) (fun K hK => ?_)
      go_simp
      refine hK _ _ (fun h => absurd h (by decide)) (fun _ => ?_)
      clear hK K
      refine doneM (by kernel_rfl) ?_ _
      gi_wp2
      refine ⟨hkp5.trans hk65, ?_⟩
      show J ((pre ++ [x]).map fun x => Tr.node r.rule o.entry o.word [x]) V6
      rw [List.map_append]
      exact hJ6
    · refine hK _ _ (fun h => absurd h (by decide)) (fun _ => ?_)
      clear hK K
      refine oneM (i := 6) rfl (by kernel_rfl) (by rfl) (fun K hK => ?_)
      go_simp
      refine hK _ _ (fun h => absurd h (by decide)) (fun _ => ?_)
      clear hK K
      refine doneM (by kernel_rfl) ?_ _
      gi_wp2
      exact ⟨((hkp5.from _).trans hk65).mono (by have := HBW6.out.size; omega), hok6', rfl, ⟨_, hpm, hJ6⟩, ((hkW7.trans hkp5).from _).trans hk65⟩

end Go.Proofs.YthmnffgjckpkiaaGreatDoor
