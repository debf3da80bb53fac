/-
  Contracts of 'countParts' and 'count' of package english: they compute the counts, and write right counts alone into the map.
-/
import Derived.Test.YthmnffgjckpkiaaGreatDoorSplits
import Derived.Test.YthmnffgjckpkiaaGreatDoorLater
namespace Go.Proofs.YthmnffgjckpkiaaGreatDoor
open Go Go.RowKit Go.Shelf
attribute [local go_sem] Oper.semAt_some

/-- A world behind steps that make blocks and write right counts. -/
structure LaterM (m : Nat) (g : Gr) (W : World) where
  w : World
  grown : W.grownBy w (some m)
  good : MapG g W.heap[m]? → MapG g w.heap[m]?
instance LaterM.inhab (m : Nat) (g : Gr) (W : World) : Nonempty (LaterM m g W) := ⟨⟨W, ⟨rfl, rfl, rfl, Nat.le_refl _, fun _ _ _ => rfl⟩, id⟩⟩
theorem mapG_map {g : Gr} {o : Option Obj} (h : MapG g o) : ∃ es c, o = some (.map es c) := by obtain ⟨es, c, h, _⟩ := h; exact ⟨es, c, h⟩
theorem LaterM.get {m : Nat} {g : Gr} {W : World} {a : Addr} {v : Value} (hm : MapG g W.heap[m]?) (h : W.cell? a = some v) (x : LaterM m g W) : x.w.cell? a = some v :=
  ((Since.refl (mapG_map hm)).grown x.grown).cell h
theorem wp_region_laterM {P : Program} {id m : Nat} {g : Gr} {Q : Exit → Act → World → Prop} {a : Act} {w : World} {l : List Oper} (hm : P.follows .mixedOrders = true) (hB : Region.lexB .any l.toArray = true)
    (h : wpQuiet P l.toArray (fun w' => ∃ x : LaterM m g w, w' = x.w) (fun a' => ∀ w', (∃ x : LaterM m g w, w' = x.w) → Q .normal a' w') l a) : (Code.region id l.toArray true).wp P Q a w :=
  wp_region_quiet (C := fun w' => ∃ x : LaterM m g w, w' = x.w) hm hB ⟨⟨{ w with drawn := w.drawn + 1 }, ⟨rfl, rfl, rfl, Nat.le_refl _, fun _ _ _ => rfl⟩, fun h => h⟩, rfl⟩ (by simpa using h)
theorem laterM_call {P : Program} {m : Nat} {g : Gr} {f : FuncId} {args : Array Value} {W : World} {x : LaterM m g W} {v : Value}
    (h : MapG g x.w.heap[m]? → Calls P f args x.w fun e w' => e = .returned v ∧ x.w.grownBy w' (some m) ∧ MapG g w'.heap[m]?) (hm : MapG g W.heap[m]?) : Calls P f args x.w fun e w'' => e = .returned v ∧ ∃ y : LaterM m g W, w'' = y.w :=
  (h (x.good hm)).mono fun _ w'' ⟨he, hg, hG⟩ => ⟨he, ⟨w'', grownBy_trans' x.grown hg, fun _ => hG⟩, rfl⟩

/-- What a call of 'count' does. -/
def CountAt (m gb : Nat) (g : Gr) (W0 : World) (k f t : Nat) : Prop := ∀ W, Since m W0 W → MapG g W.heap[m]? →
  Calls Tryz.prog 78 #[.pointer (some ⟨gb, 0, none⟩), .int .u8 k, .int .i64 f, .int .i64 t] W fun e W' => e = .returned (.int .i64 (cntS g k f t)) ∧ W.grownBy W' (some m) ∧ MapG g W'.heap[m]?
theorem grown_next {m : Nat} {w X Y : World} {row : Option Nat} (h : w.grownBy X (some m)) (hg : X.grownBy Y row) (hr : ∀ r, row = some r → r = m ∨ w.heap.size ≤ r) : w.grownBy Y (some m) :=
  ⟨hg.os.trans h.os, hg.tape.trans h.tape, hg.output.trans h.output, Nat.le_trans h.size hg.size, fun b hb hne => (hg.block b (Nat.lt_of_lt_of_le hb h.size) (fun e => by
    rcases hr b e.symm with h1 | h1
    · exact hne (by rw [h1])
    · omega)).trans (h.block b hb hne)⟩
theorem mapG_below {m : Nat} {g : Gr} {W W' : World} (h : MapG g W.heap[m]?) (hb : Below W.heap.size W W') : MapG g W'.heap[m]? := by
  obtain ⟨es, c, hm, hes⟩ := h
  exact ⟨es, c, (hb.block m (Array.getElem?_eq_some_iff.1 hm).1).trans hm, hes⟩

/-- The world behind the boxes of a pointer, a row and two numbers. -/
def box4 (W : World) (gb : Nat) (r : RowS) (fv pv : Value) (f t : Nat) : World :=
  (((W.alloc (.cells #[.pointer (some ⟨gb, 0, none⟩)] 77)).alloc (.cells #[.int .u8 r.rule, .int .u8 r.kind, fv, pv, strVal r.glue] 124)).alloc (.cells #[.int .i64 f] 3)).alloc (.cells #[.int .i64 t] 3)
structure Box4 (W W4 : World) (gb : Nat) (r : RowS) (fv pv : Value) (f t : Nat) : Prop where
  below : Below W.heap.size W W4
  size : W4.heap.size = W.heap.size + 4
  ptr : W4.cell? ⟨W.heap.size, 0, none⟩ = some (.pointer (some ⟨gb, 0, none⟩))
  row0 : W4.cell? ⟨W.heap.size + 1, 0, none⟩ = some (.int .u8 r.rule)
  row1 : W4.cell? ⟨W.heap.size + 1, 1, none⟩ = some (.int .u8 r.kind)
  row2 : W4.cell? ⟨W.heap.size + 1, 2, none⟩ = some fv
  row3 : W4.cell? ⟨W.heap.size + 1, 3, none⟩ = some pv
  row4 : W4.cell? ⟨W.heap.size + 1, 4, none⟩ = some (strVal r.glue)
  lo : W4.cell? ⟨W.heap.size + 1 + 1, 0, none⟩ = some (.int .i64 f)
  hi : W4.cell? ⟨W.heap.size + 1 + 1 + 1, 0, none⟩ = some (.int .i64 t)
theorem box4_is (W : World) (gb : Nat) (r : RowS) (fv pv : Value) (f t : Nat) : Box4 W (box4 W gb r fv pv f t) gb r fv pv f t := by
  unfold box4
  refine ⟨((((Below.refl _ _).alloc (Nat.le_refl _) _).alloc (by simp) _).alloc (by simp; omega) _).alloc (by simp; omega) _, by simp, ?_, ?_, ?_, ?_, ?_, ?_, ?_, ?_⟩
  all_goals go_simp

theorem parts_nil {m gb : Nat} {g : Gr} {W0 : World} (r : RowS) (fv pv : Value) (hp : PartsAt W0 pv []) (hr : r.parts = []) (f t : Nat) (W : World) (hG : MapG g W.heap[m]?) :
    Calls Tryz.prog 80 #[.pointer (some ⟨gb, 0, none⟩), rowV r fv pv, .int .i64 f, .int .i64 t] W fun e W' => e = .returned (.int .i64 (partsS g r f t)) ∧ W.grownBy W' (some m) ∧ MapG g W'.heap[m]? := by
  obtain ⟨a, cap, rfl, _⟩ := hp
  have hps : partsS g r f t = if f = t then 1 else 0 := by unfold partsS partsF; rw [hr]
  have HP := Lib.hid hps
  have HG := Lib.hid hG
  clear hps hG
  unfold rowV
  by_cases hft : f = t
  · have hb : ((f : Int) == (t : Int)) = true := by simp [hft]
    have HF := Lib.hid hft
    clear hft
    go_enter Tryz.func80, Tryz.ntmps80
    go_wp2
    go_ret
    have hbl : Below W.heap.size W ((((W.alloc (.cells #[.pointer (some ⟨gb, 0, none⟩)] 77)).alloc (.cells #[.int .u8 r.rule, .int .u8 r.kind, fv, .slice a 0 cap, strVal r.glue] 124)).alloc (.cells #[.int .i64 f] 3)).alloc (.cells #[.int .i64 t] 3)) :=
      ((((Below.refl _ _).alloc (Nat.le_refl _) _).alloc (by simp) _).alloc (by simp; omega) _).alloc (by simp; omega) _
    exact ⟨by rw [HP.out, if_pos HF.out]; rfl, below_grown hbl, mapG_below HG.out hbl⟩
  · have hb : ((f : Int) == (t : Int)) = false := by simp; omega
    have HF := Lib.hid hft
    clear hft
    go_enter Tryz.func80, Tryz.ntmps80
    go_wp2
    go_ret
    have hbl : Below W.heap.size W ((((W.alloc (.cells #[.pointer (some ⟨gb, 0, none⟩)] 77)).alloc (.cells #[.int .u8 r.rule, .int .u8 r.kind, fv, .slice a 0 cap, strVal r.glue] 124)).alloc (.cells #[.int .i64 f] 3)).alloc (.cells #[.int .i64 t] 3)) :=
      ((((Below.refl _ _).alloc (Nat.le_refl _) _).alloc (by simp) _).alloc (by simp; omega) _).alloc (by simp; omega) _
    exact ⟨by rw [HP.out, if_neg HF.out]; rfl, below_grown hbl, mapG_below HG.out hbl⟩

theorem parts_one {m gb : Nat} {g : Gr} {W0 : World} (r : RowS) (fv pv : Value) (k : Nat) (hp : PartsAt W0 pv [k]) (hr : r.parts = [k]) (f t : Nat) (hC : CountAt m gb g W0 k f t) (W : World) (hs : Since m W0 W) (hG : MapG g W.heap[m]?) :
    Calls Tryz.prog 80 #[.pointer (some ⟨gb, 0, none⟩), rowV r fv pv, .int .i64 f, .int .i64 t] W fun e W' => e = .returned (.int .i64 (partsS g r f t)) ∧ W.grownBy W' (some m) ∧ MapG g W'.heap[m]? := by
  obtain ⟨a, cap, rfl, hpb⟩ := hp
  obtain ⟨pb, rfl, hpc⟩ := hpb.resolve_left (by simp)
  have c0 := hpc 0 (by simp)
  simp only [List.getElem_cons_zero] at c0
  have hps : partsS g r f t = cntS g k f t := by unfold partsS partsF; rw [hr]
  rw [hps]
  have HC := Lib.hid hC
  have HS := Lib.hid hs
  have HG := Lib.hid hG
  have c1 := hs.cell c0
  clear hps hpc hpb hC hs hG c0
  unfold rowV
  go_enter Tryz.func80, Tryz.ntmps80
  go_wp2
  obtain ⟨W4, hW4⟩ : ∃ W4, W4 = box4 W gb r fv (.slice (some ⟨pb, 0, none⟩) 1 cap) f t := ⟨_, rfl⟩
  have hb4 := box4_is W gb r fv (.slice (some ⟨pb, 0, none⟩) 1 cap) f t
  rw [← hW4] at hb4
  unfold box4 at hW4
  rw [← hW4]
  clear hW4
  have hG4 := mapG_below HG.out hb4.below
  have f0 := fun x : LaterM m g W4 => x.get hG4 hb4.ptr
  have f1 := fun x : LaterM m g W4 => x.get hG4 hb4.row3
  have f2 := fun x : LaterM m g W4 => x.get hG4 hb4.lo
  have f3 := fun x : LaterM m g W4 => x.get hG4 hb4.hi
  have f4 := fun x : LaterM m g W4 => x.get hG4 (cell_kept' hb4.below c1)
  have HB := Lib.hid hb4
  have HG4 := Lib.hid hG4
  clear hb4 hG4 c1
  refine wp_region_laterM (m := m) (g := g) (by kernel_rfl) (by kernel_rfl) ?_
  repeat (go_big_quiet_step ((go_at_call 78; exact laterM_call (fun h => HC.out _ ((HS.out.below HB.out.below).grown (LaterM.grown _)) h) HG4.out)))
  refine wpQuiet_nil ?_
  rintro _ ⟨x, rfl⟩
  clear f0 f1 f2 f3 f4
  go_wp2
  go_ret
  exact ⟨rfl, grownBy_trans' (below_grown HB.out.below) x.grown, x.good HG4.out⟩

theorem grown_undrew {w w' : World} {r : Option Nat} (h : w.drew.grownBy w' r) : w.grownBy w' r := ⟨h.os, h.tape, h.output, h.size, h.block⟩
theorem boxed_abides {R : Rg} {B box : Nat} {X Y : World} {row : Option Nat} {t : TypeId} {v : Value} (hb : Boxed X box t v) (ht : t ≠ 4) (hm : box ≠ R.m) (hg : X.grownBy Y row)
    (hr : ∀ r, row = some r → (r = R.m ∧ (R.ok X → R.ok Y)) ∨ (B ≤ r ∧ r ≠ R.m ∧ ∃ o : Obj, X.heap[r]? = some o ∧ loose o)) : Boxed Y box t v :=
  boxed_small (m := R.m) hb ht hm hg (fun r e => by
    rcases hr r e with ⟨h, _⟩ | ⟨_, _, h⟩
    · exact .inl h
    · exact .inr h)
theorem grown_abides {R : Rg} {m B : Nat} {w X Y : World} {row : Option Nat} (hm : R.m = m) (hB : w.heap.size ≤ B) (h : w.grownBy X (some m)) (hg : X.grownBy Y row)
    (hr : ∀ r, row = some r → (r = R.m ∧ (R.ok X → R.ok Y)) ∨ (B ≤ r ∧ r ≠ R.m ∧ ∃ o : Obj, X.heap[r]? = some o ∧ loose o)) : w.grownBy Y (some m) :=
  grown_next h hg (fun r e => by
    rcases hr r e with ⟨h, _⟩ | ⟨h, _⟩
    · exact .inl (h.trans hm)
    · exact .inr (by omega))

set_option maxRecDepth 100000 in
set_option maxHeartbeats 4000000 in
theorem parts_two {m gb : Nat} {g : Gr} {ended : Bool} {W0 : World} (hg : Gram m gb g ended W0) (r : RowS) (fv pv : Value) (k1 k2 : Nat) (hp : PartsAt W0 pv [k1, k2]) (hr : r.parts = [k1, k2]) (f t : Nat) (hft : f ≤ t) (ht : t ≤ g.toks.length)
    (hC : ∀ k f' t', f ≤ f' → f' ≤ t' → t' ≤ t → t' - f' < t - f → CountAt m gb g W0 k f' t') (W : World) (hs : Since m W0 W) (hG : MapG g W.heap[m]?) :
    Calls Tryz.prog 80 #[.pointer (some ⟨gb, 0, none⟩), rowV r fv pv, .int .i64 f, .int .i64 t] W fun e W' => e = .returned (.int .i64 (partsS g r f t)) ∧ W.grownBy W' (some m) ∧ MapG g W'.heap[m]? := by
  obtain ⟨a, cap, rfl, hpb⟩ := hp
  obtain ⟨pb, rfl, hpc⟩ := hpb.resolve_left (by simp)
  have c0 := hs.cell (hpc 0 (by simp))
  have c1 := hs.cell (hpc 1 (by simp))
  simp only [List.getElem_cons_zero, List.getElem_cons_succ] at c0 c1
  have hps : partsS g r f t = (splitsS g r.glue f t).foldl (pairStep (cntS g) k1 k2 f t) 0 := by unfold partsS partsF; rw [hr]
  rw [hps]
  have HC := Lib.hid hC
  have HS := Lib.hid hs
  have HG := Lib.hid hG
  have HGr := Lib.hid hg
  have C0 := Lib.hid c0
  have C1 := Lib.hid c1
  clear hps hpc hpb hC hs hG c0 c1 hg
  unfold rowV
  refine (callsIn_wide (n := 3)).1 ?_
  refine callsIn_of_wp_marks Tryz.func80 rfl trivial ?_ rfl
  simp only [Tryz.ntmps80, List.size_toArray, List.length_cons, List.length_nil, Nat.reduceAdd, Nat.reduceSub, Array.replicate_succ, Array.replicate_zero, List.push_toArray, List.append_toArray, List.nil_append, List.cons_append]
  have hfw : ∀ f, Fence.wide.fn f := fun _ => trivial
  gi_wp2_with fail
  obtain ⟨W4, hW4⟩ : ∃ W4, W4 = box4 W gb r fv (.slice (some ⟨pb, 0, none⟩) 2 cap) f t := ⟨_, rfl⟩
  have hb4 := box4_is W gb r fv (.slice (some ⟨pb, 0, none⟩) 2 cap) f t
  rw [← hW4] at hb4
  unfold box4 at hW4
  rw [← hW4]
  clear hW4
  obtain ⟨W5, hW5⟩ : ∃ W5, W5 = W4.alloc (.cells #[.int .i64 0] 3) := ⟨_, rfl⟩
  have hn5 : Boxed W5 (W.heap.size + 1 + 1 + 1 + 1) 3 (.int .i64 0) := by have h := Boxed.new W4 3 (.int .i64 0); rw [hb4.size] at h; rw [hW5]; exact h
  have hl5 : Below W4.heap.size W4 W5 := by rw [hW5]; exact (Below.refl _ _).alloc (Nat.le_refl _) _
  have hz5 : W5.heap.size = W.heap.size + 5 := by rw [hW5]; simp [hb4.size]
  rw [← hW5]
  clear hW5
  have HB4 := Lib.hid hb4
  have HN5 := Lib.hid hn5
  have HL5 := Lib.hid hl5
  have HZ5 := Lib.hid hz5
  clear hb4 hn5 hl5 hz5
  refine (callsIn_wide.2 (splits_any gb f t r fv _ W5)).mono ?_
  rintro e w' ⟨rfl, hw'⟩
  have hb9 := box4_is W5 gb r fv (.slice (some ⟨pb, 0, none⟩) 2 cap) f t
  unfold box4 at hb9
  rw [hw'] at hb9
  clear hw'
  have HB9 := Lib.hid hb9
  clear hb9
  gi_wp2
  have hB := HS.out.below (HB4.out.below.trans (HL5.out.mono HB4.out.below.size))
  have hW9 : Below W.heap.size W w' := (HB4.out.below.trans (HL5.out.mono HB4.out.below.size)).trans (HB9.out.below.mono (by rw [HZ5.out]; omega))
  have hG9 := mapG_below HG.out hW9
  have hn9 : Boxed w' (W.heap.size + 1 + 1 + 1 + 1) 3 (.int .i64 0) := (HB9.out.below.block _ HN5.out.lt).trans HN5.out
  have hmW : m < W.heap.size := (Array.getElem?_eq_some_iff.1 (mapG_map HG.out).choose_spec.choose_spec).1
  obtain ⟨R, hRe⟩ : ∃ R, R = mkR m (MapG g) (W.heap.size + 1 + 1 + 1 + 1) W.heap.size := ⟨_, rfl⟩
  have hok9 : R.ok w' := by rw [hRe]; exact ok_start hG9 hmW (by omega) hn9 (by decide) rfl
  have hcn : Counts R m g W0 := by rw [hRe]; exact counts_mkR HS.out.size
  have hsf : ∀ b, W.heap.size ≤ b → b ≠ W.heap.size + 1 + 1 + 1 + 1 → b < w'.heap.size → R.sf w' b := fun b h1 h3 h2 => by rw [hRe]; exact ⟨h2, by omega, h3, by rw [rowOf_boxed hn9]; simp [Value.ownBlock]⟩
  have hz9 := HB9.out.size
  have hz5 := HZ5.out
  have hlv : Leaves R m W := by rw [hRe]; exact (counts_mkR (g := g) (Nat.le_refl _)).leaves
  have hs9 := HS.out.below hW9
  have hseq := splits_seq HGr.out hcn.leaves hs9 hok9 f t hft ht r.glue (W5.heap.size + 1 + 1) (W5.heap.size + 1 + 1 + 1) (W5.heap.size + 1) W5.heap.size HB9.out.lo HB9.out.hi HB9.out.row4 HB9.out.ptr
    (hsf _ (by omega) (by omega) (by omega)) (hsf _ (by omega) (by omega) (by omega)) (hsf _ (by omega) (by omega) (by omega)) (hsf _ (by omega) (by omega) (by omega))
  refine wpIn_range_M rfl (enters_of Tryz.func159 (by kernel_rfl) rfl) hseq hok9 (fun _ _ _ h => by rw [h]; rfl)
    (fun pre X => Boxed X (W.heap.size + 1 + 1 + 1 + 1) 3 (.int .i64 ((pre.foldl (pairStep (cntS g) k1 k2 f t) 0 : Nat) : Int)) ∧ W.grownBy X (some m))
    (fun _ _ _ => False) ?hI (fun _ _ _ _ _ _ _ _ h => h) ⟨hn9, below_grown hW9⟩ ?round ?done ?stop
  case hI =>
    rintro pre X Y row hgr hr hok ⟨h1, h2⟩
    exact ⟨boxed_abides h1 (by decide) (by rw [hcn.leaves.1]; omega) hgr hr, grown_abides hcn.leaves.1 hW9.size h2 hgr hr⟩
  case stop => intro D c pre X _ _ h; exact h.elim
  case done =>
    rintro D X hD ⟨h1, h2⟩ hk hok hd _
    have hc := h1.cell
    gi_wp2
    refine ⟨by simp, .inl ⟨_, _, rfl, run_takeDeferred hd, ?_⟩⟩
    refine ⟨_, results_tmp rfl _ _ _, rfl, ?_, ?_⟩
    · exact grown_next h2 (grownBy_putObj' X D (.deferred none)) (fun r e => by cases e; exact .inr (Nat.le_trans hW9.size hD))
    · have hmD : D ≠ m := by have := hW9.size; omega
      rw [World.putObj_heap_other (Ne.symm hmD)]
      exact hcn.good _ hok
  case round =>
    intro l pre vs x X hl hI hvs hkX hokX hpre
    subst hvs
    gi_wp2
    refine ⟨Kp.refl _, hI, ?_⟩
    intro W2 hl2 hr2 hsl2 hI2 hk2 hok2 hsz2 _
    have hs2 := hs9.kp hcn.leaves hok9 hk2
    have hG2 := hcn.good _ hok2
    have hx := splitsS_mem (hpre.subset (List.mem_append_right _ (List.mem_singleton.2 rfl)))
    have hsW2 := ((Since.refl (mapG_map HG.out)).below hW9).kp hlv hok9 hk2
    have h49 : Below W4.heap.size W4 w' := HL5.out.trans (HB9.out.below.mono HL5.out.size)
    have hz4 := HB4.out.size
    have old : ∀ (b o : Nat) (v : Value), W.heap.size ≤ b → b < W.heap.size + 4 → W4.cell? ⟨b, o, none⟩ = some v → W2.cell? ⟨b, o, none⟩ = some v := fun b o v h1 h2 h3 =>
      (World.cell?_of_block (a := ⟨b, o, none⟩) (hk2.same b (hsf b h1 (by omega) (by omega))).2).trans (cell_kept' h49 h3)
    have c0 := old _ _ _ (by omega) (by omega) HB4.out.ptr
    have c1 := old _ _ _ (by omega) (by omega) HB4.out.row3
    have c2 := old _ _ _ (by omega) (by omega) HB4.out.lo
    have c3 := old _ _ _ (by omega) (by omega) HB4.out.hi
    have c4 := hsW2.cell C0.out
    have c5 := hsW2.cell C1.out
    obtain ⟨S, hS⟩ : ∃ S : World → Prop, S = fun X => W2.grownBy X (some m) ∧ MapG g X.heap[m]? := ⟨_, rfl⟩
    have keep : ∀ (X : World) (a : Addr) (v : Value), S X → W2.cell? a = some v → X.cell? a = some v := fun X a v h hc => by
      rw [hS] at h
      exact ((Since.refl (mapG_map hG2)).grown h.1).cell hc
    have hn2 := hI2.1.cell
    have f6 := fun X h => keep X _ _ h hn2
    have f0 := fun X h => keep X _ _ h c0
    have f1 := fun X h => keep X _ _ h c1
    have f2 := fun X h => keep X _ _ h c2
    have f3 := fun X h => keep X _ _ h c3
    have f4 := fun X h => keep X _ _ h c4
    have f5 := fun X h => keep X _ _ h c5
    have hSd : S W2.drew := by rw [hS]; exact ⟨⟨rfl, rfl, rfl, Nat.le_refl _, fun _ _ _ => rfl⟩, hG2⟩
    have HKeep := Lib.hid keep
    have HSS := Lib.hid hS
    have HG2 := Lib.hid hG2
    clear keep hS old c0 c1 c2 c3 c4 c5 hG2 hn2
    gi_wp2
    refine regionM S 9 (by kernel_rfl) hSd (fun hpo hS0 => ?_)
    refine takeM (i := 0) 38 (.pointer (some ⟨gb, 0, none⟩)) hpo rfl (by kernel_rfl) (fun _ _ _ h => h) rfl (by rfl) (fun X hX => (by have g0 := f0 X hX; go_simp)) (fun _ => rfl) hS0 (fun hS1 => ?_)
    simp only [List.setIfInBounds_toArray, List.set_cons_zero, List.set_cons_succ]
    refine takeM (i := 1) 39 (.pointer (some ⟨W.heap.size + 1, 3, none⟩)) hpo rfl (by kernel_rfl) (fun _ _ _ h => h) rfl (by rfl) (fun X hX => (by go_simp)) (fun _ => rfl) hS1 (fun hS2 => ?_)
    simp only [List.setIfInBounds_toArray, List.set_cons_zero, List.set_cons_succ]
    refine takeM (i := 2) 40 (.slice (some ⟨pb, 0, none⟩) 2 cap) hpo rfl (by kernel_rfl) (fun _ _ _ h => h) rfl (by rfl) (fun X hX => (by have g1 := f1 X hX; go_simp)) (fun _ => rfl) hS2 (fun hS3 => ?_)
    simp only [List.setIfInBounds_toArray, List.set_cons_zero, List.set_cons_succ]
    refine takeM (i := 3) 41 (.pointer (some ⟨pb, 0, none⟩)) hpo rfl (by kernel_rfl) (fun _ _ _ h => h) rfl (by rfl) (fun X hX => (by go_simp)) (fun _ => rfl) hS3 (fun hS4 => ?_)
    simp only [List.setIfInBounds_toArray, List.set_cons_zero, List.set_cons_succ]
    refine takeM (i := 4) 42 (.int .u8 k1) hpo rfl (by kernel_rfl) (fun _ _ _ h => h) rfl (by rfl) (fun X hX => (by have g4 := f4 X hX; go_simp)) (fun _ => rfl) hS4 (fun hS5 => ?_)
    simp only [List.setIfInBounds_toArray, List.set_cons_zero, List.set_cons_succ]
    refine takeM (i := 5) 43 (.int .i64 f) hpo rfl (by kernel_rfl) (fun _ _ _ h => h) rfl (by rfl) (fun X hX => (by have g2 := f2 X hX; go_simp)) (fun _ => rfl) hS5 (fun hS6 => ?_)
    simp only [List.setIfInBounds_toArray, List.set_cons_zero, List.set_cons_succ]
    refine takeM (i := 6) 44 (.int .i64 x.1) hpo rfl (by kernel_rfl) (fun _ _ _ h => h) rfl (by rfl) (fun X hX => (by go_simp)) (fun _ => rfl) hS6 (fun hS7 => ?_)
    simp only [List.setIfInBounds_toArray, List.set_cons_zero, List.set_cons_succ]
    refine oneM (i := 7) rfl (by kernel_rfl) (by rfl) (fun K hK => ?_)
    go_simp
    refine CallsIn.inRound l (callsIn_wide.2 ((HC.out k1 f x.1 (Nat.le_refl _) (by omega) (by omega) (by omega) _ hs2.drew HG2.out).mono ?_))
    rintro e W3 ⟨rfl, hg3, hG3⟩
    refine hK _ _ (fun _ => (by rw [HSS.out]; exact ⟨grown_undrew hg3, hG3⟩)) (fun hT8 => ?_)
    have hS8 := hT8 (by decide)
    clear hK K
    refine takeM (i := 8) 12 (.int .i64 (cntS g k1 f x.1)) hpo rfl (by kernel_rfl) (fun _ _ _ h => h) rfl (by rfl) (fun X hX => (by go_simp)) (fun _ => rfl) hS8 (fun hS9 => ?_)
    simp only [List.setIfInBounds_toArray, List.set_cons_zero, List.set_cons_succ]
    refine doneM (by kernel_rfl) ?_ _
    obtain ⟨a1, ha1⟩ : ∃ a1, a1 = cntS g k1 f x.1 := ⟨_, rfl⟩
    have hle1 : a1 ≤ most := by rw [ha1]; exact cntS_le _ _ _ _
    rw [← ha1]
    have HA1 := Lib.hid ha1
    clear ha1
    by_cases hpos : 0 < a1
    · have hp1 : decide ((0 : Int) < (a1 : Int)) = true := by simpa using hpos
      gi_wp2
      obtain ⟨N, hN⟩ : ∃ N, N = pre.foldl (pairStep (cntS g) k1 k2 f t) 0 := ⟨_, rfl⟩
      have hNle : N ≤ most := by rw [hN]; exact le_most_foldl (fun _ _ h => pairStep_le h) _ _ (Nat.zero_le _)
      rw [← hN] at f6
      have HN := Lib.hid hN
      clear hN
      obtain ⟨a2, ha2⟩ : ∃ a2, a2 = cntS g k2 x.2 t := ⟨_, rfl⟩
      have hle2 : a2 ≤ most := by rw [ha2]; exact cntS_le _ _ _ _
      have HA2 := Lib.hid ha2
      clear ha2
      obtain ⟨p, hp⟩ : ∃ p, p = a1 * a2 := ⟨_, rfl⟩
      have hple : p ≤ 1000000000000 := by rw [hp]; exact Nat.mul_le_mul hle1 hle2
      have hw10 : IntKind.i64.wrap ((a1 : Int) * (a2 : Int)) = (p : Int) := by rw [hp, ← Int.natCast_mul]; exact IntWalk.i64_in _ (by rw [← hp]; omega)
      have hSw3 := hS9
      have HP := Lib.hid hp
      clear hp
      obtain ⟨q, hq⟩ : ∃ q, q = min most p := ⟨_, rfl⟩
      have hm11 : min (1000000 : Int) (p : Int) = (q : Int) := by rw [hq]; unfold most; omega
      have hqle : q ≤ 1000000 := by rw [hq]; exact Nat.min_le_left _ _
      have HQ := Lib.hid hq
      clear hq
      obtain ⟨u, hu⟩ : ∃ u, u = N + q := ⟨_, rfl⟩
      have hw12 : IntKind.i64.wrap (u : Int) = (u : Int) := by rw [hu]; exact IntWalk.i64_in _ (by unfold most at hNle; omega)
      have hw12' : (N : Int) + (q : Int) = (u : Int) := by rw [hu]; omega
      obtain ⟨N', hN'⟩ : ∃ N', N' = min most u := ⟨_, rfl⟩
      have hm13 : min (1000000 : Int) (u : Int) = (N' : Int) := by rw [hN']; unfold most; omega
      have HU := Lib.hid hu
      have HN' := Lib.hid hN'
      clear hu hN'
      have hS3d : S W3.drew := by rw [HSS.out] at hS9 ⊢; exact ⟨⟨hS9.1.os, hS9.1.tape, hS9.1.output, hS9.1.size, hS9.1.block⟩, hS9.2⟩
      have hs3 : Since m W0 W3 := by rw [HSS.out] at hS9; exact hs2.grown hS9.1
      clear hS0 hS1 hS2 hS3 hS4 hS5 hS6 hS7 hS8 hpo
      refine regionM S 14 (by kernel_rfl) hS3d (fun hpo hS0 => ?_)
      refine takeM (i := 0) 48 (.int .i64 N) hpo rfl (by kernel_rfl) (fun _ _ _ h => h) rfl (by rfl) (fun X hX => (by have g6 := f6 X hX; go_simp)) (fun _ => rfl) hS0 (fun hS1 => ?_)
      simp only [List.setIfInBounds_toArray, List.set_cons_zero, List.set_cons_succ]
      refine takeM (i := 1) 49 (.int .i64 a1) hpo rfl (by kernel_rfl) (fun _ _ _ h => h) rfl (by rfl) (fun X hX => (by go_simp)) (fun _ => rfl) hS1 (fun hS2 => ?_)
      simp only [List.setIfInBounds_toArray, List.set_cons_zero, List.set_cons_succ]
      refine takeM (i := 2) 50 (.pointer (some ⟨gb, 0, none⟩)) hpo rfl (by kernel_rfl) (fun _ _ _ h => h) rfl (by rfl) (fun X hX => (by have g0 := f0 X hX; go_simp)) (fun _ => rfl) hS2 (fun hS3 => ?_)
      simp only [List.setIfInBounds_toArray, List.set_cons_zero, List.set_cons_succ]
      refine takeM (i := 3) 51 (.pointer (some ⟨W.heap.size + 1, 3, none⟩)) hpo rfl (by kernel_rfl) (fun _ _ _ h => h) rfl (by rfl) (fun X hX => (by go_simp)) (fun _ => rfl) hS3 (fun hS4 => ?_)
      simp only [List.setIfInBounds_toArray, List.set_cons_zero, List.set_cons_succ]
      refine takeM (i := 4) 52 (.slice (some ⟨pb, 0, none⟩) 2 cap) hpo rfl (by kernel_rfl) (fun _ _ _ h => h) rfl (by rfl) (fun X hX => (by have g1 := f1 X hX; go_simp)) (fun _ => rfl) hS4 (fun hS5 => ?_)
      simp only [List.setIfInBounds_toArray, List.set_cons_zero, List.set_cons_succ]
      refine takeM (i := 5) 53 (.pointer (some ⟨pb, 1, none⟩)) hpo rfl (by kernel_rfl) (fun _ _ _ h => h) rfl (by rfl) (fun X hX => (by go_simp)) (fun _ => rfl) hS5 (fun hS6 => ?_)
      simp only [List.setIfInBounds_toArray, List.set_cons_zero, List.set_cons_succ]
      refine takeM (i := 6) 54 (.int .u8 k2) hpo rfl (by kernel_rfl) (fun _ _ _ h => h) rfl (by rfl) (fun X hX => (by have g5 := f5 X hX; go_simp)) (fun _ => rfl) hS6 (fun hS7 => ?_)
      simp only [List.setIfInBounds_toArray, List.set_cons_zero, List.set_cons_succ]
      refine takeM (i := 7) 55 (.int .i64 x.2) hpo rfl (by kernel_rfl) (fun _ _ _ h => h) rfl (by rfl) (fun X hX => (by go_simp)) (fun _ => rfl) hS7 (fun hS8 => ?_)
      simp only [List.setIfInBounds_toArray, List.set_cons_zero, List.set_cons_succ]
      refine takeM (i := 8) 56 (.int .i64 t) hpo rfl (by kernel_rfl) (fun _ _ _ h => h) rfl (by rfl) (fun X hX => (by have g3 := f3 X hX; go_simp)) (fun _ => rfl) hS8 (fun hS9 => ?_)
      simp only [List.setIfInBounds_toArray, List.set_cons_zero, List.set_cons_succ]
      refine oneM (i := 9) rfl (by kernel_rfl) (by rfl) (fun K hK => ?_)
      go_simp
      refine CallsIn.inRound l (callsIn_wide.2 ((HC.out k2 x.2 t (by omega) (by omega) (Nat.le_refl _) (by omega) _ hs3.drew hG3).mono ?_))
      rintro e W6 ⟨rfl, hg6, hG6⟩
      rw [← HA2.out]
      refine hK _ _ (fun _ => (by rw [HSS.out] at hSw3 ⊢; exact ⟨grownBy_trans' hSw3.1 (grown_undrew hg6), hG6⟩)) (fun hT10 => ?_)
      have hS10 := hT10 (by decide)
      clear hK K
      refine takeM (i := 10) 58 (.int .i64 p) hpo rfl (by kernel_rfl) (fun _ _ _ h => h) rfl (by rfl) (fun X hX => (by go_simp)) (fun _ => rfl) hS10 (fun hS11 => ?_)
      simp only [List.setIfInBounds_toArray, List.set_cons_zero, List.set_cons_succ]
      refine takeM (i := 11) 59 (.int .i64 q) hpo rfl (by kernel_rfl) (fun _ _ _ h => h) rfl (by rfl) (fun X hX => (by go_simp)) (fun _ => rfl) hS11 (fun hS12 => ?_)
      simp only [List.setIfInBounds_toArray, List.set_cons_zero, List.set_cons_succ]
      refine takeM (i := 12) 60 (.int .i64 u) hpo rfl (by kernel_rfl) (fun _ _ _ h => h) rfl (by rfl) (fun X hX => (by go_simp)) (fun _ => rfl) hS12 (fun hS13 => ?_)
      simp only [List.setIfInBounds_toArray, List.set_cons_zero, List.set_cons_succ]
      refine takeM (i := 13) 61 (.int .i64 N') hpo rfl (by kernel_rfl) (fun _ _ _ h => h) rfl (by rfl) (fun X hX => (by go_simp)) (fun _ => rfl) hS13 (fun hS14 => ?_)
      simp only [List.setIfInBounds_toArray, List.set_cons_zero, List.set_cons_succ]
      have hS6w := hS14
      rw [HSS.out] at hS6w
      have hbx : Boxed W6 (W.heap.size + 1 + 1 + 1 + 1) 3 (.int .i64 N) := by rw [HN.out]; exact hI2.1.kept hS6w.1 (fun e => by have := Option.some.inj e; omega)
      have hc6 := hbx.cell
      have hf6 := hbx.frozen
      refine oneM (i := 14) rfl (by kernel_rfl) (by rfl) (fun K hK => ?_)
      go_simp
      refine hK _ _ (fun h => absurd h (by decide)) (fun _ => ?_)
      clear hK K
      refine doneM (by kernel_rfl) ?_ _
      have hfold : (pre ++ [x]).foldl (pairStep (cntS g) k1 k2 f t) 0 = N' := by
        rw [List.foldl_append, ← HN.out]
        simp only [List.foldl_cons, List.foldl_nil]
        unfold pairStep
        rw [← HA1.out, if_pos hpos, ← HA2.out, ← HP.out, ← HQ.out, ← HU.out, ← HN'.out]
      have hbx' := hbx.set (.int .i64 N')
      have hgr : W2.grownBy W6 (some m) := hS6w.1
      refine ⟨?_, ?_, ?_⟩
      · rw [hRe]
        refine kp_body hI2.1 (Nat.le_trans hgr.size (grownBy_setCell' W6 (W.heap.size + 1 + 1 + 1 + 1) (.int .i64 N')).size) (fun b h1 h2 h3 _ => ?_) (fun _ => ?_) hbx' (fun r e => by cases e)
        · exact (Below.heap_setCell _ _ _ _ h3).trans (hgr.block b h1 (fun e => h2 (Option.some.inj e)))
        · rw [Below.heap_setCell _ _ _ _ (by show m ≠ W.heap.size + 1 + 1 + 1 + 1; omega)]; exact hS6w.2
      · rw [hfold]; exact hbx'
      · exact grown_next (grownBy_trans' hI2.2 hgr) (grownBy_setCell' W6 (W.heap.size + 1 + 1 + 1 + 1) (.int .i64 N')) (fun r e => by cases e; exact .inr (by omega))
    · have hp1 : decide ((0 : Int) < (a1 : Int)) = false := by simpa using hpos
      gi_wp2
      have hSw3 := hS9
      rw [HSS.out] at hSw3
      have hfold : (pre ++ [x]).foldl (pairStep (cntS g) k1 k2 f t) 0 = pre.foldl (pairStep (cntS g) k1 k2 f t) 0 := by
        rw [List.foldl_append]
        simp only [List.foldl_cons, List.foldl_nil]
        unfold pairStep
        rw [← HA1.out, if_neg hpos]
      have hmv := hcn.mv hSw3.1 (fun _ => hSw3.2)
      exact ⟨hmv.kp hok2, by rw [hfold]; exact hI2.1.kept hSw3.1 (fun e => by have := Option.some.inj e; omega), grownBy_trans' hI2.2 hSw3.1⟩
end Go.Proofs.YthmnffgjckpkiaaGreatDoor
