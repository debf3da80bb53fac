/-
  The grammar in memory: what its cells hold, and what of it abides while blocks are made and the map of counts is written.
-/
import Derived.Test.YthmnffgjckpkiaaGreatDoorEngMap
import Derived.Test.YthmnffgjckpkiaaGreatDoorTokens
namespace Go.Proofs.YthmnffgjckpkiaaGreatDoor
open Go Go.RowKit Go.Shelf

/-- What was there in W0 is there, but for the map m. -/
structure Since (m : Nat) (W0 W : World) : Prop where
  size : W0.heap.size ≤ W.heap.size
  block : ∀ b, b < W0.heap.size → b ≠ m → W.heap[b]? = W0.heap[b]?
  map : ∃ es c, W0.heap[m]? = some (.map es c)
theorem Since.refl {m : Nat} {W : World} (h : ∃ es c, W.heap[m]? = some (.map es c)) : Since m W W := ⟨Nat.le_refl _, fun _ _ _ => rfl, h⟩
theorem Since.blockNe {m : Nat} {W0 W : World} (h : Since m W0 W) {a : Addr} {v : Value} (hc : W0.cell? a = some v) : a.block ≠ m := by
  obtain ⟨es, c, hm⟩ := h.map
  intro e
  unfold World.cell? at hc
  rw [e, hm] at hc
  simp at hc
theorem Since.cell {m : Nat} {W0 W : World} (h : Since m W0 W) {a : Addr} {v : Value} (hc : W0.cell? a = some v) : W.cell? a = some v :=
  (World.cell?_of_block (h.block a.block (cell_lt hc) (h.blockNe hc))).trans hc
theorem Since.frozen {m : Nat} {W0 W : World} (h : Since m W0 W) {a : Addr} {v : Value} (hc : W0.cell? a = some v) : W.frozen? a = W0.frozen? a :=
  World.frozen?_of_block (h.block a.block (cell_lt hc) (h.blockNe hc))
theorem Since.grown {m : Nat} {W0 W W' : World} (h : Since m W0 W) (hg : W.grownBy W' (some m)) : Since m W0 W' :=
  ⟨Nat.le_trans h.size hg.size, fun b hb hm => (hg.block b (Nat.lt_of_lt_of_le hb h.size) (fun e => hm (Option.some.inj e))).trans (h.block b hb hm), h.map⟩
theorem Since.below {m : Nat} {W0 W W' : World} (h : Since m W0 W) (hb : Below W.heap.size W W') : Since m W0 W' :=
  ⟨Nat.le_trans h.size hb.size, fun b hlt hm => (hb.block b (Nat.lt_of_lt_of_le hlt h.size)).trans (h.block b hlt hm), h.map⟩
theorem Since.drew {m : Nat} {W0 W : World} (h : Since m W0 W) : Since m W0 W.drew := ⟨h.size, h.block, h.map⟩
theorem Since.alloc {m : Nat} {W0 W : World} (h : Since m W0 W) (o : Obj) : Since m W0 (W.alloc o) := h.below ((Below.refl _ _).alloc (Nat.le_refl _) _)
theorem Since.trans {m : Nat} {A B C : World} (h : Since m A B) (k : Since m B C) : Since m A C :=
  ⟨Nat.le_trans h.size k.size, fun b hb hm => (k.block b (Nat.lt_of_lt_of_le hb h.size) hm).trans (h.block b hb hm), h.map⟩
/-- The agreement leaves alone what was there in W0. -/
def Leaves (R : Rg) (m : Nat) (W0 : World) : Prop := R.m = m ∧ ∀ W b, R.ok W → b < W0.heap.size → b ≠ m → R.sf W b
theorem Since.kp {m : Nat} {W0 W W' : World} {R : Rg} (h : Since m W0 W) (hR : Leaves R m W0) (hok : R.ok W) (hk : Kp R W W') : Since m W0 W' :=
  ⟨Nat.le_trans h.size hk.size, fun b hb hm => ((hk.same b (hR.2 W b hok hb hm)).2).trans (h.block b hb hm), h.map⟩
theorem below_grown {m : Nat} {W W' : World} (h : Below W.heap.size W W') : W.grownBy W' (some m) := ⟨h.os, h.tape, h.output, h.size, fun b hb _ => h.block b hb⟩

/-- An agreement whose map is the map of counts. -/
structure Counts (R : Rg) (m : Nat) (g : Gr) (W0 : World) : Prop where
  leaves : Leaves R m W0
  good : ∀ W, R.ok W → MapG g W.heap[m]?
  mv : ∀ {X Y : World}, X.grownBy Y (some m) → (MapG g X.heap[m]? → MapG g Y.heap[m]?) → Mv R X Y
theorem counts_mkR {m : Nat} {g : Gr} {box base : Nat} {W0 : World} (hb : W0.heap.size ≤ base) : Counts (mkR m (MapG g) box base) m g W0 :=
  ⟨⟨rfl, fun _ _ hok hlt hm => hok.old (Nat.lt_of_lt_of_le hlt hb) hm⟩, fun _ hok => hok.good, fun hg hG => mv_mk hg hG⟩

theorem EntSlice.since {m : Nat} {W0 W : World} {v : Value} {l : List Ent} (h : EntSlice W0 v l) (hs : Since m W0 W) : EntSlice W v l := by
  obtain ⟨⟨a, cap, hv, h1, h2, h3⟩, hok⟩ := h
  refine ⟨⟨a, cap, hv, h1, h2, ?_⟩, hok⟩
  rcases h3 with h3 | ⟨b, off, ha, hb, hc⟩
  · exact .inl h3
  · exact .inr ⟨b, off, ha, Nat.lt_of_lt_of_le hb hs.size, fun i hi => ⟨hs.cell (hc i hi).1, hs.cell (hc i hi).2.1, hs.cell (hc i hi).2.2⟩⟩
theorem StrSlice.since {m : Nat} {W0 W : World} {v : Value} {l : List (List UInt8)} (h : StrSlice W0 v l) (hs : Since m W0 W) : StrSlice W v l := by
  obtain ⟨a, cap, hv, h1, h2, h⟩ := h
  refine ⟨a, cap, hv, h1, h2, ?_⟩
  rcases h with h | ⟨b, off, ha, hc⟩
  · exact .inl h
  · exact .inr ⟨b, off, ha, fun j hj => hs.cell (hc j hj)⟩

/-- A slice of openings. -/
def opnCells (o : Opn) : List Value := [.int .i64 o.entry, strVal o.word, .int .i64 o.at]
def OpnSlice (w : World) (v : Value) (os : List Opn) : Prop :=
  ∃ a cap, v = .slice a os.length cap ∧ os.length ≤ 1000 ∧ (os = [] ∨ ∃ b, a = some ⟨b, 0, none⟩ ∧ ∀ j (h : j < os.length), w.cell? ⟨b, j * 3, none⟩ = some (.int .i64 os[j].entry) ∧ w.cell? ⟨b, j * 3 + 1, none⟩ = some (strVal os[j].word) ∧ w.cell? ⟨b, j * 3 + 2, none⟩ = some (.int .i64 os[j].at))
theorem OpnSlice.since {m : Nat} {W0 W : World} {v : Value} {os : List Opn} (h : OpnSlice W0 v os) (hs : Since m W0 W) : OpnSlice W v os := by
  obtain ⟨a, cap, hv, h1, h⟩ := h
  refine ⟨a, cap, hv, h1, ?_⟩
  rcases h with h | ⟨b, ha, hc⟩
  · exact .inl h
  · exact .inr ⟨b, ha, fun j hj => ⟨hs.cell (hc j hj).1, hs.cell (hc j hj).2.1, hs.cell (hc j hj).2.2⟩⟩
/-- The kinds of a row's parts. -/
def PartsAt (w : World) (v : Value) (ks : List Nat) : Prop :=
  ∃ a cap, v = .slice a ks.length cap ∧ (ks = [] ∨ ∃ b, a = some ⟨b, 0, none⟩ ∧ ∀ j (h : j < ks.length), w.cell? ⟨b, j, none⟩ = some (.int .u8 ks[j]))
theorem PartsAt.since {m : Nat} {W0 W : World} {v : Value} {ks : List Nat} (h : PartsAt W0 v ks) (hs : Since m W0 W) : PartsAt W v ks := by
  obtain ⟨a, cap, hv, h⟩ := h
  refine ⟨a, cap, hv, ?_⟩
  rcases h with h | ⟨b, ha, hc⟩
  · exact .inl h
  · exact .inr ⟨b, ha, fun j hj => hs.cell (hc j hj)⟩

/-- A function value that reads the words ahead of a row's parts, wherever what was there in W0 is there. -/
def OpenOk (m : Nat) (W0 : World) (n : Nat) (fv : Value) (op : Nat → Nat → List Opn) : Prop :=
  ∃ f bound caps, fv = .func (.func f) bound caps ∧ (∀ args w, (callFunc f args).run Tryz.prog w = .ok (.enter f args) w) ∧
    ∀ W, Since m W0 W → ∀ i j : Nat, i ≤ j → j ≤ n → Calls Tryz.prog f (bound ++ (#[.int .i64 i, .int .i64 j] ++ caps)) W fun e W' => ∃ v, e = .returned v ∧ OpnSlice W' v (op i j) ∧ Below W.heap.size W W' ∧ ∀ c, v.ownBlock = some c → W.heap.size ≤ c
theorem OpenOk.since {m : Nat} {W0 W1 : World} {n : Nat} {fv : Value} {op : Nat → Nat → List Opn} (h : OpenOk m W0 n fv op) (hs : Since m W0 W1) : OpenOk m W1 n fv op := by
  obtain ⟨f, bd, caps, rfl, he, hc⟩ := h
  exact ⟨f, bd, caps, rfl, he, fun W hW => hc W (hs.trans hW)⟩

/-- A row as a value, with its opening and its parts. -/
def rowV (r : RowS) (fv pv : Value) : Value := .agg #[.int .u8 r.rule, .int .u8 r.kind, fv, pv, strVal r.glue]
structure RowOn (m : Nat) (W0 : World) (n : Nat) (r : RowS) (fv pv : Value) : Prop where
  opn : OpenOk m W0 n fv r.opn
  parts : PartsAt W0 pv r.parts

/-- **The grammar at block gb.** -/
structure Gram (m gb : Nat) (g : Gr) (ended : Bool) (W : World) : Prop where
  map : ∃ es c, W.heap[m]? = some (.map es c)
  lex : ∃ v, W.cell? ⟨gb, 0, none⟩ = some v ∧ EntSlice W v g.l
  toks : ∃ v, W.cell? ⟨gb, 1, none⟩ = some v ∧ StrSlice W v g.toks
  ended : W.cell? ⟨gb, 2, none⟩ = some (.bool ended)
  counts : W.cell? ⟨gb, 5, none⟩ = some (.map (some m))
  few : g.toks.length ≤ 24
  table : ∃ tb, W.cell? ⟨gb, 4, none⟩ = some (.slice (some ⟨tb, 0, none⟩) 24 24) ∧ ∀ j (h : j < (rowsS g).length), ∃ fv pv, RowOn m W g.toks.length (rowsS g)[j] fv pv ∧
    W.cell? ⟨tb, j * 5, none⟩ = some (.int .u8 (rowsS g)[j].rule) ∧ W.cell? ⟨tb, j * 5 + 1, none⟩ = some (.int .u8 (rowsS g)[j].kind) ∧ W.cell? ⟨tb, j * 5 + 2, none⟩ = some fv ∧ W.cell? ⟨tb, j * 5 + 3, none⟩ = some pv ∧ W.cell? ⟨tb, j * 5 + 4, none⟩ = some (strVal (rowsS g)[j].glue)
theorem rowsS_len (g : Gr) : (rowsS g).length = 24 := rfl
/-- A token. -/
theorem Gram.tok {m gb : Nat} {g : Gr} {b : Bool} {W0 W : World} (h : Gram m gb g b W0) (hs : Since m W0 W) : ∃ a cap, W.cell? ⟨gb, 1, none⟩ = some (.slice a g.toks.length cap) ∧ g.toks.length ≤ cap ∧ cap ≤ maxLen ∧ (g.toks = [] ∨ ∃ tb off, a = some ⟨tb, off, none⟩ ∧ ∀ j (h : j < g.toks.length), W.cell? ⟨tb, off + j, none⟩ = some (.string ⟨g.toks[j].toArray⟩)) := by
  obtain ⟨v, hv, hst⟩ := h.toks
  obtain ⟨a, cap, rfl, h1, h2, h3⟩ := hst.since hs
  exact ⟨a, cap, hs.cell hv, h1, h2, h3⟩
end Go.Proofs.YthmnffgjckpkiaaGreatDoor
