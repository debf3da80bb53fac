/-
  What the makers make serves too where field 4 of the grammar has been stored since.
-/
import Derived.Test.YthmnffgjckpkiaaGreatDoorOpens2
namespace Go.Proofs.YthmnffgjckpkiaaGreatDoor
open Go Go.RowKit Go.Shelf

/-- All blocks but the map's and the grammar's are the same. -/
structure Besides (m gb : Nat) (W0 W : World) : Prop where
  size : W0.heap.size ≤ W.heap.size
  block : ∀ b, b < W0.heap.size → b ≠ m → b ≠ gb → W.heap[b]? = W0.heap[b]?
theorem Besides.cell {m gb : Nat} {W0 W : World} (h : Besides m gb W0 W) {a : Addr} {v : Value} (hc : W0.cell? a = some v) (h1 : a.block ≠ m) (h2 : a.block ≠ gb) : W.cell? a = some v :=
  (World.cell?_of_block (h.block a.block (cell_lt hc) h1 h2)).trans hc
theorem Besides.of_below {m gb : Nat} {w w' W : World} (hb : Below w.heap.size w w') (h : Besides m gb w' W) : Besides m gb w W :=
  ⟨Nat.le_trans hb.size h.size, fun b hlt h1 h2 => (h.block b (Nat.lt_of_lt_of_le hlt hb.size) h1 h2).trans (hb.block b hlt)⟩
/-- A function value that serves wherever the grammar stands and its boxes are the same. -/
def MakesOk (m gb : Nat) (g : Gr) (W0 : World) (fv : Value) (op : Nat → Nat → List Opn) : Prop := ∀ W, Besides m gb W0 W → Pre m gb g W → OpenOk m W g.toks.length fv op
theorem MakesOk.later {m gb : Nat} {g : Gr} {w w' : World} {fv : Value} {op : Nat → Nat → List Opn} (h : MakesOk m gb g w fv op) (hb : Below w.heap.size w w') : MakesOk m gb g w' fv op :=
  fun W hB hP => h W (Besides.of_below hb hB) hP
theorem StrSlice.besides {m gb : Nat} {W0 W : World} {a : Option Addr} {n c : Nat} {l : List (List UInt8)} (h : StrSlice W0 (.slice a n c) l) (hB : Besides m gb W0 W) (hne : ∀ x, a = some x → x.block ≠ m ∧ x.block ≠ gb) : StrSlice W (.slice a n c) l := by
  obtain ⟨a', cap, hv, h1, h2, h⟩ := h
  cases hv
  refine ⟨_, _, rfl, h1, h2, ?_⟩
  rcases h with h | ⟨b, off, ha, hc⟩
  · exact .inl h
  · exact .inr ⟨b, off, ha, fun j hj => hB.cell (hc j hj) (hne _ ha).1 (hne _ ha).2⟩
theorem Pre.gb_lt {m gb : Nat} {g : Gr} {w : World} (h : Pre m gb g w) : gb < w.heap.size := by
  obtain ⟨v, hv, _⟩ := h.lex
  exact cell_lt hv
theorem Pre.m_lt {m gb : Nat} {g : Gr} {w : World} (h : Pre m gb g w) : m < w.heap.size := by
  obtain ⟨es, c, hm⟩ := h.map
  exact (Array.getElem?_eq_some_iff.1 hm).1
theorem says_makes {m gb : Nat} {g : Gr} {w w' : World} (hp : Pre m gb g w) (list : List (List UInt8)) (h24 : list.length ≤ 24) (la : Option Addr) (ln lc xb lb : Nat) (hls : StrSlice w' (.slice la ln lc) list) (hne : ∀ x, la = some x → w.heap.size ≤ x.block)
    (hx : w.heap.size ≤ xb) (hl : w.heap.size ≤ lb) (c0 : w'.cell? ⟨xb, 0, none⟩ = some (.pointer (some ⟨gb, 0, none⟩))) (c1 : w'.cell? ⟨lb, 0, none⟩ = some (.slice la ln lc)) :
    MakesOk m gb g w' (.func (.func 155) #[] #[.pointer (some ⟨lb, 0, none⟩), .pointer (some ⟨xb, 0, none⟩)]) (saysS g list) := by
  intro W hB hP
  have h1 := hp.gb_lt
  have h2 := hp.m_lt
  exact says_ok hP lb xb list h24 _ (hB.cell c1 (by simp; omega) (by simp; omega)) (hls.besides hB (fun x hx => ⟨by have := hne x hx; omega, by have := hne x hx; omega⟩)) (hB.cell c0 (by simp; omega) (by simp; omega))
theorem entry_makes {m gb : Nat} {g : Gr} {w w' : World} (hp : Pre m gb g w) (xb qb cb : Nat) (cat : Int) (third : Bool) (hx : w.heap.size ≤ xb) (hq : w.heap.size ≤ qb) (hc : w.heap.size ≤ cb) (c0 : w'.cell? ⟨xb, 0, none⟩ = some (.pointer (some ⟨gb, 0, none⟩))) (c1 : w'.cell? ⟨qb, 0, none⟩ = some (.bool third)) (c2 : w'.cell? ⟨cb, 0, none⟩ = some (.int .u8 cat)) :
    MakesOk m gb g w' (.func (.func 157) #[] #[.pointer (some ⟨xb, 0, none⟩), .pointer (some ⟨qb, 0, none⟩), .pointer (some ⟨cb, 0, none⟩)]) (entryS g cat third) := by
  intro W hB hP
  have h1 := hp.gb_lt
  have h2 := hp.m_lt
  exact entry_ok hP xb qb cb cat third (hB.cell c0 (by simp; omega) (by simp; omega)) (hB.cell c1 (by simp; omega) (by simp; omega)) (hB.cell c2 (by simp; omega) (by simp; omega))
theorem behind_makes {m gb : Nat} {g : Gr} {w w' : World} (hp : Pre m gb g w) (xb wb ob : Nat) (word : List UInt8) (ov : Value) (op : Nat → Nat → List Opn) (hx : w.heap.size ≤ xb) (hw : w.heap.size ≤ wb) (ho : w.heap.size ≤ ob) (hop : MakesOk m gb g w' ov op) (c0 : w'.cell? ⟨xb, 0, none⟩ = some (.pointer (some ⟨gb, 0, none⟩))) (c1 : w'.cell? ⟨wb, 0, none⟩ = some (.string ⟨word.toArray⟩)) (c2 : w'.cell? ⟨ob, 0, none⟩ = some ov) :
    MakesOk m gb g w' (.func (.func 158) #[] #[.pointer (some ⟨xb, 0, none⟩), .pointer (some ⟨wb, 0, none⟩), .pointer (some ⟨ob, 0, none⟩)]) (behindS g word op) := by
  intro W hB hP
  have h1 := hp.gb_lt
  have h2 := hp.m_lt
  exact behind_ok hP xb wb ob word ov op (hop W hB hP) (hB.cell c0 (by simp; omega) (by simp; omega)) (hB.cell c1 (by simp; omega) (by simp; omega)) (hB.cell c2 (by simp; omega) (by simp; omega))
/-- The kinds of a row's parts stand wherever the blocks but the map's and the grammar's are the same. -/
def PartsMk (m gb : Nat) (W0 : World) (pv : Value) (ks : List Nat) : Prop := ∀ W, Besides m gb W0 W → PartsAt W pv ks
theorem PartsMk.later {m gb : Nat} {w w' : World} {pv : Value} {ks : List Nat} (h : PartsMk m gb w pv ks) (hb : Below w.heap.size w w') : PartsMk m gb w' pv ks :=
  fun W hB => h W (Besides.of_below hb hB)
theorem partsMk_0 (m gb : Nat) (w : World) : PartsMk m gb w (.slice none 0 0) [] := fun _ _ => ⟨_, _, rfl, .inl rfl⟩
theorem Besides.cells {m gb : Nat} {g : Gr} {w w' W : World} (hp : Pre m gb g w) {b : Nat} (hb : w.heap.size ≤ b) (hB : Besides m gb w' W) {o : Obj} (h : w'.heap[b]? = some o) : W.heap[b]? = some o := by
  have h1 := hp.gb_lt
  have h2 := hp.m_lt
  exact (hB.block b (Array.getElem?_eq_some_iff.1 h).1 (by omega) (by omega)).trans h
theorem partsMk_1 {m gb : Nat} {g : Gr} {w w' : World} (hp : Pre m gb g w) {b a : Nat} (hb : w.heap.size ≤ b) {T : TypeId} (h : w'.heap[b]? = some (.cells #[.int .u8 a] T (0, 0))) : PartsMk m gb w' (.slice (some ⟨b, 0, none⟩) 1 1) [a] := by
  intro W hB
  have h := hB.cells hp hb h
  refine ⟨_, _, rfl, .inr ⟨b, rfl, fun j hj => ?_⟩⟩
  obtain rfl : j = 0 := by simp at hj; omega
  simp [World.cell?, h]
theorem partsMk_2 {m gb : Nat} {g : Gr} {w w' : World} (hp : Pre m gb g w) {b a c : Nat} (hb : w.heap.size ≤ b) {T : TypeId} (h : w'.heap[b]? = some (.cells #[.int .u8 a, .int .u8 c] T (0, 0))) : PartsMk m gb w' (.slice (some ⟨b, 0, none⟩) 2 2) [a, c] := by
  intro W hB
  have h := hB.cells hp hb h
  refine ⟨_, _, rfl, .inr ⟨b, rfl, fun j hj => ?_⟩⟩
  rcases j with _ | _ | j
  · simp [World.cell?, h]
  · simp [World.cell?, h]
  · simp at hj; omega
end Go.Proofs.YthmnffgjckpkiaaGreatDoor
