/-
  Contract of 'Example' of the laws: the lexicon of the examples.
-/
import Derived.Test.YtakpkaklcjgdkaaGreatDoorLook
namespace Go.Proofs.YtakpkaklcjgdkaaGreatDoor
open Go Go.RowKit

/-- The lexicon of the examples. -/
def exampleL : List Ent := [
  ⟨⟨#[65, 110, 110]⟩, 3, ⟨#[97, 110, 110]⟩⟩,
  ⟨⟨#[66, 111, 98]⟩, 3, ⟨#[98, 111, 98]⟩⟩,
  ⟨⟨#[98, 111, 111, 107]⟩, 1, ⟨#[66, 111, 111, 107]⟩⟩,
  ⟨⟨#[104, 97, 112, 112, 121]⟩, 2, ⟨#[72, 97, 112, 112, 121]⟩⟩,
  ⟨⟨#[107, 110, 111, 119]⟩, 5, ⟨#[75, 110, 111, 119, 115]⟩⟩,
  ⟨⟨#[111, 119, 108]⟩, 1, ⟨#[79, 119, 108]⟩⟩,
  ⟨⟨#[112, 108, 97, 121]⟩, 4, ⟨#[80, 108, 97, 121, 115]⟩⟩,
  ⟨⟨#[112, 108, 97, 121]⟩, 5, ⟨#[80, 108, 97, 121, 105, 110, 103]⟩⟩,
  ⟨⟨#[115, 108, 101, 101, 112]⟩, 4, ⟨#[83, 108, 101, 101, 112, 115]⟩⟩,
  ⟨⟨#[115, 116, 117, 100, 101, 110, 116]⟩, 1, ⟨#[83, 116, 117, 100, 101, 110, 116]⟩⟩,
  ⟨⟨#[119, 97, 116, 99, 104]⟩, 1, ⟨#[87, 97, 116, 99, 104]⟩⟩,
  ⟨⟨#[119, 97, 116, 99, 104]⟩, 5, ⟨#[87, 97, 116, 99, 104, 101, 115]⟩⟩]
def entCells (e : Ent) : List Value := [.string e.word, .int .u8 e.cat, .string e.sym]
theorem flat3 (l : List Ent) : ∀ j (h : j < l.length), (l.flatMap entCells)[j * 3]? = some (.string l[j].word) ∧ (l.flatMap entCells)[j * 3 + 1]? = some (.int .u8 l[j].cat) ∧ (l.flatMap entCells)[j * 3 + 2]? = some (.string l[j].sym) := by
  induction l with
  | nil => intro j h; simp at h
  | cons f fs ih =>
    intro j h
    cases j with
    | zero => simp [entCells]
    | succ j =>
      have := ih j (by simpa using h)
      simp only [List.flatMap_cons, entCells, List.cons_append, List.nil_append]
      rw [show (j + 1) * 3 = j * 3 + 1 + 1 + 1 by omega, show j * 3 + 1 + 1 + 1 + 1 = (j * 3 + 1) + 1 + 1 + 1 by omega, show j * 3 + 1 + 1 + 1 + 2 = (j * 3 + 2) + 1 + 1 + 1 by omega]
      simpa using this
/-- A row of entries that lies in one block. -/
theorem entSlice_of_row {w : World} {g cap : Nat} {cs : Array Value} {t : TypeId} {fr : Nat × Nat} {l : List Ent} (hb : w.heap[g]? = some (.cells cs t fr)) (hcs : cs.toList = l.flatMap entCells) (hn : l.length ≤ cap) (hc : cap ≤ maxLen) (hok : ∀ e ∈ l, e.ok) : EntSlice w (.slice (some ⟨g, 0, none⟩) l.length cap) l := by
  refine ⟨⟨_, cap, rfl, hn, hc, .inr ⟨g, 0, rfl, (Array.getElem?_eq_some_iff.1 hb).1, fun j hj => ?_⟩⟩, hok⟩
  have one : ∀ k v, (l.flatMap entCells)[k]? = some v → w.cell? ⟨g, k, none⟩ = some v := fun k v h => by
    rw [cell_of_row w g k cs t fr hb, ← Array.getElem?_toList, hcs]
    exact h
  obtain ⟨h0, h1, h2⟩ := flat3 l j hj
  rw [Nat.zero_add]
  exact ⟨one _ _ h0, one _ _ h1, one _ _ h2⟩
theorem example_ok : ∀ e ∈ exampleL, e.ok := by
  simp [exampleL, Ent.ok, maxLen]; decide

set_option maxRecDepth 100000 in
set_option maxHeartbeats 2000000 in
theorem Example_any (w : World) :
    Calls Tryz.prog 25 #[] w fun r w' => ∃ v, r = .returned v ∧ EntSlice w' v exampleL ∧ Below w.heap.size w w' := by
  go_enter Tryz.func25, Tryz.ntmps25
  go_wp2
  go_ret
  exact ⟨_, rfl, entSlice_of_row (l := exampleL) (cap := 12) (heap_alloc_new _ _) rfl (by decide) (by decide) example_ok, (Below.refl _ _).alloc (Nat.le_refl _) _⟩
end Go.Proofs.YtakpkaklcjgdkaaGreatDoor
