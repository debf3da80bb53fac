/-
  Lexicons in a row of the call's own.
-/
import Derived.Test.YthmnffgjckpkiaaGreatDoorGEngH
namespace Go.Proofs.YthmnffgjckpkiaaGreatDoor
open Go Go.RowKit

def entCells (e : Ent) : List Value := [.string e.word, .int .u8 e.cat, .string e.sym]
theorem flat3 (l : List Ent) : ∀ j (h : j < l.length), (l.flatMap entCells)[j * 3]? = some (.string l[j].word) ∧ (l.flatMap entCells)[j * 3 + 1]? = some (.int .u8 l[j].cat) ∧ (l.flatMap entCells)[j * 3 + 2]? = some (.string l[j].sym) := by
  induction l with
  | nil => intro j h; simp at h
  | cons f fs ih =>
    intro j h
    cases j with
    | zero => simp [entCells]
    | succ j =>
      have := ih j (by simpa using h)
      simp only [List.flatMap_cons, entCells, List.cons_append, List.nil_append]
      rw [show (j + 1) * 3 = j * 3 + 1 + 1 + 1 by omega, show j * 3 + 1 + 1 + 1 + 1 = (j * 3 + 1) + 1 + 1 + 1 by omega, show j * 3 + 1 + 1 + 1 + 2 = (j * 3 + 2) + 1 + 1 + 1 by omega]
      simpa using this
theorem len_data (s : ByteArray) : s.data.toList.length = s.size := by simp
theorem info_ent : (Tryz.prog.info? 63).map (fun i => (i.zero, i.size, i.bytes)) = some (some (.agg #[.string ByteArray.empty, .int .u8 0, .string ByteArray.empty]), 3, 40) := by kernel_rfl
theorem ents_len (l : List Ent) : (l.flatMap entCells).length = l.length * 3 := by
  induction l with
  | nil => rfl
  | cons e l ih => rw [List.flatMap_cons, List.length_append, ih]; simp [entCells]; omega
theorem ents_one (l : List Ent) : ∀ u ∈ l.flatMap entCells, u.oneCell' = true := by
  intro u hu
  obtain ⟨e, _, he⟩ := List.mem_flatMap.1 hu
  simp only [entCells, List.mem_cons, List.not_mem_nil, or_false] at he
  rcases he with rfl | rfl | rfl <;> rfl
/-- A new lexicon that lies in a row of its own. -/
def OwnEnts (w : World) (base : Nat) (v : Value) (l : List Ent) : Prop := w.ownsRow base 63 3 v l.length (l.flatMap entCells)
theorem ownEnts_nil (w : World) (base : Nat) : OwnEnts w base (.slice none 0 0) [] := World.ownsRow_nil _ _ _ _
theorem owns_base {w : World} {base base' : Nat} {e : TypeId} {size : Nat} {v : Value} {n : Nat} {xs : List Value} (h : w.ownsRow base e size v n xs) (hb : base' ≤ base) : w.ownsRow base' e size v n xs := by
  obtain ⟨h1, h2⟩ := h
  refine ⟨h1, ?_⟩
  rcases h2 with h2 | ⟨g, cap, cur, a, b, c⟩
  · exact .inl h2
  · exact .inr ⟨g, cap, cur, a, Nat.le_trans hb b, c⟩
theorem ents_none (w : World) : EntSlice w (.slice none 0 0) [] := ⟨⟨none, 0, rfl, Nat.le_refl _, Nat.zero_le _, .inl rfl⟩, fun e he => by simp at he⟩
end Go.Proofs.YthmnffgjckpkiaaGreatDoor
