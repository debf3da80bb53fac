/-
  Parses in the row that 'Parses' returns.
-/
import Derived.Test.YthmnffgjckpkiaaGreatDoorGEngI
namespace Go.Proofs.YthmnffgjckpkiaaGreatDoor
open Go Go.RowKit Go.Shelf

theorem parses_mem {l : List Ent} {toks : List (List UInt8)} {x : Tr} (h : x ∈ (parsesS l toks).1) : x ∈ treesS ⟨l, bareS toks⟩ 1 0 (bareS toks).length := by
  unfold parsesS at h
  split at h
  · cases h
  · split at h
    · cases h
    · split at h
      · cases h
      · exact h
theorem parses_len (l : List Ent) (toks : List (List UInt8)) : (parsesS l toks).1.length ≤ 64 := by
  obtain ⟨C, hC⟩ : ∃ C, C = countS l toks := ⟨_, rfl⟩
  obtain ⟨c, e⟩ := C
  by_cases he : e = 0
  · subst he
    by_cases h0 : c = 0
    · subst h0; rw [parsesS_zero hC.symm]; simp
    · by_cases h64 : 64 < c
      · rw [parsesS_many hC.symm h64]; simp
      · rw [parsesS_some hC.symm (by omega) h64, trees_is hC.symm (by omega) h64]; omega
  · rw [parsesS_err (k := e) (by rw [← hC]) he]; simp
/-- A parse in a row of parses. -/
theorem forG_get {B0 k : Nat} {a : Option Addr} {c : Nat} {ts : List Tr} {W : World} (h : ForG B0 (.slice a k c) ts k W) {j : Nat} (hj : j < k) (hj2 : j < ts.length) :
    ∃ g q, a = some ⟨g, 0, none⟩ ∧ TreeV (fun _ => True) W (TV.val q) ts[j] ∧ W.cell? ⟨g, j * 4, none⟩ = some (.int .u8 q.r) ∧ W.cell? ⟨g, j * 4 + 1, none⟩ = some (.int .i64 q.e) ∧ W.cell? ⟨g, j * 4 + 2, none⟩ = some (.string q.w) ∧ W.cell? ⟨g, j * 4 + 3, none⟩ = some (.slice q.a q.n q.c) := by
  obtain ⟨qs, L, H, hk, hown, ht, _⟩ := h
  rcases hown.2 with ⟨_, h0⟩ | ⟨g, cap', cur, he, _⟩
  · omega
  · cases he
    obtain ⟨x0, x1, x2, x3, hx, c0, c1, c2, c3⟩ := owns_cells hown j (by omega)
    have hv := (ht j (by omega) hj2).treeV
    unfold TV.val at hx
    simp only [Value.agg.injEq, Array.mk.injEq, List.cons.injEq, and_true] at hx
    obtain ⟨rfl, rfl, rfl, rfl⟩ := hx
    exact ⟨g, qs[j], rfl, hv.move (fun b _ _ => ⟨trivial, rfl⟩), c0, c1, c2, c3⟩
end Go.Proofs.YthmnffgjckpkiaaGreatDoor
