/-
  The parses that are listed are slim; a parse in a row of the reference.
  Parses in the row that 'Parses' returns.
-/
import Derived.Test.YthmnffgjckpkiaaGreatDoorSF
import Derived.Test.YthmnffgjckpkiaaGreatDoorSD
import Derived.Test.YthmnffgjckpkiaaGreatDoorGEngI
namespace Go.Proofs.YthmnffgjckpkiaaGreatDoor
open Go Go.RowKit Go.Shelf

theorem subsS_mem (T : Nat → Nat → Nat → List Tr) : ∀ (ps : List (Nat × Nat × Nat)) (j : Nat), j ≤ ps.length → ∀ l ∈ subsTo T ps j, ∀ t ∈ l, ∃ p ∈ ps, t ∈ T p.1 p.2.1 p.2.2 := by
  intro ps j
  induction j with
  | zero => intro _ l hl t ht; rw [subsTo_zero] at hl; rw [List.mem_singleton.1 hl] at ht; cases ht
  | succ j ih =>
    intro h l hl t ht
    rw [subsTo_next _ _ _ (by omega)] at hl
    obtain ⟨a, ha, hl⟩ := List.mem_flatMap.1 hl
    obtain ⟨b, hb, rfl⟩ := List.mem_map.1 hl
    rcases List.mem_append.1 ht with ht | ht
    · exact ih (by omega) a ha t ht
    · rw [List.mem_singleton.1 ht]
      exact ⟨ps[j], List.getElem_mem _, hb⟩
theorem trees_slim (g : Gr) : ∀ (N k f t : Nat), t - f ≤ N → 1 ≤ k → k ≤ 7 → t ≤ g.toks.length → ∀ x ∈ treesS g k f t, Slim x := by
  intro N
  induction N using Nat.strongRecOn with
  | ind N ih =>
    intro k f t hN h1 h7 ht x hx
    rw [trees_steps g h1 h7 ht] at hx
    obtain ⟨s, hs, hx⟩ := List.mem_flatMap.1 hx
    have hok := steps_ok g k f t s hs
    unfold stepTrees at hx
    split at hx
    · cases hx
    · obtain ⟨l, hl, rfl⟩ := List.mem_map.1 hx
      rw [← subsTo_all] at hl
      refine .mk _ _ _ _ ?_ (fun u hu => ?_)
      · rw [subsTo_mem _ _ _ (Nat.le_refl _) l hl]
        have := hok.1
        omega
      · obtain ⟨p, hp, hu⟩ := subsS_mem _ _ _ (Nat.le_refl _) l hl u hu
        obtain ⟨a1, a2, a3, a4, a5, a6⟩ := hok.2.2 p hp
        exact ih (p.2.2 - p.2.1) (by omega) p.1 p.2.1 p.2.2 (Nat.le_refl _) a1 a2 (by omega) u hu
theorem parses_slim {l : List Ent} {toks : List (List UInt8)} {x : Tr} (h : x ∈ (parsesS l toks).1) : Slim x := by
  have h2 : x ∈ treesS ⟨l, bareS toks⟩ 1 0 (bareS toks).length := by
    unfold parsesS at h
    split at h
    · cases h
    · split at h
      · cases h
      · split at h
        · cases h
        · exact h
  exact trees_slim ⟨l, bareS toks⟩ _ 1 0 _ (Nat.le_refl _) (by decide) (by decide) (Nat.le_refl _) x h2
/-- A parse in a row of the reference. -/
theorem TreesQ.get {C B : Nat} {W : World} {a : Option Addr} {n c : Nat} {ts : List Tr} (h : TreesQ C B W (.slice a n c) ts) {j : Nat} (hj : j < ts.length) :
    ∃ g q, a = some ⟨g, 0, none⟩ ∧ TreeV (fun _ => True) W (TV.val q) ts[j] ∧ W.cell? ⟨g, j * 4, none⟩ = some (.int .u8 q.r) ∧ W.cell? ⟨g, j * 4 + 1, none⟩ = some (.int .i64 q.e) ∧ W.cell? ⟨g, j * 4 + 2, none⟩ = some (.string q.w) ∧ W.cell? ⟨g, j * 4 + 3, none⟩ = some (.slice q.a q.n q.c) := by
  obtain ⟨qs, h1, h2, h3⟩ := h
  have hjq : j < qs.length := by omega
  obtain ⟨g, cap, he, x0, x1, x2, x3, hx, c0, c1, c2, c3⟩ := h2.cellsAt hjq
  injection he with he _ _
  unfold TV.val at hx
  simp only [Value.agg.injEq, Array.mk.injEq, List.cons.injEq, and_true] at hx
  obtain ⟨rfl, rfl, rfl, rfl⟩ := hx
  exact ⟨g, qs[j], he, treeV_weak (h3 j hjq hj).1 (fun _ _ _ => trivial), c0, c1, c2, c3⟩
theorem eqT_self (t : Tr) : eqT t t = true := (eqT_iff t t).2 rfl
end Go.Proofs.YthmnffgjckpkiaaGreatDoor
namespace Go.Proofs.YthmnffgjckpkiaaGreatDoor
open Go Go.RowKit Go.Shelf

theorem parses_len (l : List Ent) (toks : List (List UInt8)) : (parsesS l toks).1.length ≤ 64 := by
  obtain ⟨C, hC⟩ : ∃ C, C = countS l toks := ⟨_, rfl⟩
  obtain ⟨c, e⟩ := C
  by_cases he : e = 0
  · subst he
    by_cases h0 : c = 0
    · subst h0; rw [parsesS_zero hC.symm]; simp
    · by_cases h64 : 64 < c
      · rw [parsesS_many hC.symm h64]; simp
      · rw [parsesS_some hC.symm (by omega) h64, trees_is hC.symm (by omega) h64]; omega
  · rw [parsesS_err (k := e) (by rw [← hC]) he]; simp
/-- A parse in a row of parses. -/
theorem forG_get {B0 k : Nat} {a : Option Addr} {c : Nat} {ts : List Tr} {W : World} (h : ForG B0 (.slice a k c) ts k W) {j : Nat} (hj : j < k) (hj2 : j < ts.length) :
    ∃ g q, a = some ⟨g, 0, none⟩ ∧ TreeV (fun _ => True) W (TV.val q) ts[j] ∧ W.cell? ⟨g, j * 4, none⟩ = some (.int .u8 q.r) ∧ W.cell? ⟨g, j * 4 + 1, none⟩ = some (.int .i64 q.e) ∧ W.cell? ⟨g, j * 4 + 2, none⟩ = some (.string q.w) ∧ W.cell? ⟨g, j * 4 + 3, none⟩ = some (.slice q.a q.n q.c) := by
  obtain ⟨qs, L, H, hk, hown, ht, _⟩ := h
  rcases hown.2 with ⟨_, h0⟩ | ⟨g, cap', cur, he, _⟩
  · omega
  · cases he
    obtain ⟨x0, x1, x2, x3, hx, c0, c1, c2, c3⟩ := owns_cells hown j (by omega)
    have hv := (ht j (by omega) hj2).treeV
    unfold TV.val at hx
    simp only [Value.agg.injEq, Array.mk.injEq, List.cons.injEq, and_true] at hx
    obtain ⟨rfl, rfl, rfl, rfl⟩ := hx
    exact ⟨g, qs[j], rfl, hv.move (fun b _ _ => ⟨trivial, rfl⟩), c0, c1, c2, c3⟩
end Go.Proofs.YthmnffgjckpkiaaGreatDoor
