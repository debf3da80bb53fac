/-
  The parses of a sentence with the other name.
-/
import Derived.Test.YthmnffgjckpkiaaGreatDoorSwap
namespace Go.Proofs.YthmnffgjckpkiaaGreatDoor
open Go Go.RowKit Go.Shelf

theorem look_lt8 {tok : List UInt8} : ∀ x ∈ lookS tok exL, x.1 < 8 := by
  intro x hx
  unfold lookS at hx
  obtain ⟨i, hi, rfl⟩ := List.mem_map.1 hx
  unfold thoseS thoseTo at hi
  have h5 := List.mem_range.1 (List.mem_filter.1 hi).1
  show i < 8
  simpa [exL] using h5
theorem ents_six {g : Gr} (hl : g.l = exL) {tok : List UInt8} {third : Bool} {s0 s : StepS} (hs : s ∈ entsS g tok third s0) (h6 : s.rule = 6) : s.entry ≤ 1 := by
  obtain ⟨x, hx, rfl⟩ := List.mem_map.1 hs
  rw [hl] at hx
  obtain ⟨h3, h4⟩ := List.mem_filter.1 hx
  simp only at h6 ⊢
  have h8 := look_lt8 x h3
  rw [h6] at h4
  simp only [Bool.and_eq_true, beq_iff_eq] at h4
  rcases Nat.lt_or_ge x.1 2 with h | h
  · omega
  · exact absurd h4.2 (cat_other x.1 h h8)
theorem halves_six {g : Gr} {f t rule kind : Nat} {b : List UInt8} (hr : rule ≠ 6) {s : StepS} (hs : s ∈ halvesS g f t rule b kind) (h6 : s.rule = 6) : s.entry ≤ 1 := by
  unfold halvesS at hs
  obtain ⟨k, _, hk⟩ := List.mem_filterMap.1 hs
  split at hk
  · cases hk; exact absurd h6 hr
  · cases hk
theorem map_five {f t : Nat} {s : StepS} (hs : s ∈ ((List.range (t - (f + 1))).map (· + (f + 1))).map fun k => (⟨5, 0, [], [(2, f, k), (4, k, t)]⟩ : StepS)) : s.rule = 5 ∧ Within f t s := by
  obtain ⟨j, hj, rfl⟩ := List.mem_map.1 hs
  obtain ⟨i, hi, rfl⟩ := List.mem_map.1 hj
  have := List.mem_range.1 hi
  exact ⟨rfl, w2 (by omega) (by omega) (by omega) (by omega) (by omega) (by omega)⟩
def StepOk (f t : Nat) (s : StepS) : Prop := Within f t s ∧ (s.rule = 6 → s.entry ≤ 1)
theorem ok_ents {g : Gr} (hl : g.l = exL) {tok : List UInt8} {third : Bool} {s0 : StepS} {f t : Nat} (h : Within f t s0) : ∀ s ∈ entsS g tok third s0, StepOk f t s := fun s hs => ⟨ents_within h s hs, ents_six hl hs⟩
theorem ok_halves {g : Gr} {f a t rule kind : Nat} {b : List UInt8} (hfa : f ≤ a) (hr : rule ≠ 6) : ∀ s ∈ halvesS g a t rule b kind, StepOk f t s := fun s hs => ⟨halves_within hfa s hs, halves_six hr hs⟩
theorem ok_append {f t : Nat} {l1 l2 : List StepS} (h1 : ∀ s ∈ l1, StepOk f t s) (h2 : ∀ s ∈ l2, StepOk f t s) : ∀ s ∈ l1 ++ l2, StepOk f t s := fun s hs => by
  rcases List.mem_append.1 hs with h | h
  · exact h1 s h
  · exact h2 s h
theorem ok_ite {f t : Nat} {p : Prop} [Decidable p] {l1 l2 : List StepS} (h1 : p → ∀ s ∈ l1, StepOk f t s) (h2 : ¬ p → ∀ s ∈ l2, StepOk f t s) : ∀ s ∈ (if p then l1 else l2), StepOk f t s := by
  by_cases h : p
  · rw [if_pos h]; exact h1 h
  · rw [if_neg h]; exact h2 h
theorem ok_nil {f t : Nat} : ∀ s ∈ ([] : List StepS), StepOk f t s := fun _ h => by cases h
theorem ok_one {f t r : Nat} {w : List UInt8} {ps : List (Nat × Nat × Nat)} (hr : r ≠ 6) (h : Within f t ⟨r, 0, w, ps⟩) : ∀ s ∈ [(⟨r, 0, w, ps⟩ : StepS)], StepOk f t s := fun s hs => by
  obtain rfl := List.mem_singleton.1 hs
  exact ⟨h, fun h6 => absurd h6 hr⟩
theorem ok_verbs {g : Gr} (hl : g.l = exL) {f t : Nat} (b : Bool) : ∀ s ∈ verbsS g f t b, StepOk f t s := by
  unfold verbsS
  exact ok_ite (fun _ => ok_nil) (fun h => ok_ite (fun _ => ok_ents hl w0) (fun h' => ok_ents hl (w1 (by omega) (by omega) (by omega))))
theorem ok_states {g : Gr} (hl : g.l = exL) {f0 f t : Nat} (h0 : f0 ≤ f) : ∀ s ∈ statesS g f t, StepOk f0 t s := by
  unfold statesS
  exact ok_ite (fun _ => ok_ents hl w0) (fun _ => ok_ite (fun h' => ok_one (by decide) (w1 (by omega) (by omega) (by omega))) (fun _ => ok_nil))
theorem steps_ok {g : Gr} (hl : g.l = exL) {k f t : Nat} (hlt : f < t) : ∀ s ∈ stepsS g k f t, StepOk f t s := by
  unfold stepsS
  refine ok_ite (fun _ => ok_nil) (fun _ => ok_ite (fun _ => ?_) (fun _ => ok_ite (fun _ => ?_) (fun _ => ok_ite (fun _ => ?_) (fun _ => ok_ite (fun _ => ?_) (fun _ => ok_ite (fun _ => ?_) (fun _ => ok_ite (fun _ => ok_verbs hl false) (fun _ => ok_ite (fun _ => ok_states hl (Nat.le_refl _)) (fun _ => ok_nil))))))))
  · unfold clauseS
    refine ok_append (ok_append (ok_append (ok_append (ok_ite (fun _ => ok_halves (Nat.le_succ f) (by decide)) (fun _ => ok_nil)) (ok_halves (Nat.le_refl _) (by decide))) (ok_halves (Nat.le_refl _) (by decide))) (ok_halves (Nat.le_refl _) (by decide))) (fun s hs => ?_)
    exact ⟨(map_five hs).2, fun h6 => absurd ((map_five hs).1.symm.trans h6) (by decide)⟩
  · unfold nounPS
    refine ok_ite (fun _ => ok_ents hl w0) (fun h1 => ok_ite (fun _ => ok_ite (fun _ => ok_one (by decide) (w1 (by omega) (by omega) (by omega))) (fun _ => ok_nil)) (fun _ => ok_ite (fun _ => ok_one (by decide) (w1 (by omega) (by omega) (by omega))) (fun _ => ok_nil)))
  · unfold nounS'
    refine ok_ite (fun _ => ok_ents hl w0) (fun h1 => ok_append (ok_ents hl (w1 (by omega) (by omega) (by omega))) (ok_ite (fun h2 => ok_append (ok_ents hl (w1 (by omega) (by omega) (by omega))) (ok_ents hl (w2 (by omega) (by omega) (by omega) (by omega) (by omega) (by omega)))) (fun _ => ok_nil)))
  · unfold verbPS
    refine ok_append (ok_append (ok_append (ok_append (ok_append (ok_verbs hl true) (ok_ite (fun _ => ok_states hl (Nat.le_succ f)) (fun _ => ok_nil))) (ok_ite (fun _ => ok_one (by decide) (w1 (by omega) (by omega) (by omega))) (fun _ => ok_nil))) (ok_ite (fun _ => ok_one (by decide) (w1 (by omega) (by omega) (by omega))) (fun _ => ok_nil))) (ok_halves (Nat.le_refl _) (by decide))) (ok_halves (Nat.le_refl _) (by decide))
  · exact ok_ite (fun _ => ok_ents hl w0) (fun _ => ok_nil)
theorem swap_all {g g' : Gr} (h : Swapped g g') : ∀ (d k f t : Nat), t - f ≤ d → t ≤ g.toks.length → cntS g' k f t = cntS g k f t ∧ treesS g' k f t = (treesS g k f t).map exchT := by
  have hlen : g'.toks.length = g.toks.length := by rw [h.toks, List.length_map]
  have base : ∀ k f t, (cntS g k f t = 0 ∧ cntS g' k f t = 0) → cntS g' k f t = cntS g k f t ∧ treesS g' k f t = (treesS g k f t).map exchT := by
    rintro k f t ⟨h1, h2⟩
    rw [h1, h2, treesS_none g h1, treesS_none g' h2]
    exact ⟨rfl, rfl⟩
  intro d
  induction d with
  | zero => intro k f t hd ht; exact base k f t ⟨cntS_zero g (by omega), cntS_zero g' (by omega)⟩
  | succ d ih =>
    intro k f t hd ht
    by_cases hlt : f < t
    · by_cases hk : k = 0 ∨ 7 < k
      · exact base k f t ⟨kind_none g hk, kind_none g' hk⟩
      · have hI : ∀ k f' t', t' - f' < t - f → f ≤ f' → t' ≤ t → cntS g' k f' t' = cntS g k f' t' := fun k f' t' h1 _ h3 => (ih k f' t' (by omega) (by omega)).1
        have hT : ∀ k f' t', t' - f' < t - f → f ≤ f' → t' ≤ t → treesS g' k f' t' = (treesS g k f' t').map exchT := fun k f' t' h1 _ h3 => (ih k f' t' (by omega) (by omega)).2
        have hst := steps_swap h (k := k) hlt ht hI
        have hok := steps_ok h.l (k := k) hlt
        have hmem : ∀ s ∈ (stepsS g k f t).filter (live g), Within f t s ∧ (s.rule = 6 → s.entry ≤ 1) := fun s hs => hok s (List.mem_filter.1 hs).1
        constructor
        · rw [cnt_steps g' (by omega) (by omega) (by omega), cnt_steps g (by omega) (by omega) ht, ← timesS_live g', ← timesS_live g, hst]
          unfold timesS
          rw [List.map_map]
          congr 2
          refine List.map_congr_left (fun s hs => ?_)
          simp only [Function.comp_def]
          rw [swap_parts]
          unfold prodS
          refine foldl_congr' _ _ (fun n p hp => ?_)
          have := (hmem s hs).1.2 p hp
          rw [numS_cnt, numS_cnt, hI p.1 p.2.1 p.2.2 this.1 this.2.1 this.2.2]
        · rw [trees_steps g' (by omega) (by omega) (by omega), trees_steps g (by omega) (by omega) ht, ← flat_live g', ← flat_live g, hst, flatMap_map', List.map_flatMap]
          exact flatMap_congr' _ (fun s hs => stepTrees_swap hI hT (hmem s hs).1 (hmem s hs).2)
    · exact base k f t ⟨cntS_zero g (by omega), cntS_zero g' (by omega)⟩
/-- **Names do not matter.** -/
theorem names_count (toks : List (List UInt8)) : countS exL (toks.map sw) = countS exL toks ∧ parsesS exL (toks.map sw) = ((parsesS exL toks).1.map exchT, (parsesS exL toks).2) := by
  have hv : validS exL = true := by decide
  have hlast : (toks.map sw).getLast? = some wDot ↔ toks.getLast? = some wDot := by
    rw [List.getLast?_map]
    cases hq : toks.getLast? with
    | none => simp
    | some x => simp only [Option.map_some, Option.some.injEq]; exact sw_fix (by decide) (by decide)
  have hbare : bareS (toks.map sw) = (bareS toks).map sw := by
    unfold bareS
    by_cases hq : toks.getLast? = some wDot
    · rw [if_pos hq, if_pos (hlast.2 hq), List.map_dropLast]
    · rw [if_neg hq, if_neg (fun e => hq (hlast.1 e))]; rfl
  have hS : Swapped ⟨exL, bareS toks⟩ ⟨exL, bareS (toks.map sw)⟩ := ⟨rfl, rfl, hbare⟩
  have hlen : (bareS (toks.map sw)).length = (bareS toks).length := by rw [hbare, List.length_map]
  have ha := swap_all hS _ 1 0 (bareS toks).length (Nat.le_refl _) (Nat.le_refl _)
  have hc : countS exL (toks.map sw) = countS exL toks := by
    unfold countS
    rw [hv, List.length_map, hlen, ha.1]
    simp only [Bool.not_true, Bool.false_eq_true, if_false]
    by_cases hq : toks.getLast? = some wDot
    · rw [if_pos hq, if_pos (hlast.2 hq)]
    · rw [if_neg hq, if_neg (fun e => hq (hlast.1 e))]
  refine ⟨hc, ?_⟩
  unfold parsesS
  rw [hc, hlen, ha.2]
  split
  · rfl
  · split
    · rfl
    · split <;> rfl
end Go.Proofs.YthmnffgjckpkiaaGreatDoor
