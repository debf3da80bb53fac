/-
  The plain laws of 'EnglishSpoken' and 'EnglishFound': the listed parses are right, have the tokens as words and stand in order; a right clause is listed once.
-/
import Derived.Test.YthmnffgjckpkiaaGreatDoorGEngI
import Derived.Test.YthmnffgjckpkiaaGreatDoorGPlain
namespace Go.Proofs.YthmnffgjckpkiaaGreatDoor
open Go Go.RowKit Go.Shelf

theorem count_0 {l : List Ent} {toks : List (List UInt8)} {c : Nat} (h : countS l toks = (c, 0)) (h0 : 0 < c) :
    validS l = true ∧ toks.length ≤ 24 ∧ toks = bareS toks ++ [wDot] ∧ cntS ⟨l, bareS toks⟩ 1 0 (bareS toks).length = c := by
  have hv : validS l = true := by
    cases hv : validS l
    · rw [countS_bad hv] at h; cases h
    · rfl
  have h24 : toks.length ≤ 24 := by
    rcases Nat.lt_or_ge 24 toks.length with h2 | h2
    · rw [countS_long hv h2] at h; cases h
    · exact h2
  rw [countS_good hv h24] at h
  have hd : toks.getLast? = some wDot := by
    by_cases hd : toks.getLast? = some wDot
    · exact hd
    · rw [if_neg (by simp [hd])] at h; injection h with h _; omega
  rw [if_pos (by simp [hd])] at h
  refine ⟨hv, h24, ?_, by injection h⟩
  unfold bareS
  rw [if_pos hd]
  obtain ⟨ys, hys⟩ := List.getLast?_eq_some_iff.1 hd
  rw [hys]
  simp
theorem bare_23 {toks : List (List UInt8)} (h : toks = bareS toks ++ [wDot]) (h24 : toks.length ≤ 24) : (bareS toks).length ≤ 23 := by
  have := congrArg List.length h
  simp at this
  omega
/-- What stands in the list of the parses. -/
theorem spoken_mem {l : List Ent} {toks : List (List UInt8)} {c : Nat} (h : countS l toks = (c, 0)) (h0 : 0 < c) (hc : ¬ 64 < c) {x : Tr} (hx : x ∈ (parsesS l toks).1) :
    okAll l x = true ∧ yieldW l x = toks ∧ x.rule ≤ 5 ∧ Slim x := by
  obtain ⟨hv, h24, htk, _⟩ := count_0 h h0
  have h23 := bare_23 htk h24
  rw [parsesS_some h h0 hc] at hx
  have hg := sound (g := ⟨l, bareS toks⟩) hv _ 1 0 (bareS toks).length x (Nat.le_refl _) (by decide) (by decide) (Nat.le_refl _) hx
  have hk : kindS x.rule = 1 := hg.kind
  have hsz := hg.size
  rw [if_pos rfl] at hsz
  refine ⟨?_, ?_, ((kind_rules x.rule).1 hk).2, treesS_slim _ _ _ _ _ hx⟩
  · unfold okAll
    have hs : sizeT x ≤ 200 := by omega
    rw [hv, decide_eq_true hs, show okS l x = true from hg.ok]
    rfl
  · have hw : wordsF l x false = bareS toks := by
      have := hg.words
      rw [show bareK 1 = false from rfl] at this
      refine this.trans ?_
      unfold sl
      simp
    unfold yieldW
    rw [hw, if_pos hk]
    exact htk.symm
theorem spoken_len {l : List Ent} {toks : List (List UInt8)} {c : Nat} (h : countS l toks = (c, 0)) (h0 : 0 < c) (hc : ¬ 64 < c) : (parsesS l toks).1.length = c := by
  rw [parsesS_some h h0 hc]; exact trees_is h h0 hc
theorem spoken_pw {l : List Ent} {toks : List (List UInt8)} {c : Nat} (h : countS l toks = (c, 0)) (h0 : 0 < c) (hc : ¬ 64 < c) : (parsesS l toks).1.Pairwise (Bef l) := by
  obtain ⟨hv, h24, htk, _⟩ := count_0 h h0
  have h23 := bare_23 htk h24
  rw [parsesS_some h h0 hc]
  exact trees_pw (g := ⟨l, bareS toks⟩) hv (by show (bareS toks).length ≤ 100; omega) _ 1 0 _ (Nat.le_refl _) (by decide) (by decide) (Nat.le_refl _)
theorem pw_at {α : Type} {R : α → α → Prop} {l : List α} (h : l.Pairwise R) {i j : Nat} (hij : i < j) (hj : j < l.length) : R (l[i]'(by omega)) l[j] := List.pairwise_iff_getElem.1 h i j (by omega) hj hij

/-! ### A right clause is listed just once -/
/-- How many of the first parses equal a given one. -/
def foundS (ts : List Tr) (t : Tr) (j : Nat) : Nat := (ts.take j).countP fun x => eqT x t
theorem foundS_succ {ts : List Tr} {t : Tr} {j : Nat} (h : j < ts.length) : foundS ts t (j + 1) = foundS ts t j + if eqT ts[j] t = true then 1 else 0 := by
  unfold foundS
  rw [List.take_succ_eq_append_getElem h, List.countP_append, List.countP_singleton]
theorem foundS_le (ts : List Tr) (t : Tr) (j : Nat) : foundS ts t j ≤ ts.length := by
  unfold foundS
  refine Nat.le_trans List.countP_le_length ?_
  rw [List.length_take]
  omega
theorem countT_none {t : Tr} : ∀ ts : List Tr, t ∉ ts → ts.countP (fun x => eqT x t) = 0 := by
  intro ts h
  rw [List.countP_eq_zero]
  intro a ha he
  exact h ((eqT_iff a t).1 he ▸ ha)
theorem countT_once {t : Tr} : ∀ ts : List Tr, ts.Nodup → t ∈ ts → ts.countP (fun x => eqT x t) = 1
  | [], _, h => by cases h
  | a :: ts, hn, h => by
    have hn' := List.nodup_cons.1 hn
    rw [List.countP_cons]
    by_cases ha : a = t
    · subst ha
      rw [countT_none ts hn'.1, if_pos (eqT_refl a)]
    · have hm : t ∈ ts := by
        rcases List.mem_cons.1 h with h | h
        · exact absurd h.symm ha
        · exact h
      rw [countT_once ts hn'.2 hm, if_neg (fun he => ha ((eqT_iff a t).1 he))]
theorem okAll_parts {l : List Ent} {t : Tr} (h : okAll l t = true) : validS l = true ∧ sizeT t ≤ 200 ∧ okS l t = true := by
  unfold okAll at h
  simp only [Bool.and_eq_true, decide_eq_true_eq] at h
  exact ⟨h.1.1, h.1.2, h.2⟩
/-- The words of a right parse end with the period if it is a clause, and then only. -/
theorem yield_last {l : List Ent} {t : Tr} (h : okAll l t = true) : yieldW l t ≠ [] ∧ ((yieldW l t).getLast? = some wDot ↔ kindS t.rule = 1) := by
  obtain ⟨hv, _, hok⟩ := okAll_parts h
  have hp := words_pos t hok false
  have hd := words_dot hv t hok false
  unfold yieldW
  by_cases hk : kindS t.rule = 1
  · rw [if_pos hk]
    exact ⟨by simp, by simp [hk]⟩
  · rw [if_neg hk, List.append_nil]
    refine ⟨hp, fun he => ?_, fun h => absurd h hk⟩
    exact absurd (List.mem_of_getLast? he) hd
theorem yield_bare {l : List Ent} {t : Tr} (hk : kindS t.rule = 1) : bareS (yieldW l t) = wordsF l t false := by
  unfold bareS yieldW
  rw [if_pos hk]
  simp
theorem found_in {l : List Ent} {t : Tr} (h : okAll l t = true) (hk : kindS t.rule = 1) : t ∈ treesS ⟨l, bareS (yieldW l t)⟩ 1 0 (bareS (yieldW l t)).length := by
  obtain ⟨hv, _, hok⟩ := okAll_parts h
  refine FoundT.at (g := ⟨l, bareS (yieldW l t)⟩) (complete hv t) (by decide) (by decide) (Nat.le_refl _) hok hk ?_
  show wordsF l t false = _
  unfold sl
  rw [yield_bare hk]
  simp
/-- The count of the words of a right clause. -/
theorem found_count {l : List Ent} {t : Tr} (h : okAll l t = true) (hk : kindS t.rule = 1) (h24 : (yieldW l t).length ≤ 24) : ∃ c, countS l (yieldW l t) = (c, 0) ∧ 0 < c := by
  obtain ⟨hv, _, hok⟩ := okAll_parts h
  have hin := found_in h hk
  have hl := trees_len ⟨l, bareS (yieldW l t)⟩ _ 1 0 (bareS (yieldW l t)).length (Nat.le_refl _)
  refine ⟨_, countS_good hv h24, ?_⟩
  rw [if_pos (by simp [(yield_last h).2.2 hk])]
  rw [← hl]
  have hp : 0 < (treesS ⟨l, bareS (yieldW l t)⟩ 1 0 (bareS (yieldW l t)).length).length := List.length_pos_of_mem hin
  have hm : (0 : Nat) < most := by decide
  omega
theorem found_once {l : List Ent} {t : Tr} {c : Nat} (h : okAll l t = true) (hk : kindS t.rule = 1) (hc : countS l (yieldW l t) = (c, 0)) (h0 : 0 < c) (h64 : ¬ 64 < c) :
    foundS (parsesS l (yieldW l t)).1 t (parsesS l (yieldW l t)).1.length = 1 := by
  obtain ⟨hv, h24, htk, _⟩ := count_0 hc h0
  have h23 := bare_23 htk h24
  unfold foundS
  rw [List.take_length, parsesS_some hc h0 h64]
  exact countT_once _ (trees_nodup (g := ⟨l, bareS (yieldW l t)⟩) hv (by show (bareS (yieldW l t)).length ≤ 100; omega) (by decide) (by decide) (Nat.le_refl _)) (found_in h hk)

/-- What Count and Parses say, in all five ways. -/
theorem parse_cases (l : List Ent) (toks : List (List UInt8)) : ∃ (c : Nat) (ce : Int) (ts : List Tr) (pe : Int), countS l toks = (c, ce) ∧ parsesS l toks = (ts, pe) ∧ c ≤ most ∧
    ((validS l = false ∧ c = 0 ∧ ce = 2 ∧ ts = [] ∧ pe = 2) ∨ (validS l = true ∧ 24 < toks.length ∧ c = 0 ∧ ce = 3 ∧ ts = [] ∧ pe = 3) ∨ (validS l = true ∧ toks.length ≤ 24 ∧ c = 0 ∧ ce = 0 ∧ ts = [] ∧ pe = 6) ∨
      (validS l = true ∧ toks.length ≤ 24 ∧ 64 < c ∧ ce = 0 ∧ ts = [] ∧ pe = 5) ∨ (validS l = true ∧ toks.length ≤ 24 ∧ 0 < c ∧ c ≤ 64 ∧ ce = 0 ∧ pe = 0 ∧ ts.length = c)) := by
  cases hv : validS l
  · have h := countS_bad (toks := toks) hv
    exact ⟨0, 2, [], 2, h, parsesS_err (by rw [h]) (by decide), Nat.zero_le _, .inl ⟨rfl, rfl, rfl, rfl, rfl⟩⟩
  · rcases Nat.lt_or_ge 24 toks.length with h24 | h24
    · have h := countS_long hv h24
      exact ⟨0, 3, [], 3, h, parsesS_err (by rw [h]) (by decide), Nat.zero_le _, .inr (.inl ⟨rfl, h24, rfl, rfl, rfl, rfl⟩)⟩
    · have h := countS_good hv h24
      obtain ⟨c, hc⟩ : ∃ c, c = (if decide (toks.getLast? = some wDot) = true then cntS ⟨l, bareS toks⟩ 1 0 (bareS toks).length else 0) := ⟨_, rfl⟩
      rw [← hc] at h
      have hm : c ≤ most := by
        rw [hc]
        split
        · exact cntS_le _ _ _ _
        · exact Nat.zero_le _
      by_cases h0 : c = 0
      · subst h0
        exact ⟨0, 0, [], 6, h, parsesS_zero h, Nat.zero_le _, .inr (.inr (.inl ⟨rfl, h24, rfl, rfl, rfl, rfl⟩))⟩
      · by_cases h64 : 64 < c
        · exact ⟨c, 0, [], 5, h, parsesS_many h h64, hm, .inr (.inr (.inr (.inl ⟨rfl, h24, h64, rfl, rfl, rfl⟩)))⟩
        · exact ⟨c, 0, _, 0, h, parsesS_some h (by omega) h64, hm, .inr (.inr (.inr (.inr ⟨rfl, h24, by omega, by omega, rfl, rfl, trees_is h (by omega) h64⟩)))⟩
end Go.Proofs.YthmnffgjckpkiaaGreatDoor
