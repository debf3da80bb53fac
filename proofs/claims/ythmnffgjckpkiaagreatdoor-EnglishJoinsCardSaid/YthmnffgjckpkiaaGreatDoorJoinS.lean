/-
  The plain law of 'EnglishJoins': two sentences joined have the parses of both, multiplied.
-/
import Derived.Test.YthmnffgjckpkiaaGreatDoorJoinB
import Derived.Test.YthmnffgjckpkiaaGreatDoorSpokenS
namespace Go.Proofs.YthmnffgjckpkiaaGreatDoor
open Go Go.RowKit Go.Shelf

theorem sub_len {α : Type} : ∀ {a b : List α}, a.Nodup → (∀ x ∈ a, x ∈ b) → a.length ≤ b.length
  | [], _, _, _ => by simp
  | x :: a, b, hn, h => by
    obtain ⟨s, t, rfl⟩ := List.append_of_mem (h x (by simp))
    have hn' := List.nodup_cons.1 hn
    have := sub_len (a := a) (b := s ++ t) hn'.2 (fun y hy => by
      have := h y (by simp [hy])
      simp only [List.mem_append, List.mem_cons] at this ⊢
      rcases this with h1 | rfl | h1
      · exact .inl h1
      · exact absurd hy hn'.1
      · exact .inr h1)
    simp only [List.length_append, List.length_cons] at this ⊢
    omega
def pairsT (r : Int) (A B : List Tr) : List Tr := A.flatMap fun a => B.map fun b => .node r 0 [] [a, b]
theorem pairsT_len (r : Int) (A B : List Tr) : (pairsT r A B).length = A.length * B.length := by
  unfold pairsT
  induction A with
  | nil => simp
  | cons a A ih => rw [List.flatMap_cons, List.length_append, ih, List.length_map, List.length_cons, Nat.add_mul, Nat.one_mul, Nat.add_comm]
theorem pairsT_mem {r : Int} {A B : List Tr} {x : Tr} : x ∈ pairsT r A B ↔ ∃ a ∈ A, ∃ b ∈ B, x = .node r 0 [] [a, b] := by
  unfold pairsT
  constructor
  · intro h
    obtain ⟨a, ha, h⟩ := List.mem_flatMap.1 h
    obtain ⟨b, hb, rfl⟩ := List.mem_map.1 h
    exact ⟨a, ha, b, hb, rfl⟩
  · rintro ⟨a, ha, b, hb, rfl⟩
    exact List.mem_flatMap.2 ⟨a, ha, List.mem_map.2 ⟨b, hb, rfl⟩⟩
theorem pairsT_nodup (r : Int) {A B : List Tr} (ha : A.Nodup) (hb : B.Nodup) : (pairsT r A B).Nodup := by
  induction A with
  | nil => exact List.nodup_nil
  | cons a A ih =>
    have ha' := List.nodup_cons.1 ha
    have h1 : (B.map fun b => Tr.node r 0 [] [a, b]).Nodup := by
      rw [List.Nodup, List.pairwise_map]
      refine hb.imp (fun hne he => hne ?_)
      injection he with _ _ _ he
      injection he with _ he
      injection he with he
    show ((B.map fun b => Tr.node r 0 [] [a, b]) ++ pairsT r A B).Nodup
    refine List.nodup_append.2 ⟨h1, ih ha'.2, ?_⟩
    intro x hx y hy he
    obtain ⟨b, _, rfl⟩ := List.mem_map.1 hx
    obtain ⟨a', ha2, b', _, rfl⟩ := pairsT_mem.1 hy
    injection he with _ _ _ he
    injection he with he
    exact ha'.1 (he ▸ ha2)

/-- The word between, and the rule that it makes. -/
def Glue (w : List UInt8) (r : Int) : Prop := (w = wThen ∧ r = 1) ∨ (w = wIff ∧ r = 2) ∨ (w = wOr ∧ r = 3) ∨ (w = wAnd ∧ r = 4)
def bothS (w : List UInt8) (s t : List (List UInt8)) : List (List UInt8) := (if w = wThen then [wIf] else []) ++ s.dropLast ++ [w] ++ t
theorem ok_two {l : List Ent} {r : Int} {a b : Tr} (hr : r = 1 ∨ r = 2 ∨ r = 3 ∨ r = 4) (ha : kindS a.rule = 1 ∧ okS l a = true) (hb : kindS b.rule = 1 ∧ okS l b = true) : okS l (.node r 0 [] [a, b]) = true := by
  have hs := subs_2 ha.1 ha.2 hb.1 hb.2
  rcases hr with rfl | rfl | rfl | rfl <;> (unfold okS; rw [show (shapeS _).parts = [1, 1] from rfl, hs]; rfl)
theorem kind_two {r : Int} (hr : r = 1 ∨ r = 2 ∨ r = 3 ∨ r = 4) : kindS r = 1 := by
  rcases hr with rfl | rfl | rfl | rfl <;> rfl
theorem Glue.rules {w : List UInt8} {r : Int} (h : Glue w r) : r = 1 ∨ r = 2 ∨ r = 3 ∨ r = 4 := by
  rcases h with ⟨_, h⟩ | ⟨_, h⟩ | ⟨_, h⟩ | ⟨_, h⟩ <;> omega
theorem both_bare {w : List UInt8} {s t : List (List UInt8)} (hs : s = bareS s ++ [wDot]) (ht : t = bareS t ++ [wDot]) :
    bothS w s t = ((if w = wThen then [wIf] else []) ++ bareS s ++ [w] ++ bareS t) ++ [wDot] ∧ bareS (bothS w s t) = (if w = wThen then [wIf] else []) ++ bareS s ++ [w] ++ bareS t := by
  have hd : s.dropLast = bareS s := by
    have : s.getLast? = some wDot := by rw [hs]; simp
    unfold bareS; rw [if_pos this]
  have h1 : bothS w s t = ((if w = wThen then [wIf] else []) ++ bareS s ++ [w] ++ bareS t) ++ [wDot] := by
    unfold bothS
    rw [hd]
    conv => lhs; rw [ht]
    simp only [List.append_assoc]
  refine ⟨h1, ?_⟩
  rw [h1]
  generalize ((if w = wThen then [wIf] else []) ++ bareS s ++ [w] ++ bareS t) = X
  unfold bareS
  rw [if_pos (by simp)]
  simp
theorem joins_mem {l : List Ent} (hv : validS l = true) {w : List UInt8} {r : Int} (hg : Glue w r) {s t : List (List UInt8)} (hs : s = bareS s ++ [wDot]) (ht : t = bareS t ++ [wDot]) {a b : Tr}
    (ha : a ∈ treesS ⟨l, bareS s⟩ 1 0 (bareS s).length) (hb : b ∈ treesS ⟨l, bareS t⟩ 1 0 (bareS t).length) :
    Tr.node r 0 [] [a, b] ∈ treesS ⟨l, bareS (bothS w s t)⟩ 1 0 (bareS (bothS w s t)).length := by
  have ga := sound (g := ⟨l, bareS s⟩) hv _ 1 0 _ a (Nat.le_refl _) (by decide) (by decide) (Nat.le_refl _) ha
  have gb := sound (g := ⟨l, bareS t⟩) hv _ 1 0 _ b (Nat.le_refl _) (by decide) (by decide) (Nat.le_refl _) hb
  have wa : wordsF l a false = bareS s := by
    have := ga.words
    rw [show bareK 1 = false from rfl] at this
    refine this.trans ?_
    unfold sl; simp
  have wb : wordsF l b false = bareS t := by
    have := gb.words
    rw [show bareK 1 = false from rfl] at this
    refine this.trans ?_
    unfold sl; simp
  refine FoundT.at (g := ⟨l, bareS (bothS w s t)⟩) (complete hv _) (by decide) (by decide) (Nat.le_refl _) (ok_two hg.rules ⟨ga.kind, ga.ok⟩ ⟨gb.kind, gb.ok⟩) (kind_two hg.rules) ?_
  have hsl : sl ⟨l, bareS (bothS w s t)⟩ 0 (bareS (bothS w s t)).length = bareS (bothS w s t) := by unfold sl; simp
  rw [hsl, (both_bare hs ht).2, wordsF_2]
  rcases hg with ⟨rfl, rfl⟩ | ⟨rfl, rfl⟩ | ⟨rfl, rfl⟩ | ⟨rfl, rfl⟩
  · rw [if_pos rfl]
    show stepW 1 [] _ _ (wordsF l a false) (wordsF l b false) false = _
    rw [wa, wb]
    show wIf :: (bareS s ++ wThen :: bareS t) = _
    simp
  · rw [if_neg (by decide)]
    show stepW 2 [] _ _ (wordsF l a false) (wordsF l b false) false = _
    rw [wa, wb]
    show bareS s ++ wIff :: bareS t = _
    simp
  · rw [if_neg (by decide)]
    show stepW 3 [] _ _ (wordsF l a false) (wordsF l b false) false = _
    rw [wa, wb]
    show bareS s ++ wOr :: bareS t = _
    simp
  · rw [if_neg (by decide)]
    show stepW 4 [] _ _ (wordsF l a false) (wordsF l b false) false = _
    rw [wa, wb]
    show bareS s ++ wAnd :: bareS t = _
    simp
theorem both_len {w : List UInt8} {s t : List (List UInt8)} (hs : s.length ≤ 10) (ht : t.length ≤ 10) : (bothS w s t).length ≤ 24 := by
  unfold bothS
  split <;> simp <;> omega
/-- A sentence of nine words has at most a thousand parses. -/
theorem few_parses {l : List Ent} {s : List (List UInt8)} {m : Nat} (h : countS l s = (m, 0)) (h0 : 0 < m) (hs : s.length ≤ 10) : m ≤ 1000 ∧ (treesS ⟨l, bareS s⟩ 1 0 (bareS s).length).length = m := by
  obtain ⟨hv, _, htk, hc⟩ := count_0 h h0
  have hb : (bareS s).length < 10 := by
    have := congrArg List.length htk
    simp at this
    omega
  have h1 := cnt_bound (g := ⟨l, bareS s⟩) hv (bareS s).length hb 1 0 (bareS s).length (by omega) (by decide) (by decide) (Nat.le_refl _)
  have h2 := tab_small (bareS s).length hb (qn ⟨l, bareS s⟩ 0 (bareS s).length) (by have := qn_le ⟨l, bareS s⟩ (f := 0) (t := (bareS s).length) (Nat.le_refl _); omega)
  have hm : m ≤ 1000 := by rw [← hc]; exact Nat.le_trans h1 h2
  refine ⟨hm, ?_⟩
  have hmm : (1000 : Nat) < most := by decide
  rw [trees_count _ (by rw [hc]; omega), hc]
theorem joins_count {l : List Ent} {w : List UInt8} {r : Int} (hg : Glue w r) {s t : List (List UInt8)} {m n : Nat} (hs : countS l s = (m, 0)) (ht : countS l t = (n, 0)) (hm : 0 < m) (hn : 0 < n) (h10 : s.length ≤ 10) (k10 : t.length ≤ 10) :
    ∃ k, countS l (bothS w s t) = (k, 0) ∧ m * n ≤ k ∧ k ≤ most := by
  obtain ⟨hv, _, hsd, _⟩ := count_0 hs hm
  obtain ⟨_, _, htd, _⟩ := count_0 ht hn
  obtain ⟨m1, m2⟩ := few_parses hs hm h10
  obtain ⟨n1, n2⟩ := few_parses ht hn k10
  have hb := both_bare (w := w) hsd htd
  have hlast : (bothS w s t).getLast? = some wDot := by rw [hb.1, List.getLast?_append]; rfl
  have hcs := countS_good hv (both_len (w := w) h10 k10)
  rw [if_pos (by simp [hlast])] at hcs
  refine ⟨_, hcs, ?_, cntS_le _ _ _ _⟩
  have hsub := sub_len (a := pairsT r (treesS ⟨l, bareS s⟩ 1 0 (bareS s).length) (treesS ⟨l, bareS t⟩ 1 0 (bareS t).length)) (b := treesS ⟨l, bareS (bothS w s t)⟩ 1 0 (bareS (bothS w s t)).length)
    (pairsT_nodup r (trees_nodup (g := ⟨l, bareS s⟩) hv (by have := bare_23 hsd (by omega); show (bareS s).length ≤ 100; omega) (by decide) (by decide) (Nat.le_refl _)) (trees_nodup (g := ⟨l, bareS t⟩) hv (by have := bare_23 htd (by omega); show (bareS t).length ≤ 100; omega) (by decide) (by decide) (Nat.le_refl _)))
    (fun x hx => by
      obtain ⟨a, ha, b, hb, rfl⟩ := pairsT_mem.1 hx
      exact joins_mem hv hg hsd htd ha hb)
  rw [pairsT_len, m2, n2] at hsub
  have hl := trees_len ⟨l, bareS (bothS w s t)⟩ _ 1 0 (bareS (bothS w s t)).length (Nat.le_refl _)
  rw [← hl]
  have hmn : m * n ≤ 1000 * 1000 := Nat.mul_le_mul m1 n1
  have hmost : most = 1000 * 1000 := by decide
  omega
theorem joins_in {l : List Ent} {w : List UInt8} {r : Int} (hg : Glue w r) {s t : List (List UInt8)} {m n k : Nat} (hs : countS l s = (m, 0)) (ht : countS l t = (n, 0)) (hm : 0 < m) (hn : 0 < n) (hk : countS l (bothS w s t) = (k, 0)) (hmn : m * n ≤ k) (h64 : ¬ 64 < k) :
    (parsesS l s).1.length = m ∧ (parsesS l t).1.length = n ∧ (parsesS l (bothS w s t)).2 = 0 ∧ (parsesS l (bothS w s t)).1.length = k ∧
      ∀ a ∈ (parsesS l s).1, ∀ b ∈ (parsesS l t).1, Tr.node r 0 [] [a, b] ∈ (parsesS l (bothS w s t)).1 := by
  obtain ⟨hv, _, hsd, _⟩ := count_0 hs hm
  obtain ⟨_, _, htd, _⟩ := count_0 ht hn
  have hmk : m ≤ m * n := Nat.le_mul_of_pos_right m hn
  have hnk : n ≤ m * n := Nat.le_mul_of_pos_left n hm
  have hk0 : 0 < k := by omega
  refine ⟨spoken_len hs hm (by omega), spoken_len ht hn (by omega), ?_, spoken_len hk hk0 h64, ?_⟩
  · rw [parsesS_some hk hk0 h64]
  · intro a ha b hb
    rw [parsesS_some hs hm (by omega)] at ha
    rw [parsesS_some ht hn (by omega)] at hb
    rw [parsesS_some hk hk0 h64]
    exact joins_mem hv hg hsd htd ha hb
end Go.Proofs.YthmnffgjckpkiaaGreatDoor
