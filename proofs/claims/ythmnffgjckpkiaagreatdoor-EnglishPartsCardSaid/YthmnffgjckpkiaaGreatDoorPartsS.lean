/-
  The words of the parts of a right parse stand in its words, one part behind the other (plain).
-/
import Derived.Test.YthmnffgjckpkiaaGreatDoorGPlain
namespace Go.Proofs.YthmnffgjckpkiaaGreatDoor
open Go Go.RowKit

/-- The words p stand in s from place a on. -/
def Fit (s p : List (List UInt8)) (a : Nat) : Prop := (s.drop a).take p.length = p ∧ a + p.length ≤ s.length
theorem fit_at (a p b : List (List UInt8)) : Fit (a ++ (p ++ b)) p a.length := by
  unfold Fit
  refine ⟨by rw [List.drop_left, List.take_left], by simp⟩
/-- Places for all parts. -/
def Places (s : List (List UInt8)) (ps : Nat → List (List UInt8)) (n : Nat) : Prop := ∃ ks : Nat → Nat, ∀ i, i < n → Fit s (ps i) (ks i) ∧ (i + 1 < n → ks i + (ps i).length ≤ ks (i + 1))
theorem places_0 (s : List (List UInt8)) (ps : Nat → List (List UInt8)) : Places s ps 0 := ⟨fun _ => 0, fun i h => by omega⟩
theorem places_1 {s a b : List (List UInt8)} {ps : Nat → List (List UInt8)} (h : s = a ++ (ps 0 ++ b)) : Places s ps 1 := by
  subst h
  refine ⟨fun _ => a.length, fun i hi => ?_⟩
  obtain rfl : i = 0 := by omega
  exact ⟨fit_at a (ps 0) b, fun h => by omega⟩
theorem places_2 {s a m b : List (List UInt8)} {ps : Nat → List (List UInt8)} (h : s = a ++ (ps 0 ++ (m ++ (ps 1 ++ b)))) : Places s ps 2 := by
  subst h
  refine ⟨fun i => if i = 0 then a.length else (a ++ (ps 0 ++ m)).length, fun i hi => ?_⟩
  rcases (show i = 0 ∨ i = 1 by omega) with rfl | rfl
  · refine ⟨fit_at a (ps 0) _, fun _ => ?_⟩
    simp
  · have := fit_at (a ++ (ps 0 ++ m)) (ps 1) b
    refine ⟨?_, fun h => by omega⟩
    simpa using this
/-- The words of the i-th part. -/
def partW (l : List Ent) (sub : List Tr) (i : Nat) : List (List UInt8) := match sub[i]? with | some t => wordsF l t false | none => []
theorem parts_places {l : List Ent} {r e : Int} {w : List UInt8} {sub : List Tr} (h : okS l (.node r e w sub) = true) (h16 : r ≠ 16) : Places (yieldW l (.node r e w sub)) (partW l sub) sub.length := by
  unfold yieldW
  rcases ok_shape h with (⟨hr, _, _, y, z, rfl, hy, hz⟩ | ⟨rfl, _, _, y, z, rfl, hy, hz⟩ | ⟨n, rfl, hn, _, rfl, hr⟩ | ⟨rfl, _, hw, y, rfl, hy⟩ | ⟨n, rfl, hn, _, y, rfl, hy, hr⟩) | (⟨n, rfl, hn, _, hw, ⟨rfl, y, rfl, hy⟩ | ⟨rfl, y, z, rfl, hy, hz⟩⟩ | ⟨rfl, _, _, y, rfl, hy⟩ | ⟨rfl, _, _, y, rfl, hy⟩ | ⟨hr, _, _, y, z, rfl, hy, hz⟩)
  · rw [wordsF_2]
    rcases hr with rfl | rfl | rfl | rfl
    · exact places_2 (a := [wIf]) (m := [wThen]) (b := [wDot]) (by simp [stepW, partW, kindS, shapeS, Tr.rule])
    · exact places_2 (a := []) (m := [wIff]) (b := [wDot]) (by simp [stepW, partW, kindS, shapeS, Tr.rule])
    · exact places_2 (a := []) (m := [wOr]) (b := [wDot]) (by simp [stepW, partW, kindS, shapeS, Tr.rule])
    · exact places_2 (a := []) (m := [wAnd]) (b := [wDot]) (by simp [stepW, partW, kindS, shapeS, Tr.rule])
  · rw [wordsF_2]
    exact places_2 (a := []) (m := []) (b := [wDot]) (by simp [stepW, partW, kindS, shapeS, Tr.rule])
  · exact places_0 _ _
  · rw [wordsF_1]
    have : stepW 7 w (ownW l e) y.rule (wordsF l y false) [] false = (if w = wA then articleS ((wordsF l y false).headD []) else w) :: (wordsF l y false ++ []) := rfl
    rw [show ((7 : Int) == 16) = false from rfl, this]
    exact places_1 (a := [if w = wA then articleS ((wordsF l y false).headD []) else w]) (b := []) (by simp [partW, kindS, shapeS, Tr.rule])
  · rw [wordsF_1]
    rcases hr with ⟨rfl, _⟩ | ⟨rfl, _⟩
    · exact places_1 (a := [ownW l n]) (b := []) (by simp [stepW, partW, kindS, shapeS, Tr.rule])
    · exact places_1 (a := [thirdV (ownW l n)]) (b := []) (by simp [stepW, partW, kindS, shapeS, Tr.rule])
  · rw [wordsF_1]
    exact places_1 (a := [ownW l n, w]) (b := []) (by simp [stepW, partW, kindS, shapeS, Tr.rule])
  · rw [wordsF_2]
    exact places_2 (a := [ownW l n, w]) (m := []) (b := []) (by simp [stepW, partW, kindS, shapeS, Tr.rule])
  · rw [wordsF_1]
    have : stepW 15 w (ownW l e) y.rule (wordsF l y false) [] false = [wIs] ++ articleS ((wordsF l y false).headD []) :: (wordsF l y false ++ []) := rfl
    rw [show ((15 : Int) == 16) = false from rfl, this]
    exact places_1 (a := [wIs, articleS ((wordsF l y false).headD [])]) (b := []) (by simp [partW, kindS, shapeS, Tr.rule])
  · exact absurd rfl h16
  · rw [wordsF_2]
    rcases hr with rfl | rfl
    · exact places_2 (a := []) (m := [wOr]) (b := []) (by simp [stepW, partW, kindS, shapeS, Tr.rule])
    · exact places_2 (a := []) (m := [wAnd]) (b := []) (by simp [stepW, partW, kindS, shapeS, Tr.rule])
/-- Parts of a right parse are right. -/
theorem okAll_sub {l : List Ent} {r e : Int} {w : List UInt8} {sub : List Tr} (h : okAll l (.node r e w sub) = true) : ∀ t ∈ sub, okAll l t = true := by
  intro t ht
  unfold okAll at h ⊢
  simp only [Bool.and_eq_true, decide_eq_true_eq] at h ⊢
  obtain ⟨⟨h1, h2⟩, h3⟩ := h
  obtain ⟨k, hk, rfl⟩ := List.getElem_of_mem ht
  obtain ⟨_, _, hl, _, _, hs, _⟩ := okS_parts h3
  refine ⟨⟨h1, ?_⟩, ?_⟩
  · simp only [sizeT] at h2
    have e1 : ∀ (l : List Tr) (k : Nat) (h : k < l.length), sizeT l[k] ≤ sizesT l := by
      intro l
      induction l with
      | nil => intro k h; simp at h
      | cons a zs ih =>
        intro k h
        cases k with
        | zero => simp [sizesT]
        | succ k => have := ih k (by simpa using h); simp only [sizesT, List.getElem_cons_succ]; omega
    have := e1 sub k hk
    omega
  · have e2 : ∀ (sub : List Tr) (ks : List Nat), sub.length = ks.length → okSubs l sub ks = true → ∀ (k : Nat) (h : k < sub.length), okS l sub[k] = true := by
      intro sub
      induction sub with
      | nil => intro ks _ _ k h; simp at h
      | cons a zs ih =>
        intro ks hl hs k h
        cases ks with
        | nil => simp at hl
        | cons c cs =>
          simp only [okSubs, Bool.and_eq_true, beq_iff_eq] at hs
          cases k with
          | zero => exact hs.1.2
          | succ k => exact ih cs (by simpa using hl) hs.2 k (by simpa using h)
    exact e2 sub _ hl hs k hk
theorem yieldW_pos {l : List Ent} {t : Tr} (h : okS l t = true) : yieldW l t ≠ [] := by
  unfold yieldW
  have := words_pos t h false
  simp [this]
end Go.Proofs.YthmnffgjckpkiaaGreatDoor
