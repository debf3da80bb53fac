/-
  Plain laws of 'WordsAdds': what is found in a lexicon with one more entry.
-/
import Derived.Test.YtakpkaklcjgdkaaGreatDoorSort
namespace Go.Proofs.YtakpkaklcjgdkaaGreatDoor
open Go Go.RowKit

/-- What was found, without the new place, at the elder places. -/
def shiftF (k : Nat) (f : Nat × Bool) : Option (Nat × Bool) := if f.1 = k then none else some (if k < f.1 then f.1 - 1 else f.1, f.2)
def strip (k : Nat) (fs : List (Nat × Bool)) : List (Nat × Bool) := fs.filterMap (shiftF k)
theorem mem_those {p : Ent → Bool} {l : List Ent} {i : Nat} (h : i ∈ thoseS p l) : i < l.length := by
  unfold thoseS thoseTo at h
  simpa using (List.mem_filter.1 h).1
theorem putAt_lo {l : List Ent} {k : Nat} {e : Ent} {i : Nat} (hk : k ≤ l.length) (h : i < k) : (putAt l k e)[i]? = l[i]? := by
  unfold putAt
  have e1 : (l.take k).length = k := by rw [List.length_take]; omega
  rw [List.getElem?_append_left (by omega), List.getElem?_take_of_lt h]
theorem putAt_hi {l : List Ent} {k : Nat} {e : Ent} {i : Nat} (hk : k ≤ l.length) : (putAt l k e)[k + 1 + i]? = l[k + i]? := by
  unfold putAt
  have e1 : (l.take k).length = k := by rw [List.length_take]; omega
  rw [List.getElem?_append_right (by omega), e1, show k + 1 + i - k = i + 1 by omega, List.singleton_append, List.getElem?_cons_succ, List.getElem?_drop]
theorem putAt_at {l : List Ent} {k : Nat} {e : Ent} (hk : k ≤ l.length) : (putAt l k e)[k]? = some e := by
  unfold putAt
  have e1 : (l.take k).length = k := by rw [List.length_take]; omega
  rw [List.getElem?_append_right (by omega), e1, Nat.sub_self]; rfl
theorem filterMap_all {α β : Type} {f : α → Option β} {g : α → β} : ∀ {l : List α}, (∀ i ∈ l, f i = some (g i)) → l.filterMap f = l.map g
  | [], _ => rfl
  | x :: l, h => by
    rw [List.filterMap_cons, h x (by simp), List.map_cons, filterMap_all (fun i hi => h i (by simp [hi]))]
theorem strip_look {tok : List UInt8} {l : List Ent} {k : Nat} {e : Ent} (hk : k ≤ l.length) : strip k (lookS tok (putAt l k e)) = lookS tok l := by
  have e1 : (l.take k).length = k := by rw [List.length_take]; omega
  unfold strip lookS
  rw [those_put hk, those_cut (p := formS tok) hk, List.map_append, List.map_append, List.map_append, List.filterMap_append, List.filterMap_append]
  have hX : List.filterMap (shiftF k) (List.map (formAt tok (putAt l k e)) (if formS tok e = true then [k] else [])) = [] := by
    split
    · simp [formAt, shiftF]
    · rfl
  rw [hX, List.nil_append, List.map_map, List.map_map, List.filterMap_map, List.filterMap_map]
  congr 1
  · have : ∀ i ∈ thoseS (formS tok) (l.take k), (shiftF k ∘ formAt tok (putAt l k e)) i = some (formAt tok l i) := by
      intro i hi
      have hik : i < k := by have := mem_those hi; omega
      simp only [Function.comp, formAt, shiftF, putAt_lo hk hik]
      rw [if_neg (by omega), if_neg (by omega)]
    exact filterMap_all this
  · have : ∀ i ∈ thoseS (formS tok) (l.drop k), (shiftF k ∘ formAt tok (putAt l k e) ∘ (k + 1 + ·)) i = some ((formAt tok l ∘ (k + ·)) i) := by
      intro i hi
      simp only [Function.comp, formAt, shiftF, putAt_hi hk]
      rw [if_neg (by omega), if_pos (by omega), show k + 1 + i - 1 = k + i by omega]
    exact filterMap_all this
/-- The new entry is found by its own word. -/
theorem look_own {l : List Ent} {k : Nat} {e : Ent} (hk : k ≤ l.length) : (k, false) ∈ lookS e.w (putAt l k e) := by
  unfold lookS
  refine List.mem_map.2 ⟨k, ?_, by simp [formAt, putAt_at hk]⟩
  rw [those_put hk]
  simp [formS]
end Go.Proofs.YtakpkaklcjgdkaaGreatDoor
