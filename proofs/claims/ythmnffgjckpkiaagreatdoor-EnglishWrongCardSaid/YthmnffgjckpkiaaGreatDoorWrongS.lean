/-
  A right parse with one fault is not right (plain); parses in memory with another head, another part, a part less.
-/
import Derived.Test.YthmnffgjckpkiaaGreatDoorGPlain
import Derived.Test.YthmnffgjckpkiaaGreatDoorGiven34
import Derived.Test.YthmnffgjckpkiaaGreatDoorFew34
import Derived.Test.YthmnffgjckpkiaaGreatDoorRig
namespace Go.Proofs.YthmnffgjckpkiaaGreatDoor
open Go Go.RowKit Go.Shelf

theorem okAll_no {l : List Ent} {t : Tr} (h : okS l t = false) : okAll l t = false := by unfold okAll; rw [h, Bool.and_false]
theorem okAll_ok {l : List Ent} {t : Tr} (h : okAll l t = true) : okS l t = true := by
  unfold okAll at h
  simp only [Bool.and_eq_true] at h
  exact h.2
theorem no_head {l : List Ent} {r e : Int} {w : List UInt8} {sub : List Tr} (h : headT r sub = false) : okS l (.node r e w sub) = false := by rw [okS_eq, h]; rfl
theorem no_entry {l : List Ent} {r e : Int} {w : List UInt8} {sub : List Tr} (h : entryOk l (shapeS r).cat e = false) : okS l (.node r e w sub) = false := by rw [okS_eq, h]; simp
theorem no_word {l : List Ent} {r e : Int} {w : List UInt8} {sub : List Tr} (h : wordOk (shapeS r).words w = false) : okS l (.node r e w sub) = false := by rw [okS_eq, h]; simp
theorem shape_words (r : Int) : (shapeS r).words = [] ∨ (shapeS r).words = [wEvery, wEach, wSome, wNo, wA] ∨ (shapeS r).words = [wWho, wThat] := by
  by_cases hr : 1 ≤ r ∧ r ≤ 19
  · rcases (show r = 1 ∨ r = 2 ∨ r = 3 ∨ r = 4 ∨ r = 5 ∨ r = 6 ∨ r = 7 ∨ r = 8 ∨ r = 9 ∨ r = 10 ∨ r = 11 ∨ r = 12 ∨ r = 13 ∨ r = 14 ∨ r = 15 ∨ r = 16 ∨ r = 17 ∨ r = 18 ∨ r = 19 by omega) with rfl | rfl | rfl | rfl | rfl | rfl | rfl | rfl | rfl | rfl | rfl | rfl | rfl | rfl | rfl | rfl | rfl | rfl | rfl <;> first | exact .inl rfl | exact .inr (.inl rfl) | exact .inr (.inr rfl)
  · refine .inl ?_
    unfold shapeS
    repeat rw [if_neg (by omega)]
/-- A parse with one of eight faults. -/
def badT (l : List Ent) (r e : Int) (w : List UInt8) (sub : List Tr) (j : Nat) : Tr :=
  if j = 0 then .node 0 e w sub
  else if j = 1 then .node 20 e w sub
  else if j = 2 then .node r (-1) w sub
  else if j = 3 then .node r (l.length : Int) w sub
  else if j = 4 then .node r e (w ++ [120]) sub
  else if j = 5 then .node r e w (sub ++ [.node 6 0 [] []])
  else if j = 6 then (match sub with | [] => .node 18 e w [] | _ :: ys => .node r e w ys)
  else .node 16 0 [] [.node 16 0 [] [.node r e w sub]]
theorem headT_len {r : Int} {sub : List Tr} (h : headT r sub = true) : sub.length = (shapeS r).parts.length := by
  unfold headT at h
  simp only [Bool.and_eq_true, beq_iff_eq] at h
  exact h.2
theorem headT_no {r : Int} {sub : List Tr} (h : sub.length ≠ (shapeS r).parts.length) : headT r sub = false := by
  unfold headT
  rw [show (sub.length == (shapeS r).parts.length) = false by simpa using h, Bool.and_false]
/-- **With one fault it is not right any more.** -/
theorem bad_wrong {l : List Ent} {r e : Int} {w : List UInt8} {sub : List Tr} (h : okAll l (.node r e w sub) = true) (j : Nat) (h3 : j = 3 → l ≠ []) : okAll l (badT l r e w sub j) = false := by
  apply okAll_no
  have h := okAll_ok h
  rw [okS_eq] at h
  simp only [Bool.and_eq_true] at h
  obtain ⟨⟨⟨⟨hh, he⟩, hw⟩, hs⟩, hl⟩ := h
  unfold badT
  repeat' split
  · exact no_head (by unfold headT; rw [show kindS 0 = 0 by decide]; rfl)
  · exact no_head (by unfold headT; rw [show kindS 20 = 0 by decide]; rfl)
  · refine no_entry ?_
    unfold entryOk
    split
    · decide
    · rw [decide_eq_false (by omega)]; rfl
  · rename_i hj
    have hne := h3 hj
    have hpos : 0 < l.length := List.length_pos_iff.2 hne
    refine no_entry ?_
    unfold entryOk
    split
    · simp; omega
    · rw [decide_eq_false (show ¬ ((l.length : Int) < l.length) by omega)]; simp
  · refine no_word ?_
    rcases shape_words r with h | h | h
    · rw [h] at hw ⊢
      unfold wordOk
      simp
    · rw [h] at hw ⊢
      rcases word_five hw with h | h | h | h | h <;> rw [h] <;> decide
    · rw [h] at hw ⊢
      rcases word_two hw with h | h <;> rw [h] <;> decide
  · refine no_head (headT_no ?_)
    have := headT_len hh
    rw [List.length_append]
    simp
    omega
  · exact no_head (headT_no (by decide))
  · have := headT_len hh
    refine no_head (headT_no ?_)
    simp at this
    omega
  · rw [okS_eq]
    unfold lastT
    simp [firstRule, Tr.rule]

theorem slim_of : ∀ (t : Tr), sizeT t ≤ 1000 → Slim t := by
  intro t
  induction t using Tr.ind with
  | h r e w sub ih =>
    intro h
    simp only [sizeT] at h
    have hl := len_sizes sub sub.length (Nat.le_refl _)
    rw [List.take_length] at hl
    refine .mk _ _ _ _ (by omega) (fun t ht => ih t ht ?_)
    obtain ⟨k, hk, rfl⟩ := List.getElem_of_mem ht
    have h1 := sizesT_take sub k hk
    have h2 := sizesT_le sub (k + 1)
    omega
theorem slim_few {t : Tr} (h : fewS t = true) : Slim t := by
  unfold fewS at h
  simp only [Bool.and_eq_true, decide_eq_true_eq] at h
  exact slim_of t (by omega)

/-! ### Parses in memory, changed -/
theorem TreeV.head {W : World} {r e : Int} {w : ByteArray} {s : Value} {r1 e1 : Int} {w1 : List UInt8} {sub : List Tr} (h : TreeV (fun _ => True) W (.agg #[.int .u8 r, .int .i64 e, .string w, s]) (.node r1 e1 w1 sub)) :
    r = r1 ∧ e = e1 ∧ w = ⟨w1.toArray⟩ ∧ ∀ (r' e' : Int) (w' : List UInt8), TreeV (fun _ => True) W (.agg #[.int .u8 r', .int .i64 e', .string ⟨w'.toArray⟩, s]) (.node r' e' w' sub) := by
  cases h with
  | mk _ _ _ _ a cap vs hs hv => exact ⟨rfl, rfl, rfl, fun r' e' w' => .mk r' e' w' sub a cap vs hs hv⟩
theorem TreeV.len {W : World} {r e : Int} {w : ByteArray} {a : Option Addr} {n cap : Nat} {r1 e1 : Int} {w1 : List UInt8} {sub : List Tr} (h : TreeV (fun _ => True) W (.agg #[.int .u8 r, .int .i64 e, .string w, .slice a n cap]) (.node r1 e1 w1 sub)) : n = sub.length := by
  cases h; rfl
/-- A part less. -/
theorem TreeV.less {W : World} {r e : Int} {w : List UInt8} {b off n cap n' cap' : Nat} {y : Tr} {ys : List Tr} (h : TreeV (fun _ => True) W (.agg #[.int .u8 r, .int .i64 e, .string ⟨w.toArray⟩, .slice (some ⟨b, off, none⟩) n cap]) (.node r e w (y :: ys))) (hn : n' + 1 = n) :
    TreeV (fun _ => True) W (.agg #[.int .u8 r, .int .i64 e, .string ⟨w.toArray⟩, .slice (some ⟨b, off + 4, none⟩) n' cap']) (.node r e w ys) := by
  cases h with
  | mk _ _ _ _ _ _ vs hs hv =>
    obtain rfl : n' = ys.length := by simp only [List.length_cons] at hn; omega
    refine .mk r e w ys _ cap' (fun j => vs (j + 1)) ?_ (fun j hj => hv (j + 1) (by simp; omega))
    rcases hs with h0 | ⟨b', off', ha, _, hc⟩
    · cases h0
    · simp only [Option.some.injEq, Addr.mk.injEq, and_true] at ha
      obtain ⟨rfl, rfl⟩ := ha
      refine .inr ⟨b, off + 4, rfl, trivial, fun j hj => ?_⟩
      have := hc (j + 1) (by simp; omega)
      rw [show off + 4 + j * 4 = off + (j + 1) * 4 by omega]
      exact this
/-- A parse over one part. -/
theorem TreeV.over {W : World} {r e : Int} {w : List UInt8} {b cap : Nat} {q : TV} {t : Tr} (h : TreeV (fun _ => True) W (TV.val q) t) (hc : W.heap[b]? = some (.cells #[.int .u8 q.r, .int .i64 q.e, .string q.w, .slice q.a q.n q.c] 36 (0, 0))) :
    TreeV (fun _ => True) W (.agg #[.int .u8 r, .int .i64 e, .string ⟨w.toArray⟩, .slice (some ⟨b, 0, none⟩) 1 cap]) (.node r e w [t]) := by
  refine .mk r e w [t] _ cap (fun _ => TV.val q) (.inr ⟨b, 0, rfl, trivial, fun j hj => ?_⟩) (fun j hj => ?_)
  · have : j = 0 := by simp at hj; omega
    subst this
    exact ⟨_, _, _, _, rfl, (cell_rowC hc _).trans rfl, (cell_rowC hc _).trans rfl, (cell_rowC hc _).trans rfl, (cell_rowC hc _).trans rfl⟩
  · have : j = 0 := by simp at hj; omega
    subst this
    exact h
theorem TreeV.leaf (W : World) (r e : Int) (w : List UInt8) (cap : Nat) : TreeV (fun _ => True) W (.agg #[.int .u8 r, .int .i64 e, .string ⟨w.toArray⟩, .slice none 0 cap]) (.node r e w []) :=
  TreeV.mk (W := W) r e w [] none cap (fun _ => .bool false) (.inl rfl) (fun j hj => by simp at hj)
theorem TreeI.leaf (W : World) (r e : Int) (w : List UInt8) (lo hi : Nat) : TreeI W (.agg #[.int .u8 r, .int .i64 e, .string ⟨w.toArray⟩, .slice none 0 0]) (.node r e w []) lo hi :=
  TreeI.mk (W := W) r e w [] none 0 lo hi 0 (fun _ => .bool false) (fun _ => 0) (fun _ => 0) (.inl rfl) (fun j hj => by simp at hj) (fun j hj => by simp at hj) (fun i j _ hj => by simp at hj) (fun j hj => by simp at hj)
end Go.Proofs.YthmnffgjckpkiaaGreatDoor
