/-
  What package english computes, as plain functions: parses, rows, openings, the count of parses, the parses in their order.
-/
import Derived.Test.YthmnffgjckpkiaaGreatDoorLook
namespace Go.Proofs.YthmnffgjckpkiaaGreatDoor
open Go Go.RowKit

/-- A parse. -/
inductive Tr where
  | node (rule : Int) (entry : Int) (word : List UInt8) (sub : List Tr)
def Tr.rule : Tr → Int | .node r _ _ _ => r
def Tr.entry : Tr → Int | .node _ e _ _ => e
def Tr.word : Tr → List UInt8 | .node _ _ w _ => w
def Tr.sub : Tr → List Tr | .node _ _ _ s => s
theorem Tr.ind {p : Tr → Prop} (h : ∀ r e w sub, (∀ t ∈ sub, p t) → p (.node r e w sub)) : ∀ t, p t := by
  intro t
  exact Tr.rec (motive_1 := p) (motive_2 := fun l => ∀ t ∈ l, p t) (fun r e w sub ih => h r e w sub ih) (fun t ht => by cases ht) (fun t l h1 h2 u hu => by
    rcases List.mem_cons.1 hu with rfl | hu
    · exact h1
    · exact h2 u hu) t

/-- Fixed words. -/
def wIf : List UInt8 := [105, 102]
def wThen : List UInt8 := [116, 104, 101, 110]
def wIff : List UInt8 := [105, 102, 102]
def wOr : List UInt8 := [111, 114]
def wAnd : List UInt8 := [97, 110, 100]
def wIs : List UInt8 := [105, 115]
def wDoes : List UInt8 := [100, 111, 101, 115]
def wNot : List UInt8 := [110, 111, 116]
def wEvery : List UInt8 := [101, 118, 101, 114, 121]
def wEach : List UInt8 := [101, 97, 99, 104]
def wSome : List UInt8 := [115, 111, 109, 101]
def wNo : List UInt8 := [110, 111]
def wA : List UInt8 := [97]
def wWho : List UInt8 := [119, 104, 111]
def wThat : List UInt8 := [116, 104, 97, 116]
def wDot : List UInt8 := [46]

/-- A way to read the words ahead of the parts. -/
structure Opn where
  entry : Nat
  word : List UInt8
  «at» : Nat
deriving DecidableEq
/-- A row of the table. -/
structure RowS where
  rule : Nat
  kind : Nat
  opn : Nat → Nat → List Opn
  parts : List Nat
  glue : List UInt8

/-- What the grammar parses with: a lexicon and tokens. -/
structure Gr where
  l : List Ent
  toks : List (List UInt8)

def catAt (l : List Ent) (i : Nat) : Int := match l[i]? with | some e => e.cat | none => 0
def saysS (g : Gr) (list : List (List UInt8)) (f t : Nat) : List Opn :=
  if f + list.length ≤ t ∧ (g.toks.drop f).take list.length = list then [⟨0, [], f + list.length⟩] else []
def entryS (g : Gr) (cat : Int) (third : Bool) (f t : Nat) : List Opn :=
  if t ≤ f then [] else ((lookS (g.toks.getD f []) g.l).filter fun x => x.2 == third && catAt g.l x.1 == cat).map fun x => ⟨x.1, [], f + 1⟩
def behindS (g : Gr) (word : List UInt8) (op : Nat → Nat → List Opn) (f t : Nat) : List Opn :=
  if t ≤ f ∨ g.toks.getD f [] ≠ word then [] else op (f + 1) t
def artS (g : Gr) (f t : Nat) : List Opn :=
  if t ≤ f + 1 ∨ g.toks.getD f [] ≠ articleS (g.toks.getD (f + 1) []) then [] else [⟨0, [], f + 1⟩]
def detS (g : Gr) (f t : Nat) : List Opn :=
  if t ≤ f then [] else if g.toks.getD f [] ∈ [wEvery, wEach, wSome, wNo] then [⟨0, g.toks.getD f [], f + 1⟩] else (artS g f t).map fun o => { o with word := wA }
def relS (g : Gr) (f t : Nat) : List Opn :=
  if t ≤ f + 1 then [] else if g.toks.getD (f + 1) [] ≠ wWho ∧ g.toks.getD (f + 1) [] ≠ wThat then [] else (entryS g 1 false f t).map fun o => { o with word := g.toks.getD (f + 1) [], «at» := f + 2 }

def rowsS (g : Gr) : List RowS := [
  ⟨1, 1, saysS g [wIf], [1, 1], wThen⟩,
  ⟨2, 1, saysS g [], [1, 1], wIff⟩,
  ⟨3, 1, saysS g [], [1, 1], wOr⟩,
  ⟨4, 1, saysS g [], [1, 1], wAnd⟩,
  ⟨5, 1, saysS g [], [2, 4], []⟩,
  ⟨6, 2, entryS g 3 false, [], []⟩,
  ⟨7, 2, detS g, [3], []⟩,
  ⟨8, 3, entryS g 1 false, [], []⟩,
  ⟨9, 3, entryS g 2 false, [3], []⟩,
  ⟨10, 3, relS g, [4], []⟩,
  ⟨11, 3, relS g, [2, 5], []⟩,
  ⟨12, 4, entryS g 4 true, [], []⟩,
  ⟨12, 6, entryS g 4 false, [], []⟩,
  ⟨13, 4, entryS g 5 true, [2], []⟩,
  ⟨13, 6, entryS g 5 false, [2], []⟩,
  ⟨14, 4, behindS g wIs (entryS g 2 false), [], []⟩,
  ⟨14, 7, entryS g 2 false, [], []⟩,
  ⟨15, 4, behindS g wIs (artS g), [3], []⟩,
  ⟨15, 7, artS g, [3], []⟩,
  ⟨16, 4, saysS g [wDoes, wNot], [6], []⟩,
  ⟨16, 4, saysS g [wIs, wNot], [7], []⟩,
  ⟨17, 4, saysS g [], [4, 4], wOr⟩,
  ⟨18, 4, saysS g [], [4, 4], wAnd⟩,
  ⟨19, 5, entryS g 5 true, [], []⟩]

/-- Where the first one of two parts can end, and where the second one begins then. -/
def splitAt (g : Gr) (glue : List UInt8) (e : Nat) : Option (Nat × Nat) :=
  if glue = [] then some (e, e) else if g.toks.getD e [] = glue then some (e, e + 1) else none
def splitsS (g : Gr) (glue : List UInt8) (f t : Nat) : List (Nat × Nat) := ((List.range (t - (f + 1))).map (· + (f + 1))).filterMap (splitAt g glue)

abbrev most : Nat := 1000000
/-- In how many ways two parts stand at the places so far, most at most. -/
def pairStep (c : Nat → Nat → Nat → Nat) (k1 k2 f t : Nat) (n : Nat) (s : Nat × Nat) : Nat :=
  if 0 < c k1 f s.1 then min most (n + min most (c k1 f s.1 * c k2 s.2 t)) else n
def partsF (c : Nat → Nat → Nat → Nat) (g : Gr) (r : RowS) (f t : Nat) : Nat :=
  match r.parts with
  | [] => if f = t then 1 else 0
  | [k] => c k f t
  | k1 :: k2 :: _ => (splitsS g r.glue f t).foldl (pairStep c k1 k2 f t) 0
/-- What the openings of one row, and of all rows of a kind, add. -/
def opnStep (p : RowS → Nat → Nat → Nat) (r : RowS) (t : Nat) (n : Nat) (o : Opn) : Nat := min most (n + p r o.at t)
def rowStep (p : RowS → Nat → Nat → Nat) (k f t : Nat) (n : Nat) (r : RowS) : Nat := if r.kind = k then (r.opn f t).foldl (opnStep p r t) n else n
def cntF (g : Gr) : Nat → Nat → Nat → Nat → Nat
  | 0, _, _, _ => 0
  | d + 1, k, f, t => if t ≤ f then 0 else (rowsS g).foldl (rowStep (partsF (cntF g d) g) k f t) 0
/-- How many parses of a kind there are for some tokens, most at most. -/
def cntS (g : Gr) (k f t : Nat) : Nat := cntF g (t - f) k f t
def partsS (g : Gr) (r : RowS) (f t : Nat) : Nat := partsF (cntS g) g r f t

/-- The parses by a row that is opened in one way. -/
def fillF (T : Nat → Nat → Nat → List Tr) (g : Gr) (r : RowS) (o : Opn) (t : Nat) : List Tr :=
  match r.parts with
  | [] => [.node r.rule o.entry o.word []]
  | [k] => (T k o.at t).map fun x => .node r.rule o.entry o.word [x]
  | k1 :: k2 :: _ => (splitsS g r.glue o.at t).flatMap fun s => if 0 < cntS g k2 s.2 t then (T k1 o.at s.1).flatMap fun x => (T k2 s.2 t).map fun y => .node r.rule o.entry o.word [x, y] else []
def rowTrees (T : Nat → Nat → Nat → List Tr) (g : Gr) (k f t : Nat) (r : RowS) : List Tr :=
  if r.kind = k then (r.opn f t).flatMap fun o => if 0 < partsS g r o.at t then fillF T g r o t else [] else []
def treesF (g : Gr) : Nat → Nat → Nat → Nat → List Tr
  | 0, _, _, _ => []
  | d + 1, k, f, t => if cntS g k f t = 0 then [] else (rowsS g).flatMap (rowTrees (treesF g d) g k f t)
def treesS (g : Gr) (k f t : Nat) : List Tr := treesF g (t - f) k f t
def fillS (g : Gr) (r : RowS) (o : Opn) (t : Nat) : List Tr := fillF (treesS g) g r o t

/-- The tokens without the period; none if it is not there. -/
def bareS (toks : List (List UInt8)) : List (List UInt8) := if toks.getLast? = some wDot then toks.dropLast else []
def countS (l : List Ent) (toks : List (List UInt8)) : Nat × Int :=
  if !validS l then (0, 2) else if 24 < toks.length then (0, 3) else
    (if toks.getLast? = some wDot then cntS ⟨l, bareS toks⟩ 1 0 (bareS toks).length else 0, 0)
def parsesS (l : List Ent) (toks : List (List UInt8)) : List Tr × Int :=
  if (countS l toks).2 ≠ 0 then ([], (countS l toks).2) else if (countS l toks).1 = 0 then ([], 6) else if 64 < (countS l toks).1 then ([], 5) else
    (treesS ⟨l, bareS toks⟩ 1 0 (bareS toks).length, 0)

/-! ### The count and the parses do not depend on how deep the recursion may go -/
theorem entryS_at {g : Gr} {c : Int} {b : Bool} {f t : Nat} {o : Opn} (h : o ∈ entryS g c b f t) : o.at = f + 1 ∧ f < t := by
  unfold entryS at h
  split at h
  · cases h
  · obtain ⟨x, _, rfl⟩ := List.mem_map.1 h; exact ⟨rfl, by omega⟩
theorem artS_at {g : Gr} {f t : Nat} {o : Opn} (h : o ∈ artS g f t) : o.at = f + 1 ∧ f + 1 < t := by
  unfold artS at h
  split at h
  · cases h
  · rename_i hn; obtain rfl := List.mem_singleton.1 h; exact ⟨rfl, by omega⟩
theorem saysS_at {g : Gr} {ws : List (List UInt8)} {f t : Nat} {o : Opn} (h : o ∈ saysS g ws f t) : o.at = f + ws.length ∧ f + ws.length ≤ t := by
  unfold saysS at h
  split at h
  · rename_i hn; obtain rfl := List.mem_singleton.1 h; exact ⟨rfl, hn.1⟩
  · cases h
theorem behindS_at {g : Gr} {w : List UInt8} {op : Nat → Nat → List Opn} {f t : Nat} {o : Opn} (h : o ∈ behindS g w op f t) : o ∈ op (f + 1) t ∧ f < t := by
  unfold behindS at h
  split at h
  · cases h
  · exact ⟨h, by omega⟩
theorem detS_at {g : Gr} {f t : Nat} {o : Opn} (h : o ∈ detS g f t) : o.at = f + 1 ∧ f < t := by
  unfold detS at h
  split at h
  · cases h
  · split at h
    · obtain rfl := List.mem_singleton.1 h; exact ⟨rfl, by omega⟩
    · obtain ⟨x, hx, rfl⟩ := List.mem_map.1 h
      have := artS_at hx
      exact ⟨this.1, by omega⟩
theorem relS_at {g : Gr} {f t : Nat} {o : Opn} (h : o ∈ relS g f t) : o.at = f + 2 ∧ f + 1 < t := by
  unfold relS at h
  split at h
  · cases h
  · split at h
    · cases h
    · obtain ⟨x, _, rfl⟩ := List.mem_map.1 h; exact ⟨rfl, by omega⟩

/-- Where the parts of an opened row begin; no more than two parts; a row of one part is opened by a word at least. -/
structure RowOk (r : RowS) : Prop where
  at1 : ∀ f t o, f ≤ t → o ∈ r.opn f t → f ≤ o.at ∧ o.at ≤ t
  one : ∀ f t o, f ≤ t → o ∈ r.opn f t → r.parts.length = 1 → f < o.at
  two : r.parts.length ≤ 2
theorem rowsS_ok (g : Gr) : ∀ r ∈ rowsS g, RowOk r := by
  intro r hr
  simp only [rowsS, List.mem_cons, List.not_mem_nil, or_false] at hr
  rcases hr with rfl | rfl | rfl | rfl | rfl | rfl | rfl | rfl | rfl | rfl | rfl | rfl | rfl | rfl | rfl | rfl | rfl | rfl | rfl | rfl | rfl | rfl | rfl | rfl
  all_goals
    refine ⟨fun f t o hft ho => ?_, fun f t o hft ho hl => ?_, by simp⟩
    all_goals first
      | (have h := saysS_at ho; simp at h hl ⊢; omega)
      | (have h := saysS_at ho; simp at h ⊢; omega)
      | (have h := entryS_at ho; omega)
      | (have h := detS_at ho; omega)
      | (have h := relS_at ho; omega)
      | (have h := artS_at ho; omega)
      | (have h := behindS_at ho; have h' := entryS_at h.1; omega)
      | (have h := behindS_at ho; have h' := artS_at h.1; omega)
      | (simp at hl; done)

theorem splitsS_mem {g : Gr} {glue : List UInt8} {f t : Nat} {s : Nat × Nat} (h : s ∈ splitsS g glue f t) : f < s.1 ∧ s.1 < t ∧ s.1 ≤ s.2 ∧ s.2 ≤ s.1 + 1 := by
  unfold splitsS at h
  obtain ⟨e, he, hs⟩ := List.mem_filterMap.1 h
  obtain ⟨k, hk, rfl⟩ := List.mem_map.1 he
  have := List.mem_range.1 hk
  unfold splitAt at hs
  split at hs
  · cases hs; simp; omega
  · split at hs
    · cases hs; simp; omega
    · cases hs
theorem foldl_congr' {α β : Type} {f f' : β → α → β} : ∀ (l : List α) (b : β), (∀ b a, a ∈ l → f b a = f' b a) → l.foldl f b = l.foldl f' b
  | [], _, _ => rfl
  | a :: l, b, h => by
    simp only [List.foldl_cons]
    rw [h b a (by simp)]
    exact foldl_congr' l _ (fun b a ha => h b a (by simp [ha]))
theorem flatMap_congr' {α β : Type} {f f' : α → List β} : ∀ (l : List α), (∀ a, a ∈ l → f a = f' a) → l.flatMap f = l.flatMap f'
  | [], _ => rfl
  | a :: l, h => by
    simp only [List.flatMap_cons]
    rw [h a (by simp), flatMap_congr' l (fun a ha => h a (by simp [ha]))]

/-- Parts of an opened row ask for shorter spans alone. -/
theorem partsF_congr {g : Gr} {c c' : Nat → Nat → Nat → Nat} {r : RowS} (hr : RowOk r) {f t : Nat} {o : Opn} (hft : f ≤ t) (ho : o ∈ r.opn f t) (h : ∀ k f' t', t' - f' < t - f → f ≤ f' → t' ≤ t → c k f' t' = c' k f' t') (hlt : f < t) :
    partsF c g r o.at t = partsF c' g r o.at t := by
  have h1 := hr.at1 f t o hft ho
  unfold partsF
  split
  · rfl
  · rename_i k hk
    have := hr.one f t o hft ho (by rw [hk]; rfl)
    exact h k _ _ (by omega) (by omega) (by omega)
  · refine foldl_congr' _ _ (fun n s hs => ?_)
    have := splitsS_mem hs
    unfold pairStep
    rw [h _ o.at s.1 (by omega) (by omega) (by omega), h _ s.2 t (by omega) (by omega) (by omega)]
theorem rows_congr {g : Gr} {c c' : Nat → Nat → Nat → Nat} {k f t : Nat} (hlt : f < t) (h : ∀ k f' t', t' - f' < t - f → f ≤ f' → t' ≤ t → c k f' t' = c' k f' t') :
    (rowsS g).foldl (rowStep (partsF c g) k f t) 0 = (rowsS g).foldl (rowStep (partsF c' g) k f t) 0 := by
  refine foldl_congr' _ _ (fun n r hr => ?_)
  unfold rowStep
  split
  · refine foldl_congr' _ _ (fun n o ho => ?_)
    unfold opnStep
    rw [partsF_congr (rowsS_ok g r hr) (by omega) ho h hlt]
  · rfl
theorem cntF_enough (g : Gr) : ∀ (d k f t : Nat), t - f ≤ d → cntF g d k f t = cntS g k f t := by
  intro d
  induction d using Nat.strongRecOn with
  | _ d ih =>
    intro k f t h
    unfold cntS
    by_cases hlt : f < t
    · obtain ⟨d', rfl⟩ : ∃ d', d = d' + 1 := ⟨d - 1, by omega⟩
      obtain ⟨e, he⟩ : ∃ e, t - f = e + 1 := ⟨t - f - 1, by omega⟩
      rw [he]
      simp only [cntF]
      rw [if_neg (by omega), if_neg (by omega)]
      refine rows_congr hlt (fun k f' t' h1 _ _ => ?_)
      rw [ih d' (by omega) k f' t' (by omega), ih e (by omega) k f' t' (by omega)]
    · have h0 : t - f = 0 := by omega
      rw [h0]
      cases d with
      | zero => rfl
      | succ d => simp only [cntF]; rw [if_pos (by omega)]
theorem cntS_zero (g : Gr) {k f t : Nat} (h : t ≤ f) : cntS g k f t = 0 := by
  unfold cntS; rw [Nat.sub_eq_zero_of_le h]; rfl
/-- **How the count is computed.** -/
theorem cntS_eq (g : Gr) {k f t : Nat} (h : f < t) : cntS g k f t = (rowsS g).foldl (rowStep (partsS g) k f t) 0 := by
  obtain ⟨e, he⟩ : ∃ e, t - f = e + 1 := ⟨t - f - 1, by omega⟩
  unfold cntS
  rw [he]
  simp only [cntF]
  rw [if_neg (by omega)]
  exact rows_congr h (fun k f' t' h1 _ _ => cntF_enough g e k f' t' (by omega))
theorem le_most_foldl {α : Type} {f : Nat → α → Nat} (h : ∀ n a, n ≤ most → f n a ≤ most) : ∀ (l : List α) (n : Nat), n ≤ most → l.foldl f n ≤ most
  | [], _, hn => hn
  | a :: l, n, hn => le_most_foldl h l _ (h n a hn)
theorem opnStep_le {p : RowS → Nat → Nat → Nat} {r : RowS} {t n : Nat} {o : Opn} : opnStep p r t n o ≤ most := Nat.min_le_left _ _
theorem rowStep_le {p : RowS → Nat → Nat → Nat} {k f t n : Nat} {r : RowS} (h : n ≤ most) : rowStep p k f t n r ≤ most := by
  unfold rowStep; split
  · exact le_most_foldl (fun _ _ _ => opnStep_le) _ _ h
  · exact h
theorem cntS_le (g : Gr) (k f t : Nat) : cntS g k f t ≤ most := by
  by_cases h : f < t
  · rw [cntS_eq g h]; exact le_most_foldl (fun _ _ h => rowStep_le h) _ _ (Nat.zero_le _)
  · rw [cntS_zero g (by omega)]; exact Nat.zero_le _
theorem pairStep_le {c : Nat → Nat → Nat → Nat} {k1 k2 f t n : Nat} {s : Nat × Nat} (h : n ≤ most) : pairStep c k1 k2 f t n s ≤ most := by
  unfold pairStep; split
  · exact Nat.min_le_left _ _
  · exact h
theorem partsS_le (g : Gr) (r : RowS) (f t : Nat) : partsS g r f t ≤ most := by
  unfold partsS partsF
  split
  · split <;> decide
  · exact cntS_le _ _ _ _
  · exact le_most_foldl (fun _ _ h => pairStep_le h) _ _ (Nat.zero_le _)

theorem fillF_congr {g : Gr} {T T' : Nat → Nat → Nat → List Tr} {r : RowS} (hr : RowOk r) {f t : Nat} {o : Opn} (ho : o ∈ r.opn f t) (hlt : f < t) (h : ∀ k f' t', t' - f' < t - f → T k f' t' = T' k f' t') :
    fillF T g r o t = fillF T' g r o t := by
  have h1 := hr.at1 f t o (by omega) ho
  unfold fillF
  split
  · rfl
  · rename_i k hk
    have := hr.one f t o (by omega) ho (by rw [hk]; rfl)
    rw [h k _ _ (by omega)]
  · refine flatMap_congr' _ (fun s hs => ?_)
    have := splitsS_mem hs
    rw [h _ o.at s.1 (by omega), h _ s.2 t (by omega)]
theorem treesF_enough (g : Gr) : ∀ (d k f t : Nat), t - f ≤ d → treesF g d k f t = treesS g k f t := by
  intro d
  induction d using Nat.strongRecOn with
  | _ d ih =>
    intro k f t h
    unfold treesS
    by_cases hlt : f < t
    · obtain ⟨d', rfl⟩ : ∃ d', d = d' + 1 := ⟨d - 1, by omega⟩
      obtain ⟨e, he⟩ : ∃ e, t - f = e + 1 := ⟨t - f - 1, by omega⟩
      rw [he]
      simp only [treesF]
      split
      · rfl
      · refine flatMap_congr' _ (fun r hr => ?_)
        unfold rowTrees
        split
        · refine flatMap_congr' _ (fun o ho => ?_)
          rw [fillF_congr (T' := treesF g e) (rowsS_ok g r hr) ho hlt (fun k f' t' h1 => by rw [ih d' (by omega) k f' t' (by omega), ih e (by omega) k f' t' (by omega)])]
        · rfl
    · have h0 : t - f = 0 := by omega
      rw [h0]
      cases d with
      | zero => rfl
      | succ d => simp only [treesF]; rw [if_pos (cntS_zero g (by omega))]
/-- **How the parses are computed.** -/
theorem treesS_eq (g : Gr) (k f t : Nat) : treesS g k f t = if cntS g k f t = 0 then [] else (rowsS g).flatMap (rowTrees (treesS g) g k f t) := by
  by_cases hlt : f < t
  · obtain ⟨e, he⟩ : ∃ e, t - f = e + 1 := ⟨t - f - 1, by omega⟩
    rw [show treesS g k f t = treesF g (t - f) k f t from rfl, he]
    simp only [treesF]
    split
    · rfl
    · refine flatMap_congr' _ (fun r hr => ?_)
      unfold rowTrees
      split
      · refine flatMap_congr' _ (fun o ho => ?_)
        rw [fillF_congr (T' := treesS g) (rowsS_ok g r hr) ho hlt (fun k f' t' h1 => treesF_enough g e k f' t' (by omega))]
      · rfl
  · rw [if_pos (cntS_zero g (by omega))]
    rw [show treesS g k f t = treesF g (t - f) k f t from rfl, Nat.sub_eq_zero_of_le (by omega)]
    rfl
end Go.Proofs.YthmnffgjckpkiaaGreatDoor
