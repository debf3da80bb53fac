/-
  What package english computes, as plain functions: parses, rows, openings, the count of parses, the parses in their order.
  A range over a function whose iterator writes a map that lay ahead of the loop, and whose body writes blocks of its own: the notions, and the law at a loop of a function and at a loop within a round.
  The agreement between iterators that write one map and a body that writes one variable and the row that this variable owns.
  The map of counts: what its block may hold; the look-up and the store at a key of three numbers.
  The grammar in memory: what its cells hold, and what of it abides while blocks are made and the map of counts is written.
-/
import Derived.Test.YthmnffgjckpkiaaGreatDoorGLow
import Derived.RangeFuncNested
import Derived.RangeFuncBound
import Derived.RangeFuncLeaves
import Derived.RangeFuncBox
import Derived.WalkKit
import Derived.Lib.Hide
import Derived.Laws.StructEq
import Derived.ChangeKeysEq
import Derived.MapKept
import Derived.Test.YthmnffgjckpkiaaGreatDoorGTok
namespace Go.Proofs.YthmnffgjckpkiaaGreatDoor
open Go Go.RowKit

/-- A parse. -/
inductive Tr where
  | node (rule : Int) (entry : Int) (word : List UInt8) (sub : List Tr)
def Tr.rule : Tr → Int | .node r _ _ _ => r
def Tr.entry : Tr → Int | .node _ e _ _ => e
def Tr.word : Tr → List UInt8 | .node _ _ w _ => w
def Tr.sub : Tr → List Tr | .node _ _ _ s => s
theorem Tr.ind {p : Tr → Prop} (h : ∀ r e w sub, (∀ t ∈ sub, p t) → p (.node r e w sub)) : ∀ t, p t := by
  intro t
  exact Tr.rec (motive_1 := p) (motive_2 := fun l => ∀ t ∈ l, p t) (fun r e w sub ih => h r e w sub ih) (fun t ht => by cases ht) (fun t l h1 h2 u hu => by
    rcases List.mem_cons.1 hu with rfl | hu
    · exact h1
    · exact h2 u hu) t

/-- Fixed words. -/
def wIf : List UInt8 := [105, 102]
def wThen : List UInt8 := [116, 104, 101, 110]
def wIff : List UInt8 := [105, 102, 102]
def wOr : List UInt8 := [111, 114]
def wAnd : List UInt8 := [97, 110, 100]
def wIs : List UInt8 := [105, 115]
def wDoes : List UInt8 := [100, 111, 101, 115]
def wNot : List UInt8 := [110, 111, 116]
def wEvery : List UInt8 := [101, 118, 101, 114, 121]
def wEach : List UInt8 := [101, 97, 99, 104]
def wSome : List UInt8 := [115, 111, 109, 101]
def wNo : List UInt8 := [110, 111]
def wA : List UInt8 := [97]
def wWho : List UInt8 := [119, 104, 111]
def wThat : List UInt8 := [116, 104, 97, 116]
def wDot : List UInt8 := [46]

/-- A way to read the words ahead of the parts. -/
structure Opn where
  entry : Nat
  word : List UInt8
  «at» : Nat
deriving DecidableEq
/-- A row of the table. -/
structure RowS where
  rule : Nat
  kind : Nat
  opn : Nat → Nat → List Opn
  parts : List Nat
  glue : List UInt8

/-- What the grammar parses with: a lexicon and tokens. -/
structure Gr where
  l : List Ent
  toks : List (List UInt8)

def catAt (l : List Ent) (i : Nat) : Int := match l[i]? with | some e => e.cat | none => 0
def saysS (g : Gr) (list : List (List UInt8)) (f t : Nat) : List Opn :=
  if f + list.length ≤ t ∧ (g.toks.drop f).take list.length = list then [⟨0, [], f + list.length⟩] else []
def entryS (g : Gr) (cat : Int) (third : Bool) (f t : Nat) : List Opn :=
  if t ≤ f then [] else ((lookS (g.toks.getD f []) g.l).filter fun x => x.2 == third && catAt g.l x.1 == cat).map fun x => ⟨x.1, [], f + 1⟩
def behindS (g : Gr) (word : List UInt8) (op : Nat → Nat → List Opn) (f t : Nat) : List Opn :=
  if t ≤ f ∨ g.toks.getD f [] ≠ word then [] else op (f + 1) t
def artS (g : Gr) (f t : Nat) : List Opn :=
  if t ≤ f + 1 ∨ g.toks.getD f [] ≠ articleS (g.toks.getD (f + 1) []) then [] else [⟨0, [], f + 1⟩]
def detS (g : Gr) (f t : Nat) : List Opn :=
  if t ≤ f then [] else if g.toks.getD f [] ∈ [wEvery, wEach, wSome, wNo] then [⟨0, g.toks.getD f [], f + 1⟩] else (artS g f t).map fun o => { o with word := wA }
def relS (g : Gr) (f t : Nat) : List Opn :=
  if t ≤ f + 1 then [] else if g.toks.getD (f + 1) [] ≠ wWho ∧ g.toks.getD (f + 1) [] ≠ wThat then [] else (entryS g 1 false f t).map fun o => { o with word := g.toks.getD (f + 1) [], «at» := f + 2 }

def rowsS (g : Gr) : List RowS := [
  ⟨1, 1, saysS g [wIf], [1, 1], wThen⟩,
  ⟨2, 1, saysS g [], [1, 1], wIff⟩,
  ⟨3, 1, saysS g [], [1, 1], wOr⟩,
  ⟨4, 1, saysS g [], [1, 1], wAnd⟩,
  ⟨5, 1, saysS g [], [2, 4], []⟩,
  ⟨6, 2, entryS g 3 false, [], []⟩,
  ⟨7, 2, detS g, [3], []⟩,
  ⟨8, 3, entryS g 1 false, [], []⟩,
  ⟨9, 3, entryS g 2 false, [3], []⟩,
  ⟨10, 3, relS g, [4], []⟩,
  ⟨11, 3, relS g, [2, 5], []⟩,
  ⟨12, 4, entryS g 4 true, [], []⟩,
  ⟨12, 6, entryS g 4 false, [], []⟩,
  ⟨13, 4, entryS g 5 true, [2], []⟩,
  ⟨13, 6, entryS g 5 false, [2], []⟩,
  ⟨14, 4, behindS g wIs (entryS g 2 false), [], []⟩,
  ⟨14, 7, entryS g 2 false, [], []⟩,
  ⟨15, 4, behindS g wIs (artS g), [3], []⟩,
  ⟨15, 7, artS g, [3], []⟩,
  ⟨16, 4, saysS g [wDoes, wNot], [6], []⟩,
  ⟨16, 4, saysS g [wIs, wNot], [7], []⟩,
  ⟨17, 4, saysS g [], [4, 4], wOr⟩,
  ⟨18, 4, saysS g [], [4, 4], wAnd⟩,
  ⟨19, 5, entryS g 5 true, [], []⟩]

/-- Where the first one of two parts can end, and where the second one begins then. -/
def splitAt (g : Gr) (glue : List UInt8) (e : Nat) : Option (Nat × Nat) :=
  if glue = [] then some (e, e) else if g.toks.getD e [] = glue then some (e, e + 1) else none
def splitsS (g : Gr) (glue : List UInt8) (f t : Nat) : List (Nat × Nat) := ((List.range (t - (f + 1))).map (· + (f + 1))).filterMap (splitAt g glue)

abbrev most : Nat := 1000000
/-- In how many ways two parts stand at the places so far, most at most. -/
def pairStep (c : Nat → Nat → Nat → Nat) (k1 k2 f t : Nat) (n : Nat) (s : Nat × Nat) : Nat :=
  if 0 < c k1 f s.1 then min most (n + min most (c k1 f s.1 * c k2 s.2 t)) else n
def partsF (c : Nat → Nat → Nat → Nat) (g : Gr) (r : RowS) (f t : Nat) : Nat :=
  match r.parts with
  | [] => if f = t then 1 else 0
  | [k] => c k f t
  | k1 :: k2 :: _ => (splitsS g r.glue f t).foldl (pairStep c k1 k2 f t) 0
/-- What the openings of one row, and of all rows of a kind, add. -/
def opnStep (p : RowS → Nat → Nat → Nat) (r : RowS) (t : Nat) (n : Nat) (o : Opn) : Nat := min most (n + p r o.at t)
def rowStep (p : RowS → Nat → Nat → Nat) (k f t : Nat) (n : Nat) (r : RowS) : Nat := if r.kind = k then (r.opn f t).foldl (opnStep p r t) n else n
def cntF (g : Gr) : Nat → Nat → Nat → Nat → Nat
  | 0, _, _, _ => 0
  | d + 1, k, f, t => if t ≤ f then 0 else (rowsS g).foldl (rowStep (partsF (cntF g d) g) k f t) 0
/-- How many parses of a kind there are for some tokens, most at most. -/
def cntS (g : Gr) (k f t : Nat) : Nat := cntF g (t - f) k f t
def partsS (g : Gr) (r : RowS) (f t : Nat) : Nat := partsF (cntS g) g r f t

/-- The parses by a row that is opened in one way. -/
def fillF (T : Nat → Nat → Nat → List Tr) (g : Gr) (r : RowS) (o : Opn) (t : Nat) : List Tr :=
  match r.parts with
  | [] => [.node r.rule o.entry o.word []]
  | [k] => (T k o.at t).map fun x => .node r.rule o.entry o.word [x]
  | k1 :: k2 :: _ => (splitsS g r.glue o.at t).flatMap fun s => if 0 < cntS g k2 s.2 t then (T k1 o.at s.1).flatMap fun x => (T k2 s.2 t).map fun y => .node r.rule o.entry o.word [x, y] else []
def rowTrees (T : Nat → Nat → Nat → List Tr) (g : Gr) (k f t : Nat) (r : RowS) : List Tr :=
  if r.kind = k then (r.opn f t).flatMap fun o => if 0 < partsS g r o.at t then fillF T g r o t else [] else []
def treesF (g : Gr) : Nat → Nat → Nat → Nat → List Tr
  | 0, _, _, _ => []
  | d + 1, k, f, t => if cntS g k f t = 0 then [] else (rowsS g).flatMap (rowTrees (treesF g d) g k f t)
def treesS (g : Gr) (k f t : Nat) : List Tr := treesF g (t - f) k f t
def fillS (g : Gr) (r : RowS) (o : Opn) (t : Nat) : List Tr := fillF (treesS g) g r o t

/-- The tokens without the period; none if it is not there. -/
def bareS (toks : List (List UInt8)) : List (List UInt8) := if toks.getLast? = some wDot then toks.dropLast else []
def countS (l : List Ent) (toks : List (List UInt8)) : Nat × Int :=
  if !validS l then (0, 2) else if 24 < toks.length then (0, 3) else
    (if toks.getLast? = some wDot then cntS ⟨l, bareS toks⟩ 1 0 (bareS toks).length else 0, 0)
def parsesS (l : List Ent) (toks : List (List UInt8)) : List Tr × Int :=
  if (countS l toks).2 ≠ 0 then ([], (countS l toks).2) else if (countS l toks).1 = 0 then ([], 6) else if 64 < (countS l toks).1 then ([], 5) else
    (treesS ⟨l, bareS toks⟩ 1 0 (bareS toks).length, 0)

/-! ### The count and the parses do not depend on how deep the recursion may go -/
theorem entryS_at {g : Gr} {c : Int} {b : Bool} {f t : Nat} {o : Opn} (h : o ∈ entryS g c b f t) : o.at = f + 1 ∧ f < t := by
  unfold entryS at h
  split at h
  · cases h
  · obtain ⟨x, _, rfl⟩ := List.mem_map.1 h; exact ⟨rfl, by omega⟩
theorem artS_at {g : Gr} {f t : Nat} {o : Opn} (h : o ∈ artS g f t) : o.at = f + 1 ∧ f + 1 < t := by
  unfold artS at h
  split at h
  · cases h
  · rename_i hn; obtain rfl := List.mem_singleton.1 h; exact ⟨rfl, by omega⟩
theorem saysS_at {g : Gr} {ws : List (List UInt8)} {f t : Nat} {o : Opn} (h : o ∈ saysS g ws f t) : o.at = f + ws.length ∧ f + ws.length ≤ t := by
  unfold saysS at h
  split at h
  · rename_i hn; obtain rfl := List.mem_singleton.1 h; exact ⟨rfl, hn.1⟩
  · cases h
theorem behindS_at {g : Gr} {w : List UInt8} {op : Nat → Nat → List Opn} {f t : Nat} {o : Opn} (h : o ∈ behindS g w op f t) : o ∈ op (f + 1) t ∧ f < t := by
  unfold behindS at h
  split at h
  · cases h
  · exact ⟨h, by omega⟩
theorem detS_at {g : Gr} {f t : Nat} {o : Opn} (h : o ∈ detS g f t) : o.at = f + 1 ∧ f < t := by
  unfold detS at h
  split at h
  · cases h
  · split at h
    · obtain rfl := List.mem_singleton.1 h; exact ⟨rfl, by omega⟩
    · obtain ⟨x, hx, rfl⟩ := List.mem_map.1 h
      have := artS_at hx
      exact ⟨this.1, by omega⟩
theorem relS_at {g : Gr} {f t : Nat} {o : Opn} (h : o ∈ relS g f t) : o.at = f + 2 ∧ f + 1 < t := by
  unfold relS at h
  split at h
  · cases h
  · split at h
    · cases h
    · obtain ⟨x, _, rfl⟩ := List.mem_map.1 h; exact ⟨rfl, by omega⟩

/-- Where the parts of an opened row begin; no more than two parts; a row of one part is opened by a word at least. -/
structure RowOk (r : RowS) : Prop where
  at1 : ∀ f t o, f ≤ t → o ∈ r.opn f t → f ≤ o.at ∧ o.at ≤ t
  one : ∀ f t o, f ≤ t → o ∈ r.opn f t → r.parts.length = 1 → f < o.at
  two : r.parts.length ≤ 2
theorem rowsS_ok (g : Gr) : ∀ r ∈ rowsS g, RowOk r := by
  intro r hr
  simp only [rowsS, List.mem_cons, List.not_mem_nil, or_false] at hr
  rcases hr with rfl | rfl | rfl | rfl | rfl | rfl | rfl | rfl | rfl | rfl | rfl | rfl | rfl | rfl | rfl | rfl | rfl | rfl | rfl | rfl | rfl | rfl | rfl | rfl
  all_goals
    refine ⟨fun f t o hft ho => ?_, fun f t o hft ho hl => ?_, by simp⟩
    all_goals first
      | (have h := saysS_at ho; simp at h hl ⊢; omega)
      | (have h := saysS_at ho; simp at h ⊢; omega)
      | (have h := entryS_at ho; omega)
      | (have h := detS_at ho; omega)
      | (have h := relS_at ho; omega)
      | (have h := artS_at ho; omega)
      | (have h := behindS_at ho; have h' := entryS_at h.1; omega)
      | (have h := behindS_at ho; have h' := artS_at h.1; omega)
      | (simp at hl; done)

theorem splitsS_mem {g : Gr} {glue : List UInt8} {f t : Nat} {s : Nat × Nat} (h : s ∈ splitsS g glue f t) : f < s.1 ∧ s.1 < t ∧ s.1 ≤ s.2 ∧ s.2 ≤ s.1 + 1 := by
  unfold splitsS at h
  obtain ⟨e, he, hs⟩ := List.mem_filterMap.1 h
  obtain ⟨k, hk, rfl⟩ := List.mem_map.1 he
  have := List.mem_range.1 hk
  unfold splitAt at hs
  split at hs
  · cases hs; simp; omega
  · split at hs
    · cases hs; simp; omega
    · cases hs
theorem foldl_congr' {α β : Type} {f f' : β → α → β} : ∀ (l : List α) (b : β), (∀ b a, a ∈ l → f b a = f' b a) → l.foldl f b = l.foldl f' b
  | [], _, _ => rfl
  | a :: l, b, h => by
    simp only [List.foldl_cons]
    rw [h b a (by simp)]
    exact foldl_congr' l _ (fun b a ha => h b a (by simp [ha]))
theorem flatMap_congr' {α β : Type} {f f' : α → List β} : ∀ (l : List α), (∀ a, a ∈ l → f a = f' a) → l.flatMap f = l.flatMap f'
  | [], _ => rfl
  | a :: l, h => by
    simp only [List.flatMap_cons]
    rw [h a (by simp), flatMap_congr' l (fun a ha => h a (by simp [ha]))]

/-- Parts of an opened row ask for shorter spans alone. -/
theorem partsF_congr {g : Gr} {c c' : Nat → Nat → Nat → Nat} {r : RowS} (hr : RowOk r) {f t : Nat} {o : Opn} (hft : f ≤ t) (ho : o ∈ r.opn f t) (h : ∀ k f' t', t' - f' < t - f → f ≤ f' → t' ≤ t → c k f' t' = c' k f' t') (hlt : f < t) :
    partsF c g r o.at t = partsF c' g r o.at t := by
  have h1 := hr.at1 f t o hft ho
  unfold partsF
  split
  · rfl
  · rename_i k hk
    have := hr.one f t o hft ho (by rw [hk]; rfl)
    exact h k _ _ (by omega) (by omega) (by omega)
  · refine foldl_congr' _ _ (fun n s hs => ?_)
    have := splitsS_mem hs
    unfold pairStep
    rw [h _ o.at s.1 (by omega) (by omega) (by omega), h _ s.2 t (by omega) (by omega) (by omega)]
theorem rows_congr {g : Gr} {c c' : Nat → Nat → Nat → Nat} {k f t : Nat} (hlt : f < t) (h : ∀ k f' t', t' - f' < t - f → f ≤ f' → t' ≤ t → c k f' t' = c' k f' t') :
    (rowsS g).foldl (rowStep (partsF c g) k f t) 0 = (rowsS g).foldl (rowStep (partsF c' g) k f t) 0 := by
  refine foldl_congr' _ _ (fun n r hr => ?_)
  unfold rowStep
  split
  · refine foldl_congr' _ _ (fun n o ho => ?_)
    unfold opnStep
    rw [partsF_congr (rowsS_ok g r hr) (by omega) ho h hlt]
  · rfl
theorem cntF_enough (g : Gr) : ∀ (d k f t : Nat), t - f ≤ d → cntF g d k f t = cntS g k f t := by
  intro d
  induction d using Nat.strongRecOn with
  | _ d ih =>
    intro k f t h
    unfold cntS
    by_cases hlt : f < t
    · obtain ⟨d', rfl⟩ : ∃ d', d = d' + 1 := ⟨d - 1, by omega⟩
      obtain ⟨e, he⟩ : ∃ e, t - f = e + 1 := ⟨t - f - 1, by omega⟩
      rw [he]
      simp only [cntF]
      rw [if_neg (by omega), if_neg (by omega)]
      refine rows_congr hlt (fun k f' t' h1 _ _ => ?_)
      rw [ih d' (by omega) k f' t' (by omega), ih e (by omega) k f' t' (by omega)]
    · have h0 : t - f = 0 := by omega
      rw [h0]
      cases d with
      | zero => rfl
      | succ d => simp only [cntF]; rw [if_pos (by omega)]
theorem cntS_zero (g : Gr) {k f t : Nat} (h : t ≤ f) : cntS g k f t = 0 := by
  unfold cntS; rw [Nat.sub_eq_zero_of_le h]; rfl
/-- **How the count is computed.** -/
theorem cntS_eq (g : Gr) {k f t : Nat} (h : f < t) : cntS g k f t = (rowsS g).foldl (rowStep (partsS g) k f t) 0 := by
  obtain ⟨e, he⟩ : ∃ e, t - f = e + 1 := ⟨t - f - 1, by omega⟩
  unfold cntS
  rw [he]
  simp only [cntF]
  rw [if_neg (by omega)]
  exact rows_congr h (fun k f' t' h1 _ _ => cntF_enough g e k f' t' (by omega))
theorem le_most_foldl {α : Type} {f : Nat → α → Nat} (h : ∀ n a, n ≤ most → f n a ≤ most) : ∀ (l : List α) (n : Nat), n ≤ most → l.foldl f n ≤ most
  | [], _, hn => hn
  | a :: l, n, hn => le_most_foldl h l _ (h n a hn)
theorem opnStep_le {p : RowS → Nat → Nat → Nat} {r : RowS} {t n : Nat} {o : Opn} : opnStep p r t n o ≤ most := Nat.min_le_left _ _
theorem rowStep_le {p : RowS → Nat → Nat → Nat} {k f t n : Nat} {r : RowS} (h : n ≤ most) : rowStep p k f t n r ≤ most := by
  unfold rowStep; split
  · exact le_most_foldl (fun _ _ _ => opnStep_le) _ _ h
  · exact h
theorem cntS_le (g : Gr) (k f t : Nat) : cntS g k f t ≤ most := by
  by_cases h : f < t
  · rw [cntS_eq g h]; exact le_most_foldl (fun _ _ h => rowStep_le h) _ _ (Nat.zero_le _)
  · rw [cntS_zero g (by omega)]; exact Nat.zero_le _
theorem pairStep_le {c : Nat → Nat → Nat → Nat} {k1 k2 f t n : Nat} {s : Nat × Nat} (h : n ≤ most) : pairStep c k1 k2 f t n s ≤ most := by
  unfold pairStep; split
  · exact Nat.min_le_left _ _
  · exact h
theorem partsS_le (g : Gr) (r : RowS) (f t : Nat) : partsS g r f t ≤ most := by
  unfold partsS partsF
  split
  · split <;> decide
  · exact cntS_le _ _ _ _
  · exact le_most_foldl (fun _ _ h => pairStep_le h) _ _ (Nat.zero_le _)

theorem fillF_congr {g : Gr} {T T' : Nat → Nat → Nat → List Tr} {r : RowS} (hr : RowOk r) {f t : Nat} {o : Opn} (ho : o ∈ r.opn f t) (hlt : f < t) (h : ∀ k f' t', t' - f' < t - f → T k f' t' = T' k f' t') :
    fillF T g r o t = fillF T' g r o t := by
  have h1 := hr.at1 f t o (by omega) ho
  unfold fillF
  split
  · rfl
  · rename_i k hk
    have := hr.one f t o (by omega) ho (by rw [hk]; rfl)
    rw [h k _ _ (by omega)]
  · refine flatMap_congr' _ (fun s hs => ?_)
    have := splitsS_mem hs
    rw [h _ o.at s.1 (by omega), h _ s.2 t (by omega)]
theorem treesF_enough (g : Gr) : ∀ (d k f t : Nat), t - f ≤ d → treesF g d k f t = treesS g k f t := by
  intro d
  induction d using Nat.strongRecOn with
  | _ d ih =>
    intro k f t h
    unfold treesS
    by_cases hlt : f < t
    · obtain ⟨d', rfl⟩ : ∃ d', d = d' + 1 := ⟨d - 1, by omega⟩
      obtain ⟨e, he⟩ : ∃ e, t - f = e + 1 := ⟨t - f - 1, by omega⟩
      rw [he]
      simp only [treesF]
      split
      · rfl
      · refine flatMap_congr' _ (fun r hr => ?_)
        unfold rowTrees
        split
        · refine flatMap_congr' _ (fun o ho => ?_)
          rw [fillF_congr (T' := treesF g e) (rowsS_ok g r hr) ho hlt (fun k f' t' h1 => by rw [ih d' (by omega) k f' t' (by omega), ih e (by omega) k f' t' (by omega)])]
        · rfl
    · have h0 : t - f = 0 := by omega
      rw [h0]
      cases d with
      | zero => rfl
      | succ d => simp only [treesF]; rw [if_pos (cntS_zero g (by omega))]
/-- **How the parses are computed.** -/
theorem treesS_eq (g : Gr) (k f t : Nat) : treesS g k f t = if cntS g k f t = 0 then [] else (rowsS g).flatMap (rowTrees (treesS g) g k f t) := by
  by_cases hlt : f < t
  · obtain ⟨e, he⟩ : ∃ e, t - f = e + 1 := ⟨t - f - 1, by omega⟩
    rw [show treesS g k f t = treesF g (t - f) k f t from rfl, he]
    simp only [treesF]
    split
    · rfl
    · refine flatMap_congr' _ (fun r hr => ?_)
      unfold rowTrees
      split
      · refine flatMap_congr' _ (fun o ho => ?_)
        rw [fillF_congr (T' := treesS g) (rowsS_ok g r hr) ho hlt (fun k f' t' h1 => treesF_enough g e k f' t' (by omega))]
      · rfl
  · rw [if_pos (cntS_zero g (by omega))]
    rw [show treesS g k f t = treesF g (t - f) k f t from rfl, Nat.sub_eq_zero_of_le (by omega)]
    rfl
end Go.Proofs.YthmnffgjckpkiaaGreatDoor
namespace Go.Proofs.YthmnffgjckpkiaaGreatDoor
open Go Go.RowKit

theorem room_of_none {F : Fence} (hd : F.depth = none) (k : Nat) : F.room k := fun d h => by rw [hd] at h; cases h
theorem roundIn_any {F : Fence} (hd : F.depth = none) {m m' : Nat} {P : Program} {l : Nat} {f : FuncId} {tmps : Array Value} {assign body : Code} {w : World} {R : Ending → World → Prop}
    (h : RoundIn F m P l f tmps assign body w R) : RoundIn F m' P l f tmps assign body w R := ⟨h.1, fun c cs _ => h.2 c cs (room_of_none hd _)⟩
theorem yieldAt_any {m : Nat} (m' : Nat) {P : Program} {l : Nat} {args : Array Value} {W : World} {R : Ending → World → Prop} (h : YieldAt Fence.wide m P l args W R) : YieldAt Fence.wide m' P l args W R := by
  obtain ⟨fn, tmps, assign, body, hy, hR⟩ := h
  exact ⟨fn, tmps, assign, body, hy, roundIn_any rfl hR⟩

/-- A block that holds no cells, or one bool alone. -/
def loose (o : Obj) : Prop := o.isCells = false ∨ ∃ v, o = .cells #[v] 4 (0, 0)
/-- A step that writes one block at most, the map's or a loose one. -/
def SmallStep (m : Nat) (X : World) (row : Option Nat) : Prop := ∀ r, row = some r → r = m ∨ ∃ o : Obj, X.heap[r]? = some o ∧ loose o

/-- What is agreed between an iterator and a body: the map's block m, which the iterator may write; the blocks sf that the body leaves alone; what holds of every world between two steps. -/
structure Rg where
  m : Nat
  ok : World → Prop
  sf : World → Nat → Prop
  lt : ∀ {W b}, sf W b → b < W.heap.size
  ne : ∀ {W b}, sf W b → b ≠ m
  mlt : ∀ {W}, ok W → m < W.heap.size
  move : ∀ {X Y row b}, ok X → X.grownBy Y row → SmallStep m X row → sf X b → sf Y b
  new : ∀ {X Y row b}, ok X → X.grownBy Y row → SmallStep m X row → X.heap.size ≤ b → b < Y.heap.size → sf Y b
  okMove : ∀ {X Y row}, ok X → X.grownBy Y row → (∀ r, row = some r → r ≠ m ∧ ∃ o : Obj, X.heap[r]? = some o ∧ loose o) → ok Y

variable (R : Rg)

/-- A step of the iterator: new blocks, and the map. -/
structure Mv (X Y : World) : Prop where
  grown : X.grownBy Y (some R.m)
  ok : R.ok X → R.ok Y
/-- What a whole step keeps. -/
structure Kp (X Y : World) : Prop where
  size : X.heap.size ≤ Y.heap.size
  same : ∀ b, R.sf X b → R.sf Y b ∧ Y.heap[b]? = X.heap[b]?
  ok : R.ok X → R.ok Y
/-- What is kept from block B on. -/
structure KpFrom (B : Nat) (X Y : World) : Prop where
  size : X.heap.size ≤ Y.heap.size
  same : ∀ b, B ≤ b → R.sf X b → R.sf Y b ∧ Y.heap[b]? = X.heap[b]?

variable {R}
theorem Kp.refl (W : World) : Kp R W W := ⟨Nat.le_refl _, fun _ h => ⟨h, rfl⟩, id⟩
theorem Kp.trans {A B C : World} (h : Kp R A B) (k : Kp R B C) : Kp R A C :=
  ⟨Nat.le_trans h.size k.size, fun b hb => ⟨(k.same b (h.same b hb).1).1, (k.same b (h.same b hb).1).2.trans (h.same b hb).2⟩, fun h0 => k.ok (h.ok h0)⟩
theorem Kp.from {A B : World} (h : Kp R A B) (n : Nat) : KpFrom R n A B := ⟨h.size, fun b _ hb => h.same b hb⟩
theorem KpFrom.trans {n : Nat} {A B C : World} (h : KpFrom R n A B) (k : KpFrom R n B C) : KpFrom R n A C :=
  ⟨Nat.le_trans h.size k.size, fun b hn hb => ⟨(k.same b hn (h.same b hn hb).1).1, (k.same b hn (h.same b hn hb).1).2.trans (h.same b hn hb).2⟩⟩
theorem KpFrom.mono {n n' : Nat} {A B : World} (h : KpFrom R n A B) (hn : n ≤ n') : KpFrom R n' A B := ⟨h.size, fun b hb hs => h.same b (Nat.le_trans hn hb) hs⟩
theorem KpFrom.refl (n : Nat) (W : World) : KpFrom R n W W := (Kp.refl W).from n
theorem Mv.refl (W : World) : Mv R W W := ⟨⟨rfl, rfl, rfl, Nat.le_refl _, fun _ _ _ => rfl⟩, id⟩
theorem grownBy_trans' {A B C : World} {r : Option Nat} (h : A.grownBy B r) (k : B.grownBy C r) : A.grownBy C r :=
  ⟨k.os.trans h.os, k.tape.trans h.tape, k.output.trans h.output, Nat.le_trans h.size k.size, fun b hb hne => (k.block b (Nat.lt_of_lt_of_le hb h.size) hne).trans (h.block b hb hne)⟩
theorem Mv.trans {A B C : World} (h : Mv R A B) (k : Mv R B C) : Mv R A C := ⟨grownBy_trans' h.grown k.grown, fun h0 => k.ok (h.ok h0)⟩
theorem smallM (m : Nat) (X : World) : SmallStep m X (some m) := fun r e => .inl (by cases e; rfl)
theorem Mv.kp {A B : World} (h : Mv R A B) (h0 : R.ok A) : Kp R A B :=
  ⟨h.grown.size, fun b hb => ⟨R.move h0 h.grown (smallM _ _) hb, h.grown.block b (R.lt hb) (fun e => R.ne hb (Option.some.inj e))⟩, h.ok⟩
/-- New blocks alone. -/
theorem Mv.of_below {A B : World} (h0 : R.ok A) (h : Below A.heap.size A B) : Mv R A B := by
  have hg : A.grownBy B none := ⟨h.os, h.tape, h.output, h.size, fun k hk _ => h.block k hk⟩
  exact ⟨⟨h.os, h.tape, h.output, h.size, fun k hk _ => h.block k hk⟩, fun _ => R.okMove h0 hg (fun r e => by cases e)⟩
theorem Kp.of_below {A B : World} (h0 : R.ok A) (h : Below A.heap.size A B) : Kp R A B := (Mv.of_below h0 h).kp h0
theorem Rg.fresh {A B : World} (h0 : R.ok A) (h : Below A.heap.size A B) {b : Nat} (h1 : A.heap.size ≤ b) (h2 : b < B.heap.size) : R.sf B b :=
  R.new (row := none) h0 ⟨h.os, h.tape, h.output, h.size, fun k hk _ => h.block k hk⟩ (fun r e => by cases e) h1 h2

/-- A turn of a block that holds no cells and is not the map. -/
theorem move_put {W : World} {l : Nat} {o o' : Obj} (h0 : R.ok W) (hl : W.heap[l]? = some o) (ho : o.isCells = false) {b : Nat} (hb : R.sf W b) : R.sf (W.putObj l o') b :=
  R.move h0 (grownBy_putObj' W l o') (fun r e => by cases e; exact .inr ⟨o, hl, .inl ho⟩) hb
theorem ok_put {W : World} {l : Nat} {o o' : Obj} (h0 : R.ok W) (hm : l ≠ R.m) (hl : W.heap[l]? = some o) (ho : o.isCells = false) : R.ok (W.putObj l o') :=
  R.okMove h0 (grownBy_putObj' W l o') (fun r e => by cases e; exact ⟨hm, o, hl, .inl ho⟩)

variable (R)
/-- What a caller says between two steps abides: new blocks; the map's steps; turns of blocks from B on that hold no cells. -/
def Abides (B : Nat) (I : World → Prop) : Prop :=
  ∀ X Y row, X.grownBy Y row → (∀ r, row = some r → (r = R.m ∧ (R.ok X → R.ok Y)) ∨ (B ≤ r ∧ r ≠ R.m ∧ ∃ o : Obj, X.heap[r]? = some o ∧ loose o)) → R.ok X → I X → I Y

/-- **The contract of an iterator's value: it yields xs.** -/
def SeqM (P : Program) (gf : Nat) (lb : Array Value) {T : Type} (xs : List T) (At : World → Array Value → T → Prop) (w : World) : Prop :=
  ∀ (l : Nat) (J Jx : List T → World → Prop) (W : World), Kp R w W → R.ok W → l < W.heap.size →
    (∀ s, Abides R W.heap.size (J s)) → (∀ s, Abides R W.heap.size (Jx s)) →
    (∀ pre vs x W1, J pre W1 → Kp R W W1 → R.ok W1 → At W1 vs x → (pre ++ [x]) <+: xs → YieldAt Fence.wide 0 P l vs W1 fun e W' =>
      (e = .returned (.bool true) ∧ J (pre ++ [x]) W' ∧ Kp R W1 W') ∨ (e = .returned (.bool false) ∧ Jx (pre ++ [x]) W' ∧ R.ok W' ∧ KpFrom R (l + 1) W1 W')) →
    J [] W →
    Calls P gf (#[.func (.yield l) #[] #[]] ++ lb) W fun e W' => (∃ v, e = .returned v) ∧
      ((J xs W' ∧ Kp R W W') ∨ (∃ pre, pre <+: xs ∧ Jx pre W' ∧ R.ok W' ∧ KpFrom R (l + 1) W W'))

variable {R}
theorem Abides.mono {B B' : Nat} {I : World → Prop} (h : Abides R B I) (hB : B ≤ B') : Abides R B' I := fun X Y row hg hr => h X Y row hg (fun r e => by
  rcases hr r e with h1 | ⟨h1, h2⟩
  · exact .inl h1
  · exact .inr ⟨Nat.le_trans hB h1, h2⟩)
theorem Abides.mv {B : Nat} {I : World → Prop} (h : Abides R B I) {X Y : World} (hm : Mv R X Y) (hok : R.ok X) (hi : I X) : I Y :=
  h X Y _ hm.grown (fun r e => by cases e; exact .inl ⟨rfl, hm.ok⟩) hok hi
theorem Abides.and {B : Nat} {I I' : World → Prop} (h : Abides R B I) (h' : Abides R B I') : Abides R B (fun W => I W ∧ I' W) := fun X Y row hg hr hok hi => ⟨h X Y row hg hr hok hi.1, h' X Y row hg hr hok hi.2⟩
theorem SeqM.later {P : Program} {gf : Nat} {lb : Array Value} {T : Type} {xs : List T} {At : World → Array Value → T → Prop} {w w' : World} (h : SeqM R P gf lb xs At w) (hk : Kp R w w') : SeqM R P gf lb xs At w' :=
  fun l J Jx W hW h0 hl hJ hJx hY hJ0 => h l J Jx W (hk.trans hW) h0 hl hJ hJx hY hJ0

variable (R)
/-- How the body of a round may be left. -/
def postM {T : Type} (B : Nat) (I : List T → World → Prop) (Ix : Code → List T → World → Prop) (xs : List T) (W : World) : Exit → Act → World → Prop
  | .normal, _, W' => Kp R W W' ∧ I xs W'
  | .ret, _, W' => KpFrom R B W W' ∧ R.ok W' ∧ Ix .ret xs W'
  | .exit id, _, W' => KpFrom R B W W' ∧ R.ok W' ∧ Ix (.exit id) xs W'
  | .goto t, _, W' => KpFrom R B W W' ∧ R.ok W' ∧ Ix (.goto t) xs W'
  | .panic _, _, _ => False
  | .outgrown, _, _ => False

variable {R} {P : Program}

theorem abides_put {B l : Nat} {I : World → Prop} (hI : Abides R B I) {W : World} {o : Obj} (o' : Obj) (h0 : R.ok W) (hi : I W) (hB : B ≤ l) (hm : l ≠ R.m) (hl : W.heap[l]? = some o) (ho : o.isCells = false) : I (W.putObj l o') :=
  hI W _ (some l) (grownBy_putObj' W l o') (fun r e => by cases e; exact .inr ⟨hB, hm, o, hl, .inl ho⟩) h0 hi
/-- A store into a variable of a bool. -/
theorem abides_set {B b : Nat} {I : World → Prop} (hI : Abides R B I) {W : World} {u : Value} (v : Value) (h0 : R.ok W) (hi : I W) (hB : B ≤ b) (hm : b ≠ R.m) (hb : Boxed W b 4 u) : I (W.setCell ⟨b, 0, none⟩ v) :=
  hI W _ (some b) (grownBy_setCell' W b v) (fun r e => by cases e; exact .inr ⟨hB, hm, _, hb, .inr ⟨u, rfl⟩⟩) h0 hi
theorem move_set {W : World} {b c : Nat} {u v : Value} (h0 : R.ok W) (hb : Boxed W b 4 u) (hc : R.sf W c) : R.sf (W.setCell ⟨b, 0, none⟩ v) c :=
  R.move h0 (grownBy_setCell' W b v) (fun r e => by cases e; exact .inr ⟨_, hb, .inr ⟨u, rfl⟩⟩) hc
theorem ok_set {W : World} {b : Nat} {u v : Value} (h0 : R.ok W) (hm : b ≠ R.m) (hb : Boxed W b 4 u) : R.ok (W.setCell ⟨b, 0, none⟩ v) :=
  R.okMove h0 (grownBy_setCell' W b v) (fun r e => by cases e; exact ⟨hm, _, hb, .inr ⟨u, rfl⟩⟩)
theorem abides_alloc {B : Nat} {I : World → Prop} (hI : Abides R B I) {W : World} (o : Obj) (h0 : R.ok W) (hi : I W) : I (W.alloc o) :=
  hI W _ none (World.grownBy_alloc W o none) (fun r e => by cases e) h0 hi
theorem ok_alloc {W : World} (o : Obj) (h0 : R.ok W) : R.ok (W.alloc o) := R.okMove h0 (World.grownBy_alloc W o none) (fun r e => by cases e)

/-- What the laws carry themselves abides. -/
theorem rec_abides {w : World} {B L : Nat} (hB : w.heap.size ≤ B) (hL : L < B) (dl : List (Nat × Obj)) (hdl : ∀ p ∈ dl, p.1 < B) (o : Obj) :
    Abides R B (fun W => W.heap[L]? = some o ∧ (∀ p ∈ dl, W.heap[p.1]? = some p.2 ∧ R.sf W p.1) ∧ R.sf W L ∧ Kp R w W ∧ R.ok W) := by
  rintro X Y row hg hr hok ⟨hl, hd, hsl, hkw, _⟩
  have hsm : SmallStep R.m X row := fun r e => by
    rcases hr r e with ⟨h, _⟩ | ⟨_, _, h⟩
    · exact .inl h
    · exact .inr h
  have hsame : ∀ b, b < B → R.sf X b → Y.heap[b]? = X.heap[b]? := fun b hb hs => hg.block b (R.lt hs) (fun e => by
    rcases hr b e.symm with ⟨h, _⟩ | ⟨h, _⟩
    · exact R.ne hs h
    · omega)
  have hokY : R.ok Y := by
    by_cases hm : row = some R.m
    · rcases hr R.m hm with ⟨_, h⟩ | ⟨_, h, _⟩
      · exact h hok
      · exact absurd rfl h
    · exact R.okMove hok hg (fun r e => by
        rcases hr r e with ⟨h, _⟩ | ⟨_, h1, h2⟩
        · exact absurd (by rw [e, h]) hm
        · exact ⟨h1, h2⟩)
  refine ⟨(hsame L hL hsl).trans hl, fun p hp => ⟨(hsame _ (hdl p hp) (hd p hp).2).trans (hd p hp).1, R.move hok hg hsm (hd p hp).2⟩, R.move hok hg hsm hsl, ⟨Nat.le_trans hkw.size hg.size, fun b hb => ?_, fun _ => hokY⟩, hokY⟩
  have h1 := hkw.same b hb
  exact ⟨R.move hok hg hsm h1.1, (hsame b (Nat.lt_of_lt_of_le (R.lt hb) hB) h1.1).trans h1.2⟩
theorem done_abides {B L : Nat} (hL : L < B) (hLm : L ≠ R.m) (dl : List (Nat × Obj)) (hdl : ∀ p ∈ dl, p.1 < B ∧ p.1 ≠ R.m) (o : Obj) :
    Abides R B (fun W => W.heap[L]? = some o ∧ (∀ p ∈ dl, W.heap[p.1]? = some p.2)) := by
  rintro X Y row hg hr _ ⟨hl, hd⟩
  have hsame : ∀ b, b < B → b ≠ R.m → b < X.heap.size → Y.heap[b]? = X.heap[b]? := fun b hb hne hlt => hg.block b hlt (fun e => by
    rcases hr b e.symm with ⟨h, _⟩ | ⟨h, _⟩
    · exact hne h
    · omega)
  exact ⟨(hsame L hL hLm (Array.getElem?_eq_some_iff.1 hl).1).trans hl, fun p hp => (hsame _ (hdl p hp).1 (hdl p hp).2 (Array.getElem?_eq_some_iff.1 (hd p hp)).1).trans (hd p hp)⟩

/-- One round of a loop with record L. -/
theorem round_M {T : Type} {xs : List T} {ps : Array Tmp} {assign body : Code} {w : World} {fn : Nat} {tmps : Array Value} {L dd : Nat} (hL0 : w.heap.size ≤ L)
    {rec : LoopState → Option Code → Loop} (hrec : rec = fun st pe => { state := st, pending := pe, fn, tmps, params := ps, assign, body, defers := dd })
    {At : World → Array Value → T → Prop} (hps : ∀ W vs x, At W vs x → vs.size = ps.size)
    (I : List T → World → Prop) (Ix : Code → List T → World → Prop) (hI : ∀ s, Abides R w.heap.size (I s)) (hIx : ∀ c s, Abides R w.heap.size (Ix c s))
    (hround : ∀ (l : Nat) (pre : List T) (vs : Array Value) (x : T) (W : World), w.heap.size ≤ l → I pre W → At W vs x → Kp R w W → R.ok W → (pre ++ [x]) <+: xs →
      assign.wpIn (Fence.wide.inRound l) 3 P (Exit.then (fun a' W' => Kp R W W' ∧ I pre W' ∧ ∀ W2, l < W2.heap.size → (∃ r, W2.heap[l]? = some (.loop r)) → R.sf W2 l → I pre W2 → Kp R w W2 → R.ok W2 → W'.heap.size ≤ W2.heap.size → (∀ F : World → Prop, Abides R w.heap.size F → F W' → F W2) →
        body.wpIn (Fence.wide.inRound l) 3 P (postM R w.heap.size I Ix (pre ++ [x]) W2) a' W2) (fun _ _ _ => False)) { tmps := (ps.zip vs).foldl (fun t (p, v) => t.setIfInBounds p v) tmps, defers := [] } W)
    (pre : List T) (vs : Array Value) (x : T) (W : World) (hi : I pre W) (hl : W.heap[L]? = some (.loop (rec .ready none))) (hsl : R.sf W L) (hkw : Kp R w W) (hok : R.ok W) (hat : At W vs x) (hpre : (pre ++ [x]) <+: xs)
    (dl : List (Nat × Obj)) (hdl : ∀ p ∈ dl, w.heap.size ≤ p.1 ∧ p.1 ≠ L) (hd : ∀ p ∈ dl, W.heap[p.1]? = some p.2 ∧ R.sf W p.1) :
    YieldAt Fence.wide 0 P L vs W fun e W' =>
      (e = .returned (.bool true) ∧ (I (pre ++ [x]) W' ∧ W'.heap[L]? = some (.loop (rec .ready none)) ∧ (∀ p ∈ dl, W'.heap[p.1]? = some p.2 ∧ R.sf W' p.1) ∧ R.sf W' L ∧ Kp R w W' ∧ R.ok W') ∧ Kp R W W') ∨
      (e = .returned (.bool false) ∧ (∃ c, Ix c (pre ++ [x]) W' ∧ W'.heap[L]? = some (.loop (rec .done (some c))) ∧ (∀ p ∈ dl, W'.heap[p.1]? = some p.2)) ∧ R.ok W' ∧ KpFrom R (L + 1) W W') := by
  refine yieldAt_any (m := 3) 0 ?_
  have hy := run_yield (P := P) (args := vs) hl (by rw [hrec]; exact hps W vs x hat)
  rw [hrec] at hy
  refine ⟨fn, _, assign, body, hy, roundIn_of_wpIn trivial (wpIn_mono (hround L pre vs x W hL0 hi hat hkw hok hpre) ?_)⟩
  clear hy hat
  intro e1 a' Wa hq1
  cases e1 with
  | ret => exact hq1.elim
  | exit id => exact hq1.elim
  | goto t => exact hq1.elim
  | panic ch => exact hq1.elim
  | outgrown => exact hq1.elim
  | normal => ?_
  obtain ⟨hka, hia, hbody⟩ := hq1
  have hoka := hka.ok hok
  have hla : Wa.heap[L]? = some (.loop (rec .ready none)) := (hka.same L hsl).2.trans hl
  have hsla := (hka.same L hsl).1
  have hda : ∀ p ∈ dl, Wa.heap[p.1]? = some p.2 ∧ R.sf Wa p.1 := fun p hp => ⟨(hka.same _ (hd p hp).2).2.trans (hd p hp).1, (hka.same _ (hd p hp).2).1⟩
  have hlta : L < Wa.heap.size := R.lt hsla
  have hLm : L ≠ R.m := R.ne hsla
  refine ⟨_, run_beginRound hla (by rw [hrec]), ?_⟩
  have hl2 : (Wa.putObj L (.loop { rec .ready none with state := .busy })).heap[L]? = some (.loop { rec .ready none with state := .busy }) := World.putObj_heap_same hlta
  have hd2 : ∀ p ∈ dl, (Wa.putObj L (.loop { rec .ready none with state := .busy })).heap[p.1]? = some p.2 := fun p hp => (World.putObj_heap_other (hdl p hp).2).trans (hda p hp).1
  have hok2 : R.ok (Wa.putObj L (.loop { rec .ready none with state := .busy })) := ok_put hoka hLm hla rfl
  have hkwa := hkw.trans hka
  have hkw2 : Kp R w (Wa.putObj L (.loop { rec .ready none with state := .busy })) :=
    ⟨by simpa using hkwa.size, fun b hb => ⟨move_put hoka hla rfl (hkwa.same b hb).1, (World.putObj_heap_other (by have := R.lt hb; omega)).trans (hkwa.same b hb).2⟩, fun _ => hok2⟩
  refine wpIn_mono (hbody _ (by simpa using hlta) ⟨_, hl2⟩ (move_put hoka hla rfl hsla) (abides_put (hI pre) _ hoka hia hL0 hLm hla rfl) hkw2 hok2 (by simp) (fun F hF hf => abides_put hF _ hoka hf hL0 hLm hla rfl)) ?_
  have fin : ∀ (jump : Option Code) (W3 : World), KpFrom R w.heap.size (Wa.putObj L (.loop { rec .ready none with state := .busy })) W3 → R.ok W3 →
      (Instr.endRound L jump).run P W3 = .ok (.bool jump.isNone) (W3.putObj L (.loop (rec (if jump.isNone then .ready else .done) jump))) ∧
      W3.heap[L]? = some (.loop { rec .ready none with state := .busy }) ∧ R.sf W3 L ∧
      (W3.putObj L (.loop (rec (if jump.isNone then .ready else .done) jump))).heap[L]? = some (.loop (rec (if jump.isNone then .ready else .done) jump)) ∧
      (∀ p ∈ dl, (W3.putObj L (.loop (rec (if jump.isNone then .ready else .done) jump))).heap[p.1]? = some p.2 ∧ R.sf (W3.putObj L (.loop (rec (if jump.isNone then .ready else .done) jump))) p.1) ∧
      (∀ b, w.heap.size ≤ b → b ≠ L → R.sf W b → R.sf (W3.putObj L (.loop (rec (if jump.isNone then .ready else .done) jump))) b ∧ (W3.putObj L (.loop (rec (if jump.isNone then .ready else .done) jump))).heap[b]? = W.heap[b]?) ∧
      W.heap.size ≤ (W3.putObj L (.loop (rec (if jump.isNone then .ready else .done) jump))).heap.size := fun jump W3 hk3 ho3 => by
    have hb3 := hk3.same L hL0 (move_put hoka hla rfl hsla)
    have hl3 := hb3.2.trans hl2
    have hbd := fun p hp => hk3.same p.1 (hdl p hp).1 (move_put hoka hla rfl (hda p hp).2)
    have := run_endRound (P := P) jump hl3
    rw [hrec] at this ⊢
    refine ⟨this, by rw [hrec] at hl3; exact hl3, hb3.1, World.putObj_heap_same (Array.getElem?_eq_some_iff.1 hl3).1, fun p hp => ⟨(World.putObj_heap_other (hdl p hp).2).trans ((hbd p hp).2.trans (hd2 p hp)), move_put ho3 hl3 rfl (hbd p hp).1⟩, fun b hb hbL hs => ?_, ?_⟩
    · have h1 := hka.same b hs
      have h2 := hk3.same b hb (move_put hoka hla rfl h1.1)
      exact ⟨move_put ho3 hl3 rfl h2.1, (World.putObj_heap_other hbL).trans (h2.2.trans ((World.putObj_heap_other hbL).trans h1.2))⟩
    · have := hka.size; have := hk3.size; simp at *; omega
  rintro e a3 W3 hp
  have hbad : ∀ (c : Code), KpFrom R w.heap.size (Wa.putObj L (.loop { rec .ready none with state := .busy })) W3 → R.ok W3 → Ix c (pre ++ [x]) W3 →
      ∃ v w', (Instr.endRound L (some c)).run P W3 = .ok v w' ∧ ((Ending.returned v = .returned (.bool true) ∧ (I (pre ++ [x]) w' ∧ w'.heap[L]? = some (.loop (rec .ready none)) ∧ (∀ p ∈ dl, w'.heap[p.1]? = some p.2 ∧ R.sf w' p.1) ∧ R.sf w' L ∧ Kp R w w' ∧ R.ok w') ∧ Kp R W w') ∨
      (Ending.returned v = .returned (.bool false) ∧ (∃ c, Ix c (pre ++ [x]) w' ∧ w'.heap[L]? = some (.loop (rec .done (some c))) ∧ (∀ p ∈ dl, w'.heap[p.1]? = some p.2)) ∧ R.ok w' ∧ KpFrom R (L + 1) W w')) := fun c hk3 ho3 hi3 => by
    obtain ⟨hr, hl3, hs3, hl4, hd4, hall, hsz⟩ := fin (some c) W3 hk3 ho3
    exact ⟨_, _, hr, .inr ⟨rfl, ⟨c, abides_put (hIx c (pre ++ [x])) _ ho3 hi3 hL0 hLm hl3 rfl, hl4, fun p hp => (hd4 p hp).1⟩, ok_put ho3 hLm hl3 rfl, ⟨hsz, fun b hb hs => hall b (by omega) (by omega) hs⟩⟩⟩
  cases e with
  | normal =>
    obtain ⟨hk3, hi3⟩ := hp
    have ho3 := hk3.ok hok2
    obtain ⟨hr, hl3, hs3, hl4, hd4, hall, hsz⟩ := fin none W3 (hk3.from _) ho3
    have ho4 : R.ok (W3.putObj L (.loop (rec (if (none : Option Code).isNone then .ready else .done) none))) := ok_put ho3 hLm hl3 rfl
    have hW4 : Kp R W (W3.putObj L (.loop (rec (if (none : Option Code).isNone then .ready else .done) none))) :=
      ⟨hsz, fun b hs => by
        by_cases hbL : b = L
        · subst hbL; exact ⟨move_put ho3 hl3 rfl hs3, hl4.trans hl.symm⟩
        · have h1 := hka.same b hs
          have h2 := hk3.same b (move_put hoka hla rfl h1.1)
          exact ⟨move_put ho3 hl3 rfl h2.1, (World.putObj_heap_other hbL).trans (h2.2.trans ((World.putObj_heap_other hbL).trans h1.2))⟩, fun _ => ho4⟩
    exact ⟨_, _, hr, .inl ⟨rfl, ⟨abides_put (hI (pre ++ [x])) _ ho3 hi3 hL0 hLm hl3 rfl, hl4, hd4, move_put ho3 hl3 rfl hs3, hkw.trans hW4, ho4⟩, hW4⟩⟩
  | ret => exact hbad .ret hp.1 hp.2.1 hp.2.2
  | exit id => exact hbad (.exit id) hp.1 hp.2.1 hp.2.2
  | goto t => exact hbad (.goto t) hp.1 hp.2.1 hp.2.2
  | panic ch => exact hp.elim
  | outgrown => exact hp.elim

/-- **The loop of a function.** -/
theorem wpIn_range_M {T : Type} {xs : List T} {g : Operand} {ps : Array Tmp} {assign body : Code} {Q : Exit → Act → World → Prop} {a : Act} {w : World}
    {gf : Nat} {lb : Array Value} (hg : a.eval g = .func (.func gf) #[] lb) (eg : ∀ args w, (callFunc gf args).run P w = .ok (.enter gf args) w)
    {At : World → Array Value → T → Prop} (hseq : SeqM R P gf lb xs At w) (hok : R.ok w) (hps : ∀ W vs x, At W vs x → vs.size = ps.size)
    (I : List T → World → Prop) (Ix : Code → List T → World → Prop) (hI : ∀ s, Abides R w.heap.size (I s)) (hIx : ∀ c s, Abides R w.heap.size (Ix c s)) (h0 : I [] w)
    (hround : ∀ (l : Nat) (pre : List T) (vs : Array Value) (x : T) (W : World), w.heap.size ≤ l → I pre W → At W vs x → Kp R w W → R.ok W → (pre ++ [x]) <+: xs →
      assign.wpIn (Fence.wide.inRound l) 3 P (Exit.then (fun a' W' => Kp R W W' ∧ I pre W' ∧ ∀ W2, l < W2.heap.size → (∃ r, W2.heap[l]? = some (.loop r)) → R.sf W2 l → I pre W2 → Kp R w W2 → R.ok W2 → W'.heap.size ≤ W2.heap.size → (∀ F : World → Prop, Abides R w.heap.size F → F W' → F W2) →
        body.wpIn (Fence.wide.inRound l) 3 P (postM R w.heap.size I Ix (pre ++ [x]) W2) a' W2) (fun _ _ _ => False)) { tmps := (ps.zip vs).foldl (fun t (p, v) => t.setIfInBounds p v) a.tmps, defers := [] } W)
    (hdone : ∀ (D : Nat) (W : World), w.heap.size ≤ D → I xs W → Kp R w W → R.ok W → W.heap[D]? = some (.deferred (some [])) → R.sf W D → Q .normal { a with defers := { target := .collected D, args := #[] } :: a.defers } W)
    (hstop : ∀ (D : Nat) (c : Code) (pre : List T) (W : World), w.heap.size ≤ D → pre <+: xs → Ix c pre W → KpFrom R w.heap.size w W → R.ok W → W.heap[D]? = some (.deferred (some [])) → c.wpIn Fence.wide 3 P Q { a with defers := { target := .collected D, args := #[] } :: a.defers } W) :
    (Code.rangeFunc g ps assign body).wpIn Fence.wide 3 P Q a w := by
  refine wpIn_rangeFunc ?_
  intro fn _
  obtain ⟨rec, hrec⟩ : ∃ rec : LoopState → Option Code → Loop, rec = fun st pe => { state := st, pending := pe, fn, tmps := a.tmps, params := ps, assign, body, defers := w.heap.size } := ⟨_, rfl⟩
  obtain ⟨W1, hW1⟩ : ∃ W1, (w.alloc (.deferred (some []))).alloc (.loop (rec .ready none)) = W1 := ⟨_, rfl⟩
  have hL1 : W1.heap[w.heap.size + 1]? = some (.loop (rec .ready none)) := by
    rw [← hW1]; have := World.alloc_heap_new (w.alloc (.deferred (some []))) (.loop (rec .ready none)); rwa [World.size_alloc] at this
  have hK1 : W1.heap[w.heap.size]? = some (.deferred (some [])) := by
    rw [← hW1]; exact (Below.heap_alloc _ _ _ (by simp)).trans (World.alloc_heap_new w _)
  have hb1 : Below w.heap.size w W1 := by
    rw [← hW1]; exact ((Below.refl _ w).alloc (Nat.le_refl _) _).alloc (by simp) _
  have hs1 : W1.heap.size = w.heap.size + 2 := by rw [← hW1]; simp
  have hI1 : I [] W1 := by rw [← hW1]; exact abides_alloc (hI []) _ (ok_alloc _ hok) (abides_alloc (hI []) _ hok h0)
  have hmv1 : Mv R w W1 := Mv.of_below hok hb1
  have hok1 := hmv1.ok hok
  have hkp1 := hmv1.kp hok
  have hm0 := R.mlt hok
  refine ⟨w.heap.size + 1, [{ target := .collected w.heap.size, args := #[] }], W1, { target := .fn (.func gf) lb, args := #[.func (.yield (w.heap.size + 1)) #[] #[]] }, W1, gf,
    #[.func (.yield (w.heap.size + 1)) #[] #[]] ++ lb, W1, ?_, ?_, ?_, ?_, (fun h => by cases h), ?_⟩
  · rw [← hW1, hrec]; exact run_enterLoop_outer _ _ _ _ _
  · simp only [resolve, hg]
    simp [go_sem]
  · intro f' hf'; simp [Target.leads] at hf'; subst hf'; trivial
  · simp [invoke, go_sem, eg]
  · refine callsIn_wide.2 ((hseq (w.heap.size + 1)
      (fun pre W => I pre W ∧ W.heap[w.heap.size + 1]? = some (.loop (rec .ready none)) ∧ (∀ p ∈ [(w.heap.size, Obj.deferred (some []))], W.heap[p.1]? = some p.2 ∧ R.sf W p.1) ∧ R.sf W (w.heap.size + 1) ∧ Kp R w W ∧ R.ok W)
      (fun pre W => (∃ c, Ix c pre W ∧ W.heap[w.heap.size + 1]? = some (.loop (rec .done (some c))) ∧ (∀ p ∈ [(w.heap.size, Obj.deferred (some []))], W.heap[p.1]? = some p.2)))
      W1 hkp1 hok1 (by omega) ?_ ?_ ?_ ⟨hI1, hL1, (fun p hp => by obtain rfl := List.mem_singleton.1 hp; exact ⟨hK1, R.fresh hok hb1 (Nat.le_refl _) (by omega)⟩), R.fresh hok hb1 (by omega) (by omega), hkp1, hok1⟩).mono ?_)
    · intro s
      have h1 := ((hI s).mono (by omega : w.heap.size ≤ W1.heap.size)).and (rec_abides (w := w) (B := W1.heap.size) (L := w.heap.size + 1) (by omega) (by omega) [(w.heap.size, Obj.deferred (some []))] (fun p hp => by obtain rfl := List.mem_singleton.1 hp; simp; omega) (.loop (rec .ready none)))
      exact h1
    · rintro s X Y row hg2 hr2 hox ⟨c, hc, hx⟩
      have h1 := ((hIx c s).mono (by omega : w.heap.size ≤ W1.heap.size)).and (done_abides (R := R) (B := W1.heap.size) (L := w.heap.size + 1) (by omega) (by omega) [(w.heap.size, Obj.deferred (some []))] (fun p hp => by obtain rfl := List.mem_singleton.1 hp; simp; omega) (.loop (rec .done (some c))))
      exact ⟨c, h1 X Y row hg2 hr2 hox ⟨hc, hx⟩⟩
    · rintro pre vs x W ⟨hi, hl, hd, hsl, hkw, _⟩ hkW hokW hat hpre
      exact round_M (by omega) hrec hps I Ix hI hIx hround pre vs x W hi hl hsl hkw hokW hat hpre _ (fun p hp => by obtain rfl := List.mem_singleton.1 hp; exact ⟨Nat.le_refl _, by simp⟩) hd
    · rintro e W2 ⟨⟨v, rfl⟩, (⟨⟨hi, hl, hd, hsl, hkw, ho2⟩, _⟩ | ⟨pre, hSp, ⟨c, hi, hl, hd⟩, ho2, hkf⟩)⟩
      all_goals have hk := hd (w.heap.size, Obj.deferred (some [])) (List.mem_singleton.2 rfl)
      · refine ⟨none, _, by have := run_endLoop (P := P) hl (by rw [hrec]; simp); rw [hrec] at this; exact this, hdone _ _ (Nat.le_refl _) (abides_put (hI xs) _ ho2 hi (by omega) (by omega) hl rfl) ⟨by have := hkw.size; simp; omega, fun b hb => ⟨move_put ho2 hl rfl (hkw.same b hb).1, (World.putObj_heap_other (by have := R.lt hb; omega)).trans (hkw.same b hb).2⟩, fun _ => ok_put ho2 (by omega) hl rfl⟩ (ok_put ho2 (by omega) hl rfl) ((World.putObj_heap_other (by simp)).trans hk.1) (move_put ho2 hl rfl hk.2)⟩
      · refine ⟨some c, _, by have := run_endLoop (P := P) hl (by rw [hrec]; simp); rw [hrec] at this; exact this, hstop _ c pre _ (Nat.le_refl _) hSp (abides_put (hIx c pre) _ ho2 hi (by omega) (by omega) hl rfl) ⟨by have := hkf.size; simp; omega, fun b hb hs => absurd (R.lt hs) (by omega)⟩ (ok_put ho2 (by omega) hl rfl) ((World.putObj_heap_other (by simp)).trans hk)⟩

/-- **The loop within a round of loop l₀.** -/
theorem wpIn_range_N {T : Type} {xs : List T} {g : Operand} {ps : Array Tmp} {assign body : Code} {Q : Exit → Act → World → Prop} {a : Act} {w : World}
    {l₀ : Nat} {r₀ : Loop} (hl₀ : w.heap[l₀]? = some (.loop r₀)) {gf : Nat} {lb : Array Value} (hg : a.eval g = .func (.func gf) #[] lb) (eg : ∀ args w, (callFunc gf args).run P w = .ok (.enter gf args) w)
    {At : World → Array Value → T → Prop} (hseq : SeqM R P gf lb xs At w) (hok : R.ok w) (hps : ∀ W vs x, At W vs x → vs.size = ps.size)
    (I : List T → World → Prop) (Ix : Code → List T → World → Prop) (hI : ∀ s, Abides R w.heap.size (I s)) (hIx : ∀ c s, Abides R w.heap.size (Ix c s)) (h0 : I [] w)
    (hround : ∀ (l : Nat) (pre : List T) (vs : Array Value) (x : T) (W : World), w.heap.size ≤ l → I pre W → At W vs x → Kp R w W → R.ok W → (pre ++ [x]) <+: xs →
      assign.wpIn (Fence.wide.inRound l) 3 P (Exit.then (fun a' W' => Kp R W W' ∧ I pre W' ∧ ∀ W2, l < W2.heap.size → (∃ r, W2.heap[l]? = some (.loop r)) → R.sf W2 l → I pre W2 → Kp R w W2 → R.ok W2 → W'.heap.size ≤ W2.heap.size → (∀ F : World → Prop, Abides R w.heap.size F → F W' → F W2) →
        body.wpIn (Fence.wide.inRound l) 3 P (postM R w.heap.size I Ix (pre ++ [x]) W2) a' W2) (fun _ _ _ => False)) { tmps := (ps.zip vs).foldl (fun t (p, v) => t.setIfInBounds p v) a.tmps, defers := [] } W)
    (hdone : ∀ (W : World), I xs W → Kp R w W → R.ok W → Q .normal a W)
    (hstop : ∀ (c : Code) (pre : List T) (W : World), pre <+: xs → Ix c pre W → KpFrom R w.heap.size w W → R.ok W → c.wpIn (Fence.wide.inRound l₀) 3 P Q a W) :
    (Code.rangeFunc g ps assign body).wpIn (Fence.wide.inRound l₀) 3 P Q a w := by
  refine wpIn_rangeFunc ?_
  intro fn _
  obtain ⟨rec, hrec⟩ : ∃ rec : LoopState → Option Code → Loop, rec = fun st pe => { state := st, pending := pe, fn, tmps := a.tmps, params := ps, assign, body, defers := r₀.defers } := ⟨_, rfl⟩
  obtain ⟨W1, hW1⟩ : ∃ W1, w.alloc (.loop (rec .ready none)) = W1 := ⟨_, rfl⟩
  have hL1 : W1.heap[w.heap.size]? = some (.loop (rec .ready none)) := by rw [← hW1]; exact World.alloc_heap_new w _
  have hb1 : Below w.heap.size w W1 := by rw [← hW1]; exact (Below.refl _ w).alloc (Nat.le_refl _) _
  have hs1 : W1.heap.size = w.heap.size + 1 := by rw [← hW1]; simp
  have hI1 : I [] W1 := by rw [← hW1]; exact abides_alloc (hI []) _ hok h0
  have hmv1 : Mv R w W1 := Mv.of_below hok hb1
  have hok1 := hmv1.ok hok
  have hkp1 := hmv1.kp hok
  have hm0 := R.mlt hok
  refine ⟨w.heap.size, [], W1, { target := .fn (.func gf) lb, args := #[.func (.yield w.heap.size) #[] #[]] }, W1, gf,
    #[.func (.yield w.heap.size) #[] #[]] ++ lb, W1, ?_, ?_, ?_, ?_, (fun h => by cases h), ?_⟩
  · rw [← hW1, hrec]; exact run_enterLoop_inner hl₀ _ _ _ _ _
  · simp only [resolve, hg]
    simp [go_sem]
  · intro f' hf'; simp [Target.leads] at hf'; subst hf'; trivial
  · simp [invoke, go_sem, eg]
  · refine CallsIn.inRound l₀ (callsIn_wide.2 ((hseq w.heap.size
      (fun pre W => I pre W ∧ W.heap[w.heap.size]? = some (.loop (rec .ready none)) ∧ (∀ p ∈ ([] : List (Nat × Obj)), W.heap[p.1]? = some p.2 ∧ R.sf W p.1) ∧ R.sf W w.heap.size ∧ Kp R w W ∧ R.ok W)
      (fun pre W => (∃ c, Ix c pre W ∧ W.heap[w.heap.size]? = some (.loop (rec .done (some c))) ∧ (∀ p ∈ ([] : List (Nat × Obj)), W.heap[p.1]? = some p.2)))
      W1 hkp1 hok1 (by omega) ?_ ?_ ?_ ⟨hI1, hL1, (fun p hp => by simp at hp), R.fresh hok hb1 (by omega) (by omega), hkp1, hok1⟩).mono ?_))
    · intro s
      have h1 := ((hI s).mono (by omega : w.heap.size ≤ W1.heap.size)).and (rec_abides (w := w) (B := W1.heap.size) (L := w.heap.size) (by omega) (by omega) [] (fun p hp => by simp at hp) (.loop (rec .ready none)))
      exact h1
    · rintro s X Y row hg2 hr2 hox ⟨c, hc, hx⟩
      have h1 := ((hIx c s).mono (by omega : w.heap.size ≤ W1.heap.size)).and (done_abides (R := R) (B := W1.heap.size) (L := w.heap.size) (by omega) (by omega) [] (fun p hp => by simp at hp) (.loop (rec .done (some c))))
      exact ⟨c, h1 X Y row hg2 hr2 hox ⟨hc, hx⟩⟩
    · rintro pre vs x W ⟨hi, hl, hd, hsl, hkw, _⟩ hkW hokW hat hpre
      exact round_M (Nat.le_refl _) hrec hps I Ix hI hIx hround pre vs x W hi hl hsl hkw hokW hat hpre _ (fun p hp => by simp at hp) hd
    · rintro e W2 ⟨⟨v, rfl⟩, (⟨⟨hi, hl, hd, hsl, hkw, ho2⟩, _⟩ | ⟨pre, hSp, ⟨c, hi, hl, hd⟩, ho2, hkf⟩)⟩
      · refine ⟨none, _, by have := run_endLoop (P := P) hl (by rw [hrec]; simp); rw [hrec] at this; exact this, hdone _ (abides_put (hI xs) _ ho2 hi (Nat.le_refl _) (by omega) hl rfl) ⟨by have := hkw.size; simp; omega, fun b hb => ⟨move_put ho2 hl rfl (hkw.same b hb).1, (World.putObj_heap_other (by have := R.lt hb; omega)).trans (hkw.same b hb).2⟩, fun _ => ok_put ho2 (by omega) hl rfl⟩ (ok_put ho2 (by omega) hl rfl)⟩
      · refine ⟨some c, _, by have := run_endLoop (P := P) hl (by rw [hrec]; simp); rw [hrec] at this; exact this, hstop c pre _ hSp (abides_put (hIx c pre) _ ho2 hi (Nat.le_refl _) (by omega) hl rfl) ⟨by have := hkf.size; simp; omega, fun b hb hs => absurd (R.lt hs) (by omega)⟩ (ok_put ho2 (by omega) hl rfl)⟩
end Go.Proofs.YthmnffgjckpkiaaGreatDoor
namespace Go.Proofs.YthmnffgjckpkiaaGreatDoor
open Go Go.RowKit

/-- The row that the value in a box owns. -/
def rowOf (W : World) (box : Nat) : Option Nat := (W.cell? ⟨box, 0, none⟩).bind Value.ownBlock
theorem rowOf_boxed {W : World} {box : Nat} {t : TypeId} {v : Value} (h : Boxed W box t v) : rowOf W box = v.ownBlock := by unfold rowOf; rw [h.cell]; rfl

structure RgOk (m : Nat) (G : Option Obj → Prop) (box base : Nat) (W : World) : Prop where
  good : G W.heap[m]?
  mlt : m < base
  blt : base ≤ box
  boxed : ∃ t v, Boxed W box t v ∧ t ≠ 4 ∧ ∀ r, v.ownBlock = some r → base ≤ r ∧ r < W.heap.size
def RgSf (m box : Nat) (W : World) (b : Nat) : Prop := b < W.heap.size ∧ b ≠ m ∧ b ≠ box ∧ some b ≠ rowOf W box

theorem boxed_small {m : Nat} {X Y : World} {row : Option Nat} {box : Nat} {t : TypeId} {v : Value} (hb : Boxed X box t v) (ht : t ≠ 4) (hm : box ≠ m) (hg : X.grownBy Y row) (hs : SmallStep m X row) : Boxed Y box t v :=
  hb.kept hg (fun e => by
    rcases hs box e.symm with rfl | ⟨o, ho, hc⟩
    · exact hm rfl
    · rw [show X.heap[box]? = _ from hb] at ho
      cases ho
      rcases hc with hc | ⟨u, hc⟩
      · cases hc
      · injection hc with _ hc; exact ht hc)
theorem RgOk.size {m : Nat} {G : Option Obj → Prop} {box base : Nat} {W : World} (h : RgOk m G box base W) : base < W.heap.size := by
  obtain ⟨t, v, hb, _, _⟩ := h.boxed
  have := hb.lt; have := h.blt; omega

/-- The regime: map m of which G holds, the body's box; all that lies below base is left alone, but the map. -/
def mkR (m : Nat) (G : Option Obj → Prop) (box base : Nat) : Rg where
  m := m
  ok := RgOk m G box base
  sf := RgSf m box
  lt := fun h => h.1
  ne := fun h => h.2.1
  mlt := fun h => Nat.lt_trans h.mlt h.size
  move := fun {X Y row b} h hg hs hsf => by
    obtain ⟨t, v, hb, ht, hr⟩ := h.boxed
    have hb' := boxed_small hb ht (by have := h.mlt; have := h.blt; omega) hg hs
    obtain ⟨h1, h2, h3, h4⟩ := hsf
    exact ⟨Nat.lt_of_lt_of_le h1 hg.size, h2, h3, by rw [rowOf_boxed hb'] ; rwa [rowOf_boxed hb] at h4⟩
  new := fun {X Y row b} h hg hs h1 h2 => by
    obtain ⟨t, v, hb, ht, hr⟩ := h.boxed
    have hb' := boxed_small hb ht (by have := h.mlt; have := h.blt; omega) hg hs
    have := h.size; have := h.mlt; have := hb.lt
    refine ⟨h2, by omega, by omega, ?_⟩
    rw [rowOf_boxed hb']
    intro e
    have := (hr b e.symm).2
    omega
  okMove := fun {X Y row} h hg hs => by
    obtain ⟨t, v, hb, ht, hr⟩ := h.boxed
    have hb' := boxed_small (m := m) hb ht (by have := h.mlt; have := h.blt; omega) hg (fun r e => .inr (hs r e).2)
    have := h.size
    refine ⟨?_, h.mlt, h.blt, t, v, hb', ht, fun r e => ⟨(hr r e).1, Nat.lt_of_lt_of_le (hr r e).2 hg.size⟩⟩
    rw [hg.block m (by have := h.mlt; omega) (fun e => (hs m e.symm).1 rfl)]
    exact h.good

variable {m : Nat} {G : Option Obj → Prop} {box base : Nat}
/-- What lay below base is left alone. -/
theorem RgOk.old {W : World} (h : RgOk m G box base W) {b : Nat} (hb : b < base) (hm : b ≠ m) : (mkR m G box base).sf W b := by
  obtain ⟨t, v, hx, _, hr⟩ := h.boxed
  have := h.blt; have := hx.lt
  refine ⟨by omega, hm, by omega, ?_⟩
  rw [rowOf_boxed hx]
  intro e
  have := (hr b e.symm).1
  omega
/-- A step of the iterator. -/
theorem mv_mk {X Y : World} (hg : X.grownBy Y (some m)) (hG : G X.heap[m]? → G Y.heap[m]?) : Mv (mkR m G box base) X Y :=
  ⟨hg, fun h => by
    obtain ⟨t, v, hb, ht, hr⟩ := h.boxed
    exact ⟨hG h.good, h.mlt, h.blt, t, v, boxed_small (m := m) hb ht (by have := h.mlt; have := h.blt; omega) hg (smallM _ _), ht, fun r e => ⟨(hr r e).1, Nat.lt_of_lt_of_le (hr r e).2 hg.size⟩⟩⟩
/-- A step of the body: the box, the row that it owned, the map, and new blocks. -/
theorem kp_body {W W' : World} {t : TypeId} {v v' : Value} (hb : Boxed W box t v) (hsize : W.heap.size ≤ W'.heap.size)
    (hsame : ∀ b, b < W.heap.size → b ≠ m → b ≠ box → some b ≠ v.ownBlock → W'.heap[b]? = W.heap[b]?) (hG : G W.heap[m]? → G W'.heap[m]?)
    (hb' : Boxed W' box t v') (hrow : ∀ r, v'.ownBlock = some r → (v.ownBlock = some r ∨ W.heap.size ≤ r) ∧ r < W'.heap.size) : Kp (mkR m G box base) W W' := by
  refine ⟨hsize, fun b hs => ?_, fun h => ?_⟩
  · obtain ⟨h1, h2, h3, h4⟩ := hs
    rw [rowOf_boxed hb] at h4
    refine ⟨⟨by omega, h2, h3, ?_⟩, hsame b h1 h2 h3 h4⟩
    rw [rowOf_boxed hb']
    intro e
    rcases (hrow b e.symm).1 with h5 | h5
    · exact h4 h5.symm
    · omega
  · obtain ⟨t0, v0, hb0, ht0, hr0⟩ := h.boxed
    have h1 := hb0.symm.trans hb
    injection h1 with h1
    injection h1 with h2 h3
    have : v0 = v := by simpa using h2
    subst this h3
    refine ⟨hG h.good, h.mlt, h.blt, _, v', hb', ht0, fun r e => ⟨?_, (hrow r e).2⟩⟩
    rcases (hrow r e).1 with h5 | h5
    · exact (hr0 r h5).1
    · have := h.size; omega
/-- What a loop begins with. -/
theorem ok_start {W : World} {t : TypeId} {v : Value} (hG : G W.heap[m]?) (hm : m < base) (hbox : base ≤ box) (hb : Boxed W box t v) (ht : t ≠ 4) (hv : v.ownBlock = none) : (mkR m G box base).ok W :=
  ⟨hG, hm, hbox, t, v, hb, ht, fun r e => by rw [hv] at e; cases e⟩
end Go.Proofs.YthmnffgjckpkiaaGreatDoor
namespace Go.Proofs.YthmnffgjckpkiaaGreatDoor
open Go Go.RowKit

def spanV (k f t : Nat) : Value := .agg #[.int .u8 k, .int .i64 f, .int .i64 t]
/-- The map holds right counts alone. -/
def MapG (g : Gr) (o : Option Obj) : Prop := ∃ es clock, o = some (.map es clock) ∧ ∀ e ∈ es.toList, ∃ k f t : Nat, e.key = spanV k f t ∧ e.val = .int .i64 (cntS g k f t)

theorem held_span : Tryz.prog.stoodInHeld 160 = false := by kernel_rfl

theorem eq_span (k f t k' f' t' : Nat) (w : World) : (Op.equal 160 (spanV k f t) (spanV k' f' t')).run Tryz.prog w = .ok (decide (k = k' ∧ f = f' ∧ t = t')) w := by
  have hd : decide (k = k' ∧ f = f' ∧ t = t') = (((k : Int) == k') && (((f : Int) == f') && ((t : Int) == t'))) := by
    rw [Bool.eq_iff_iff]; simp; omega
  rw [hd]
  unfold Op.equal Op.maxDepth spanV
  rw [run_equalIn_struct w 9999 _ _ _ (by simp [go_sem, Tryz.underlying160]) held_span]
  cases h1 : ((k : Int) == k') <;> cases h2 : ((f : Int) == f') <;> cases h3 : ((t : Int) == t') <;>
  simp [go_sem, Tryz.underlying160, Tryz.underlying5, Tryz.underlying3, part, isAgg, run_underlying, h1, h2, h3]
theorem check_span' (d : Nat) (b : Bool) (k f t : Nat) (w : World) : (Instr.checkKey b (d + 2) 160 (spanV k f t)).run Tryz.prog w = .ok () w := by
  unfold spanV
  simp [Instr.checkKey, go_sem, Tryz.underlying160, Tryz.underlying5, Tryz.underlying3, part, isAgg, run_underlying]
theorem check_span (b : Bool) (k f t : Nat) (w : World) : (Instr.checkKey b 10000 160 (spanV k f t)).run Tryz.prog w = .ok () w := check_span' 9998 b k f t w

theorem spanV_inj {k f t k' f' t' : Nat} : spanV k f t = spanV k' f' t' ↔ k = k' ∧ f = f' ∧ t = t' := by
  unfold spanV; simp; omega

theorem find_span (g : Gr) (k f t : Nat) (w : World) : ∀ (es : List MapEntry) (i : Nat), (∀ e ∈ es, ∃ k f t : Nat, e.key = spanV k f t ∧ e.val = .int .i64 (cntS g k f t)) →
    ((Instr.findAsking 160 (spanV k f t) es i).run Tryz.prog w = .ok none w ∧ ∀ e ∈ es, e.key ≠ spanV k f t) ∨
    (∃ j e, es[j]? = some e ∧ e.key = spanV k f t ∧ (Instr.findAsking 160 (spanV k f t) es i).run Tryz.prog w = .ok (some (i + j, .int .i64 (cntS g k f t))) w)
  | [], i, _ => .inl ⟨by simp [Instr.findAsking], by simp⟩
  | e :: es, i, h => by
    obtain ⟨k', f', t', hk, hv⟩ := h e (by simp)
    have he := eq_span k f t k' f' t' w
    by_cases hq : k = k' ∧ f = f' ∧ t = t'
    · obtain ⟨rfl, rfl, rfl⟩ := hq
      refine .inr ⟨0, e, rfl, hk, ?_⟩
      simp only [Instr.findAsking, Sem.run_bind, hk, he, Result.andThen_ok]
      simp [hv]
    · rcases find_span g k f t w es (i + 1) (fun e he => h e (by simp [he])) with ⟨h1, h2⟩ | ⟨j, e', h1, h2, h3⟩
      · refine .inl ⟨?_, ?_⟩
        · simp only [Instr.findAsking, Sem.run_bind, hk, he, Result.andThen_ok]
          simp [hq, h1]
        · intro x hx
          rcases List.mem_cons.1 hx with rfl | hx
          · rw [hk]; intro e; exact hq (by have := spanV_inj.1 e; omega)
          · exact h2 x hx
      · refine .inr ⟨j + 1, e', by simpa using h1, h2, ?_⟩
        simp only [Instr.findAsking, Sem.run_bind, hk, he, Result.andThen_ok]
        simp [hq, h3]; omega

theorem findNow_span (k f t : Nat) (d : Array Field) (e : MapEntry) (es : List MapEntry) (i : Nat) (k' f' t' : Nat) (h : e.key = spanV k' f' t') : Instr.findNow (.struct d) (spanV k f t) (e :: es) i = none := by
  unfold Instr.findNow
  rw [h]
  rfl
theorem findKey_span (g : Gr) (k f t : Nat) (w : World) (es : List MapEntry) (h : ∀ e ∈ es, ∃ k f t : Nat, e.key = spanV k f t ∧ e.val = .int .i64 (cntS g k f t)) :
    ((Instr.findKey 160 (spanV k f t) es).run Tryz.prog w = .ok none w ∧ ∀ e ∈ es, e.key ≠ spanV k f t) ∨
    (∃ j e, es[j]? = some e ∧ e.key = spanV k f t ∧ (Instr.findKey 160 (spanV k f t) es).run Tryz.prog w = .ok (some (j, .int .i64 (cntS g k f t))) w) := by
  cases es with
  | nil => exact .inl ⟨by simp [Instr.findKey, Instr.findNow, run_underlying Tryz.underlying160], by simp⟩
  | cons e es =>
    obtain ⟨k', f', t', hk, _⟩ := h e (by simp)
    have hr : ∀ r, (Instr.findAsking 160 (spanV k f t) (e :: es)).run Tryz.prog w = r → (Instr.findKey 160 (spanV k f t) (e :: es)).run Tryz.prog w = r := fun r hr => by
      simp only [Instr.findKey, Sem.run_bind, run_underlying Tryz.underlying160, Result.andThen_ok, findNow_span k f t _ e es 0 k' f' t' hk]
      exact hr
    rcases find_span g k f t w (e :: es) 0 h with ⟨h1, h2⟩ | ⟨j, e', h1, h2, h3⟩
    · exact .inl ⟨hr _ h1, h2⟩
    · exact .inr ⟨j, e', h1, h2, by have := hr _ h3; simpa using this⟩

/-- The look-up. -/
theorem look_span (g : Gr) (k f t m : Nat) (w : World) (h : MapG g w.heap[m]?) :
    (Instr.lookup 86 (.map (some m)) (spanV k f t) true).run Tryz.prog w = .ok (.tuple #[.int .i64 (cntS g k f t), .bool true]) w ∨
    (Instr.lookup 86 (.map (some m)) (spanV k f t) true).run Tryz.prog w = .ok (.tuple #[.int .i64 0, .bool false]) w := by
  obtain ⟨es, clock, hb, hes⟩ := h
  have hz : (zeroValue 3).run Tryz.prog w = .ok (.int .i64 0) w := by kernel_rfl
  rcases findKey_span g k f t w es.toList hes with ⟨h1, _⟩ | ⟨j, e, _, _, h1⟩
  · right
    simp [Instr.lookup, run_underlying Tryz.underlying86, MapKept.run_getObj_map hb, check_span, h1, hz, Result.andThen]
  · left
    simp [Instr.lookup, run_underlying Tryz.underlying86, MapKept.run_getObj_map hb, check_span, h1, Result.andThen]
/-- Found or not, wherever the map's block is as it is. -/
theorem look_same (g : Gr) (k f t m : Nat) (o : Option Obj) (h : MapG g o) :
    (∀ w : World, w.heap[m]? = o → (Instr.lookup 86 (.map (some m)) (spanV k f t) true).run Tryz.prog w = .ok (.tuple #[.int .i64 (cntS g k f t), .bool true]) w) ∨
    (∀ w : World, w.heap[m]? = o → (Instr.lookup 86 (.map (some m)) (spanV k f t) true).run Tryz.prog w = .ok (.tuple #[.int .i64 0, .bool false]) w) := by
  obtain ⟨es, clock, rfl, hes⟩ := h
  have hz : ∀ w, (zeroValue 3).run Tryz.prog w = .ok (.int .i64 0) w := fun w => by kernel_rfl
  by_cases hk : ∃ e ∈ es.toList, e.key = spanV k f t
  · left
    intro w hb
    rcases findKey_span g k f t w es.toList hes with ⟨h1, h2⟩ | ⟨j, e, _, _, h1⟩
    · obtain ⟨e, he, hek⟩ := hk
      exact absurd hek (h2 e he)
    · simp [Instr.lookup, run_underlying Tryz.underlying86, MapKept.run_getObj_map hb, check_span, h1, Result.andThen]
  · right
    intro w hb
    rcases findKey_span g k f t w es.toList hes with ⟨h1, _⟩ | ⟨j, e, h0, h2, _⟩
    · simp [Instr.lookup, run_underlying Tryz.underlying86, MapKept.run_getObj_map hb, check_span, h1, hz, Result.andThen]
    · exact absurd ⟨e, List.mem_of_getElem? h0, h2⟩ hk
theorem sameBits_span (d k f t : Nat) : Instr.sameBits (d + 1) (spanV k f t) (spanV k f t) = true := by
  unfold spanV
  simp [Instr.sameBits]
/-- The store. -/
theorem store_span (g : Gr) (k f t m : Nat) (w : World) (h : MapG g w.heap[m]?) :
    ∃ w', (Instr.mapUpdate 86 (.map (some m)) (spanV k f t) (.int .i64 (cntS g k f t))).run Tryz.prog w = .ok () w' ∧ w.grownBy w' (some m) ∧ w'.heap.size = w.heap.size ∧ MapG g w'.heap[m]? := by
  obtain ⟨es, clock, hb, hes⟩ := h
  have hlt := (Array.getElem?_eq_some_iff.1 hb).1
  have hput : ∀ o, (setObj m o).run Tryz.prog w = .ok () (w.putObj m o) := fun o => by rw [MapKept.run_setObj_map o hb]; rfl
  rcases findKey_span g k f t w es.toList hes with ⟨h1, _⟩ | ⟨j, e, h0, hk, h1⟩
  · refine ⟨w.putObj m (.map (es.push { key := spanV k f t, val := .int .i64 (cntS g k f t), born := clock }) (clock + 1)), ?_, grownBy_putObj' _ _ _, by simp, _, _, World.putObj_heap_same hlt, ?_⟩
    · simp [Instr.mapUpdate, run_underlying Tryz.underlying86, MapKept.run_getObj_map hb, check_span, h1, Result.andThen, hput]
    · intro e he
      simp only [Array.toList_push, List.mem_append, List.mem_singleton] at he
      rcases he with he | rfl
      · exact hes e he
      · exact ⟨k, f, t, rfl, rfl⟩
  · have hj : (es[j]?) = some e := by simpa using h0
    refine ⟨w.putObj m (.map (es.modify j fun e => { e with key := spanV k f t, val := .int .i64 (cntS g k f t) }) clock), ?_, grownBy_putObj' _ _ _, by simp, _, _, World.putObj_heap_same hlt, ?_⟩
    · have hs : (Instr.keyThatStays (spanV k f t) (spanV k f t)).run Tryz.prog w = .ok (spanV k f t) w := by
        unfold Instr.keyThatStays; rw [sameBits_span 9999]; simp
      simp [Instr.mapUpdate, run_underlying Tryz.underlying86, MapKept.run_getObj_map hb, check_span, h1, Result.andThen, hput, hj, hk, hs]
    · intro e' he
      obtain ⟨i, hi, rfl⟩ := List.getElem_of_mem he
      simp only [Array.toList_modify, List.getElem_modify, Array.getElem_toList] at hi ⊢
      split
      · exact ⟨k, f, t, rfl, rfl⟩
      · rename_i hne
        exact hes _ (by simp)
end Go.Proofs.YthmnffgjckpkiaaGreatDoor
namespace Go.Proofs.YthmnffgjckpkiaaGreatDoor
open Go Go.RowKit Go.Shelf

/-- What was there in W0 is there, but for the map m. -/
structure Since (m : Nat) (W0 W : World) : Prop where
  size : W0.heap.size ≤ W.heap.size
  block : ∀ b, b < W0.heap.size → b ≠ m → W.heap[b]? = W0.heap[b]?
  map : ∃ es c, W0.heap[m]? = some (.map es c)
theorem Since.refl {m : Nat} {W : World} (h : ∃ es c, W.heap[m]? = some (.map es c)) : Since m W W := ⟨Nat.le_refl _, fun _ _ _ => rfl, h⟩
theorem Since.blockNe {m : Nat} {W0 W : World} (h : Since m W0 W) {a : Addr} {v : Value} (hc : W0.cell? a = some v) : a.block ≠ m := by
  obtain ⟨es, c, hm⟩ := h.map
  intro e
  unfold World.cell? at hc
  rw [e, hm] at hc
  simp at hc
theorem Since.cell {m : Nat} {W0 W : World} (h : Since m W0 W) {a : Addr} {v : Value} (hc : W0.cell? a = some v) : W.cell? a = some v :=
  (World.cell?_of_block (h.block a.block (cell_lt hc) (h.blockNe hc))).trans hc
theorem Since.frozen {m : Nat} {W0 W : World} (h : Since m W0 W) {a : Addr} {v : Value} (hc : W0.cell? a = some v) : W.frozen? a = W0.frozen? a :=
  World.frozen?_of_block (h.block a.block (cell_lt hc) (h.blockNe hc))
theorem Since.grown {m : Nat} {W0 W W' : World} (h : Since m W0 W) (hg : W.grownBy W' (some m)) : Since m W0 W' :=
  ⟨Nat.le_trans h.size hg.size, fun b hb hm => (hg.block b (Nat.lt_of_lt_of_le hb h.size) (fun e => hm (Option.some.inj e))).trans (h.block b hb hm), h.map⟩
theorem Since.below {m : Nat} {W0 W W' : World} (h : Since m W0 W) (hb : Below W.heap.size W W') : Since m W0 W' :=
  ⟨Nat.le_trans h.size hb.size, fun b hlt hm => (hb.block b (Nat.lt_of_lt_of_le hlt h.size)).trans (h.block b hlt hm), h.map⟩
theorem Since.drew {m : Nat} {W0 W : World} (h : Since m W0 W) : Since m W0 W.drew := ⟨h.size, h.block, h.map⟩
theorem Since.alloc {m : Nat} {W0 W : World} (h : Since m W0 W) (o : Obj) : Since m W0 (W.alloc o) := h.below ((Below.refl _ _).alloc (Nat.le_refl _) _)
theorem Since.trans {m : Nat} {A B C : World} (h : Since m A B) (k : Since m B C) : Since m A C :=
  ⟨Nat.le_trans h.size k.size, fun b hb hm => (k.block b (Nat.lt_of_lt_of_le hb h.size) hm).trans (h.block b hb hm), h.map⟩
/-- The agreement leaves alone what was there in W0. -/
def Leaves (R : Rg) (m : Nat) (W0 : World) : Prop := R.m = m ∧ ∀ W b, R.ok W → b < W0.heap.size → b ≠ m → R.sf W b
theorem Since.kp {m : Nat} {W0 W W' : World} {R : Rg} (h : Since m W0 W) (hR : Leaves R m W0) (hok : R.ok W) (hk : Kp R W W') : Since m W0 W' :=
  ⟨Nat.le_trans h.size hk.size, fun b hb hm => ((hk.same b (hR.2 W b hok hb hm)).2).trans (h.block b hb hm), h.map⟩
theorem below_grown {m : Nat} {W W' : World} (h : Below W.heap.size W W') : W.grownBy W' (some m) := ⟨h.os, h.tape, h.output, h.size, fun b hb _ => h.block b hb⟩

/-- An agreement whose map is the map of counts. -/
structure Counts (R : Rg) (m : Nat) (g : Gr) (W0 : World) : Prop where
  leaves : Leaves R m W0
  good : ∀ W, R.ok W → MapG g W.heap[m]?
  mv : ∀ {X Y : World}, X.grownBy Y (some m) → (MapG g X.heap[m]? → MapG g Y.heap[m]?) → Mv R X Y
theorem counts_mkR {m : Nat} {g : Gr} {box base : Nat} {W0 : World} (hb : W0.heap.size ≤ base) : Counts (mkR m (MapG g) box base) m g W0 :=
  ⟨⟨rfl, fun _ _ hok hlt hm => hok.old (Nat.lt_of_lt_of_le hlt hb) hm⟩, fun _ hok => hok.good, fun hg hG => mv_mk hg hG⟩

theorem EntSlice.since {m : Nat} {W0 W : World} {v : Value} {l : List Ent} (h : EntSlice W0 v l) (hs : Since m W0 W) : EntSlice W v l := by
  obtain ⟨⟨a, cap, hv, h1, h2, h3⟩, hok⟩ := h
  refine ⟨⟨a, cap, hv, h1, h2, ?_⟩, hok⟩
  rcases h3 with h3 | ⟨b, off, ha, hb, hc⟩
  · exact .inl h3
  · exact .inr ⟨b, off, ha, Nat.lt_of_lt_of_le hb hs.size, fun i hi => ⟨hs.cell (hc i hi).1, hs.cell (hc i hi).2.1, hs.cell (hc i hi).2.2⟩⟩
theorem StrSlice.since {m : Nat} {W0 W : World} {v : Value} {l : List (List UInt8)} (h : StrSlice W0 v l) (hs : Since m W0 W) : StrSlice W v l := by
  obtain ⟨a, cap, hv, h1, h2, h⟩ := h
  refine ⟨a, cap, hv, h1, h2, ?_⟩
  rcases h with h | ⟨b, off, ha, hc⟩
  · exact .inl h
  · exact .inr ⟨b, off, ha, fun j hj => hs.cell (hc j hj)⟩

/-- A slice of openings. -/
def opnCells (o : Opn) : List Value := [.int .i64 o.entry, strVal o.word, .int .i64 o.at]
def OpnSlice (w : World) (v : Value) (os : List Opn) : Prop :=
  ∃ a cap, v = .slice a os.length cap ∧ os.length ≤ 1000 ∧ (os = [] ∨ ∃ b, a = some ⟨b, 0, none⟩ ∧ ∀ j (h : j < os.length), w.cell? ⟨b, j * 3, none⟩ = some (.int .i64 os[j].entry) ∧ w.cell? ⟨b, j * 3 + 1, none⟩ = some (strVal os[j].word) ∧ w.cell? ⟨b, j * 3 + 2, none⟩ = some (.int .i64 os[j].at))
theorem OpnSlice.since {m : Nat} {W0 W : World} {v : Value} {os : List Opn} (h : OpnSlice W0 v os) (hs : Since m W0 W) : OpnSlice W v os := by
  obtain ⟨a, cap, hv, h1, h⟩ := h
  refine ⟨a, cap, hv, h1, ?_⟩
  rcases h with h | ⟨b, ha, hc⟩
  · exact .inl h
  · exact .inr ⟨b, ha, fun j hj => ⟨hs.cell (hc j hj).1, hs.cell (hc j hj).2.1, hs.cell (hc j hj).2.2⟩⟩
/-- The kinds of a row's parts. -/
def PartsAt (w : World) (v : Value) (ks : List Nat) : Prop :=
  ∃ a cap, v = .slice a ks.length cap ∧ (ks = [] ∨ ∃ b, a = some ⟨b, 0, none⟩ ∧ ∀ j (h : j < ks.length), w.cell? ⟨b, j, none⟩ = some (.int .u8 ks[j]))
theorem PartsAt.since {m : Nat} {W0 W : World} {v : Value} {ks : List Nat} (h : PartsAt W0 v ks) (hs : Since m W0 W) : PartsAt W v ks := by
  obtain ⟨a, cap, hv, h⟩ := h
  refine ⟨a, cap, hv, ?_⟩
  rcases h with h | ⟨b, ha, hc⟩
  · exact .inl h
  · exact .inr ⟨b, ha, fun j hj => hs.cell (hc j hj)⟩

/-- A function value that reads the words ahead of a row's parts, wherever what was there in W0 is there. -/
def OpenOk (m : Nat) (W0 : World) (n : Nat) (fv : Value) (op : Nat → Nat → List Opn) : Prop :=
  ∃ f bound caps, fv = .func (.func f) bound caps ∧ (∀ args w, (callFunc f args).run Tryz.prog w = .ok (.enter f args) w) ∧
    ∀ W, Since m W0 W → ∀ i j : Nat, i ≤ j → j ≤ n → Calls Tryz.prog f (bound ++ (#[.int .i64 i, .int .i64 j] ++ caps)) W fun e W' => ∃ v, e = .returned v ∧ OpnSlice W' v (op i j) ∧ Below W.heap.size W W' ∧ ∀ c, v.ownBlock = some c → W.heap.size ≤ c
theorem OpenOk.since {m : Nat} {W0 W1 : World} {n : Nat} {fv : Value} {op : Nat → Nat → List Opn} (h : OpenOk m W0 n fv op) (hs : Since m W0 W1) : OpenOk m W1 n fv op := by
  obtain ⟨f, bd, caps, rfl, he, hc⟩ := h
  exact ⟨f, bd, caps, rfl, he, fun W hW => hc W (hs.trans hW)⟩

/-- A row as a value, with its opening and its parts. -/
def rowV (r : RowS) (fv pv : Value) : Value := .agg #[.int .u8 r.rule, .int .u8 r.kind, fv, pv, strVal r.glue]
structure RowOn (m : Nat) (W0 : World) (n : Nat) (r : RowS) (fv pv : Value) : Prop where
  opn : OpenOk m W0 n fv r.opn
  parts : PartsAt W0 pv r.parts

/-- **The grammar at block gb.** -/
structure Gram (m gb : Nat) (g : Gr) (ended : Bool) (W : World) : Prop where
  map : ∃ es c, W.heap[m]? = some (.map es c)
  lex : ∃ v, W.cell? ⟨gb, 0, none⟩ = some v ∧ EntSlice W v g.l
  toks : ∃ v, W.cell? ⟨gb, 1, none⟩ = some v ∧ StrSlice W v g.toks
  ended : W.cell? ⟨gb, 2, none⟩ = some (.bool ended)
  counts : W.cell? ⟨gb, 5, none⟩ = some (.map (some m))
  few : g.toks.length ≤ 24
  table : ∃ tb, W.cell? ⟨gb, 4, none⟩ = some (.slice (some ⟨tb, 0, none⟩) 24 24) ∧ ∀ j (h : j < (rowsS g).length), ∃ fv pv, RowOn m W g.toks.length (rowsS g)[j] fv pv ∧
    W.cell? ⟨tb, j * 5, none⟩ = some (.int .u8 (rowsS g)[j].rule) ∧ W.cell? ⟨tb, j * 5 + 1, none⟩ = some (.int .u8 (rowsS g)[j].kind) ∧ W.cell? ⟨tb, j * 5 + 2, none⟩ = some fv ∧ W.cell? ⟨tb, j * 5 + 3, none⟩ = some pv ∧ W.cell? ⟨tb, j * 5 + 4, none⟩ = some (strVal (rowsS g)[j].glue)
theorem rowsS_len (g : Gr) : (rowsS g).length = 24 := rfl
/-- A token. -/
theorem Gram.tok {m gb : Nat} {g : Gr} {b : Bool} {W0 W : World} (h : Gram m gb g b W0) (hs : Since m W0 W) : ∃ a cap, W.cell? ⟨gb, 1, none⟩ = some (.slice a g.toks.length cap) ∧ g.toks.length ≤ cap ∧ cap ≤ maxLen ∧ (g.toks = [] ∨ ∃ tb off, a = some ⟨tb, off, none⟩ ∧ ∀ j (h : j < g.toks.length), W.cell? ⟨tb, off + j, none⟩ = some (.string ⟨g.toks[j].toArray⟩)) := by
  obtain ⟨v, hv, hst⟩ := h.toks
  obtain ⟨a, cap, rfl, h1, h2, h3⟩ := hst.since hs
  exact ⟨a, cap, hs.cell hv, h1, h2, h3⟩
end Go.Proofs.YthmnffgjckpkiaaGreatDoor
