/-
  What the reference of chapter 34 computes, as plain functions, and that it counts and lists the same parses.
  There are as many parses as the count tells.
  Right parses and their words, as plain functions.
-/
import Derived.Test.YthmnffgjckpkiaaGreatDoorGEngA
namespace Go.Proofs.YthmnffgjckpkiaaGreatDoor
open Go Go.RowKit

/-- A step with the spans of its parts. -/
structure StepS where
  rule : Nat
  entry : Nat
  word : List UInt8
  parts : List (Nat × Nat × Nat)
def tokAt (g : Gr) (i : Nat) : List UInt8 := g.toks.getD i []
def catR (rule : Nat) : Int :=
  if rule = 6 then 3 else if rule = 8 ∨ rule = 10 ∨ rule = 11 then 1 else if rule = 9 ∨ rule = 14 then 2 else if rule = 12 then 4 else if rule = 13 ∨ rule = 19 then 5 else 0
/-- Steps of a rule for all entries of its kind of which a token is a form. -/
def entsS (g : Gr) (tok : List UInt8) (third : Bool) (s : StepS) : List StepS := ((lookS tok g.l).filter fun x => x.2 == third && catAt g.l x.1 == catR s.rule).map fun x => { s with entry := x.1 }
/-- Steps of a rule for all places of a word between two parts. -/
def halvesS (g : Gr) (f t rule : Nat) (between : List UInt8) (kind : Nat) : List StepS :=
  ((List.range (t - f)).map (· + f)).filterMap fun k => if tokAt g k = between then some ⟨rule, 0, [], [(kind, f, k), (kind, k + 1, t)]⟩ else none
def verbsS (g : Gr) (f t : Nat) (third : Bool) : List StepS :=
  if t ≤ f then [] else if t = f + 1 then entsS g (tokAt g f) third ⟨12, 0, [], []⟩ else entsS g (tokAt g f) third ⟨13, 0, [], [(2, f + 1, t)]⟩
def statesS (g : Gr) (f t : Nat) : List StepS :=
  if t = f + 1 then entsS g (tokAt g f) false ⟨14, 0, [], []⟩ else if f + 1 < t ∧ tokAt g f = articleS (tokAt g (f + 1)) then [⟨15, 0, [], [(3, f + 1, t)]⟩] else []
def secondS (g : Gr) (f t : Nat) : List UInt8 := if f + 1 < t then tokAt g (f + 1) else []
def clauseS (g : Gr) (f t : Nat) : List StepS :=
  (if tokAt g f = wIf then halvesS g (f + 1) t 1 wThen 1 else []) ++ halvesS g f t 2 wIff 1 ++ halvesS g f t 3 wOr 1 ++ halvesS g f t 4 wAnd 1 ++
    ((List.range (t - (f + 1))).map (· + (f + 1))).map fun k => ⟨5, 0, [], [(2, f, k), (4, k, t)]⟩
def nounPS (g : Gr) (f t : Nat) : List StepS :=
  if t = f + 1 then entsS g (tokAt g f) false ⟨6, 0, [], []⟩ else
    if tokAt g f = wA ∨ tokAt g f = [97, 110] then (if tokAt g f = articleS (secondS g f t) then [⟨7, 0, wA, [(3, f + 1, t)]⟩] else [])
    else if tokAt g f ∈ [wEvery, wEach, wSome, wNo] then [⟨7, 0, tokAt g f, [(3, f + 1, t)]⟩] else []
def nounS' (g : Gr) (f t : Nat) : List StepS :=
  if t = f + 1 then entsS g (tokAt g f) false ⟨8, 0, [], []⟩ else
    entsS g (tokAt g f) false ⟨9, 0, [], [(3, f + 1, t)]⟩ ++
    (if (secondS g f t = wWho ∨ secondS g f t = wThat) ∧ f + 2 < t then
      entsS g (tokAt g f) false ⟨10, 0, secondS g f t, [(4, f + 2, t)]⟩ ++ entsS g (tokAt g f) false ⟨11, 0, secondS g f t, [(2, f + 2, t - 1), (5, t - 1, t)]⟩ else [])
def verbPS (g : Gr) (f t : Nat) : List StepS :=
  verbsS g f t true ++ (if tokAt g f = wIs then statesS g (f + 1) t else []) ++
    (if tokAt g f = wDoes ∧ secondS g f t = wNot then [⟨16, 0, [], [(6, f + 2, t)]⟩] else []) ++
    (if tokAt g f = wIs ∧ secondS g f t = wNot then [⟨16, 0, [], [(7, f + 2, t)]⟩] else []) ++ halvesS g f t 17 wOr 4 ++ halvesS g f t 18 wAnd 4
/-- All steps that a span may have. -/
def stepsS (g : Gr) (k f t : Nat) : List StepS :=
  if t ≤ f then [] else if k = 1 then clauseS g f t else if k = 2 then nounPS g f t else if k = 3 then nounS' g f t else if k = 4 then verbPS g f t
  else if k = 5 then (if t = f + 1 then entsS g (tokAt g f) true ⟨19, 0, [], []⟩ else []) else if k = 6 then verbsS g f t false else if k = 7 then statesS g f t else []

def numS (c : Nat → Nat → Nat → Nat) (p : Nat × Nat × Nat) : Nat := if p.2.2 ≤ p.2.1 then 0 else c p.1 p.2.1 p.2.2
/-- How many parses a step has. -/
def prodS (c : Nat → Nat → Nat → Nat) (ps : List (Nat × Nat × Nat)) : Nat := ps.foldl (fun k p => min most (k * numS c p)) 1
def timesS (c : Nat → Nat → Nat → Nat) (l : List StepS) : Nat := min most ((l.map fun s => prodS c s.parts).sum)
/-- The lists of parts of a step. -/
def subsS (T : Nat → Nat → Nat → List Tr) (ps : List (Nat × Nat × Nat)) : List (List Tr) := ps.foldl (fun acc p => acc.flatMap fun a => (T p.1 p.2.1 p.2.2).map fun b => a ++ [b]) [[]]
def stepTrees (g : Gr) (s : StepS) : List Tr := if prodS (cntS g) s.parts = 0 then [] else (subsS (treesS g) s.parts).map (Tr.node s.rule s.entry s.word)

/-! ### The program's rows as steps -/
def opnSteps (g : Gr) (rule : Nat) (parts : List Nat) (glue : List UInt8) (t : Nat) (o : Opn) : List StepS :=
  match parts with
    | [] => if o.at = t then [⟨rule, o.entry, o.word, []⟩] else []
    | [k] => [⟨rule, o.entry, o.word, [(k, o.at, t)]⟩]
    | k1 :: k2 :: _ => (splitsS g glue o.at t).map fun s => ⟨rule, o.entry, o.word, [(k1, o.at, s.1), (k2, s.2, t)]⟩
def rowSteps (g : Gr) (f t : Nat) (r : RowS) : List StepS := (r.opn f t).flatMap (opnSteps g r.rule r.parts r.glue t)
theorem rowSteps_mk (g : Gr) (f t rule k : Nat) (op : Nat → Nat → List Opn) (ps : List Nat) (gl : List UInt8) : rowSteps g f t ⟨rule, k, op, ps, gl⟩ = (op f t).flatMap (opnSteps g rule ps gl t) := rfl
def progSteps (g : Gr) (k f t : Nat) : List StepS := (rowsS g).flatMap fun r => if r.kind = k then rowSteps g f t r else []
def live (g : Gr) (s : StepS) : Bool := decide (0 < prodS (cntS g) s.parts)

theorem most_pos : 0 < most := by decide
theorem numS_cnt (g : Gr) (p : Nat × Nat × Nat) : numS (cntS g) p = cntS g p.1 p.2.1 p.2.2 := by
  unfold numS; split
  · rename_i h; exact (cntS_zero g h).symm
  · rfl
theorem foldl_sat {α : Type} (F : α → Nat) (G : Nat → α → Nat) : ∀ (l : List α) (n : Nat), (∀ n a, n ≤ most → a ∈ l → G n a = min most (n + F a)) → n ≤ most → l.foldl G n = min most (n + (l.map F).sum)
  | [], n, _, hn => by simp; omega
  | a :: l, n, hG, hn => by
    simp only [List.foldl_cons, List.map_cons, List.sum_cons]
    rw [hG n a hn (by simp), foldl_sat F G l _ (fun n b hn hb => hG n b hn (by simp [hb])) (Nat.min_le_left _ _)]
    omega
theorem sum_flatMap {α β : Type} (F : β → Nat) (G : α → List β) : ∀ l : List α, ((l.flatMap G).map F).sum = (l.map fun a => ((G a).map F).sum).sum
  | [] => rfl
  | a :: l => by simp [List.flatMap_cons, sum_flatMap F G l]
theorem sum_sat {α : Type} (F : α → Nat) : ∀ l : List α, min most ((l.map fun a => min most (F a)).sum) = min most ((l.map F).sum)
  | [] => rfl
  | a :: l => by
    have := sum_sat F l
    simp only [List.map_cons, List.sum_cons]
    omega
theorem prodS_two (g : Gr) (p q : Nat × Nat × Nat) : prodS (cntS g) [p, q] = min most (cntS g p.1 p.2.1 p.2.2 * cntS g q.1 q.2.1 q.2.2) := by
  have h := cntS_le g p.1 p.2.1 p.2.2
  simp only [prodS, List.foldl_cons, List.foldl_nil, numS_cnt]
  rw [Nat.one_mul, Nat.min_eq_right h]
theorem prodS_one (g : Gr) (p : Nat × Nat × Nat) : prodS (cntS g) [p] = cntS g p.1 p.2.1 p.2.2 := by
  have h := cntS_le g p.1 p.2.1 p.2.2
  simp only [prodS, List.foldl_cons, List.foldl_nil, numS_cnt]
  rw [Nat.one_mul, Nat.min_eq_right h]
theorem pairStep_sum (g : Gr) (k1 k2 f t : Nat) (n : Nat) (s : Nat × Nat) (hn : n ≤ most) : pairStep (cntS g) k1 k2 f t n s = min most (n + min most (cntS g k1 f s.1 * cntS g k2 s.2 t)) := by
  unfold pairStep
  split
  · rfl
  · rename_i h
    have h0 : cntS g k1 f s.1 = 0 := by omega
    rw [h0, Nat.zero_mul]
    omega
theorem partsS_sum (g : Gr) (r : RowS) (o : Opn) (t : Nat) : partsS g r o.at t = min most (((opnSteps g r.rule r.parts r.glue t o).map fun s => prodS (cntS g) s.parts).sum) := by
  obtain ⟨rule, kind, opn, parts, glue⟩ := r
  unfold partsS partsF opnSteps
  rcases parts with _ | ⟨k1, _ | ⟨k2, ks⟩⟩
  · by_cases h : o.at = t
    · simp only [if_pos h, List.map_cons, List.map_nil, List.sum_cons, List.sum_nil, prodS, List.foldl_nil]
      decide
    · simp [h]
  · have h := cntS_le g k1 o.at t
    simp only [List.map_cons, List.map_nil, List.sum_cons, List.sum_nil, prodS_one]
    omega
  · simp only
    rw [foldl_sat (fun s : Nat × Nat => min most (cntS g k1 o.at s.1 * cntS g k2 s.2 t)) _ _ 0 (fun n a hn _ => pairStep_sum g k1 k2 _ t n a hn) (Nat.zero_le _)]
    simp only [List.map_map, Nat.zero_add, Function.comp_def, prodS_two]
theorem rows_sum (g : Gr) (k f t : Nat) : (rowsS g).foldl (rowStep (partsS g) k f t) 0 = timesS (cntS g) (progSteps g k f t) := by
  have hrow : ∀ n r, n ≤ most → r ∈ rowsS g → rowStep (partsS g) k f t n r = min most (n + (((if r.kind = k then rowSteps g f t r else []).map fun s => prodS (cntS g) s.parts).sum)) := by
    intro n r hn _
    unfold rowStep
    split
    · rw [foldl_sat (fun o : Opn => partsS g r o.at t) (opnStep (partsS g) r t) _ n (fun n a hn _ => rfl) hn]
      unfold rowSteps
      rw [sum_flatMap]
      simp only [partsS_sum]
      have := sum_sat (fun o : Opn => ((opnSteps g r.rule r.parts r.glue t o).map fun s => prodS (cntS g) s.parts).sum) (r.opn f t)
      omega
    · simp; omega
  rw [foldl_sat _ _ _ 0 hrow (Nat.zero_le _)]
  unfold timesS progSteps
  rw [sum_flatMap, Nat.zero_add]
theorem filter_sum {α : Type} (F : α → Nat) : ∀ l : List α, ((l.filter fun a => decide (0 < F a)).map F).sum = (l.map F).sum
  | [] => rfl
  | a :: l => by
    by_cases h : 0 < F a
    · simp [h, filter_sum F l]
    · simp [h, filter_sum F l]; omega
theorem timesS_live (g : Gr) (l : List StepS) : timesS (cntS g) (l.filter (live g)) = timesS (cntS g) l := by
  unfold timesS live
  rw [filter_sum (fun s : StepS => prodS (cntS g) s.parts)]
theorem flat_live (g : Gr) : ∀ l : List StepS, (l.filter (live g)).flatMap (stepTrees g) = l.flatMap (stepTrees g)
  | [] => rfl
  | a :: l => by
    by_cases h : live g a = true
    · simp [h, flat_live g l]
    · have h0 : stepTrees g a = [] := by unfold stepTrees; rw [if_pos (by simp [live] at h; exact h)]
      simp [h, flat_live g l, h0]

/-! ### Row by row, the steps that have parses are the same -/
theorem live_two {g : Gr} {r e : Nat} {w : List UInt8} {p q : Nat × Nat × Nat} (h : p.2.2 ≤ p.2.1 ∨ q.2.2 ≤ q.2.1) : live g ⟨r, e, w, [p, q]⟩ = false := by
  unfold live
  rw [prodS_two]
  rcases h with h | h
  · simp [cntS_zero g h]
  · simp [cntS_zero g h]
theorem live_one {g : Gr} {r e : Nat} {w : List UInt8} {p : Nat × Nat × Nat} (h : p.2.2 ≤ p.2.1) : live g ⟨r, e, w, [p]⟩ = false := by
  unfold live
  rw [prodS_one]
  simp [cntS_zero g h]
theorem range_cons (n a : Nat) : (List.range (n + 1)).map (· + a) = a :: (List.range n).map (· + (a + 1)) := by
  rw [List.range_succ_eq_map]
  simp [Function.comp_def, Nat.add_assoc, Nat.add_comm 1]
theorem halves_live (g : Gr) (a t rule kind : Nat) (glue : List UInt8) (hg : glue ≠ []) :
    ((splitsS g glue a t).map fun s => (⟨rule, 0, [], [(kind, a, s.1), (kind, s.2, t)]⟩ : StepS)).filter (live g) = (halvesS g a t rule glue kind).filter (live g) := by
  unfold splitsS halvesS
  by_cases h : a < t
  · obtain ⟨n, hn⟩ : ∃ n, t - a = n + 1 := ⟨t - a - 1, by omega⟩
    have hsame : ∀ l : List Nat, (l.filterMap (splitAt g glue)).map (fun s => (⟨rule, 0, [], [(kind, a, s.1), (kind, s.2, t)]⟩ : StepS)) = l.filterMap fun k => if tokAt g k = glue then some ⟨rule, 0, [], [(kind, a, k), (kind, k + 1, t)]⟩ else none := by
      intro l
      rw [List.map_filterMap]
      congr 1
      funext k
      unfold splitAt tokAt
      rw [if_neg hg]
      split <;> simp
    rw [hsame, hn, show t - (a + 1) = n by omega, range_cons]
    by_cases hk : tokAt g a = glue
    · rw [List.filterMap_cons_some (b := ⟨rule, 0, [], [(kind, a, a), (kind, a + 1, t)]⟩) (by rw [if_pos hk]), List.filter_cons_of_neg (by rw [live_two (.inl (Nat.le_refl _))]; decide)]
    · rw [List.filterMap_cons_none (by rw [if_neg hk])]
  · rw [show t - a = 0 by omega, show t - (a + 1) = 0 by omega]
    rfl
theorem flatMap_single {α β : Type} (F : α → β) : ∀ l : List α, (l.flatMap fun x => [F x]) = l.map F
  | [] => rfl
  | a :: l => by simp [flatMap_single F l]
theorem flatMap_nil' {α β : Type} : ∀ l : List α, (l.flatMap fun _ => ([] : List β)) = []
  | [] => rfl
  | a :: l => by simp [flatMap_nil' l]
theorem flatMap_map' {α β γ : Type} (F : α → β) (G : β → List γ) : ∀ l : List α, (l.map F).flatMap G = l.flatMap fun x => G (F x)
  | [] => rfl
  | a :: l => by simp [flatMap_map' F G l]
theorem entry_eq {g : Gr} {cat : Int} {third : Bool} {f t : Nat} (h : f < t) : entryS g cat third f t = ((lookS (tokAt g f) g.l).filter fun x => x.2 == third && catAt g.l x.1 == cat).map fun x => ⟨x.1, [], f + 1⟩ := by
  unfold entryS tokAt; rw [if_neg (by omega)]
theorem entry_nil (g : Gr) {f t rule k : Nat} {cat : Int} {third : Bool} {gl : List UInt8} (hc : cat = catR rule) (h : f < t) :
    rowSteps g f t ⟨rule, k, entryS g cat third, [], gl⟩ = if t = f + 1 then entsS g (tokAt g f) third ⟨rule, 0, [], []⟩ else [] := by
  subst hc
  unfold rowSteps
  simp only [entry_eq h, flatMap_map', opnSteps]
  by_cases ht : t = f + 1
  · subst ht
    simp only [if_true, flatMap_single]
    rfl
  · simp only [if_neg ht, if_neg (fun e : f + 1 = t => ht e.symm), flatMap_nil']
theorem entry_one (g : Gr) {f t rule k k1 : Nat} {cat : Int} {third : Bool} {gl : List UInt8} (hc : cat = catR rule) (h : f < t) :
    rowSteps g f t ⟨rule, k, entryS g cat third, [k1], gl⟩ = entsS g (tokAt g f) third ⟨rule, 0, [], [(k1, f + 1, t)]⟩ := by
  subst hc
  unfold rowSteps
  simp only [entry_eq h, flatMap_map', opnSteps, flatMap_single]
  rfl
theorem ents_dead (g : Gr) (tok : List UInt8) (third : Bool) (s : StepS) (h : ∀ e, live g { s with entry := e } = false) : (entsS g tok third s).filter (live g) = [] := by
  rw [List.filter_eq_nil_iff]
  intro x hx
  obtain ⟨y, _, rfl⟩ := List.mem_map.1 hx
  rw [h]; decide
theorem says_nil (g : Gr) (f t : Nat) (h : f ≤ t) : saysS g [] f t = [⟨0, [], f⟩] := by unfold saysS; simp [h]
theorem take_one (l : List (List UInt8)) (f : Nat) (w : List UInt8) (hf : f < l.length) : (l.drop f).take 1 = [w] ↔ l.getD f [] = w := by
  rw [List.drop_eq_getElem_cons hf, List.take_succ_cons]
  simp [List.getD, List.getElem?_eq_getElem hf]
theorem take_two (l : List (List UInt8)) (f : Nat) (w x : List UInt8) (hf : f + 1 < l.length) : (l.drop f).take 2 = [w, x] ↔ l.getD f [] = w ∧ l.getD (f + 1) [] = x := by
  rw [List.drop_eq_getElem_cons (by omega), List.drop_eq_getElem_cons hf, List.take_succ_cons, List.take_succ_cons]
  simp [List.getD, List.getElem?_eq_getElem hf, List.getElem?_eq_getElem (show f < l.length by omega)]

theorem clause_live (g : Gr) {f t : Nat} (h : f < t) (ht : t ≤ g.toks.length) : (progSteps g 1 f t).filter (live g) = (clauseS g f t).filter (live g) := by
  unfold progSteps clauseS rowsS
  simp only [List.flatMap_cons, List.flatMap_nil, List.append_nil, Nat.reduceEqDiff, if_true, if_false, List.filter_append]
  have h1 : (rowSteps g f t ⟨1, 1, saysS g [wIf], [1, 1], wThen⟩).filter (live g) = (if tokAt g f = wIf then halvesS g (f + 1) t 1 wThen 1 else []).filter (live g) := by
    rw [rowSteps_mk]
    unfold saysS
    simp only [List.length_cons, List.length_nil, Nat.zero_add]
    by_cases hw : tokAt g f = wIf
    · rw [if_pos ⟨by omega, (take_one _ _ _ (by omega)).2 hw⟩, if_pos hw]
      simp only [List.flatMap_cons, List.flatMap_nil, List.append_nil, opnSteps]
      exact halves_live g (f + 1) t 1 1 wThen (by decide)
    · rw [if_neg (fun hn => hw ((take_one _ _ _ (by omega)).1 hn.2)), if_neg hw]
      rfl
  have h2 : ∀ rule glue, glue ≠ [] → (rowSteps g f t ⟨rule, 1, saysS g [], [1, 1], glue⟩).filter (live g) = (halvesS g f t rule glue 1).filter (live g) := by
    intro rule glue hg
    unfold rowSteps
    simp only [says_nil g f t (by omega), List.flatMap_cons, List.flatMap_nil, List.append_nil, opnSteps]
    exact halves_live g f t rule 1 glue hg
  have h3 : rowSteps g f t ⟨5, 1, saysS g [], [2, 4], []⟩ = ((List.range (t - (f + 1))).map (· + (f + 1))).map fun k => ⟨5, 0, [], [(2, f, k), (4, k, t)]⟩ := by
    unfold rowSteps
    simp only [says_nil g f t (by omega), List.flatMap_cons, List.flatMap_nil, List.append_nil]
    unfold opnSteps splitsS splitAt
    simp [Function.comp_def]
  rw [h1, h2 2 wIff (by decide), h2 3 wOr (by decide), h2 4 wAnd (by decide), h3]
  simp only [List.append_assoc]
theorem noun_phrase_live (g : Gr) {f t : Nat} (h : f < t) : (progSteps g 2 f t).filter (live g) = (nounPS g f t).filter (live g) := by
  unfold progSteps nounPS rowsS
  simp only [List.flatMap_cons, List.flatMap_nil, List.append_nil, Nat.reduceEqDiff, if_true, if_false, List.nil_append, List.filter_append]
  rw [entry_nil g (by decide) h]
  by_cases h1 : t = f + 1
  · rw [if_pos h1, if_pos h1]
    have : (rowSteps g f t ⟨7, 2, detS g, [3], []⟩).filter (live g) = [] := by
      rw [List.filter_eq_nil_iff]
      intro x hx
      unfold rowSteps at hx
      obtain ⟨o, ho, hx⟩ := List.mem_flatMap.1 hx
      have := detS_at ho
      obtain rfl := List.mem_singleton.1 hx
      rw [live_one (by simp; omega)]; decide
    rw [this, List.append_nil]
  · rw [if_neg h1, if_neg h1]
    simp only [List.filter_nil, List.nil_append]
    have hs : secondS g f t = tokAt g (f + 1) := by unfold secondS; rw [if_pos (by omega)]
    have hart : articleS (tokAt g (f + 1)) = wA ∨ articleS (tokAt g (f + 1)) = [97, 110] := by
      unfold articleS; split <;> simp [wA]
    have hdet : detS g f t = if tokAt g f = wA ∨ tokAt g f = [97, 110] then (if tokAt g f = articleS (secondS g f t) then [⟨0, wA, f + 1⟩] else []) else if tokAt g f ∈ [wEvery, wEach, wSome, wNo] then [⟨0, tokAt g f, f + 1⟩] else [] := by
      rw [hs]
      have h0 : detS g f t = if tokAt g f ∈ [wEvery, wEach, wSome, wNo] then [⟨0, tokAt g f, f + 1⟩] else (if t ≤ f + 1 ∨ tokAt g f ≠ articleS (tokAt g (f + 1)) then ([] : List Opn) else [⟨0, [], f + 1⟩]).map fun o => { o with word := wA } := by
        unfold detS
        rw [if_neg (by omega)]
        rfl
      rw [h0]
      by_cases ha : tokAt g f = wA ∨ tokAt g f = [97, 110]
      · rw [if_neg (by rcases ha with ha | ha <;> rw [ha] <;> decide), if_pos ha]
        by_cases he : tokAt g f = articleS (tokAt g (f + 1))
        · rw [if_pos he, if_neg (by rintro (hn | hn); omega; exact hn he)]; rfl
        · rw [if_neg he, if_pos (.inr he)]; rfl
      · rw [if_neg ha]
        split
        · rfl
        · rw [if_pos (.inr (fun e => ha (by rw [e]; exact hart)))]; rfl
    unfold rowSteps opnSteps
    simp only [hdet]
    split
    · split <;> simp
    · split <;> simp
theorem cnt_five (g : Gr) {e t : Nat} (h : t ≠ e + 1) : cntS g 5 e t = 0 := by
  by_cases hlt : e < t
  · rw [cntS_eq g hlt, rows_sum]
    unfold progSteps rowsS
    simp only [List.flatMap_cons, List.flatMap_nil, List.append_nil, Nat.reduceEqDiff, if_true, if_false, List.nil_append]
    rw [entry_nil g (by decide) hlt, if_neg h]
    rfl
  · exact cntS_zero g (by omega)
theorem whom_live (g : Gr) (a t x : Nat) (w : List UInt8) (h : a < t) :
    ((splitsS g [] a t).map fun s => (⟨11, x, w, [(2, a, s.1), (5, s.2, t)]⟩ : StepS)).filter (live g) = [(⟨11, x, w, [(2, a, t - 1), (5, t - 1, t)]⟩ : StepS)].filter (live g) := by
  have hsp : splitsS g [] a t = ((List.range (t - (a + 1))).map (· + (a + 1))).map fun e => (e, e) := by
    have : splitAt g [] = some ∘ fun e => (e, e) := by funext e; simp [splitAt]
    unfold splitsS
    rw [this, List.filterMap_eq_map]
  rw [hsp, List.map_map]
  by_cases h1 : a + 1 < t
  · obtain ⟨n, hn⟩ : ∃ n, t - (a + 1) = n + 1 := ⟨t - (a + 1) - 1, by omega⟩
    rw [hn, List.range_succ, List.map_append, List.map_append, List.filter_append]
    have h0 : ((List.map (· + (a + 1)) (List.range n)).map ((fun s : Nat × Nat => (⟨11, x, w, [(2, a, s.1), (5, s.2, t)]⟩ : StepS)) ∘ fun e => (e, e))).filter (live g) = [] := by
      rw [List.filter_eq_nil_iff]
      intro y hy
      obtain ⟨e, he, rfl⟩ := List.mem_map.1 hy
      obtain ⟨k, hk, rfl⟩ := List.mem_map.1 he
      have := List.mem_range.1 hk
      simp only [Function.comp_def]
      unfold live
      rw [prodS_two]
      simp [cnt_five g (e := k + (a + 1)) (t := t) (by omega)]
    rw [h0, List.nil_append]
    simp only [List.map_cons, List.map_nil, Function.comp_def]
    rw [show n + (a + 1) = t - 1 by omega]
  · rw [show t - (a + 1) = 0 by omega]
    have h0 : live g (⟨11, x, w, [(2, a, t - 1), (5, t - 1, t)]⟩ : StepS) = false := live_two (.inl (by simp; omega))
    simp [h0]
theorem noun_live (g : Gr) {f t : Nat} (h : f < t) : (progSteps g 3 f t).filter (live g) = (nounS' g f t).filter (live g) := by
  unfold progSteps nounS' rowsS
  simp only [List.flatMap_cons, List.flatMap_nil, List.append_nil, Nat.reduceEqDiff, if_true, if_false, List.nil_append, List.filter_append]
  rw [entry_nil g (by decide) h, entry_one g (by decide) h]
  have hrel : ∀ ps gl rule, rowSteps g f t ⟨rule, 3, relS g, ps, gl⟩ = if f + 1 < t ∧ (tokAt g (f + 1) = wWho ∨ tokAt g (f + 1) = wThat) then ((lookS (tokAt g f) g.l).filter fun x => x.2 == false && catAt g.l x.1 == 1).flatMap fun x => opnSteps g rule ps gl t ⟨x.1, tokAt g (f + 1), f + 2⟩ else [] := by
    intro ps gl rule
    show (relS g f t).flatMap (opnSteps g rule ps gl t) = _
    unfold relS
    by_cases h1 : f + 1 < t
    · rw [if_neg (by omega)]
      by_cases h2 : tokAt g (f + 1) = wWho ∨ tokAt g (f + 1) = wThat
      · rw [if_neg (by show ¬ (tokAt g (f + 1) ≠ wWho ∧ tokAt g (f + 1) ≠ wThat); rw [← not_or, Classical.not_not]; exact h2), if_pos ⟨h1, h2⟩]
        simp only [entry_eq h, List.map_map, flatMap_map', Function.comp_def]
        rfl
      · rw [if_pos (by show tokAt g (f + 1) ≠ wWho ∧ tokAt g (f + 1) ≠ wThat; rw [← not_or]; exact h2), if_neg (fun hn => h2 hn.2)]; rfl
    · rw [if_pos (by omega), if_neg (fun hn => h1 hn.1)]; rfl
  rw [hrel, hrel]
  by_cases h1 : t = f + 1
  · rw [if_pos h1, if_pos h1, if_neg (by omega), if_neg (by omega), ents_dead g _ _ ⟨9, 0, [], [(3, f + 1, t)]⟩ (fun e => live_one (by simp; omega))]
    simp
  · rw [if_neg h1, if_neg h1]
    have hs : secondS g f t = tokAt g (f + 1) := by unfold secondS; rw [if_pos (by omega)]
    rw [hs]
    simp only [List.filter_nil, List.nil_append, List.filter_append]
    congr 1
    by_cases h2 : tokAt g (f + 1) = wWho ∨ tokAt g (f + 1) = wThat
    · rw [if_pos ⟨by omega, h2⟩, if_pos ⟨by omega, h2⟩]
      by_cases h3 : f + 2 < t
      · rw [if_pos ⟨h2, h3⟩, List.filter_append]
        congr 1
        · simp only [opnSteps, flatMap_single]; rfl
        · unfold entsS
          rw [List.filter_flatMap, ← flatMap_single, List.filter_flatMap]
          refine flatMap_congr' _ (fun x _ => ?_)
          exact whom_live g (f + 2) t x.1 _ h3
      · rw [if_neg (fun hn => h3 hn.2), List.filter_nil, List.append_eq_nil_iff, List.filter_eq_nil_iff, List.filter_eq_nil_iff]
        constructor
        · intro x hx
          obtain ⟨y, _, hx⟩ := List.mem_flatMap.1 hx
          obtain rfl := List.mem_singleton.1 hx
          rw [live_one (by simp; omega)]; decide
        · intro x hx
          obtain ⟨y, _, hx⟩ := List.mem_flatMap.1 hx
          obtain ⟨s, hs, rfl⟩ := List.mem_map.1 hx
          have := splitsS_mem hs
          simp only at this
          omega
    · rw [if_neg (fun hn => h2 hn.2), if_neg (fun hn => h2 hn.2), if_neg (fun hn => h2 hn.1)]
      simp
theorem behind_rows (g : Gr) {f t r k : Nat} {ps : List Nat} {gl : List UInt8} {op : Nat → Nat → List Opn} (h : f < t) :
    rowSteps g f t ⟨r, k, behindS g wIs op, ps, gl⟩ = if tokAt g f = wIs then rowSteps g (f + 1) t ⟨r, k, op, ps, gl⟩ else [] := by
  rw [rowSteps_mk, rowSteps_mk]
  unfold behindS
  by_cases hw : tokAt g f = wIs
  · rw [if_pos hw, if_neg (by rintro (hn | hn); omega; exact hn hw)]
  · rw [if_neg hw, if_pos (.inr hw)]
    rfl
theorem art_one (g : Gr) {f t r k k1 : Nat} {gl : List UInt8} : rowSteps g f t ⟨r, k, artS g, [k1], gl⟩ = if f + 1 < t ∧ tokAt g f = articleS (tokAt g (f + 1)) then [⟨r, 0, [], [(k1, f + 1, t)]⟩] else [] := by
  rw [rowSteps_mk]
  unfold artS
  by_cases h : f + 1 < t ∧ tokAt g f = articleS (tokAt g (f + 1))
  · rw [if_pos h, if_neg (by rintro (hn | hn); omega; exact hn h.2)]
    rfl
  · rw [if_neg h, if_pos (by
      by_cases h1 : t ≤ f + 1
      · exact .inl h1
      · exact .inr (fun e => h ⟨by omega, e⟩))]
    rfl
theorem entry_rows_none (g : Gr) {f t r k : Nat} {c : Int} {b : Bool} {ps : List Nat} {gl : List UInt8} (h : t ≤ f) : rowSteps g f t ⟨r, k, entryS g c b, ps, gl⟩ = [] := by
  rw [rowSteps_mk]
  unfold entryS
  rw [if_pos h]; rfl
theorem states_rows (g : Gr) (k k' f t : Nat) (gl gl' : List UInt8) : (rowSteps g f t ⟨14, k, entryS g 2 false, [], gl⟩ ++ rowSteps g f t ⟨15, k', artS g, [3], gl'⟩) = statesS g f t := by
  rw [art_one]
  unfold statesS
  by_cases h : f < t
  · rw [entry_nil g (by decide) h]
    by_cases h1 : t = f + 1
    · rw [if_pos h1, if_pos h1, if_neg (fun hn => by omega), List.append_nil]
    · rw [if_neg h1, if_neg h1, List.nil_append]
  · rw [entry_rows_none g (by omega), if_neg (show ¬ t = f + 1 by omega), List.nil_append]
theorem verbs_rows (g : Gr) (k k' f t : Nat) (b : Bool) (gl gl' : List UInt8) (h : f < t) : (rowSteps g f t ⟨12, k, entryS g 4 b, [], gl⟩ ++ rowSteps g f t ⟨13, k', entryS g 5 b, [2], gl'⟩).filter (live g) = (verbsS g f t b).filter (live g) := by
  rw [entry_nil g (by decide) h, entry_one g (by decide) h]
  unfold verbsS
  rw [if_neg (show ¬ t ≤ f by omega), List.filter_append]
  by_cases h1 : t = f + 1
  · rw [if_pos h1, if_pos h1, ents_dead g _ _ ⟨13, 0, [], [(2, f + 1, t)]⟩ (fun e => live_one (by simp; omega)), List.append_nil]
  · rw [if_neg h1, if_neg h1]
    simp
theorem says_two (g : Gr) {f t k k1 : Nat} {a b gl : List UInt8} (h : f < t) (ht : t ≤ g.toks.length) (hb : b ≠ []) :
    (rowSteps g f t ⟨16, k, saysS g [a, b], [k1], gl⟩).filter (live g) = (if tokAt g f = a ∧ secondS g f t = b then [(⟨16, 0, [], [(k1, f + 2, t)]⟩ : StepS)] else []).filter (live g) := by
  rw [rowSteps_mk]
  unfold saysS secondS
  simp only [List.length_cons, List.length_nil, Nat.zero_add, Nat.reduceAdd]
  by_cases h1 : f + 1 < t
  · rw [if_pos h1]
    by_cases h2 : tokAt g f = a ∧ tokAt g (f + 1) = b
    · rw [if_pos h2, if_pos ⟨by omega, (take_two _ _ _ _ (by omega)).2 h2⟩]
      rfl
    · rw [if_neg h2, if_neg (fun hn => h2 ((take_two _ _ _ _ (by omega)).1 hn.2))]
      rfl
  · rw [if_neg h1, if_neg (fun hn => by omega), if_neg (fun hn => hb hn.2.symm)]
    rfl
theorem verb_phrase_live (g : Gr) {f t : Nat} (h : f < t) (ht : t ≤ g.toks.length) : (progSteps g 4 f t).filter (live g) = (verbPS g f t).filter (live g) := by
  unfold progSteps verbPS rowsS
  simp only [List.flatMap_cons, List.flatMap_nil, List.append_nil, Nat.reduceEqDiff, if_true, if_false, List.nil_append]
  have h2 : ∀ rule glue, glue ≠ [] → (rowSteps g f t ⟨rule, 4, saysS g [], [4, 4], glue⟩).filter (live g) = (halvesS g f t rule glue 4).filter (live g) := by
    intro rule glue hg
    unfold rowSteps
    simp only [says_nil g f t (by omega), List.flatMap_cons, List.flatMap_nil, List.append_nil, opnSteps]
    exact halves_live g f t rule 4 glue hg
  have h3 := verbs_rows g 4 4 f t true [] [] h
  have h4 : rowSteps g f t ⟨14, 4, behindS g wIs (entryS g 2 false), [], []⟩ ++ rowSteps g f t ⟨15, 4, behindS g wIs (artS g), [3], []⟩ = if tokAt g f = wIs then statesS g (f + 1) t else [] := by
    rw [behind_rows g h, behind_rows g h]
    split
    · exact states_rows g 4 4 (f + 1) t [] []
    · rfl
  rw [← List.append_assoc (rowSteps g f t ⟨12, _, _, _, _⟩), ← List.append_assoc (rowSteps g f t ⟨14, _, _, _, _⟩), h4]
  simp only [List.filter_append]
  rw [List.filter_append] at h3
  rw [h3, says_two g h ht (by decide), says_two g h ht (by decide), h2 17 wOr (by decide), h2 18 wAnd (by decide)]
  simp only [List.append_assoc]
/-- **The steps that have parses are the same.** -/
theorem steps_live (g : Gr) {k f t : Nat} (h1 : 1 ≤ k) (h7 : k ≤ 7) (h : f < t) (ht : t ≤ g.toks.length) : (progSteps g k f t).filter (live g) = (stepsS g k f t).filter (live g) := by
  unfold stepsS
  rw [if_neg (by omega)]
  rcases (show k = 1 ∨ k = 2 ∨ k = 3 ∨ k = 4 ∨ k = 5 ∨ k = 6 ∨ k = 7 by omega) with rfl | rfl | rfl | rfl | rfl | rfl | rfl
  · exact clause_live g h ht
  · exact noun_phrase_live g h
  · exact noun_live g h
  · exact verb_phrase_live g h ht
  · simp only [Nat.reduceEqDiff, if_false, if_true]
    unfold progSteps rowsS
    simp only [List.flatMap_cons, List.flatMap_nil, List.append_nil, Nat.reduceEqDiff, if_true, if_false, List.nil_append]
    rw [entry_nil g (by decide) h]
  · simp only [Nat.reduceEqDiff, if_false, if_true]
    unfold progSteps rowsS
    simp only [List.flatMap_cons, List.flatMap_nil, List.append_nil, Nat.reduceEqDiff, if_true, if_false, List.nil_append]
    exact verbs_rows g 6 6 f t false [] [] h
  · simp only [Nat.reduceEqDiff, if_false, if_true]
    unfold progSteps rowsS
    simp only [List.flatMap_cons, List.flatMap_nil, List.append_nil, Nat.reduceEqDiff, if_true, if_false, List.nil_append]
    rw [states_rows g 7 7 f t [] []]

/-- **The count by the reference's steps.** -/
theorem cnt_steps (g : Gr) {k f t : Nat} (h1 : 1 ≤ k) (h7 : k ≤ 7) (ht : t ≤ g.toks.length) : cntS g k f t = timesS (cntS g) (stepsS g k f t) := by
  by_cases h : f < t
  · rw [cntS_eq g h, rows_sum, ← timesS_live g (progSteps g k f t), steps_live g h1 h7 h ht, timesS_live]
  · rw [cntS_zero g (by omega)]
    unfold stepsS; rw [if_pos (by omega)]; rfl
theorem subsS_two (T : Nat → Nat → Nat → List Tr) (p q : Nat × Nat × Nat) : subsS T [p, q] = (T p.1 p.2.1 p.2.2).flatMap fun x => (T q.1 q.2.1 q.2.2).map fun y => [x, y] := by
  simp [subsS, List.flatMap_cons, flatMap_map']
theorem subsS_one (T : Nat → Nat → Nat → List Tr) (p : Nat × Nat × Nat) : subsS T [p] = (T p.1 p.2.1 p.2.2).map fun x => [x] := by
  simp [subsS]
theorem treesS_none (g : Gr) {k f t : Nat} (h : cntS g k f t = 0) : treesS g k f t = [] := by rw [treesS_eq, if_pos h]
theorem row_trees (g : Gr) (k f t : Nat) (r : RowS) : rowTrees (treesS g) g k f t r = (if r.kind = k then rowSteps g f t r else []).flatMap (stepTrees g) := by
  unfold rowTrees
  split
  · unfold rowSteps
    rw [List.flatMap_assoc]
    refine flatMap_congr' _ (fun o _ => ?_)
    unfold fillF partsS partsF opnSteps
    rcases r.parts with _ | ⟨k1, _ | ⟨k2, ks⟩⟩
    · simp only
      by_cases h : o.at = t
      · simp [h, stepTrees, prodS, subsS]
      · simp [h]
    · simp only [List.flatMap_cons, List.flatMap_nil, List.append_nil, stepTrees, prodS_one, subsS_one, List.map_map]
      split
      · rw [if_neg (by omega)]; rfl
      · rw [if_pos (by omega)]
    · simp only
      rw [flatMap_map']
      have hstep : ∀ s ∈ splitsS g r.glue o.at t, stepTrees g ⟨r.rule, o.entry, o.word, [(k1, o.at, s.1), (k2, s.2, t)]⟩ = if 0 < cntS g k2 s.2 t then (treesS g k1 o.at s.1).flatMap fun x => (treesS g k2 s.2 t).map fun y => Tr.node r.rule o.entry o.word [x, y] else [] := by
        intro s _
        unfold stepTrees
        simp only [prodS_two, subsS_two, List.map_flatMap, List.map_map, Function.comp_def]
        by_cases h2 : 0 < cntS g k2 s.2 t
        · by_cases h1 : 0 < cntS g k1 o.at s.1
          · have hpos := Nat.mul_pos h1 h2
            have hm := most_pos
            rw [if_neg (show ¬ min most (cntS g k1 o.at s.1 * cntS g k2 s.2 t) = 0 by omega), if_pos h2]
          · rw [if_pos (by rw [show cntS g k1 o.at s.1 = 0 by omega]; simp), if_pos h2, treesS_none g (show cntS g k1 o.at s.1 = 0 by omega)]
            rfl
        · rw [if_pos (by rw [show cntS g k2 s.2 t = 0 by omega]; simp), if_neg h2]
      split
      · exact (flatMap_congr' _ hstep).symm
      · rename_i h0
        symm
        rw [List.flatMap_eq_nil_iff]
        intro s hs
        unfold stepTrees
        rw [if_pos]
        rw [prodS_two]
        rw [foldl_sat (fun s : Nat × Nat => min most (cntS g k1 o.at s.1 * cntS g k2 s.2 t)) _ _ 0 (fun n a hn _ => pairStep_sum g k1 k2 _ t n a hn) (Nat.zero_le _)] at h0
        have hz : ((splitsS g r.glue o.at t).map fun s : Nat × Nat => min most (cntS g k1 o.at s.1 * cntS g k2 s.2 t)).sum = 0 := by have hm := most_pos; omega
        have := List.sum_eq_zero_iff_forall_eq_nat.1 hz
        exact this _ (List.mem_map.2 ⟨s, hs, rfl⟩)
  · rfl
/-- **The parses by the reference's steps.** -/
theorem trees_steps (g : Gr) {k f t : Nat} (h1 : 1 ≤ k) (h7 : k ≤ 7) (ht : t ≤ g.toks.length) : treesS g k f t = (stepsS g k f t).flatMap (stepTrees g) := by
  by_cases h : f < t
  · have e : (stepsS g k f t).flatMap (stepTrees g) = (rowsS g).flatMap (rowTrees (treesS g) g k f t) := by
      rw [← flat_live, ← steps_live g h1 h7 h ht, flat_live]
      unfold progSteps
      rw [List.flatMap_assoc]
      exact flatMap_congr' _ (fun r _ => (row_trees g k f t r).symm)
    rw [e, treesS_eq]
    split
    · rename_i h0
      rw [← e]
      symm
      rw [List.flatMap_eq_nil_iff]
      intro s hs
      have hz := h0
      rw [cnt_steps g h1 h7 ht] at hz
      unfold timesS at hz
      have hz' : ((stepsS g k f t).map fun s => prodS (cntS g) s.parts).sum = 0 := by have hm := most_pos; omega
      have := List.sum_eq_zero_iff_forall_eq_nat.1 hz' _ (List.mem_map.2 ⟨s, hs, rfl⟩)
      unfold stepTrees
      rw [if_pos this]
    · rfl
  · rw [treesS_none g (cntS_zero g (by omega))]
    unfold stepsS; rw [if_pos (by omega)]; rfl
end Go.Proofs.YthmnffgjckpkiaaGreatDoor
namespace Go.Proofs.YthmnffgjckpkiaaGreatDoor
open Go Go.RowKit

theorem sat_mul {a b c d : Nat} (h1 : min most a = c) (h2 : min most b = d) : min most (a * b) = min most (c * d) := by
  by_cases ha : a ≤ most
  · by_cases hb : b ≤ most
    · have e1 : a = c := by omega
      have e2 : b = d := by omega
      rw [e1, e2]
    · have e1 : a = c := by omega
      have e2 : d = most := by omega
      rw [e1, e2]
      rcases Nat.eq_zero_or_pos c with h0 | h0
      · simp [h0]
      · have h3 : most ≤ c * b := Nat.le_trans (by omega) (Nat.le_mul_of_pos_left b h0)
        have h4 : most ≤ c * most := Nat.le_mul_of_pos_left most h0
        omega
  · have e1 : c = most := by omega
    rcases Nat.eq_zero_or_pos b with h0 | h0
    · have e2 : d = 0 := by omega
      rw [h0, e2]; simp
    · have e2 : 0 < d := by have := most_pos; omega
      have h3 : most ≤ a * b := Nat.le_trans (by omega) (Nat.le_mul_of_pos_right a h0)
      have h4 : most ≤ c * d := by rw [e1]; exact Nat.le_mul_of_pos_right most e2
      omega
theorem sum_min {α : Type} (F G : α → Nat) : ∀ l : List α, (∀ a ∈ l, min most (F a) = G a) → min most ((l.map F).sum) = min most ((l.map G).sum)
  | [], _ => rfl
  | a :: l, h => by
    have h1 := sum_min F G l (fun b hb => h b (by simp [hb]))
    have h2 := h a (by simp)
    simp only [List.map_cons, List.sum_cons]
    omega
theorem len_flatMap {α β : Type} (F : α → List β) : ∀ l : List α, (l.flatMap F).length = (l.map fun a => (F a).length).sum
  | [] => rfl
  | a :: l => by simp [List.flatMap_cons, len_flatMap F l]
/-- The parts of a step lie within its span, and are shorter. -/
def Within (f t : Nat) (s : StepS) : Prop := s.parts.length ≤ 2 ∧ ∀ p ∈ s.parts, p.2.2 - p.2.1 < t - f ∧ f ≤ p.2.1 ∧ p.2.2 ≤ t
theorem prog_within (g : Gr) {k f t : Nat} (h : f < t) : ∀ s ∈ progSteps g k f t, Within f t s := by
  intro s hs
  obtain ⟨r, hr, hs⟩ := List.mem_flatMap.1 hs
  split at hs
  · obtain ⟨o, ho, hs⟩ := List.mem_flatMap.1 hs
    have hrow := rowsS_ok g r hr
    have hat := hrow.at1 f t o (by omega) ho
    have hone := hrow.one f t o (by omega) ho
    unfold opnSteps at hs
    split at hs
    · split at hs
      · obtain rfl := List.mem_singleton.1 hs
        exact ⟨by simp, by simp⟩
      · cases hs
    · rename_i k1 hp
      obtain rfl := List.mem_singleton.1 hs
      have := hone (by rw [hp]; rfl)
      exact ⟨by simp, fun p hp => by obtain rfl := List.mem_singleton.1 hp; simp; omega⟩
    · obtain ⟨x, hx, rfl⟩ := List.mem_map.1 hs
      have := splitsS_mem hx
      refine ⟨by simp, fun p hp => ?_⟩
      simp only [List.mem_cons, List.not_mem_nil, or_false] at hp
      rcases hp with rfl | rfl
      · simp; omega
      · simp; omega
  · cases hs
theorem step_len (g : Gr) (s : StepS) (h2 : s.parts.length ≤ 2) (h : ∀ p ∈ s.parts, min most (treesS g p.1 p.2.1 p.2.2).length = cntS g p.1 p.2.1 p.2.2) : min most (stepTrees g s).length = prodS (cntS g) s.parts := by
  have hm := most_pos
  obtain ⟨rule, entry, word, parts⟩ := s
  simp only at h h2
  unfold stepTrees
  simp only
  split
  · rename_i h0; rw [h0]; rfl
  · rw [List.length_map]
    rcases parts with _ | ⟨p, _ | ⟨q, _ | ⟨r, rs⟩⟩⟩
    · simp [subsS, prodS]; omega
    · rw [subsS_one, prodS_one, List.length_map]
      exact h p (by simp)
    · rw [subsS_two, prodS_two, len_flatMap]
      simp only [List.length_map]
      rw [List.map_const', List.sum_replicate_nat]
      exact sat_mul (h p (by simp)) (h q (by simp))
    · simp at h2
/-- **As many as the count tells, most at most.** -/
theorem trees_len (g : Gr) : ∀ (d k f t : Nat), t - f ≤ d → min most (treesS g k f t).length = cntS g k f t := by
  intro d
  induction d with
  | zero => intro k f t h; rw [treesS_none g (cntS_zero g (by omega)), cntS_zero g (by omega)]; rfl
  | succ d ih =>
    intro k f t h
    by_cases hlt : f < t
    · by_cases h0 : cntS g k f t = 0
      · rw [treesS_none g h0, h0]; rfl
      · have ht : treesS g k f t = (progSteps g k f t).flatMap (stepTrees g) := by
          rw [treesS_eq, if_neg h0]
          unfold progSteps
          rw [List.flatMap_assoc]
          exact flatMap_congr' _ (fun r _ => row_trees g k f t r)
        rw [ht, len_flatMap, sum_min _ (fun s => prodS (cntS g) s.parts) _ (fun s hs => ?_), cntS_eq g hlt, rows_sum]
        · rfl
        · have hw := prog_within g hlt s hs
          exact step_len g s hw.1 (fun p hp => ih _ _ _ (by have := hw.2 p hp; omega))
    · rw [treesS_none g (cntS_zero g (by omega)), cntS_zero g (by omega)]; rfl
theorem trees_count (g : Gr) {k f t : Nat} (h : cntS g k f t < most) : (treesS g k f t).length = cntS g k f t := by
  have := trees_len g _ k f t (Nat.le_refl _)
  omega
end Go.Proofs.YthmnffgjckpkiaaGreatDoor
namespace Go.Proofs.YthmnffgjckpkiaaGreatDoor
open Go Go.RowKit

/-- What the table asks of a parse by a rule; kind 0: there is no such rule; words []: it has no word. -/
structure ShapeS where
  kind : Nat
  cat : Int
  words : List (List UInt8)
  parts : List Nat
def shapeS (r : Int) : ShapeS :=
  if r = 1 ∨ r = 2 ∨ r = 3 ∨ r = 4 then ⟨1, 0, [], [1, 1]⟩
  else if r = 5 then ⟨1, 0, [], [2, 4]⟩
  else if r = 6 then ⟨2, 3, [], []⟩
  else if r = 7 then ⟨2, 0, [wEvery, wEach, wSome, wNo, wA], [3]⟩
  else if r = 8 then ⟨3, 1, [], []⟩
  else if r = 9 then ⟨3, 2, [], [3]⟩
  else if r = 10 then ⟨3, 1, [wWho, wThat], [4]⟩
  else if r = 11 then ⟨3, 1, [wWho, wThat], [2, 5]⟩
  else if r = 12 then ⟨4, 4, [], []⟩
  else if r = 13 then ⟨4, 5, [], [2]⟩
  else if r = 14 then ⟨4, 2, [], []⟩
  else if r = 15 then ⟨4, 0, [], [3]⟩
  else if r = 16 then ⟨4, 0, [], [4]⟩
  else if r = 17 ∨ r = 18 then ⟨4, 0, [], [4, 4]⟩
  else if r = 19 then ⟨5, 5, [], []⟩
  else ⟨0, 0, [], []⟩

mutual
/-- How many steps a parse has. -/
def sizeT : Tr → Nat
  | .node _ _ _ sub => 1 + sizesT sub
def sizesT : List Tr → Nat
  | [] => 0
  | t :: ts => sizeT t + sizesT ts
end

/-- The entry is right: none where none is asked for. -/
def entryOk (l : List Ent) (cat e : Int) : Bool := if cat = 0 then e == 0 else decide (0 ≤ e) && decide (e < l.length) && catAt l e.toNat == cat
def wordOk (ws : List (List UInt8)) (w : List UInt8) : Bool := if ws = [] then w == [] else ws.contains w
def firstRule : List Tr → Int
  | [] => 0
  | t :: _ => t.rule
def kindS (r : Int) : Nat := (shapeS r).kind
mutual
/-- Whether a parse and its parts satisfy the table. -/
def okS (l : List Ent) : Tr → Bool
  | .node r e w sub => (kindS r != 0 && sub.length == (shapeS r).parts.length) && entryOk l (shapeS r).cat e && wordOk (shapeS r).words w && okSubs l sub (shapeS r).parts && (r != 16 || (decide (12 ≤ firstRule sub) && decide (firstRule sub ≤ 15)))
def okSubs (l : List Ent) : List Tr → List Nat → Bool
  | [], _ => true
  | _ :: _, [] => true
  | t :: ts, k :: ks => (kindS t.rule == k && okS l t) && okSubs l ts ks
end
def okAll (l : List Ent) (t : Tr) : Bool := validS l && decide (sizeT t ≤ 200) && okS l t

/-- The word of the entry, and the word that a verb shows. -/
def ownW (l : List Ent) (e : Int) : List UInt8 := match l[e.toNat]? with | some x => x.w | none => []
def stepW (r : Int) (w own : List UInt8) (sr : Int) (a b : List (List UInt8)) (bare : Bool) : List (List UInt8) :=
  if r = 1 then wIf :: (a ++ wThen :: b)
  else if r = 2 then a ++ wIff :: b
  else if r = 3 ∨ r = 17 then a ++ wOr :: b
  else if r = 4 ∨ r = 18 then a ++ wAnd :: b
  else if r = 7 then (if w = wA then articleS (a.headD []) else w) :: (a ++ b)
  else if r = 6 ∨ r = 8 ∨ r = 9 then own :: (a ++ b)
  else if r = 10 ∨ r = 11 then own :: w :: (a ++ b)
  else if r = 12 ∨ r = 13 ∨ r = 19 then (if bare then own else thirdV own) :: (a ++ b)
  else if r = 14 then (if bare then [] else [wIs]) ++ own :: (a ++ b)
  else if r = 15 then (if bare then [] else [wIs]) ++ articleS (a.headD []) :: (a ++ b)
  else if r = 16 then (if 13 < sr then [wIs, wNot] else [wDoes, wNot]) ++ (a ++ b)
  else a ++ b
mutual
/-- The words of a parse; bare: as they stand behind does not, or is not. -/
def wordsF (l : List Ent) : Tr → Bool → List (List UInt8)
  | .node r e w sub, bare => stepW r w (ownW l e) (firstRule sub) (firstF l sub (r == 16)) (secondF l sub) bare
def firstF (l : List Ent) : List Tr → Bool → List (List UInt8)
  | [], _ => []
  | t :: _, bare => wordsF l t bare
def secondF (l : List Ent) : List Tr → List (List UInt8)
  | [] => []
  | _ :: ts => firstF l ts false
end
/-- The words of a sentence. -/
def yieldW (l : List Ent) (t : Tr) : List (List UInt8) := wordsF l t false ++ if kindS t.rule = 1 then [wDot] else []
def yieldS (l : List Ent) (t : Tr) : List (List UInt8) × Int := if okAll l t then (yieldW l t, 0) else ([], 2)
end Go.Proofs.YthmnffgjckpkiaaGreatDoor
