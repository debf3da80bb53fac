/-
  With one name instead of the other one everywhere, a sentence has as many parses, and the same ones, but for the entry.
-/
import Derived.Test.YthmnffgjckpkiaaGreatDoorGEngB
import Derived.Test.YthmnffgjckpkiaaGreatDoorGEngI
namespace Go.Proofs.YthmnffgjckpkiaaGreatDoor
open Go Go.RowKit Go.Shelf

def wAnn : List UInt8 := [65, 110, 110]
def wBob : List UInt8 := [66, 111, 98]
/-- The other name. -/
def sw (w : List UInt8) : List UInt8 := if w = wAnn then wBob else if w = wBob then wAnn else w
theorem sw_fix {w x : List UInt8} (h1 : x ≠ wAnn) (h2 : x ≠ wBob) : sw w = x ↔ w = x := by
  unfold sw
  split
  · rename_i h; rw [h]; exact ⟨fun e => absurd e.symm h2, fun e => absurd e.symm h1⟩
  · split
    · rename_i h; rw [h]; exact ⟨fun e => absurd e.symm h1, fun e => absurd e.symm h2⟩
    · rfl
theorem sw_same {w : List UInt8} (h1 : w ≠ wAnn) (h2 : w ≠ wBob) : sw w = w := by unfold sw; rw [if_neg h1, if_neg h2]
/-- A parse with the other name. -/
def exch1 (r e : Int) : Int := if r = 6 then 1 - e else e
mutual
def exchT : Tr → Tr
  | .node r e w sub => .node r (exch1 r e) w (exchTs sub)
def exchTs : List Tr → List Tr
  | [] => []
  | t :: ts => exchT t :: exchTs ts
end
theorem exchTs_map : ∀ l : List Tr, exchTs l = l.map exchT
  | [] => rfl
  | t :: ts => by simp [exchTs, exchTs_map ts]
def swapStep (s : StepS) : StepS := if s.rule = 6 then { s with entry := 1 - s.entry } else s
theorem swap_parts (s : StepS) : (swapStep s).parts = s.parts := by unfold swapStep; split <;> rfl
theorem swap_id {l : List StepS} (h : ∀ s ∈ l, s.rule ≠ 6) : l.map swapStep = l := by
  conv => rhs; rw [← List.map_id l]
  refine List.map_congr_left (fun s hs => ?_)
  unfold swapStep; rw [if_neg (h s hs)]; rfl

/-! ### The look-up -/
theorem look_ann : lookS wAnn exL = [(0, false)] := by decide
theorem look_bob : lookS wBob exL = [(1, false)] := by decide
theorem cat_ann : catAt exL 0 = 3 := by decide
theorem cat_bob : catAt exL 1 = 3 := by decide
theorem form_name {tok : List UInt8} {e : Ent} (hc : e.cat = 3) (hw : e.w ≠ tok) : formS tok e = false := by
  unfold formS isThird
  rw [hc]
  simp [hw]
theorem look_other {tok : List UInt8} (h1 : tok ≠ wAnn) (h2 : tok ≠ wBob) : ∀ x ∈ lookS tok exL, 2 ≤ x.1 ∧ x.1 < 8 := by
  intro x hx
  unfold lookS at hx
  obtain ⟨i, hi, rfl⟩ := List.mem_map.1 hx
  unfold thoseS thoseTo at hi
  obtain ⟨h3, h4⟩ := List.mem_filter.1 hi
  have h5 : i < 8 := by simpa [exL] using List.mem_range.1 h3
  refine ⟨?_, h5⟩
  show 2 ≤ i
  rcases Nat.lt_or_ge i 2 with h6 | h6
  · exfalso
    rcases (show i = 0 ∨ i = 1 by omega) with rfl | rfl
    · have h7 : formS tok ⟨⟨#[65, 110, 110]⟩, 3, ⟨#[97, 110, 110]⟩⟩ = false := form_name rfl (fun e => h1 e.symm)
      simp [exL, h7] at h4
    · have h7 : formS tok ⟨⟨#[66, 111, 98]⟩, 3, ⟨#[98, 111, 98]⟩⟩ = false := form_name rfl (fun e => h2 e.symm)
      simp [exL, h7] at h4
  · exact h6
theorem cat_other8 : ∀ i : Fin 8, 2 ≤ i.1 → catAt exL i.1 ≠ 3 := by decide
theorem cat_other (i : Nat) (h : 2 ≤ i) (h8 : i < 8) : catAt exL i ≠ 3 := cat_other8 ⟨i, h8⟩ h
theorem catR_three {r : Nat} (h : catR r = 3) : r = 6 := by
  unfold catR at h
  split at h
  · assumption
  all_goals (split at h; · cases h); try (split at h; · cases h); try (split at h; · cases h); try (split at h; · cases h)
  all_goals cases h
theorem ents_swap (g g' : Gr) (hl : g.l = exL) (hl' : g'.l = exL) (tok : List UInt8) (third : Bool) (s : StepS) (h0 : s.entry = 0) : entsS g' (sw tok) third s = (entsS g tok third s).map swapStep := by
  obtain ⟨r, e, w, ps⟩ := s
  simp only at h0
  subst h0
  unfold entsS
  rw [hl, hl']
  by_cases h1 : tok = wAnn
  · subst h1
    rw [show sw wAnn = wBob by decide, look_ann, look_bob]
    by_cases hc : (catR r = 3 ∧ third = false)
    · obtain ⟨hc, rfl⟩ := hc
      have := catR_three hc
      subst this
      simp [cat_ann, cat_bob, catR, swapStep]
    · have e1 : ¬ (third = false ∧ (3 : Int) = catR r) := fun h => hc ⟨h.2.symm, h.1⟩
      simp [List.filter_cons, cat_ann, cat_bob]
      rw [if_neg e1, if_neg e1]
      rfl
  · by_cases h2 : tok = wBob
    · subst h2
      rw [show sw wBob = wAnn by decide, look_ann, look_bob]
      by_cases hc : (catR r = 3 ∧ third = false)
      · obtain ⟨hc, rfl⟩ := hc
        have := catR_three hc
        subst this
        simp [cat_ann, cat_bob, catR, swapStep]
      · have e1 : ¬ (third = false ∧ (3 : Int) = catR r) := fun h => hc ⟨h.2.symm, h.1⟩
        simp [List.filter_cons, cat_ann, cat_bob]
        rw [if_neg e1, if_neg e1]
        rfl
    · rw [sw_same h1 h2]
      have hno : ∀ x ∈ (lookS tok exL).filter (fun x => x.2 == third && catAt exL x.1 == catR r), r ≠ 6 := by
        rintro x hx rfl
        obtain ⟨h3, h4⟩ := List.mem_filter.1 hx
        have h5 := look_other h1 h2 x h3
        simp only [Bool.and_eq_true, beq_iff_eq] at h4
        exact cat_other x.1 h5.1 h5.2 (by rw [h4.2]; rfl)
      rw [List.map_map]
      refine List.map_congr_left (fun x hx => ?_)
      have := hno x hx
      simp only [Function.comp_def, swapStep]
      rw [if_neg this]

/-! ### The steps -/
theorem tok_map (g g' : Gr) (ht : g'.toks = g.toks.map sw) (i : Nat) : tokAt g' i = sw (tokAt g i) := by
  unfold tokAt
  rw [ht]
  rcases Nat.lt_or_ge i g.toks.length with h | h
  · simp [List.getD, List.getElem?_eq_getElem h]
  · simp [List.getD, List.getElem?_eq_none h, sw, wAnn, wBob]
structure Swapped (g g' : Gr) : Prop where
  l : g.l = exL
  l' : g'.l = exL
  toks : g'.toks = g.toks.map sw
theorem Swapped.tok {g g' : Gr} (h : Swapped g g') {i : Nat} {x : List UInt8} (h1 : x ≠ wAnn) (h2 : x ≠ wBob) : tokAt g' i = x ↔ tokAt g i = x := by rw [tok_map g g' h.toks]; exact sw_fix h1 h2
theorem halves_swap {g g' : Gr} (h : Swapped g g') (f t rule kind : Nat) (b : List UInt8) (h1 : b ≠ wAnn) (h2 : b ≠ wBob) (hr : rule ≠ 6) : halvesS g' f t rule b kind = (halvesS g f t rule b kind).map swapStep := by
  have e : halvesS g' f t rule b kind = halvesS g f t rule b kind := by
    unfold halvesS
    congr 1
    funext k
    simp only [h.tok h1 h2]
  rw [e, swap_id]
  intro s hs
  unfold halvesS at hs
  obtain ⟨k, _, hk⟩ := List.mem_filterMap.1 hs
  split at hk
  · cases hk; exact hr
  · cases hk
theorem second_swap {g g' : Gr} (h : Swapped g g') (f t : Nat) : secondS g' f t = sw (secondS g f t) := by
  unfold secondS
  split
  · exact tok_map g g' h.toks _
  · rfl
theorem second_tok {g g' : Gr} (h : Swapped g g') {f t : Nat} {x : List UInt8} (h1 : x ≠ wAnn) (h2 : x ≠ wBob) : secondS g' f t = x ↔ secondS g f t = x := by rw [second_swap h]; exact sw_fix h1 h2
theorem clause_swap {g g' : Gr} (h : Swapped g g') (f t : Nat) : clauseS g' f t = (clauseS g f t).map swapStep := by
  unfold clauseS
  simp only [List.map_append]
  rw [halves_swap h f t 2 1 wIff (by decide) (by decide) (by decide), halves_swap h f t 3 1 wOr (by decide) (by decide) (by decide), halves_swap h f t 4 1 wAnd (by decide) (by decide) (by decide), halves_swap h (f + 1) t 1 1 wThen (by decide) (by decide) (by decide)]
  congr 1
  · congr 3
    by_cases hw : tokAt g f = wIf
    · rw [if_pos hw, if_pos ((h.tok (by decide) (by decide)).2 hw)]
    · rw [if_neg hw, if_neg (fun e => hw ((h.tok (by decide) (by decide)).1 e))]; rfl
  · rw [swap_id]
    intro s hs
    obtain ⟨k, _, rfl⟩ := List.mem_map.1 hs
    show (5 : Nat) ≠ 6
    decide
theorem verbs_swap {g g' : Gr} (h : Swapped g g') (f t : Nat) (b : Bool) : verbsS g' f t b = (verbsS g f t b).map swapStep := by
  unfold verbsS
  rw [tok_map g g' h.toks]
  split
  · rfl
  · split
    · exact ents_swap g g' h.l h.l' _ _ _ rfl
    · exact ents_swap g g' h.l h.l' _ _ _ rfl
theorem noun_swap {g g' : Gr} (h : Swapped g g') (f t : Nat) : nounS' g' f t = (nounS' g f t).map swapStep := by
  unfold nounS'
  rw [tok_map g g' h.toks]
  split
  · exact ents_swap g g' h.l h.l' _ _ _ rfl
  · rw [List.map_append, ents_swap g g' h.l h.l' _ _ _ rfl]
    congr 1
    by_cases hc : (secondS g f t = wWho ∨ secondS g f t = wThat) ∧ f + 2 < t
    · have hc' : (secondS g' f t = wWho ∨ secondS g' f t = wThat) ∧ f + 2 < t := by
        rw [second_tok h (by decide) (by decide), second_tok h (by decide) (by decide)]; exact hc
      have e2 : secondS g' f t = secondS g f t := by
        rcases hc.1 with e | e
        · rw [e]; exact (second_tok h (by decide) (by decide)).2 e
        · rw [e]; exact (second_tok h (by decide) (by decide)).2 e
      rw [if_pos hc, if_pos hc', List.map_append, e2, ents_swap g g' h.l h.l' _ _ _ rfl, ents_swap g g' h.l h.l' _ _ _ rfl]
    · rw [if_neg hc, if_neg (by rw [second_tok h (by decide) (by decide), second_tok h (by decide) (by decide)]; exact hc)]
      rfl
/-- No noun begins with a name. -/
theorem noun_name {g : Gr} (hl : g.l = exL) {f t : Nat} (hn : tokAt g f = wAnn ∨ tokAt g f = wBob) (ht : t ≤ g.toks.length) : cntS g 3 f t = 0 := by
  rw [cnt_steps g (by decide) (by decide) ht]
  have hz : ∀ (s : StepS), catR s.rule ≠ 3 → entsS g (tokAt g f) false s = [] := by
    intro s hs
    unfold entsS
    rw [hl]
    rcases hn with hn | hn
    · rw [hn, look_ann]
      have e1 : (catAt exL 0 == catR s.rule) = false := beq_false_of_ne (by rw [cat_ann]; exact fun e => hs e.symm)
      simp [e1]
    · rw [hn, look_bob]
      have e1 : (catAt exL 1 == catR s.rule) = false := beq_false_of_ne (by rw [cat_bob]; exact fun e => hs e.symm)
      simp [e1]
  have h0 : stepsS g 3 f t = [] := by
    unfold stepsS nounS'
    split
    · rfl
    · rw [if_neg (by decide), if_neg (by decide), if_pos rfl]
      split
      · exact hz _ (show catR 8 ≠ 3 by decide)
      · rw [hz _ (show catR 9 ≠ 3 by decide), hz _ (show catR 10 ≠ 3 by decide), hz _ (show catR 11 ≠ 3 by decide)]
        split <;> rfl
  rw [h0]; rfl
/-- The parts of the reference's steps lie within the span. -/
theorem ents_within {g : Gr} {tok : List UInt8} {third : Bool} {s0 : StepS} {f t : Nat} (h : Within f t s0) : ∀ s ∈ entsS g tok third s0, Within f t s := by
  intro s hs
  obtain ⟨x, _, rfl⟩ := List.mem_map.1 hs
  exact h
theorem halves_within {g : Gr} {f a t rule kind : Nat} {b : List UInt8} (hfa : f ≤ a) : ∀ s ∈ halvesS g a t rule b kind, Within f t s := by
  intro s hs
  unfold halvesS at hs
  obtain ⟨k, hk, hs⟩ := List.mem_filterMap.1 hs
  obtain ⟨j, hj, rfl⟩ := List.mem_map.1 hk
  have := List.mem_range.1 hj
  split at hs
  · cases hs
    refine ⟨by simp, fun p hp => ?_⟩
    simp only [List.mem_cons, List.not_mem_nil, or_false] at hp
    rcases hp with rfl | rfl
    · simp; omega
    · simp; omega
  · cases hs
theorem w0 {f t r e : Nat} {w : List UInt8} : Within f t ⟨r, e, w, []⟩ := ⟨by simp, by simp⟩
theorem w1 {f t r e k a b : Nat} {w : List UInt8} (h1 : f ≤ a) (h2 : b ≤ t) (h3 : b - a < t - f) : Within f t ⟨r, e, w, [(k, a, b)]⟩ := ⟨by simp, fun p hp => by obtain rfl := List.mem_singleton.1 hp; simp; omega⟩
theorem w2 {f t r e k a b k' a' b' : Nat} {w : List UInt8} (h1 : f ≤ a) (h2 : b ≤ t) (h3 : b - a < t - f) (h1' : f ≤ a') (h2' : b' ≤ t) (h3' : b' - a' < t - f) : Within f t ⟨r, e, w, [(k, a, b), (k', a', b')]⟩ := ⟨by simp, fun p hp => by
  simp only [List.mem_cons, List.not_mem_nil, or_false] at hp
  rcases hp with rfl | rfl
  · simp; omega
  · simp; omega⟩

theorem map_live {g g' : Gr} {f t : Nat} (hI : ∀ k f' t', t' - f' < t - f → f ≤ f' → t' ≤ t → cntS g' k f' t' = cntS g k f' t') {l l' : List StepS} (hl : l' = l.map swapStep) (hw : ∀ s ∈ l, Within f t s) : l'.filter (live g') = (l.filter (live g)).map swapStep := by
  rw [hl, List.filter_map]
  congr 1
  refine List.filter_congr (fun s hs => ?_)
  have hw' := (hw s hs).2
  have e : prodS (cntS g') (swapStep s).parts = prodS (cntS g) s.parts := by
    rw [swap_parts]
    unfold prodS
    refine foldl_congr' _ _ (fun n p hp => ?_)
    have := hw' p hp
    rw [numS_cnt, numS_cnt, hI p.1 p.2.1 p.2.2 this.1 this.2.1 this.2.2]
  simp only [Function.comp_def, live, e]
def artL (g : Gr) (rule : Nat) (w : List UInt8) (f t : Nat) : List StepS := if f + 1 < t ∧ tokAt g f = articleS (tokAt g (f + 1)) then [⟨rule, 0, w, [(3, f + 1, t)]⟩] else []
theorem artL_within {g : Gr} {rule : Nat} {w : List UInt8} {f t f0 : Nat} (h0 : f0 ≤ f) : ∀ s ∈ artL g rule w f t, Within f0 t s := by
  intro s hs
  unfold artL at hs
  split at hs
  · obtain rfl := List.mem_singleton.1 hs
    exact w1 (by omega) (by omega) (by omega)
  · cases hs
theorem art_live {g g' : Gr} (h : Swapped g g') {f t f0 rule : Nat} {w : List UInt8} (h0 : f0 ≤ f) (hr : rule ≠ 6) (ht : t ≤ g.toks.length) (hI : ∀ k f' t', t' - f' < t - f0 → f0 ≤ f' → t' ≤ t → cntS g' k f' t' = cntS g k f' t') :
    (artL g' rule w f t).filter (live g') = ((artL g rule w f t).filter (live g)).map swapStep := by
  by_cases hn : tokAt g (f + 1) = wAnn ∨ tokAt g (f + 1) = wBob
  · have hdead : ∀ (G : Gr), cntS G 3 (f + 1) t = 0 → (artL G rule w f t).filter (live G) = [] := by
      intro G hG
      rw [List.filter_eq_nil_iff]
      intro s hs
      unfold artL at hs
      split at hs
      · obtain rfl := List.mem_singleton.1 hs
        unfold live
        rw [prodS_one]
        simp [hG]
      · cases hs
    have c1 := noun_name h.l hn ht
    have c2 : cntS g' 3 (f + 1) t = 0 := by
      by_cases hlt : f < t
      · rw [hI 3 (f + 1) t (by omega) (by omega) (Nat.le_refl _), c1]
      · exact cntS_zero g' (by omega)
    rw [hdead g c1, hdead g' c2]
    rfl
  · have hn1 : tokAt g (f + 1) ≠ wAnn := fun e => hn (.inl e)
    have hn2 : tokAt g (f + 1) ≠ wBob := fun e => hn (.inr e)
    refine map_live hI ?_ (artL_within h0)
    have e1 : tokAt g' (f + 1) = tokAt g (f + 1) := by rw [tok_map g g' h.toks, sw_same hn1 hn2]
    have hart : articleS (tokAt g (f + 1)) ≠ wAnn ∧ articleS (tokAt g (f + 1)) ≠ wBob := by unfold articleS; split <;> decide
    unfold artL
    rw [e1]
    by_cases hc : f + 1 < t ∧ tokAt g f = articleS (tokAt g (f + 1))
    · rw [if_pos hc, if_pos ⟨hc.1, (h.tok hart.1 hart.2).2 hc.2⟩, swap_id]
      intro s hs
      obtain rfl := List.mem_singleton.1 hs
      exact hr
    · rw [if_neg hc, if_neg (fun e => hc ⟨e.1, (h.tok hart.1 hart.2).1 e.2⟩)]
      rfl
theorem states_split (g : Gr) (f t : Nat) : statesS g f t = (if t = f + 1 then entsS g (tokAt g f) false ⟨14, 0, [], []⟩ else []) ++ artL g 15 [] f t := by
  unfold statesS artL
  split
  · rename_i h; rw [if_neg (fun hn => by omega), List.append_nil]
  · rfl
theorem states_live {g g' : Gr} (h : Swapped g g') {f t f0 : Nat} (h0 : f0 ≤ f) (ht : t ≤ g.toks.length) (hI : ∀ k f' t', t' - f' < t - f0 → f0 ≤ f' → t' ≤ t → cntS g' k f' t' = cntS g k f' t') :
    (statesS g' f t).filter (live g') = ((statesS g f t).filter (live g)).map swapStep := by
  rw [states_split, states_split, List.filter_append, List.filter_append, List.map_append, art_live h h0 (by decide) ht hI]
  congr 1
  refine map_live hI ?_ ?_
  · rw [tok_map g g' h.toks]
    split
    · exact ents_swap g g' h.l h.l' _ _ _ rfl
    · rfl
  · split
    · exact ents_within w0
    · simp
theorem nounP_split (g : Gr) {f t : Nat} (h : f < t) : nounPS g f t = (if t = f + 1 then entsS g (tokAt g f) false ⟨6, 0, [], []⟩ else if tokAt g f ∈ [wEvery, wEach, wSome, wNo] then [⟨7, 0, tokAt g f, [(3, f + 1, t)]⟩] else []) ++ artL g 7 wA f t := by
  unfold nounPS artL
  by_cases h1 : t = f + 1
  · rw [if_pos h1, if_pos h1, if_neg (fun hn => by omega), List.append_nil]
  · rw [if_neg h1, if_neg h1]
    have hs : secondS g f t = tokAt g (f + 1) := by unfold secondS; rw [if_pos (by omega)]
    rw [hs]
    by_cases ha : tokAt g f = wA ∨ tokAt g f = [97, 110]
    · have hdet : ¬ tokAt g f ∈ [wEvery, wEach, wSome, wNo] := by rcases ha with ha | ha <;> rw [ha] <;> decide
      rw [if_pos ha, if_neg hdet, List.nil_append]
      by_cases hq : tokAt g f = articleS (tokAt g (f + 1))
      · rw [if_pos hq, if_pos ⟨by omega, hq⟩]
      · rw [if_neg hq, if_neg (fun hn => hq hn.2)]
    · have hart : articleS (tokAt g (f + 1)) = wA ∨ articleS (tokAt g (f + 1)) = [97, 110] := by unfold articleS; split <;> simp [wA]
      have hne : ¬ (f + 1 < t ∧ tokAt g f = articleS (tokAt g (f + 1))) := fun hn => ha (by rw [hn.2]; exact hart)
      rw [if_neg ha, if_neg hne, List.append_nil]
theorem nounP_live {g g' : Gr} (h : Swapped g g') {f t : Nat} (hlt : f < t) (ht : t ≤ g.toks.length) (hI : ∀ k f' t', t' - f' < t - f → f ≤ f' → t' ≤ t → cntS g' k f' t' = cntS g k f' t') :
    (nounPS g' f t).filter (live g') = ((nounPS g f t).filter (live g)).map swapStep := by
  rw [nounP_split g hlt, nounP_split g' hlt, List.filter_append, List.filter_append, List.map_append, art_live h (Nat.le_refl _) (by decide) ht hI]
  congr 1
  refine map_live hI ?_ ?_
  · rw [tok_map g g' h.toks]
    by_cases h1 : t = f + 1
    · rw [if_pos h1, if_pos h1]
      exact ents_swap g g' h.l h.l' _ _ _ rfl
    · rw [if_neg h1, if_neg h1]
      by_cases hd : tokAt g f ∈ [wEvery, wEach, wSome, wNo]
      · have hne : tokAt g f ≠ wAnn ∧ tokAt g f ≠ wBob := by
          simp only [List.mem_cons, List.not_mem_nil, or_false] at hd
          rcases hd with e | e | e | e <;> rw [e] <;> decide
        rw [sw_same hne.1 hne.2, if_pos hd]
        rfl
      · rw [if_neg hd, if_neg]
        · rfl
        · intro hn
          simp only [List.mem_cons, List.not_mem_nil, or_false] at hn hd
          rw [sw_fix (by decide) (by decide), sw_fix (by decide) (by decide), sw_fix (by decide) (by decide), sw_fix (by decide) (by decide)] at hn
          exact hd hn
  · by_cases h1 : t = f + 1
    · rw [if_pos h1]; exact ents_within w0
    · rw [if_neg h1]
      split
      · intro s hs
        obtain rfl := List.mem_singleton.1 hs
        exact w1 (by omega) (by omega) (by omega)
      · simp
theorem verbP_live {g g' : Gr} (h : Swapped g g') {f t : Nat} (hlt : f < t) (ht : t ≤ g.toks.length) (hI : ∀ k f' t', t' - f' < t - f → f ≤ f' → t' ≤ t → cntS g' k f' t' = cntS g k f' t') :
    (verbPS g' f t).filter (live g') = ((verbPS g f t).filter (live g)).map swapStep := by
  have hv : (verbsS g' f t true).filter (live g') = ((verbsS g f t true).filter (live g)).map swapStep := by
    refine map_live hI (verbs_swap h f t true) ?_
    unfold verbsS
    rw [if_neg (show ¬ t ≤ f by omega)]
    split
    · exact ents_within w0
    · exact ents_within (w1 (by omega) (by omega) (by omega))
  have hs : (if tokAt g' f = wIs then statesS g' (f + 1) t else []).filter (live g') = ((if tokAt g f = wIs then statesS g (f + 1) t else []).filter (live g)).map swapStep := by
    by_cases hw : tokAt g f = wIs
    · rw [if_pos hw, if_pos ((h.tok (by decide) (by decide)).2 hw)]
      exact states_live h (Nat.le_succ f) ht hI
    · rw [if_neg hw, if_neg (fun e => hw ((h.tok (by decide) (by decide)).1 e))]; rfl
  have hn : ∀ (a : List UInt8) (k : Nat), a ≠ wAnn → a ≠ wBob → (if tokAt g' f = a ∧ secondS g' f t = wNot then [(⟨16, 0, [], [(k, f + 2, t)]⟩ : StepS)] else []).filter (live g') = ((if tokAt g f = a ∧ secondS g f t = wNot then [(⟨16, 0, [], [(k, f + 2, t)]⟩ : StepS)] else []).filter (live g)).map swapStep := by
    intro a k h1 h2
    refine map_live hI ?_ ?_
    · by_cases hc : tokAt g f = a ∧ secondS g f t = wNot
      · rw [if_pos hc, if_pos ⟨(h.tok h1 h2).2 hc.1, (second_tok h (by decide) (by decide)).2 hc.2⟩]; rfl
      · rw [if_neg hc, if_neg (fun e => hc ⟨(h.tok h1 h2).1 e.1, (second_tok h (by decide) (by decide)).1 e.2⟩)]; rfl
    · intro s hs
      split at hs
      · obtain rfl := List.mem_singleton.1 hs
        exact w1 (by omega) (by omega) (by omega)
      · cases hs
  unfold verbPS
  simp only [List.filter_append, List.map_append]
  rw [hv, hs, hn wDoes 6 (by decide) (by decide), hn wIs 7 (by decide) (by decide), map_live hI (halves_swap h f t 17 4 wOr (by decide) (by decide) (by decide)) (halves_within (Nat.le_refl _)), map_live hI (halves_swap h f t 18 4 wAnd (by decide) (by decide) (by decide)) (halves_within (Nat.le_refl _))]
/-- **The steps that have parses are the same, but for the entry.** -/
theorem steps_swap {g g' : Gr} (h : Swapped g g') {k f t : Nat} (hlt : f < t) (ht : t ≤ g.toks.length) (hI : ∀ k f' t', t' - f' < t - f → f ≤ f' → t' ≤ t → cntS g' k f' t' = cntS g k f' t') :
    (stepsS g' k f t).filter (live g') = ((stepsS g k f t).filter (live g)).map swapStep := by
  unfold stepsS
  rw [if_neg (show ¬ t ≤ f by omega), if_neg (show ¬ t ≤ f by omega)]
  by_cases h1 : k = 1
  · rw [if_pos h1, if_pos h1]
    refine map_live hI (clause_swap h f t) ?_
    unfold clauseS
    intro s hs
    simp only [List.mem_append] at hs
    rcases hs with (((hs | hs) | hs) | hs) | hs
    · split at hs
      · exact halves_within (Nat.le_succ f) s hs
      · cases hs
    · exact halves_within (Nat.le_refl _) s hs
    · exact halves_within (Nat.le_refl _) s hs
    · exact halves_within (Nat.le_refl _) s hs
    · obtain ⟨j, hj, rfl⟩ := List.mem_map.1 hs
      obtain ⟨i, hi, rfl⟩ := List.mem_map.1 hj
      have := List.mem_range.1 hi
      exact w2 (by omega) (by omega) (by omega) (by omega) (by omega) (by omega)
  · rw [if_neg h1, if_neg h1]
    by_cases h2 : k = 2
    · rw [if_pos h2, if_pos h2]; exact nounP_live h hlt ht hI
    · rw [if_neg h2, if_neg h2]
      by_cases h3 : k = 3
      · rw [if_pos h3, if_pos h3]
        refine map_live hI (noun_swap h f t) ?_
        unfold nounS'
        split
        · exact ents_within w0
        · intro s hs
          rcases List.mem_append.1 hs with hs | hs
          · exact ents_within (w1 (by omega) (by omega) (by omega)) s hs
          · split at hs
            · rcases List.mem_append.1 hs with hs | hs
              · exact ents_within (w1 (by omega) (by omega) (by omega)) s hs
              · exact ents_within (w2 (by omega) (by omega) (by omega) (by omega) (by omega) (by omega)) s hs
            · cases hs
      · rw [if_neg h3, if_neg h3]
        by_cases h4 : k = 4
        · rw [if_pos h4, if_pos h4]; exact verbP_live h hlt ht hI
        · rw [if_neg h4, if_neg h4]
          by_cases h5 : k = 5
          · rw [if_pos h5, if_pos h5]
            refine map_live hI ?_ ?_
            · rw [tok_map g g' h.toks]
              split
              · exact ents_swap g g' h.l h.l' _ _ _ rfl
              · rfl
            · split
              · exact ents_within w0
              · simp
          · rw [if_neg h5, if_neg h5]
            by_cases h6 : k = 6
            · rw [if_pos h6, if_pos h6]
              refine map_live hI (verbs_swap h f t false) ?_
              unfold verbsS
              rw [if_neg (show ¬ t ≤ f by omega)]
              split
              · exact ents_within w0
              · exact ents_within (w1 (by omega) (by omega) (by omega))
            · rw [if_neg h6, if_neg h6]
              by_cases h7 : k = 7
              · rw [if_pos h7, if_pos h7]; exact states_live h (Nat.le_refl _) ht hI
              · rw [if_neg h7, if_neg h7]; rfl
theorem kind_none (g : Gr) {k f t : Nat} (h : k = 0 ∨ 7 < k) : cntS g k f t = 0 := by
  by_cases hlt : f < t
  · have h0 : progSteps g k f t = [] := by
      unfold progSteps rowsS
      have : ∀ j, 1 ≤ j → j ≤ 7 → ¬ j = k := fun j h1 h2 => by omega
      simp only [List.flatMap_cons, List.flatMap_nil, if_neg (this 1 (by decide) (by decide)), if_neg (this 2 (by decide) (by decide)), if_neg (this 3 (by decide) (by decide)), if_neg (this 4 (by decide) (by decide)), if_neg (this 5 (by decide) (by decide)), if_neg (this 6 (by decide) (by decide)), if_neg (this 7 (by decide) (by decide)), List.append_nil]
    rw [cntS_eq g hlt, rows_sum, h0]; rfl
  · exact cntS_zero g (by omega)
theorem stepTrees_swap {g g' : Gr} {f t : Nat} (hI : ∀ k f' t', t' - f' < t - f → f ≤ f' → t' ≤ t → cntS g' k f' t' = cntS g k f' t') (hT : ∀ k f' t', t' - f' < t - f → f ≤ f' → t' ≤ t → treesS g' k f' t' = (treesS g k f' t').map exchT) {s : StepS} (hw : Within f t s) (he : s.rule = 6 → s.entry ≤ 1) :
    stepTrees g' (swapStep s) = (stepTrees g s).map exchT := by
  have e : prodS (cntS g') (swapStep s).parts = prodS (cntS g) s.parts := by
    rw [swap_parts]
    unfold prodS
    refine foldl_congr' _ _ (fun n p hp => ?_)
    have := hw.2 p hp
    rw [numS_cnt, numS_cnt, hI p.1 p.2.1 p.2.2 this.1 this.2.1 this.2.2]
  unfold stepTrees
  rw [e]
  split
  · rfl
  · have hsub : subsS (treesS g') (swapStep s).parts = (subsS (treesS g) s.parts).map (List.map exchT) := by
      rw [swap_parts]
      have h2 := hw.1
      have hp := hw.2
      generalize s.parts = ps at h2 hp
      rcases ps with _ | ⟨p, _ | ⟨q, _ | ⟨r, rs⟩⟩⟩
      · rfl
      · have h1 := hp p (by simp)
        rw [subsS_one, subsS_one, hT p.1 p.2.1 p.2.2 h1.1 h1.2.1 h1.2.2]
        simp [Function.comp_def]
      · have h1 := hp p (by simp)
        have h3 := hp q (by simp)
        rw [subsS_two, subsS_two, hT p.1 p.2.1 p.2.2 h1.1 h1.2.1 h1.2.2, hT q.1 q.2.1 q.2.2 h3.1 h3.2.1 h3.2.2]
        simp [flatMap_map', List.map_flatMap, Function.comp_def]
      · simp at h2
    rw [hsub, List.map_map, List.map_map]
    refine List.map_congr_left (fun l _ => ?_)
    simp only [Function.comp_def, exchT, exchTs_map]
    unfold swapStep exch1
    by_cases h6 : s.rule = 6
    · have := he h6
      rw [if_pos h6, if_pos (by rw [h6]; rfl)]
      congr 1
      simp only
      omega
    · rw [if_neg h6, if_neg (by intro hn; exact h6 (by omega))]
end Go.Proofs.YthmnffgjckpkiaaGreatDoor
