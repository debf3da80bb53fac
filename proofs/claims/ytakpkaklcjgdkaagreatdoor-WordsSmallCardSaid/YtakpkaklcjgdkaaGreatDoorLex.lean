/-
  Plain laws of the tokens of a sentence: pieces of texts put together, the tokens of a text, places of errors, blanks.
-/
import Derived.Test.YtakpkaklcjgdkaaGreatDoorText
import Derived.Shelf.Strings.CaseAny
namespace Go.Proofs.YtakpkaklcjgdkaaGreatDoor
open Go

/-- The pieces of a text that begins at place i. -/
def pcs (i : Nat) (l : List UInt8) : List (Nat × List UInt8) := piecesF l.length i l
theorem pcs_nil (i : Nat) : pcs i [] = [] := rfl
theorem pcs_cons (i : Nat) (c : UInt8) (r : List UInt8) :
    pcs i (c :: r) = (if c = 32 then [] else [(i, c :: r.take (moreS c r))]) ++ pcs (i + 1 + moreS c r) (r.drop (moreS c r)) := by
  unfold pcs
  rw [List.length_cons, piecesF, piecesF_enough r.length _ _ (by simp)]
theorem pcs_step (P : Nat → List UInt8 → Prop) (h0 : ∀ i, P i []) (h1 : ∀ i c r, P (i + 1 + moreS c r) (r.drop (moreS c r)) → P i (c :: r)) : ∀ i l, P i l := by
  have : ∀ n i l, l.length ≤ n → P i l := by
    intro n
    induction n with
    | zero => intro i l h; rw [List.eq_nil_of_length_eq_zero (by omega : l.length = 0)]; exact h0 i
    | succ n ih =>
      intro i l h
      cases l with
      | nil => exact h0 i
      | cons c r => exact h1 i c r (ih _ _ (by simp at h ⊢; omega))
  exact fun i l => this l.length i l (Nat.le_refl _)

theorem takeWhile_append_stop (p : UInt8 → Bool) : ∀ (r b : List UInt8), (r.all p = true → b.headD 0 ∈ b → p (b.headD 0) = false) → (r ++ b).takeWhile p = r.takeWhile p
  | [], b, h => by
    cases b with
    | nil => rfl
    | cons x b => have := h rfl (by simp); simp at this; simp [this]
  | x :: r, b, h => by
    rw [List.cons_append, List.takeWhile_cons, List.takeWhile_cons]
    cases hp : p x
    · rfl
    · simp only [if_true]
      rw [takeWhile_append_stop p r b (fun ha => h (by simp [hp]; simpa using ha))]
/-- Two texts that can stand behind each other without a word that spans both. -/
def apart (a b : List UInt8) : Prop := ∀ c d, a.getLast? = some c → b.head? = some d → isL c = true → isL d = false
theorem all_last {r : List UInt8} {c : UInt8} (h : isL c = true) (hr : r.all isL = true) : ∃ d, (c :: r).getLast? = some d ∧ isL d = true := by
  refine ⟨(c :: r).getLast (by simp), List.getLast?_eq_some_getLast (by simp), ?_⟩
  have hm := List.getLast_mem (l := c :: r) (by simp)
  rcases List.mem_cons.1 hm with e | e
  · rw [e]; exact h
  · exact List.all_eq_true.1 hr _ e
theorem more_append {c : UInt8} {r b : List UInt8} (h : apart (c :: r) b) : moreS c (r ++ b) = moreS c r := by
  unfold moreS
  cases hc : isL c
  · rfl
  · simp only [if_true]
    rw [takeWhile_append_stop]
    intro ha hb
    cases b with
    | nil => simp at hb
    | cons x b =>
      obtain ⟨d, h1, h2⟩ := all_last hc ha
      exact h d x h1 rfl h2
theorem takeWhile_len_le (p : UInt8 → Bool) (r : List UInt8) : (r.takeWhile p).length ≤ r.length := (List.takeWhile_prefix _).length_le
theorem apart_drop {c : UInt8} {r b : List UInt8} (n : Nat) (h : apart (c :: r) b) : apart (r.drop n) b := by
  intro x d hx hd hl
  refine h x d ?_ hd hl
  have hne : r.drop n ≠ [] := by intro e; rw [e] at hx; simp at hx
  have e : c :: r = (c :: r.take n) ++ r.drop n := by simp
  rw [e, List.getLast?_append, hx]; rfl
theorem pcs_append (b : List UInt8) : ∀ (i : Nat) (a : List UInt8), apart a b → pcs i (a ++ b) = pcs i a ++ pcs (i + a.length) b := by
  refine pcs_step _ (fun i _ => by simp [pcs_nil]) ?_
  intro i c r ih h
  have hm := more_append h
  have hle := moreS_le c r
  rw [List.cons_append, pcs_cons, pcs_cons, hm, List.drop_append_of_le_length hle, List.take_append_of_le_length hle, ih (apart_drop _ h), List.append_assoc]
  have e : i + (c :: r).length = i + 1 + moreS c r + (r.drop (moreS c r)).length := by
    rw [List.length_cons, List.length_drop]; omega
  rw [e]
theorem pcs_shift (k : Nat) : ∀ (i : Nat) (l : List UInt8), pcs (i + k) l = (pcs i l).map fun x => (x.1 + k, x.2) := by
  refine pcs_step _ (fun i => rfl) ?_
  intro i c r ih
  rw [pcs_cons, pcs_cons, List.map_append, ← ih]
  have e : i + k + 1 + moreS c r = i + 1 + moreS c r + k := by omega
  rw [e]
  congr 1
  split <;> simp
/-- A word alone. -/
theorem pcs_word (i : Nat) (t : List UInt8) (h0 : t ≠ []) (h : t.all isL = true) : pcs i t = [(i, t)] := by
  cases t with
  | nil => exact absurd rfl h0
  | cons c r =>
    have h1 : isL c = true := by simp at h; exact h.1
    have h2 : r.takeWhile isL = r := by
      have hr : r.all isL = true := by simp at h ⊢; exact h.2
      have := List.takeWhile_append_of_pos (p := isL) (l₁ := r) (l₂ := []) (fun a ha => List.all_eq_true.1 hr a ha)
      simpa using this
    have hm : moreS c r = r.length := by simp [moreS, h1, h2]
    have h32 : c ≠ 32 := by rintro rfl; revert h1; decide
    rw [pcs_cons, hm, if_neg h32, List.drop_length, List.take_length, pcs_nil]; rfl
theorem pcs_blank (i : Nat) (r : List UInt8) : pcs i (32 :: r) = pcs (i + 1) r := by
  rw [pcs_cons, show moreS 32 r = 0 from rfl, if_pos rfl]; rfl
theorem pcs_mark (i : Nat) (c : UInt8) (r : List UInt8) (h : isL c = false) (h32 : c ≠ 32) : pcs i (c :: r) = (i, [c]) :: pcs (i + 1) r := by
  rw [pcs_cons, show moreS c r = 0 by simp [moreS, h], if_neg h32]; rfl
/-- What the pieces look like: a word, or a single byte. -/
def isPiece (p : List UInt8) : Prop := (p ≠ [] ∧ p.all isL = true) ∨ ∃ c, p = [c] ∧ isL c = false ∧ c ≠ 32
theorem pcs_are : ∀ (i : Nat) (l : List UInt8), ∀ x ∈ pcs i l, isPiece x.2 ∧ i ≤ x.1 ∧ x.1 + x.2.length ≤ i + l.length := by
  refine pcs_step _ (fun i x h => by simp [pcs_nil] at h) ?_
  intro i c r ih x hx
  rw [pcs_cons] at hx
  have hle := moreS_le c r
  rcases List.mem_append.1 hx with hx | hx
  · by_cases h32 : c = 32
    · simp [h32] at hx
    · rw [if_neg h32] at hx
      simp at hx
      subst hx
      refine ⟨?_, Nat.le_refl _, by simp; omega⟩
      cases hc : isL c
      · exact .inr ⟨c, by simp [moreS, hc], hc, h32⟩
      · refine .inl ⟨by simp, ?_⟩
        have : r.take (moreS c r) = r.takeWhile isL := by
          rw [moreS, hc]; simp only [if_true]
          exact (List.prefix_iff_eq_take.1 (List.takeWhile_prefix _)).symm
        show (c :: r.take (moreS c r)).all isL = true
        rw [this, List.all_cons, hc, Bool.true_and]
        exact List.all_takeWhile
  · obtain ⟨h1, h2, h3⟩ := ih x hx
    refine ⟨h1, by omega, ?_⟩
    simp at h3 ⊢; omega
/-- All pieces of the text, cut at the place of one of them. -/
theorem pcs_cut : ∀ (i : Nat) (l : List UInt8) (pre : List (Nat × List UInt8)) (x : Nat × List UInt8) (post : List (Nat × List UInt8)), pcs i l = pre ++ x :: post →
    ∃ a b, l = a ++ b ∧ x.1 = i + a.length ∧ apart a b ∧ pcs i a = pre ∧ pcs x.1 b = x :: post := by
  refine pcs_step _ (fun i pre x post h => by simp [pcs_nil] at h) ?_
  intro i c r ih pre x post h
  rw [pcs_cons] at h
  have hle := moreS_le c r
  have hlast : ∀ m, m = moreS c r → apart (c :: r.take m) (r.drop m) := by
    intro m hm x d hx hd hl
    cases hc : isL c
    · have h0 : m = 0 := by rw [hm, moreS, hc]; rfl
      subst h0
      simp at hx; subst hx; rw [hc] at hl; cases hl
    · have e : m = (r.takeWhile isL).length := by rw [hm, moreS, hc]; rfl
      have : r.drop m = r.dropWhile isL := by
        have h1 := List.takeWhile_append_dropWhile (p := isL) (l := r)
        have h2 : r.drop m = (r.takeWhile isL ++ r.dropWhile isL).drop m := by rw [h1]
        rw [h2, e, List.drop_left]
      rw [this] at hd
      have := List.head?_dropWhile_not isL r
      rw [hd] at this
      simpa using this
  have hcat : (c :: r.take (moreS c r)) ++ r.drop (moreS c r) = c :: r := by simp
  have tail : ∀ pre', pcs (i + 1 + moreS c r) (r.drop (moreS c r)) = pre' ++ x :: post →
      pre = (if c = 32 then [] else [(i, c :: r.take (moreS c r))]) ++ pre' →
      ∃ a b, c :: r = a ++ b ∧ x.1 = i + a.length ∧ apart a b ∧ pcs i a = pre ∧ pcs x.1 b = x :: post := by
    intro pre' h' hpre
    obtain ⟨a, b, h1, h2, h3, h4, h5⟩ := ih pre' x post h'
    refine ⟨(c :: r.take (moreS c r)) ++ a, b, by rw [List.append_assoc, ← h1, hcat], by rw [h2]; simp; omega, ?_, ?_, h5⟩
    · intro u d hu hd hl
      by_cases ha : a = []
      · subst ha
        rw [List.append_nil] at hu
        exact hlast _ rfl u d hu (by rw [h1]; simpa using hd) hl
      · rw [List.getLast?_append] at hu
        cases hg : a.getLast? with
        | none => simp at hg; exact absurd hg ha
        | some v => rw [hg] at hu; exact h3 u d (by rw [hg]; simpa using hu) hd hl
    · have hap : apart (c :: r.take (moreS c r)) a := by
        intro u d hu hd hl
        refine hlast _ rfl u d hu ?_ hl
        rw [h1, List.head?_append, hd]; rfl
      rw [pcs_append a i _ hap, hpre]
      have e : i + (c :: r.take (moreS c r)).length = i + 1 + moreS c r := by simp; omega
      rw [e, h4]
      congr 1
      have hm : moreS c (r.take (moreS c r)) = moreS c r := by
        have := more_append (c := c) (r := r.take (moreS c r)) (b := r.drop (moreS c r)) (hlast _ rfl)
        rw [List.take_append_drop] at this
        exact this.symm
      rw [pcs_cons, hm, List.take_take, Nat.min_self, List.drop_take, Nat.sub_self, List.take_zero, pcs_nil, List.append_nil]
  by_cases h32 : c = 32
  · rw [if_pos h32, List.nil_append] at h
    exact tail pre h (by rw [if_pos h32]; rfl)
  · cases pre with
    | nil =>
      rw [if_neg h32] at h
      simp at h
      obtain ⟨h1, h2⟩ := h
      refine ⟨[], c :: r, rfl, by rw [← h1]; rfl, fun _ _ h => by simp at h, pcs_nil _, ?_⟩
      rw [pcs_cons, if_neg h32, ← h1, ← h2]; rfl
    | cons y pre' =>
      rw [if_neg h32] at h
      simp at h
      exact tail pre' h.2 (by rw [if_neg h32, h.1]; rfl)
/-- What becomes of the tokens, without the places. -/
def stepW (st : List (List UInt8) × Bool) (p : List UInt8) : Option (List (List UInt8) × Bool) := stepT st (0, p)
def runW (st : List (List UInt8) × Bool) : List (List UInt8) → Option (List (List UInt8) × Bool)
  | [] => some st
  | p :: ps => match stepW st p with
    | none => none
    | some st' => runW st' ps
theorem stepT_snd (st : List (List UInt8) × Bool) (x : Nat × List UInt8) : stepT st x = stepW st x.2 := rfl
theorem runT_inr : ∀ (xs : List (Nat × List UInt8)) (st st' : List (List UInt8) × Bool), runT st xs = .inr st' ↔ runW st (xs.map (·.2)) = some st'
  | [], st, st' => by simp [runT, runW]
  | x :: xs, st, st' => by
    simp only [runT, List.map_cons, runW, stepT_snd]
    cases stepW st x.2 with
    | none => simp
    | some s => exact runT_inr xs s st'
theorem runW_append : ∀ (xs ys : List (List UInt8)) (st : List (List UInt8) × Bool), runW st (xs ++ ys) = (runW st xs).bind fun s => runW s ys
  | [], ys, st => rfl
  | x :: xs, ys, st => by
    simp only [List.cons_append, runW]
    cases stepW st x with
    | none => rfl
    | some s => exact runW_append xs ys s
theorem runT_split : ∀ (xs ys : List (Nat × List UInt8)) (st : List (List UInt8) × Bool), runT st (xs ++ ys) = match runT st xs with | .inl k => .inl k | .inr s => runT s ys
  | [], ys, st => rfl
  | x :: xs, ys, st => by
    simp only [List.cons_append, runT]
    cases stepT st x with
    | none => rfl
    | some s => exact runT_split xs ys s
theorem isL_all (l : List UInt8) : l.all isL = allLetter l := rfl
theorem letter_lt {c : UInt8} (h : isL c = true) : c.toNat < 128 := by
  simp only [isL, letterI, decide_eq_true_eq] at h; omega
/-- A word. -/
def isWord (p : List UInt8) : Prop := p ≠ [] ∧ p.all isL = true
instance (p : List UInt8) : Decidable (isWord p) := by unfold isWord; infer_instance
theorem lower_word {p : List UInt8} (h : isWord p) : Lib.toLowerD p = Lib.toLowerA p := Lib.toLowerD_ascii p fun b hb => letter_lt (List.all_eq_true.1 h.2 b hb)
theorem fn_word {p : List UInt8} (h : isFn p = true) : isWord p := by
  have hm : p ∈ fnWords := by simpa [isFn] using h
  exact (by decide : ∀ u ∈ fnWords, isWord u) p hm
theorem first_word {p : List UInt8} (h : isWord p) : isWord (firstS p) := by
  unfold firstS
  split
  · rename_i hf; exact fn_word hf
  · exact h
theorem first_fn {p : List UInt8} (h : isFn p = true) : firstS p = p := by
  have hm : p ∈ fnWords := by simpa [isFn] using h
  exact (by decide : ∀ u ∈ fnWords, firstS u = u) p hm
theorem first_first {p : List UInt8} : firstS (firstS p) = firstS p := by
  by_cases hf : isFn (Lib.toLowerD p) = true
  · have e : firstS p = Lib.toLowerD p := by simp [firstS, hf]
    rw [e, first_fn hf]
  · have e : firstS p = p := by simp [firstS, hf]
    rw [e, e]
theorem lowerA_len (l : List UInt8) : (Lib.toLowerA l).length = l.length := by simp [Lib.toLowerA]
theorem first_len {p : List UInt8} (h : isWord p) : (firstS p).length = p.length := by
  unfold firstS
  split
  · rw [lower_word h, lowerA_len]
  · rfl
/-- A token of a sentence that isn't the first one. -/
def isMid (p : List UInt8) : Prop := isWord p ∨ p = [44]
theorem word_ne {p : List UInt8} (h : isWord p) : p ≠ [44] ∧ p ≠ [46] ∧ isL (p.headD 0) = true := by
  refine ⟨?_, ?_, ?_⟩
  · rintro rfl; exact absurd h.2 (by decide)
  · rintro rfl; exact absurd h.2 (by decide)
  · cases p with
    | nil => exact absurd rfl h.1
    | cons c r => have := h.2; simp at this; exact this.1
theorem stepW_word {toks : List (List UInt8)} {p : List UInt8} (h : isWord p) (ht : toks ≠ []) : stepW (toks, false) p = some (toks ++ [p], false) := by
  obtain ⟨h1, h2, h3⟩ := word_ne h
  simp only [stepW, stepT, h3, ht]
  simp [h2]
theorem stepW_first {p : List UInt8} (h : isWord p) : stepW ([], false) p = some ([firstS p], false) := by
  obtain ⟨h1, h2, h3⟩ := word_ne h
  obtain ⟨k1, k2, k3⟩ := word_ne (first_word h)
  simp only [stepW, stepT, h3]
  simp [k2]
theorem stepW_comma {toks : List (List UInt8)} (ht : toks ≠ []) : stepW (toks, false) [44] = some (toks ++ [[44]], false) := by
  have hp : 0 < toks.length := List.length_pos_iff.2 ht
  simp only [stepW, stepT]
  simp [ht, hp]
theorem stepW_dot {toks : List (List UInt8)} (ht : toks ≠ []) : stepW (toks, false) [46] = some (toks ++ [[46]], true) := by
  have hp : 0 < toks.length := List.length_pos_iff.2 ht
  simp only [stepW, stepT]
  simp [ht, hp]
theorem runW_mid : ∀ (ms toks : List (List UInt8)), toks ≠ [] → (∀ p ∈ ms, isMid p) → runW (toks, false) ms = some (toks ++ ms, false)
  | [], toks, _, _ => by simp [runW]
  | p :: ms, toks, ht, h => by
    have hs : stepW (toks, false) p = some (toks ++ [p], false) := by
      rcases h p (by simp) with hw | rfl
      · exact stepW_word hw ht
      · exact stepW_comma ht
    simp only [runW, hs]
    rw [runW_mid ms _ (by simp) (fun q hq => h q (by simp [hq]))]
    simp
/-- The tokens of a sentence: a word in its first form, words and commas, a period. -/
structure Sentence (l : List (List UInt8)) : Prop where
  shape : ∃ t ms, l = t :: ms ++ [[46]] ∧ isWord t ∧ firstS t = t ∧ ∀ p ∈ ms, isMid p
theorem run_sentence {x t : List UInt8} {ms : List (List UInt8)} (hx : isWord x) (hf : firstS x = t) (hm : ∀ p ∈ ms, isMid p) : runW ([], false) (x :: ms ++ [[46]]) = some (t :: ms ++ [[46]], true) := by
  simp only [List.cons_append, runW, stepW_first hx, hf]
  rw [runW_append, runW_mid ms _ (by simp) hm]
  simp only [Option.bind_some, runW]
  rw [stepW_dot (by simp)]
  rfl
/-- What a run over pieces comes to. -/
def Partial (st : List (List UInt8) × Bool) (ps : List (List UInt8)) : Prop :=
  match ps with
  | [] => st = ([], false)
  | x :: ms => isWord x ∧ ((st = (firstS x :: ms, false) ∧ ∀ p ∈ ms, isMid p) ∨ ∃ ms', ms = ms' ++ [[46]] ∧ st = (firstS x :: ms, true) ∧ ∀ p ∈ ms', isMid p)
theorem partial_step {st st' : List (List UInt8) × Bool} {ps : List (List UInt8)} {p : List UInt8} (hp : isPiece p) (h : Partial st ps) (hs : stepW st p = some st') : Partial st' (ps ++ [p]) := by
  have hpp : isWord p ∨ (p = [44] ∨ p = [46]) ∨ (isL (p.headD 0) = false ∧ (p == [44] || p == [46]) = false) := by
    rcases hp with hw | ⟨c, rfl, hc, _⟩
    · exact .inl hw
    · by_cases h1 : c = 44
      · exact .inr (.inl (.inl (by rw [h1])))
      · by_cases h2 : c = 46
        · exact .inr (.inl (.inr (by rw [h2])))
        · exact .inr (.inr ⟨hc, by simp [h1, h2]⟩)
  cases ps with
  | nil =>
    have h : st = ([], false) := h
    subst h
    rcases hpp with hw | (rfl | rfl) | ⟨h1, h2⟩
    · rw [stepW_first hw] at hs
      cases hs
      exact ⟨hw, .inl ⟨rfl, by simp⟩⟩
    · exact absurd hs (by simp [stepW, stepT, show isL 44 = false by decide])
    · exact absurd hs (by simp [stepW, stepT, show isL 46 = false by decide])
    · exact absurd hs (by simp only [stepW, stepT, h1, h2]; simp)
  | cons x ms =>
    obtain ⟨hx, ⟨rfl, hm⟩ | ⟨ms', rfl, rfl, hm⟩⟩ := h
    · rcases hpp with hw | (rfl | rfl) | ⟨h1, h2⟩
      · rw [stepW_word hw (by simp)] at hs
        cases hs
        refine ⟨hx, .inl ⟨rfl, ?_⟩⟩
        intro q hq
        rcases List.mem_append.1 hq with hq | hq
        · exact hm q hq
        · rw [List.mem_singleton.1 hq]; exact .inl hw
      · rw [stepW_comma (by simp)] at hs
        cases hs
        refine ⟨hx, .inl ⟨rfl, ?_⟩⟩
        intro q hq
        rcases List.mem_append.1 hq with hq | hq
        · exact hm q hq
        · rw [List.mem_singleton.1 hq]; exact .inr rfl
      · rw [stepW_dot (by simp)] at hs
        cases hs
        exact ⟨hx, .inr ⟨ms, rfl, rfl, hm⟩⟩
      · exact absurd hs (by simp only [stepW, stepT, h1, h2]; simp)
    · exact absurd hs (by simp [stepW, stepT])
theorem partial_run : ∀ (qs ps : List (List UInt8)) (st st' : List (List UInt8) × Bool), (∀ p ∈ qs, isPiece p) → Partial st ps → runW st qs = some st' → Partial st' (ps ++ qs)
  | [], ps, st, st', _, h, hr => by
    simp only [runW] at hr; cases hr; simpa using h
  | q :: qs, ps, st, st', hq, h, hr => by
    simp only [runW] at hr
    cases hs : stepW st q with
    | none => rw [hs] at hr; cases hr
    | some s =>
      rw [hs] at hr
      have := partial_run qs (ps ++ [q]) s st' (fun p hp => hq p (by simp [hp])) (partial_step (hq q (by simp)) h hs) hr
      simpa using this
theorem pcs_pieces (i : Nat) (l : List UInt8) : ∀ p ∈ (pcs i l).map (·.2), isPiece p := by
  intro p hp
  obtain ⟨x, hx, rfl⟩ := List.mem_map.1 hp
  exact (pcs_are i l x hx).1
/-- What the run over all pieces of a text came to. -/
theorem run_partial {i : Nat} {l : List UInt8} {st : List (List UInt8) × Bool} (h : runT ([], false) (pcs i l) = .inr st) : Partial st ((pcs i l).map (·.2)) := by
  have := partial_run _ [] ([], false) st (pcs_pieces i l) rfl ((runT_inr _ _ _).1 h)
  simpa using this
theorem partial_sentence {toks : List (List UInt8)} {ps : List (List UInt8)} (h : Partial (toks, true) ps) : Sentence toks := by
  cases ps with
  | nil => exact absurd h (by simp [Partial])
  | cons x ms =>
    obtain ⟨hx, ⟨h1, _⟩ | ⟨ms', rfl, h1, hm⟩⟩ := h
    · simp at h1
    · simp at h1
      exact ⟨firstS x, ms', h1, first_word hx, first_first, hm⟩
/-- The tokens of a sentence are in that shape. -/
theorem tokens_sentence {s : List UInt8} {toks : List (List UInt8)} {at' : Int} (h : tokensS s = (toks, at', 0)) : Sentence toks ∧ at' = 0 ∧ s.length ≤ 1000 ∧ runT ([], false) (pcs 0 s) = .inr (toks, true) := by
  unfold tokensS at h
  split at h
  · simp at h
  · cases hr : runT ([], false) (piecesS s) with
    | inl k => rw [hr] at h; simp at h
    | inr st =>
      obtain ⟨ts, ended⟩ := st
      rw [hr] at h
      cases ended
      · simp at h
      · simp at h
        obtain ⟨rfl, rfl⟩ := h
        exact ⟨partial_sentence (run_partial (i := 0) hr), rfl, by omega, hr⟩
theorem tokOk_mid {i : Nat} {p : List UInt8} (hi : i ≠ 0) : tokOk i p = true ↔ isMid p := by
  unfold tokOk isMid isWord
  rw [isL_all]
  simp [hi]
theorem tokOk_zero {p : List UInt8} : tokOk 0 p = true ↔ isWord p := by
  unfold tokOk isWord
  rw [isL_all]
  simp
theorem sentence_iff {l : List (List UInt8)} : toksS l = true ↔ Sentence l := by
  constructor
  · intro h
    simp only [toksS, Bool.and_eq_true, beq_iff_eq, decide_eq_true_eq] at h
    obtain ⟨h2, hl, hf, ht⟩ := h
    obtain ⟨init, last, rfl⟩ : ∃ init last, l = init ++ [last] := ⟨l.dropLast, l.getLast (by intro e; rw [e] at h2; exact absurd h2 (by decide)), (List.dropLast_concat_getLast _).symm⟩
    cases init with
    | nil => simp at h2
    | cons t ms =>
      have hlast : last = [46] := by simpa [List.getD_eq_getElem?_getD] using hl
      subst hlast
      have hall : ∀ i, i < (t :: ms).length → tokOk i ((t :: ms ++ [[46]]).getD i []) = true := by
        intro i hi
        have := List.all_eq_true.1 ht i (by simp at hi ⊢; exact hi)
        exact this
      refine ⟨t, ms, rfl, tokOk_zero.1 (by simpa using hall 0 (by simp)), by simpa using hf.symm, ?_⟩
      intro p hp
      obtain ⟨j, hj, rfl⟩ := List.getElem_of_mem hp
      have := hall (j + 1) (by simp; exact hj)
      have e : (t :: ms ++ [[46]]).getD (j + 1) [] = ms[j] := by
        simp [List.getD_eq_getElem?_getD, List.getElem?_append_left hj, List.getElem?_eq_getElem hj]
      rw [e] at this
      exact (tokOk_mid (by omega)).1 this
  · rintro ⟨t, ms, rfl, hw, hf, hm⟩
    simp only [toksS, Bool.and_eq_true, beq_iff_eq, decide_eq_true_eq]
    refine ⟨by simp, by simp [List.getD_eq_getElem?_getD], by simp [hf], ?_⟩
    rw [toksTo, List.all_eq_true]
    intro i hi
    have hi : i < ms.length + 1 := by simpa using hi
    cases i with
    | zero => exact tokOk_zero.2 (by simpa using hw)
    | succ j =>
      have hj : j < ms.length := by omega
      have e : (t :: ms ++ [[46]]).getD (j + 1) [] = ms[j] := by
        simp [List.getD_eq_getElem?_getD, List.getElem?_append_left hj, List.getElem?_eq_getElem hj]
      rw [e]
      exact (tokOk_mid (by omega)).2 (hm _ (List.getElem_mem hj))
/-- The first token as it stands in a text; a later one. -/
def headX (t : List UInt8) : List UInt8 := if isFn t then Lib.toUpperD (t.take 1) ++ t.drop 1 else t
def midX (p : List UInt8) : List UInt8 := if isL (p.headD 0) then 32 :: p else p
theorem flat_range {α β : Type} (f : α → List β) (d : α) : ∀ l : List α, (List.range l.length).flatMap (fun i => f (l.getD i d)) = l.flatMap f
  | [] => rfl
  | x :: l => by
    rw [List.length_cons, List.range_succ_eq_map, List.flatMap_cons, List.flatMap_cons]
    congr 1
    rw [List.flatMap_map]
    exact flat_range f d l
theorem bufTo_cons (t : List UInt8) (rest : List (List UInt8)) : bufTo (t :: rest) (t :: rest).length = headX t ++ rest.flatMap midX := by
  unfold bufTo
  rw [List.length_cons, List.range_succ_eq_map, List.flatMap_cons, List.flatMap_map]
  have e : (fun i => pieceX (i + 1) ((t :: rest).getD (i + 1) [])) = fun i => midX (rest.getD i []) := by
    funext i; simp [pieceX, midX]
  congr 1
  exact (congrArg (fun f => (List.range rest.length).flatMap f) e).trans (flat_range midX [] rest)
theorem headX_word {t : List UInt8} (h : isWord t) (hf : firstS t = t) : isWord (headX t) ∧ firstS (headX t) = t := by
  by_cases hfn : isFn t = true
  · have hm : t ∈ fnWords := by simpa [isFn] using hfn
    have e : ∀ u ∈ fnWords, isWord (headX u) ∧ firstS (headX u) = u := by decide
    exact e t hm
  · have e : headX t = t := by simp [headX, hfn]
    rw [e]; exact ⟨h, hf⟩
theorem headX_len {t : List UInt8} : (headX t).length = t.length := by
  by_cases hfn : isFn t = true
  · have hm : t ∈ fnWords := by simpa [isFn] using hfn
    have e : ∀ u ∈ fnWords, (headX u).length = u.length := by decide
    exact e t hm
  · have e : headX t = t := by simp [headX, hfn]
    rw [e]
/-- A later token: a word or a comma or a period. -/
def isLater (p : List UInt8) : Prop := isMid p ∨ p = [46]
theorem later_cases {p : List UInt8} (h : isLater p) : isWord p ∨ ∃ c, p = [c] ∧ isL c = false ∧ c ≠ 32 := by
  rcases h with (h | rfl) | rfl
  · exact .inl h
  · exact .inr ⟨44, rfl, by decide, by decide⟩
  · exact .inr ⟨46, rfl, by decide, by decide⟩
theorem midX_head : ∀ (ps : List (List UInt8)), (∀ p ∈ ps, isLater p) → ∀ d, (ps.flatMap midX).head? = some d → isL d = false
  | [], _, d, h => by simp at h
  | p :: ps, hp, d, h => by
    rcases later_cases (hp p (by simp)) with hw | ⟨c, rfl, hc, _⟩
    · rw [List.flatMap_cons, midX, if_pos (word_ne hw).2.2] at h
      simp at h
      subst h; decide
    · rw [List.flatMap_cons, midX, if_neg (by simp [hc])] at h
      simp at h
      subst h; exact hc
theorem apart_of_head {a b : List UInt8} (h : ∀ d, b.head? = some d → isL d = false) : apart a b := fun _ d _ hd _ => h d hd
theorem pcs_mids : ∀ (ps : List (List UInt8)) (i : Nat), (∀ p ∈ ps, isLater p) → (pcs i (ps.flatMap midX)).map (·.2) = ps
  | [], i, _ => rfl
  | p :: ps, i, hp => by
    have ih := fun i => pcs_mids ps i (fun q hq => hp q (by simp [hq]))
    have hh := midX_head ps (fun q hq => hp q (by simp [hq]))
    rw [List.flatMap_cons]
    rcases later_cases (hp p (by simp)) with hw | ⟨c, rfl, hc, h32⟩
    · rw [midX, if_pos (word_ne hw).2.2, List.cons_append, pcs_blank, pcs_append _ _ _ (apart_of_head hh), pcs_word _ _ hw.1 hw.2]
      simp [ih]
    · rw [midX, if_neg (by simp [hc])]
      show (pcs i (c :: ps.flatMap midX)).map (·.2) = _
      rw [pcs_mark _ _ _ hc h32]
      simp [ih]
theorem text_run {l : List (List UInt8)} (h : Sentence l) : runT ([], false) (pcs 0 (bufTo l l.length)) = .inr (l, true) := by
  obtain ⟨t, ms, rfl, hw, hf, hm⟩ := h
  have hl : ∀ p ∈ ms ++ [[46]], isLater p := by
    intro p hp
    rcases List.mem_append.1 hp with hp | hp
    · exact .inl (hm p hp)
    · exact .inr (List.mem_singleton.1 hp)
  rw [runT_inr, List.cons_append, bufTo_cons, pcs_append _ _ _ (apart_of_head (midX_head _ hl)), pcs_word _ _ (headX_word hw hf).1.1 (headX_word hw hf).1.2]
  rw [List.map_append, pcs_mids _ _ hl]
  exact run_sentence (headX_word hw hf).1 (headX_word hw hf).2 hm
/-- Dividing the text of the tokens of a sentence gives them. -/
theorem tokens_text {l : List (List UInt8)} (h : Sentence l) (hl : (bufTo l l.length).length ≤ 1000) : tokensS (bufTo l l.length) = (l, 0, 0) := by
  unfold tokensS
  rw [if_neg (by omega)]
  have : runT ([], false) (piecesS (bufTo l l.length)) = .inr (l, true) := text_run h
  rw [this]; rfl

/-- Behind every space there is a letter. -/
def okSp : List UInt8 → Bool
  | [] => true
  | [c] => c != 32
  | c :: d :: r => (c != 32 || isL d) && okSp (d :: r)
theorem okSp_append : ∀ (a b : List UInt8), okSp a = true → okSp b = true → okSp (a ++ b) = true
  | [], b, _, hb => hb
  | [c], b, ha, hb => by
    cases b with
    | nil => exact ha
    | cons d r => simp only [List.cons_append, List.nil_append, okSp, Bool.and_eq_true, Bool.or_eq_true] at ha ⊢; exact ⟨.inl ha, hb⟩
  | c :: d :: r, b, ha, hb => by
    simp only [List.cons_append, okSp, Bool.and_eq_true] at ha ⊢
    exact ⟨ha.1, okSp_append (d :: r) b ha.2 hb⟩
theorem okSp_word : ∀ (p : List UInt8), p.all isL = true → okSp p = true
  | [], _ => rfl
  | [c], h => by
    have hc : isL c = true := by simpa using h
    simp only [okSp, bne_iff_ne]; rintro rfl; revert hc; decide
  | c :: d :: r, h => by
    have hc : isL c = true := by simp at h; exact h.1
    have hr : (d :: r).all isL = true := by simp at h ⊢; exact h.2
    have h32 : c ≠ 32 := by rintro rfl; revert hc; decide
    simp only [okSp, Bool.and_eq_true, Bool.or_eq_true, bne_iff_ne]
    exact ⟨.inl h32, okSp_word (d :: r) hr⟩
theorem okSp_midX {p : List UInt8} (h : isLater p) : okSp (midX p) = true := by
  rcases later_cases h with hw | ⟨c, rfl, hc, h32⟩
  · have h3 := (word_ne hw).2.2
    rw [midX, if_pos h3]
    cases p with
    | nil => exact absurd rfl hw.1
    | cons c r =>
      simp only [okSp, Bool.and_eq_true, Bool.or_eq_true]
      exact ⟨.inr (by simpa using h3), okSp_word _ hw.2⟩
  · rw [midX, if_neg (by simp [hc])]
    simp [okSp, h32]
theorem okSp_mids : ∀ (ps : List (List UInt8)), (∀ p ∈ ps, isLater p) → okSp (ps.flatMap midX) = true
  | [], _ => rfl
  | p :: ps, h => by rw [List.flatMap_cons]; exact okSp_append _ _ (okSp_midX (h p (by simp))) (okSp_mids ps (fun q hq => h q (by simp [hq])))
theorem okSp_text {l : List (List UInt8)} (h : Sentence l) : okSp (bufTo l l.length) = true := by
  obtain ⟨t, ms, rfl, hw, hf, hm⟩ := h
  have hl : ∀ p ∈ ms ++ [[46]], isLater p := by
    intro p hp
    rcases List.mem_append.1 hp with hp | hp
    · exact .inl (hm p hp)
    · exact .inr (List.mem_singleton.1 hp)
  rw [List.cons_append, bufTo_cons]
  exact okSp_append _ _ (okSp_word _ (headX_word hw hf).1.2) (okSp_mids _ hl)
theorem index_no (x : UInt8) (hx : isL x = false) : ∀ l, okSp l = true → Lib.index l [32, x] = -1
  | [], _ => rfl
  | [c], h => by
    simp only [Lib.index]
    simp [List.isPrefixOf]
  | c :: d :: r, h => by
    simp only [okSp, Bool.and_eq_true, Bool.or_eq_true, bne_iff_ne] at h
    have hp : List.isPrefixOf [32, x] (c :: d :: r) = false := by
      simp only [List.isPrefixOf]
      rcases h.1 with h1 | h1
      · have : ((32 : UInt8) == c) = false := by simp; exact fun e => h1 e.symm
        rw [this]; rfl
      · have : (x == d) = false := by simp; rintro rfl; rw [hx] at h1; cases h1
        rw [this]; simp
    rw [Lib.index, hp, index_no x hx (d :: r) h.2]; rfl
theorem contains_no {x : UInt8} (hx : isL x = false) {l : List UInt8} (h : okSp l = true) : Lib.contains l [32, x] = false := by
  unfold Lib.contains; rw [index_no x hx l h]; rfl

/-- Tokens with blanks ahead of each. -/
def blankCat : List (Nat × List UInt8) → List UInt8
  | [] => []
  | x :: xs => List.replicate x.1 32 ++ x.2 ++ blankCat xs
theorem pcs_blanks : ∀ (n i : Nat) (r : List UInt8), pcs i (List.replicate n 32 ++ r) = pcs (i + n) r
  | 0, i, r => rfl
  | n + 1, i, r => by
    rw [List.replicate_succ, List.cons_append, pcs_blank, pcs_blanks n, show i + 1 + n = i + (n + 1) by omega]
/-- Two words have a blank between them. -/
def spaced : List (Nat × List UInt8) → Prop
  | x :: y :: xs => (isWord x.2 → isWord y.2 → 1 ≤ y.1) ∧ spaced (y :: xs)
  | _ => True
theorem blank_head : ∀ (n : Nat) (r : List UInt8), 1 ≤ n → ∀ d, (List.replicate n 32 ++ r).head? = some d → isL d = false
  | n + 1, r, _, d, h => by
    rw [List.replicate_succ] at h
    simp at h; subst h; decide
theorem pcs_cat (m : Nat) : ∀ (xs : List (Nat × List UInt8)) (i : Nat), (∀ x ∈ xs, isLater x.2) → spaced xs → (pcs i (blankCat xs ++ List.replicate m 32)).map (·.2) = xs.map (·.2)
  | [], i, _, _ => by
    have := pcs_blanks m i []
    rw [List.append_nil] at this
    simp [blankCat, this, pcs_nil]
  | x :: xs, i, h, hs => by
    have hs' : spaced xs := by
      cases xs with
      | nil => trivial
      | cons y ys => exact hs.2
    have ih := fun i => pcs_cat m xs i (fun y hy => h y (by simp [hy])) hs'
    simp only [blankCat, List.append_assoc]
    rw [pcs_blanks]
    rcases later_cases (h x (by simp)) with hw | ⟨c, hc, hl, h32⟩
    · have hap : apart x.2 (blankCat xs ++ List.replicate m 32) := by
        apply apart_of_head
        intro d hd
        cases xs with
        | nil =>
          cases m with
          | zero => simp [blankCat] at hd
          | succ m => simp [blankCat, List.replicate_succ] at hd; subst hd; decide
        | cons y ys =>
          rcases later_cases (h y (by simp)) with hy | ⟨c, hc, hl, h32⟩
          · simp only [blankCat, List.append_assoc] at hd
            exact blank_head _ _ (hs.1 hw hy) d hd
          · simp only [blankCat, List.append_assoc] at hd
            by_cases h1 : 1 ≤ y.1
            · exact blank_head _ _ h1 d hd
            · rw [show y.1 = 0 by omega, hc] at hd
              simp at hd; subst hd; exact hl
      rw [pcs_append _ _ _ hap, pcs_word _ _ hw.1 hw.2]
      simp [ih]
    · rw [hc, List.cons_append, List.nil_append, pcs_mark _ _ _ hl h32]
      simp [ih, hc]
theorem tokens_cat {l : List (List UInt8)} (h : Sentence l) (xs : List (Nat × List UInt8)) (hx : xs.map (·.2) = l) (hs : spaced xs) (m : Nat)
    (hlen : (blankCat xs ++ List.replicate m 32).length ≤ 1000) : tokensS (blankCat xs ++ List.replicate m 32) = (l, 0, 0) := by
  have hl : ∀ x ∈ xs, isLater x.2 := by
    intro x hxm
    have : x.2 ∈ l := by rw [← hx]; exact List.mem_map_of_mem hxm
    obtain ⟨t, ms, rfl, hw, hf, hm⟩ := h
    rcases List.mem_append.1 this with hp | hp
    · rcases List.mem_cons.1 hp with e | e
      · rw [e]; exact .inl (.inl hw)
      · exact .inl (hm _ e)
    · exact .inr (List.mem_singleton.1 hp)
  unfold tokensS
  rw [if_neg (by omega)]
  have : runT ([], false) (piecesS (blankCat xs ++ List.replicate m 32)) = .inr (l, true) := by
    show runT ([], false) (pcs 0 _) = _
    rw [runT_inr, pcs_cat m xs 0 hl hs, hx]
    obtain ⟨t, ms, rfl, hw, hf, hm⟩ := h
    exact run_sentence hw hf hm
  rw [this]; rfl

/-- The place of an error. -/
theorem runT_inl : ∀ (xs : List (Nat × List UInt8)) (st : List (List UInt8) × Bool) (k : Nat), runT st xs = .inl k → ∃ pre x post s, xs = pre ++ x :: post ∧ runT st pre = .inr s ∧ stepT s x = none ∧ k = x.1
  | [], st, k, h => by simp [runT] at h
  | x :: xs, st, k, h => by
    simp only [runT] at h
    cases hs : stepT st x with
    | none => rw [hs] at h; exact ⟨[], x, xs, st, rfl, rfl, hs, by simpa using h.symm⟩
    | some s =>
      rw [hs] at h
      obtain ⟨pre, y, post, s', h1, h2, h3, h4⟩ := runT_inl xs s k h
      exact ⟨x :: pre, y, post, s', by rw [h1]; rfl, by simp only [runT, hs]; exact h2, h3, h4⟩
theorem step_err {st : List (List UInt8) × Bool} {i : Nat} {c : UInt8} {r r' : List UInt8} (h : stepT st (i, c :: r.take (moreS c r)) = none) : stepT st (i, c :: r'.take (moreS c r')) = none := by
  cases hc : isL c
  · have e : ∀ r, moreS c r = 0 := fun r => by simp [moreS, hc]
    rw [e] at h ⊢
    exact h
  · have h3 : st.2 = true := by
      simp only [stepT, List.headD_cons, hc] at h
      cases hs : st.2
      · rw [hs] at h; simp at h
      · rfl
    simp [stepT, h3]
theorem tokens_err {s : List UInt8} {toks : List (List UInt8)} {k : Int} (h : tokensS s = (toks, k, 332)) :
    toks = [] ∧ ∃ n : Nat, k = n ∧ n ≤ s.length ∧ ∃ st, runT ([], false) (pcs 0 (s.take n)) = .inr st ∧
      (n < s.length → ∀ behind, s.length + behind.length ≤ 1000 → tokensS (s.take (n + 1) ++ behind) = ([], k, 332)) := by
  unfold tokensS at h
  split at h
  · simp at h
  · cases hr : runT ([], false) (piecesS s) with
    | inr st =>
      obtain ⟨ts, ended⟩ := st
      rw [hr] at h
      cases ended
      · simp at h
        obtain ⟨rfl, rfl⟩ := h
        refine ⟨rfl, s.length, rfl, Nat.le_refl _, (ts, false), ?_, fun h => absurd h (Nat.lt_irrefl _)⟩
        rw [List.take_length]; exact hr
      · simp at h
    | inl n =>
      rw [hr] at h
      simp at h
      obtain ⟨rfl, rfl⟩ := h
      obtain ⟨pre, x, post, st, h1, h2, h3, h4⟩ := runT_inl _ _ _ hr
      obtain ⟨a, b, rfl, h6, h7, h8, h9⟩ := pcs_cut 0 s pre x post h1
      have hn : n = a.length := by omega
      cases b with
      | nil => rw [pcs_nil] at h9; cases h9
      | cons c r =>
        have h32 : c ≠ 32 := by
          rintro rfl
          rw [pcs_blank] at h9
          have := (pcs_are (x.1 + 1) r x (by rw [h9]; simp)).2.1
          omega
        rw [pcs_cons, if_neg h32] at h9
        have hx : x = (x.1, c :: r.take (moreS c r)) := by
          have := List.cons.inj h9
          exact this.1.symm
        refine ⟨rfl, n, rfl, by rw [hn]; simp, st, ?_, ?_⟩
        · rw [hn, List.take_left, h8, h2]
        · intro _ behind hb
          have e : (a ++ c :: r).take (n + 1) ++ behind = a ++ (c :: behind) := by
            rw [hn, List.take_append, List.take_of_length_le (by omega), Nat.add_sub_cancel_left]; simp
          rw [e]
          have hrun : runT ([], false) (piecesS (a ++ c :: behind)) = .inl n := by
            show runT ([], false) (pcs 0 _) = _
            have hap : apart a (c :: behind) := fun u d hu hd hl => h7 u d hu (by simpa using hd) hl
            rw [pcs_append _ _ _ hap, h8, runT_split, h2, pcs_cons, if_neg h32, List.singleton_append]
            simp only [runT]
            rw [hx] at h3
            have hs := step_err (r' := behind) h3
            have e0 : (0 + a.length) = x.1 := by omega
            rw [e0, hs, h4]
          unfold tokensS
          rw [if_neg (by simp at hb ⊢; omega), hrun]
theorem tokens_ok_of {a : List UInt8} {toks : List (List UInt8)} (h : a.length ≤ 1000) (hr : runT ([], false) (pcs 0 a) = .inr (toks, true)) : tokensS a = (toks, 0, 0) := by
  unfold tokensS
  rw [if_neg (by omega)]
  have : runT ([], false) (piecesS a) = .inr (toks, true) := hr
  rw [this]; rfl
/-- What stands ahead of an error can be made a sentence. -/
theorem tokens_begin {a : List UInt8} {st : List (List UInt8) × Bool} (h : a.length ≤ 900) (hr : runT ([], false) (pcs 0 a) = .inr st) :
    (tokensS a).2.2 = 0 ∨ ((tokensS (a ++ [46])).2.2 = 0 ∧ 1 < (tokensS (a ++ [46])).1.length) ∨ ((tokensS (a ++ [32, 120, 46])).2.2 = 0 ∧ 1 < (tokensS (a ++ [32, 120, 46])).1.length) := by
  obtain ⟨toks, ended⟩ := st
  have hp := run_partial hr
  cases ended
  · cases hps : (pcs 0 a).map (·.2) with
    | nil =>
      rw [hps] at hp
      have hp : (toks, false) = (([], false) : List (List UInt8) × Bool) := hp
      simp at hp
      subst hp
      refine .inr (.inr ?_)
      have : tokensS (a ++ [32, 120, 46]) = ([[120], [46]], 0, 0) := by
        refine tokens_ok_of (by simp; omega) ?_
        rw [pcs_append _ _ _ (apart_of_head (by intro d hd; simp at hd; subst hd; decide)), runT_split, hr, pcs_blank]
        have e : pcs (0 + a.length + 1) [120, 46] = [(0 + a.length + 1, [120]), (0 + a.length + 1 + 1, [46])] := by
          show pcs (0 + a.length + 1) ([120] ++ [46]) = _
          rw [pcs_append _ _ _ (apart_of_head (by intro d hd; simp at hd; subst hd; decide)), pcs_word _ [120] (by simp) (by decide), pcs_mark _ _ _ (by decide) (by decide)]; rfl
        rw [e]
        have hw : isWord [120] := by decide
        simp only [runT, stepT_snd, stepW_first hw]
        rw [show firstS [120] = [120] by decide, stepW_dot (by simp)]; rfl
      rw [this]; exact ⟨rfl, by decide⟩
    | cons x ms =>
      rw [hps] at hp
      obtain ⟨hx, ⟨h1, hm⟩ | ⟨ms', _, h1, _⟩⟩ := hp
      · have hne : toks ≠ [] := by
          intro e; rw [e] at h1; simp at h1
        refine .inr (.inl ?_)
        have : tokensS (a ++ [46]) = (toks ++ [[46]], 0, 0) := by
          refine tokens_ok_of (by simp; omega) ?_
          rw [pcs_append _ _ _ (apart_of_head (by intro d hd; simp at hd; subst hd; decide)), runT_split, hr, pcs_mark _ _ _ (by decide) (by decide)]
          simp only [runT, stepT_snd, stepW_dot hne, pcs_nil]
        rw [this]
        refine ⟨rfl, ?_⟩
        have := List.length_pos_iff.2 hne
        simp; omega
      · simp at h1
  · exact .inl (by rw [tokens_ok_of (by omega) hr])
theorem pcs_sum : ∀ (i : Nat) (l : List UInt8), ((pcs i l).map fun x => x.2.length).sum ≤ l.length := by
  refine pcs_step _ (fun i => by simp [pcs_nil]) ?_
  intro i c r ih
  have hle := moreS_le c r
  rw [pcs_cons, List.map_append, List.sum_append]
  rw [List.length_drop] at ih
  split
  · simp; omega
  · simp; omega
theorem piece_pos {p : List UInt8} (h : isPiece p) : 1 ≤ p.length := by
  rcases h with ⟨h, _⟩ | ⟨c, rfl, _⟩
  · exact List.length_pos_iff.2 h
  · simp
theorem sum_ge : ∀ (l : List (List UInt8)), (∀ p ∈ l, 1 ≤ p.length) → l.length ≤ (l.map List.length).sum ∧ ∀ p ∈ l, p.length ≤ (l.map List.length).sum
  | [], _ => ⟨by simp, fun p hp => by simp at hp⟩
  | x :: l, h => by
    obtain ⟨h1, h2⟩ := sum_ge l (fun p hp => h p (by simp [hp]))
    have hx := h x (by simp)
    refine ⟨by simp; omega, fun p hp => ?_⟩
    rcases List.mem_cons.1 hp with rfl | hp
    · simp
    · have := h2 p hp; simp; omega
theorem partial_sum {st : List (List UInt8) × Bool} {ps : List (List UInt8)} (h : Partial st ps) : st.1.map List.length = ps.map List.length := by
  cases ps with
  | nil => have h : st = ([], false) := h; rw [h]
  | cons x ms =>
    obtain ⟨hx, ⟨rfl, _⟩ | ⟨ms', _, rfl, _⟩⟩ := h <;> simp [first_len hx]
theorem tokens_sizes {s : List UInt8} {toks : List (List UInt8)} {at' : Int} (h : tokensS s = (toks, at', 0)) :
    (toks.map List.length).sum ≤ s.length ∧ toks.length ≤ s.length ∧ ∀ t ∈ toks, t.length ≤ s.length := by
  obtain ⟨_, _, _, hr⟩ := tokens_sentence h
  have hp := run_partial hr
  have e := partial_sum hp
  have h1 := pcs_sum 0 s
  have h2 : (toks.map List.length).sum ≤ s.length := by
    have e : toks.map List.length = ((pcs 0 s).map (·.2)).map List.length := e
    rw [e, List.map_map]; exact h1
  have h3 := sum_ge ((pcs 0 s).map (·.2)) (fun p hp => piece_pos (pcs_pieces 0 s p hp))
  have h4 : ∀ t ∈ toks, 1 ≤ t.length := by
    intro t ht
    have hm : t.length ∈ toks.map List.length := List.mem_map_of_mem ht
    have e : toks.map List.length = ((pcs 0 s).map (·.2)).map List.length := e
    rw [e] at hm
    obtain ⟨p, hp, hpl⟩ := List.mem_map.1 hm
    have := piece_pos (pcs_pieces 0 s p hp)
    omega
  obtain ⟨k1, k2⟩ := sum_ge toks h4
  exact ⟨h2, by omega, fun t ht => by have := k2 t ht; omega⟩
theorem tokens_errs (s : List UInt8) : (∃ toks, tokensS s = (toks, 0, 0)) ∨ (∃ n : Nat, tokensS s = ([], (n : Int), 332) ∧ n ≤ s.length) ∨ (tokensS s = ([], 0, 3) ∧ 1000 < s.length) := by
  obtain ⟨toks, at', e, h⟩ : ∃ toks at' e, tokensS s = (toks, at', e) := ⟨_, _, _, rfl⟩
  have he : e = 0 ∨ e = 332 ∨ (e = 3 ∧ tokensS s = ([], 0, 3) ∧ 1000 < s.length) := by
    unfold tokensS at h
    split at h
    · rename_i hl
      simp at h; exact .inr (.inr ⟨h.2.2.symm, by unfold tokensS; rw [if_pos hl], hl⟩)
    · cases hr : runT ([], false) (piecesS s) with
      | inl k => rw [hr] at h; simp at h; exact .inr (.inl h.2.2.symm)
      | inr st =>
        obtain ⟨ts, ended⟩ := st
        rw [hr] at h
        cases ended <;> simp at h
        · exact .inr (.inl h.2.2.symm)
        · exact .inl h.2.2.symm
  rcases he with rfl | rfl | ⟨_, h3, h4⟩
  · obtain ⟨_, rfl, _⟩ := tokens_sentence h
    exact .inl ⟨toks, h⟩
  · obtain ⟨rfl, n, rfl, hn, _⟩ := tokens_err h
    exact .inr (.inl ⟨n, h, hn⟩)
  · exact .inr (.inr ⟨h3, h4⟩)
theorem textS_of {l : List (List UInt8)} (h : Sentence l) : textS l = if (bufTo l l.length).length ≤ 1000 then (bufTo l l.length, 0) else ([], 3) := by
  unfold textS; rw [if_pos (sentence_iff.2 h)]
end Go.Proofs.YtakpkaklcjgdkaaGreatDoor
