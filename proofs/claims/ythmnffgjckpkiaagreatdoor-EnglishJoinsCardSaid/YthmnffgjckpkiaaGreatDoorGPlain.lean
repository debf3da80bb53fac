/-
  Plain laws of the third form.
  The parses that are listed are right, and their words are the tokens.
  Every right parse of the tokens is among the parses that are listed.
  The parses stand in order.
-/
import Derived.Test.YthmnffgjckpkiaaGreatDoorGLow
import Derived.Test.YthmnffgjckpkiaaGreatDoorGEngB
namespace Go.Proofs.YthmnffgjckpkiaaGreatDoor
open Go Go.RowKit

theorem third_some (l : List UInt8) : ∃ e ∈ endsS, fitsS l e = true ∧ thirdS l = putS l e := by
  have h : (endsS.find? (fitsS l)).isSome = true := by
    rw [List.find?_isSome]
    exact ⟨([], false, 0, [115]), by decide, by simp [fitsS, Lib.hasSuffix]⟩
  obtain ⟨e, he⟩ := Option.isSome_iff_exists.1 h
  exact ⟨e, List.mem_of_find?_eq_some he, List.find?_some he, by simp [thirdS, he]⟩

theorem ends_cases (P : List UInt8 × Bool × Nat × List UInt8 → Prop) (hP : ∀ e ∈ endsS, P e) : P ([121], true, 1, [105, 101, 115]) ∧ ∀ e ∈ endsS, e.2.2.1 = 0 ∨ e = ([121], true, 1, [105, 101, 115]) := by
  refine ⟨hP _ (by decide), ?_⟩
  decide

theorem third_ends (l : List UInt8) : Lib.hasSuffix (thirdS l) [115] = true := by
  obtain ⟨e, he, _, h⟩ := third_some l
  have hs : ∀ e ∈ endsS, [115] <:+ e.2.2.2 := by decide
  rw [h, Lib.hasSuffix, List.isSuffixOf_iff_suffix, putS]
  exact (hs e he).trans (List.suffix_append _ _)
theorem third_shape (l : List UInt8) : (thirdS l = l ++ [115] ∨ thirdS l = l ++ [101, 115]) ∨ ([121] <:+ l ∧ thirdS l = l.take (l.length - 1) ++ [105, 101, 115]) := by
  obtain ⟨e, he, hf, h⟩ := third_some l
  have hs : ∀ e ∈ endsS, (e.2.2.1 = 0 ∧ (e.2.2.2 = [115] ∨ e.2.2.2 = [101, 115])) ∨ (e.1 = [121] ∧ e.2.2.1 = 1 ∧ e.2.2.2 = [105, 101, 115]) := by decide
  rcases hs e he with ⟨h0, h1⟩ | ⟨h1, h2, h3⟩
  · refine .inl ?_
    rw [h, putS, h0, Nat.sub_zero, List.take_length]
    rcases h1 with h1 | h1 <;> rw [h1]
    · exact .inl rfl
    · exact .inr rfl
  · refine .inr ⟨?_, by rw [h, putS, h2, h3]⟩
    simp only [fitsS, Bool.and_eq_true, Lib.hasSuffix, List.isSuffixOf_iff_suffix] at hf
    rw [h1] at hf
    exact hf.1
theorem third_init (l : List UInt8) : Lib.hasPrefix (thirdS l) (l.take (l.length - 1)) = true := by
  rw [Lib.hasPrefix, List.isPrefixOf_iff_prefix]
  rcases third_shape l with (h | h) | ⟨_, h⟩ <;> rw [h]
  · exact (List.take_prefix _ _).trans (List.prefix_append _ _)
  · exact (List.take_prefix _ _).trans (List.prefix_append _ _)
  · exact List.prefix_append _ _
theorem third_whole (l : List UInt8) (h : ¬ [121] <:+ l) : Lib.hasPrefix (thirdS l) l = true := by
  rw [Lib.hasPrefix, List.isPrefixOf_iff_prefix]
  rcases third_shape l with (h' | h') | ⟨hy, _⟩
  · rw [h']; exact List.prefix_append _ _
  · rw [h']; exact List.prefix_append _ _
  · exact absurd hy h
theorem third_len (l : List UInt8) (h : l ≠ []) : l.length + 1 ≤ (thirdS l).length ∧ (thirdS l).length ≤ l.length + 2 := by
  have : 0 < l.length := List.length_pos_iff.2 h
  rcases third_shape l with (h | h) | ⟨_, h⟩ <;> rw [h] <;> simp <;> omega

theorem suffix_two (p : List UInt8) (x y : UInt8) (e : List UInt8) (h : e.length ≤ 2) : Lib.hasSuffix (p ++ [x, y]) e = Lib.hasSuffix [x, y] e := by
  rw [Bool.eq_iff_iff, Lib.hasSuffix, Lib.hasSuffix, List.isSuffixOf_iff_suffix, List.isSuffixOf_iff_suffix]
  constructor
  · intro hs
    exact List.suffix_of_suffix_length_le hs (List.suffix_append _ _) (by simpa using h)
  · intro hs
    exact hs.trans (List.suffix_append _ _)
theorem fits_two (p : List UInt8) (x y : UInt8) (e : List UInt8 × Bool × Nat × List UInt8) (he : e ∈ endsS) : fitsS (p ++ [x, y]) e = fitsS [x, y] e := by
  have h2 : ∀ e ∈ endsS, e.1.length ≤ 2 ∧ (e.2.1 = true → e.1.length = 1) := by decide
  obtain ⟨h2, h1⟩ := h2 e he
  unfold fitsS
  rw [suffix_two p x y e.1 h2]
  cases hs : Lib.hasSuffix [x, y] e.1
  · rfl
  · cases hh : e.2.1
    · rfl
    · have hs' : Lib.hasSuffix (p ++ [x, y]) e.1 = true := by rw [suffix_two p x y e.1 h2]; exact hs
      have h1 := h1 hh
      have e1 : Lib.trimSuffix (p ++ [x, y]) e.1 = p ++ [x] := by
        rw [Lib.trimSuffix, if_pos hs', h1]
        simp [List.take_append]
        exact List.take_of_length_le (by simp)
      have e2 : Lib.trimSuffix [x, y] e.1 = [x] := by rw [Lib.trimSuffix, if_pos hs, h1]; rfl
      rw [e1, e2]
      simp [hardS]
theorem third_two (p : List UInt8) (x y : UInt8) : thirdS (p ++ [x, y]) = p ++ thirdS [x, y] := by
  have hf : endsS.find? (fitsS (p ++ [x, y])) = endsS.find? (fitsS [x, y]) := by
    have : ∀ es : List (List UInt8 × Bool × Nat × List UInt8), (∀ e ∈ es, e ∈ endsS) → es.find? (fitsS (p ++ [x, y])) = es.find? (fitsS [x, y]) := by
      intro es
      induction es with
      | nil => intro _; rfl
      | cons e es ih =>
        intro h
        rw [List.find?_cons, List.find?_cons, fits_two p x y e (h e (by simp)), ih (fun e he => h e (by simp [he]))]
    exact this endsS (fun e h => h)
  have h1 := third_some [x, y]
  obtain ⟨e, he, hfit, _⟩ := h1
  have hs : (endsS.find? (fitsS [x, y])).isSome = true := by rw [List.find?_isSome]; exact ⟨e, he, hfit⟩
  obtain ⟨e', he'⟩ := Option.isSome_iff_exists.1 hs
  have hm := List.mem_of_find?_eq_some he'
  have hc : ∀ e ∈ endsS, e.2.2.1 ≤ 1 := by decide
  have := hc e' hm
  simp only [thirdS, hf, he', putS]
  rw [List.take_append, List.append_assoc]
  congr 1
  · rw [List.take_of_length_le (by simp; omega)]
  · congr 2
    simp; omega
/-- Words that end alike, in their last two letters, get the same ending. -/
theorem third_alike (l m : List UInt8) (hl : 2 ≤ l.length) (hm : 2 ≤ m.length) (h : l.drop (l.length - 2) = m.drop (m.length - 2)) : (thirdS l).drop (l.length - 1) = (thirdS m).drop (m.length - 1) := by
  have cut : ∀ l : List UInt8, 2 ≤ l.length → ∃ p x y, l = p ++ [x, y] := by
    intro l hl
    have h2 : (l.drop (l.length - 2)).length = 2 := by simp; omega
    match hd : l.drop (l.length - 2), h2 with
    | [x, y], _ => exact ⟨l.take (l.length - 2), x, y, by rw [← hd, List.take_append_drop]⟩
  obtain ⟨p, x, y, rfl⟩ := cut l hl
  obtain ⟨q, u, v, rfl⟩ := cut m hm
  simp at h
  obtain ⟨rfl, rfl⟩ := h
  rw [third_two, third_two]
  have d : ∀ p : List UInt8, (p ++ thirdS [x, y]).drop ((p ++ [x, y]).length - 1) = (thirdS [x, y]).drop 1 := by
    intro p
    rw [List.drop_append, List.drop_of_length_le (by simp)]
    simp
  rw [d p, d q]
end Go.Proofs.YthmnffgjckpkiaaGreatDoor
namespace Go.Proofs.YthmnffgjckpkiaaGreatDoor
open Go Go.RowKit

/-- The tokens of a span. -/
def sl (g : Gr) (f t : Nat) : List (List UInt8) := (g.toks.drop f).take (t - f)
theorem sl_len (g : Gr) {f t : Nat} (ht : t ≤ g.toks.length) : (sl g f t).length = t - f := by
  unfold sl; rw [List.length_take, List.length_drop]; omega
theorem sl_none (g : Gr) (f : Nat) : sl g f f = [] := by unfold sl; simp
theorem sl_cons (g : Gr) {f t : Nat} (h : f < t) (ht : t ≤ g.toks.length) : sl g f t = tokAt g f :: sl g (f + 1) t := by
  unfold sl tokAt
  have hf : f < g.toks.length := by omega
  rw [List.drop_eq_getElem_cons hf, show t - f = (t - (f + 1)) + 1 by omega, List.take_succ_cons]
  simp [List.getElem?_eq_getElem hf]
theorem sl_one (g : Gr) {f t : Nat} (h : t = f + 1) (ht : t ≤ g.toks.length) : sl g f t = [tokAt g f] := by
  subst h; rw [sl_cons g (by omega) ht, sl_none]
theorem sl_app (g : Gr) {f k t : Nat} (h1 : f ≤ k) (h2 : k ≤ t) : sl g f t = sl g f k ++ sl g k t := by
  unfold sl
  rw [show t - f = (k - f) + (t - k) by omega, List.take_add, List.drop_drop, show f + (k - f) = k by omega]

/-! ### Forms of entries -/
theorem those_mem {p : Ent → Bool} {l : List Ent} {i : Nat} : i ∈ thoseS p l ↔ ∃ h : i < l.length, p l[i] = true := by
  unfold thoseS thoseTo
  rw [List.mem_filter, List.mem_range]
  constructor
  · rintro ⟨h, hp⟩
    rw [List.getElem?_eq_getElem h] at hp
    exact ⟨h, hp⟩
  · rintro ⟨h, hp⟩
    refine ⟨h, ?_⟩
    rw [List.getElem?_eq_getElem h]
    exact hp
theorem look_mem {tok : List UInt8} {l : List Ent} {e : Nat} {b : Bool} : (e, b) ∈ lookS tok l ↔ ∃ h : e < l.length, formS tok l[e] = true ∧ b = (l[e].w != tok) := by
  unfold lookS
  rw [List.mem_map]
  constructor
  · rintro ⟨i, hi, he⟩
    obtain ⟨h, hp⟩ := those_mem.1 hi
    unfold formAt at he
    rw [List.getElem?_eq_getElem h] at he
    simp only [Prod.mk.injEq] at he
    obtain ⟨rfl, rfl⟩ := he
    exact ⟨h, hp, rfl⟩
  · rintro ⟨h, hp, rfl⟩
    refine ⟨e, those_mem.2 ⟨h, hp⟩, ?_⟩
    unfold formAt
    rw [List.getElem?_eq_getElem h]
theorem ownW_at {l : List Ent} {e : Nat} (h : e < l.length) : ownW l (e : Int) = l[e].w := by
  unfold ownW
  rw [Int.toNat_natCast, List.getElem?_eq_getElem h]
theorem catAt_at {l : List Ent} {e : Nat} (h : e < l.length) : catAt l e = l[e].cat := by
  unfold catAt; rw [List.getElem?_eq_getElem h]
theorem catAt_lt {l : List Ent} {e : Nat} {c : Int} (hc : catAt l e = c) (h0 : c ≠ 0) : e < l.length := by
  unfold catAt at hc
  by_cases h : e < l.length
  · exact h
  · rw [List.getElem?_eq_none (by omega)] at hc
    exact absurd hc.symm h0
theorem ent_false {tok : List UInt8} {l : List Ent} {e : Nat} (h : e < l.length) : (e, false) ∈ lookS tok l ↔ ownW l (e : Int) = tok := by
  rw [look_mem, ownW_at h]
  constructor
  · rintro ⟨_, _, h2⟩
    have : (l[e].w != tok) = false := h2.symm
    simpa using this
  · intro hw
    refine ⟨h, ?_, ?_⟩
    · unfold formS; simp [hw]
    · simp [hw]
theorem valid_right {l : List Ent} (hv : validS l = true) {e : Nat} (h : e < l.length) : rightS l[e] = true := by
  unfold validS at hv
  rw [Bool.and_eq_true] at hv
  have := List.all_eq_true.1 hv.2 e (by simpa using h)
  rw [stepS_eq h, Bool.and_eq_true] at this
  exact this.1
theorem right_verb {x : Ent} (h : rightS x = true) (hc : x.cat = 4 ∨ x.cat = 5) : plainS x.w = true := by
  unfold rightS at h
  rw [if_neg (by omega), if_pos (by omega), Bool.and_eq_true] at h
  exact h.1
theorem third_ne {l : List UInt8} (h : plainS l = true) : thirdE l = 0 ∧ thirdV l ≠ l := by
  refine ⟨by simp [thirdE, h], ?_⟩
  have hne : l ≠ [] := by
    rintro rfl; revert h; decide
  have := (third_len l hne).1
  have e : thirdV l = thirdS l := by simp [thirdV, h]
  rw [e]
  intro e'
  rw [e'] at this
  omega
theorem ent_true {tok : List UInt8} {l : List Ent} (hv : validS l = true) {e : Nat} (h : e < l.length) (hc : catAt l e = 4 ∨ catAt l e = 5) : (e, true) ∈ lookS tok l ↔ thirdV (ownW l (e : Int)) = tok := by
  rw [look_mem, ownW_at h]
  rw [catAt_at h] at hc
  have hp := right_verb (valid_right hv h) hc
  have ho := third_ne hp
  constructor
  · rintro ⟨_, hf, h2⟩
    have hne : ¬ l[e].w = tok := by
      have : (l[e].w != tok) = true := h2.symm
      simpa using this
    unfold formS isThird at hf
    simp only [Bool.or_eq_true, Bool.and_eq_true, beq_iff_eq] at hf
    rcases hf with hf | hf
    · exact absurd hf hne
    · exact hf.2.2
  · intro hw
    refine ⟨h, ?_, ?_⟩
    · unfold formS isThird
      simp only [Bool.or_eq_true, Bool.and_eq_true, beq_iff_eq]
      exact .inr ⟨hc, ho.1, hw⟩
    · symm
      simp only [bne_iff_ne]
      intro he
      exact ho.2 (by rw [hw, he])

theorem mem_ents {g : Gr} {tok : List UInt8} {b : Bool} {r e0 : Nat} {w : List UInt8} {ps : List (Nat × Nat × Nat)} {x : StepS} : x ∈ entsS g tok b ⟨r, e0, w, ps⟩ ↔ ∃ e, x = ⟨r, e, w, ps⟩ ∧ (e, b) ∈ lookS tok g.l ∧ catAt g.l e = catR r := by
  unfold entsS
  rw [List.mem_map]
  constructor
  · rintro ⟨⟨e, c⟩, hm, rfl⟩
    rw [List.mem_filter] at hm
    obtain ⟨hm, hc⟩ := hm
    simp only [Bool.and_eq_true, beq_iff_eq] at hc
    obtain ⟨rfl, hc⟩ := hc
    exact ⟨e, rfl, hm, hc⟩
  · rintro ⟨e, rfl, hm, hc⟩
    exact ⟨(e, b), List.mem_filter.2 ⟨hm, by simp [hc]⟩, rfl⟩
theorem mem_halves {g : Gr} {f t rule kind : Nat} {w : List UInt8} {x : StepS} : x ∈ halvesS g f t rule w kind ↔ ∃ k, f ≤ k ∧ k < t ∧ tokAt g k = w ∧ x = ⟨rule, 0, [], [(kind, f, k), (kind, k + 1, t)]⟩ := by
  unfold halvesS
  rw [List.mem_filterMap]
  constructor
  · rintro ⟨k, hk, hx⟩
    obtain ⟨j, hj, rfl⟩ := List.mem_map.1 hk
    have hj := List.mem_range.1 hj
    split at hx
    · rename_i hw
      exact ⟨j + f, by omega, by omega, hw, (Option.some.inj hx).symm⟩
    · cases hx
  · rintro ⟨k, h1, h2, h3, rfl⟩
    exact ⟨k, List.mem_map.2 ⟨k - f, List.mem_range.2 (by omega), by omega⟩, by rw [if_pos h3]⟩

/-- The parts of a step's parse are parses of its spans. -/
theorem step_mem {g : Gr} {s : StepS} {x : Tr} (h2 : s.parts.length ≤ 2) : x ∈ stepTrees g s ↔ ∃ sub, x = .node s.rule s.entry s.word sub ∧
    ((s.parts = [] ∧ sub = []) ∨ (∃ p a, s.parts = [p] ∧ sub = [a] ∧ a ∈ treesS g p.1 p.2.1 p.2.2) ∨ (∃ p q a b, s.parts = [p, q] ∧ sub = [a, b] ∧ a ∈ treesS g p.1 p.2.1 p.2.2 ∧ b ∈ treesS g q.1 q.2.1 q.2.2)) := by
  obtain ⟨rule, entry, word, parts⟩ := s
  have hpos : ∀ {k f t : Nat} {a : Tr}, a ∈ treesS g k f t → 0 < cntS g k f t := by
    intro k f t a ha
    by_cases h0 : cntS g k f t = 0
    · rw [treesS_none g h0] at ha; cases ha
    · omega
  have hm := most_pos
  unfold stepTrees
  simp only at h2 ⊢
  constructor
  · intro h
    split at h
    · cases h
    · obtain ⟨sub, hs, rfl⟩ := List.mem_map.1 h
      refine ⟨sub, rfl, ?_⟩
      rcases parts with _ | ⟨p, _ | ⟨q, _ | ⟨r, rs⟩⟩⟩
      · simp [subsS] at hs; exact .inl ⟨rfl, hs⟩
      · rw [subsS_one] at hs
        obtain ⟨a, ha, rfl⟩ := List.mem_map.1 hs
        exact .inr (.inl ⟨p, a, rfl, rfl, ha⟩)
      · rw [subsS_two] at hs
        obtain ⟨a, ha, hb⟩ := List.mem_flatMap.1 hs
        obtain ⟨b, hb2, rfl⟩ := List.mem_map.1 hb
        exact .inr (.inr ⟨p, q, a, b, rfl, rfl, ha, hb2⟩)
      · simp at h2
  · rintro ⟨sub, rfl, ⟨rfl, rfl⟩ | ⟨p, a, rfl, rfl, ha⟩ | ⟨p, q, a, b, rfl, rfl, ha, hb⟩⟩
    · rw [if_neg (by simp [prodS])]
      simp [subsS]
    · have := hpos ha
      rw [prodS_one, if_neg (by omega), subsS_one]
      exact List.mem_map.2 ⟨[a], List.mem_map.2 ⟨a, ha, rfl⟩, rfl⟩
    · have hp := Nat.mul_pos (hpos ha) (hpos hb)
      rw [prodS_two, if_neg (by omega), subsS_two]
      exact List.mem_map.2 ⟨[a, b], List.mem_flatMap.2 ⟨a, ha, List.mem_map.2 ⟨b, hb, rfl⟩⟩, rfl⟩

/-! ### Soundness -/
def kOf (k : Nat) : Nat := if k = 6 ∨ k = 7 then 4 else k
def bareK (k : Nat) : Bool := k == 6 || k == 7
/-- A right parse of a kind for the tokens of a span. -/
structure Good (g : Gr) (k f t : Nat) (x : Tr) : Prop where
  ok : okS g.l x = true
  kind : kindS x.rule = kOf k
  words : wordsF g.l x (bareK k) = sl g f t
  k6 : k = 6 → x.rule = 12 ∨ x.rule = 13
  k7 : k = 7 → x.rule = 14 ∨ x.rule = 15
  size : sizeT x ≤ (if k = 1 then 2 else 1) * (t - f)
theorem ent_word {g : Gr} (hv : validS g.l = true) {f e : Nat} {b : Bool} {c : Int} (hm : (e, b) ∈ lookS (tokAt g f) g.l) (hc : catAt g.l e = c) (hb : b = true → c = 4 ∨ c = 5) : (if b then thirdV (ownW g.l (e : Int)) else ownW g.l (e : Int)) = tokAt g f ∧ e < g.l.length := by
  have h : e < g.l.length := (look_mem.1 hm).1
  cases b with
  | false => exact ⟨by simpa using (ent_false h).1 hm, h⟩
  | true => exact ⟨by simpa using (ent_true hv h (by rw [hc]; exact hb rfl)).1 hm, h⟩
theorem entryOk_at {l : List Ent} {e : Nat} {c : Int} (hc : catAt l e = c) (h0 : c ≠ 0) : entryOk l c (e : Int) = true := by
  have h := catAt_lt hc h0
  unfold entryOk
  rw [if_neg h0]
  simp [hc, h]
theorem wA_ne : wordOk [wEvery, wEach, wSome, wNo, wA] wA = true := by decide
theorem good_node {g : Gr} {k f t : Nat} {r e : Int} {w : List UInt8} {sub : List Tr} (hk : kindS r = kOf k) (hk0 : kindS r ≠ 0) (he : entryOk g.l (shapeS r).cat e = true) (hw : wordOk (shapeS r).words w = true)
    (hlen : sub.length = (shapeS r).parts.length) (hsub : okSubs g.l sub (shapeS r).parts = true) (h16 : r = 16 → 12 ≤ firstRule sub ∧ firstRule sub ≤ 15)
    (hwd : wordsF g.l (.node r e w sub) (bareK k) = sl g f t) (h6 : k = 6 → r = 12 ∨ r = 13) (h7 : k = 7 → r = 14 ∨ r = 15) (hs : sizeT (.node r e w sub) ≤ (if k = 1 then 2 else 1) * (t - f)) : Good g k f t (.node r e w sub) := by
  refine ⟨?_, hk, hwd, h6, h7, hs⟩
  unfold okS
  rw [he, hw, hsub, hlen]
  simp only [beq_self_eq_true, Bool.and_true, Bool.and_eq_true, bne_iff_ne, ne_eq, Bool.or_eq_true, decide_eq_true_eq]
  refine ⟨hk0, ?_⟩
  by_cases h : r = 16
  · exact .inr (h16 h)
  · exact .inl h
theorem mem_leaf {g : Gr} {r e : Nat} {w : List UInt8} {x : Tr} : x ∈ stepTrees g ⟨r, e, w, []⟩ ↔ x = .node r e w [] := by
  rw [step_mem (by simp)]
  constructor
  · rintro ⟨sub, rfl, ⟨_, rfl⟩ | ⟨p, a, h, _⟩ | ⟨p, q, a, b, h, _⟩⟩
    · rfl
    · simp at h
    · simp at h
  · rintro rfl
    exact ⟨[], rfl, .inl ⟨rfl, rfl⟩⟩
theorem mem_one {g : Gr} {r e k a b : Nat} {w : List UInt8} {x : Tr} : x ∈ stepTrees g ⟨r, e, w, [(k, a, b)]⟩ ↔ ∃ y ∈ treesS g k a b, x = .node r e w [y] := by
  rw [step_mem (by simp)]
  constructor
  · rintro ⟨sub, rfl, ⟨h, _⟩ | ⟨p, y, h, rfl, hy⟩ | ⟨p, q, _, _, h, _⟩⟩
    · simp at h
    · simp only [List.cons.injEq, and_true] at h
      subst h
      exact ⟨y, hy, rfl⟩
    · simp at h
  · rintro ⟨y, hy, rfl⟩
    exact ⟨[y], rfl, .inr (.inl ⟨_, y, rfl, rfl, hy⟩)⟩
theorem mem_two {g : Gr} {r e k a b k' c d : Nat} {w : List UInt8} {x : Tr} : x ∈ stepTrees g ⟨r, e, w, [(k, a, b), (k', c, d)]⟩ ↔ ∃ y ∈ treesS g k a b, ∃ z ∈ treesS g k' c d, x = .node r e w [y, z] := by
  rw [step_mem (by simp)]
  constructor
  · rintro ⟨sub, rfl, ⟨h, _⟩ | ⟨p, y, h, rfl, hy⟩ | ⟨p, q, y, z, h, rfl, hy, hz⟩⟩
    · simp at h
    · simp at h
    · simp only [List.cons.injEq, and_true] at h
      obtain ⟨rfl, rfl⟩ := h
      exact ⟨y, hy, z, hz, rfl⟩
  · rintro ⟨y, hy, z, hz, rfl⟩
    exact ⟨[y, z], rfl, .inr (.inr ⟨_, _, y, z, rfl, rfl, hy, hz⟩)⟩
theorem wordsF_0 (l : List Ent) (r e : Int) (w : List UInt8) (b : Bool) : wordsF l (.node r e w []) b = stepW r w (ownW l e) 0 [] [] b := by simp [wordsF, firstRule, firstF, secondF]
theorem wordsF_1 (l : List Ent) (r e : Int) (w : List UInt8) (y : Tr) (b : Bool) : wordsF l (.node r e w [y]) b = stepW r w (ownW l e) y.rule (wordsF l y (r == 16)) [] b := by simp [wordsF, firstRule, firstF, secondF]
theorem wordsF_2 (l : List Ent) (r e : Int) (w : List UInt8) (y z : Tr) (b : Bool) : wordsF l (.node r e w [y, z]) b = stepW r w (ownW l e) y.rule (wordsF l y (r == 16)) (wordsF l z false) b := by simp [wordsF, firstRule, firstF, secondF]
theorem size_0 (r e : Int) (w : List UInt8) : sizeT (.node r e w []) = 1 := by simp [sizeT, sizesT]
theorem size_1 (r e : Int) (w : List UInt8) (y : Tr) : sizeT (.node r e w [y]) = 1 + sizeT y := by simp [sizeT, sizesT]
theorem size_2 (r e : Int) (w : List UInt8) (y z : Tr) : sizeT (.node r e w [y, z]) = 1 + sizeT y + sizeT z := by simp [sizeT, sizesT]; omega
theorem subs_1 {l : List Ent} {y : Tr} {k : Nat} (h1 : kindS y.rule = k) (h2 : okS l y = true) : okSubs l [y] [k] = true := by simp [okSubs, h1, h2]
theorem subs_2 {l : List Ent} {y z : Tr} {k k' : Nat} (h1 : kindS y.rule = k) (h2 : okS l y = true) (h3 : kindS z.rule = k') (h4 : okS l z = true) : okSubs l [y, z] [k, k'] = true := by simp [okSubs, h1, h2, h3, h4]
theorem entry0 (l : List Ent) : entryOk l 0 ((0 : Nat) : Int) = true := by unfold entryOk; simp
theorem word0 : wordOk [] [] = true := by decide

section
variable {g : Gr} {f t : Nat} (ht : t ≤ g.toks.length)
include ht
/-- Two parts with a word between them. -/
theorem good_glue {k r kk : Nat} {w : List UInt8} {y z : Tr} {c : Nat} (hy : Good g kk f c y) (hz : Good g kk (c + 1) t z) (h1 : f ≤ c) (h2 : c < t) (hw : tokAt g c = w)
    (hrk : (k = 1 ∧ kk = 1 ∧ ((r = 2 ∧ w = wIff) ∨ (r = 3 ∧ w = wOr) ∨ (r = 4 ∧ w = wAnd))) ∨ (k = 4 ∧ kk = 4 ∧ ((r = 17 ∧ w = wOr) ∨ (r = 18 ∧ w = wAnd)))) : Good g k f t (.node r (0 : Nat) [] [y, z]) := by
  have hb : bareK kk = false := by rcases hrk with ⟨_, rfl, _⟩ | ⟨_, rfl, _⟩ <;> rfl
  have hyw := hy.words
  have hzw := hz.words
  rw [hb] at hyw hzw
  have hwords : sl g f c ++ w :: sl g (c + 1) t = sl g f t := by
    rw [sl_app g h1 (Nat.le_of_lt h2), sl_cons g h2 ht, hw]
  have hsy := hy.size
  have hsz := hz.size
  rcases hrk with ⟨rfl, rfl, ⟨rfl, rfl⟩ | ⟨rfl, rfl⟩ | ⟨rfl, rfl⟩⟩ | ⟨rfl, rfl, ⟨rfl, rfl⟩ | ⟨rfl, rfl⟩⟩
  all_goals
    refine good_node (by decide) (by decide) (entry0 _) word0 rfl (subs_2 hy.kind hy.ok hz.kind hz.ok) (fun h => absurd h (by decide)) ?_ (fun h => absurd h (by decide)) (fun h => absurd h (by decide)) ?_
    · rw [wordsF_2]
      simp only [Int.reduceBEq, Int.cast_ofNat_Int, hzw]
      rw [hyw]
      exact hwords
    · rw [size_2]
      simp at hsy hsz ⊢
      omega
/-- What holds of the parses of shorter spans. -/
def Shorter (g : Gr) (f t : Nat) : Prop := ∀ (k f' t' : Nat) (y : Tr), t' - f' < t - f → 1 ≤ k → k ≤ 7 → t' ≤ g.toks.length → y ∈ treesS g k f' t' → Good g k f' t' y
theorem sound1 (ih : Shorter g f t) (hlt : f < t) {s : StepS} (hs : s ∈ clauseS g f t) {x : Tr} (hx : x ∈ stepTrees g s) : Good g 1 f t x := by
  unfold clauseS at hs
  simp only [List.mem_append] at hs
  rcases hs with (((hs | hs) | hs) | hs) | hs
  · split at hs
    · rename_i hif
      obtain ⟨c, h1, h2, h3, rfl⟩ := mem_halves.1 hs
      obtain ⟨y, hy, z, hz, rfl⟩ := mem_two.1 hx
      have gy := ih _ _ _ _ (by omega) (by omega) (by omega) (by omega) hy
      have gz := ih _ _ _ _ (by omega) (by omega) (by omega) ht hz
      have hyw := gy.words
      have hzw := gz.words
      have hsy := gy.size
      have hsz := gz.size
      refine good_node (by decide) (by decide) (entry0 _) word0 rfl (subs_2 gy.kind gy.ok gz.kind gz.ok) (fun h => absurd h (by decide)) ?_ (fun h => absurd h (by decide)) (fun h => absurd h (by decide)) ?_
      · rw [wordsF_2, sl_cons g hlt ht, sl_app g h1 (Nat.le_of_lt h2), sl_cons g h2 ht, hif, h3, ← hyw, ← hzw]
        rfl
      · rw [size_2]
        simp at hsy hsz ⊢
        omega
    · cases hs
  · obtain ⟨c, h1, h2, h3, rfl⟩ := mem_halves.1 hs
    obtain ⟨y, hy, z, hz, rfl⟩ := mem_two.1 hx
    exact good_glue ht (ih _ _ _ _ (by omega) (by omega) (by omega) (by omega) hy) (ih _ _ _ _ (by omega) (by omega) (by omega) ht hz) h1 h2 h3 (.inl ⟨rfl, rfl, .inl ⟨rfl, rfl⟩⟩)
  · obtain ⟨c, h1, h2, h3, rfl⟩ := mem_halves.1 hs
    obtain ⟨y, hy, z, hz, rfl⟩ := mem_two.1 hx
    exact good_glue ht (ih _ _ _ _ (by omega) (by omega) (by omega) (by omega) hy) (ih _ _ _ _ (by omega) (by omega) (by omega) ht hz) h1 h2 h3 (.inl ⟨rfl, rfl, .inr (.inl ⟨rfl, rfl⟩)⟩)
  · obtain ⟨c, h1, h2, h3, rfl⟩ := mem_halves.1 hs
    obtain ⟨y, hy, z, hz, rfl⟩ := mem_two.1 hx
    exact good_glue ht (ih _ _ _ _ (by omega) (by omega) (by omega) (by omega) hy) (ih _ _ _ _ (by omega) (by omega) (by omega) ht hz) h1 h2 h3 (.inl ⟨rfl, rfl, .inr (.inr ⟨rfl, rfl⟩)⟩)
  · obtain ⟨c, hc, rfl⟩ := List.mem_map.1 hs
    obtain ⟨j, hj, rfl⟩ := List.mem_map.1 hc
    have hj := List.mem_range.1 hj
    obtain ⟨y, hy, z, hz, rfl⟩ := mem_two.1 hx
    have gy := ih _ _ _ _ (by omega) (by omega) (by omega) (by omega) hy
    have gz := ih _ _ _ _ (by omega) (by omega) (by omega) ht hz
    have hyw := gy.words
    have hzw := gz.words
    have hsy := gy.size
    have hsz := gz.size
    refine good_node (by decide) (by decide) (entry0 _) word0 rfl (subs_2 gy.kind gy.ok gz.kind gz.ok) (fun h => absurd h (by decide)) ?_ (fun h => absurd h (by decide)) (fun h => absurd h (by decide)) ?_
    · rw [wordsF_2, sl_app g (show f ≤ j + (f + 1) by omega) (show j + (f + 1) ≤ t by omega), ← hyw, ← hzw]
      rfl
    · rw [size_2]
      simp at hsy hsz ⊢
      omega
theorem sound2 (hv : validS g.l = true) (ih : Shorter g f t) (hlt : f < t) {s : StepS} (hs : s ∈ nounPS g f t) {x : Tr} (hx : x ∈ stepTrees g s) : Good g 2 f t x := by
  unfold nounPS at hs
  split at hs
  · rename_i h1
    obtain ⟨e, rfl, hm, hc⟩ := mem_ents.1 hs
    obtain rfl := mem_leaf.1 hx
    have hc : catAt g.l e = 3 := hc
    have hw := ent_word hv hm hc (fun h => by cases h)
    refine good_node (by decide) (by decide) (entryOk_at hc (by decide)) word0 rfl rfl (fun h => absurd h (by decide)) ?_ (fun h => absurd h (by decide)) (fun h => absurd h (by decide)) ?_
    · rw [wordsF_0, sl_one g h1 ht, ← hw.1]
      rfl
    · rw [size_0]; simp; omega
  · rename_i h1
    have hlt2 : f + 1 < t := by omega
    have key : ∀ w : List UInt8, wordOk [wEvery, wEach, wSome, wNo, wA] w = true → (if w = wA then articleS (tokAt g (f + 1)) else w) = tokAt g f → x ∈ stepTrees g ⟨7, 0, w, [(3, f + 1, t)]⟩ → Good g 2 f t x := by
      intro w hw htk hx
      obtain ⟨y, hy, rfl⟩ := mem_one.1 hx
      have gy := ih _ _ _ _ (by omega) (by omega) (by omega) ht hy
      have hyw := gy.words
      have hsy := gy.size
      refine good_node (by decide) (by decide) (entry0 _) hw rfl (subs_1 gy.kind gy.ok) (fun h => absurd h (by decide)) ?_ (fun h => absurd h (by decide)) (fun h => absurd h (by decide)) ?_
      · have hyw' : wordsF g.l y false = tokAt g (f + 1) :: sl g (f + 1 + 1) t := by rw [← sl_cons g hlt2 ht]; exact hyw
        rw [wordsF_1, sl_cons g hlt ht, ← htk]
        show (if w = wA then articleS ((wordsF g.l y false).headD []) else w) :: (wordsF g.l y false ++ []) = _
        rw [List.append_nil, hyw', List.headD_cons, ← sl_cons g hlt2 ht]
      · rw [size_1]; simp at hsy ⊢; omega
    have hsec : secondS g f t = tokAt g (f + 1) := by unfold secondS; rw [if_pos hlt2]
    split at hs
    · split at hs
      · rename_i h2 h3
        obtain rfl := List.mem_singleton.1 hs
        exact key wA wA_ne (by rw [if_pos rfl, h3, hsec]) hx
      · cases hs
    · split at hs
      · rename_i h2 h3
        obtain rfl := List.mem_singleton.1 hs
        refine key _ ?_ ?_ hx
        · simp only [List.mem_cons, List.not_mem_nil, or_false] at h3
          rcases h3 with h3 | h3 | h3 | h3 <;> rw [h3] <;> decide
        · rw [if_neg (fun h => h2 (.inl h))]
      · cases hs
theorem sound3 (hv : validS g.l = true) (ih : Shorter g f t) (hlt : f < t) {s : StepS} (hs : s ∈ nounS' g f t) {x : Tr} (hx : x ∈ stepTrees g s) : Good g 3 f t x := by
  unfold nounS' at hs
  split at hs
  · rename_i h1
    obtain ⟨e, rfl, hm, hc⟩ := mem_ents.1 hs
    obtain rfl := mem_leaf.1 hx
    have hc : catAt g.l e = 1 := hc
    have hw := ent_word hv hm hc (fun h => by cases h)
    refine good_node (by decide) (by decide) (entryOk_at hc (by decide)) word0 rfl rfl (fun h => absurd h (by decide)) ?_ (fun h => absurd h (by decide)) (fun h => absurd h (by decide)) ?_
    · rw [wordsF_0, sl_one g h1 ht, ← hw.1]
      rfl
    · rw [size_0]; simp; omega
  · rename_i h1
    have hlt2 : f + 1 < t := by omega
    have hsec : secondS g f t = tokAt g (f + 1) := by unfold secondS; rw [if_pos hlt2]
    simp only [List.mem_append] at hs
    rcases hs with hs | hs
    · obtain ⟨e, rfl, hm, hc⟩ := mem_ents.1 hs
      have hc : catAt g.l e = 2 := hc
      have hw := ent_word hv hm hc (fun h => by cases h)
      obtain ⟨y, hy, rfl⟩ := mem_one.1 hx
      have gy := ih _ _ _ _ (by omega) (by omega) (by omega) ht hy
      have hyw := gy.words
      have hsy := gy.size
      refine good_node (by decide) (by decide) (entryOk_at hc (by decide)) word0 rfl (subs_1 gy.kind gy.ok) (fun h => absurd h (by decide)) ?_ (fun h => absurd h (by decide)) (fun h => absurd h (by decide)) ?_
      · rw [wordsF_1, sl_cons g hlt ht, ← hw.1]
        show _ :: (wordsF g.l y false ++ []) = _
        rw [List.append_nil]
        exact congrArg _ hyw
      · rw [size_1]; simp at hsy ⊢; omega
    · split at hs
      · rename_i h3
        rw [hsec] at hs h3
        have hwd : wordOk [wWho, wThat] (tokAt g (f + 1)) = true := by rcases h3.1 with h | h <;> rw [h] <;> decide
        rw [List.mem_append] at hs
        rcases hs with hs | hs
        · obtain ⟨e, rfl, hm, hc⟩ := mem_ents.1 hs
          have hc : catAt g.l e = 1 := hc
          have hw := ent_word hv hm hc (fun h => by cases h)
          obtain ⟨y, hy, rfl⟩ := mem_one.1 hx
          have gy := ih _ _ _ _ (by omega) (by omega) (by omega) ht hy
          have hyw := gy.words
          have hsy := gy.size
          refine good_node (by decide) (by decide) (entryOk_at hc (by decide)) hwd rfl (subs_1 gy.kind gy.ok) (fun h => absurd h (by decide)) ?_ (fun h => absurd h (by decide)) (fun h => absurd h (by decide)) ?_
          · rw [wordsF_1, sl_cons g hlt ht, sl_cons g hlt2 ht, ← hw.1]
            show _ :: _ :: (wordsF g.l y false ++ []) = _
            rw [List.append_nil]
            exact congrArg _ (congrArg _ hyw)
          · rw [size_1]; simp at hsy ⊢; omega
        · obtain ⟨e, rfl, hm, hc⟩ := mem_ents.1 hs
          have hc : catAt g.l e = 1 := hc
          have hw := ent_word hv hm hc (fun h => by cases h)
          obtain ⟨y, hy, z, hz, rfl⟩ := mem_two.1 hx
          have gy := ih _ _ _ _ (by omega) (by omega) (by omega) (by omega) hy
          have gz := ih _ _ _ _ (by omega) (by omega) (by omega) ht hz
          have hyw := gy.words
          have hzw := gz.words
          have hsy := gy.size
          have hsz := gz.size
          refine good_node (by decide) (by decide) (entryOk_at hc (by decide)) hwd rfl (subs_2 gy.kind gy.ok gz.kind gz.ok) (fun h => absurd h (by decide)) ?_ (fun h => absurd h (by decide)) (fun h => absurd h (by decide)) ?_
          · rw [wordsF_2, sl_cons g hlt ht, sl_cons g hlt2 ht, ← hw.1, sl_app g (show f + 1 + 1 ≤ t - 1 by omega) (show t - 1 ≤ t by omega)]
            show _ :: _ :: (wordsF g.l y false ++ wordsF g.l z false) = _
            rw [show wordsF g.l y false = _ from hyw, show wordsF g.l z false = _ from hzw]
            rfl
          · rw [size_2]; simp at hsy hsz ⊢; omega
      · cases hs
/-- A verb with what it asks for, in its third form or not. -/
theorem sound_verbs (hv : validS g.l = true) (ih : Shorter g f t) (hlt : f < t) {k : Nat} {b : Bool} (hk : k = 4 ∧ b = true ∨ k = 6 ∧ b = false) {s : StepS} (hs : s ∈ verbsS g f t b) {x : Tr} (hx : x ∈ stepTrees g s) : Good g k f t x := by
  unfold verbsS at hs
  rw [if_neg (by omega)] at hs
  split at hs
  · rename_i h1
    obtain ⟨e, rfl, hm, hc⟩ := mem_ents.1 hs
    obtain rfl := mem_leaf.1 hx
    have hc : catAt g.l e = 4 := hc
    have hw := ent_word hv hm hc (fun _ => .inl rfl)
    rcases hk with ⟨rfl, rfl⟩ | ⟨rfl, rfl⟩
    all_goals
      refine good_node (by decide) (by decide) (entryOk_at hc (by decide)) word0 rfl rfl (fun h => absurd h (by decide)) ?_ (fun h => by first | exact absurd h (by decide) | exact .inl rfl) (fun h => absurd h (by decide)) ?_
      · rw [wordsF_0, sl_one g h1 ht, ← hw.1]
        rfl
      · rw [size_0]; simp; omega
  · obtain ⟨e, rfl, hm, hc⟩ := mem_ents.1 hs
    have hc : catAt g.l e = 5 := hc
    have hw := ent_word hv hm hc (fun _ => .inr rfl)
    obtain ⟨y, hy, rfl⟩ := mem_one.1 hx
    have gy := ih _ _ _ _ (by omega) (by omega) (by omega) ht hy
    have hyw := gy.words
    have hsy := gy.size
    rcases hk with ⟨rfl, rfl⟩ | ⟨rfl, rfl⟩
    all_goals
      refine good_node (by decide) (by decide) (entryOk_at hc (by decide)) word0 rfl (subs_1 gy.kind gy.ok) (fun h => absurd h (by decide)) ?_ (fun h => by first | exact absurd h (by decide) | exact .inr rfl) (fun h => absurd h (by decide)) ?_
      · rw [wordsF_1, sl_cons g hlt ht, ← hw.1]
        show _ :: (wordsF g.l y false ++ []) = _
        rw [List.append_nil]
        exact congrArg _ hyw
      · rw [size_1]; simp at hsy ⊢; omega
/-- What stands behind 'is', alone (kind 7, from f on) or with it (kind 4, from o on). -/
theorem sound_states (hv : validS g.l = true) (ih : ∀ (k f' t' : Nat) (y : Tr), t' - f' < t - f → 1 ≤ k → k ≤ 7 → t' ≤ g.toks.length → y ∈ treesS g k f' t' → Good g k f' t' y) {k o : Nat} (hk : k = 7 ∧ o = f ∨ k = 4 ∧ o + 1 = f ∧ tokAt g o = wIs) {s : StepS} (hs : s ∈ statesS g f t) {x : Tr} (hx : x ∈ stepTrees g s) : Good g k o t x := by
  unfold statesS at hs
  split at hs
  · rename_i h1
    obtain ⟨e, rfl, hm, hc⟩ := mem_ents.1 hs
    obtain rfl := mem_leaf.1 hx
    have hc : catAt g.l e = 2 := hc
    have hw := ent_word hv hm hc (fun h => by cases h)
    rcases hk with ⟨rfl, rfl⟩ | ⟨rfl, rfl, hi⟩
    · refine good_node (by decide) (by decide) (entryOk_at hc (by decide)) word0 rfl rfl (fun h => absurd h (by decide)) ?_ (fun h => absurd h (by decide)) (fun _ => .inl rfl) ?_
      · rw [wordsF_0, sl_one g h1 ht, ← hw.1]
        rfl
      · rw [size_0]; simp; omega
    · refine good_node (by decide) (by decide) (entryOk_at hc (by decide)) word0 rfl rfl (fun h => absurd h (by decide)) ?_ (fun h => absurd h (by decide)) (fun h => absurd h (by decide)) ?_
      · rw [wordsF_0, sl_cons g (by omega) ht, hi, sl_one g h1 ht, ← hw.1]
        rfl
      · rw [size_0]; simp; omega
  · split at hs
    · rename_i h1 h2
      obtain rfl := List.mem_singleton.1 hs
      obtain ⟨y, hy, rfl⟩ := mem_one.1 hx
      have gy := ih _ _ _ _ (by omega) (by omega) (by omega) ht hy
      have hyw := gy.words
      have hsy := gy.size
      have hyw' : wordsF g.l y false = tokAt g (f + 1) :: sl g (f + 1 + 1) t := by rw [← sl_cons g h2.1 ht]; exact hyw
      rcases hk with ⟨rfl, rfl⟩ | ⟨rfl, rfl, hi⟩
      · refine good_node (by decide) (by decide) (entry0 _) word0 rfl (subs_1 gy.kind gy.ok) (fun h => absurd h (by decide)) ?_ (fun h => absurd h (by decide)) (fun _ => .inr rfl) ?_
        · rw [wordsF_1, sl_cons g (by omega) ht, h2.2]
          show articleS ((wordsF g.l y false).headD []) :: (wordsF g.l y false ++ []) = _
          rw [List.append_nil, hyw', List.headD_cons, ← sl_cons g h2.1 ht]
        · rw [size_1]; simp at hsy ⊢; omega
      · refine good_node (by decide) (by decide) (entry0 _) word0 rfl (subs_1 gy.kind gy.ok) (fun h => absurd h (by decide)) ?_ (fun h => absurd h (by decide)) (fun h => absurd h (by decide)) ?_
        · rw [wordsF_1, sl_cons g (show o < t by omega) ht, hi, sl_cons g (show o + 1 < t by omega) ht, h2.2]
          show wIs :: articleS ((wordsF g.l y false).headD []) :: (wordsF g.l y false ++ []) = _
          rw [List.append_nil, hyw', List.headD_cons, ← sl_cons g h2.1 ht]
        · rw [size_1]; simp at hsy ⊢; omega
    · cases hs
theorem sound4 (hv : validS g.l = true) (ih : Shorter g f t) (hlt : f < t) {s : StepS} (hs : s ∈ verbPS g f t) {x : Tr} (hx : x ∈ stepTrees g s) : Good g 4 f t x := by
  unfold verbPS at hs
  simp only [List.mem_append] at hs
  rcases hs with ((((hs | hs) | hs) | hs) | hs) | hs
  · exact sound_verbs ht hv ih hlt (.inl ⟨rfl, rfl⟩) hs hx
  · split at hs
    · rename_i hi
      exact sound_states ht hv (fun k f' t' y h => ih k f' t' y (by omega)) (.inr ⟨rfl, rfl, hi⟩) hs hx
    · cases hs
  · split at hs
    · rename_i hd
      have hlt2 : f + 1 < t := by
        by_cases h : f + 1 < t
        · exact h
        · have := hd.2
          unfold secondS at this
          rw [if_neg h] at this
          exact absurd this (by decide)
      have hsec : secondS g f t = tokAt g (f + 1) := by unfold secondS; rw [if_pos hlt2]
      rw [hsec] at hd
      obtain rfl := List.mem_singleton.1 hs
      obtain ⟨y, hy, rfl⟩ := mem_one.1 hx
      have gy := ih _ _ _ _ (by omega) (by omega) (by omega) ht hy
      have hyw := gy.words
      have hsy := gy.size
      have hr := gy.k6 rfl
      refine good_node (by decide) (by decide) (entry0 _) word0 rfl (subs_1 gy.kind gy.ok) (fun _ => ?_) ?_ (fun h => absurd h (by decide)) (fun h => absurd h (by decide)) ?_
      · show 12 ≤ y.rule ∧ y.rule ≤ 15
        omega
      · rw [wordsF_1, sl_cons g hlt ht, sl_cons g hlt2 ht, hd.1, hd.2]
        show (if 13 < y.rule then [wIs, wNot] else [wDoes, wNot]) ++ (wordsF g.l y true ++ []) = _
        rw [if_neg (by omega), List.append_nil]
        exact congrArg (fun z => wDoes :: wNot :: z) hyw
      · rw [size_1]; simp at hsy ⊢; omega
    · cases hs
  · split at hs
    · rename_i hd
      have hlt2 : f + 1 < t := by
        by_cases h : f + 1 < t
        · exact h
        · have := hd.2
          unfold secondS at this
          rw [if_neg h] at this
          exact absurd this (by decide)
      have hsec : secondS g f t = tokAt g (f + 1) := by unfold secondS; rw [if_pos hlt2]
      rw [hsec] at hd
      obtain rfl := List.mem_singleton.1 hs
      obtain ⟨y, hy, rfl⟩ := mem_one.1 hx
      have gy := ih _ _ _ _ (by omega) (by omega) (by omega) ht hy
      have hyw := gy.words
      have hsy := gy.size
      have hr := gy.k7 rfl
      refine good_node (by decide) (by decide) (entry0 _) word0 rfl (subs_1 gy.kind gy.ok) (fun _ => ?_) ?_ (fun h => absurd h (by decide)) (fun h => absurd h (by decide)) ?_
      · show 12 ≤ y.rule ∧ y.rule ≤ 15
        omega
      · rw [wordsF_1, sl_cons g hlt ht, sl_cons g hlt2 ht, hd.1, hd.2]
        show (if 13 < y.rule then [wIs, wNot] else [wDoes, wNot]) ++ (wordsF g.l y true ++ []) = _
        rw [if_pos (by omega), List.append_nil]
        exact congrArg (fun z => wIs :: wNot :: z) hyw
      · rw [size_1]; simp at hsy ⊢; omega
    · cases hs
  · obtain ⟨c, h1, h2, h3, rfl⟩ := mem_halves.1 hs
    obtain ⟨y, hy, z, hz, rfl⟩ := mem_two.1 hx
    exact good_glue ht (ih _ _ _ _ (by omega) (by omega) (by omega) (by omega) hy) (ih _ _ _ _ (by omega) (by omega) (by omega) ht hz) h1 h2 h3 (.inr ⟨rfl, rfl, .inl ⟨rfl, rfl⟩⟩)
  · obtain ⟨c, h1, h2, h3, rfl⟩ := mem_halves.1 hs
    obtain ⟨y, hy, z, hz, rfl⟩ := mem_two.1 hx
    exact good_glue ht (ih _ _ _ _ (by omega) (by omega) (by omega) (by omega) hy) (ih _ _ _ _ (by omega) (by omega) (by omega) ht hz) h1 h2 h3 (.inr ⟨rfl, rfl, .inr ⟨rfl, rfl⟩⟩)
end
/-- **Every parse that is listed is right, and its words are the tokens.** -/
theorem sound {g : Gr} (hv : validS g.l = true) : ∀ (d k f t : Nat) (x : Tr), t - f ≤ d → 1 ≤ k → k ≤ 7 → t ≤ g.toks.length → x ∈ treesS g k f t → Good g k f t x := by
  intro d
  induction d with
  | zero => intro k f t x h _ _ _ hx; rw [treesS_none g (cntS_zero g (by omega))] at hx; cases hx
  | succ d ihd =>
    intro k f t x h h1 h7 ht hx
    by_cases hlt : f < t
    · have ih : Shorter g f t := fun k' f' t' y h k1 k7 ht' hy => ihd k' f' t' y (by omega) k1 k7 ht' hy
      rw [trees_steps g h1 h7 ht] at hx
      obtain ⟨s, hs, hx2⟩ := List.mem_flatMap.1 hx
      unfold stepsS at hs
      rw [if_neg (by omega)] at hs
      rcases (show k = 1 ∨ k = 2 ∨ k = 3 ∨ k = 4 ∨ k = 5 ∨ k = 6 ∨ k = 7 by omega) with rfl | rfl | rfl | rfl | rfl | rfl | rfl
      · exact sound1 ht ih hlt hs hx2
      · exact sound2 ht hv ih hlt hs hx2
      · exact sound3 ht hv ih hlt hs hx2
      · exact sound4 ht hv ih hlt hs hx2
      · simp only [Nat.reduceEqDiff, if_false, if_true] at hs
        split at hs
        · rename_i h1
          obtain ⟨e, rfl, hm, hc⟩ := mem_ents.1 hs
          obtain rfl := mem_leaf.1 hx2
          have hc : catAt g.l e = 5 := hc
          have hw := ent_word hv hm hc (fun _ => .inr rfl)
          refine good_node (by decide) (by decide) (entryOk_at hc (by decide)) word0 rfl rfl (fun h => absurd h (by decide)) ?_ (fun h => absurd h (by decide)) (fun h => absurd h (by decide)) ?_
          · rw [wordsF_0, sl_one g h1 ht, ← hw.1]
            rfl
          · rw [size_0]; simp; omega
        · cases hs
      · exact sound_verbs ht hv ih hlt (.inr ⟨rfl, rfl⟩) hs hx2
      · exact sound_states ht hv (fun k f' t' y h => ih k f' t' y (by omega)) (.inl ⟨rfl, rfl⟩) hs hx2
    · rw [treesS_none g (cntS_zero g (by omega))] at hx; cases hx
end Go.Proofs.YthmnffgjckpkiaaGreatDoor
namespace Go.Proofs.YthmnffgjckpkiaaGreatDoor
open Go Go.RowKit

theorem kind_rules (r : Int) : (kindS r = 1 → 1 ≤ r ∧ r ≤ 5) ∧ (kindS r = 2 → 6 ≤ r ∧ r ≤ 7) ∧ (kindS r = 3 → 8 ≤ r ∧ r ≤ 11) ∧ (kindS r = 4 → 12 ≤ r ∧ r ≤ 18) ∧ (kindS r = 5 → r = 19) ∧ (kindS r ≠ 0 → 1 ≤ r ∧ r ≤ 19) ∧ kindS r ≤ 5 := by
  by_cases hr : 1 ≤ r ∧ r ≤ 19
  · rcases (show r = 1 ∨ r = 2 ∨ r = 3 ∨ r = 4 ∨ r = 5 ∨ r = 6 ∨ r = 7 ∨ r = 8 ∨ r = 9 ∨ r = 10 ∨ r = 11 ∨ r = 12 ∨ r = 13 ∨ r = 14 ∨ r = 15 ∨ r = 16 ∨ r = 17 ∨ r = 18 ∨ r = 19 by omega) with rfl | rfl | rfl | rfl | rfl | rfl | rfl | rfl | rfl | rfl | rfl | rfl | rfl | rfl | rfl | rfl | rfl | rfl | rfl <;> decide
  · have h0 : kindS r = 0 := by
      unfold kindS shapeS
      repeat rw [if_neg (by omega)]
    rw [h0]
    refine ⟨fun h => by omega, fun h => by omega, fun h => by omega, fun h => by omega, fun h => by omega, fun h => absurd rfl h, by omega⟩
theorem okS_parts {l : List Ent} {r e : Int} {w : List UInt8} {sub : List Tr} (h : okS l (.node r e w sub) = true) :
    1 ≤ r ∧ r ≤ 19 ∧ sub.length = (shapeS r).parts.length ∧ entryOk l (shapeS r).cat e = true ∧ wordOk (shapeS r).words w = true ∧ okSubs l sub (shapeS r).parts = true ∧ (r = 16 → 12 ≤ firstRule sub ∧ firstRule sub ≤ 15) := by
  unfold okS at h
  simp only [Bool.and_eq_true, bne_iff_ne, ne_eq, beq_iff_eq, Bool.or_eq_true, decide_eq_true_eq] at h
  obtain ⟨⟨⟨⟨⟨h1, h2⟩, h3⟩, h4⟩, h5⟩, h6⟩ := h
  have h7 := (kind_rules r).2.2.2.2.2.1 h1
  exact ⟨h7.1, h7.2, h2, h3, h4, h5, fun h => h6.resolve_left (fun n => n h)⟩
theorem entry_inv {l : List Ent} {c e : Int} (h : entryOk l c e = true) (h0 : c ≠ 0) : ∃ n : Nat, e = n ∧ n < l.length ∧ catAt l n = c := by
  unfold entryOk at h
  rw [if_neg h0] at h
  simp only [Bool.and_eq_true, decide_eq_true_eq, beq_iff_eq] at h
  exact ⟨e.toNat, by omega, by omega, h.2⟩
theorem entry_none {l : List Ent} {e : Int} (h : entryOk l 0 e = true) : e = ((0 : Nat) : Int) := by
  unfold entryOk at h
  simpa using h
theorem word_none {w : List UInt8} (h : wordOk [] w = true) : w = [] := by
  unfold wordOk at h
  simpa using h
theorem len_0 {sub : List Tr} (h : sub.length = 0) : sub = [] := List.length_eq_zero_iff.1 h
theorem len_1 {sub : List Tr} (h : sub.length = 1) : ∃ y, sub = [y] := List.length_eq_one_iff.1 h
theorem len_2 {sub : List Tr} (h : sub.length = 2) : ∃ y z, sub = [y, z] := by
  rcases sub with _ | ⟨y, _ | ⟨z, _ | ⟨u, us⟩⟩⟩
  · simp at h
  · simp at h
  · exact ⟨y, z, rfl⟩
  · simp at h
theorem inv_1 {l : List Ent} {y : Tr} {k : Nat} (h : okSubs l [y] [k] = true) : kindS y.rule = k ∧ okS l y = true := by simpa [okSubs] using h
theorem inv_2 {l : List Ent} {y z : Tr} {k k' : Nat} (h : okSubs l [y, z] [k, k'] = true) : (kindS y.rule = k ∧ okS l y = true) ∧ kindS z.rule = k' ∧ okS l z = true := by simpa [okSubs] using h
/-- What a right parse looks like. -/
theorem ok_shape {l : List Ent} {r e : Int} {w : List UInt8} {sub : List Tr} (h : okS l (.node r e w sub) = true) :
    (((r = 1 ∨ r = 2 ∨ r = 3 ∨ r = 4) ∧ e = ((0 : Nat) : Int) ∧ w = [] ∧ ∃ y z, sub = [y, z] ∧ (kindS y.rule = 1 ∧ okS l y = true) ∧ kindS z.rule = 1 ∧ okS l z = true) ∨
    (r = 5 ∧ e = ((0 : Nat) : Int) ∧ w = [] ∧ ∃ y z, sub = [y, z] ∧ (kindS y.rule = 2 ∧ okS l y = true) ∧ kindS z.rule = 4 ∧ okS l z = true) ∨
    (∃ n : Nat, e = n ∧ n < l.length ∧ w = [] ∧ sub = [] ∧ ((r = 6 ∧ catAt l n = 3) ∨ (r = 8 ∧ catAt l n = 1) ∨ (r = 12 ∧ catAt l n = 4) ∨ (r = 14 ∧ catAt l n = 2) ∨ (r = 19 ∧ catAt l n = 5))) ∨
    (r = 7 ∧ e = ((0 : Nat) : Int) ∧ wordOk [wEvery, wEach, wSome, wNo, wA] w = true ∧ ∃ y, sub = [y] ∧ kindS y.rule = 3 ∧ okS l y = true) ∨
    (∃ n : Nat, e = n ∧ n < l.length ∧ w = [] ∧ ∃ y, sub = [y] ∧ okS l y = true ∧ ((r = 9 ∧ catAt l n = 2 ∧ kindS y.rule = 3) ∨ (r = 13 ∧ catAt l n = 5 ∧ kindS y.rule = 2)))) ∨
    ((∃ n : Nat, e = n ∧ n < l.length ∧ catAt l n = 1 ∧ wordOk [wWho, wThat] w = true ∧ ((r = 10 ∧ ∃ y, sub = [y] ∧ kindS y.rule = 4 ∧ okS l y = true) ∨ (r = 11 ∧ ∃ y z, sub = [y, z] ∧ (kindS y.rule = 2 ∧ okS l y = true) ∧ kindS z.rule = 5 ∧ okS l z = true))) ∨
    (r = 15 ∧ e = ((0 : Nat) : Int) ∧ w = [] ∧ ∃ y, sub = [y] ∧ kindS y.rule = 3 ∧ okS l y = true) ∨
    (r = 16 ∧ e = ((0 : Nat) : Int) ∧ w = [] ∧ ∃ y, sub = [y] ∧ kindS y.rule = 4 ∧ okS l y = true ∧ 12 ≤ y.rule ∧ y.rule ≤ 15) ∨
    ((r = 17 ∨ r = 18) ∧ e = ((0 : Nat) : Int) ∧ w = [] ∧ ∃ y z, sub = [y, z] ∧ (kindS y.rule = 4 ∧ okS l y = true) ∧ kindS z.rule = 4 ∧ okS l z = true)) := by
  obtain ⟨h1, h19, hl, he, hw, hs, h16⟩ := okS_parts h
  rcases (show r = 1 ∨ r = 2 ∨ r = 3 ∨ r = 4 ∨ r = 5 ∨ r = 6 ∨ r = 7 ∨ r = 8 ∨ r = 9 ∨ r = 10 ∨ r = 11 ∨ r = 12 ∨ r = 13 ∨ r = 14 ∨ r = 15 ∨ r = 16 ∨ r = 17 ∨ r = 18 ∨ r = 19 by omega) with rfl | rfl | rfl | rfl | rfl | rfl | rfl | rfl | rfl | rfl | rfl | rfl | rfl | rfl | rfl | rfl | rfl | rfl | rfl
  · obtain ⟨y, z, rfl⟩ := len_2 hl
    exact .inl (.inl ⟨by omega, entry_none he, word_none hw, y, z, rfl, inv_2 hs⟩)
  · obtain ⟨y, z, rfl⟩ := len_2 hl
    exact .inl (.inl ⟨by omega, entry_none he, word_none hw, y, z, rfl, inv_2 hs⟩)
  · obtain ⟨y, z, rfl⟩ := len_2 hl
    exact .inl (.inl ⟨by omega, entry_none he, word_none hw, y, z, rfl, inv_2 hs⟩)
  · obtain ⟨y, z, rfl⟩ := len_2 hl
    exact .inl (.inl ⟨by omega, entry_none he, word_none hw, y, z, rfl, inv_2 hs⟩)
  · obtain ⟨y, z, rfl⟩ := len_2 hl
    exact .inl (.inr (.inl ⟨rfl, entry_none he, word_none hw, y, z, rfl, inv_2 hs⟩))
  · obtain rfl := len_0 hl
    obtain ⟨n, rfl, hn, hc⟩ := entry_inv he (by decide)
    exact .inl (.inr (.inr (.inl ⟨n, rfl, hn, word_none hw, rfl, .inl ⟨rfl, hc⟩⟩)))
  · obtain ⟨y, rfl⟩ := len_1 hl
    exact .inl (.inr (.inr (.inr (.inl ⟨rfl, entry_none he, hw, y, rfl, inv_1 hs⟩))))
  · obtain rfl := len_0 hl
    obtain ⟨n, rfl, hn, hc⟩ := entry_inv he (by decide)
    exact .inl (.inr (.inr (.inl ⟨n, rfl, hn, word_none hw, rfl, .inr (.inl ⟨rfl, hc⟩)⟩)))
  · obtain ⟨y, rfl⟩ := len_1 hl
    obtain ⟨n, rfl, hn, hc⟩ := entry_inv he (by decide)
    exact .inl (.inr (.inr (.inr (.inr ⟨n, rfl, hn, word_none hw, y, rfl, (inv_1 hs).2, .inl ⟨rfl, hc, (inv_1 hs).1⟩⟩))))
  · obtain ⟨y, rfl⟩ := len_1 hl
    obtain ⟨n, rfl, hn, hc⟩ := entry_inv he (by decide)
    exact .inr (.inl ⟨n, rfl, hn, hc, hw, .inl ⟨rfl, y, rfl, inv_1 hs⟩⟩)
  · obtain ⟨y, z, rfl⟩ := len_2 hl
    obtain ⟨n, rfl, hn, hc⟩ := entry_inv he (by decide)
    exact .inr (.inl ⟨n, rfl, hn, hc, hw, .inr ⟨rfl, y, z, rfl, inv_2 hs⟩⟩)
  · obtain rfl := len_0 hl
    obtain ⟨n, rfl, hn, hc⟩ := entry_inv he (by decide)
    exact .inl (.inr (.inr (.inl ⟨n, rfl, hn, word_none hw, rfl, .inr (.inr (.inl ⟨rfl, hc⟩))⟩)))
  · obtain ⟨y, rfl⟩ := len_1 hl
    obtain ⟨n, rfl, hn, hc⟩ := entry_inv he (by decide)
    exact .inl (.inr (.inr (.inr (.inr ⟨n, rfl, hn, word_none hw, y, rfl, (inv_1 hs).2, .inr ⟨rfl, hc, (inv_1 hs).1⟩⟩))))
  · obtain rfl := len_0 hl
    obtain ⟨n, rfl, hn, hc⟩ := entry_inv he (by decide)
    exact .inl (.inr (.inr (.inl ⟨n, rfl, hn, word_none hw, rfl, .inr (.inr (.inr (.inl ⟨rfl, hc⟩)))⟩)))
  · obtain ⟨y, rfl⟩ := len_1 hl
    exact .inr (.inr (.inl ⟨rfl, entry_none he, word_none hw, y, rfl, inv_1 hs⟩))
  · obtain ⟨y, rfl⟩ := len_1 hl
    exact .inr (.inr (.inr (.inl ⟨rfl, entry_none he, word_none hw, y, rfl, (inv_1 hs).1, (inv_1 hs).2, h16 rfl⟩)))
  · obtain ⟨y, z, rfl⟩ := len_2 hl
    exact .inr (.inr (.inr (.inr ⟨by omega, entry_none he, word_none hw, y, z, rfl, inv_2 hs⟩)))
  · obtain ⟨y, z, rfl⟩ := len_2 hl
    exact .inr (.inr (.inr (.inr ⟨by omega, entry_none he, word_none hw, y, z, rfl, inv_2 hs⟩)))
  · obtain rfl := len_0 hl
    obtain ⟨n, rfl, hn, hc⟩ := entry_inv he (by decide)
    exact .inl (.inr (.inr (.inl ⟨n, rfl, hn, word_none hw, rfl, .inr (.inr (.inr (.inr ⟨rfl, hc⟩)))⟩)))

/-- A right parse has a word. -/
theorem words_pos {l : List Ent} : ∀ (x : Tr), okS l x = true → ∀ b, wordsF l x b ≠ [] := by
  intro x
  induction x using Tr.ind with
  | h r e w sub ih =>
    intro h b
    rcases ok_shape h with (⟨hr, _, _, y, z, rfl, hy, hz⟩ | ⟨rfl, _, _, y, z, rfl, hy, hz⟩ | ⟨n, _, _, _, rfl, hr⟩ | ⟨rfl, _, _, y, rfl, hy⟩ | ⟨n, _, _, _, y, rfl, hy, hr⟩) | (⟨n, _, _, _, _, ⟨rfl, y, rfl, hy⟩ | ⟨rfl, y, z, rfl, hy, hz⟩⟩ | ⟨rfl, _, _, y, rfl, hy⟩ | ⟨rfl, _, _, y, rfl, hy⟩ | ⟨hr, _, _, y, z, rfl, hy, hz⟩)
    · rw [wordsF_2]
      rcases hr with rfl | rfl | rfl | rfl <;> simp [stepW]
    · rw [wordsF_2]
      have := ih y (by simp) hy.2 false
      simp [stepW, this]
    · rw [wordsF_0]
      rcases hr with ⟨rfl, _⟩ | ⟨rfl, _⟩ | ⟨rfl, _⟩ | ⟨rfl, _⟩ | ⟨rfl, _⟩ <;> simp [stepW]
    · rw [wordsF_1]; simp [stepW]
    · rw [wordsF_1]
      rcases hr with ⟨rfl, _⟩ | ⟨rfl, _⟩ <;> simp [stepW]
    · rw [wordsF_1]; simp [stepW]
    · rw [wordsF_2]; simp [stepW]
    · rw [wordsF_1]; simp [stepW]
    · rw [wordsF_1]
      simp [stepW]
      split <;> simp
    · rw [wordsF_2]
      rcases hr with rfl | rfl <;> simp [stepW]

theorem cut_at {g : Gr} {f t : Nat} {a b : List (List UInt8)} (hft : f ≤ t) (ht : t ≤ g.toks.length) (h : a ++ b = sl g f t) : ∃ c, f ≤ c ∧ c ≤ t ∧ a = sl g f c ∧ b = sl g c t := by
  have hl := congrArg List.length h
  rw [List.length_append, sl_len g ht] at hl
  refine ⟨f + a.length, by omega, by omega, ?_⟩
  rw [sl_app g (show f ≤ f + a.length by omega) (show f + a.length ≤ t by omega)] at h
  have := List.append_inj h (by rw [sl_len g (by omega)]; omega)
  exact this
theorem cut_cons {g : Gr} {f t : Nat} {w : List UInt8} {b : List (List UInt8)} (ht : t ≤ g.toks.length) (h : w :: b = sl g f t) : f < t ∧ tokAt g f = w ∧ b = sl g (f + 1) t := by
  have hlt : f < t := by
    by_cases h1 : f < t
    · exact h1
    · have hl := congrArg List.length h
      rw [sl_len g ht] at hl
      simp at hl
      omega
  rw [sl_cons g hlt ht] at h
  simp only [List.cons.injEq] at h
  exact ⟨hlt, h.1.symm, h.2⟩
theorem cut_nil {g : Gr} {f t : Nat} (ht : t ≤ g.toks.length) (h : [] = sl g f t) : t ≤ f := by
  have hl := congrArg List.length h
  rw [sl_len g ht] at hl
  simp at hl
  omega
theorem cut_pos {g : Gr} {f t : Nat} {a : List (List UInt8)} (h0 : a ≠ []) (h : a = sl g f t) : f < t := by
  by_cases h1 : f < t
  · exact h1
  · exfalso; apply h0; rw [h]; unfold sl; rw [show t - f = 0 by omega]; rfl
theorem in_trees {g : Gr} {k f t : Nat} (h1 : 1 ≤ k) (h7 : k ≤ 7) (ht : t ≤ g.toks.length) {s : StepS} (hs : s ∈ stepsS g k f t) {x : Tr} (hx : x ∈ stepTrees g s) : x ∈ treesS g k f t := by
  rw [trees_steps g h1 h7 ht]
  exact List.mem_flatMap.2 ⟨s, hs, hx⟩
theorem steps_at {g : Gr} {f t : Nat} (h : f < t) : stepsS g 1 f t = clauseS g f t ∧ stepsS g 2 f t = nounPS g f t ∧ stepsS g 3 f t = nounS' g f t ∧ stepsS g 4 f t = verbPS g f t ∧ (t = f + 1 → stepsS g 5 f t = entsS g (tokAt g f) true ⟨19, 0, [], []⟩) ∧ stepsS g 6 f t = verbsS g f t false ∧ stepsS g 7 f t = statesS g f t := by
  have e : ∀ k, stepsS g k f t = if k = 1 then clauseS g f t else if k = 2 then nounPS g f t else if k = 3 then nounS' g f t else if k = 4 then verbPS g f t
    else if k = 5 then (if t = f + 1 then entsS g (tokAt g f) true ⟨19, 0, [], []⟩ else []) else if k = 6 then verbsS g f t false else if k = 7 then statesS g f t else [] := by
    intro k
    unfold stepsS
    rw [if_neg (by omega)]
  refine ⟨e 1, e 2, e 3, e 4, fun h1 => ?_, e 6, e 7⟩
  rw [e 5]
  simp [h1]
theorem word_five {w : List UInt8} (h : wordOk [wEvery, wEach, wSome, wNo, wA] w = true) : w = wEvery ∨ w = wEach ∨ w = wSome ∨ w = wNo ∨ w = wA := by
  unfold wordOk at h
  rw [if_neg (by simp)] at h
  simpa using h
theorem word_two {w : List UInt8} (h : wordOk [wWho, wThat] w = true) : w = wWho ∨ w = wThat := by
  unfold wordOk at h
  rw [if_neg (by simp)] at h
  simpa using h
theorem article_or (l : List UInt8) : articleS l = wA ∨ articleS l = [97, 110] := by
  unfold articleS
  split
  · exact .inr rfl
  · exact .inl rfl

/-- What is asked of a parse to be found at a span. -/
def Fits (g : Gr) (k f t : Nat) (x : Tr) : Prop := okS g.l x = true ∧ kindS x.rule = kOf k ∧ wordsF g.l x (bareK k) = sl g f t ∧ (k = 6 → x.rule = 12 ∨ x.rule = 13) ∧ (k = 7 → x.rule = 14 ∨ x.rule = 15)
def FoundT (g : Gr) (x : Tr) : Prop := ∀ k f t, 1 ≤ k → k ≤ 7 → t ≤ g.toks.length → Fits g k f t x → x ∈ treesS g k f t
theorem FoundT.at {g : Gr} {x : Tr} (h : FoundT g x) {k f t : Nat} (hk1 : 1 ≤ k) (hk : k ≤ 5) (ht : t ≤ g.toks.length) (hok : okS g.l x = true) (hkd : kindS x.rule = k) (hw : wordsF g.l x false = sl g f t) : x ∈ treesS g k f t := by
  refine h k f t hk1 (by omega) ht ⟨hok, ?_, ?_, fun h => by omega, fun h => by omega⟩
  · unfold kOf; rw [if_neg (by omega)]; exact hkd
  · have : bareK k = false := by unfold bareK; simp; omega
    rw [this]; exact hw
theorem ent_in {g : Gr} (hv : validS g.l = true) {f n : Nat} {b : Bool} {r : Nat} {w : List UInt8} {ps : List (Nat × Nat × Nat)} (hc : catAt g.l n = catR r) (h0 : n < g.l.length) (hb : b = true → catR r = 4 ∨ catR r = 5) (hw : (if b then thirdV (ownW g.l (n : Int)) else ownW g.l (n : Int)) = tokAt g f) : (⟨r, n, w, ps⟩ : StepS) ∈ entsS g (tokAt g f) b ⟨r, 0, w, ps⟩ := by
  refine mem_ents.2 ⟨n, rfl, ?_, hc⟩
  cases b with
  | false => exact (ent_false h0).2 (by simpa using hw)
  | true => exact (ent_true hv h0 (by rw [hc]; exact hb rfl)).2 (by simpa using hw)

section
variable {g : Gr} {f t : Nat} (ht : t ≤ g.toks.length)
include ht
theorem halves_in {k r : Nat} {w : List UInt8} {y z : Tr} (hk : 1 ≤ k) (hk5 : k ≤ 5) (hft : f ≤ t) (hy : FoundT g y) (hz : FoundT g z) (h1 : kindS y.rule = k ∧ okS g.l y = true) (h2 : kindS z.rule = k ∧ okS g.l z = true)
    (hw : wordsF g.l y false ++ w :: wordsF g.l z false = sl g f t) : ∃ s ∈ halvesS g f t r w k, Tr.node r (0 : Nat) [] [y, z] ∈ stepTrees g s := by
  obtain ⟨c, hfc, hct, hyw, hzw⟩ := cut_at hft ht hw
  obtain ⟨hlt, htk, hzw⟩ := cut_cons ht hzw
  exact ⟨_, mem_halves.2 ⟨c, hfc, hlt, htk, rfl⟩, mem_two.2 ⟨y, hy.at hk hk5 (by omega) h1.2 h1.1 hyw, z, hz.at hk hk5 ht h2.2 h2.1 hzw, rfl⟩⟩
/-- A noun behind an article. -/
theorem art_head {y : Tr} (hok : okS g.l y = true) (hw : wordsF g.l y false = sl g (f + 1) t) : f + 1 < t ∧ (wordsF g.l y false).headD [] = tokAt g (f + 1) := by
  have h1 := cut_pos (words_pos y hok false) hw
  refine ⟨h1, ?_⟩
  rw [hw, sl_cons g h1 ht]
  rfl
end
set_option maxHeartbeats 1000000 in
/-- **Every right parse of the tokens is listed.** -/
theorem complete {g : Gr} (hv : validS g.l = true) : ∀ x : Tr, FoundT g x := by
  intro x
  induction x using Tr.ind with
  | h r e w sub ih =>
    intro k f t hk1 hk7 ht hx
    obtain ⟨hok, hkd, hw, h6, h7⟩ := hx
    have hlt : f < t := cut_pos (words_pos _ hok _) hw
    have hst := steps_at (g := g) hlt
    have hkk : kindS r = kOf k := hkd
    have h6 : k = 6 → r = 12 ∨ r = 13 := h6
    have h7 : k = 7 → r = 14 ∨ r = 15 := h7
    rcases ok_shape hok with (⟨hr, rfl, rfl, y, z, rfl, hy, hz⟩ | ⟨rfl, rfl, rfl, y, z, rfl, hy, hz⟩ | ⟨n, rfl, hn, rfl, rfl, hr⟩ | ⟨rfl, rfl, hwd, y, rfl, hy⟩ | ⟨n, rfl, hn, rfl, y, rfl, hy, hr⟩) | (⟨n, rfl, hn, hc, hwd, ⟨rfl, y, rfl, hy⟩ | ⟨rfl, y, z, rfl, hy, hz⟩⟩ | ⟨rfl, rfl, rfl, y, rfl, hy⟩ | ⟨rfl, rfl, rfl, y, rfl, hy⟩ | ⟨hr, rfl, rfl, y, z, rfl, hy, hz⟩)
    · have iy := ih y (by simp)
      have iz := ih z (by simp)
      have hk : k = 1 := by
        have : kindS r = 1 := by rcases hr with rfl | rfl | rfl | rfl <;> decide
        rw [this] at hkk
        unfold kOf at hkk
        split at hkk <;> omega
      subst hk
      rw [wordsF_2] at hw
      rcases hr with rfl | rfl | rfl | rfl
      · have hw : wIf :: (wordsF g.l y false ++ wThen :: wordsF g.l z false) = sl g f t := hw
        obtain ⟨_, htk, hw⟩ := cut_cons ht hw
        obtain ⟨s, hs, hx⟩ := halves_in (r := 1) ht (by omega) (by omega) (by omega) iy iz hy hz hw
        refine in_trees hk1 hk7 ht (s := s) ?_ hx
        rw [hst.1]
        unfold clauseS
        rw [if_pos htk]
        simp only [List.mem_append]
        exact .inl (.inl (.inl (.inl hs)))
      · obtain ⟨s, hs, hx⟩ := halves_in (r := 2) (w := wIff) ht (by omega) (by omega) (by omega) iy iz hy hz hw
        refine in_trees hk1 hk7 ht (s := s) ?_ hx
        rw [hst.1]
        unfold clauseS
        simp only [List.mem_append]
        exact .inl (.inl (.inl (.inr hs)))
      · obtain ⟨s, hs, hx⟩ := halves_in (r := 3) (w := wOr) ht (by omega) (by omega) (by omega) iy iz hy hz hw
        refine in_trees hk1 hk7 ht (s := s) ?_ hx
        rw [hst.1]
        unfold clauseS
        simp only [List.mem_append]
        exact .inl (.inl (.inr hs))
      · obtain ⟨s, hs, hx⟩ := halves_in (r := 4) (w := wAnd) ht (by omega) (by omega) (by omega) iy iz hy hz hw
        refine in_trees hk1 hk7 ht (s := s) ?_ hx
        rw [hst.1]
        unfold clauseS
        simp only [List.mem_append]
        exact .inl (.inr hs)
    · have iy := ih y (by simp)
      have iz := ih z (by simp)
      have hk : k = 1 := by
        rw [show kindS 5 = 1 by decide] at hkk
        unfold kOf at hkk
        split at hkk <;> omega
      subst hk
      rw [wordsF_2] at hw
      have hw : wordsF g.l y false ++ wordsF g.l z false = sl g f t := hw
      obtain ⟨c, hfc, hct, hyw, hzw⟩ := cut_at (by omega) ht hw
      have h1 := cut_pos (words_pos y hy.2 false) hyw
      have h2 := cut_pos (words_pos z hz.2 false) hzw
      refine in_trees hk1 hk7 ht (s := ⟨5, 0, [], [(2, f, c), (4, c, t)]⟩) ?_ (mem_two.2 ⟨y, iy.at (by omega) (by omega) (by omega) hy.2 hy.1 hyw, z, iz.at (by omega) (by omega) ht hz.2 hz.1 hzw, rfl⟩)
      rw [hst.1]
      unfold clauseS
      simp only [List.mem_append]
      exact .inr (List.mem_map.2 ⟨c, List.mem_map.2 ⟨c - (f + 1), List.mem_range.2 (by omega), by omega⟩, rfl⟩)
    · rw [wordsF_0] at hw
      rcases hr with ⟨rfl, hc⟩ | ⟨rfl, hc⟩ | ⟨rfl, hc⟩ | ⟨rfl, hc⟩ | ⟨rfl, hc⟩
      · have hk : k = 2 := by
          rw [show kindS 6 = 2 by decide] at hkk
          unfold kOf at hkk
          split at hkk <;> omega
        subst hk
        have hw : ownW g.l (n : Int) :: [] = sl g f t := hw
        obtain ⟨_, htk, hw⟩ := cut_cons ht hw
        have h1 := cut_nil ht hw
        refine in_trees hk1 hk7 ht (s := ⟨6, n, [], []⟩) ?_ (mem_leaf.2 rfl)
        rw [hst.2.1]
        unfold nounPS
        rw [if_pos (by omega)]
        exact ent_in hv hc hn (fun h => by cases h) htk.symm
      · have hk : k = 3 := by
          rw [show kindS 8 = 3 by decide] at hkk
          unfold kOf at hkk
          split at hkk <;> omega
        subst hk
        have hw : ownW g.l (n : Int) :: [] = sl g f t := hw
        obtain ⟨_, htk, hw⟩ := cut_cons ht hw
        have h1 := cut_nil ht hw
        refine in_trees hk1 hk7 ht (s := ⟨8, n, [], []⟩) ?_ (mem_leaf.2 rfl)
        rw [hst.2.2.1]
        unfold nounS'
        rw [if_pos (by omega)]
        exact ent_in hv hc hn (fun h => by cases h) htk.symm
      · have hk : k = 4 ∨ k = 6 := by
          rw [show kindS 12 = 4 by decide] at hkk
          unfold kOf at hkk
          split at hkk <;> omega
        rcases hk with rfl | rfl
        · have hw : thirdV (ownW g.l (n : Int)) :: [] = sl g f t := hw
          obtain ⟨_, htk, hw⟩ := cut_cons ht hw
          have h1 := cut_nil ht hw
          refine in_trees hk1 hk7 ht (s := ⟨12, n, [], []⟩) ?_ (mem_leaf.2 rfl)
          rw [hst.2.2.2.1]
          unfold verbPS
          simp only [List.mem_append]
          refine .inl (.inl (.inl (.inl (.inl ?_))))
          unfold verbsS
          rw [if_neg (by omega), if_pos (by omega)]
          exact ent_in hv hc hn (fun _ => .inl rfl) htk.symm
        · have hw : ownW g.l (n : Int) :: [] = sl g f t := hw
          obtain ⟨_, htk, hw⟩ := cut_cons ht hw
          have h1 := cut_nil ht hw
          refine in_trees hk1 hk7 ht (s := ⟨12, n, [], []⟩) ?_ (mem_leaf.2 rfl)
          rw [hst.2.2.2.2.2.1]
          unfold verbsS
          rw [if_neg (by omega), if_pos (by omega)]
          exact ent_in hv hc hn (fun h => by cases h) htk.symm
      · have hk : k = 4 ∨ k = 7 := by
          rw [show kindS 14 = 4 by decide] at hkk
          unfold kOf at hkk
          split at hkk <;> omega
        rcases hk with rfl | rfl
        · have hw : wIs :: ownW g.l (n : Int) :: [] = sl g f t := hw
          obtain ⟨_, hti, hw⟩ := cut_cons ht hw
          obtain ⟨h2, htk, hw⟩ := cut_cons ht hw
          have h1 := cut_nil ht hw
          refine in_trees hk1 hk7 ht (s := ⟨14, n, [], []⟩) ?_ (mem_leaf.2 rfl)
          rw [hst.2.2.2.1]
          unfold verbPS
          simp only [List.mem_append]
          refine .inl (.inl (.inl (.inl (.inr ?_))))
          rw [if_pos hti]
          unfold statesS
          rw [if_pos (by omega)]
          exact ent_in hv hc hn (fun h => by cases h) htk.symm
        · have hw : ownW g.l (n : Int) :: [] = sl g f t := hw
          obtain ⟨_, htk, hw⟩ := cut_cons ht hw
          have h1 := cut_nil ht hw
          refine in_trees hk1 hk7 ht (s := ⟨14, n, [], []⟩) ?_ (mem_leaf.2 rfl)
          rw [hst.2.2.2.2.2.2]
          unfold statesS
          rw [if_pos (by omega)]
          exact ent_in hv hc hn (fun h => by cases h) htk.symm
      · have hk : k = 5 := by
          rw [show kindS 19 = 5 by decide] at hkk
          unfold kOf at hkk
          split at hkk <;> omega
        subst hk
        have hw : thirdV (ownW g.l (n : Int)) :: [] = sl g f t := hw
        obtain ⟨_, htk, hw⟩ := cut_cons ht hw
        have h1 := cut_nil ht hw
        refine in_trees hk1 hk7 ht (s := ⟨19, n, [], []⟩) ?_ (mem_leaf.2 rfl)
        rw [hst.2.2.2.2.1 (by omega)]
        exact ent_in hv hc hn (fun _ => .inr rfl) htk.symm
    · have iy := ih y (by simp)
      have hk : k = 2 := by
        rw [show kindS 7 = 2 by decide] at hkk
        unfold kOf at hkk
        split at hkk <;> omega
      subst hk
      rw [wordsF_1] at hw
      have hw : (if w = wA then articleS ((wordsF g.l y false).headD []) else w) :: (wordsF g.l y false ++ []) = sl g f t := hw
      rw [List.append_nil] at hw
      obtain ⟨_, htk, hw⟩ := cut_cons ht hw
      obtain ⟨hlt2, hhd⟩ := art_head ht hy.2 hw
      rw [hhd] at htk
      have hsec : secondS g f t = tokAt g (f + 1) := by unfold secondS; rw [if_pos hlt2]
      refine in_trees hk1 hk7 ht (s := ⟨7, 0, w, [(3, f + 1, t)]⟩) ?_ (mem_one.2 ⟨y, iy.at (by omega) (by omega) ht hy.2 hy.1 hw, rfl⟩)
      rw [hst.2.1]
      unfold nounPS
      rw [if_neg (by omega), hsec]
      by_cases hwa : w = wA
      · subst hwa
        rw [if_pos rfl] at htk
        have : tokAt g f = wA ∨ tokAt g f = [97, 110] := by rw [htk]; exact article_or _
        rw [if_pos this, if_pos htk]
        exact List.mem_singleton.2 rfl
      · rw [if_neg hwa] at htk
        rw [htk]
        have h5 := word_five hwd
        have h4 : w ∈ [wEvery, wEach, wSome, wNo] := by
          simp only [List.mem_cons, List.not_mem_nil, or_false]
          rcases h5 with h | h | h | h | h
          · exact .inl h
          · exact .inr (.inl h)
          · exact .inr (.inr (.inl h))
          · exact .inr (.inr (.inr h))
          · exact absurd h hwa
        have hn : ¬ (w = wA ∨ w = [97, 110]) := by
          rcases h5 with h | h | h | h | h <;> rw [h] <;> first | decide | exact absurd h hwa
        rw [if_neg hn, if_pos h4]
        exact List.mem_singleton.2 rfl
    · have iy := ih y (by simp)
      rw [wordsF_1] at hw
      rcases hr with ⟨rfl, hc, hyk⟩ | ⟨rfl, hc, hyk⟩
      · have hk : k = 3 := by
          rw [show kindS 9 = 3 by decide] at hkk
          unfold kOf at hkk
          split at hkk <;> omega
        subst hk
        have hw : ownW g.l (n : Int) :: (wordsF g.l y false ++ []) = sl g f t := hw
        rw [List.append_nil] at hw
        obtain ⟨_, htk, hw⟩ := cut_cons ht hw
        have hlt2 := cut_pos (words_pos y hy false) hw
        refine in_trees hk1 hk7 ht (s := ⟨9, n, [], [(3, f + 1, t)]⟩) ?_ (mem_one.2 ⟨y, iy.at (by omega) (by omega) ht hy hyk hw, rfl⟩)
        rw [hst.2.2.1]
        unfold nounS'
        rw [if_neg (by omega), List.mem_append]
        exact .inl (ent_in hv hc hn (fun h => by cases h) htk.symm)
      · have hk : k = 4 ∨ k = 6 := by
          rw [show kindS 13 = 4 by decide] at hkk
          unfold kOf at hkk
          split at hkk <;> omega
        rcases hk with rfl | rfl
        · have hw : thirdV (ownW g.l (n : Int)) :: (wordsF g.l y false ++ []) = sl g f t := hw
          rw [List.append_nil] at hw
          obtain ⟨_, htk, hw⟩ := cut_cons ht hw
          have hlt2 := cut_pos (words_pos y hy false) hw
          refine in_trees hk1 hk7 ht (s := ⟨13, n, [], [(2, f + 1, t)]⟩) ?_ (mem_one.2 ⟨y, iy.at (by omega) (by omega) ht hy hyk hw, rfl⟩)
          rw [hst.2.2.2.1]
          unfold verbPS
          simp only [List.mem_append]
          refine .inl (.inl (.inl (.inl (.inl ?_))))
          unfold verbsS
          rw [if_neg (by omega), if_neg (by omega)]
          exact ent_in hv hc hn (fun _ => .inr rfl) htk.symm
        · have hw : ownW g.l (n : Int) :: (wordsF g.l y false ++ []) = sl g f t := hw
          rw [List.append_nil] at hw
          obtain ⟨_, htk, hw⟩ := cut_cons ht hw
          have hlt2 := cut_pos (words_pos y hy false) hw
          refine in_trees hk1 hk7 ht (s := ⟨13, n, [], [(2, f + 1, t)]⟩) ?_ (mem_one.2 ⟨y, iy.at (by omega) (by omega) ht hy hyk hw, rfl⟩)
          rw [hst.2.2.2.2.2.1]
          unfold verbsS
          rw [if_neg (by omega), if_neg (by omega)]
          exact ent_in hv hc hn (fun h => by cases h) htk.symm
    · have iy := ih y (by simp)
      have hk : k = 3 := by
        rw [show kindS 10 = 3 by decide] at hkk
        unfold kOf at hkk
        split at hkk <;> omega
      subst hk
      rw [wordsF_1] at hw
      have hw : ownW g.l (n : Int) :: w :: (wordsF g.l y false ++ []) = sl g f t := hw
      rw [List.append_nil] at hw
      obtain ⟨_, htk, hw⟩ := cut_cons ht hw
      obtain ⟨hlt2, htk2, hw⟩ := cut_cons ht hw
      have hlt3 := cut_pos (words_pos y hy.2 false) hw
      have hsec : secondS g f t = w := by unfold secondS; rw [if_pos hlt2, htk2]
      refine in_trees hk1 hk7 ht (s := ⟨10, n, w, [(4, f + 2, t)]⟩) ?_ (mem_one.2 ⟨y, iy.at (by omega) (by omega) ht hy.2 hy.1 hw, rfl⟩)
      rw [hst.2.2.1]
      unfold nounS'
      rw [if_neg (by omega), List.mem_append, hsec, if_pos ⟨word_two hwd, by omega⟩, List.mem_append]
      exact .inr (.inl (ent_in hv hc hn (fun h => by cases h) htk.symm))
    · have iy := ih y (by simp)
      have iz := ih z (by simp)
      have hk : k = 3 := by
        rw [show kindS 11 = 3 by decide] at hkk
        unfold kOf at hkk
        split at hkk <;> omega
      subst hk
      rw [wordsF_2] at hw
      have hw : ownW g.l (n : Int) :: w :: (wordsF g.l y false ++ wordsF g.l z false) = sl g f t := hw
      obtain ⟨_, htk, hw⟩ := cut_cons ht hw
      obtain ⟨hlt2, htk2, hw⟩ := cut_cons ht hw
      obtain ⟨c, hfc, hct, hyw, hzw⟩ := cut_at (by omega) ht hw
      have hlt3 := cut_pos (words_pos y hy.2 false) hyw
      have hz1 : (wordsF g.l z false).length = 1 := by
        obtain ⟨zr, ze, zw, zs⟩ := z
        obtain rfl : zr = 19 := (kind_rules zr).2.2.2.2.1 hz.1
        have hzs := (okS_parts hz.2).2.2.1
        obtain rfl := len_0 hzs
        rw [wordsF_0]
        simp [stepW]
      have hc1 : c = t - 1 := by
        have := congrArg List.length hzw
        rw [hz1, sl_len g ht] at this
        omega
      have hsec : secondS g f t = w := by unfold secondS; rw [if_pos hlt2, htk2]
      refine in_trees hk1 hk7 ht (s := ⟨11, n, w, [(2, f + 2, t - 1), (5, t - 1, t)]⟩) ?_ (mem_two.2 ⟨y, iy.at (by omega) (by omega) (by omega) hy.2 hy.1 (by rw [← hc1]; exact hyw), z, iz.at (by omega) (by omega) ht hz.2 hz.1 (by rw [← hc1]; exact hzw), rfl⟩)
      rw [hst.2.2.1]
      unfold nounS'
      rw [if_neg (by omega), List.mem_append, hsec, if_pos ⟨word_two hwd, by omega⟩, List.mem_append]
      exact .inr (.inr (ent_in hv hc hn (fun h => by cases h) htk.symm))
    · have iy := ih y (by simp)
      have hk : k = 4 ∨ k = 7 := by
        rw [show kindS 15 = 4 by decide] at hkk
        unfold kOf at hkk
        split at hkk <;> omega
      rw [wordsF_1] at hw
      rcases hk with rfl | rfl
      · have hw : wIs :: articleS ((wordsF g.l y false).headD []) :: (wordsF g.l y false ++ []) = sl g f t := hw
        rw [List.append_nil] at hw
        obtain ⟨_, hti, hw⟩ := cut_cons ht hw
        obtain ⟨_, htk, hw⟩ := cut_cons ht hw
        obtain ⟨hlt2, hhd⟩ := art_head ht hy.2 hw
        rw [hhd] at htk
        refine in_trees hk1 hk7 ht (s := ⟨15, 0, [], [(3, f + 1 + 1, t)]⟩) ?_ (mem_one.2 ⟨y, iy.at (by omega) (by omega) ht hy.2 hy.1 hw, rfl⟩)
        rw [hst.2.2.2.1]
        unfold verbPS
        simp only [List.mem_append]
        refine .inl (.inl (.inl (.inl (.inr ?_))))
        rw [if_pos hti]
        unfold statesS
        rw [if_neg (by omega), if_pos ⟨hlt2, htk⟩]
        exact List.mem_singleton.2 rfl
      · have hw : articleS ((wordsF g.l y false).headD []) :: (wordsF g.l y false ++ []) = sl g f t := hw
        rw [List.append_nil] at hw
        obtain ⟨_, htk, hw⟩ := cut_cons ht hw
        obtain ⟨hlt2, hhd⟩ := art_head ht hy.2 hw
        rw [hhd] at htk
        refine in_trees hk1 hk7 ht (s := ⟨15, 0, [], [(3, f + 1, t)]⟩) ?_ (mem_one.2 ⟨y, iy.at (by omega) (by omega) ht hy.2 hy.1 hw, rfl⟩)
        rw [hst.2.2.2.2.2.2]
        unfold statesS
        rw [if_neg (by omega), if_pos ⟨hlt2, htk⟩]
        exact List.mem_singleton.2 rfl
    · have iy := ih y (by simp)
      obtain ⟨hyk, hyo, h12, h15⟩ := hy
      have hk : k = 4 := by
        rw [show kindS 16 = 4 by decide] at hkk
        unfold kOf at hkk
        split at hkk <;> omega
      subst hk
      rw [wordsF_1] at hw
      have hw : (if 13 < y.rule then [wIs, wNot] else [wDoes, wNot]) ++ (wordsF g.l y true ++ []) = sl g f t := hw
      rw [List.append_nil] at hw
      by_cases h13 : 13 < y.rule
      · rw [if_pos h13] at hw
        obtain ⟨_, hti, hw⟩ := cut_cons ht hw
        obtain ⟨hlt1, htk, hw⟩ := cut_cons ht hw
        have hsec : secondS g f t = wNot := by unfold secondS; rw [if_pos hlt1, htk]
        refine in_trees hk1 hk7 ht (s := ⟨16, 0, [], [(7, f + 2, t)]⟩) ?_ (mem_one.2 ⟨y, iy 7 (f + 2) t (by omega) (by omega) ht ⟨hyo, hyk, hw, fun h => by omega, fun _ => by omega⟩, rfl⟩)
        rw [hst.2.2.2.1]
        unfold verbPS
        simp only [List.mem_append]
        refine .inl (.inl (.inr ?_))
        rw [if_pos ⟨hti, hsec⟩]
        exact List.mem_singleton.2 rfl
      · rw [if_neg h13] at hw
        obtain ⟨_, hti, hw⟩ := cut_cons ht hw
        obtain ⟨hlt1, htk, hw⟩ := cut_cons ht hw
        have hsec : secondS g f t = wNot := by unfold secondS; rw [if_pos hlt1, htk]
        refine in_trees hk1 hk7 ht (s := ⟨16, 0, [], [(6, f + 2, t)]⟩) ?_ (mem_one.2 ⟨y, iy 6 (f + 2) t (by omega) (by omega) ht ⟨hyo, hyk, hw, fun _ => by omega, fun h => by omega⟩, rfl⟩)
        rw [hst.2.2.2.1]
        unfold verbPS
        simp only [List.mem_append]
        refine .inl (.inl (.inl (.inr ?_)))
        rw [if_pos ⟨hti, hsec⟩]
        exact List.mem_singleton.2 rfl
    · have iy := ih y (by simp)
      have iz := ih z (by simp)
      have hk : k = 4 := by
        have : kindS r = 4 := by rcases hr with rfl | rfl <;> decide
        rw [this] at hkk
        unfold kOf at hkk
        have : k ≠ 6 := fun h => by have := h6 h; omega
        have : k ≠ 7 := fun h => by have := h7 h; omega
        split at hkk <;> omega
      subst hk
      rw [wordsF_2] at hw
      rcases hr with rfl | rfl
      · obtain ⟨s, hs, hx⟩ := halves_in (r := 17) (w := wOr) ht (by omega) (by omega) (by omega) iy iz hy hz hw
        refine in_trees hk1 hk7 ht (s := s) ?_ hx
        rw [hst.2.2.2.1]
        unfold verbPS
        simp only [List.mem_append]
        exact .inl (.inr hs)
      · obtain ⟨s, hs, hx⟩ := halves_in (r := 18) (w := wAnd) ht (by omega) (by omega) (by omega) iy iz hy hz hw
        refine in_trees hk1 hk7 ht (s := s) ?_ hx
        rw [hst.2.2.2.1]
        unfold verbPS
        simp only [List.mem_append]
        exact .inr hs
end Go.Proofs.YthmnffgjckpkiaaGreatDoor
namespace Go.Proofs.YthmnffgjckpkiaaGreatDoor
open Go Go.RowKit

/-- How many words a parse has, if it is right. -/
def lenS (l : List Ent) (t : Tr) : Nat := if (yieldS l t).1.getLast? = some wDot then (yieldS l t).1.length - 1 else (yieldS l t).1.length
/-- A parse comes ahead of another one of the same words. -/
inductive Bef (l : List Ent) : Tr → Tr → Prop
  | rule (r r' e e' : Int) (w w' : List UInt8) (s s' : List Tr) : r < r' → Bef l (.node r e w s) (.node r' e' w' s')
  | entry (r e e' : Int) (w w' : List UInt8) (s s' : List Tr) : e < e' → Bef l (.node r e w s) (.node r e' w' s')
  | len (r e : Int) (w : List UInt8) (a b : Tr) (s s' : List Tr) : lenS l a < lenS l b → Bef l (.node r e w (a :: s)) (.node r e w (b :: s'))
  | first (r e : Int) (w : List UInt8) (a b : Tr) (s s' : List Tr) : lenS l a = lenS l b → Bef l a b → Bef l (.node r e w (a :: s)) (.node r e w (b :: s'))
  | second (r e : Int) (w : List UInt8) (c a b : Tr) (s s' : List Tr) : Bef l a b → Bef l (.node r e w (c :: a :: s)) (.node r e w (c :: b :: s'))
theorem Bef.ne {l : List Ent} {a b : Tr} (h : Bef l a b) : a ≠ b := by
  induction h with
  | rule r r' e e' w w' s s' h => intro he; cases he; omega
  | entry r e e' w w' s s' h => intro he; cases he; omega
  | len r e w a b s s' h => intro he; cases he; omega
  | first r e w a b s s' _ _ ih => intro he; cases he; exact ih rfl
  | second r e w c a b s s' _ ih => intro he; cases he; exact ih rfl

/-! ### The words of a parse have no period -/
theorem own_dot {l : List Ent} (hv : validS l = true) {n : Nat} (h : n < l.length) : ownW l (n : Int) ≠ wDot ∧ (catAt l n = 4 ∨ catAt l n = 5 → thirdV (ownW l (n : Int)) ≠ wDot) := by
  have hr := valid_right hv h
  rw [ownW_at h]
  refine ⟨fun he => ?_, fun hc => ?_⟩
  · unfold rightS at hr
    rw [he] at hr
    split at hr
    · rw [show properS wDot = false by decide] at hr; simp at hr
    · split at hr
      · rw [show plainS wDot = false by decide] at hr; simp at hr
      · cases hr
  · rw [catAt_at h] at hc
    have hp := right_verb hr hc
    have hne : l[n].w ≠ [] := by
      intro h0; rw [h0] at hp; revert hp; decide
    have hl := (third_len l[n].w hne).1
    have h0 : 0 < l[n].w.length := List.length_pos_iff.2 hne
    have e : thirdV l[n].w = thirdS l[n].w := by simp [thirdV, hp]
    rw [e]
    intro he
    rw [he] at hl
    simp [wDot] at hl
    exact hne hl
theorem article_dot (w : List UInt8) : articleS w ≠ wDot := by
  rcases article_or w with h | h <;> rw [h] <;> decide
theorem dots : ¬ wDot = wIf ∧ ¬ wDot = wThen ∧ ¬ wDot = wIff ∧ ¬ wDot = wOr ∧ ¬ wDot = wAnd ∧ ¬ wDot = wIs ∧ ¬ wDot = wNot ∧ ¬ wDot = wDoes := by decide
theorem words_dot {l : List Ent} (hv : validS l = true) : ∀ (x : Tr), okS l x = true → ∀ b, wDot ∉ wordsF l x b := by
  intro x
  induction x using Tr.ind with
  | h r e w sub ih =>
    intro h b
    rcases ok_shape h with (⟨hr, _, _, y, z, rfl, hy, hz⟩ | ⟨rfl, _, _, y, z, rfl, hy, hz⟩ | ⟨n, rfl, hn, _, rfl, hr⟩ | ⟨rfl, _, hw, y, rfl, hy⟩ | ⟨n, rfl, hn, _, y, rfl, hy, hr⟩) | (⟨n, rfl, hn, _, hw, ⟨rfl, y, rfl, hy⟩ | ⟨rfl, y, z, rfl, hy, hz⟩⟩ | ⟨rfl, _, _, y, rfl, hy⟩ | ⟨rfl, _, _, y, rfl, hy⟩ | ⟨hr, _, _, y, z, rfl, hy, hz⟩)
    · rw [wordsF_2]
      have a1 := ih y (by simp) hy.2 false
      have a2 := ih z (by simp) hz.2 false
      rcases hr with rfl | rfl | rfl | rfl <;> simp [stepW, a1, a2, dots]
    · rw [wordsF_2]
      have a1 := ih y (by simp) hy.2 false
      have a2 := ih z (by simp) hz.2 false
      simp [stepW, a1, a2]
    · rw [wordsF_0]
      have a0 := own_dot hv hn
      have a1 : ¬ wDot = ownW l (n : Int) := fun he => a0.1 (Eq.symm he)
      have a2 : catAt l n = 4 ∨ catAt l n = 5 → ¬ wDot = thirdV (ownW l (n : Int)) := fun hc he => a0.2 hc (Eq.symm he)
      rcases hr with ⟨rfl, hc⟩ | ⟨rfl, hc⟩ | ⟨rfl, hc⟩ | ⟨rfl, hc⟩ | ⟨rfl, hc⟩
      · simp [stepW, a1]
      · simp [stepW, a1]
      · cases b
        · simp [stepW, a2 (.inl hc)]
        · simp [stepW, a1]
      · cases b
        · simp [stepW, a1, dots]
        · simp [stepW, a1]
      · cases b
        · simp [stepW, a2 (.inr hc)]
        · simp [stepW, a1]
    · rw [wordsF_1]
      have a1 := ih y (by simp) hy.2 false
      have a2 : ∀ z, ¬ wDot = articleS z := fun z he => article_dot z (Eq.symm he)
      have a3 : ¬ wDot = w := by rcases word_five hw with h | h | h | h | h <;> rw [h] <;> decide
      have : stepW 7 w (ownW l e) y.rule (wordsF l y false) [] b = (if w = wA then articleS ((wordsF l y false).headD []) else w) :: (wordsF l y false ++ []) := rfl
      rw [show ((7 : Int) == 16) = false from rfl, this]
      split <;> simp [a1, a2, a3]
    · rw [wordsF_1]
      have a1 := ih y (by simp) hy false
      have a0 := own_dot hv hn
      have a2 : ¬ wDot = ownW l (n : Int) := fun he => a0.1 (Eq.symm he)
      have a3 : catAt l n = 4 ∨ catAt l n = 5 → ¬ wDot = thirdV (ownW l (n : Int)) := fun hc he => a0.2 hc (Eq.symm he)
      rcases hr with ⟨rfl, hc, _⟩ | ⟨rfl, hc, _⟩
      · simp [stepW, a1, a2]
      · cases b
        · simp [stepW, a1, a3 (.inr hc)]
        · simp [stepW, a1, a2]
    · rw [wordsF_1]
      have a1 := ih y (by simp) hy.2 false
      have a2 : ¬ wDot = ownW l (n : Int) := fun he => (own_dot hv hn).1 (Eq.symm he)
      have a3 : ¬ wDot = w := by rcases word_two hw with h | h <;> rw [h] <;> decide
      simp [stepW, a1, a2, a3]
    · rw [wordsF_2]
      have a1 := ih y (by simp) hy.2 false
      have a4 := ih z (by simp) hz.2 false
      have a2 : ¬ wDot = ownW l (n : Int) := fun he => (own_dot hv hn).1 (Eq.symm he)
      have a3 : ¬ wDot = w := by rcases word_two hw with h | h <;> rw [h] <;> decide
      simp [stepW, a1, a2, a3, a4]
    · rw [wordsF_1]
      have a1 := ih y (by simp) hy.2 false
      have a2 : ∀ z, ¬ wDot = articleS z := fun z he => article_dot z (Eq.symm he)
      have a3 : ¬ wDot = wIs := by decide
      have : stepW 15 w (ownW l e) y.rule (wordsF l y false) [] b = (if b then [] else [wIs]) ++ articleS ((wordsF l y false).headD []) :: (wordsF l y false ++ []) := rfl
      rw [show ((15 : Int) == 16) = false from rfl, this]
      cases b <;> simp [a1, a2, a3]
    · rw [wordsF_1]
      have a1 := ih y (by simp) hy.2.1 true
      have : stepW 16 w (ownW l e) y.rule (wordsF l y true) [] b = (if 13 < y.rule then [wIs, wNot] else [wDoes, wNot]) ++ (wordsF l y true ++ []) := rfl
      rw [show ((16 : Int) == 16) = true from rfl, this]
      split <;> simp [a1, dots]
    · rw [wordsF_2]
      have a1 := ih y (by simp) hy.2 false
      have a2 := ih z (by simp) hz.2 false
      rcases hr with rfl | rfl <;> simp [stepW, a1, a2, dots]
theorem lenS_right {l : List Ent} {x : Tr} (hx : okAll l x = true) : lenS l x = (wordsF l x false).length := by
  have h := hx
  unfold okAll at h
  simp only [Bool.and_eq_true] at h
  unfold lenS yieldS
  rw [if_pos hx]
  simp only [yieldW]
  split
  · simp
  · rw [List.append_nil]
    have hn : ¬ (wordsF l x false).getLast? = some wDot := fun hd => words_dot h.1.1 x h.2 false (List.mem_of_getLast? hd)
    rw [if_neg hn]

/-! ### The order -/
theorem bare_len {l : List Ent} {x : Tr} (h : okS l x = true) (hr : 12 ≤ x.rule ∧ x.rule ≤ 15) : (wordsF l x false).length = (wordsF l x true).length + if 13 < x.rule then 1 else 0 := by
  obtain ⟨r, e, w, sub⟩ := x
  have hr0 : 12 ≤ r ∧ r ≤ 15 := hr
  clear hr
  rcases ok_shape h with (⟨hr, _, _, y, z, rfl, hy, hz⟩ | ⟨rfl, _, _, y, z, rfl, hy, hz⟩ | ⟨n, rfl, hn, _, rfl, hr⟩ | ⟨rfl, _, hw, y, rfl, hy⟩ | ⟨n, rfl, hn, _, y, rfl, hy, hr⟩) | (⟨n, rfl, hn, _, hw, ⟨rfl, y, rfl, hy⟩ | ⟨rfl, y, z, rfl, hy, hz⟩⟩ | ⟨rfl, _, _, y, rfl, hy⟩ | ⟨rfl, _, _, y, rfl, hy⟩ | ⟨hr, _, _, y, z, rfl, hy, hz⟩)
  · omega
  · omega
  · rw [wordsF_0, wordsF_0]
    rcases hr with ⟨rfl, hc⟩ | ⟨rfl, hc⟩ | ⟨rfl, hc⟩ | ⟨rfl, hc⟩ | ⟨rfl, hc⟩
    · omega
    · omega
    · simp [stepW, Tr.rule]
    · simp [stepW, Tr.rule]
    · omega
  · omega
  · rw [wordsF_1, wordsF_1]
    rcases hr with ⟨rfl, hc, _⟩ | ⟨rfl, hc, _⟩
    · omega
    · simp [stepW, Tr.rule]
  · omega
  · omega
  · rw [wordsF_1, wordsF_1]
    simp [stepW, Tr.rule]
  · omega
  · omega
/-- The parses of one span have one length. -/
theorem span_len {g : Gr} (hv : validS g.l = true) (h100 : g.toks.length ≤ 100) {k f t : Nat} (h1 : 1 ≤ k) (h7 : k ≤ 7) (ht : t ≤ g.toks.length) {x : Tr} (hx : x ∈ treesS g k f t) : lenS g.l x = t - f + if k = 7 then 1 else 0 := by
  have h := sound hv (t - f) k f t x (Nat.le_refl _) h1 h7 ht hx
  have hsz := h.size
  have hall : okAll g.l x = true := by
    unfold okAll
    rw [hv, h.ok]
    have : sizeT x ≤ 200 := by split at hsz <;> omega
    simp [this]
  rw [lenS_right hall]
  have hw := congrArg List.length h.words
  rw [sl_len g ht] at hw
  by_cases h6 : k = 6
  · subst h6
    have hr := h.k6 rfl
    rw [bare_len h.ok (by omega)]
    rw [if_neg (by omega)]
    exact hw
  · by_cases h7 : k = 7
    · subst h7
      have hr := h.k7 rfl
      rw [bare_len h.ok (by omega)]
      rw [if_pos (by omega)]
      rw [if_pos rfl]
      exact congrArg (· + 1) hw
    · rw [if_neg h7]
      have : bareK k = false := by unfold bareK; simp; omega
      rw [this] at hw
      exact hw

/-- One step of a span comes ahead of another one. -/
def SBef (a b : StepS) : Prop := a.rule < b.rule ∨ (a.rule = b.rule ∧ a.entry < b.entry) ∨ (a.rule = b.rule ∧ a.entry = b.entry ∧ a.word = b.word ∧ ∃ k f c c' p p', k ≤ 5 ∧ 1 ≤ k ∧ f ≤ c ∧ c < c' ∧ a.parts = [(k, f, c), p] ∧ b.parts = [(k, f, c'), p'])
def Between (lo hi : Nat) (l : List StepS) : Prop := ∀ s ∈ l, lo ≤ s.rule ∧ s.rule ≤ hi
theorem pw_app {a b : List StepS} {lo m m' hi : Nat} (ha : a.Pairwise SBef) (hb : b.Pairwise SBef) (ra : Between lo m a) (rb : Between m' hi b) (hm : m < m') (_h1 : lo ≤ m' := by omega) (_h2 : m ≤ hi := by omega) : (a ++ b).Pairwise SBef ∧ Between lo hi (a ++ b) := by
  refine ⟨List.pairwise_append.2 ⟨ha, hb, fun x hx y hy => .inl ?_⟩, fun s hs => ?_⟩
  · have := ra x hx
    have := rb y hy
    omega
  · rcases List.mem_append.1 hs with h | h
    · have := ra s h; omega
    · have := rb s h; omega
theorem look_sorted (tok : List UInt8) (l : List Ent) : (lookS tok l).Pairwise fun a b => a.1 < b.1 := by
  unfold lookS thoseS thoseTo
  rw [List.pairwise_map]
  have : ((List.range l.length).filter fun i => match l[i]? with | some e => formS tok e | none => false).Pairwise (· < ·) := List.Pairwise.filter _ List.pairwise_lt_range
  exact this
theorem ents_pw (g : Gr) (tok : List UInt8) (b : Bool) (r e0 : Nat) (w : List UInt8) (ps : List (Nat × Nat × Nat)) : (entsS g tok b ⟨r, e0, w, ps⟩).Pairwise SBef ∧ Between r r (entsS g tok b ⟨r, e0, w, ps⟩) := by
  refine ⟨?_, fun x hx => ?_⟩
  · unfold entsS
    rw [List.pairwise_map]
    refine List.Pairwise.imp ?_ (List.Pairwise.filter _ (look_sorted tok g.l))
    intro a c h
    exact .inr (.inl ⟨rfl, h⟩)
  · obtain ⟨e, rfl, _⟩ := mem_ents.1 hx
    exact ⟨Nat.le_refl _, Nat.le_refl _⟩
theorem range_lt (n a : Nat) : ((List.range n).map (· + a)).Pairwise (· < ·) := by
  rw [List.pairwise_map]
  refine List.Pairwise.imp ?_ List.pairwise_lt_range
  intro x y h
  omega
theorem halves_pw (g : Gr) (f t r : Nat) (w : List UInt8) (k : Nat) (h1 : 1 ≤ k) (hk : k ≤ 5) : (halvesS g f t r w k).Pairwise SBef ∧ Between r r (halvesS g f t r w k) := by
  refine ⟨?_, fun x hx => ?_⟩
  · unfold halvesS
    rw [List.pairwise_filterMap]
    refine List.Pairwise.imp_of_mem ?_ (range_lt (t - f) f)
    intro x y hx hy hxy a ha b hb
    obtain ⟨j, _, hj⟩ := List.mem_map.1 hx
    split at ha
    · split at hb
      · cases ha; cases hb
        exact .inr (.inr ⟨rfl, rfl, rfl, k, f, x, y, _, _, hk, h1, by omega, hxy, rfl, rfl⟩)
      · cases hb
    · cases ha
  · obtain ⟨c, _, _, _, rfl⟩ := mem_halves.1 hx
    exact ⟨Nat.le_refl _, Nat.le_refl _⟩
theorem none_pw (lo hi : Nat) : ([] : List StepS).Pairwise SBef ∧ Between lo hi [] := ⟨List.Pairwise.nil, fun s h => by cases h⟩
theorem one_pw (s : StepS) : [s].Pairwise SBef ∧ Between s.rule s.rule [s] := ⟨List.pairwise_singleton _ _, fun x h => by obtain rfl := List.mem_singleton.1 h; exact ⟨Nat.le_refl _, Nat.le_refl _⟩⟩
theorem ite_pw {p : Prop} [Decidable p] {lo hi : Nat} {a : List StepS} (h : a.Pairwise SBef ∧ Between lo hi a) : (if p then a else []).Pairwise SBef ∧ Between lo hi (if p then a else []) := by
  split
  · exact h
  · exact none_pw _ _
theorem clause_pw (g : Gr) (f t : Nat) : (clauseS g f t).Pairwise SBef := by
  unfold clauseS
  have h1 := ite_pw (p := tokAt g f = wIf) (halves_pw g (f + 1) t 1 wThen 1 (by omega) (by omega))
  have h2 := halves_pw g f t 2 wIff 1 (by omega) (by omega)
  have h3 := halves_pw g f t 3 wOr 1 (by omega) (by omega)
  have h4 := halves_pw g f t 4 wAnd 1 (by omega) (by omega)
  have h5 : (((List.range (t - (f + 1))).map (· + (f + 1))).map fun k => (⟨5, 0, [], [(2, f, k), (4, k, t)]⟩ : StepS)).Pairwise SBef ∧ Between 5 5 (((List.range (t - (f + 1))).map (· + (f + 1))).map fun k => (⟨5, 0, [], [(2, f, k), (4, k, t)]⟩ : StepS)) := by
    refine ⟨?_, fun x hx => ?_⟩
    · rw [List.pairwise_map]
      refine List.Pairwise.imp_of_mem ?_ (range_lt (t - (f + 1)) (f + 1))
      intro x y hx hy hxy
      obtain ⟨j, _, hj⟩ := List.mem_map.1 hx
      exact .inr (.inr ⟨rfl, rfl, rfl, 2, f, x, y, _, _, by omega, by omega, by omega, hxy, rfl, rfl⟩)
    · obtain ⟨c, _, rfl⟩ := List.mem_map.1 hx
      exact ⟨Nat.le_refl _, Nat.le_refl _⟩
  have a := pw_app h1.1 h2.1 h1.2 h2.2 (by omega)
  have b := pw_app a.1 h3.1 a.2 h3.2 (by omega)
  have c := pw_app b.1 h4.1 b.2 h4.2 (by omega)
  exact (pw_app c.1 h5.1 c.2 h5.2 (by omega)).1
theorem nounP_pw (g : Gr) (f t : Nat) : (nounPS g f t).Pairwise SBef := by
  unfold nounPS
  split
  · exact (ents_pw _ _ _ _ _ _ _).1
  · split
    · exact (ite_pw (one_pw _)).1
    · exact (ite_pw (one_pw _)).1
theorem noun_pw (g : Gr) (f t : Nat) : (nounS' g f t).Pairwise SBef := by
  unfold nounS'
  split
  · exact (ents_pw _ _ _ _ _ _ _).1
  · have h1 := ents_pw g (tokAt g f) false 9 0 ([]) [(3, f + 1, t)]
    have h2 := ents_pw g (tokAt g f) false 10 0 (secondS g f t) [(4, f + 2, t)]
    have h3 := ents_pw g (tokAt g f) false 11 0 (secondS g f t) [(2, f + 2, t - 1), (5, t - 1, t)]
    have h4 := ite_pw (p := (secondS g f t = wWho ∨ secondS g f t = wThat) ∧ f + 2 < t) (pw_app h2.1 h3.1 h2.2 h3.2 (by decide))
    exact (pw_app h1.1 h4.1 h1.2 h4.2 (by decide)).1
theorem verbs_pw (g : Gr) (f t : Nat) (b : Bool) : (verbsS g f t b).Pairwise SBef ∧ Between 12 13 (verbsS g f t b) := by
  unfold verbsS
  split
  · exact none_pw _ _
  · split
    · have h := ents_pw g (tokAt g f) b 12 0 ([]) []
      exact ⟨h.1, fun s hs => by have : 12 ≤ s.rule ∧ s.rule ≤ 12 := h.2 s hs; omega⟩
    · have h := ents_pw g (tokAt g f) b 13 0 ([]) [(2, f + 1, t)]
      exact ⟨h.1, fun s hs => by have : 13 ≤ s.rule ∧ s.rule ≤ 13 := h.2 s hs; omega⟩
theorem states_pw (g : Gr) (f t : Nat) : (statesS g f t).Pairwise SBef ∧ Between 14 15 (statesS g f t) := by
  unfold statesS
  split
  · have h := ents_pw g (tokAt g f) false 14 0 ([]) []
    exact ⟨h.1, fun s hs => by have : 14 ≤ s.rule ∧ s.rule ≤ 14 := h.2 s hs; omega⟩
  · split
    · exact ⟨List.pairwise_singleton _ _, fun s hs => by obtain rfl := List.mem_singleton.1 hs; simp⟩
    · exact none_pw _ _
theorem verbP_pw (g : Gr) (f t : Nat) : (verbPS g f t).Pairwise SBef := by
  unfold verbPS
  have h1 := verbs_pw g f t true
  have h2 := ite_pw (p := tokAt g f = wIs) (states_pw g (f + 1) t)
  have h5 := halves_pw g f t 17 wOr 4 (by omega) (by omega)
  have h6 := halves_pw g f t 18 wAnd 4 (by omega) (by omega)
  have h34 : ((if tokAt g f = wDoes ∧ secondS g f t = wNot then [(⟨16, 0, [], [(6, f + 2, t)]⟩ : StepS)] else []) ++ (if tokAt g f = wIs ∧ secondS g f t = wNot then [(⟨16, 0, [], [(7, f + 2, t)]⟩ : StepS)] else [])).Pairwise SBef ∧ Between 16 16 ((if tokAt g f = wDoes ∧ secondS g f t = wNot then [(⟨16, 0, [], [(6, f + 2, t)]⟩ : StepS)] else []) ++ (if tokAt g f = wIs ∧ secondS g f t = wNot then [(⟨16, 0, [], [(7, f + 2, t)]⟩ : StepS)] else [])) := by
    by_cases hd : tokAt g f = wDoes ∧ secondS g f t = wNot
    · have hn : ¬ (tokAt g f = wIs ∧ secondS g f t = wNot) := fun h => absurd (hd.1.symm.trans h.1) (by decide)
      rw [if_pos hd, if_neg hn, List.append_nil]
      exact one_pw _
    · rw [if_neg hd, List.nil_append]
      exact ite_pw (one_pw _)
  have a := pw_app h1.1 h2.1 h1.2 h2.2 (by omega)
  have b := pw_app a.1 h34.1 a.2 h34.2 (by omega)
  rw [← List.append_assoc] at b
  have c := pw_app b.1 h5.1 b.2 h5.2 (by omega)
  exact (pw_app c.1 h6.1 c.2 h6.2 (by omega)).1
theorem steps_pw (g : Gr) {k f t : Nat} (h1 : 1 ≤ k) (h7 : k ≤ 7) : (stepsS g k f t).Pairwise SBef := by
  unfold stepsS
  split
  · exact List.Pairwise.nil
  · rcases (show k = 1 ∨ k = 2 ∨ k = 3 ∨ k = 4 ∨ k = 5 ∨ k = 6 ∨ k = 7 by omega) with rfl | rfl | rfl | rfl | rfl | rfl | rfl
    · exact clause_pw g f t
    · exact nounP_pw g f t
    · exact noun_pw g f t
    · exact verbP_pw g f t
    · exact (ite_pw (ents_pw _ _ _ _ _ _ _)).1
    · exact (verbs_pw g f t false).1
    · exact (states_pw g f t).1
theorem steps_parts (g : Gr) {k f t : Nat} (h1 : 1 ≤ k) (h7 : k ≤ 7) (ht : t ≤ g.toks.length) : ∀ s ∈ stepsS g k f t, s.parts.length ≤ 2 ∧ ∀ p ∈ s.parts, 1 ≤ p.1 ∧ p.1 ≤ 7 ∧ p.2.2 ≤ g.toks.length ∧ (f < t → p.2.2 - p.2.1 < t - f) := by
  intro s hs
  have H : ∀ r w k f' t', halvesS g f' t r w k = halvesS g f' t r w k → 1 ≤ k → k ≤ 7 → f ≤ f' → s ∈ halvesS g f' t r w k → t' = t → s.parts.length ≤ 2 ∧ ∀ p ∈ s.parts, 1 ≤ p.1 ∧ p.1 ≤ 7 ∧ p.2.2 ≤ g.toks.length ∧ (f < t → p.2.2 - p.2.1 < t - f) := by
    intro r w k f' t' _ k1 k7 hff hs _
    obtain ⟨c, hc1, hc2, _, rfl⟩ := mem_halves.1 hs
    refine ⟨by simp, fun p hp => ?_⟩
    simp only [List.mem_cons, List.not_mem_nil, or_false] at hp
    rcases hp with rfl | rfl
    · simp; omega
    · simp; omega
  have E : ∀ tok b (s0 : StepS), s0.parts.length ≤ 2 → (∀ p ∈ s0.parts, 1 ≤ p.1 ∧ p.1 ≤ 7 ∧ p.2.2 ≤ g.toks.length ∧ (f < t → p.2.2 - p.2.1 < t - f)) → s ∈ entsS g tok b s0 → s.parts.length ≤ 2 ∧ ∀ p ∈ s.parts, 1 ≤ p.1 ∧ p.1 ≤ 7 ∧ p.2.2 ≤ g.toks.length ∧ (f < t → p.2.2 - p.2.1 < t - f) := by
    intro tok b s0 h2 hp hs
    obtain ⟨r0, e0, w0, ps0⟩ := s0
    obtain ⟨e, rfl, _⟩ := mem_ents.1 hs
    exact ⟨h2, hp⟩
  have V : ∀ b, s ∈ verbsS g f t b → s.parts.length ≤ 2 ∧ ∀ p ∈ s.parts, 1 ≤ p.1 ∧ p.1 ≤ 7 ∧ p.2.2 ≤ g.toks.length ∧ (f < t → p.2.2 - p.2.1 < t - f) := by
    intro b hs
    unfold verbsS at hs
    split at hs
    · cases hs
    · split at hs
      · exact E _ _ _ (by simp) (by simp) hs
      · exact E _ _ _ (by simp) (by simp; omega) hs
  have S : ∀ f', f ≤ f' → s ∈ statesS g f' t → s.parts.length ≤ 2 ∧ ∀ p ∈ s.parts, 1 ≤ p.1 ∧ p.1 ≤ 7 ∧ p.2.2 ≤ g.toks.length ∧ (f < t → p.2.2 - p.2.1 < t - f) := by
    intro f' hf hs
    unfold statesS at hs
    split at hs
    · exact E _ _ _ (by simp) (by simp) hs
    · split at hs
      · obtain rfl := List.mem_singleton.1 hs
        exact ⟨by simp, by simp; omega⟩
      · cases hs
  unfold stepsS at hs
  split at hs
  · cases hs
  · rename_i hft
    rcases (show k = 1 ∨ k = 2 ∨ k = 3 ∨ k = 4 ∨ k = 5 ∨ k = 6 ∨ k = 7 by omega) with rfl | rfl | rfl | rfl | rfl | rfl | rfl
    · have hs : s ∈ clauseS g f t := hs
      unfold clauseS at hs
      simp only [List.mem_append] at hs
      rcases hs with (((hs | hs) | hs) | hs) | hs
      · split at hs
        · exact H _ _ _ _ t rfl (by omega) (by omega) (by omega) hs rfl
        · cases hs
      · exact H _ _ _ _ t rfl (by omega) (by omega) (by omega) hs rfl
      · exact H _ _ _ _ t rfl (by omega) (by omega) (by omega) hs rfl
      · exact H _ _ _ _ t rfl (by omega) (by omega) (by omega) hs rfl
      · obtain ⟨c, hc, rfl⟩ := List.mem_map.1 hs
        obtain ⟨j, hj, rfl⟩ := List.mem_map.1 hc
        have hj := List.mem_range.1 hj
        refine ⟨by simp, fun p hp => ?_⟩
        simp only [List.mem_cons, List.not_mem_nil, or_false] at hp
        rcases hp with rfl | rfl
        · simp; omega
        · simp; omega
    · have hs : s ∈ nounPS g f t := hs
      unfold nounPS at hs
      split at hs
      · exact E _ _ _ (by simp) (by simp) hs
      · have hone : ∀ w : List UInt8, s = ⟨7, 0, w, [(3, f + 1, t)]⟩ → s.parts.length ≤ 2 ∧ ∀ p ∈ s.parts, 1 ≤ p.1 ∧ p.1 ≤ 7 ∧ p.2.2 ≤ g.toks.length ∧ (f < t → p.2.2 - p.2.1 < t - f) := by
          rintro w rfl
          exact ⟨by simp, by simp; omega⟩
        split at hs
        · split at hs
          · exact hone _ (List.mem_singleton.1 hs)
          · cases hs
        · split at hs
          · exact hone _ (List.mem_singleton.1 hs)
          · cases hs
    · have hs : s ∈ nounS' g f t := hs
      unfold nounS' at hs
      split at hs
      · exact E _ _ _ (by simp) (by simp) hs
      · simp only [List.mem_append] at hs
        rcases hs with hs | hs
        · exact E _ _ _ (by simp) (by simp; omega) hs
        · split at hs
          · rcases List.mem_append.1 hs with hs | hs
            · exact E _ _ _ (by simp) (by simp; omega) hs
            · refine E _ _ _ (by simp) (fun p hp => ?_) hs
              simp only [List.mem_cons, List.not_mem_nil, or_false] at hp
              rcases hp with rfl | rfl
              · simp; omega
              · simp; omega
          · cases hs
    · have hs : s ∈ verbPS g f t := hs
      unfold verbPS at hs
      simp only [List.mem_append] at hs
      rcases hs with ((((hs | hs) | hs) | hs) | hs) | hs
      · exact V _ hs
      · split at hs
        · exact S _ (by omega) hs
        · cases hs
      · split at hs
        · obtain rfl := List.mem_singleton.1 hs
          exact ⟨by simp, by simp; omega⟩
        · cases hs
      · split at hs
        · obtain rfl := List.mem_singleton.1 hs
          exact ⟨by simp, by simp; omega⟩
        · cases hs
      · exact H _ _ _ _ t rfl (by omega) (by omega) (by omega) hs rfl
      · exact H _ _ _ _ t rfl (by omega) (by omega) (by omega) hs rfl
    · simp only [Nat.reduceEqDiff, if_false, if_true] at hs
      split at hs
      · exact E _ _ _ (by simp) (by simp) hs
      · cases hs
    · exact V _ hs
    · exact S _ (by omega) hs
/-- **The parses stand in order.** -/
theorem trees_pw {g : Gr} (hv : validS g.l = true) (h100 : g.toks.length ≤ 100) : ∀ (d k f t : Nat), t - f ≤ d → 1 ≤ k → k ≤ 7 → t ≤ g.toks.length → (treesS g k f t).Pairwise (Bef g.l) := by
  intro d
  induction d with
  | zero => intro k f t h _ _ _; rw [treesS_none g (cntS_zero g (by omega))]; exact List.Pairwise.nil
  | succ d ih =>
    intro k f t h h1 h7 ht
    by_cases hlt : f < t
    · rw [trees_steps g h1 h7 ht, List.pairwise_flatMap]
      have hpts := steps_parts g (f := f) h1 h7 ht
      refine ⟨fun s hs => ?_, List.Pairwise.imp_of_mem ?_ (steps_pw g h1 h7)⟩
      · obtain ⟨h2, hp⟩ := hpts s hs
        obtain ⟨r, e, w, ps⟩ := s
        simp only at h2 hp
        unfold stepTrees
        split
        · exact List.Pairwise.nil
        · rw [List.pairwise_map]
          rcases ps with _ | ⟨p, _ | ⟨q, _ | ⟨_, _⟩⟩⟩
          · simp [subsS]
          · rw [subsS_one, List.pairwise_map]
            have hpp := hp p (by simp)
            refine List.Pairwise.imp_of_mem ?_ (ih p.1 p.2.1 p.2.2 (by have := hpp.2.2.2 hlt; omega) hpp.1 hpp.2.1 hpp.2.2.1)
            intro x y hx hy hxy
            exact Bef.first _ _ _ _ _ _ _ (by rw [span_len hv h100 hpp.1 hpp.2.1 hpp.2.2.1 hx, span_len hv h100 hpp.1 hpp.2.1 hpp.2.2.1 hy]) hxy
          · rw [subsS_two, List.pairwise_flatMap]
            have hpp := hp p (by simp)
            have hqq := hp q (by simp)
            refine ⟨fun x hx => ?_, List.Pairwise.imp_of_mem ?_ (ih p.1 p.2.1 p.2.2 (by have := hpp.2.2.2 hlt; omega) hpp.1 hpp.2.1 hpp.2.2.1)⟩
            · rw [List.pairwise_map]
              refine List.Pairwise.imp ?_ (ih q.1 q.2.1 q.2.2 (by have := hqq.2.2.2 hlt; omega) hqq.1 hqq.2.1 hqq.2.2.1)
              intro y z hyz
              exact Bef.second _ _ _ _ _ _ _ _ hyz
            · intro x y hx hy hxy a ha b hb
              obtain ⟨a', _, rfl⟩ := List.mem_map.1 ha
              obtain ⟨b', _, rfl⟩ := List.mem_map.1 hb
              exact Bef.first _ _ _ _ _ _ _ (by rw [span_len hv h100 hpp.1 hpp.2.1 hpp.2.2.1 hx, span_len hv h100 hpp.1 hpp.2.1 hpp.2.2.1 hy]) hxy
          · simp at h2
      · intro s s' hs hs' hss x hx y hy
        obtain ⟨h2, hp⟩ := hpts s hs
        obtain ⟨h2', hp'⟩ := hpts s' hs'
        obtain ⟨sub, rfl, hxa⟩ := (step_mem h2).1 hx
        obtain ⟨sub', rfl, hya⟩ := (step_mem h2').1 hy
        clear hx hy
        rcases hss with hr | ⟨hr, he⟩ | ⟨hr, he, hw, k', f', c, c', p, p', hk5, hk1, hfc, hcc, hps, hps'⟩
        · exact Bef.rule _ _ _ _ _ _ _ _ (by omega)
        · rw [hr]
          exact Bef.entry _ _ _ _ _ _ _ (by omega)
        · rw [hps] at hp hxa
          rw [hps'] at hp' hya
          have hq := hp (k', f', c) (by simp)
          have hq' := hp' (k', f', c') (by simp)
          rcases hxa with ⟨h, _⟩ | ⟨_, _, h, _⟩ | ⟨a1, a2, a, b, h, rfl, ha, hb⟩
          · cases h
          · simp at h
          · rcases hya with ⟨h', _⟩ | ⟨_, _, h', _⟩ | ⟨b1, b2, a', b', h', rfl, ha', hb'⟩
            · cases h'
            · simp at h'
            · simp only [List.cons.injEq, and_true] at h h'
              obtain ⟨rfl, rfl⟩ := h
              obtain ⟨rfl, rfl⟩ := h'
              rw [hr, he, hw]
              refine Bef.len _ _ _ _ _ _ _ ?_
              rw [span_len hv h100 hq.1 hq.2.1 hq.2.2.1 ha, span_len hv h100 hq'.1 hq'.2.1 hq'.2.2.1 ha']
              simp only
              omega
    · rw [treesS_none g (cntS_zero g (by omega))]; exact List.Pairwise.nil
theorem trees_nodup {g : Gr} (hv : validS g.l = true) (h100 : g.toks.length ≤ 100) {k f t : Nat} (h1 : 1 ≤ k) (h7 : k ≤ 7) (ht : t ≤ g.toks.length) : (treesS g k f t).Nodup :=
  List.Pairwise.imp (fun h => h.ne) (trees_pw hv h100 (t - f) k f t (Nat.le_refl _) h1 h7 ht)
end Go.Proofs.YthmnffgjckpkiaaGreatDoor
