/-
  Plain laws of 'WordsTells': what the reference's loops of Valid, Add, Remove and Look compute is what the program's functions return.
-/
import Derived.Test.YtakpkaklcjgdkaaGreatDoorAddsLaw
namespace Go.Proofs.YtakpkaklcjgdkaaGreatDoor
open Go Go.RowKit

theorem clash_self (e : Ent) : clashS e e = false := by unfold clashS; simp
theorem clash_none {l : List Ent} (h : validS l = true) {i : Nat} (hi : i < l.length) : ∀ o ∈ l, clashS o l[i] = false := by
  obtain ⟨_, _, _, h4⟩ := (valid_iff l).1 h
  rw [List.pairwise_iff_getElem] at h4
  intro o ho
  obtain ⟨j, hj, rfl⟩ := List.getElem_of_mem ho
  rcases Nat.lt_trichotomy j i with hji | rfl | hji
  · exact h4 j i hj hi hji
  · exact clash_self _
  · rw [clash_comm]; exact h4 i j hi hj hji
/-- Where the reference's 'Valid' says no. -/
theorem rval_right {l : List Ent} {i : Nat} (hi : i < l.length) (h : rightS l[i] = false) : validS l = false := by
  cases hv : validS l
  · rfl
  · have := ((valid_iff l).1 hv).2.1 _ (List.getElem_mem hi); rw [h] at this; cases this
theorem rval_ahead {l : List Ent} {i : Nat} (hi : i < l.length) (h0 : 0 < i) (h : ¬ ltE (l[i - 1]'(by omega)) l[i]) : validS l = false := by
  cases hv : validS l
  · rfl
  · have h3 := ((valid_iff l).1 hv).2.2.1
    rw [List.pairwise_iff_getElem] at h3
    exact absurd (h3 (i - 1) i (by omega) hi (by omega)) h
theorem rval_clash {l : List Ent} {i : Nat} (hi : i < l.length) (h : l.any (fun o => clashS o l[i]) = true) : validS l = false := by
  cases hv : validS l
  · rfl
  · obtain ⟨o, ho, hc⟩ := List.any_eq_true.1 h
    have := clash_none hv hi o ho
    rw [this] at hc; cases hc
/-- What the reference's 'Valid' asks at the i-th entry. -/
def rstepB (l : List Ent) (i : Nat) : Prop := ∀ h : i < l.length, rightS l[i] = true ∧ (∀ _h0 : 0 < i, ltE (l[i - 1]'(by omega)) l[i]) ∧ l.any (fun o => clashS o l[i]) = false
theorem rval_all {l : List Ent} (h : ∀ i, i < l.length → rstepB l i) : validS l = decide (l.length ≤ 100) := by
  by_cases hl : l.length ≤ 100
  · rw [decide_eq_true hl]
    unfold validS
    rw [decide_eq_true hl, Bool.true_and, List.all_eq_true]
    intro i hi
    have hi : i < l.length := by simpa using hi
    obtain ⟨h1, h2, h3⟩ := h i hi hi
    refine (step_iff hi).2 ⟨h1, h2, fun j hj => ?_⟩
    rw [List.any_eq_false] at h3
    simpa using h3 _ (List.getElem_mem (show j < l.length by omega))
  · rw [decide_eq_false hl]
    simp [validS, hl]

/-- The order of entries as the reference asks for it. -/
def aheadS (a b : Ent) : Bool := Op.bytesLess a.w b.w || (a.w == b.w && decide (a.cat < b.cat))
theorem ahead_iff (a b : Ent) : aheadS a b = true ↔ ltE a b := by
  unfold aheadS ltE
  simp

/-- How many entries stand ahead of a new one. -/
def nAhead (l : List Ent) (e : Ent) : Nat := (thoseS (fun o => decide (compareS o e < 0)) l).length
theorem nAhead_le (l : List Ent) (e : Ent) : nAhead l e ≤ l.length := thoseTo_len _ _ _
/-- What the reference's 'Add' has put together after k entries. -/
def addTo (l : List Ent) (e : Ent) (k : Nat) : List Ent := if nAhead l e < k then putAt (l.take k) (nAhead l e) e else l.take k
theorem addTo_zero (l : List Ent) (e : Ent) : addTo l e 0 = [] := by simp [addTo]
theorem ahead_at {l : List Ent} {e : Ent} (hl : l.Pairwise ltE) {k : Nat} (hk : k < l.length) (hne : ¬ (l[k].w = e.w ∧ l[k].cat = e.cat)) : aheadS e l[k] = decide (nAhead l e ≤ k) := by
  rw [Bool.eq_iff_iff, ahead_iff, decide_eq_true_eq]
  have hp := place_iff hl e hk
  unfold nAhead
  constructor
  · intro h
    refine Nat.le_of_not_lt fun hlt => ?_
    exact ltE_irrefl _ (ltE_trans (hp.1 hlt) h)
  · intro h
    refine ltE_tri _ _ (fun h' => ?_) hne
    have := hp.2 h'
    omega
theorem addTo_put {l : List Ent} {e : Ent} {k : Nat} (hk : k < l.length) (h : nAhead l e = k) : addTo l e (k + 1) = addTo l e k ++ [e] ++ [l[k]] := by
  unfold addTo putAt
  rw [if_pos (by omega), if_neg (by omega), h, List.take_succ_eq_append_getElem hk]
  have e1 : (l.take k).length = k := by rw [List.length_take]; omega
  rw [List.take_append_of_le_length (by omega), List.take_of_length_le (by omega), List.drop_append_of_le_length (by omega), List.drop_of_length_le (by omega)]
  simp
theorem addTo_more {l : List Ent} {e : Ent} {k : Nat} (hk : k < l.length) (h : nAhead l e ≠ k) : addTo l e (k + 1) = addTo l e k ++ [l[k]] := by
  unfold addTo putAt
  have e1 : (l.take k).length = k := by rw [List.length_take]; omega
  by_cases hlt : nAhead l e < k
  · rw [if_pos (by omega), if_pos hlt, List.take_succ_eq_append_getElem hk, List.take_append_of_le_length (by omega), List.drop_append_of_le_length (by omega)]
    simp
  · rw [if_neg (by omega), if_neg hlt, List.take_succ_eq_append_getElem hk]
theorem addTo_all (l : List Ent) (e : Ent) : (if nAhead l e < l.length then addTo l e l.length else addTo l e l.length ++ [e]) = putAt l (nAhead l e) e := by
  have hn := nAhead_le l e
  unfold addTo
  by_cases h : nAhead l e < l.length
  · rw [if_pos h, if_pos h, List.take_length]
  · have : nAhead l e = l.length := by omega
    rw [if_neg h, if_neg h, this]
    unfold putAt
    simp
theorem addS_bad {l : List Ent} {e : Ent} (h : (validS l && rightS e) = false) : addS l e = ([], 2) := by
  unfold addS; rw [h]; rfl
theorem those_some {p : Ent → Bool} {l : List Ent} {k : Nat} (hk : k < l.length) (h : p l[k] = true) : thoseS p l ≠ [] := by
  intro hn
  have := (thoseTo_nil (Nat.le_refl _)).1 hn k hk
  rw [h] at this; cases this
theorem addS_twice {l : List Ent} {e : Ent} (h : (validS l && rightS e) = true) {k : Nat} (hk : k < l.length) (hw : l[k].w = e.w ∧ l[k].cat = e.cat) : addS l e = ([], 330) := by
  unfold addS
  rw [h, if_pos rfl, if_pos (those_some hk (by simpa using (eq_iff l[k] e).2 hw))]
theorem addS_rest {l : List Ent} {e : Ent} (h : (validS l && rightS e) = true) (hne : ∀ k (hk : k < l.length), ¬ (l[k].w = e.w ∧ l[k].cat = e.cat)) :
    addS l e = if l.any (fun o => clashS o e) = true then ([], 331) else if 100 ≤ l.length then ([], 5) else (putAt l (nAhead l e) e, 0) := by
  have h1 : thoseS (fun o => compareS o e == 0) l = [] := thoseS_none fun o ho => by
    obtain ⟨i, hi, rfl⟩ := List.getElem_of_mem ho
    have := hne i hi
    rw [beq_eq_false_iff_ne]
    exact fun hc => this ((eq_iff _ _).1 hc)
  unfold addS
  rw [h, if_pos rfl, h1, if_neg (by simp)]
  cases hc : l.any (fun o => clashS o e)
  · have h2 : thoseS (fun o => clashS o e) l = [] := thoseS_none fun o ho => by
      rw [List.any_eq_false] at hc
      simpa using hc o ho
    simp only [h2, ne_eq, not_true_eq_false, if_false, Bool.false_eq_true]
    rfl
  · obtain ⟨o, ho, hco⟩ := List.any_eq_true.1 hc
    obtain ⟨i, hi, rfl⟩ := List.getElem_of_mem ho
    rw [if_pos (those_some hi hco), if_pos rfl]

/-- What the reference's 'Remove' leaves. -/
def keepS (word : ByteArray) (cat : Int) (l : List Ent) : List Ent := l.filter (fun o => !isIt word cat o)
theorem removeS_none {l : List Ent} {word : ByteArray} {cat : Int} (h : validS l = true) (hl : (keepS word cat l).length = l.length) : removeS l word cat = ([], 6) := by
  have ha : ∀ o ∈ l, (!isIt word cat o) = true := by
    unfold keepS at hl
    rw [List.length_filter_eq_length_iff] at hl
    exact hl
  unfold removeS
  rw [h, if_pos rfl, thoseS_none fun o ho => by simpa using ha o ho]
theorem isIt_lt {word : ByteArray} {cat : Int} {a b : Ent} (ha : isIt word cat a = true) (h : ltE a b ∨ ltE b a) : isIt word cat b = false := by
  cases hb : isIt word cat b
  · rfl
  · exfalso
    unfold isIt at ha hb
    rw [Bool.and_eq_true, beq_iff_eq, beq_iff_eq, ByteArray.toList_eq, ByteArray.toList_eq] at ha hb
    have e1 : a.w = b.w := ha.1.trans hb.1.symm
    have e2 : a.cat = b.cat := ha.2.trans hb.2.symm
    rcases h with (h | h) | (h | h)
    · rw [e1, bl_irrefl] at h; cases h
    · omega
    · rw [e1, bl_irrefl] at h; cases h
    · omega
theorem removeS_some {l : List Ent} {word : ByteArray} {cat : Int} (h : validS l = true) (hl : (keepS word cat l).length ≠ l.length) : removeS l word cat = (keepS word cat l, 0) := by
  obtain ⟨_, _, h3, _⟩ := (valid_iff l).1 h
  rw [List.pairwise_iff_getElem] at h3
  have hex : ∃ k, ∃ hk : k < l.length, isIt word cat l[k] = true := by
    apply Classical.byContradiction
    intro hn
    apply hl
    unfold keepS
    rw [List.length_filter_eq_length_iff]
    intro o ho
    obtain ⟨i, hi, rfl⟩ := List.getElem_of_mem ho
    cases hc : isIt word cat l[i]
    · rfl
    · exact absurd ⟨i, hi, hc⟩ hn
  obtain ⟨k, hk, hit⟩ := hex
  have hother : ∀ j (hj : j < l.length), j ≠ k → isIt word cat l[j] = false := fun j hj hjk => by
    rcases Nat.lt_or_gt_of_ne hjk with hlt | hlt
    · exact isIt_lt hit (.inr (h3 j k hj hk hlt))
    · exact isIt_lt hit (.inl (h3 k j hk hj hlt))
  have e1 : (l.take k).length = k := by rw [List.length_take]; omega
  have hcut : l = l.take k ++ ([l[k]] ++ l.drop (k + 1)) := by
    rw [List.singleton_append, ← List.drop_eq_getElem_cons hk, List.take_append_drop]
  have ht : ∀ o ∈ l.take k, isIt word cat o = false := by
    intro o ho
    obtain ⟨i, hi, rfl⟩ := List.getElem_of_mem ho
    rw [List.getElem_take]
    exact hother i (by omega) (by omega)
  have hd : ∀ o ∈ l.drop (k + 1), isIt word cat o = false := by
    intro o ho
    obtain ⟨i, hi, rfl⟩ := List.getElem_of_mem ho
    rw [List.length_drop] at hi
    rw [List.getElem_drop]
    exact hother _ (by omega) (by omega)
  have hth : thoseS (isIt word cat) l = [k] := by
    have := those_put (p := isIt word cat) (l := l.take k ++ l.drop (k + 1)) (k := k) (e := l[k]) (by rw [List.length_append, e1]; omega)
    unfold putAt at this
    rw [List.take_left' e1, List.drop_left' e1, ← hcut, thoseS_none ht, thoseS_none hd, hit] at this
    simpa using this
  have hk2 : keepS word cat l = l.take k ++ l.drop (k + 1) := by
    unfold keepS
    conv => lhs; rw [hcut]
    rw [List.filter_append, List.filter_append, List.filter_eq_self.2 (show ∀ o ∈ l.take k, (!isIt word cat o) = true from fun o ho => by rw [ht o ho]; rfl), List.filter_eq_self.2 (show ∀ o ∈ l.drop (k + 1), (!isIt word cat o) = true from fun o ho => by rw [hd o ho]; rfl)]
    simp [hit]
  unfold removeS
  rw [h, if_pos rfl, hth, hk2]
theorem removeS_bad {l : List Ent} {word : ByteArray} {cat : Int} (h : validS l = false) : removeS l word cat = ([], 2) := by
  unfold removeS; rw [h]; rfl
theorem keep_take {l : List Ent} {word : ByteArray} {cat : Int} {k : Nat} (hk : k < l.length) : keepS word cat (l.take (k + 1)) = keepS word cat (l.take k) ++ (if isIt word cat l[k] then [] else [l[k]]) := by
  unfold keepS
  rw [List.take_succ_eq_append_getElem hk, List.filter_append]
  cases h : isIt word cat l[k] <;> simp [h]
theorem keep_len (l : List Ent) (word : ByteArray) (cat : Int) : (keepS word cat l).length ≤ l.length := List.length_filter_le _ _

/-- What the reference's 'Look' has found after k entries. -/
def lookTo (tok : List UInt8) (l : List Ent) (k : Nat) : List (Nat × Bool) := (thoseTo (formS tok) l k).map (formAt tok l)
theorem lookTo_all (tok : List UInt8) (l : List Ent) : lookTo tok l l.length = lookS tok l := rfl
theorem lookTo_len (tok : List UInt8) (l : List Ent) (k : Nat) : (lookTo tok l k).length ≤ k := by
  unfold lookTo; rw [List.length_map]; exact thoseTo_len _ _ _
theorem lookTo_no {tok : List UInt8} {l : List Ent} {k : Nat} (hk : k < l.length) (h : formS tok l[k] = false) : lookTo tok l (k + 1) = lookTo tok l k := by
  unfold lookTo; rw [thoseTo_no hk h]
theorem lookTo_yes {tok : List UInt8} {l : List Ent} {k : Nat} (hk : k < l.length) (h : formS tok l[k] = true) : lookTo tok l (k + 1) = lookTo tok l k ++ [(k, l[k].w != tok)] := by
  unfold lookTo; rw [thoseTo_yes hk h, List.map_append, List.map_singleton, formAt_eq tok hk]
theorem right_cat {e : Ent} (h : rightS e = true) : e.cat = 1 ∨ e.cat = 2 ∨ e.cat = 3 ∨ e.cat = 4 ∨ e.cat = 5 := by
  unfold rightS at h
  split at h
  · omega
  · split at h
    · omega
    · cases h
theorem right_plain {e : Ent} (h : rightS e = true) (hv : 4 ≤ e.cat) : plainS e.w = true := by
  have hc := right_cat h
  unfold rightS at h
  rw [if_neg (by omega), if_pos (by omega)] at h
  simp only [Bool.and_eq_true] at h
  exact h.1
theorem form_noun {e : Ent} {tok : List UInt8} (hc : ¬ 4 ≤ e.cat) : formS tok e = (e.w == tok) := by
  have h4 : (e.cat == 4) = false := by simp; omega
  have h5 : (e.cat == 5) = false := by simp; omega
  unfold formS isThird
  rw [h4, h5]; simp
theorem form_verb {e : Ent} {tok : List UInt8} (h : rightS e = true) (hc : 4 ≤ e.cat) : formS tok e = (e.w == tok || thirdS e.w == tok) := by
  have hp := right_plain h hc
  have hcat := right_cat h
  have h45 : (e.cat == 4 || e.cat == 5) = true := by simp; omega
  unfold formS isThird thirdE thirdV
  rw [h45, hp]; simp
end Go.Proofs.YtakpkaklcjgdkaaGreatDoor
