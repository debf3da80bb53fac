/-
  A bound of the number of parses of nine words (plain).
-/
import Derived.Test.YthmnffgjckpkiaaGreatDoorGPlain
import Derived.Test.YthmnffgjckpkiaaGreatDoorSortP
namespace Go.Proofs.YthmnffgjckpkiaaGreatDoor
open Go Go.RowKit

/-! ### Sums -/
def sumK (F : Nat → Nat) (f : Nat) : Nat → Nat
  | 0 => 0
  | m + 1 => sumK F f m + F (f + m)
def supK (F : Nat → Nat) : Nat → Nat
  | 0 => 0
  | m + 1 => max (supK F m) (F m)
theorem le_supK (F : Nat → Nat) : ∀ (m x : Nat), x < m → F x ≤ supK F m
  | 0, _, h => by omega
  | m + 1, x, h => by
    unfold supK
    by_cases e : x = m
    · subst e; exact Nat.le_max_right _ _
    · exact Nat.le_trans (le_supK F m x (by omega)) (Nat.le_max_left _ _)
theorem sumK_le {F G : Nat → Nat} {f f' : Nat} : ∀ (m : Nat), (∀ i, i < m → F (f + i) ≤ G (f' + i)) → sumK F f m ≤ sumK G f' m
  | 0, _ => Nat.le_refl _
  | m + 1, h => Nat.add_le_add (sumK_le m (fun i hi => h i (by omega))) (h m (by omega))
theorem sumK_add (F G : Nat → Nat) (f : Nat) : ∀ m, sumK (fun j => F j + G j) f m = sumK F f m + sumK G f m
  | 0 => rfl
  | m + 1 => by unfold sumK; rw [sumK_add F G f m]; omega
theorem sum_range (F : Nat → Nat) (f : Nat) : ∀ m, (((List.range m).map (· + f)).map F).sum = sumK F f m
  | 0 => rfl
  | m + 1 => by
    rw [List.range_succ, List.map_append, List.map_append, List.sum_append, sum_range F f m]
    simp [sumK, Nat.add_comm m f]
theorem sum_filterMap {α β : Type} (p : α → Prop) [DecidablePred p] (G : α → β) (P : β → Nat) : ∀ l : List α, ((l.filterMap fun k => if p k then some (G k) else none).map P).sum = (l.map fun k => if p k then P (G k) else 0).sum
  | [] => rfl
  | a :: l => by
    have ih := sum_filterMap p G P l
    by_cases h : p a
    · rw [List.filterMap_cons]; simp only [if_pos h, List.map_cons, List.sum_cons, ih]
    · rw [List.filterMap_cons]; simp only [if_neg h, List.map_cons, List.sum_cons, ih, Nat.zero_add]
theorem sum_const_le {α : Type} (F : α → Nat) (P : Nat) : ∀ l : List α, (∀ a ∈ l, F a ≤ P) → (l.map F).sum ≤ l.length * P
  | [], _ => by simp
  | a :: l, h => by
    have := sum_const_le F P l (fun a ha => h a (by simp [ha]))
    have h1 := h a (by simp)
    simp only [List.map_cons, List.sum_cons, List.length_cons, Nat.add_mul, Nat.one_mul]
    omega

/-! ### Words that join -/
def isConn (w : List UInt8) : Bool := w == wIf || (w == wThen || (w == wIff || (w == wOr || w == wAnd)))
def qn (g : Gr) (f t : Nat) : Nat := (sl g f t).countP isConn
theorem qn_app (g : Gr) {f k t : Nat} (h1 : f ≤ k) (h2 : k ≤ t) : qn g f t = qn g f k + qn g k t := by
  unfold qn; rw [sl_app g h1 h2, List.countP_append]
theorem qn_one (g : Gr) {f : Nat} (h : f + 1 ≤ g.toks.length) : qn g f (f + 1) = if isConn (tokAt g f) = true then 1 else 0 := by
  unfold qn
  rw [sl_one g rfl h, List.countP_singleton]
theorem qn_none (g : Gr) (f : Nat) : qn g f f = 0 := by unfold qn; rw [sl_none]; rfl
theorem qn_le (g : Gr) {f t : Nat} (ht : t ≤ g.toks.length) : qn g f t ≤ t - f := by
  unfold qn
  have := List.countP_le_length (p := isConn) (l := sl g f t)
  rw [sl_len g ht] at this
  exact this
theorem conn_sum {g : Gr} {F G : Nat → Nat} {f : Nat} : ∀ m, f + m ≤ g.toks.length → (∀ j, f ≤ j → j < f + m → F j ≤ if isConn (tokAt g j) = true then G (qn g f j) else 0) → sumK F f m ≤ sumK G 0 (qn g f (f + m))
  | 0, _, _ => Nat.zero_le _
  | m + 1, hl, h => by
    have ih := conn_sum (g := g) (F := F) (G := G) (f := f) m (by omega) (fun j h1 h2 => h j h1 (by omega))
    have h1 := h (f + m) (by omega) (by omega)
    have hq : qn g f (f + (m + 1)) = qn g f (f + m) + if isConn (tokAt g (f + m)) = true then 1 else 0 := by
      rw [qn_app g (k := f + m) (by omega) (by omega), ← Nat.add_assoc, qn_one g (by omega)]
    show sumK F f m + F (f + m) ≤ _
    rw [hq]
    cases hc : isConn (tokAt g (f + m))
    · rw [hc, if_neg (by decide)] at h1
      rw [if_neg (by decide), Nat.add_zero]
      omega
    · rw [hc, if_pos rfl] at h1
      rw [if_pos rfl, show qn g f (f + m) + 1 = (qn g f (f + m)) + 1 from rfl]
      show _ ≤ sumK G 0 (qn g f (f + m)) + G (0 + qn g f (f + m))
      rw [Nat.zero_add]
      omega

/-! ### How many entries a token has -/
theorem pigeon {α : Type} {a b : α} : ∀ {l : List α}, l.Nodup → (∀ x ∈ l, x = a ∨ x = b) → l.length ≤ 2
  | [], _, _ => by simp
  | [_], _, _ => by simp
  | [_, _], _, _ => by simp
  | x :: y :: z :: l, hn, h => by
    exfalso
    have hx := h x (by simp)
    have hy := h y (by simp)
    have hz := h z (by simp)
    simp only [List.nodup_cons, List.mem_cons, not_or] at hn
    obtain ⟨⟨h1, h2, _⟩, ⟨h3, _⟩, _⟩ := hn
    rcases hx with rfl | rfl <;> rcases hy with rfl | rfl <;> rcases hz with rfl | rfl <;> simp_all
theorem pigeon1 {α : Type} {a : α} : ∀ {l : List α}, l.Nodup → (∀ x ∈ l, x = a) → l.length ≤ 1
  | [], _, _ => by simp
  | [_], _, _ => by simp
  | x :: y :: l, hn, h => by
    exfalso
    have hx := h x (by simp)
    have hy := h y (by simp)
    simp only [List.nodup_cons, List.mem_cons, not_or] at hn
    exact hn.1.1 (hx.trans hy.symm)
/-- The words of which a word is the third form. -/
theorem third_two_of (tok : List UInt8) : ∃ a b : List UInt8, ∀ w, thirdS w = tok → w = a ∨ w = b := by
  have key : ∀ w, thirdS w = tok → (w = tok.take (tok.length - 1) ∨ (w = tok.take (tok.length - 2) ∧ thirdS w = w ++ [101, 115])) ∨ (w = tok.take (tok.length - 3) ++ [121] ∧ tok = tok.take (tok.length - 3) ++ [105, 101, 115]) := by
    intro w hw
    rcases third_shape w with (h | h) | ⟨⟨p, hp⟩, h⟩
    · refine .inl (.inl ?_)
      rw [← hw, h]; simp
    · refine .inl (.inr ⟨?_, h⟩)
      rw [← hw, h]; simp
    · refine .inr ?_
      subst hp
      have h2 : thirdS (p ++ [121]) = p ++ [105, 101, 115] := by rw [h]; simp
      rw [← hw, h2]
      simp
  by_cases hC : ∃ w, thirdS w = tok ∧ w = tok.take (tok.length - 3) ++ [121] ∧ tok = tok.take (tok.length - 3) ++ [105, 101, 115]
  · obtain ⟨_, _, _, hC⟩ := hC
    refine ⟨tok.take (tok.length - 1), tok.take (tok.length - 3) ++ [121], fun w hw => ?_⟩
    rcases key w hw with (h | ⟨h, h2⟩) | ⟨h, _⟩
    · exact .inl h
    · exfalso
      obtain ⟨p, hp⟩ : ∃ p, p = tok.take (tok.length - 3) := ⟨_, rfl⟩
      rw [← hp] at hC
      have hwe : w = p ++ [105] := by
        rw [h, hC, show (p ++ [105, 101, 115] : List UInt8).length - 2 = p.length + 1 by simp, List.take_append]
        simp
        exact List.take_of_length_le (by omega)
      obtain ⟨e, he, hf, ht⟩ := third_some w
      have hl := congrArg List.length (ht.symm.trans h2)
      rw [hwe] at hf
      have hs : ∀ e ∈ endsS, (Lib.hasSuffix [105] e.1 = true ∨ 2 ≤ e.1.length → e.2.2.1 = 0 ∧ (e.2.2.2.length = 1 ∨ e.1 = [99, 104] ∨ e.1 = [115, 104])) ∧ (e.1.length ≤ 1 ∨ e.1 = [99, 104] ∨ e.1 = [115, 104]) := by decide
      have h3 : Lib.hasSuffix (p ++ [105]) e.1 = true := by
        unfold fitsS at hf
        simp only [Bool.and_eq_true] at hf
        exact hf.1
      rw [Lib.hasSuffix, List.isSuffixOf_iff_suffix] at h3
      obtain ⟨u, hu⟩ := h3
      have hall : ∀ e ∈ endsS, e.1 = [] ∧ e.2.2.2.length = 1 ∧ e.2.2.1 = 0 ∨ (∃ z, e.1.getLast? = some z ∧ z ≠ 105) := by
        intro e he
        simp only [endsS, List.mem_cons, List.not_mem_nil, or_false] at he
        rcases he with rfl | rfl | rfl | rfl | rfl | rfl | rfl | rfl <;> first
          | exact .inr ⟨_, rfl, by decide⟩
          | exact .inl ⟨rfl, rfl, rfl⟩
      rcases hall e he with ⟨_, h4, h5⟩ | ⟨z, h4, h5⟩
      · simp only [putS, h5, Nat.sub_zero, List.take_length, List.length_append, h4, List.length_cons, List.length_nil] at hl
        omega
      · have h6 := congrArg List.getLast? hu
        rw [List.getLast?_append, h4] at h6
        simp at h6
        exact h5 h6
    · exact .inr h
  · refine ⟨tok.take (tok.length - 1), tok.take (tok.length - 2), fun w hw => ?_⟩
    rcases key w hw with (h | ⟨h, h2⟩) | h
    · exact .inl h
    · exact .inr h
    · exact absurd ⟨w, hw, h⟩ hC
theorem cat_word_once {l : List Ent} (hv : validS l = true) {i j : Nat} (hi : i < l.length) (hj : j < l.length) (hw : l[i].w = l[j].w) (hc : l[i].cat = l[j].cat) : i = j := by
  have hp := List.pairwise_iff_getElem.1 ((valid_iff l).1 hv).2.2.1
  rcases Nat.lt_trichotomy i j with h | h | h
  · have := hp i j hi hj h
    rcases this with h1 | ⟨_, h1⟩
    · rw [hw, bl_irrefl] at h1; cases h1
    · omega
  · exact h
  · have := hp j i hj hi h
    rcases this with h1 | ⟨_, h1⟩
    · rw [hw, bl_irrefl] at h1; cases h1
    · omega
theorem look_nodup (tok : List UInt8) (l : List Ent) : ((lookS tok l).map Prod.fst).Nodup := by
  rw [List.Nodup, List.pairwise_map]
  exact (look_sorted tok l).imp (fun h => Nat.ne_of_lt h)
theorem ents_len {g : Gr} (hv : validS g.l = true) (tok : List UInt8) (b : Bool) (s : StepS) (hb : b = true → catR s.rule = 4 ∨ catR s.rule = 5) (h0 : catR s.rule ≠ 0) :
    (entsS g tok b s).length ≤ (if b = true then 2 else 1) ∧ (isConn tok = true → (entsS g tok b s) = []) := by
  obtain ⟨L, hL⟩ : ∃ L, L = ((lookS tok g.l).filter fun x => x.2 == b && catAt g.l x.1 == catR s.rule) := ⟨_, rfl⟩
  have hlen : (entsS g tok b s).length = (L.map Prod.fst).length := by unfold entsS; rw [hL]; simp
  have hmem : ∀ e ∈ L.map Prod.fst, (e, b) ∈ lookS tok g.l ∧ catAt g.l e = catR s.rule ∧ e < g.l.length := by
    intro e he
    obtain ⟨x, hx, rfl⟩ := List.mem_map.1 he
    rw [hL, List.mem_filter] at hx
    obtain ⟨h1, h2⟩ := hx
    simp only [Bool.and_eq_true, beq_iff_eq] at h2
    obtain ⟨x1, x2⟩ := x
    obtain ⟨rfl, h3⟩ := h2
    exact ⟨h1, h3, catAt_lt h3 h0⟩
  have hnd : (L.map Prod.fst).Nodup := by
    rw [hL]
    exact (List.Sublist.map _ (List.filter_sublist)).nodup (look_nodup tok g.l)
  have hword : ∀ e ∈ L.map Prod.fst, ∃ h : e < g.l.length, (if b = true then thirdS g.l[e].w else g.l[e].w) = tok ∧ g.l[e].cat = catR s.rule ∧ (b = true → plainS g.l[e].w = true) := by
    intro e he
    obtain ⟨h1, h2, h3⟩ := hmem e he
    refine ⟨h3, ?_, by rw [← catAt_at h3]; exact h2, fun hb' => ?_⟩
    · cases b
      · have := (ent_false h3).1 h1
        rw [ownW_at h3] at this
        exact this
      · have hc := hb rfl
        rw [← h2] at hc
        have := (ent_true hv h3 hc).1 h1
        rw [ownW_at h3] at this
        rw [catAt_at h3] at hc
        have hp := right_verb (valid_right hv h3) hc
        unfold thirdV at this
        rw [hp] at this
        exact this
    · have hc := hb hb'
      rw [← h2, catAt_at h3] at hc
      exact right_verb (valid_right hv h3) hc
  constructor
  · rw [hlen]
    cases b
    · rw [if_neg (by decide)]
      have hinj : ∀ e ∈ L.map Prod.fst, ∀ e' ∈ L.map Prod.fst, e = e' := by
        intro e he e' he'
        obtain ⟨h1, h2, h3, _⟩ := hword e he
        obtain ⟨k1, k2, k3, _⟩ := hword e' he'
        rw [if_neg (by decide)] at h2 k2
        exact cat_word_once hv h1 k1 (h2.trans k2.symm) (h3.trans k3.symm)
      cases hl : L.map Prod.fst with
      | nil => simp
      | cons x xs => exact pigeon1 (a := x) (hl ▸ hnd) (fun y hy => hinj y (hl ▸ hy) x (hl ▸ by simp))
    · rw [if_pos rfl]
      obtain ⟨a, c, hac⟩ := third_two_of tok
      have hnd2 : ((L.map Prod.fst).map fun e => (g.l.getD e ⟨⟨#[]⟩, 0, ⟨#[]⟩⟩).w).Nodup := by
        rw [List.Nodup, List.pairwise_map]
        refine hnd.imp_of_mem (fun {e e'} he he' hne hw => hne ?_)
        obtain ⟨h1, h2, h3, _⟩ := hword e he
        obtain ⟨k1, k2, k3, _⟩ := hword e' he'
        simp only [List.getD, List.getElem?_eq_getElem h1, List.getElem?_eq_getElem k1, Option.getD_some] at hw
        exact cat_word_once hv h1 k1 hw (h3.trans k3.symm)
      have := pigeon (a := a) (b := c) hnd2 (fun x hx => by
        obtain ⟨e, he, rfl⟩ := List.mem_map.1 hx
        obtain ⟨h1, h2, _, _⟩ := hword e he
        rw [if_pos rfl] at h2
        simp only [List.getD, List.getElem?_eq_getElem h1, Option.getD_some]
        exact hac _ h2)
      rwa [List.length_map] at this
  · intro hc
    rw [← List.length_eq_zero_iff, hlen]
    cases hl : L.map Prod.fst with
    | nil => rfl
    | cons x xs =>
      exfalso
      obtain ⟨h1, h2, h3, h4⟩ := hword x (hl ▸ by simp)
      have hr := valid_right hv h1
      cases b
      · rw [if_neg (by decide)] at h2
        unfold rightS at hr
        rw [h2] at hr
        have key : ∀ w, isConn w = true → properS w = false ∧ isFn w = true := by
          intro w hw
          unfold isConn at hw
          simp only [Bool.or_eq_true, beq_iff_eq] at hw
          rcases hw with rfl | rfl | rfl | rfl | rfl <;> decide
        obtain ⟨k1, k2⟩ := key tok hc
        rw [k1, k2] at hr
        simp at hr
      · rw [if_pos rfl] at h2
        have := third_ends g.l[x].w
        rw [h2] at this
        unfold isConn at hc
        simp only [Bool.or_eq_true, beq_iff_eq] at hc
        rcases hc with rfl | rfl | rfl | rfl | rfl <;> revert this <;> decide

/-! ### The table -/
def tabB : List (List (List Nat)) := [[[], [], [], [], [], [], [], [], [], []],
  [[], [], [2], [5], [10, 4], [19, 14], [46, 30, 20], [113, 76, 66], [239, 194, 161, 96], [465, 450, 410, 352]],
  [[], [1], [1], [1], [3], [8], [15, 4], [22, 10], [39, 20, 16], [83, 35, 40]],
  [[], [1], [1], [3], [8], [15, 4], [22, 10], [39, 20, 16], [83, 35, 40], [169, 80, 80, 80]],
  [[], [2], [3], [5, 4], [5, 6], [11, 10, 16], [28, 15, 24], [56, 37, 40, 80], [89, 90, 60, 120], [154, 186, 196, 200, 448]],
  [[], [2], [], [], [], [], [], [], [], []],
  [[], [1], [1], [1], [1], [3], [8], [15, 4], [22, 10], [39, 20, 16]],
  [[], [1], [1], [1], [3], [8], [15, 4], [22, 10], [39, 20, 16], [83, 35, 40]]]
def tB (k n q : Nat) : Nat := ((tabB.getD k []).getD n []).getD q 0
def glueB (k n q i : Nat) : Nat := supK (fun x => tB k x i * tB k (n - 1 - x) (q - 1 - i)) n
def recB (k n q : Nat) : Nat :=
  if n = 0 then 0 else
  if k = 1 then sumK (glueB 1 n q) 0 q + sumK (glueB 1 (n - 1) (q - 1)) 0 (q - 1) + sumK (fun x => supK (fun j => tB 2 x j * tB 4 (n - x) (q - j)) (q + 1)) 1 (n - 1)
  else if k = 2 then (if n = 1 then (if q = 0 then 1 else 0) else tB 3 (n - 1) q)
  else if k = 3 then (if n = 1 then (if q = 0 then 1 else 0) else tB 3 (n - 1) q + (if 2 < n then tB 4 (n - 2) q + tB 2 (n - 3) q * 2 else 0))
  else if k = 4 then (if n = 1 then (if q = 0 then 2 else 0) else 2 * tB 2 (n - 1) q + tB 7 (n - 1) q + (if 2 < n then tB 6 (n - 2) q + tB 7 (n - 2) q else 0)) + sumK (glueB 4 n q) 0 q
  else if k = 5 then (if n = 1 then (if q = 0 then 2 else 0) else 0)
  else if k = 6 then (if n = 1 then (if q = 0 then 1 else 0) else tB 2 (n - 1) q)
  else (if n = 1 then (if q = 0 then 1 else 0) else tB 3 (n - 1) q)
theorem tab_ok : ∀ k, k < 8 → 1 ≤ k → ∀ n, n < 10 → ∀ q, q < 10 → recB k n q ≤ tB k n q := by decide +kernel
theorem tab_small : ∀ n, n < 10 → ∀ q, q < 10 → tB 1 n q ≤ 1000 := by decide +kernel

/-! ### The bound -/
def sumS (g : Gr) (l : List StepS) : Nat := (l.map fun s => prodS (cntS g) s.parts).sum
theorem sumS_append (g : Gr) (a b : List StepS) : sumS g (a ++ b) = sumS g a + sumS g b := by unfold sumS; rw [List.map_append, List.sum_append]
theorem sumS_nil (g : Gr) : sumS g [] = 0 := rfl
theorem sumS_one (g : Gr) (r e k f t : Nat) (w : List UInt8) : sumS g [⟨r, e, w, [(k, f, t)]⟩] = cntS g k f t := by
  unfold sumS
  rw [List.map_cons, List.map_nil, List.sum_cons, List.sum_nil, Nat.add_zero, prodS_one]
theorem cnt_le_sum (g : Gr) {k f t : Nat} (h1 : 1 ≤ k) (h7 : k ≤ 7) (ht : t ≤ g.toks.length) : cntS g k f t ≤ sumS g (stepsS g k f t) := by
  rw [cnt_steps g h1 h7 ht]; exact Nat.min_le_right _ _
theorem halves_sum (g : Gr) (f t r k : Nat) (w : List UInt8) : sumS g (halvesS g f t r w k) ≤ sumK (fun j => if tokAt g j = w then cntS g k f j * cntS g k (j + 1) t else 0) f (t - f) := by
  unfold sumS halvesS
  rw [sum_filterMap (fun j => tokAt g j = w), sum_range]
  refine sumK_le _ (fun i _ => ?_)
  split
  · rw [prodS_two]; exact Nat.min_le_right _ _
  · exact Nat.le_refl _
theorem ents_sum {g : Gr} (hv : validS g.l = true) (tok : List UInt8) (b : Bool) (s : StepS) (hb : b = true → catR s.rule = 4 ∨ catR s.rule = 5) (h0 : catR s.rule ≠ 0) :
    sumS g (entsS g tok b s) ≤ if isConn tok = true then 0 else (if b = true then 2 else 1) * prodS (cntS g) s.parts := by
  obtain ⟨h1, h2⟩ := ents_len hv tok b s hb h0
  by_cases hc : isConn tok = true
  · rw [h2 hc, if_pos hc, sumS_nil]; exact Nat.le_refl _
  · rw [if_neg hc]
    unfold sumS
    refine Nat.le_trans (sum_const_le _ (prodS (cntS g) s.parts) _ (fun a ha => ?_)) (Nat.mul_le_mul_right _ h1)
    unfold entsS at ha
    obtain ⟨x, _, rfl⟩ := List.mem_map.1 ha
    exact Nat.le_refl _
theorem qn_first (g : Gr) {f t : Nat} (h : f < t) (ht : t ≤ g.toks.length) : qn g f t = (if isConn (tokAt g f) = true then 1 else 0) + qn g (f + 1) t := by
  rw [qn_app g (k := f + 1) (by omega) (by omega), qn_one g (by omega)]
theorem qn_skip (g : Gr) {f t : Nat} (h : f < t) (ht : t ≤ g.toks.length) (hc : isConn (tokAt g f) = false) : qn g (f + 1) t = qn g f t := by
  rw [qn_first g h ht, hc]; simp
/-- The bound holds for shorter spans. -/
def Below9 (g : Gr) (n : Nat) : Prop := ∀ k f t, t - f < n → 1 ≤ k → k ≤ 7 → t ≤ g.toks.length → cntS g k f t ≤ tB k (t - f) (qn g f t)
theorem prodS_nil (c : Nat → Nat → Nat → Nat) : prodS c [] = 1 := rfl
/-- One token alone. -/
theorem one_sum {g : Gr} (hv : validS g.l = true) {f t : Nat} (h : t = f + 1) (ht : t ≤ g.toks.length) (b : Bool) (r : Nat) (hb : b = true → catR r = 4 ∨ catR r = 5) (h0 : catR r ≠ 0) :
    sumS g (entsS g (tokAt g f) b ⟨r, 0, [], []⟩) ≤ if qn g f t = 0 then (if b = true then 2 else 1) else 0 := by
  have h1 := ents_sum hv (tokAt g f) b ⟨r, 0, [], []⟩ hb h0
  rw [prodS_nil, Nat.mul_one] at h1
  subst h
  rw [qn_one g ht]
  refine Nat.le_trans h1 ?_
  cases isConn (tokAt g f) <;> simp
/-- An entry, and one part behind it. -/
theorem lead_sum {g : Gr} (hv : validS g.l = true) {f t d : Nat} (h : f + 1 < t) (ht : t ≤ g.toks.length) (ih : Below9 g (t - f)) (b : Bool) (r k : Nat) (w : List UInt8) (h1 : 1 ≤ k) (h7 : k ≤ 7) (hb : b = true → catR r = 4 ∨ catR r = 5) (h0 : catR r ≠ 0) (hd : d = f + 1 ∨ (d = f + 2 ∧ isConn (tokAt g (f + 1)) = false)) :
    sumS g (entsS g (tokAt g f) b ⟨r, 0, w, [(k, d, t)]⟩) ≤ (if b = true then 2 else 1) * tB k (t - d) (qn g f t) := by
  have h2 := ents_sum hv (tokAt g f) b ⟨r, 0, w, [(k, d, t)]⟩ hb h0
  rw [prodS_one] at h2
  refine Nat.le_trans h2 ?_
  cases hc : isConn (tokAt g f)
  · rw [if_neg (by decide)]
    refine Nat.mul_le_mul_left _ ?_
    refine Nat.le_trans (ih k d t (by omega) h1 h7 ht) ?_
    have hq : qn g d t = qn g f t := by
      rcases hd with rfl | ⟨rfl, hc2⟩
      · exact qn_skip g (by omega) ht hc
      · rw [← qn_skip g (by omega) ht hc, ← qn_skip g h ht hc2]
    show tB k (t - d) (qn g d t) ≤ _
    rw [hq]; exact Nat.le_refl _
  · rw [if_pos rfl]; exact Nat.zero_le _
theorem glue_at {g : Gr} {k f t j : Nat} (ih : Below9 g (t - f)) (h1 : 1 ≤ k) (h7 : k ≤ 7) (ht : t ≤ g.toks.length) (hf : f ≤ j) (hj : j < t) (hc : isConn (tokAt g j) = true) :
    cntS g k f j * cntS g k (j + 1) t ≤ glueB k (t - f) (qn g f t) (qn g f j) := by
  have e1 := ih k f j (by omega) h1 h7 (by omega)
  have e2 := ih k (j + 1) t (by omega) h1 h7 ht
  have hq : qn g f t = qn g f j + (1 + qn g (j + 1) t) := by
    rw [qn_app g hf (Nat.le_of_lt hj), qn_first g hj ht, hc]; rfl
  refine Nat.le_trans (Nat.mul_le_mul e1 e2) ?_
  have h3 := le_supK (fun x => tB k x (qn g f j) * tB k (t - f - 1 - x) (qn g f t - 1 - qn g f j)) (t - f) (j - f) (by omega)
  refine Nat.le_trans (Nat.le_of_eq ?_) h3
  show _ = tB k (j - f) (qn g f j) * tB k (t - f - 1 - (j - f)) (qn g f t - 1 - qn g f j)
  rw [show t - f - 1 - (j - f) = t - (j + 1) by omega, show qn g f t - 1 - qn g f j = qn g (j + 1) t by omega]
theorem states_sum {g : Gr} (hv : validS g.l = true) {f t : Nat} (h : f < t) (ht : t ≤ g.toks.length) (ih : Below9 g (t - f)) : sumS g (statesS g f t) ≤ recB 7 (t - f) (qn g f t) := by
  have hr : recB 7 (t - f) (qn g f t) = if t - f = 1 then (if qn g f t = 0 then 1 else 0) else tB 3 (t - f - 1) (qn g f t) := by
    unfold recB; rw [if_neg (show ¬ t - f = 0 by omega)]; rfl
  rw [hr]
  unfold statesS
  by_cases h1 : t = f + 1
  · rw [if_pos h1, if_pos (show t - f = 1 by omega)]
    exact one_sum hv h1 ht false 14 (fun h => by cases h) (by decide)
  · rw [if_neg h1, if_neg (show ¬ t - f = 1 by omega)]
    split
    · rename_i ha
      rw [sumS_one]
      have hc : isConn (tokAt g f) = false := by
        rw [ha.2]
        rcases article_or (tokAt g (f + 1)) with e | e <;> rw [e] <;> decide
      refine Nat.le_trans (ih 3 (f + 1) t (by omega) (by decide) (by decide) ht) ?_
      rw [qn_skip g h ht hc, show t - (f + 1) = t - f - 1 by omega]
      exact Nat.le_refl _
    · exact Nat.zero_le _
theorem verbs_sum {g : Gr} (hv : validS g.l = true) {f t : Nat} (h : f < t) (ht : t ≤ g.toks.length) (ih : Below9 g (t - f)) (b : Bool) : sumS g (verbsS g f t b) ≤ if t - f = 1 then (if qn g f t = 0 then (if b = true then 2 else 1) else 0) else (if b = true then 2 else 1) * tB 2 (t - f - 1) (qn g f t) := by
  unfold verbsS
  rw [if_neg (by omega)]
  by_cases h1 : t = f + 1
  · rw [if_pos h1, if_pos (show t - f = 1 by omega)]
    exact one_sum hv h1 ht b 12 (fun _ => .inl rfl) (by decide)
  · rw [if_neg h1, if_neg (show ¬ t - f = 1 by omega)]
    have := lead_sum hv (d := f + 1) (by omega) ht ih b 13 2 [] (by decide) (by decide) (fun _ => .inr rfl) (by decide) (.inl rfl)
    rwa [show t - (f + 1) = t - f - 1 by omega] at this
theorem second_at {g : Gr} {f t : Nat} {w : List UInt8} (h : secondS g f t = w) (hw : w ≠ []) : f + 1 < t ∧ tokAt g (f + 1) = w := by
  unfold secondS at h
  by_cases h1 : f + 1 < t
  · rw [if_pos h1] at h; exact ⟨h1, h⟩
  · rw [if_neg h1] at h; exact absurd h.symm hw
/-- **The bound.** -/
theorem cnt_bound {g : Gr} (hv : validS g.l = true) : ∀ n, n < 10 → ∀ k f t, t - f = n → 1 ≤ k → k ≤ 7 → t ≤ g.toks.length → cntS g k f t ≤ tB k n (qn g f t) := by
  intro n
  induction n using Nat.strongRecOn with
  | _ n ihn =>
    intro hn k f t hnt h1 h7 ht
    by_cases hlt : f < t
    · have ih : Below9 g (t - f) := fun k' f' t' hl a b c => ihn (t' - f') (by omega) (by omega) k' f' t' rfl a b c
      have hq := qn_le g (f := f) ht
      refine Nat.le_trans (cnt_le_sum g h1 h7 ht) (Nat.le_trans ?_ (tab_ok k (by omega) h1 n hn (qn g f t) (by omega)))
      obtain ⟨q, hqd⟩ : ∃ q, q = qn g f t := ⟨_, rfl⟩
      have hst := steps_at (g := g) hlt
      rw [← hnt]
      rcases (show k = 1 ∨ k = 2 ∨ k = 3 ∨ k = 4 ∨ k = 5 ∨ k = 6 ∨ k = 7 by omega) with rfl | rfl | rfl | rfl | rfl | rfl | rfl
      · -- clauses
        rw [hst.1]
        have hr : recB 1 (t - f) (qn g f t) = sumK (glueB 1 (t - f) (qn g f t)) 0 (qn g f t) + sumK (glueB 1 (t - f - 1) (qn g f t - 1)) 0 (qn g f t - 1) + sumK (fun x => supK (fun j => tB 2 x j * tB 4 (t - f - x) (qn g f t - j)) (qn g f t + 1)) 1 (t - f - 1) := by
          unfold recB; rw [if_neg (show ¬ t - f = 0 by omega), if_pos rfl]
        rw [hr]
        unfold clauseS
        rw [sumS_append, sumS_append, sumS_append, sumS_append]
        have e1 : sumS g (if tokAt g f = wIf then halvesS g (f + 1) t 1 wThen 1 else []) ≤ sumK (glueB 1 (t - f - 1) (qn g f t - 1)) 0 (qn g f t - 1) := by
          split
          · rename_i hi
            have hc : isConn (tokAt g f) = true := by rw [hi]; decide
            have hq1 : qn g (f + 1) t = qn g f t - 1 := by rw [qn_first g hlt ht, hc]; simp
            refine Nat.le_trans (halves_sum g (f + 1) t 1 1 wThen) ?_
            have hs := conn_sum (g := g) (F := fun j => if tokAt g j = wThen then cntS g 1 (f + 1) j * cntS g 1 (j + 1) t else 0) (G := glueB 1 (t - (f + 1)) (qn g (f + 1) t)) (f := f + 1) (t - (f + 1)) (by omega) (fun j a b => by
              by_cases hw : tokAt g j = wThen
              · have hcj : isConn (tokAt g j) = true := by rw [hw]; decide
                simp only [if_pos hw, if_pos hcj]
                exact glue_at (fun k' f' t' hl => ih k' f' t' (by omega)) (by decide) (by decide) ht a (by omega) hcj
              · simp only [if_neg hw]; exact Nat.zero_le _)
            rw [show f + 1 + (t - (f + 1)) = t by omega, hq1, show t - (f + 1) = t - f - 1 by omega] at hs
            rw [show t - (f + 1) = t - f - 1 by omega]
            exact hs
          · exact Nat.zero_le _
        have e2 : sumS g (halvesS g f t 2 wIff 1) + sumS g (halvesS g f t 3 wOr 1) + sumS g (halvesS g f t 4 wAnd 1) ≤ sumK (glueB 1 (t - f) (qn g f t)) 0 (qn g f t) := by
          have a1 := halves_sum g f t 2 1 wIff
          have a2 := halves_sum g f t 3 1 wOr
          have a3 := halves_sum g f t 4 1 wAnd
          have hs := conn_sum (g := g) (F := fun j => ((if tokAt g j = wIff then cntS g 1 f j * cntS g 1 (j + 1) t else 0) + (if tokAt g j = wOr then cntS g 1 f j * cntS g 1 (j + 1) t else 0)) + (if tokAt g j = wAnd then cntS g 1 f j * cntS g 1 (j + 1) t else 0)) (G := glueB 1 (t - f) (qn g f t)) (f := f) (t - f) (by omega) (fun j a b => by
            have hd : ¬ wIff = wOr ∧ ¬ wIff = wAnd ∧ ¬ wOr = wAnd := by decide
            have hd' : ¬ wOr = wIff ∧ ¬ wAnd = wIff ∧ ¬ wAnd = wOr := by decide
            by_cases hw : tokAt g j = wIff ∨ tokAt g j = wOr ∨ tokAt g j = wAnd
            · have hcj : isConn (tokAt g j) = true := by rcases hw with e | e | e <;> rw [e] <;> decide
              rw [if_pos hcj]
              refine Nat.le_trans (Nat.le_of_eq ?_) (glue_at ih (by decide) (by decide) ht a (by omega) hcj)
              rcases hw with e | e | e
              · simp only [e, if_true, if_neg hd.1, if_neg hd.2.1]; omega
              · simp only [e, if_true, if_neg hd'.1, if_neg hd.2.2]; omega
              · simp only [e, if_true, if_neg hd'.2.1, if_neg hd'.2.2]; omega
            · have n1 : ¬ tokAt g j = wIff := fun h => hw (.inl h)
              have n2 : ¬ tokAt g j = wOr := fun h => hw (.inr (.inl h))
              have n3 : ¬ tokAt g j = wAnd := fun h => hw (.inr (.inr h))
              simp only [if_neg n1, if_neg n2, if_neg n3]; exact Nat.zero_le _)
          rw [sumK_add, sumK_add, show f + (t - f) = t by omega] at hs
          omega
        have e3 : sumS g (((List.range (t - (f + 1))).map (· + (f + 1))).map fun k => ⟨5, 0, [], [(2, f, k), (4, k, t)]⟩) ≤ sumK (fun x => supK (fun j => tB 2 x j * tB 4 (t - f - x) (qn g f t - j)) (qn g f t + 1)) 1 (t - f - 1) := by
          unfold sumS
          rw [List.map_map]
          show (((List.range (t - (f + 1))).map (· + (f + 1))).map (fun k => prodS (cntS g) [(2, f, k), (4, k, t)])).sum ≤ _
          rw [sum_range, show t - (f + 1) = t - f - 1 by omega]
          refine sumK_le _ (fun i hi => ?_)
          rw [prodS_two]
          refine Nat.le_trans (Nat.min_le_right _ _) ?_
          have b1 := ih 2 f (f + 1 + i) (by omega) (by decide) (by decide) (by omega)
          have b2 := ih 4 (f + 1 + i) t (by omega) (by decide) (by decide) ht
          have hqa := qn_app g (f := f) (k := f + 1 + i) (t := t) (by omega) (by omega)
          refine Nat.le_trans (Nat.mul_le_mul b1 b2) ?_
          have h3 := le_supK (fun j => tB 2 (1 + i) j * tB 4 (t - f - (1 + i)) (qn g f t - j)) (qn g f t + 1) (qn g f (f + 1 + i)) (by omega)
          refine Nat.le_trans (Nat.le_of_eq ?_) h3
          show _ = tB 2 (1 + i) (qn g f (f + 1 + i)) * tB 4 (t - f - (1 + i)) (qn g f t - qn g f (f + 1 + i))
          rw [show f + 1 + i - f = 1 + i by omega, show t - (f + 1 + i) = t - f - (1 + i) by omega, show qn g f t - qn g f (f + 1 + i) = qn g (f + 1 + i) t by omega]
        omega
      · -- noun phrases
        rw [hst.2.1]
        have hr : recB 2 (t - f) (qn g f t) = if t - f = 1 then (if qn g f t = 0 then 1 else 0) else tB 3 (t - f - 1) (qn g f t) := by
          unfold recB; rw [if_neg (show ¬ t - f = 0 by omega)]; rfl
        rw [hr]
        unfold nounPS
        by_cases hone : t = f + 1
        · rw [if_pos hone, if_pos (show t - f = 1 by omega)]
          exact one_sum hv hone ht false 6 (fun h => by cases h) (by decide)
        · rw [if_neg hone, if_neg (show ¬ t - f = 1 by omega)]
          have key : ∀ w, isConn (tokAt g f) = false → sumS g [⟨7, 0, w, [(3, f + 1, t)]⟩] ≤ tB 3 (t - f - 1) (qn g f t) := by
            intro w hc
            rw [sumS_one]
            refine Nat.le_trans (ih 3 (f + 1) t (by omega) (by decide) (by decide) ht) ?_
            rw [qn_skip g hlt ht hc, show t - (f + 1) = t - f - 1 by omega]
            exact Nat.le_refl _
          by_cases ha : tokAt g f = wA ∨ tokAt g f = [97, 110]
          · rw [if_pos ha]
            split
            · exact key _ (by rcases ha with e | e <;> rw [e] <;> decide)
            · exact Nat.zero_le _
          · rw [if_neg ha]
            split
            · rename_i hm
              exact key _ (by
                simp only [List.mem_cons, List.not_mem_nil, or_false] at hm
                rcases hm with e | e | e | e <;> rw [e] <;> decide)
            · exact Nat.zero_le _
      · -- nouns
        rw [hst.2.2.1]
        have hr : recB 3 (t - f) (qn g f t) = if t - f = 1 then (if qn g f t = 0 then 1 else 0) else tB 3 (t - f - 1) (qn g f t) + (if 2 < t - f then tB 4 (t - f - 2) (qn g f t) + tB 2 (t - f - 3) (qn g f t) * 2 else 0) := by
          unfold recB; rw [if_neg (show ¬ t - f = 0 by omega)]; rfl
        rw [hr]
        unfold nounS'
        by_cases hone : t = f + 1
        · rw [if_pos hone, if_pos (show t - f = 1 by omega)]
          exact one_sum hv hone ht false 8 (fun h => by cases h) (by decide)
        · rw [if_neg hone, if_neg (show ¬ t - f = 1 by omega), sumS_append]
          have a1 := lead_sum hv (d := f + 1) (by omega) ht ih false 9 3 [] (by decide) (by decide) (fun h => by cases h) (by decide) (.inl rfl)
          rw [if_neg (by decide), Nat.one_mul, show t - (f + 1) = t - f - 1 by omega] at a1
          refine Nat.add_le_add a1 ?_
          split
          · rename_i hs
            obtain ⟨hs, h2⟩ := hs
            rw [if_pos (by omega), sumS_append]
            have hc2 : isConn (tokAt g (f + 1)) = false := by
              rcases hs with e | e
              · rw [(second_at e (by decide)).2]; decide
              · rw [(second_at e (by decide)).2]; decide
            have a2 := lead_sum hv (d := f + 2) (by omega) ht ih false 10 4 (secondS g f t) (by decide) (by decide) (fun h => by cases h) (by decide) (.inr ⟨rfl, hc2⟩)
            rw [if_neg (by decide), Nat.one_mul, show t - (f + 2) = t - f - 2 by omega] at a2
            refine Nat.add_le_add a2 ?_
            have a3 := ents_sum hv (tokAt g f) false ⟨11, 0, secondS g f t, [(2, f + 2, t - 1), (5, t - 1, t)]⟩ (fun h => by cases h) (show catR 11 ≠ 0 by decide)
            rw [prodS_two, if_neg (show ¬ false = true by decide), Nat.one_mul] at a3
            refine Nat.le_trans a3 ?_
            cases hc : isConn (tokAt g f)
            · rw [if_neg (by decide)]
              refine Nat.le_trans (Nat.min_le_right _ _) ?_
              have b1 := ih 2 (f + 2) (t - 1) (by omega) (by decide) (by decide) (by omega)
              have b2 := ih 5 (t - 1) t (by omega) (by decide) (by decide) ht
              refine Nat.le_trans (Nat.mul_le_mul b1 b2) ?_
              have hq2 : qn g (f + 2) t = qn g f t := by rw [← qn_skip g hlt ht hc, ← qn_skip g (by omega) ht hc2]
              have hqa := qn_app g (f := f + 2) (k := t - 1) (t := t) (by omega) (by omega)
              have hql := qn_one g (f := t - 1) (by omega)
              rw [show t - 1 + 1 = t by omega] at hql
              rw [show t - 1 - (f + 2) = t - f - 3 by omega, show t - (t - 1) = 1 by omega, hql]
              cases hcl : isConn (tokAt g (t - 1))
              · rw [hcl] at hql
                rw [show qn g (f + 2) (t - 1) = qn g f t by rw [← hq2, hqa, hql]; simp]
                exact Nat.mul_le_mul_left _ (by decide)
              · rw [if_pos rfl, show tB 5 1 1 = 0 by decide, Nat.mul_zero]; exact Nat.zero_le _
            · rw [if_pos rfl]; exact Nat.zero_le _
          · exact Nat.zero_le _
      · -- verb phrases
        rw [hst.2.2.2.1]
        have hr : recB 4 (t - f) (qn g f t) = (if t - f = 1 then (if qn g f t = 0 then 2 else 0) else 2 * tB 2 (t - f - 1) (qn g f t) + tB 7 (t - f - 1) (qn g f t) + (if 2 < t - f then tB 6 (t - f - 2) (qn g f t) + tB 7 (t - f - 2) (qn g f t) else 0)) + sumK (glueB 4 (t - f) (qn g f t)) 0 (qn g f t) := by
          unfold recB; rw [if_neg (show ¬ t - f = 0 by omega)]; rfl
        rw [hr]
        unfold verbPS
        rw [sumS_append, sumS_append, sumS_append, sumS_append, sumS_append]
        have e2 : sumS g (halvesS g f t 17 wOr 4) + sumS g (halvesS g f t 18 wAnd 4) ≤ sumK (glueB 4 (t - f) (qn g f t)) 0 (qn g f t) := by
          have a2 := halves_sum g f t 17 4 wOr
          have a3 := halves_sum g f t 18 4 wAnd
          have hs := conn_sum (g := g) (F := fun j => (if tokAt g j = wOr then cntS g 4 f j * cntS g 4 (j + 1) t else 0) + (if tokAt g j = wAnd then cntS g 4 f j * cntS g 4 (j + 1) t else 0)) (G := glueB 4 (t - f) (qn g f t)) (f := f) (t - f) (by omega) (fun j a b => by
            have hd : ¬ wOr = wAnd := by decide
            have hd' : ¬ wAnd = wOr := by decide
            by_cases hw : tokAt g j = wOr ∨ tokAt g j = wAnd
            · have hcj : isConn (tokAt g j) = true := by rcases hw with e | e <;> rw [e] <;> decide
              rw [if_pos hcj]
              refine Nat.le_trans (Nat.le_of_eq ?_) (glue_at ih (by decide) (by decide) ht a (by omega) hcj)
              rcases hw with e | e
              · simp only [e, if_true, if_neg hd]; omega
              · simp only [e, if_true, if_neg hd']; omega
            · have n2 : ¬ tokAt g j = wOr := fun h => hw (.inl h)
              have n3 : ¬ tokAt g j = wAnd := fun h => hw (.inr h)
              simp only [if_neg n2, if_neg n3]; exact Nat.zero_le _)
          rw [sumK_add, show f + (t - f) = t by omega] at hs
          omega
        have e1 := verbs_sum hv hlt ht ih true
        have hskip : ∀ w, tokAt g f = w → isConn w = false → qn g (f + 1) t = qn g f t := fun w e hc => qn_skip g hlt ht (by rw [e]; exact hc)
        have e3 : sumS g (if tokAt g f = wIs then statesS g (f + 1) t else []) ≤ if t - f = 1 then 0 else tB 7 (t - f - 1) (qn g f t) := by
          split
          · rename_i hw
            by_cases h2 : f + 1 < t
            · rw [if_neg (by omega)]
              refine Nat.le_trans (states_sum hv h2 ht (fun k' f' t' hl => ih k' f' t' (by omega))) ?_
              rw [hskip _ hw (by decide), show t - (f + 1) = t - f - 1 by omega]
              exact tab_ok 7 (by decide) (by decide) _ (by omega) _ (by omega)
            · unfold statesS
              rw [if_neg (by omega), if_neg (by omega)]
              exact Nat.zero_le _
          · exact Nat.zero_le _
        have e45 : ∀ k, 6 ≤ k → k ≤ 7 → ∀ w, isConn w = false → tokAt g f = w ∧ secondS g f t = wNot → sumS g [⟨16, 0, [], [(k, f + 2, t)]⟩] ≤ if t - f = 1 then 0 else if 2 < t - f then tB k (t - f - 2) (qn g f t) else 0 := by
          intro k hk6 hk7 w hcw ⟨h3, h4⟩
          obtain ⟨h5, h6⟩ := second_at h4 (by decide)
          rw [sumS_one, if_neg (by omega)]
          by_cases h2 : f + 2 < t
          · rw [if_pos (by omega)]
            refine Nat.le_trans (ih k (f + 2) t (by omega) (by omega) (by omega) ht) ?_
            rw [qn_skip g (f := f + 1) h5 ht (by rw [h6]; decide), hskip _ h3 hcw, show t - (f + 2) = t - f - 2 by omega]
            exact Nat.le_refl _
          · rw [cntS_zero g (by omega)]; exact Nat.zero_le _
        have e4 : sumS g (if tokAt g f = wDoes ∧ secondS g f t = wNot then [⟨16, 0, [], [(6, f + 2, t)]⟩] else []) ≤ if t - f = 1 then 0 else if 2 < t - f then tB 6 (t - f - 2) (qn g f t) else 0 := by
          split
          · rename_i hw; exact e45 6 (by decide) (by decide) wDoes (by decide) hw
          · exact Nat.zero_le _
        have e5 : sumS g (if tokAt g f = wIs ∧ secondS g f t = wNot then [⟨16, 0, [], [(7, f + 2, t)]⟩] else []) ≤ if t - f = 1 then 0 else if 2 < t - f then tB 7 (t - f - 2) (qn g f t) else 0 := by
          split
          · rename_i hw; exact e45 7 (by decide) (by decide) wIs (by decide) hw
          · exact Nat.zero_le _
        rw [if_pos rfl] at e1
        by_cases hone : t - f = 1
        · rw [if_pos hone] at e1 e3 e4 e5 ⊢
          omega
        · rw [if_neg hone] at e1 e3 e4 e5 ⊢
          by_cases h2 : 2 < t - f
          · rw [if_pos h2] at e4 e5 ⊢
            omega
          · rw [if_neg h2] at e4 e5 ⊢
            omega
      · -- verbs
        have h5 : stepsS g 5 f t = if t = f + 1 then entsS g (tokAt g f) true ⟨19, 0, [], []⟩ else [] := by
          unfold stepsS; rw [if_neg (by omega)]; rfl
        have hr : recB 5 (t - f) (qn g f t) = if t - f = 1 then (if qn g f t = 0 then 2 else 0) else 0 := by
          unfold recB; rw [if_neg (show ¬ t - f = 0 by omega)]; rfl
        rw [h5, hr]
        by_cases hone : t = f + 1
        · rw [if_pos hone, if_pos (show t - f = 1 by omega)]
          exact one_sum hv hone ht true 19 (fun _ => .inr rfl) (by decide)
        · rw [if_neg hone]; exact Nat.zero_le _
      · -- behind does not
        have h6 : stepsS g 6 f t = verbsS g f t false := by unfold stepsS; rw [if_neg (by omega)]; rfl
        have hr : recB 6 (t - f) (qn g f t) = if t - f = 1 then (if qn g f t = 0 then 1 else 0) else tB 2 (t - f - 1) (qn g f t) := by
          unfold recB; rw [if_neg (show ¬ t - f = 0 by omega)]; rfl
        rw [h6, hr]
        have e1 := verbs_sum hv hlt ht ih false
        rw [if_neg (show ¬ false = true by decide), Nat.one_mul] at e1
        exact e1
      · -- behind is not
        have h7' : stepsS g 7 f t = statesS g f t := by unfold stepsS; rw [if_neg (by omega)]; rfl
        rw [h7']
        exact states_sum hv hlt ht ih
    · rw [cntS_zero g (by omega)]; exact Nat.zero_le _
end Go.Proofs.YthmnffgjckpkiaaGreatDoor
