/-
  Tests of integers.
  Plain laws of tokens that the reference's Tokens wants.
  Contract of the reference's 'Tokens': what the program's 'Tokens' returns.
  The contract of 'Small' of the laws of chapter 33, for the laws of chapter 34.
  Contracts of 'SameTexts' and 'CopyTexts' of the laws' kit.
-/
import Derived.Test.YthmnffgjckpkiaaGreatDoorSA
import Derived.Test.YthmnffgjckpkiaaGreatDoorGTok
import Derived.RegionTactic
import Derived.ChangeAlike
import Derived.Test.YthmnffgjckpkiaaGreatDoorGEngH
import Derived.Test.YthmnffgjckpkiaaGreatDoorGLow
import Derived.Laws.AppendOwnNone
namespace Go.Proofs.YthmnffgjckpkiaaGreatDoor
open Go Go.RowKit

theorem beqI_t {a b : Int} (h : a = b) : (a == b) = true := beq_iff_eq.2 h
theorem beqI_f {a b : Int} (h : a ≠ b) : (a == b) = false := beq_eq_false_iff_ne.2 h
end Go.Proofs.YthmnffgjckpkiaaGreatDoor
namespace Go.Proofs.YthmnffgjckpkiaaGreatDoor
open Go Go.RowKit

/-- What becomes of the tokens, without the places. -/
def stepTW (st : List (List UInt8) × Bool) (p : List UInt8) : Option (List (List UInt8) × Bool) := stepT st (0, p)
theorem stepT_snd (st : List (List UInt8) × Bool) (x : Nat × List UInt8) : stepT st x = stepTW st x.2 := rfl
theorem runT_split : ∀ (xs ys : List (Nat × List UInt8)) (st : List (List UInt8) × Bool), runT st (xs ++ ys) = match runT st xs with | .inl k => .inl k | .inr s => runT s ys
  | [], ys, st => rfl
  | x :: xs, ys, st => by
    simp only [List.cons_append, runT]
    cases stepT st x with
    | none => rfl
    | some s => exact runT_split xs ys s
theorem letter_lt {c : UInt8} (h : isL c = true) : c.toNat < 128 := by
  simp only [isL, letterI, decide_eq_true_eq] at h; omega
/-- A word. -/
def isWord (p : List UInt8) : Prop := p ≠ [] ∧ p.all isL = true
instance (p : List UInt8) : Decidable (isWord p) := by unfold isWord; infer_instance
theorem lower_word {p : List UInt8} (h : isWord p) : Lib.toLowerD p = Lib.toLowerA p := Lib.toLowerD_ascii p fun b hb => letter_lt (List.all_eq_true.1 h.2 b hb)
theorem fn_word {p : List UInt8} (h : isFn p = true) : isWord p := by
  have hm : p ∈ fnWords := by simpa [isFn] using h
  exact (by decide : ∀ u ∈ fnWords, isWord u) p hm
theorem first_word {p : List UInt8} (h : isWord p) : isWord (firstS p) := by
  unfold firstS
  split
  · rename_i hf; exact fn_word hf
  · exact h
theorem word_ne {p : List UInt8} (h : isWord p) : p ≠ [44] ∧ p ≠ [46] ∧ isL (p.headD 0) = true := by
  refine ⟨?_, ?_, ?_⟩
  · rintro rfl; exact absurd h.2 (by decide)
  · rintro rfl; exact absurd h.2 (by decide)
  · cases p with
    | nil => exact absurd rfl h.1
    | cons c r => have := h.2; simp at this; exact this.1
theorem stepW_word {toks : List (List UInt8)} {p : List UInt8} (h : isWord p) (ht : toks ≠ []) : stepTW (toks, false) p = some (toks ++ [p], false) := by
  obtain ⟨h1, h2, h3⟩ := word_ne h
  simp only [stepTW, stepT, h3, ht]
  simp [h2]
theorem stepW_first {p : List UInt8} (h : isWord p) : stepTW ([], false) p = some ([firstS p], false) := by
  obtain ⟨h1, h2, h3⟩ := word_ne h
  obtain ⟨k1, k2, k3⟩ := word_ne (first_word h)
  simp only [stepTW, stepT, h3]
  simp [k2]
theorem stepW_comma {toks : List (List UInt8)} (ht : toks ≠ []) : stepTW (toks, false) [44] = some (toks ++ [[44]], false) := by
  have hp : 0 < toks.length := List.length_pos_iff.2 ht
  simp only [stepTW, stepT]
  simp [ht, hp]
theorem stepW_dot {toks : List (List UInt8)} (ht : toks ≠ []) : stepTW (toks, false) [46] = some (toks ++ [[46]], true) := by
  have hp : 0 < toks.length := List.length_pos_iff.2 ht
  simp only [stepTW, stepT]
  simp [ht, hp]
theorem strSlice_nil (w : World) : StrSlice w (.slice none 0 0) [] := ⟨none, 0, rfl, Nat.le_refl _, Nat.zero_le _, .inl rfl⟩
end Go.Proofs.YthmnffgjckpkiaaGreatDoor
namespace Go.Proofs.YthmnffgjckpkiaaGreatDoor
open Go Go.RowKit

/-- The tokens of what stands ahead of place i. -/
def RTok (s : ByteArray) (i : Nat) (toks : List (List UInt8)) (ended : Bool) : Prop :=
  ∃ pre, pre ++ piecesF (s.size - i) i (s.data.toList.drop i) = piecesS s.data.toList ∧ runT ([], false) pre = .inr (toks, ended)
theorem RTok.start (s : ByteArray) : RTok s 0 [] false := ⟨[], by simp [piecesS], rfl⟩
theorem ends_one {s : ByteArray} {i : Nat} (hi : i < s.size) (h : letterI s[i].toNat = false) : EndsAt s i (i + 1) :=
  ⟨by omega, by omega, fun _ _ => rfl, fun j _ h1 h2 => by omega, fun _ _ h' => by rw [h] at h'; cases h'⟩
theorem RTok.blank {s : ByteArray} {i : Nat} {toks : List (List UInt8)} {ended : Bool} (h : RTok s i toks ended) (hi : i < s.size) (h32 : s[i] = 32) : RTok s (i + 1) toks ended := by
  obtain ⟨pre, h1, h2⟩ := h
  rw [piece_step (ends_one hi (by rw [h32]; decide)) hi, if_pos h32] at h1
  exact ⟨pre, by simpa using h1, h2⟩
theorem RTok.fail {s : ByteArray} {i e : Nat} {toks : List (List UInt8)} {ended : Bool} (h : RTok s i toks ended) (he : EndsAt s i e) (hi : i < s.size) (h32 : ¬ s[i] = 32) (hs : s.size ≤ 1000)
    (hn : stepT (toks, ended) (i, (s.extract i e).data.toList) = none) : tokensS s.data.toList = ([], (i : Int), 332) := by
  obtain ⟨pre, h1, h2⟩ := h
  rw [piece_step he hi, if_neg h32, List.singleton_append] at h1
  have hr : runT ([], false) (piecesS s.data.toList) = .inl i := by
    rw [← h1, runT_split, h2]
    simp only [runT, hn]
  unfold tokensS
  rw [if_neg (by rw [len_data]; omega), hr]
theorem RTok.piece {s : ByteArray} {i e : Nat} {toks toks' : List (List UInt8)} {ended ended' : Bool} (h : RTok s i toks ended) (he : EndsAt s i e) (hi : i < s.size) (h32 : ¬ s[i] = 32)
    (hn : stepT (toks, ended) (i, (s.extract i e).data.toList) = some (toks', ended')) : RTok s e toks' ended' := by
  obtain ⟨pre, h1, h2⟩ := h
  rw [piece_step he hi, if_neg h32, List.singleton_append] at h1
  refine ⟨pre ++ [(i, (s.extract i e).data.toList)], by rw [List.append_assoc, List.singleton_append]; exact h1, ?_⟩
  rw [runT_snoc, h2]
  simp only [hn]
theorem RTok.done {s : ByteArray} {toks : List (List UInt8)} {ended : Bool} (h : RTok s s.size toks ended) (hs : s.size ≤ 1000) : tokensS s.data.toList = if ended then (toks, 0, 0) else ([], (s.size : Int), 332) := by
  obtain ⟨pre, h1, h2⟩ := h
  have e0 : piecesF (s.size - s.size) s.size (s.data.toList.drop s.size) = [] := by rw [Nat.sub_self]; rfl
  rw [e0, List.append_nil] at h1
  unfold tokensS
  rw [if_neg (by rw [len_data]; omega), ← h1, h2]
  cases ended <;> simp
theorem extract_one (s : ByteArray) (i : Nat) (hi : i < s.size) : (s.extract i (i + 1)).data.toList = [s[i]] := by
  have h1 : (s.extract i (i + 1)).data.toList = (s.data.toList.drop i).take 1 := by
    simp [ByteArray.data_extract]
  rw [h1, List.drop_eq_getElem_cons (by rw [len_data]; exact hi)]
  simp [ByteArray.getElem_eq_getElem_data]
theorem extract_head (s : ByteArray) (i e : Nat) (h1 : i < e) (hi : e ≤ s.size) : (s.extract i e).data.toList.headD 0 = s[i] := by
  have hz : 0 < (s.extract i e).size := by rw [extract_size' s i e hi]; omega
  rw [headD_get hz]
  simp [ByteArray.getElem_eq_getElem_data]
theorem ends_all {s : ByteArray} {i e : Nat} (he : EndsAt s i e) (hi : i < s.size) (hl : letterI s[i].toNat = true) : isWord (s.extract i e).data.toList := by
  have h1 := he.lt
  have h2 := he.le
  have hsz := extract_size' s i e h2
  refine ⟨?_, ?_⟩
  · intro h
    have := len_data (s.extract i e)
    rw [h, hsz] at this
    simp at this; omega
  · rw [List.all_eq_true]
    intro c hc
    obtain ⟨j, hj, rfl⟩ := List.getElem_of_mem hc
    rw [len_data, hsz] at hj
    have e1 : (s.extract i e).data.toList[j]'(by rw [len_data, hsz]; exact hj) = s[i + j]'(by omega) := by
      simp [ByteArray.getElem_eq_getElem_data]
    rw [e1]
    by_cases h0 : j = 0
    · subst h0; exact hl
    · exact he.all (i + j) (by omega) (by omega) (by omega)
theorem rstep_word {s : ByteArray} {i e : Nat} {toks : List (List UInt8)} (hw : isWord (s.extract i e).data.toList) :
    stepT (toks, false) (i, (s.extract i e).data.toList) = some (toks ++ [if toks = [] then firstS (s.extract i e).data.toList else (s.extract i e).data.toList], false) := by
  by_cases h : toks = []
  · subst h
    rw [stepT_snd, stepW_first hw]; simp
  · rw [stepT_snd, stepW_word hw h, if_neg h]
theorem rstep_mark {s : ByteArray} {i : Nat} {toks : List (List UInt8)} (hi : i < s.size) (hc : s[i] = 44 ∨ s[i] = 46) (h : toks ≠ []) :
    stepT (toks, false) (i, (s.extract i (i + 1)).data.toList) = some (toks ++ [(s.extract i (i + 1)).data.toList], s[i] == 46) := by
  rw [extract_one s i hi, stepT_snd]
  rcases hc with hc | hc <;> rw [hc]
  · exact stepW_comma h
  · exact stepW_dot h
theorem rstep_fail {s : ByteArray} {i e : Nat} {toks : List (List UInt8)} {ended : Bool} (he : EndsAt s i e) (hi : i < s.size)
    (h : ended = true ∨ (letterI s[i].toNat = false ∧ ((s[i] ≠ 44 ∧ s[i] ≠ 46) ∨ toks = []))) : stepT (toks, ended) (i, (s.extract i e).data.toList) = none := by
  unfold stepT
  rw [extract_head s i e he.lt he.le]
  rcases h with rfl | ⟨h1, h2⟩
  · simp
  · have e1 := he.one hi h1
    subst e1
    rw [extract_one s i hi]
    have : isL s[i] = false := h1
    rw [this]
    rcases h2 with ⟨h2, h3⟩ | rfl
    · simp [h2, h3]
    · simp
theorem rFunction_is (s : ByteArray) (b : Bool) (h : isFn s.data.toList = b) (w : World) : Calls Tryz.prog 70 #[.string s] w fun e w' => e = .returned (.bool b) ∧ w = w' := by
  subst h; exact rFunction_any s w
/-- All letters between two places. -/
def AllL (s : ByteArray) (k j : Nat) : Prop := ∀ m (h : m < s.size), k < m → m ≤ j → letterI s[m].toNat = true
theorem allL_more {s : ByteArray} {k j : Nat} (h : AllL s k j) (hj : j + 1 < s.size) (hl : letterI (s[j + 1].toNat : Int) = true) : AllL s k (j + 1) := fun m hm h1 h2 => by
  by_cases e : m = j + 1
  · subst e; exact hl
  · exact h m hm h1 (by omega)
theorem ends_at {s : ByteArray} {k j : Nat} (hk : k < s.size) (hl : letterI s[k].toNat = true) (hkj : k ≤ j) (hj : j < s.size) (h : AllL s k j) (hstop : j + 1 = s.size ∨ ∃ h : j + 1 < s.size, letterI (s[j + 1].toNat : Int) = false) : EndsAt s k (j + 1) := by
  refine ⟨by omega, by omega, (fun _ h' => by rw [hl] at h'; cases h'), fun m hm h1 h2 => h m hm h1 (by omega), fun he _ _ => ?_⟩
  rcases hstop with e | ⟨_, e⟩
  · omega
  · exact e
theorem ends_some {s : ByteArray} {k : Nat} (hk : k < s.size) : ∃ e, EndsAt s k e := by
  cases hl : letterI s[k].toNat
  · exact ⟨k + 1, ends_one hk hl⟩
  · have : ∀ n j, s.size - j = n → k ≤ j → j < s.size → AllL s k j → ∃ e, EndsAt s k e := by
      intro n
      induction n with
      | zero => intro j h1 h2 h3; omega
      | succ n ih =>
        intro j h1 h2 h3 h4
        by_cases hj : j + 1 < s.size
        · cases hl1 : letterI (s[j + 1].toNat : Int)
          · exact ⟨_, ends_at hk hl h2 h3 h4 (.inr ⟨hj, hl1⟩)⟩
          · exact ih (j + 1) (by omega) (by omega) hj (allL_more h4 hj hl1)
        · exact ⟨_, ends_at hk hl h2 h3 h4 (.inl (by omega))⟩
    exact this _ k rfl (Nat.le_refl _) hk (fun m _ h1 h2 => by omega)
theorem first_lower {p : List UInt8} (h : isWord p) : firstS p = if isFn (Lib.toLowerA p) then Lib.toLowerA p else p := by
  unfold firstS; rw [lower_word h]
/-- A world in which a new row of texts holds one more. -/
theorem one_more {w W W1 : World} {toks : List (List UInt8)} {v v' : Value} {x : List UInt8} {o : Obj} (hb : Below w.heap.size w W) (hown : W.ownsRow w.heap.size 9 1 v toks.length (toks.map strVal))
    (hgrow : (W.alloc o).grownBy W1 v.ownBlock) (hown1 : W1.ownsRow w.heap.size 9 1 v' (toks.length + 1) (toks.map strVal ++ [strVal x])) :
    Below w.heap.size w W1 ∧ W1.ownsRow w.heap.size 9 1 v' (toks ++ [x]).length ((toks ++ [x]).map strVal) := by
  refine ⟨(hb.alloc hb.size _).grown hgrow (by have := hb.size; simp; omega) (fun k hk => (hown.lt k hk).1), ?_⟩
  rw [List.length_append, List.map_append]
  exact hown1

set_option maxRecDepth 100000 in
set_option maxHeartbeats 16000000 in
theorem rTokens_short (w : World) (s : ByteArray) (hs : s.size ≤ 1000) :
    Calls Tryz.prog 42 #[.string s] w fun e w' => ∃ v, e = .returned (.tuple #[v, .int .i64 (tokensS s.data.toList).2.1, .int .i64 (tokensS s.data.toList).2.2]) ∧ StrSlice w' v (tokensS s.data.toList).1 ∧ Below w.heap.size w w' := by
  obtain ⟨i0, hi, hz0, hz1, hz2⟩ := info_parts info_string
  obtain ⟨T, hTE⟩ : ∃ T, T = tokensS s.data.toList := ⟨_, rfl⟩
  rw [← hTE]
  have HT := Lib.hid hTE
  clear hTE
  go_enter Tryz.func42, Tryz.ntmps42
  go_wp2
  go_loopw [5, 6, 7] (fun o en i wr => ∃ (k : Nat) (toks : List (List UInt8)) (ended : Bool), k ≤ s.size ∧ i = .int .i64 k ∧ en = .bool ended ∧ toks.length ≤ k ∧ RTok s k toks ended ∧ wr.ownsRow w.heap.size 9 1 o toks.length (toks.map strVal) ∧ Below w.heap.size w wr) (fun _ _ i _ => s.size - (intOf i).toNat)
  case atStart => exact ⟨0, [], false, Nat.zero_le _, rfl, rfl, by simp, RTok.start s, World.ownsRow_nil _ _ _ _, Below.refl _ _⟩
  case round =>
    obtain ⟨k, toks, ended, hk, rfl, rfl, htk, hrt, hown, hb⟩ := hrel
    have HR := Lib.hid hrt
    have HOw := Lib.hid hown
    clear hrt
    by_cases hlt : k < s.size
    · have hlen : ((k : Int) + 1) = ((k + 1 : Nat) : Int) := by omega
      clear hlen
      cases h32 : ((s[k].toNat : Int) == 32)
      · have h32' : ¬ s[k] = 32 := by
          intro e; rw [e] at h32; simp at h32
        have H32 := Lib.hid h32'
        clear h32'
        cases hl : letterI (s[k].toNat : Int)
        · have CL := Lib.hid (fun w => hl ▸ rletter_any (s[k].toNat : Int) w)
          have HE := Lib.hid (ends_one hlt hl)
          have HL := Lib.hid hl
          clear hl
          cases ended
          · by_cases h44 : s[k] = 44
            · by_cases h0 : toks = []
              · have hfail := HR.out.fail HE.out hlt H32.out hs (rstep_fail HE.out hlt (.inr ⟨HL.out, .inr h0⟩))
                have HFl := Lib.hid (HT.out.trans hfail)
                obtain ⟨a, cap, rfl⟩ := owns_form hown
                have b44 : ((s[k].toNat : Int) != 44) = false := by rw [h44]; rfl
                have g0 : ((toks.length : Int) == 0) = true := beqI_t (by rw [h0]; rfl)
                clear hfail hown h0 h44
                go_wp2_with (go_at_call 69; refine (CL.out _).mono ?_; rintro e w' ⟨rfl, rfl⟩)
                go_ret3
                exact ⟨_, by rw [HFl.out]; rfl, by rw [HFl.out]; exact strSlice_nil _, hb⟩
              · have hstep := rstep_mark hlt (.inl h44) h0
                have hne : (s[k] == 46) = false := by rw [h44]; decide
                rw [hne] at hstep
                have hrt2 := HR.out.piece HE.out hlt H32.out hstep
                obtain ⟨a, cap, rfl⟩ := owns_form hown
                have b44 : ((s[k].toNat : Int) != 44) = false := by rw [h44]; rfl
                have c46 : ((s[k].toNat : Int) == 46) = false := by rw [h44]; rfl
                have g0 : ((toks.length : Int) == 0) = false := beqI_f (by have := List.length_pos_iff.2 h0; omega)
                have HR2 := Lib.hid hrt2
                have htl : toks.length ≤ 1000 := by omega
                clear hstep hne h0 h44 hown hrt2
                go_wp2_with (first | (go_at_call 69; refine (CL.out _).mono ?_; rintro e w' ⟨rfl, rfl⟩) | (at_builtin; refine wpList_append_own _ rfl _ _ 41 rfl w.heap.size 9 i0 (.string ByteArray.empty) 1 16 Tryz.underlying41 hi hz0 hz1 hz2 rfl (by decide) _ _ _ rfl (HOw.out.alloc _) ⟨wr.heap.size, 0, none⟩ 1 1 [.string (s.extract k (k + 1))] rfl rfl (cell_one_new _ _ _) (by simp [Value.oneCell']) (by unfold maxLen; omega) (by omega) (by have := hb.size; simp; omega) ?_))
                intro v' w1 hown1 hgrow _
                obtain ⟨hq1, ho1⟩ := one_more (x := (s.extract k (k + 1)).data.toList) hb HOw.out hgrow hown1
                have HO1 := Lib.hid ho1
                clear hown1 hgrow ho1
                go_wp2
                go_roundw
                case rel => exact ⟨k + 1, _, false, by omega, by go_num, rfl, by simp; omega, HR2.out, HO1.out, hq1⟩
                case measure => simp [intOf]; omega
            · by_cases h46 : s[k] = 46
              · by_cases h0 : toks = []
                · have hfail := HR.out.fail HE.out hlt H32.out hs (rstep_fail HE.out hlt (.inr ⟨HL.out, .inr h0⟩))
                  have HFl := Lib.hid (HT.out.trans hfail)
                  obtain ⟨a, cap, rfl⟩ := owns_form hown
                  have b44 : ((s[k].toNat : Int) != 44) = true := by rw [h46]; rfl
                  have b46 : ((s[k].toNat : Int) != 46) = false := by rw [h46]; rfl
                  have g0 : ((toks.length : Int) == 0) = true := beqI_t (by rw [h0]; rfl)
                  clear hfail hown h0 h46 h44
                  go_wp2_with (go_at_call 69; refine (CL.out _).mono ?_; rintro e w' ⟨rfl, rfl⟩)
                  go_ret3
                  exact ⟨_, by rw [HFl.out]; rfl, by rw [HFl.out]; exact strSlice_nil _, hb⟩
                · have hstep := rstep_mark hlt (.inr h46) h0
                  have hne : (s[k] == 46) = true := by rw [h46]; decide
                  rw [hne] at hstep
                  have hrt2 := HR.out.piece HE.out hlt H32.out hstep
                  obtain ⟨a, cap, rfl⟩ := owns_form hown
                  have b44 : ((s[k].toNat : Int) != 44) = true := by rw [h46]; rfl
                  have b46 : ((s[k].toNat : Int) != 46) = false := by rw [h46]; rfl
                  have c46 : ((s[k].toNat : Int) == 46) = true := by rw [h46]; rfl
                  have g0 : ((toks.length : Int) == 0) = false := beqI_f (by have := List.length_pos_iff.2 h0; omega)
                  have HR2 := Lib.hid hrt2
                  have htl : toks.length ≤ 1000 := by omega
                  clear hstep hne h0 h46 h44 hown hrt2
                  go_wp2_with (first | (go_at_call 69; refine (CL.out _).mono ?_; rintro e w' ⟨rfl, rfl⟩) | (at_builtin; refine wpList_append_own _ rfl _ _ 41 rfl w.heap.size 9 i0 (.string ByteArray.empty) 1 16 Tryz.underlying41 hi hz0 hz1 hz2 rfl (by decide) _ _ _ rfl (HOw.out.alloc _) ⟨wr.heap.size, 0, none⟩ 1 1 [.string (s.extract k (k + 1))] rfl rfl (cell_one_new _ _ _) (by simp [Value.oneCell']) (by unfold maxLen; omega) (by omega) (by have := hb.size; simp; omega) ?_))
                  intro v' w1 hown1 hgrow _
                  obtain ⟨hq1, ho1⟩ := one_more (x := (s.extract k (k + 1)).data.toList) hb HOw.out hgrow hown1
                  have HO1 := Lib.hid ho1
                  clear hown1 hgrow ho1
                  go_wp2
                  go_roundw
                  case rel => exact ⟨k + 1, _, true, by omega, by go_num, rfl, by simp; omega, HR2.out, HO1.out, hq1⟩
                  case measure => simp [intOf]; omega
              · have hfail := HR.out.fail HE.out hlt H32.out hs (rstep_fail HE.out hlt (.inr ⟨HL.out, .inl ⟨h44, h46⟩⟩))
                have HFl := Lib.hid (HT.out.trans hfail)
                have b44 : ((s[k].toNat : Int) != 44) = true := by rw [bne_iff_ne]; intro h; exact h44 (by apply UInt8.toNat_inj.1; show s[k].toNat = 44; omega)
                have b46 : ((s[k].toNat : Int) != 46) = true := by rw [bne_iff_ne]; intro h; exact h46 (by apply UInt8.toNat_inj.1; show s[k].toNat = 46; omega)
                clear hfail hown h44 h46
                go_wp2_with (go_at_call 69; refine (CL.out _).mono ?_; rintro e w' ⟨rfl, rfl⟩)
                go_ret3
                exact ⟨_, by rw [HFl.out]; rfl, by rw [HFl.out]; exact strSlice_nil _, hb⟩
          · have hfail := HR.out.fail HE.out hlt H32.out hs (rstep_fail HE.out hlt (.inl rfl))
            have HFl := Lib.hid (HT.out.trans hfail)
            clear hfail hown
            go_wp2
            go_ret3
            exact ⟨_, by rw [HFl.out]; rfl, by rw [HFl.out]; exact strSlice_nil _, hb⟩
        · have CL := Lib.hid (fun w => hl ▸ rletter_any (s[k].toNat : Int) w)
          have HL := Lib.hid hl
          clear hl
          cases ended
          case true =>
            have hEnd : ∃ e, EndsAt s k e := ends_some hlt
            obtain ⟨e0, he0⟩ := hEnd
            have hfail := HR.out.fail he0 hlt H32.out hs (rstep_fail he0 hlt (.inl rfl))
            have HFl := Lib.hid (HT.out.trans hfail)
            clear hfail hown he0
            go_wp2
            go_ret3
            exact ⟨_, by rw [HFl.out]; rfl, by rw [HFl.out]; exact strSlice_nil _, hb⟩
          obtain ⟨a, cap, rfl⟩ := owns_form hown
          clear hown
          go_wp2_with (go_at_call 69; refine (CL.out _).mono ?_; rintro e w' ⟨rfl, rfl⟩)
          go_loop [7] (fun i => ∃ j : Nat, k ≤ j ∧ j < s.size ∧ i = .int .i64 j ∧ AllL s k j) (fun i => s.size - (intOf i).toNat)
          case atStart => exact ⟨k, Nat.le_refl _, hlt, rfl, fun m hm h1 h2 => by omega⟩
          case round =>
            obtain ⟨j, hkj, hj, rfl, hall⟩ := hrel
            have HAl := Lib.hid hall
            clear hall
            by_cases hjt : j + 1 < s.size
            · cases hl1 : letterI (s[j + 1].toNat : Int)
              · have C1 := Lib.hid (fun w => hl1 ▸ rletter_any (s[j + 1].toNat : Int) w)
                have HE := Lib.hid (ends_at hlt HL.out hkj hj HAl.out (.inr ⟨hjt, hl1⟩))
                clear hl1
                have hword := ends_all HE.out hlt HL.out
                have hst := rstep_word (toks := toks) hword
                have hfl := first_lower hword
                have hxs : (s.extract k (j + 1)).size ≤ 1000 := by rw [extract_size' _ _ _ (by omega)]; omega
                have htl : toks.length ≤ 1000 := by omega
                by_cases h0 : toks = []
                · rw [if_pos h0, hfl] at hst
                  have g0 : ((toks.length : Int) == 0) = true := beqI_t (by rw [h0]; rfl)
                  obtain ⟨lw, hlw⟩ : ∃ lw : ByteArray, lw = ⟨(Lib.toLowerA (s.extract k (j + 1)).data.toList).toArray⟩ := ⟨_, rfl⟩
                  have hld : Lib.toLowerA (s.extract k (j + 1)).data.toList = lw.data.toList := by rw [hlw]
                  have CLo := Lib.hid (fun w' => (by rw [hlw]; exact rlower_any (s.extract k (j + 1)) w' (by omega) : Calls Tryz.prog 71 #[.string (s.extract k (j + 1))] w' fun e w'' => e = .returned (.string lw) ∧ Below w'.heap.size w' w''))
                  rw [hld] at hst
                  clear hlw hld hfl
                  cases hF : isFn lw.data.toList
                  · rw [hF] at hst
                    have hrt2 := HR.out.piece HE.out hlt H32.out hst
                    have HR2 := Lib.hid hrt2
                    have CFn := Lib.hid (rFunction_is lw _ hF)
                    clear hst hF hword hrt2 h0
                    go_wp2_with (first | (go_at_call 69; refine (C1.out _).mono ?_; rintro e w' ⟨rfl, rfl⟩))
                    refine (CLo.out _).mono ?_
                    rintro e w1 ⟨rfl, hb1⟩
                    have hb2 := hb.trans (hb1.mono hb.size)
                    have HO2 := Lib.hid (ownsRow_below HOw.out hb1)
                    go_wp2_with fail
                    refine (CFn.out _).mono ?_
                    rintro e w' ⟨rfl, rfl⟩
                    go_wp2_with (at_builtin; refine wpList_append_own _ rfl _ _ 41 rfl w.heap.size 9 i0 (.string ByteArray.empty) 1 16 Tryz.underlying41 hi hz0 hz1 hz2 rfl (by decide) _ _ _ rfl (HO2.out.alloc _) ⟨w1.heap.size, 0, none⟩ 1 1 [.string (s.extract k (j + 1))] rfl rfl (cell_one_new _ _ _) (by simp [Value.oneCell']) (by unfold maxLen; omega) (by omega) (by have := hb2.size; simp; omega) ?_)
                    intro v' w2 hown1 hgrow _
                    obtain ⟨hq1, ho1⟩ := one_more (x := (s.extract k (j + 1)).data.toList) hb2 HO2.out hgrow hown1
                    have HO1 := Lib.hid ho1
                    clear hown1 hgrow ho1
                    go_wp2
                    go_roundw
                    case rel => exact ⟨j + 1, _, false, by omega, by go_num, rfl, by simp; omega, HR2.out, HO1.out, hq1⟩
                    case measure => simp [intOf]; omega
                  · rw [hF] at hst
                    have hrt2 := HR.out.piece HE.out hlt H32.out hst
                    have HR2 := Lib.hid hrt2
                    have CFn := Lib.hid (rFunction_is lw _ hF)
                    clear hst hF hword hrt2 h0
                    go_wp2_with (first | (go_at_call 69; refine (C1.out _).mono ?_; rintro e w' ⟨rfl, rfl⟩))
                    refine (CLo.out _).mono ?_
                    rintro e w1 ⟨rfl, hb1⟩
                    have hb2 := hb.trans (hb1.mono hb.size)
                    have HO2 := Lib.hid (ownsRow_below HOw.out hb1)
                    go_wp2_with fail
                    refine (CFn.out _).mono ?_
                    rintro e w' ⟨rfl, rfl⟩
                    go_wp2_with fail
                    refine (CLo.out _).mono ?_
                    rintro e w3 ⟨rfl, hb3⟩
                    have hb4 := hb2.trans (hb3.mono hb2.size)
                    have HO4 := Lib.hid (ownsRow_below HO2.out hb3)
                    go_wp2_with (at_builtin; refine wpList_append_own _ rfl _ _ 41 rfl w.heap.size 9 i0 (.string ByteArray.empty) 1 16 Tryz.underlying41 hi hz0 hz1 hz2 rfl (by decide) _ _ _ rfl (HO4.out.alloc _) ⟨w3.heap.size, 0, none⟩ 1 1 [.string lw] rfl rfl (cell_one_new _ _ _) (by simp [Value.oneCell']) (by unfold maxLen; omega) (by omega) (by have := hb4.size; simp; omega) ?_)
                    intro v' w2 hown1 hgrow _
                    obtain ⟨hq1, ho1⟩ := one_more (x := lw.data.toList) hb4 HO4.out hgrow hown1
                    have HO1 := Lib.hid ho1
                    clear hown1 hgrow ho1
                    go_wp2
                    go_roundw
                    case rel => exact ⟨j + 1, _, false, by omega, by go_num, rfl, by simp; omega, HR2.out, HO1.out, hq1⟩
                    case measure => simp [intOf]; omega
                · rw [if_neg h0] at hst
                  have g0 : ((toks.length : Int) == 0) = false := beqI_f (by have := List.length_pos_iff.2 h0; omega)
                  have hrt2 := HR.out.piece HE.out hlt H32.out hst
                  have HR2 := Lib.hid hrt2
                  clear hst hfl hword hrt2 h0
                  go_wp2_with (first | (go_at_call 69; refine (C1.out _).mono ?_; rintro e w' ⟨rfl, rfl⟩) | (at_builtin; refine wpList_append_own _ rfl _ _ 41 rfl w.heap.size 9 i0 (.string ByteArray.empty) 1 16 Tryz.underlying41 hi hz0 hz1 hz2 rfl (by decide) _ _ _ rfl (HOw.out.alloc _) ⟨wr.heap.size, 0, none⟩ 1 1 [.string (s.extract k (j + 1))] rfl rfl (cell_one_new _ _ _) (by simp [Value.oneCell']) (by unfold maxLen; omega) (by omega) (by have := hb.size; simp; omega) ?_))
                  intro v' w2 hown1 hgrow _
                  obtain ⟨hq1, ho1⟩ := one_more (x := (s.extract k (j + 1)).data.toList) hb HOw.out hgrow hown1
                  have HO1 := Lib.hid ho1
                  clear hown1 hgrow ho1
                  go_wp2
                  go_roundw
                  case rel => exact ⟨j + 1, _, false, by omega, by go_num, rfl, by simp; omega, HR2.out, HO1.out, hq1⟩
                  case measure => simp [intOf]; omega
              · have C1 := Lib.hid (fun w => hl1 ▸ rletter_any (s[j + 1].toNat : Int) w)
                have HL1 := Lib.hid hl1
                clear hl1
                go_wp2_with (go_at_call 69; refine (C1.out _).mono ?_; rintro e w' ⟨rfl, rfl⟩)
                go_round
                case rel => exact ⟨j + 1, by omega, hjt, by go_num, allL_more HAl.out hjt HL1.out⟩
                case measure => simp [intOf]; omega
            · have HE := Lib.hid (ends_at hlt HL.out hkj hj HAl.out (.inl (by omega)))
              have hword := ends_all HE.out hlt HL.out
              have hst := rstep_word (toks := toks) hword
              have hfl := first_lower hword
              have hxs : (s.extract k (j + 1)).size ≤ 1000 := by rw [extract_size' _ _ _ (by omega)]; omega
              have htl : toks.length ≤ 1000 := by omega
              by_cases h0 : toks = []
              · rw [if_pos h0, hfl] at hst
                have g0 : ((toks.length : Int) == 0) = true := beqI_t (by rw [h0]; rfl)
                obtain ⟨lw, hlw⟩ : ∃ lw : ByteArray, lw = ⟨(Lib.toLowerA (s.extract k (j + 1)).data.toList).toArray⟩ := ⟨_, rfl⟩
                have hld : Lib.toLowerA (s.extract k (j + 1)).data.toList = lw.data.toList := by rw [hlw]
                have CLo := Lib.hid (fun w' => (by rw [hlw]; exact rlower_any (s.extract k (j + 1)) w' (by omega) : Calls Tryz.prog 71 #[.string (s.extract k (j + 1))] w' fun e w'' => e = .returned (.string lw) ∧ Below w'.heap.size w' w''))
                rw [hld] at hst
                clear hlw hld hfl
                cases hF : isFn lw.data.toList
                · rw [hF] at hst
                  have hrt2 := HR.out.piece HE.out hlt H32.out hst
                  have HR2 := Lib.hid hrt2
                  have CFn := Lib.hid (rFunction_is lw _ hF)
                  clear hst hF hword hrt2 h0
                  go_wp2_with fail
                  refine (CLo.out _).mono ?_
                  rintro e w1 ⟨rfl, hb1⟩
                  have hb2 := hb.trans (hb1.mono hb.size)
                  have HO2 := Lib.hid (ownsRow_below HOw.out hb1)
                  go_wp2_with fail
                  refine (CFn.out _).mono ?_
                  rintro e w' ⟨rfl, rfl⟩
                  go_wp2_with (at_builtin; refine wpList_append_own _ rfl _ _ 41 rfl w.heap.size 9 i0 (.string ByteArray.empty) 1 16 Tryz.underlying41 hi hz0 hz1 hz2 rfl (by decide) _ _ _ rfl (HO2.out.alloc _) ⟨w1.heap.size, 0, none⟩ 1 1 [.string (s.extract k (j + 1))] rfl rfl (cell_one_new _ _ _) (by simp [Value.oneCell']) (by unfold maxLen; omega) (by omega) (by have := hb2.size; simp; omega) ?_)
                  intro v' w2 hown1 hgrow _
                  obtain ⟨hq1, ho1⟩ := one_more (x := (s.extract k (j + 1)).data.toList) hb2 HO2.out hgrow hown1
                  have HO1 := Lib.hid ho1
                  clear hown1 hgrow ho1
                  go_wp2
                  go_roundw
                  case rel => exact ⟨j + 1, _, false, by omega, by go_num, rfl, by simp; omega, HR2.out, HO1.out, hq1⟩
                  case measure => simp [intOf]; omega
                · rw [hF] at hst
                  have hrt2 := HR.out.piece HE.out hlt H32.out hst
                  have HR2 := Lib.hid hrt2
                  have CFn := Lib.hid (rFunction_is lw _ hF)
                  clear hst hF hword hrt2 h0
                  go_wp2_with fail
                  refine (CLo.out _).mono ?_
                  rintro e w1 ⟨rfl, hb1⟩
                  have hb2 := hb.trans (hb1.mono hb.size)
                  have HO2 := Lib.hid (ownsRow_below HOw.out hb1)
                  go_wp2_with fail
                  refine (CFn.out _).mono ?_
                  rintro e w' ⟨rfl, rfl⟩
                  go_wp2_with fail
                  refine (CLo.out _).mono ?_
                  rintro e w3 ⟨rfl, hb3⟩
                  have hb4 := hb2.trans (hb3.mono hb2.size)
                  have HO4 := Lib.hid (ownsRow_below HO2.out hb3)
                  go_wp2_with (at_builtin; refine wpList_append_own _ rfl _ _ 41 rfl w.heap.size 9 i0 (.string ByteArray.empty) 1 16 Tryz.underlying41 hi hz0 hz1 hz2 rfl (by decide) _ _ _ rfl (HO4.out.alloc _) ⟨w3.heap.size, 0, none⟩ 1 1 [.string lw] rfl rfl (cell_one_new _ _ _) (by simp [Value.oneCell']) (by unfold maxLen; omega) (by omega) (by have := hb4.size; simp; omega) ?_)
                  intro v' w2 hown1 hgrow _
                  obtain ⟨hq1, ho1⟩ := one_more (x := lw.data.toList) hb4 HO4.out hgrow hown1
                  have HO1 := Lib.hid ho1
                  clear hown1 hgrow ho1
                  go_wp2
                  go_roundw
                  case rel => exact ⟨j + 1, _, false, by omega, by go_num, rfl, by simp; omega, HR2.out, HO1.out, hq1⟩
                  case measure => simp [intOf]; omega
              · rw [if_neg h0] at hst
                have g0 : ((toks.length : Int) == 0) = false := beqI_f (by have := List.length_pos_iff.2 h0; omega)
                have hrt2 := HR.out.piece HE.out hlt H32.out hst
                have HR2 := Lib.hid hrt2
                clear hst hfl hword hrt2 h0
                go_wp2_with (first | (at_builtin; refine wpList_append_own _ rfl _ _ 41 rfl w.heap.size 9 i0 (.string ByteArray.empty) 1 16 Tryz.underlying41 hi hz0 hz1 hz2 rfl (by decide) _ _ _ rfl (HOw.out.alloc _) ⟨wr.heap.size, 0, none⟩ 1 1 [.string (s.extract k (j + 1))] rfl rfl (cell_one_new _ _ _) (by simp [Value.oneCell']) (by unfold maxLen; omega) (by omega) (by have := hb.size; simp; omega) ?_))
                intro v' w2 hown1 hgrow _
                obtain ⟨hq1, ho1⟩ := one_more (x := (s.extract k (j + 1)).data.toList) hb HOw.out hgrow hown1
                have HO1 := Lib.hid ho1
                clear hown1 hgrow ho1
                go_wp2
                go_roundw
                case rel => exact ⟨j + 1, _, false, by omega, by go_num, rfl, by simp; omega, HR2.out, HO1.out, hq1⟩
                case measure => simp [intOf]; omega
      · have h32' : s[k] = 32 := by
          apply UInt8.toNat_inj.1
          have := beq_iff_eq.1 h32
          show s[k].toNat = 32
          omega
        have HN := Lib.hid (HR.out.blank hlt h32')
        clear h32' hown
        go_wp2
        go_roundw
        case rel => exact ⟨k + 1, toks, ended, by omega, by go_num, rfl, by omega, HN.out, HOw.out, hb⟩
        case measure => simp [intOf]; omega
    · obtain rfl : k = s.size := by omega
      have hdone := HR.out.done hs
      cases ended
      · have HD := Lib.hid (HT.out.trans hdone)
        clear hdone hown
        go_wp2
        go_ret3
        exact ⟨_, by rw [HD.out]; rfl, by rw [HD.out]; exact strSlice_nil _, hb⟩
      · have HD := Lib.hid (HT.out.trans hdone)
        clear hdone hown
        go_wp2
        go_ret3
        exact ⟨_, by rw [HD.out]; rfl, by rw [HD.out]; exact strSlice_of_owns HOw.out, hb⟩
end Go.Proofs.YthmnffgjckpkiaaGreatDoor
namespace Go.Proofs.YthmnffgjckpkiaaGreatDoor
open Go Go.RowKit

/-- Whether an entry's texts are short. -/
def entSmall (e : Ent) : Bool := decide (e.word.size ≤ 40) && decide (e.sym.size ≤ 40)
/-- Whether a lexicon is examined. -/
def smallL (l : List Ent) : Bool := decide (l.length ≤ 103) && l.all entSmall
theorem small_no {l : List Ent} {k : Nat} (h : k < l.length) (hk : k = 103 ∨ entSmall l[k] = false) : smallL l = false := by
  rcases hk with rfl | hk
  · simp [smallL]; intro h'; omega
  · have : l.all entSmall = false := by rw [List.all_eq_false]; exact ⟨l[k], List.getElem_mem h, by simp [hk]⟩
    simp [smallL, this]

set_option maxRecDepth 100000 in
set_option maxHeartbeats 1000000 in
theorem Small_any (w : World) (v : Value) (l : List Ent) (hl : EntSlice w v l) :
    Calls Tryz.prog 13 #[v] w fun r w' => r = .returned (.bool (smallL l)) ∧ w = w' := by
  obtain ⟨⟨a, cap, rfl, hcap, hcm, hform⟩, hok⟩ := hl
  have HFo := Lib.hid hform
  clear hform hok
  have hlm : l.length ≤ 9223372036854775807 := by unfold maxLen at hcm; omega
  go_enter Tryz.func13, Tryz.ntmps13
  go_wp2
  go_loop [3] (fun i => ∃ k : Nat, k ≤ l.length ∧ i = .int .i64 k ∧ k ≤ 103 ∧ (l.take k).all entSmall = true) (fun i => l.length - (intOf i).toNat)
  case atStart => exact ⟨0, Nat.zero_le _, rfl, by omega, rfl⟩
  case round =>
    obtain ⟨k, hk, rfl, h103, hall⟩ := hrel
    have HA := Lib.hid hall
    clear hall
    by_cases hlt : k < l.length
    · rcases HFo.out with h0 | ⟨b, off, rfl, hbl, hc⟩
      · rw [h0] at hlt; exact absurd hlt (by simp)
      · obtain ⟨c0, _, c2⟩ := hc k hlt
        obtain ⟨e, he⟩ : ∃ e, e = l[k] := ⟨_, rfl⟩
        rw [← he] at c0 c2
        have HE := Lib.hid he
        clear he hc hbl
        cases h3 : ((k : Int) == 103)
        · have h3' : k ≠ 103 := by simp at h3; omega
          have H3 := Lib.hid h3'
          clear h3'
          by_cases hw : e.word.size ≤ 40
          · by_cases hy : e.sym.size ≤ 40
            · go_wp2
              go_round
              case rel => exact ⟨k + 1, by omega, by go_num, by have := H3.out; omega, by rw [List.take_succ_eq_append_getElem hlt, List.all_append, HA.out, ← HE.out]; simp [entSmall, hw, hy]⟩
              case measure => simp [intOf]; omega
            · go_wp2
              go_ret
              exact ⟨ret_bool (small_no hlt (.inr (by rw [← HE.out]; simp [entSmall]; omega))).symm, rfl⟩
          · go_wp2
            go_ret
            exact ⟨ret_bool (small_no hlt (.inr (by rw [← HE.out]; simp [entSmall]; omega))).symm, rfl⟩
        · have h3' : k = 103 := by simp at h3; omega
          have H3 := Lib.hid h3'
          clear h3'
          go_wp2
          go_ret
          exact ⟨ret_bool (small_no hlt (.inl H3.out)).symm, rfl⟩
    · obtain rfl : k = l.length := by omega
      go_wp2
      go_ret
      exact ⟨ret_bool (by have := HA.out; rw [List.take_length] at this; simp [smallL, h103, this]), rfl⟩
end Go.Proofs.YthmnffgjckpkiaaGreatDoor
namespace Go.Proofs.YthmnffgjckpkiaaGreatDoor
open Go Go.RowKit

theorem bytes_list (l : List UInt8) : (⟨l.toArray⟩ : ByteArray).toList = l := by rw [ByteArray.toList_eq]
theorem take_eq_succ {α : Type} {a b : List α} {k : Nat} (ha : k < a.length) (hb : k < b.length) (h : a.take k = b.take k) (he : a[k] = b[k]) : a.take (k + 1) = b.take (k + 1) := by
  rw [List.take_succ_eq_append_getElem ha, List.take_succ_eq_append_getElem hb, h, he]

set_option maxRecDepth 100000 in
set_option maxHeartbeats 1000000 in
theorem SameTexts_any (w : World) (va vb : Value) (la lb : List (List UInt8)) (ha : StrSlice w va la) (hb : StrSlice w vb lb) (hn : la.length ≤ 1000000000) :
    Calls Tryz.prog 32 #[va, vb] w fun e w' => e = .returned (.bool (la == lb)) ∧ Below w.heap.size w w' := by
  obtain ⟨a, cap, rfl, hcap, hcm, ha⟩ := ha
  obtain ⟨b, cap', rfl, hcap', hcm', hb⟩ := hb
  by_cases hlen : la.length = lb.length
  · have HA := Lib.hid ha
    have HB := Lib.hid hb
    clear ha hb
    go_enter Tryz.func32, Tryz.ntmps32
    go_wp2

    go_loopw [5] (fun i wr => ∃ k : Nat, k ≤ la.length ∧ i = .int .i64 k ∧ la.take k = lb.take k ∧ Below w.heap.size w wr) (fun i _ => la.length - (intOf i).toNat)
    case atStart => exact ⟨0, Nat.zero_le _, rfl, rfl, Below.refl _ _⟩
    case round =>
      obtain ⟨k, hk, rfl, hpre, hbw⟩ := hrel
      have HP := Lib.hid hpre
      clear hpre
      by_cases hlt : k < la.length
      · rcases HA.out with h0 | ⟨ga, oa, rfl, ca⟩
        · rw [h0] at hlt; exact absurd hlt (by simp)
        rcases HB.out with h0 | ⟨gb, ob, rfl, cb⟩
        · rw [hlen, h0] at hlt; exact absurd hlt (by simp)
        have c1 := ca k hlt
        have c2 := cb k (hlen ▸ hlt)
        obtain ⟨s, hs⟩ : ∃ s, s = (⟨la[k].toArray⟩ : ByteArray) := ⟨_, rfl⟩
        obtain ⟨t, ht⟩ : ∃ t, t = (⟨(lb[k]'(hlen ▸ hlt)).toArray⟩ : ByteArray) := ⟨_, rfl⟩
        rw [← hs] at c1
        rw [← ht] at c2
        have e1 : s.toList = la[k] := by rw [hs, bytes_list]
        have e2 : t.toList = lb[k]'(hlen ▸ hlt) := by rw [ht, bytes_list]
        have E1 := Lib.hid e1
        have E2 := Lib.hid e2
        have hlt2 : k < lb.length := hlen ▸ hlt
        have d1 := cell_kept' hbw c1
        have d2 := cell_kept' hbw c2
        have f1 := fun x : Later wr => x.get d1
        have f2 := fun x : Later wr => x.get d2
        have e3 : (k : Int) < (la.length : Int) := by omega
        have e4 : (k : Int) < (lb.length : Int) := by omega
        have e5 : (0 : Int) ≤ k := by omega
        clear ca cb hs ht e1 e2 c1 c2
        cases hq : (s.toList == t.toList)
        · go_wp2
          refine wp_region_later (by kernel_rfl) (by kernel_rfl) ?_
          repeat (go_big_quiet_step (fail))
          refine wpQuiet_nil ?_
          rintro _ ⟨x, rfl⟩
          go_wp2
          go_ret
          refine ⟨ret_bool ?_, hbw.trans (x.below.mono hbw.size)⟩
          have hne : la ≠ lb := fun e => by
            have : s.toList = t.toList := by rw [E1.out, E2.out]; simp [e]
            rw [this] at hq; simp at hq
          simp [hne]
        · go_wp2
          refine wp_region_later (by kernel_rfl) (by kernel_rfl) ?_
          repeat (go_big_quiet_step (fail))
          refine wpQuiet_nil ?_
          rintro _ ⟨x, rfl⟩
          go_wp2
          go_roundw
          case rel => exact ⟨k + 1, by omega, by go_num, take_eq_succ hlt hlt2 HP.out (by rw [← E1.out, ← E2.out]; simpa using hq), hbw.trans (x.below.mono hbw.size)⟩
          case measure => simp [intOf]; omega
      · obtain rfl : k = la.length := by omega
        go_wp2
        go_ret
        have := HP.out
        rw [List.take_length, hlen, List.take_length] at this
        exact ⟨ret_bool (by simp [this]), hbw⟩
  · have hne : (la == lb) = false := by simp; intro e; exact hlen (by rw [e])
    rw [hne]
    clear ha hb hne
    go_enter Tryz.func32, Tryz.ntmps32
    go_wp2
    go_ret
    exact ⟨rfl, Below.refl _ _⟩

set_option maxRecDepth 100000 in
set_option maxHeartbeats 1000000 in
theorem CopyTexts_any (w : World) (v : Value) (l : List (List UInt8)) (hl : StrSlice w v l) (hn : l.length ≤ 1000000000) (h0 : ∀ n cap, v = .slice none n cap → v = .slice none 0 0) :
    Calls Tryz.prog 25 #[v] w fun e w' => ∃ v', e = .returned v' ∧ w'.ownsRow w.heap.size 9 1 v' l.length (l.map strVal) ∧ Below w.heap.size w w' := by
  obtain ⟨i0, hi, hz0, hz1, hz2⟩ := info_parts info_string
  obtain ⟨a, cap, rfl, hcap, hcm, hl⟩ := hl
  cases a with
  | none =>
    have e := h0 _ _ rfl
    have hl0 : l = [] := by rcases hl with h | ⟨b, off, h, _⟩; exact h; cases h
    subst hl0
    obtain rfl : cap = 0 := by simpa using e
    clear h0 e hl
    go_enter Tryz.func25, Tryz.ntmps25
    go_wp2_with (at_builtin; refine wpList_append_own_none rfl _ _ 41 rfl w.heap.size 9 i0 1 Tryz.underlying41 hi _ _ _ rfl (World.ownsRow_nil _ _ _ _) rfl ?_)
    go_ret
    exact ⟨_, rfl, World.ownsRow_nil _ _ _ _, Below.refl _ _⟩
  | some ad =>
    have hnews : ∀ j u, (l.map strVal)[j]? = some u → w.cell? (ad.add j) = some u := by
      intro j u hu
      rcases hl with rfl | ⟨b, off, hb, hc⟩
      · simp at hu
      · cases hb
        have hj : j < l.length := by
          rcases Nat.lt_or_ge j l.length with h | h
          · exact h
          · rw [List.getElem?_eq_none (by simpa using h)] at hu; cases hu
        have hadd : (⟨b, off, none⟩ : Addr).add j = ⟨b, off + j, none⟩ := by unfold Addr.add; split <;> simp_all
        rw [hadd, hc j hj]
        rw [List.getElem?_map, List.getElem?_eq_getElem hj] at hu
        exact hu
    clear hl h0
    have HN := Lib.hid hnews
    clear hnews
    go_enter Tryz.func25, Tryz.ntmps25
    go_wp2_with (at_builtin; go_loud (refine wpList_append_own _ rfl _ _ 41 rfl w.heap.size 9 i0 (.string ByteArray.empty) 1 16 Tryz.underlying41 hi hz0 hz1 hz2 rfl (by decide) _ _ _ rfl (World.ownsRow_nil _ _ _ _) ad l.length cap (l.map strVal) rfl (by simp) HN.out (by simp [strVal, Value.oneCell']) (by unfold maxLen; omega) (by omega) (Nat.le_refl _) ?_; intro v' w1 hown hgrow _))
    go_ret
    exact ⟨_, rfl, by simpa using hown, (Below.refl _ _).grown hgrow (Nat.le_refl _) (fun k hk => by have h2 : (Value.slice none 0 0).ownBlock = some k := hk; simp [Value.ownBlock] at h2)⟩
end Go.Proofs.YthmnffgjckpkiaaGreatDoor
