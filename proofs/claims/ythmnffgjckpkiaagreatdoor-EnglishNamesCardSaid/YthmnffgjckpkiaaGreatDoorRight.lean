/-
  Contracts of 'Function' and 'Predicate' of package syntax, 'proper' and 'Right' of package words.
-/
import Derived.Test.YthmnffgjckpkiaaGreatDoorName
namespace Go.Proofs.YthmnffgjckpkiaaGreatDoor
open Go Go.RowKit

theorem SynFunction_any (w : World) (s : ByteArray) (hs : s.size ≤ 9223372036854775807) :
    Calls Tryz.prog 95 #[.string s] w fun e w' => e = .returned (.bool (nameS fnI s.data.toList)) ∧ Below w.heap.size w w' := by
  go_enter Tryz.func95, Tryz.ntmps95
  go_wp2_with (first
    | (go_at_call 163; refine (checker_fn _ _ _ _ hs ?_ ?_).mono ?_)
    | go_in)
  case refine_1 => simp
  case refine_2 => simp
  rintro e w' ⟨rfl, n, rfl⟩
  go_wp2
  go_ret
  exact ⟨rfl, (((Below.refl _ _).alloc (Nat.le_refl _) _).alloc (by simp) _).drewsN _⟩

theorem SynPredicate_any (w : World) (s : ByteArray) (hs : s.size ≤ 9223372036854775807) :
    Calls Tryz.prog 98 #[.string s] w fun e w' => e = .returned (.bool (nameS capI s.data.toList)) ∧ Below w.heap.size w w' := by
  go_enter Tryz.func98, Tryz.ntmps98
  go_wp2_with (first
    | (go_at_call 163; refine (checker_cap _ _ _ _ hs ?_ ?_).mono ?_)
    | go_in)
  case refine_1 => simp
  case refine_2 => simp
  rintro e w' ⟨rfl, n, rfl⟩
  go_wp2
  go_ret
  exact ⟨rfl, (((Below.refl _ _).alloc (Nat.le_refl _) _).alloc (by simp) _).drewsN _⟩

theorem tail_str (s : ByteArray) : (s.extract 1 s.size).data.toList = s.data.toList.tail := by
  rw [Lib.extract_to_end]; simp

theorem proper_any (w : World) (s : ByteArray) (hs : s.size ≤ 9223372036854775807) :
    Calls Tryz.prog 94 #[.string s] w fun e w' => e = .returned (.bool (properS s.data.toList)) ∧ w = w' := by
  by_cases h1 : 1 ≤ s.size
  · have h0 : 0 < s.size := h1
    by_cases h2 : s.size ≤ 16
    · have hp : properS s.data.toList = (letterI s[0].toNat && (!smallI s[0].toNat && allSmall s.data.toList.tail)) := by
        unfold properS; rw [head_get h1]; simp [h1, h2]
      rw [hp]; clear hp
      go_enter Tryz.func94, Tryz.ntmps94
      go_wp2_with (first
        | (go_at_call 64; refine (letter_any _ _).mono ?_; rintro e w' ⟨rfl, rfl⟩)
        | (go_at_call 103; refine (small_any _ _).mono ?_; rintro e w' ⟨rfl, rfl⟩)
        | (go_at_call 133; refine (made_small _ _ ?_).mono ?_))
      · have ha : letterI ↑s[0].toNat = true := by assumption
        have hb : smallI ↑s[0].toNat = true := by assumption
        go_ret
        exact ⟨ret_bool (by rw [ha, hb]; rfl), rfl⟩
      · simp; omega
      · have ha : letterI ↑s[0].toNat = true := by assumption
        have hb : ¬ smallI ↑s[0].toNat = true := by assumption
        rintro e w' ⟨rfl, rfl⟩
        rw [tail_str]
        go_wp2
        go_ret
        exact ⟨ret_bool (by rw [ha, eq_false_of_ne_true hb]; rfl), rfl⟩
      · have ha : ¬ letterI ↑s[0].toNat = true := by assumption
        go_ret
        exact ⟨ret_bool (by rw [eq_false_of_ne_true ha]; rfl), rfl⟩
    · have hp : properS s.data.toList = false := by unfold properS; simp [h2]
      rw [hp]; clear hp
      go_enter Tryz.func94, Tryz.ntmps94
      go_wp2
      go_ret
      exact ⟨rfl, rfl⟩
  · have hp : properS s.data.toList = false := by unfold properS; simp [show s.size = 0 by omega]
    rw [hp]; clear hp
    go_enter Tryz.func94, Tryz.ntmps94
    go_wp2
    go_ret
    exact ⟨rfl, rfl⟩

/-- An entry. -/
structure Ent where
  word : ByteArray
  cat : Int
  sym : ByteArray
def Ent.cells (e : Ent) : List Value := [.string e.word, .int .u8 e.cat, .string e.sym]
def Ent.ok (e : Ent) : Prop := e.word.size ≤ maxLen ∧ e.sym.size ≤ maxLen
def Ent.w (e : Ent) : List UInt8 := e.word.data.toList
def Ent.s (e : Ent) : List UInt8 := e.sym.data.toList
/-- Whether an entry is right. -/
def rightS (e : Ent) : Bool :=
  if e.cat = 3 then properS e.w && nameS fnI e.s
  else if e.cat = 1 ∨ e.cat = 2 ∨ e.cat = 4 ∨ e.cat = 5 then plainS e.w && (!isFn e.w && nameS capI e.s) else false

set_option maxHeartbeats 1000000 in
theorem Right_any (W0 w : World) (ht : Tabs W0 w) (e : Ent) (he : e.ok) :
    Calls Tryz.prog 58 #[.agg #[.string e.word, .int .u8 e.cat, .string e.sym]] w fun r w' => r = .returned (.bool (rightS e)) ∧ Below w.heap.size w w' := by
  obtain ⟨hw, hsy⟩ := he
  have hw' : e.word.size ≤ 9223372036854775807 := by unfold maxLen at hw; omega
  have hs' : e.sym.size ≤ 9223372036854775807 := by unfold maxLen at hsy; omega
  obtain ⟨word, c, sym⟩ := e
  simp only at hw hsy hw' hs' ⊢
  by_cases h3 : c = 3
  · subst h3
    have hr : rightS ⟨word, 3, sym⟩ = (properS word.data.toList && nameS fnI sym.data.toList) := by simp [rightS, Ent.w, Ent.s]
    rw [hr]; clear hr
    go_enter Tryz.func58, Tryz.ntmps58
    go_wp2_with (first
      | (go_at_call 94; refine (proper_any _ _ hw').mono ?_; rintro e w' ⟨rfl, rfl⟩)
      | (go_at_call 95; refine (SynFunction_any _ _ hs').mono ?_; rintro e w' ⟨rfl, hb⟩))
    · have hp : properS word.data.toList = true := by assumption
      go_ret
      exact ⟨ret_bool (by rw [hp]; rfl), ((Below.refl _ _).alloc (Nat.le_refl _) _).trans (hb.mono (by simp))⟩
    · have hp : ¬ properS word.data.toList = true := by assumption
      go_ret
      exact ⟨ret_bool (by rw [eq_false_of_ne_true hp]; rfl), (Below.refl _ _).alloc (Nat.le_refl _) _⟩
  · by_cases h4 : c = 1 ∨ c = 2 ∨ c = 4 ∨ c = 5
    · have hr : rightS ⟨word, c, sym⟩ = (plainS word.data.toList && (!isFn word.data.toList && nameS capI sym.data.toList)) := by simp [rightS, Ent.w, Ent.s, h3, h4]
      rw [hr]; clear hr h3
      rcases h4 with rfl | rfl | rfl | rfl
      all_goals
        go_enter Tryz.func58, Tryz.ntmps58
        go_wp2_with (first
          | (go_at_call 96; refine (plain_any _ _ hw').mono ?_; rintro e w' ⟨rfl, rfl⟩)
          | (go_at_call 97; refine (Function_any W0 _ (ht.alloc _) _ hw).mono ?_; rintro e w1 ⟨rfl, hb1⟩; obtain ⟨hc1, hf1⟩ := bcell hb1)
          | (go_at_call 98; refine (SynPredicate_any _ _ hs').mono ?_; rintro e w2 ⟨rfl, hb2⟩))
        · have hp : plainS word.data.toList = true := by assumption
          have hq : isFn word.data.toList = true := by assumption
          go_ret
          exact ⟨ret_bool (by rw [hp, hq]; rfl), ((Below.refl _ _).alloc (Nat.le_refl _) _).trans (hb1.mono (by simp))⟩
        · have hp : plainS word.data.toList = true := by assumption
          have hq : ¬ isFn word.data.toList = true := by assumption
          go_ret
          exact ⟨ret_bool (by rw [hp, eq_false_of_ne_true hq]; rfl), (((Below.refl _ _).alloc (Nat.le_refl _) _).trans (hb1.mono (by simp))).trans (hb2.mono (by have := hb1.size; simp at this; omega))⟩
        · have hp : ¬ plainS word.data.toList = true := by assumption
          go_ret
          exact ⟨ret_bool (by rw [eq_false_of_ne_true hp]; rfl), (Below.refl _ _).alloc (Nat.le_refl _) _⟩
    · have hr : rightS ⟨word, c, sym⟩ = false := by simp [rightS, h3, h4]
      rw [hr]; clear hr
      have k3 : (c == 3) = false := by simp; omega
      have k1 : (c == 1) = false := by simp; omega
      have k2 : (c == 2) = false := by simp; omega
      have k4 : (c == 4) = false := by simp; omega
      have k5 : (c == 5) = false := by simp; omega
      clear h3 h4
      go_enter Tryz.func58, Tryz.ntmps58
      go_wp2
      go_ret
      exact ⟨rfl, (Below.refl _ _).alloc (Nat.le_refl _) _⟩
end Go.Proofs.YthmnffgjckpkiaaGreatDoor
