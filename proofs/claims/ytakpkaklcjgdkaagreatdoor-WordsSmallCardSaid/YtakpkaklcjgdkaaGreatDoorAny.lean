/-
  Contracts in one form each: 'Tokens', 'Text' at whatever argument.
-/
import Derived.Test.YtakpkaklcjgdkaaGreatDoorAwake
import Derived.Test.YtakpkaklcjgdkaaGreatDoorLex
namespace Go.Proofs.YtakpkaklcjgdkaaGreatDoor
open Go Go.RowKit

theorem len_data (s : ByteArray) : s.data.toList.length = s.size := by simp
theorem strSlice_nil (w : World) : StrSlice w (.slice none 0 0) [] := ⟨none, 0, rfl, Nat.le_refl _, Nat.zero_le _, .inl rfl⟩

theorem Tokens_is (W0 w : World) (ht : Tabs W0 w) (s : ByteArray) (hs : s.size ≤ 9223372036854775807) {toks : List (List UInt8)} {k e : Int} (h : tokensS s.data.toList = (toks, k, e)) :
    Calls Tryz.prog 15 #[.string s] w fun r w' => ∃ v, r = .returned (.tuple #[v, .int .i64 k, .int .i64 e]) ∧ StrSlice w' v toks ∧ Below w.heap.size w w' := by
  by_cases hl : 1000 < s.size
  · have e1 : tokensS s.data.toList = ([], 0, 3) := by unfold tokensS; rw [if_pos (by rw [len_data]; exact hl)]
    rw [e1] at h
    simp only [Prod.mk.injEq] at h
    obtain ⟨rfl, rfl, rfl⟩ := h
    refine (Tokens_long w s hl hs).mono ?_
    rintro r w' ⟨rfl, hb⟩
    exact ⟨_, rfl, strSlice_nil _, hb⟩
  · have h1 := Tokens_short W0 w ht s (by omega)
    rw [h] at h1
    exact h1

theorem Text_is (W0 w : World) (ht : Tabs W0 w) (v : Value) (l : List (List UInt8)) (hl : StrSlice w v l) (hn : l.length ≤ 1000000) (hs : ∀ t ∈ l, t.length ≤ 1000000) {t : List UInt8} {e : Int} (h : textS l = (t, e)) :
    Calls Tryz.prog 17 #[v] w fun r w' => r = .returned (.tuple #[.string ⟨t.toArray⟩, .int .i64 e]) ∧ Below w.heap.size w w' := by
  cases hT : toksS l
  · have e1 : textS l = ([], 2) := by unfold textS; rw [hT]; rfl
    rw [e1] at h
    simp only [Prod.mk.injEq] at h
    obtain ⟨rfl, rfl⟩ := h
    exact Text_bad W0 w ht v l hl hn hs hT
  · have h1 := Text_good W0 w ht v l hl hn hs hT
    rw [h] at h1
    exact h1
end Go.Proofs.YtakpkaklcjgdkaaGreatDoor
