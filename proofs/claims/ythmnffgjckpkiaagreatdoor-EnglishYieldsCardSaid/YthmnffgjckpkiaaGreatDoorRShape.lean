/-
  Contracts of Kind, Parts, cat and word of the reference of chapter 34: the shapes of the rules.
-/
import Derived.Test.YthmnffgjckpkiaaGreatDoorGEngJ
import Derived.Test.YthmnffgjckpkiaaGreatDoorPlainE
namespace Go.Proofs.YthmnffgjckpkiaaGreatDoor
open Go Go.RowKit Go.Shelf

set_option maxRecDepth 100000 in
set_option maxHeartbeats 4000000 in
theorem rKind_any (w : World) (r : Int) : Calls Tryz.prog 84 #[.int .u8 r] w fun e w' => e = .returned (.int .i64 (kindS r)) ∧ Below w.heap.size w w' := by
  by_cases hr : 1 ≤ r ∧ r ≤ 19
  · rcases (show r = 1 ∨ r = 2 ∨ r = 3 ∨ r = 4 ∨ r = 5 ∨ r = 6 ∨ r = 7 ∨ r = 8 ∨ r = 9 ∨ r = 10 ∨ r = 11 ∨ r = 12 ∨ r = 13 ∨ r = 14 ∨ r = 15 ∨ r = 16 ∨ r = 17 ∨ r = 18 ∨ r = 19 by omega) with rfl | rfl | rfl | rfl | rfl | rfl | rfl | rfl | rfl | rfl | rfl | rfl | rfl | rfl | rfl | rfl | rfl | rfl | rfl
    all_goals
      clear hr
      go_enter Tryz.func84, Tryz.ntmps84
      go_wp2
      go_ret
      exact ⟨rfl, Below.refl _ _⟩
  · have hk : kindS r = 0 := by
      unfold kindS shapeS
      repeat rw [if_neg (by omega)]
    rw [hk]
    have e1 : (r == 1) = false := by simp; omega
    have e2 : (r == 2) = false := by simp; omega
    have e3 : (r == 3) = false := by simp; omega
    have e4 : (r == 4) = false := by simp; omega
    have e5 : (r == 5) = false := by simp; omega
    have e6 : (r == 6) = false := by simp; omega
    have e7 : (r == 7) = false := by simp; omega
    have e8 : (r == 8) = false := by simp; omega
    have e9 : (r == 9) = false := by simp; omega
    have e10 : (r == 10) = false := by simp; omega
    have e11 : (r == 11) = false := by simp; omega
    have e12 : (r == 12) = false := by simp; omega
    have e13 : (r == 13) = false := by simp; omega
    have e14 : (r == 14) = false := by simp; omega
    have e15 : (r == 15) = false := by simp; omega
    have e16 : (r == 16) = false := by simp; omega
    have e17 : (r == 17) = false := by simp; omega
    have e18 : (r == 18) = false := by simp; omega
    have e19 : (r == 19) = false := by simp; omega
    clear hk hr
    go_enter Tryz.func84, Tryz.ntmps84
    go_wp2
    go_ret
    exact ⟨rfl, Below.refl _ _⟩
set_option maxRecDepth 100000 in
set_option maxHeartbeats 4000000 in
theorem rCat_any (w : World) (r : Int) : Calls Tryz.prog 126 #[.int .u8 r] w fun e w' => e = .returned (.int .u8 (shapeS r).cat) ∧ Below w.heap.size w w' := by
  by_cases hr : 1 ≤ r ∧ r ≤ 19
  · rcases (show r = 1 ∨ r = 2 ∨ r = 3 ∨ r = 4 ∨ r = 5 ∨ r = 6 ∨ r = 7 ∨ r = 8 ∨ r = 9 ∨ r = 10 ∨ r = 11 ∨ r = 12 ∨ r = 13 ∨ r = 14 ∨ r = 15 ∨ r = 16 ∨ r = 17 ∨ r = 18 ∨ r = 19 by omega) with rfl | rfl | rfl | rfl | rfl | rfl | rfl | rfl | rfl | rfl | rfl | rfl | rfl | rfl | rfl | rfl | rfl | rfl | rfl
    all_goals
      clear hr
      go_enter Tryz.func126, Tryz.ntmps126
      go_wp2
      go_ret
      exact ⟨rfl, Below.refl _ _⟩
  · have hk : (shapeS r).cat = 0 := by
      unfold shapeS
      repeat rw [if_neg (by omega)]
    rw [hk]
    have e1 : (r == 1) = false := by simp; omega
    have e2 : (r == 2) = false := by simp; omega
    have e3 : (r == 3) = false := by simp; omega
    have e4 : (r == 4) = false := by simp; omega
    have e5 : (r == 5) = false := by simp; omega
    have e6 : (r == 6) = false := by simp; omega
    have e7 : (r == 7) = false := by simp; omega
    have e8 : (r == 8) = false := by simp; omega
    have e9 : (r == 9) = false := by simp; omega
    have e10 : (r == 10) = false := by simp; omega
    have e11 : (r == 11) = false := by simp; omega
    have e12 : (r == 12) = false := by simp; omega
    have e13 : (r == 13) = false := by simp; omega
    have e14 : (r == 14) = false := by simp; omega
    have e15 : (r == 15) = false := by simp; omega
    have e16 : (r == 16) = false := by simp; omega
    have e17 : (r == 17) = false := by simp; omega
    have e18 : (r == 18) = false := by simp; omega
    have e19 : (r == 19) = false := by simp; omega
    clear hk hr
    go_enter Tryz.func126, Tryz.ntmps126
    go_wp2
    go_ret
    exact ⟨rfl, Below.refl _ _⟩
/-- The kinds of parts as the reference lists them. -/
def PartsI (w : World) (v : Value) (ks : List Nat) : Prop :=
  ∃ a cap, v = .slice a ks.length cap ∧ (ks = [] ∨ ∃ b, a = some ⟨b, 0, none⟩ ∧ ∀ j (h : j < ks.length), w.cell? ⟨b, j, none⟩ = some (.int .i64 ks[j]))
theorem PartsI.below {w w' : World} {v : Value} {ks : List Nat} (h : PartsI w v ks) (hb : Below w.heap.size w w') : PartsI w' v ks := by
  obtain ⟨a, cap, rfl, h⟩ := h
  refine ⟨a, cap, rfl, ?_⟩
  rcases h with h | ⟨b, rfl, hc⟩
  · exact .inl h
  · exact .inr ⟨b, rfl, fun j hj => cell_kept' hb (hc j hj)⟩
theorem partsI_one {w : World} {b : Nat} {x : Nat} {T : TypeId} (h : w.heap[b]? = some (.cells #[.int .i64 x] T (0, 0))) : PartsI w (.slice (some ⟨b, 0, none⟩) 1 1) [x] :=
  ⟨_, _, rfl, .inr ⟨b, rfl, fun j hj => by
    obtain rfl : j = 0 := by simp at hj; omega
    simp [World.cell?, h]⟩⟩
theorem partsI_two {w : World} {b : Nat} {x y : Nat} {T : TypeId} (h : w.heap[b]? = some (.cells #[.int .i64 x, .int .i64 y] T (0, 0))) : PartsI w (.slice (some ⟨b, 0, none⟩) 2 2) [x, y] :=
  ⟨_, _, rfl, .inr ⟨b, rfl, fun j hj => by
    rcases j with _ | _ | j
    · simp [World.cell?, h]
    · simp [World.cell?, h]
    · simp at hj; omega⟩⟩
set_option maxRecDepth 100000 in
set_option maxHeartbeats 4000000 in
theorem rParts_any (w : World) (r : Int) : Calls Tryz.prog 129 #[.int .u8 r] w fun e w' => ∃ pv, e = .returned pv ∧ PartsI w' pv (shapeS r).parts ∧ Below w.heap.size w w' := by
  by_cases hr : 1 ≤ r ∧ r ≤ 19
  · rcases (show r = 1 ∨ r = 2 ∨ r = 3 ∨ r = 4 ∨ r = 5 ∨ r = 6 ∨ r = 7 ∨ r = 8 ∨ r = 9 ∨ r = 10 ∨ r = 11 ∨ r = 12 ∨ r = 13 ∨ r = 14 ∨ r = 15 ∨ r = 16 ∨ r = 17 ∨ r = 18 ∨ r = 19 by omega) with rfl | rfl | rfl | rfl | rfl | rfl | rfl | rfl | rfl | rfl | rfl | rfl | rfl | rfl | rfl | rfl | rfl | rfl | rfl
    · clear hr
      go_enter Tryz.func129, Tryz.ntmps129
      go_wp2
      go_ret
      exact ⟨_, rfl, partsI_two (x := 1) (y := 1) (heap_at2 rfl), (Below.refl _ _).alloc (Nat.le_refl _) _⟩
    · clear hr
      go_enter Tryz.func129, Tryz.ntmps129
      go_wp2
      go_ret
      exact ⟨_, rfl, partsI_two (x := 1) (y := 1) (heap_at2 rfl), (Below.refl _ _).alloc (Nat.le_refl _) _⟩
    · clear hr
      go_enter Tryz.func129, Tryz.ntmps129
      go_wp2
      go_ret
      exact ⟨_, rfl, partsI_two (x := 1) (y := 1) (heap_at2 rfl), (Below.refl _ _).alloc (Nat.le_refl _) _⟩
    · clear hr
      go_enter Tryz.func129, Tryz.ntmps129
      go_wp2
      go_ret
      exact ⟨_, rfl, partsI_two (x := 1) (y := 1) (heap_at2 rfl), (Below.refl _ _).alloc (Nat.le_refl _) _⟩
    · clear hr
      go_enter Tryz.func129, Tryz.ntmps129
      go_wp2
      go_ret
      exact ⟨_, rfl, partsI_two (x := 2) (y := 4) (heap_at2 rfl), (Below.refl _ _).alloc (Nat.le_refl _) _⟩
    · clear hr
      go_enter Tryz.func129, Tryz.ntmps129
      go_wp2
      go_ret
      exact ⟨_, rfl, ⟨_, _, rfl, .inl rfl⟩, Below.refl _ _⟩
    · clear hr
      go_enter Tryz.func129, Tryz.ntmps129
      go_wp2
      go_ret
      exact ⟨_, rfl, partsI_one (x := 3) (heap_at2 rfl), (Below.refl _ _).alloc (Nat.le_refl _) _⟩
    · clear hr
      go_enter Tryz.func129, Tryz.ntmps129
      go_wp2
      go_ret
      exact ⟨_, rfl, ⟨_, _, rfl, .inl rfl⟩, Below.refl _ _⟩
    · clear hr
      go_enter Tryz.func129, Tryz.ntmps129
      go_wp2
      go_ret
      exact ⟨_, rfl, partsI_one (x := 3) (heap_at2 rfl), (Below.refl _ _).alloc (Nat.le_refl _) _⟩
    · clear hr
      go_enter Tryz.func129, Tryz.ntmps129
      go_wp2
      go_ret
      exact ⟨_, rfl, partsI_one (x := 4) (heap_at2 rfl), (Below.refl _ _).alloc (Nat.le_refl _) _⟩
    · clear hr
      go_enter Tryz.func129, Tryz.ntmps129
      go_wp2
      go_ret
      exact ⟨_, rfl, partsI_two (x := 2) (y := 5) (heap_at2 rfl), (Below.refl _ _).alloc (Nat.le_refl _) _⟩
    · clear hr
      go_enter Tryz.func129, Tryz.ntmps129
      go_wp2
      go_ret
      exact ⟨_, rfl, ⟨_, _, rfl, .inl rfl⟩, Below.refl _ _⟩
    · clear hr
      go_enter Tryz.func129, Tryz.ntmps129
      go_wp2
      go_ret
      exact ⟨_, rfl, partsI_one (x := 2) (heap_at2 rfl), (Below.refl _ _).alloc (Nat.le_refl _) _⟩
    · clear hr
      go_enter Tryz.func129, Tryz.ntmps129
      go_wp2
      go_ret
      exact ⟨_, rfl, ⟨_, _, rfl, .inl rfl⟩, Below.refl _ _⟩
    · clear hr
      go_enter Tryz.func129, Tryz.ntmps129
      go_wp2
      go_ret
      exact ⟨_, rfl, partsI_one (x := 3) (heap_at2 rfl), (Below.refl _ _).alloc (Nat.le_refl _) _⟩
    · clear hr
      go_enter Tryz.func129, Tryz.ntmps129
      go_wp2
      go_ret
      exact ⟨_, rfl, partsI_one (x := 4) (heap_at2 rfl), (Below.refl _ _).alloc (Nat.le_refl _) _⟩
    · clear hr
      go_enter Tryz.func129, Tryz.ntmps129
      go_wp2
      go_ret
      exact ⟨_, rfl, partsI_two (x := 4) (y := 4) (heap_at2 rfl), (Below.refl _ _).alloc (Nat.le_refl _) _⟩
    · clear hr
      go_enter Tryz.func129, Tryz.ntmps129
      go_wp2
      go_ret
      exact ⟨_, rfl, partsI_two (x := 4) (y := 4) (heap_at2 rfl), (Below.refl _ _).alloc (Nat.le_refl _) _⟩
    · clear hr
      go_enter Tryz.func129, Tryz.ntmps129
      go_wp2
      go_ret
      exact ⟨_, rfl, ⟨_, _, rfl, .inl rfl⟩, Below.refl _ _⟩
  · have hk : (shapeS r).parts = [] := by
      unfold shapeS
      repeat rw [if_neg (by omega)]
    rw [hk]
    have e1 : (r == 1) = false := by simp; omega
    have e2 : (r == 2) = false := by simp; omega
    have e3 : (r == 3) = false := by simp; omega
    have e4 : (r == 4) = false := by simp; omega
    have e5 : (r == 5) = false := by simp; omega
    have e6 : (r == 6) = false := by simp; omega
    have e7 : (r == 7) = false := by simp; omega
    have e8 : (r == 8) = false := by simp; omega
    have e9 : (r == 9) = false := by simp; omega
    have e10 : (r == 10) = false := by simp; omega
    have e11 : (r == 11) = false := by simp; omega
    have e12 : (r == 12) = false := by simp; omega
    have e13 : (r == 13) = false := by simp; omega
    have e14 : (r == 14) = false := by simp; omega
    have e15 : (r == 15) = false := by simp; omega
    have e16 : (r == 16) = false := by simp; omega
    have e17 : (r == 17) = false := by simp; omega
    have e18 : (r == 18) = false := by simp; omega
    have e19 : (r == 19) = false := by simp; omega
    clear hk hr
    go_enter Tryz.func129, Tryz.ntmps129
    go_wp2
    go_ret
    exact ⟨_, rfl, ⟨_, _, rfl, .inl rfl⟩, Below.refl _ _⟩
set_option maxRecDepth 100000 in
set_option maxHeartbeats 4000000 in
theorem rWord_any (w : World) (r : Int) (x : List UInt8) : Calls Tryz.prog 130 #[.int .u8 r, .string ⟨x.toArray⟩] w fun e w' => e = .returned (.bool (wordOk (shapeS r).words x)) ∧ Below w.heap.size w w' := by
  by_cases h7 : r = 7
  · subst h7
    by_cases c0 : x = wEvery
    · have hw : wordOk (shapeS 7).words x = true := by rw [c0]; decide
      have d0 : (x == [101, 118, 101, 114, 121]) = true := by rw [c0]; rfl
      rw [hw]
      clear hw c0
      go_enter Tryz.func130, Tryz.ntmps130
      go_wp2
      go_ret
      exact ⟨ret_bool (by first | rfl | simp), Below.refl _ _⟩
    by_cases c1 : x = wEach
    · have hw : wordOk (shapeS 7).words x = true := by rw [c1]; decide
      have d0 : (x == [101, 118, 101, 114, 121]) = false := by simpa [wEvery] using c0
      have d1 : (x == [101, 97, 99, 104]) = true := by rw [c1]; rfl
      rw [hw]
      clear hw c0 c1
      go_enter Tryz.func130, Tryz.ntmps130
      go_wp2
      go_ret
      exact ⟨ret_bool (by first | rfl | simp), Below.refl _ _⟩
    by_cases c2 : x = wSome
    · have hw : wordOk (shapeS 7).words x = true := by rw [c2]; decide
      have d0 : (x == [101, 118, 101, 114, 121]) = false := by simpa [wEvery] using c0
      have d1 : (x == [101, 97, 99, 104]) = false := by simpa [wEach] using c1
      have d2 : (x == [115, 111, 109, 101]) = true := by rw [c2]; rfl
      rw [hw]
      clear hw c0 c1 c2
      go_enter Tryz.func130, Tryz.ntmps130
      go_wp2
      go_ret
      exact ⟨ret_bool (by first | rfl | simp), Below.refl _ _⟩
    by_cases c3 : x = wNo
    · have hw : wordOk (shapeS 7).words x = true := by rw [c3]; decide
      have d0 : (x == [101, 118, 101, 114, 121]) = false := by simpa [wEvery] using c0
      have d1 : (x == [101, 97, 99, 104]) = false := by simpa [wEach] using c1
      have d2 : (x == [115, 111, 109, 101]) = false := by simpa [wSome] using c2
      have d3 : (x == [110, 111]) = true := by rw [c3]; rfl
      rw [hw]
      clear hw c0 c1 c2 c3
      go_enter Tryz.func130, Tryz.ntmps130
      go_wp2
      go_ret
      exact ⟨ret_bool (by first | rfl | simp), Below.refl _ _⟩
    by_cases c4 : x = wA
    · have hw : wordOk (shapeS 7).words x = true := by rw [c4]; decide
      have d0 : (x == [101, 118, 101, 114, 121]) = false := by simpa [wEvery] using c0
      have d1 : (x == [101, 97, 99, 104]) = false := by simpa [wEach] using c1
      have d2 : (x == [115, 111, 109, 101]) = false := by simpa [wSome] using c2
      have d3 : (x == [110, 111]) = false := by simpa [wNo] using c3
      have d4 : (x == [97]) = true := by rw [c4]; rfl
      rw [hw]
      clear hw c0 c1 c2 c3 c4
      go_enter Tryz.func130, Tryz.ntmps130
      go_wp2
      go_ret
      exact ⟨ret_bool (by first | rfl | simp), Below.refl _ _⟩
    have hw : wordOk (shapeS 7).words x = false := by
      unfold wordOk
      rw [if_neg (by decide)]
      cases h : (shapeS 7).words.contains x
      · rfl
      · exfalso
        have h := List.contains_iff_mem.1 h
        have h' : x ∈ [wEvery, wEach, wSome, wNo, wA] := h
        simp only [List.mem_cons, List.not_mem_nil, or_false] at h'
        rcases h' with h | h | h | h | h
        · exact c0 h
        · exact c1 h
        · exact c2 h
        · exact c3 h
        · exact c4 h
    have d0 : (x == [101, 118, 101, 114, 121]) = false := by simpa [wEvery] using c0
    have d1 : (x == [101, 97, 99, 104]) = false := by simpa [wEach] using c1
    have d2 : (x == [115, 111, 109, 101]) = false := by simpa [wSome] using c2
    have d3 : (x == [110, 111]) = false := by simpa [wNo] using c3
    have d4 : (x == [97]) = false := by simpa [wA] using c4
    rw [hw]
    clear hw c0 c1 c2 c3 c4
    go_enter Tryz.func130, Tryz.ntmps130
    go_wp2
    go_ret
    exact ⟨ret_bool (by first | rfl | simp), Below.refl _ _⟩
  by_cases h10 : r = 10
  · subst h10
    clear h7
    by_cases c0 : x = wWho
    · have hw : wordOk (shapeS 10).words x = true := by rw [c0]; decide
      have d0 : (x == [119, 104, 111]) = true := by rw [c0]; rfl
      rw [hw]
      clear hw c0
      go_enter Tryz.func130, Tryz.ntmps130
      go_wp2
      go_ret
      exact ⟨ret_bool (by first | rfl | simp), Below.refl _ _⟩
    by_cases c1 : x = wThat
    · have hw : wordOk (shapeS 10).words x = true := by rw [c1]; decide
      have d0 : (x == [119, 104, 111]) = false := by simpa [wWho] using c0
      have d1 : (x == [116, 104, 97, 116]) = true := by rw [c1]; rfl
      rw [hw]
      clear hw c0 c1
      go_enter Tryz.func130, Tryz.ntmps130
      go_wp2
      go_ret
      exact ⟨ret_bool (by first | rfl | simp), Below.refl _ _⟩
    have hw : wordOk (shapeS 10).words x = false := by
      unfold wordOk
      rw [if_neg (by decide)]
      cases h : (shapeS 10).words.contains x
      · rfl
      · exfalso
        have h := List.contains_iff_mem.1 h
        have h' : x ∈ [wWho, wThat] := h
        simp only [List.mem_cons, List.not_mem_nil, or_false] at h'
        rcases h' with h | h
        · exact c0 h
        · exact c1 h
    have d0 : (x == [119, 104, 111]) = false := by simpa [wWho] using c0
    have d1 : (x == [116, 104, 97, 116]) = false := by simpa [wThat] using c1
    rw [hw]
    clear hw c0 c1
    go_enter Tryz.func130, Tryz.ntmps130
    go_wp2
    go_ret
    exact ⟨ret_bool (by first | rfl | simp), Below.refl _ _⟩
  by_cases h11 : r = 11
  · subst h11
    clear h7 h10
    by_cases c0 : x = wWho
    · have hw : wordOk (shapeS 11).words x = true := by rw [c0]; decide
      have d0 : (x == [119, 104, 111]) = true := by rw [c0]; rfl
      rw [hw]
      clear hw c0
      go_enter Tryz.func130, Tryz.ntmps130
      go_wp2
      go_ret
      exact ⟨ret_bool (by first | rfl | simp), Below.refl _ _⟩
    by_cases c1 : x = wThat
    · have hw : wordOk (shapeS 11).words x = true := by rw [c1]; decide
      have d0 : (x == [119, 104, 111]) = false := by simpa [wWho] using c0
      have d1 : (x == [116, 104, 97, 116]) = true := by rw [c1]; rfl
      rw [hw]
      clear hw c0 c1
      go_enter Tryz.func130, Tryz.ntmps130
      go_wp2
      go_ret
      exact ⟨ret_bool (by first | rfl | simp), Below.refl _ _⟩
    have hw : wordOk (shapeS 11).words x = false := by
      unfold wordOk
      rw [if_neg (by decide)]
      cases h : (shapeS 11).words.contains x
      · rfl
      · exfalso
        have h := List.contains_iff_mem.1 h
        have h' : x ∈ [wWho, wThat] := h
        simp only [List.mem_cons, List.not_mem_nil, or_false] at h'
        rcases h' with h | h
        · exact c0 h
        · exact c1 h
    have d0 : (x == [119, 104, 111]) = false := by simpa [wWho] using c0
    have d1 : (x == [116, 104, 97, 116]) = false := by simpa [wThat] using c1
    rw [hw]
    clear hw c0 c1
    go_enter Tryz.func130, Tryz.ntmps130
    go_wp2
    go_ret
    exact ⟨ret_bool (by first | rfl | simp), Below.refl _ _⟩
  have hk : (shapeS r).words = [] := by
    by_cases hr : 1 ≤ r ∧ r ≤ 19
    · rcases (show r = 1 ∨ r = 2 ∨ r = 3 ∨ r = 4 ∨ r = 5 ∨ r = 6 ∨ r = 7 ∨ r = 8 ∨ r = 9 ∨ r = 10 ∨ r = 11 ∨ r = 12 ∨ r = 13 ∨ r = 14 ∨ r = 15 ∨ r = 16 ∨ r = 17 ∨ r = 18 ∨ r = 19 by omega) with rfl | rfl | rfl | rfl | rfl | rfl | rfl | rfl | rfl | rfl | rfl | rfl | rfl | rfl | rfl | rfl | rfl | rfl | rfl <;> first | rfl | (exact absurd rfl h7) | (exact absurd rfl h10) | (exact absurd rfl h11)
    · unfold shapeS
      repeat rw [if_neg (by omega)]
  have e7 : (r == 7) = false := by simpa using h7
  have e10 : (r == 10) = false := by simpa using h10
  have e11 : (r == 11) = false := by simpa using h11
  have hw : wordOk (shapeS r).words x = (x == []) := by rw [hk]; rfl
  rw [hw]
  clear hw hk h7 h10 h11
  by_cases h0 : x = []
  · subst h0
    go_enter Tryz.func130, Tryz.ntmps130
    go_wp2
    go_ret
    exact ⟨ret_bool (by first | rfl | simp), Below.refl _ _⟩
  · have d0 : (x == []) = false := by simpa using h0
    have d1 : x.isEmpty = false := by simpa using h0
    clear h0
    go_enter Tryz.func130, Tryz.ntmps130
    go_wp2
    go_ret
    exact ⟨ret_bool (by first | rfl | simp [d0]), Below.refl _ _⟩
end Go.Proofs.YthmnffgjckpkiaaGreatDoor
