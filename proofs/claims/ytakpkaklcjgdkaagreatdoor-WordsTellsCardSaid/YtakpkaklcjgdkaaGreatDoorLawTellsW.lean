/-
  The walk of 'WordsTells' itself.
-/
import Derived.Test.YtakpkaklcjgdkaaGreatDoorLawTells
namespace Go.Proofs.YtakpkaklcjgdkaaGreatDoor
open Go Go.RowKit

theorem small_len {l : List Ent} (h : smallL l = true) : l.length ≤ 103 := by
  unfold smallL at h
  simp only [Bool.and_eq_true, decide_eq_true_eq] at h
  exact h.1

set_option maxRecDepth 100000 in
set_option maxHeartbeats 8000000 in
theorem WordsTells_any (W0 w : World) (ht : Tabs W0 w) (v : Value) (l : List Ent) (hl : EntSlice w v l) (e : Ent) (he : e.ok) (tok : ByteArray) (htok : tok.size ≤ 9223372036854775807) :
    Calls Tryz.prog 4 #[v, .agg #[.string e.word, .int .u8 e.cat, .string e.sym], .string tok] w fun r w' => r = .returned (.bool true) ∧ Below w.heap.size w w' := by
  have HL := Lib.hid hl
  have HE := Lib.hid he
  clear hl he
  have hx0 : Below w.heap.size w (w.alloc (.cells #[.string e.word, .int .u8 e.cat, .string e.sym] 26)) := (Below.refl _ _).alloc (Nat.le_refl _) _
  have q0 : (w.alloc (.cells #[.string e.word, .int .u8 e.cat, .string e.sym] 26)).cell? ⟨w.heap.size, 0, none⟩ = some (.string e.word) := by simp
  have q1 : (w.alloc (.cells #[.string e.word, .int .u8 e.cat, .string e.sym] 26)).cell? ⟨w.heap.size, 1, none⟩ = some (.int .u8 e.cat) := by simp
  have q2 : (w.alloc (.cells #[.string e.word, .int .u8 e.cat, .string e.sym] 26)).cell? ⟨w.heap.size, 2, none⟩ = some (.string e.sym) := by simp
  obtain ⟨b1, hb1⟩ : ∃ b, b = smallL l := ⟨_, rfl⟩
  obtain ⟨b2, hb2⟩ : ∃ b, b = smallL [e] := ⟨_, rfl⟩
  have HB1 := Lib.hid hb1
  have HB2 := Lib.hid hb2
  clear hb1 hb2
  go_enter Tryz.func4, Tryz.ntmps4
  go_wp2_with fail
  refine (HB1.out ▸ Small_any _ v l (HL.out.below hx0)).mono ?_
  rintro r w1 ⟨rfl, hw1⟩
  cases b1
  · subst hw1
    go_wp2_with fail
    refine (awake_any W0 _ (ht.next hx0)).mono ?_
    rintro r w2 ⟨rfl, hb⟩
    go_wp2
    go_ret
    exact ⟨rfl, hx0.trans (hb.mono hx0.size)⟩
  subst hw1
  go_wp2_with fail
  have hes := ents_one_slice (w := (w.alloc (.cells #[.string e.word, .int .u8 e.cat, .string e.sym] 26)).alloc (.cells #[.string e.word, .int .u8 e.cat, .string e.sym] 26)) (g := w.heap.size + 1) HE.out (by simp) (by simp) (by simp)
  have hx1 : Below w.heap.size w ((w.alloc (.cells #[.string e.word, .int .u8 e.cat, .string e.sym] 26)).alloc (.cells #[.string e.word, .int .u8 e.cat, .string e.sym] 26)) := hx0.alloc hx0.size _
  refine (HB2.out ▸ Small_any _ _ [e] hes).mono ?_
  rintro r w1 ⟨rfl, hw1⟩
  subst hw1
  cases b2
  · go_wp2_with fail
    refine (awake_any W0 _ (ht.next hx1)).mono ?_
    rintro r w2 ⟨rfl, hb⟩
    go_wp2
    go_ret
    exact ⟨rfl, hx1.trans (hb.mono hx1.size)⟩
  by_cases h40 : tok.size ≤ 40
  · go_wp2_with fail
    refine (tells_any W0 _ (ht.next hx1) v l (HL.out.below hx1) (by have := small_len HB1.out.symm; omega) e HE.out tok).mono ?_
    rintro r w2 ⟨rfl, hb⟩
    have hx2 := hx1.trans (hb.mono hx1.size)
    go_wp2_with fail
    refine (awake_any W0 _ (ht.next hx2)).mono ?_
    rintro r w3 ⟨rfl, hb3⟩
    go_wp2
    go_ret
    exact ⟨rfl, hx2.trans (hb3.mono hx2.size)⟩
  · go_wp2_with fail
    refine (awake_any W0 _ (ht.next hx1)).mono ?_
    rintro r w2 ⟨rfl, hb⟩
    go_wp2
    go_ret
    exact ⟨rfl, hx1.trans (hb.mono hx1.size)⟩
end Go.Proofs.YtakpkaklcjgdkaaGreatDoor
