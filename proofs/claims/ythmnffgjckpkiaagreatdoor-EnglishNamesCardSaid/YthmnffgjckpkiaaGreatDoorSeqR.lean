/-
  The agreement between iterators that write one map and a body that writes one variable and the row that this variable owns.
-/
import Derived.Test.YthmnffgjckpkiaaGreatDoorSeqM
namespace Go.Proofs.YthmnffgjckpkiaaGreatDoor
open Go Go.RowKit

/-- The row that the value in a box owns. -/
def rowOf (W : World) (box : Nat) : Option Nat := (W.cell? ⟨box, 0, none⟩).bind Value.ownBlock
theorem rowOf_boxed {W : World} {box : Nat} {t : TypeId} {v : Value} (h : Boxed W box t v) : rowOf W box = v.ownBlock := by unfold rowOf; rw [h.cell]; rfl

structure RgOk (m : Nat) (G : Option Obj → Prop) (box base : Nat) (W : World) : Prop where
  good : G W.heap[m]?
  mlt : m < base
  blt : base ≤ box
  boxed : ∃ t v, Boxed W box t v ∧ t ≠ 4 ∧ ∀ r, v.ownBlock = some r → base ≤ r ∧ r < W.heap.size
def RgSf (m box : Nat) (W : World) (b : Nat) : Prop := b < W.heap.size ∧ b ≠ m ∧ b ≠ box ∧ some b ≠ rowOf W box

theorem boxed_small {m : Nat} {X Y : World} {row : Option Nat} {box : Nat} {t : TypeId} {v : Value} (hb : Boxed X box t v) (ht : t ≠ 4) (hm : box ≠ m) (hg : X.grownBy Y row) (hs : SmallStep m X row) : Boxed Y box t v :=
  hb.kept hg (fun e => by
    rcases hs box e.symm with rfl | ⟨o, ho, hc⟩
    · exact hm rfl
    · rw [show X.heap[box]? = _ from hb] at ho
      cases ho
      rcases hc with hc | ⟨u, hc⟩
      · cases hc
      · injection hc with _ hc; exact ht hc)
theorem RgOk.size {m : Nat} {G : Option Obj → Prop} {box base : Nat} {W : World} (h : RgOk m G box base W) : base < W.heap.size := by
  obtain ⟨t, v, hb, _, _⟩ := h.boxed
  have := hb.lt; have := h.blt; omega

/-- The regime: map m of which G holds, the body's box; all that lies below base is left alone, but the map. -/
def mkR (m : Nat) (G : Option Obj → Prop) (box base : Nat) : Rg where
  m := m
  ok := RgOk m G box base
  sf := RgSf m box
  lt := fun h => h.1
  ne := fun h => h.2.1
  mlt := fun h => Nat.lt_trans h.mlt h.size
  move := fun {X Y row b} h hg hs hsf => by
    obtain ⟨t, v, hb, ht, hr⟩ := h.boxed
    have hb' := boxed_small hb ht (by have := h.mlt; have := h.blt; omega) hg hs
    obtain ⟨h1, h2, h3, h4⟩ := hsf
    exact ⟨Nat.lt_of_lt_of_le h1 hg.size, h2, h3, by rw [rowOf_boxed hb'] ; rwa [rowOf_boxed hb] at h4⟩
  new := fun {X Y row b} h hg hs h1 h2 => by
    obtain ⟨t, v, hb, ht, hr⟩ := h.boxed
    have hb' := boxed_small hb ht (by have := h.mlt; have := h.blt; omega) hg hs
    have := h.size; have := h.mlt; have := hb.lt
    refine ⟨h2, by omega, by omega, ?_⟩
    rw [rowOf_boxed hb']
    intro e
    have := (hr b e.symm).2
    omega
  okMove := fun {X Y row} h hg hs => by
    obtain ⟨t, v, hb, ht, hr⟩ := h.boxed
    have hb' := boxed_small (m := m) hb ht (by have := h.mlt; have := h.blt; omega) hg (fun r e => .inr (hs r e).2)
    have := h.size
    refine ⟨?_, h.mlt, h.blt, t, v, hb', ht, fun r e => ⟨(hr r e).1, Nat.lt_of_lt_of_le (hr r e).2 hg.size⟩⟩
    rw [hg.block m (by have := h.mlt; omega) (fun e => (hs m e.symm).1 rfl)]
    exact h.good

variable {m : Nat} {G : Option Obj → Prop} {box base : Nat}
/-- What lay below base is left alone. -/
theorem RgOk.old {W : World} (h : RgOk m G box base W) {b : Nat} (hb : b < base) (hm : b ≠ m) : (mkR m G box base).sf W b := by
  obtain ⟨t, v, hx, _, hr⟩ := h.boxed
  have := h.blt; have := hx.lt
  refine ⟨by omega, hm, by omega, ?_⟩
  rw [rowOf_boxed hx]
  intro e
  have := (hr b e.symm).1
  omega
/-- A step of the iterator. -/
theorem mv_mk {X Y : World} (hg : X.grownBy Y (some m)) (hG : G X.heap[m]? → G Y.heap[m]?) : Mv (mkR m G box base) X Y :=
  ⟨hg, fun h => by
    obtain ⟨t, v, hb, ht, hr⟩ := h.boxed
    exact ⟨hG h.good, h.mlt, h.blt, t, v, boxed_small (m := m) hb ht (by have := h.mlt; have := h.blt; omega) hg (smallM _ _), ht, fun r e => ⟨(hr r e).1, Nat.lt_of_lt_of_le (hr r e).2 hg.size⟩⟩⟩
/-- A step of the body: the box, the row that it owned, the map, and new blocks. -/
theorem kp_body {W W' : World} {t : TypeId} {v v' : Value} (hb : Boxed W box t v) (hsize : W.heap.size ≤ W'.heap.size)
    (hsame : ∀ b, b < W.heap.size → b ≠ m → b ≠ box → some b ≠ v.ownBlock → W'.heap[b]? = W.heap[b]?) (hG : G W.heap[m]? → G W'.heap[m]?)
    (hb' : Boxed W' box t v') (hrow : ∀ r, v'.ownBlock = some r → (v.ownBlock = some r ∨ W.heap.size ≤ r) ∧ r < W'.heap.size) : Kp (mkR m G box base) W W' := by
  refine ⟨hsize, fun b hs => ?_, fun h => ?_⟩
  · obtain ⟨h1, h2, h3, h4⟩ := hs
    rw [rowOf_boxed hb] at h4
    refine ⟨⟨by omega, h2, h3, ?_⟩, hsame b h1 h2 h3 h4⟩
    rw [rowOf_boxed hb']
    intro e
    rcases (hrow b e.symm).1 with h5 | h5
    · exact h4 h5.symm
    · omega
  · obtain ⟨t0, v0, hb0, ht0, hr0⟩ := h.boxed
    have h1 := hb0.symm.trans hb
    injection h1 with h1
    injection h1 with h2 h3
    have : v0 = v := by simpa using h2
    subst this h3
    refine ⟨hG h.good, h.mlt, h.blt, _, v', hb', ht0, fun r e => ⟨?_, (hrow r e).2⟩⟩
    rcases (hrow r e).1 with h5 | h5
    · exact (hr0 r h5).1
    · have := h.size; omega
/-- What a loop begins with. -/
theorem ok_start {W : World} {t : TypeId} {v : Value} (hG : G W.heap[m]?) (hm : m < base) (hbox : base ≤ box) (hb : Boxed W box t v) (ht : t ≠ 4) (hv : v.ownBlock = none) : (mkR m G box base).ok W :=
  ⟨hG, hm, hbox, t, v, hb, ht, fun r e => by rw [hv] at e; cases e⟩
end Go.Proofs.YthmnffgjckpkiaaGreatDoor
