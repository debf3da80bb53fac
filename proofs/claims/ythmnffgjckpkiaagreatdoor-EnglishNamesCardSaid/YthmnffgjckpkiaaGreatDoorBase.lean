/-
  What every contract of this seat asks of the world: the library's tables lie as they lay when the law was entered, and nothing that was there then has changed.
-/
import Derived.Test.YthmnffgjckpkiaaGreatDoorBytes
import Derived.Test.YthmnffgjckpkiaaGreatDoorShelf
import Derived.WalkSmall
import Derived.Lib.LaidTab
import Derived.Shelf.Unicode.CaseTo
import Derived.Shelf.Unicode.DecodeSlow
namespace Go.Proofs.YthmnffgjckpkiaaGreatDoor
open Go Go.RowKit

/-- The library's tables in a world. -/
structure Tabs0 (w : World) : Prop where
  maxLen : ∃ m, w.cell? ⟨3, 0, none⟩ = some (.int .i64 m)
  space : Lib.TabIs Tryz.prog w "strings.asciiSpace" .u8 Lib.asciiSpaceTab
  case : Lib.CaseVar 1 Lib.caseA w
  utf8 : Lib.Utf8Tabs 4 5 w

theorem gSpace : Tryz.prog.globalNamed "strings.asciiSpace" = some 0 := by kernel_rfl

theorem _root_.Go.RowKit.Below.drewsN {B : Nat} {a w : World} (h : Below B a w) (n : Nat) : Below B a (w.drewN n) := h.trans ⟨rfl, rfl, rfl, Nat.le_refl _, fun _ _ => rfl⟩
theorem bcell {W w1 : World} (hb : Below W.heap.size W w1) : (∀ b o, b < W.heap.size → w1.cell? ⟨b, o, none⟩ = W.cell? ⟨b, o, none⟩) ∧ (∀ b o, b < W.heap.size → w1.frozen? ⟨b, o, none⟩ = W.frozen? ⟨b, o, none⟩) :=
  ⟨fun b o h => hb.cell (p := ⟨b, o, none⟩) h, fun b o h => hb.frozen (p := ⟨b, o, none⟩) h⟩
theorem cell_lt {w : World} {a : Addr} {v : Value} (h : w.cell? a = some v) : a.block < w.heap.size := World.block_lt_of_cell? w a h
theorem cell_kept' {W w : World} (hb : Below W.heap.size W w) {a : Addr} {v : Value} (h : W.cell? a = some v) : w.cell? a = some v := (hb.cell (cell_lt h)).trans h

theorem caseTab_kept {W w : World} (hb : Below W.heap.size W w) {R oR : Nat} {T : Array Lib.CaseRow} (h : Lib.CaseTab R oR T W) : Lib.CaseTab R oR T w := by
  intro j hj
  obtain ⟨h1, h2, h3, h4, h5⟩ := h j hj
  exact ⟨cell_kept' hb h1, cell_kept' hb h2, cell_kept' hb h3, cell_kept' hb h4, cell_kept' hb h5⟩

/-- The world w: the tables' blocks are as they were in W0, where the tables lay. -/
structure Tabs (W0 w : World) : Prop where
  at0 : Tabs0 W0
  below : Below W0.heap.size W0 w
  some : 0 < W0.heap.size

theorem Tabs.refl {W0 : World} (h : Tabs0 W0) : Tabs W0 W0 := ⟨h, Below.refl _ _, by obtain ⟨m, hm⟩ := h.maxLen; exact Nat.lt_of_le_of_lt (Nat.zero_le _) (cell_lt hm)⟩
theorem Tabs.size {W0 w : World} (h : Tabs W0 w) : W0.heap.size ≤ w.heap.size := h.below.size
/-- What keeps all that is there keeps the tables. -/
theorem Tabs.next {W0 w w' : World} (h : Tabs W0 w) (hb : Below w.heap.size w w') : Tabs W0 w' := ⟨h.at0, h.below.trans (hb.mono h.size), h.some⟩
theorem Tabs.from {W0 w w' : World} (h : Tabs W0 w) (hb : Below W0.heap.size w w') : Tabs W0 w' := ⟨h.at0, h.below.trans hb, h.some⟩
theorem Tabs.alloc {W0 w : World} (h : Tabs W0 w) (o : Obj) : Tabs W0 (w.alloc o) := h.from ((Below.refl _ _).alloc h.size _)
theorem Tabs.drew {W0 w : World} (h : Tabs W0 w) : Tabs W0 w.drew := h.from (Below.refl _ _).drew
theorem Tabs.drewN {W0 w : World} (h : Tabs W0 w) (n : Nat) : Tabs W0 (w.drewN n) := h.from ⟨rfl, rfl, rfl, Nat.le_refl _, fun _ _ => rfl⟩
theorem Tabs.setCell {W0 w : World} (h : Tabs W0 w) {a : Addr} (ha : W0.heap.size ≤ a.block) (v : Value) : Tabs W0 (w.setCell a v) := h.from ((Below.refl _ _).setCell ha _)
theorem Tabs.t0 {W0 w : World} (h : Tabs W0 w) : Tabs0 w := by
  obtain ⟨m, hm⟩ := h.at0.maxLen
  refine ⟨⟨m, cell_kept' h.below hm⟩, ?_, ?_, Utf8Tabs_below h.at0.utf8 h.below⟩
  · have hs := h.at0.space
    refine var?_below h.below gSpace ?_ hs
    have := hs
    unfold Lib.TabIs World.var? at this
    rw [gSpace] at this
    simp only [Option.bind_some] at this
    exact Nat.lt_of_not_le fun hle => by rw [Array.getElem?_eq_none hle] at this; cases this
  · obtain ⟨R, oR, cap, hv, ht⟩ := h.at0.case
    exact ⟨R, oR, cap, cell_kept' h.below hv, caseTab_kept h.below ht⟩
end Go.Proofs.YthmnffgjckpkiaaGreatDoor
