/-
  A start that meets the list.
-/
import Derived.Test.YthmnffgjckpkiaaGreatDoorLaid34
import Derived.Deep.DeepWitnessRowRef
namespace Go.Proofs.YthmnffgjckpkiaaGreatDoor
open Go Go.RowKit Go.Lib

/-- The settled world with three blocks more (the ranges of unicode.White_Space; its table; the rows of unicode.CaseRanges), the five variables holding what their initialisers lay. -/
noncomputable def laidWorld (os : Os) : World :=
  let N := (World.settled Tryz.prog os).heap.size
  let w0 := World.holding Tryz.prog os ⟨#[.cells (Lib.whiteT.map fun (z : Nat) => Value.int .u16 (z : Int)).toArray 242, .cells #[.slice (some ⟨N, 0, none⟩) 7 7, .slice none 0 0, .int .i64 2] 239,
    .cells Lib.caseCells5 250], #[], []⟩
  let put (h : Array Obj) (g : Nat) (cs : Array Value) : Array Obj := h.modify g fun
    | .cells _ t frozen => .cells cs t frozen
    | o => o
  let h1 := put w0.heap 0 (Lib.asciiSpaceTab.map fun z => Value.int .u8 z).toArray
  let h2 := put h1 4 (Lib.firstTab.map fun z => Value.int .u8 z).toArray
  let h3 := put h2 5 ((List.range 16).flatMap fun i => [Value.int .u8 (Lib.accLo i), Value.int .u8 (Lib.accHi i)]).toArray
  let h4 := put h3 2 #[.pointer (some ⟨N + 1, 0, none⟩)]
  let h5 := put h4 1 #[.slice (some ⟨N + 2, 0, none⟩) 336 336]
  { w0 with heap := h5 }
theorem laid_met (os : Os) (args : Array Value) : laidMet Tryz.prog lst ((laidWorld os).forCall (fun _ _ => 0) ⟨#[], args, []⟩).memory := by
  have h := laidMet_with_case (ρ := renC) (w := ((laidWorld os).forCall (fun _ _ => 0) ⟨#[], args, []⟩).memory) laysC laysC_t206 ⟨by kernel_rfl, by kernel_rfl, by kernel_rfl, by kernel_rfl, by kernel_rfl, by kernel_rfl⟩
    (l := [("unicode/utf8.acceptRanges", acceptData), ("unicode.White_Space", whiteData), ("strings.asciiSpace", tabData .u8 asciiSpaceTab), ("unicode/utf8.first", firstData)])
    10 (by kernel_rfl) (by kernel_rfl) (by kernel_rfl) ((World.settled Tryz.prog default).heap.size + 2) 250 (of_decide_eq_true (by kernel_rfl)) (by kernel_rfl) (by kernel_rfl) (by kernel_rfl)
  refine laidMet_perm ?_ h
  unfold lst
  rw [acc_eq, space_eq, white_eq, case_eq, first_eq]
  exact List.Perm.cons _ (List.Perm.cons _ (List.Perm.cons _ (List.Perm.swap _ _ _)))
end Go.Proofs.YthmnffgjckpkiaaGreatDoor
