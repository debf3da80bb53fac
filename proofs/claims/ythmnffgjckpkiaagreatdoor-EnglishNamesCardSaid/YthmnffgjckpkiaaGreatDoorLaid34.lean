/-
  What a row's list gives: the library's tables; and a start that meets the list.
-/
import Derived.Test.YthmnffgjckpkiaaGreatDoorBase
import Derived.Test.YthmnffgjckpkiaaGreatDoorRows
import Derived.Lay
import Derived.PinnedBridge
import Derived.Lib.LaidCaseMet
import Derived.Lib.LaidU8
namespace Go.Proofs.YthmnffgjckpkiaaGreatDoor
open Go Go.RowKit Go.Lib

theorem laidMet_perm {P : Program} {l l' : List (String × DataW Unit)} {w : World} (h : l.Perm l') (hm : laidMet P l w) : laidMet P l' w := by
  obtain ⟨ps, h1, h2, h3⟩ := hm
  obtain ⟨ps', h4, h5⟩ := Go.Lay.LaidVars_perm h h1
  exact ⟨ps', h4, h5.nodup_iff.1 h2, fun b off hb => h3 b off (h5.symm.mem_iff.1 hb)⟩

/-- The list that every row of this seat bears. -/
def lst : List (String × DataW Unit) := [("unicode/utf8.acceptRanges", Rows.laid_unicode_utf8_acceptRanges), ("unicode.White_Space", Rows.laid_unicode_White_Space), ("strings.asciiSpace", Rows.laid_strings_asciiSpace), ("unicode.CaseRanges", Rows.laid_unicode_CaseRanges), ("unicode/utf8.first", Rows.laid_unicode_utf8_first)]
theorem acc_eq : (Rows.laid_unicode_utf8_acceptRanges : DataW Unit) = acceptData := by kernel_rfl
theorem space_eq : (Rows.laid_strings_asciiSpace : DataW Unit) = tabData .u8 asciiSpaceTab := by kernel_rfl
theorem white_eq : (Rows.laid_unicode_White_Space : DataW Unit) = whiteData := by kernel_rfl
theorem case_eq : Rows.laid_unicode_CaseRanges = caseData := Pinned.caseRanges_eq
theorem first_eq : Rows.laid_unicode_utf8_first = firstData := Pinned.utf8First_eq

/-- The layings of this seat, with the global that the table of cases lies in. -/
def renC : Go.Shelf.Ren := ⟨Tryz.lays274_ren.f, Tryz.lays274_ren.t, fun | 13 => 1 | n => n⟩
theorem laysC : Go.Proofs.Lays.n274 Tryz.prog renC := { Tryz.lays274 with }
theorem laysC_t206 : Tryz.prog.underlying (renC.t 206) = some (.array 3 (renC.t 21)) := by kernel_rfl
theorem gSpaceType : (Tryz.prog.globals[0]?).map (·.type) = some 211 := by kernel_rfl
theorem cells256 : Tryz.prog.cellsOf 211 = 256 := by kernel_rfl
theorem cellsU8 : Tryz.prog.cellsOf 5 = 1 := by kernel_rfl

theorem tabs0_of_laid {W : World} (hL : laidMet Tryz.prog lst W) (hsh : W.ShapedOpen Tryz.prog) : Tabs0 W := by
  have hp : lst.Perm [("strings.asciiSpace", tabData .u8 asciiSpaceTab), ("unicode/utf8.acceptRanges", acceptData), ("unicode.White_Space", whiteData), ("unicode.CaseRanges", caseData), ("unicode/utf8.first", firstData)] := by
    unfold lst
    rw [acc_eq, space_eq, white_eq, case_eq, first_eq]
    exact (List.Perm.cons _ (List.Perm.swap _ _ _)).trans (List.Perm.swap _ _ _)
  have h2 := laidMet_perm hp hL
  refine ⟨Tryz.laysM144.s1_3 W hsh, tabIs_of_head gSpace gSpaceType Tryz.underlying211 Tryz.underlying5 cellsU8 cells256 h2, ?_, ?_⟩
  · exact caseVar_of_reads laysC laysC_t206 ⟨by kernel_rfl, by kernel_rfl, by kernel_rfl, by kernel_rfl, by kernel_rfl, by kernel_rfl⟩ (Lib.laidMet.reads h2 (.tail _ (.tail _ (.tail _ (.head _)))))
  · exact utf8Tabs_of_reads Tryz.lays260 ⟨by kernel_rfl, by kernel_rfl, by kernel_rfl, by kernel_rfl, by kernel_rfl, by kernel_rfl, by kernel_rfl⟩ (Lib.laidMet.reads h2 (.tail _ (.tail _ (.tail _ (.tail _ (.head _)))))) (Lib.laidMet.reads h2 (.tail _ (.head _)))
end Go.Proofs.YthmnffgjckpkiaaGreatDoor
