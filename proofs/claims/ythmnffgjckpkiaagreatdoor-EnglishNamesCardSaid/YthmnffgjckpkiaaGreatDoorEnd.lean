/-
  Contracts of 'endings' of package words.
-/
import Derived.Test.YthmnffgjckpkiaaGreatDoorThird
import Derived.Laws.EntriesVeiled
import Derived.Deep.WholeRow
namespace Go.Proofs.YthmnffgjckpkiaaGreatDoor
open Go Go.RowKit

/-- The eight endings: the end, whether a hard letter is asked for, how many letters go, what comes. -/
def endV (e : List UInt8) (f : Nat) (cut : Int) (add : List UInt8) : List Value := [.string ⟨e.toArray⟩, .func (.func f) #[] #[], .int .i64 cut, .string ⟨add.toArray⟩]
def endingsV : Value := .agg (
  endV [115] 176 0 [101, 115] ++ endV [120] 176 0 [101, 115] ++ endV [122] 176 0 [101, 115] ++
  endV [99, 104] 176 0 [101, 115] ++ endV [115, 104] 176 0 [101, 115] ++
  endV [111] 177 0 [101, 115] ++ endV [121] 177 1 [105, 101, 115] ++ endV [] 176 0 [115]).toArray

theorem info_endings : (Tryz.prog.info? 194).map (·.size) = some 32 := by kernel_rfl
set_option maxRecDepth 100000 in
theorem endings_any (w : World) :
    Calls Tryz.prog 153 #[] w fun e w' => e = .returned endingsV ∧ Below w.heap.size w w' := by
  have hi := info_endings
  go_enter Tryz.func153, Tryz.ntmps153
  go_wp2_with (refine wpList_store_row rfl 194 (.tmp 0) (.tmp 19) rfl w.heap.size _ rfl rfl 194 _ (heap_alloc_new w _) hi ?h1 ?h2 ?_)
  case h1 => rfl
  case h2 => simp [Value.oneCell']
  rw [World.setRow_alloc_new]
  go_wp2
  refine bodyPost_ret (v := endingsV) (results_cell_row rfl _ _ w.heap.size 194 _ (0, 0) _ rfl (heap_alloc_new _ _) Tryz.underlying194 rfl hi) rfl ⟨rfl, ?_⟩
  exact (Below.refl _ _).alloc (Nat.le_refl _) _
end Go.Proofs.YthmnffgjckpkiaaGreatDoor
