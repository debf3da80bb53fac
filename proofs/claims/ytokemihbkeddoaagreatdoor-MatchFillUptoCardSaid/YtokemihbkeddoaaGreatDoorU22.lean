/-
The closed facts of MatchFill's row (a text of its own.
-/
import Derived.Test.YtokemihbkeddoaaGreatDoorRows
import Derived.Test.YtokemihbkeddoaaGreatDoorU00
namespace Go.Proofs.YtokemihbkeddoaaGreatDoor
set_option maxRecDepth 100000
set_option maxHeartbeats 64000000
open Go
theorem Lb:joinedFacts Tryz.prog 7 Tryz.f7 (Rows.OpenSpec.upto Rows.matchFillSpec).bare Rows.matchFillUptoRow=true:=by kernel_rfl
