/-
The closed facts of MatchMore's row (a text of its own.
-/
import Derived.Test.YtokemihbkeddoaaGreatDoorRows
import Derived.Test.YtokemihbkeddoaaGreatDoorU00
namespace Go.Proofs.YtokemihbkeddoaaGreatDoor
set_option maxRecDepth 100000
set_option maxHeartbeats 64000000
open Go
theorem J0:joinedFacts Tryz.prog 3 Tryz.f3 (Rows.OpenSpec.upto Rows.matchMoreSpec).bare Rows.matchMoreUptoRow=true:=by kernel_rfl
