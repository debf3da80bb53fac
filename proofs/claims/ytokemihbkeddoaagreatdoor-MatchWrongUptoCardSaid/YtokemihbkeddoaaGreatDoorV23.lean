/-
The closed facts of MatchWrong's row (a text of its own.
-/
import Derived.Test.YtokemihbkeddoaaGreatDoorRows
import Derived.Test.YtokemihbkeddoaaGreatDoorV00
namespace Go.Proofs.YtokemihbkeddoaaGreatDoor
set_option maxRecDepth 100000
set_option maxHeartbeats 64000000
open Go
theorem II:joinedFacts Tryz.prog 5 Tryz.f5 (Rows.OpenSpec.upto Rows.matchWrongSpec).bare Rows.matchWrongUptoRow=true:=by kernel_rfl
