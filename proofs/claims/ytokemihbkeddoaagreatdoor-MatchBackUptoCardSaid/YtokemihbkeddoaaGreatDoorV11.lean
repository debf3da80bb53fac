/-
The closed facts of MatchBack's row (a text of its own.
-/
import Derived.Test.YtokemihbkeddoaaGreatDoorRows
import Derived.Test.YtokemihbkeddoaaGreatDoorV00
namespace Go.Proofs.YtokemihbkeddoaaGreatDoor
set_option maxRecDepth 100000
set_option maxHeartbeats 64000000
open Go
theorem MT:joinedFacts Tryz.prog 9 Tryz.f9 (Rows.OpenSpec.upto Rows.matchBackSpec).bare Rows.matchBackUptoRow=true:=by kernel_rfl
