/-L-/
import Derived.Test.YtokemihbkeddoaaGreatDoorRows
import Derived.Test.YtokemihbkeddoaaGreatDoorP00
open Go.Proofs.Tryz
namespace Go.Proofs.YtokemihbkeddoaaGreatDoor
set_option maxRecDepth 100000
set_option maxHeartbeats 0
open Go
theorem MM:joinedFacts prog 10 Tryz.f10 (Rows.OpenSpec.upto Rows.matchAlphaSpec).bare Rows.matchAlphaUptoRow=true:=by kernel_rfl
