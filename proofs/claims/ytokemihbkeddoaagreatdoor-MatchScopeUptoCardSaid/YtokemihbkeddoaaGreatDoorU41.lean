/-
The closed facts of MatchScope's row (a text of its own: the kernel's run takes some 9 GB).
-/
import Derived.Test.YtokemihbkeddoaaGreatDoorU00
import Derived.Test.YtokemihbkeddoaaGreatDoorRows
import Derived.JoinedCond
import Derived.ProofKit
namespace Go.Proofs.YtokemihbkeddoaaGreatDoor
set_option maxRecDepth 100000
set_option maxHeartbeats 64000000
open Go
theorem FN:joinedFacts Tryz.prog 8 Tryz.f8 (Rows.OpenSpec.upto Rows.matchScopeSpec).bare Rows.matchScopeUptoRow=true:=by kernel_rfl
end Go.Proofs.YtokemihbkeddoaaGreatDoor
