/-
Contracts of functions that turn a term into a term of the call's own.
-/
import Derived.Test.YtokemihbkeddoaaGreatDoorU00
import Derived.Test.YtokemihbkeddoaaGreatDoorU03
namespace Go.Proofs.YtokemihbkeddoaaGreatDoor
open Go Go.RowKit Lib
set_option maxRecDepth 100000
set_option maxHeartbeats 64000000
section
attribute [local go_sem] Oper.semAt_some
theorem mV:∀ (t:Tm),fitT t->∀ (ok:Nat->Prop) (w:World) (q:TQ),TermV ok w q.val t →
  Calls Tryz.prog 53 #[q.val] w fun e w'=>∃p:TQ,e=.returned p.val/\TermV (w.heap.size<=·) w' p.val t/\Below w.heap.size w w':=by
 obtain ⟨i0,hi,rq,jS,hO⟩:=info_parts fW
 intro t
 induction t using Tm.ind with
 | h v n a ih=>
  intro aD ok w q hq
  have pp197a:=();exact pm197
end
end Go.Proofs.YtokemihbkeddoaaGreatDoor
