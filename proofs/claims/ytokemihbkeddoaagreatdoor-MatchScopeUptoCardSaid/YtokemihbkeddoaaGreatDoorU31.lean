/-
'fill' of package match: the contract,and the cases of the metavariables. (Printed by gen_mfillp.py.)
-/
import Derived.Test.YtokemihbkeddoaaGreatDoorU00
import Derived.Test.YtokemihbkeddoaaGreatDoorU30
import Derived.Test.YtokemihbkeddoaaGreatDoorU22
import Derived.Test.YtokemihbkeddoaaGreatDoorU13
namespace Go.Proofs.YtokemihbkeddoaaGreatDoor
open Go Go.RowKit Lib
set_option maxRecDepth 100000
set_option maxHeartbeats 64000000
section
attribute [local go_sem] Oper.semAt_some
def Fr (W0:World) (kd:Bd) (kb:Nat) (s:Fm):Prop:=∀ (c L:List Str) (ok:Nat->Prop) (w:World) (vL:Value) (q:FQ),Below W0.heap.size W0 w->StrsN w vL L->L.length+nodesF s<=1000000->(∀ y,L.contains y=c.contains y)->FormV ok w q.val s →
 Calls Tryz.prog 72 #[.pointer (some ⟨kb,0,none⟩),q.val,vL] w fun e w'=>(∃p:FQ,e=.returned p.val/\FormV (w.heap.size<=·) w' p.val (cz kd c s))/\Below w.heap.size w w'
theorem Di {w V W6:World} {B:Nat} {p:FQ} {f:Fm} (hb:Below w.heap.size w V) (hB:w.heap.size<=B) (k6:Kp (fun b=>b=B) V W6) (hp:FormV (B<·) V p.val f):FormV (w.heap.size<=·) W6 p.val f/\Below w.heap.size w W6:=
 ⟨hp.move (fun b h hlt=>⟨by omega,k6.same b hlt (by omega)⟩),⟨k6.os.trans hb.os,k6.tape.trans hb.tape,k6.output.trans hb.output,Nat.le_trans hb.size k6.size,fun b h=>(k6.same b (Nat.lt_of_lt_of_le h hb.size) (by omega)).trans (hb.block b h)⟩⟩
theorem KR (W0:World) (lN:Nat->Prop) (kb mF mT nF nT:Nat) (kd:Bd) (dw:KnV lN goodF goodT W0 kb mF mT nF nT kd) (WB:World) (_:Tabs WB W0) (n:Str) (a:List Tm) (ss:List Fm) (hs:okF true (.mk 15 n a ss)=true) (_:nodesF (.mk 15 n a ss)<=400):Fr W0 kd kb (.mk 15 n a ss):=by
 have pp305:=();exact pm305
theorem Aw (W0:World) (lN:Nat->Prop) (kb mF mT nF nT:Nat) (kd:Bd) (dw:KnV lN goodF goodT W0 kb mF mT nF nT kd) (WB:World) (iU:Tabs WB W0) (n:Str) (a:List Tm) (ss:List Fm) (hs:okF true (.mk 16 n a ss)=true) (_:nodesF (.mk 16 n a ss)<=400):Fr W0 kd kb (.mk 16 n a ss):=by
 exact pm305
end
end Go.Proofs.YtokemihbkeddoaaGreatDoor
