/-
Contracts of 'alikeTerm','alike','Alpha' of package subst. (Printed by gen_malikes.py.)
The contract of 'Alpha' of package subst.
-/
import Derived.Test.YtokemihbkeddoaaGreatDoorU00
import Derived.Test.YtokemihbkeddoaaGreatDoorU19
import Derived.Test.YtokemihbkeddoaaGreatDoorU08
import Derived.Test.YtokemihbkeddoaaGreatDoorU27
namespace Go.Proofs.YtokemihbkeddoaaGreatDoor
open Go Go.RowKit Lib
set_option maxRecDepth 100000
set_option maxHeartbeats 64000000
theorem zz {l:List Tm} (h:eb l=true) {t:Tm} (ht:t∈l):lL t=true:=by
 induction l with
 | nil=>cases ht
 | cons u l ih=>
  simp only[eb,Bool.and_eq_true]at h
  rcases List.mem_cons.1 ht with rfl | ht
  ·exact h.1
  ·exact ih h.2 ht
theorem FD {l:List Fm} (h:eF l=true) {t:Fm} (ht:t∈l):iF t=true:=by
 induction l with
 | nil=>cases ht
 | cons u l ih=>
  simp only[eF,Bool.and_eq_true]at h
  rcases List.mem_cons.1 ht with rfl | ht
  ·exact h.1
  ·exact ih h.2 ht
def zb5 (t:Tm):Prop:=∀ (u:Tm) (ps:List (Str×Str)) (v:Value) (ok ok':Nat->Prop) (w:World) (q q':TQ),ps.length<=1000000000->fitT t->lL t=true->TermV ok w q.val t->TermV ok' w q'.val u->PairsV w v ps →
 Calls Tryz.prog 147 #[q.val,q'.val,v] w fun e w'=>e=.returned (.bool (eP ps.reverse t u))/\Below w.heap.size w w'
theorem FE:∀ t,zb5 t:=by
 intro t
 induction t using Tm.ind with
 | h xv xn xa ih=>
 intro u ps v ok ok' w q q' gh hf s8 hq jC hp
 exact pm140
theorem K4:(Tryz.prog.info? 196).map (fun i=>(i.zero,i.size,i.bytes))=some (some (.agg #[.string ByteArray.empty,.string ByteArray.empty]),2,32):=by kernel_rfl
def zb7 (t:Fm):Prop:=∀ (u:Fm) (ps:List (Str×Str)) (v:Value) (ok ok':Nat->Prop) (w:World) (q q':FQ),ps.length+dK t<=1000000000->fitF t->iF t=true->FormV ok w q.val t->FormV ok' w q'.val u->PairsV w v ps →
 Calls Tryz.prog 83 #[q.val,q'.val,v] w fun e w'=>e=.returned (.bool (bT ps.reverse t u))/\Below w.heap.size w w'
theorem Oq:∀ t,zb7 t:=by
 obtain ⟨i0,hi,rq,jS,hO⟩:=info_parts K4
 intro t
 induction t using Fm.ind with
 | h uo xn xa xs ih=>
 intro u ps v ok ok' w q q' gh hf s8 hq jC hp
 exact pm81
def pf (f g:Fm):Bool:=bP f && (bP g && bT [] f g)
theorem K5 (W0:World) (f g:Fm) (hf:fitF f) (hg:fitF g) (ok ok':Nat->Prop) (w:World) (ht:Tabs W0 w) (q q':FQ) (hq:FormV ok w q.val f) (jC:FormV ok' w q'.val g) :
  Calls Tryz.prog 38 #[q.val,q'.val] w fun e w'=>e=.returned (.bool (pf f g))/\Below w.heap.size w w':=by
 have pp158:=();exact pm158
end Go.Proofs.YtokemihbkeddoaaGreatDoor
