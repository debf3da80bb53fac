/-
Contracts of 'plainTerm' and 'plain' of package match.
What the contracts of chapter 07 ask of the world: the tables (the rows of the operators,the powers of ten) lie as they lay when the law was entered.
-/
import Derived.Test.YtokemihbkeddoaaGreatDoorU00
import Derived.Test.YtokemihbkeddoaaGreatDoorU04
import Derived.Lib.LaidTab
import Derived.Lib.ItoaMem
namespace Go.Proofs.YtokemihbkeddoaaGreatDoor
open Go Go.RowKit Lib
set_option maxRecDepth 100000
set_option maxHeartbeats 64000000
section
attribute [local go_sem] Oper.semAt_some
theorem jT:∀ l,bI l=l.map aK
 | []=>rfl
 | t :: l=>by simp[bI,jT l]
theorem uB:∀ l,bJ l=l.map bm
 | []=>rfl
 | t :: l=>by simp[bJ,uB l]
theorem cE {α β:Type} (f:α->β) (l:List α) {k:Nat} (h:k<l.length):(l.map f).take k ++ [f l[k]]=(l.map f).take (k+1):=by
 rw[List.take_succ_eq_append_getElem (by simpa using h)];simp
theorem LM {w X Y:World} {b0 b1 b2:Nat} {o0 o1 o2:Obj} (h:Below w.heap.size w X/\X.heap[b1]?=some o1/\X.heap[b2]?=some o2/\X.heap[b0]?=some o0) (hb:Below X.heap.size X Y):Below w.heap.size w Y/\Y.heap[b1]?=some o1/\Y.heap[b2]?=some o2/\Y.heap[b0]?=some o0:=
 ⟨h.1.trans (hb.mono h.1.size),(hb.block b1 (bl h.2.1)).trans h.2.1,(hb.block b2 (bl h.2.2.1)).trans h.2.2.1,(hb.block b0 (bl h.2.2.2)).trans h.2.2.2⟩
theorem pW:∀ (t:Tm),fitT t->∀ (ok:Nat->Prop) (w:World) (q:TQ),TermV ok w q.val t →
  Calls Tryz.prog 69 #[q.val] w fun e w'=>∃p:TQ,e=.returned p.val/\TermV (w.heap.size<=·) w' p.val (aK t)/\Below w.heap.size w w':=by
 obtain ⟨nZ,hi,wy,tu,wT⟩:=info_parts fW
 intro t
 induction t using Tm.ind with
 | h v n a ih=>
  intro aD ok w q hq
  have pp197b:=();exact pm197
theorem JK:∀ (t:Fm),fitF t->∀ (ok:Nat->Prop) (w:World) (q:FQ),FormV ok w q.val t →
  Calls Tryz.prog 66 #[q.val] w fun e w'=>∃p:FQ,e=.returned p.val/\FormV (w.heap.size<=·) w' p.val (bm t)/\Below w.heap.size w w':=by
 have pp180a:=();exact pm180
end
structure Tabs0 (w:World):Prop where
 pow:Lib.TabIs Tryz.prog w "internal/strconv.uint64pow10" .u64 Lib.pow10Tab
 rows:∀ o:Nat,o<17->w.cell? ⟨0,o * 5,none⟩=some (.bool (rowOp o).1)/\w.cell? ⟨0,o * 5+1,none⟩=some (.bool (rowOp o).2.1)/\w.cell? ⟨0,o * 5+2,none⟩=some (.int .u8 ((rowOp o).2.2.1:Nat))/\w.cell? ⟨0,o * 5+3,none⟩=some (.int .i64 ((rowOp o).2.2.2.1:Nat))/\w.cell? ⟨0,o * 5+4,none⟩=some (.int .i64 ((rowOp o).2.2.2.2:Nat))
theorem SC:Tryz.prog.globalNamed "internal/strconv.uint64pow10"=some 2:=by kernel_rfl
structure Tabs (W0 w:World):Prop where
 at0:Tabs0 W0
 below:Below W0.heap.size W0 w
theorem Tabs.refl {W0:World} (h:Tabs0 W0):Tabs W0 W0:=⟨h,Below.refl _ _⟩
theorem Tabs.size {W0 w:World} (h:Tabs W0 w):W0.heap.size<=w.heap.size:=h.below.size
theorem Tabs.next {W0 w w':World} (h:Tabs W0 w) (hb:Below w.heap.size w w'):Tabs W0 w':=⟨h.at0,h.below.trans (hb.mono h.size)⟩
theorem Tabs.kp {W0 w w':World} {M:Nat->Prop} (h:Tabs W0 w) (hk:Kp M w w') (hM:∀ b,M b->W0.heap.size<=b):Tabs W0 w':=
 ⟨h.at0,⟨hk.os.trans h.below.os,hk.tape.trans h.below.tape,hk.output.trans h.below.output,Nat.le_trans h.size hk.size,fun b hb=>(hk.same b (Nat.lt_of_lt_of_le hb h.size) (fun hm=>by have:=hM b hm;omega)).trans (h.below.block b hb)⟩⟩
theorem lk {B:Nat} {W w:World} (hb:Below B W w) {a:Addr} {v:Value} (hB:a.block<B) (h:W.cell? a=some v):w.cell? a=some v:=(World.cell?_of_block (hb.block a.block hB)).trans h
theorem Tabs.t0 {W0 w:World} (h:Tabs W0 w):Tabs0 w:=by
 refine ⟨?_,fun o ho=>?_⟩
 ·have hs:=h.at0.pow
  refine var?_below h.below SC ?_ hs
  have:=hs
  unfold Lib.TabIs World.var? at this
  rw[SC]at this
  simp only[Option.bind_some]at this
  exact Nat.lt_of_not_le fun nM=>by rw[Array.getElem?_eq_none nM]at this;cases this
 ·obtain ⟨h0,h1,h2,h3,h4⟩:=h.at0.rows o ho
  have hb:=h.below
  exact ⟨lk hb (jK h0) h0,lk hb (jK h1) h1,lk hb (jK h2) h2,lk hb (jK h3) h3,lk hb (jK h4) h4⟩
end Go.Proofs.YtokemihbkeddoaaGreatDoor
