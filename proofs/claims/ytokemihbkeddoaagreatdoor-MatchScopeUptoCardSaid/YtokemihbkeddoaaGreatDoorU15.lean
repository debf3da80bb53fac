/-
The contract of 'put' of package match. (Printed by gen_mput.py.)
-/
import Derived.Test.YtokemihbkeddoaaGreatDoorU00
import Derived.Test.YtokemihbkeddoaaGreatDoorU13
import Derived.Test.YtokemihbkeddoaaGreatDoorU09
import Derived.Test.YtokemihbkeddoaaGreatDoorU14
namespace Go.Proofs.YtokemihbkeddoaaGreatDoor
open Go Go.RowKit Lib
set_option maxRecDepth 100000
set_option maxHeartbeats 64000000
section
attribute [local go_sem] Oper.semAt_some
theorem pz {ok:Nat->Prop} {X:World} {B c:Nat} {p:FQ} {f:Fm} (h:FormV ok X p.val f) (hB:ok B) (hx:X.heap[B]?=some (.cells #[.int .u8 p.o,.string p.n,.slice p.a p.l p.c,.slice p.b p.m p.e] 36 (0,0))):FormsV ok X (.slice (some ⟨B,0,none⟩) 1 c) [f]:=
 ⟨_,c,fun _=>p.val,rfl,.inr ⟨B,0,rfl,hB,fun j hj=>by
  obtain rfl:j=0:=by simpa using hj
  exact ⟨_,_,_,_,rfl,ai hx 0,ai hx 1,ai hx 2,ai hx 3⟩⟩,fun j hj=>by
  obtain rfl:j=0:=by simpa using hj
  exact h⟩
structure PutB (w:World) (o0 ou o1 o2:Obj) (X:World):Prop where
 below:Below w.heap.size w X
 b0:X.heap[w.heap.size]?=some o0
 bu:X.heap[w.heap.size+1]?=some ou
 b1:X.heap[w.heap.size+1+1]?=some o1
 b2:X.heap[w.heap.size+1+1+1]?=some o2
theorem PutB.keep {w X Y:World} {o0 ou o1 o2:Obj} (h:PutB w o0 ou o1 o2 X) (h1:Y.os=X.os) (h2:Y.tape=X.tape) (h3:Y.output=X.output) (h4:X.heap.size<=Y.heap.size) (h5:∀ b,b<=w.heap.size+3->Y.heap[b]?=X.heap[b]?):PutB w o0 ou o1 o2 Y:=
 ⟨⟨h1.trans h.below.os,h2.trans h.below.tape,h3.trans h.below.output,Nat.le_trans h.below.size h4,fun b hb=>(h5 b (by omega)).trans (h.below.block b hb)⟩,(h5 _ (by omega)).trans h.b0,(h5 _ (by omega)).trans h.bu,(h5 _ (by omega)).trans h.b1,(h5 _ (by omega)).trans h.b2⟩
theorem PutB.lt {w X:World} {o0 ou o1 o2:Obj} (h:PutB w o0 ou o1 o2 X):w.heap.size+3<X.heap.size:=(bl h.b2)
theorem PutB.later {w X Y:World} {o0 ou o1 o2:Obj} (h:PutB w o0 ou o1 o2 X) (hb:Below X.heap.size X Y):PutB w o0 ou o1 o2 Y:=
 h.keep hb.os hb.tape hb.output hb.size (fun b bA=>hb.block b (by have:=h.lt;omega))
theorem PutB.grown {w X Y:World} {o0 ou o1 o2:Obj} (h:PutB w o0 ou o1 o2 X) {bo:Option Nat} (hg:X.grownBy Y bo) (gV:∀ b,bo=some b->w.heap.size+3<b):PutB w o0 ou o1 o2 Y:=
 h.keep hg.os hg.tape hg.output hg.size (fun b bA=>hg.block b (by have:=h.lt;omega) (fun e=>by have:=gV b e.symm;omega))
theorem PutB.setR {w X:World} {o0 ou o1:Obj} {cs:Array Value} {T:TypeId} (h:PutB w o0 ou o1 (.cells cs T (0,0)) X) (F:Nat) (v:Value):PutB w o0 ou o1 (.cells (cs.setIfInBounds F v) T (0,0)) (X.setCell ⟨w.heap.size+1+1+1,F,none⟩ v):=
 ⟨⟨h.below.os,h.below.tape,h.below.output,by simpa using h.below.size,fun b hb=>(Below.heap_setCell _ _ _ _ (by simp <;> omega)).trans (h.below.block b hb)⟩,(Below.heap_setCell _ _ _ _ (by simp <;> omega)).trans h.b0,(Below.heap_setCell _ _ _ _ (by simp <;> omega)).trans h.bu,(Below.heap_setCell _ _ _ _ (by simp)).trans h.b1,aV h.b2 v⟩
def S' (kk:Nat):Prop:=∀ (W0:World) (f:Fm) (nx:Str) (z:Tm),fitF f->nodesF f<=100000->iF f=true->qone f=true->depthF f<=kk->nx.length<=2000000->fitT z->nodesT z<=100000->∀ (ok J7:Nat->Prop) (w:World) (q:FQ) (zq:TQ),Tabs W0 w->FormV ok w q.val f->TermV J7 w zq.val z →
 Calls Tryz.prog 101 #[q.val,.string ⟨nx.toArray⟩,zq.val] w fun e w'=>(∃p:FQ,e=.returned p.val/\FormV (w.heap.size<=·) w' p.val (ep kk nx z f))/\Below w.heap.size w w'
theorem S_ (kk:Nat) (IH:S' kk):S' (kk+1):=by
 have pp180c:=();exact pm180
theorem EE:∀ k,S' k
 | 0=>fun W0 f nx z _ _ _ _ hd=>by have:=kU f;omega
 | k+1=>S_ k (EE k)
theorem rV (W0:World) (f:Fm) (nx:Str) (z:Tm) (hf:fitF f) (hn:nodesF f<=100000) (hw:iF f=true) (hq:qone f=true) (hx:nx.length<=2000000) (hz:fitT z) (IZ:nodesT z<=100000) (ok J7:Nat->Prop) (w:World) (q:FQ) (zq:TQ) (hT:Tabs W0 w) (h:FormV ok w q.val f) (h2:TermV J7 w zq.val z) :
  Calls Tryz.prog 101 #[q.val,.string ⟨nx.toArray⟩,zq.val] w fun e w'=>(∃p:FQ,e=.returned p.val/\FormV (w.heap.size<=·) w' p.val (gS nx z f))/\Below w.heap.size w w':=
 EE (depthF f) W0 f nx z hf hn hw hq (Nat.le_refl _) hx hz IZ ok J7 w q zq hT h h2
end
end Go.Proofs.YtokemihbkeddoaaGreatDoor
