/-
Contracts of the judge's form,of 'Right' and 'Schema' of package syntax.
-/
import Derived.Test.YtokemihbkeddoaaGreatDoorU00
import Derived.Test.YtokemihbkeddoaaGreatDoorU07
namespace Go.Proofs.YtokemihbkeddoaaGreatDoor
open Go Go.RowKit Lib
set_option maxRecDepth 100000
set_option maxHeartbeats 64000000
def FBox (P:Nat) (o:Int) (n:Str) (av sv:Value) (w:World):Prop:=w.heap[P]?=some (.cells #[.int .u8 o,.string ⟨n.toArray⟩,av,sv] 36 (0,0))
theorem FBox.later {P:Nat} {o:Int} {n:Str} {av sv:Value} {w w':World} (h:FBox P o n av sv w) (hb:Below w.heap.size w w'):FBox P o n av sv w':=(hb.block P (bl h)).trans h
theorem FBox.kp {P J:Nat} {o:Int} {n:Str} {av sv:Value} {w w':World} (h:FBox P o n av sv w) (hb:Kp (fun c=>c=J) w w') (hP:P≠J):FBox P o n av sv w':=(hb.same P (bl h) hP).trans h
theorem FBox.c0 {P:Nat} {o:Int} {n:Str} {av sv:Value} {w:World} (h:FBox P o n av sv w):w.cell? ⟨P,0,none⟩=some (.int .u8 o):=ai h 0
theorem FBox.c1 {P:Nat} {o:Int} {n:Str} {av sv:Value} {w:World} (h:FBox P o n av sv w):w.cell? ⟨P,1,none⟩=some (.string ⟨n.toArray⟩):=ai h 1
theorem FBox.c2 {P:Nat} {o:Int} {n:Str} {av sv:Value} {w:World} (h:FBox P o n av sv w):w.cell? ⟨P,2,none⟩=some av:=ai h 2
theorem FBox.c3 {P:Nat} {o:Int} {n:Str} {av sv:Value} {w:World} (h:FBox P o n av sv w):w.cell? ⟨P,3,none⟩=some sv:=ai h 3
def RBox (R:Nat) (r0 r1:Bool) (r2 r3 r4:Nat) (w:World):Prop:=w.heap[R]?=some (.cells #[.bool r0,.bool r1,.int .u8 r2,.int .i64 r3,.int .i64 r4] 173 (0,0))
theorem RBox.c3 {R:Nat} {r0 r1:Bool} {r2 r3 r4:Nat} {w:World} (h:RBox R r0 r1 r2 r3 r4 w):w.cell? ⟨R,3,none⟩=some (.int .i64 r3):=ai h 3
theorem RBox.c4 {R:Nat} {r0 r1:Bool} {r2 r3 r4:Nat} {w:World} (h:RBox R r0 r1 r2 r3 r4 w):w.cell? ⟨R,4,none⟩=some (.int .i64 r4):=ai h 4
theorem RBox.later {R:Nat} {r0 r1:Bool} {r2 r3 r4:Nat} {w w':World} (h:RBox R r0 r1 r2 r3 r4 w) (hb:Below w.heap.size w w'):RBox R r0 r1 r2 r3 r4 w':=(hb.block R (bl h)).trans h
theorem Ns (W0:World):∀ (t:Fm),fitF t->Wv W0 t:=by
 intro t
 induction t using Fm.ind with
 | h o n a s ih=>
  intro aD ok J sc left bh aX w q ht Qd hq hok hJ h0 h1 Li hd hn
  obtain ⟨WU,VK⟩:=aD.op
  obtain ⟨on,rfl⟩:∃on:Nat,o=on:=⟨o.toNat,by omega⟩
  have pp23f:=();exact pm23
theorem kZ (W0:World) (t:Fm) (hf:fitF t) (ok:Nat->Prop) (w:World) (ht:Tabs W0 w) (q:FQ) (hq:FormV ok w q.val t) :
  Calls Tryz.prog 39 #[q.val] w fun e w'=>e=.returned (.bool (bP t))/\Below w.heap.size w w':=by
 have hn:=hf.1
 obtain ⟨W2,aY⟩:=ao ((w.alloc (.cells #[.int .u8 q.o,.string q.n,.slice q.a q.l q.c,.slice q.b q.m q.e] 36)).alloc (.cells #[.bool false,.int .i64 400,.int .i64 40] 111))
 have hB:=j7 aY
 have hJ:JAt (w.heap.size+1) false 400 40 W2:=by rw[aY];exact aj (by simp)
 have C:=Ns W0 t hf _ (w.heap.size+1) false 400 40 1 W2 q (ht.next hB) (by have:=ht.size;omega) (hq.lt.later hB) (fun b hb=>by omega) hJ (by omega) (by omega) (by omega) (by omega) (by omega)
 have hb:(okF false t && (decide ((nodesF t:Int)<=400) && decide (1+(depthF t:Int)<=40+1)))=bP t:=by
  exact pm172
 have pp276:=();exact pm276
theorem y' (W0:World) (t:Fm) (hf:fitF t) (ok:Nat->Prop) (w:World) (ht:Tabs W0 w) (q:FQ) (hq:FormV ok w q.val t) :
  Calls Tryz.prog 26 #[q.val] w fun e w'=>e=.returned (.bool (fC t))/\Below w.heap.size w w':=by
 have hn:=hf.1
 obtain ⟨W2,aY⟩:=ao ((w.alloc (.cells #[.int .u8 q.o,.string q.n,.slice q.a q.l q.c,.slice q.b q.m q.e] 36)).alloc (.cells #[.bool true,.int .i64 400,.int .i64 40] 111))
 have hB:=j7 aY
 have hJ:JAt (w.heap.size+1) true 400 40 W2:=by rw[aY];exact aj (by simp)
 have C:=Ns W0 t hf _ (w.heap.size+1) true 400 40 1 W2 q (ht.next hB) (by have:=ht.size;omega) (hq.lt.later hB) (fun b hb=>by omega) hJ (by omega) (by omega) (by omega) (by omega) (by omega)
 have hb:(okF true t && (decide ((nodesF t:Int)<=400) && decide (1+(depthF t:Int)<=40+1)))=fC t:=by
  exact pm172
 exact pm276
end Go.Proofs.YtokemihbkeddoaaGreatDoor
