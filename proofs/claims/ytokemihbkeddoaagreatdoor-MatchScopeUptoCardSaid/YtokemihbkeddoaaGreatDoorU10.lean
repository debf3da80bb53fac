/-
Contracts of 'mapTerm','copyTerm' and 'PutTerm' of package subst. (Printed by gen_mmap.py.)
-/
import Derived.Test.YtokemihbkeddoaaGreatDoorU00
import Derived.Test.YtokemihbkeddoaaGreatDoorU05
import Derived.Test.YtokemihbkeddoaaGreatDoorU08
import Derived.Shelf.AbstractIn
namespace Go.Proofs.YtokemihbkeddoaaGreatDoor
open Go Go.RowKit Lib
set_option maxRecDepth 100000
set_option maxHeartbeats 64000000
section
attribute [local go_sem] Oper.semAt_some
theorem _root_.Go.RowKit.Below.tr {a b c:World} (h:Below a.heap.size a b) (k:Below b.heap.size b c):Below a.heap.size a c:=h.trans (k.mono h.size)
def Ma (g:Nat) (lb:Array Value) (f:Str->Option Tm) (Wb:World):Prop:=∀ (n:Str) (W:World),n.length<=2000000->Below Wb.heap.size Wb W →
 Calls Tryz.prog g (#[.string ⟨n.toArray⟩] ++ lb) W fun e W'=>(∃q:TQ,e=.returned (.tuple #[q.val,.bool (f n).isSome])/\∀ u,f n=some u->TermV (fun _=>True) W' q.val u)/\Below W.heap.size W W'
def zav (f:Str->Option Tm):Prop:=∀ n u,f n=some u->∀ (ok:Nat->Prop) (W:World) (q:TQ),TermV ok W q.val u->Calls Tryz.prog 218 #[q.val] W fun e w'=>(∃p:TQ,e=.returned p.val/\TermV (W.heap.size<=·) w' p.val u)/\Below W.heap.size W w'
theorem xJ (g:Nat) (lb:Array Value) (eg:∀ args W,(callFunc g args).run Tryz.prog W=.ok (.enter g args) W) (f:Str->Option Tm) (Wb:World) (hI:Ma g lb f Wb) (hC:zav f):∀ (t:Tm),fitT t->∀ (ok:Nat->Prop) (w:World) (q:TQ),Below Wb.heap.size Wb w->TermV ok w q.val t →
  Calls Tryz.prog 154 #[q.val,.func (.func g) #[] lb] w fun e w'=>(∃p:TQ,e=.returned p.val/\TermV (w.heap.size<=·) w' p.val (e_ f t))/\Below w.heap.size w w':=by
 obtain ⟨nZ,hi,wy,tu,wT⟩:=info_parts fW
 intro t
 induction t using Tm.ind with
 | h v n a ih=>
  intro aD ok w q cv hq
  have pp197d:=();exact pm197
mutual
theorem AS:∀ t,e_ (fun _=>none) t=t
 | .mk v n a=>by cases v <;> simp[e_,xK a]
theorem xK:∀ l,pV (fun _=>none) l=l
 | []=>rfl
 | t :: l=>by simp[pV,AS t,xK l]
end
theorem B_:∀ args W,(callFunc 268 args).run Tryz.prog W=.ok (.enter 268 args) W:=enters_of Tryz.func268 (by kernel_rfl) rfl
theorem Eu:∀ args W,(callFunc 232 args).run Tryz.prog W=.ok (.enter 232 args) W:=enters_of Tryz.func232 (by kernel_rfl) rfl
theorem GI (Wb:World):Ma 268 #[] (fun _=>none) Wb:=by
 intro n W hn _
 have tC:(W.alloc (.cells #[.bool false,.string ⟨#[]⟩,.slice none 0 0] 43)).heap[W.heap.size]?=some (.cells #[.bool false,.string ⟨#[]⟩,.slice none 0 0] 43 (0,0)):=aj rfl
 have hB:Below W.heap.size W (W.alloc (.cells #[.bool false,.string ⟨#[]⟩,.slice none 0 0] 43)):=ct
 have e0:(W.alloc (.cells #[.bool false,.string ⟨#[]⟩,.slice none 0 0] 43)).cell? ⟨W.heap.size,0,none⟩=some (.bool false):=ai tC 0
 have e1:(W.alloc (.cells #[.bool false,.string ⟨#[]⟩,.slice none 0 0] 43)).cell? ⟨W.heap.size,1,none⟩=some (.string ⟨#[]⟩):=ai tC 1
 have e2:(W.alloc (.cells #[.bool false,.string ⟨#[]⟩,.slice none 0 0] 43)).cell? ⟨W.heap.size,2,none⟩=some (.slice none 0 0):=ai tC 2
 have HB:=ab hB
 clear tC hB
 go_enter Tryz.func268,Tryz.ntmps268
 go_wp2
 refine bodyPost_ret (v:=.tuple #[TQ.val ⟨false,⟨#[]⟩,none,0,0⟩,.bool false]) (by simp[TQ.val,results,Tryz.results268,go_sem,e0,e1,e2]) rfl ⟨⟨⟨false,⟨#[]⟩,none,0,0⟩,rfl,fun u h=>by cases h⟩,HB.o⟩
theorem J0 (t:Tm) (aD:fitT t) (ok:Nat->Prop) (w:World) (q:TQ) (hq:TermV ok w q.val t) :
  Calls Tryz.prog 218 #[q.val] w fun e w'=>(∃p:TQ,e=.returned p.val/\TermV (w.heap.size<=·) w' p.val t)/\Below w.heap.size w w':=by
 obtain ⟨qv,qn,qa,ql,qc⟩:=q
 obtain ⟨W2,aY⟩:=ao ((w.alloc (.cells #[.bool qv,.string qn,.slice qa ql qc] 43)).alloc (.cells #[.bool false,.string ⟨#[]⟩,.slice none 0 0] 43))
 have bA:=j7 aY
 have iD:=vE aY
 have y1:=iV aY
 have C:=xJ 268 #[] B_ (fun _=>none) W2 (GI W2) (fun n u h=>by cases h) t aD ok W2 ⟨qv,qn,qa,ql,qc⟩ (Below.refl _ _) (hq.later bA)
 rw[AS]at C
 simp only[TQ.val]at C
 have HC:=ab C
 have HY:=bx bA y1 iD
 have eN:=ab aY
 clear C bA y1 iD aY hq aD
 unfold TQ.val
 go_enter Tryz.func218,Tryz.ntmps218
 go_wp2_with (rw[<-eN.o];go_at_call 154;refine HC.o.mono ?_;rintro e w5 ⟨⟨p5,rfl,nU⟩,a_⟩;obtain ⟨pv,pn,pa,pl,pc⟩:=p5;simp only at nU ⊢;have x1:=(a_.block _ (by have:=HY.o.2.2;omega)).trans HY.o.2.1;have e0:=ai x1 0;have e1:=ai x1 1;have e2:=ai x1 2;have z0:=ae x1 0;have z1:=ae x1 1;have z2:=ae x1 2;have H5:=ce nU (HY.o.1.tr a_) x1 a_.size;clear a_ nU x1)
 have pp73:=();exact pm73
theorem iG (W:World):(zeroValue 43).run Tryz.prog W=.ok (.agg #[.bool false,.string ⟨#[]⟩,.slice none 0 0]) W:=by kernel_rfl
def TermIn (w:World) (v:Value) (t:Tm):Prop:=∃q:TQ,v=q.val/\TermV (fun _=>True) w q.val t
theorem J1 (w Wb:World) (hwb:Below w.heap.size w Wb) (B m n:Nat) (l:List (Str×Tm)) (hB:Wb.cell? ⟨B,0,none⟩=some (.map (some m))) (hm:MapV Tryz.prog 9 (TermIn w) Wb m n l):Ma 232 #[.pointer (some ⟨B,0,none⟩)] (fun n=>getB l n) Wb:=by
 intro x W hx hb
 obtain ⟨W1,bQ⟩:=ao (W.alloc (.cells #[.bool false,.string ⟨#[]⟩,.slice none 0 0] 43))
 have hb1:=cB bQ
 have hc:W1.cell? ⟨B,0,none⟩=some (.map (some m)):=aa (hb.tr hb1) hB
 have zG:W1.heap[m]?=Wb.heap[m]?:=(hb.tr hb1).block m hm.lt
 rcases hm.look Tryz.underlying9 Tryz.underlying146 iG hx with ⟨hn,hr⟩ | ⟨u,v,hs,⟨⟨qv,qn,qa,ql,qc⟩,rfl,hq⟩,hr⟩
 ·have hr:=(hr W1 zG).1
  rw[bQ]at hr hc
  simp only[hn,Option.isSome]
  clear hb1 zG bQ hm hB hb hwb
  go_enter Tryz.func232,Tryz.ntmps232
  go_wp2
  have xM:Below (W.alloc (.cells #[.bool false,.string ⟨#[]⟩,.slice none 0 0] 43)).heap.size (W.alloc (.cells #[.bool false,.string ⟨#[]⟩,.slice none 0 0] 43)) ((W.alloc (.cells #[.bool false,.string ⟨#[]⟩,.slice none 0 0] 43)).alloc (.cells #[.bool false,.string ⟨#[]⟩,.slice none 0 0] 43)):=ct
  have Z_:Below W.heap.size W (W.alloc (.cells #[.bool false,.string ⟨#[]⟩,.slice none 0 0] 43)):=ct
  have hx:(W.alloc (.cells #[.bool false,.string ⟨#[]⟩,.slice none 0 0] 43)).heap[W.heap.size]?=some (.cells #[.bool false,.string ⟨#[]⟩,.slice none 0 0] 43 (0,0)):=aj rfl
  have g0:=aa xM (ai hx 0)
  have g1:=aa xM (ai hx 1)
  have g2:=aa xM (ai hx 2)
  refine bodyPost_ret (v:=.tuple #[TQ.val ⟨false,⟨#[]⟩,none,0,0⟩,.bool false]) (by simp[TQ.val,results,Tryz.results232,go_sem,g0,g1,g2]) rfl ⟨⟨⟨false,⟨#[]⟩,none,0,0⟩,rfl,fun u h=>by cases h⟩,Z_.tr xM⟩
 ·have hr:=(hr W1 zG).1
  rw[bQ]at hr hc
  simp only[hs,Option.isSome]
  have hqw:=(hq.later hwb).move (tf hb)
  clear hb1 zG bQ hm hB hb hwb hq
  simp only[TQ.val]at hr
  go_enter Tryz.func232,Tryz.ntmps232
  go_wp2
  have xM:Below (W.alloc (.cells #[.bool qv,.string qn,.slice qa ql qc] 43)).heap.size (W.alloc (.cells #[.bool qv,.string qn,.slice qa ql qc] 43)) ((W.alloc (.cells #[.bool qv,.string qn,.slice qa ql qc] 43)).alloc (.cells #[.bool qv,.string qn,.slice qa ql qc] 43)):=ct
  have Z_:Below W.heap.size W (W.alloc (.cells #[.bool qv,.string qn,.slice qa ql qc] 43)):=ct
  have hx:(W.alloc (.cells #[.bool qv,.string qn,.slice qa ql qc] 43)).heap[W.heap.size]?=some (.cells #[.bool qv,.string qn,.slice qa ql qc] 43 (0,0)):=aj rfl
  have g0:=aa xM (ai hx 0)
  have g1:=aa xM (ai hx 1)
  have g2:=aa xM (ai hx 2)
  refine bodyPost_ret (v:=.tuple #[TQ.val ⟨qv,qn,qa,ql,qc⟩,.bool true]) (by simp[TQ.val,results,Tryz.results232,go_sem,g0,g1,g2]) rfl ⟨⟨⟨qv,qn,qa,ql,qc⟩,rfl,fun u2 h=>by cases h;exact hqw.later (Z_.tr xM)⟩,Z_.tr xM⟩
end
end Go.Proofs.YtokemihbkeddoaaGreatDoor
