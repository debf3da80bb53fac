/-
Short names for much used terms (compact.py puts them in).
-/
import Derived.Test.YtokemihbkeddoaaGreatDoorProg
import Derived.Test.YtokemihbkeddoaaGreatDoorT00
import Derived.Test.YtokemihbkeddoaaGreatDoorT01
import Derived.Test.YtokemihbkeddoaaGreatDoorT02
namespace Go.Proofs.YtokemihbkeddoaaGreatDoor
open Go Go.RowKit Lib
set_option maxRecDepth 100000
set_option maxHeartbeats 64000000
variable {α:Type} {p:Prop} {P:Program} {args:Array Value} {R:Ending->World->Prop}
/-! Short names for theorems of the library. -/
theorem ah:type_of% @Bool.and_eq_true:=@Bool.and_eq_true
theorem aA:type_of% @List.getElem_mem:=@List.getElem_mem
theorem ak:type_of% @Below.refl:=@Below.refl
theorem bE:type_of% @Nat.lt_of_lt_of_le:=@Nat.lt_of_lt_of_le
theorem aN:type_of% @Nat.le_trans:=@Nat.le_trans
theorem aI:type_of% @Nat.le_refl:=@Nat.le_refl
theorem bc:type_of% @Nat.zero_le:=@Nat.zero_le
theorem bI:type_of% @Below.heap_alloc:=@Below.heap_alloc
theorem ei:type_of% @Below.heap_setCell:=@Below.heap_setCell
theorem dE:type_of% @Bool.false_eq_true:=@Bool.false_eq_true
theorem fN:type_of% @List.length_cons:=@List.length_cons
theorem fO:type_of% @List.drop_eq_getElem_cons:=@List.drop_eq_getElem_cons
theorem gx:type_of% @List.getElem?_eq_getElem:=@List.getElem?_eq_getElem
theorem cV:type_of% @List.take_length:=@List.take_length
theorem dZ:type_of% @List.length_append:=@List.length_append
theorem fP:type_of% @World.alloc_heap_new:=@World.alloc_heap_new
theorem dM:type_of% @List.length_take:=@List.length_take
theorem cK:type_of% @List.map_cons:=@List.map_cons
theorem iD:type_of% @List.length_pos_iff:=@List.length_pos_iff
theorem jk:type_of% @List.eq_nil_of_length_eq_zero:=@List.eq_nil_of_length_eq_zero
theorem dN:type_of% @Option.some.injEq:=@Option.some.injEq
theorem dU:type_of% @Bool.true_and:=@Bool.true_and
theorem iS:type_of% @List.drop_eq_nil_of_le:=@List.drop_eq_nil_of_le
theorem eV:type_of% @List.mem_cons_of_mem:=@List.mem_cons_of_mem
theorem bx:type_of% @decide_eq_true_eq:=@decide_eq_true_eq
theorem aK:type_of% @callsIn_wide:=@callsIn_wide
theorem bJ:type_of% @bodyPost_ret:=@bodyPost_ret
theorem f8:type_of% @List.take_of_length_le:=@List.take_of_length_le
theorem cY:type_of% @List.mem_cons:=@List.mem_cons
theorem fD:type_of% @List.mem_cons_self:=@List.mem_cons_self
theorem cB:type_of% @List.cons.injEq:=@List.cons.injEq
theorem mt:type_of% @List.take_succ_eq_append_getElem:=@List.take_succ_eq_append_getElem
theorem cE:type_of% @Value.agg.injEq:=@Value.agg.injEq
theorem f9:type_of% @beq_iff_eq:=@beq_iff_eq
theorem bM:type_of% @wpIn_seq_k:=@wpIn_seq_k
theorem fQ:type_of% @IntWalk.i64_in:=@IntWalk.i64_in
theorem aw:type_of% @if_neg:=@if_neg
theorem aH:type_of% @if_pos:=@if_pos
theorem m6:type_of% @World.putObj_heap_other:=@World.putObj_heap_other
theorem pf:type_of% @List.nil_append:=@List.nil_append
theorem ky:type_of% @List.cons_append:=@List.cons_append
theorem gy:type_of% @Bool.eq_iff_iff:=@Bool.eq_iff_iff
theorem kM:(∀ l:List α,l.toArray.size=l.length)/\(∀ (a:α) (l:List α),(a :: l).length=l.length+1)/\(([]:List α).length=0)/\(∀ (n:Nat) (a:α),Array.replicate (n+1) a=(Array.replicate n a).push a)/\(∀ a:α,Array.replicate 0 a=#[])/\(∀ (l:List α) (a:α),l.toArray.push a=(l ++ [a]).toArray)/\(∀ l m:List α,l.toArray ++ m.toArray=(l ++ m).toArray)/\(∀ l:List α,[] ++ l=l)/\(∀ (a:α) (l m:List α),(a :: l) ++ m=a :: (l ++ m)):=by
  refine ⟨?_,?_,?_,?_,?_,?_,?_,?_,?_⟩ <;> intros <;> simp[Array.replicate_succ]
theorem bz {l:Array α} {i:Nat} {a:α} (h:l[i]?=some a):i<l.size:=(Array.getElem?_eq_some_iff.1 h).1
theorem cJ {w:World} {o:Obj}:Below w.heap.size w (w.alloc o):=(ak _ _).alloc (aI _) _
theorem lsa (l:List α) (i:Nat) (a:α):l.toArray.setIfInBounds i a=(l.set i a).toArray:=by simp
theorem lsb (a b:α) (l:List α):(a :: l).set 0 b=b :: l:=rfl
theorem lsc (a b:α) (l:List α) (n:Nat):(a :: l).set (n+1) b=a :: l.set n b:=rfl
def Hd (p:Prop):Prop:=p
theorem Hd.o (h:Hd p):p:=h
theorem ae (h:p):Hd p:=h
theorem am {α:Sort _} (a:α):∃x,x=a:=⟨a,rfl⟩
theorem cF {a b c:Nat} (h:b=c) (l:a<b):a<c:=h ▸ l
theorem bR {W w:World} {b:Nat} {o:Obj} (hb:Below W.heap.size W w) (h:W.heap[b]?=some o):w.heap[b]?=some o:=(hb.block b (bz h)).trans h
theorem ag:(∀ (l:List α) (i:Nat) (a:α),l.toArray.setIfInBounds i a=(l.set i a).toArray)/\(∀ (a b:α) (l:List α),(a :: l).set 0 b=b :: l)/\(∀ (a b:α) (l:List α) (n:Nat),(a :: l).set (n+1) b=a :: l.set n b):=⟨lsa,lsb,lsc⟩
section
variable {a b c d e f g h i j k l m n:Prop}
theorem an3 (A:a) (B:b) (C:c):a/\b/\c:=⟨A,B,C⟩
theorem an4 (A:a) (B:b) (C:c) (D:d):a/\b/\c/\d:=⟨A,B,C,D⟩
theorem an5 (A:a) (B:b) (C:c) (D:d) (E:e):a/\b/\c/\d/\e:=⟨A,B,C,D,E⟩
theorem an6 (A:a) (B:b) (C:c) (D:d) (E:e) (F:f):a/\b/\c/\d/\e/\f:=⟨A,B,C,D,E,F⟩
theorem QS (A:a) (B:b) (C:c) (D:d) (E:e) (F:f) (G:g):a/\b/\c/\d/\e/\f/\g:=⟨A,B,C,D,E,F,G⟩
theorem an8 (A:a) (B:b) (C:c) (D:d) (E:e) (F:f) (G:g) (H:h):a/\b/\c/\d/\e/\f/\g/\h:=⟨A,B,C,D,E,F,G,H⟩
theorem an9 (A:a) (B:b) (C:c) (D:d) (E:e) (F:f) (G:g) (H:h) (I:i):a/\b/\c/\d/\e/\f/\g/\h/\i:=⟨A,B,C,D,E,F,G,H,I⟩
theorem YP (A:a) (B:b) (C:c) (D:d) (E:e) (F:f) (G:g) (H:h) (I:i) (J:j):a/\b/\c/\d/\e/\f/\g/\h/\i/\j:=⟨A,B,C,D,E,F,G,H,I,J⟩
theorem zdX (A:a) (B:b) (C:c) (D:d) (E:e) (F:f) (G:g) (H:h) (I:i) (J:j) (K:k):a/\b/\c/\d/\e/\f/\g/\h/\i/\j/\k:=⟨A,B,C,D,E,F,G,H,I,J,K⟩
theorem zdY (A:a) (B:b) (C:c) (D:d) (E:e) (F:f) (G:g) (H:h) (I:i) (J:j) (K:k) (L:l):a/\b/\c/\d/\e/\f/\g/\h/\i/\j/\k/\l:=⟨A,B,C,D,E,F,G,H,I,J,K,L⟩
theorem zdZ (A:a) (B:b) (C:c) (D:d) (E:e) (F:f) (G:g) (H:h) (I:i) (J:j) (K:k) (L:l) (M:m):a/\b/\c/\d/\e/\f/\g/\h/\i/\j/\k/\l/\m:=⟨A,B,C,D,E,F,G,H,I,J,K,L,M⟩
theorem zd0 (A:a) (B:b) (C:c) (D:d) (E:e) (F:f) (G:g) (H:h) (I:i) (J:j) (K:k) (L:l) (M:m) (N:n):a/\b/\c/\d/\e/\f/\g/\h/\i/\j/\k/\l/\m/\n:=⟨A,B,C,D,E,F,G,H,I,J,K,L,M,N⟩
theorem aG (A:a) (B:b):Hd (a/\b):=⟨A,B⟩
theorem bG (A:a) (B:b) (C:c):Hd (a/\b/\c):=⟨A,B,C⟩
theorem cC (A:a) (B:b) (C:c) (D:d):Hd (a/\b/\c/\d):=⟨A,B,C,D⟩
theorem fh (A:a) (B:b) (C:c) (D:d) (E:e):Hd (a/\b/\c/\d/\e):=⟨A,B,C,D,E⟩
theorem qS (A:a) (B:b) (C:c) (D:d) (E:e) (F:f):Hd (a/\b/\c/\d/\e/\f):=⟨A,B,C,D,E,F⟩
theorem a_ (A:a) (B:b):Hd a/\Hd b:=⟨A,B⟩
theorem cG (A:a) (B:b) (C:c):Hd a/\Hd b/\Hd c:=⟨A,B,C⟩
theorem eW (A:a) (B:b) (C:c) (D:d):Hd a/\Hd b/\Hd c/\Hd d:=⟨A,B,C,D⟩
theorem wV (A:a) (B:b) (C:c) (D:d) (E:e):Hd a/\Hd b/\Hd c/\Hd d/\Hd e:=⟨A,B,C,D,E⟩
theorem UC (A:a) (B:b) (C:c) (D:d) (E:e) (F:f):Hd a/\Hd b/\Hd c/\Hd d/\Hd e/\Hd f:=⟨A,B,C,D,E,F⟩
theorem UD (A:a) (B:b) (C:c) (D:d) (E:e) (F:f) (G:g):Hd a/\Hd b/\Hd c/\Hd d/\Hd e/\Hd f/\Hd g:=⟨A,B,C,D,E,F,G⟩
theorem UE (A:a) (B:b) (C:c) (D:d) (E:e) (F:f) (G:g) (H:h):Hd a/\Hd b/\Hd c/\Hd d/\Hd e/\Hd f/\Hd g/\Hd h:=⟨A,B,C,D,E,F,G,H⟩
theorem zd1 (A:a) (B:b) (C:c) (D:d) (E:e) (F:f) (G:g) (H:h) (I:i):Hd a/\Hd b/\Hd c/\Hd d/\Hd e/\Hd f/\Hd g/\Hd h/\Hd i:=⟨A,B,C,D,E,F,G,H,I⟩
theorem Nd (A:a) (B:b) (C:c) (D:d) (E:e) (F:f) (G:g) (H:h) (I:i) (J:j):Hd a/\Hd b/\Hd c/\Hd d/\Hd e/\Hd f/\Hd g/\Hd h/\Hd i/\Hd j:=⟨A,B,C,D,E,F,G,H,I,J⟩
end
theorem iT {w:World} {o:Obj} {k:Nat} (h:k=w.heap.size):(w.alloc o).heap[k]?=some o:=by rw[h];exact fP w o
section
variable {w W:World} {o1 o2 o3 o4 o5:Obj}
theorem cZ (h:W=w.alloc o1):Below w.heap.size w W:=by rw[h];exact cJ
theorem cb (h:W=w.alloc o1):W.heap[w.heap.size]?=some o1:=by rw[h];exact iT (by simp)
theorem Fg (h:W=w.alloc o1):W.heap.size=w.heap.size+1:=by rw[h];simp
theorem lF (h:W=(w.alloc o1).alloc o2):Below w.heap.size w W:=by rw[h];exact cJ.alloc (by simp <;> omega) _
theorem sQ (h:W=(w.alloc o1).alloc o2):W.heap[w.heap.size]?=some o1:=by rw[h];exact (bI _ _ _ (by simp <;> omega)).trans (iT (by simp))
theorem jA (h:W=(w.alloc o1).alloc o2):W.heap[w.heap.size+1]?=some o2:=by rw[h];exact iT (by simp)
theorem wW (h:W=(w.alloc o1).alloc o2):W.heap.size=w.heap.size+2:=by rw[h];simp
theorem wX (h:W=((w.alloc o1).alloc o2).alloc o3):Below w.heap.size w W:=by rw[h];exact (cJ.alloc (by simp <;> omega) _).alloc (by simp <;> omega) _
theorem xZ (h:W=((w.alloc o1).alloc o2).alloc o3):W.heap[w.heap.size]?=some o1:=by rw[h];exact (bI _ _ _ (by simp <;> omega)).trans ((bI _ _ _ (by simp <;> omega)).trans (iT (by simp)))
theorem rj (h:W=((w.alloc o1).alloc o2).alloc o3):W.heap[w.heap.size+1]?=some o2:=by rw[h];exact (bI _ _ _ (by simp <;> omega)).trans (iT (by simp))
theorem pg (h:W=((w.alloc o1).alloc o2).alloc o3):W.heap[w.heap.size+1+1]?=some o3:=by rw[h];exact iT (by simp)
theorem Hu (h:W=((w.alloc o1).alloc o2).alloc o3):W.heap.size=w.heap.size+3:=by rw[h];simp
theorem QT (h:W=(((w.alloc o1).alloc o2).alloc o3).alloc o4):Below w.heap.size w W:=by rw[h];exact ((cJ.alloc (by simp <;> omega) _).alloc (by simp <;> omega) _).alloc (by simp <;> omega) _
theorem Nf (h:W=(((w.alloc o1).alloc o2).alloc o3).alloc o4):W.heap[w.heap.size]?=some o1:=by rw[h];exact (bI _ _ _ (by simp <;> omega)).trans ((bI _ _ _ (by simp <;> omega)).trans ((bI _ _ _ (by simp <;> omega)).trans (iT (by simp))))
theorem SU (h:W=(((w.alloc o1).alloc o2).alloc o3).alloc o4):W.heap[w.heap.size+1]?=some o2:=by rw[h];exact (bI _ _ _ (by simp <;> omega)).trans ((bI _ _ _ (by simp <;> omega)).trans (iT (by simp)))
theorem SV (h:W=(((w.alloc o1).alloc o2).alloc o3).alloc o4):W.heap[w.heap.size+1+1]?=some o3:=by rw[h];exact (bI _ _ _ (by simp <;> omega)).trans (iT (by simp))
theorem Ng (h:W=(((w.alloc o1).alloc o2).alloc o3).alloc o4):W.heap[w.heap.size+1+1+1]?=some o4:=by rw[h];exact iT (by simp)
theorem UF (h:W=(((w.alloc o1).alloc o2).alloc o3).alloc o4):W.heap.size=w.heap.size+4:=by rw[h];simp
end
theorem J5 {f:FuncId} {w:World} (h:CallsIn Fence.wide 3 P f args w R):Calls P f args w R:=aK.1 h
theorem ml {f:FuncId} {fn:Func} {w:World} (hf:P.funcs[f]?=some fn) {c:Code} (h:c.wpIn Fence.wide 3 P (bodyPost P fn R) { tmps:=args ++ Array.replicate (fn.ntmps - args.size) undef,defers:=[] } w) (hb:fn.body=some c:=by rfl):Calls P f args w R:=aK.1 (callsIn_of_wp hf hb trivial h rfl)
theorem eM:∀ f,Fence.wide.fn f:=fun _=>trivial
end Go.Proofs.YtokemihbkeddoaaGreatDoor
namespace Go.Proofs.YtokemihbkeddoaaGreatDoor
open Go
variable {i j cw id:Nat} {o oi:Oper} {v:Value} {a:Act} {K:Act->World->Prop} {w:World} {listed:Array Bool}
section
variable {F:Fence} {n:Nat} {P:Program} {ops:Array Oper} {Q:Exit->Act->World->Prop} {md:Region.Mode} {S:World->Prop} {e:Nat}
def gX (F:Fence) (ops:Array Oper):Prop:=∀ (j:Nat) (o:Oper),ops[j]?=some o->∀ ρ,Oper.semAt F.round ρ o=execOp ρ o
def lG (o:Oper):Bool:=match o.op with | .defer _=>false | _=>true
theorem Fh (h:ops.toList.all lG=true):gX F ops:=fun j o ho ρ=>by
 cases hr:F.round with
 | none=>exact Oper.semAt_none _ _
 | some l=>
  refine Oper.semAt_some l ρ o (fun c hc=>?_);have hm:o∈ops.toList:=by
   have:=List.mem_of_getElem? (l:=ops.toList) (i:=j) (a:=o) (by simpa using ho);exact this
  have:=List.all_eq_true.1 h o hm;unfold lG at this;rw[hc]at this;cases this
def YieldsM (P:Program) (ops:Array Oper) (S:World->Prop) (o:Oper) (v:Value) (a:Act):Prop:=YieldsIf P ops S o v a/\∀ w,o.about P w a.eval=none
theorem x_ (ph:gX F ops) (hi:ops[i]?=some o) (hy:YieldsM P ops S o v a) (hS:S w) (h:K (a.put o.dst v) w):wpOpIn F n P ops Q i K a w:=by
 unfold wpOpIn;simp only[hi];have AI:∀ f,o.about P w a.eval=some f->F.fn f:=fun f hf=>by rw[hy.2 w]at hf;cases hf
 rcases hy.1 with ⟨hw,hv⟩ | ⟨hw,rfl⟩
 ·simp only[hw,if_true,Oper.wpIn,ph i o hi,hv w hS,Oper.uponIn];exact ⟨AI,h⟩
 ·simp only[hw,dE,if_false];exact ⟨AI,h⟩
theorem YieldsM.of_same {a':Act} (hy:YieldsM P ops S o v a) (he:execOp a'.eval o=execOp a.eval o)
  (hw:Region.wanted o (yielded ops a'.tmps)=Region.wanted o (yielded ops a.tmps)) (hb:∀ w,o.about P w a'.eval=o.about P w a.eval):YieldsM P ops S o v a':=
 ⟨hy.1.of_same he hw,fun w=>by rw[hb w];exact hy.2 w⟩
theorem Fi {oj:Oper} (ph:gX F ops) (hj:ops[j]?=some oj) (hap:oi.apart ops oj=true)
  (hsi:∀ cs b,oi.op≠.select cs b) (hsj:∀ cs b,oj.op≠.select cs b)
  (hQ:∀ c a w,Q (.panic c) (a.put oi.dst v) w->Q (.panic c) a w) {K:Act->World->Prop} {a:Act} {w:World}
  (hy:YieldsM P ops S oi v a) (h:wpOpIn F n P ops Q j K (a.put oi.dst v) w) :
  wpOpIn F n P ops Q j (fun a' w'=>YieldsM P ops S oi v a'/\K (a'.put oi.dst v) w') a w:=by
 obtain ⟨h1,h2,h3⟩:=Oper.apart_spec hap;have keep:∀ (a:Act),YieldsM P ops S oi v a->∀ u,YieldsM P ops S oi v (a.put oj.dst u):=fun a hy u=>
  hy.of_same (execOp_put oi hsi a oj.dst u h3) (wanted_put oi a oj.dst u h3) (fun w=>about_put oi w a oj.dst u h3)
 have YQ:∀ d,YieldsM P ops S oi v { a with defers:=d :: a.defers }:=fun d=>hy.of_same rfl rfl (fun _=>rfl);have hse:=ph j oj hj;unfold wpOpIn at *;simp only[hj]at h ⊢;rw[wanted_put oj a oi.dst v h1,about_put oj w a oi.dst v h1]at h;split
 ·rename_i hw;simp only[hw,if_true]at h;unfold Oper.wpIn at *;rw[about_put oj w a oi.dst v h1]at h;refine ⟨h.1,?_⟩;have h:=h.2;rw[hse,execOp_put oj hsj a oi.dst v h1]at h;rw[hse];generalize (execOp a.eval oj).run P w=r at *
  cases r with
  | ok x w'=>
   cases x <;> simp only[Oper.uponIn]at h ⊢
   case value u=>exact ⟨keep a hy u,by rw[<-Act.put_comm a v u h2];exact h⟩
   case skip=>exact ⟨keep a hy _,by rw[<-Act.put_comm a v undef h2];exact h⟩
   case defer d=>
    refine ⟨keep _ (YQ d) _,?_⟩;rw[<-Act.put_comm _ v undef h2,<-Act.put_defers];exact h
   case enter f args=>
    refine ⟨h.1,CallsIn.mono h.2 fun e Dr he=>?_⟩;exact pm224
   case row row args=>exact ⟨h.1,RowsIn.mono h.2 fun u Dr he=>⟨keep a hy u,by rw[<-Act.put_comm a v u h2];exact he⟩⟩
   case round l f tmps assign body=>
    refine ⟨h.1,RoundIn.mono h.2 fun e Dr he=>?_⟩;exact pm224
  | halt x w'=>
   cases x <;> simp only[Oper.uponIn]at h ⊢
   case panic u=>exact hQ _ _ _ h
 ·rename_i hw;simp only[hw]at h;exact ⟨h.1,keep a hy _,by rw[<-Act.put_comm a v undef h2];exact h.2⟩
def Fj (md:Region.Mode) (ops:Array Oper) (i:Nat):Nat->Nat->Bool
 | 0,_=>false
 | d+1,j=>match ops[j]? with
  | none=>false
  | some oj=>oj.after.any fun ed=>Region.binds md ed && (ed.on == i || Fj md ops i d ed.on)
def BN (md:Region.Mode) (ops:Array Oper) (e i:Nat):Bool:=(List.range ops.size).all fun j=>decide (j<e) || Fj md ops i ops.size j
def uJ (md:Region.Mode) (ops:Array Oper) (listed:Array Bool):Prop:=∀ j oj,ops[j]?=some oj->listed.getD j false=true->∀ ed∈oj.after,Region.binds md ed=true->listed.getD ed.on false=true
def qu (md:Region.Mode) (ops:Array Oper) (listed:Array Bool):Bool:=(List.range ops.size).all fun j=>match ops[j]? with
 | none=>true
 | some oj=>!listed.getD j false || oj.after.all fun ed=>!Region.binds md ed || listed.getD ed.on false
theorem BO {md:Region.Mode} {ops:Array Oper} (h:qu md ops listed=true):uJ md ops listed:=fun j oj hj hl ed SW hb=>by
 have h1:=List.all_eq_true.1 h j (List.mem_range.2 (bz hj));simp only[hj,hl,Bool.not_true,Bool.false_or]at h1;have h2:=Array.all_eq_true'.1 h1 ed SW;simpa[hb] using h2
theorem yb {md:Region.Mode} {ops:Array Oper} (hc:uJ md ops listed):∀ (d j:Nat),listed.getD j false=true->Fj md ops i d j=true->listed.getD i false=true
 | 0,_,_,h=>by simp[Fj]at h
 | d+1,j,hl,h=>by
  unfold Fj at h
  cases hj:ops[j]? with
  | none=>simp[hj]at h
  | some oj=>
   simp only[hj]at h;obtain ⟨ed,SW,hb⟩:=Array.any_eq_true'.1 h;simp only[ah,Bool.or_eq_true,f9]at hb;have h1:=hc j oj hj hl ed SW hb.1;rcases hb.2 with h2 | h2
   ·rwa [h2]at h1
   ·exact yb hc d ed.on h1 h2
theorem Lf {md:Region.Mode} {ops:Array Oper} (hc:uJ md ops listed) (hr:j∈Region.ready md ops listed) {d:Nat} (h:Fj md ops i d j=true):listed.getD i false=true:=by
 obtain ⟨_,oj,XV,ew⟩:=mem_ready.1 hr
 cases d with
 | zero=>simp[Fj]at h
 | succ d=>
  unfold Fj at h;simp only[XV]at h;obtain ⟨ed,SW,hb⟩:=Array.any_eq_true'.1 h;simp only[ah,Bool.or_eq_true,f9]at hb;have h1:=ew ed SW hb.1;rcases hb.2 with h2 | h2
  ·rwa [h2]at h1
  ·exact yb hc d ed.on h1 h2
theorem Hv {md:Region.Mode} {ops:Array Oper} (hc:uJ md ops listed) (hr:i∈Region.ready md ops listed):uJ md ops (listed.setIfInBounds i true):=fun j oj hj hl ed SW hb=>by
 obtain ⟨_,oi,hoi,ew⟩:=mem_ready.1 hr
 by_cases XW:i=j
 ·subst XW;have:oj=oi:=Option.some.inj (hj.symm.trans hoi);subst this;exact getD_set_true (ew ed SW hb)
 ·rw[getD_set_ne false XW]at hl;exact getD_set_true (hc j oj hj hl ed SW hb)
def du (F:Fence) (n:Nat) (P:Program) (md:Region.Mode) (ops:Array Oper) (Q:Exit->Act->World->Prop) (S:World->Prop) (e:Nat):Nat->Array Bool->Act->World->Prop
 | 0,listed,a,w=>Region.ready md ops listed=[]/\Q .normal a w
 | cw+1,listed,a,w=>
  (Region.ready md ops listed=[]->Q .normal a w) ∧
  ∀ i∈Region.ready md ops listed,wpOpIn F n P ops Q i (fun a' w'=>(i<e->S w')/\du F n P md ops Q S e cw (listed.setIfInBounds i true) a' w') a w
theorem sR:∀ (cw:Nat) (listed:Array Bool) (a:Act) (w:World),du F n P md ops Q S e cw listed a w->wpAnyIn F n P md ops Q cw listed a w
 | 0,_,_,_,h=>h
 | cw+1,_,_,_,h=>⟨h.1,fun i hi=>wpOpIn_mono (fun a' w' h'=>sR cw _ a' w' h'.2) (h.2 i hi)⟩
theorem sS (ph:gX F ops) (YR:BN md ops e i=true) (hi:ops[i]?=some oi) (YS:∀ (j:Nat) (o:Oper) cs b,ops[j]?=some o->o.op≠.select cs b)
  (hQ:∀ c a w,Q (.panic c) (a.put oi.dst v) w->Q (.panic c) a w) :
  ∀ (cw:Nat) (listed:Array Bool) (a:Act) (w:World),uJ md ops listed →
   (∀ j oj,ops[j]?=some oj->j≠i->listed.getD j true=false->(∀ e∈oj.after,Region.binds md e=true->e.on≠i)->oi.apart ops oj=true) →
   i∈Region.ready md ops listed->YieldsM P ops S oi v a->S w →
   du F n P md ops Q S e cw (listed.setIfInBounds i true) (a.put oi.dst v) w->du F n P md ops Q S e (cw+1) listed a w:=by
 intro cw
 induction cw with
 | zero=>
  intro listed a w _ _ hr hy hS H;have pp261:=();exact pm261
 | succ cw ih=>
  intro listed a w hcl SX hr hy hS H;exact pm261
theorem SY (d:Nat) (v:Value) (ph:gX F ops) (hi:ops[i]?=some oi)
  (hs:(Region.noSelect ops && (Region.free md ops listed i && ((Region.ready md ops listed).contains i && (BN md ops e i && qu md ops listed))))=true)
  (hQ:∀ c a w,Q (.panic c) (a.put oi.dst v) w->Q (.panic c) a w) (uK:oi.dst=some d) (hw:Region.wanted oi (yielded ops a.tmps)=true) (hy:∀ w,S w->(execOp a.eval oi).run P w=.ok (.value v) w) (AI:∀ w,oi.about P w a.eval=none) (hS:S w)
  (h:S w->du F n P md ops Q S e cw (listed.setIfInBounds i true) { a with tmps:=a.tmps.setIfInBounds d v } w):du F n P md ops Q S e (cw+1) listed a w:=by
 simp only[ah]at hs;exact sS ph hs.2.2.2.1 hi (Region.noSelect_spec hs.1) hQ cw listed a w (BO hs.2.2.2.2) (Region.free_spec hi hs.2.1) (by simpa using hs.2.2.1) ⟨.inl ⟨hw,hy⟩,AI⟩ hS (by rw[uK];exact h hS)
theorem YU (d:Nat) (ph:gX F ops) (hi:ops[i]?=some oi)
  (hs:(Region.noSelect ops && (Region.free md ops listed i && ((Region.ready md ops listed).contains i && (BN md ops e i && qu md ops listed))))=true)
  (hQ:∀ c a w,Q (.panic c) (a.put oi.dst undef) w->Q (.panic c) a w) (uK:oi.dst=some d) (hw:Region.wanted oi (yielded ops a.tmps)=false) (AI:∀ w,oi.about P w a.eval=none) (hS:S w)
  (h:S w->du F n P md ops Q S e cw (listed.setIfInBounds i true) { a with tmps:=a.tmps.setIfInBounds d undef } w):du F n P md ops Q S e (cw+1) listed a w:=by
 simp only[ah]at hs;exact sS ph hs.2.2.2.1 hi (Region.noSelect_spec hs.1) hQ cw listed a w (BO hs.2.2.2.2) (Region.free_spec hi hs.2.1) (by simpa using hs.2.2.1) ⟨.inr ⟨hw,rfl⟩,AI⟩ hS (by rw[uK];exact h hS)
theorem zbC (hi:ops[i]?=some oi) (hr:Region.ready md ops listed=[i]) (hw:Region.wanted oi (yielded ops a.tmps)=true)
  (h:∀ K:Act->World->Prop,(∀ a w,(i<e->S w)->((i<e->S w)->du F n P md ops Q S e cw (listed.setIfInBounds i true) a w)->K a w)->Oper.wpIn F n P oi a w K Q):du F n P md ops Q S e (cw+1) listed a w:=by
 have pp220:=();exact pm220
theorem YV (d:Nat) (hi:ops[i]?=some oi) (hr:Region.ready md ops listed=[i]) (uK:oi.dst=some d) (hw:Region.wanted oi (yielded ops a.tmps)=false) (AI:∀ f,oi.about P w a.eval=some f->F.fn f) (hS:S w)
  (h:S w->du F n P md ops Q S e cw (listed.setIfInBounds i true) { a with tmps:=a.tmps.setIfInBounds d undef } w):du F n P md ops Q S e (cw+1) listed a w:=by
 exact pm220
def NP (Q:Exit->Act->World->Prop):Exit->Act->World->Prop
 | .panic _,_,_=>False
 | e,a,w=>Q e a w
theorem NP.imp {Q:Exit->Act->World->Prop}:∀ (e:Exit) (a:Act) (w:World),NP Q e a w->Q e a w:=fun e a w h=>by
 cases e <;> first | exact h | exact (h:False).elim
theorem YW (hr:Region.ready md ops listed=[]) (h:Q .normal a w):∀ cw,du F n P md ops (NP Q) S e cw listed a w
 | 0=>⟨hr,h⟩
 | _+1=>⟨fun _=>h,by rw[hr];simp⟩
theorem J6 (S:World->Prop) (e:Nat) (hm:(P.follows .mixedOrders && ops.toList.all lG)=true) (hS:S w.drew)
  (h:gX F ops->S w.drew->du F n P .any ops (NP Q) S e ops.size (Array.replicate ops.size false) a w.drew):(Code.region id ops true).wpIn F n P Q a w:=by
 simp only[ah]at hm;exact Code.wpIn_mono NP.imp (wpIn_region_any hm.1 (sR _ _ _ _ (h (Fh hm.2) hS)))
theorem bC (i d:Nat) (v:Value) (hi:ops[i]?=some oi) (hS:S w)
  (h:S w->du F n P md ops Q S e cw (listed.setIfInBounds i true) { a with tmps:=a.tmps.setIfInBounds d v } w)
  (ph:gX F ops:=by assumption) (hy:∀ w,S w->(execOp a.eval oi).run P w=.ok (.value v) w:=by intro V hX;go_simp)
  (hs:(Region.noSelect ops && (Region.free md ops listed i && ((Region.ready md ops listed).contains i && (BN md ops e i && qu md ops listed))))=true:=by kernel_rfl)
  (hQ:∀ c a w,Q (.panic c) (a.put oi.dst v) w->Q (.panic c) a w:=by exact fun _ _ _ h=>h) (uK:oi.dst=some d:=by rfl) (hw:Region.wanted oi (yielded ops a.tmps)=true:=by rfl)
  (AI:∀ w,oi.about P w a.eval=none:=by exact fun _=>rfl):du F n P md ops Q S e (cw+1) listed a w:=
 SY d v ph hi hs hQ uK hw hy AI hS h
theorem c9 (i d:Nat) (v:Value) (hi:ops[i]?=some oi) (hy:∀ w,S w->(execOp a.eval oi).run P w=.ok (.value v) w) (hS:S w)
  (h:S w->du F n P md ops Q S e cw (listed.setIfInBounds i true) { a with tmps:=a.tmps.setIfInBounds d v } w)
  (ph:gX F ops:=by assumption)
  (hs:(Region.noSelect ops && (Region.free md ops listed i && ((Region.ready md ops listed).contains i && (BN md ops e i && qu md ops listed))))=true:=by kernel_rfl)
  (hQ:∀ c a w,Q (.panic c) (a.put oi.dst v) w->Q (.panic c) a w:=by exact fun _ _ _ h=>h) (uK:oi.dst=some d:=by rfl) (hw:Region.wanted oi (yielded ops a.tmps)=true:=by rfl)
  (AI:∀ w,oi.about P w a.eval=none:=by exact fun _=>rfl):du F n P md ops Q S e (cw+1) listed a w:=
 SY d v ph hi hs hQ uK hw hy AI hS h
theorem bZ (i:Nat) (hi:ops[i]?=some oi)
  (h:∀ K:Act->World->Prop,(∀ a w,(i<e->S w)->((i<e->S w)->du F n P md ops Q S e cw (listed.setIfInBounds i true) a w)->K a w)->Oper.wpIn F n P oi a w K Q)
  (hr:Region.ready md ops listed=[i]:=by kernel_rfl) (hw:Region.wanted oi (yielded ops a.tmps)=true:=by rfl):du F n P md ops Q S e (cw+1) listed a w:=
 zbC hi hr hw h
theorem eN {R:Act->World->Prop} (hK:∀ a w,(i<e->S w)->((i<e->S w)->R a w)->K a w) (h:R a w) (hn:¬i<e:=by decide):K a w:=hK a w (fun x=>absurd x hn) fun _=>h
theorem lg (S:World->Prop) (e:Nat) (hS:S w.drew) (h:gX F ops->S w.drew->du F n P .any ops (NP Q) S e ops.size (Array.replicate ops.size false) a w.drew)
  (hm:(P.follows .mixedOrders && ops.toList.all lG)=true:=by kernel_rfl):(Code.region id ops true).wpIn F n P Q a w:=J6 S e hm hS h
theorem kz (h:Q .normal a w) (hr:Region.ready md ops listed=[]:=by kernel_rfl):du F n P md ops (NP Q) S e cw listed a w:=YW hr h cw
end
end Go.Proofs.YtokemihbkeddoaaGreatDoor
namespace Go.Proofs.YtokemihbkeddoaaGreatDoor
open Go
variable {sz d k id:Nat} {listed:Array Bool} {a0 a:Act} {w:World} {o:Oper}
section
variable {F:Fence} {n:Nat} {P:Program} {ops:Array Oper} {Q:Exit->Act->World->Prop} {md:Region.Mode} {S:World->Prop}
variable {Γ:Type} (Φ:Nat->Value->Γ->World->Prop) (Ψ:Nat->Γ->Prop) (I:Γ->World->Prop) (G:Γ->World->Γ->World->Prop)
def Fk (ops:Array Oper) (sz:Nat):Bool:=(List.range ops.size).all fun i=>match ops[i]? with
 | none=>true
 | some oi=>oi.after.all (fun e=>!Region.binds .any e || decide (e.on<i)) && (match oi.dst with
  | none=>true
  | some d=>decide (d<sz) && (List.range ops.size).all fun j=>i == j || (match ops[j]? with | some oj=>oj.dst != some d | none=>true))
structure DagOk (ops:Array Oper) (sz:Nat):Prop where
 before:∀ (k:Nat) (o:Oper),ops[k]?=some o->∀ e∈o.after,Region.binds .any e=true->e.on<k
 there:∀ (k:Nat) (o:Oper) (d:Nat),ops[k]?=some o->o.dst=some d->d<sz
 one:∀ (k j:Nat) (o oj:Oper) (d:Nat),ops[k]?=some o->ops[j]?=some oj->o.dst=some d->oj.dst=some d->k=j
theorem Fl (h:Fk ops sz=true):DagOk ops sz:=by
 have h1:∀ (k:Nat) (o:Oper),ops[k]?=some o->o.after.all (fun e=>!Region.binds .any e || decide (e.on<k))=true/\∀ d,o.dst=some d->d<sz/\∀ (j:Nat) (oj:Oper),ops[j]?=some oj->k=j\/oj.dst≠some d:=by
  intro k o ho;have:=List.all_eq_true.1 h k (List.mem_range.2 (bz ho));simp only[ho,ah]at this;refine ⟨this.1,fun d hd=>?_⟩;have h2:=this.2;simp only[hd,ah,bx]at h2;refine ⟨h2.1,fun j oj hj=>?_⟩;have h3:=List.all_eq_true.1 h2.2 j (List.mem_range.2 (bz hj));simp only[hj,Bool.or_eq_true,f9,bne_iff_ne,ne_eq]at h3;exact h3
 refine ⟨fun k o ho e he hb=>?_,fun k o d ho hd=>((h1 k o ho).2 d hd).1,fun k j o oj d ho hj hd Nh=>?_⟩
 ·have:=Array.all_eq_true'.1 (h1 k o ho).1 e he;simpa[hb] using this
 ·rcases ((h1 k o ho).2 d hd).2 j oj hj with h | h
  ·exact h
  ·exact absurd Nh h
structure DagAt (ops:Array Oper) (a0:Act) (listed:Array Bool) (a:Act) (γ:Γ) (w:World):Prop where
 df:a.defers=a0.defers
 sz:a.tmps.size=a0.tmps.size
 ou:∀ d,(∀ (k:Nat) (o:Oper),ops[k]?=some o->o.dst≠some d)->a.tmps[d]?=a0.tmps[d]?
 nod:∀ (k:Nat) (o:Oper),ops[k]?=some o->o.dst=none->listed.getD k false=true->Φ k undef γ w
 val:∀ (k:Nat) (o:Oper) (d:Nat),ops[k]?=some o->o.dst=some d->listed.getD k false=true->∃v,a.tmps[d]?=some v/\Φ k v γ w
 unl:∀ k,k<ops.size->listed.getD k true=false->Ψ k γ
 inv:I γ w
 pre:∀ (k:Nat) (o:Oper) (d:Nat),ops[k]?=some o->o.dst=some d->listed.getD k false=false->a.tmps[d]?=a0.tmps[d]?
 cl:∀ (k:Nat) (o:Oper),ops[k]?=some o->listed.getD k false=true->∀ e∈o.after,Region.binds .any e=true->e.on<ops.size->listed.getD e.on false=true
def freeB (ops:Array Oper) (d:Nat):Bool:=ops.toList.all fun o=>o.dst != some d
theorem J7 {ops:Array Oper} (h:freeB ops d=true) (k:Nat) (o:Oper) (ho:ops[k]?=some o):o.dst≠some d:=by
 have:=List.all_eq_true.1 h o (List.mem_of_getElem? (i:=k) (by simpa using ho));simpa using this
def waitB (md:Region.Mode) (o:Oper) (j:Nat):Bool:=o.after.any fun e=>e.on == j && Region.binds md e
structure DagIn (md:Region.Mode) (ops:Array Oper) (a0:Act) (o:Oper) (k:Nat) (a:Act) (γ:Γ) (w:World):Prop where
 sz:a.tmps.size=a0.tmps.size
 ou:∀ d,freeB ops d=true->a.tmps[d]?=a0.tmps[d]?
 inv:I γ w
 psi:Ψ k γ
 nod:∀ (j:Nat) (oj:Oper),ops[j]?=some oj->waitB md o j=true->oj.dst=none->Φ j undef γ w
 val:∀ (j:Nat) (oj:Oper) (d:Nat),ops[j]?=some oj->oj.dst=some d->waitB md o j=true->∃v,a.tmps[d]?=some v/\Φ j v γ w
 pre:∀ (j:Nat) (oj:Oper) (d:Nat),ops[j]?=some oj->oj.dst=some d->waitB md oj k=true->a.tmps[d]?=a0.tmps[d]?
def nE (F:Fence) (n:Nat) (P:Program) (md:Region.Mode) (ops:Array Oper) (Q:Exit->Act->World->Prop) (a0:Act) (k:Nat):Prop:=
 ∀ o,ops[k]?=some o->∀ (a:Act) (γ:Γ) (w:World),DagIn Φ Ψ I md ops a0 o k a γ w →
  ∀ K:Act->World->Prop,(∀ (v:Value) (dT:Γ) (w':World),(o.dst=none->v=undef)->G γ w dT w'->(∀ j,j≠k->Ψ j γ->Ψ j dT)->Φ k v dT w'->K (a.put o.dst v) w')->wpOpIn F n P ops Q k K a w
theorem Fo {γ:Γ} (h:DagAt Φ Ψ I ops a0 listed a γ w) (hk:k<ops.size) (MQ:listed.getD k true=false) (ew:∀ e∈o.after,Region.binds .any e=true->e.on<ops.size->listed.getD e.on false=true):DagIn Φ Ψ I .any ops a0 o k a γ w:=by
 have hw:∀ (j:Nat) (oj:Oper),ops[j]?=some oj->waitB .any o j=true->listed.getD j false=true:=by
  intro j oj hj hw;obtain ⟨e,he,hb⟩:=Array.any_eq_true'.1 hw;simp only[ah,f9]at hb;rw[<-hb.1];exact ew e he hb.2 (by rw[hb.1];exact (bz hj))
 exact ⟨h.sz,fun d hd=>h.ou d (fun k o ho=>J7 hd k o ho),h.inv,h.unl k hk MQ,fun j oj hj UH hd=>h.nod j oj hj hd (hw j oj hj UH),fun j oj d hj hd UH=>h.val j oj d hj hd (hw j oj hj UH),fun j oj d hj hd UH=>h.pre j oj d hj hd (by
  cases hc:listed.getD j false with
  | false=>rfl
  | true=>
   obtain ⟨e,he,hb⟩:=Array.any_eq_true'.1 UH;simp only[ah,f9]at hb;have h1:=h.cl j oj hj hc e he hb.2 (by rw[hb.1];exact hk);rw[hb.1]at h1;rcases Nat.lt_or_ge k listed.size with hlt | hge
   ·simp[Array.getD,hlt]at h1 MQ;rw[h1]at MQ;cases MQ
   ·simp[Array.getD,Nat.not_lt.2 hge]at h1)⟩
theorem Lg (hok:DagOk ops n) (hl:listed.size=ops.size) (h:Region.ready .any ops listed=[]):∀ k,k<ops.size->listed.getD k false=true:=by
 intro k
 induction k using Nat.strongRecOn with
 | ind k ih=>
  intro hk
  cases hc:listed.getD k false with
  | true=>rfl
  | false=>
   exfalso;have ho:ops[k]?=some ops[k]:=by simp[hk]
   have:k∈Region.ready .any ops listed:=mem_ready.2 ⟨by
    have bp:k<listed.size:=by omega
    simp[Array.getD,bp]at hc ⊢;exact hc,ops[k],ho,fun e he hb=>by
     have hlt:=hok.before k _ ho e he hb;exact ih e.on hlt (by omega)⟩
   rw[h]at this;cases this
theorem BR {l:Array Bool} {i:Nat} (h:l.getD i true=false):(l.setIfInBounds i true).toList.countP (fun b=>!b)+1=l.toList.countP (fun b=>!b):=by
 have hi:i<l.size:=by
  rcases Nat.lt_or_ge i l.size with h' | h'
  ·exact h'
  ·simp[Array.getD,Nat.not_lt.2 h']at h
 have hv:l[i]=false:=by simpa[Array.getD,hi] using h
 have h2:i<l.toList.length:=by simpa using hi
 have jd:l.toList[i]=false:=by simpa using hv
 rw[Array.toList_setIfInBounds,List.countP_set h2,jd];have:0<l.toList.countP (fun b=>!b):=List.countP_pos_iff.2 ⟨false,by rw[<-jd];exact aA h2,rfl⟩;simp only[Bool.not_false,Bool.not_true,if_true,dE,if_false];omega
theorem J8 (hok:DagOk ops a0.tmps.size) (hI:∀ γ w dT w',G γ w dT w'->I γ w->I dT w') (vU:∀ k v γ w dT w',G γ w dT w'->Φ k v γ w->Φ k v dT w')
  {listed:Array Bool} {a:Act} {γ dT:Γ} {w w':World} {k:Nat} {o:Oper} {v:Value} (ew:∀ e∈o.after,Region.binds .any e=true->e.on<ops.size->listed.getD e.on false=true) (hl:listed.size=ops.size) (ho:ops[k]?=some o) (h:DagAt Φ Ψ I ops a0 listed a γ w) (hv:o.dst=none->v=undef) (hG:G γ w dT w') (Lh:∀ j,j≠k->Ψ j γ->Ψ j dT) (iH:Φ k v dT w') :
  DagAt Φ Ψ I ops a0 (listed.setIfInBounds k true) (a.put o.dst v) dT w':=by
 have hsz:(a.put o.dst v).tmps.size=a0.tmps.size:=by
  unfold Act.put;split <;> simp[h.sz]
 have rK:∀ j,j≠k->(listed.setIfInBounds k true).getD j false=true->listed.getD j false=true:=fun j hj hh=>by rwa [getD_set_ne false (Ne.symm hj)]at hh
 refine ⟨?_,hsz,fun d hd=>?_,fun j oj hj Hg le=>?_,fun j oj d hj Hg le=>?_,fun j hj le=>?_,hI γ w dT w' hG h.inv,fun j oj d hj Hg le=>?_,fun j oj hj le e he hb hlt=>?_⟩
 ·unfold Act.put;split <;> exact h.df
 ·rw[<-h.ou d hd];have i9:=hd k o ho;unfold Act.put;split
  ·rename_i d' UI;have:d'≠d:=fun e=>i9 (by rw[UI,e]);simp[this]
  ·rfl
 ·by_cases qw:j=k
  ·subst qw;obtain rfl:oj=o:=Option.some.inj (hj.symm.trans ho);have:=hv Hg;subst this;exact iH
  ·exact vU j _ γ w dT w' hG (h.nod j oj hj Hg (rK j qw le))
 ·by_cases qw:j=k
  ·subst qw;obtain rfl:oj=o:=Option.some.inj (hj.symm.trans ho);refine ⟨v,?_,iH⟩;have hlt:d<a.tmps.size:=by rw[h.sz];exact hok.there j oj d hj Hg
   rw[Hg];simp[Act.put,hlt]
  ·obtain ⟨u,hu,hφ⟩:=h.val j oj d hj Hg (rK j qw le);refine ⟨u,?_,vU j _ γ w dT w' hG hφ⟩;rw[<-hu];exact pm263
 ·by_cases qw:j=k
  ·subst qw;have hlt:j<listed.size:=by omega
   simp[Array.getD,hlt]at le
  ·exact Lh j qw (h.unl j hj (by rwa [getD_set_ne true (Ne.symm qw)]at le))
 ·by_cases qw:j=k
  ·subst qw;have hlt:j<listed.size:=by rw[hl];exact (bz hj)
   simp[Array.getD,hlt]at le
  ·rw[getD_set_ne false (Ne.symm qw)]at le;rw[<-h.pre j oj d hj Hg le];exact pm263
 ·have Li:listed.getD e.on false=true:=by
   by_cases qw:j=k
   ·subst qw;obtain rfl:oj=o:=Option.some.inj (hj.symm.trans ho);exact ew e he hb hlt
   ·exact h.cl j oj hj (rK j qw le) e he hb hlt
  by_cases hek:e.on=k
  ·rw[hek];have eA:k<listed.size:=by rw[hl,<-hek];exact hlt
   simp[Array.getD,eA]
  ·rw[getD_set_ne false (Ne.symm hek)];exact Li
theorem YX (hok:DagOk ops a0.tmps.size) (hI:∀ γ w dT w',G γ w dT w'->I γ w->I dT w') (vU:∀ k v γ w dT w',G γ w dT w'->Φ k v γ w->Φ k v dT w')
  (Fp:∀ k,k<ops.size->nE Φ Ψ I G F n P Region.Mode.any ops Q a0 k)
  (hQ:∀ (a:Act) (γ:Γ) (w:World),DagAt Φ Ψ I ops a0 (Array.replicate ops.size true) a γ w->Q .normal a w) :
  ∀ (cw:Nat) (listed:Array Bool) (a:Act) (γ:Γ) (w:World),listed.size=ops.size->listed.toList.countP (fun b=>!b)<=cw->DagAt Φ Ψ I ops a0 listed a γ w->du F n P Region.Mode.any ops Q S 0 cw listed a w:=by
 have fin:∀ (listed:Array Bool) (a:Act) (γ:Γ) (w:World),listed.size=ops.size->Region.ready Region.Mode.any ops listed=[]->DagAt Φ Ψ I ops a0 listed a γ w->Q .normal a w:=by
  intro listed a γ w hl hr h;have ew:=Lg hok hl hr;exact pm113
 intro cw
 induction cw with
 | zero=>
  intro listed a γ w hl hc h;have hr:Region.ready Region.Mode.any ops listed=[]:=by
   cases gw:Region.ready Region.Mode.any ops listed with
   | nil=>rfl
   | cons j r=>
    have hj:j∈Region.ready Region.Mode.any ops listed:=by rw[gw];exact fD
    have:=BR (mem_ready.1 hj).1;omega
  exact ⟨hr,fin listed a γ w hl hr h⟩
 | succ cw ih=>
  intro listed a γ w hl hc h;refine ⟨fun hr=>fin listed a γ w hl hr h,fun k hk=>?_⟩;obtain ⟨MQ,o,ho,ew⟩:=mem_ready.1 hk;have vV:=(bz ho);refine Fp k vV o ho a γ w (Fo Φ Ψ I h vV MQ (fun e he hb _=>ew e he hb)) _ (fun v dT w' hv hG Lh iH=>⟨fun h0=>absurd h0 (Nat.not_lt_zero _),?_⟩);refine ih (listed.setIfInBounds k true) (a.put o.dst v) dT w' (by simpa using hl) (by have:=BR MQ;omega) ?_;exact J8 Φ Ψ I G hok hI vU (fun e he hb _=>ew e he hb) hl ho h hv hG Lh iH
theorem BS {Ni:Γ} (hI:I Ni w) (Lh:∀ k,k<ops.size->Ψ k Ni):DagAt Φ Ψ I ops a0 (Array.replicate ops.size false) a0 Ni w:=by
 refine ⟨rfl,rfl,fun _ _=>rfl,fun k o ho MR hl=>?_,fun k o d ho MR hl=>?_,fun k hk _=>Lh k hk,hI,fun _ _ _ _ _ _=>rfl,fun k o ho hl=>?_⟩
 ·have hk:=(bz ho);simp[Array.getD,hk]at hl
 ·have hk:=(bz ho);simp[Array.getD,hk]at hl
 ·have hk:=(bz ho);simp[Array.getD,hk]at hl
theorem kN (Ni:Γ) (hm:(P.follows .mixedOrders && ops.toList.all lG)=true) (hsz:a0.tmps.size=sz) (hd:Fk ops sz=true) (hI0:I Ni w.drew) (UJ:∀ k,k<ops.size->Ψ k Ni)
  (hI:∀ γ w dT w',G γ w dT w'->I γ w->I dT w') (vU:∀ k v γ w dT w',G γ w dT w'->Φ k v γ w->Φ k v dT w')
  (Fp:∀ k,k<ops.size->nE Φ Ψ I G F n P .any ops (NP Q) a0 k) (hQ:∀ (a:Act) (γ:Γ) (w':World),DagAt Φ Ψ I ops a0 (Array.replicate ops.size true) a γ w'->Q .normal a w'):(Code.region id ops true).wpIn F n P Q a0 w:=
 J6 (fun _=>True) 0 hm trivial (fun _ _=>YX Φ Ψ I G (Fl (hsz ▸ hd)) hI vU Fp (fun a γ w' h=>hQ a γ w' h) ops.size _ a0 Ni w.drew (by simp) (aN List.countP_le_length (by simp)) (BS Φ Ψ I hI0 UJ))
theorem j8 (Ni:Γ) (hsz:a0.tmps.size=sz) (hd:Fk ops sz=true) (hI0:I Ni w) (UJ:∀ k,k<ops.size->Ψ k Ni)
  (hI:∀ γ w dT w',G γ w dT w'->I γ w->I dT w') (vU:∀ k v γ w dT w',G γ w dT w'->Φ k v γ w->Φ k v dT w')
  (Fp:∀ k,k<ops.size->nE Φ Ψ I G F n P .any ops Q a0 k) (hQ:∀ (a:Act) (γ:Γ) (w':World),DagAt Φ Ψ I ops a0 (Array.replicate ops.size true) a γ w'->Q .normal a w'):(Code.region id ops false).wpIn F n P Q a0 w:=by
 have hok:=Fl (hsz ▸ hd);refine wpIn_region ?_;have zbD:∀ (m k:Nat) (listed:Array Bool) (a:Act) (γ:Γ) (w:World),k+m=ops.size->listed.size=ops.size->(∀ j,j<ops.size->(listed.getD j false=true ↔ j<k))->DagAt Φ Ψ I ops a0 listed a γ w->wpOpsIn F n P ops Q (List.range' k m) a w:=by
  intro m
  induction m with
  | zero=>
   intro k listed a γ w hk hl BU h;have ew:∀ j,j<ops.size->listed.getD j false=true:=fun j hj=>(BU j hj).2 (by omega);exact pm113
  | succ m ih=>
   intro k listed a γ w hk hl BU h;have vV:k<ops.size:=by omega
   rw[List.range'_succ,wpOpsIn_cons];have ho:ops[k]?=some ops[k]:=by simp[vV]
   have MQ:listed.getD k true=false:=by
    have:=(BU k vV);have bp:k<listed.size:=by omega
    simp[Array.getD,bp]at this ⊢;exact this
   refine Fp k vV _ ho a γ w (Fo Φ Ψ I h vV MQ (fun e he hb hlt=>(BU _ hlt).2 (hok.before k _ ho e he hb))) _ (fun v dT w' hv hG Lh iH=>?_);exact ih (k+1) (listed.setIfInBounds k true) _ dT w' (by omega) (by simpa using hl) (fun j hj=>by
    by_cases qw:k=j
    ·subst qw;have bp:k<listed.size:=by omega
     simp[Array.getD,bp]
    ·rw[getD_set_ne false qw,BU j hj];omega) (J8 Φ Ψ I G hok hI vU (fun e he hb hlt=>(BU _ hlt).2 (hok.before k _ ho e he hb)) hl ho h hv hG Lh iH)
 have:=zbD ops.size 0 (Array.replicate ops.size false) a0 Ni w (by omega) (by simp) (fun j hj=>by simp[Array.getD,hj]) (BS Φ Ψ I hI0 UJ)
 rwa [List.range_eq_range']
variable {Φ} {Ψ} {I} {G}
theorem DagAt.get {γ:Γ} (h:DagAt Φ Ψ I ops a0 (Array.replicate ops.size true) a γ w) (k:Nat) (o:Oper) (d:Nat) (ho:ops[k]?=some o) (hd:o.dst=some d):∃v,a.tmps[d]?=some v/\Φ k v γ w:=
 h.val k o d ho hd (by simp[Array.getD,(bz ho)])
theorem DagAt.did {γ:Γ} (h:DagAt Φ Ψ I ops a0 (Array.replicate ops.size true) a γ w) (k:Nat) (o:Oper) (ho:ops[k]?=some o) (hd:o.dst=none):Φ k undef γ w:=
 h.nod k o ho hd (by simp[Array.getD,(bz ho)])
theorem DagAt.old {γ:Γ} (h:DagAt Φ Ψ I ops a0 listed a γ w) (d:Nat) (hd:freeB ops d=true):a.tmps[d]?=a0.tmps[d]?:=
 h.ou d (fun k o ho=>J7 hd k o ho)
theorem DagAt.od {γ:Γ} (h:DagAt Φ Ψ I ops a0 listed a γ w) (d:Nat) (hd:freeB ops d=true:=by kernel_rfl):a.tmps[d]?=a0.tmps[d]?:=h.old d hd
theorem DagAt.ol {γ:Γ} (h:DagAt Φ Ψ I ops a0 listed a γ w) (d:Nat) {v:Option Value} (e:a0.tmps[d]?=v) (hd:freeB ops d=true:=by kernel_rfl):a.tmps[d]?=v:=(h.old d hd).trans e
theorem dr (ho:ops[k]?=some o) (hd:o.dst=some d) (rk:∀ f,F.fn f) (hr:F.round=none)
  (h:∀ (a:Act) (γ:Γ) (w:World),DagIn Φ Ψ I md ops a0 o k a γ w->Region.wanted o (yielded ops a.tmps)=true/\∃v dT w',(execOp a.eval o).run P w=.ok (.value v) w'/\G γ w dT w'/\(∀ j,j≠k->Ψ j γ->Ψ j dT)/\Φ k v dT w'):nE Φ Ψ I G F n P md ops Q a0 k:=by
 have pp179a:=();exact pm179
theorem ls (ho:ops[k]?=some o) (rk:∀ f,F.fn f) (hr:F.round=none)
  (h:∀ (a:Act) (γ:Γ) (w:World),DagIn Φ Ψ I md ops a0 o k a γ w->Region.wanted o (yielded ops a.tmps)=true/\∃dT w',(execOp a.eval o).run P w=.ok .skip w'/\G γ w dT w'/\(∀ j,j≠k->Ψ j γ->Ψ j dT)/\Φ k undef dT w'):nE Φ Ψ I G F n P md ops Q a0 k:=by
 have pp179b:=();exact pm179
theorem BW (ho:ops[k]?=some o) (hd:o.dst=some d) (rk:∀ f,F.fn f) (hr:F.round=none) (pi:F.depth=none)
  (h:∀ (a:Act) (γ:Γ) (w:World),DagIn Φ Ψ I md ops a0 o k a γ w->Region.wanted o (yielded ops a.tmps)=true/\∃f args,(execOp a.eval o).run P w=.ok (.enter f args) w/\CallsIn F (n - 1) P f args w fun e w'=>∃v,e=.returned v/\∃dT,G γ w dT w'/\(∀ j,j≠k->Ψ j γ->Ψ j dT)/\Φ k v dT w'):nE Φ Ψ I G F n P md ops Q a0 k:=by
 have pp179c:=();exact pm179
theorem J9 {t:Array Value}:∀ (ds:List (Nat×Value)) (t0:Array Value),t.size=t0.size->(∀ p∈ds,t[p.1]?=some p.2)->(∀ d,d ∉ ds.map (·.1)->t[d]?=t0[d]?)->t=ds.foldl (fun t p=>t.setIfInBounds p.1 p.2) t0
 | [],t0,hs,_,ho=>by
  simp only[List.foldl_nil];exact Array.ext_getElem? (fun i=>ho i (by simp))
 | p :: ds,t0,hs,hi,ho=>by
  simp only[List.foldl_cons];refine J9 ds _ (by simpa using hs) (fun q hq=>hi q (eV _ hq)) (fun d hd=>?_)
  by_cases h:d=p.1
  ·subst h;rw[hi p fD];have:p.1<t0.size:=by rw[<-hs];exact (bz (hi p fD))
   simp[this]
  ·rw[ho d (by simp only[cK,cY,not_or];exact ⟨h,hd⟩)];simp[Ne.symm h]
theorem Nk {ops:Array Oper} {l:List Nat} (h:ops.toList.filterMap (·.dst)=l) (hd:d ∉ l):freeB ops d=true:=by
 refine List.all_eq_true.2 (fun o ho=>?_);simp only[bne_iff_ne,ne_eq];intro e;exact hd (h ▸ List.mem_filterMap.2 ⟨o,ho,e⟩)
theorem DagAt.act {γ:Γ} (h:DagAt Φ Ψ I ops a0 listed a γ w) (ds:List (Nat×Value)) (hd:ops.toList.filterMap (·.dst)=ds.map (·.1)) (hv:∀ p∈ds,a.tmps[p.1]?=some p.2):a={ tmps:=ds.foldl (fun t p=>t.setIfInBounds p.1 p.2) a0.tmps,defers:=a0.defers }:=by
 have h1:=J9 ds a0.tmps h.sz hv (fun d hn=>h.old d (Nk hd hn));have h2:=h.df;obtain ⟨t,df⟩:=a;simp only at h1 h2;rw[h1,h2]
end
end Go.Proofs.YtokemihbkeddoaaGreatDoor
namespace Go.Proofs.YtokemihbkeddoaaGreatDoor
open Go Go.RowKit Lib
set_option maxRecDepth 100000
set_option maxHeartbeats 64000000
variable {W W':World} {b o cap c j:Nat} {ok ok':Nat->Prop} {x:Value}
abbrev Str:=List UInt8
inductive Tm where
 | mk (v:Bool) (n:Str) (a:List Tm)
inductive Fm where
 | mk (op:Int) (n:Str) (a:List Tm) (s:List Fm)
def Tm.v:Tm->Bool | .mk v _ _=>v
def Tm.n:Tm->Str | .mk _ n _=>n
def Tm.a:Tm->List Tm | .mk _ _ a=>a
def Fm.op:Fm->Int | .mk o _ _ _=>o
def Fm.n:Fm->Str | .mk _ n _ _=>n
def Fm.a:Fm->List Tm | .mk _ _ a _=>a
def Fm.s:Fm->List Fm | .mk _ _ _ s=>s
theorem Tm.ind {p:Tm->Prop} (h:∀ v n a,(∀ t∈a,p t)->p (.mk v n a)):∀ t,p t:=by
 intro t;exact Tm.rec (motive_1:=p) (motive_2:=fun l=>∀ t∈l,p t) (fun v n a ih=>h v n a ih) (fun t ht=>by cases ht) (fun t l h1 h2 u hu=>by
  rcases cY.1 hu with rfl | hu
  ·exact h1
  ·exact h2 u hu) t
theorem Fm.ind {p:Fm->Prop} (h:∀ o n a s,(∀ t∈s,p t)->p (.mk o n a s)):∀ t,p t:=by
 intro t;exact Fm.rec (motive_1:=p) (motive_2:=fun l=>∀ t∈l,p t) (fun o n a s ih=>h o n a s ih) (fun t ht=>by cases ht) (fun t l h1 h2 u hu=>by
  rcases cY.1 hu with rfl | hu
  ·exact h1
  ·exact h2 u hu) t
mutual
def uL:Tm->Tm->Bool
 | .mk v n a,.mk v' n' a'=>(v == v' && n == n') && iE a a'
def iE:List Tm->List Tm->Bool
 | [],[]=>true
 | a :: xs,b :: ys=>uL a b && iE xs ys
 | _,_=>false
end
mutual
def uM:Fm->Fm->Bool
 | .mk o n a s,.mk o' n' a' s'=>(o == o' && n == n') && (iE a a' && m7 s s')
def m7:List Fm->List Fm->Bool
 | [],[]=>true
 | a :: xs,b :: ys=>uM a b && m7 xs ys
 | _,_=>false
end
/-! names -/
def Nl (c:UInt8):Bool:=97<=c && c<=122
def J' (c:UInt8):Bool:=65<=c && c<=90
def J_ (c:UInt8):Bool:=48<=c && c<=57
def Ka (c:UInt8):Bool:=Nl c || (J' c || J_ c)
def UK:List Str:=[[97,108,108],[115,111,109,101],[102,97,108,115,101],[110,101,120,116],[97,108,119,97,121,115],[117,110,116,105,108]]
def rn (f o:UInt8->Bool):Str->Bool
 | []=>false
 | c :: r=>decide (r.length<16) && (!UK.contains (c :: r) && (f c && r.all o))
def je (s:Str):Bool:=rn (fun c=>117<=c && c<=122) J_ s
def AJ (s:Str):Bool:=rn (fun c=>97<=c && c<=116) Ka s
def vW (s:Str):Bool:=rn J' Ka s
def dx (s:Str):Bool:=decide (s.length<=16) && (s.head? == some 63 && vW s.tail)
def cP (s:Str):Bool:=decide (s.length<=16) && (s.head? == some 63 && AJ s.tail)
def dC (s:Str):Bool:=dx s || cP s
def dV (s:Str):Bool:=s.head? == some 63 && je s.tail
def dc (s:Str):Str:=63 :: s
def ap (s:Str):Tm:=.mk true s []
/-! what is right -/
mutual
def nodesT:Tm->Nat | .mk _ _ a=>nodesTs a+1
def nodesTs:List Tm->Nat | []=>0 | t :: l=>nodesT t+nodesTs l
end
mutual
def nodesF:Fm->Nat | .mk _ _ a s=>nodesTs a+nodesFs s+1
def nodesFs:List Fm->Nat | []=>0 | t :: l=>nodesF t+nodesFs l
end
mutual
def dj:Tm->Nat | .mk _ _ a=>bH a+1
def bH:List Tm->Nat | []=>0 | t :: l=>max (dj t) (bH l)
end
mutual
def depthF:Fm->Nat | .mk _ _ a s=>max (bH a) (aY s)+1
def aY:List Fm->Nat | []=>0 | t :: l=>max (depthF t) (aY l)
end
mutual
def jZ (sc:Bool):Tm->Bool
 | .mk v n a=>if v then a.isEmpty && (je n || (sc && cP n)) else decide (a.length<=4) && (AJ n && eu sc a)
def eu (sc:Bool):List Tm->Bool | []=>true | t :: l=>jZ sc t && eu sc l
end
def rowOp (op:Int):Bool×Bool×Nat×Nat×Nat:=
 if op=1 then (true,true,1,4,0) else if op=2 then (true,true,0,0,0)
 else if op=8\/op=9 then (true,true,2,0,1)
 else if op=3\/(10<=op/\op<=13) then (true,true,0,0,1)
 else if (4<=op/\op<=7)\/op=14 then (true,true,0,0,2)
 else if op=15 then (false,true,3,0,0) else if op=16 then (false,true,3,2,0) else (false,false,0,0,0)
def pj (zbE:Nat) (s:Str):Bool:=match zbE with | 1=>vW s | 2=>je s | 3=>dx s | _=>s.isEmpty
def sT:List Tm->Bool
 | [x,y]=>x.v && (je x.n && (y.v && cP y.n))
 | _=>false
mutual
def okF (sc:Bool):Fm->Bool
 | .mk op n a s=>((rowOp op).1 || (sc && (rowOp op).2.1)) && ((pj (rowOp op).2.2.1 n && (decide (a.length<=(rowOp op).2.2.2.1) && s.length == (rowOp op).2.2.2.2)) && ((op != 16 || sT a) && (eu sc a && dD sc s)))
def dD (sc:Bool):List Fm->Bool | []=>true | t :: l=>okF sc t && dD sc l
end
def dv (f:Fm):Bool:=okF false f && (decide (nodesF f<=400) && decide (depthF f<=40))
def eL (f:Fm):Bool:=okF true f && (decide (nodesF f<=400) && decide (depthF f<=40))
def bU (op:Int):Bool:=op == 8 || op == 9
/-! free variables -/
mutual
def aQ:Tm->List Str | .mk v n a=>if v then n :: aC a else aC a
def aC:List Tm->List Str | []=>[] | t :: l=>aQ t ++ aC l
end
mutual
def bl (b:List Str):Fm->List Str
 | .mk op n a s=>(aC a).filter (fun x=>!b.contains x) ++ bP (if bU op then n :: b else b) s
def bP (b:List Str):List Fm->List Str | []=>[] | t :: l=>bl b t ++ bP b l
end
def wY (x:Str):List Str->List Str
 | []=>[x]
 | y :: l=>if x == y then y :: l else if Op.bytesLess x y then x :: y :: l else y :: wY x l
def dF (l:List Str):List Str:=l.foldr wY []
def AK:Nat->Nat->Str
 | 0,_=>[]
 | k+1,n=>if n<10 then [UInt8.ofNat (48+n)] else AK k (n / 10) ++ [UInt8.ofNat (48+n % 10)]
def gO (n:Nat):Str:=120 :: AK 20 n
def lu (t:List Str):Nat->Nat->Str
 | 0,n=>gO n
 | k+1,n=>if t.contains (gO n) then lu t k (n+1) else gO n
def dL (t:List Str):Str:=lu t t.length 1
mutual
def fR (f:Str->Option Tm):Tm->Tm
 | .mk v n a=>match (if v then f n else none) with | some u=>u | none=>.mk v n (ro f a)
def ro (f:Str->Option Tm):List Tm->List Tm | []=>[] | t :: l=>fR f t :: ro f l
end
def kB (x:Str) (u:Tm) (t:Tm):Tm:=fR (fun n=>if n == x then some u else none) t
def el (x:Str) (u:Tm) (l:List Tm):List Tm:=l.map (kB x u)
/-! matching -/
abbrev Sco:=List (Str×Str)
def eX (c:Sco) (x:Str):Option Str:=go c []
 where go:Sco->List Str->Option Str
  | [],_=>some x
  | (s,a) :: r,inn=>if a == x then (if inn.contains s then none else some (dc s)) else go r (s :: inn)
mutual
def j4 (c:Sco) (ins:List Str):Tm->Option Tm
 | .mk v n a=>if v then (if ins.contains n then some (ap n) else (eX c n).map ap) else (gP c ins a).map (Tm.mk false n)
def gP (c:Sco) (ins:List Str):List Tm->Option (List Tm)
 | []=>some []
 | t :: l=>match j4 c ins t,gP c ins l with | some u,some m=>some (u :: m) | _,_=>none
end
mutual
def ii (c:Sco) (ins:List Str):Fm->Option Fm
 | .mk op n a s=>match gP c ins a,iU c (if bU op then n :: ins else ins) s with | some a',some s'=>some (.mk op n a' s') | _,_=>none
def iU (c:Sco) (ins:List Str):List Fm->Option (List Fm)
 | []=>some []
 | t :: l=>match ii c ins t,iU c ins l with | some u,some m=>some (u :: m) | _,_=>none
end
def rL:Sco->Str->Str->Bool
 | [],x,y=>x == y
 | (s,a) :: r,x,y=>if s == x || a == y then s == x && a == y else rL r x y
mutual
def j9 (c:Sco):Tm->Tm->Bool
 | .mk v n a,.mk v' n' a'=>(v == v' && a.length == a'.length) && (if v && c.any (fun p=>p.1 == n || p.2 == n') then rL c n n' else n == n' && di c a a')
def di (c:Sco):List Tm->List Tm->Bool
 | t :: l,u :: m=>j9 c t u && di c l m
 | _,_=>true
end
mutual
def ea (c:Sco):Fm->Fm->Bool
 | .mk op n a s,.mk op' n' a' s'=>(op == op' && (a.length == a'.length && s.length == s'.length)) && ((n == n' || bU op) && (di c a a' && dI (if bU op then (n,n') :: c else c) s s'))
def dI (c:Sco):List Fm->List Fm->Bool
 | t :: l,u :: m=>ea c t u && dI c l m
 | _,_=>true
end
mutual
def Dw (x:Str):Tm->Nat | .mk v n a=>(if v && n == x then 1 else 0)+fE x a
def fE (x:Str):List Tm->Nat | []=>0 | t :: l=>Dw x t+fE x l
end
mutual
def gY (x:Str):Fm->Nat | .mk _ _ a s=>fE x a+jB x s
def jB (x:Str):List Fm->Nat | []=>0 | t :: l=>gY x t+jB x l
end
mutual
def m8 (x:Str):Tm->Option (List Nat) | .mk v n a=>if v && n == x then some [] else eB x a 0
def eB (x:Str):List Tm->Nat->Option (List Nat)
 | [],_=>none
 | t :: l,i=>match m8 x t with | some p=>some (i :: p) | none=>eB x l (i+1)
end
mutual
def kW (x:Str):Fm->Option (List Nat×List Nat)
 | .mk _ _ a s=>match eB x a 0 with | some p=>some ([],p) | none=>lH x s 0
def lH (x:Str):List Fm->Nat->Option (List Nat×List Nat)
 | [],_=>none
 | t :: l,i=>match kW x t with | some (p,q)=>some (i :: p,q) | none=>lH x l (i+1)
end
def lI:List Tm->List Nat->Option Tm
 | _,[]=>none
 | l,[i]=>l[i]?
 | l,i :: j :: r=>match l[i]? with | some t=>lI t.a (j :: r) | none=>none
def m_:Fm->List Nat->List Str->Option (Fm×List Str)
 | f,[],ins=>some (f,ins)
 | f,i :: r,ins=>match f.s[i]? with | some g=>m_ g r (if bU f.op then f.n :: ins else ins) | none=>none
def gZ (f im:Fm) (x:Str):Option Tm:=match kW x f with
 | none=>none
 | some (p,q)=>match m_ im p [] with
  | none=>none
  | some (g,ins)=>match lI g.a q with
   | none=>none
   | some t=>if (aQ t).any ins.contains then none else some t
def eQ:Nat->Str->Tm->Fm->Fm
 | 0,_,_,f=>f
 | k+1,x,u,.mk op n a s=>
  if bU op then match s with
   | g :: _=>if n == x || !(bl [] g).contains x then .mk op n a s
    else if (aQ u).contains n then
     .mk op (dL (bl [] g ++ aQ u)) (el x u a) [eQ k x u (eQ k n (ap (dL (bl [] g ++ aQ u))) g)]
    else .mk op n (el x u a) [eQ k x u g]
   | []=>.mk op n a s
  else .mk op n (el x u a) (s.map (eQ k x u))
def iI (x:Str) (u:Tm) (f:Fm):Fm:=eQ (depthF f) x u f
mutual
def aM:Tm->Tm | .mk v n a=>.mk v (if v && dV n then n.tail else n) (bS a)
def bS:List Tm->List Tm | []=>[] | t :: l=>aM t :: bS l
end
mutual
def bB:Fm->Fm | .mk op n a s=>.mk op n (bS a) (bT s)
def bT:List Fm->List Fm | []=>[] | t :: l=>bB t :: bT l
end
structure Bd where
 fs:List (Str×Fm)
 ts:List (Str×Tm)
def dz:List Str->Bool
 | x :: y :: l=>Op.bytesLess x y && dz (y :: l)
 | _=>true
def bL (b:Bd):Bool:=(b.fs.all (fun x=>dx x.1 && dv (bB x.2)) && b.ts.all (fun x=>cP x.1 && jZ false (aM x.2))) && (dz (b.fs.map (·.1)) && dz (b.ts.map (·.1)))
def getB {α:Type} (l:List (Str×α)) (x:Str):Option α:=match l with | []=>none | (y,v) :: r=>if y == x then some v else getB r x
def fj {α:Type} (x:Str) (v:α):List (Str×α)->List (Str×α)
 | []=>[(x,v)]
 | (y,u) :: r=>if Op.bytesLess x y then (x,v) :: (y,u) :: r else (y,u) :: fj x v r
mutual
def dw (sc:List Str) (k:List (Str×Tm)):Tm->Tm->Option (List (Str×Tm))
 | .mk v n a,.mk v' n' a'=>
  if v && dC n then match getB k n with
   | none=>some (fj n (.mk v' n' a') k)
   | some u=>if uL u (.mk v' n' a') then some k else none
  else if v && sc.contains n then (if uL (.mk v' n' a') (ap (dc n)) then some k else none)
  else if v != v' || (n != n' || a.length != a'.length) then none
  else b_ sc k a a'
def b_ (sc:List Str) (k:List (Str×Tm)):List Tm->List Tm->Option (List (Str×Tm))
 | t :: l,u :: m=>match dw sc k t u with | some k'=>b_ sc k' l m | none=>none
 | _,_=>some k
end
def dl (c:Sco) (k:List (Str×Tm)):List Tm->List Tm->Option (List (Str×Tm))
 | t :: l,u :: m=>match j4 c [] u with
  | none=>none
  | some im=>match dw (c.map (·.1)) k t im with | some k'=>dl c k' l m | none=>none
 | _,_=>some k
structure Pl where
 s:Fm
 f:Fm
 c:Sco
mutual
def bA (c:Sco):Fm->Fm->List Pl
 | .mk o n a s,.mk o' n' a' s'=>⟨.mk o n a s,.mk o' n' a' s',c⟩ :: aT (if bU o then (n,n') :: c else c) s s'
def aT (c:Sco):List Fm->List Fm->List Pl
 | t :: l,u :: m=>bA c t u ++ aT c l m
 | _,_=>[]
end
def bV (k:Bd) (p:Pl):Bd×Int:=
 if p.s.op=16 then (k,0)
 else if p.s.op=15 then match ii p.c [] p.f with
  | none=>(k,70)
  | some im=>match getB k.fs p.s.n with
   | none=>({ k with fs:=fj p.s.n im k.fs },0)
   | some g=>if ea [] g im then (k,0) else (k,70)
 else if p.s.op != p.f.op || (p.s.a.length != p.f.a.length || (p.s.s.length != p.f.s.length || (p.s.n != p.f.n && !bU p.s.op))) then (k,70)
 else match dl p.c k.ts p.s.a p.f.a with
  | none=>(k,70)
  | some ts=>({ k with ts:=ts },0)
def aX (f:Fm):Str×Str:=match f.a with | x :: y :: _=>(dc x.n,y.n) | _=>([],[])
def eF (k:Bd) (p:Pl):Bd×Int:=
 if p.s.op != 16 then (k,0)
 else match getB k.fs p.s.n with
  | none=>(k,71)
  | some f=>match ii p.c [] p.f with
   | none=>(k,70)
   | some im=>
    if gY (aX p.s).1 f=0 then (if ea [] f im then (k,0) else (k,70))
    else match (match getB k.ts (aX p.s).2 with | some t=>some (t,k.ts) | none=>(gZ f im (aX p.s).1).map fun t=>(t,fj (aX p.s).2 t k.ts)) with
     | none=>(k,70)
     | some (t,ts)=>if nodesF f+gY (aX p.s).1 f * (nodesT t - 1) != nodesF im then ({ k with ts:=ts },70)
      else if ea [] (iI (aX p.s).1 t f) im then ({ k with ts:=ts },0) else ({ k with ts:=ts },70)
def gg (step:Bd->Pl->Bd×Int):Bd->List Pl->Bd×Int
 | k,[]=>(k,0)
 | k,p :: l=>match step k p with | (k',e)=>if e=0 then gg step k' l else (k',e)
def d8 (step:Bd->Pl->Bd×Int):Nat->Bd->List (Fm×Fm)->Bd×Nat×Int
 | _,k,[]=>(k,0,0)
 | i,k,(s,f) :: l=>match gg step k (bA [] s f) with | (k',e)=>if e=0 then d8 step (i+1) k' l else (k',i,e)
def fH:Nat->List (Fm×Fm)->Option Nat
 | _,[]=>none
 | i,(s,f) :: l=>if eL s && dv f then fH (i+1) l else some i
def cd (l:List (Fm×Fm)) (b:Bd):Bd×Nat×Int:=
 if !bL b then (⟨[],[]⟩,0,2)
 else match fH 0 l with
  | some i=>(⟨[],[]⟩,i,2)
  | none=>match d8 bV 0 b l with
   | (k,i,e)=>if e≠0 then (⟨[],[]⟩,i,e) else match d8 eF 0 k l with
    | (k',i',e')=>if e'≠0 then (⟨[],[]⟩,i',e') else (k',0,0)
/-! filling -/
mutual
def jf (k:List (Str×Tm)):Tm->Bool
 | .mk v n a=>if v && dC n then (getB k n).isNone else mu k a
def mu (k:List (Str×Tm)):List Tm->Bool | []=>false | t :: l=>jf k t || mu k l
end
def iJ (k:Bd) (s:Fm):Bool:=
 if s.op != 15 && s.op != 16 then mu k.ts s.a
 else match getB k.fs s.n with
  | none=>true
  | some f=>if s.op=15 then false else (getB k.ts (aX s).2).isNone && decide (gY (aX s).1 f > 0)
def termOf (k:List (Str×Tm)) (n:Str):Tm:=match getB k n with | some t=>t | none=>.mk false [] []
def formOf (k:List (Str×Fm)) (n:Str):Fm:=match getB k n with | some t=>t | none=>.mk 0 [] [] []
mutual
def j_ (k:List (Str×Tm)):Tm->List Str
 | .mk v n a=>if v && dC n then (dF (aQ (termOf k n))).filter dV else dJ k a
def dJ (k:List (Str×Tm)):List Tm->List Str | []=>[] | t :: l=>j_ k t ++ dJ k l
end
def pk (k:Bd) (s:Fm):List Str:=
 if s.op=15 then (dF (bl [] (formOf k.fs s.n))).filter dV
 else if s.op=16 then
  let l:=(dF (bl [] (formOf k.fs s.n))).filter dV
  if !l.contains (aX s).1 then l else l.filter (fun x=>x != (aX s).1) ++ (dF (aQ (termOf k.ts (aX s).2))).filter dV
 else dJ k.ts s.a
def BZ (k:Bd) (p:Pl):Bool:=(pk k p.s).any fun x=>!(p.c.map (·.1)).contains x.tail
mutual
def pt (k:List (Str×Tm)):Tm->Nat
 | .mk v n a=>if v && dC n then nodesT (termOf k n) else eb k a+1
def eb (k:List (Str×Tm)):List Tm->Nat | []=>0 | t :: l=>pt k t+eb k l
end
def kX (k:Bd) (s:Fm):Nat:=
 if s.op=15 then nodesF (formOf k.fs s.n)
 else if s.op=16 then nodesF (formOf k.fs s.n)+gY (aX s).1 (formOf k.fs s.n) * (nodesT (termOf k.ts (aX s).2) - 1)
 else eb k.ts s.a+1
def pu (k:Bd) (s:Fm):Int:=
 if (bA [] s s).any (fun p=>iJ k p.s) then 6
 else if (bA [] s s).any (BZ k) then 72
 else if ((bA [] s s).map fun p=>kX k p.s).sum > 400 then 3 else 0
mutual
def cQ (k:List (Str×Tm)) (c:List Str):Tm->Tm
 | .mk v n a=>if v && dC n then termOf k n else if v && c.contains n then ap (dc n) else .mk v n (fk k c a)
def fk (k:List (Str×Tm)) (c:List Str):List Tm->List Tm | []=>[] | t :: l=>cQ k c t :: fk k c l
end
def nG (op:Int) (n:Str) (a:List Tm) (g:Fm):Fm:=
 let m:=if (bl [] g).contains n then dL (bl [] g) else n
 .mk op m a [iI (dc n) (ap m) g]
mutual
def cM (k:Bd) (c:List Str):Fm->Fm
 | .mk op n a s=>
  if op=15 then formOf k.fs n
  else if op=16 then (match a with
   | x :: y :: _=>if gY (dc x.n) (formOf k.fs n)=0 then formOf k.fs n else iI (dc x.n) (termOf k.ts y.n) (formOf k.fs n)
   | _=>.mk op n a s)
  else if bU op then (match fp k (n :: c) s with | g :: _=>nG op n (fk k.ts c a) g | []=>.mk op n a s)
  else .mk op n (fk k.ts c a) (fp k c s)
def fp (k:Bd) (c:List Str):List Fm->List Fm | []=>[] | t :: l=>cM k c t :: fp k c l
end
def j6:Fm:=.mk 0 [] [] []
def vX (s:Fm) (b:Bd):Fm×Int:=
 if !(eL s && bL b) then (j6,2)
 else if pu b s≠0 then (j6,pu b s)
 else if !dv (cM b [] s) then (j6,3) else (cM b [] s,0)
def Cells3 (W:World) (b o:Nat) (v:Value):Prop:=∃x0 x1 x2,v=.agg #[x0,x1,x2]/\W.cell? ⟨b,o,none⟩=some x0/\W.cell? ⟨b,o+1,none⟩=some x1/\W.cell? ⟨b,o+2,none⟩=some x2
def Cells4 (W:World) (b o:Nat) (v:Value):Prop:=∃x0 x1 x2 x3,v=.agg #[x0,x1,x2,x3]/\W.cell? ⟨b,o,none⟩=some x0/\W.cell? ⟨b,o+1,none⟩=some x1/\W.cell? ⟨b,o+2,none⟩=some x2/\W.cell? ⟨b,o+3,none⟩=some x3
theorem Cells3.kept {v:Value} (h:Cells3 W b o v) (hb:W'.heap[b]?=W.heap[b]?):Cells3 W' b o v:=by
 obtain ⟨x0,x1,x2,rfl,h0,h1,h2⟩:=h;exact ⟨x0,x1,x2,rfl,(World.cell?_of_block (a:=⟨b,o,none⟩) hb).trans h0,(World.cell?_of_block (a:=⟨b,o+1,none⟩) hb).trans h1,(World.cell?_of_block (a:=⟨b,o+2,none⟩) hb).trans h2⟩
theorem Cells4.kept {v:Value} (h:Cells4 W b o v) (hb:W'.heap[b]?=W.heap[b]?):Cells4 W' b o v:=by
 obtain ⟨x0,x1,x2,x3,rfl,h0,h1,h2,h3⟩:=h;exact ⟨x0,x1,x2,x3,rfl,(World.cell?_of_block (a:=⟨b,o,none⟩) hb).trans h0,(World.cell?_of_block (a:=⟨b,o+1,none⟩) hb).trans h1,(World.cell?_of_block (a:=⟨b,o+2,none⟩) hb).trans h2,(World.cell?_of_block (a:=⟨b,o+3,none⟩) hb).trans h3⟩
inductive TermV (ok:Nat->Prop) (W:World):Value->Tm->Prop
 | mk (v:Bool) (n:Str) (al:List Tm) (a:Option Addr) (cap:Nat) (vs:Nat->Value)
   (hs:al=[]\/∃b off,a=some ⟨b,off,none⟩/\ok b/\∀ j,j<al.length->Cells3 W b (off+j * 3) (vs j))
   (h:∀ j (hj:j<al.length),TermV ok W (vs j) al[j]):TermV ok W (.agg #[.bool v,.string ⟨n.toArray⟩,.slice a al.length cap]) (.mk v n al)
def TermsV (ok:Nat->Prop) (W:World) (v:Value) (l:List Tm):Prop:=∃(a:Option Addr) (cap:Nat) (vs:Nat->Value),v=.slice a l.length cap/\(l=[]\/∃b off,a=some ⟨b,off,none⟩/\ok b/\∀ j,j<l.length->Cells3 W b (off+j * 3) (vs j))/\∀ j (hj:j<l.length),TermV ok W (vs j) l[j]
theorem aV {v:Bool} {n:Str} {al:List Tm}:TermV ok W x (.mk v n al) ↔ ∃s,x=.agg #[.bool v,.string ⟨n.toArray⟩,s]/\TermsV ok W s al:=by
 constructor
 ·intro h
  cases h with
  | mk _ _ _ a cap vs hs h=>exact ⟨_,rfl,a,cap,vs,rfl,hs,h⟩
 ·rintro ⟨s,rfl,a,cap,vs,rfl,hs,h⟩;exact .mk v n al a cap vs hs h
inductive FormV (ok:Nat->Prop) (W:World):Value->Fm->Prop
 | mk (op:Int) (n:Str) (al:List Tm) (ss:List Fm) (va:Value) (a:Option Addr) (cap:Nat) (vs:Nat->Value) (ha:TermsV ok W va al)
   (hs:ss=[]\/∃b off,a=some ⟨b,off,none⟩/\ok b/\∀ j,j<ss.length->Cells4 W b (off+j * 4) (vs j))
   (h:∀ j (hj:j<ss.length),FormV ok W (vs j) ss[j]):FormV ok W (.agg #[.int .u8 op,.string ⟨n.toArray⟩,va,.slice a ss.length cap]) (.mk op n al ss)
def FormsV (ok:Nat->Prop) (W:World) (v:Value) (l:List Fm):Prop:=∃(a:Option Addr) (cap:Nat) (vs:Nat->Value),v=.slice a l.length cap/\(l=[]\/∃b off,a=some ⟨b,off,none⟩/\ok b/\∀ j,j<l.length->Cells4 W b (off+j * 4) (vs j))/\∀ j (hj:j<l.length),FormV ok W (vs j) l[j]
theorem aW {op:Int} {n:Str} {al:List Tm} {ss:List Fm}:FormV ok W x (.mk op n al ss) ↔ ∃va s,x=.agg #[.int .u8 op,.string ⟨n.toArray⟩,va,s]/\TermsV ok W va al/\FormsV ok W s ss:=by
 constructor
 ·intro h
  cases h with
  | mk _ _ _ _ va a cap vs ha hs h=>exact ⟨va,_,rfl,ha,a,cap,vs,rfl,hs,h⟩
 ·rintro ⟨va,s,rfl,ha,a,cap,vs,rfl,hs,h⟩;exact .mk op n al ss va a cap vs ha hs h
def dW (ok ok':Nat->Prop) (W W':World):Prop:=∀ b,ok b->b<W.heap.size->ok' b/\W'.heap[b]?=W.heap[b]?
theorem B0 {v:Value} (h:Cells3 W b o v):b<W.heap.size:=by
 obtain ⟨_,_,_,_,h0,_⟩:=h;exact World.block_lt_of_cell? W _ h0
theorem B4 {v:Value} (h:Cells4 W b o v):b<W.heap.size:=by
 obtain ⟨_,_,_,_,_,h0,_⟩:=h;exact World.block_lt_of_cell? W _ h0
theorem TermV.move (hb:dW ok ok' W W') {v:Value} {t:Tm} (h:TermV ok W v t):TermV ok' W' v t:=by
 induction h with
 | mk v n al a cap vs hs _ ih=>
  refine .mk v n al a cap vs ?_ ih;have pp287a:=();exact pm287
theorem TermsV.move (hb:dW ok ok' W W') {v:Value} {l:List Tm} (h:TermsV ok W v l):TermsV ok' W' v l:=by
 have pp217:=();exact pm217
theorem FormV.move (hb:dW ok ok' W W') {v:Value} {t:Fm} (h:FormV ok W v t):FormV ok' W' v t:=by
 induction h with
 | mk op n al ss va a cap vs ha hs _ ih=>
  refine .mk op n al ss va a cap vs (ha.move hb) ?_ ih;have pp287b:=();exact pm287
theorem FormsV.move (hb:dW ok ok' W W') {v:Value} {l:List Fm} (h:FormsV ok W v l):FormsV ok' W' v l:=by
 exact pm217
theorem dm (hb:Below W.heap.size W W'):dW ok ok W W':=fun b h hlt=>⟨h,hb.block b hlt⟩
theorem uN (hb:Below W.heap.size W W'):dW ok (fun _=>True) W W':=fun b _ hlt=>⟨trivial,hb.block b hlt⟩
theorem TermV.later {v:Value} {t:Tm} (h:TermV ok W v t) (hb:Below W.heap.size W W'):TermV ok W' v t:=h.move (dm hb)
theorem TermsV.later {v:Value} {t:List Tm} (h:TermsV ok W v t) (hb:Below W.heap.size W W'):TermsV ok W' v t:=h.move (dm hb)
theorem FormV.later {v:Value} {t:Fm} (h:FormV ok W v t) (hb:Below W.heap.size W W'):FormV ok W' v t:=h.move (dm hb)
theorem FormsV.later {v:Value} {t:List Fm} (h:FormsV ok W v t) (hb:Below W.heap.size W W'):FormsV ok W' v t:=h.move (dm hb)
theorem TermV.any {v:Value} {t:Tm} (h:TermV ok W v t):TermV (fun _=>True) W v t:=h.move (fun _ _ _=>⟨trivial,rfl⟩)
theorem TermsV.any {v:Value} {t:List Tm} (h:TermsV ok W v t):TermsV (fun _=>True) W v t:=h.move (fun _ _ _=>⟨trivial,rfl⟩)
theorem FormV.any {v:Value} {t:Fm} (h:FormV ok W v t):FormV (fun _=>True) W v t:=h.move (fun _ _ _=>⟨trivial,rfl⟩)
theorem FormsV.any {v:Value} {t:List Fm} (h:FormsV ok W v t):FormsV (fun _=>True) W v t:=h.move (fun _ _ _=>⟨trivial,rfl⟩)
theorem cf {a:Option Addr}:TermsV ok W (.slice a 0 cap) []:=⟨a,cap,fun _=>.bool false,rfl,.inl rfl,fun j hj=>by simp at hj⟩
theorem gh {a:Option Addr}:FormsV ok W (.slice a 0 cap) []:=⟨a,cap,fun _=>.bool false,rfl,.inl rfl,fun j hj=>by simp at hj⟩
structure TQ where
 v:Bool
 n:ByteArray
 a:Option Addr
 l:Nat
 c:Nat
def TQ.val (q:TQ):Value:=.agg #[.bool q.v,.string q.n,.slice q.a q.l q.c]
structure FQ where
 o:Int
 n:ByteArray
 a:Option Addr
 l:Nat
 c:Nat
 b:Option Addr
 m:Nat
 e:Nat
def FQ.val (q:FQ):Value:=.agg #[.int .u8 q.o,.string q.n,.slice q.a q.l q.c,.slice q.b q.m q.e]
theorem TermV.form {t:Tm} (h:TermV ok W x t):∃q:TQ,x=q.val/\q.v=t.v/\q.n=⟨t.n.toArray⟩/\q.l=t.a.length/\TermsV ok W (.slice q.a q.l q.c) t.a:=by
 cases h with
 | mk v n al a cap vs hs h=>exact ⟨⟨v,_,a,al.length,cap⟩,rfl,rfl,rfl,rfl,a,cap,vs,rfl,hs,h⟩
theorem FormV.form {t:Fm} (h:FormV ok W x t):∃q:FQ,x=q.val/\q.o=t.op/\q.n=⟨t.n.toArray⟩/\q.l=t.a.length/\q.m=t.s.length/\TermsV ok W (.slice q.a q.l q.c) t.a/\FormsV ok W (.slice q.b q.m q.e) t.s:=by
 cases h with
 | mk op n al ss va a cap vs ha hs h=>
  obtain ⟨a',cap',vs',rfl,YY,h'⟩:=ha;exact ⟨⟨op,_,a',al.length,cap',a,ss.length,cap⟩,rfl,rfl,rfl,rfl,rfl,⟨a',cap',vs',rfl,YY,h'⟩,a,cap,vs,rfl,hs,h⟩
theorem TermsV.get {a:Option Addr} {n:Nat} {l:List Tm} (h:TermsV ok W (.slice a n c) l) (hj:j<l.length) :
  ∃b off q,a=some ⟨b,off,none⟩/\ok b/\TermV ok W (TQ.val q) l[j]/\W.cell? ⟨b,off+j * 3,none⟩=some (.bool q.v)/\W.cell? ⟨b,off+j * 3+1,none⟩=some (.string q.n)/\W.cell? ⟨b,off+j * 3+2,none⟩=some (.slice q.a q.l q.c):=by
 obtain ⟨a',cap,vs,hv,hs,ht⟩:=h;have pp120a:=();exact pm120
theorem FormsV.get {a:Option Addr} {n:Nat} {l:List Fm} (h:FormsV ok W (.slice a n c) l) (hj:j<l.length) :
  ∃b off q,a=some ⟨b,off,none⟩/\ok b/\FormV ok W (FQ.val q) l[j]/\W.cell? ⟨b,off+j * 4,none⟩=some (.int .u8 q.o)/\W.cell? ⟨b,off+j * 4+1,none⟩=some (.string q.n)/\W.cell? ⟨b,off+j * 4+2,none⟩=some (.slice q.a q.l q.c)/\W.cell? ⟨b,off+j * 4+3,none⟩=some (.slice q.b q.m q.e):=by
 obtain ⟨a',cap,vs,hv,hs,ht⟩:=h;have pp120b:=();exact pm120
theorem TermsV.len {a:Option Addr} {n:Nat} {l:List Tm} (h:TermsV ok W (.slice a n c) l):n=l.length:=by
 obtain ⟨_,_,_,hv,_⟩:=h;injection hv
theorem FormsV.len {a:Option Addr} {n:Nat} {l:List Fm} (h:FormsV ok W (.slice a n c) l):n=l.length:=by
 obtain ⟨_,_,_,hv,_⟩:=h;injection hv
theorem TermsV.slice {v:Value} {l:List Tm} (h:TermsV ok W v l):∃a c,v=.slice a l.length c:=by obtain ⟨a,c,_,hv,_⟩:=h;exact ⟨a,c,hv⟩
theorem FormsV.slice {v:Value} {l:List Fm} (h:FormsV ok W v l):∃a c,v=.slice a l.length c:=by obtain ⟨a,c,_,hv,_⟩:=h;exact ⟨a,c,hv⟩
def cz (l:List (Fm×Fm)):List Fm:=l.flatMap fun x=>[x.1,x.2]
def FBindsV (ok:Nat->Prop) (W:World) (v:Value) (l:List (Str×Fm)):Prop:=∃(a:Option Addr) (cap:Nat) (qs:Nat->FQ),v=.slice a l.length cap/\l.length<=cap ∧
 (l=[]\/∃b off,a=some ⟨b,off,none⟩/\ok b/\∀ j (h:j<l.length),W.cell? ⟨b,off+j * 5,none⟩=some (.string ⟨l[j].1.toArray⟩)/\W.cell? ⟨b,off+j * 5+1,none⟩=some (.int .u8 (qs j).o)/\W.cell? ⟨b,off+j * 5+2,none⟩=some (.string (qs j).n)/\W.cell? ⟨b,off+j * 5+3,none⟩=some (.slice (qs j).a (qs j).l (qs j).c)/\W.cell? ⟨b,off+j * 5+4,none⟩=some (.slice (qs j).b (qs j).m (qs j).e)) ∧
 ∀ j (h:j<l.length),FormV ok W (qs j).val l[j].2
def TBindsV (ok:Nat->Prop) (W:World) (v:Value) (l:List (Str×Tm)):Prop:=∃(a:Option Addr) (cap:Nat) (qs:Nat->TQ),v=.slice a l.length cap/\l.length<=cap ∧
 (l=[]\/∃b off,a=some ⟨b,off,none⟩/\ok b/\∀ j (h:j<l.length),W.cell? ⟨b,off+j * 4,none⟩=some (.string ⟨l[j].1.toArray⟩)/\W.cell? ⟨b,off+j * 4+1,none⟩=some (.bool (qs j).v)/\W.cell? ⟨b,off+j * 4+2,none⟩=some (.string (qs j).n)/\W.cell? ⟨b,off+j * 4+3,none⟩=some (.slice (qs j).a (qs j).l (qs j).c)) ∧
 ∀ j (h:j<l.length),TermV ok W (qs j).val l[j].2
def SPairsV (ok:Nat->Prop) (W:World) (v:Value) (l:List (Fm×Fm)):Prop:=∃(a:Option Addr) (cap:Nat) (ps qs:Nat->FQ),v=.slice a l.length cap/\l.length<=cap ∧
 (l=[]\/∃b off,a=some ⟨b,off,none⟩/\ok b/\∀ j (h:j<l.length),W.cell? ⟨b,off+j * 8,none⟩=some (.int .u8 (ps j).o)/\W.cell? ⟨b,off+j * 8+1,none⟩=some (.string (ps j).n)/\W.cell? ⟨b,off+j * 8+2,none⟩=some (.slice (ps j).a (ps j).l (ps j).c)/\W.cell? ⟨b,off+j * 8+3,none⟩=some (.slice (ps j).b (ps j).m (ps j).e) ∧
   W.cell? ⟨b,off+j * 8+4,none⟩=some (.int .u8 (qs j).o)/\W.cell? ⟨b,off+j * 8+5,none⟩=some (.string (qs j).n)/\W.cell? ⟨b,off+j * 8+6,none⟩=some (.slice (qs j).a (qs j).l (qs j).c)/\W.cell? ⟨b,off+j * 8+7,none⟩=some (.slice (qs j).b (qs j).m (qs j).e)) ∧
 ∀ j (h:j<l.length),FormV ok W (ps j).val l[j].1/\FormV ok W (qs j).val l[j].2
structure BQ where
 a:Option Addr
 l:Nat
 c:Nat
 b:Option Addr
 m:Nat
 e:Nat
def BQ.val (q:BQ):Value:=.agg #[.slice q.a q.l q.c,.slice q.b q.m q.e]
def BindV (ok:Nat->Prop) (W:World) (q:BQ) (b:Bd):Prop:=FBindsV ok W (.slice q.a q.l q.c) b.fs/\TBindsV ok W (.slice q.b q.m q.e) b.ts
theorem cX {v:Value} (hb:W'.heap[b]?=W.heap[b]?) (h:W.cell? ⟨b,o,none⟩=some v):W'.cell? ⟨b,o,none⟩=some v:=(World.cell?_of_block (a:=⟨b,o,none⟩) hb).trans h
theorem FBindsV.move (hb:dW ok ok' W W') {v:Value} {l:List (Str×Fm)} (h:FBindsV ok W v l):FBindsV ok' W' v l:=by
 have pp198:=();exact pm198
theorem TBindsV.move (hb:dW ok ok' W W') {v:Value} {l:List (Str×Tm)} (h:TBindsV ok W v l):TBindsV ok' W' v l:=by
 exact pm198
theorem SPairsV.move (hb:dW ok ok' W W') {v:Value} {l:List (Fm×Fm)} (h:SPairsV ok W v l):SPairsV ok' W' v l:=by
 obtain ⟨a,cap,ps,qs,hv,hc,hs,hf⟩:=h;refine ⟨a,cap,ps,qs,hv,hc,?_,fun j hj=>⟨(hf j hj).1.move hb,(hf j hj).2.move hb⟩⟩;rcases hs with hs | ⟨b,off,ha,hok,hcl⟩
 ·exact .inl hs
 ·by_cases h0:l=[]
  ·exact .inl h0
  ·have hk:=hb b hok (World.block_lt_of_cell? W _ (hcl 0 (iD.2 h0)).1);refine .inr ⟨b,off,ha,hk.1,fun j hj=>?_⟩;obtain ⟨h0,h1,h2,h3,h4,h5,h6,h7⟩:=hcl j hj;exact ⟨cX hk.2 h0,cX hk.2 h1,cX hk.2 h2,cX hk.2 h3,cX hk.2 h4,cX hk.2 h5,cX hk.2 h6,cX hk.2 h7⟩
theorem BindV.move (hb:dW ok ok' W W') {q:BQ} {b:Bd} (h:BindV ok W q b):BindV ok' W' q b:=⟨h.1.move hb,h.2.move hb⟩
theorem FBindsV.later {v:Value} {l:List (Str×Fm)} (h:FBindsV ok W v l) (hb:Below W.heap.size W W'):FBindsV ok W' v l:=h.move (dm hb)
theorem TBindsV.later {v:Value} {l:List (Str×Tm)} (h:TBindsV ok W v l) (hb:Below W.heap.size W W'):TBindsV ok W' v l:=h.move (dm hb)
theorem SPairsV.later {v:Value} {l:List (Fm×Fm)} (h:SPairsV ok W v l) (hb:Below W.heap.size W W'):SPairsV ok W' v l:=h.move (dm hb)
theorem BindV.later {q:BQ} {b:Bd} (h:BindV ok W q b) (hb:Below W.heap.size W W'):BindV ok W' q b:=h.move (dm hb)
theorem FBindsV.len {a:Option Addr} {n:Nat} {l:List (Str×Fm)} (h:FBindsV ok W (.slice a n c) l):n=l.length:=by
 obtain ⟨_,_,_,hv,_⟩:=h;injection hv
theorem TBindsV.len {a:Option Addr} {n:Nat} {l:List (Str×Tm)} (h:TBindsV ok W (.slice a n c) l):n=l.length:=by
 obtain ⟨_,_,_,hv,_⟩:=h;injection hv
theorem SPairsV.len {a:Option Addr} {n:Nat} {l:List (Fm×Fm)} (h:SPairsV ok W (.slice a n c) l):n=l.length:=by
 obtain ⟨_,_,_,_,hv,_⟩:=h;injection hv
theorem FBindsV.slice {v:Value} {l:List (Str×Fm)} (h:FBindsV ok W v l):∃a c,v=.slice a l.length c:=by obtain ⟨a,c,_,hv,_⟩:=h;exact ⟨a,c,hv⟩
theorem TBindsV.slice {v:Value} {l:List (Str×Tm)} (h:TBindsV ok W v l):∃a c,v=.slice a l.length c:=by obtain ⟨a,c,_,hv,_⟩:=h;exact ⟨a,c,hv⟩
theorem SPairsV.slice {v:Value} {l:List (Fm×Fm)} (h:SPairsV ok W v l):∃a c,v=.slice a l.length c:=by obtain ⟨a,c,_,_,hv,_⟩:=h;exact ⟨a,c,hv⟩
theorem FBindsV.get {a:Option Addr} {n:Nat} {l:List (Str×Fm)} (h:FBindsV ok W (.slice a n c) l) (hj:j<l.length) :
  ∃b off,∃q:FQ,a=some ⟨b,off,none⟩/\ok b/\FormV ok W q.val l[j].2/\W.cell? ⟨b,off+j * 5,none⟩=some (.string ⟨l[j].1.toArray⟩)/\W.cell? ⟨b,off+j * 5+1,none⟩=some (.int .u8 q.o)/\W.cell? ⟨b,off+j * 5+2,none⟩=some (.string q.n)/\W.cell? ⟨b,off+j * 5+3,none⟩=some (.slice q.a q.l q.c)/\W.cell? ⟨b,off+j * 5+4,none⟩=some (.slice q.b q.m q.e):=by
 obtain ⟨a',cap,qs,hv,_,hs,hf⟩:=h;have pp120c:=();exact pm120
theorem TBindsV.get {a:Option Addr} {n:Nat} {l:List (Str×Tm)} (h:TBindsV ok W (.slice a n c) l) (hj:j<l.length) :
  ∃b off,∃q:TQ,a=some ⟨b,off,none⟩/\ok b/\TermV ok W q.val l[j].2/\W.cell? ⟨b,off+j * 4,none⟩=some (.string ⟨l[j].1.toArray⟩)/\W.cell? ⟨b,off+j * 4+1,none⟩=some (.bool q.v)/\W.cell? ⟨b,off+j * 4+2,none⟩=some (.string q.n)/\W.cell? ⟨b,off+j * 4+3,none⟩=some (.slice q.a q.l q.c):=by
 obtain ⟨a',cap,qs,hv,_,hs,hf⟩:=h;have pp120c:=();exact pm120
theorem SPairsV.get {a:Option Addr} {n:Nat} {l:List (Fm×Fm)} (h:SPairsV ok W (.slice a n c) l) (hj:j<l.length) :
  ∃b off,∃p q:FQ,a=some ⟨b,off,none⟩/\ok b/\FormV ok W p.val l[j].1/\FormV ok W q.val l[j].2/\W.cell? ⟨b,off+j * 8,none⟩=some (.int .u8 p.o)/\W.cell? ⟨b,off+j * 8+1,none⟩=some (.string p.n)/\W.cell? ⟨b,off+j * 8+2,none⟩=some (.slice p.a p.l p.c)/\W.cell? ⟨b,off+j * 8+3,none⟩=some (.slice p.b p.m p.e) ∧
   W.cell? ⟨b,off+j * 8+4,none⟩=some (.int .u8 q.o)/\W.cell? ⟨b,off+j * 8+5,none⟩=some (.string q.n)/\W.cell? ⟨b,off+j * 8+6,none⟩=some (.slice q.a q.l q.c)/\W.cell? ⟨b,off+j * 8+7,none⟩=some (.slice q.b q.m q.e):=by
 obtain ⟨a',cap,ps,qs,hv,_,hs,hf⟩:=h;exact pm120
