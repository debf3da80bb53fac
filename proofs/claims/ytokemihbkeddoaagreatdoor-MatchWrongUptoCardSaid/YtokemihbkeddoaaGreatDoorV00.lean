/-
Short names for much used terms (compact.py puts them in).
-/
import Derived.Test.YtokemihbkeddoaaGreatDoorProg
import Derived.Test.YtokemihbkeddoaaGreatDoorW00
import Derived.Test.YtokemihbkeddoaaGreatDoorW01
import Derived.Test.YtokemihbkeddoaaGreatDoorW02
namespace Go.Proofs.YtokemihbkeddoaaGreatDoor
open Go Go.RowKit Lib
set_option maxRecDepth 100000
set_option maxHeartbeats 64000000
variable {α:Type} {p:Prop} {P:Program} {args:Array Value} {R:Ending->World->Prop}
/-! Short names for theorems of the library. -/
theorem ae:type_of% @Bool.and_eq_true:=@Bool.and_eq_true
theorem az:type_of% @List.getElem_mem:=@List.getElem_mem
theorem ak:type_of% @Below.refl:=@Below.refl
theorem bN:type_of% @Nat.lt_of_lt_of_le:=@Nat.lt_of_lt_of_le
theorem aQ:type_of% @Nat.le_trans:=@Nat.le_trans
theorem aF:type_of% @Nat.le_refl:=@Nat.le_refl
theorem bc:type_of% @Nat.zero_le:=@Nat.zero_le
theorem bK:type_of% @Below.heap_alloc:=@Below.heap_alloc
theorem d9:type_of% @Below.heap_setCell:=@Below.heap_setCell
theorem bZ:type_of% @Bool.false_eq_true:=@Bool.false_eq_true
theorem fF:type_of% @List.length_cons:=@List.length_cons
theorem fN:type_of% @List.drop_eq_getElem_cons:=@List.drop_eq_getElem_cons
theorem gy:type_of% @List.getElem?_eq_getElem:=@List.getElem?_eq_getElem
theorem cO:type_of% @List.take_length:=@List.take_length
theorem di:type_of% @List.length_append:=@List.length_append
theorem fO:type_of% @World.alloc_heap_new:=@World.alloc_heap_new
theorem dX:type_of% @List.length_take:=@List.length_take
theorem cU:type_of% @List.map_cons:=@List.map_cons
theorem ie:type_of% @List.length_pos_iff:=@List.length_pos_iff
theorem jj:type_of% @List.eq_nil_of_length_eq_zero:=@List.eq_nil_of_length_eq_zero
theorem gz:type_of% @Option.some.injEq:=@Option.some.injEq
theorem dP:type_of% @Bool.true_and:=@Bool.true_and
theorem jk:type_of% @List.drop_eq_nil_of_le:=@List.drop_eq_nil_of_le
theorem iU:type_of% @List.mem_cons_of_mem:=@List.mem_cons_of_mem
theorem bw:type_of% @decide_eq_true_eq:=@decide_eq_true_eq
theorem aL:type_of% @callsIn_wide:=@callsIn_wide
theorem bI:type_of% @bodyPost_ret:=@bodyPost_ret
theorem ii:type_of% @List.take_of_length_le:=@List.take_of_length_le
theorem dw:type_of% @List.mem_cons:=@List.mem_cons
theorem ij:type_of% @List.mem_cons_self:=@List.mem_cons_self
theorem cr:type_of% @List.cons.injEq:=@List.cons.injEq
theorem mQ:type_of% @List.take_succ_eq_append_getElem:=@List.take_succ_eq_append_getElem
theorem cA:type_of% @Value.agg.injEq:=@Value.agg.injEq
theorem fY:type_of% @beq_iff_eq:=@beq_iff_eq
theorem bA:type_of% @wpIn_seq_k:=@wpIn_seq_k
theorem ik:type_of% @IntWalk.i64_in:=@IntWalk.i64_in
theorem aD:type_of% @if_neg:=@if_neg
theorem aX:type_of% @if_pos:=@if_pos
theorem nJ:type_of% @World.putObj_heap_other:=@World.putObj_heap_other
theorem rU:type_of% @List.nil_append:=@List.nil_append
theorem nK:type_of% @List.cons_append:=@List.cons_append
theorem gA:type_of% @Bool.eq_iff_iff:=@Bool.eq_iff_iff
theorem li:(∀ l:List α,l.toArray.size=l.length)/\(∀ (a:α) (l:List α),(a :: l).length=l.length+1)/\(([]:List α).length=0)/\(∀ (n:Nat) (a:α),Array.replicate (n+1) a=(Array.replicate n a).push a)/\(∀ a:α,Array.replicate 0 a=#[])/\(∀ (l:List α) (a:α),l.toArray.push a=(l ++ [a]).toArray)/\(∀ l m:List α,l.toArray ++ m.toArray=(l ++ m).toArray)/\(∀ l:List α,[] ++ l=l)/\(∀ (a:α) (l m:List α),(a :: l) ++ m=a :: (l ++ m)):=by
  refine ⟨?_,?_,?_,?_,?_,?_,?_,?_,?_⟩ <;> intros <;> simp[Array.replicate_succ]
theorem bn {l:Array α} {i:Nat} {a:α} (h:l[i]?=some a):i<l.size:=(Array.getElem?_eq_some_iff.1 h).1
theorem cQ {w:World} {o:Obj}:Below w.heap.size w (w.alloc o):=(ak _ _).alloc (aF _) _
theorem lsa (l:List α) (i:Nat) (a:α):l.toArray.setIfInBounds i a=(l.set i a).toArray:=by simp
theorem lsb (a b:α) (l:List α):(a :: l).set 0 b=b :: l:=rfl
theorem lsc (a b:α) (l:List α) (n:Nat):(a :: l).set (n+1) b=a :: l.set n b:=rfl
def Hd (p:Prop):Prop:=p
theorem Hd.o (h:Hd p):p:=h
theorem ab (h:p):Hd p:=h
theorem ao {α:Sort _} (a:α):∃x,x=a:=⟨a,rfl⟩
theorem ct {a b c:Nat} (h:b=c) (l:a<b):a<c:=h ▸ l
theorem bT {W w:World} {b:Nat} {o:Obj} (hb:Below W.heap.size W w) (h:W.heap[b]?=some o):w.heap[b]?=some o:=(hb.block b (bn h)).trans h
theorem ag:(∀ (l:List α) (i:Nat) (a:α),l.toArray.setIfInBounds i a=(l.set i a).toArray)/\(∀ (a b:α) (l:List α),(a :: l).set 0 b=b :: l)/\(∀ (a b:α) (l:List α) (n:Nat),(a :: l).set (n+1) b=a :: l.set n b):=⟨lsa,lsb,lsc⟩
section
variable {a b c d e f g h i j k l m n:Prop}
theorem an3 (A:a) (B:b) (C:c):a/\b/\c:=⟨A,B,C⟩
theorem Si (A:a) (B:b) (C:c) (D:d) (E:e) (F:f) (G:g):a/\b/\c/\d/\e/\f/\g:=⟨A,B,C,D,E,F,G⟩
theorem an8 (A:a) (B:b) (C:c) (D:d) (E:e) (F:f) (G:g) (H:h):a/\b/\c/\d/\e/\f/\g/\h:=⟨A,B,C,D,E,F,G,H⟩
theorem Z5 (A:a) (B:b) (C:c) (D:d) (E:e) (F:f) (G:g) (H:h) (I:i) (J:j):a/\b/\c/\d/\e/\f/\g/\h/\i/\j:=⟨A,B,C,D,E,F,G,H,I,J⟩
theorem aC (A:a) (B:b):Hd (a/\b):=⟨A,B⟩
theorem bE (A:a) (B:b) (C:c):Hd (a/\b/\c):=⟨A,B,C⟩
theorem cC (A:a) (B:b) (C:c) (D:d):Hd (a/\b/\c/\d):=⟨A,B,C,D⟩
theorem fA (A:a) (B:b) (C:c) (D:d) (E:e):Hd (a/\b/\c/\d/\e):=⟨A,B,C,D,E⟩
theorem rK (A:a) (B:b) (C:c) (D:d) (E:e) (F:f):Hd (a/\b/\c/\d/\e/\f):=⟨A,B,C,D,E,F⟩
theorem aZ (A:a) (B:b):Hd a/\Hd b:=⟨A,B⟩
theorem cD (A:a) (B:b) (C:c):Hd a/\Hd b/\Hd c:=⟨A,B,C⟩
theorem eR (A:a) (B:b) (C:c) (D:d):Hd a/\Hd b/\Hd c/\Hd d:=⟨A,B,C,D⟩
theorem vK (A:a) (B:b) (C:c) (D:d) (E:e):Hd a/\Hd b/\Hd c/\Hd d/\Hd e:=⟨A,B,C,D,E⟩
theorem Sj (A:a) (B:b) (C:c) (D:d) (E:e) (F:f):Hd a/\Hd b/\Hd c/\Hd d/\Hd e/\Hd f:=⟨A,B,C,D,E,F⟩
theorem VQ (A:a) (B:b) (C:c) (D:d) (E:e) (F:f) (G:g):Hd a/\Hd b/\Hd c/\Hd d/\Hd e/\Hd f/\Hd g:=⟨A,B,C,D,E,F,G⟩
theorem VR (A:a) (B:b) (C:c) (D:d) (E:e) (F:f) (G:g) (H:h):Hd a/\Hd b/\Hd c/\Hd d/\Hd e/\Hd f/\Hd g/\Hd h:=⟨A,B,C,D,E,F,G,H⟩
theorem OG (A:a) (B:b) (C:c) (D:d) (E:e) (F:f) (G:g) (H:h) (I:i) (J:j):Hd a/\Hd b/\Hd c/\Hd d/\Hd e/\Hd f/\Hd g/\Hd h/\Hd i/\Hd j:=⟨A,B,C,D,E,F,G,H,I,J⟩
end
theorem jl {w:World} {o:Obj} {k:Nat} (h:k=w.heap.size):(w.alloc o).heap[k]?=some o:=by rw[h];exact fO w o
section
variable {w W:World} {o1 o2 o3 o4 o5:Obj}
theorem cX (h:W=w.alloc o1):Below w.heap.size w W:=by rw[h];exact cQ
theorem bX (h:W=w.alloc o1):W.heap[w.heap.size]?=some o1:=by rw[h];exact jl (by simp)
theorem DY (h:W=w.alloc o1):W.heap.size=w.heap.size+1:=by rw[h];simp
theorem lB (h:W=(w.alloc o1).alloc o2):Below w.heap.size w W:=by rw[h];exact cQ.alloc (by simp <;> omega) _
theorem rV (h:W=(w.alloc o1).alloc o2):W.heap[w.heap.size]?=some o1:=by rw[h];exact (bK _ _ _ (by simp <;> omega)).trans (jl (by simp))
theorem jC (h:W=(w.alloc o1).alloc o2):W.heap[w.heap.size+1]?=some o2:=by rw[h];exact jl (by simp)
theorem xV (h:W=(w.alloc o1).alloc o2):W.heap.size=w.heap.size+2:=by rw[h];simp
theorem xW (h:W=((w.alloc o1).alloc o2).alloc o3):Below w.heap.size w W:=by rw[h];exact (cQ.alloc (by simp <;> omega) _).alloc (by simp <;> omega) _
theorem yN (h:W=((w.alloc o1).alloc o2).alloc o3):W.heap[w.heap.size]?=some o1:=by rw[h];exact (bK _ _ _ (by simp <;> omega)).trans ((bK _ _ _ (by simp <;> omega)).trans (jl (by simp)))
theorem rW (h:W=((w.alloc o1).alloc o2).alloc o3):W.heap[w.heap.size+1]?=some o2:=by rw[h];exact (bK _ _ _ (by simp <;> omega)).trans (jl (by simp))
theorem qd (h:W=((w.alloc o1).alloc o2).alloc o3):W.heap[w.heap.size+1+1]?=some o3:=by rw[h];exact jl (by simp)
theorem IX (h:W=((w.alloc o1).alloc o2).alloc o3):W.heap.size=w.heap.size+3:=by rw[h];simp
theorem Sk (h:W=(((w.alloc o1).alloc o2).alloc o3).alloc o4):Below w.heap.size w W:=by rw[h];exact ((cQ.alloc (by simp <;> omega) _).alloc (by simp <;> omega) _).alloc (by simp <;> omega) _
theorem OH (h:W=(((w.alloc o1).alloc o2).alloc o3).alloc o4):W.heap[w.heap.size]?=some o1:=by rw[h];exact (bK _ _ _ (by simp <;> omega)).trans ((bK _ _ _ (by simp <;> omega)).trans ((bK _ _ _ (by simp <;> omega)).trans (jl (by simp))))
theorem Uf (h:W=(((w.alloc o1).alloc o2).alloc o3).alloc o4):W.heap[w.heap.size+1]?=some o2:=by rw[h];exact (bK _ _ _ (by simp <;> omega)).trans ((bK _ _ _ (by simp <;> omega)).trans (jl (by simp)))
theorem Ug (h:W=(((w.alloc o1).alloc o2).alloc o3).alloc o4):W.heap[w.heap.size+1+1]?=some o3:=by rw[h];exact (bK _ _ _ (by simp <;> omega)).trans (jl (by simp))
theorem OI (h:W=(((w.alloc o1).alloc o2).alloc o3).alloc o4):W.heap[w.heap.size+1+1+1]?=some o4:=by rw[h];exact jl (by simp)
theorem VS (h:W=(((w.alloc o1).alloc o2).alloc o3).alloc o4):W.heap.size=w.heap.size+4:=by rw[h];simp
end
theorem K_ {f:FuncId} {w:World} (h:CallsIn Fence.wide 3 P f args w R):Calls P f args w R:=aL.1 h
theorem mM {f:FuncId} {fn:Func} {w:World} (hf:P.funcs[f]?=some fn) {c:Code} (h:c.wpIn Fence.wide 3 P (bodyPost P fn R) { tmps:=args ++ Array.replicate (fn.ntmps - args.size) undef,defers:=[] } w) (hb:fn.body=some c:=by rfl):Calls P f args w R:=aL.1 (callsIn_of_wp hf hb trivial h rfl)
theorem eU:∀ f,Fence.wide.fn f:=fun _=>trivial
end Go.Proofs.YtokemihbkeddoaaGreatDoor
namespace Go.Proofs.YtokemihbkeddoaaGreatDoor
open Go
variable {i j cE id:Nat} {o oi:Oper} {v:Value} {a:Act} {K:Act->World->Prop} {w:World} {listed:Array Bool}
section
variable {F:Fence} {n:Nat} {P:Program} {ops:Array Oper} {Q:Exit->Act->World->Prop} {md:Region.Mode} {S:World->Prop} {e:Nat}
def il (F:Fence) (ops:Array Oper):Prop:=∀ (j:Nat) (o:Oper),ops[j]?=some o->∀ ρ,Oper.semAt F.round ρ o=execOp ρ o
def me (o:Oper):Bool:=match o.op with | .defer _=>false | _=>true
theorem FR (h:ops.toList.all me=true):il F ops:=fun j o ho ρ=>by
 cases hr:F.round with
 | none=>exact Oper.semAt_none _ _
 | some l=>
  refine Oper.semAt_some l ρ o (fun c hc=>?_);have hm:o∈ops.toList:=by
   have:=List.mem_of_getElem? (l:=ops.toList) (i:=j) (a:=o) (by simpa using ho);exact this
  have:=List.all_eq_true.1 h o hm;unfold me at this;rw[hc]at this;cases this
def YieldsM (P:Program) (ops:Array Oper) (S:World->Prop) (o:Oper) (v:Value) (a:Act):Prop:=YieldsIf P ops S o v a/\∀ w,o.about P w a.eval=none
theorem yO (qg:il F ops) (hi:ops[i]?=some o) (hy:YieldsM P ops S o v a) (hS:S w) (h:K (a.put o.dst v) w):wpOpIn F n P ops Q i K a w:=by
 unfold wpOpIn;simp only[hi];have Bv:∀ f,o.about P w a.eval=some f->F.fn f:=fun f hf=>by rw[hy.2 w]at hf;cases hf
 rcases hy.1 with ⟨hw,hv⟩ | ⟨hw,rfl⟩
 ·simp only[hw,if_true,Oper.wpIn,qg i o hi,hv w hS,Oper.uponIn];exact ⟨Bv,h⟩
 ·simp only[hw,bZ,if_false];exact ⟨Bv,h⟩
theorem YieldsM.of_same {a':Act} (hy:YieldsM P ops S o v a) (he:execOp a'.eval o=execOp a.eval o)
  (hw:Region.wanted o (yielded ops a'.tmps)=Region.wanted o (yielded ops a.tmps)) (hb:∀ w,o.about P w a'.eval=o.about P w a.eval):YieldsM P ops S o v a':=
 ⟨hy.1.of_same he hw,fun w=>by rw[hb w];exact hy.2 w⟩
theorem FT {oj:Oper} (qg:il F ops) (hj:ops[j]?=some oj) (hap:oi.apart ops oj=true)
  (hsi:∀ cs b,oi.op≠.select cs b) (hsj:∀ cs b,oj.op≠.select cs b)
  (hQ:∀ c a w,Q (.panic c) (a.put oi.dst v) w->Q (.panic c) a w) {K:Act->World->Prop} {a:Act} {w:World}
  (hy:YieldsM P ops S oi v a) (h:wpOpIn F n P ops Q j K (a.put oi.dst v) w) :
  wpOpIn F n P ops Q j (fun a' w'=>YieldsM P ops S oi v a'/\K (a'.put oi.dst v) w') a w:=by
 obtain ⟨h1,h2,h3⟩:=Oper.apart_spec hap;have keep:∀ (a:Act),YieldsM P ops S oi v a->∀ u,YieldsM P ops S oi v (a.put oj.dst u):=fun a hy u=>
  hy.of_same (execOp_put oi hsi a oj.dst u h3) (wanted_put oi a oj.dst u h3) (fun w=>about_put oi w a oj.dst u h3)
 have Z6:∀ d,YieldsM P ops S oi v { a with defers:=d :: a.defers }:=fun d=>hy.of_same rfl rfl (fun _=>rfl);have hse:=qg j oj hj;unfold wpOpIn at *;simp only[hj]at h ⊢;rw[wanted_put oj a oi.dst v h1,about_put oj w a oi.dst v h1]at h;split
 ·rename_i hw;simp only[hw,if_true]at h;unfold Oper.wpIn at *;rw[about_put oj w a oi.dst v h1]at h;refine ⟨h.1,?_⟩;have h:=h.2;rw[hse,execOp_put oj hsj a oi.dst v h1]at h;rw[hse];generalize (execOp a.eval oj).run P w=r at *
  cases r with
  | ok x w'=>
   cases x <;> simp only[Oper.uponIn]at h ⊢
   case value u=>exact ⟨keep a hy u,by rw[<-Act.put_comm a v u h2];exact h⟩
   case skip=>exact ⟨keep a hy _,by rw[<-Act.put_comm a v undef h2];exact h⟩
   case defer d=>
    refine ⟨keep _ (Z6 d) _,?_⟩;rw[<-Act.put_comm _ v undef h2,<-Act.put_defers];exact h
   case enter f args=>
    refine ⟨h.1,CallsIn.mono h.2 fun e OJ he=>?_⟩;exact pm227
   case row row args=>exact ⟨h.1,RowsIn.mono h.2 fun u OJ he=>⟨keep a hy u,by rw[<-Act.put_comm a v u h2];exact he⟩⟩
   case round l f tmps assign body=>
    refine ⟨h.1,RoundIn.mono h.2 fun e OJ he=>?_⟩;exact pm227
  | halt x w'=>
   cases x <;> simp only[Oper.uponIn]at h ⊢
   case panic u=>exact hQ _ _ _ h
 ·rename_i hw;simp only[hw]at h;exact ⟨h.1,keep a hy _,by rw[<-Act.put_comm a v undef h2];exact h.2⟩
def FU (md:Region.Mode) (ops:Array Oper) (i:Nat):Nat->Nat->Bool
 | 0,_=>false
 | d+1,j=>match ops[j]? with
  | none=>false
  | some oj=>oj.after.any fun ed=>Region.binds md ed && (ed.on == i || FU md ops i d ed.on)
def CO (md:Region.Mode) (ops:Array Oper) (e i:Nat):Bool:=(List.range ops.size).all fun j=>decide (j<e) || FU md ops i ops.size j
def vM (md:Region.Mode) (ops:Array Oper) (listed:Array Bool):Prop:=∀ j oj,ops[j]?=some oj->listed.getD j false=true->∀ ed∈oj.after,Region.binds md ed=true->listed.getD ed.on false=true
def rk (md:Region.Mode) (ops:Array Oper) (listed:Array Bool):Bool:=(List.range ops.size).all fun j=>match ops[j]? with
 | none=>true
 | some oj=>!listed.getD j false || oj.after.all fun ed=>!Region.binds md ed || listed.getD ed.on false
theorem CU {md:Region.Mode} {ops:Array Oper} (h:rk md ops listed=true):vM md ops listed:=fun j oj hj hl ed Uh hb=>by
 have h1:=List.all_eq_true.1 h j (List.mem_range.2 (bn hj));simp only[hj,hl,Bool.not_true,Bool.false_or]at h1;have h2:=Array.all_eq_true'.1 h1 ed Uh;simpa[hb] using h2
theorem yP {md:Region.Mode} {ops:Array Oper} (hc:vM md ops listed):∀ (d j:Nat),listed.getD j false=true->FU md ops i d j=true->listed.getD i false=true
 | 0,_,_,h=>by simp[FU]at h
 | d+1,j,hl,h=>by
  unfold FU at h
  cases hj:ops[j]? with
  | none=>simp[hj]at h
  | some oj=>
   simp only[hj]at h;obtain ⟨ed,Uh,hb⟩:=Array.any_eq_true'.1 h;simp only[ae,Bool.or_eq_true,fY]at hb;have h1:=hc j oj hj hl ed Uh hb.1;rcases hb.2 with h2 | h2
   ·rwa [h2]at h1
   ·exact yP hc d ed.on h1 h2
theorem Mr {md:Region.Mode} {ops:Array Oper} (hc:vM md ops listed) (hr:j∈Region.ready md ops listed) {d:Nat} (h:FU md ops i d j=true):listed.getD i false=true:=by
 obtain ⟨_,oj,Zc,eA⟩:=mem_ready.1 hr
 cases d with
 | zero=>simp[FU]at h
 | succ d=>
  unfold FU at h;simp only[Zc]at h;obtain ⟨ed,Uh,hb⟩:=Array.any_eq_true'.1 h;simp only[ae,Bool.or_eq_true,fY]at hb;have h1:=eA ed Uh hb.1;rcases hb.2 with h2 | h2
  ·rwa [h2]at h1
  ·exact yP hc d ed.on h1 h2
theorem IY {md:Region.Mode} {ops:Array Oper} (hc:vM md ops listed) (hr:i∈Region.ready md ops listed):vM md ops (listed.setIfInBounds i true):=fun j oj hj hl ed Uh hb=>by
 obtain ⟨_,oi,hoi,eA⟩:=mem_ready.1 hr
 by_cases Zd:i=j
 ·subst Zd;have:oj=oi:=Option.some.inj (hj.symm.trans hoi);subst this;exact getD_set_true (eA ed Uh hb)
 ·rw[getD_set_ne false Zd]at hl;exact getD_set_true (hc j oj hj hl ed Uh hb)
def dz (F:Fence) (n:Nat) (P:Program) (md:Region.Mode) (ops:Array Oper) (Q:Exit->Act->World->Prop) (S:World->Prop) (e:Nat):Nat->Array Bool->Act->World->Prop
 | 0,listed,a,w=>Region.ready md ops listed=[]/\Q .normal a w
 | cE+1,listed,a,w=>
  (Region.ready md ops listed=[]->Q .normal a w) ∧
  ∀ i∈Region.ready md ops listed,wpOpIn F n P ops Q i (fun a' w'=>(i<e->S w')/\dz F n P md ops Q S e cE (listed.setIfInBounds i true) a' w') a w
theorem tH:∀ (cE:Nat) (listed:Array Bool) (a:Act) (w:World),dz F n P md ops Q S e cE listed a w->wpAnyIn F n P md ops Q cE listed a w
 | 0,_,_,_,h=>h
 | cE+1,_,_,_,h=>⟨h.1,fun i hi=>wpOpIn_mono (fun a' w' h'=>tH cE _ a' w' h'.2) (h.2 i hi)⟩
theorem tI (qg:il F ops) (Z7:CO md ops e i=true) (hi:ops[i]?=some oi) (Z8:∀ (j:Nat) (o:Oper) cs b,ops[j]?=some o->o.op≠.select cs b)
  (hQ:∀ c a w,Q (.panic c) (a.put oi.dst v) w->Q (.panic c) a w) :
  ∀ (cE:Nat) (listed:Array Bool) (a:Act) (w:World),vM md ops listed →
   (∀ j oj,ops[j]?=some oj->j≠i->listed.getD j true=false->(∀ e∈oj.after,Region.binds md e=true->e.on≠i)->oi.apart ops oj=true) →
   i∈Region.ready md ops listed->YieldsM P ops S oi v a->S w →
   dz F n P md ops Q S e cE (listed.setIfInBounds i true) (a.put oi.dst v) w->dz F n P md ops Q S e (cE+1) listed a w:=by
 intro cE
 induction cE with
 | zero=>
  intro listed a w _ _ hr hy hS H;have pp265:=();exact pm265
 | succ cE ih=>
  intro listed a w hcl Ui hr hy hS H;exact pm265
theorem Uj (d:Nat) (v:Value) (qg:il F ops) (hi:ops[i]?=some oi)
  (hs:(Region.noSelect ops && (Region.free md ops listed i && ((Region.ready md ops listed).contains i && (CO md ops e i && rk md ops listed))))=true)
  (hQ:∀ c a w,Q (.panic c) (a.put oi.dst v) w->Q (.panic c) a w) (vN:oi.dst=some d) (hw:Region.wanted oi (yielded ops a.tmps)=true) (hy:∀ w,S w->(execOp a.eval oi).run P w=.ok (.value v) w) (Bv:∀ w,oi.about P w a.eval=none) (hS:S w)
  (h:S w->dz F n P md ops Q S e cE (listed.setIfInBounds i true) { a with tmps:=a.tmps.setIfInBounds d v } w):dz F n P md ops Q S e (cE+1) listed a w:=by
 simp only[ae]at hs;exact tI qg hs.2.2.2.1 hi (Region.noSelect_spec hs.1) hQ cE listed a w (CU hs.2.2.2.2) (Region.free_spec hi hs.2.1) (by simpa using hs.2.2.1) ⟨.inl ⟨hw,hy⟩,Bv⟩ hS (by rw[vN];exact h hS)
theorem Z' (d:Nat) (qg:il F ops) (hi:ops[i]?=some oi)
  (hs:(Region.noSelect ops && (Region.free md ops listed i && ((Region.ready md ops listed).contains i && (CO md ops e i && rk md ops listed))))=true)
  (hQ:∀ c a w,Q (.panic c) (a.put oi.dst undef) w->Q (.panic c) a w) (vN:oi.dst=some d) (hw:Region.wanted oi (yielded ops a.tmps)=false) (Bv:∀ w,oi.about P w a.eval=none) (hS:S w)
  (h:S w->dz F n P md ops Q S e cE (listed.setIfInBounds i true) { a with tmps:=a.tmps.setIfInBounds d undef } w):dz F n P md ops Q S e (cE+1) listed a w:=by
 simp only[ae]at hs;exact tI qg hs.2.2.2.1 hi (Region.noSelect_spec hs.1) hQ cE listed a w (CU hs.2.2.2.2) (Region.free_spec hi hs.2.1) (by simpa using hs.2.2.1) ⟨.inr ⟨hw,rfl⟩,Bv⟩ hS (by rw[vN];exact h hS)
theorem zcf (hi:ops[i]?=some oi) (hr:Region.ready md ops listed=[i]) (hw:Region.wanted oi (yielded ops a.tmps)=true)
  (h:∀ K:Act->World->Prop,(∀ a w,(i<e->S w)->((i<e->S w)->dz F n P md ops Q S e cE (listed.setIfInBounds i true) a w)->K a w)->Oper.wpIn F n P oi a w K Q):dz F n P md ops Q S e (cE+1) listed a w:=by
 have pp223:=();exact pm223
theorem Z_ (d:Nat) (hi:ops[i]?=some oi) (hr:Region.ready md ops listed=[i]) (vN:oi.dst=some d) (hw:Region.wanted oi (yielded ops a.tmps)=false) (Bv:∀ f,oi.about P w a.eval=some f->F.fn f) (hS:S w)
  (h:S w->dz F n P md ops Q S e cE (listed.setIfInBounds i true) { a with tmps:=a.tmps.setIfInBounds d undef } w):dz F n P md ops Q S e (cE+1) listed a w:=by
 exact pm223
def NP (Q:Exit->Act->World->Prop):Exit->Act->World->Prop
 | .panic _,_,_=>False
 | e,a,w=>Q e a w
theorem NP.imp {Q:Exit->Act->World->Prop}:∀ (e:Exit) (a:Act) (w:World),NP Q e a w->Q e a w:=fun e a w h=>by
 cases e <;> first | exact h | exact (h:False).elim
theorem zaa (hr:Region.ready md ops listed=[]) (h:Q .normal a w):∀ cE,dz F n P md ops (NP Q) S e cE listed a w
 | 0=>⟨hr,h⟩
 | _+1=>⟨fun _=>h,by rw[hr];simp⟩
theorem La (S:World->Prop) (e:Nat) (hm:(P.follows .mixedOrders && ops.toList.all me)=true) (hS:S w.drew)
  (h:il F ops->S w.drew->dz F n P .any ops (NP Q) S e ops.size (Array.replicate ops.size false) a w.drew):(Code.region id ops true).wpIn F n P Q a w:=by
 simp only[ae]at hm;exact Code.wpIn_mono NP.imp (wpIn_region_any hm.1 (tH _ _ _ _ (h (FR hm.2) hS)))
theorem bL (i d:Nat) (v:Value) (hi:ops[i]?=some oi) (hS:S w)
  (h:S w->dz F n P md ops Q S e cE (listed.setIfInBounds i true) { a with tmps:=a.tmps.setIfInBounds d v } w)
  (qg:il F ops:=by assumption) (hy:∀ w,S w->(execOp a.eval oi).run P w=.ok (.value v) w:=by intro V hX;go_simp)
  (hs:(Region.noSelect ops && (Region.free md ops listed i && ((Region.ready md ops listed).contains i && (CO md ops e i && rk md ops listed))))=true:=by kernel_rfl)
  (hQ:∀ c a w,Q (.panic c) (a.put oi.dst v) w->Q (.panic c) a w:=by exact fun _ _ _ h=>h) (vN:oi.dst=some d:=by rfl) (hw:Region.wanted oi (yielded ops a.tmps)=true:=by rfl)
  (Bv:∀ w,oi.about P w a.eval=none:=by exact fun _=>rfl):dz F n P md ops Q S e (cE+1) listed a w:=
 Uj d v qg hi hs hQ vN hw hy Bv hS h
theorem dm (i d:Nat) (v:Value) (hi:ops[i]?=some oi) (hy:∀ w,S w->(execOp a.eval oi).run P w=.ok (.value v) w) (hS:S w)
  (h:S w->dz F n P md ops Q S e cE (listed.setIfInBounds i true) { a with tmps:=a.tmps.setIfInBounds d v } w)
  (qg:il F ops:=by assumption)
  (hs:(Region.noSelect ops && (Region.free md ops listed i && ((Region.ready md ops listed).contains i && (CO md ops e i && rk md ops listed))))=true:=by kernel_rfl)
  (hQ:∀ c a w,Q (.panic c) (a.put oi.dst v) w->Q (.panic c) a w:=by exact fun _ _ _ h=>h) (vN:oi.dst=some d:=by rfl) (hw:Region.wanted oi (yielded ops a.tmps)=true:=by rfl)
  (Bv:∀ w,oi.about P w a.eval=none:=by exact fun _=>rfl):dz F n P md ops Q S e (cE+1) listed a w:=
 Uj d v qg hi hs hQ vN hw hy Bv hS h
theorem ce (i:Nat) (hi:ops[i]?=some oi)
  (h:∀ K:Act->World->Prop,(∀ a w,(i<e->S w)->((i<e->S w)->dz F n P md ops Q S e cE (listed.setIfInBounds i true) a w)->K a w)->Oper.wpIn F n P oi a w K Q)
  (hr:Region.ready md ops listed=[i]:=by kernel_rfl) (hw:Region.wanted oi (yielded ops a.tmps)=true:=by rfl):dz F n P md ops Q S e (cE+1) listed a w:=
 zcf hi hr hw h
theorem eS {R:Act->World->Prop} (hK:∀ a w,(i<e->S w)->((i<e->S w)->R a w)->K a w) (h:R a w) (hn:¬i<e:=by decide):K a w:=hK a w (fun x=>absurd x hn) fun _=>h
theorem lV (S:World->Prop) (e:Nat) (hS:S w.drew) (h:il F ops->S w.drew->dz F n P .any ops (NP Q) S e ops.size (Array.replicate ops.size false) a w.drew)
  (hm:(P.follows .mixedOrders && ops.toList.all me)=true:=by kernel_rfl):(Code.region id ops true).wpIn F n P Q a w:=La S e hm hS h
theorem le (h:Q .normal a w) (hr:Region.ready md ops listed=[]:=by kernel_rfl):dz F n P md ops (NP Q) S e cE listed a w:=zaa hr h cE
end
end Go.Proofs.YtokemihbkeddoaaGreatDoor
namespace Go.Proofs.YtokemihbkeddoaaGreatDoor
open Go
variable {sz d k id:Nat} {listed:Array Bool} {a0 a:Act} {w:World} {o:Oper}
section
variable {F:Fence} {n:Nat} {P:Program} {ops:Array Oper} {Q:Exit->Act->World->Prop} {md:Region.Mode} {S:World->Prop}
variable {Γ:Type} (Φ:Nat->Value->Γ->World->Prop) (Ψ:Nat->Γ->Prop) (I:Γ->World->Prop) (G:Γ->World->Γ->World->Prop)
def I0 (ops:Array Oper) (sz:Nat):Bool:=(List.range ops.size).all fun i=>match ops[i]? with
 | none=>true
 | some oi=>oi.after.all (fun e=>!Region.binds .any e || decide (e.on<i)) && (match oi.dst with
  | none=>true
  | some d=>decide (d<sz) && (List.range ops.size).all fun j=>i == j || (match ops[j]? with | some oj=>oj.dst != some d | none=>true))
structure DagOk (ops:Array Oper) (sz:Nat):Prop where
 before:∀ (k:Nat) (o:Oper),ops[k]?=some o->∀ e∈o.after,Region.binds .any e=true->e.on<k
 there:∀ (k:Nat) (o:Oper) (d:Nat),ops[k]?=some o->o.dst=some d->d<sz
 one:∀ (k j:Nat) (o oj:Oper) (d:Nat),ops[k]?=some o->ops[j]?=some oj->o.dst=some d->oj.dst=some d->k=j
theorem FV (h:I0 ops sz=true):DagOk ops sz:=by
 have h1:∀ (k:Nat) (o:Oper),ops[k]?=some o->o.after.all (fun e=>!Region.binds .any e || decide (e.on<k))=true/\∀ d,o.dst=some d->d<sz/\∀ (j:Nat) (oj:Oper),ops[j]?=some oj->k=j\/oj.dst≠some d:=by
  intro k o ho;have:=List.all_eq_true.1 h k (List.mem_range.2 (bn ho));simp only[ho,ae]at this;refine ⟨this.1,fun d hd=>?_⟩;have h2:=this.2;simp only[hd,ae,bw]at h2;refine ⟨h2.1,fun j oj hj=>?_⟩;have h3:=List.all_eq_true.1 h2.2 j (List.mem_range.2 (bn hj));simp only[hj,Bool.or_eq_true,fY,bne_iff_ne,ne_eq]at h3;exact h3
 refine ⟨fun k o ho e he hb=>?_,fun k o d ho hd=>((h1 k o ho).2 d hd).1,fun k j o oj d ho hj hd Uk=>?_⟩
 ·have:=Array.all_eq_true'.1 (h1 k o ho).1 e he;simpa[hb] using this
 ·rcases ((h1 k o ho).2 d hd).2 j oj hj with h | h
  ·exact h
  ·exact absurd Uk h
structure DagAt (ops:Array Oper) (a0:Act) (listed:Array Bool) (a:Act) (γ:Γ) (w:World):Prop where
 df:a.defers=a0.defers
 sz:a.tmps.size=a0.tmps.size
 ou:∀ d,(∀ (k:Nat) (o:Oper),ops[k]?=some o->o.dst≠some d)->a.tmps[d]?=a0.tmps[d]?
 nod:∀ (k:Nat) (o:Oper),ops[k]?=some o->o.dst=none->listed.getD k false=true->Φ k undef γ w
 val:∀ (k:Nat) (o:Oper) (d:Nat),ops[k]?=some o->o.dst=some d->listed.getD k false=true->∃v,a.tmps[d]?=some v/\Φ k v γ w
 unl:∀ k,k<ops.size->listed.getD k true=false->Ψ k γ
 inv:I γ w
 pre:∀ (k:Nat) (o:Oper) (d:Nat),ops[k]?=some o->o.dst=some d->listed.getD k false=false->a.tmps[d]?=a0.tmps[d]?
 cl:∀ (k:Nat) (o:Oper),ops[k]?=some o->listed.getD k false=true->∀ e∈o.after,Region.binds .any e=true->e.on<ops.size->listed.getD e.on false=true
def freeB (ops:Array Oper) (d:Nat):Bool:=ops.toList.all fun o=>o.dst != some d
theorem Lb {ops:Array Oper} (h:freeB ops d=true) (k:Nat) (o:Oper) (ho:ops[k]?=some o):o.dst≠some d:=by
 have:=List.all_eq_true.1 h o (List.mem_of_getElem? (i:=k) (by simpa using ho));simpa using this
def waitB (md:Region.Mode) (o:Oper) (j:Nat):Bool:=o.after.any fun e=>e.on == j && Region.binds md e
structure DagIn (md:Region.Mode) (ops:Array Oper) (a0:Act) (o:Oper) (k:Nat) (a:Act) (γ:Γ) (w:World):Prop where
 sz:a.tmps.size=a0.tmps.size
 ou:∀ d,freeB ops d=true->a.tmps[d]?=a0.tmps[d]?
 inv:I γ w
 psi:Ψ k γ
 nod:∀ (j:Nat) (oj:Oper),ops[j]?=some oj->waitB md o j=true->oj.dst=none->Φ j undef γ w
 val:∀ (j:Nat) (oj:Oper) (d:Nat),ops[j]?=some oj->oj.dst=some d->waitB md o j=true->∃v,a.tmps[d]?=some v/\Φ j v γ w
 pre:∀ (j:Nat) (oj:Oper) (d:Nat),ops[j]?=some oj->oj.dst=some d->waitB md oj k=true->a.tmps[d]?=a0.tmps[d]?
 psw:∀ (j:Nat) (oj:Oper),ops[j]?=some oj->waitB md oj k=true->Ψ j γ
def oz (F:Fence) (n:Nat) (P:Program) (md:Region.Mode) (ops:Array Oper) (Q:Exit->Act->World->Prop) (a0:Act) (k:Nat):Prop:=
 ∀ o,ops[k]?=some o->∀ (a:Act) (γ:Γ) (w:World),DagIn Φ Ψ I md ops a0 o k a γ w →
  ∀ K:Act->World->Prop,(∀ (v:Value) (dY:Γ) (w':World),(o.dst=none->v=undef)->G γ w dY w'->(∀ j,j≠k->Ψ j γ->Ψ j dY)->Φ k v dY w'->K (a.put o.dst v) w')->wpOpIn F n P ops Q k K a w
theorem FW {γ:Γ} (h:DagAt Φ Ψ I ops a0 listed a γ w) (Ul:listed.size=ops.size) (hk:k<ops.size) (Oh:listed.getD k true=false) (eA:∀ e∈o.after,Region.binds .any e=true->e.on<ops.size->listed.getD e.on false=true):DagIn Φ Ψ I .any ops a0 o k a γ w:=by
 have hw:∀ (j:Nat) (oj:Oper),ops[j]?=some oj->waitB .any o j=true->listed.getD j false=true:=by
  intro j oj hj hw;obtain ⟨e,he,hb⟩:=Array.any_eq_true'.1 hw;simp only[ae,fY]at hb;rw[<-hb.1];exact eA e he hb.2 (by rw[hb.1];exact (bn hj))
 have zab:∀ (j:Nat) (oj:Oper),ops[j]?=some oj->waitB .any oj k=true->listed.getD j false=false:=by
  intro j oj hj I1
  cases hc:listed.getD j false with
  | false=>rfl
  | true=>
   obtain ⟨e,he,hb⟩:=Array.any_eq_true'.1 I1;simp only[ae,fY]at hb;have h1:=h.cl j oj hj hc e he hb.2 (by rw[hb.1];exact hk);rw[hb.1]at h1;rcases Nat.lt_or_ge k listed.size with hlt | hge
   ·simp[Array.getD,hlt]at h1 Oh;rw[h1]at Oh;cases Oh
   ·simp[Array.getD,Nat.not_lt.2 hge]at h1
 exact ⟨h.sz,fun d hd=>h.ou d (fun k o ho=>Lb hd k o ho),h.inv,h.unl k hk Oh,fun j oj hj I1 hd=>h.nod j oj hj hd (hw j oj hj I1),fun j oj d hj hd I1=>h.val j oj d hj hd (hw j oj hj I1),fun j oj d hj hd I1=>h.pre j oj d hj hd (zab j oj hj I1),fun j oj hj I1=>h.unl j (bn hj) (by
  have h1:=zab j oj hj I1;have h2:j<listed.size:=by rw[Ul];exact (bn hj)
  simpa[Array.getD,h2] using h1)⟩
theorem Ms (hok:DagOk ops n) (hl:listed.size=ops.size) (h:Region.ready .any ops listed=[]):∀ k,k<ops.size->listed.getD k false=true:=by
 intro k
 induction k using Nat.strongRecOn with
 | ind k ih=>
  intro hk
  cases hc:listed.getD k false with
  | true=>rfl
  | false=>
   exfalso;have ho:ops[k]?=some ops[k]:=by simp[hk]
   have:k∈Region.ready .any ops listed:=mem_ready.2 ⟨by
    have br:k<listed.size:=by omega
    simp[Array.getD,br]at hc ⊢;exact hc,ops[k],ho,fun e he hb=>by
     have hlt:=hok.before k _ ho e he hb;exact ih e.on hlt (by omega)⟩
   rw[h]at this;cases this
theorem CW {l:Array Bool} {i:Nat} (h:l.getD i true=false):(l.setIfInBounds i true).toList.countP (fun b=>!b)+1=l.toList.countP (fun b=>!b):=by
 have hi:i<l.size:=by
  rcases Nat.lt_or_ge i l.size with h' | h'
  ·exact h'
  ·simp[Array.getD,Nat.not_lt.2 h']at h
 have hv:l[i]=false:=by simpa[Array.getD,hi] using h
 have h2:i<l.toList.length:=by simpa using hi
 have jS:l.toList[i]=false:=by simpa using hv
 rw[Array.toList_setIfInBounds,List.countP_set h2,jS];have:0<l.toList.countP (fun b=>!b):=List.countP_pos_iff.2 ⟨false,by rw[<-jS];exact az h2,rfl⟩;simp only[Bool.not_false,Bool.not_true,if_true,bZ,if_false];omega
theorem Lc (hok:DagOk ops a0.tmps.size) (hI:∀ γ w dY w',G γ w dY w'->I γ w->I dY w') (wP:∀ k v γ w dY w',G γ w dY w'->Φ k v γ w->Φ k v dY w')
  {listed:Array Bool} {a:Act} {γ dY:Γ} {w w':World} {k:Nat} {o:Oper} {v:Value} (eA:∀ e∈o.after,Region.binds .any e=true->e.on<ops.size->listed.getD e.on false=true) (hl:listed.size=ops.size) (ho:ops[k]?=some o) (h:DagAt Φ Ψ I ops a0 listed a γ w) (hv:o.dst=none->v=undef) (hG:G γ w dY w') (Mt:∀ j,j≠k->Ψ j γ->Ψ j dY) (iZ:Φ k v dY w') :
  DagAt Φ Ψ I ops a0 (listed.setIfInBounds k true) (a.put o.dst v) dY w':=by
 have hsz:(a.put o.dst v).tmps.size=a0.tmps.size:=by
  unfold Act.put;split <;> simp[h.sz]
 have sx:∀ j,j≠k->(listed.setIfInBounds k true).getD j false=true->listed.getD j false=true:=fun j hj hh=>by rwa [getD_set_ne false (Ne.symm hj)]at hh
 refine ⟨?_,hsz,fun d hd=>?_,fun j oj hj Fz lC=>?_,fun j oj d hj Fz lC=>?_,fun j hj lC=>?_,hI γ w dY w' hG h.inv,fun j oj d hj Fz lC=>?_,fun j oj hj lC e he hb hlt=>?_⟩
 ·unfold Act.put;split <;> exact h.df
 ·rw[<-h.ou d hd];have jD:=hd k o ho;unfold Act.put;split
  ·rename_i d' VU;have:d'≠d:=fun e=>jD (by rw[VU,e]);simp[this]
  ·rfl
 ·by_cases rX:j=k
  ·subst rX;obtain rfl:oj=o:=Option.some.inj (hj.symm.trans ho);have:=hv Fz;subst this;exact iZ
  ·exact wP j _ γ w dY w' hG (h.nod j oj hj Fz (sx j rX lC))
 ·by_cases rX:j=k
  ·subst rX;obtain rfl:oj=o:=Option.some.inj (hj.symm.trans ho);refine ⟨v,?_,iZ⟩;have hlt:d<a.tmps.size:=by rw[h.sz];exact hok.there j oj d hj Fz
   rw[Fz];simp[Act.put,hlt]
  ·obtain ⟨u,hu,hφ⟩:=h.val j oj d hj Fz (sx j rX lC);refine ⟨u,?_,wP j _ γ w dY w' hG hφ⟩;rw[<-hu];exact pm267
 ·by_cases rX:j=k
  ·subst rX;have hlt:j<listed.size:=by omega
   simp[Array.getD,hlt]at lC
  ·exact Mt j rX (h.unl j hj (by rwa [getD_set_ne true (Ne.symm rX)]at lC))
 ·by_cases rX:j=k
  ·subst rX;have hlt:j<listed.size:=by rw[hl];exact (bn hj)
   simp[Array.getD,hlt]at lC
  ·rw[getD_set_ne false (Ne.symm rX)]at lC;rw[<-h.pre j oj d hj Fz lC];exact pm267
 ·have Mu:listed.getD e.on false=true:=by
   by_cases rX:j=k
   ·subst rX;obtain rfl:oj=o:=Option.some.inj (hj.symm.trans ho);exact eA e he hb hlt
   ·exact h.cl j oj hj (sx j rX lC) e he hb hlt
  by_cases hek:e.on=k
  ·rw[hek];have eJ:k<listed.size:=by rw[hl,<-hek];exact hlt
   simp[Array.getD,eJ]
  ·rw[getD_set_ne false (Ne.symm hek)];exact Mu
theorem zac (hok:DagOk ops a0.tmps.size) (hI:∀ γ w dY w',G γ w dY w'->I γ w->I dY w') (wP:∀ k v γ w dY w',G γ w dY w'->Φ k v γ w->Φ k v dY w')
  (FX:∀ k,k<ops.size->oz Φ Ψ I G F n P Region.Mode.any ops Q a0 k)
  (hQ:∀ (a:Act) (γ:Γ) (w:World),DagAt Φ Ψ I ops a0 (Array.replicate ops.size true) a γ w->Q .normal a w) :
  ∀ (cE:Nat) (listed:Array Bool) (a:Act) (γ:Γ) (w:World),listed.size=ops.size->listed.toList.countP (fun b=>!b)<=cE->DagAt Φ Ψ I ops a0 listed a γ w->dz F n P Region.Mode.any ops Q S 0 cE listed a w:=by
 have fin:∀ (listed:Array Bool) (a:Act) (γ:Γ) (w:World),listed.size=ops.size->Region.ready Region.Mode.any ops listed=[]->DagAt Φ Ψ I ops a0 listed a γ w->Q .normal a w:=by
  intro listed a γ w hl hr h;have eA:=Ms hok hl hr;exact pm118
 intro cE
 induction cE with
 | zero=>
  intro listed a γ w hl hc h;have hr:Region.ready Region.Mode.any ops listed=[]:=by
   cases gt:Region.ready Region.Mode.any ops listed with
   | nil=>rfl
   | cons j r=>
    have hj:j∈Region.ready Region.Mode.any ops listed:=by rw[gt];exact ij
    have:=CW (mem_ready.1 hj).1;omega
  exact ⟨hr,fin listed a γ w hl hr h⟩
 | succ cE ih=>
  intro listed a γ w hl hc h;refine ⟨fun hr=>fin listed a γ w hl hr h,fun k hk=>?_⟩;obtain ⟨Oh,o,ho,eA⟩:=mem_ready.1 hk;have wQ:=(bn ho);refine FX k wQ o ho a γ w (FW Φ Ψ I h hl wQ Oh (fun e he hb _=>eA e he hb)) _ (fun v dY w' hv hG Mt iZ=>⟨fun h0=>absurd h0 (Nat.not_lt_zero _),?_⟩);refine ih (listed.setIfInBounds k true) (a.put o.dst v) dY w' (by simpa using hl) (by have:=CW Oh;omega) ?_;exact Lc Φ Ψ I G hok hI wP (fun e he hb _=>eA e he hb) hl ho h hv hG Mt iZ
theorem CX {OK:Γ} (hI:I OK w) (Mt:∀ k,k<ops.size->Ψ k OK):DagAt Φ Ψ I ops a0 (Array.replicate ops.size false) a0 OK w:=by
 refine ⟨rfl,rfl,fun _ _=>rfl,fun k o ho Oi hl=>?_,fun k o d ho Oi hl=>?_,fun k hk _=>Mt k hk,hI,fun _ _ _ _ _ _=>rfl,fun k o ho hl=>?_⟩
 ·have hk:=(bn ho);simp[Array.getD,hk]at hl
 ·have hk:=(bn ho);simp[Array.getD,hk]at hl
 ·have hk:=(bn ho);simp[Array.getD,hk]at hl
theorem lj (OK:Γ) (hm:(P.follows .mixedOrders && ops.toList.all me)=true) (hsz:a0.tmps.size=sz) (hd:I0 ops sz=true) (hI0:I OK w.drew) (VV:∀ k,k<ops.size->Ψ k OK)
  (hI:∀ γ w dY w',G γ w dY w'->I γ w->I dY w') (wP:∀ k v γ w dY w',G γ w dY w'->Φ k v γ w->Φ k v dY w')
  (FX:∀ k,k<ops.size->oz Φ Ψ I G F n P .any ops (NP Q) a0 k) (hQ:∀ (a:Act) (γ:Γ) (w':World),DagAt Φ Ψ I ops a0 (Array.replicate ops.size true) a γ w'->Q .normal a w'):(Code.region id ops true).wpIn F n P Q a0 w:=
 La (fun _=>True) 0 hm trivial (fun _ _=>zac Φ Ψ I G (FV (hsz ▸ hd)) hI wP FX (fun a γ w' h=>hQ a γ w' h) ops.size _ a0 OK w.drew (by simp) (aQ List.countP_le_length (by simp)) (CX Φ Ψ I hI0 VV))
theorem nL (OK:Γ) (hsz:a0.tmps.size=sz) (hd:I0 ops sz=true) (hI0:I OK w) (VV:∀ k,k<ops.size->Ψ k OK)
  (hI:∀ γ w dY w',G γ w dY w'->I γ w->I dY w') (wP:∀ k v γ w dY w',G γ w dY w'->Φ k v γ w->Φ k v dY w')
  (FX:∀ k,k<ops.size->oz Φ Ψ I G F n P .any ops Q a0 k) (hQ:∀ (a:Act) (γ:Γ) (w':World),DagAt Φ Ψ I ops a0 (Array.replicate ops.size true) a γ w'->Q .normal a w'):(Code.region id ops false).wpIn F n P Q a0 w:=by
 have hok:=FV (hsz ▸ hd);refine wpIn_region ?_;have zcg:∀ (m k:Nat) (listed:Array Bool) (a:Act) (γ:Γ) (w:World),k+m=ops.size->listed.size=ops.size->(∀ j,j<ops.size->(listed.getD j false=true ↔ j<k))->DagAt Φ Ψ I ops a0 listed a γ w->wpOpsIn F n P ops Q (List.range' k m) a w:=by
  intro m
  induction m with
  | zero=>
   intro k listed a γ w hk hl CY h;have eA:∀ j,j<ops.size->listed.getD j false=true:=fun j hj=>(CY j hj).2 (by omega);exact pm118
  | succ m ih=>
   intro k listed a γ w hk hl CY h;have wQ:k<ops.size:=by omega
   rw[List.range'_succ,wpOpsIn_cons];have ho:ops[k]?=some ops[k]:=by simp[wQ]
   have Oh:listed.getD k true=false:=by
    have:=(CY k wQ);have br:k<listed.size:=by omega
    simp[Array.getD,br]at this ⊢;exact this
   refine FX k wQ _ ho a γ w (FW Φ Ψ I h hl wQ Oh (fun e he hb hlt=>(CY _ hlt).2 (hok.before k _ ho e he hb))) _ (fun v dY w' hv hG Mt iZ=>?_);exact ih (k+1) (listed.setIfInBounds k true) _ dY w' (by omega) (by simpa using hl) (fun j hj=>by
    by_cases rX:k=j
    ·subst rX;have br:k<listed.size:=by omega
     simp[Array.getD,br]
    ·rw[getD_set_ne false rX,CY j hj];omega) (Lc Φ Ψ I G hok hI wP (fun e he hb hlt=>(CY _ hlt).2 (hok.before k _ ho e he hb)) hl ho h hv hG Mt iZ)
 have:=zcg ops.size 0 (Array.replicate ops.size false) a0 OK w (by omega) (by simp) (fun j hj=>by simp[Array.getD,hj]) (CX Φ Ψ I hI0 VV)
 rwa [List.range_eq_range']
variable {Φ} {Ψ} {I} {G}
theorem DagAt.get {γ:Γ} (h:DagAt Φ Ψ I ops a0 (Array.replicate ops.size true) a γ w) (k:Nat) (o:Oper) (d:Nat) (ho:ops[k]?=some o) (hd:o.dst=some d):∃v,a.tmps[d]?=some v/\Φ k v γ w:=
 h.val k o d ho hd (by simp[Array.getD,(bn ho)])
theorem DagAt.did {γ:Γ} (h:DagAt Φ Ψ I ops a0 (Array.replicate ops.size true) a γ w) (k:Nat) (o:Oper) (ho:ops[k]?=some o) (hd:o.dst=none):Φ k undef γ w:=
 h.nod k o ho hd (by simp[Array.getD,(bn ho)])
theorem DagAt.old {γ:Γ} (h:DagAt Φ Ψ I ops a0 listed a γ w) (d:Nat) (hd:freeB ops d=true):a.tmps[d]?=a0.tmps[d]?:=
 h.ou d (fun k o ho=>Lb hd k o ho)
theorem DagAt.od {γ:Γ} (h:DagAt Φ Ψ I ops a0 listed a γ w) (d:Nat) (hd:freeB ops d=true:=by kernel_rfl):a.tmps[d]?=a0.tmps[d]?:=h.old d hd
theorem DagAt.ol {γ:Γ} (h:DagAt Φ Ψ I ops a0 listed a γ w) (d:Nat) {v:Option Value} (e:a0.tmps[d]?=v) (hd:freeB ops d=true:=by kernel_rfl):a.tmps[d]?=v:=(h.old d hd).trans e
theorem dx (ho:ops[k]?=some o) (hd:o.dst=some d) (qh:∀ f,F.fn f) (hr:F.round=none)
  (h:∀ (a:Act) (γ:Γ) (w:World),DagIn Φ Ψ I md ops a0 o k a γ w->Region.wanted o (yielded ops a.tmps)=true/\∃v dY w',(execOp a.eval o).run P w=.ok (.value v) w'/\G γ w dY w'/\(∀ j,j≠k->Ψ j γ->Ψ j dY)/\Φ k v dY w'):oz Φ Ψ I G F n P md ops Q a0 k:=by
 have pp184a:=();exact pm184
theorem jE (ho:ops[k]?=some o) (qh:∀ f,F.fn f) (hr:F.round=none)
  (h:∀ (a:Act) (γ:Γ) (w:World),DagIn Φ Ψ I md ops a0 o k a γ w->Region.wanted o (yielded ops a.tmps)=true/\∃dY w',(execOp a.eval o).run P w=.ok .skip w'/\G γ w dY w'/\(∀ j,j≠k->Ψ j γ->Ψ j dY)/\Φ k undef dY w'):oz Φ Ψ I G F n P md ops Q a0 k:=by
 have pp184b:=();exact pm184
theorem CZ (ho:ops[k]?=some o) (hd:o.dst=some d) (qh:∀ f,F.fn f) (hr:F.round=none) (qi:F.depth=none)
  (h:∀ (a:Act) (γ:Γ) (w:World),DagIn Φ Ψ I md ops a0 o k a γ w->Region.wanted o (yielded ops a.tmps)=true/\∃f args,(execOp a.eval o).run P w=.ok (.enter f args) w/\CallsIn F (n - 1) P f args w fun e w'=>∃v,e=.returned v/\∃dY,G γ w dY w'/\(∀ j,j≠k->Ψ j γ->Ψ j dY)/\Φ k v dY w'):oz Φ Ψ I G F n P md ops Q a0 k:=by
 have pp184c:=();exact pm184
theorem Ld {t:Array Value}:∀ (ds:List (Nat×Value)) (t0:Array Value),t.size=t0.size->(∀ p∈ds,t[p.1]?=some p.2)->(∀ d,d ∉ ds.map (·.1)->t[d]?=t0[d]?)->t=ds.foldl (fun t p=>t.setIfInBounds p.1 p.2) t0
 | [],t0,hs,_,ho=>by
  simp only[List.foldl_nil];exact Array.ext_getElem? (fun i=>ho i (by simp))
 | p :: ds,t0,hs,hi,ho=>by
  simp only[List.foldl_cons];refine Ld ds _ (by simpa using hs) (fun q hq=>hi q (iU _ hq)) (fun d hd=>?_)
  by_cases h:d=p.1
  ·subst h;rw[hi p ij];have:p.1<t0.size:=by rw[<-hs];exact (bn (hi p ij))
   simp[this]
  ·rw[ho d (by simp only[cU,dw,not_or];exact ⟨h,hd⟩)];simp[Ne.symm h]
theorem OM {ops:Array Oper} {l:List Nat} (h:ops.toList.filterMap (·.dst)=l) (hd:d ∉ l):freeB ops d=true:=by
 refine List.all_eq_true.2 (fun o ho=>?_);simp only[bne_iff_ne,ne_eq];intro e;exact hd (h ▸ List.mem_filterMap.2 ⟨o,ho,e⟩)
theorem DagAt.act {γ:Γ} (h:DagAt Φ Ψ I ops a0 listed a γ w) (ds:List (Nat×Value)) (hd:ops.toList.filterMap (·.dst)=ds.map (·.1)) (hv:∀ p∈ds,a.tmps[p.1]?=some p.2):a={ tmps:=ds.foldl (fun t p=>t.setIfInBounds p.1 p.2) a0.tmps,defers:=a0.defers }:=by
 have h1:=Ld ds a0.tmps h.sz hv (fun d hn=>h.old d (OM hd hn));have h2:=h.df;obtain ⟨t,df⟩:=a;simp only at h1 h2;rw[h1,h2]
end
end Go.Proofs.YtokemihbkeddoaaGreatDoor
namespace Go.Proofs.YtokemihbkeddoaaGreatDoor
open Go Go.RowKit Lib
set_option maxRecDepth 100000
set_option maxHeartbeats 64000000
variable {W W':World} {b o cap c j:Nat} {ok ok':Nat->Prop} {x:Value}
abbrev Str:=List UInt8
inductive Tm where
 | mk (v:Bool) (n:Str) (a:List Tm)
inductive Fm where
 | mk (op:Int) (n:Str) (a:List Tm) (s:List Fm)
def Tm.v:Tm->Bool | .mk v _ _=>v
def Tm.n:Tm->Str | .mk _ n _=>n
def Tm.a:Tm->List Tm | .mk _ _ a=>a
def Fm.op:Fm->Int | .mk o _ _ _=>o
def Fm.n:Fm->Str | .mk _ n _ _=>n
def Fm.a:Fm->List Tm | .mk _ _ a _=>a
def Fm.s:Fm->List Fm | .mk _ _ _ s=>s
theorem Tm.ind {p:Tm->Prop} (h:∀ v n a,(∀ t∈a,p t)->p (.mk v n a)):∀ t,p t:=by
 intro t;exact Tm.rec (motive_1:=p) (motive_2:=fun l=>∀ t∈l,p t) (fun v n a ih=>h v n a ih) (fun t ht=>by cases ht) (fun t l h1 h2 u hu=>by
  rcases dw.1 hu with rfl | hu
  ·exact h1
  ·exact h2 u hu) t
theorem Fm.ind {p:Fm->Prop} (h:∀ o n a s,(∀ t∈s,p t)->p (.mk o n a s)):∀ t,p t:=by
 intro t;exact Fm.rec (motive_1:=p) (motive_2:=fun l=>∀ t∈l,p t) (fun o n a s ih=>h o n a s ih) (fun t ht=>by cases ht) (fun t l h1 h2 u hu=>by
  rcases dw.1 hu with rfl | hu
  ·exact h1
  ·exact h2 u hu) t
mutual
def vO:Tm->Tm->Bool
 | .mk v n a,.mk v' n' a'=>(v == v' && n == n') && jm a a'
def jm:List Tm->List Tm->Bool
 | [],[]=>true
 | a :: xs,b :: ys=>vO a b && jm xs ys
 | _,_=>false
end
mutual
def vP:Fm->Fm->Bool
 | .mk o n a s,.mk o' n' a' s'=>(o == o' && n == n') && (jm a a' && nM s s')
def nM:List Fm->List Fm->Bool
 | [],[]=>true
 | a :: xs,b :: ys=>vP a b && nM xs ys
 | _,_=>false
end
/-! names -/
def ON (c:UInt8):Bool:=97<=c && c<=122
def Le (c:UInt8):Bool:=65<=c && c<=90
def Lf (c:UInt8):Bool:=48<=c && c<=57
def Lg (c:UInt8):Bool:=ON c || (Le c || Lf c)
def VW:List Str:=[[97,108,108],[115,111,109,101],[102,97,108,115,101],[110,101,120,116],[97,108,119,97,121,115],[117,110,116,105,108]]
def rY (f o:UInt8->Bool):Str->Bool
 | []=>false
 | c :: r=>decide (r.length<16) && (!VW.contains (c :: r) && (f c && r.all o))
def i8 (s:Str):Bool:=rY (fun c=>117<=c && c<=122) Lf s
def Bw (s:Str):Bool:=rY (fun c=>97<=c && c<=116) Lg s
def wR (s:Str):Bool:=rY Le Lg s
def dA (s:Str):Bool:=decide (s.length<=16) && (s.head? == some 63 && wR s.tail)
def cW (s:Str):Bool:=decide (s.length<=16) && (s.head? == some 63 && Bw s.tail)
def da (s:Str):Bool:=dA s || cW s
def dZ (s:Str):Bool:=s.head? == some 63 && i8 s.tail
def cM (s:Str):Str:=63 :: s
def am (s:Str):Tm:=.mk true s []
/-! what is right -/
mutual
def nodesT:Tm->Nat | .mk _ _ a=>nodesTs a+1
def nodesTs:List Tm->Nat | []=>0 | t :: l=>nodesT t+nodesTs l
end
mutual
def nodesF:Fm->Nat | .mk _ _ a s=>nodesTs a+nodesFs s+1
def nodesFs:List Fm->Nat | []=>0 | t :: l=>nodesF t+nodesFs l
end
mutual
def cY:Tm->Nat | .mk _ _ a=>bx a+1
def bx:List Tm->Nat | []=>0 | t :: l=>max (cY t) (bx l)
end
mutual
def depthF:Fm->Nat | .mk _ _ a s=>max (bx a) (aT s)+1
def aT:List Fm->Nat | []=>0 | t :: l=>max (depthF t) (aT l)
end
mutual
def gw (sc:Bool):Tm->Bool
 | .mk v n a=>if v then a.isEmpty && (i8 n || (sc && cW n)) else decide (a.length<=4) && (Bw n && dB sc a)
def dB (sc:Bool):List Tm->Bool | []=>true | t :: l=>gw sc t && dB sc l
end
def rowOp (op:Int):Bool×Bool×Nat×Nat×Nat:=
 if op=1 then (true,true,1,4,0) else if op=2 then (true,true,0,0,0)
 else if op=8\/op=9 then (true,true,2,0,1)
 else if op=3\/(10<=op/\op<=13) then (true,true,0,0,1)
 else if (4<=op/\op<=7)\/op=14 then (true,true,0,0,2)
 else if op=15 then (false,true,3,0,0) else if op=16 then (false,true,3,2,0) else (false,false,0,0,0)
def oA (zch:Nat) (s:Str):Bool:=match zch with | 1=>wR s | 2=>i8 s | 3=>dA s | _=>s.isEmpty
def tJ:List Tm->Bool
 | [x,y]=>x.v && (i8 x.n && (y.v && cW y.n))
 | _=>false
mutual
def okF (sc:Bool):Fm->Bool
 | .mk op n a s=>((rowOp op).1 || (sc && (rowOp op).2.1)) && ((oA (rowOp op).2.2.1 n && (decide (a.length<=(rowOp op).2.2.2.1) && s.length == (rowOp op).2.2.2.2)) && ((op != 16 || tJ a) && (dB sc a && cG sc s)))
def cG (sc:Bool):List Fm->Bool | []=>true | t :: l=>okF sc t && cG sc l
end
def dn (f:Fm):Bool:=okF false f && (decide (nodesF f<=400) && decide (depthF f<=40))
def schemaF (f:Fm):Bool:=okF true f && (decide (nodesF f<=400) && decide (depthF f<=40))
def bD (op:Int):Bool:=op == 8 || op == 9
/-! free variables -/
mutual
def aN:Tm->List Str | .mk v n a=>if v then n :: aw a else aw a
def aw:List Tm->List Str | []=>[] | t :: l=>aN t ++ aw l
end
mutual
def a_ (b:List Str):Fm->List Str
 | .mk op n a s=>(aw a).filter (fun x=>!b.contains x) ++ bH (if bD op then n :: b else b) s
def bH (b:List Str):List Fm->List Str | []=>[] | t :: l=>a_ b t ++ bH b l
end
def sy (x:Str):List Str->List Str
 | []=>[x]
 | y :: l=>if x == y then y :: l else if Op.bytesLess x y then x :: y :: l else y :: sy x l
def cm (l:List Str):List Str:=l.foldr sy []
def By:Nat->Nat->Str
 | 0,_=>[]
 | k+1,n=>if n<10 then [UInt8.ofNat (48+n)] else By k (n / 10) ++ [UInt8.ofNat (48+n % 10)]
def gZ (n:Nat):Str:=120 :: By 20 n
def lW (t:List Str):Nat->Nat->Str
 | 0,n=>gZ n
 | k+1,n=>if t.contains (gZ n) then lW t k (n+1) else gZ n
def dN (t:List Str):Str:=lW t t.length 1
mutual
def eT (f:Str->Option Tm):Tm->Tm
 | .mk v n a=>match (if v then f n else none) with | some u=>u | none=>.mk v n (qj f a)
def qj (f:Str->Option Tm):List Tm->List Tm | []=>[] | t :: l=>eT f t :: qj f l
end
def iB (x:Str) (u:Tm) (t:Tm):Tm:=eT (fun n=>if n == x then some u else none) t
def dF (x:Str) (u:Tm) (l:List Tm):List Tm:=l.map (iB x u)
/-! matching -/
abbrev Sco:=List (Str×Str)
def e7 (c:Sco) (x:Str):Option Str:=go c []
 where go:Sco->List Str->Option Str
  | [],_=>some x
  | (s,a) :: r,inn=>if a == x then (if inn.contains s then none else some (cM s)) else go r (s :: inn)
mutual
def lD (c:Sco) (ins:List Str):Tm->Option Tm
 | .mk v n a=>if v then (if ins.contains n then some (am n) else (e7 c n).map am) else (g9 c ins a).map (Tm.mk false n)
def g9 (c:Sco) (ins:List Str):List Tm->Option (List Tm)
 | []=>some []
 | t :: l=>match lD c ins t,g9 c ins l with | some u,some m=>some (u :: m) | _,_=>none
end
mutual
def kv (c:Sco) (ins:List Str):Fm->Option Fm
 | .mk op n a s=>match g9 c ins a,jn c (if bD op then n :: ins else ins) s with | some a',some s'=>some (.mk op n a' s') | _,_=>none
def jn (c:Sco) (ins:List Str):List Fm->Option (List Fm)
 | []=>some []
 | t :: l=>match kv c ins t,jn c ins l with | some u,some m=>some (u :: m) | _,_=>none
end
def D2:Sco->Str->Str->Bool
 | [],x,y=>x == y
 | (s,a) :: r,x,y=>if s == x || a == y then s == x && a == y else D2 r x y
mutual
def mf (c:Sco):Tm->Tm->Bool
 | .mk v n a,.mk v' n' a'=>(v == v' && a.length == a'.length) && (if v && c.any (fun p=>p.1 == n || p.2 == n') then D2 c n n' else n == n' && dH c a a')
def dH (c:Sco):List Tm->List Tm->Bool
 | t :: l,u :: m=>mf c t u && dH c l m
 | _,_=>true
end
mutual
def eB (c:Sco):Fm->Fm->Bool
 | .mk op n a s,.mk op' n' a' s'=>(op == op' && (a.length == a'.length && s.length == s'.length)) && ((n == n' || bD op) && (dH c a a' && ee (if bD op then (n,n') :: c else c) s s'))
def ee (c:Sco):List Fm->List Fm->Bool
 | t :: l,u :: m=>eB c t u && ee c l m
 | _,_=>true
end
mutual
def D3 (x:Str):Tm->Nat | .mk v n a=>(if v && n == x then 1 else 0)+fG x a
def fG (x:Str):List Tm->Nat | []=>0 | t :: l=>D3 x t+fG x l
end
mutual
def iC (x:Str):Fm->Nat | .mk _ _ a s=>fG x a+jT x s
def jT (x:Str):List Fm->Nat | []=>0 | t :: l=>iC x t+jT x l
end
mutual
def nN (x:Str):Tm->Option (List Nat) | .mk v n a=>if v && n == x then some [] else eC x a 0
def eC (x:Str):List Tm->Nat->Option (List Nat)
 | [],_=>none
 | t :: l,i=>match nN x t with | some p=>some (i :: p) | none=>eC x l (i+1)
end
mutual
def lu (x:Str):Fm->Option (List Nat×List Nat)
 | .mk _ _ a s=>match eC x a 0 with | some p=>some ([],p) | none=>mg x s 0
def mg (x:Str):List Fm->Nat->Option (List Nat×List Nat)
 | [],_=>none
 | t :: l,i=>match lu x t with | some (p,q)=>some (i :: p,q) | none=>mg x l (i+1)
end
def mh:List Tm->List Nat->Option Tm
 | _,[]=>none
 | l,[i]=>l[i]?
 | l,i :: j :: r=>match l[i]? with | some t=>mh t.a (j :: r) | none=>none
def nO:Fm->List Nat->List Str->Option (Fm×List Str)
 | f,[],ins=>some (f,ins)
 | f,i :: r,ins=>match f.s[i]? with | some g=>nO g r (if bD f.op then f.n :: ins else ins) | none=>none
def jU (f im:Fm) (x:Str):Option Tm:=match lu x f with
 | none=>none
 | some (p,q)=>match nO im p [] with
  | none=>none
  | some (g,ins)=>match mh g.a q with
   | none=>none
   | some t=>if (aN t).any ins.contains then none else some t
def eD:Nat->Str->Tm->Fm->Fm
 | 0,_,_,f=>f
 | k+1,x,u,.mk op n a s=>
  if bD op then match s with
   | g :: _=>if n == x || !(a_ [] g).contains x then .mk op n a s
    else if (aN u).contains n then
     .mk op (dN (a_ [] g ++ aN u)) (dF x u a) [eD k x u (eD k n (am (dN (a_ [] g ++ aN u))) g)]
    else .mk op n (dF x u a) [eD k x u g]
   | []=>.mk op n a s
  else .mk op n (dF x u a) (s.map (eD k x u))
def iD (x:Str) (u:Tm) (f:Fm):Fm:=eD (depthF f) x u f
mutual
def aM:Tm->Tm | .mk v n a=>.mk v (if v && dZ n then n.tail else n) (bU a)
def bU:List Tm->List Tm | []=>[] | t :: l=>aM t :: bU l
end
mutual
def bC:Fm->Fm | .mk op n a s=>.mk op n (bU a) (bV s)
def bV:List Fm->List Fm | []=>[] | t :: l=>bC t :: bV l
end
structure Bd where
 fs:List (Str×Fm)
 ts:List (Str×Tm)
def dD:List Str->Bool
 | x :: y :: l=>Op.bytesLess x y && dD (y :: l)
 | _=>true
def validB (b:Bd):Bool:=(b.fs.all (fun x=>dA x.1 && dn (bC x.2)) && b.ts.all (fun x=>cW x.1 && gw false (aM x.2))) && (dD (b.fs.map (·.1)) && dD (b.ts.map (·.1)))
def getB {α:Type} (l:List (Str×α)) (x:Str):Option α:=match l with | []=>none | (y,v) :: r=>if y == x then some v else getB r x
def iE {α:Type} (x:Str) (v:α):List (Str×α)->List (Str×α)
 | []=>[(x,v)]
 | (y,u) :: r=>if Op.bytesLess x y then (x,v) :: (y,u) :: r else (y,u) :: iE x v r
mutual
def i9 (sc:List Str) (k:List (Str×Tm)):Tm->Tm->Option (List (Str×Tm))
 | .mk v n a,.mk v' n' a'=>
  if v && da n then match getB k n with
   | none=>some (iE n (.mk v' n' a') k)
   | some u=>if vO u (.mk v' n' a') then some k else none
  else if v && sc.contains n then (if vO (.mk v' n' a') (am (cM n)) then some k else none)
  else if v != v' || (n != n' || a.length != a'.length) then none
  else ef sc k a a'
def ef (sc:List Str) (k:List (Str×Tm)):List Tm->List Tm->Option (List (Str×Tm))
 | t :: l,u :: m=>match i9 sc k t u with | some k'=>ef sc k' l m | none=>none
 | _,_=>some k
end
def i_ (c:Sco) (k:List (Str×Tm)):List Tm->List Tm->Option (List (Str×Tm))
 | t :: l,u :: m=>match lD c [] u with
  | none=>none
  | some im=>match i9 (c.map (·.1)) k t im with | some k'=>i_ c k' l m | none=>none
 | _,_=>some k
structure Pl where
 s:Fm
 f:Fm
 c:Sco
mutual
def bJ (c:Sco):Fm->Fm->List Pl
 | .mk o n a s,.mk o' n' a' s'=>⟨.mk o n a s,.mk o' n' a' s',c⟩ :: aU (if bD o then (n,n') :: c else c) s s'
def aU (c:Sco):List Fm->List Fm->List Pl
 | t :: l,u :: m=>bJ c t u ++ aU c l m
 | _,_=>[]
end
def d_ (k:Bd) (p:Pl):Bd×Int:=
 if p.s.op=16 then (k,0)
 else if p.s.op=15 then match kv p.c [] p.f with
  | none=>(k,70)
  | some im=>match getB k.fs p.s.n with
   | none=>({ k with fs:=iE p.s.n im k.fs },0)
   | some g=>if eB [] g im then (k,0) else (k,70)
 else if p.s.op != p.f.op || (p.s.a.length != p.f.a.length || (p.s.s.length != p.f.s.length || (p.s.n != p.f.n && !bD p.s.op))) then (k,70)
 else match i_ p.c k.ts p.s.a p.f.a with
  | none=>(k,70)
  | some ts=>({ k with ts:=ts },0)
def bp (f:Fm):Str×Str:=match f.a with | x :: y :: _=>(cM x.n,y.n) | _=>([],[])
def kP (k:Bd) (p:Pl):Bd×Int:=
 if p.s.op != 16 then (k,0)
 else match getB k.fs p.s.n with
  | none=>(k,71)
  | some f=>match kv p.c [] p.f with
   | none=>(k,70)
   | some im=>
    if iC (bp p.s).1 f=0 then (if eB [] f im then (k,0) else (k,70))
    else match (match getB k.ts (bp p.s).2 with | some t=>some (t,k.ts) | none=>(jU f im (bp p.s).1).map fun t=>(t,iE (bp p.s).2 t k.ts)) with
     | none=>(k,70)
     | some (t,ts)=>if nodesF f+iC (bp p.s).1 f * (nodesT t - 1) != nodesF im then ({ k with ts:=ts },70)
      else if eB [] (iD (bp p.s).1 t f) im then ({ k with ts:=ts },0) else ({ k with ts:=ts },70)
def m8 (step:Bd->Pl->Bd×Int):Bd->List Pl->Bd×Int
 | k,[]=>(k,0)
 | k,p :: l=>match step k p with | (k',e)=>if e=0 then m8 step k' l else (k',e)
def jV (step:Bd->Pl->Bd×Int):Nat->Bd->List (Fm×Fm)->Bd×Nat×Int
 | _,k,[]=>(k,0,0)
 | i,k,(s,f) :: l=>match m8 step k (bJ [] s f) with | (k',e)=>if e=0 then jV step (i+1) k' l else (k',i,e)
def e8:Nat->List (Fm×Fm)->Option Nat
 | _,[]=>none
 | i,(s,f) :: l=>if schemaF s && dn f then e8 (i+1) l else some i
def dq (l:List (Fm×Fm)) (b:Bd):Bd×Nat×Int:=
 if !validB b then (⟨[],[]⟩,0,2)
 else match e8 0 l with
  | some i=>(⟨[],[]⟩,i,2)
  | none=>match jV d_ 0 b l with
   | (k,i,e)=>if e≠0 then (⟨[],[]⟩,i,e) else match jV kP 0 k l with
    | (k',i',e')=>if e'≠0 then (⟨[],[]⟩,i',e') else (k',0,0)
/-! filling -/
mutual
def f_ (k:List (Str×Tm)):Tm->Bool
 | .mk v n a=>if v && da n then (getB k n).isNone else jt k a
def jt (k:List (Str×Tm)):List Tm->Bool | []=>false | t :: l=>f_ k t || jt k l
end
def eV (k:Bd) (s:Fm):Bool:=
 if s.op != 15 && s.op != 16 then jt k.ts s.a
 else match getB k.fs s.n with
  | none=>true
  | some f=>if s.op=15 then false else (getB k.ts (bp s).2).isNone && decide (iC (bp s).1 f > 0)
def termOf (k:List (Str×Tm)) (n:Str):Tm:=match getB k n with | some t=>t | none=>.mk false [] []
def formOf (k:List (Str×Fm)) (n:Str):Fm:=match getB k n with | some t=>t | none=>.mk 0 [] [] []
mutual
def jx (k:List (Str×Tm)):Tm->List Str
 | .mk v n a=>if v && da n then (cm (aN (termOf k n))).filter dZ else dE k a
def dE (k:List (Str×Tm)):List Tm->List Str | []=>[] | t :: l=>jx k t ++ dE k l
end
def m_ (k:Bd) (s:Fm):List Str:=
 if s.op=15 then (cm (a_ [] (formOf k.fs s.n))).filter dZ
 else if s.op=16 then
  let l:=(cm (a_ [] (formOf k.fs s.n))).filter dZ
  if !l.contains (bp s).1 then l else l.filter (fun x=>x != (bp s).1) ++ (cm (aN (termOf k.ts (bp s).2))).filter dZ
 else dE k.ts s.a
def tK (k:Bd) (p:Pl):Bool:=(m_ k p.s).any fun x=>!(p.c.map (·.1)).contains x.tail
mutual
def nP (k:List (Str×Tm)):Tm->Nat
 | .mk v n a=>if v && da n then nodesT (termOf k n) else dQ k a+1
def dQ (k:List (Str×Tm)):List Tm->Nat | []=>0 | t :: l=>nP k t+dQ k l
end
def jF (k:Bd) (s:Fm):Nat:=
 if s.op=15 then nodesF (formOf k.fs s.n)
 else if s.op=16 then nodesF (formOf k.fs s.n)+iC (bp s).1 (formOf k.fs s.n) * (nodesT (termOf k.ts (bp s).2) - 1)
 else dQ k.ts s.a+1
def lk (k:Bd) (s:Fm):Int:=
 if (bJ [] s s).any (fun p=>eV k p.s) then 6
 else if (bJ [] s s).any (tK k) then 72
 else if ((bJ [] s s).map fun p=>jF k p.s).sum > 400 then 3 else 0
mutual
def bY (k:List (Str×Tm)) (c:List Str):Tm->Tm
 | .mk v n a=>if v && da n then termOf k n else if v && c.contains n then am (cM n) else .mk v n (cR k c a)
def cR (k:List (Str×Tm)) (c:List Str):List Tm->List Tm | []=>[] | t :: l=>bY k c t :: cR k c l
end
def na (op:Int) (n:Str) (a:List Tm) (g:Fm):Fm:=
 let m:=if (a_ [] g).contains n then dN (a_ [] g) else n
 .mk op m a [iD (cM n) (am m) g]
mutual
def cH (k:Bd) (c:List Str):Fm->Fm
 | .mk op n a s=>
  if op=15 then formOf k.fs n
  else if op=16 then (match a with
   | x :: y :: _=>if iC (cM x.n) (formOf k.fs n)=0 then formOf k.fs n else iD (cM x.n) (termOf k.ts y.n) (formOf k.fs n)
   | _=>.mk op n a s)
  else if bD op then (match eu k (n :: c) s with | g :: _=>na op n (cR k.ts c a) g | []=>.mk op n a s)
  else .mk op n (cR k.ts c a) (eu k c s)
def eu (k:Bd) (c:List Str):List Fm->List Fm | []=>[] | t :: l=>cH k c t :: eu k c l
end
def gB:Fm:=.mk 0 [] [] []
def kQ (s:Fm) (b:Bd):Fm×Int:=
 if !(schemaF s && validB b) then (gB,2)
 else if lk b s≠0 then (gB,lk b s)
 else if !dn (cH b [] s) then (gB,3) else (cH b [] s,0)
def Cells3 (W:World) (b o:Nat) (v:Value):Prop:=∃x0 x1 x2,v=.agg #[x0,x1,x2]/\W.cell? ⟨b,o,none⟩=some x0/\W.cell? ⟨b,o+1,none⟩=some x1/\W.cell? ⟨b,o+2,none⟩=some x2
def Cells4 (W:World) (b o:Nat) (v:Value):Prop:=∃x0 x1 x2 x3,v=.agg #[x0,x1,x2,x3]/\W.cell? ⟨b,o,none⟩=some x0/\W.cell? ⟨b,o+1,none⟩=some x1/\W.cell? ⟨b,o+2,none⟩=some x2/\W.cell? ⟨b,o+3,none⟩=some x3
theorem Cells3.kept {v:Value} (h:Cells3 W b o v) (hb:W'.heap[b]?=W.heap[b]?):Cells3 W' b o v:=by
 obtain ⟨x0,x1,x2,rfl,h0,h1,h2⟩:=h;exact ⟨x0,x1,x2,rfl,(World.cell?_of_block (a:=⟨b,o,none⟩) hb).trans h0,(World.cell?_of_block (a:=⟨b,o+1,none⟩) hb).trans h1,(World.cell?_of_block (a:=⟨b,o+2,none⟩) hb).trans h2⟩
theorem Cells4.kept {v:Value} (h:Cells4 W b o v) (hb:W'.heap[b]?=W.heap[b]?):Cells4 W' b o v:=by
 obtain ⟨x0,x1,x2,x3,rfl,h0,h1,h2,h3⟩:=h;exact ⟨x0,x1,x2,x3,rfl,(World.cell?_of_block (a:=⟨b,o,none⟩) hb).trans h0,(World.cell?_of_block (a:=⟨b,o+1,none⟩) hb).trans h1,(World.cell?_of_block (a:=⟨b,o+2,none⟩) hb).trans h2,(World.cell?_of_block (a:=⟨b,o+3,none⟩) hb).trans h3⟩
inductive TermV (ok:Nat->Prop) (W:World):Value->Tm->Prop
 | mk (v:Bool) (n:Str) (al:List Tm) (a:Option Addr) (cap:Nat) (vs:Nat->Value)
   (hs:al=[]\/∃b off,a=some ⟨b,off,none⟩/\ok b/\∀ j,j<al.length->Cells3 W b (off+j * 3) (vs j))
   (h:∀ j (hj:j<al.length),TermV ok W (vs j) al[j]):TermV ok W (.agg #[.bool v,.string ⟨n.toArray⟩,.slice a al.length cap]) (.mk v n al)
def TermsV (ok:Nat->Prop) (W:World) (v:Value) (l:List Tm):Prop:=∃(a:Option Addr) (cap:Nat) (vs:Nat->Value),v=.slice a l.length cap/\(l=[]\/∃b off,a=some ⟨b,off,none⟩/\ok b/\∀ j,j<l.length->Cells3 W b (off+j * 3) (vs j))/\∀ j (hj:j<l.length),TermV ok W (vs j) l[j]
theorem aV {v:Bool} {n:Str} {al:List Tm}:TermV ok W x (.mk v n al) ↔ ∃s,x=.agg #[.bool v,.string ⟨n.toArray⟩,s]/\TermsV ok W s al:=by
 constructor
 ·intro h
  cases h with
  | mk _ _ _ a cap vs hs h=>exact ⟨_,rfl,a,cap,vs,rfl,hs,h⟩
 ·rintro ⟨s,rfl,a,cap,vs,rfl,hs,h⟩;exact .mk v n al a cap vs hs h
inductive FormV (ok:Nat->Prop) (W:World):Value->Fm->Prop
 | mk (op:Int) (n:Str) (al:List Tm) (ss:List Fm) (va:Value) (a:Option Addr) (cap:Nat) (vs:Nat->Value) (ha:TermsV ok W va al)
   (hs:ss=[]\/∃b off,a=some ⟨b,off,none⟩/\ok b/\∀ j,j<ss.length->Cells4 W b (off+j * 4) (vs j))
   (h:∀ j (hj:j<ss.length),FormV ok W (vs j) ss[j]):FormV ok W (.agg #[.int .u8 op,.string ⟨n.toArray⟩,va,.slice a ss.length cap]) (.mk op n al ss)
def FormsV (ok:Nat->Prop) (W:World) (v:Value) (l:List Fm):Prop:=∃(a:Option Addr) (cap:Nat) (vs:Nat->Value),v=.slice a l.length cap/\(l=[]\/∃b off,a=some ⟨b,off,none⟩/\ok b/\∀ j,j<l.length->Cells4 W b (off+j * 4) (vs j))/\∀ j (hj:j<l.length),FormV ok W (vs j) l[j]
theorem aW {op:Int} {n:Str} {al:List Tm} {ss:List Fm}:FormV ok W x (.mk op n al ss) ↔ ∃va s,x=.agg #[.int .u8 op,.string ⟨n.toArray⟩,va,s]/\TermsV ok W va al/\FormsV ok W s ss:=by
 constructor
 ·intro h
  cases h with
  | mk _ _ _ _ va a cap vs ha hs h=>exact ⟨va,_,rfl,ha,a,cap,vs,rfl,hs,h⟩
 ·rintro ⟨va,s,rfl,ha,a,cap,vs,rfl,hs,h⟩;exact .mk op n al ss va a cap vs ha hs h
def gC (ok ok':Nat->Prop) (W W':World):Prop:=∀ b,ok b->b<W.heap.size->ok' b/\W'.heap[b]?=W.heap[b]?
theorem C0 {v:Value} (h:Cells3 W b o v):b<W.heap.size:=by
 obtain ⟨_,_,_,_,h0,_⟩:=h;exact World.block_lt_of_cell? W _ h0
theorem C4 {v:Value} (h:Cells4 W b o v):b<W.heap.size:=by
 obtain ⟨_,_,_,_,_,h0,_⟩:=h;exact World.block_lt_of_cell? W _ h0
theorem TermV.move (hb:gC ok ok' W W') {v:Value} {t:Tm} (h:TermV ok W v t):TermV ok' W' v t:=by
 induction h with
 | mk v n al a cap vs hs _ ih=>
  refine .mk v n al a cap vs ?_ ih;have pp292a:=();exact pm292
theorem TermsV.move (hb:gC ok ok' W W') {v:Value} {l:List Tm} (h:TermsV ok W v l):TermsV ok' W' v l:=by
 have pp220:=();exact pm220
theorem FormV.move (hb:gC ok ok' W W') {v:Value} {t:Fm} (h:FormV ok W v t):FormV ok' W' v t:=by
 induction h with
 | mk op n al ss va a cap vs ha hs _ ih=>
  refine .mk op n al ss va a cap vs (ha.move hb) ?_ ih;have pp292b:=();exact pm292
theorem FormsV.move (hb:gC ok ok' W W') {v:Value} {l:List Fm} (h:FormsV ok W v l):FormsV ok' W' v l:=by
 exact pm220
theorem dr (hb:Below W.heap.size W W'):gC ok ok W W':=fun b h hlt=>⟨h,hb.block b hlt⟩
theorem vQ (hb:Below W.heap.size W W'):gC ok (fun _=>True) W W':=fun b _ hlt=>⟨trivial,hb.block b hlt⟩
theorem TermV.later {v:Value} {t:Tm} (h:TermV ok W v t) (hb:Below W.heap.size W W'):TermV ok W' v t:=h.move (dr hb)
theorem TermsV.later {v:Value} {t:List Tm} (h:TermsV ok W v t) (hb:Below W.heap.size W W'):TermsV ok W' v t:=h.move (dr hb)
theorem FormV.later {v:Value} {t:Fm} (h:FormV ok W v t) (hb:Below W.heap.size W W'):FormV ok W' v t:=h.move (dr hb)
theorem FormsV.later {v:Value} {t:List Fm} (h:FormsV ok W v t) (hb:Below W.heap.size W W'):FormsV ok W' v t:=h.move (dr hb)
theorem TermV.any {v:Value} {t:Tm} (h:TermV ok W v t):TermV (fun _=>True) W v t:=h.move (fun _ _ _=>⟨trivial,rfl⟩)
theorem TermsV.any {v:Value} {t:List Tm} (h:TermsV ok W v t):TermsV (fun _=>True) W v t:=h.move (fun _ _ _=>⟨trivial,rfl⟩)
theorem FormV.any {v:Value} {t:Fm} (h:FormV ok W v t):FormV (fun _=>True) W v t:=h.move (fun _ _ _=>⟨trivial,rfl⟩)
theorem FormsV.any {v:Value} {t:List Fm} (h:FormsV ok W v t):FormsV (fun _=>True) W v t:=h.move (fun _ _ _=>⟨trivial,rfl⟩)
theorem b_ {a:Option Addr}:TermsV ok W (.slice a 0 cap) []:=⟨a,cap,fun _=>.bool false,rfl,.inl rfl,fun j hj=>by simp at hj⟩
theorem fB {a:Option Addr}:FormsV ok W (.slice a 0 cap) []:=⟨a,cap,fun _=>.bool false,rfl,.inl rfl,fun j hj=>by simp at hj⟩
structure TQ where
 v:Bool
 n:ByteArray
 a:Option Addr
 l:Nat
 c:Nat
def TQ.val (q:TQ):Value:=.agg #[.bool q.v,.string q.n,.slice q.a q.l q.c]
structure FQ where
 o:Int
 n:ByteArray
 a:Option Addr
 l:Nat
 c:Nat
 b:Option Addr
 m:Nat
 e:Nat
def FQ.val (q:FQ):Value:=.agg #[.int .u8 q.o,.string q.n,.slice q.a q.l q.c,.slice q.b q.m q.e]
theorem TermV.form {t:Tm} (h:TermV ok W x t):∃q:TQ,x=q.val/\q.v=t.v/\q.n=⟨t.n.toArray⟩/\q.l=t.a.length/\TermsV ok W (.slice q.a q.l q.c) t.a:=by
 cases h with
 | mk v n al a cap vs hs h=>exact ⟨⟨v,_,a,al.length,cap⟩,rfl,rfl,rfl,rfl,a,cap,vs,rfl,hs,h⟩
theorem FormV.form {t:Fm} (h:FormV ok W x t):∃q:FQ,x=q.val/\q.o=t.op/\q.n=⟨t.n.toArray⟩/\q.l=t.a.length/\q.m=t.s.length/\TermsV ok W (.slice q.a q.l q.c) t.a/\FormsV ok W (.slice q.b q.m q.e) t.s:=by
 cases h with
 | mk op n al ss va a cap vs ha hs h=>
  obtain ⟨a',zad,vs',rfl,hs',h'⟩:=ha;exact ⟨⟨op,_,a',al.length,zad,a,ss.length,cap⟩,rfl,rfl,rfl,rfl,rfl,⟨a',zad,vs',rfl,hs',h'⟩,a,cap,vs,rfl,hs,h⟩
theorem TermsV.get {a:Option Addr} {n:Nat} {l:List Tm} (h:TermsV ok W (.slice a n c) l) (hj:j<l.length) :
  ∃b off q,a=some ⟨b,off,none⟩/\ok b/\TermV ok W (TQ.val q) l[j]/\W.cell? ⟨b,off+j * 3,none⟩=some (.bool q.v)/\W.cell? ⟨b,off+j * 3+1,none⟩=some (.string q.n)/\W.cell? ⟨b,off+j * 3+2,none⟩=some (.slice q.a q.l q.c):=by
 obtain ⟨a',cap,vs,hv,hs,ht⟩:=h;have pp125a:=();exact pm125
theorem FormsV.get {a:Option Addr} {n:Nat} {l:List Fm} (h:FormsV ok W (.slice a n c) l) (hj:j<l.length) :
  ∃b off q,a=some ⟨b,off,none⟩/\ok b/\FormV ok W (FQ.val q) l[j]/\W.cell? ⟨b,off+j * 4,none⟩=some (.int .u8 q.o)/\W.cell? ⟨b,off+j * 4+1,none⟩=some (.string q.n)/\W.cell? ⟨b,off+j * 4+2,none⟩=some (.slice q.a q.l q.c)/\W.cell? ⟨b,off+j * 4+3,none⟩=some (.slice q.b q.m q.e):=by
 obtain ⟨a',cap,vs,hv,hs,ht⟩:=h;have pp125b:=();exact pm125
theorem TermsV.len {a:Option Addr} {n:Nat} {l:List Tm} (h:TermsV ok W (.slice a n c) l):n=l.length:=by
 obtain ⟨_,_,_,hv,_⟩:=h;injection hv
theorem FormsV.len {a:Option Addr} {n:Nat} {l:List Fm} (h:FormsV ok W (.slice a n c) l):n=l.length:=by
 obtain ⟨_,_,_,hv,_⟩:=h;injection hv
theorem TermsV.slice {v:Value} {l:List Tm} (h:TermsV ok W v l):∃a c,v=.slice a l.length c:=by obtain ⟨a,c,_,hv,_⟩:=h;exact ⟨a,c,hv⟩
theorem FormsV.slice {v:Value} {l:List Fm} (h:FormsV ok W v l):∃a c,v=.slice a l.length c:=by obtain ⟨a,c,_,hv,_⟩:=h;exact ⟨a,c,hv⟩
def FBindsV (ok:Nat->Prop) (W:World) (v:Value) (l:List (Str×Fm)):Prop:=∃(a:Option Addr) (cap:Nat) (qs:Nat->FQ),v=.slice a l.length cap/\l.length<=cap ∧
 (l=[]\/∃b off,a=some ⟨b,off,none⟩/\ok b/\∀ j (h:j<l.length),W.cell? ⟨b,off+j * 5,none⟩=some (.string ⟨l[j].1.toArray⟩)/\W.cell? ⟨b,off+j * 5+1,none⟩=some (.int .u8 (qs j).o)/\W.cell? ⟨b,off+j * 5+2,none⟩=some (.string (qs j).n)/\W.cell? ⟨b,off+j * 5+3,none⟩=some (.slice (qs j).a (qs j).l (qs j).c)/\W.cell? ⟨b,off+j * 5+4,none⟩=some (.slice (qs j).b (qs j).m (qs j).e)) ∧
 ∀ j (h:j<l.length),FormV ok W (qs j).val l[j].2
def TBindsV (ok:Nat->Prop) (W:World) (v:Value) (l:List (Str×Tm)):Prop:=∃(a:Option Addr) (cap:Nat) (qs:Nat->TQ),v=.slice a l.length cap/\l.length<=cap ∧
 (l=[]\/∃b off,a=some ⟨b,off,none⟩/\ok b/\∀ j (h:j<l.length),W.cell? ⟨b,off+j * 4,none⟩=some (.string ⟨l[j].1.toArray⟩)/\W.cell? ⟨b,off+j * 4+1,none⟩=some (.bool (qs j).v)/\W.cell? ⟨b,off+j * 4+2,none⟩=some (.string (qs j).n)/\W.cell? ⟨b,off+j * 4+3,none⟩=some (.slice (qs j).a (qs j).l (qs j).c)) ∧
 ∀ j (h:j<l.length),TermV ok W (qs j).val l[j].2
def SPairsV (ok:Nat->Prop) (W:World) (v:Value) (l:List (Fm×Fm)):Prop:=∃(a:Option Addr) (cap:Nat) (ps qs:Nat->FQ),v=.slice a l.length cap/\l.length<=cap ∧
 (l=[]\/∃b off,a=some ⟨b,off,none⟩/\ok b/\∀ j (h:j<l.length),W.cell? ⟨b,off+j * 8,none⟩=some (.int .u8 (ps j).o)/\W.cell? ⟨b,off+j * 8+1,none⟩=some (.string (ps j).n)/\W.cell? ⟨b,off+j * 8+2,none⟩=some (.slice (ps j).a (ps j).l (ps j).c)/\W.cell? ⟨b,off+j * 8+3,none⟩=some (.slice (ps j).b (ps j).m (ps j).e) ∧
   W.cell? ⟨b,off+j * 8+4,none⟩=some (.int .u8 (qs j).o)/\W.cell? ⟨b,off+j * 8+5,none⟩=some (.string (qs j).n)/\W.cell? ⟨b,off+j * 8+6,none⟩=some (.slice (qs j).a (qs j).l (qs j).c)/\W.cell? ⟨b,off+j * 8+7,none⟩=some (.slice (qs j).b (qs j).m (qs j).e)) ∧
 ∀ j (h:j<l.length),FormV ok W (ps j).val l[j].1/\FormV ok W (qs j).val l[j].2
structure BQ where
 a:Option Addr
 l:Nat
 c:Nat
 b:Option Addr
 m:Nat
 e:Nat
def BQ.val (q:BQ):Value:=.agg #[.slice q.a q.l q.c,.slice q.b q.m q.e]
def BindV (ok:Nat->Prop) (W:World) (q:BQ) (b:Bd):Prop:=FBindsV ok W (.slice q.a q.l q.c) b.fs/\TBindsV ok W (.slice q.b q.m q.e) b.ts
theorem de {v:Value} (hb:W'.heap[b]?=W.heap[b]?) (h:W.cell? ⟨b,o,none⟩=some v):W'.cell? ⟨b,o,none⟩=some v:=(World.cell?_of_block (a:=⟨b,o,none⟩) hb).trans h
theorem FBindsV.move (hb:gC ok ok' W W') {v:Value} {l:List (Str×Fm)} (h:FBindsV ok W v l):FBindsV ok' W' v l:=by
 have pp203:=();exact pm203
theorem TBindsV.move (hb:gC ok ok' W W') {v:Value} {l:List (Str×Tm)} (h:TBindsV ok W v l):TBindsV ok' W' v l:=by
 exact pm203
theorem SPairsV.move (hb:gC ok ok' W W') {v:Value} {l:List (Fm×Fm)} (h:SPairsV ok W v l):SPairsV ok' W' v l:=by
 obtain ⟨a,cap,ps,qs,hv,hc,hs,hf⟩:=h;refine ⟨a,cap,ps,qs,hv,hc,?_,fun j hj=>⟨(hf j hj).1.move hb,(hf j hj).2.move hb⟩⟩;rcases hs with hs | ⟨b,off,ha,hok,hcl⟩
 ·exact .inl hs
 ·by_cases h0:l=[]
  ·exact .inl h0
  ·have hk:=hb b hok (World.block_lt_of_cell? W _ (hcl 0 (ie.2 h0)).1);refine .inr ⟨b,off,ha,hk.1,fun j hj=>?_⟩;obtain ⟨h0,h1,h2,h3,h4,h5,h6,h7⟩:=hcl j hj;exact ⟨de hk.2 h0,de hk.2 h1,de hk.2 h2,de hk.2 h3,de hk.2 h4,de hk.2 h5,de hk.2 h6,de hk.2 h7⟩
theorem BindV.move (hb:gC ok ok' W W') {q:BQ} {b:Bd} (h:BindV ok W q b):BindV ok' W' q b:=⟨h.1.move hb,h.2.move hb⟩
theorem FBindsV.later {v:Value} {l:List (Str×Fm)} (h:FBindsV ok W v l) (hb:Below W.heap.size W W'):FBindsV ok W' v l:=h.move (dr hb)
theorem TBindsV.later {v:Value} {l:List (Str×Tm)} (h:TBindsV ok W v l) (hb:Below W.heap.size W W'):TBindsV ok W' v l:=h.move (dr hb)
theorem SPairsV.later {v:Value} {l:List (Fm×Fm)} (h:SPairsV ok W v l) (hb:Below W.heap.size W W'):SPairsV ok W' v l:=h.move (dr hb)
theorem BindV.later {q:BQ} {b:Bd} (h:BindV ok W q b) (hb:Below W.heap.size W W'):BindV ok W' q b:=h.move (dr hb)
theorem FBindsV.len {a:Option Addr} {n:Nat} {l:List (Str×Fm)} (h:FBindsV ok W (.slice a n c) l):n=l.length:=by
 obtain ⟨_,_,_,hv,_⟩:=h;injection hv
theorem TBindsV.len {a:Option Addr} {n:Nat} {l:List (Str×Tm)} (h:TBindsV ok W (.slice a n c) l):n=l.length:=by
 obtain ⟨_,_,_,hv,_⟩:=h;injection hv
theorem SPairsV.len {a:Option Addr} {n:Nat} {l:List (Fm×Fm)} (h:SPairsV ok W (.slice a n c) l):n=l.length:=by
 obtain ⟨_,_,_,_,hv,_⟩:=h;injection hv
theorem FBindsV.slice {v:Value} {l:List (Str×Fm)} (h:FBindsV ok W v l):∃a c,v=.slice a l.length c:=by obtain ⟨a,c,_,hv,_⟩:=h;exact ⟨a,c,hv⟩
theorem TBindsV.slice {v:Value} {l:List (Str×Tm)} (h:TBindsV ok W v l):∃a c,v=.slice a l.length c:=by obtain ⟨a,c,_,hv,_⟩:=h;exact ⟨a,c,hv⟩
theorem SPairsV.slice {v:Value} {l:List (Fm×Fm)} (h:SPairsV ok W v l):∃a c,v=.slice a l.length c:=by obtain ⟨a,c,_,_,hv,_⟩:=h;exact ⟨a,c,hv⟩
theorem FBindsV.get {a:Option Addr} {n:Nat} {l:List (Str×Fm)} (h:FBindsV ok W (.slice a n c) l) (hj:j<l.length) :
  ∃b off,∃q:FQ,a=some ⟨b,off,none⟩/\ok b/\FormV ok W q.val l[j].2/\W.cell? ⟨b,off+j * 5,none⟩=some (.string ⟨l[j].1.toArray⟩)/\W.cell? ⟨b,off+j * 5+1,none⟩=some (.int .u8 q.o)/\W.cell? ⟨b,off+j * 5+2,none⟩=some (.string q.n)/\W.cell? ⟨b,off+j * 5+3,none⟩=some (.slice q.a q.l q.c)/\W.cell? ⟨b,off+j * 5+4,none⟩=some (.slice q.b q.m q.e):=by
 obtain ⟨a',cap,qs,hv,_,hs,hf⟩:=h;have pp125c:=();exact pm125
theorem TBindsV.get {a:Option Addr} {n:Nat} {l:List (Str×Tm)} (h:TBindsV ok W (.slice a n c) l) (hj:j<l.length) :
  ∃b off,∃q:TQ,a=some ⟨b,off,none⟩/\ok b/\TermV ok W q.val l[j].2/\W.cell? ⟨b,off+j * 4,none⟩=some (.string ⟨l[j].1.toArray⟩)/\W.cell? ⟨b,off+j * 4+1,none⟩=some (.bool q.v)/\W.cell? ⟨b,off+j * 4+2,none⟩=some (.string q.n)/\W.cell? ⟨b,off+j * 4+3,none⟩=some (.slice q.a q.l q.c):=by
 obtain ⟨a',cap,qs,hv,_,hs,hf⟩:=h;have pp125c:=();exact pm125
theorem SPairsV.get {a:Option Addr} {n:Nat} {l:List (Fm×Fm)} (h:SPairsV ok W (.slice a n c) l) (hj:j<l.length) :
  ∃b off,∃p q:FQ,a=some ⟨b,off,none⟩/\ok b/\FormV ok W p.val l[j].1/\FormV ok W q.val l[j].2/\W.cell? ⟨b,off+j * 8,none⟩=some (.int .u8 p.o)/\W.cell? ⟨b,off+j * 8+1,none⟩=some (.string p.n)/\W.cell? ⟨b,off+j * 8+2,none⟩=some (.slice p.a p.l p.c)/\W.cell? ⟨b,off+j * 8+3,none⟩=some (.slice p.b p.m p.e) ∧
   W.cell? ⟨b,off+j * 8+4,none⟩=some (.int .u8 q.o)/\W.cell? ⟨b,off+j * 8+5,none⟩=some (.string q.n)/\W.cell? ⟨b,off+j * 8+6,none⟩=some (.slice q.a q.l q.c)/\W.cell? ⟨b,off+j * 8+7,none⟩=some (.slice q.b q.m q.e):=by
 obtain ⟨a',cap,ps,qs,hv,_,hs,hf⟩:=h;exact pm125
