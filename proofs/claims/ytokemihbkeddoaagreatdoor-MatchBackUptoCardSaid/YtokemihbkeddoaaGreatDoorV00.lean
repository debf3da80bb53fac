/-
Short names for much used terms (compact.py puts them in).
-/
import Derived.Test.YtokemihbkeddoaaGreatDoorProg
import Derived.Test.YtokemihbkeddoaaGreatDoorW00
import Derived.Test.YtokemihbkeddoaaGreatDoorW01
import Derived.Test.YtokemihbkeddoaaGreatDoorW02
namespace Go.Proofs.YtokemihbkeddoaaGreatDoor
open Go Go.RowKit Lib
set_option maxRecDepth 100000
set_option maxHeartbeats 64000000
variable {α:Type} {p:Prop} {P:Program} {args:Array Value} {R:Ending->World->Prop}
theorem ae:type_of% @Bool.and_eq_true:=@Bool.and_eq_true
theorem ap:type_of% @List.getElem_mem:=@List.getElem_mem
theorem ai:type_of% @Below.refl:=@Below.refl
theorem bJ:type_of% @Nat.lt_of_lt_of_le:=@Nat.lt_of_lt_of_le
theorem aN:type_of% @Nat.le_trans:=@Nat.le_trans
theorem aC:type_of% @Nat.le_refl:=@Nat.le_refl
theorem aX:type_of% @Nat.zero_le:=@Nat.zero_le
theorem bH:type_of% @Below.heap_alloc:=@Below.heap_alloc
theorem eC:type_of% @Below.heap_setCell:=@Below.heap_setCell
theorem bO:type_of% @Bool.false_eq_true:=@Bool.false_eq_true
theorem eT:type_of% @List.length_cons:=@List.length_cons
theorem gB:type_of% @List.drop_eq_getElem_cons:=@List.drop_eq_getElem_cons
theorem io:type_of% @List.getElem?_eq_getElem:=@List.getElem?_eq_getElem
theorem cK:type_of% @List.take_length:=@List.take_length
theorem cU:type_of% @List.length_append:=@List.length_append
theorem fD:type_of% @World.alloc_heap_new:=@World.alloc_heap_new
theorem dS:type_of% @List.length_take:=@List.length_take
theorem cC:type_of% @List.map_cons:=@List.map_cons
theorem jp:type_of% @List.length_pos_iff:=@List.length_pos_iff
theorem j6:type_of% @List.eq_nil_of_length_eq_zero:=@List.eq_nil_of_length_eq_zero
theorem c9:type_of% @Option.some.injEq:=@Option.some.injEq
theorem dz:type_of% @Bool.true_and:=@Bool.true_and
theorem gT:type_of% @List.drop_eq_nil_of_le:=@List.drop_eq_nil_of_le
theorem fL:type_of% @List.mem_cons_of_mem:=@List.mem_cons_of_mem
theorem br:type_of% @decide_eq_true_eq:=@decide_eq_true_eq
theorem aH:type_of% @callsIn_wide:=@callsIn_wide
theorem bK:type_of% @bodyPost_ret:=@bodyPost_ret
theorem iP:type_of% @List.take_of_length_le:=@List.take_of_length_le
theorem cG:type_of% @List.mem_cons:=@List.mem_cons
theorem gp:type_of% @List.mem_cons_self:=@List.mem_cons_self
theorem bP:type_of% @List.cons.injEq:=@List.cons.injEq
theorem mh:type_of% @List.take_succ_eq_append_getElem:=@List.take_succ_eq_append_getElem
theorem cr:type_of% @Value.agg.injEq:=@Value.agg.injEq
theorem ej:type_of% @beq_iff_eq:=@beq_iff_eq
theorem bX:type_of% @wpIn_seq_k:=@wpIn_seq_k
theorem gU:type_of% @IntWalk.i64_in:=@IntWalk.i64_in
theorem ak:type_of% @if_neg:=@if_neg
theorem aw:type_of% @if_pos:=@if_pos
theorem oB:type_of% @World.putObj_heap_other:=@World.putObj_heap_other
theorem sS:type_of% @List.nil_append:=@List.nil_append
theorem oC:type_of% @List.cons_append:=@List.cons_append
theorem ip:type_of% @Bool.eq_iff_iff:=@Bool.eq_iff_iff
theorem lE:(∀ l:List α,l.toArray.size=l.length)/\(∀ (a:α) (l:List α),(a :: l).length=l.length+1)/\(([]:List α).length=0)/\(∀ (n:Nat) (a:α),Array.replicate (n+1) a=(Array.replicate n a).push a)/\(∀ a:α,Array.replicate 0 a=#[])/\(∀ (l:List α) (a:α),l.toArray.push a=(l ++ [a]).toArray)/\(∀ l m:List α,l.toArray ++ m.toArray=(l ++ m).toArray)/\(∀ l:List α,[] ++ l=l)/\(∀ (a:α) (l m:List α),(a :: l) ++ m=a :: (l ++ m)):=by
  refine ⟨?_,?_,?_,?_,?_,?_,?_,?_,?_⟩ <;> intros <;> simp[Array.replicate_succ]
theorem bA {l:Array α} {i:Nat} {a:α} (h:l[i]?=some a):i<l.size:=(Array.getElem?_eq_some_iff.1 h).1
theorem cI {w:World} {o:Obj}:Below w.heap.size w (w.alloc o):=(ai _ _).alloc (aC _) _
theorem lsa (l:List α) (i:Nat) (a:α):l.toArray.setIfInBounds i a=(l.set i a).toArray:=by simp
theorem lsb (a b:α) (l:List α):(a :: l).set 0 b=b :: l:=rfl
theorem lsc (a b:α) (l:List α) (n:Nat):(a :: l).set (n+1) b=a :: l.set n b:=rfl
def Hd (p:Prop):Prop:=p
theorem Hd.o (h:Hd p):p:=h
theorem ab (h:p):Hd p:=h
theorem aj {α:Sort _} (a:α):∃x,x=a:=⟨a,rfl⟩
theorem cb {a b c:Nat} (h:b=c) (l:a<b):a<c:=h ▸ l
theorem bN {W w:World} {b:Nat} {o:Obj} (hb:Below W.heap.size W w) (h:W.heap[b]?=some o):w.heap[b]?=some o:=(hb.block b (bA h)).trans h
theorem af:(∀ (l:List α) (i:Nat) (a:α),l.toArray.setIfInBounds i a=(l.set i a).toArray)/\(∀ (a b:α) (l:List α),(a :: l).set 0 b=b :: l)/\(∀ (a b:α) (l:List α) (n:Nat),(a :: l).set (n+1) b=a :: l.set n b):=⟨lsa,lsb,lsc⟩
section
variable {a b c d e f g h i j k l m n:Prop}
theorem an3 (A:a) (B:b) (C:c):a/\b/\c:=⟨A,B,C⟩
theorem an4 (A:a) (B:b) (C:c) (D:d):a/\b/\c/\d:=⟨A,B,C,D⟩
theorem UR (A:a) (B:b) (C:c) (D:d) (E:e) (F:f) (G:g):a/\b/\c/\d/\e/\f/\g:=⟨A,B,C,D,E,F,G⟩
theorem an8 (A:a) (B:b) (C:c) (D:d) (E:e) (F:f) (G:g) (H:h):a/\b/\c/\d/\e/\f/\g/\h:=⟨A,B,C,D,E,F,G,H⟩
theorem zaE (A:a) (B:b) (C:c) (D:d) (E:e) (F:f) (G:g) (H:h) (I:i) (J:j):a/\b/\c/\d/\e/\f/\g/\h/\i/\j:=⟨A,B,C,D,E,F,G,H,I,J⟩
theorem aA (A:a) (B:b):Hd (a/\b):=⟨A,B⟩
theorem bx (A:a) (B:b) (C:c):Hd (a/\b/\c):=⟨A,B,C⟩
theorem cq (A:a) (B:b) (C:c) (D:d):Hd (a/\b/\c/\d):=⟨A,B,C,D⟩
theorem fG (A:a) (B:b) (C:c) (D:d) (E:e):Hd (a/\b/\c/\d/\e):=⟨A,B,C,D,E⟩
theorem sC (A:a) (B:b) (C:c) (D:d) (E:e) (F:f):Hd (a/\b/\c/\d/\e/\f):=⟨A,B,C,D,E,F⟩
theorem aS (A:a) (B:b):Hd a/\Hd b:=⟨A,B⟩
theorem cE (A:a) (B:b) (C:c):Hd a/\Hd b/\Hd c:=⟨A,B,C⟩
theorem eD (A:a) (B:b) (C:c) (D:d):Hd a/\Hd b/\Hd c/\Hd d:=⟨A,B,C,D⟩
theorem qt (A:a) (B:b) (C:c) (D:d) (E:e):Hd a/\Hd b/\Hd c/\Hd d/\Hd e:=⟨A,B,C,D,E⟩
theorem QJ (A:a) (B:b) (C:c) (D:d) (E:e) (F:f):Hd a/\Hd b/\Hd c/\Hd d/\Hd e/\Hd f:=⟨A,B,C,D,E,F⟩
theorem Zc (A:a) (B:b) (C:c) (D:d) (E:e) (F:f) (G:g):Hd a/\Hd b/\Hd c/\Hd d/\Hd e/\Hd f/\Hd g:=⟨A,B,C,D,E,F,G⟩
theorem US (A:a) (B:b) (C:c) (D:d) (E:e) (F:f) (G:g) (H:h):Hd a/\Hd b/\Hd c/\Hd d/\Hd e/\Hd f/\Hd g/\Hd h:=⟨A,B,C,D,E,F,G,H⟩
theorem MY (A:a) (B:b) (C:c) (D:d) (E:e) (F:f) (G:g) (H:h) (I:i) (J:j):Hd a/\Hd b/\Hd c/\Hd d/\Hd e/\Hd f/\Hd g/\Hd h/\Hd i/\Hd j:=⟨A,B,C,D,E,F,G,H,I,J⟩
end
theorem jG {w:World} {o:Obj} {k:Nat} (h:k=w.heap.size):(w.alloc o).heap[k]?=some o:=by rw[h];exact fD w o
section
variable {w W:World} {o1 o2 o3 o4 o5:Obj}
theorem cM (h:W=w.alloc o1):Below w.heap.size w W:=by rw[h];exact cI
theorem bS (h:W=w.alloc o1):W.heap[w.heap.size]?=some o1:=by rw[h];exact jG (by simp)
theorem Gb (h:W=w.alloc o1):W.heap.size=w.heap.size+1:=by rw[h];simp
theorem k_ (h:W=(w.alloc o1).alloc o2):Below w.heap.size w W:=by rw[h];exact cI.alloc (by simp <;> omega) _
theorem qM (h:W=(w.alloc o1).alloc o2):W.heap[w.heap.size]?=some o1:=by rw[h];exact (bH _ _ _ (by simp <;> omega)).trans (jG (by simp))
theorem jH (h:W=(w.alloc o1).alloc o2):W.heap[w.heap.size+1]?=some o2:=by rw[h];exact jG (by simp)
theorem xC (h:W=(w.alloc o1).alloc o2):W.heap.size=w.heap.size+2:=by rw[h];simp
theorem uS (h:W=((w.alloc o1).alloc o2).alloc o3):Below w.heap.size w W:=by rw[h];exact (cI.alloc (by simp <;> omega) _).alloc (by simp <;> omega) _
theorem yX (h:W=((w.alloc o1).alloc o2).alloc o3):W.heap[w.heap.size]?=some o1:=by rw[h];exact (bH _ _ _ (by simp <;> omega)).trans ((bH _ _ _ (by simp <;> omega)).trans (jG (by simp)))
theorem qN (h:W=((w.alloc o1).alloc o2).alloc o3):W.heap[w.heap.size+1]?=some o2:=by rw[h];exact (bH _ _ _ (by simp <;> omega)).trans (jG (by simp))
theorem oD (h:W=((w.alloc o1).alloc o2).alloc o3):W.heap[w.heap.size+1+1]?=some o3:=by rw[h];exact jG (by simp)
theorem Ir (h:W=((w.alloc o1).alloc o2).alloc o3):W.heap.size=w.heap.size+3:=by rw[h];simp
theorem UT (h:W=(((w.alloc o1).alloc o2).alloc o3).alloc o4):Below w.heap.size w W:=by rw[h];exact ((cI.alloc (by simp <;> omega) _).alloc (by simp <;> omega) _).alloc (by simp <;> omega) _
theorem QK (h:W=(((w.alloc o1).alloc o2).alloc o3).alloc o4):W.heap[w.heap.size]?=some o1:=by rw[h];exact (bH _ _ _ (by simp <;> omega)).trans ((bH _ _ _ (by simp <;> omega)).trans ((bH _ _ _ (by simp <;> omega)).trans (jG (by simp))))
theorem Xs (h:W=(((w.alloc o1).alloc o2).alloc o3).alloc o4):W.heap[w.heap.size+1]?=some o2:=by rw[h];exact (bH _ _ _ (by simp <;> omega)).trans ((bH _ _ _ (by simp <;> omega)).trans (jG (by simp)))
theorem Xt (h:W=(((w.alloc o1).alloc o2).alloc o3).alloc o4):W.heap[w.heap.size+1+1]?=some o3:=by rw[h];exact (bH _ _ _ (by simp <;> omega)).trans (jG (by simp))
theorem QL (h:W=(((w.alloc o1).alloc o2).alloc o3).alloc o4):W.heap[w.heap.size+1+1+1]?=some o4:=by rw[h];exact jG (by simp)
theorem Zd (h:W=(((w.alloc o1).alloc o2).alloc o3).alloc o4):W.heap.size=w.heap.size+4:=by rw[h];simp
end
theorem Is {f:FuncId} {w:World} (h:CallsIn Fence.wide 3 P f args w R):Calls P f args w R:=aH.1 h
theorem nG {f:FuncId} {fn:Func} {w:World} (hf:P.funcs[f]?=some fn) {c:Code} (h:c.wpIn Fence.wide 3 P (bodyPost P fn R) { tmps:=args ++ Array.replicate (fn.ntmps - args.size) undef,defers:=[] } w) (hb:fn.body=some c:=by rfl):Calls P f args w R:=aH.1 (callsIn_of_wp hf hb trivial h rfl)
theorem eU:∀ f,Fence.wide.fn f:=fun _=>trivial
end Go.Proofs.YtokemihbkeddoaaGreatDoor
namespace Go.Proofs.YtokemihbkeddoaaGreatDoor
open Go
variable {i j cO id:Nat} {o oi:Oper} {v:Value} {a:Act} {K:Act->World->Prop} {w:World} {listed:Array Bool}
section
variable {F:Fence} {n:Nat} {P:Program} {ops:Array Oper} {Q:Exit->Act->World->Prop} {md:Region.Mode} {S:World->Prop} {e:Nat}
def iQ (F:Fence) (ops:Array Oper):Prop:=∀ (j:Nat) (o:Oper),ops[j]?=some o->∀ ρ,Oper.semAt F.round ρ o=execOp ρ o
def mU (o:Oper):Bool:=match o.op with | .defer _=>false | _=>true
theorem It (h:ops.toList.all mU=true):iQ F ops:=fun j o ho ρ=>by
 cases hr:F.round with
 | none=>exact Oper.semAt_none _ _
 | some l=>
  refine Oper.semAt_some l ρ o (fun c hc=>?_);have hm:o∈ops.toList:=by
   have:=List.mem_of_getElem? (l:=ops.toList) (i:=j) (a:=o) (by simpa using ho);exact this
  have:=List.all_eq_true.1 h o hm;unfold mU at this;rw[hc]at this;cases this
def YieldsM (P:Program) (ops:Array Oper) (S:World->Prop) (o:Oper) (v:Value) (a:Act):Prop:=YieldsIf P ops S o v a/\∀ w,o.about P w a.eval=none
theorem AK (qO:iQ F ops) (hi:ops[i]?=some o) (hy:YieldsM P ops S o v a) (hS:S w) (h:K (a.put o.dst v) w):wpOpIn F n P ops Q i K a w:=by
 unfold wpOpIn;simp only[hi];have D2:∀ f,o.about P w a.eval=some f->F.fn f:=fun f hf=>by rw[hy.2 w]at hf;cases hf
 rcases hy.1 with ⟨hw,hv⟩ | ⟨hw,rfl⟩
 ·simp only[hw,if_true,Oper.wpIn,qO i o hi,hv w hS,Oper.uponIn];exact ⟨D2,h⟩
 ·simp only[hw,bO,if_false];exact ⟨D2,h⟩
theorem YieldsM.of_same {a':Act} (hy:YieldsM P ops S o v a) (he:execOp a'.eval o=execOp a.eval o)
  (hw:Region.wanted o (yielded ops a'.tmps)=Region.wanted o (yielded ops a.tmps)) (hb:∀ w,o.about P w a'.eval=o.about P w a.eval):YieldsM P ops S o v a':=
 ⟨hy.1.of_same he hw,fun w=>by rw[hb w];exact hy.2 w⟩
theorem Iu {oj:Oper} (qO:iQ F ops) (hj:ops[j]?=some oj) (hap:oi.apart ops oj=true)
  (hsi:∀ cs b,oi.op≠.select cs b) (hsj:∀ cs b,oj.op≠.select cs b)
  (hQ:∀ c a w,Q (.panic c) (a.put oi.dst v) w->Q (.panic c) a w) {K:Act->World->Prop} {a:Act} {w:World}
  (hy:YieldsM P ops S oi v a) (h:wpOpIn F n P ops Q j K (a.put oi.dst v) w) :
  wpOpIn F n P ops Q j (fun a' w'=>YieldsM P ops S oi v a'/\K (a'.put oi.dst v) w') a w:=by
 obtain ⟨h1,h2,h3⟩:=Oper.apart_spec hap;have keep:∀ (a:Act),YieldsM P ops S oi v a->∀ u,YieldsM P ops S oi v (a.put oj.dst u):=fun a hy u=>
  hy.of_same (execOp_put oi hsi a oj.dst u h3) (wanted_put oi a oj.dst u h3) (fun w=>about_put oi w a oj.dst u h3)
 have zaF:∀ d,YieldsM P ops S oi v { a with defers:=d :: a.defers }:=fun d=>hy.of_same rfl rfl (fun _=>rfl);have hse:=qO j oj hj;unfold wpOpIn at *;simp only[hj]at h ⊢;rw[wanted_put oj a oi.dst v h1,about_put oj w a oi.dst v h1]at h;split
 ·rename_i hw;simp only[hw,if_true]at h;unfold Oper.wpIn at *;rw[about_put oj w a oi.dst v h1]at h;refine ⟨h.1,?_⟩;have h:=h.2;rw[hse,execOp_put oj hsj a oi.dst v h1]at h;rw[hse];generalize (execOp a.eval oj).run P w=r at *
  cases r with
  | ok x w'=>
   cases x <;> simp only[Oper.uponIn]at h ⊢
   case value u=>exact ⟨keep a hy u,by rw[<-Act.put_comm a v u h2];exact h⟩
   case skip=>exact ⟨keep a hy _,by rw[<-Act.put_comm a v undef h2];exact h⟩
   case defer d=>
    refine ⟨keep _ (zaF d) _,?_⟩;rw[<-Act.put_comm _ v undef h2,<-Act.put_defers];exact h
   case enter f args=>
    refine ⟨h.1,CallsIn.mono h.2 fun e QM he=>?_⟩;exact qdZ
   case row row args=>exact ⟨h.1,RowsIn.mono h.2 fun u QM he=>⟨keep a hy u,by rw[<-Act.put_comm a v u h2];exact he⟩⟩
   case round l f tmps assign body=>
    refine ⟨h.1,RoundIn.mono h.2 fun e QM he=>?_⟩;exact qdZ
  | halt x w'=>
   cases x <;> simp only[Oper.uponIn]at h ⊢
   case panic u=>exact hQ _ _ _ h
 ·rename_i hw;simp only[hw]at h;exact ⟨h.1,keep a hy _,by rw[<-Act.put_comm a v undef h2];exact h.2⟩
def Iv (md:Region.Mode) (ops:Array Oper) (i:Nat):Nat->Nat->Bool
 | 0,_=>false
 | d+1,j=>match ops[j]? with
  | none=>false
  | some oj=>oj.after.any fun ed=>Region.binds md ed && (ed.on == i || Iv md ops i d ed.on)
def ET (md:Region.Mode) (ops:Array Oper) (e i:Nat):Bool:=(List.range ops.size).all fun j=>decide (j<e) || Iv md ops i ops.size j
def xD (md:Region.Mode) (ops:Array Oper) (listed:Array Bool):Prop:=∀ j oj,ops[j]?=some oj->listed.getD j false=true->∀ ed∈oj.after,Region.binds md ed=true->listed.getD ed.on false=true
def rS (md:Region.Mode) (ops:Array Oper) (listed:Array Bool):Bool:=(List.range ops.size).all fun j=>match ops[j]? with
 | none=>true
 | some oj=>!listed.getD j false || oj.after.all fun ed=>!Region.binds md ed || listed.getD ed.on false
theorem EU {md:Region.Mode} {ops:Array Oper} (h:rS md ops listed=true):xD md ops listed:=fun j oj hj hl ed Xu hb=>by
 have h1:=List.all_eq_true.1 h j (List.mem_range.2 (bA hj));simp only[hj,hl,Bool.not_true,Bool.false_or]at h1;have h2:=Array.all_eq_true'.1 h1 ed Xu;simpa[hb] using h2
theorem AL {md:Region.Mode} {ops:Array Oper} (hc:xD md ops listed):∀ (d j:Nat),listed.getD j false=true->Iv md ops i d j=true->listed.getD i false=true
 | 0,_,_,h=>by simp[Iv]at h
 | d+1,j,hl,h=>by
  unfold Iv at h
  cases hj:ops[j]? with
  | none=>simp[hj]at h
  | some oj=>
   simp only[hj]at h;have qlk:=();exact qd0
theorem Oo {md:Region.Mode} {ops:Array Oper} (hc:xD md ops listed) (hr:j∈Region.ready md ops listed) {d:Nat} (h:Iv md ops i d j=true):listed.getD i false=true:=by
 obtain ⟨_,oj,hoj,eJ⟩:=mem_ready.1 hr
 cases d with
 | zero=>simp[Iv]at h
 | succ d=>
  unfold Iv at h;simp only[hoj]at h;exact qd0
theorem K7 {md:Region.Mode} {ops:Array Oper} (hc:xD md ops listed) (hr:i∈Region.ready md ops listed):xD md ops (listed.setIfInBounds i true):=fun j oj hj hl ed Xu hb=>by
 obtain ⟨_,oi,hoi,eJ⟩:=mem_ready.1 hr
 by_cases hij:i=j
 ·subst hij;have:oj=oi:=Option.some.inj (hj.symm.trans hoi);subst this;exact getD_set_true (eJ ed Xu hb)
 ·rw[getD_set_ne false hij]at hl;exact getD_set_true (hc j oj hj hl ed Xu hb)
def dG (F:Fence) (n:Nat) (P:Program) (md:Region.Mode) (ops:Array Oper) (Q:Exit->Act->World->Prop) (S:World->Prop) (e:Nat):Nat->Array Bool->Act->World->Prop
 | 0,listed,a,w=>Region.ready md ops listed=[]/\Q .normal a w
 | cO+1,listed,a,w=>
  (Region.ready md ops listed=[]->Q .normal a w) ∧
  ∀ i∈Region.ready md ops listed,wpOpIn F n P ops Q i (fun a' w'=>(i<e->S w')/\dG F n P md ops Q S e cO (listed.setIfInBounds i true) a' w') a w
theorem uT:∀ (cO:Nat) (listed:Array Bool) (a:Act) (w:World),dG F n P md ops Q S e cO listed a w->wpAnyIn F n P md ops Q cO listed a w
 | 0,_,_,_,h=>h
 | cO+1,_,_,_,h=>⟨h.1,fun i hi=>wpOpIn_mono (fun a' w' h'=>uT cO _ a' w' h'.2) (h.2 i hi)⟩
theorem uU (qO:iQ F ops) (zaG:ET md ops e i=true) (hi:ops[i]?=some oi) (zaH:∀ (j:Nat) (o:Oper) cs b,ops[j]?=some o->o.op≠.select cs b)
  (hQ:∀ c a w,Q (.panic c) (a.put oi.dst v) w->Q (.panic c) a w) :
  ∀ (cO:Nat) (listed:Array Bool) (a:Act) (w:World),xD md ops listed →
   (∀ j oj,ops[j]?=some oj->j≠i->listed.getD j true=false->(∀ e∈oj.after,Region.binds md e=true->e.on≠i)->oi.apart ops oj=true) →
   i∈Region.ready md ops listed->YieldsM P ops S oi v a->S w →
   dG F n P md ops Q S e cO (listed.setIfInBounds i true) (a.put oi.dst v) w->dG F n P md ops Q S e (cO+1) listed a w:=by
 intro cO
 induction cO with
 | zero=>
  intro listed a w _ _ hr hy hS H;have qll:=();exact qd1
 | succ cO ih=>
  intro listed a w hcl Xv hr hy hS H;exact qd1
theorem Xw (d:Nat) (v:Value) (qO:iQ F ops) (hi:ops[i]?=some oi)
  (hs:(Region.noSelect ops && (Region.free md ops listed i && ((Region.ready md ops listed).contains i && (ET md ops e i && rS md ops listed))))=true)
  (hQ:∀ c a w,Q (.panic c) (a.put oi.dst v) w->Q (.panic c) a w) (xE:oi.dst=some d) (hw:Region.wanted oi (yielded ops a.tmps)=true) (hy:∀ w,S w->(execOp a.eval oi).run P w=.ok (.value v) w) (D2:∀ w,oi.about P w a.eval=none) (hS:S w)
  (h:S w->dG F n P md ops Q S e cO (listed.setIfInBounds i true) { a with tmps:=a.tmps.setIfInBounds d v } w):dG F n P md ops Q S e (cO+1) listed a w:=by
 simp only[ae]at hs;exact uU qO hs.2.2.2.1 hi (Region.noSelect_spec hs.1) hQ cO listed a w (EU hs.2.2.2.2) (Region.free_spec hi hs.2.1) (by simpa using hs.2.2.1) ⟨.inl ⟨hw,hy⟩,D2⟩ hS (by rw[xE];exact h hS)
theorem zaJ (d:Nat) (qO:iQ F ops) (hi:ops[i]?=some oi)
  (hs:(Region.noSelect ops && (Region.free md ops listed i && ((Region.ready md ops listed).contains i && (ET md ops e i && rS md ops listed))))=true)
  (hQ:∀ c a w,Q (.panic c) (a.put oi.dst undef) w->Q (.panic c) a w) (xE:oi.dst=some d) (hw:Region.wanted oi (yielded ops a.tmps)=false) (D2:∀ w,oi.about P w a.eval=none) (hS:S w)
  (h:S w->dG F n P md ops Q S e cO (listed.setIfInBounds i true) { a with tmps:=a.tmps.setIfInBounds d undef } w):dG F n P md ops Q S e (cO+1) listed a w:=by
 simp only[ae]at hs;exact uU qO hs.2.2.2.1 hi (Region.noSelect_spec hs.1) hQ cO listed a w (EU hs.2.2.2.2) (Region.free_spec hi hs.2.1) (by simpa using hs.2.2.1) ⟨.inr ⟨hw,rfl⟩,D2⟩ hS (by rw[xE];exact h hS)
theorem zc0 (hi:ops[i]?=some oi) (hr:Region.ready md ops listed=[i]) (hw:Region.wanted oi (yielded ops a.tmps)=true)
  (h:∀ K:Act->World->Prop,(∀ a w,(i<e->S w)->((i<e->S w)->dG F n P md ops Q S e cO (listed.setIfInBounds i true) a w)->K a w)->Oper.wpIn F n P oi a w K Q):dG F n P md ops Q S e (cO+1) listed a w:=by
 have qlm:=();exact qd2
theorem zaK (d:Nat) (hi:ops[i]?=some oi) (hr:Region.ready md ops listed=[i]) (xE:oi.dst=some d) (hw:Region.wanted oi (yielded ops a.tmps)=false) (D2:∀ f,oi.about P w a.eval=some f->F.fn f) (hS:S w)
  (h:S w->dG F n P md ops Q S e cO (listed.setIfInBounds i true) { a with tmps:=a.tmps.setIfInBounds d undef } w):dG F n P md ops Q S e (cO+1) listed a w:=by
 exact qd2
def NP (Q:Exit->Act->World->Prop):Exit->Act->World->Prop
 | .panic _,_,_=>False
 | e,a,w=>Q e a w
theorem NP.imp {Q:Exit->Act->World->Prop}:∀ (e:Exit) (a:Act) (w:World),NP Q e a w->Q e a w:=fun e a w h=>by
 cases e <;> first | exact h | exact (h:False).elim
theorem zaL (hr:Region.ready md ops listed=[]) (h:Q .normal a w):∀ cO,dG F n P md ops (NP Q) S e cO listed a w
 | 0=>⟨hr,h⟩
 | _+1=>⟨fun _=>h,by rw[hr];simp⟩
theorem MZ (S:World->Prop) (e:Nat) (hm:(P.follows .mixedOrders && ops.toList.all mU)=true) (hS:S w.drew)
  (h:iQ F ops->S w.drew->dG F n P .any ops (NP Q) S e ops.size (Array.replicate ops.size false) a w.drew):(Code.region id ops true).wpIn F n P Q a w:=by
 simp only[ae]at hm;exact Code.wpIn_mono NP.imp (wpIn_region_any hm.1 (uT _ _ _ _ (h (It hm.2) hS)))
theorem bw (i d:Nat) (v:Value) (hi:ops[i]?=some oi) (hS:S w)
  (h:S w->dG F n P md ops Q S e cO (listed.setIfInBounds i true) { a with tmps:=a.tmps.setIfInBounds d v } w)
  (qO:iQ F ops:=by assumption) (hy:∀ w,S w->(execOp a.eval oi).run P w=.ok (.value v) w:=by intro V hX;go_simp)
  (hs:(Region.noSelect ops && (Region.free md ops listed i && ((Region.ready md ops listed).contains i && (ET md ops e i && rS md ops listed))))=true:=by kernel_rfl)
  (hQ:∀ c a w,Q (.panic c) (a.put oi.dst v) w->Q (.panic c) a w:=by exact fun _ _ _ h=>h) (xE:oi.dst=some d:=by rfl) (hw:Region.wanted oi (yielded ops a.tmps)=true:=by rfl)
  (D2:∀ w,oi.about P w a.eval=none:=by exact fun _=>rfl):dG F n P md ops Q S e (cO+1) listed a w:=
 Xw d v qO hi hs hQ xE hw hy D2 hS h
theorem c_ (i d:Nat) (v:Value) (hi:ops[i]?=some oi) (hy:∀ w,S w->(execOp a.eval oi).run P w=.ok (.value v) w) (hS:S w)
  (h:S w->dG F n P md ops Q S e cO (listed.setIfInBounds i true) { a with tmps:=a.tmps.setIfInBounds d v } w)
  (qO:iQ F ops:=by assumption)
  (hs:(Region.noSelect ops && (Region.free md ops listed i && ((Region.ready md ops listed).contains i && (ET md ops e i && rS md ops listed))))=true:=by kernel_rfl)
  (hQ:∀ c a w,Q (.panic c) (a.put oi.dst v) w->Q (.panic c) a w:=by exact fun _ _ _ h=>h) (xE:oi.dst=some d:=by rfl) (hw:Region.wanted oi (yielded ops a.tmps)=true:=by rfl)
  (D2:∀ w,oi.about P w a.eval=none:=by exact fun _=>rfl):dG F n P md ops Q S e (cO+1) listed a w:=
 Xw d v qO hi hs hQ xE hw hy D2 hS h
theorem b_ (i:Nat) (hi:ops[i]?=some oi)
  (h:∀ K:Act->World->Prop,(∀ a w,(i<e->S w)->((i<e->S w)->dG F n P md ops Q S e cO (listed.setIfInBounds i true) a w)->K a w)->Oper.wpIn F n P oi a w K Q)
  (hr:Region.ready md ops listed=[i]:=by kernel_rfl) (hw:Region.wanted oi (yielded ops a.tmps)=true:=by rfl):dG F n P md ops Q S e (cO+1) listed a w:=
 zc0 hi hr hw h
theorem eK {R:Act->World->Prop} (hK:∀ a w,(i<e->S w)->((i<e->S w)->R a w)->K a w) (h:R a w) (hn:¬i<e:=by decide):K a w:=hK a w (fun x=>absurd x hn) fun _=>h
theorem lF (S:World->Prop) (e:Nat) (hS:S w.drew) (h:iQ F ops->S w.drew->dG F n P .any ops (NP Q) S e ops.size (Array.replicate ops.size false) a w.drew)
  (hm:(P.follows .mixedOrders && ops.toList.all mU)=true:=by kernel_rfl):(Code.region id ops true).wpIn F n P Q a w:=MZ S e hm hS h
theorem ku (h:Q .normal a w) (hr:Region.ready md ops listed=[]:=by kernel_rfl):dG F n P md ops (NP Q) S e cO listed a w:=zaL hr h cO
end
end Go.Proofs.YtokemihbkeddoaaGreatDoor
namespace Go.Proofs.YtokemihbkeddoaaGreatDoor
open Go
variable {sz d k id:Nat} {listed:Array Bool} {a0 a:Act} {w:World} {o:Oper}
section
variable {F:Fence} {n:Nat} {P:Program} {ops:Array Oper} {Q:Exit->Act->World->Prop} {md:Region.Mode} {S:World->Prop}
variable {Γ:Type} (Φ:Nat->Value->Γ->World->Prop) (Ψ:Nat->Γ->Prop) (I:Γ->World->Prop) (G:Γ->World->Γ->World->Prop)
def K_ (ops:Array Oper) (sz:Nat):Bool:=(List.range ops.size).all fun i=>match ops[i]? with
 | none=>true
 | some oi=>oi.after.all (fun e=>!Region.binds .any e || decide (e.on<i)) && (match oi.dst with
  | none=>true
  | some d=>decide (d<sz) && (List.range ops.size).all fun j=>i == j || (match ops[j]? with | some oj=>oj.dst != some d | none=>true))
structure DagOk (ops:Array Oper) (sz:Nat):Prop where
 before:∀ (k:Nat) (o:Oper),ops[k]?=some o->∀ e∈o.after,Region.binds .any e=true->e.on<k
 there:∀ (k:Nat) (o:Oper) (d:Nat),ops[k]?=some o->o.dst=some d->d<sz
 one:∀ (k j:Nat) (o oj:Oper) (d:Nat),ops[k]?=some o->ops[j]?=some oj->o.dst=some d->oj.dst=some d->k=j
theorem Iw (h:K_ ops sz=true):DagOk ops sz:=by
 have h1:∀ (k:Nat) (o:Oper),ops[k]?=some o->o.after.all (fun e=>!Region.binds .any e || decide (e.on<k))=true/\∀ d,o.dst=some d->d<sz/\∀ (j:Nat) (oj:Oper),ops[j]?=some oj->k=j\/oj.dst≠some d:=by
  intro k o ho;have:=List.all_eq_true.1 h k (List.mem_range.2 (bA ho));simp only[ho,ae]at this;refine ⟨this.1,fun d hd=>?_⟩;have h2:=this.2;simp only[hd,ae,br]at h2;refine ⟨h2.1,fun j oj hj=>?_⟩;have h3:=List.all_eq_true.1 h2.2 j (List.mem_range.2 (bA hj));simp only[hj,Bool.or_eq_true,ej,bne_iff_ne,ne_eq]at h3;exact h3
 refine ⟨fun k o ho e he hb=>?_,fun k o d ho hd=>((h1 k o ho).2 d hd).1,fun k j o oj d ho hj hd KL=>?_⟩
 ·have:=Array.all_eq_true'.1 (h1 k o ho).1 e he;simpa[hb] using this
 ·rcases ((h1 k o ho).2 d hd).2 j oj hj with h | h
  ·exact h
  ·exact absurd KL h
structure DagAt (ops:Array Oper) (a0:Act) (listed:Array Bool) (a:Act) (γ:Γ) (w:World):Prop where
 df:a.defers=a0.defers
 sz:a.tmps.size=a0.tmps.size
 ou:∀ d,(∀ (k:Nat) (o:Oper),ops[k]?=some o->o.dst≠some d)->a.tmps[d]?=a0.tmps[d]?
 nod:∀ (k:Nat) (o:Oper),ops[k]?=some o->o.dst=none->listed.getD k false=true->Φ k undef γ w
 val:∀ (k:Nat) (o:Oper) (d:Nat),ops[k]?=some o->o.dst=some d->listed.getD k false=true->∃v,a.tmps[d]?=some v/\Φ k v γ w
 unl:∀ k,k<ops.size->listed.getD k true=false->Ψ k γ
 inv:I γ w
 pre:∀ (k:Nat) (o:Oper) (d:Nat),ops[k]?=some o->o.dst=some d->listed.getD k false=false->a.tmps[d]?=a0.tmps[d]?
 cl:∀ (k:Nat) (o:Oper),ops[k]?=some o->listed.getD k false=true->∀ e∈o.after,Region.binds .any e=true->e.on<ops.size->listed.getD e.on false=true
def freeB (ops:Array Oper) (d:Nat):Bool:=ops.toList.all fun o=>o.dst != some d
theorem M0 {ops:Array Oper} (h:freeB ops d=true) (k:Nat) (o:Oper) (ho:ops[k]?=some o):o.dst≠some d:=by
 have:=List.all_eq_true.1 h o (List.mem_of_getElem? (i:=k) (by simpa using ho));simpa using this
def waitB (md:Region.Mode) (o:Oper) (j:Nat):Bool:=o.after.any fun e=>e.on == j && Region.binds md e
structure DagIn (md:Region.Mode) (ops:Array Oper) (a0:Act) (o:Oper) (k:Nat) (a:Act) (γ:Γ) (w:World):Prop where
 sz:a.tmps.size=a0.tmps.size
 ou:∀ d,freeB ops d=true->a.tmps[d]?=a0.tmps[d]?
 inv:I γ w
 psi:Ψ k γ
 nod:∀ (j:Nat) (oj:Oper),ops[j]?=some oj->waitB md o j=true->oj.dst=none->Φ j undef γ w
 val:∀ (j:Nat) (oj:Oper) (d:Nat),ops[j]?=some oj->oj.dst=some d->waitB md o j=true->∃v,a.tmps[d]?=some v/\Φ j v γ w
 pre:∀ (j:Nat) (oj:Oper) (d:Nat),ops[j]?=some oj->oj.dst=some d->waitB md oj k=true->a.tmps[d]?=a0.tmps[d]?
 psw:∀ (j:Nat) (oj:Oper),ops[j]?=some oj->waitB md oj k=true->Ψ j γ
def pd (F:Fence) (n:Nat) (P:Program) (md:Region.Mode) (ops:Array Oper) (Q:Exit->Act->World->Prop) (a0:Act) (k:Nat):Prop:=
 ∀ o,ops[k]?=some o->∀ (a:Act) (γ:Γ) (w:World),DagIn Φ Ψ I md ops a0 o k a γ w →
  ∀ K:Act->World->Prop,(∀ (v:Value) (en:Γ) (w':World),(o.dst=none->v=undef)->G γ w en w'->(∀ j,j≠k->Ψ j γ->Ψ j en)->Φ k v en w'->K (a.put o.dst v) w')->wpOpIn F n P ops Q k K a w
theorem Iy {γ:Γ} (h:DagAt Φ Ψ I ops a0 listed a γ w) (Ux:listed.size=ops.size) (hk:k<ops.size) (Qs:listed.getD k true=false) (eJ:∀ e∈o.after,Region.binds .any e=true->e.on<ops.size->listed.getD e.on false=true):DagIn Φ Ψ I .any ops a0 o k a γ w:=by
 have hw:∀ (j:Nat) (oj:Oper),ops[j]?=some oj->waitB .any o j=true->listed.getD j false=true:=by
  intro j oj hj hw;obtain ⟨e,he,hb⟩:=Array.any_eq_true'.1 hw;simp only[ae,ej]at hb;rw[<-hb.1];exact eJ e he hb.2 (by rw[hb.1];exact (bA hj))
 have zaM:∀ (j:Nat) (oj:Oper),ops[j]?=some oj->waitB .any oj k=true->listed.getD j false=false:=by
  intro j oj hj M4
  cases hc:listed.getD j false with
  | false=>rfl
  | true=>
   obtain ⟨e,he,hb⟩:=Array.any_eq_true'.1 M4;simp only[ae,ej]at hb;have h1:=h.cl j oj hj hc e he hb.2 (by rw[hb.1];exact hk);rw[hb.1]at h1;rcases Nat.lt_or_ge k listed.size with hlt | hge
   ·simp[Array.getD,hlt]at h1 Qs;rw[h1]at Qs;cases Qs
   ·simp[Array.getD,Nat.not_lt.2 hge]at h1
 exact ⟨h.sz,fun d hd=>h.ou d (fun k o ho=>M0 hd k o ho),h.inv,h.unl k hk Qs,fun j oj hj M4 hd=>h.nod j oj hj hd (hw j oj hj M4),fun j oj d hj hd M4=>h.val j oj d hj hd (hw j oj hj M4),fun j oj d hj hd M4=>h.pre j oj d hj hd (zaM j oj hj M4),fun j oj hj M4=>h.unl j (bA hj) (by
  have h1:=zaM j oj hj M4;have h2:j<listed.size:=by rw[Ux];exact (bA hj)
  simpa[Array.getD,h2] using h1)⟩
theorem Oq (hok:DagOk ops n) (hl:listed.size=ops.size) (h:Region.ready .any ops listed=[]):∀ k,k<ops.size->listed.getD k false=true:=by
 intro k
 induction k using Nat.strongRecOn with
 | ind k ih=>
  intro hk
  cases hc:listed.getD k false with
  | true=>rfl
  | false=>
   exfalso;have ho:ops[k]?=some ops[k]:=by simp[hk]
   have:k∈Region.ready .any ops listed:=mem_ready.2 ⟨by
    have bj:k<listed.size:=by omega
    simp[Array.getD,bj]at hc ⊢;exact hc,ops[k],ho,fun e he hb=>by
     have hlt:=hok.before k _ ho e he hb;exact ih e.on hlt (by omega)⟩
   rw[h]at this;cases this
theorem EV {l:Array Bool} {i:Nat} (h:l.getD i true=false):(l.setIfInBounds i true).toList.countP (fun b=>!b)+1=l.toList.countP (fun b=>!b):=by
 have hi:i<l.size:=by
  rcases Nat.lt_or_ge i l.size with h' | h'
  ·exact h'
  ·simp[Array.getD,Nat.not_lt.2 h']at h
 have hv:l[i]=false:=by simpa[Array.getD,hi] using h
 have h2:i<l.toList.length:=by simpa using hi
 have jW:l.toList[i]=false:=by simpa using hv
 rw[Array.toList_setIfInBounds,List.countP_set h2,jW];have:0<l.toList.countP (fun b=>!b):=List.countP_pos_iff.2 ⟨false,by rw[<-jW];exact ap h2,rfl⟩;simp only[Bool.not_false,Bool.not_true,if_true,bO,if_false];omega
theorem M5 (hok:DagOk ops a0.tmps.size) (hI:∀ γ w en w',G γ w en w'->I γ w->I en w') (yY:∀ k v γ w en w',G γ w en w'->Φ k v γ w->Φ k v en w')
  {listed:Array Bool} {a:Act} {γ en:Γ} {w w':World} {k:Nat} {o:Oper} {v:Value} (eJ:∀ e∈o.after,Region.binds .any e=true->e.on<ops.size->listed.getD e.on false=true) (hl:listed.size=ops.size) (ho:ops[k]?=some o) (h:DagAt Φ Ψ I ops a0 listed a γ w) (hv:o.dst=none->v=undef) (hG:G γ w en w') (Ot:∀ j,j≠k->Ψ j γ->Ψ j en) (ju:Φ k v en w') :
  DagAt Φ Ψ I ops a0 (listed.setIfInBounds k true) (a.put o.dst v) en w':=by
 have hsz:(a.put o.dst v).tmps.size=a0.tmps.size:=by
  unfold Act.put;split <;> simp[h.sz]
 have qI:∀ j,j≠k->(listed.setIfInBounds k true).getD j false=true->listed.getD j false=true:=fun j hj hh=>by rwa [getD_set_ne false (Ne.symm hj)]at hh
 refine ⟨?_,hsz,fun d hd=>?_,fun j oj hj KM le=>?_,fun j oj d hj KM le=>?_,fun j hj le=>?_,hI γ w en w' hG h.inv,fun j oj d hj KM le=>?_,fun j oj hj le e he hb hlt=>?_⟩
 ·unfold Act.put;split <;> exact h.df
 ·rw[<-h.ou d hd];have jb:=hd k o ho;unfold Act.put;split
  ·rename_i d' Zf;have:d'≠d:=fun e=>jb (by rw[Zf,e]);simp[this]
  ·rfl
 ·by_cases sT:j=k
  ·subst sT;obtain rfl:oj=o:=Option.some.inj (hj.symm.trans ho);have:=hv KM;subst this;exact ju
  ·exact yY j _ γ w en w' hG (h.nod j oj hj KM (qI j sT le))
 ·by_cases sT:j=k
  ·subst sT;obtain rfl:oj=o:=Option.some.inj (hj.symm.trans ho);refine ⟨v,?_,ju⟩;have hlt:d<a.tmps.size:=by rw[h.sz];exact hok.there j oj d hj KM
   rw[KM];simp[Act.put,hlt]
  ·obtain ⟨u,hu,hφ⟩:=h.val j oj d hj KM (qI j sT le);refine ⟨u,?_,yY j _ γ w en w' hG hφ⟩;rw[<-hu];exact qd3
 ·by_cases sT:j=k
  ·subst sT;have hlt:j<listed.size:=by omega
   simp[Array.getD,hlt]at le
  ·exact Ot j sT (h.unl j hj (by rwa [getD_set_ne true (Ne.symm sT)]at le))
 ·by_cases sT:j=k
  ·subst sT;have hlt:j<listed.size:=by rw[hl];exact (bA hj)
   simp[Array.getD,hlt]at le
  ·rw[getD_set_ne false (Ne.symm sT)]at le;rw[<-h.pre j oj d hj KM le];exact qd3
 ·have Iz:listed.getD e.on false=true:=by
   by_cases sT:j=k
   ·subst sT;obtain rfl:oj=o:=Option.some.inj (hj.symm.trans ho);exact eJ e he hb hlt
   ·exact h.cl j oj hj (qI j sT le) e he hb hlt
  by_cases hek:e.on=k
  ·rw[hek];have eE:k<listed.size:=by rw[hl,<-hek];exact hlt
   simp[Array.getD,eE]
  ·rw[getD_set_ne false (Ne.symm hek)];exact Iz
theorem zaN (hok:DagOk ops a0.tmps.size) (hI:∀ γ w en w',G γ w en w'->I γ w->I en w') (yY:∀ k v γ w en w',G γ w en w'->Φ k v γ w->Φ k v en w')
  (yZ:∀ k,k<ops.size->pd Φ Ψ I G F n P Region.Mode.any ops Q a0 k)
  (hQ:∀ (a:Act) (γ:Γ) (w:World),DagAt Φ Ψ I ops a0 (Array.replicate ops.size true) a γ w->Q .normal a w) :
  ∀ (cO:Nat) (listed:Array Bool) (a:Act) (γ:Γ) (w:World),listed.size=ops.size->listed.toList.countP (fun b=>!b)<=cO->DagAt Φ Ψ I ops a0 listed a γ w->dG F n P Region.Mode.any ops Q S 0 cO listed a w:=by
 have fin:∀ (listed:Array Bool) (a:Act) (γ:Γ) (w:World),listed.size=ops.size->Region.ready Region.Mode.any ops listed=[]->DagAt Φ Ψ I ops a0 listed a γ w->Q .normal a w:=by
  intro listed a γ w hl hr h;have eJ:=Oq hok hl hr;exact qd4
 intro cO
 induction cO with
 | zero=>
  intro listed a γ w hl hc h;have hr:Region.ready Region.Mode.any ops listed=[]:=by
   cases ik:Region.ready Region.Mode.any ops listed with
   | nil=>rfl
   | cons j r=>
    have hj:j∈Region.ready Region.Mode.any ops listed:=by rw[ik];exact gp
    have:=EV (mem_ready.1 hj).1;omega
  exact ⟨hr,fin listed a γ w hl hr h⟩
 | succ cO ih=>
  intro listed a γ w hl hc h;refine ⟨fun hr=>fin listed a γ w hl hr h,fun k hk=>?_⟩;obtain ⟨Qs,o,ho,eJ⟩:=mem_ready.1 hk;have y':=(bA ho);refine yZ k y' o ho a γ w (Iy Φ Ψ I h hl y' Qs (fun e he hb _=>eJ e he hb)) _ (fun v en w' hv hG Ot ju=>⟨fun h0=>absurd h0 (Nat.not_lt_zero _),?_⟩);refine ih (listed.setIfInBounds k true) (a.put o.dst v) en w' (by simpa using hl) (by have:=EV Qs;omega) ?_;exact M5 Φ Ψ I G hok hI yY (fun e he hb _=>eJ e he hb) hl ho h hv hG Ot ju
theorem EW {QN:Γ} (hI:I QN w) (Ot:∀ k,k<ops.size->Ψ k QN):DagAt Φ Ψ I ops a0 (Array.replicate ops.size false) a0 QN w:=by
 refine ⟨rfl,rfl,fun _ _=>rfl,fun k o ho Qt hl=>?_,fun k o d ho Qt hl=>?_,fun k hk _=>Ot k hk,hI,fun _ _ _ _ _ _=>rfl,fun k o ho hl=>?_⟩
 ·have hk:=(bA ho);simp[Array.getD,hk]at hl
 ·have hk:=(bA ho);simp[Array.getD,hk]at hl
 ·have hk:=(bA ho);simp[Array.getD,hk]at hl
theorem lW (QN:Γ) (hm:(P.follows .mixedOrders && ops.toList.all mU)=true) (hsz:a0.tmps.size=sz) (hd:K_ ops sz=true) (hI0:I QN w.drew) (Zg:∀ k,k<ops.size->Ψ k QN)
  (hI:∀ γ w en w',G γ w en w'->I γ w->I en w') (yY:∀ k v γ w en w',G γ w en w'->Φ k v γ w->Φ k v en w')
  (yZ:∀ k,k<ops.size->pd Φ Ψ I G F n P .any ops (NP Q) a0 k) (hQ:∀ (a:Act) (γ:Γ) (w':World),DagAt Φ Ψ I ops a0 (Array.replicate ops.size true) a γ w'->Q .normal a w'):(Code.region id ops true).wpIn F n P Q a0 w:=
 MZ (fun _=>True) 0 hm trivial (fun _ _=>zaN Φ Ψ I G (Iw (hsz ▸ hd)) hI yY yZ (fun a γ w' h=>hQ a γ w' h) ops.size _ a0 QN w.drew (by simp) (aN List.countP_le_length (by simp)) (EW Φ Ψ I hI0 Zg))
theorem oE (QN:Γ) (hsz:a0.tmps.size=sz) (hd:K_ ops sz=true) (hI0:I QN w) (Zg:∀ k,k<ops.size->Ψ k QN)
  (hI:∀ γ w en w',G γ w en w'->I γ w->I en w') (yY:∀ k v γ w en w',G γ w en w'->Φ k v γ w->Φ k v en w')
  (yZ:∀ k,k<ops.size->pd Φ Ψ I G F n P .any ops Q a0 k) (hQ:∀ (a:Act) (γ:Γ) (w':World),DagAt Φ Ψ I ops a0 (Array.replicate ops.size true) a γ w'->Q .normal a w'):(Code.region id ops false).wpIn F n P Q a0 w:=by
 have hok:=Iw (hsz ▸ hd);refine wpIn_region ?_;have zc1:∀ (m k:Nat) (listed:Array Bool) (a:Act) (γ:Γ) (w:World),k+m=ops.size->listed.size=ops.size->(∀ j,j<ops.size->(listed.getD j false=true ↔ j<k))->DagAt Φ Ψ I ops a0 listed a γ w->wpOpsIn F n P ops Q (List.range' k m) a w:=by
  intro m
  induction m with
  | zero=>
   intro k listed a γ w hk hl EX h;have eJ:∀ j,j<ops.size->listed.getD j false=true:=fun j hj=>(EX j hj).2 (by omega);exact qd4
  | succ m ih=>
   intro k listed a γ w hk hl EX h;have y':k<ops.size:=by omega
   rw[List.range'_succ,wpOpsIn_cons];have ho:ops[k]?=some ops[k]:=by simp[y']
   have Qs:listed.getD k true=false:=by
    have:=(EX k y');have bj:k<listed.size:=by omega
    simp[Array.getD,bj]at this ⊢;exact this
   refine yZ k y' _ ho a γ w (Iy Φ Ψ I h hl y' Qs (fun e he hb hlt=>(EX _ hlt).2 (hok.before k _ ho e he hb))) _ (fun v en w' hv hG Ot ju=>?_);exact ih (k+1) (listed.setIfInBounds k true) _ en w' (by omega) (by simpa using hl) (fun j hj=>by
    by_cases sT:k=j
    ·subst sT;have bj:k<listed.size:=by omega
     simp[Array.getD,bj]
    ·rw[getD_set_ne false sT,EX j hj];omega) (M5 Φ Ψ I G hok hI yY (fun e he hb hlt=>(EX _ hlt).2 (hok.before k _ ho e he hb)) hl ho h hv hG Ot ju)
 have:=zc1 ops.size 0 (Array.replicate ops.size false) a0 QN w (by omega) (by simp) (fun j hj=>by simp[Array.getD,hj]) (EW Φ Ψ I hI0 Zg)
 rwa [List.range_eq_range']
variable {Φ} {Ψ} {I} {G}
theorem DagAt.get {γ:Γ} (h:DagAt Φ Ψ I ops a0 (Array.replicate ops.size true) a γ w) (k:Nat) (o:Oper) (d:Nat) (ho:ops[k]?=some o) (hd:o.dst=some d):∃v,a.tmps[d]?=some v/\Φ k v γ w:=
 h.val k o d ho hd (by simp[Array.getD,(bA ho)])
theorem DagAt.did {γ:Γ} (h:DagAt Φ Ψ I ops a0 (Array.replicate ops.size true) a γ w) (k:Nat) (o:Oper) (ho:ops[k]?=some o) (hd:o.dst=none):Φ k undef γ w:=
 h.nod k o ho hd (by simp[Array.getD,(bA ho)])
theorem DagAt.old {γ:Γ} (h:DagAt Φ Ψ I ops a0 listed a γ w) (d:Nat) (hd:freeB ops d=true):a.tmps[d]?=a0.tmps[d]?:=
 h.ou d (fun k o ho=>M0 hd k o ho)
theorem DagAt.od {γ:Γ} (h:DagAt Φ Ψ I ops a0 listed a γ w) (d:Nat) (hd:freeB ops d=true:=by kernel_rfl):a.tmps[d]?=a0.tmps[d]?:=h.old d hd
theorem DagAt.ol {γ:Γ} (h:DagAt Φ Ψ I ops a0 listed a γ w) (d:Nat) {v:Option Value} (e:a0.tmps[d]?=v) (hd:freeB ops d=true:=by kernel_rfl):a.tmps[d]?=v:=(h.old d hd).trans e
theorem dK (ho:ops[k]?=some o) (hd:o.dst=some d) (sU:∀ f,F.fn f) (hr:F.round=none)
  (h:∀ (a:Act) (γ:Γ) (w:World),DagIn Φ Ψ I md ops a0 o k a γ w->Region.wanted o (yielded ops a.tmps)=true/\∃v en w',(execOp a.eval o).run P w=.ok (.value v) w'/\G γ w en w'/\(∀ j,j≠k->Ψ j γ->Ψ j en)/\Φ k v en w'):pd Φ Ψ I G F n P md ops Q a0 k:=by
 have qln:=();exact qbb
theorem mE (ho:ops[k]?=some o) (sU:∀ f,F.fn f) (hr:F.round=none)
  (h:∀ (a:Act) (γ:Γ) (w:World),DagIn Φ Ψ I md ops a0 o k a γ w->Region.wanted o (yielded ops a.tmps)=true/\∃en w',(execOp a.eval o).run P w=.ok .skip w'/\G γ w en w'/\(∀ j,j≠k->Ψ j γ->Ψ j en)/\Φ k undef en w'):pd Φ Ψ I G F n P md ops Q a0 k:=by
 have qlo:=();exact qbb
theorem EY (ho:ops[k]?=some o) (hd:o.dst=some d) (sU:∀ f,F.fn f) (hr:F.round=none) (p9:F.depth=none)
  (h:∀ (a:Act) (γ:Γ) (w:World),DagIn Φ Ψ I md ops a0 o k a γ w->Region.wanted o (yielded ops a.tmps)=true/\∃f args,(execOp a.eval o).run P w=.ok (.enter f args) w/\CallsIn F (n - 1) P f args w fun e w'=>∃v,e=.returned v/\∃en,G γ w en w'/\(∀ j,j≠k->Ψ j γ->Ψ j en)/\Φ k v en w'):pd Φ Ψ I G F n P md ops Q a0 k:=by
 have qlp:=();exact qbb
theorem M6 {t:Array Value}:∀ (ds:List (Nat×Value)) (t0:Array Value),t.size=t0.size->(∀ p∈ds,t[p.1]?=some p.2)->(∀ d,d ∉ ds.map (·.1)->t[d]?=t0[d]?)->t=ds.foldl (fun t p=>t.setIfInBounds p.1 p.2) t0
 | [],t0,hs,_,ho=>by
  simp only[List.foldl_nil];exact Array.ext_getElem? (fun i=>ho i (by simp))
 | p :: ds,t0,hs,hi,ho=>by
  simp only[List.foldl_cons];refine M6 ds _ (by simpa using hs) (fun q hq=>hi q (fL _ hq)) (fun d hd=>?_)
  by_cases h:d=p.1
  ·subst h;rw[hi p gp];have:p.1<t0.size:=by rw[<-hs];exact (bA (hi p gp))
   simp[this]
  ·rw[ho d (by simp only[cC,cG,not_or];exact ⟨h,hd⟩)];simp[Ne.symm h]
theorem QP {ops:Array Oper} {l:List Nat} (h:ops.toList.filterMap (·.dst)=l) (hd:d ∉ l):freeB ops d=true:=by
 refine List.all_eq_true.2 (fun o ho=>?_);simp only[bne_iff_ne,ne_eq];intro e;exact hd (h ▸ List.mem_filterMap.2 ⟨o,ho,e⟩)
theorem DagAt.act {γ:Γ} (h:DagAt Φ Ψ I ops a0 listed a γ w) (ds:List (Nat×Value)) (hd:ops.toList.filterMap (·.dst)=ds.map (·.1)) (hv:∀ p∈ds,a.tmps[p.1]?=some p.2):a={ tmps:=ds.foldl (fun t p=>t.setIfInBounds p.1 p.2) a0.tmps,defers:=a0.defers }:=by
 have h1:=M6 ds a0.tmps h.sz hv (fun d hn=>h.old d (QP hd hn));have h2:=h.df;obtain ⟨t,df⟩:=a;simp only at h1 h2;rw[h1,h2]
end
end Go.Proofs.YtokemihbkeddoaaGreatDoor
namespace Go.Proofs.YtokemihbkeddoaaGreatDoor
open Go Go.RowKit Lib
set_option maxRecDepth 100000
set_option maxHeartbeats 64000000
variable {p cap c j m R B B' L g base lo:Nat} {W' A C X Y W1 w4 wr:World} {o:Obj} {ok ok':Nat->Prop} {x row a0 v0:Value} {q:Int->Bool} {f:FuncId} {tmps:Array Value} {assign body:Code} {st:Prop} {xs:List Value} {ps:Array Tmp} {e:TypeId} {Row:Value->World->Prop}
abbrev Str:=List UInt8
inductive Tm where
 | mk (v:Bool) (n:Str) (a:List Tm)
inductive Fm where
 | mk (op:Int) (n:Str) (a:List Tm) (s:List Fm)
def Tm.v:Tm->Bool | .mk v _ _=>v
def Tm.n:Tm->Str | .mk _ n _=>n
def Tm.a:Tm->List Tm | .mk _ _ a=>a
def Fm.op:Fm->Int | .mk o _ _ _=>o
def Fm.n:Fm->Str | .mk _ n _ _=>n
def Fm.a:Fm->List Tm | .mk _ _ a _=>a
def Fm.s:Fm->List Fm | .mk _ _ _ s=>s
theorem Tm.ind {p:Tm->Prop} (h:∀ v n a,(∀ t∈a,p t)->p (.mk v n a)):∀ t,p t:=by
 intro t;exact Tm.rec (motive_1:=p) (motive_2:=fun l=>∀ t∈l,p t) (fun v n a ih=>h v n a ih) (fun t ht=>by cases ht) (fun t l h1 h2 u hu=>by
  rcases cG.1 hu with rfl | hu
  ·exact h1
  ·exact h2 u hu) t
theorem Fm.ind {p:Fm->Prop} (h:∀ o n a s,(∀ t∈s,p t)->p (.mk o n a s)):∀ t,p t:=by
 intro t;exact Fm.rec (motive_1:=p) (motive_2:=fun l=>∀ t∈l,p t) (fun o n a s ih=>h o n a s ih) (fun t ht=>by cases ht) (fun t l h1 h2 u hu=>by
  rcases cG.1 hu with rfl | hu
  ·exact h1
  ·exact h2 u hu) t
mutual
def xF:Tm->Tm->Bool
 | .mk v n a,.mk v' n' a'=>(v == v' && n == n') && iR a a'
def iR:List Tm->List Tm->Bool
 | [],[]=>true
 | a :: xs,b :: ys=>xF a b && iR xs ys
 | _,_=>false
end
mutual
def uV:Fm->Fm->Bool
 | .mk o n a s,.mk o' n' a' s'=>(o == o' && n == n') && (iR a a' && oF s s')
def oF:List Fm->List Fm->Bool
 | [],[]=>true
 | a :: xs,b :: ys=>uV a b && oF xs ys
 | _,_=>false
end
def M7 (c:UInt8):Bool:=97<=c && c<=122
def IA (c:UInt8):Bool:=65<=c && c<=90
def M8 (c:UInt8):Bool:=48<=c && c<=57
def EZ (c:UInt8):Bool:=M7 c || (IA c || M8 c)
def Ou:List Str:=[[97,108,108],[115,111,109,101],[102,97,108,115,101],[110,101,120,116],[97,108,119,97,121,115],[117,110,116,105,108]]
def nN (f o:UInt8->Bool):Str->Bool
 | []=>false
 | c :: r=>decide (r.length<16) && (!Ou.contains (c :: r) && (f c && r.all o))
def fH (s:Str):Bool:=nN (fun c=>117<=c && c<=122) M8 s
def xG (s:Str):Bool:=nN (fun c=>97<=c && c<=116) EZ s
def sV (s:Str):Bool:=nN IA EZ s
def dA (s:Str):Bool:=decide (s.length<=16) && (s.head? == some 63 && sV s.tail)
def cX (s:Str):Bool:=decide (s.length<=16) && (s.head? == some 63 && xG s.tail)
def dl (s:Str):Bool:=dA s || cX s
def ct (s:Str):Bool:=s.head? == some 63 && fH s.tail
def bI (s:Str):Str:=63 :: s
def aP (s:Str):Tm:=.mk true s []
mutual
def nodesT:Tm->Nat | .mk _ _ a=>nodesTs a+1
def nodesTs:List Tm->Nat | []=>0 | t :: l=>nodesT t+nodesTs l
end
mutual
def nodesF:Fm->Nat | .mk _ _ a s=>nodesTs a+nodesFs s+1
def nodesFs:List Fm->Nat | []=>0 | t :: l=>nodesF t+nodesFs l
end
mutual
def dh:Tm->Nat | .mk _ _ a=>bE a+1
def bE:List Tm->Nat | []=>0 | t :: l=>max (dh t) (bE l)
end
mutual
def depthF:Fm->Nat | .mk _ _ a s=>max (bE a) (aV s)+1
def aV:List Fm->Nat | []=>0 | t :: l=>max (depthF t) (aV l)
end
mutual
def jc (sc:Bool):Tm->Bool
 | .mk v n a=>if v then a.isEmpty && (fH n || (sc && cX n)) else decide (a.length<=4) && (xG n && d9 sc a)
def d9 (sc:Bool):List Tm->Bool | []=>true | t :: l=>jc sc t && d9 sc l
end
def rowOp (op:Int):Bool×Bool×Nat×Nat×Nat:=
 if op=1 then (true,true,1,4,0) else if op=2 then (true,true,0,0,0)
 else if op=8\/op=9 then (true,true,2,0,1)
 else if op=3\/(10<=op/\op<=13) then (true,true,0,0,1)
 else if (4<=op/\op<=7)\/op=14 then (true,true,0,0,2)
 else if op=15 then (false,true,3,0,0) else if op=16 then (false,true,3,2,0) else (false,false,0,0,0)
def qP (zc2:Nat) (s:Str):Bool:=match zc2 with | 1=>sV s | 2=>fH s | 3=>dA s | _=>s.isEmpty
def uW:List Tm->Bool
 | [x,y]=>x.v && (fH x.n && (y.v && cX y.n))
 | _=>false
mutual
def okF (sc:Bool):Fm->Bool
 | .mk op n a s=>((rowOp op).1 || (sc && (rowOp op).2.1)) && ((qP (rowOp op).2.2.1 n && (decide (a.length<=(rowOp op).2.2.2.1) && s.length == (rowOp op).2.2.2.2)) && ((op != 16 || uW a) && (d9 sc a && dt sc s)))
def dt (sc:Bool):List Fm->Bool | []=>true | t :: l=>okF sc t && dt sc l
end
def bT (f:Fm):Bool:=okF false f && (decide (nodesF f<=400) && decide (depthF f<=40))
def fM (f:Fm):Bool:=okF true f && (decide (nodesF f<=400) && decide (depthF f<=40))
def bm (op:Int):Bool:=op == 8 || op == 9
mutual
def aE:Tm->List Str | .mk v n a=>if v then n :: ao a else ao a
def ao:List Tm->List Str | []=>[] | t :: l=>aE t ++ ao l
end
mutual
def aL (b:List Str):Fm->List Str
 | .mk op n a s=>(ao a).filter (fun x=>!b.contains x) ++ bn (if bm op then n :: b else b) s
def bn (b:List Str):List Fm->List Str | []=>[] | t :: l=>aL b t ++ bn b l
end
def tG (x:Str):List Str->List Str
 | []=>[x]
 | y :: l=>if x == y then y :: l else if Op.bytesLess x y then x :: y :: l else y :: tG x l
def di (l:List Str):List Str:=l.foldr tG []
def D4:Nat->Nat->Str
 | 0,_=>[]
 | k+1,n=>if n<10 then [UInt8.ofNat (48+n)] else D4 k (n / 10) ++ [UInt8.ofNat (48+n % 10)]
def iF (n:Nat):Str:=120 :: D4 20 n
def mG (t:List Str):Nat->Nat->Str
 | 0,n=>iF n
 | k+1,n=>if t.contains (iF n) then mG t k (n+1) else iF n
def dL (t:List Str):Str:=mG t t.length 1
mutual
def gC (f:Str->Option Tm):Tm->Tm
 | .mk v n a=>match (if v then f n else none) with | some u=>u | none=>.mk v n (sW f a)
def sW (f:Str->Option Tm):List Tm->List Tm | []=>[] | t :: l=>gC f t :: sW f l
end
def lG (x:Str) (u:Tm) (t:Tm):Tm:=gC (fun n=>if n == x then some u else none) t
def eL (x:Str) (u:Tm) (l:List Tm):List Tm:=l.map (lG x u)
abbrev Sco:=List (Str×Str)
def dv (c:Sco) (x:Str):Option Str:=go c []
 where go:Sco->List Str->Option Str
  | [],_=>some x
  | (s,a) :: r,inn=>if a == x then (if inn.contains s then none else some (bI s)) else go r (s :: inn)
mutual
def iB (c:Sco) (ins:List Str):Tm->Option Tm
 | .mk v n a=>if v then (if ins.contains n then some (aP n) else (dv c n).map aP) else (eq c ins a).map (Tm.mk false n)
def eq (c:Sco) (ins:List Str):List Tm->Option (List Tm)
 | []=>some []
 | t :: l=>match iB c ins t,eq c ins l with | some u,some m=>some (u :: m) | _,_=>none
end
mutual
def e8 (c:Sco) (ins:List Str):Fm->Option Fm
 | .mk op n a s=>match eq c ins a,eZ c (if bm op then n :: ins else ins) s with | some a',some s'=>some (.mk op n a' s') | _,_=>none
def eZ (c:Sco) (ins:List Str):List Fm->Option (List Fm)
 | []=>some []
 | t :: l=>match e8 c ins t,eZ c ins l with | some u,some m=>some (u :: m) | _,_=>none
end
def n_:Sco->Str->Str->Bool
 | [],x,y=>x == y
 | (s,a) :: r,x,y=>if s == x || a == y then s == x && a == y else n_ r x y
mutual
def fZ (c:Sco):Tm->Tm->Bool
 | .mk v n a,.mk v' n' a'=>(v == v' && a.length == a'.length) && (if v && c.any (fun p=>p.1 == n || p.2 == n') then n_ c n n' else n == n' && cf c a a')
def cf (c:Sco):List Tm->List Tm->Bool
 | t :: l,u :: m=>fZ c t u && cf c l m
 | _,_=>true
end
mutual
def cg (c:Sco):Fm->Fm->Bool
 | .mk op n a s,.mk op' n' a' s'=>(op == op' && (a.length == a'.length && s.length == s'.length)) && ((n == n' || bm op) && (cf c a a' && cJ (if bm op then (n,n') :: c else c) s s'))
def cJ (c:Sco):List Fm->List Fm->Bool
 | t :: l,u :: m=>cg c t u && cJ c l m
 | _,_=>true
end
mutual
def uX (x:Str):Tm->Nat | .mk v n a=>(if v && n == x then 1 else 0)+eM x a
def eM (x:Str):List Tm->Nat | []=>0 | t :: l=>uX x t+eM x l
end
mutual
def ea (x:Str):Fm->Nat | .mk _ _ a s=>eM x a+iq x s
def iq (x:Str):List Fm->Nat | []=>0 | t :: l=>ea x t+iq x l
end
mutual
def mi (x:Str):Tm->Option (List Nat) | .mk v n a=>if v && n == x then some [] else ev x a 0
def ev (x:Str):List Tm->Nat->Option (List Nat)
 | [],_=>none
 | t :: l,i=>match mi x t with | some p=>some (i :: p) | none=>ev x l (i+1)
end
mutual
def kv (x:Str):Fm->Option (List Nat×List Nat)
 | .mk _ _ a s=>match ev x a 0 with | some p=>some ([],p) | none=>lg x s 0
def lg (x:Str):List Fm->Nat->Option (List Nat×List Nat)
 | [],_=>none
 | t :: l,i=>match kv x t with | some (p,q)=>some (i :: p,q) | none=>lg x l (i+1)
end
def jI:List Tm->List Nat->Option Tm
 | _,[]=>none
 | l,[i]=>l[i]?
 | l,i :: j :: r=>match l[i]? with | some t=>jI t.a (j :: r) | none=>none
def j7:Fm->List Nat->List Str->Option (Fm×List Str)
 | f,[],ins=>some (f,ins)
 | f,i :: r,ins=>match f.s[i]? with | some g=>j7 g r (if bm f.op then f.n :: ins else ins) | none=>none
def gD (f im:Fm) (x:Str):Option Tm:=match kv x f with
 | none=>none
 | some (p,q)=>match j7 im p [] with
  | none=>none
  | some (g,ins)=>match jI g.a q with
   | none=>none
   | some t=>if (aE t).any ins.contains then none else some t
def fI:Nat->Str->Tm->Fm->Fm
 | 0,_,_,f=>f
 | k+1,x,u,.mk op n a s=>
  if bm op then match s with
   | g :: _=>if n == x || !(aL [] g).contains x then .mk op n a s
    else if (aE u).contains n then
     .mk op (dL (aL [] g ++ aE u)) (eL x u a) [fI k x u (fI k n (aP (dL (aL [] g ++ aE u))) g)]
    else .mk op n (eL x u a) [fI k x u g]
   | []=>.mk op n a s
  else .mk op n (eL x u a) (s.map (fI k x u))
def e9 (x:Str) (u:Tm) (f:Fm):Fm:=fI (depthF f) x u f
mutual
def aK:Tm->Tm | .mk v n a=>.mk v (if v && ct n then n.tail else n) (bF a)
def bF:List Tm->List Tm | []=>[] | t :: l=>aK t :: bF l
end
mutual
def bl:Fm->Fm | .mk op n a s=>.mk op n (bF a) (bR s)
def bR:List Fm->List Fm | []=>[] | t :: l=>bl t :: bR l
end
structure Bd where
 fs:List (Str×Fm)
 ts:List (Str×Tm)
def dw:List Str->Bool
 | x :: y :: l=>Op.bytesLess x y && dw (y :: l)
 | _=>true
def validB (b:Bd):Bool:=(b.fs.all (fun x=>dA x.1 && bT (bl x.2)) && b.ts.all (fun x=>cX x.1 && jc false (aK x.2))) && (dw (b.fs.map (·.1)) && dw (b.ts.map (·.1)))
def getB {α:Type} (l:List (Str×α)) (x:Str):Option α:=match l with | []=>none | (y,v) :: r=>if y == x then some v else getB r x
def g_ {α:Type} (x:Str) (v:α):List (Str×α)->List (Str×α)
 | []=>[(x,v)]
 | (y,u) :: r=>if Op.bytesLess x y then (x,v) :: (y,u) :: r else (y,u) :: g_ x v r
mutual
def cY (sc:List Str) (k:List (Str×Tm)):Tm->Tm->Option (List (Str×Tm))
 | .mk v n a,.mk v' n' a'=>
  if v && dl n then match getB k n with
   | none=>some (g_ n (.mk v' n' a') k)
   | some u=>if xF u (.mk v' n' a') then some k else none
  else if v && sc.contains n then (if xF (.mk v' n' a') (aP (bI n)) then some k else none)
  else if v != v' || (n != n' || a.length != a'.length) then none
  else bL sc k a a'
def bL (sc:List Str) (k:List (Str×Tm)):List Tm->List Tm->Option (List (Str×Tm))
 | t :: l,u :: m=>match cY sc k t u with | some k'=>bL sc k' l m | none=>none
 | _,_=>some k
end
def cA (c:Sco) (k:List (Str×Tm)):List Tm->List Tm->Option (List (Str×Tm))
 | t :: l,u :: m=>match iB c [] u with
  | none=>none
  | some im=>match cY (c.map (·.1)) k t im with | some k'=>cA c k' l m | none=>none
 | _,_=>some k
structure Pl where
 s:Fm
 f:Fm
 c:Sco
mutual
def a_ (c:Sco):Fm->Fm->List Pl
 | .mk o n a s,.mk o' n' a' s'=>⟨.mk o n a s,.mk o' n' a' s',c⟩ :: aJ (if bm o then (n,n') :: c else c) s s'
def aJ (c:Sco):List Fm->List Fm->List Pl
 | t :: l,u :: m=>a_ c t u ++ aJ c l m
 | _,_=>[]
end
def aY (k:Bd) (p:Pl):Bd×Int:=
 if p.s.op=16 then (k,0)
 else if p.s.op=15 then match e8 p.c [] p.f with
  | none=>(k,70)
  | some im=>match getB k.fs p.s.n with
   | none=>({ k with fs:=g_ p.s.n im k.fs },0)
   | some g=>if cg [] g im then (k,0) else (k,70)
 else if p.s.op != p.f.op || (p.s.a.length != p.f.a.length || (p.s.s.length != p.f.s.length || (p.s.n != p.f.n && !bm p.s.op))) then (k,70)
 else match cA p.c k.ts p.s.a p.f.a with
  | none=>(k,70)
  | some ts=>({ k with ts:=ts },0)
def aU (f:Fm):Str×Str:=match f.a with | x :: y :: _=>(bI x.n,y.n) | _=>([],[])
def dp (k:Bd) (p:Pl):Bd×Int:=
 if p.s.op != 16 then (k,0)
 else match getB k.fs p.s.n with
  | none=>(k,71)
  | some f=>match e8 p.c [] p.f with
   | none=>(k,70)
   | some im=>
    if ea (aU p.s).1 f=0 then (if cg [] f im then (k,0) else (k,70))
    else match (match getB k.ts (aU p.s).2 with | some t=>some (t,k.ts) | none=>(gD f im (aU p.s).1).map fun t=>(t,g_ (aU p.s).2 t k.ts)) with
     | none=>(k,70)
     | some (t,ts)=>if nodesF f+ea (aU p.s).1 f * (nodesT t - 1) != nodesF im then ({ k with ts:=ts },70)
      else if cg [] (e9 (aU p.s).1 t f) im then ({ k with ts:=ts },0) else ({ k with ts:=ts },70)
def gE (step:Bd->Pl->Bd×Int):Bd->List Pl->Bd×Int
 | k,[]=>(k,0)
 | k,p :: l=>match step k p with | (k',e)=>if e=0 then gE step k' l else (k',e)
def e7 (step:Bd->Pl->Bd×Int):Nat->Bd->List (Fm×Fm)->Bd×Nat×Int
 | _,k,[]=>(k,0,0)
 | i,k,(s,f) :: l=>match gE step k (a_ [] s f) with | (k',e)=>if e=0 then e7 step (i+1) k' l else (k',i,e)
def fA:Nat->List (Fm×Fm)->Option Nat
 | _,[]=>none
 | i,(s,f) :: l=>if fM s && bT f then fA (i+1) l else some i
def cP (l:List (Fm×Fm)) (b:Bd):Bd×Nat×Int:=
 if !validB b then (⟨[],[]⟩,0,2)
 else match fA 0 l with
  | some i=>(⟨[],[]⟩,i,2)
  | none=>match e7 aY 0 b l with
   | (k,i,e)=>if e≠0 then (⟨[],[]⟩,i,e) else match e7 dp 0 k l with
    | (k',i',e')=>if e'≠0 then (⟨[],[]⟩,i',e') else (k',0,0)
mutual
def iS (k:List (Str×Tm)):Tm->Bool
 | .mk v n a=>if v && dl n then (getB k n).isNone else jQ k a
def jQ (k:List (Str×Tm)):List Tm->Bool | []=>false | t :: l=>iS k t || jQ k l
end
def jv (k:Bd) (s:Fm):Bool:=
 if s.op != 15 && s.op != 16 then jQ k.ts s.a
 else match getB k.fs s.n with
  | none=>true
  | some f=>if s.op=15 then false else (getB k.ts (aU s).2).isNone && decide (ea (aU s).1 f > 0)
def termOf (k:List (Str×Tm)) (n:Str):Tm:=match getB k n with | some t=>t | none=>.mk false [] []
def formOf (k:List (Str×Fm)) (n:Str):Fm:=match getB k n with | some t=>t | none=>.mk 0 [] [] []
mutual
def lh (k:List (Str×Tm)):Tm->List Str
 | .mk v n a=>if v && dl n then (di (aE (termOf k n))).filter ct else dX k a
def dX (k:List (Str×Tm)):List Tm->List Str | []=>[] | t :: l=>lh k t ++ dX k l
end
def qQ (k:Bd) (s:Fm):List Str:=
 if s.op=15 then (di (aL [] (formOf k.fs s.n))).filter ct
 else if s.op=16 then
  let l:=(di (aL [] (formOf k.fs s.n))).filter ct
  if !l.contains (aU s).1 then l else l.filter (fun x=>x != (aU s).1) ++ (di (aE (termOf k.ts (aU s).2))).filter ct
 else dX k.ts s.a
def E0 (k:Bd) (p:Pl):Bool:=(qQ k p.s).any fun x=>!(p.c.map (·.1)).contains x.tail
mutual
def qR (k:List (Str×Tm)):Tm->Nat
 | .mk v n a=>if v && dl n then nodesT (termOf k n) else ew k a+1
def ew (k:List (Str×Tm)):List Tm->Nat | []=>0 | t :: l=>qR k t+ew k l
end
def mj (k:Bd) (s:Fm):Nat:=
 if s.op=15 then nodesF (formOf k.fs s.n)
 else if s.op=16 then nodesF (formOf k.fs s.n)+ea (aU s).1 (formOf k.fs s.n) * (nodesT (termOf k.ts (aU s).2) - 1)
 else ew k.ts s.a+1
def ph (k:Bd) (s:Fm):Int:=
 if (a_ [] s s).any (fun p=>jv k p.s) then 6
 else if (a_ [] s s).any (E0 k) then 72
 else if ((a_ [] s s).map fun p=>mj k p.s).sum > 400 then 3 else 0
mutual
def da (k:List (Str×Tm)) (c:List Str):Tm->Tm
 | .mk v n a=>if v && dl n then termOf k n else if v && c.contains n then aP (bI n) else .mk v n (dZ k c a)
def dZ (k:List (Str×Tm)) (c:List Str):List Tm->List Tm | []=>[] | t :: l=>da k c t :: dZ k c l
end
def mW (op:Int) (n:Str) (a:List Tm) (g:Fm):Fm:=
 let m:=if (aL [] g).contains n then dL (aL [] g) else n
 .mk op m a [e9 (bI n) (aP m) g]
mutual
def cw (k:Bd) (c:List Str):Fm->Fm
 | .mk op n a s=>
  if op=15 then formOf k.fs n
  else if op=16 then (match a with
   | x :: y :: _=>if ea (bI x.n) (formOf k.fs n)=0 then formOf k.fs n else e9 (bI x.n) (termOf k.ts y.n) (formOf k.fs n)
   | _=>.mk op n a s)
  else if bm op then (match el k (n :: c) s with | g :: _=>mW op n (dZ k.ts c a) g | []=>.mk op n a s)
  else .mk op n (dZ k.ts c a) (el k c s)
def el (k:Bd) (c:List Str):List Fm->List Fm | []=>[] | t :: l=>cw k c t :: el k c l
end
def jq:Fm:=.mk 0 [] [] []
def fillS (s:Fm) (b:Bd):Fm×Int:=
 if !(fM s && validB b) then (jq,2)
 else if ph b s≠0 then (jq,ph b s)
 else if !bT (cw b [] s) then (jq,3) else (cw b [] s,0)
def Cells3 (W:World) (b o:Nat) (v:Value):Prop:=∃x0 x1 x2,v=.agg #[x0,x1,x2]/\W.cell? ⟨b,o,none⟩=some x0/\W.cell? ⟨b,o+1,none⟩=some x1/\W.cell? ⟨b,o+2,none⟩=some x2
def Cells4 (W:World) (b o:Nat) (v:Value):Prop:=∃x0 x1 x2 x3,v=.agg #[x0,x1,x2,x3]/\W.cell? ⟨b,o,none⟩=some x0/\W.cell? ⟨b,o+1,none⟩=some x1/\W.cell? ⟨b,o+2,none⟩=some x2/\W.cell? ⟨b,o+3,none⟩=some x3
theorem Cells3.kept {W:World} {b o:Nat} {v:Value} (h:Cells3 W b o v) (hb:W'.heap[b]?=W.heap[b]?):Cells3 W' b o v:=by
 obtain ⟨x0,x1,x2,rfl,h0,h1,h2⟩:=h;exact ⟨x0,x1,x2,rfl,(World.cell?_of_block (a:=⟨b,o,none⟩) hb).trans h0,(World.cell?_of_block (a:=⟨b,o+1,none⟩) hb).trans h1,(World.cell?_of_block (a:=⟨b,o+2,none⟩) hb).trans h2⟩
theorem Cells4.kept {W:World} {b o:Nat} {v:Value} (h:Cells4 W b o v) (hb:W'.heap[b]?=W.heap[b]?):Cells4 W' b o v:=by
 obtain ⟨x0,x1,x2,x3,rfl,h0,h1,h2,h3⟩:=h;exact ⟨x0,x1,x2,x3,rfl,(World.cell?_of_block (a:=⟨b,o,none⟩) hb).trans h0,(World.cell?_of_block (a:=⟨b,o+1,none⟩) hb).trans h1,(World.cell?_of_block (a:=⟨b,o+2,none⟩) hb).trans h2,(World.cell?_of_block (a:=⟨b,o+3,none⟩) hb).trans h3⟩
inductive TermV (ok:Nat->Prop) (W:World):Value->Tm->Prop
 | mk (v:Bool) (n:Str) (al:List Tm) (a:Option Addr) (cap:Nat) (vs:Nat->Value)
   (hs:al=[]\/∃b off,a=some ⟨b,off,none⟩/\ok b/\∀ j,j<al.length->Cells3 W b (off+j * 3) (vs j))
   (h:∀ j (hj:j<al.length),TermV ok W (vs j) al[j]):TermV ok W (.agg #[.bool v,.string ⟨n.toArray⟩,.slice a al.length cap]) (.mk v n al)
def TermsV (ok:Nat->Prop) (W:World) (v:Value) (l:List Tm):Prop:=∃(a:Option Addr) (cap:Nat) (vs:Nat->Value),v=.slice a l.length cap/\(l=[]\/∃b off,a=some ⟨b,off,none⟩/\ok b/\∀ j,j<l.length->Cells3 W b (off+j * 3) (vs j))/\∀ j (hj:j<l.length),TermV ok W (vs j) l[j]
theorem aM {W:World} {v:Bool} {n:Str} {al:List Tm}:TermV ok W x (.mk v n al) ↔ ∃s,x=.agg #[.bool v,.string ⟨n.toArray⟩,s]/\TermsV ok W s al:=by
 constructor
 ·intro h
  cases h with
  | mk _ _ _ a cap vs hs h=>exact ⟨_,rfl,a,cap,vs,rfl,hs,h⟩
 ·rintro ⟨s,rfl,a,cap,vs,rfl,hs,h⟩;exact .mk v n al a cap vs hs h
inductive FormV (ok:Nat->Prop) (W:World):Value->Fm->Prop
 | mk (op:Int) (n:Str) (al:List Tm) (ss:List Fm) (va:Value) (a:Option Addr) (cap:Nat) (vs:Nat->Value) (ha:TermsV ok W va al)
   (hs:ss=[]\/∃b off,a=some ⟨b,off,none⟩/\ok b/\∀ j,j<ss.length->Cells4 W b (off+j * 4) (vs j))
   (h:∀ j (hj:j<ss.length),FormV ok W (vs j) ss[j]):FormV ok W (.agg #[.int .u8 op,.string ⟨n.toArray⟩,va,.slice a ss.length cap]) (.mk op n al ss)
def FormsV (ok:Nat->Prop) (W:World) (v:Value) (l:List Fm):Prop:=∃(a:Option Addr) (cap:Nat) (vs:Nat->Value),v=.slice a l.length cap/\(l=[]\/∃b off,a=some ⟨b,off,none⟩/\ok b/\∀ j,j<l.length->Cells4 W b (off+j * 4) (vs j))/\∀ j (hj:j<l.length),FormV ok W (vs j) l[j]
theorem aQ {W:World} {op:Int} {n:Str} {al:List Tm} {ss:List Fm}:FormV ok W x (.mk op n al ss) ↔ ∃va s,x=.agg #[.int .u8 op,.string ⟨n.toArray⟩,va,s]/\TermsV ok W va al/\FormsV ok W s ss:=by
 constructor
 ·intro h
  cases h with
  | mk _ _ _ _ va a cap vs ha hs h=>exact ⟨va,_,rfl,ha,a,cap,vs,rfl,hs,h⟩
 ·rintro ⟨va,s,rfl,ha,a,cap,vs,rfl,hs,h⟩;exact .mk op n al ss va a cap vs ha hs h
def gF (ok ok':Nat->Prop) (W W':World):Prop:=∀ b,ok b->b<W.heap.size->ok' b/\W'.heap[b]?=W.heap[b]?
theorem E1 {W:World} {b o:Nat} {v:Value} (h:Cells3 W b o v):b<W.heap.size:=by
 obtain ⟨_,_,_,_,h0,_⟩:=h;exact World.block_lt_of_cell? W _ h0
theorem E2 {W:World} {b o:Nat} {v:Value} (h:Cells4 W b o v):b<W.heap.size:=by
 obtain ⟨_,_,_,_,_,h0,_⟩:=h;exact World.block_lt_of_cell? W _ h0
theorem TermV.move {W:World} (hb:gF ok ok' W W') {v:Value} {t:Tm} (h:TermV ok W v t):TermV ok' W' v t:=by
 induction h with
 | mk v n al a cap vs hs _ ih=>
  refine .mk v n al a cap vs ?_ ih;have qlq:=();exact qaB
theorem TermsV.move {W:World} (hb:gF ok ok' W W') {v:Value} {l:List Tm} (h:TermsV ok W v l):TermsV ok' W' v l:=by
 have qlr:=();exact qd5
theorem FormV.move {W:World} (hb:gF ok ok' W W') {v:Value} {t:Fm} (h:FormV ok W v t):FormV ok' W' v t:=by
 induction h with
 | mk op n al ss va a cap vs ha hs _ ih=>
  refine .mk op n al ss va a cap vs (ha.move hb) ?_ ih;have qls:=();exact qaB
theorem FormsV.move {W:World} (hb:gF ok ok' W W') {v:Value} {l:List Fm} (h:FormsV ok W v l):FormsV ok' W' v l:=by
 exact qd5
theorem dI {W:World} (hb:Below W.heap.size W W'):gF ok ok W W':=fun b h hlt=>⟨h,hb.block b hlt⟩
theorem xH {W:World} (hb:Below W.heap.size W W'):gF ok (fun _=>True) W W':=fun b _ hlt=>⟨trivial,hb.block b hlt⟩
theorem TermV.later {W:World} {v:Value} {t:Tm} (h:TermV ok W v t) (hb:Below W.heap.size W W'):TermV ok W' v t:=h.move (dI hb)
theorem TermsV.later {W:World} {v:Value} {t:List Tm} (h:TermsV ok W v t) (hb:Below W.heap.size W W'):TermsV ok W' v t:=h.move (dI hb)
theorem FormV.later {W:World} {v:Value} {t:Fm} (h:FormV ok W v t) (hb:Below W.heap.size W W'):FormV ok W' v t:=h.move (dI hb)
theorem FormsV.later {W:World} {v:Value} {t:List Fm} (h:FormsV ok W v t) (hb:Below W.heap.size W W'):FormsV ok W' v t:=h.move (dI hb)
theorem TermV.any {W:World} {v:Value} {t:Tm} (h:TermV ok W v t):TermV (fun _=>True) W v t:=h.move (fun _ _ _=>⟨trivial,rfl⟩)
theorem FormV.any {W:World} {v:Value} {t:Fm} (h:FormV ok W v t):FormV (fun _=>True) W v t:=h.move (fun _ _ _=>⟨trivial,rfl⟩)
theorem cm {W:World} {a:Option Addr}:TermsV ok W (.slice a 0 cap) []:=⟨a,cap,fun _=>.bool false,rfl,.inl rfl,fun j hj=>by simp at hj⟩
theorem f8 {W:World} {a:Option Addr}:FormsV ok W (.slice a 0 cap) []:=⟨a,cap,fun _=>.bool false,rfl,.inl rfl,fun j hj=>by simp at hj⟩
structure TQ where
 v:Bool
 n:ByteArray
 a:Option Addr
 l:Nat
 c:Nat
def TQ.val (q:TQ):Value:=.agg #[.bool q.v,.string q.n,.slice q.a q.l q.c]
structure FQ where
 o:Int
 n:ByteArray
 a:Option Addr
 l:Nat
 c:Nat
 b:Option Addr
 m:Nat
 e:Nat
def FQ.val (q:FQ):Value:=.agg #[.int .u8 q.o,.string q.n,.slice q.a q.l q.c,.slice q.b q.m q.e]
theorem TermV.form {W:World} {t:Tm} (h:TermV ok W x t):∃q:TQ,x=q.val/\q.v=t.v/\q.n=⟨t.n.toArray⟩/\q.l=t.a.length/\TermsV ok W (.slice q.a q.l q.c) t.a:=by
 cases h with
 | mk v n al a cap vs hs h=>exact ⟨⟨v,_,a,al.length,cap⟩,rfl,rfl,rfl,rfl,a,cap,vs,rfl,hs,h⟩
theorem FormV.form {W:World} {t:Fm} (h:FormV ok W x t):∃q:FQ,x=q.val/\q.o=t.op/\q.n=⟨t.n.toArray⟩/\q.l=t.a.length/\q.m=t.s.length/\TermsV ok W (.slice q.a q.l q.c) t.a/\FormsV ok W (.slice q.b q.m q.e) t.s:=by
 cases h with
 | mk op n al ss va a cap vs ha hs h=>
  obtain ⟨a',zaO,vs',rfl,Zh,h'⟩:=ha;exact ⟨⟨op,_,a',al.length,zaO,a,ss.length,cap⟩,rfl,rfl,rfl,rfl,rfl,⟨a',zaO,vs',rfl,Zh,h'⟩,a,cap,vs,rfl,hs,h⟩
theorem TermsV.get {W:World} {a:Option Addr} {n:Nat} {l:List Tm} (h:TermsV ok W (.slice a n c) l) (hj:j<l.length) :
  ∃b off q,a=some ⟨b,off,none⟩/\ok b/\TermV ok W (TQ.val q) l[j]/\W.cell? ⟨b,off+j * 3,none⟩=some (.bool q.v)/\W.cell? ⟨b,off+j * 3+1,none⟩=some (.string q.n)/\W.cell? ⟨b,off+j * 3+2,none⟩=some (.slice q.a q.l q.c):=by
 obtain ⟨a',cap,vs,hv,hs,ht⟩:=h;have qlt:=();exact qbc
theorem FormsV.get {W:World} {a:Option Addr} {n:Nat} {l:List Fm} (h:FormsV ok W (.slice a n c) l) (hj:j<l.length) :
  ∃b off q,a=some ⟨b,off,none⟩/\ok b/\FormV ok W (FQ.val q) l[j]/\W.cell? ⟨b,off+j * 4,none⟩=some (.int .u8 q.o)/\W.cell? ⟨b,off+j * 4+1,none⟩=some (.string q.n)/\W.cell? ⟨b,off+j * 4+2,none⟩=some (.slice q.a q.l q.c)/\W.cell? ⟨b,off+j * 4+3,none⟩=some (.slice q.b q.m q.e):=by
 obtain ⟨a',cap,vs,hv,hs,ht⟩:=h;have qlu:=();exact qbc
theorem TermsV.len {W:World} {a:Option Addr} {n:Nat} {l:List Tm} (h:TermsV ok W (.slice a n c) l):n=l.length:=by
 exact qbd
theorem FormsV.len {W:World} {a:Option Addr} {n:Nat} {l:List Fm} (h:FormsV ok W (.slice a n c) l):n=l.length:=by
 exact qbd
def FBindsV (ok:Nat->Prop) (W:World) (v:Value) (l:List (Str×Fm)):Prop:=∃(a:Option Addr) (cap:Nat) (qs:Nat->FQ),v=.slice a l.length cap/\l.length<=cap ∧
 (l=[]\/∃b off,a=some ⟨b,off,none⟩/\ok b/\∀ j (h:j<l.length),W.cell? ⟨b,off+j * 5,none⟩=some (.string ⟨l[j].1.toArray⟩)/\W.cell? ⟨b,off+j * 5+1,none⟩=some (.int .u8 (qs j).o)/\W.cell? ⟨b,off+j * 5+2,none⟩=some (.string (qs j).n)/\W.cell? ⟨b,off+j * 5+3,none⟩=some (.slice (qs j).a (qs j).l (qs j).c)/\W.cell? ⟨b,off+j * 5+4,none⟩=some (.slice (qs j).b (qs j).m (qs j).e)) ∧
 ∀ j (h:j<l.length),FormV ok W (qs j).val l[j].2
def TBindsV (ok:Nat->Prop) (W:World) (v:Value) (l:List (Str×Tm)):Prop:=∃(a:Option Addr) (cap:Nat) (qs:Nat->TQ),v=.slice a l.length cap/\l.length<=cap ∧
 (l=[]\/∃b off,a=some ⟨b,off,none⟩/\ok b/\∀ j (h:j<l.length),W.cell? ⟨b,off+j * 4,none⟩=some (.string ⟨l[j].1.toArray⟩)/\W.cell? ⟨b,off+j * 4+1,none⟩=some (.bool (qs j).v)/\W.cell? ⟨b,off+j * 4+2,none⟩=some (.string (qs j).n)/\W.cell? ⟨b,off+j * 4+3,none⟩=some (.slice (qs j).a (qs j).l (qs j).c)) ∧
 ∀ j (h:j<l.length),TermV ok W (qs j).val l[j].2
def SPairsV (ok:Nat->Prop) (W:World) (v:Value) (l:List (Fm×Fm)):Prop:=∃(a:Option Addr) (cap:Nat) (ps qs:Nat->FQ),v=.slice a l.length cap/\l.length<=cap ∧
 (l=[]\/∃b off,a=some ⟨b,off,none⟩/\ok b/\∀ j (h:j<l.length),W.cell? ⟨b,off+j * 8,none⟩=some (.int .u8 (ps j).o)/\W.cell? ⟨b,off+j * 8+1,none⟩=some (.string (ps j).n)/\W.cell? ⟨b,off+j * 8+2,none⟩=some (.slice (ps j).a (ps j).l (ps j).c)/\W.cell? ⟨b,off+j * 8+3,none⟩=some (.slice (ps j).b (ps j).m (ps j).e) ∧
   W.cell? ⟨b,off+j * 8+4,none⟩=some (.int .u8 (qs j).o)/\W.cell? ⟨b,off+j * 8+5,none⟩=some (.string (qs j).n)/\W.cell? ⟨b,off+j * 8+6,none⟩=some (.slice (qs j).a (qs j).l (qs j).c)/\W.cell? ⟨b,off+j * 8+7,none⟩=some (.slice (qs j).b (qs j).m (qs j).e)) ∧
 ∀ j (h:j<l.length),FormV ok W (ps j).val l[j].1/\FormV ok W (qs j).val l[j].2
structure BQ where
 a:Option Addr
 l:Nat
 c:Nat
 b:Option Addr
 m:Nat
 e:Nat
def BQ.val (q:BQ):Value:=.agg #[.slice q.a q.l q.c,.slice q.b q.m q.e]
def BindV (ok:Nat->Prop) (W:World) (q:BQ) (b:Bd):Prop:=FBindsV ok W (.slice q.a q.l q.c) b.fs/\TBindsV ok W (.slice q.b q.m q.e) b.ts
theorem dn {W:World} {b o:Nat} {v:Value} (hb:W'.heap[b]?=W.heap[b]?) (h:W.cell? ⟨b,o,none⟩=some v):W'.cell? ⟨b,o,none⟩=some v:=(World.cell?_of_block (a:=⟨b,o,none⟩) hb).trans h
theorem FBindsV.move {W:World} (hb:gF ok ok' W W') {v:Value} {l:List (Str×Fm)} (h:FBindsV ok W v l):FBindsV ok' W' v l:=by
 have qlv:=();exact qd6
theorem TBindsV.move {W:World} (hb:gF ok ok' W W') {v:Value} {l:List (Str×Tm)} (h:TBindsV ok W v l):TBindsV ok' W' v l:=by
 exact qd6
theorem SPairsV.move {W:World} (hb:gF ok ok' W W') {v:Value} {l:List (Fm×Fm)} (h:SPairsV ok W v l):SPairsV ok' W' v l:=by
 obtain ⟨a,cap,ps,qs,hv,hc,hs,hf⟩:=h;refine ⟨a,cap,ps,qs,hv,hc,?_,fun j hj=>⟨(hf j hj).1.move hb,(hf j hj).2.move hb⟩⟩;have qlw:=();exact qbW
theorem BindV.move {W:World} (hb:gF ok ok' W W') {q:BQ} {b:Bd} (h:BindV ok W q b):BindV ok' W' q b:=⟨h.1.move hb,h.2.move hb⟩
theorem FBindsV.later {W:World} {v:Value} {l:List (Str×Fm)} (h:FBindsV ok W v l) (hb:Below W.heap.size W W'):FBindsV ok W' v l:=h.move (dI hb)
theorem TBindsV.later {W:World} {v:Value} {l:List (Str×Tm)} (h:TBindsV ok W v l) (hb:Below W.heap.size W W'):TBindsV ok W' v l:=h.move (dI hb)
theorem BindV.later {W:World} {q:BQ} {b:Bd} (h:BindV ok W q b) (hb:Below W.heap.size W W'):BindV ok W' q b:=h.move (dI hb)
theorem FBindsV.len {W:World} {a:Option Addr} {n:Nat} {l:List (Str×Fm)} (h:FBindsV ok W (.slice a n c) l):n=l.length:=by
 exact qbd
theorem TBindsV.len {W:World} {a:Option Addr} {n:Nat} {l:List (Str×Tm)} (h:TBindsV ok W (.slice a n c) l):n=l.length:=by
 exact qbd
theorem FBindsV.slice {W:World} {v:Value} {l:List (Str×Fm)} (h:FBindsV ok W v l):∃a c,v=.slice a l.length c:=by obtain ⟨a,c,_,hv,_⟩:=h;exact ⟨a,c,hv⟩
theorem TBindsV.slice {W:World} {v:Value} {l:List (Str×Tm)} (h:TBindsV ok W v l):∃a c,v=.slice a l.length c:=by obtain ⟨a,c,_,hv,_⟩:=h;exact ⟨a,c,hv⟩
theorem FBindsV.get {W:World} {a:Option Addr} {n:Nat} {l:List (Str×Fm)} (h:FBindsV ok W (.slice a n c) l) (hj:j<l.length) :
  ∃b off,∃q:FQ,a=some ⟨b,off,none⟩/\ok b/\FormV ok W q.val l[j].2/\W.cell? ⟨b,off+j * 5,none⟩=some (.string ⟨l[j].1.toArray⟩)/\W.cell? ⟨b,off+j * 5+1,none⟩=some (.int .u8 q.o)/\W.cell? ⟨b,off+j * 5+2,none⟩=some (.string q.n)/\W.cell? ⟨b,off+j * 5+3,none⟩=some (.slice q.a q.l q.c)/\W.cell? ⟨b,off+j * 5+4,none⟩=some (.slice q.b q.m q.e):=by
 exact qd7
theorem TBindsV.get {W:World} {a:Option Addr} {n:Nat} {l:List (Str×Tm)} (h:TBindsV ok W (.slice a n c) l) (hj:j<l.length) :
  ∃b off,∃q:TQ,a=some ⟨b,off,none⟩/\ok b/\TermV ok W q.val l[j].2/\W.cell? ⟨b,off+j * 4,none⟩=some (.string ⟨l[j].1.toArray⟩)/\W.cell? ⟨b,off+j * 4+1,none⟩=some (.bool q.v)/\W.cell? ⟨b,off+j * 4+2,none⟩=some (.string q.n)/\W.cell? ⟨b,off+j * 4+3,none⟩=some (.slice q.a q.l q.c):=by
 exact qd7
theorem SPairsV.get {W:World} {a:Option Addr} {n:Nat} {l:List (Fm×Fm)} (h:SPairsV ok W (.slice a n c) l) (hj:j<l.length) :
  ∃b off,∃p q:FQ,a=some ⟨b,off,none⟩/\ok b/\FormV ok W p.val l[j].1/\FormV ok W q.val l[j].2/\W.cell? ⟨b,off+j * 8,none⟩=some (.int .u8 p.o)/\W.cell? ⟨b,off+j * 8+1,none⟩=some (.string p.n)/\W.cell? ⟨b,off+j * 8+2,none⟩=some (.slice p.a p.l p.c)/\W.cell? ⟨b,off+j * 8+3,none⟩=some (.slice p.b p.m p.e) ∧
   W.cell? ⟨b,off+j * 8+4,none⟩=some (.int .u8 q.o)/\W.cell? ⟨b,off+j * 8+5,none⟩=some (.string q.n)/\W.cell? ⟨b,off+j * 8+6,none⟩=some (.slice q.a q.l q.c)/\W.cell? ⟨b,off+j * 8+7,none⟩=some (.slice q.b q.m q.e):=by
 obtain ⟨a',cap,ps,qs,hv,_,hs,hf⟩:=h;exact qbc
theorem Gd {F:Fence} (hd:F.depth=none) (k:Nat):F.room k:=fun d h=>by rw[hd]at h;cases h
theorem IB {F:Fence} (hd:F.depth=none) {m':Nat} {P:Program} {l:Nat} {w:World} {R:Ending->World->Prop}
  (h:RoundIn F m P l f tmps assign body w R):RoundIn F m' P l f tmps assign body w R:=⟨h.1,fun c cs _=>h.2 c cs (Gd hd _)⟩
theorem j8 (m':Nat) {P:Program} {l:Nat} {args:Array Value} {W:World} {R:Ending->World->Prop} (h:YieldAt Fence.wide m P l args W R):YieldAt Fence.wide m' P l args W R:=by
 obtain ⟨fn,tmps,assign,body,hy,hR⟩:=h;exact ⟨fn,tmps,assign,body,hy,IB rfl hR⟩
structure Kp (M:Nat->Prop) (X Y:World):Prop where
 os:Y.os=X.os
 tape:Y.tape=X.tape
 output:Y.output=X.output
 size:X.heap.size<=Y.heap.size
 same:∀ b,b<X.heap.size->¬M b->Y.heap[b]?=X.heap[b]?
structure KpFrom (M:Nat->Prop) (B:Nat) (X Y:World):Prop where
 size:X.heap.size<=Y.heap.size
 same:∀ b,B<=b->b<X.heap.size->¬M b->Y.heap[b]?=X.heap[b]?
variable {M:Nat->Prop}
theorem Kp.refl (W:World):Kp M W W:=⟨rfl,rfl,rfl,aC _,fun _ _ _=>rfl⟩
theorem Kp.trans {B:World} (h:Kp M A B) (k:Kp M B C):Kp M A C:=
 ⟨k.os.trans h.os,k.tape.trans h.tape,k.output.trans h.output,aN h.size k.size,fun b hb hm=>(k.same b (bJ hb h.size) hm).trans (h.same b hb hm)⟩
theorem Kp.mono {M':Nat->Prop} {B:World} (h:Kp M A B) (hM:∀ b,b<A.heap.size->M b->M' b):Kp M' A B:=⟨h.os,h.tape,h.output,h.size,fun b hb hm=>h.same b hb (fun h'=>hm (hM b hb h'))⟩
theorem Kp.from {B:World} (h:Kp M A B) (n:Nat):KpFrom M n A B:=⟨h.size,fun b _ hb hm=>h.same b hb hm⟩
theorem KpFrom.trans {n:Nat} {B:World} (h:KpFrom M n A B) (k:KpFrom M n B C):KpFrom M n A C:=
 ⟨aN h.size k.size,fun b hn hb hm=>(k.same b hn (bJ hb h.size) hm).trans (h.same b hn hb hm)⟩
theorem Kp.below {B:World} (h:Below A.heap.size A B):Kp M A B:=⟨h.os,h.tape,h.output,h.size,fun b hb _=>h.block b hb⟩
theorem Kp.empty {B:World} (h:Kp (fun _=>False) A B):Below A.heap.size A B:=⟨h.os,h.tape,h.output,h.size,fun b hb=>h.same b hb id⟩
theorem Kp.cell {B:World} (h:Kp M A B) {a:Addr} {v:Value} (hm:¬M a.block) (hc:A.cell? a=some v):B.cell? a=some v:=
 (World.cell?_of_block (h.same a.block (World.block_lt_of_cell? A a hc) hm)).trans hc
theorem Kp.grown {B:World} {r:Nat} (h:A.grownBy B (some r)) (hr:M r):Kp M A B:=⟨h.os,h.tape,h.output,h.size,fun b hb hm=>h.block b hb (fun e=>hm (by cases e;exact hr))⟩
structure Nw (B:Nat) (X Y:World):Prop where
 os:Y.os=X.os
 tape:Y.tape=X.tape
 output:Y.output=X.output
 size:X.heap.size<=Y.heap.size
 same:∀ b,b<X.heap.size->Y.heap[b]?=X.heap[b]?\/(B<=b/\(∃o:Obj,X.heap[b]?=some o/\o.isCells=false)/\∃o:Obj,Y.heap[b]?=some o/\o.isCells=false)
theorem Nw.refl (B:Nat) (X:World):Nw B X X:=⟨rfl,rfl,rfl,aC _,fun _ _=>.inl rfl⟩
theorem Nw.trans {Z:World} (h:Nw B X Y) (k:Nw B Y Z):Nw B X Z:=
 ⟨k.os.trans h.os,k.tape.trans h.tape,k.output.trans h.output,aN h.size k.size,fun b hb=>by
  rcases h.same b hb with h1 | ⟨h1,h2,h3⟩
  ·rcases k.same b (bJ hb h.size) with k1 | ⟨k1,k2,k3⟩
   ·exact .inl (k1.trans h1)
   ·exact .inr ⟨k1,by rw[<-h1];exact k2,k3⟩
  ·rcases k.same b (bJ hb h.size) with k1 | ⟨k1,k2,k3⟩
   ·exact .inr ⟨h1,h2,by rw[k1];exact h3⟩
   ·exact .inr ⟨h1,h2,k3⟩⟩
theorem Nw.mono (h:Nw B' X Y) (hB:B<=B'):Nw B X Y:=⟨h.os,h.tape,h.output,h.size,fun b hb=>by
 rcases h.same b hb with h1 | ⟨h1,h2⟩
 ·exact .inl h1
 ·exact .inr ⟨aN hB h1,h2⟩⟩
theorem Nw.below (h:Below X.heap.size X Y):Nw B X Y:=⟨h.os,h.tape,h.output,h.size,fun b hb=>.inl (h.block b hb)⟩
theorem Nw.put {l:Nat} {o':Obj} (hB:B<=l) (hl:X.heap[l]?=some o) (ho:o.isCells=false) (QO:o'.isCells=false):Nw B X (X.putObj l o'):=
 ⟨rfl,rfl,rfl,by simp,fun b hb=>by
  by_cases h:b=l
  ·subst h;exact .inr ⟨hB,⟨o,hl,ho⟩,o',World.putObj_heap_same hb,QO⟩
  ·exact .inl (oB h)⟩
theorem Nw.old (h:Nw B X Y) {b:Nat} (hb:b<B) (hx:b<X.heap.size):Y.heap[b]?=X.heap[b]?:=by
 rcases h.same b hx with h1 | ⟨h1,_⟩
 ·exact h1
 ·omega
theorem Nw.cells (h:Nw B X Y) {b:Nat} {cs:Array Value} {t:TypeId} {fr:Nat×Nat} (hc:X.heap[b]?=some (.cells cs t fr)):Y.heap[b]?=some (.cells cs t fr):=by
 rcases h.same b (bA hc) with h1 | ⟨_,⟨o,h1,h2⟩,_⟩
 ·exact h1.trans hc
 ·rw[hc]at h1;cases h1;cases h2
theorem Nw.cell (h:Nw B X Y) {a:Addr} {v:Value} (hc:X.cell? a=some v):Y.cell? a=some v:=by
 cases ho:X.heap[a.block]? with
 | none=>simp[World.cell?,ho]at hc
 | some o=>
  cases o with
  | cells cs t fr=>exact (World.cell?_of_block ((h.cells ho).trans ho.symm)).trans hc
  | _=>simp[World.cell?,ho]at hc
def Abides (B:Nat) (I:World->Prop):Prop:=∀ X Y,Nw B X Y->I X->I Y
theorem Abides.mono {I:World->Prop} (h:Abides B I) (hB:B<=B'):Abides B' I:=fun X Y hn=>h X Y (hn.mono hB)
def La (M:Nat->Prop) (st:Prop) (P:Program) (gf:Nat) (lb:Array Value) {T:Type} (xs:List T) (At:World->Array Value->T->Prop) (w:World):Prop:=
 ∀ (l:Nat) (J Jx:List T->World->Prop) (W:World),Kp M w W->(∀ b,M b->b<w.heap.size)->l<W.heap.size->¬M l →
  (∀ s,Abides W.heap.size (J s))->(∀ s,Abides W.heap.size (Jx s)) →
  (∀ pre vs x W1,J pre W1->Kp M W W1->At W1 vs x->(pre ++ [x]) <+: xs->YieldAt Fence.wide 0 P l vs W1 fun e W'=>
    (e=.returned (.bool true)/\J (pre ++ [x]) W'/\Kp M W1 W')\/(st/\e=.returned (.bool false)/\Jx (pre ++ [x]) W'/\KpFrom M (l+1) W1 W')) →
  J [] W →
  Calls P gf (#[.func (.yield l) #[] #[]] ++ lb) W fun e W'=>(∃v,e=.returned v) ∧
   ((J xs W'/\Kp M W W')\/(st/\∃pre,pre <+: xs/\Jx pre W'/\KpFrom M (l+1) W W'))
def Xx (M:Nat->Prop) (st:Prop) {T:Type} (B:Nat) (I:List T->World->Prop) (Ix:Code->List T->World->Prop) (xs:List T) (W:World):Exit->Act->World->Prop
 | .normal,_,W'=>Kp M W W'/\I xs W'
 | .ret,_,W'=>st/\KpFrom M B W W'/\Ix .ret xs W'
 | .exit id,_,W'=>st/\KpFrom M B W W'/\Ix (.exit id) xs W'
 | .goto t,_,W'=>st/\KpFrom M B W W'/\Ix (.goto t) xs W'
 | .panic _,_,_=>False
 | .outgrown,_,_=>False
structure Busy (l:Nat) (W W2:World):Prop where
 os:W2.os=W.os
 tape:W2.tape=W.tape
 output:W2.output=W.output
 size:W2.heap.size=W.heap.size
 same:∀ b,b≠l->W2.heap[b]?=W.heap[b]?
 lrec:∃r,W2.heap[l]?=some (.loop r)
theorem Busy.cell {l:Nat} {W W2:World} (h:Busy l W W2) (hl:∃r,W.heap[l]?=some (.loop r)) {a:Addr} {v:Value} (hc:W.cell? a=some v):W2.cell? a=some v:=by
 refine (World.cell?_of_block (h.same a.block (fun e=>?_))).trans hc;obtain ⟨r,hr⟩:=hl;rw[World.cell?,e,hr]at hc;simp at hc
theorem AM {w:World} (o:Obj) (hk:Kp M w X) (hL:w.heap.size<=L):Kp M w (X.putObj L o):=
 ⟨hk.os,hk.tape,hk.output,by simpa using hk.size,fun b hb hm=>(oB (by omega)).trans (hk.same b hb hm)⟩
theorem UU {P:Program} {T:Type} {xs:List T} {w:World} {fn:Nat} {dd:Nat} (hL0:w.heap.size<=L) (hM:∀ b,M b->b<w.heap.size)
  {xg:LoopState->Option Code->Loop} (z8:xg=fun st pe=>{ state:=st,pending:=pe,fn,tmps,params:=ps,assign,body,defers:=dd })
  {At:World->Array Value->T->Prop} (iG:∀ W vs x,At W vs x->vs.size=ps.size)
  (I:List T->World->Prop) (Ix:Code->List T->World->Prop) (hI:∀ s,Abides w.heap.size (I s)) (hIx:∀ c s,Abides w.heap.size (Ix c s))
  (Lb:∀ (l:Nat) (pre:List T) (vs:Array Value) (x:T) (W:World),w.heap.size<=l->(∃r,W.heap[l]?=some (.loop r))->I pre W->At W vs x->Kp M w W->(pre ++ [x]) <+: xs →
    assign.wpIn (Fence.wide.inRound l) 3 P (Exit.then (fun a' W'=>Kp M W W'/\I pre W'/\∀ W2,Busy l W' W2->I pre W2->Kp M w W2 →
     body.wpIn (Fence.wide.inRound l) 3 P (Xx M st w.heap.size I Ix (pre ++ [x]) W2) a' W2) (fun _ _ _=>False)) { tmps:=(ps.zip vs).foldl (fun t (p,v)=>t.setIfInBounds p v) tmps,defers:=[] } W)
  (pre:List T) (vs:Array Value) (x:T) (W:World) (hi:I pre W) (hl:W.heap[L]?=some (.loop (xg .ready none))) (jD:Kp M w W) (hat:At W vs x) (dq:(pre ++ [x]) <+: xs)
  (D:Nat) (od:Obj) (hD:w.heap.size<=D/\D≠L) (hd:W.heap[D]?=some od) :
  YieldAt Fence.wide 0 P L vs W fun e W'=>
   (e=.returned (.bool true)/\(I (pre ++ [x]) W'/\W'.heap[L]?=some (.loop (xg .ready none))/\W'.heap[D]?=some od/\Kp M w W')/\Kp M W W') ∨
   (st/\e=.returned (.bool false)/\(∃c,Ix c (pre ++ [x]) W'/\W'.heap[L]?=some (.loop (xg .done (some c)))/\W'.heap[D]?=some od)/\KpFrom M (L+1) W W'):=by
 refine j8 (m:=3) 0 ?_;have hy:=run_yield (P:=P) (args:=vs) hl (by rw[z8];exact iG W vs x hat);rw[z8]at hy;refine ⟨fn,_,assign,body,hy,roundIn_of_wpIn trivial (wpIn_mono (Lb L pre vs x W hL0 ⟨_,hl⟩ hi hat jD dq) ?_)⟩;clear hy hat;intro e1 a' Wa hq1
 cases e1 with
 | ret=>exact hq1.elim
 | exit id=>exact hq1.elim
 | goto t=>exact hq1.elim
 | panic ch=>exact hq1.elim
 | outgrown=>exact hq1.elim
 | normal=>?_
 obtain ⟨dy,Ar,zaP⟩:=hq1;have hLW:=(bA hl);have hDW:=(bA hd);have hLm:¬M L:=fun h=>by have:=hM L h;omega
 have hDm:¬M D:=fun h=>by have:=hM D h;omega
 have hla:Wa.heap[L]?=some (.loop (xg .ready none)):=(dy.same L hLW hLm).trans hl;have hda:Wa.heap[D]?=some od:=(dy.same D hDW hDm).trans hd;have zaQ:L<Wa.heap.size:=(bA hla);refine ⟨_,run_beginRound hla (by rw[z8]),?_⟩;have qI:(Wa.putObj L (.loop { xg .ready none with state:=.busy })).heap[L]?=some (.loop { xg .ready none with state:=.busy }):=World.putObj_heap_same zaQ;have KL:(Wa.putObj L (.loop { xg .ready none with state:=.busy })).heap[D]?=some od:=(oB hD.2).trans hda;have zc3:=jD.trans dy;refine wpIn_mono (zaP _ ⟨rfl,rfl,rfl,by simp,fun b hb=>oB hb,_,qI⟩ (hI pre _ _ (Nw.put hL0 hla rfl rfl) Ar) (AM _ zc3 hL0)) ?_;have fin:∀ (sD:Option Code) (W3:World),KpFrom M w.heap.size (Wa.putObj L (.loop { xg .ready none with state:=.busy })) W3 →
   (Instr.endRound L sD).run P W3=.ok (.bool sD.isNone) (W3.putObj L (.loop (xg (if sD.isNone then .ready else .done) sD))) ∧
   W3.heap[L]?=some (.loop { xg .ready none with state:=.busy }) ∧
   (W3.putObj L (.loop (xg (if sD.isNone then .ready else .done) sD))).heap[L]?=some (.loop (xg (if sD.isNone then .ready else .done) sD)) ∧
   (W3.putObj L (.loop (xg (if sD.isNone then .ready else .done) sD))).heap[D]?=some od ∧
   (∀ b,w.heap.size<=b->b≠L->b<W.heap.size->(W3.putObj L (.loop (xg (if sD.isNone then .ready else .done) sD))).heap[b]?=W.heap[b]?) ∧
   W.heap.size<=(W3.putObj L (.loop (xg (if sD.isNone then .ready else .done) sD))).heap.size:=fun sD W3 jr=>by
  have M9:=(jr.same L hL0 (by simpa using zaQ) hLm).trans qI;have M_:=(jr.same D hD.1 (by simp;have:=dy.size;omega) hDm).trans KL;have:=run_endRound (P:=P) sD M9;rw[z8]at this ⊢;refine ⟨this,by rw[z8]at M9;exact M9,World.putObj_heap_same (bA M9),(oB hD.2).trans M_,fun b hb hbL hs=>?_,?_⟩
  ·have hbm:¬M b:=fun h=>by have:=hM b h;omega
   exact (oB hbL).trans ((jr.same b hb (by simp;have:=dy.size;omega) hbm).trans ((oB hbL).trans (dy.same b hs hbm)))
  ·have:=dy.size;have:=jr.size;simp at *;omega
 rintro e a3 W3 hp;have Zi:∀ (c:Code),st->KpFrom M w.heap.size (Wa.putObj L (.loop { xg .ready none with state:=.busy })) W3->Ix c (pre ++ [x]) W3 →
   ∃v w',(Instr.endRound L (some c)).run P W3=.ok v w'/\((Ending.returned v=.returned (.bool true)/\(I (pre ++ [x]) w'/\w'.heap[L]?=some (.loop (xg .ready none))/\w'.heap[D]?=some od/\Kp M w w')/\Kp M W w') ∨
   (st/\Ending.returned v=.returned (.bool false)/\(∃c,Ix c (pre ++ [x]) w'/\w'.heap[L]?=some (.loop (xg .done (some c)))/\w'.heap[D]?=some od)/\KpFrom M (L+1) W w')):=fun c cD jr hi3=>by
  obtain ⟨hr,M9,IC,UV,eJ,hsz⟩:=fin (some c) W3 jr;exact ⟨_,_,hr,.inr ⟨cD,rfl,⟨c,hIx c (pre ++ [x]) _ _ (Nw.put hL0 M9 rfl rfl) hi3,IC,UV⟩,⟨hsz,fun b hb hs _=>eJ b (by omega) (by omega) hs⟩⟩⟩
 cases e with
 | normal=>
  obtain ⟨jr,hi3⟩:=hp;obtain ⟨hr,M9,IC,UV,eJ,hsz⟩:=fin none W3 (jr.from _);have y_:Kp M W (W3.putObj L (.loop (xg (if (none:Option Code).isNone then .ready else .done) none))):=
   ⟨jr.os.trans dy.os,jr.tape.trans dy.tape,jr.output.trans dy.output,hsz,fun b hs hm=>by
    by_cases hbL:b=L
    ·subst hbL;exact IC.trans hl.symm
    ·exact (oB hbL).trans ((jr.same b (by simp;have:=dy.size;omega) hm).trans ((oB hbL).trans (dy.same b hs hm)))⟩
  exact ⟨_,_,hr,.inl ⟨rfl,⟨hI (pre ++ [x]) _ _ (Nw.put hL0 M9 rfl rfl) hi3,IC,UV,jD.trans y_⟩,y_⟩⟩
 | ret=>exact Zi .ret hp.1 hp.2.1 hp.2.2
 | exit id=>exact Zi (.exit id) hp.1 hp.2.1 hp.2.2
 | goto t=>exact Zi (.goto t) hp.1 hp.2.1 hp.2.2
 | panic ch=>exact hp.elim
 | outgrown=>exact hp.elim
theorem fN {P:Program} {T:Type} {xs:List T} {g:Operand} {Q:Exit->Act->World->Prop} {a:Act} {w:World}
  {gf:Nat} {lb:Array Value} (hg:a.eval g=.func (.func gf) #[] lb) (eg:∀ args w,(callFunc gf args).run P w=.ok (.enter gf args) w) (hM:∀ b,M b->b<w.heap.size)
  {At:World->Array Value->T->Prop} (nH:La M st P gf lb xs At w) (iG:∀ W vs x,At W vs x->vs.size=ps.size)
  (I:List T->World->Prop) (Ix:Code->List T->World->Prop) (hI:∀ s,Abides w.heap.size (I s)) (hIx:∀ c s,Abides w.heap.size (Ix c s)) (h0:I [] w)
  (Lb:∀ (l:Nat) (pre:List T) (vs:Array Value) (x:T) (W:World),w.heap.size<=l->(∃r,W.heap[l]?=some (.loop r))->I pre W->At W vs x->Kp M w W->(pre ++ [x]) <+: xs →
    assign.wpIn (Fence.wide.inRound l) 3 P (Exit.then (fun a' W'=>Kp M W W'/\I pre W'/\∀ W2,Busy l W' W2->I pre W2->Kp M w W2 →
     body.wpIn (Fence.wide.inRound l) 3 P (Xx M st w.heap.size I Ix (pre ++ [x]) W2) a' W2) (fun _ _ _=>False)) { tmps:=(ps.zip vs).foldl (fun t (p,v)=>t.setIfInBounds p v) a.tmps,defers:=[] } W)
  (zaR:∀ (D:Nat) (W:World),w.heap.size<=D->I xs W->Kp M w W->W.heap[D]?=some (.deferred (some []))->Q .normal { a with defers:={ target:=.collected D,args:=#[] } :: a.defers } W)
  (zaS:∀ (D:Nat) (c:Code) (pre:List T) (W:World),st->w.heap.size<=D->pre <+: xs->Ix c pre W->W.heap[D]?=some (.deferred (some []))->c.wpIn Fence.wide 3 P Q { a with defers:={ target:=.collected D,args:=#[] } :: a.defers } W) :
  (Code.rangeFunc g ps assign body).wpIn Fence.wide 3 P Q a w:=by
 refine wpIn_rangeFunc ?_;intro fn _;obtain ⟨xg,z8⟩:∃xg:LoopState->Option Code->Loop,xg=fun st pe=>{ state:=st,pending:=pe,fn,tmps:=a.tmps,params:=ps,assign,body,defers:=w.heap.size }:=⟨_,rfl⟩;obtain ⟨W1,bY⟩:∃W1,(w.alloc (.deferred (some []))).alloc (.loop (xg .ready none))=W1:=⟨_,rfl⟩;have hL1:W1.heap[w.heap.size+1]?=some (.loop (xg .ready none)):=by
  rw[<-bY];have:=fD (w.alloc (.deferred (some []))) (.loop (xg .ready none));rwa [World.size_alloc]at this
 have hK1:W1.heap[w.heap.size]?=some (.deferred (some [])):=by
  rw[<-bY];exact (bH _ _ _ (by simp)).trans (fD w _)
 have hb1:Below w.heap.size w W1:=by
  rw[<-bY];exact ((ai _ w).alloc (aC _) _).alloc (by simp) _
 have gG:W1.heap.size=w.heap.size+2:=by rw[<-bY];simp
 have hI1:I [] W1:=hI [] _ _ (Nw.below hb1) h0;have D5:Kp M w W1:=Kp.below hb1;have jb:∀ b,w.heap.size<=b->¬M b:=fun b hb h=>by have:=hM b h;omega
 refine ⟨w.heap.size+1,[{ target:=.collected w.heap.size,args:=#[] }],W1,{ target:=.fn (.func gf) lb,args:=#[.func (.yield (w.heap.size+1)) #[] #[]] },W1,gf,
  #[.func (.yield (w.heap.size+1)) #[] #[]] ++ lb,W1,?_,?_,?_,?_,(fun h=>by cases h),?_⟩
 ·rw[<-bY,z8];exact run_enterLoop_outer _ _ _ _ _
 ·simp only[resolve,hg];simp[go_sem]
 ·intro f' E3;simp[Target.leads]at E3;subst E3;trivial
 ·simp[invoke,go_sem,eg]
 ·refine aH.2 ((nH (w.heap.size+1)
   (fun pre W=>I pre W/\W.heap[w.heap.size+1]?=some (.loop (xg .ready none))/\W.heap[w.heap.size]?=some (.deferred (some []))/\Kp M w W)
   (fun pre W=>∃c,Ix c pre W/\W.heap[w.heap.size+1]?=some (.loop (xg .done (some c)))/\W.heap[w.heap.size]?=some (.deferred (some [])))
   W1 D5 hM (by omega) (jb _ (by omega)) ?_ ?_ ?_ ⟨hI1,hL1,hK1,D5⟩).mono ?_)
  ·rintro s X Y hn ⟨h1,h2,h3,h4⟩;refine ⟨hI s X Y (hn.mono (by omega)) h1,(hn.old (by omega) (bA h2)).trans h2,(hn.old (by omega) (bA h3)).trans h3,hn.os.trans h4.os,hn.tape.trans h4.tape,hn.output.trans h4.output,aN h4.size hn.size,fun b hb hm=>?_⟩;exact (hn.old (by omega) (bJ hb h4.size)).trans (h4.same b hb hm)
  ·rintro s X Y hn ⟨c,h1,h2,h3⟩;exact ⟨c,hIx c s X Y (hn.mono (by omega)) h1,(hn.old (by omega) (bA h2)).trans h2,(hn.old (by omega) (bA h3)).trans h3⟩
  ·rintro pre vs x W ⟨hi,hl,hd,jD⟩ Ii hat dq;exact UU (by omega) hM z8 iG I Ix hI hIx Lb pre vs x W hi hl jD hat dq _ _ ⟨aC _,by simp⟩ hd
  ·rintro e W2 ⟨⟨v,rfl⟩,(⟨⟨hi,hl,hd,jD⟩,_⟩ | ⟨cD,pre,hSp,⟨c,hi,hl,hd⟩,Xy⟩)⟩
   ·exact ⟨none,_,by have:=run_endLoop (P:=P) hl (by rw[z8];simp);rw[z8]at this;exact this,zaR _ _ (aC _) (hI xs _ _ (Nw.put (by omega) hl rfl rfl) hi) (AM _ jD (by omega)) ((oB (by simp)).trans hd)⟩
   ·exact ⟨some c,_,by have:=run_endLoop (P:=P) hl (by rw[z8];simp);rw[z8]at this;exact this,zaS _ c pre _ cD (aC _) hSp (hIx c pre _ _ (Nw.put (by omega) hl rfl rfl) hi) ((oB (by simp)).trans hd)⟩
theorem ah {w:World} {k:Nat} (h:k=w.heap.size):(w.alloc o).heap[k]?=some o:=by rw[h];exact fD w o
theorem jR {w:World} {a:Addr} {v:Value} (h:w.cell? a=some v):a.block<w.heap.size:=World.block_lt_of_cell? w a h
theorem aa {W w:World} (hb:Below W.heap.size W w) {a:Addr} {v:Value} (h:W.cell? a=some v):w.cell? a=some v:=(hb.cell (jR h)).trans h
theorem aF {W:World} {b:Nat} {cs:Array Value} {T:TypeId} {fr:Nat×Nat} (h:W.heap[b]?=some (.cells cs T fr)) (k:Nat):W.cell? ⟨b,k,none⟩=cs[k]?:=by simp[World.cell?,h]
theorem ac {W:World} {b:Nat} {cs:Array Value} {T:TypeId} (h:W.heap[b]?=some (.cells cs T (0,0))) (k:Nat):W.frozen? ⟨b,k,none⟩=false:=by simp[World.frozen?,h]
theorem ag {W:World} {b:Nat} {cs:Array Value} {T:TypeId} {fr:Nat×Nat} (h:W.heap[b]?=some (.cells cs T fr)) (k:Nat) {v:Option Value} (e:cs[k]?=v:=by rfl):W.cell? ⟨b,k,none⟩=v:=(aF h k).trans e
section
variable {W w:World} {b:Nat} {cs:Array Value} {T:TypeId} {fr:Nat×Nat}
theorem UW (h:W.heap[b]?=some (.cells cs T fr)):W.cell? ⟨b,0,none⟩=cs[0]?/\W.cell? ⟨b,1,none⟩=cs[1]?:=⟨aF h 0,aF h 1⟩
theorem mq (h:W.heap[b]?=some (.cells cs T fr)):W.cell? ⟨b,0,none⟩=cs[0]?/\W.cell? ⟨b,1,none⟩=cs[1]?/\W.cell? ⟨b,2,none⟩=cs[2]?:=⟨aF h 0,aF h 1,aF h 2⟩
theorem nI (h:W.heap[b]?=some (.cells cs T fr)):W.cell? ⟨b,0,none⟩=cs[0]?/\W.cell? ⟨b,1,none⟩=cs[1]?/\W.cell? ⟨b,2,none⟩=cs[2]?/\W.cell? ⟨b,3,none⟩=cs[3]?:=⟨aF h 0,aF h 1,aF h 2,aF h 3⟩
theorem D6 (h:W.heap[b]?=some (.cells cs T fr)):W.cell? ⟨b,0,none⟩=cs[0]?/\W.cell? ⟨b,1,none⟩=cs[1]?/\W.cell? ⟨b,2,none⟩=cs[2]?/\W.cell? ⟨b,3,none⟩=cs[3]?/\W.cell? ⟨b,4,none⟩=cs[4]?/\W.cell? ⟨b,5,none⟩=cs[5]?/\W.cell? ⟨b,6,none⟩=cs[6]?/\W.cell? ⟨b,7,none⟩=cs[7]?:=⟨aF h 0,aF h 1,aF h 2,aF h 3,aF h 4,aF h 5,aF h 6,aF h 7⟩
variable {a1 a2 a3 a4 a5 a6 a7 a8 a9:Addr} {v1 v2 v3 v4 v5 v6 v7 v8 v9:Value}
theorem AN (hb:Below W.heap.size W w) (h1:W.cell? a1=some v1) (h2:W.cell? a2=some v2):w.cell? a1=some v1/\w.cell? a2=some v2:=⟨aa hb h1,aa hb h2⟩
theorem jX (hb:Below W.heap.size W w) (h1:W.cell? a1=some v1) (h2:W.cell? a2=some v2) (h3:W.cell? a3=some v3):w.cell? a1=some v1/\w.cell? a2=some v2/\w.cell? a3=some v3:=⟨aa hb h1,aa hb h2,aa hb h3⟩
theorem lH (hb:Below W.heap.size W w) (h1:W.cell? a1=some v1) (h2:W.cell? a2=some v2) (h3:W.cell? a3=some v3) (h4:W.cell? a4=some v4):w.cell? a1=some v1/\w.cell? a2=some v2/\w.cell? a3=some v3/\w.cell? a4=some v4:=⟨aa hb h1,aa hb h2,aa hb h3,aa hb h4⟩
theorem Zj (hb:Below W.heap.size W w) (h1:W.cell? a1=some v1) (h2:W.cell? a2=some v2) (h3:W.cell? a3=some v3) (h4:W.cell? a4=some v4) (h5:W.cell? a5=some v5):w.cell? a1=some v1/\w.cell? a2=some v2/\w.cell? a3=some v3/\w.cell? a4=some v4/\w.cell? a5=some v5:=⟨aa hb h1,aa hb h2,aa hb h3,aa hb h4,aa hb h5⟩
theorem Lc (hb:Below W.heap.size W w) (h1:W.cell? a1=some v1) (h2:W.cell? a2=some v2) (h3:W.cell? a3=some v3) (h4:W.cell? a4=some v4) (h5:W.cell? a5=some v5) (h6:W.cell? a6=some v6) (h7:W.cell? a7=some v7) (h8:W.cell? a8=some v8):w.cell? a1=some v1/\w.cell? a2=some v2/\w.cell? a3=some v3/\w.cell? a4=some v4/\w.cell? a5=some v5/\w.cell? a6=some v6/\w.cell? a7=some v7/\w.cell? a8=some v8:=⟨aa hb h1,aa hb h2,aa hb h3,aa hb h4,aa hb h5,aa hb h6,aa hb h7,aa hb h8⟩
end
theorem oG (g k:Nat):(⟨g,0,none⟩:Addr).add k=⟨g,k,none⟩:=by unfold Addr.add;split <;> simp_all
theorem f9 {w:World} {size n:Nat} {v:Value} (h:w.ownsRow base e size v n xs):(v=.slice none 0 0/\n=0)\/∃g cap,v=.slice (some ⟨g,0,none⟩) n cap/\base<=g/\g<w.heap.size:=by
 rcases h.2 with ⟨h1,h2⟩ | ⟨g,cap,cur,h1,h2,h3,_⟩
 ·exact .inl ⟨h1,h2⟩
 ·exact .inr ⟨g,cap,h1,h2,(bA h3)⟩
def TQ.cells (q:TQ):List Value:=[.bool q.v,.string q.n,.slice q.a q.l q.c]
def FQ.cells (q:FQ):List Value:=[.int .u8 q.o,.string q.n,.slice q.a q.l q.c,.slice q.b q.m q.e]
theorem zaT (qs:List TQ):∀ j (h:j<qs.length),(qs.flatMap TQ.cells)[j * 3]?=some (.bool qs[j].v)/\(qs.flatMap TQ.cells)[j * 3+1]?=some (.string qs[j].n)/\(qs.flatMap TQ.cells)[j * 3+2]?=some (.slice qs[j].a qs[j].l qs[j].c):=by
 induction qs with
 | nil=>intro j h;simp at h
 | cons q qs ih=>
  intro j h
  cases j with
  | zero=>simp[TQ.cells]
  | succ j=>
   have:=ih j (by simpa using h);simp only[List.flatMap_cons,TQ.cells,oC,sS];rw[show (j+1) * 3=j * 3+1+1+1 by omega,show j * 3+1+1+1+1=(j * 3+1)+1+1+1 by omega,show j * 3+1+1+1+2=(j * 3+2)+1+1+1 by omega];simpa using this
theorem zaU (qs:List FQ):∀ j (h:j<qs.length),(qs.flatMap FQ.cells)[j * 4]?=some (.int .u8 qs[j].o)/\(qs.flatMap FQ.cells)[j * 4+1]?=some (.string qs[j].n)/\(qs.flatMap FQ.cells)[j * 4+2]?=some (.slice qs[j].a qs[j].l qs[j].c)/\(qs.flatMap FQ.cells)[j * 4+3]?=some (.slice qs[j].b qs[j].m qs[j].e):=by
 induction qs with
 | nil=>intro j h;simp at h
 | cons q qs ih=>
  intro j h
  cases j with
  | zero=>simp[FQ.cells]
  | succ j=>
   have:=ih j (by simpa using h);simp only[List.flatMap_cons,FQ.cells,oC,sS];have qlx:=();exact qd8
theorem ID {w:World} {g n:Nat} {qs:List TQ} (h:w.ownsRow base 43 3 (.slice (some ⟨g,0,none⟩) n cap) n (qs.flatMap TQ.cells)):∀ j (hj:j<qs.length),Cells3 w g (j * 3) qs[j].val:=by
 intro j hj;obtain ⟨h0,h1,h2⟩:=zaT qs j hj;have qly:=();exact qd9
theorem zb {w:World} {g n:Nat} {qs:List FQ} (h:w.ownsRow base 36 4 (.slice (some ⟨g,0,none⟩) n cap) n (qs.flatMap FQ.cells)):∀ j (hj:j<qs.length),Cells4 w g (j * 4) qs[j].val:=by
 intro j hj;obtain ⟨h0,h1,h2,h3⟩:=zaU qs j hj;exact qd9
def RowT (lo:Nat) (v:Value) (ts:List Tm) (W:World):Prop:=
 ∃qs:List TQ,qs.length=ts.length/\W.ownsRow lo 43 3 v ts.length (qs.flatMap TQ.cells)/\∀ j (h:j<qs.length) (h2:j<ts.length),TermV (fun b=>lo<=b/\v.ownBlock≠some b) W qs[j].val ts[j]
def RowF (lo:Nat) (v:Value) (ts:List Fm) (W:World):Prop:=
 ∃qs:List FQ,qs.length=ts.length/\W.ownsRow lo 36 4 v ts.length (qs.flatMap FQ.cells)/\∀ j (h:j<qs.length) (h2:j<ts.length),FormV (fun b=>lo<=b/\v.ownBlock≠some b) W qs[j].val ts[j]
theorem RowT.nil (lo:Nat) (W:World):RowT lo (.slice none 0 0) [] W:=⟨[],rfl,World.ownsRow_nil _ _ _ _,fun j h=>by simp at h⟩
theorem RowF.nil (lo:Nat) (W:World):RowF lo (.slice none 0 0) [] W:=⟨[],rfl,World.ownsRow_nil _ _ _ _,fun j h=>by simp at h⟩
theorem RowT.shape {v:Value} {ts:List Tm} {W:World} (h:RowT lo v ts W):(v=.slice none 0 0/\ts.length=0)\/∃g cap,v=.slice (some ⟨g,0,none⟩) ts.length cap/\lo<=g/\g<W.heap.size:=by
 obtain ⟨qs,_,ho,_⟩:=h;exact f9 ho
theorem RowF.shape {v:Value} {ts:List Fm} {W:World} (h:RowF lo v ts W):(v=.slice none 0 0/\ts.length=0)\/∃g cap,v=.slice (some ⟨g,0,none⟩) ts.length cap/\lo<=g/\g<W.heap.size:=by
 obtain ⟨qs,_,ho,_⟩:=h;exact f9 ho
theorem RowT.slice {v:Value} {ts:List Tm} {W:World} (h:RowT lo v ts W):∃a c,v=.slice a ts.length c:=by
 exact qea
theorem RowF.slice {v:Value} {ts:List Fm} {W:World} (h:RowF lo v ts W):∃a c,v=.slice a ts.length c:=by
 exact qea
theorem ba {size n:Nat} {v:Value} {W:World} (h:W.ownsRow lo e size v n xs) (hb:∀ b,lo<=b->b<W.heap.size->W'.heap[b]?=W.heap[b]?):W'.ownsRow lo e size v n xs:=by
 refine ⟨h.1,?_⟩;rcases h.2 with h1 | ⟨g,cap,cur,h1,h2,h3,h4⟩
 ·exact .inl h1
 ·exact .inr ⟨g,cap,cur,h1,h2,(hb g h2 (bA h3)).trans h3,h4⟩
theorem RowT.held {v:Value} {ts:List Tm} {W:World} (h:RowT lo v ts W) (hb:∀ b,lo<=b->b<W.heap.size->W'.heap[b]?=W.heap[b]?):RowT lo v ts W':=by
 exact qeb
theorem RowF.held {v:Value} {ts:List Fm} {W:World} (h:RowF lo v ts W) (hb:∀ b,lo<=b->b<W.heap.size->W'.heap[b]?=W.heap[b]?):RowF lo v ts W':=by
 exact qeb
theorem RowT.below {v:Value} {ts:List Tm} {W:World} (h:RowT lo v ts W) (hb:Below W.heap.size W W'):RowT lo v ts W':=h.held (fun b _ hlt=>hb.block b hlt)
theorem RowF.below {v:Value} {ts:List Fm} {W:World} (h:RowF lo v ts W) (hb:Below W.heap.size W W'):RowF lo v ts W':=h.held (fun b _ hlt=>hb.block b hlt)
theorem RowT.terms {v:Value} {ts:List Tm} {W:World} (h:RowT lo v ts W):TermsV (lo<=·) W v ts:=by
 have qlz:=();exact qbX
theorem RowF.forms {v:Value} {ts:List Fm} {W:World} (h:RowF lo v ts W):FormsV (lo<=·) W v ts:=by
 have qlA:=();exact qbX
theorem RowT.step {v:Value} {ts:List Tm} {t:Tm} {W:World} {qs:List TQ} {q:TQ} (hk:qs.length=ts.length) (hb:Below W.heap.size W W1) (hlo:lo<=W.heap.size)
  (ht:∀ j (h:j<qs.length) (h2:j<ts.length),TermV (fun b=>lo<=b/\v.ownBlock≠some b) W qs[j].val ts[j]) (hv:∀ b,v.ownBlock=some b->b<W.heap.size)
  (hq:TermV (W.heap.size<=·) W1 q.val t) (aO:w4.ownsRow lo 43 3 (.slice (some ⟨g,0,none⟩) (ts.length+1) cap) (ts.length+1) (qs.flatMap TQ.cells ++ q.cells))
  (hold:∀ c,lo<=c->c<W1.heap.size->v.ownBlock≠some c->w4.heap[c]?=W1.heap[c]?) (hg:v.ownBlock=some g\/W1.heap.size<=g) :
  RowT lo (.slice (some ⟨g,0,none⟩) (ts.length+1) cap) (ts ++ [t]) w4:=by
 exact qec
theorem RowF.step {v:Value} {ts:List Fm} {t:Fm} {W:World} {qs:List FQ} {q:FQ} (hk:qs.length=ts.length) (hb:Below W.heap.size W W1) (hlo:lo<=W.heap.size)
  (ht:∀ j (h:j<qs.length) (h2:j<ts.length),FormV (fun b=>lo<=b/\v.ownBlock≠some b) W qs[j].val ts[j]) (hv:∀ b,v.ownBlock=some b->b<W.heap.size)
  (hq:FormV (W.heap.size<=·) W1 q.val t) (aO:w4.ownsRow lo 36 4 (.slice (some ⟨g,0,none⟩) (ts.length+1) cap) (ts.length+1) (qs.flatMap FQ.cells ++ q.cells))
  (hold:∀ c,lo<=c->c<W1.heap.size->v.ownBlock≠some c->w4.heap[c]?=W1.heap[c]?) (hg:v.ownBlock=some g\/W1.heap.size<=g) :
  RowF lo (.slice (some ⟨g,0,none⟩) (ts.length+1) cap) (ts ++ [t]) w4:=by
 exact qec
theorem cV {w:World} {cs:Array Value} {t:TypeId} {fr:Nat×Nat} (hb:w.heap[B]?=some (.cells cs t fr)):∀ j u,cs.toList[j]?=some u->w.cell? ((⟨B,0,none⟩:Addr).add j)=some u:=fun j u hu=>by
 rw[oG,aF hb];simpa using hu
theorem gH:(Tryz.prog.info? 43).map (fun i=>(i.zero,i.size,i.bytes))=some (some (.agg #[.bool false,.string ByteArray.empty,.slice none 0 0]),3,48):=by kernel_rfl
theorem j9:(Tryz.prog.info? 36).map (fun i=>(i.zero,i.size,i.bytes))=some (some (.agg #[.int .u8 0,.string ByteArray.empty,.slice none 0 0,.slice none 0 0]),4,72):=by kernel_rfl
mutual
def jJ (p:Nat):Tm->Bool | .mk _ n a=>decide (n.length<=p) && nmTs p a
def nmTs (p:Nat):List Tm->Bool | []=>true | t :: l=>jJ p t && nmTs p l
end
mutual
def li (p:Nat):Fm->Bool | .mk o n a s=>decide (0<=o/\o<=255) && (decide (n.length<=p) && (nmTs p a && nmFs p s))
def nmFs (p:Nat):List Fm->Bool | []=>true | t :: l=>li p t && nmFs p l
end
def fitT (t:Tm):Prop:=nodesT t<=2000000/\jJ 2000000 t=true
def fitTs (l:List Tm):Prop:=nodesTs l<=2000000/\nmTs 2000000 l=true
def fitF (f:Fm):Prop:=nodesF f<=2000000/\li 2000000 f=true
def fitFs (l:List Fm):Prop:=nodesFs l<=2000000/\nmFs 2000000 l=true
theorem jY (t:Tm):0<nodesT t:=by cases t;unfold nodesT;omega
theorem AO (t:Fm):0<nodesF t:=by cases t;unfold nodesF;omega
theorem iT (l:List Tm):l.length<=nodesTs l:=by
 induction l with
 | nil=>simp
 | cons t l ih=>have:=jY t;simp[nodesTs];omega
theorem qS (l:List Fm):l.length<=nodesFs l:=by
 induction l with
 | nil=>simp
 | cons t l ih=>have:=AO t;simp[nodesFs];omega
theorem gW {l:List Tm} {t:Tm} (h:t∈l):nodesT t<=nodesTs l:=by
 induction l with
 | nil=>cases h
 | cons u l ih=>
  unfold nodesTs;exact qbe
theorem fO {l:List Fm} {t:Fm} (h:t∈l):nodesF t<=nodesFs l:=by
 induction l with
 | nil=>cases h
 | cons u l ih=>
  unfold nodesFs;exact qbe
theorem fP {l:List Tm}:nmTs p l=true ↔ ∀ t∈l,jJ p t=true:=by
 induction l with
 | nil=>simp[nmTs]
 | cons u l ih=>simp[nmTs,ih]
theorem qT {l:List Fm}:nmFs p l=true ↔ ∀ t∈l,li p t=true:=by
 induction l with
 | nil=>simp[nmFs]
 | cons u l ih=>simp[nmFs,ih]
theorem fitTs.mem {l:List Tm} (h:fitTs l) {t:Tm} (ht:t∈l):fitT t:=⟨aN (gW ht) h.1,fP.1 h.2 t ht⟩
theorem fitFs.mem {l:List Fm} (h:fitFs l) {t:Fm} (ht:t∈l):fitF t:=⟨aN (fO ht) h.1,qT.1 h.2 t ht⟩
theorem fitTs.len {l:List Tm} (h:fitTs l):l.length<=2000000:=aN (iT l) h.1
theorem fitFs.len {l:List Fm} (h:fitFs l):l.length<=2000000:=aN (qS l) h.1
theorem fitT.args {v:Bool} {n:Str} {a:List Tm} (h:fitT (.mk v n a)):fitTs a:=by
 obtain ⟨h1,h2⟩:=h;simp[nodesT,jJ]at h1 h2;exact ⟨by omega,h2.2⟩
theorem fitT.name {v:Bool} {n:Str} {a:List Tm} (h:fitT (.mk v n a)):n.length<=2000000:=by
 obtain ⟨h1,h2⟩:=h;simp[jJ]at h2;exact h2.1
theorem fitF.args {o:Int} {n:Str} {a:List Tm} {s:List Fm} (h:fitF (.mk o n a s)):fitTs a:=by
 obtain ⟨h1,h2⟩:=h;simp[nodesF,li]at h1 h2;exact ⟨by omega,h2.2.2.1⟩
theorem fitF.subs {o:Int} {n:Str} {a:List Tm} {s:List Fm} (h:fitF (.mk o n a s)):fitFs s:=by
 obtain ⟨h1,h2⟩:=h;simp[nodesF,li]at h1 h2;exact ⟨by omega,h2.2.2.2⟩
theorem fitF.name {o:Int} {n:Str} {a:List Tm} {s:List Fm} (h:fitF (.mk o n a s)):n.length<=2000000:=by
 obtain ⟨h1,h2⟩:=h;simp[li]at h2;exact h2.2.1
theorem fitF.op {o:Int} {n:Str} {a:List Tm} {s:List Fm} (h:fitF (.mk o n a s)):0<=o/\o<=255:=by
 obtain ⟨h1,h2⟩:=h;simp[li]at h2;exact h2.1
mutual
theorem kw {q:Nat} (h:p<=q):∀ t,jJ p t=true->jJ q t=true
 | .mk v n a,ht=>by
  simp only[jJ,ae,br]at ht ⊢;exact ⟨by omega,ef h a ht.2⟩
theorem ef {q:Nat} (h:p<=q):∀ t,nmTs p t=true->nmTs q t=true
 | [],_=>rfl
 | t :: l,ht=>by
  simp only[nmTs,ae]at ht ⊢;exact ⟨kw h t ht.1,ef h l ht.2⟩
end
mutual
theorem jK {q:Nat} (h:p<=q):∀ t,li p t=true->li q t=true
 | .mk v n a s,ht=>by
  simp only[li,ae,br]at ht ⊢;exact ⟨ht.1,by omega,ef h a ht.2.2.1,jd h s ht.2.2.2⟩
theorem jd {q:Nat} (h:p<=q):∀ t,nmFs p t=true->nmFs q t=true
 | [],_=>rfl
 | t :: l,ht=>by
  simp only[nmFs,ae]at ht ⊢;exact ⟨jK h t ht.1,jd h l ht.2⟩
end
theorem az {a b:Bool} (h:a=b):Ending.returned (.bool a)=.returned (.bool b):=by rw[h]
theorem rT {k:IntKind} {a b:Int} (h:a=b):Ending.returned (.int k a)=.returned (.int k b):=by rw[h]
theorem UX {a b:ByteArray} (h:a=b):Ending.returned (.string a)=.returned (.string b):=by rw[h]
theorem f_ {P:Program} {args:Array Value} {w:World} {n:Nat} {v:Value}
  (h:Calls P f args (w.drewN n) fun e w'=>e=.returned v/\w.drewN n=w'):Calls P f args (w.drewN n) fun e QM=>e=.returned v/\∃m,QM=w.drewN m:=
 h.mono fun _ _ ⟨he,hm⟩=>⟨he,n,hm.symm⟩
theorem E4 {w:World} (h:∃n,wr=w.drewN n) (m:Nat):∃n,wr.drewN m=w.drewN n:=by
 obtain ⟨n,rfl⟩:=h;exact ⟨_,by rw[World.drewN_drewN]⟩
theorem kx (s:ByteArray):s.data.toList.length=s.size:=by simp
theorem AP (s:ByteArray):s.data.toList.take s.size=s.data.toList:=iP (by simp)
theorem hO (n:Str):(⟨n.toArray⟩:ByteArray).size=n.length:=by simp[ByteArray.size]
theorem Ge (n:Str):(⟨n.toArray⟩:ByteArray).data.toList=n:=by simp
theorem gX {w w':World} (h:∃n,w'=w.drewN n):Below w.heap.size w w':=by obtain ⟨n,rfl⟩:=h;exact ⟨rfl,rfl,rfl,aC _,fun _ _=>rfl⟩
def Xz (c:Int):Bool:=decide (97<=c/\c<=116)
def IE (c:Int):Bool:=decide (117<=c/\c<=122)
def xI (c:Int):Bool:=decide (97<=c/\c<=122)
def Gf (c:Int):Bool:=decide (65<=c/\c<=90)
def D7 (c:Int):Bool:=decide (48<=c/\c<=57)
def lX (c:Int):Bool:=xI c || Gf c || D7 c
theorem Na (c:Int) (w:World) :
  Calls Tryz.prog 190 #[.int .u8 c] w fun e w'=>e=.returned (.bool (Xz c))/\w=w':=by
 by_cases h1:97<=c <;> by_cases h2:c<=116
 all_goals
  have hs:Xz c=(decide (97<=c) && decide (c<=116)):=by simp[Xz]
  rw[hs];clear hs;go_enter Tryz.func190,Tryz.ntmps190;go_wp2;go_ret;simp[h1,h2]
theorem IF (c:Int) (w:World) :
  Calls Tryz.prog 216 #[.int .u8 c] w fun e w'=>e=.returned (.bool (IE c))/\w=w':=by
 by_cases h1:117<=c <;> by_cases h2:c<=122
 all_goals
  have hs:IE c=(decide (117<=c) && decide (c<=122)):=by simp[IE]
  rw[hs];clear hs;go_enter Tryz.func216,Tryz.ntmps216;go_wp2;go_ret;simp[h1,h2]
theorem Ld (c:Int) (w:World) :
  Calls Tryz.prog 241 #[.int .u8 c] w fun e w'=>e=.returned (.bool (xI c))/\w=w':=by
 by_cases h1:97<=c <;> by_cases h2:c<=122
 all_goals
  have hs:xI c=(decide (97<=c) && decide (c<=122)):=by simp[xI]
  rw[hs];clear hs;go_enter Tryz.func241,Tryz.ntmps241;go_wp2;go_ret;simp[h1,h2]
theorem AQ (c:Int) (w:World) :
  Calls Tryz.prog 188 #[.int .u8 c] w fun e w'=>e=.returned (.bool (Gf c))/\w=w':=by
 by_cases h1:65<=c <;> by_cases h2:c<=90
 all_goals
  have hs:Gf c=(decide (65<=c) && decide (c<=90)):=by simp[Gf]
  rw[hs];clear hs;go_enter Tryz.func188,Tryz.ntmps188;go_wp2;go_ret;simp[h1,h2]
theorem AR (c:Int) (w:World) :
  Calls Tryz.prog 217 #[.int .u8 c] w fun e w'=>e=.returned (.bool (D7 c))/\w=w':=by
 by_cases h1:48<=c <;> by_cases h2:c<=57
 all_goals
  have hs:D7 c=(decide (48<=c) && decide (c<=57)):=by simp[D7]
  rw[hs];clear hs;go_enter Tryz.func217,Tryz.ntmps217;go_wp2;go_ret;simp[h1,h2]
theorem pi (c:Int) (w:World) :
  Calls Tryz.prog 189 #[.int .u8 c] w fun e w'=>e=.returned (.bool (lX c))/\w=w':=by
 unfold lX;go_enter Tryz.func189,Tryz.ntmps189;go_wp2_with (first
  | (go_at_call 241;refine (Ld _ _).mono ?_;rintro e w' ⟨rfl,rfl⟩)
  | (go_at_call 188;refine (AQ _ _).mono ?_;rintro e w' ⟨rfl,rfl⟩)
  | (go_at_call 217;refine (AR _ _).mono ?_;rintro e w' ⟨rfl,rfl⟩))
 all_goals (go_ret;simp_all)
def je (l:List UInt8):Bool:=Ou.contains l
theorem eX (s:ByteArray) (w:World) :
  Calls Tryz.prog 240 #[.string s] w fun e w'=>e=.returned (.bool (je s.data.toList))/\w=w':=by
 go_enter Tryz.func240,Tryz.ntmps240;go_wp2
 all_goals
  go_ret;refine ⟨az ?_,rfl⟩;rw[<-ByteArray.toList_eq]
  simp_all [je,Ou]
def ml (p:Int->Bool) (l:List UInt8):Bool:=l.all fun c=>p c.toNat
def kW (first other:Int->Bool) (l:List UInt8):Bool:=decide (1<=l.length/\l.length<=16) && (!je l && (first (l.headD 0).toNat && ml other l.tail))
theorem oH {s:ByteArray} (h:1<=s.size):s.data.toList.headD 0=s[0]:=by
 have h':0<s.data.toList.length:=by simp;omega
 cases hs:s.data.toList with
 | nil=>rw[hs]at h';simp at h'
 | cons a b=>
  have:s[0]=s.data.toList[0]:=by simp[ByteArray.getElem_eq_getElem_data]
  rw[this];simp[hs]
theorem xJ (s:ByteArray) (k:Nat) (h1:1<=k) (h:k<s.size) (p:Int->Bool) :
  ml p (s.data.toList.take (k+1)).tail=(ml p (s.data.toList.take k).tail && p s[k].toNat):=by
 rw[mh (by simpa using h)];have h0:(s.data.toList.take k)≠[]:=by
  intro e;have:(s.data.toList.take k).length=0:=by rw[e];rfl
  have hl:s.data.toList.length=s.size:=by simp
  rw[dS,hl]at this;omega
 rw[List.tail_append_of_ne_nil h0];simp[ml,ByteArray.getElem_eq_getElem_data]
theorem tI (s:ByteArray) (k:Nat) (h1:1<=k) (h:k<s.size) (p:Int->Bool) (hp:p s[k].toNat=false):ml p s.data.toList.tail=false:=by
 unfold ml;rw[List.all_eq_false];refine ⟨s[k],?_,by simp[hp]⟩;rw[List.mem_iff_getElem];refine ⟨k - 1,by simp;omega,?_⟩;simp only[List.getElem_tail];simp[ByteArray.getElem_eq_getElem_data,show k - 1+1=k by omega]
theorem mH {p:Int->Bool} {l:List UInt8} (h:¬(1<=l.length/\l.length<=16)):kW p q l=false:=by simp[kW,h]
theorem xK {p:Int->Bool} {l:List UInt8} (h:je l=true):kW p q l=false:=by simp[kW,h]
theorem qU {p:Int->Bool} {l:List UInt8} (h:p (l.headD 0).toNat=false):kW p q l=false:=by unfold kW;rw[h];simp
theorem tJ {p:Int->Bool} {l:List UInt8} (h:ml q l.tail=false):kW p q l=false:=by simp[kW,h]
theorem xM {p:Int->Bool} {l:List UInt8} (h1:1<=l.length/\l.length<=16) (h2:je l=false) (h3:p (l.headD 0).toNat=true) (h4:ml q l.tail=true):kW p q l=true:=by unfold kW;rw[h3,h2,h4];simp[h1]
theorem AS {p:Int->Bool} {f o:UInt8->Bool} (h1:∀ c:UInt8,p c.toNat=f c) (h2:∀ c:UInt8,q c.toNat=o c):∀ n:Str,kW p q n=nN f o n
 | []=>rfl
 | c :: r=>by
  have e:ml q r=r.all o:=by unfold ml;congr 1;funext c;exact h2 c
  have d:decide (1<=(c :: r).length/\(c :: r).length<=16)=decide (r.length<16):=by rw[ip];simp;omega
  unfold kW nN je;rw[d];simp[h1,e]
theorem Le (b1 b2:Nat) (s:ByteArray) (w:World) (hs:s.size<=9223372036854775807) (XA:w.cell? ⟨b1,0,none⟩=some (.func (.func 190) #[] #[])) (E5:w.cell? ⟨b2,0,none⟩=some (.func (.func 189) #[] #[])) :
  Calls Tryz.prog 239 #[.string s,.pointer (some ⟨b1,0,none⟩),.pointer (some ⟨b2,0,none⟩)] w fun e w'=>e=.returned (.bool (kW Xz lX s.data.toList))/\∃n,w'=w.drewN n:=by
 by_cases h1:1<=s.size
 ·have d1:decide ((s.size:Int)<1)=false:=by simp;omega
  have h0:0<s.size:=h1
  by_cases h2:s.size<=16
  ·have d2:decide (16<(s.size:Int))=false:=by simp;omega
   cases hr:je s.data.toList
   ·cases hf:Xz s[0].toNat
    ·have HR:=ab hr;have HF:=ab hf;have qlB:=();exact qaq
    ·have HR:=ab hr;have HF:=ab hf;have qlC:=();exact qaq
   ·have HR:=ab hr;have qbY:=();exact qaq
  ·have d2:decide (16<(s.size:Int))=true:=by simp;omega
   have qaE:=();exact qae
 ·have d1:decide ((s.size:Int)<1)=true:=by simp;omega
  have qaE:=();exact qae
theorem II (b1 b2:Nat) (s:ByteArray) (w:World) (hs:s.size<=9223372036854775807) (XA:w.cell? ⟨b1,0,none⟩=some (.func (.func 216) #[] #[])) (E5:w.cell? ⟨b2,0,none⟩=some (.func (.func 217) #[] #[])) :
  Calls Tryz.prog 239 #[.string s,.pointer (some ⟨b1,0,none⟩),.pointer (some ⟨b2,0,none⟩)] w fun e w'=>e=.returned (.bool (kW IE D7 s.data.toList))/\∃n,w'=w.drewN n:=by
 by_cases h1:1<=s.size
 ·have d1:decide ((s.size:Int)<1)=false:=by simp;omega
  have h0:0<s.size:=h1
  by_cases h2:s.size<=16
  ·have d2:decide (16<(s.size:Int))=false:=by simp;omega
   cases hr:je s.data.toList
   ·cases hf:IE s[0].toNat
    ·have HR:=ab hr;have HF:=ab hf;have qlD:=();exact qaq
    ·have HR:=ab hr;have HF:=ab hf;have qlE:=();exact qaq
   ·have HR:=ab hr;have qbY:=();exact qaq
  ·have d2:decide (16<(s.size:Int))=true:=by simp;omega
   have qaE:=();exact qae
 ·have d1:decide ((s.size:Int)<1)=true:=by simp;omega
  have qaE:=();exact qae
theorem IJ (b1 b2:Nat) (s:ByteArray) (w:World) (hs:s.size<=9223372036854775807) (XA:w.cell? ⟨b1,0,none⟩=some (.func (.func 188) #[] #[])) (E5:w.cell? ⟨b2,0,none⟩=some (.func (.func 189) #[] #[])) :
  Calls Tryz.prog 239 #[.string s,.pointer (some ⟨b1,0,none⟩),.pointer (some ⟨b2,0,none⟩)] w fun e w'=>e=.returned (.bool (kW Gf lX s.data.toList))/\∃n,w'=w.drewN n:=by
 by_cases h1:1<=s.size
 ·have d1:decide ((s.size:Int)<1)=false:=by simp;omega
  have h0:0<s.size:=h1
  by_cases h2:s.size<=16
  ·have d2:decide (16<(s.size:Int))=false:=by simp;omega
   cases hr:je s.data.toList
   ·cases hf:Gf s[0].toNat
    ·have HR:=ab hr;have HF:=ab hf;have qlF:=();exact qaq
    ·have HR:=ab hr;have HF:=ab hf;exact qaq
   ·have HR:=ab hr;have qbY:=();exact qaq
  ·have d2:decide (16<(s.size:Int))=true:=by simp;omega
   have qaE:=();exact qae
 ·have d1:decide ((s.size:Int)<1)=true:=by simp;omega
  have qaE:=();exact qae
theorem Zk (c:UInt8):Xz c.toNat=(decide (97<=c) && decide (c<=116)):=by rw[ip];simp[Xz,UInt8.le_iff_toNat_le];omega
theorem UY (c:UInt8):IE c.toNat=(decide (117<=c) && decide (c<=122)):=by rw[ip];simp[IE,UInt8.le_iff_toNat_le];omega
theorem Ov (c:UInt8):xI c.toNat=M7 c:=by rw[ip];simp[xI,M7,UInt8.le_iff_toNat_le];omega
theorem Nb (c:UInt8):Gf c.toNat=IA c:=by rw[ip];simp[Gf,IA,UInt8.le_iff_toNat_le];omega
theorem Nc (c:UInt8):D7 c.toNat=M8 c:=by rw[ip];simp[D7,M8,UInt8.le_iff_toNat_le];omega
theorem E6 (c:UInt8):lX c.toNat=EZ c:=by simp only[lX,EZ,Ov,Nb,Nc,Bool.or_assoc]
theorem tK (f o:Nat) (w:World) :
  Calls Tryz.prog 187 #[.func (.func f) #[] #[],.func (.func o) #[] #[]] w fun e w'=>
   e=.returned (.func (.func 239) #[] #[.pointer (some ⟨w.heap.size,0,none⟩),.pointer (some ⟨w.heap.size+1,0,none⟩)])/\w'=(w.alloc (.cells #[.func (.func f) #[] #[]] 228)).alloc (.cells #[.func (.func o) #[] #[]] 228):=by
 go_enter Tryz.func187,Tryz.ntmps187;go_wp2;go_ret;simp
theorem UZ (n:Str):kW IE D7 n=fH n:=AS UY Nc n
theorem hZ (n:Str) (w:World) (hn:n.length<=1000000000) :
  Calls Tryz.prog 152 #[.string ⟨n.toArray⟩] w fun e w'=>e=.returned (.bool (fH n))/\Below w.heap.size w w':=by
 have hc:=II w.heap.size (w.heap.size+1) ⟨n.toArray⟩ ((w.alloc (.cells #[.func (.func 216) #[] #[]] 228)).alloc (.cells #[.func (.func 217) #[] #[]] 228)) (by rw[hO];omega) (by simp) (by simp);rw[Ge,UZ]at hc;have HC:=ab hc;clear hc;go_enter Tryz.func152,Tryz.ntmps152;exact qbZ
theorem U0 (n:Str):kW Xz lX n=xG n:=AS Zk E6 n
theorem mr (n:Str) (w:World) (hn:n.length<=1000000000) :
  Calls Tryz.prog 121 #[.string ⟨n.toArray⟩] w fun e w'=>e=.returned (.bool (xG n))/\Below w.heap.size w w':=by
 have hc:=Le w.heap.size (w.heap.size+1) ⟨n.toArray⟩ ((w.alloc (.cells #[.func (.func 190) #[] #[]] 228)).alloc (.cells #[.func (.func 189) #[] #[]] 228)) (by rw[hO];omega) (by simp) (by simp);rw[Ge,U0]at hc;have HC:=ab hc;clear hc;go_enter Tryz.func121,Tryz.ntmps121;exact qbZ
theorem QQ (n:Str):kW Gf lX n=sV n:=AS Nb E6 n
theorem oa (n:Str) (w:World) (hn:n.length<=1000000000) :
  Calls Tryz.prog 120 #[.string ⟨n.toArray⟩] w fun e w'=>e=.returned (.bool (sV n))/\Below w.heap.size w w':=by
 have hc:=IJ w.heap.size (w.heap.size+1) ⟨n.toArray⟩ ((w.alloc (.cells #[.func (.func 188) #[] #[]] 228)).alloc (.cells #[.func (.func 189) #[] #[]] 228)) (by rw[hO];omega) (by simp) (by simp);rw[Ge,QQ]at hc;have HC:=ab hc;clear hc;go_enter Tryz.func120,Tryz.ntmps120;exact qbZ
theorem Ow (c:UInt8) (r:Str):(⟨(c :: r).toArray⟩:ByteArray).extract 1 (c :: r).length=⟨r.toArray⟩:=by
 apply ByteArray.ext;simp[ByteArray.data_extract]
theorem iU (c:UInt8) (r:Str):(⟨(c :: r).toArray⟩:ByteArray).extract 1 (r.length+1)=⟨r.toArray⟩:=Ow c r
theorem QR (c:UInt8) (r:Str):(((⟨(c :: r).toArray⟩:ByteArray).extract 0 1)).toList=[c]:=by
 have:(⟨(c :: r).toArray⟩:ByteArray).extract 0 1=⟨#[c]⟩:=by apply ByteArray.ext;simp[ByteArray.data_extract]
 rw[this];simp[ByteArray.toList_eq]
theorem oI (n:Str) (w:World) (hn:n.length<=1000000000) :
  Calls Tryz.prog 242 #[.string ⟨n.toArray⟩,.string ⟨#[63]⟩] w fun e w'=>e=.returned (.bool (n.head? == some 63))/\w=w':=by
 cases n with
 | nil=>
  have qlG:=();exact qed
 | cons c r=>
  have hs:=hO (c :: r);simp at hs;have h1:((1:Int)<=((c :: r).length:Int)):=by simp;omega
  exact qed
theorem zd (n:Str) (w:World) (hn:n.length<=1000000000) :
  Calls Tryz.prog 191 #[.string ⟨n.toArray⟩,.string ⟨#[63]⟩] w fun e w'=>e=.returned (.bool (n.head? == some 63))/\w=w':=by
 go_enter Tryz.func191,Tryz.ntmps191;go_wp2_with (go_at_call 242;refine (oI n _ hn).mono ?_;rintro e w' ⟨rfl,rfl⟩);go_ret;exact ⟨rfl,rfl⟩
theorem ob (r:Str) (w:World) (hn:(63 :: r).length<=1000000000) :
  Calls Tryz.prog 191 #[.string ⟨(63 :: r).toArray⟩,.string ⟨#[63]⟩] w fun e w'=>e=.returned (.bool true)/\w=w':=zd (63 :: r) w hn
theorem pj (n:Str) (w:World) (hn:n.length<=1000000000) (h:(n.head? == some 63)=false) :
  Calls Tryz.prog 191 #[.string ⟨n.toArray⟩,.string ⟨#[63]⟩] w fun e w'=>e=.returned (.bool false)/\w=w':=h ▸ zd n w hn
theorem tL {n:Str} (h:(n.head? == some 63)=true):∃r,n=63 :: r:=by
 cases n with
 | nil=>simp at h
 | cons c r=>simp at h;exact ⟨r,by rw[h]⟩
theorem ky (n:Str) (w:World) (hn:n.length<=1000000000) :
  Calls Tryz.prog 123 #[.string ⟨n.toArray⟩] w fun e w'=>e=.returned (.bool (ct n))/\Below w.heap.size w w':=by
 cases h:(n.head? == some 63) with
 | false=>
  have hp:ct n=false:=by simp only[ct,h,Bool.false_and]
  rw[hp];have CP:=ab (fun w=>pj n w hn h);have qlH:=();exact qee
 | true=>
  obtain ⟨r,rfl⟩:=tL h;have hp:ct (63 :: r)=fH r:=by simp[ct]
  have qlI:=();exact qb0
theorem oc (n:Str) (w:World) (hn:n.length<=1000000000) :
  Calls Tryz.prog 185 #[.string ⟨n.toArray⟩] w fun e w'=>e=.returned (.bool (dA n))/\Below w.heap.size w w':=by
 have hs:=hO n
 by_cases hl:n.length<=16
 ·have d1:decide ((n.length:Int)<=16)=true:=by simp;omega
  cases h:(n.head? == some 63) with
  | false=>
   have hp:dA n=false:=by simp only[dA,h,Bool.false_and,Bool.and_false]
   rw[hp];have CP:=ab (fun w=>pj n w hn h);clear h hp;have qlJ:=();exact qb1
  | true=>
   obtain ⟨r,rfl⟩:=tL h;have hp:dA (63 :: r)=sV r:=by simp only[dA,hl,List.head?_cons,List.tail_cons,decide_true,dz,beq_self_eq_true]
   have qlK:=();exact qb0
 ·have d1:decide ((n.length:Int)<=16)=false:=by simp;omega
  have hp:dA n=false:=by simp[dA,hl]
  rw[hp];clear hp;have qlL:=();exact qb1
theorem ly (n:Str) (w:World) (hn:n.length<=1000000000) :
  Calls Tryz.prog 186 #[.string ⟨n.toArray⟩] w fun e w'=>e=.returned (.bool (cX n))/\Below w.heap.size w w':=by
 have hs:=hO n
 by_cases hl:n.length<=16
 ·have d1:decide ((n.length:Int)<=16)=true:=by simp;omega
  cases h:(n.head? == some 63) with
  | false=>
   have hp:cX n=false:=by simp only[cX,h,Bool.false_and,Bool.and_false]
   rw[hp];have CP:=ab (fun w=>pj n w hn h);clear h hp;have qlM:=();exact qb2
  | true=>
   obtain ⟨r,rfl⟩:=tL h;have hp:cX (63 :: r)=xG r:=by simp only[cX,hl,List.head?_cons,List.tail_cons,decide_true,dz,beq_self_eq_true]
   exact qb0
 ·have d1:decide ((n.length:Int)<=16)=false:=by simp;omega
  have hp:cX n=false:=by simp[cX,hl]
  rw[hp];clear hp;have qlN:=();exact qb2
theorem iV (n:Str) (w:World) (hn:n.length<=1000000000) :
  Calls Tryz.prog 119 #[.string ⟨n.toArray⟩] w fun e w'=>e=.returned (.bool (dl n))/\Below w.heap.size w w':=by
 unfold dl
 cases h1:dA n with
 | true=>
  have qlO:=();exact qef
 | false=>
  exact qef
theorem Lf (n:Str):dA n=(dl n && sV n.tail):=by
 exact qeg
theorem Gg (n:Str) (w:World) (hn:n.length<=1000000000) :
  Calls Tryz.prog 65 #[.string ⟨n.toArray⟩] w fun e w'=>e=.returned (.bool (dA n))/\Below w.heap.size w w':=by
 rw[Lf]
 cases h:dl n with
 | false=>
  have C1:=ab (fun w=>h ▸ iV n w hn);clear h;have qlP:=();exact qeh
 | true=>
  have qlQ:=();exact qei
theorem Lg (n:Str):cX n=(dl n && xG n.tail):=by
 exact qeg
theorem Gh (n:Str) (w:World) (hn:n.length<=1000000000) :
  Calls Tryz.prog 67 #[.string ⟨n.toArray⟩] w fun e w'=>e=.returned (.bool (cX n))/\Below w.heap.size w w':=by
 rw[Lg]
 cases h:dl n with
 | false=>
  have C1:=ab (fun w=>h ▸ iV n w hn);clear h;go_enter Tryz.func67,Tryz.ntmps67;exact qej
 | true=>
  exact qei
theorem fk (q:FQ) (w:World) :
  Calls Tryz.prog 93 #[q.val] w fun e w'=>e=.returned (.bool (bm q.o))/\Below w.heap.size w w':=by
 obtain ⟨o,n,a,l,c,b,m,e⟩:=q;unfold FQ.val bm;go_enter Tryz.func93,Tryz.ntmps93;exact qek
theorem lY (q:FQ) (w:World) :
  Calls Tryz.prog 146 #[q.val] w fun e w'=>e=.returned (.bool (bm q.o))/\Below w.heap.size w w':=by
 obtain ⟨o,n,a,l,c,b,m,e⟩:=q;unfold FQ.val bm;go_enter Tryz.func146,Tryz.ntmps146;exact qek
theorem fK (n:Str) (w:World) (hn:n.length<=1000000000) :
  Calls Tryz.prog 130 #[.string ⟨n.toArray⟩] w fun e w'=>e=.returned (.string ⟨(bI n).toArray⟩)/\w=w':=by
 have hs:=hO n;go_enter Tryz.func130,Tryz.ntmps130;go_wp2;go_ret;exact ⟨UX (by apply ByteArray.ext;simp[bI]),rfl⟩
theorem h_ (n:Str) (w:World) :
  Calls Tryz.prog 131 #[.string ⟨n.toArray⟩] w fun e w'=>e=.returned (.agg #[.bool true,.string ⟨n.toArray⟩,.slice none 0 0])/\Below w.heap.size w w':=by
 go_enter Tryz.func131,Tryz.ntmps131;go_wp2;refine bK (v:=.agg #[.bool true,.string ⟨n.toArray⟩,.slice none 0 0]) (by simp[results,Tryz.results131,go_sem]) rfl ⟨rfl,?_⟩;exact cI
section
variable {F:Fence} {n:Nat} {P:Program} {Q:Exit->Act->World->Prop}
theorem bq {o:Oper} {a:Act} {w:World} {K:Act->World->Prop} (s x:Operand) (t:TypeId)
  (ho:o.op=.call { callee:=.builtin .append,args:=#[s,x],argTypes:=#[t,t] })
  (base:Nat) (e:TypeId) (i:TypeInfo) (z:Value) (size bytes:Nat) (ht:P.underlying t=some (.slice e)) (hi:P.info? e=some i) (hz:i.zero=some z)
  (Nd:i.size=size) (hby:i.bytes=bytes) (hzs:z.cells.size=size) (hsz:0<size)
  (v:Value) (k:Nat) (xs:List Value) (hs:a.eval s=v) (au:w.ownsRow base e size v k xs)
  (ad:Addr) (m c:Nat) (xO:List Value) (hx:a.eval x=.slice (some ad) m c) (hl:xO.length=m * size) (Nf:∀ j u,xO[j]?=some u->w.cell? (ad.add j)=some u) (h1:∀ u∈xO,u.oneCell'=true)
  (hm:0<m) (h63:k+m<=maxLen) (Gi:(k+m) * bytes<=140737488355328) (zaV:base<=w.heap.size) (H:Nat) (hH:w.heap.size=H)
  (h:∀ g cap w',w'.ownsRow base e size (.slice (some ⟨g,0,none⟩) (k+m) cap) (k+m) (xs ++ xO)->w.grownBy w' v.ownBlock->(v.ownBlock=some g\/g=H)->g<w'.heap.size->K (a.put o.dst (.slice (some ⟨g,0,none⟩) (k+m) cap)) w'):o.wpIn F n P a w K Q:=by
 obtain ⟨g,cap,w',hr,h2,h3,h4,h5⟩:=run_append_lies (P:=P) w t o.type base e i z size bytes ht hi hz Nd hby hzs hsz v k xs au ad m c xO hl Nf h1 hm h63 Gi zaV H hH;have qlR:=();exact qel
end
structure Fills (T:TypeId) (R lo:Nat) (mk:Value->Array Value) (Row:Value->World->Prop) (W1 W:World) (row:Value):Prop where
 box:W.heap[R]?=some (.cells (mk row) T (0,0))
 row:Row row W
 kp:Kp (fun b=>b=R) W1 W
 lt:R<lo
 base:lo=W1.heap.size
theorem Fills.size {T:TypeId} {mk:Value->Array Value} {W:World} (h:Fills T R lo mk Row W1 W row):lo<=W.heap.size:=by have:=h.kp.size;have:=h.base;omega
theorem Fills.cell {T:TypeId} {mk:Value->Array Value} {W:World} (h:Fills T R lo mk Row W1 W row) (k:Nat):W.cell? ⟨R,k,none⟩=(mk row)[k]?:=aF h.box k
theorem Fills.below {T:TypeId} {mk:Value->Array Value} {w W:World} (h:Fills T R lo mk Row W1 W row) (hb:Below w.heap.size w W1) (hR:w.heap.size<=R):Below w.heap.size w W:=
 ⟨h.kp.os.trans hb.os,h.kp.tape.trans hb.tape,h.kp.output.trans hb.output,aN hb.size h.kp.size,fun b hlt=>(h.kp.same b (bJ hlt hb.size) (by omega)).trans (hb.block b hlt)⟩
theorem Fills.start {T:TypeId} {mk:Value->Array Value} (hx:W1.heap[R]?=some (.cells (mk row) T (0,0))) (hr:Row row W1):Fills T R W1.heap.size mk Row W1 W1 row:=
 ⟨hx,hr,Kp.refl _,(bA hx),rfl⟩
theorem Fills.later {T:TypeId} {mk:Value->Array Value} {W:World} (h:Fills T R lo mk Row W1 W row) (hb:Below W.heap.size W W') (hr:Row row W->Row row W'):Fills T R lo mk Row W1 W' row:=
 ⟨(hb.block R (bA h.box)).trans h.box,hr h.row,h.kp.trans (Kp.below hb),h.lt,h.base⟩
theorem Fills.other {T:TypeId} {mk:Value->Array Value} {W:World} (h:Fills T R lo mk Row W1 W row) {b:Nat} (jb:b≠R) (hb:W1.heap[b]?=some o):W.heap[b]?=some o:=
 (h.kp.same b (bA hb) jb).trans hb
theorem bp {W:World} {F:Nat} {cs:Array Value} {T:TypeId} (h:W.heap[R]?=some (.cells cs T (0,0))) (u:Value):(W.setCell ⟨R,F,none⟩ u).heap[R]?=some (.cells (cs.setIfInBounds F u) T (0,0)):=heap_setCell_same _ _ F _ _ u h
theorem Fills.at4 {T:TypeId} {size n kk:Nat} {mk:Value->Array Value}
  (h:Fills T R lo mk Row W1 wr row) (au:wr.ownsRow lo e size row n xs) (hA:Below wr.heap.size wr A) (am:(A.alloc o).grownBy w4 row.ownBlock):w4.heap[R]?=some (.cells (mk row) T (0,0))/\w4.frozen? ⟨R,kk,none⟩=false/\w4.cell? ⟨R,kk,none⟩=(mk row)[kk]?:=by
 have hlt:=(bA h.box);have hs:=hA.size;have hx:w4.heap[R]?=some (.cells (mk row) T (0,0)):=(am.block R (by simp;omega) (fun e=>by have:=(au.lt R e.symm).1;have:=h.lt;omega)).trans ((bH _ _ _ (by omega)).trans ((hA.block R hlt).trans h.box));exact ⟨hx,by simp[World.frozen?,hx],aF hx kk⟩
theorem Fills.kp5 {T:TypeId} {size n F:Nat} {mk:Value->Array Value} {u:Value}
  (h:Fills T R lo mk Row W1 wr row) (au:wr.ownsRow lo e size row n xs) (hA:Below wr.heap.size wr A) (am:(A.alloc o).grownBy w4 row.ownBlock):Kp (fun b=>b=R) W1 (w4.setCell ⟨R,F,none⟩ u):=by
 have hs:=hA.size;have hg:=am.size;simp only[World.size_alloc]at hg;have h1:Kp (fun b=>b=R) wr (w4.setCell ⟨R,F,none⟩ u)->Kp (fun b=>b=R) W1 (w4.setCell ⟨R,F,none⟩ u):=fun k=>h.kp.trans k;refine ⟨am.os.trans (hA.os.trans h.kp.os),am.tape.trans (hA.tape.trans h.kp.tape),am.output.trans (hA.output.trans h.kp.output),by have:=h.kp.size;simp;omega,fun b hb jb=>?_⟩;have bG:b<wr.heap.size:=bJ hb h.kp.size;exact (eC _ _ _ _ (by simpa using jb)).trans ((am.block b (by simp;omega) (fun e=>by have:=(au.lt b e.symm).1;have:=h.base;omega)).trans ((bH _ _ _ (by omega)).trans ((hA.block b bG).trans (h.kp.same b hb jb))))
theorem Fills.stepT {T:TypeId} {F:Nat} {mk:Value->Array Value} {ts:List Tm} {t:Tm} {qs:List TQ} {p:TQ}
  (h:Fills T R lo mk (fun r=>RowT lo r ts) W1 wr row) (au:wr.ownsRow lo 43 3 row ts.length (qs.flatMap TQ.cells)) (eu:qs.length=ts.length) (gd:∀ j (h:j<qs.length) (h2:j<ts.length),TermV (fun b=>lo<=b/\row.ownBlock≠some b) wr qs[j].val ts[j])
  (hA:Below wr.heap.size wr A) (hp:TermV (wr.heap.size<=·) A p.val t)
  (aO:w4.ownsRow lo 43 3 (.slice (some ⟨g,0,none⟩) (ts.length+1) cap) (ts.length+1) (qs.flatMap TQ.cells ++ p.cells)) (am:(A.alloc o).grownBy w4 row.ownBlock) (hg:row.ownBlock=some g\/g=A.heap.size+1)
  (ze:(mk row).setIfInBounds F (.slice (some ⟨g,0,none⟩) (ts.length+1) cap)=mk (.slice (some ⟨g,0,none⟩) (ts.length+1) cap)) :
  Fills T R lo mk (fun r=>RowT lo r (ts ++ [t])) W1 (w4.setCell ⟨R,F,none⟩ (.slice (some ⟨g,0,none⟩) (ts.length+1) cap)) (.slice (some ⟨g,0,none⟩) (ts.length+1) cap):=by
 have qlS:=();exact qbf
theorem Fills.stepF {T:TypeId} {F:Nat} {mk:Value->Array Value} {ts:List Fm} {t:Fm} {qs:List FQ} {p:FQ}
  (h:Fills T R lo mk (fun r=>RowF lo r ts) W1 wr row) (au:wr.ownsRow lo 36 4 row ts.length (qs.flatMap FQ.cells)) (eu:qs.length=ts.length) (gd:∀ j (h:j<qs.length) (h2:j<ts.length),FormV (fun b=>lo<=b/\row.ownBlock≠some b) wr qs[j].val ts[j])
  (hA:Below wr.heap.size wr A) (hp:FormV (wr.heap.size<=·) A p.val t)
  (aO:w4.ownsRow lo 36 4 (.slice (some ⟨g,0,none⟩) (ts.length+1) cap) (ts.length+1) (qs.flatMap FQ.cells ++ p.cells)) (am:(A.alloc o).grownBy w4 row.ownBlock) (hg:row.ownBlock=some g\/g=A.heap.size+1)
  (ze:(mk row).setIfInBounds F (.slice (some ⟨g,0,none⟩) (ts.length+1) cap)=mk (.slice (some ⟨g,0,none⟩) (ts.length+1) cap)) :
  Fills T R lo mk (fun r=>RowF lo r (ts ++ [t])) W1 (w4.setCell ⟨R,F,none⟩ (.slice (some ⟨g,0,none⟩) (ts.length+1) cap)) (.slice (some ⟨g,0,none⟩) (ts.length+1) cap):=by
 have qlT:=();exact qbf
theorem qu {W:World} {b:Nat} {a1 a2 v1 v2:Value} {T:TypeId} (h:W.heap[b]?=some (.cells #[a0,a1,a2] T (0,0))) :
  (((W.setCell ⟨b,0,none⟩ v0).setCell ⟨b,1,none⟩ v1).setCell ⟨b,2,none⟩ v2).heap[b]?=some (.cells #[v0,v1,v2] T (0,0)):=by
 have h0:=bp (F:=0) h v0;have h1:=bp (F:=1) h0 v1;exact (bp (F:=2) h1 v2).trans rfl
theorem lZ {W:World} {b:Nat} {a1 a2 a3 v1 v2 v3:Value} {T:TypeId} (h:W.heap[b]?=some (.cells #[a0,a1,a2,a3] T (0,0))) :
  ((((W.setCell ⟨b,0,none⟩ v0).setCell ⟨b,1,none⟩ v1).setCell ⟨b,2,none⟩ v2).setCell ⟨b,3,none⟩ v3).heap[b]?=some (.cells #[v0,v1,v2,v3] T (0,0)):=by
 have h0:=bp (F:=0) h v0;have h1:=bp (F:=1) h0 v1;have h2:=bp (F:=2) h1 v2;exact (bp (F:=3) h2 v3).trans rfl
theorem eN {W:World} {b:Nat} {v1 v2:Value}:Kp (fun c=>c=b) W (((W.setCell ⟨b,0,none⟩ v0).setCell ⟨b,1,none⟩ v1).setCell ⟨b,2,none⟩ v2):=
 ⟨rfl,rfl,rfl,by simp,fun c _ hc=>(eC _ _ _ _ (by simpa using hc)).trans ((eC _ _ _ _ (by simpa using hc)).trans (eC _ _ _ _ (by simpa using hc)))⟩
theorem dM {W:World} {b:Nat} {v1 v2 v3:Value}:Kp (fun c=>c=b) W ((((W.setCell ⟨b,0,none⟩ v0).setCell ⟨b,1,none⟩ v1).setCell ⟨b,2,none⟩ v2).setCell ⟨b,3,none⟩ v3):=
 ⟨rfl,rfl,rfl,by simp,fun c _ hc=>(eC _ _ _ _ (by simpa using hc)).trans ((eC _ _ _ _ (by simpa using hc)).trans ((eC _ _ _ _ (by simpa using hc)).trans (eC _ _ _ _ (by simpa using hc))))⟩
theorem Below.kp1 {w W:World} {b:Nat} (h:Below w.heap.size w W) (hk:Kp (fun c=>c=b) W W') (hb:w.heap.size<=b):Below w.heap.size w W':=
 ⟨hk.os.trans h.os,hk.tape.trans h.tape,hk.output.trans h.output,aN h.size hk.size,fun c hc=>(hk.same c (bJ hc h.size) (by omega)).trans (h.block c hc)⟩
theorem RowT.kp1 {b:Nat} {v:Value} {ts:List Tm} {W:World} (h:RowT lo v ts W) (hk:Kp (fun c=>c=b) W W') (hb:b<lo):RowT lo v ts W':=h.held (fun c hc hlt=>hk.same c hlt (by omega))
theorem RowF.kp1 {b:Nat} {v:Value} {ts:List Fm} {W:World} (h:RowF lo v ts W) (hk:Kp (fun c=>c=b) W W') (hb:b<lo):RowF lo v ts W':=h.held (fun c hc hlt=>hk.same c hlt (by omega))
theorem RowT.term {w:Nat} {W:World} {v:Bool} {n:Str} {ts:List Tm} {a:Option Addr} {l:Nat} (h:RowT lo (.slice a l c) ts W) (hw:w<=lo):TermV (w<=·) W (TQ.val ⟨v,⟨n.toArray⟩,a,l,c⟩) (.mk v n ts):=
 aM.2 ⟨_,rfl,h.terms.move (fun _ hok _=>⟨aN hw hok,rfl⟩)⟩
theorem RowF.form {lo2 w:Nat} {W:World} {o:Int} {n:Str} {ts:List Tm} {fs:List Fm} {a b:Option Addr} {l e:Nat} (ht:RowT lo (.slice a l c) ts W) (hf:RowF lo2 (.slice b m e) fs W) (hw:w<=lo) (Qu:w<=lo2):FormV (w<=·) W (FQ.val ⟨o,⟨n.toArray⟩,a,l,c,b,m,e⟩) (.mk o n ts fs):=
 aQ.2 ⟨_,_,rfl,ht.terms.move (fun _ hok _=>⟨aN hw hok,rfl⟩),hf.forms.move (fun _ hok _=>⟨aN Qu hok,rfl⟩)⟩
section
attribute [local go_sem] Oper.semAt_some
theorem pk:∀ (t:Tm),fitT t->∀ (ok:Nat->Prop) (w:World) (q:TQ),TermV ok w q.val t →
  Calls Tryz.prog 53 #[q.val] w fun e w'=>∃p:TQ,e=.returned p.val/\TermV (w.heap.size<=·) w' p.val t/\Below w.heap.size w w':=by
 obtain ⟨i0,hi,ow,iM,gY⟩:=info_parts gH;intro t
 induction t using Tm.ind with
 | h v n a ih=>
  intro ar ok w q hq;have qlU:=();exact qaF
