/-L-/
import Derived.Test.YtokemihbkeddoaaGreatDoorProg
import Derived.Test.YtokemihbkeddoaaGreatDoorQ00
import Derived.Test.YtokemihbkeddoaaGreatDoorQ01
import Derived.Test.YtokemihbkeddoaaGreatDoorQ02
open Go.Proofs.Tryz
namespace Go.Proofs.YtokemihbkeddoaaGreatDoor
open Go Go.RowKit Lib
set_option maxRecDepth 100000
set_option maxHeartbeats 0
variable{α:Type}{p:Prop}{P:Program}{args:Array Value}{R:Ending->World->Prop}
theorem ak:type_of% @Bool.and_eq_true:=@Bool.and_eq_true
theorem aH:type_of% @List.getElem_mem:=@List.getElem_mem
theorem ar:type_of% @Below.refl:=@Below.refl
theorem bP:type_of% @Nat.lt_of_lt_of_le:=@Nat.lt_of_lt_of_le
theorem aR:type_of% @Nat.le_trans:=@Nat.le_trans
theorem aK:type_of% @Nat.le_refl:=@Nat.le_refl
theorem bn:type_of% @Nat.zero_le:=@Nat.zero_le
theorem bZ:type_of% @Below.heap_alloc:=@Below.heap_alloc
theorem e_:type_of% @Below.heap_setCell:=@Below.heap_setCell
theorem bR:type_of% @Bool.false_eq_true:=@Bool.false_eq_true
theorem fB:type_of% @List.length_cons:=@List.length_cons
theorem iL:type_of% @List.drop_eq_getElem_cons:=@List.drop_eq_getElem_cons
theorem jn:type_of% @List.getElem?_eq_getElem:=@List.getElem?_eq_getElem
theorem dA:type_of% @List.take_length:=@List.take_length
theorem ei:type_of% @List.length_append:=@List.length_append
theorem fR:type_of% @World.alloc_heap_new:=@World.alloc_heap_new
theorem dO:type_of% @List.length_take:=@List.length_take
theorem cM:type_of% @List.map_cons:=@List.map_cons
theorem jR:type_of% @List.length_pos_iff:=@List.length_pos_iff
theorem ku:type_of% @List.eq_nil_of_length_eq_zero:=@List.eq_nil_of_length_eq_zero
theorem dn:type_of% @Option.some.injEq:=@Option.some.injEq
theorem dL:type_of% @Bool.true_and:=@Bool.true_and
theorem iW:type_of% @List.drop_eq_nil_of_le:=@List.drop_eq_nil_of_le
theorem fS:type_of% @List.mem_cons_of_mem:=@List.mem_cons_of_mem
theorem bM:type_of% @decide_eq_true_eq:=@decide_eq_true_eq
theorem aO:type_of% @callsIn_wide:=@callsIn_wide
theorem bX:type_of% @bodyPost_ret:=@bodyPost_ret
theorem gB:type_of% @List.take_of_length_le:=@List.take_of_length_le
theorem dc:type_of% @List.mem_cons:=@List.mem_cons
theorem fT:type_of% @List.mem_cons_self:=@List.mem_cons_self
theorem cF:type_of% @List.cons.injEq:=@List.cons.injEq
theorem lq:type_of% @List.take_succ_eq_append_getElem:=@List.take_succ_eq_append_getElem
theorem c_:type_of% @Value.agg.injEq:=@Value.agg.injEq
theorem ef:type_of% @beq_iff_eq:=@beq_iff_eq
theorem dD:type_of% @wpIn_seq_k:=@wpIn_seq_k
theorem jD:type_of% @IntWalk.i64_in:=@IntWalk.i64_in
theorem aw:type_of% @if_neg:=@if_neg
theorem aG:type_of% @if_pos:=@if_pos
theorem qu:type_of% @World.putObj_heap_other:=@World.putObj_heap_other
theorem sw:type_of% @List.nil_append:=@List.nil_append
theorem lL:type_of% @List.cons_append:=@List.cons_append
theorem iM:type_of% @Bool.eq_iff_iff:=@Bool.eq_iff_iff
theorem ng:(∀l:List α,l.toArray.size=l.length)/\(∀(a:α)(l:List α),(a::l).length=l.length+1)/\(([]:List α).length=0)/\(∀(n:Nat)(a:α),Array.replicate (n+1) a=(Array.replicate n a).push a)/\(∀a:α,Array.replicate 0 a=#[])/\(∀(l:List α)(a:α),l.toArray.push a=(l++[a]).toArray)/\(∀l m:List α,l.toArray++m.toArray=(l++m).toArray)/\(∀l:List α,[]++l=l)/\(∀(a:α)(l m:List α),(a::l)++m=a::(l++m)):=by
  refine⟨?_,?_,?_,?_,?_,?_,?_,?_,?_⟩<;>intros<;>simp[Array.replicate_succ]
theorem bQ{l:Array α}{i:Nat}{a:α}(h:l[i]?=some a):i<l.size:=(Array.getElem?_eq_some_iff.1 h).1
theorem dp{w:World}{o:Obj}:Below w.heap.size w (w.alloc o):=(ar _ _).alloc (aK _) _
theorem lsa(l:List α)(i:Nat)(a:α):l.toArray.setIfInBounds i a=(l.set i a).toArray:=by simp
theorem lsb(a b:α)(l:List α):(a::l).set 0 b=b::l:=rfl
theorem lsc(a b:α)(l:List α)(n:Nat):(a::l).set (n+1) b=a::l.set n b:=rfl
def Hd(p:Prop):Prop:=p
theorem Hd.o(h:Hd p):p:=h
theorem ae(h:p):Hd p:=h
theorem az{α:Sort _}(a:α):∃x,x=a:=⟨a,rfl⟩
theorem cG{a b c:Nat}(h:b=c)(l:a<b):a<c:=h▸l
theorem bY{W w:World}{b:Nat}{o:Obj}(hb:Below W.heap.size W w)(h:W.heap[b]?=some o):w.heap[b]?=some o:=(hb.block b (bQ h)).trans h
theorem am:(∀(l:List α)(i:Nat)(a:α),l.toArray.setIfInBounds i a=(l.set i a).toArray)/\(∀(a b:α)(l:List α),(a::l).set 0 b=b::l)/\(∀(a b:α)(l:List α)(n:Nat),(a::l).set (n+1) b=a::l.set n b):=⟨lsa,lsb,lsc⟩
section
variable{a b c d e f g h i j k l m n:Prop}
theorem an3(A:a)(B:b)(C:c):a/\b/\c:=⟨A,B,C⟩
theorem an4(A:a)(B:b)(C:c)(D:d):a/\b/\c/\d:=⟨A,B,C,D⟩
theorem Xf(A:a)(B:b)(C:c)(D:d)(E:e)(F:f)(G:g):a/\b/\c/\d/\e/\f/\g:=⟨A,B,C,D,E,F,G⟩
theorem an8(A:a)(B:b)(C:c)(D:d)(E:e)(F:f)(G:g)(H:h):a/\b/\c/\d/\e/\f/\g/\h:=⟨A,B,C,D,E,F,G,H⟩
theorem zcb(A:a)(B:b)(C:c)(D:d)(E:e)(F:f)(G:g)(H:h)(I:i)(J:j):a/\b/\c/\d/\e/\f/\g/\h/\i/\j:=⟨A,B,C,D,E,F,G,H,I,J⟩
theorem aM(A:a)(B:b):Hd (a/\b):=⟨A,B⟩
theorem bS(A:a)(B:b)(C:c):Hd (a/\b/\c):=⟨A,B,C⟩
theorem cH(A:a)(B:b)(C:c)(D:d):Hd (a/\b/\c/\d):=⟨A,B,C,D⟩
theorem gN(A:a)(B:b)(C:c)(D:d)(E:e):Hd (a/\b/\c/\d/\e):=⟨A,B,C,D,E⟩
theorem uU(A:a)(B:b)(C:c)(D:d)(E:e)(F:f):Hd (a/\b/\c/\d/\e/\f):=⟨A,B,C,D,E,F⟩
theorem bi(A:a)(B:b):Hd a/\Hd b:=⟨A,B⟩
theorem cU(A:a)(B:b)(C:c):Hd a/\Hd b/\Hd c:=⟨A,B,C⟩
theorem f8(A:a)(B:b)(C:c)(D:d):Hd a/\Hd b/\Hd c/\Hd d:=⟨A,B,C,D⟩
theorem sL(A:a)(B:b)(C:c)(D:d)(E:e):Hd a/\Hd b/\Hd c/\Hd d/\Hd e:=⟨A,B,C,D,E⟩
theorem Xg(A:a)(B:b)(C:c)(D:d)(E:e)(F:f):Hd a/\Hd b/\Hd c/\Hd d/\Hd e/\Hd f:=⟨A,B,C,D,E,F⟩
theorem Xh(A:a)(B:b)(C:c)(D:d)(E:e)(F:f)(G:g):Hd a/\Hd b/\Hd c/\Hd d/\Hd e/\Hd f/\Hd g:=⟨A,B,C,D,E,F,G⟩
theorem Xi(A:a)(B:b)(C:c)(D:d)(E:e)(F:f)(G:g)(H:h):Hd a/\Hd b/\Hd c/\Hd d/\Hd e/\Hd f/\Hd g/\Hd h:=⟨A,B,C,D,E,F,G,H⟩
theorem Pa(A:a)(B:b)(C:c)(D:d)(E:e)(F:f)(G:g)(H:h)(I:i)(J:j):Hd a/\Hd b/\Hd c/\Hd d/\Hd e/\Hd f/\Hd g/\Hd h/\Hd i/\Hd j:=⟨A,B,C,D,E,F,G,H,I,J⟩
end
theorem kN{w:World}{o:Obj}{k:Nat}(h:k=w.heap.size):(w.alloc o).heap[k]?=some o:=by rw[h];exact fR w o
section
variable{w W:World}{o1 o2 o3 o4:Obj}
theorem dj(h:W=w.alloc o1):Below w.heap.size w W:=by rw[h];exact dp
theorem cA(h:W=w.alloc o1):W.heap[w.heap.size]?=some o1:=by rw[h];exact kN (by simp)
theorem Kh(h:W=w.alloc o1):W.heap.size=w.heap.size+1:=by rw[h];simp
theorem mo(h:W=(w.alloc o1).alloc o2):Below w.heap.size w W:=by rw[h];exact dp.alloc (by simp <;>omega) _
theorem sx(h:W=(w.alloc o1).alloc o2):W.heap[w.heap.size]?=some o1:=by rw[h];exact(bZ _ _ _ (by simp <;>omega)).trans (kN (by simp))
theorem kv(h:W=(w.alloc o1).alloc o2):W.heap[w.heap.size+1]?=some o2:=by rw[h];exact kN (by simp)
theorem zP(h:W=(w.alloc o1).alloc o2):W.heap.size=w.heap.size+2:=by rw[h];simp
theorem xK(h:W=((w.alloc o1).alloc o2).alloc o3):Below w.heap.size w W:=by rw[h];exact(dp.alloc (by simp <;>omega) _).alloc (by simp <;>omega) _
theorem xM(h:W=((w.alloc o1).alloc o2).alloc o3):W.heap[w.heap.size]?=some o1:=by rw[h];exact(bZ _ _ _ (by simp <;>omega)).trans ((bZ _ _ _ (by simp <;>omega)).trans (kN (by simp)))
theorem sy(h:W=((w.alloc o1).alloc o2).alloc o3):W.heap[w.heap.size+1]?=some o2:=by rw[h];exact(bZ _ _ _ (by simp <;>omega)).trans (kN (by simp))
theorem qw(h:W=((w.alloc o1).alloc o2).alloc o3):W.heap[w.heap.size+1+1]?=some o3:=by rw[h];exact kN (by simp)
theorem Ki(h:W=((w.alloc o1).alloc o2).alloc o3):W.heap.size=w.heap.size+3:=by rw[h];simp
theorem Xj(h:W=(((w.alloc o1).alloc o2).alloc o3).alloc o4):Below w.heap.size w W:=by rw[h];exact((dp.alloc (by simp <;>omega) _).alloc (by simp <;>omega) _).alloc (by simp <;>omega) _
theorem SV(h:W=(((w.alloc o1).alloc o2).alloc o3).alloc o4):W.heap[w.heap.size]?=some o1:=by rw[h];exact(bZ _ _ _ (by simp <;>omega)).trans ((bZ _ _ _ (by simp <;>omega)).trans ((bZ _ _ _ (by simp <;>omega)).trans (kN (by simp))))
theorem ZC(h:W=(((w.alloc o1).alloc o2).alloc o3).alloc o4):W.heap[w.heap.size+1]?=some o2:=by rw[h];exact(bZ _ _ _ (by simp <;>omega)).trans ((bZ _ _ _ (by simp <;>omega)).trans (kN (by simp)))
theorem ZD(h:W=(((w.alloc o1).alloc o2).alloc o3).alloc o4):W.heap[w.heap.size+1+1]?=some o3:=by rw[h];exact(bZ _ _ _ (by simp <;>omega)).trans (kN (by simp))
theorem SW(h:W=(((w.alloc o1).alloc o2).alloc o3).alloc o4):W.heap[w.heap.size+1+1+1]?=some o4:=by rw[h];exact kN (by simp)
theorem Β(h:W=(((w.alloc o1).alloc o2).alloc o3).alloc o4):W.heap.size=w.heap.size+4:=by rw[h];simp
end
theorem Pb{f:FuncId}{w:World}(h:CallsIn Fence.wide 3 P f args w R):Calls P f args w R:=aO.1 h
theorem oM{f:FuncId}{fn:Func}{w:World}(hf:P.funcs[f]?=some fn){c:Code}(h:c.wpIn Fence.wide 3 P (bodyPost P fn R) {tmps:=args++Array.replicate (fn.ntmps-args.size) undef,defers:=[] } w)(hb:fn.body=some c:=by rfl):Calls P f args w R:=aO.1 (callsIn_of_wp hf hb trivial h rfl)
theorem fP:∀f,Fence.wide.fn f:=fun _=>trivial
end Go.Proofs.YtokemihbkeddoaaGreatDoor
namespace Go.Proofs.YtokemihbkeddoaaGreatDoor
open Go
variable{i j dl id:Nat}{o oi:Oper}{v:Value}{a:Act}{K:Act->World->Prop}{w:World}{listed:Array Bool}
section
variable{F:Fence}{n:Nat}{P:Program}{ops:Array Oper}{Q:Exit->Act->World->Prop}{md:Region.Mode}{S:World->Prop}{e:Nat}
def jS(F:Fence)(ops:Array Oper):Prop:=∀(j:Nat)(o:Oper),ops[j]?=some o->∀ρ,Oper.semAt F.round ρ o=execOp ρ o
def nh(o:Oper):Bool:=match o.op with|.defer _=>false|_=>true
theorem Kj(h:ops.toList.all nh=true):jS F ops:=fun j o ho ρ=>by
 cases hr:F.round with
 |none=>exact Oper.semAt_none _ _
 |some l=>
  refine Oper.semAt_some l ρ o (fun c hc=>?_);have hm:o∈ops.toList:=by
   have:=List.mem_of_getElem? (l:=ops.toList) (i:=j) (a:=o) (by simpa using ho);exact this
  have:=List.all_eq_true.1 h o hm;unfold nh at this;rw[hc]at this;cases this
def m6(P:Program)(ops:Array Oper)(S:World->Prop)(o:Oper)(v:Value)(a:Act):Prop:=YieldsIf P ops S o v a/\∀w,o.about P w a.eval=none
theorem C5(tf:jS F ops)(hi:ops[i]?=some o)(hy:m6 P ops S o v a)(hS:S w)(h:K (a.put o.dst v) w):wpOpIn F n P ops Q i K a w:=by
 unfold wpOpIn;simp only[hi];have FN:∀f,o.about P w a.eval=some f->F.fn f:=fun f hf=>by rw[hy.2 w]at hf;cases hf
 rcases hy.1 with⟨hw,hv⟩|⟨hw,rfl⟩
 ·simp only[hw,if_true,Oper.wpIn,tf i o hi,hv w hS,Oper.uponIn];exact⟨FN,h⟩
 ·simp only[hw,bR,if_false];exact⟨FN,h⟩
theorem m6.of_same{a':Act}(hy:m6 P ops S o v a)(he:execOp a'.eval o=execOp a.eval o)
  (hw:Region.wanted o (yielded ops a'.tmps)=Region.wanted o (yielded ops a.tmps)) (hb:∀w,o.about P w a'.eval=o.about P w a.eval):m6 P ops S o v a':=
 ⟨hy.1.of_same he hw,fun w=>by rw[hb w];exact hy.2 w⟩
theorem Kk{oj:Oper}(tf:jS F ops)(hj:ops[j]?=some oj)(hap:oi.apart ops oj=true)
  (hsi:∀cs b,oi.op≠.select cs b) (hsj:∀cs b,oj.op≠.select cs b)
  (hQ:∀c a w,Q (.panic c) (a.put oi.dst v) w->Q (.panic c) a w) {K:Act->World->Prop} {a:Act} {w:World}
  (hy:m6 P ops S oi v a) (h:wpOpIn F n P ops Q j K (a.put oi.dst v) w):
  wpOpIn F n P ops Q j (fun a' w'=>m6 P ops S oi v a'/\K (a'.put oi.dst v) w') a w:=by
 obtain⟨h1,h2,h3⟩:=Oper.apart_spec hap;have keep:∀(a:Act),m6 P ops S oi v a->∀u,m6 P ops S oi v (a.put oj.dst u):=fun a hy u=>
  hy.of_same (execOp_put oi hsi a oj.dst u h3) (wanted_put oi a oj.dst u h3) (fun w=>about_put oi w a oj.dst u h3)
 have zcc:∀d,m6 P ops S oi v {a with defers:=d::a.defers }:=fun d=>hy.of_same rfl rfl (fun _=>rfl);have hse:=tf j oj hj;unfold wpOpIn at *;simp only[hj]at h⊢;rw[wanted_put oj a oi.dst v h1,about_put oj w a oi.dst v h1]at h;split
 ·rename_i hw;simp only[hw,if_true]at h;unfold Oper.wpIn at *;rw[about_put oj w a oi.dst v h1]at h;refine⟨h.1,?_⟩;have h:=h.2;rw[hse,execOp_put oj hsj a oi.dst v h1]at h;rw[hse];generalize (execOp a.eval oj).run P w=r at *
  cases r with
  |ok x w'=>
   cases x<;>simp only[Oper.uponIn]at h⊢
   case value u=>exact⟨keep a hy u,by rw[<-Act.put_comm a v u h2];exact h⟩
   case skip=>exact⟨keep a hy _,by rw[<-Act.put_comm a v undef h2];exact h⟩
   case defer d=>
    refine⟨keep _ (zcc d) _,?_⟩;rw[<-Act.put_comm _ v undef h2,<-Act.put_defers];exact h
   case enter f args=>
    refine⟨h.1,CallsIn.mono h.2 fun e Iw he=>?_⟩;exact qd9
   case row row args=>exact⟨h.1,RowsIn.mono h.2 fun u Iw he=>⟨keep a hy u,by rw[<-Act.put_comm a v u h2];exact he⟩⟩
   case round l f tmps assign body=>
    refine⟨h.1,RoundIn.mono h.2 fun e Iw he=>?_⟩;exact qd9
  |halt x w'=>
   cases x<;>simp only[Oper.uponIn]at h⊢
   case panic u=>exact hQ _ _ _ h
 ·rename_i hw;simp only[hw]at h;exact⟨h.1,keep a hy _,by rw[<-Act.put_comm a v undef h2];exact h.2⟩
def Kl(md:Region.Mode)(ops:Array Oper)(i:Nat):Nat->Nat->Bool
 |0,_=>false
 |d+1,j=>match ops[j]? with
  |none=>false
  |some oj=>oj.after.any fun ed=>Region.binds md ed&&(ed.on==i||Kl md ops i d ed.on)
def Gy(md:Region.Mode)(ops:Array Oper)(e i:Nat):Bool:=(List.range ops.size).all fun j=>decide (j<e)||Kl md ops i ops.size j
def zQ(md:Region.Mode)(ops:Array Oper)(listed:Array Bool):Prop:=∀j oj,ops[j]?=some oj->listed.getD j false=true->∀ed∈oj.after,Region.binds md ed=true->listed.getD ed.on false=true
def uC(md:Region.Mode)(ops:Array Oper)(listed:Array Bool):Bool:=(List.range ops.size).all fun j=>match ops[j]? with
 |none=>true
 |some oj=>!listed.getD j false||oj.after.all fun ed=>!Region.binds md ed||listed.getD ed.on false
theorem Gz{md:Region.Mode}{ops:Array Oper}(h:uC md ops listed=true):zQ md ops listed:=fun j oj hj hl ed ZE hb=>by
 have h1:=List.all_eq_true.1 h j (List.mem_range.2 (bQ hj));simp only[hj,hl,Bool.not_true,Bool.false_or]at h1;have h2:=Array.all_eq_true'.1 h1 ed ZE;simpa[hb]using h2
theorem C6{md:Region.Mode}{ops:Array Oper}(hc:zQ md ops listed):∀(d j:Nat),listed.getD j false=true->Kl md ops i d j=true->listed.getD i false=true
 |0,_,_,h=>by simp[Kl]at h
 |d+1,j,hl,h=>by
  unfold Kl at h
  cases hj:ops[j]? with
  |none=>simp[hj]at h
  |some oj=>
   simp only[hj]at h;have an:=();exact qea
theorem QK{md:Region.Mode}{ops:Array Oper}(hc:zQ md ops listed)(hr:j∈Region.ready md ops listed){d:Nat}(h:Kl md ops i d j=true):listed.getD i false=true:=by
 obtain⟨_,oj,hoj,gt⟩:=mem_ready.1 hr
 cases d with
 |zero=>simp[Kl]at h
 |succ d=>
  unfold Kl at h;simp only[hoj]at h;exact qea
theorem M6{md:Region.Mode}{ops:Array Oper}(hc:zQ md ops listed)(hr:i∈Region.ready md ops listed):zQ md ops (listed.setIfInBounds i true):=fun j oj hj hl ed ZE hb=>by
 obtain⟨_,oi,hoi,gt⟩:=mem_ready.1 hr
 by_cases Xk:i=j
 ·subst Xk;have:oj=oi:=Option.some.inj (hj.symm.trans hoi);subst this;exact getD_set_true (gt ed ZE hb)
 ·rw[getD_set_ne false Xk]at hl;exact getD_set_true (hc j oj hj hl ed ZE hb)
def ee(F:Fence)(n:Nat)(P:Program)(md:Region.Mode)(ops:Array Oper)(Q:Exit->Act->World->Prop)(S:World->Prop)(e:Nat):Nat->Array Bool->Act->World->Prop
 |0,listed,a,w=>Region.ready md ops listed=[]/\Q .normal a w
 |dl+1,listed,a,w=>
  (Region.ready md ops listed=[]->Q .normal a w)∧
  ∀i∈Region.ready md ops listed,wpOpIn F n P ops Q i (fun a' w'=>(i<e->S w')/\ee F n P md ops Q S e dl (listed.setIfInBounds i true) a' w') a w
theorem xO:∀(dl:Nat)(listed:Array Bool)(a:Act)(w:World),ee F n P md ops Q S e dl listed a w->wpAnyIn F n P md ops Q dl listed a w
 |0,_,_,_,h=>h
 |dl+1,_,_,_,h=>⟨h.1,fun i hi=>wpOpIn_mono (fun a' w' h'=>xO dl _ a' w' h'.2) (h.2 i hi)⟩
theorem xP(tf:jS F ops)(zcd:Gy md ops e i=true)(hi:ops[i]?=some oi)(zce:∀(j:Nat) (o:Oper) cs b,ops[j]?=some o->o.op≠.select cs b)
  (hQ:∀c a w,Q (.panic c) (a.put oi.dst v) w->Q (.panic c) a w):
  ∀(dl:Nat)(listed:Array Bool)(a:Act)(w:World),zQ md ops listed→
   (∀j oj,ops[j]?=some oj->j≠i->listed.getD j true=false->(∀e∈oj.after,Region.binds md e=true->e.on≠i)->oi.apart ops oj=true)→
   i∈Region.ready md ops listed->m6 P ops S oi v a->S w→
   ee F n P md ops Q S e dl (listed.setIfInBounds i true) (a.put oi.dst v) w->ee F n P md ops Q S e (dl+1) listed a w:=by
 intro dl
 induction dl with
 |zero=>
  intro listed a w _ _ hr hy hS H;have an:=();exact qeb
 |succ dl ih=>
  intro listed a w hcl ZF hr hy hS H;exact qeb
theorem ZG(d:Nat)(v:Value)(tf:jS F ops)(hi:ops[i]?=some oi)
  (hs:(Region.noSelect ops&&(Region.free md ops listed i&&((Region.ready md ops listed).contains i&&(Gy md ops e i&&uC md ops listed))))=true)
  (hQ:∀c a w,Q (.panic c) (a.put oi.dst v) w->Q (.panic c) a w) (zR:oi.dst=some d) (hw:Region.wanted oi (yielded ops a.tmps)=true) (hy:∀w,S w->(execOp a.eval oi).run P w=.ok (.value v) w) (FN:∀w,oi.about P w a.eval=none) (hS:S w)
  (h:S w->ee F n P md ops Q S e dl (listed.setIfInBounds i true) {a with tmps:=a.tmps.setIfInBounds d v } w):ee F n P md ops Q S e (dl+1) listed a w:=by
 simp only[ak]at hs;exact xP tf hs.2.2.2.1 hi (Region.noSelect_spec hs.1) hQ dl listed a w (Gz hs.2.2.2.2) (Region.free_spec hi hs.2.1) (by simpa using hs.2.2.1) ⟨.inl ⟨hw,hy⟩,FN⟩ hS (by rw[zR];exact h hS)
theorem zcg(d:Nat)(tf:jS F ops)(hi:ops[i]?=some oi)
  (hs:(Region.noSelect ops&&(Region.free md ops listed i&&((Region.ready md ops listed).contains i&&(Gy md ops e i&&uC md ops listed))))=true)
  (hQ:∀c a w,Q (.panic c) (a.put oi.dst undef) w->Q (.panic c) a w) (zR:oi.dst=some d) (hw:Region.wanted oi (yielded ops a.tmps)=false) (FN:∀w,oi.about P w a.eval=none) (hS:S w)
  (h:S w->ee F n P md ops Q S e dl (listed.setIfInBounds i true) {a with tmps:=a.tmps.setIfInBounds d undef } w):ee F n P md ops Q S e (dl+1) listed a w:=by
 simp only[ak]at hs;exact xP tf hs.2.2.2.1 hi (Region.noSelect_spec hs.1) hQ dl listed a w (Gz hs.2.2.2.2) (Region.free_spec hi hs.2.1) (by simpa using hs.2.2.1) ⟨.inr ⟨hw,rfl⟩,FN⟩ hS (by rw[zR];exact h hS)
theorem zeI(hi:ops[i]?=some oi)(hr:Region.ready md ops listed=[i])(hw:Region.wanted oi (yielded ops a.tmps)=true)
  (h:∀K:Act->World->Prop,(∀a w,(i<e->S w)->((i<e->S w)->ee F n P md ops Q S e dl (listed.setIfInBounds i true) a w)->K a w)->Oper.wpIn F n P oi a w K Q):ee F n P md ops Q S e (dl+1) listed a w:=by
 have an:=();exact qec
theorem zch(d:Nat)(hi:ops[i]?=some oi)(hr:Region.ready md ops listed=[i])(zR:oi.dst=some d)(hw:Region.wanted oi (yielded ops a.tmps)=false)(FN:∀f,oi.about P w a.eval=some f->F.fn f)(hS:S w)
  (h:S w->ee F n P md ops Q S e dl (listed.setIfInBounds i true) {a with tmps:=a.tmps.setIfInBounds d undef } w):ee F n P md ops Q S e (dl+1) listed a w:=by
 exact qec
def NP(Q:Exit->Act->World->Prop):Exit->Act->World->Prop
 |.panic _,_,_=>False
 |e,a,w=>Q e a w
theorem NP.imp{Q:Exit->Act->World->Prop}:∀(e:Exit)(a:Act)(w:World),NP Q e a w->Q e a w:=fun e a w h=>by
 cases e<;>first|exact h|exact(h:False).elim
theorem zci(hr:Region.ready md ops listed=[])(h:Q .normal a w):∀dl,ee F n P md ops (NP Q) S e dl listed a w
 |0=>⟨hr,h⟩
 |_+1=>⟨fun _=>h,by rw[hr];simp⟩
theorem Pc(S:World->Prop)(e:Nat)(hm:(P.follows .mixedOrders&&ops.toList.all nh)=true)(hS:S w.drew)
  (h:jS F ops->S w.drew->ee F n P .any ops (NP Q) S e ops.size (Array.replicate ops.size false) a w.drew):(Code.region id ops true).wpIn F n P Q a w:=by
 simp only[ak]at hm;exact Code.wpIn_mono NP.imp (wpIn_region_any hm.1 (xO _ _ _ _ (h (Kj hm.2) hS)))
theorem bH(i d:Nat)(v:Value)(hi:ops[i]?=some oi)(hS:S w)
  (h:S w->ee F n P md ops Q S e dl (listed.setIfInBounds i true) {a with tmps:=a.tmps.setIfInBounds d v } w)
  (tf:jS F ops:=by assumption) (hy:∀w,S w->(execOp a.eval oi).run P w=.ok (.value v) w:=by intro V hX;go_simp)
  (hs:(Region.noSelect ops&&(Region.free md ops listed i&&((Region.ready md ops listed).contains i&&(Gy md ops e i&&uC md ops listed))))=true:=by kernel_rfl)
  (hQ:∀c a w,Q (.panic c) (a.put oi.dst v) w->Q (.panic c) a w:=by exact fun _ _ _ h=>h) (zR:oi.dst=some d:=by rfl) (hw:Region.wanted oi (yielded ops a.tmps)=true:=by rfl)
  (FN:∀w,oi.about P w a.eval=none:=by exact fun _=>rfl):ee F n P md ops Q S e (dl+1) listed a w:=
 ZG d v tf hi hs hQ zR hw hy FN hS h
theorem di(i d:Nat)(v:Value)(hi:ops[i]?=some oi)(hy:∀w,S w->(execOp a.eval oi).run P w=.ok (.value v) w)(hS:S w)
  (h:S w->ee F n P md ops Q S e dl (listed.setIfInBounds i true) {a with tmps:=a.tmps.setIfInBounds d v } w)
  (tf:jS F ops:=by assumption)
  (hs:(Region.noSelect ops&&(Region.free md ops listed i&&((Region.ready md ops listed).contains i&&(Gy md ops e i&&uC md ops listed))))=true:=by kernel_rfl)
  (hQ:∀c a w,Q (.panic c) (a.put oi.dst v) w->Q (.panic c) a w:=by exact fun _ _ _ h=>h) (zR:oi.dst=some d:=by rfl) (hw:Region.wanted oi (yielded ops a.tmps)=true:=by rfl)
  (FN:∀w,oi.about P w a.eval=none:=by exact fun _=>rfl):ee F n P md ops Q S e (dl+1) listed a w:=
 ZG d v tf hi hs hQ zR hw hy FN hS h
theorem cb(i:Nat)(hi:ops[i]?=some oi)
  (h:∀K:Act->World->Prop,(∀a w,(i<e->S w)->((i<e->S w)->ee F n P md ops Q S e dl (listed.setIfInBounds i true) a w)->K a w)->Oper.wpIn F n P oi a w K Q)
  (hr:Region.ready md ops listed=[i]:=by kernel_rfl) (hw:Region.wanted oi (yielded ops a.tmps)=true:=by rfl):ee F n P md ops Q S e (dl+1) listed a w:=
 zeI hi hr hw h
theorem eX{R:Act->World->Prop}(hK:∀a w,(i<e->S w)->((i<e->S w)->R a w)->K a w)(h:R a w)(hn:¬i<e:=by decide):K a w:=hK a w (fun x=>absurd x hn) fun _=>h
theorem lM(S:World->Prop)(e:Nat)(hS:S w.drew)(h:jS F ops->S w.drew->ee F n P .any ops (NP Q) S e ops.size (Array.replicate ops.size false) a w.drew)
  (hm:(P.follows .mixedOrders&&ops.toList.all nh)=true:=by kernel_rfl):(Code.region id ops true).wpIn F n P Q a w:=Pc S e hm hS h
theorem kO(h:Q .normal a w)(hr:Region.ready md ops listed=[]:=by kernel_rfl):ee F n P md ops (NP Q) S e dl listed a w:=zci hr h dl
end
end Go.Proofs.YtokemihbkeddoaaGreatDoor
namespace Go.Proofs.YtokemihbkeddoaaGreatDoor
open Go
variable{sz d k id:Nat}{listed:Array Bool}{a0 a:Act}{w:World}{o:Oper}
section
variable{F:Fence}{n:Nat}{P:Program}{ops:Array Oper}{Q:Exit->Act->World->Prop}{md:Region.Mode}{S:World->Prop}
variable{Γ:Type}(Φ:Nat->Value->Γ->World->Prop)(Ψ:Nat->Γ->Prop)(I:Γ->World->Prop)(G:Γ->World->Γ->World->Prop)
def Km(ops:Array Oper)(sz:Nat):Bool:=(List.range ops.size).all fun i=>match ops[i]? with
 |none=>true
 | some oi=>oi.after.all (fun e=>!Region.binds .any e || decide (e.on<i)) && (match oi.dst with
  |none=>true
  |some d=>decide (d<sz)&&(List.range ops.size).all fun j=>i==j||(match ops[j]? with|some oj=>oj.dst !=some d|none=>true))
structure Pe(ops:Array Oper)(sz:Nat):Prop where
 before:∀(k:Nat)(o:Oper),ops[k]?=some o->∀e∈o.after,Region.binds .any e=true->e.on<k
 there:∀(k:Nat)(o:Oper)(d:Nat),ops[k]?=some o->o.dst=some d->d<sz
 one:∀(k j:Nat)(o oj:Oper)(d:Nat),ops[k]?=some o->ops[j]?=some oj->o.dst=some d->oj.dst=some d->k=j
theorem Kn(h:Km ops sz=true):Pe ops sz:=by
 have h1:∀(k:Nat)(o:Oper),ops[k]?=some o->o.after.all (fun e=>!Region.binds .any e||decide (e.on<k))=true/\∀d,o.dst=some d->d<sz/\∀(j:Nat)(oj:Oper),ops[j]?=some oj->k=j\/oj.dst≠some d:=by
  intro k o ho;have:=List.all_eq_true.1 h k (List.mem_range.2 (bQ ho));simp only[ho,ak]at this;refine⟨this.1,fun d hd=>?_⟩;have h2:=this.2;simp only[hd,ak,bM]at h2;refine⟨h2.1,fun j oj hj=>?_⟩;have h3:=List.all_eq_true.1 h2.2 j (List.mem_range.2 (bQ hj));simp only[hj,Bool.or_eq_true,ef,bne_iff_ne,ne_eq]at h3;exact h3
 refine⟨fun k o ho e he hb=>?_,fun k o d ho hd=>((h1 k o ho).2 d hd).1,fun k j o oj d ho hj hd ZH=>?_⟩
 ·have:=Array.all_eq_true'.1 (h1 k o ho).1 e he;simpa[hb]using this
 ·rcases((h1 k o ho).2 d hd).2 j oj hj with h|h
  ·exact h
  ·exact absurd ZH h
structure iY(ops:Array Oper)(a0:Act)(listed:Array Bool)(a:Act)(γ:Γ)(w:World):Prop where
 df:a.defers=a0.defers
 sz:a.tmps.size=a0.tmps.size
 ou:∀d,(∀(k:Nat)(o:Oper),ops[k]?=some o->o.dst≠some d)->a.tmps[d]?=a0.tmps[d]?
 nod:∀(k:Nat)(o:Oper),ops[k]?=some o->o.dst=none->listed.getD k false=true->Φ k undef γ w
 val:∀(k:Nat)(o:Oper)(d:Nat),ops[k]?=some o->o.dst=some d->listed.getD k false=true->∃v,a.tmps[d]?=some v/\Φ k v γ w
 unl:∀k,k<ops.size->listed.getD k true=false->Ψ k γ
 inv:I γ w
 pre:∀(k:Nat)(o:Oper)(d:Nat),ops[k]?=some o->o.dst=some d->listed.getD k false=false->a.tmps[d]?=a0.tmps[d]?
 cl:∀(k:Nat)(o:Oper),ops[k]?=some o->listed.getD k false=true->∀e∈o.after,Region.binds .any e=true->e.on<ops.size->listed.getD e.on false=true
def qA(ops:Array Oper)(d:Nat):Bool:=ops.toList.all fun o=>o.dst !=some d
theorem Pf{ops:Array Oper}(h:qA ops d=true)(k:Nat)(o:Oper)(ho:ops[k]?=some o):o.dst≠some d:=by
 have:=List.all_eq_true.1 h o (List.mem_of_getElem? (i:=k) (by simpa using ho));simpa using this
def xQ(md:Region.Mode)(o:Oper)(j:Nat):Bool:=o.after.any fun e=>e.on==j&&Region.binds md e
structure GA(md:Region.Mode)(ops:Array Oper)(a0:Act)(o:Oper)(k:Nat)(a:Act)(γ:Γ)(w:World):Prop where
 sz:a.tmps.size=a0.tmps.size
 ou:∀d,qA ops d=true->a.tmps[d]?=a0.tmps[d]?
 inv:I γ w
 psi:Ψ k γ
 nod:∀(j:Nat)(oj:Oper),ops[j]?=some oj->xQ md o j=true->oj.dst=none->Φ j undef γ w
 val:∀(j:Nat)(oj:Oper)(d:Nat),ops[j]?=some oj->oj.dst=some d->xQ md o j=true->∃v,a.tmps[d]?=some v/\Φ j v γ w
 pre:∀(j:Nat)(oj:Oper)(d:Nat),ops[j]?=some oj->oj.dst=some d->xQ md oj k=true->a.tmps[d]?=a0.tmps[d]?
 psw:∀(j:Nat)(oj:Oper),ops[j]?=some oj->xQ md oj k=true->Ψ j γ
def rh(F:Fence)(n:Nat)(P:Program)(md:Region.Mode)(ops:Array Oper)(Q:Exit->Act->World->Prop)(a0:Act)(k:Nat):Prop:=
 ∀o,ops[k]?=some o->∀(a:Act)(γ:Γ)(w:World),GA Φ Ψ I md ops a0 o k a γ w→
  ∀K:Act->World->Prop,(∀(v:Value)(eZ:Γ)(w':World),(o.dst=none->v=undef)->G γ w eZ w'->(∀j,j≠k->Ψ j γ->Ψ j eZ)->Φ k v eZ w'->K (a.put o.dst v) w')->wpOpIn F n P ops Q k K a w
theorem Ko{γ:Γ}(h:iY Φ Ψ I ops a0 listed a γ w)(ZI:listed.size=ops.size)(hk:k<ops.size)(Sx:listed.getD k true=false)(gt:∀e∈o.after,Region.binds .any e=true->e.on<ops.size->listed.getD e.on false=true):GA Φ Ψ I .any ops a0 o k a γ w:=by
 have hw:∀(j:Nat)(oj:Oper),ops[j]?=some oj->xQ .any o j=true->listed.getD j false=true:=by
  intro j oj hj hw;obtain⟨e,he,hb⟩:=Array.any_eq_true'.1 hw;simp only[ak,ef]at hb;rw[<-hb.1];exact gt e he hb.2 (by rw[hb.1];exact(bQ hj))
 have zcj:∀(j:Nat)(oj:Oper),ops[j]?=some oj->xQ .any oj k=true->listed.getD j false=false:=by
  intro j oj hj Kr
  cases hc:listed.getD j false with
  |false=>rfl
  |true=>
   obtain⟨e,he,hb⟩:=Array.any_eq_true'.1 Kr;simp only[ak,ef]at hb;have h1:=h.cl j oj hj hc e he hb.2 (by rw[hb.1];exact hk);rw[hb.1]at h1;rcases Nat.lt_or_ge k listed.size with hlt|hge
   ·simp[Array.getD,hlt]at h1 Sx;rw[h1]at Sx;cases Sx
   ·simp[Array.getD,Nat.not_lt.2 hge]at h1
 exact ⟨h.sz,fun d hd=>h.ou d (fun k o ho=>Pf hd k o ho),h.inv,h.unl k hk Sx,fun j oj hj Kr hd=>h.nod j oj hj hd (hw j oj hj Kr),fun j oj d hj hd Kr=>h.val j oj d hj hd (hw j oj hj Kr),fun j oj d hj hd Kr=>h.pre j oj d hj hd (zcj j oj hj Kr),fun j oj hj Kr=>h.unl j (bQ hj) (by
  have h1:=zcj j oj hj Kr;have h2:j<listed.size:=by rw[ZI];exact(bQ hj)
  simpa[Array.getD,h2]using h1)⟩
theorem QL(hok:Pe ops n)(hl:listed.size=ops.size)(h:Region.ready .any ops listed=[]):∀k,k<ops.size->listed.getD k false=true:=by
 intro k
 induction k using Nat.strongRecOn with
 |ind k ih=>
  intro hk
  cases hc:listed.getD k false with
  |true=>rfl
  |false=>
   exfalso;have ho:ops[k]?=some ops[k]:=by simp[hk]
   have:k∈Region.ready .any ops listed:=mem_ready.2 ⟨by
    have bA:k<listed.size:=by omega
    simp[Array.getD,bA]at hc⊢;exact hc,ops[k],ho,fun e he hb=>by
     have hlt:=hok.before k _ ho e he hb;exact ih e.on hlt (by omega)⟩
   rw[h]at this;cases this
theorem GC{l:Array Bool}{i:Nat}(h:l.getD i true=false):(l.setIfInBounds i true).toList.countP (fun b=>!b)+1=l.toList.countP (fun b=>!b):=by
 have hi:i<l.size:=by
  rcases Nat.lt_or_ge i l.size with h'|h'
  ·exact h'
  ·simp[Array.getD,Nat.not_lt.2 h']at h
 have hv:l[i]=false:=by simpa[Array.getD,hi]using h
 have h2:i<l.toList.length:=by simpa using hi
 have ll:l.toList[i]=false:=by simpa using hv
 rw[Array.toList_setIfInBounds,List.countP_set h2,ll];have:0<l.toList.countP (fun b=>!b):=List.countP_pos_iff.2 ⟨false,by rw[<-ll];exact aH h2,rfl⟩;simp only[Bool.not_false,Bool.not_true,if_true,bR,if_false];omega
theorem Pg(hok:Pe ops a0.tmps.size)(hI:∀γ w eZ w',G γ w eZ w'->I γ w->I eZ w')(AQ:∀k v γ w eZ w',G γ w eZ w'->Φ k v γ w->Φ k v eZ w')
  {listed:Array Bool} {a:Act} {γ eZ:Γ} {w w':World} {k:Nat} {o:Oper} {v:Value} (gt:∀e∈o.after,Region.binds .any e=true->e.on<ops.size->listed.getD e.on false=true) (hl:listed.size=ops.size) (ho:ops[k]?=some o) (h:iY Φ Ψ I ops a0 listed a γ w) (hv:o.dst=none->v=undef) (hG:G γ w eZ w') (QM:∀j,j≠k->Ψ j γ->Ψ j eZ) (ky:Φ k v eZ w'):
  iY Φ Ψ I ops a0 (listed.setIfInBounds k true) (a.put o.dst v) eZ w':=by
 have hsz:(a.put o.dst v).tmps.size=a0.tmps.size:=by
  unfold Act.put;split<;>simp[h.sz]
 have vC:∀j,j≠k->(listed.setIfInBounds k true).getD j false=true->listed.getD j false=true:=fun j hj hh=>by rwa [getD_set_ne false (Ne.symm hj)]at hh
 refine⟨?_,hsz,fun d hd=>?_,fun j oj hj MN lG=>?_,fun j oj d hj MN lG=>?_,fun j hj lG=>?_,hI γ w eZ w' hG h.inv,fun j oj d hj MN lG=>?_,fun j oj hj lG e he hb hlt=>?_⟩
 ·unfold Act.put;split<;>exact h.df
 ·rw[<-h.ou d hd];have jd:=hd k o ho;unfold Act.put;split
  ·rename_i d' Ε;have:d'≠d:=fun e=>jd (by rw[Ε,e]);simp[this]
  ·rfl
 ·by_cases uD:j=k
  ·subst uD;obtain rfl:oj=o:=Option.some.inj (hj.symm.trans ho);have:=hv MN;subst this;exact ky
  ·exact AQ j _ γ w eZ w' hG (h.nod j oj hj MN (vC j uD lG))
 ·by_cases uD:j=k
  ·subst uD;obtain rfl:oj=o:=Option.some.inj (hj.symm.trans ho);refine⟨v,?_,ky⟩;have hlt:d<a.tmps.size:=by rw[h.sz];exact hok.there j oj d hj MN
   rw[MN];simp[Act.put,hlt]
  ·obtain⟨u,hu,hφ⟩:=h.val j oj d hj MN (vC j uD lG);refine⟨u,?_,AQ j _ γ w eZ w' hG hφ⟩;rw[<-hu];exact qed
 ·by_cases uD:j=k
  ·subst uD;have hlt:j<listed.size:=by omega
   simp[Array.getD,hlt]at lG
  ·exact QM j uD (h.unl j hj (by rwa [getD_set_ne true (Ne.symm uD)]at lG))
 ·by_cases uD:j=k
  ·subst uD;have hlt:j<listed.size:=by rw[hl];exact(bQ hj)
   simp[Array.getD,hlt]at lG
  ·rw[getD_set_ne false (Ne.symm uD)]at lG;rw[<-h.pre j oj d hj MN lG];exact qed
 ·have FC:listed.getD e.on false=true:=by
   by_cases uD:j=k
   ·subst uD;obtain rfl:oj=o:=Option.some.inj (hj.symm.trans ho);exact gt e he hb hlt
   ·exact h.cl j oj hj (vC j uD lG) e he hb hlt
  by_cases hek:e.on=k
  ·rw[hek];have fC:k<listed.size:=by rw[hl,<-hek];exact hlt
   simp[Array.getD,fC]
  ·rw[getD_set_ne false (Ne.symm hek)];exact FC
theorem zck(hok:Pe ops a0.tmps.size)(hI:∀γ w eZ w',G γ w eZ w'->I γ w->I eZ w')(AQ:∀k v γ w eZ w',G γ w eZ w'->Φ k v γ w->Φ k v eZ w')
  (AR:∀k,k<ops.size->rh Φ Ψ I G F n P Region.Mode.any ops Q a0 k)
  (hQ:∀(a:Act)(γ:Γ)(w:World),iY Φ Ψ I ops a0 (Array.replicate ops.size true) a γ w->Q .normal a w):
  ∀(dl:Nat)(listed:Array Bool)(a:Act)(γ:Γ)(w:World),listed.size=ops.size->listed.toList.countP (fun b=>!b)<=dl->iY Φ Ψ I ops a0 listed a γ w->ee F n P Region.Mode.any ops Q S 0 dl listed a w:=by
 have fin:∀(listed:Array Bool)(a:Act)(γ:Γ)(w:World),listed.size=ops.size->Region.ready Region.Mode.any ops listed=[]->iY Φ Ψ I ops a0 listed a γ w->Q .normal a w:=by
  intro listed a γ w hl hr h;have gt:=QL hok hl hr;exact qee
 intro dl
 induction dl with
 |zero=>
  intro listed a γ w hl hc h;have hr:Region.ready Region.Mode.any ops listed=[]:=by
   cases jm:Region.ready Region.Mode.any ops listed with
   |nil=>rfl
   |cons j r=>
    have hj:j∈Region.ready Region.Mode.any ops listed:=by rw[jm];exact fT
    have:=GC (mem_ready.1 hj).1;omega
  exact⟨hr,fin listed a γ w hl hr h⟩
 |succ dl ih=>
  intro listed a γ w hl hc h;refine⟨fun hr=>fin listed a γ w hl hr h,fun k hk=>?_⟩;obtain⟨Sx,o,ho,gt⟩:=mem_ready.1 hk;have AS:=(bQ ho);refine AR k AS o ho a γ w (Ko Φ Ψ I h hl AS Sx (fun e he hb _=>gt e he hb)) _ (fun v eZ w' hv hG QM ky=>⟨fun h0=>absurd h0 (Nat.not_lt_zero _),?_⟩);refine ih (listed.setIfInBounds k true) (a.put o.dst v) eZ w' (by simpa using hl) (by have:=GC Sx;omega) ?_;exact Pg Φ Ψ I G hok hI AQ (fun e he hb _=>gt e he hb) hl ho h hv hG QM ky
theorem GD{SX:Γ}(hI:I SX w)(QM:∀k,k<ops.size->Ψ k SX):iY Φ Ψ I ops a0 (Array.replicate ops.size false) a0 SX w:=by
 refine⟨rfl,rfl,fun _ _=>rfl,fun k o ho Sy hl=>?_,fun k o d ho Sy hl=>?_,fun k hk _=>QM k hk,hI,fun _ _ _ _ _ _=>rfl,fun k o ho hl=>?_⟩
 ·have hk:=(bQ ho);simp[Array.getD,hk]at hl
 ·have hk:=(bQ ho);simp[Array.getD,hk]at hl
 ·have hk:=(bQ ho);simp[Array.getD,hk]at hl
theorem kZ(SX:Γ)(hm:(P.follows .mixedOrders&&ops.toList.all nh)=true)(hsz:a0.tmps.size=sz)(hd:Km ops sz=true)(hI0:I SX w.drew)(Ζ:∀k,k<ops.size->Ψ k SX)
  (hI:∀γ w eZ w',G γ w eZ w'->I γ w->I eZ w') (AQ:∀k v γ w eZ w',G γ w eZ w'->Φ k v γ w->Φ k v eZ w')
  (AR:∀k,k<ops.size->rh Φ Ψ I G F n P .any ops (NP Q) a0 k) (hQ:∀(a:Act)(γ:Γ)(w':World),iY Φ Ψ I ops a0 (Array.replicate ops.size true) a γ w'->Q .normal a w'):(Code.region id ops true).wpIn F n P Q a0 w:=
 Pc (fun _=>True) 0 hm trivial (fun _ _=>zck Φ Ψ I G (Kn (hsz▸hd)) hI AQ AR (fun a γ w' h=>hQ a γ w' h) ops.size _ a0 SX w.drew (by simp) (aR List.countP_le_length (by simp)) (GD Φ Ψ I hI0 Ζ))
theorem qB(SX:Γ)(hsz:a0.tmps.size=sz)(hd:Km ops sz=true)(hI0:I SX w)(Ζ:∀k,k<ops.size->Ψ k SX)
  (hI:∀γ w eZ w',G γ w eZ w'->I γ w->I eZ w') (AQ:∀k v γ w eZ w',G γ w eZ w'->Φ k v γ w->Φ k v eZ w')
  (AR:∀k,k<ops.size->rh Φ Ψ I G F n P .any ops Q a0 k) (hQ:∀(a:Act)(γ:Γ)(w':World),iY Φ Ψ I ops a0 (Array.replicate ops.size true) a γ w'->Q .normal a w'):(Code.region id ops false).wpIn F n P Q a0 w:=by
 have hok:=Kn (hsz▸hd);refine wpIn_region ?_;have zeJ:∀(m k:Nat)(listed:Array Bool)(a:Act)(γ:Γ)(w:World),k+m=ops.size->listed.size=ops.size->(∀j,j<ops.size->(listed.getD j false=true↔j<k))->iY Φ Ψ I ops a0 listed a γ w->wpOpsIn F n P ops Q (List.range' k m) a w:=by
  intro m
  induction m with
  |zero=>
   intro k listed a γ w hk hl GE h;have gt:∀j,j<ops.size->listed.getD j false=true:=fun j hj=>(GE j hj).2 (by omega);exact qee
  |succ m ih=>
   intro k listed a γ w hk hl GE h;have AS:k<ops.size:=by omega
   rw[List.range'_succ,wpOpsIn_cons];have ho:ops[k]?=some ops[k]:=by simp[AS]
   have Sx:listed.getD k true=false:=by
    have:=(GE k AS);have bA:k<listed.size:=by omega
    simp[Array.getD,bA]at this⊢;exact this
   refine AR k AS _ ho a γ w (Ko Φ Ψ I h hl AS Sx (fun e he hb hlt=>(GE _ hlt).2 (hok.before k _ ho e he hb))) _ (fun v eZ w' hv hG QM ky=>?_);exact ih (k+1) (listed.setIfInBounds k true) _ eZ w' (by omega) (by simpa using hl) (fun j hj=>by
    by_cases uD:k=j
    ·subst uD;have bA:k<listed.size:=by omega
     simp[Array.getD,bA]
    ·rw[getD_set_ne false uD,GE j hj];omega) (Pg Φ Ψ I G hok hI AQ (fun e he hb hlt=>(GE _ hlt).2 (hok.before k _ ho e he hb)) hl ho h hv hG QM ky)
 have:=zeJ ops.size 0 (Array.replicate ops.size false) a0 SX w (by omega) (by simp) (fun j hj=>by simp[Array.getD,hj]) (GD Φ Ψ I hI0 Ζ)
 rwa [List.range_eq_range']
variable{Φ}{Ψ}{I}{G}
theorem iY.get{γ:Γ}(h:iY Φ Ψ I ops a0 (Array.replicate ops.size true) a γ w)(k:Nat)(o:Oper)(d:Nat)(ho:ops[k]?=some o)(hd:o.dst=some d):∃v,a.tmps[d]?=some v/\Φ k v γ w:=
 h.val k o d ho hd (by simp[Array.getD,(bQ ho)])
theorem iY.did{γ:Γ}(h:iY Φ Ψ I ops a0 (Array.replicate ops.size true) a γ w)(k:Nat)(o:Oper)(ho:ops[k]?=some o)(hd:o.dst=none):Φ k undef γ w:=
 h.nod k o ho hd (by simp[Array.getD,(bQ ho)])
theorem iY.old{γ:Γ}(h:iY Φ Ψ I ops a0 listed a γ w)(d:Nat)(hd:qA ops d=true):a.tmps[d]?=a0.tmps[d]?:=
 h.ou d (fun k o ho=>Pf hd k o ho)
theorem iY.od{γ:Γ}(h:iY Φ Ψ I ops a0 listed a γ w)(d:Nat)(hd:qA ops d=true:=by kernel_rfl):a.tmps[d]?=a0.tmps[d]?:=h.old d hd
theorem iY.ol{γ:Γ}(h:iY Φ Ψ I ops a0 listed a γ w)(d:Nat){v:Option Value}(e:a0.tmps[d]?=v)(hd:qA ops d=true:=by kernel_rfl):a.tmps[d]?=v:=(h.old d hd).trans e
theorem d_(ho:ops[k]?=some o)(hd:o.dst=some d)(vD:∀f,F.fn f)(hr:F.round=none)
  (h:∀(a:Act)(γ:Γ)(w:World),GA Φ Ψ I md ops a0 o k a γ w->Region.wanted o (yielded ops a.tmps)=true/\∃v eZ w',(execOp a.eval o).run P w=.ok (.value v) w'/\G γ w eZ w'/\(∀j,j≠k->Ψ j γ->Ψ j eZ)/\Φ k v eZ w'):rh Φ Ψ I G F n P md ops Q a0 k:=by
 have an:=();exact qbi
theorem ow(ho:ops[k]?=some o)(vD:∀f,F.fn f)(hr:F.round=none)
  (h:∀(a:Act)(γ:Γ)(w:World),GA Φ Ψ I md ops a0 o k a γ w->Region.wanted o (yielded ops a.tmps)=true/\∃eZ w',(execOp a.eval o).run P w=.ok .skip w'/\G γ w eZ w'/\(∀j,j≠k->Ψ j γ->Ψ j eZ)/\Φ k undef eZ w'):rh Φ Ψ I G F n P md ops Q a0 k:=by
 have it:=();exact qbi
theorem GG(ho:ops[k]?=some o)(hd:o.dst=some d)(vD:∀f,F.fn f)(hr:F.round=none)(sM:F.depth=none)
  (h:∀(a:Act)(γ:Γ)(w:World),GA Φ Ψ I md ops a0 o k a γ w->Region.wanted o (yielded ops a.tmps)=true/\∃f args,(execOp a.eval o).run P w=.ok (.enter f args) w/\CallsIn F (n-1) P f args w fun e w'=>∃v,e=.returned v/\∃eZ,G γ w eZ w'/\(∀j,j≠k->Ψ j γ->Ψ j eZ)/\Φ k v eZ w'):rh Φ Ψ I G F n P md ops Q a0 k:=by
 have up:=();exact qbi
theorem Ph{t:Array Value}:∀(ds:List (Nat×Value))(t0:Array Value),t.size=t0.size->(∀p∈ds,t[p.1]?=some p.2)->(∀d,d∉ds.map (·.1)->t[d]?=t0[d]?)->t=ds.foldl (fun t p=>t.setIfInBounds p.1 p.2) t0
 |[],t0,hs,_,ho=>by
  simp only[List.foldl_nil];exact Array.ext_getElem? (fun i=>ho i (by simp))
 |p::ds,t0,hs,hi,ho=>by
  simp only[List.foldl_cons];refine Ph ds _ (by simpa using hs) (fun q hq=>hi q (fS _ hq)) (fun d hd=>?_)
  by_cases h:d=p.1
  ·subst h;rw[hi p fT];have:p.1<t0.size:=by rw[<-hs];exact(bQ (hi p fT))
   simp[this]
  ·rw[ho d (by simp only[cM,dc,not_or];exact⟨h,hd⟩)];simp[Ne.symm h]
theorem SY{ops:Array Oper}{l:List Nat}(h:ops.toList.filterMap (·.dst)=l)(hd:d∉l):qA ops d=true:=by
 refine List.all_eq_true.2 (fun o ho=>?_);simp only[bne_iff_ne,ne_eq];intro e;exact hd (h▸List.mem_filterMap.2 ⟨o,ho,e⟩)
theorem iY.act{γ:Γ}(h:iY Φ Ψ I ops a0 listed a γ w)(ds:List (Nat×Value))(hd:ops.toList.filterMap (·.dst)=ds.map (·.1))(hv:∀p∈ds,a.tmps[p.1]?=some p.2):a={tmps:=ds.foldl (fun t p=>t.setIfInBounds p.1 p.2) a0.tmps,defers:=a0.defers }:=by
 have h1:=Ph ds a0.tmps h.sz hv (fun d hn=>h.old d (SY hd hn));have h2:=h.df;obtain⟨t,df⟩:=a;simp only at h1 h2;rw[h1,h2]
end
end Go.Proofs.YtokemihbkeddoaaGreatDoor
namespace Go.Proofs.YtokemihbkeddoaaGreatDoor
open Go Go.RowKit Lib
set_option maxRecDepth 100000
set_option maxHeartbeats 0
variable{p cap c j m R B B' L g base lo:Nat}{W' A C X Y W1 w4 wr:World}{o:Obj}{ok ok':Nat->Prop}{x row a0 v0:Value}{q:Int->Bool}{f:FuncId}{tmps:Array Value}{assign body:Code}{st:Prop}{xs:List Value}{ps:Array Tmp}{e:TypeId}{Row:Value->World->Prop}
abbrev aj:=List UInt8
inductive Tm where
 |mk (v:Bool) (n:aj) (a:List Tm)
inductive Fm where
 |mk (op:Int) (n:aj) (a:List Tm) (s:List Fm)
def Tm.v:Tm->Bool|.mk v _ _=>v
def Tm.n:Tm->aj|.mk _ n _=>n
def Tm.a:Tm->List Tm|.mk _ _ a=>a
def Fm.op:Fm->Int|.mk o _ _ _=>o
def Fm.n:Fm->aj|.mk _ n _ _=>n
def Fm.a:Fm->List Tm|.mk _ _ a _=>a
def Fm.s:Fm->List Fm|.mk _ _ _ s=>s
theorem Tm.ind{p:Tm->Prop}(h:∀v n a,(∀t∈a,p t)->p (.mk v n a)):∀t,p t:=by
 intro t;exact Tm.rec (motive_1:=p) (motive_2:=fun l=>∀ t∈l,p t) (fun v n a ih=>h v n a ih) (fun t ht=>by cases ht) (fun t l h1 h2 u hu=>by
  rcases dc.1 hu with rfl|hu
  ·exact h1
  ·exact h2 u hu) t
theorem Fm.ind{p:Fm->Prop}(h:∀o n a s,(∀t∈s,p t)->p (.mk o n a s)):∀t,p t:=by
 intro t;exact Fm.rec (motive_1:=p) (motive_2:=fun l=>∀ t∈l,p t) (fun o n a s ih=>h o n a s ih) (fun t ht=>by cases ht) (fun t l h1 h2 u hu=>by
  rcases dc.1 hu with rfl|hu
  ·exact h1
  ·exact h2 u hu) t
mutual
def zS:Tm->Tm->Bool
 |.mk v n a,.mk v' n' a'=>(v==v'&&n==n')&&kx a a'
def kx:List Tm->List Tm->Bool
 |[],[]=>true
 |a::xs,b::ys=>zS a b&&kx xs ys
 |_,_=>false
end
mutual
def zT:Fm->Fm->Bool
 |.mk o n a s,.mk o' n' a' s'=>(o==o'&&n==n')&&(kx a a'&&qC s s')
def qC:List Fm->List Fm->Bool
 |[],[]=>true
 |a::xs,b::ys=>zT a b&&qC xs ys
 |_,_=>false
end
def Pi(c:UInt8):Bool:=97<=c&&c<=122
def Pj(c:UInt8):Bool:=65<=c&&c<=90
def GH(c:UInt8):Bool:=48<=c&&c<=57
def GI(c:UInt8):Bool:=Pi c||(Pj c||GH c)
def Ks:List aj:=[[97,108,108],[115,111,109,101],[102,97,108,115,101],[110,101,120,116],[97,108,119,97,121,115],[117,110,116,105,108]]
def qD(f o:UInt8->Bool):aj->Bool
 |[]=>false
 |c::r=>decide (r.length<16)&&(!Ks.contains (c::r)&&(f c&&r.all o))
def fQ(s:aj):Bool:=qD (fun c=>117<=c&&c<=122) GH s
def B4(s:aj):Bool:=qD (fun c=>97<=c&&c<=116) GI s
def AT(s:aj):Bool:=qD Pj GI s
def ej(s:aj):Bool:=decide (s.length<=16)&&(s.head?==some 63&&AT s.tail)
def dI(s:aj):Bool:=decide (s.length<=16)&&(s.head?==some 63&&B4 s.tail)
def eA(s:aj):Bool:=ej s||dI s
def cW(s:aj):Bool:=s.head?==some 63&&fQ s.tail
def cg(s:aj):aj:=63::s
def bj(s:aj):Tm:=.mk true s []
mutual
def ap:Tm->Nat|.mk _ _ a=>af a+1
def af:List Tm->Nat|[]=>0|t::l=>ap t+af l
end
mutual
def ag:Fm->Nat|.mk _ _ a s=>af a+ah s+1
def ah:List Fm->Nat|[]=>0|t::l=>ag t+ah l
end
mutual
def dm:Tm->Nat|.mk _ _ a=>bO a+1
def bO:List Tm->Nat|[]=>0|t::l=>max (dm t) (bO l)
end
mutual
def a_:Fm->Nat|.mk _ _ a s=>max (bO a) (bl s)+1
def bl:List Fm->Nat|[]=>0|t::l=>max (a_ t) (bl l)
end
mutual
def jA(sc:Bool):Tm->Bool
 |.mk v n a=>if v then a.isEmpty&&(fQ n||(sc&&dI n))else decide (a.length<=4)&&(B4 n&&eD sc a)
def eD(sc:Bool):List Tm->Bool|[]=>true|t::l=>jA sc t&&eD sc l
end
def eE(op:Int):Bool×Bool×Nat×Nat×Nat:=
 if op=1 then(true,true,1,4,0)else if op=2 then(true,true,0,0,0)
 else if op=8\/op=9 then(true,true,2,0,1)
 else if op=3\/(10<=op/\op<=13)then(true,true,0,0,1)
 else if(4<=op/\op<=7)\/op=14 then(true,true,0,0,2)
 else if op=15 then(false,true,3,0,0)else if op=16 then(false,true,3,2,0)else(false,false,0,0,0)
def rj(zeK:Nat)(s:aj):Bool:=match zeK with|1=>AT s|2=>fQ s|3=>ej s|_=>s.isEmpty
def xS:List Tm->Bool
 |[x,y]=>x.v&&(fQ x.n&&(y.v&&dI y.n))
 |_=>false
mutual
def gF(sc:Bool):Fm->Bool
 |.mk op n a s=>((eE op).1||(sc&&(eE op).2.1))&&((rj (eE op).2.2.1 n&&(decide (a.length<=(eE op).2.2.2.1)&&s.length==(eE op).2.2.2.2))&&((op !=16||xS a)&&(eD sc a&&dJ sc s)))
def dJ(sc:Bool):List Fm->Bool|[]=>true|t::l=>gF sc t&&dJ sc l
end
def bw(f:Fm):Bool:=gF false f&&(decide (ag f<=400)&&decide (a_ f<=40))
def eS(f:Fm):Bool:=gF true f&&(decide (ag f<=400)&&decide (a_ f<=40))
def br(op:Int):Bool:=op==8||op==9
mutual
def aL:Tm->List aj|.mk v n a=>if v then n::aF a else aF a
def aF:List Tm->List aj|[]=>[]|t::l=>aL t++aF l
end
mutual
def aP(b:List aj):Fm->List aj
 |.mk op n a s=>(aF a).filter (fun x=>!b.contains x)++bK (if br op then n::b else b) s
def bK(b:List aj):List Fm->List aj|[]=>[]|t::l=>aP b t++bK b l
end
def vZ(x:aj):List aj->List aj
 |[]=>[x]
 |y::l=>if x==y then y::l else if Op.bytesLess x y then x::y::l else y::vZ x l
def dX(l:List aj):List aj:=l.foldr vZ []
def zU:Nat->Nat->aj
 |0,_=>[]
 |k+1,n=>if n<10 then[UInt8.ofNat (48+n)]else zU k (n / 10)++[UInt8.ofNat (48+n % 10)]
def ig(n:Nat):aj:=120::zU 20 n
def ox(t:List aj):Nat->Nat->aj
 |0,n=>ig n
 |k+1,n=>if t.contains (ig n)then ox t k (n+1)else ig n
def dy(t:List aj):aj:=ox t t.length 1
mutual
def ep(f:aj->Option Tm):Tm->Tm
 |.mk v n a=>match(if v then f n else none)with|some u=>u|none=>.mk v n (lr f a)
def lr(f:aj->Option Tm):List Tm->List Tm|[]=>[]|t::l=>ep f t::lr f l
end
def nl(x:aj)(u:Tm)(t:Tm):Tm:=ep (fun n=>if n==x then some u else none) t
def fU(x:aj)(u:Tm)(l:List Tm):List Tm:=l.map (nl x u)
abbrev gO:=List (aj×aj)
def cm(c:gO)(x:aj):Option aj:=go c []
 where go:gO->List aj->Option aj
  |[],_=>some x
  |(s,a)::r,inn=>if a==x then(if inn.contains s then none else some (cg s))else go r (s::inn)
mutual
def iO(c:gO)(ins:List aj):Tm->Option Tm
 |.mk v n a=>if v then(if ins.contains n then some (bj n)else(cm c n).map bj)else(eY c ins a).map (Tm.mk false n)
def eY(c:gO)(ins:List aj):List Tm->Option (List Tm)
 |[]=>some []
 |t::l=>match iO c ins t,eY c ins l with|some u,some m=>some (u::m)|_,_=>none
end
mutual
def f9(c:gO)(ins:List aj):Fm->Option Fm
 |.mk op n a s=>match eY c ins a,gC c (if br op then n::ins else ins) s with|some a',some s'=>some (.mk op n a' s')|_,_=>none
def gC(c:gO)(ins:List aj):List Fm->Option (List Fm)
 |[]=>some []
 |t::l=>match f9 c ins t,gC c ins l with|some u,some m=>some (u::m)|_,_=>none
end
def mD:gO->aj->aj->Bool
 |[],x,y=>x==y
 |(s,a)::r,x,y=>if s==x||a==y then s==x&&a==y else mD r x y
mutual
def gP(c:gO):Tm->Tm->Bool
 |.mk v n a,.mk v' n' a'=>(v==v'&&a.length==a'.length)&&(if v&&c.any (fun p=>p.1==n||p.2==n')then mD c n n' else n==n'&&ct c a a')
def ct(c:gO):List Tm->List Tm->Bool
 |t::l,u::m=>gP c t u&&ct c l m
 |_,_=>true
end
mutual
def cI(c:gO):Fm->Fm->Bool
 |.mk op n a s,.mk op' n' a' s'=>(op==op'&&(a.length==a'.length&&s.length==s'.length))&&((n==n'||br op)&&(ct c a a'&&cX (if br op then(n,n')::c else c) s s'))
def cX(c:gO):List Fm->List Fm->Bool
 |t::l,u::m=>cI c t u&&cX c l m
 |_,_=>true
end
mutual
def xU(x:aj):Tm->Nat|.mk v n a=>(if v&&n==x then 1 else 0)+fV x a
def fV(x:aj):List Tm->Nat|[]=>0|t::l=>xU x t+fV x l
end
mutual
def fD(x:aj):Fm->Nat|.mk _ _ a s=>fV x a+jo x s
def jo(x:aj):List Fm->Nat|[]=>0|t::l=>fD x t+jo x l
end
mutual
def nR(x:aj):Tm->Option (List Nat)|.mk v n a=>if v&&n==x then some []else fh x a 0
def fh(x:aj):List Tm->Nat->Option (List Nat)
 |[],_=>none
 |t::l,i=>match nR x t with|some p=>some (i::p)|none=>fh x l (i+1)
end
mutual
def lN(x:aj):Fm->Option (List Nat×List Nat)
 |.mk _ _ a s=>match fh x a 0 with|some p=>some ([],p)|none=>mE x s 0
def mE(x:aj):List Fm->Nat->Option (List Nat×List Nat)
 |[],_=>none
 |t::l,i=>match lN x t with|some (p,q)=>some (i::p,q)|none=>mE x l (i+1)
end
def kP:List Tm->List Nat->Option Tm
 |_,[]=>none
 |l,[i]=>l[i]?
 |l,i::j::r=>match l[i]? with|some t=>kP t.a (j::r)|none=>none
def ls:Fm->List Nat->List aj->Option (Fm×List aj)
 |f,[],ins=>some (f,ins)
 |f,i::r,ins=>match f.s[i]? with|some g=>ls g r (if br f.op then f.n::ins else ins)|none=>none
def fG(f im:Fm)(x:aj):Option Tm:=match lN x f with
 |none=>none
 |some (p,q)=>match ls im p []with
  |none=>none
  |some (g,ins)=>match kP g.a q with
   |none=>none
   |some t=>if(aL t).any ins.contains then none else some t
def h_:Nat->aj->Tm->Fm->Fm
 |0,_,_,f=>f
 |k+1,x,u,.mk op n a s=>
  if br op then match s with
   |g::_=>if n==x|| !(aP [] g).contains x then .mk op n a s
    else if(aL u).contains n then
     .mk op (dy (aP [] g++aL u)) (fU x u a) [h_ k x u (h_ k n (bj (dy (aP [] g++aL u))) g)]
    else .mk op n (fU x u a) [h_ k x u g]
   |[]=>.mk op n a s
  else .mk op n (fU x u a) (s.map (h_ k x u))
def gQ(x:aj)(u:Tm)(f:Fm):Fm:=h_ (a_ f) x u f
mutual
def aU:Tm->Tm|.mk v n a=>.mk v (if v&&cW n then n.tail else n) (bW a)
def bW:List Tm->List Tm|[]=>[]|t::l=>aU t::bW l
end
mutual
def bI:Fm->Fm|.mk op n a s=>.mk op n (bW a) (cv s)
def cv:List Fm->List Fm|[]=>[]|t::l=>bI t::cv l
end
structure Bd where
 fs:List (aj×Fm)
 ts:List (aj×Tm)
def eq:List aj->Bool
 |x::y::l=>Op.bytesLess x y&&eq (y::l)
 |_=>true
def bF(b:Bd):Bool:=(b.fs.all (fun x=>ej x.1&&bw (bI x.2))&&b.ts.all (fun x=>dI x.1&&jA false (aU x.2)))&&(eq (b.fs.map (·.1))&&eq (b.ts.map (·.1)))
def bG{α:Type}(l:List (aj×α))(x:aj):Option α:=match l with|[]=>none|(y,v)::r=>if y==x then some v else bG r x
def iB{α:Type}(x:aj)(v:α):List (aj×α)->List (aj×α)
 |[]=>[(x,v)]
 |(y,u)::r=>if Op.bytesLess x y then(x,v)::(y,u)::r else(y,u)::iB x v r
mutual
def dY(sc:List aj)(k:List (aj×Tm)):Tm->Tm->Option (List (aj×Tm))
 |.mk v n a,.mk v' n' a'=>
  if v&&eA n then match bG k n with
   |none=>some (iB n (.mk v' n' a') k)
   |some u=>if zS u (.mk v' n' a')then some k else none
  else if v&&sc.contains n then(if zS (.mk v' n' a') (bj (cg n))then some k else none)
  else if v !=v'||(n !=n'||a.length !=a'.length)then none
  else cY sc k a a'
def cY(sc:List aj)(k:List (aj×Tm)):List Tm->List Tm->Option (List (aj×Tm))
 |t::l,u::m=>match dY sc k t u with|some k'=>cY sc k' l m|none=>none
 |_,_=>some k
end
def dB(c:gO)(k:List (aj×Tm)):List Tm->List Tm->Option (List (aj×Tm))
 |t::l,u::m=>match iO c [] u with
  |none=>none
  |some im=>match dY (c.map (·.1)) k t im with|some k'=>dB c k' l m|none=>none
 |_,_=>some k
structure Pl where
 s:Fm
 f:Fm
 c:gO
mutual
def bC(c:gO):Fm->Fm->List Pl
 |.mk o n a s,.mk o' n' a' s'=>⟨.mk o n a s,.mk o' n' a' s',c⟩::ba (if br o then(n,n')::c else c) s s'
def ba(c:gO):List Fm->List Fm->List Pl
 |t::l,u::m=>bC c t u++ba c l m
 |_,_=>[]
end
def bc(k:Bd)(p:Pl):Bd×Int:=
 if p.s.op=16 then(k,0)
 else if p.s.op=15 then match f9 p.c [] p.f with
  |none=>(k,70)
  |some im=>match bG k.fs p.s.n with
   |none=>({k with fs:=iB p.s.n im k.fs },0)
   |some g=>if cI [] g im then(k,0)else(k,70)
 else if p.s.op !=p.f.op||(p.s.a.length !=p.f.a.length||(p.s.s.length !=p.f.s.length||(p.s.n !=p.f.n&& !br p.s.op)))then(k,70)
 else match dB p.c k.ts p.s.a p.f.a with
  |none=>(k,70)
  |some ts=>({k with ts:=ts },0)
def bx(f:Fm):aj×aj:=match f.a with|x::y::_=>(cg x.n,y.n)|_=>([],[])
def dE(k:Bd)(p:Pl):Bd×Int:=
 if p.s.op !=16 then(k,0)
 else match bG k.fs p.s.n with
  |none=>(k,71)
  |some f=>match f9 p.c [] p.f with
   |none=>(k,70)
   |some im=>
    if fD (bx p.s).1 f=0 then(if cI [] f im then(k,0)else(k,70))
    else match(match bG k.ts (bx p.s).2 with|some t=>some (t,k.ts)|none=>(fG f im (bx p.s).1).map fun t=>(t,iB (bx p.s).2 t k.ts))with
     |none=>(k,70)
     |some (t,ts)=>if ag f+fD (bx p.s).1 f*(ap t-1)!=ag im then({k with ts:=ts },70)
      else if cI [] (gQ (bx p.s).1 t f) im then({k with ts:=ts },0)else({k with ts:=ts },70)
def ek(step:Bd->Pl->Bd×Int):Bd->List Pl->Bd×Int
 |k,[]=>(k,0)
 |k,p::l=>match step k p with|(k',e)=>if e=0 then ek step k' l else(k',e)
def dt(step:Bd->Pl->Bd×Int):Nat->Bd->List (Fm×Fm)->Bd×Nat×Int
 |_,k,[]=>(k,0,0)
 |i,k,(s,f)::l=>match ek step k (bC [] s f)with|(k',e)=>if e=0 then dt step (i+1) k' l else(k',i,e)
def eT:Nat->List (Fm×Fm)->Option Nat
 |_,[]=>none
 |i,(s,f)::l=>if eS s&&bw f then eT (i+1) l else some i
def bm(l:List (Fm×Fm))(b:Bd):Bd×Nat×Int:=
 if !bF b then(⟨[],[]⟩,0,2)
 else match eT 0 l with
  |some i=>(⟨[],[]⟩,i,2)
  |none=>match dt bc 0 b l with
   |(k,i,e)=>if e≠0 then(⟨[],[]⟩,i,e)else match dt dE 0 k l with
    |(k',i',e')=>if e'≠0 then(⟨[],[]⟩,i',e')else(k',0,0)
mutual
def lm(k:List (aj×Tm)):Tm->Bool
 |.mk v n a=>if v&&eA n then(bG k n).isNone else pG k a
def pG(k:List (aj×Tm)):List Tm->Bool|[]=>false|t::l=>lm k t||pG k l
end
def kz(k:Bd)(s:Fm):Bool:=
 if s.op !=15&&s.op !=16 then pG k.ts s.a
 else match bG k.fs s.n with
  |none=>true
  |some f=>if s.op=15 then false else(bG k.ts (bx s).2).isNone&&decide (fD (bx s).1 f>0)
def b8(k:List (aj×Tm))(n:aj):Tm:=match bG k n with|some t=>t|none=>.mk false [] []
def cZ(k:List (aj×Fm))(n:aj):Fm:=match bG k n with|some t=>t|none=>.mk 0 [] [] []
mutual
def mG(k:List (aj×Tm)):Tm->List aj
 |.mk v n a=>if v&&eA n then(dX (aL (b8 k n))).filter cW else eH k a
def eH(k:List (aj×Tm)):List Tm->List aj|[]=>[]|t::l=>mG k t++eH k l
end
def tg(k:Bd)(s:Fm):List aj:=
 if s.op=15 then(dX (aP [] (cZ k.fs s.n))).filter cW
 else if s.op=16 then
  let l:=(dX (aP [] (cZ k.fs s.n))).filter cW
  if !l.contains (bx s).1 then l else l.filter (fun x=>x !=(bx s).1)++(dX (aL (b8 k.ts (bx s).2))).filter cW
 else eH k.ts s.a
def GJ(k:Bd)(p:Pl):Bool:=(tg k p.s).any fun x=>!(p.c.map (·.1)).contains x.tail
mutual
def th(k:List (aj×Tm)):Tm->Nat
 |.mk v n a=>if v&&eA n then ap (b8 k n)else fj k a+1
def fj(k:List (aj×Tm)):List Tm->Nat|[]=>0|t::l=>th k t+fj k l
end
def nS(k:Bd)(s:Fm):Nat:=
 if s.op=15 then ag (cZ k.fs s.n)
 else if s.op=16 then ag (cZ k.fs s.n)+fD (bx s).1 (cZ k.fs s.n)*(ap (b8 k.ts (bx s).2)-1)
 else fj k.ts s.a+1
def ti(k:Bd)(s:Fm):Int:=
 if(bC [] s s).any (fun p=>kz k p.s)then 6
 else if(bC [] s s).any (GJ k)then 72
 else if((bC [] s s).map fun p=>nS k p.s).sum>400 then 3 else 0
mutual
def dK(k:List (aj×Tm))(c:List aj):Tm->Tm
 |.mk v n a=>if v&&eA n then b8 k n else if v&&c.contains n then bj (cg n)else .mk v n (iC k c a)
def iC(k:List (aj×Tm))(c:List aj):List Tm->List Tm|[]=>[]|t::l=>dK k c t::iC k c l
end
def rk(op:Int)(n:aj)(a:List Tm)(g:Fm):Fm:=
 let m:=if(aP [] g).contains n then dy (aP [] g)else n
 .mk op m a [gQ (cg n) (bj m) g]
mutual
def dF(k:Bd)(c:List aj):Fm->Fm
 |.mk op n a s=>
  if op=15 then cZ k.fs n
  else if op=16 then (match a with
   |x::y::_=>if fD (cg x.n) (cZ k.fs n)=0 then cZ k.fs n else gQ (cg x.n) (b8 k.ts y.n) (cZ k.fs n)
   |_=>.mk op n a s)
  else if br op then(match iD k (n::c) s with|g::_=>rk op n (iC k.ts c a) g|[]=>.mk op n a s)
  else .mk op n (iC k.ts c a) (iD k c s)
def iD(k:Bd)(c:List aj):List Fm->List Fm|[]=>[]|t::l=>dF k c t::iD k c l
end
def oN:Fm:=.mk 0 [] [] []
def AU(s:Fm)(b:Bd):Fm×Int:=
 if !(eS s&&bF b)then(oN,2)
 else if ti b s≠0 then(oN,ti b s)
 else if !bw (dF b [] s)then(oN,3)else(dF b [] s,0)
def pV(W:World)(b o:Nat)(v:Value):Prop:=∃x0 x1 x2,v=.agg #[x0,x1,x2]/\W.cell? ⟨b,o,none⟩=some x0/\W.cell? ⟨b,o+1,none⟩=some x1/\W.cell? ⟨b,o+2,none⟩=some x2
def pW(W:World)(b o:Nat)(v:Value):Prop:=∃x0 x1 x2 x3,v=.agg #[x0,x1,x2,x3]/\W.cell? ⟨b,o,none⟩=some x0/\W.cell? ⟨b,o+1,none⟩=some x1/\W.cell? ⟨b,o+2,none⟩=some x2/\W.cell? ⟨b,o+3,none⟩=some x3
theorem pV.kept{W:World}{b o:Nat}{v:Value}(h:pV W b o v)(hb:W'.heap[b]?=W.heap[b]?):pV W' b o v:=by
 obtain⟨x0,x1,x2,rfl,h0,h1,h2⟩:=h;exact⟨x0,x1,x2,rfl,(World.cell?_of_block (a:=⟨b,o,none⟩) hb).trans h0,(World.cell?_of_block (a:=⟨b,o+1,none⟩) hb).trans h1,(World.cell?_of_block (a:=⟨b,o+2,none⟩) hb).trans h2⟩
theorem pW.kept{W:World}{b o:Nat}{v:Value}(h:pW W b o v)(hb:W'.heap[b]?=W.heap[b]?):pW W' b o v:=by
 obtain⟨x0,x1,x2,x3,rfl,h0,h1,h2,h3⟩:=h;exact⟨x0,x1,x2,x3,rfl,(World.cell?_of_block (a:=⟨b,o,none⟩) hb).trans h0,(World.cell?_of_block (a:=⟨b,o+1,none⟩) hb).trans h1,(World.cell?_of_block (a:=⟨b,o+2,none⟩) hb).trans h2,(World.cell?_of_block (a:=⟨b,o+3,none⟩) hb).trans h3⟩
inductive aN(ok:Nat->Prop)(W:World):Value->Tm->Prop
 |mk (v:Bool) (n:aj) (al:List Tm) (a:Option Addr) (cap:Nat) (vs:Nat->Value)
   (hs:al=[]\/∃b off,a=some ⟨b,off,none⟩/\ok b/\∀j,j<al.length->pV W b (off+j*3) (vs j))
   (h:∀j (hj:j<al.length),aN ok W (vs j) al[j]):aN ok W (.agg #[.bool v,.string ⟨n.toArray⟩,.slice a al.length cap]) (.mk v n al)
def cB(ok:Nat->Prop)(W:World)(v:Value)(l:List Tm):Prop:=∃(a:Option Addr)(cap:Nat)(vs:Nat->Value),v=.slice a l.length cap/\(l=[]\/∃b off,a=some ⟨b,off,none⟩/\ok b/\∀j,j<l.length->pV W b (off+j*3) (vs j))/\∀j (hj:j<l.length),aN ok W (vs j) l[j]
theorem aW{W:World}{v:Bool}{n:aj}{al:List Tm}:aN ok W x (.mk v n al)↔∃s,x=.agg #[.bool v,.string ⟨n.toArray⟩,s]/\cB ok W s al:=by
 constructor
 ·intro h
  cases h with
  |mk _ _ _ a cap vs hs h=>exact⟨_,rfl,a,cap,vs,rfl,hs,h⟩
 ·rintro⟨s,rfl,a,cap,vs,rfl,hs,h⟩;exact .mk v n al a cap vs hs h
inductive aC(ok:Nat->Prop)(W:World):Value->Fm->Prop
 |mk (op:Int) (n:aj) (al:List Tm) (ss:List Fm) (va:Value) (a:Option Addr) (cap:Nat) (vs:Nat->Value) (ha:cB ok W va al)
   (hs:ss=[]\/∃b off,a=some ⟨b,off,none⟩/\ok b/\∀j,j<ss.length->pW W b (off+j*4) (vs j))
   (h:∀j (hj:j<ss.length),aC ok W (vs j) ss[j]):aC ok W (.agg #[.int .u8 op,.string ⟨n.toArray⟩,va,.slice a ss.length cap]) (.mk op n al ss)
def eL(ok:Nat->Prop)(W:World)(v:Value)(l:List Fm):Prop:=∃(a:Option Addr)(cap:Nat)(vs:Nat->Value),v=.slice a l.length cap/\(l=[]\/∃b off,a=some ⟨b,off,none⟩/\ok b/\∀j,j<l.length->pW W b (off+j*4) (vs j))/\∀j (hj:j<l.length),aC ok W (vs j) l[j]
theorem aX{W:World}{op:Int}{n:aj}{al:List Tm}{ss:List Fm}:aC ok W x (.mk op n al ss)↔∃va s,x=.agg #[.int .u8 op,.string ⟨n.toArray⟩,va,s]/\cB ok W va al/\eL ok W s ss:=by
 constructor
 ·intro h
  cases h with
  |mk _ _ _ _ va a cap vs ha hs h=>exact⟨va,_,rfl,ha,a,cap,vs,rfl,hs,h⟩
 ·rintro⟨va,s,rfl,ha,a,cap,vs,rfl,hs,h⟩;exact .mk op n al ss va a cap vs ha hs h
def iN(ok ok':Nat->Prop)(W W':World):Prop:=∀b,ok b->b<W.heap.size->ok' b/\W'.heap[b]?=W.heap[b]?
theorem GK{W:World}{b o:Nat}{v:Value}(h:pV W b o v):b<W.heap.size:=by
 obtain⟨_,_,_,_,h0,_⟩:=h;exact World.block_lt_of_cell? W _ h0
theorem GL{W:World}{b o:Nat}{v:Value}(h:pW W b o v):b<W.heap.size:=by
 obtain⟨_,_,_,_,_,h0,_⟩:=h;exact World.block_lt_of_cell? W _ h0
theorem aN.move{W:World}(hb:iN ok ok' W W'){v:Value}{t:Tm}(h:aN ok W v t):aN ok' W' v t:=by
 induction h with
 |mk v n al a cap vs hs _ ih=>
  refine .mk v n al a cap vs ?_ ih;have an:=();exact qaC
theorem cB.move{W:World}(hb:iN ok ok' W W'){v:Value}{l:List Tm}(h:cB ok W v l):cB ok' W' v l:=by
 have it:=();exact qef
theorem aC.move{W:World}(hb:iN ok ok' W W'){v:Value}{t:Fm}(h:aC ok W v t):aC ok' W' v t:=by
 induction h with
 |mk op n al ss va a cap vs ha hs _ ih=>
  refine .mk op n al ss va a cap vs (ha.move hb) ?_ ih;have up:=();exact qaC
theorem eL.move{W:World}(hb:iN ok ok' W W'){v:Value}{l:List Fm}(h:eL ok W v l):eL ok' W' v l:=by
 exact qef
theorem dT{W:World}(hb:Below W.heap.size W W'):iN ok ok W W':=fun b h hlt=>⟨h,hb.block b hlt⟩
theorem zV{W:World}(hb:Below W.heap.size W W'):iN ok (fun _=>True) W W':=fun b _ hlt=>⟨trivial,hb.block b hlt⟩
theorem aN.later{W:World}{v:Value}{t:Tm}(h:aN ok W v t)(hb:Below W.heap.size W W'):aN ok W' v t:=h.move (dT hb)
theorem cB.later{W:World}{v:Value}{t:List Tm}(h:cB ok W v t)(hb:Below W.heap.size W W'):cB ok W' v t:=h.move (dT hb)
theorem aC.later{W:World}{v:Value}{t:Fm}(h:aC ok W v t)(hb:Below W.heap.size W W'):aC ok W' v t:=h.move (dT hb)
theorem eL.later{W:World}{v:Value}{t:List Fm}(h:eL ok W v t)(hb:Below W.heap.size W W'):eL ok W' v t:=h.move (dT hb)
theorem aN.any{W:World}{v:Value}{t:Tm}(h:aN ok W v t):aN (fun _=>True) W v t:=h.move (fun _ _ _=>⟨trivial,rfl⟩)
theorem aC.any{W:World}{v:Value}{t:Fm}(h:aC ok W v t):aC (fun _=>True) W v t:=h.move (fun _ _ _=>⟨trivial,rfl⟩)
theorem cE{W:World}{a:Option Addr}:cB ok W (.slice a 0 cap) []:=⟨a,cap,fun _=>.bool false,rfl,.inl rfl,fun j hj=>by simp at hj⟩
theorem iE{W:World}{a:Option Addr}:eL ok W (.slice a 0 cap) []:=⟨a,cap,fun _=>.bool false,rfl,.inl rfl,fun j hj=>by simp at hj⟩
structure TQ where
 v:Bool
 n:ByteArray
 a:Option Addr
 l:Nat
 c:Nat
def TQ.val(q:TQ):Value:=.agg #[.bool q.v,.string q.n,.slice q.a q.l q.c]
structure FQ where
 o:Int
 n:ByteArray
 a:Option Addr
 l:Nat
 c:Nat
 b:Option Addr
 m:Nat
 e:Nat
def FQ.val(q:FQ):Value:=.agg #[.int .u8 q.o,.string q.n,.slice q.a q.l q.c,.slice q.b q.m q.e]
theorem aN.form{W:World}{t:Tm}(h:aN ok W x t):∃q:TQ,x=q.val/\q.v=t.v/\q.n=⟨t.n.toArray⟩/\q.l=t.a.length/\cB ok W (.slice q.a q.l q.c) t.a:=by
 cases h with
 |mk v n al a cap vs hs h=>exact⟨⟨v,_,a,al.length,cap⟩,rfl,rfl,rfl,rfl,a,cap,vs,rfl,hs,h⟩
theorem aC.form{W:World}{t:Fm}(h:aC ok W x t):∃q:FQ,x=q.val/\q.o=t.op/\q.n=⟨t.n.toArray⟩/\q.l=t.a.length/\q.m=t.s.length/\cB ok W (.slice q.a q.l q.c) t.a/\eL ok W (.slice q.b q.m q.e) t.s:=by
 cases h with
 |mk op n al ss va a cap vs ha hs h=>
  obtain⟨a',cap',vs',rfl,hs',h'⟩:=ha;exact⟨⟨op,_,a',al.length,cap',a,ss.length,cap⟩,rfl,rfl,rfl,rfl,rfl,⟨a',cap',vs',rfl,hs',h'⟩,a,cap,vs,rfl,hs,h⟩
theorem cB.get{W:World}{a:Option Addr}{n:Nat}{l:List Tm}(h:cB ok W (.slice a n c) l)(hj:j<l.length):
  ∃b off q,a=some ⟨b,off,none⟩/\ok b/\aN ok W (TQ.val q) l[j]/\W.cell? ⟨b,off+j*3,none⟩=some (.bool q.v)/\W.cell? ⟨b,off+j*3+1,none⟩=some (.string q.n)/\W.cell? ⟨b,off+j*3+2,none⟩=some (.slice q.a q.l q.c):=by
 obtain⟨a',cap,vs,hv,hs,ht⟩:=h;have an:=();exact qbj
theorem eL.get{W:World}{a:Option Addr}{n:Nat}{l:List Fm}(h:eL ok W (.slice a n c) l)(hj:j<l.length):
  ∃b off q,a=some ⟨b,off,none⟩/\ok b/\aC ok W (FQ.val q) l[j]/\W.cell? ⟨b,off+j*4,none⟩=some (.int .u8 q.o)/\W.cell? ⟨b,off+j*4+1,none⟩=some (.string q.n)/\W.cell? ⟨b,off+j*4+2,none⟩=some (.slice q.a q.l q.c)/\W.cell? ⟨b,off+j*4+3,none⟩=some (.slice q.b q.m q.e):=by
 obtain⟨a',cap,vs,hv,hs,ht⟩:=h;have it:=();exact qbj
theorem cB.len{W:World}{a:Option Addr}{n:Nat}{l:List Tm}(h:cB ok W (.slice a n c) l):n=l.length:=by
 exact qbk
theorem eL.len{W:World}{a:Option Addr}{n:Nat}{l:List Fm}(h:eL ok W (.slice a n c) l):n=l.length:=by
 exact qbk
def cP(l:List (Fm×Fm)):List Fm:=l.flatMap fun x=>[x.1,x.2]
def et(ok:Nat->Prop)(W:World)(v:Value)(l:List (aj×Fm)):Prop:=∃(a:Option Addr)(cap:Nat)(qs:Nat->FQ),v=.slice a l.length cap/\l.length<=cap∧
 (l=[]\/∃b off,a=some ⟨b,off,none⟩/\ok b/\∀j (h:j<l.length),W.cell? ⟨b,off+j*5,none⟩=some (.string ⟨l[j].1.toArray⟩)/\W.cell? ⟨b,off+j*5+1,none⟩=some (.int .u8 (qs j).o)/\W.cell? ⟨b,off+j*5+2,none⟩=some (.string (qs j).n)/\W.cell? ⟨b,off+j*5+3,none⟩=some (.slice (qs j).a (qs j).l (qs j).c)/\W.cell? ⟨b,off+j*5+4,none⟩=some (.slice (qs j).b (qs j).m (qs j).e))∧
 ∀j (h:j<l.length),aC ok W (qs j).val l[j].2
def eI(ok:Nat->Prop)(W:World)(v:Value)(l:List (aj×Tm)):Prop:=∃(a:Option Addr)(cap:Nat)(qs:Nat->TQ),v=.slice a l.length cap/\l.length<=cap∧
 (l=[]\/∃b off,a=some ⟨b,off,none⟩/\ok b/\∀j (h:j<l.length),W.cell? ⟨b,off+j*4,none⟩=some (.string ⟨l[j].1.toArray⟩)/\W.cell? ⟨b,off+j*4+1,none⟩=some (.bool (qs j).v)/\W.cell? ⟨b,off+j*4+2,none⟩=some (.string (qs j).n)/\W.cell? ⟨b,off+j*4+3,none⟩=some (.slice (qs j).a (qs j).l (qs j).c))∧
 ∀j (h:j<l.length),aN ok W (qs j).val l[j].2
def dZ(ok:Nat->Prop)(W:World)(v:Value)(l:List (Fm×Fm)):Prop:=∃(a:Option Addr)(cap:Nat)(ps qs:Nat->FQ),v=.slice a l.length cap/\l.length<=cap∧
 (l=[]\/∃b off,a=some ⟨b,off,none⟩/\ok b/\∀ j (h:j<l.length),W.cell? ⟨b,off+j * 8,none⟩=some (.int .u8 (ps j).o)/\W.cell? ⟨b,off+j * 8+1,none⟩=some (.string (ps j).n)/\W.cell? ⟨b,off+j * 8+2,none⟩=some (.slice (ps j).a (ps j).l (ps j).c)/\W.cell? ⟨b,off+j * 8+3,none⟩=some (.slice (ps j).b (ps j).m (ps j).e) ∧
   W.cell? ⟨b,off+j*8+4,none⟩=some (.int .u8 (qs j).o)/\W.cell? ⟨b,off+j*8+5,none⟩=some (.string (qs j).n)/\W.cell? ⟨b,off+j*8+6,none⟩=some (.slice (qs j).a (qs j).l (qs j).c)/\W.cell? ⟨b,off+j*8+7,none⟩=some (.slice (qs j).b (qs j).m (qs j).e))∧
 ∀j (h:j<l.length),aC ok W (ps j).val l[j].1/\aC ok W (qs j).val l[j].2
structure BQ where
 a:Option Addr
 l:Nat
 c:Nat
 b:Option Addr
 m:Nat
 e:Nat
def BQ.val(q:BQ):Value:=.agg #[.slice q.a q.l q.c,.slice q.b q.m q.e]
def fH(ok:Nat->Prop)(W:World)(q:BQ)(b:Bd):Prop:=et ok W (.slice q.a q.l q.c) b.fs/\eI ok W (.slice q.b q.m q.e) b.ts
theorem du{W:World}{b o:Nat}{v:Value}(hb:W'.heap[b]?=W.heap[b]?)(h:W.cell? ⟨b,o,none⟩=some v):W'.cell? ⟨b,o,none⟩=some v:=(World.cell?_of_block (a:=⟨b,o,none⟩) hb).trans h
theorem et.move{W:World}(hb:iN ok ok' W W'){v:Value}{l:List (aj×Fm)}(h:et ok W v l):et ok' W' v l:=by
 have qlJ:=();exact qeg
theorem eI.move{W:World}(hb:iN ok ok' W W'){v:Value}{l:List (aj×Tm)}(h:eI ok W v l):eI ok' W' v l:=by
 exact qeg
theorem dZ.move{W:World}(hb:iN ok ok' W W'){v:Value}{l:List (Fm×Fm)}(h:dZ ok W v l):dZ ok' W' v l:=by
 obtain⟨a,cap,ps,qs,hv,hc,hs,hf⟩:=h;refine⟨a,cap,ps,qs,hv,hc,?_,fun j hj=>⟨(hf j hj).1.move hb,(hf j hj).2.move hb⟩⟩;have an:=();exact qb9
theorem fH.move{W:World}(hb:iN ok ok' W W'){q:BQ}{b:Bd}(h:fH ok W q b):fH ok' W' q b:=⟨h.1.move hb,h.2.move hb⟩
theorem et.later{W:World}{v:Value}{l:List (aj×Fm)}(h:et ok W v l)(hb:Below W.heap.size W W'):et ok W' v l:=h.move (dT hb)
theorem eI.later{W:World}{v:Value}{l:List (aj×Tm)}(h:eI ok W v l)(hb:Below W.heap.size W W'):eI ok W' v l:=h.move (dT hb)
theorem dZ.later{W:World}{v:Value}{l:List (Fm×Fm)}(h:dZ ok W v l)(hb:Below W.heap.size W W'):dZ ok W' v l:=h.move (dT hb)
theorem fH.later{W:World}{q:BQ}{b:Bd}(h:fH ok W q b)(hb:Below W.heap.size W W'):fH ok W' q b:=h.move (dT hb)
theorem et.len{W:World}{a:Option Addr}{n:Nat}{l:List (aj×Fm)}(h:et ok W (.slice a n c) l):n=l.length:=by
 exact qbk
theorem eI.len{W:World}{a:Option Addr}{n:Nat}{l:List (aj×Tm)}(h:eI ok W (.slice a n c) l):n=l.length:=by
 exact qbk
theorem et.slice{W:World}{v:Value}{l:List (aj×Fm)}(h:et ok W v l):∃a c,v=.slice a l.length c:=by obtain⟨a,c,_,hv,_⟩:=h;exact⟨a,c,hv⟩
theorem eI.slice{W:World}{v:Value}{l:List (aj×Tm)}(h:eI ok W v l):∃a c,v=.slice a l.length c:=by obtain⟨a,c,_,hv,_⟩:=h;exact⟨a,c,hv⟩
theorem dZ.slice{W:World}{v:Value}{l:List (Fm×Fm)}(h:dZ ok W v l):∃a c,v=.slice a l.length c:=by obtain⟨a,c,_,_,hv,_⟩:=h;exact⟨a,c,hv⟩
theorem et.get{W:World}{a:Option Addr}{n:Nat}{l:List (aj×Fm)}(h:et ok W (.slice a n c) l)(hj:j<l.length):
  ∃b off,∃q:FQ,a=some ⟨b,off,none⟩/\ok b/\aC ok W q.val l[j].2/\W.cell? ⟨b,off+j*5,none⟩=some (.string ⟨l[j].1.toArray⟩)/\W.cell? ⟨b,off+j*5+1,none⟩=some (.int .u8 q.o)/\W.cell? ⟨b,off+j*5+2,none⟩=some (.string q.n)/\W.cell? ⟨b,off+j*5+3,none⟩=some (.slice q.a q.l q.c)/\W.cell? ⟨b,off+j*5+4,none⟩=some (.slice q.b q.m q.e):=by
 exact qeh
theorem eI.get{W:World}{a:Option Addr}{n:Nat}{l:List (aj×Tm)}(h:eI ok W (.slice a n c) l)(hj:j<l.length):
  ∃b off,∃q:TQ,a=some ⟨b,off,none⟩/\ok b/\aN ok W q.val l[j].2/\W.cell? ⟨b,off+j*4,none⟩=some (.string ⟨l[j].1.toArray⟩)/\W.cell? ⟨b,off+j*4+1,none⟩=some (.bool q.v)/\W.cell? ⟨b,off+j*4+2,none⟩=some (.string q.n)/\W.cell? ⟨b,off+j*4+3,none⟩=some (.slice q.a q.l q.c):=by
 exact qeh
theorem dZ.get{W:World}{a:Option Addr}{n:Nat}{l:List (Fm×Fm)}(h:dZ ok W (.slice a n c) l)(hj:j<l.length):
  ∃b off,∃p q:FQ,a=some ⟨b,off,none⟩/\ok b/\aC ok W p.val l[j].1/\aC ok W q.val l[j].2/\W.cell? ⟨b,off+j*8,none⟩=some (.int .u8 p.o)/\W.cell? ⟨b,off+j*8+1,none⟩=some (.string p.n)/\W.cell? ⟨b,off+j*8+2,none⟩=some (.slice p.a p.l p.c)/\W.cell? ⟨b,off+j*8+3,none⟩=some (.slice p.b p.m p.e)∧
   W.cell? ⟨b,off+j*8+4,none⟩=some (.int .u8 q.o)/\W.cell? ⟨b,off+j*8+5,none⟩=some (.string q.n)/\W.cell? ⟨b,off+j*8+6,none⟩=some (.slice q.a q.l q.c)/\W.cell? ⟨b,off+j*8+7,none⟩=some (.slice q.b q.m q.e):=by
 obtain⟨a',cap,ps,qs,hv,_,hs,hf⟩:=h;exact qbj
theorem Iz{F:Fence}(hd:F.depth=none)(k:Nat):F.room k:=fun d h=>by rw[hd]at h;cases h
theorem Kt{F:Fence}(hd:F.depth=none){m':Nat}{P:Program}{l:Nat}{w:World}{R:Ending->World->Prop}
  (h:RoundIn F m P l f tmps assign body w R):RoundIn F m' P l f tmps assign body w R:=⟨h.1,fun c cs _=>h.2 c cs (Iz hd _)⟩
theorem lu(m':Nat){P:Program}{l:Nat}{args:Array Value}{W:World}{R:Ending->World->Prop}(h:YieldAt Fence.wide m P l args W R):YieldAt Fence.wide m' P l args W R:=by
 obtain⟨fn,tmps,assign,body,hy,hR⟩:=h;exact⟨fn,tmps,assign,body,hy,Kt rfl hR⟩
structure Kp(M:Nat->Prop)(X Y:World):Prop where
 os:Y.os=X.os
 tape:Y.tape=X.tape
 output:Y.output=X.output
 size:X.heap.size<=Y.heap.size
 same:∀b,b<X.heap.size->¬M b->Y.heap[b]?=X.heap[b]?
structure jB(M:Nat->Prop)(B:Nat)(X Y:World):Prop where
 size:X.heap.size<=Y.heap.size
 same:∀b,B<=b->b<X.heap.size->¬M b->Y.heap[b]?=X.heap[b]?
variable{M:Nat->Prop}
theorem Kp.refl(W:World):Kp M W W:=⟨rfl,rfl,rfl,aK _,fun _ _ _=>rfl⟩
theorem Kp.trans{B:World}(h:Kp M A B)(k:Kp M B C):Kp M A C:=
 ⟨k.os.trans h.os,k.tape.trans h.tape,k.output.trans h.output,aR h.size k.size,fun b hb hm=>(k.same b (bP hb h.size) hm).trans (h.same b hb hm)⟩
theorem Kp.mono{M':Nat->Prop}{B:World}(h:Kp M A B)(hM:∀b,b<A.heap.size->M b->M' b):Kp M' A B:=⟨h.os,h.tape,h.output,h.size,fun b hb hm=>h.same b hb (fun h'=>hm (hM b hb h'))⟩
theorem Kp.from{B:World}(h:Kp M A B)(n:Nat):jB M n A B:=⟨h.size,fun b _ hb hm=>h.same b hb hm⟩
theorem jB.trans{n:Nat}{B:World}(h:jB M n A B)(k:jB M n B C):jB M n A C:=
 ⟨aR h.size k.size,fun b hn hb hm=>(k.same b hn (bP hb h.size) hm).trans (h.same b hn hb hm)⟩
theorem Kp.below{B:World}(h:Below A.heap.size A B):Kp M A B:=⟨h.os,h.tape,h.output,h.size,fun b hb _=>h.block b hb⟩
theorem Kp.empty{B:World}(h:Kp (fun _=>False) A B):Below A.heap.size A B:=⟨h.os,h.tape,h.output,h.size,fun b hb=>h.same b hb id⟩
theorem Kp.cell{B:World}(h:Kp M A B){a:Addr}{v:Value}(hm:¬M a.block)(hc:A.cell? a=some v):B.cell? a=some v:=
 (World.cell?_of_block (h.same a.block (World.block_lt_of_cell? A a hc) hm)).trans hc
theorem Kp.grown{B:World}{r:Nat}(h:A.grownBy B (some r))(hr:M r):Kp M A B:=⟨h.os,h.tape,h.output,h.size,fun b hb hm=>h.block b hb (fun e=>hm (by cases e;exact hr))⟩
structure Nw(B:Nat)(X Y:World):Prop where
 os:Y.os=X.os
 tape:Y.tape=X.tape
 output:Y.output=X.output
 size:X.heap.size<=Y.heap.size
 same:∀b,b<X.heap.size->Y.heap[b]?=X.heap[b]?\/(B<=b/\(∃o:Obj,X.heap[b]?=some o/\o.isCells=false)/\∃o:Obj,Y.heap[b]?=some o/\o.isCells=false)
theorem Nw.refl(B:Nat)(X:World):Nw B X X:=⟨rfl,rfl,rfl,aK _,fun _ _=>.inl rfl⟩
theorem Nw.trans{Z:World}(h:Nw B X Y)(k:Nw B Y Z):Nw B X Z:=
 ⟨k.os.trans h.os,k.tape.trans h.tape,k.output.trans h.output,aR h.size k.size,fun b hb=>by
  rcases h.same b hb with h1|⟨h1,h2,h3⟩
  ·rcases k.same b (bP hb h.size)with k1|⟨k1,k2,k3⟩
   ·exact .inl (k1.trans h1)
   ·exact .inr ⟨k1,by rw[<-h1];exact k2,k3⟩
  ·rcases k.same b (bP hb h.size)with k1|⟨k1,k2,k3⟩
   ·exact .inr ⟨h1,h2,by rw[k1];exact h3⟩
   ·exact .inr ⟨h1,h2,k3⟩⟩
theorem Nw.mono(h:Nw B' X Y)(hB:B<=B'):Nw B X Y:=⟨h.os,h.tape,h.output,h.size,fun b hb=>by
 rcases h.same b hb with h1|⟨h1,h2⟩
 ·exact .inl h1
 ·exact .inr ⟨aR hB h1,h2⟩⟩
theorem Nw.below(h:Below X.heap.size X Y):Nw B X Y:=⟨h.os,h.tape,h.output,h.size,fun b hb=>.inl (h.block b hb)⟩
theorem Nw.put{l:Nat}{o':Obj}(hB:B<=l)(hl:X.heap[l]?=some o)(ho:o.isCells=false)(GF:o'.isCells=false):Nw B X (X.putObj l o'):=
 ⟨rfl,rfl,rfl,by simp,fun b hb=>by
  by_cases h:b=l
  ·subst h;exact .inr ⟨hB,⟨o,hl,ho⟩,o',World.putObj_heap_same hb,GF⟩
  ·exact .inl (qu h)⟩
theorem Nw.old(h:Nw B X Y){b:Nat}(hb:b<B)(hx:b<X.heap.size):Y.heap[b]?=X.heap[b]?:=by
 rcases h.same b hx with h1|⟨h1,_⟩
 ·exact h1
 ·omega
theorem Nw.cells(h:Nw B X Y){b:Nat}{cs:Array Value}{t:TypeId}{fr:Nat×Nat}(hc:X.heap[b]?=some (.cells cs t fr)):Y.heap[b]?=some (.cells cs t fr):=by
 rcases h.same b (bQ hc)with h1|⟨_,⟨o,h1,h2⟩,_⟩
 ·exact h1.trans hc
 ·rw[hc]at h1;cases h1;cases h2
theorem Nw.cell(h:Nw B X Y){a:Addr}{v:Value}(hc:X.cell? a=some v):Y.cell? a=some v:=by
 cases ho:X.heap[a.block]? with
 |none=>simp[World.cell?,ho]at hc
 |some o=>
  cases o with
  |cells cs t fr=>exact(World.cell?_of_block ((h.cells ho).trans ho.symm)).trans hc
  |_=>simp[World.cell?,ho]at hc
def jT(B:Nat)(I:World->Prop):Prop:=∀X Y,Nw B X Y->I X->I Y
theorem jT.mono{I:World->Prop}(h:jT B I)(hB:B<=B'):jT B' I:=fun X Y hn=>h X Y (hn.mono hB)
def M8(M:Nat->Prop)(st:Prop)(P:Program)(gf:Nat)(lb:Array Value){T:Type}(xs:List T)(At:World->Array Value->T->Prop)(w:World):Prop:=
 ∀(l:Nat)(J Jx:List T->World->Prop)(W:World),Kp M w W->(∀b,M b->b<w.heap.size)->l<W.heap.size->¬M l→
  (∀s,jT W.heap.size (J s))->(∀s,jT W.heap.size (Jx s))→
  (∀ pre vs x W1,J pre W1->Kp M W W1->At W1 vs x->(pre ++ [x]) <+: xs->YieldAt Fence.wide 0 P l vs W1 fun e W'=>
    (e=.returned (.bool true)/\J (pre++[x]) W'/\Kp M W1 W')\/(st/\e=.returned (.bool false)/\Jx (pre++[x]) W'/\jB M (l+1) W1 W'))→
  J [] W→
  Calls P gf (#[.func (.yield l) #[] #[]]++lb) W fun e W'=>(∃v,e=.returned v)∧
   ((J xs W'/\Kp M W W')\/(st/\∃pre,pre <+: xs/\Jx pre W'/\jB M (l+1) W W'))
def ZJ(M:Nat->Prop)(st:Prop){T:Type}(B:Nat)(I:List T->World->Prop)(Ix:Code->List T->World->Prop)(xs:List T)(W:World):Exit->Act->World->Prop
 |.normal,_,W'=>Kp M W W'/\I xs W'
 |.ret,_,W'=>st/\jB M B W W'/\Ix .ret xs W'
 |.exit id,_,W'=>st/\jB M B W W'/\Ix (.exit id) xs W'
 |.goto t,_,W'=>st/\jB M B W W'/\Ix (.goto t) xs W'
 |.panic _,_,_=>False
 |.outgrown,_,_=>False
structure SZ(l:Nat)(W W2:World):Prop where
 os:W2.os=W.os
 tape:W2.tape=W.tape
 output:W2.output=W.output
 size:W2.heap.size=W.heap.size
 same:∀b,b≠l->W2.heap[b]?=W.heap[b]?
 lrec:∃r,W2.heap[l]?=some (.loop r)
theorem SZ.cell{l:Nat}{W W2:World}(h:SZ l W W2)(hl:∃r,W.heap[l]?=some (.loop r)){a:Addr}{v:Value}(hc:W.cell? a=some v):W2.cell? a=some v:=by
 refine(World.cell?_of_block (h.same a.block (fun e=>?_))).trans hc;obtain⟨r,hr⟩:=hl;rw[World.cell?,e,hr]at hc;simp at hc
theorem IA{w:World}(o:Obj)(hk:Kp M w X)(hL:w.heap.size<=L):Kp M w (X.putObj L o):=
 ⟨hk.os,hk.tape,hk.output,by simpa using hk.size,fun b hb hm=>(qu (by omega)).trans (hk.same b hb hm)⟩
theorem Xl{P:Program}{T:Type}{xs:List T}{w:World}{fn:Nat}{dd:Nat}(hL0:w.heap.size<=L)(hM:∀b,M b->b<w.heap.size)
  {zE:LoopState->Option Code->Loop} (B7:zE=fun st pe=>{state:=st,pending:=pe,fn,tmps,params:=ps,assign,body,defers:=dd })
  {At:World->Array Value->T->Prop} (hps:∀W vs x,At W vs x->vs.size=ps.size)
  (I:List T->World->Prop) (Ix:Code->List T->World->Prop) (hI:∀s,jT w.heap.size (I s)) (hIx:∀c s,jT w.heap.size (Ix c s))
  (M9:∀ (l:Nat) (pre:List T) (vs:Array Value) (x:T) (W:World),w.heap.size<=l->(∃r,W.heap[l]?=some (.loop r))->I pre W->At W vs x->Kp M w W->(pre ++ [x]) <+: xs →
    assign.wpIn (Fence.wide.inRound l) 3 P (Exit.then (fun a' W'=>Kp M W W'/\I pre W'/\∀ W2,SZ l W' W2->I pre W2->Kp M w W2 →
     body.wpIn (Fence.wide.inRound l) 3 P (ZJ M st w.heap.size I Ix (pre++[x]) W2) a' W2) (fun _ _ _=>False)) {tmps:=(ps.zip vs).foldl (fun t (p,v)=>t.setIfInBounds p v) tmps,defers:=[] } W)
  (pre:List T) (vs:Array Value) (x:T) (W:World) (hi:I pre W) (hl:W.heap[L]?=some (.loop (zE .ready none))) (kH:Kp M w W) (hat:At W vs x) (dU:(pre++[x]) <+: xs)
  (D:Nat) (od:Obj) (hD:w.heap.size<=D/\D≠L) (hd:W.heap[D]?=some od):
  YieldAt Fence.wide 0 P L vs W fun e W'=>
   (e=.returned (.bool true)/\(I (pre++[x]) W'/\W'.heap[L]?=some (.loop (zE .ready none))/\W'.heap[D]?=some od/\Kp M w W')/\Kp M W W')∨
   (st/\e=.returned (.bool false)/\(∃c,Ix c (pre++[x]) W'/\W'.heap[L]?=some (.loop (zE .done (some c)))/\W'.heap[D]?=some od)/\jB M (L+1) W W'):=by
 refine lu (m:=3) 0 ?_;have hy:=run_yield (P:=P) (args:=vs) hl (by rw[B7];exact hps W vs x hat);rw[B7]at hy;refine⟨fn,_,assign,body,hy,roundIn_of_wpIn trivial (wpIn_mono (M9 L pre vs x W hL0 ⟨_,hl⟩ hi hat kH dU) ?_)⟩;clear hy hat;intro e1 a' Wa hq1
 cases e1 with
 |ret=>exact hq1.elim
 |exit id=>exact hq1.elim
 |goto t=>exact hq1.elim
 |panic ch=>exact hq1.elim
 |outgrown=>exact hq1.elim
 |normal=>?_
 obtain⟨dG,AV,zcl⟩:=hq1;have hLW:=(bQ hl);have hDW:=(bQ hd);have hLm:¬M L:=fun h=>by have:=hM L h;omega
 have hDm:¬M D:=fun h=>by have:=hM D h;omega
 have WG:Wa.heap[L]?=some (.loop (zE .ready none)):=(dG.same L hLW hLm).trans hl;have hda:Wa.heap[D]?=some od:=(dG.same D hDW hDm).trans hd;have zcm:L<Wa.heap.size:=(bQ WG);refine⟨_,run_beginRound WG (by rw[B7]),?_⟩;have vC:(Wa.putObj L (.loop {zE .ready none with state:=.busy })).heap[L]?=some (.loop {zE .ready none with state:=.busy }):=World.putObj_heap_same zcm;have ZH:(Wa.putObj L (.loop {zE .ready none with state:=.busy })).heap[D]?=some od:=(qu hD.2).trans hda;have zeL:=kH.trans dG;refine wpIn_mono (zcl _ ⟨rfl,rfl,rfl,by simp,fun b hb=>qu hb,_,vC⟩ (hI pre _ _ (Nw.put hL0 WG rfl rfl) AV) (IA _ zeL hL0)) ?_;have fin:∀(uV:Option Code)(W3:World),jB M w.heap.size (Wa.putObj L (.loop {zE .ready none with state:=.busy })) W3→
   (Instr.endRound L uV).run P W3=.ok (.bool uV.isNone) (W3.putObj L (.loop (zE (if uV.isNone then .ready else .done) uV)))∧
   W3.heap[L]?=some (.loop {zE .ready none with state:=.busy })∧
   (W3.putObj L (.loop (zE (if uV.isNone then .ready else .done) uV))).heap[L]?=some (.loop (zE (if uV.isNone then .ready else .done) uV))∧
   (W3.putObj L (.loop (zE (if uV.isNone then .ready else .done) uV))).heap[D]?=some od∧
   (∀b,w.heap.size<=b->b≠L->b<W.heap.size->(W3.putObj L (.loop (zE (if uV.isNone then .ready else .done) uV))).heap[b]?=W.heap[b]?)∧
   W.heap.size<=(W3.putObj L (.loop (zE (if uV.isNone then .ready else .done) uV))).heap.size:=fun uV W3 mq=>by
  have MO:=(mq.same L hL0 (by simpa using zcm) hLm).trans vC;have Sz:=(mq.same D hD.1 (by simp;have:=dG.size;omega) hDm).trans ZH;have:=run_endRound (P:=P) uV MO;rw[B7]at this⊢;refine⟨this,by rw[B7]at MO;exact MO,World.putObj_heap_same (bQ MO),(qu hD.2).trans Sz,fun b hb hbL hs=>?_,?_⟩
  ·have hbm:¬M b:=fun h=>by have:=hM b h;omega
   exact(qu hbL).trans ((mq.same b hb (by simp;have:=dG.size;omega) hbm).trans ((qu hbL).trans (dG.same b hs hbm)))
  ·have:=dG.size;have:=mq.size;simp at *;omega
 rintro e a3 W3 hp;have Η:∀(c:Code),st->jB M w.heap.size (Wa.putObj L (.loop {zE .ready none with state:=.busy })) W3->Ix c (pre++[x]) W3→
   ∃v w',(Instr.endRound L (some c)).run P W3=.ok v w'/\((Ending.returned v=.returned (.bool true)/\(I (pre ++ [x]) w'/\w'.heap[L]?=some (.loop (zE .ready none))/\w'.heap[D]?=some od/\Kp M w w')/\Kp M W w') ∨
   (st/\Ending.returned v=.returned (.bool false)/\(∃c,Ix c (pre++[x]) w'/\w'.heap[L]?=some (.loop (zE .done (some c)))/\w'.heap[D]?=some od)/\jB M (L+1) W w')):=fun c cV mq hi3=>by
  obtain⟨hr,MO,Ku,Xm,gt,hsz⟩:=fin (some c) W3 mq;exact⟨_,_,hr,.inr ⟨cV,rfl,⟨c,hIx c (pre++[x]) _ _ (Nw.put hL0 MO rfl rfl) hi3,Ku,Xm⟩,⟨hsz,fun b hb hs _=>gt b (by omega) (by omega) hs⟩⟩⟩
 cases e with
 |normal=>
  obtain⟨mq,hi3⟩:=hp;obtain⟨hr,MO,Ku,Xm,gt,hsz⟩:=fin none W3 (mq.from _);have vE:Kp M W (W3.putObj L (.loop (zE (if(none:Option Code).isNone then .ready else .done) none))):=
   ⟨mq.os.trans dG.os,mq.tape.trans dG.tape,mq.output.trans dG.output,hsz,fun b hs hm=>by
    by_cases hbL:b=L
    ·subst hbL;exact Ku.trans hl.symm
    ·exact(qu hbL).trans ((mq.same b (by simp;have:=dG.size;omega) hm).trans ((qu hbL).trans (dG.same b hs hm)))⟩
  exact⟨_,_,hr,.inl ⟨rfl,⟨hI (pre++[x]) _ _ (Nw.put hL0 MO rfl rfl) hi3,Ku,Xm,kH.trans vE⟩,vE⟩⟩
 |ret=>exact Η .ret hp.1 hp.2.1 hp.2.2
 |exit id=>exact Η (.exit id) hp.1 hp.2.1 hp.2.2
 |goto t=>exact Η (.goto t) hp.1 hp.2.1 hp.2.2
 |panic ch=>exact hp.elim
 |outgrown=>exact hp.elim
theorem je{P:Program}{T:Type}{xs:List T}{g:Operand}{Q:Exit->Act->World->Prop}{a:Act}{w:World}
  {gf:Nat} {lb:Array Value} (hg:a.eval g=.func (.func gf) #[] lb) (eg:∀args w,(callFunc gf args).run P w=.ok (.enter gf args) w) (hM:∀b,M b->b<w.heap.size)
  {At:World->Array Value->T->Prop} (rn:M8 M st P gf lb xs At w) (hps:∀W vs x,At W vs x->vs.size=ps.size)
  (I:List T->World->Prop) (Ix:Code->List T->World->Prop) (hI:∀s,jT w.heap.size (I s)) (hIx:∀c s,jT w.heap.size (Ix c s)) (h0:I [] w)
  (M9:∀ (l:Nat) (pre:List T) (vs:Array Value) (x:T) (W:World),w.heap.size<=l->(∃r,W.heap[l]?=some (.loop r))->I pre W->At W vs x->Kp M w W->(pre ++ [x]) <+: xs →
    assign.wpIn (Fence.wide.inRound l) 3 P (Exit.then (fun a' W'=>Kp M W W'/\I pre W'/\∀ W2,SZ l W' W2->I pre W2->Kp M w W2 →
     body.wpIn (Fence.wide.inRound l) 3 P (ZJ M st w.heap.size I Ix (pre++[x]) W2) a' W2) (fun _ _ _=>False)) {tmps:=(ps.zip vs).foldl (fun t (p,v)=>t.setIfInBounds p v) a.tmps,defers:=[] } W)
  (zcn:∀(D:Nat)(W:World),w.heap.size<=D->I xs W->Kp M w W->W.heap[D]?=some (.deferred (some []))->Q .normal {a with defers:={target:=.collected D,args:=#[] }::a.defers } W)
  (zco:∀(D:Nat)(c:Code)(pre:List T)(W:World),st->w.heap.size<=D->pre <+: xs->Ix c pre W->W.heap[D]?=some (.deferred (some []))->c.wpIn Fence.wide 3 P Q {a with defers:={target:=.collected D,args:=#[] }::a.defers } W):
  (Code.rangeFunc g ps assign body).wpIn Fence.wide 3 P Q a w:=by
 refine wpIn_rangeFunc ?_;intro fn _;obtain⟨zE,B7⟩:∃zE:LoopState->Option Code->Loop,zE=fun st pe=>{state:=st,pending:=pe,fn,tmps:=a.tmps,params:=ps,assign,body,defers:=w.heap.size }:=⟨_,rfl⟩;obtain⟨W1,cC⟩:∃W1,(w.alloc (.deferred (some []))).alloc (.loop (zE .ready none))=W1:=⟨_,rfl⟩;have hL1:W1.heap[w.heap.size+1]?=some (.loop (zE .ready none)):=by
  rw[<-cC];have:=fR (w.alloc (.deferred (some []))) (.loop (zE .ready none));rwa [World.size_alloc]at this
 have hK1:W1.heap[w.heap.size]?=some (.deferred (some [])):=by
  rw[<-cC];exact(bZ _ _ _ (by simp)).trans (fR w _)
 have hb1:Below w.heap.size w W1:=by
  rw[<-cC];exact((ar _ w).alloc (aK _) _).alloc (by simp) _
 have iZ:W1.heap.size=w.heap.size+2:=by rw[<-cC];simp
 have hI1:I [] W1:=hI [] _ _ (Nw.below hb1) h0;have FO:Kp M w W1:=Kp.below hb1;have jd:∀b,w.heap.size<=b->¬M b:=fun b hb h=>by have:=hM b h;omega
 refine ⟨w.heap.size+1,[{ target:=.collected w.heap.size,args:=#[] }],W1,{ target:=.fn (.func gf) lb,args:=#[.func (.yield (w.heap.size+1)) #[] #[]] },W1,gf,
  #[.func (.yield (w.heap.size+1)) #[] #[]]++lb,W1,?_,?_,?_,?_,(fun h=>by cases h),?_⟩
 ·rw[<-cC,B7];exact run_enterLoop_outer _ _ _ _ _
 ·simp only[resolve,hg];simp[go_sem]
 ·intro f' AW;simp[Target.leads]at AW;subst AW;trivial
 ·simp[invoke,go_sem,eg]
 ·refine aO.2 ((rn (w.heap.size+1)
   (fun pre W=>I pre W/\W.heap[w.heap.size+1]?=some (.loop (zE .ready none))/\W.heap[w.heap.size]?=some (.deferred (some []))/\Kp M w W)
   (fun pre W=>∃c,Ix c pre W/\W.heap[w.heap.size+1]?=some (.loop (zE .done (some c)))/\W.heap[w.heap.size]?=some (.deferred (some [])))
   W1 FO hM (by omega) (jd _ (by omega)) ?_ ?_ ?_ ⟨hI1,hL1,hK1,FO⟩).mono ?_)
  ·rintro s X Y hn ⟨h1,h2,h3,h4⟩;refine⟨hI s X Y (hn.mono (by omega)) h1,(hn.old (by omega) (bQ h2)).trans h2,(hn.old (by omega) (bQ h3)).trans h3,hn.os.trans h4.os,hn.tape.trans h4.tape,hn.output.trans h4.output,aR h4.size hn.size,fun b hb hm=>?_⟩;exact(hn.old (by omega) (bP hb h4.size)).trans (h4.same b hb hm)
  ·rintro s X Y hn ⟨c,h1,h2,h3⟩;exact⟨c,hIx c s X Y (hn.mono (by omega)) h1,(hn.old (by omega) (bQ h2)).trans h2,(hn.old (by omega) (bQ h3)).trans h3⟩
  ·rintro pre vs x W ⟨hi,hl,hd,kH⟩ J9 hat dU;exact Xl (by omega) hM B7 hps I Ix hI hIx M9 pre vs x W hi hl kH hat dU _ _ ⟨aK _,by simp⟩ hd
  ·rintro e W2 ⟨⟨v,rfl⟩,(⟨⟨hi,hl,hd,kH⟩,_⟩|⟨cV,pre,hSp,⟨c,hi,hl,hd⟩,ZK⟩)⟩
   ·exact⟨none,_,by have:=run_endLoop (P:=P) hl (by rw[B7];simp);rw[B7]at this;exact this,zcn _ _ (aK _) (hI xs _ _ (Nw.put (by omega) hl rfl rfl) hi) (IA _ kH (by omega)) ((qu (by simp)).trans hd)⟩
   ·exact⟨some c,_,by have:=run_endLoop (P:=P) hl (by rw[B7];simp);rw[B7]at this;exact this,zco _ c pre _ cV (aK _) hSp (hIx c pre _ _ (Nw.put (by omega) hl rfl rfl) hi) ((qu (by simp)).trans hd)⟩
theorem aq{w:World}{k:Nat}(h:k=w.heap.size):(w.alloc o).heap[k]?=some o:=by rw[h];exact fR w o
theorem k_{w:World}{a:Addr}{v:Value}(h:w.cell? a=some v):a.block<w.heap.size:=World.block_lt_of_cell? w a h
theorem aa{W w:World}(hb:Below W.heap.size W w){a:Addr}{v:Value}(h:W.cell? a=some v):w.cell? a=some v:=(hb.cell (k_ h)).trans h
theorem aT{W:World}{b:Nat}{cs:Array Value}{T:TypeId}{fr:Nat×Nat}(h:W.heap[b]?=some (.cells cs T fr))(k:Nat):W.cell? ⟨b,k,none⟩=cs[k]?:=by simp[World.cell?,h]
theorem ai{W:World}{b:Nat}{cs:Array Value}{T:TypeId}(h:W.heap[b]?=some (.cells cs T (0,0)))(k:Nat):W.frozen? ⟨b,k,none⟩=false:=by simp[World.frozen?,h]
theorem ao{W:World}{b:Nat}{cs:Array Value}{T:TypeId}{fr:Nat×Nat}(h:W.heap[b]?=some (.cells cs T fr))(k:Nat){v:Option Value}(e:cs[k]?=v:=by rfl):W.cell? ⟨b,k,none⟩=v:=(aT h k).trans e
section
variable{W w:World}{b:Nat}{cs:Array Value}{T:TypeId}{fr:Nat×Nat}
theorem QN(h:W.heap[b]?=some (.cells cs T fr)):W.cell? ⟨b,0,none⟩=cs[0]?/\W.cell? ⟨b,1,none⟩=cs[1]?:=⟨aT h 0,aT h 1⟩
theorem n8(h:W.heap[b]?=some (.cells cs T fr)):W.cell? ⟨b,0,none⟩=cs[0]?/\W.cell? ⟨b,1,none⟩=cs[1]?/\W.cell? ⟨b,2,none⟩=cs[2]?:=⟨aT h 0,aT h 1,aT h 2⟩
theorem pC(h:W.heap[b]?=some (.cells cs T fr)):W.cell? ⟨b,0,none⟩=cs[0]?/\W.cell? ⟨b,1,none⟩=cs[1]?/\W.cell? ⟨b,2,none⟩=cs[2]?/\W.cell? ⟨b,3,none⟩=cs[3]?:=⟨aT h 0,aT h 1,aT h 2,aT h 3⟩
theorem FP(h:W.heap[b]?=some (.cells cs T fr)):W.cell? ⟨b,0,none⟩=cs[0]?/\W.cell? ⟨b,1,none⟩=cs[1]?/\W.cell? ⟨b,2,none⟩=cs[2]?/\W.cell? ⟨b,3,none⟩=cs[3]?/\W.cell? ⟨b,4,none⟩=cs[4]?/\W.cell? ⟨b,5,none⟩=cs[5]?/\W.cell? ⟨b,6,none⟩=cs[6]?/\W.cell? ⟨b,7,none⟩=cs[7]?:=⟨aT h 0,aT h 1,aT h 2,aT h 3,aT h 4,aT h 5,aT h 6,aT h 7⟩
variable{a1 a2 a3 a4 a5 a6 a7 a8:Addr}{v1 v2 v3 v4 v5 v6 v7 v8:Value}
theorem C8(hb:Below W.heap.size W w)(h1:W.cell? a1=some v1)(h2:W.cell? a2=some v2):w.cell? a1=some v1/\w.cell? a2=some v2:=⟨aa hb h1,aa hb h2⟩
theorem kB(hb:Below W.heap.size W w)(h1:W.cell? a1=some v1)(h2:W.cell? a2=some v2)(h3:W.cell? a3=some v3):w.cell? a1=some v1/\w.cell? a2=some v2/\w.cell? a3=some v3:=⟨aa hb h1,aa hb h2,aa hb h3⟩
theorem mH(hb:Below W.heap.size W w)(h1:W.cell? a1=some v1)(h2:W.cell? a2=some v2)(h3:W.cell? a3=some v3)(h4:W.cell? a4=some v4):w.cell? a1=some v1/\w.cell? a2=some v2/\w.cell? a3=some v3/\w.cell? a4=some v4:=⟨aa hb h1,aa hb h2,aa hb h3,aa hb h4⟩
theorem zcp(hb:Below W.heap.size W w)(h1:W.cell? a1=some v1)(h2:W.cell? a2=some v2)(h3:W.cell? a3=some v3)(h4:W.cell? a4=some v4)(h5:W.cell? a5=some v5):w.cell? a1=some v1/\w.cell? a2=some v2/\w.cell? a3=some v3/\w.cell? a4=some v4/\w.cell? a5=some v5:=⟨aa hb h1,aa hb h2,aa hb h3,aa hb h4,aa hb h5⟩
theorem M_(hb:Below W.heap.size W w)(h1:W.cell? a1=some v1)(h2:W.cell? a2=some v2)(h3:W.cell? a3=some v3)(h4:W.cell? a4=some v4)(h5:W.cell? a5=some v5)(h6:W.cell? a6=some v6)(h7:W.cell? a7=some v7)(h8:W.cell? a8=some v8):w.cell? a1=some v1/\w.cell? a2=some v2/\w.cell? a3=some v3/\w.cell? a4=some v4/\w.cell? a5=some v5/\w.cell? a6=some v6/\w.cell? a7=some v7/\w.cell? a8=some v8:=⟨aa hb h1,aa hb h2,aa hb h3,aa hb h4,aa hb h5,aa hb h6,aa hb h7,aa hb h8⟩
end
theorem oy(g k:Nat):(⟨g,0,none⟩:Addr).add k=⟨g,k,none⟩:=by unfold Addr.add;split<;>simp_all
theorem gR{w:World}{size n:Nat}{v:Value}(h:w.ownsRow base e size v n xs):(v=.slice none 0 0/\n=0)\/∃g cap,v=.slice (some ⟨g,0,none⟩) n cap/\base<=g/\g<w.heap.size:=by
 rcases h.2 with⟨h1,h2⟩|⟨g,cap,cur,h1,h2,h3,_⟩
 ·exact .inl ⟨h1,h2⟩
 ·exact .inr ⟨g,cap,h1,h2,(bQ h3)⟩
def TQ.cells(q:TQ):List Value:=[.bool q.v,.string q.n,.slice q.a q.l q.c]
def FQ.cells(q:FQ):List Value:=[.int .u8 q.o,.string q.n,.slice q.a q.l q.c,.slice q.b q.m q.e]
theorem zcq(qs:List TQ):∀j (h:j<qs.length),(qs.flatMap TQ.cells)[j*3]?=some (.bool qs[j].v)/\(qs.flatMap TQ.cells)[j*3+1]?=some (.string qs[j].n)/\(qs.flatMap TQ.cells)[j*3+2]?=some (.slice qs[j].a qs[j].l qs[j].c):=by
 induction qs with
 |nil=>intro j h;simp at h
 |cons q qs ih=>
  intro j h
  cases j with
  |zero=>simp[TQ.cells]
  |succ j=>
   have:=ih j (by simpa using h);simp only[List.flatMap_cons,TQ.cells,lL,sw];rw[show(j+1)*3=j*3+1+1+1 by omega,show j*3+1+1+1+1=(j*3+1)+1+1+1 by omega,show j*3+1+1+1+2=(j*3+2)+1+1+1 by omega];simpa using this
theorem zcr(qs:List FQ):∀j (h:j<qs.length),(qs.flatMap FQ.cells)[j*4]?=some (.int .u8 qs[j].o)/\(qs.flatMap FQ.cells)[j*4+1]?=some (.string qs[j].n)/\(qs.flatMap FQ.cells)[j*4+2]?=some (.slice qs[j].a qs[j].l qs[j].c)/\(qs.flatMap FQ.cells)[j*4+3]?=some (.slice qs[j].b qs[j].m qs[j].e):=by
 induction qs with
 |nil=>intro j h;simp at h
 |cons q qs ih=>
  intro j h
  cases j with
  |zero=>simp[FQ.cells]
  |succ j=>
   have:=ih j (by simpa using h);simp only[List.flatMap_cons,FQ.cells,lL,sw];have an:=();exact qei
theorem Kv{w:World}{g n:Nat}{qs:List TQ}(h:w.ownsRow base 43 3 (.slice (some ⟨g,0,none⟩) n cap) n (qs.flatMap TQ.cells)):∀j (hj:j<qs.length),pV w g (j*3) qs[j].val:=by
 intro j hj;obtain⟨h0,h1,h2⟩:=zcq qs j hj;have an:=();exact qej
theorem AX{w:World}{g n:Nat}{qs:List FQ}(h:w.ownsRow base 36 4 (.slice (some ⟨g,0,none⟩) n cap) n (qs.flatMap FQ.cells)):∀j (hj:j<qs.length),pW w g (j*4) qs[j].val:=by
 intro j hj;obtain⟨h0,h1,h2,h3⟩:=zcr qs j hj;exact qej
def dH(lo:Nat)(v:Value)(ts:List Tm)(W:World):Prop:=
 ∃qs:List TQ,qs.length=ts.length/\W.ownsRow lo 43 3 v ts.length (qs.flatMap TQ.cells)/\∀j (h:j<qs.length) (h2:j<ts.length),aN (fun b=>lo<=b/\v.ownBlock≠some b) W qs[j].val ts[j]
def eO(lo:Nat)(v:Value)(ts:List Fm)(W:World):Prop:=
 ∃qs:List FQ,qs.length=ts.length/\W.ownsRow lo 36 4 v ts.length (qs.flatMap FQ.cells)/\∀j (h:j<qs.length) (h2:j<ts.length),aC (fun b=>lo<=b/\v.ownBlock≠some b) W qs[j].val ts[j]
theorem dH.nil(lo:Nat)(W:World):dH lo (.slice none 0 0) [] W:=⟨[],rfl,World.ownsRow_nil _ _ _ _,fun j h=>by simp at h⟩
theorem eO.nil(lo:Nat)(W:World):eO lo (.slice none 0 0) [] W:=⟨[],rfl,World.ownsRow_nil _ _ _ _,fun j h=>by simp at h⟩
theorem dH.shape{v:Value}{ts:List Tm}{W:World}(h:dH lo v ts W):(v=.slice none 0 0/\ts.length=0)\/∃g cap,v=.slice (some ⟨g,0,none⟩) ts.length cap/\lo<=g/\g<W.heap.size:=by
 obtain⟨qs,_,ho,_⟩:=h;exact gR ho
theorem eO.shape{v:Value}{ts:List Fm}{W:World}(h:eO lo v ts W):(v=.slice none 0 0/\ts.length=0)\/∃g cap,v=.slice (some ⟨g,0,none⟩) ts.length cap/\lo<=g/\g<W.heap.size:=by
 obtain⟨qs,_,ho,_⟩:=h;exact gR ho
theorem dH.slice{v:Value}{ts:List Tm}{W:World}(h:dH lo v ts W):∃a c,v=.slice a ts.length c:=by
 exact qek
theorem eO.slice{v:Value}{ts:List Fm}{W:World}(h:eO lo v ts W):∃a c,v=.slice a ts.length c:=by
 exact qek
theorem bh{size n:Nat}{v:Value}{W:World}(h:W.ownsRow lo e size v n xs)(hb:∀b,lo<=b->b<W.heap.size->W'.heap[b]?=W.heap[b]?):W'.ownsRow lo e size v n xs:=by
 refine⟨h.1,?_⟩;rcases h.2 with h1|⟨g,cap,cur,h1,h2,h3,h4⟩
 ·exact .inl h1
 ·exact .inr ⟨g,cap,cur,h1,h2,(hb g h2 (bQ h3)).trans h3,h4⟩
theorem dH.held{v:Value}{ts:List Tm}{W:World}(h:dH lo v ts W)(hb:∀b,lo<=b->b<W.heap.size->W'.heap[b]?=W.heap[b]?):dH lo v ts W':=by
 exact qel
theorem eO.held{v:Value}{ts:List Fm}{W:World}(h:eO lo v ts W)(hb:∀b,lo<=b->b<W.heap.size->W'.heap[b]?=W.heap[b]?):eO lo v ts W':=by
 exact qel
theorem dH.below{v:Value}{ts:List Tm}{W:World}(h:dH lo v ts W)(hb:Below W.heap.size W W'):dH lo v ts W':=h.held (fun b _ hlt=>hb.block b hlt)
theorem eO.below{v:Value}{ts:List Fm}{W:World}(h:eO lo v ts W)(hb:Below W.heap.size W W'):eO lo v ts W':=h.held (fun b _ hlt=>hb.block b hlt)
theorem dH.terms{v:Value}{ts:List Tm}{W:World}(h:dH lo v ts W):cB (lo<=·) W v ts:=by
 have an:=();exact qca
theorem eO.forms{v:Value}{ts:List Fm}{W:World}(h:eO lo v ts W):eL (lo<=·) W v ts:=by
 have it:=();exact qca
theorem dH.step{v:Value}{ts:List Tm}{t:Tm}{W:World}{qs:List TQ}{q:TQ}(hk:qs.length=ts.length)(hb:Below W.heap.size W W1)(hlo:lo<=W.heap.size)
  (ht:∀j (h:j<qs.length) (h2:j<ts.length),aN (fun b=>lo<=b/\v.ownBlock≠some b) W qs[j].val ts[j]) (hv:∀b,v.ownBlock=some b->b<W.heap.size)
  (hq:aN (W.heap.size<=·) W1 q.val t) (aV:w4.ownsRow lo 43 3 (.slice (some ⟨g,0,none⟩) (ts.length+1) cap) (ts.length+1) (qs.flatMap TQ.cells++q.cells))
  (hold:∀c,lo<=c->c<W1.heap.size->v.ownBlock≠some c->w4.heap[c]?=W1.heap[c]?) (hg:v.ownBlock=some g\/W1.heap.size<=g):
  dH lo (.slice (some ⟨g,0,none⟩) (ts.length+1) cap) (ts++[t]) w4:=by
 have hs:=hb.size;have an:=();exact qcb
theorem eO.step{v:Value}{ts:List Fm}{t:Fm}{W:World}{qs:List FQ}{q:FQ}(hk:qs.length=ts.length)(hb:Below W.heap.size W W1)(hlo:lo<=W.heap.size)
  (ht:∀j (h:j<qs.length) (h2:j<ts.length),aC (fun b=>lo<=b/\v.ownBlock≠some b) W qs[j].val ts[j]) (hv:∀b,v.ownBlock=some b->b<W.heap.size)
  (hq:aC (W.heap.size<=·) W1 q.val t) (aV:w4.ownsRow lo 36 4 (.slice (some ⟨g,0,none⟩) (ts.length+1) cap) (ts.length+1) (qs.flatMap FQ.cells++q.cells))
  (hold:∀c,lo<=c->c<W1.heap.size->v.ownBlock≠some c->w4.heap[c]?=W1.heap[c]?) (hg:v.ownBlock=some g\/W1.heap.size<=g):
  eO lo (.slice (some ⟨g,0,none⟩) (ts.length+1) cap) (ts++[t]) w4:=by
 have hs:=hb.size;have an:=();exact qcb
theorem da{w:World}{cs:Array Value}{t:TypeId}{fr:Nat×Nat}(hb:w.heap[B]?=some (.cells cs t fr)):∀j u,cs.toList[j]?=some u->w.cell? ((⟨B,0,none⟩:Addr).add j)=some u:=fun j u hu=>by
 rw[oy,aT hb];simpa using hu
theorem ib:(prog.info? 43).map (fun i=>(i.zero,i.size,i.bytes))=some (some (.agg #[.bool false,.string ByteArray.empty,.slice none 0 0]),3,48):=by kernel_rfl
theorem ju:(prog.info? 36).map (fun i=>(i.zero,i.size,i.bytes))=some (some (.agg #[.int .u8 0,.string ByteArray.empty,.slice none 0 0,.slice none 0 0]),4,72):=by kernel_rfl
mutual
def kI(p:Nat):Tm->Bool|.mk _ n a=>decide (n.length<=p)&&d8 p a
def d8(p:Nat):List Tm->Bool|[]=>true|t::l=>kI p t&&d8 p l
end
mutual
def mI(p:Nat):Fm->Bool|.mk o n a s=>decide (0<=o/\o<=255)&&(decide (n.length<=p)&&(d8 p a&&eu p s))
def eu(p:Nat):List Fm->Bool|[]=>true|t::l=>mI p t&&eu p l
end
def e7(t:Tm):Prop:=ap t<=2000000/\kI 2000000 t=true
def jE(l:List Tm):Prop:=af l<=2000000/\d8 2000000 l=true
def cJ(f:Fm):Prop:=ag f<=2000000/\mI 2000000 f=true
def jp(l:List Fm):Prop:=ah l<=2000000/\eu 2000000 l=true
theorem ln(t:Tm):0<ap t:=by cases t;unfold ap;omega
theorem C9(t:Fm):0<ag t:=by cases t;unfold ag;omega
theorem jU(l:List Tm):l.length<=af l:=by
 induction l with
 |nil=>simp
 |cons t l ih=>have:=ln t;simp[af];omega
theorem tj(l:List Fm):l.length<=ah l:=by
 induction l with
 |nil=>simp
 |cons t l ih=>have:=C9 t;simp[ah];omega
theorem i8{l:List Tm}{t:Tm}(h:t∈l):ap t<=af l:=by
 induction l with
 |nil=>cases h
 |cons u l ih=>
  unfold af;exact qbl
theorem i9{l:List Fm}{t:Fm}(h:t∈l):ag t<=ah l:=by
 induction l with
 |nil=>cases h
 |cons u l ih=>
  unfold ah;exact qbl
theorem ii{l:List Tm}:d8 p l=true↔∀t∈l,kI p t=true:=by
 induction l with
 |nil=>simp[d8]
 |cons u l ih=>simp[d8,ih]
theorem tk{l:List Fm}:eu p l=true↔∀t∈l,mI p t=true:=by
 induction l with
 |nil=>simp[eu]
 |cons u l ih=>simp[eu,ih]
theorem jE.mem{l:List Tm}(h:jE l){t:Tm}(ht:t∈l):e7 t:=⟨aR (i8 ht) h.1,ii.1 h.2 t ht⟩
theorem jp.mem{l:List Fm}(h:jp l){t:Fm}(ht:t∈l):cJ t:=⟨aR (i9 ht) h.1,tk.1 h.2 t ht⟩
theorem jE.len{l:List Tm}(h:jE l):l.length<=2000000:=aR (jU l) h.1
theorem jp.len{l:List Fm}(h:jp l):l.length<=2000000:=aR (tj l) h.1
theorem e7.args{v:Bool}{n:aj}{a:List Tm}(h:e7 (.mk v n a)):jE a:=by
 obtain⟨h1,h2⟩:=h;simp[ap,kI]at h1 h2;exact⟨by omega,h2.2⟩
theorem e7.name{v:Bool}{n:aj}{a:List Tm}(h:e7 (.mk v n a)):n.length<=2000000:=by
 obtain⟨h1,h2⟩:=h;simp[kI]at h2;exact h2.1
theorem cJ.args{o:Int}{n:aj}{a:List Tm}{s:List Fm}(h:cJ (.mk o n a s)):jE a:=by
 obtain⟨h1,h2⟩:=h;simp[ag,mI]at h1 h2;exact⟨by omega,h2.2.2.1⟩
theorem cJ.subs{o:Int}{n:aj}{a:List Tm}{s:List Fm}(h:cJ (.mk o n a s)):jp s:=by
 obtain⟨h1,h2⟩:=h;simp[ag,mI]at h1 h2;exact⟨by omega,h2.2.2.2⟩
theorem cJ.name{o:Int}{n:aj}{a:List Tm}{s:List Fm}(h:cJ (.mk o n a s)):n.length<=2000000:=by
 obtain⟨h1,h2⟩:=h;simp[mI]at h2;exact h2.2.1
theorem cJ.op{o:Int}{n:aj}{a:List Tm}{s:List Fm}(h:cJ (.mk o n a s)):0<=o/\o<=255:=by
 obtain⟨h1,h2⟩:=h;simp[mI]at h2;exact h2.1
mutual
theorem lO{q:Nat}(h:p<=q):∀t,kI p t=true->kI q t=true
 |.mk v n a,ht=>by
  simp only[kI,ak,bM]at ht⊢;exact⟨by omega,eV h a ht.2⟩
theorem eV{q:Nat}(h:p<=q):∀t,d8 p t=true->d8 q t=true
 |[],_=>rfl
 |t::l,ht=>by
  simp only[d8,ak]at ht⊢;exact⟨lO h t ht.1,eV h l ht.2⟩
end
mutual
theorem iR{q:Nat}(h:p<=q):∀t,mI p t=true->mI q t=true
 |.mk v n a s,ht=>by
  simp only[mI,ak,bM]at ht⊢;exact⟨ht.1,by omega,eV h a ht.2.2.1,ic h s ht.2.2.2⟩
theorem ic{q:Nat}(h:p<=q):∀t,eu p t=true->eu q t=true
 |[],_=>rfl
 |t::l,ht=>by
  simp only[eu,ak]at ht⊢;exact⟨iR h t ht.1,ic h l ht.2⟩
end
theorem aJ{a b:Bool}(h:a=b):Ending.returned (.bool a)=.returned (.bool b):=by rw[h]
theorem uE{k:IntKind}{a b:Int}(h:a=b):Ending.returned (.int k a)=.returned (.int k b):=by rw[h]
theorem Xn{a b:ByteArray}(h:a=b):Ending.returned (.string a)=.returned (.string b):=by rw[h]
theorem iF{P:Program}{args:Array Value}{w:World}{n:Nat}{v:Value}
  (h:Calls P f args (w.drewN n) fun e w'=>e=.returned v/\w.drewN n=w'):Calls P f args (w.drewN n) fun e Iw=>e=.returned v/\∃m,Iw=w.drewN m:=
 h.mono fun _ _ ⟨he,hm⟩=>⟨he,n,hm.symm⟩
theorem GM{w:World}(h:∃n,wr=w.drewN n)(m:Nat):∃n,wr.drewN m=w.drewN n:=by
 obtain⟨n,rfl⟩:=h;exact⟨_,by rw[World.drewN_drewN]⟩
theorem lP(s:ByteArray):s.data.toList.length=s.size:=by simp
theorem C_(s:ByteArray):s.data.toList.take s.size=s.data.toList:=gB (by simp)
theorem jf(n:aj):(⟨n.toArray⟩:ByteArray).size=n.length:=by simp[ByteArray.size]
theorem IB(n:aj):(⟨n.toArray⟩:ByteArray).data.toList=n:=by simp
theorem i_{w w':World}(h:∃n,w'=w.drewN n):Below w.heap.size w w':=by obtain⟨n,rfl⟩:=h;exact⟨rfl,rfl,rfl,aK _,fun _ _=>rfl⟩
def ZL(c:Int):Bool:=decide (97<=c/\c<=116)
def Kw(c:Int):Bool:=decide (117<=c/\c<=122)
def zW(c:Int):Bool:=decide (97<=c/\c<=122)
def IC(c:Int):Bool:=decide (65<=c/\c<=90)
def FR(c:Int):Bool:=decide (48<=c/\c<=57)
def nI(c:Int):Bool:=zW c||IC c||FR c
theorem Pk(c:Int)(w:World):
  Calls prog 190 #[.int .u8 c] w fun e w'=>e=.returned (.bool (ZL c))/\w=w':=by
 by_cases h1:97<=c<;>by_cases h2:c<=116
 all_goals
  have hs:ZL c=(decide (97<=c)&&decide (c<=116)):=by simp[ZL]
  rw[hs];clear hs;go_enter func190,ntmps190;go_wp2;go_ret;simp[h1,h2]
theorem Kx(c:Int)(w:World):
  Calls prog 216 #[.int .u8 c] w fun e w'=>e=.returned (.bool (Kw c))/\w=w':=by
 by_cases h1:117<=c<;>by_cases h2:c<=122
 all_goals
  have hs:Kw c=(decide (117<=c)&&decide (c<=122)):=by simp[Kw]
  rw[hs];clear hs;go_enter func216,ntmps216;go_wp2;go_ret;simp[h1,h2]
theorem Na(c:Int)(w:World):
  Calls prog 241 #[.int .u8 c] w fun e w'=>e=.returned (.bool (zW c))/\w=w':=by
 by_cases h1:97<=c<;>by_cases h2:c<=122
 all_goals
  have hs:zW c=(decide (97<=c)&&decide (c<=122)):=by simp[zW]
  rw[hs];clear hs;go_enter func241,ntmps241;go_wp2;go_ret;simp[h1,h2]
theorem Da(c:Int)(w:World):
  Calls prog 188 #[.int .u8 c] w fun e w'=>e=.returned (.bool (IC c))/\w=w':=by
 by_cases h1:65<=c<;>by_cases h2:c<=90
 all_goals
  have hs:IC c=(decide (65<=c)&&decide (c<=90)):=by simp[IC]
  rw[hs];clear hs;go_enter func188,ntmps188;go_wp2;go_ret;simp[h1,h2]
theorem Db(c:Int)(w:World):
  Calls prog 217 #[.int .u8 c] w fun e w'=>e=.returned (.bool (FR c))/\w=w':=by
 by_cases h1:48<=c<;>by_cases h2:c<=57
 all_goals
  have hs:FR c=(decide (48<=c)&&decide (c<=57)):=by simp[FR]
  rw[hs];clear hs;go_enter func217,ntmps217;go_wp2;go_ret;simp[h1,h2]
theorem ro(c:Int)(w:World):
  Calls prog 189 #[.int .u8 c] w fun e w'=>e=.returned (.bool (nI c))/\w=w':=by
 unfold nI;go_enter func189,ntmps189;go_wp2_with (first
  |(go_at_call 241;refine(Na _ _).mono ?_;rintro e w' ⟨rfl,rfl⟩)
  |(go_at_call 188;refine(Da _ _).mono ?_;rintro e w' ⟨rfl,rfl⟩)
  |(go_at_call 217;refine(Db _ _).mono ?_;rintro e w' ⟨rfl,rfl⟩))
 all_goals (go_ret;simp_all)
def j_(l:List UInt8):Bool:=Ks.contains l
theorem gw(s:ByteArray)(w:World):
  Calls prog 240 #[.string s] w fun e w'=>e=.returned (.bool (j_ s.data.toList))/\w=w':=by
 go_enter func240,ntmps240;go_wp2
 all_goals
  go_ret;refine⟨aJ ?_,rfl⟩;rw[<-ByteArray.toList_eq]
  simp_all [j_,Ks]
def nU(p:Int->Bool)(l:List UInt8):Bool:=l.all fun c=>p c.toNat
def mw(first other:Int->Bool)(l:List UInt8):Bool:=decide (1<=l.length/\l.length<=16)&&(!j_ l&&(first (l.headD 0).toNat&&nU other l.tail))
theorem qE{s:ByteArray}(h:1<=s.size):s.data.toList.headD 0=s[0]:=by
 have h':0<s.data.toList.length:=by simp;omega
 cases hs:s.data.toList with
 |nil=>rw[hs]at h';simp at h'
 |cons a b=>
  have:s[0]=s.data.toList[0]:=by simp[ByteArray.getElem_eq_getElem_data]
  rw[this];simp[hs]
theorem zX(s:ByteArray)(k:Nat)(h1:1<=k)(h:k<s.size)(p:Int->Bool):
  nU p (s.data.toList.take (k+1)).tail=(nU p (s.data.toList.take k).tail&&p s[k].toNat):=by
 rw[lq (by simpa using h)];have h0:(s.data.toList.take k)≠[]:=by
  intro e;have:(s.data.toList.take k).length=0:=by rw[e];rfl
  have hl:s.data.toList.length=s.size:=by simp
  rw[dO,hl]at this;omega
 rw[List.tail_append_of_ne_nil h0];simp[nU,ByteArray.getElem_eq_getElem_data]
theorem v_(s:ByteArray)(k:Nat)(h1:1<=k)(h:k<s.size)(p:Int->Bool)(hp:p s[k].toNat=false):nU p s.data.toList.tail=false:=by
 unfold nU;rw[List.all_eq_false];refine⟨s[k],?_,by simp[hp]⟩;rw[List.mem_iff_getElem];refine⟨k-1,by simp;omega,?_⟩;simp only[List.getElem_tail];simp[ByteArray.getElem_eq_getElem_data,show k-1+1=k by omega]
theorem oz{p:Int->Bool}{l:List UInt8}(h:¬(1<=l.length/\l.length<=16)):mw p q l=false:=by simp[mw,h]
theorem zY{p:Int->Bool}{l:List UInt8}(h:j_ l=true):mw p q l=false:=by simp[mw,h]
theorem tp{p:Int->Bool}{l:List UInt8}(h:p (l.headD 0).toNat=false):mw p q l=false:=by unfold mw;rw[h];simp
theorem wa{p:Int->Bool}{l:List UInt8}(h:nU q l.tail=false):mw p q l=false:=by simp[mw,h]
theorem zZ{p:Int->Bool}{l:List UInt8}(h1:1<=l.length/\l.length<=16)(h2:j_ l=false)(h3:p (l.headD 0).toNat=true)(h4:nU q l.tail=true):mw p q l=true:=by unfold mw;rw[h3,h2,h4];simp[h1]
theorem Dc{p:Int->Bool}{f o:UInt8->Bool}(h1:∀c:UInt8,p c.toNat=f c)(h2:∀c:UInt8,q c.toNat=o c):∀n:aj,mw p q n=qD f o n
 |[]=>rfl
 |c::r=>by
  have e:nU q r=r.all o:=by unfold nU;congr 1;funext c;exact h2 c
  have d:decide (1<=(c::r).length/\(c::r).length<=16)=decide (r.length<16):=by rw[iM];simp;omega
  unfold mw qD j_;rw[d];simp[h1,e]
theorem Nb(b1 b2:Nat)(s:ByteArray)(w:World)(hs:s.size<=9223372036854775807)(ZM:w.cell? ⟨b1,0,none⟩=some (.func (.func 190) #[] #[]))(GN:w.cell? ⟨b2,0,none⟩=some (.func (.func 189) #[] #[])):
  Calls prog 239 #[.string s,.pointer (some ⟨b1,0,none⟩),.pointer (some ⟨b2,0,none⟩)] w fun e w'=>e=.returned (.bool (mw ZL nI s.data.toList))/\∃n,w'=w.drewN n:=by
 by_cases h1:1<=s.size
 ·have d1:decide ((s.size:Int)<1)=false:=by simp;omega
  have h0:0<s.size:=h1
  by_cases h2:s.size<=16
  ·have d2:decide (16<(s.size:Int))=false:=by simp;omega
   cases hr:j_ s.data.toList
   ·cases hf:ZL s[0].toNat
    ·have HR:=ae hr;have HF:=ae hf;have GB:=();exact qaq
    ·have HR:=ae hr;have HF:=ae hf;have I8:=();exact qaq
   ·have HR:=ae hr;have it:=();exact qaq
  ·have d2:decide (16<(s.size:Int))=true:=by simp;omega
   have an:=();exact qaf
 ·have d1:decide ((s.size:Int)<1)=true:=by simp;omega
  have an:=();exact qaf
theorem Ky(b1 b2:Nat)(s:ByteArray)(w:World)(hs:s.size<=9223372036854775807)(ZM:w.cell? ⟨b1,0,none⟩=some (.func (.func 216) #[] #[]))(GN:w.cell? ⟨b2,0,none⟩=some (.func (.func 217) #[] #[])):
  Calls prog 239 #[.string s,.pointer (some ⟨b1,0,none⟩),.pointer (some ⟨b2,0,none⟩)] w fun e w'=>e=.returned (.bool (mw Kw FR s.data.toList))/\∃n,w'=w.drewN n:=by
 by_cases h1:1<=s.size
 ·have d1:decide ((s.size:Int)<1)=false:=by simp;omega
  have h0:0<s.size:=h1
  by_cases h2:s.size<=16
  ·have d2:decide (16<(s.size:Int))=false:=by simp;omega
   cases hr:j_ s.data.toList
   ·cases hf:Kw s[0].toNat
    ·have HR:=ae hr;have HF:=ae hf;have Ss:=();exact qaq
    ·have HR:=ae hr;have HF:=ae hf;have ZU:=();exact qaq
   ·have HR:=ae hr;have it:=();exact qaq
  ·have d2:decide (16<(s.size:Int))=true:=by simp;omega
   have an:=();exact qaf
 ·have d1:decide ((s.size:Int)<1)=true:=by simp;omega
  have an:=();exact qaf
theorem Kz(b1 b2:Nat)(s:ByteArray)(w:World)(hs:s.size<=9223372036854775807)(ZM:w.cell? ⟨b1,0,none⟩=some (.func (.func 188) #[] #[]))(GN:w.cell? ⟨b2,0,none⟩=some (.func (.func 189) #[] #[])):
  Calls prog 239 #[.string s,.pointer (some ⟨b1,0,none⟩),.pointer (some ⟨b2,0,none⟩)] w fun e w'=>e=.returned (.bool (mw IC nI s.data.toList))/\∃n,w'=w.drewN n:=by
 by_cases h1:1<=s.size
 ·have d1:decide ((s.size:Int)<1)=false:=by simp;omega
  have h0:0<s.size:=h1
  by_cases h2:s.size<=16
  ·have d2:decide (16<(s.size:Int))=false:=by simp;omega
   cases hr:j_ s.data.toList
   ·cases hf:IC s[0].toNat
    ·have HR:=ae hr;have HF:=ae hf;have qlT:=();exact qaq
    ·have HR:=ae hr;have HF:=ae hf;exact qaq
   ·have HR:=ae hr;have it:=();exact qaq
  ·have d2:decide (16<(s.size:Int))=true:=by simp;omega
   have an:=();exact qaf
 ·have d1:decide ((s.size:Int)<1)=true:=by simp;omega
  have an:=();exact qaf
theorem Θ(c:UInt8):ZL c.toNat=(decide (97<=c)&&decide (c<=116)):=by rw[iM];simp[ZL,UInt8.le_iff_toNat_le];omega
theorem Xo(c:UInt8):Kw c.toNat=(decide (117<=c)&&decide (c<=122)):=by rw[iM];simp[Kw,UInt8.le_iff_toNat_le];omega
theorem QO(c:UInt8):zW c.toNat=Pi c:=by rw[iM];simp[zW,Pi,UInt8.le_iff_toNat_le];omega
theorem Pm(c:UInt8):IC c.toNat=Pj c:=by rw[iM];simp[IC,Pj,UInt8.le_iff_toNat_le];omega
theorem Pn(c:UInt8):FR c.toNat=GH c:=by rw[iM];simp[FR,GH,UInt8.le_iff_toNat_le];omega
theorem GO(c:UInt8):nI c.toNat=GI c:=by simp only[nI,GI,QO,Pm,Pn,Bool.or_assoc]
theorem we(f o:Nat)(w:World):
  Calls prog 187 #[.func (.func f) #[] #[],.func (.func o) #[] #[]] w fun e w'=>
   e=.returned (.func (.func 239) #[] #[.pointer (some ⟨w.heap.size,0,none⟩),.pointer (some ⟨w.heap.size+1,0,none⟩)])/\w'=(w.alloc (.cells #[.func (.func f) #[] #[]] 228)).alloc (.cells #[.func (.func o) #[] #[]] 228):=by
 go_enter func187,ntmps187;go_wp2;go_ret;simp
theorem Xp(n:aj):mw Kw FR n=fQ n:=Dc Xo Pn n
theorem jg(n:aj)(w:World)(hn:n.length<=1000000000):
  Calls prog 152 #[.string ⟨n.toArray⟩] w fun e w'=>e=.returned (.bool (fQ n))/\Below w.heap.size w w':=by
 have hc:=Ky w.heap.size (w.heap.size+1) ⟨n.toArray⟩ ((w.alloc (.cells #[.func (.func 216) #[] #[]] 228)).alloc (.cells #[.func (.func 217) #[] #[]] 228)) (by rw[jf];omega) (by simp) (by simp);rw[IB,Xp]at hc;have HC:=ae hc;clear hc;go_enter func152,ntmps152;exact qcd
theorem Xq(n:aj):mw ZL nI n=B4 n:=Dc Θ GO n
theorem n9(n:aj)(w:World)(hn:n.length<=1000000000):
  Calls prog 121 #[.string ⟨n.toArray⟩] w fun e w'=>e=.returned (.bool (B4 n))/\Below w.heap.size w w':=by
 have hc:=Nb w.heap.size (w.heap.size+1) ⟨n.toArray⟩ ((w.alloc (.cells #[.func (.func 190) #[] #[]] 228)).alloc (.cells #[.func (.func 189) #[] #[]] 228)) (by rw[jf];omega) (by simp) (by simp);rw[IB,Xq]at hc;have HC:=ae hc;clear hc;go_enter func121,ntmps121;exact qcd
theorem S2(n:aj):mw IC nI n=AT n:=Dc Pm GO n
theorem pX(n:aj)(w:World)(hn:n.length<=1000000000):
  Calls prog 120 #[.string ⟨n.toArray⟩] w fun e w'=>e=.returned (.bool (AT n))/\Below w.heap.size w w':=by
 have hc:=Kz w.heap.size (w.heap.size+1) ⟨n.toArray⟩ ((w.alloc (.cells #[.func (.func 188) #[] #[]] 228)).alloc (.cells #[.func (.func 189) #[] #[]] 228)) (by rw[jf];omega) (by simp) (by simp);rw[IB,S2]at hc;have HC:=ae hc;clear hc;go_enter func120,ntmps120;exact qcd
theorem QP(c:UInt8)(r:aj):(⟨(c::r).toArray⟩:ByteArray).extract 1 (c::r).length=⟨r.toArray⟩:=by
 apply ByteArray.ext;simp[ByteArray.data_extract]
theorem jV(c:UInt8)(r:aj):(⟨(c::r).toArray⟩:ByteArray).extract 1 (r.length+1)=⟨r.toArray⟩:=QP c r
theorem S3(c:UInt8)(r:aj):(((⟨(c::r).toArray⟩:ByteArray).extract 0 1)).toList=[c]:=by
 have:(⟨(c::r).toArray⟩:ByteArray).extract 0 1=⟨#[c]⟩:=by apply ByteArray.ext;simp[ByteArray.data_extract]
 rw[this];simp[ByteArray.toList_eq]
theorem qF(n:aj)(w:World)(hn:n.length<=1000000000):
  Calls prog 242 #[.string ⟨n.toArray⟩,.string ⟨#[63]⟩] w fun e w'=>e=.returned (.bool (n.head?==some 63))/\w=w':=by
 cases n with
 |nil=>
  have an:=();exact qen
 |cons c r=>
  have hs:=jf (c::r);simp at hs;have h1:((1:Int)<=((c::r).length:Int)):=by simp;omega
  exact qen
theorem AY(n:aj)(w:World)(hn:n.length<=1000000000):
  Calls prog 191 #[.string ⟨n.toArray⟩,.string ⟨#[63]⟩] w fun e w'=>e=.returned (.bool (n.head?==some 63))/\w=w':=by
 go_enter func191,ntmps191;go_wp2_with (go_at_call 242;refine(qF n _ hn).mono ?_;rintro e w' ⟨rfl,rfl⟩);go_ret;exact⟨rfl,rfl⟩
theorem pY(r:aj)(w:World)(hn:(63::r).length<=1000000000):
  Calls prog 191 #[.string ⟨(63::r).toArray⟩,.string ⟨#[63]⟩] w fun e w'=>e=.returned (.bool true)/\w=w':=AY (63::r) w hn
theorem rp(n:aj)(w:World)(hn:n.length<=1000000000)(h:(n.head?==some 63)=false):
  Calls prog 191 #[.string ⟨n.toArray⟩,.string ⟨#[63]⟩] w fun e w'=>e=.returned (.bool false)/\w=w':=h▸AY n w hn
theorem wg{n:aj}(h:(n.head?==some 63)=true):∃r,n=63::r:=by
 cases n with
 |nil=>simp at h
 |cons c r=>simp at h;exact⟨r,by rw[h]⟩
theorem lQ(n:aj)(w:World)(hn:n.length<=1000000000):
  Calls prog 123 #[.string ⟨n.toArray⟩] w fun e w'=>e=.returned (.bool (cW n))/\Below w.heap.size w w':=by
 cases h:(n.head?==some 63)with
 |false=>
  have hp:cW n=false:=by simp only[cW,h,Bool.false_and]
  rw[hp];have CP:=ae (fun w=>rp n w hn h);have up:=();exact qeo
 |true=>
  obtain⟨r,rfl⟩:=wg h;have hp:cW (63::r)=fQ r:=by simp[cW]
  have an:=();exact qce
theorem pZ(n:aj)(w:World)(hn:n.length<=1000000000):
  Calls prog 185 #[.string ⟨n.toArray⟩] w fun e w'=>e=.returned (.bool (ej n))/\Below w.heap.size w w':=by
 have hs:=jf n
 by_cases hl:n.length<=16
 ·have d1:decide ((n.length:Int)<=16)=true:=by simp;omega
  cases h:(n.head?==some 63)with
  |false=>
   have hp:ej n=false:=by simp only[ej,h,Bool.false_and,Bool.and_false]
   rw[hp];have CP:=ae (fun w=>rp n w hn h);clear h hp;have up:=();exact qcf
  |true=>
   obtain⟨r,rfl⟩:=wg h;have hp:ej (63::r)=AT r:=by simp only[ej,hl,List.head?_cons,List.tail_cons,decide_true,dL,beq_self_eq_true]
   have it:=();exact qce
 ·have d1:decide ((n.length:Int)<=16)=false:=by simp;omega
  have hp:ej n=false:=by simp[ej,hl]
  rw[hp];clear hp;have Ss:=();exact qcf
theorem m7(n:aj)(w:World)(hn:n.length<=1000000000):
  Calls prog 186 #[.string ⟨n.toArray⟩] w fun e w'=>e=.returned (.bool (dI n))/\Below w.heap.size w w':=by
 have hs:=jf n
 by_cases hl:n.length<=16
 ·have d1:decide ((n.length:Int)<=16)=true:=by simp;omega
  cases h:(n.head?==some 63)with
  |false=>
   have hp:dI n=false:=by simp only[dI,h,Bool.false_and,Bool.and_false]
   rw[hp];have CP:=ae (fun w=>rp n w hn h);clear h hp;have up:=();exact qcg
  |true=>
   obtain⟨r,rfl⟩:=wg h;have hp:dI (63::r)=B4 r:=by simp only[dI,hl,List.head?_cons,List.tail_cons,decide_true,dL,beq_self_eq_true]
   exact qce
 ·have d1:decide ((n.length:Int)<=16)=false:=by simp;omega
  have hp:dI n=false:=by simp[dI,hl]
  rw[hp];clear hp;have Ss:=();exact qcg
theorem lS(n:aj)(w:World)(hn:n.length<=1000000000):
  Calls prog 119 #[.string ⟨n.toArray⟩] w fun e w'=>e=.returned (.bool (eA n))/\Below w.heap.size w w':=by
 unfold eA
 cases h1:ej n with
 |true=>
  have an:=();exact qep
 |false=>
  exact qep
theorem Nc(n:aj):ej n=(eA n&&AT n.tail):=by
 exact qeq
theorem ID(n:aj)(w:World)(hn:n.length<=1000000000):
  Calls prog 65 #[.string ⟨n.toArray⟩] w fun e w'=>e=.returned (.bool (ej n))/\Below w.heap.size w w':=by
 rw[Nc]
 cases h:eA n with
 |false=>
  have C1:=ae (fun w=>h▸lS n w hn);clear h;have up:=();exact qer
 |true=>
  have ql4:=();exact qes
theorem Nd(n:aj):dI n=(eA n&&B4 n.tail):=by
 exact qeq
theorem IE(n:aj)(w:World)(hn:n.length<=1000000000):
  Calls prog 67 #[.string ⟨n.toArray⟩] w fun e w'=>e=.returned (.bool (dI n))/\Below w.heap.size w w':=by
 rw[Nd]
 cases h:eA n with
 |false=>
  have C1:=ae (fun w=>h▸lS n w hn);clear h;go_enter func67,ntmps67;exact qet
 |true=>
  exact qes
theorem gS(q:FQ)(w:World):
  Calls prog 93 #[q.val] w fun e w'=>e=.returned (.bool (br q.o))/\Below w.heap.size w w':=by
 obtain⟨o,n,a,l,c,b,m,e⟩:=q;unfold FQ.val br;go_enter func93,ntmps93;exact qeu
theorem lg(q:FQ)(w:World):
  Calls prog 146 #[q.val] w fun e w'=>e=.returned (.bool (br q.o))/\Below w.heap.size w w':=by
 obtain⟨o,n,a,l,c,b,m,e⟩:=q;unfold FQ.val br;go_enter func146,ntmps146;exact qeu
theorem ie(n:aj)(w:World)(hn:n.length<=1000000000):
  Calls prog 130 #[.string ⟨n.toArray⟩] w fun e w'=>e=.returned (.string ⟨(cg n).toArray⟩)/\w=w':=by
 have hs:=jf n;go_enter func130,ntmps130;go_wp2;go_ret;exact⟨Xn (by apply ByteArray.ext;simp[cg]),rfl⟩
theorem jh(n:aj)(w:World):
  Calls prog 131 #[.string ⟨n.toArray⟩] w fun e w'=>e=.returned (.agg #[.bool true,.string ⟨n.toArray⟩,.slice none 0 0])/\Below w.heap.size w w':=by
 go_enter func131,ntmps131;go_wp2;refine bX (v:=.agg #[.bool true,.string ⟨n.toArray⟩,.slice none 0 0]) (by simp[results,results131,go_sem]) rfl ⟨rfl,?_⟩;exact dp
section
variable{F:Fence}{n:Nat}{P:Program}{Q:Exit->Act->World->Prop}
theorem bz{o:Oper}{a:Act}{w:World}{K:Act->World->Prop}(s x:Operand)(t:TypeId)
  (ho:o.op=.call {callee:=.builtin .append,args:=#[s,x],argTypes:=#[t,t] })
  (base:Nat) (e:TypeId) (i:TypeInfo) (z:Value) (size bytes:Nat) (ht:P.underlying t=some (.slice e)) (hi:P.info? e=some i) (hz:i.zero=some z)
  (Po:i.size=size) (hby:i.bytes=bytes) (hzs:z.cells.size=size) (hsz:0<size)
  (v:Value) (k:Nat) (xs:List Value) (hs:a.eval s=v) (aE:w.ownsRow base e size v k xs)
  (ad:Addr) (m c:Nat) (z6:List Value) (hx:a.eval x=.slice (some ad) m c) (hl:z6.length=m*size) (Pp:∀j u,z6[j]?=some u->w.cell? (ad.add j)=some u) (h1:∀u∈z6,u.oneCell'=true)
  (hm:0<m) (h63:k+m<=maxLen) (IF:(k+m)*bytes<=140737488355328) (zcs:base<=w.heap.size) (H:Nat) (hH:w.heap.size=H)
  (h:∀g cap w',w'.ownsRow base e size (.slice (some ⟨g,0,none⟩) (k+m) cap) (k+m) (xs++z6)->w.grownBy w' v.ownBlock->(v.ownBlock=some g\/g=H)->g<w'.heap.size->K (a.put o.dst (.slice (some ⟨g,0,none⟩) (k+m) cap)) w'):o.wpIn F n P a w K Q:=by
 obtain⟨g,cap,w',hr,h2,h3,h4,h5⟩:=run_append_lies (P:=P) w t o.type base e i z size bytes ht hi hz Po hby hzs hsz v k xs aE ad m c z6 hl Pp h1 hm h63 IF zcs H hH;have it:=();exact qev
end
structure ce(T:TypeId)(R lo:Nat)(mk:Value->Array Value)(Row:Value->World->Prop)(W1 W:World)(row:Value):Prop where
 box:W.heap[R]?=some (.cells (mk row) T (0,0))
 row:Row row W
 kp:Kp (fun b=>b=R) W1 W
 lt:R<lo
 base:lo=W1.heap.size
theorem ce.size{T:TypeId}{mk:Value->Array Value}{W:World}(h:ce T R lo mk Row W1 W row):lo<=W.heap.size:=by have:=h.kp.size;have:=h.base;omega
theorem ce.cell{T:TypeId}{mk:Value->Array Value}{W:World}(h:ce T R lo mk Row W1 W row)(k:Nat):W.cell? ⟨R,k,none⟩=(mk row)[k]?:=aT h.box k
theorem ce.below{T:TypeId}{mk:Value->Array Value}{w W:World}(h:ce T R lo mk Row W1 W row)(hb:Below w.heap.size w W1)(hR:w.heap.size<=R):Below w.heap.size w W:=
 ⟨h.kp.os.trans hb.os,h.kp.tape.trans hb.tape,h.kp.output.trans hb.output,aR hb.size h.kp.size,fun b hlt=>(h.kp.same b (bP hlt hb.size) (by omega)).trans (hb.block b hlt)⟩
theorem ce.start{T:TypeId}{mk:Value->Array Value}(hx:W1.heap[R]?=some (.cells (mk row) T (0,0)))(hr:Row row W1):ce T R W1.heap.size mk Row W1 W1 row:=
 ⟨hx,hr,Kp.refl _,(bQ hx),rfl⟩
theorem ce.later{T:TypeId}{mk:Value->Array Value}{W:World}(h:ce T R lo mk Row W1 W row)(hb:Below W.heap.size W W')(hr:Row row W->Row row W'):ce T R lo mk Row W1 W' row:=
 ⟨(hb.block R (bQ h.box)).trans h.box,hr h.row,h.kp.trans (Kp.below hb),h.lt,h.base⟩
theorem ce.other{T:TypeId}{mk:Value->Array Value}{W:World}(h:ce T R lo mk Row W1 W row){b:Nat}(jd:b≠R)(hb:W1.heap[b]?=some o):W.heap[b]?=some o:=
 (h.kp.same b (bQ hb) jd).trans hb
theorem bJ{W:World}{F:Nat}{cs:Array Value}{T:TypeId}(h:W.heap[R]?=some (.cells cs T (0,0)))(u:Value):(W.setCell ⟨R,F,none⟩ u).heap[R]?=some (.cells (cs.setIfInBounds F u) T (0,0)):=heap_setCell_same _ _ F _ _ u h
theorem ce.at4{T:TypeId}{size n kk:Nat}{mk:Value->Array Value}
  (h:ce T R lo mk Row W1 wr row) (aE:wr.ownsRow lo e size row n xs) (hA:Below wr.heap.size wr A) (au:(A.alloc o).grownBy w4 row.ownBlock):w4.heap[R]?=some (.cells (mk row) T (0,0))/\w4.frozen? ⟨R,kk,none⟩=false/\w4.cell? ⟨R,kk,none⟩=(mk row)[kk]?:=by
 have hlt:=(bQ h.box);have hs:=hA.size;have hx:w4.heap[R]?=some (.cells (mk row) T (0,0)):=(au.block R (by simp;omega) (fun e=>by have:=(aE.lt R e.symm).1;have:=h.lt;omega)).trans ((bZ _ _ _ (by omega)).trans ((hA.block R hlt).trans h.box));exact⟨hx,by simp[World.frozen?,hx],aT hx kk⟩
theorem ce.kp5{T:TypeId}{size n F:Nat}{mk:Value->Array Value}{u:Value}
  (h:ce T R lo mk Row W1 wr row) (aE:wr.ownsRow lo e size row n xs) (hA:Below wr.heap.size wr A) (au:(A.alloc o).grownBy w4 row.ownBlock):Kp (fun b=>b=R) W1 (w4.setCell ⟨R,F,none⟩ u):=by
 have hs:=hA.size;have hg:=au.size;simp only[World.size_alloc]at hg;have h1:Kp (fun b=>b=R) wr (w4.setCell ⟨R,F,none⟩ u)->Kp (fun b=>b=R) W1 (w4.setCell ⟨R,F,none⟩ u):=fun k=>h.kp.trans k;refine⟨au.os.trans (hA.os.trans h.kp.os),au.tape.trans (hA.tape.trans h.kp.tape),au.output.trans (hA.output.trans h.kp.output),by have:=h.kp.size;simp;omega,fun b hb jd=>?_⟩;have bU:b<wr.heap.size:=bP hb h.kp.size;exact(e_ _ _ _ _ (by simpa using jd)).trans ((au.block b (by simp;omega) (fun e=>by have:=(aE.lt b e.symm).1;have:=h.base;omega)).trans ((bZ _ _ _ (by omega)).trans ((hA.block b bU).trans (h.kp.same b hb jd))))
theorem ce.stepT{T:TypeId}{F:Nat}{mk:Value->Array Value}{ts:List Tm}{t:Tm}{qs:List TQ}{p:TQ}
  (h:ce T R lo mk (fun r=>dH lo r ts) W1 wr row) (aE:wr.ownsRow lo 43 3 row ts.length (qs.flatMap TQ.cells)) (eJ:qs.length=ts.length) (gM:∀j (h:j<qs.length) (h2:j<ts.length),aN (fun b=>lo<=b/\row.ownBlock≠some b) wr qs[j].val ts[j])
  (hA:Below wr.heap.size wr A) (hp:aN (wr.heap.size<=·) A p.val t)
  (aV:w4.ownsRow lo 43 3 (.slice (some ⟨g,0,none⟩) (ts.length+1) cap) (ts.length+1) (qs.flatMap TQ.cells++p.cells)) (au:(A.alloc o).grownBy w4 row.ownBlock) (hg:row.ownBlock=some g\/g=A.heap.size+1)
  (AZ:(mk row).setIfInBounds F (.slice (some ⟨g,0,none⟩) (ts.length+1) cap)=mk (.slice (some ⟨g,0,none⟩) (ts.length+1) cap)):
  ce T R lo mk (fun r=>dH lo r (ts++[t])) W1 (w4.setCell ⟨R,F,none⟩ (.slice (some ⟨g,0,none⟩) (ts.length+1) cap)) (.slice (some ⟨g,0,none⟩) (ts.length+1) cap):=by
 have an:=();exact qbm
theorem ce.stepF{T:TypeId}{F:Nat}{mk:Value->Array Value}{ts:List Fm}{t:Fm}{qs:List FQ}{p:FQ}
  (h:ce T R lo mk (fun r=>eO lo r ts) W1 wr row) (aE:wr.ownsRow lo 36 4 row ts.length (qs.flatMap FQ.cells)) (eJ:qs.length=ts.length) (gM:∀j (h:j<qs.length) (h2:j<ts.length),aC (fun b=>lo<=b/\row.ownBlock≠some b) wr qs[j].val ts[j])
  (hA:Below wr.heap.size wr A) (hp:aC (wr.heap.size<=·) A p.val t)
  (aV:w4.ownsRow lo 36 4 (.slice (some ⟨g,0,none⟩) (ts.length+1) cap) (ts.length+1) (qs.flatMap FQ.cells++p.cells)) (au:(A.alloc o).grownBy w4 row.ownBlock) (hg:row.ownBlock=some g\/g=A.heap.size+1)
  (AZ:(mk row).setIfInBounds F (.slice (some ⟨g,0,none⟩) (ts.length+1) cap)=mk (.slice (some ⟨g,0,none⟩) (ts.length+1) cap)):
  ce T R lo mk (fun r=>eO lo r (ts++[t])) W1 (w4.setCell ⟨R,F,none⟩ (.slice (some ⟨g,0,none⟩) (ts.length+1) cap)) (.slice (some ⟨g,0,none⟩) (ts.length+1) cap):=by
 have it:=();exact qbm
theorem sN{W:World}{b:Nat}{a1 a2 v1 v2:Value}{T:TypeId}(h:W.heap[b]?=some (.cells #[a0,a1,a2] T (0,0))):
  (((W.setCell ⟨b,0,none⟩ v0).setCell ⟨b,1,none⟩ v1).setCell ⟨b,2,none⟩ v2).heap[b]?=some (.cells #[v0,v1,v2] T (0,0)):=by
 have h0:=bJ (F:=0) h v0;have h1:=bJ (F:=1) h0 v1;exact(bJ (F:=2) h1 v2).trans rfl
theorem nJ{W:World}{b:Nat}{a1 a2 a3 v1 v2 v3:Value}{T:TypeId}(h:W.heap[b]?=some (.cells #[a0,a1,a2,a3] T (0,0))):
  ((((W.setCell ⟨b,0,none⟩ v0).setCell ⟨b,1,none⟩ v1).setCell ⟨b,2,none⟩ v2).setCell ⟨b,3,none⟩ v3).heap[b]?=some (.cells #[v0,v1,v2,v3] T (0,0)):=by
 have h0:=bJ (F:=0) h v0;have h1:=bJ (F:=1) h0 v1;have h2:=bJ (F:=2) h1 v2;exact(bJ (F:=3) h2 v3).trans rfl
theorem fW{W:World}{b:Nat}{v1 v2:Value}:Kp (fun c=>c=b) W (((W.setCell ⟨b,0,none⟩ v0).setCell ⟨b,1,none⟩ v1).setCell ⟨b,2,none⟩ v2):=
 ⟨rfl,rfl,rfl,by simp,fun c _ hc=>(e_ _ _ _ _ (by simpa using hc)).trans ((e_ _ _ _ _ (by simpa using hc)).trans (e_ _ _ _ _ (by simpa using hc)))⟩
theorem ev{W:World}{b:Nat}{v1 v2 v3:Value}:Kp (fun c=>c=b) W ((((W.setCell ⟨b,0,none⟩ v0).setCell ⟨b,1,none⟩ v1).setCell ⟨b,2,none⟩ v2).setCell ⟨b,3,none⟩ v3):=
 ⟨rfl,rfl,rfl,by simp,fun c _ hc=>(e_ _ _ _ _ (by simpa using hc)).trans ((e_ _ _ _ _ (by simpa using hc)).trans ((e_ _ _ _ _ (by simpa using hc)).trans (e_ _ _ _ _ (by simpa using hc))))⟩
theorem Below.kp1{w W:World}{b:Nat}(h:Below w.heap.size w W)(hk:Kp (fun c=>c=b) W W')(hb:w.heap.size<=b):Below w.heap.size w W':=
 ⟨hk.os.trans h.os,hk.tape.trans h.tape,hk.output.trans h.output,aR h.size hk.size,fun c hc=>(hk.same c (bP hc h.size) (by omega)).trans (h.block c hc)⟩
theorem dH.kp1{b:Nat}{v:Value}{ts:List Tm}{W:World}(h:dH lo v ts W)(hk:Kp (fun c=>c=b) W W')(hb:b<lo):dH lo v ts W':=h.held (fun c hc hlt=>hk.same c hlt (by omega))
theorem eO.kp1{b:Nat}{v:Value}{ts:List Fm}{W:World}(h:eO lo v ts W)(hk:Kp (fun c=>c=b) W W')(hb:b<lo):eO lo v ts W':=h.held (fun c hc hlt=>hk.same c hlt (by omega))
theorem dH.term{w:Nat}{W:World}{v:Bool}{n:aj}{ts:List Tm}{a:Option Addr}{l:Nat}(h:dH lo (.slice a l c) ts W)(hw:w<=lo):aN (w<=·) W (TQ.val ⟨v,⟨n.toArray⟩,a,l,c⟩) (.mk v n ts):=
 aW.2 ⟨_,rfl,h.terms.move (fun _ hok _=>⟨aR hw hok,rfl⟩)⟩
theorem eO.form{lo2 w:Nat}{W:World}{o:Int}{n:aj}{ts:List Tm}{fs:List Fm}{a b:Option Addr}{l e:Nat}(ht:dH lo (.slice a l c) ts W)(hf:eO lo2 (.slice b m e) fs W)(hw:w<=lo)(SA:w<=lo2):aC (w<=·) W (FQ.val ⟨o,⟨n.toArray⟩,a,l,c,b,m,e⟩) (.mk o n ts fs):=
 aX.2 ⟨_,_,rfl,ht.terms.move (fun _ hok _=>⟨aR hw hok,rfl⟩),hf.forms.move (fun _ hok _=>⟨aR SA hok,rfl⟩)⟩
section
attribute [local go_sem] Oper.semAt_some
theorem rq:∀(t:Tm),e7 t->∀(ok:Nat->Prop)(w:World)(q:TQ),aN ok w q.val t→
  Calls prog 53 #[q.val] w fun e w'=>∃p:TQ,e=.returned p.val/\aN (w.heap.size<=·) w' p.val t/\Below w.heap.size w w':=by
 obtain⟨i0,hi,oO,jv,iG⟩:=info_parts ib;intro t
 induction t using Tm.ind with
 |h v n a ih=>
  intro aI ok w q hq;have ql8:=();exact qaH
