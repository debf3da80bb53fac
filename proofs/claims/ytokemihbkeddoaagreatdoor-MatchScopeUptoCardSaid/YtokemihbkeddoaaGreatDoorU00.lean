/-
Short names for much used terms (compact.py puts them in).
A region that draws its order,inside a fence and in a round too: what yields its value in every world that meets S may be taken first;S is shown anew behind every operation that is carried out.
A region that draws its order,whose operations make memory: what each operation leaves is said of its value and of the world (and of a ghost),and what is said stays when other operations are carried out. Whatever order is drawn,behind the region all of it holds.
-/
import Derived.Test.YtokemihbkeddoaaGreatDoorT00
import Derived.Test.YtokemihbkeddoaaGreatDoorT01
import Derived.Test.YtokemihbkeddoaaGreatDoorT02
import Derived.Below
import Derived.Lib.Hide
import Derived.RangeFuncRecord
import Derived.OrdersIn
import Derived.OrdersHeld
import Derived.TacticsIn
import Derived.TacticsInMore
import Derived.OwnWalkIn
import Derived.RegionIn
import Derived.Stop.RegionWithIn
import Derived.BigRegionIn
namespace Go.Proofs.YtokemihbkeddoaaGreatDoor
open Go Go.RowKit Lib
set_option maxRecDepth 100000
set_option maxHeartbeats 64000000
theorem bl {α:Type} {l:Array α} {i:Nat} {a:α} (h:l[i]?=some a):i<l.size:=(Array.getElem?_eq_some_iff.1 h).1
theorem ct {w:World} {o:Obj}:Below w.heap.size w (w.alloc o):=(Below.refl _ _).alloc (Nat.le_refl _) _
theorem lsa {α:Type} (l:List α) (i:Nat) (a:α):l.toArray.setIfInBounds i a=(l.set i a).toArray:=by simp
theorem lsb {α:Type} (a b:α) (l:List α):(a :: l).set 0 b=b :: l:=rfl
theorem lsc {α:Type} (a b:α) (l:List α) (n:Nat):(a :: l).set (n+1) b=a :: l.set n b:=rfl
def Hd (p:Prop):Prop:=p
theorem Hd.o {p:Prop} (h:Hd p):p:=h
theorem ab {p:Prop} (h:p):Hd p:=h
theorem ao {α:Sort _} (a:α):∃x,x=a:=⟨a,rfl⟩
theorem bR {a b c:Nat} (h:b=c) (l:a<b):a<c:=h ▸ l
theorem bC {W w:World} {b:Nat} {o:Obj} (hb:Below W.heap.size W w) (h:W.heap[b]?=some o):w.heap[b]?=some o:=(hb.block b (bl h)).trans h
theorem ak {α:Type}:(∀ (l:List α) (i:Nat) (a:α),l.toArray.setIfInBounds i a=(l.set i a).toArray)/\(∀ (a b:α) (l:List α),(a :: l).set 0 b=b :: l)/\(∀ (a b:α) (l:List α) (n:Nat),(a :: l).set (n+1) b=a :: l.set n b):=⟨lsa,lsb,lsc⟩
section
variable {a b c d e f g h i j k l m n:Prop}
theorem an3 (A:a) (B:b) (C:c):a/\b/\c:=⟨A,B,C⟩
theorem an4 (A:a) (B:b) (C:c) (D:d):a/\b/\c/\d:=⟨A,B,C,D⟩
theorem an5 (A:a) (B:b) (C:c) (D:d) (E:e):a/\b/\c/\d/\e:=⟨A,B,C,D,E⟩
theorem an6 (A:a) (B:b) (C:c) (D:d) (E:e) (F:f):a/\b/\c/\d/\e/\f:=⟨A,B,C,D,E,F⟩
theorem OX (A:a) (B:b) (C:c) (D:d) (E:e) (F:f) (G:g):a/\b/\c/\d/\e/\f/\g:=⟨A,B,C,D,E,F,G⟩
theorem Z2 (A:a) (B:b) (C:c) (D:d) (E:e) (F:f) (G:g) (H:h):a/\b/\c/\d/\e/\f/\g/\h:=⟨A,B,C,D,E,F,G,H⟩
theorem an9 (A:a) (B:b) (C:c) (D:d) (E:e) (F:f) (G:g) (H:h) (I:i):a/\b/\c/\d/\e/\f/\g/\h/\i:=⟨A,B,C,D,E,F,G,H,I⟩
theorem V7 (A:a) (B:b) (C:c) (D:d) (E:e) (F:f) (G:g) (H:h) (I:i) (J:j):a/\b/\c/\d/\e/\f/\g/\h/\i/\j:=⟨A,B,C,D,E,F,G,H,I,J⟩
theorem zcm (A:a) (B:b) (C:c) (D:d) (E:e) (F:f) (G:g) (H:h) (I:i) (J:j) (K:k):a/\b/\c/\d/\e/\f/\g/\h/\i/\j/\k:=⟨A,B,C,D,E,F,G,H,I,J,K⟩
theorem zcn (A:a) (B:b) (C:c) (D:d) (E:e) (F:f) (G:g) (H:h) (I:i) (J:j) (K:k) (L:l):a/\b/\c/\d/\e/\f/\g/\h/\i/\j/\k/\l:=⟨A,B,C,D,E,F,G,H,I,J,K,L⟩
theorem zco (A:a) (B:b) (C:c) (D:d) (E:e) (F:f) (G:g) (H:h) (I:i) (J:j) (K:k) (L:l) (M:m):a/\b/\c/\d/\e/\f/\g/\h/\i/\j/\k/\l/\m:=⟨A,B,C,D,E,F,G,H,I,J,K,L,M⟩
theorem zcp (A:a) (B:b) (C:c) (D:d) (E:e) (F:f) (G:g) (H:h) (I:i) (J:j) (K:k) (L:l) (M:m) (N:n):a/\b/\c/\d/\e/\f/\g/\h/\i/\j/\k/\l/\m/\n:=⟨A,B,C,D,E,F,G,H,I,J,K,L,M,N⟩
theorem aF (A:a) (B:b):Hd (a/\b):=⟨A,B⟩
theorem bx (A:a) (B:b) (C:c):Hd (a/\b/\c):=⟨A,B,C⟩
theorem ce (A:a) (B:b) (C:c) (D:d):Hd (a/\b/\c/\d):=⟨A,B,C,D⟩
theorem eO (A:a) (B:b) (C:c) (D:d) (E:e):Hd (a/\b/\c/\d/\e):=⟨A,B,C,D,E⟩
theorem pI (A:a) (B:b) (C:c) (D:d) (E:e) (F:f):Hd (a/\b/\c/\d/\e/\f):=⟨A,B,C,D,E,F⟩
theorem aS (A:a) (B:b):Hd a/\Hd b:=⟨A,B⟩
theorem cf (A:a) (B:b) (C:c):Hd a/\Hd b/\Hd c:=⟨A,B,C⟩
theorem eA (A:a) (B:b) (C:c) (D:d):Hd a/\Hd b/\Hd c/\Hd d:=⟨A,B,C,D⟩
theorem vD (A:a) (B:b) (C:c) (D:d) (E:e):Hd a/\Hd b/\Hd c/\Hd d/\Hd e:=⟨A,B,C,D,E⟩
theorem So (A:a) (B:b) (C:c) (D:d) (E:e) (F:f):Hd a/\Hd b/\Hd c/\Hd d/\Hd e/\Hd f:=⟨A,B,C,D,E,F⟩
theorem Sp (A:a) (B:b) (C:c) (D:d) (E:e) (F:f) (G:g):Hd a/\Hd b/\Hd c/\Hd d/\Hd e/\Hd f/\Hd g:=⟨A,B,C,D,E,F,G⟩
theorem OY (A:a) (B:b) (C:c) (D:d) (E:e) (F:f) (G:g) (H:h):Hd a/\Hd b/\Hd c/\Hd d/\Hd e/\Hd f/\Hd g/\Hd h:=⟨A,B,C,D,E,F,G,H⟩
theorem zcq (A:a) (B:b) (C:c) (D:d) (E:e) (F:f) (G:g) (H:h) (I:i):Hd a/\Hd b/\Hd c/\Hd d/\Hd e/\Hd f/\Hd g/\Hd h/\Hd i:=⟨A,B,C,D,E,F,G,H,I⟩
theorem In (A:a) (B:b) (C:c) (D:d) (E:e) (F:f) (G:g) (H:h) (I:i) (J:j):Hd a/\Hd b/\Hd c/\Hd d/\Hd e/\Hd f/\Hd g/\Hd h/\Hd i/\Hd j:=⟨A,B,C,D,E,F,G,H,I,J⟩
end
theorem h_ {w:World} {o:Obj} {k:Nat} (h:k=w.heap.size):(w.alloc o).heap[k]?=some o:=by rw[h];exact World.alloc_heap_new w o
section
variable {w W:World} {o1 o2 o3 o4 o5:Obj}
theorem cB (h:W=w.alloc o1):Below w.heap.size w W:=by rw[h];exact ct
theorem bN (h:W=w.alloc o1):W.heap[w.heap.size]?=some o1:=by rw[h];exact h_ (by simp)
theorem DL (h:W=w.alloc o1):W.heap.size=w.heap.size+1:=by rw[h];simp
theorem j7 (h:W=(w.alloc o1).alloc o2):Below w.heap.size w W:=by rw[h];exact ct.alloc (by simp <;> omega) _
theorem rm (h:W=(w.alloc o1).alloc o2):W.heap[w.heap.size]?=some o1:=by rw[h];exact (Below.heap_alloc _ _ _ (by simp <;> omega)).trans (h_ (by simp))
theorem iV (h:W=(w.alloc o1).alloc o2):W.heap[w.heap.size+1]?=some o2:=by rw[h];exact h_ (by simp)
theorem vE (h:W=(w.alloc o1).alloc o2):W.heap.size=w.heap.size+2:=by rw[h];simp
theorem vF (h:W=((w.alloc o1).alloc o2).alloc o3):Below w.heap.size w W:=by rw[h];exact (ct.alloc (by simp <;> omega) _).alloc (by simp <;> omega) _
theorem wK (h:W=((w.alloc o1).alloc o2).alloc o3):W.heap[w.heap.size]?=some o1:=by rw[h];exact (Below.heap_alloc _ _ _ (by simp <;> omega)).trans ((Below.heap_alloc _ _ _ (by simp <;> omega)).trans (h_ (by simp)))
theorem pR (h:W=((w.alloc o1).alloc o2).alloc o3):W.heap[w.heap.size+1]?=some o2:=by rw[h];exact (Below.heap_alloc _ _ _ (by simp <;> omega)).trans (h_ (by simp))
theorem oa (h:W=((w.alloc o1).alloc o2).alloc o3):W.heap[w.heap.size+1+1]?=some o3:=by rw[h];exact h_ (by simp)
theorem F6 (h:W=((w.alloc o1).alloc o2).alloc o3):W.heap.size=w.heap.size+3:=by rw[h];simp
theorem OZ (h:W=(((w.alloc o1).alloc o2).alloc o3).alloc o4):Below w.heap.size w W:=by rw[h];exact ((ct.alloc (by simp <;> omega) _).alloc (by simp <;> omega) _).alloc (by simp <;> omega) _
theorem Lz (h:W=(((w.alloc o1).alloc o2).alloc o3).alloc o4):W.heap[w.heap.size]?=some o1:=by rw[h];exact (Below.heap_alloc _ _ _ (by simp <;> omega)).trans ((Below.heap_alloc _ _ _ (by simp <;> omega)).trans ((Below.heap_alloc _ _ _ (by simp <;> omega)).trans (h_ (by simp))))
theorem QY (h:W=(((w.alloc o1).alloc o2).alloc o3).alloc o4):W.heap[w.heap.size+1]?=some o2:=by rw[h];exact (Below.heap_alloc _ _ _ (by simp <;> omega)).trans ((Below.heap_alloc _ _ _ (by simp <;> omega)).trans (h_ (by simp)))
theorem QZ (h:W=(((w.alloc o1).alloc o2).alloc o3).alloc o4):W.heap[w.heap.size+1+1]?=some o3:=by rw[h];exact (Below.heap_alloc _ _ _ (by simp <;> omega)).trans (h_ (by simp))
theorem LA (h:W=(((w.alloc o1).alloc o2).alloc o3).alloc o4):W.heap[w.heap.size+1+1+1]?=some o4:=by rw[h];exact h_ (by simp)
theorem Sq (h:W=(((w.alloc o1).alloc o2).alloc o3).alloc o4):W.heap.size=w.heap.size+4:=by rw[h];simp
end
end Go.Proofs.YtokemihbkeddoaaGreatDoor
namespace Go.Proofs.YtokemihbkeddoaaGreatDoor
open Go
section
variable {F:Fence} {n:Nat} {P:Program} {ops:Array Oper} {Q:Exit->Act->World->Prop} {md:Region.Mode} {S:World->Prop} {e:Nat}
def jP (F:Fence) (ops:Array Oper):Prop:=∀ (j:Nat) (o:Oper),ops[j]?=some o->∀ ρ,Oper.semAt F.round ρ o=execOp ρ o
def mj (o:Oper):Bool:=match o.op with | .defer _=>false | _=>true
theorem DM (h:ops.toList.all mj=true):jP F ops:=fun j o ho ρ=>by
 cases hr:F.round with
 | none=>exact Oper.semAt_none _ _
 | some l=>
  refine Oper.semAt_some l ρ o (fun c hc=>?_)
  have hm:o∈ops.toList:=by
   have:=List.mem_of_getElem? (l:=ops.toList) (i:=j) (a:=o) (by simpa using ho)
   exact this
  have:=List.all_eq_true.1 h o hm
  unfold mj at this
  rw[hc]at this
  cases this
def YieldsM (P:Program) (ops:Array Oper) (S:World->Prop) (o:Oper) (v:Value) (a:Act):Prop:=YieldsIf P ops S o v a/\∀ w,o.about P w a.eval=none
theorem wL {i:Nat} {o:Oper} {v:Value} {a:Act} (tb:jP F ops) (hi:ops[i]?=some o) (hy:YieldsM P ops S o v a) {K:Act->World->Prop} {w:World} (hS:S w) (h:K (a.put o.dst v) w):wpOpIn F n P ops Q i K a w:=by
 unfold wpOpIn
 simp only[hi]
 have F8:∀ f,o.about P w a.eval=some f->F.fn f:=fun f hf=>by rw[hy.2 w]at hf;cases hf
 rcases hy.1 with ⟨hw,hv⟩ | ⟨hw,rfl⟩
 ·simp only[hw,if_true,Oper.wpIn,tb i o hi,hv w hS,Oper.uponIn];exact ⟨F8,h⟩
 ·simp only[hw,Bool.false_eq_true,if_false];exact ⟨F8,h⟩
theorem YieldsM.of_same {o:Oper} {v:Value} {a a':Act} (hy:YieldsM P ops S o v a) (he:execOp a'.eval o=execOp a.eval o)
  (hw:Region.wanted o (yielded ops a'.tmps)=Region.wanted o (yielded ops a.tmps)) (hb:∀ w,o.about P w a'.eval=o.about P w a.eval):YieldsM P ops S o v a':=
 ⟨hy.1.of_same he hw,fun w=>by rw[hb w];exact hy.2 w⟩
theorem DN {j:Nat} {oi oj:Oper} {v:Value} (tb:jP F ops) (hj:ops[j]?=some oj) (hap:oi.apart ops oj=true)
  (hsi:∀ cs b,oi.op≠.select cs b) (hsj:∀ cs b,oj.op≠.select cs b)
  (hQ:∀ c a w,Q (.panic c) (a.put oi.dst v) w->Q (.panic c) a w) {K:Act->World->Prop} {a:Act} {w:World}
  (hy:YieldsM P ops S oi v a) (h:wpOpIn F n P ops Q j K (a.put oi.dst v) w) :
  wpOpIn F n P ops Q j (fun a' w'=>YieldsM P ops S oi v a'/\K (a'.put oi.dst v) w') a w:=by
 obtain ⟨h1,h2,h3⟩:=Oper.apart_spec hap
 have keep:∀ (a:Act),YieldsM P ops S oi v a->∀ u,YieldsM P ops S oi v (a.put oj.dst u):=fun a hy u=>
  hy.of_same (execOp_put oi hsi a oj.dst u h3) (wanted_put oi a oj.dst u h3) (fun w=>about_put oi w a oj.dst u h3)
 have V8:∀ d,YieldsM P ops S oi v { a with defers:=d :: a.defers }:=fun d=>hy.of_same rfl rfl (fun _=>rfl)
 have hse:=tb j oj hj
 unfold wpOpIn at *
 simp only[hj]at h ⊢
 rw[wanted_put oj a oi.dst v h1,about_put oj w a oi.dst v h1]at h
 split
 ·rename_i hw
  simp only[hw,if_true]at h
  unfold Oper.wpIn at *
  rw[about_put oj w a oi.dst v h1]at h
  refine ⟨h.1,?_⟩
  have h:=h.2
  rw[hse,execOp_put oj hsj a oi.dst v h1]at h
  rw[hse]
  generalize (execOp a.eval oj).run P w=r at *
  cases r with
  | ok x w'=>
   cases x <;> simp only[Oper.uponIn]at h ⊢
   case value u=>exact ⟨keep a hy u,by rw[<-Act.put_comm a v u h2];exact h⟩
   case skip=>exact ⟨keep a hy _,by rw[<-Act.put_comm a v undef h2];exact h⟩
   case defer d=>
    refine ⟨keep _ (V8 d) _,?_⟩
    rw[<-Act.put_comm _ v undef h2,<-Act.put_defers]
    exact h
   case enter f args=>
    refine ⟨h.1,CallsIn.mono h.2 fun e LC he=>?_⟩
    exact pm246
   case row row args=>exact ⟨h.1,RowsIn.mono h.2 fun u LC he=>⟨keep a hy u,by rw[<-Act.put_comm a v u h2];exact he⟩⟩
   case round l f tmps assign body=>
    refine ⟨h.1,RoundIn.mono h.2 fun e LC he=>?_⟩
    exact pm246
  | halt x w'=>
   cases x <;> simp only[Oper.uponIn]at h ⊢
   case panic u=>exact hQ _ _ _ h
 ·rename_i hw
  simp only[hw]at h
  exact ⟨h.1,keep a hy _,by rw[<-Act.put_comm a v undef h2];exact h.2⟩
def DO (md:Region.Mode) (ops:Array Oper) (i:Nat):Nat->Nat->Bool
 | 0,_=>false
 | d+1,j=>match ops[j]? with
  | none=>false
  | some oj=>oj.after.any fun ed=>Region.binds md ed && (ed.on == i || DO md ops i d ed.on)
def Io (md:Region.Mode) (ops:Array Oper) (e i:Nat):Bool:=(List.range ops.size).all fun j=>decide (j<e) || DO md ops i ops.size j
def td (md:Region.Mode) (ops:Array Oper) (listed:Array Bool):Prop:=∀ j oj,ops[j]?=some oj->listed.getD j false=true->∀ ed∈oj.after,Region.binds md ed=true->listed.getD ed.on false=true
def ww (md:Region.Mode) (ops:Array Oper) (listed:Array Bool):Bool:=(List.range ops.size).all fun j=>match ops[j]? with
 | none=>true
 | some oj=>!listed.getD j false || oj.after.all fun ed=>!Region.binds md ed || listed.getD ed.on false
theorem JD {md:Region.Mode} {ops:Array Oper} {listed:Array Bool} (h:ww md ops listed=true):td md ops listed:=fun j oj hj hl ed Q0 hb=>by
 have h1:=List.all_eq_true.1 h j (List.mem_range.2 (bl hj))
 simp only[hj,hl,Bool.not_true,Bool.false_or]at h1
 have h2:=Array.all_eq_true'.1 h1 ed Q0
 simpa[hb] using h2
theorem wM {md:Region.Mode} {ops:Array Oper} {listed:Array Bool} {i:Nat} (hc:td md ops listed):∀ (d j:Nat),listed.getD j false=true->DO md ops i d j=true->listed.getD i false=true
 | 0,_,_,h=>by simp[DO]at h
 | d+1,j,hl,h=>by
  unfold DO at h
  cases hj:ops[j]? with
  | none=>simp[hj]at h
  | some oj=>
   simp only[hj]at h
   obtain ⟨ed,Q0,hb⟩:=Array.any_eq_true'.1 h
   simp only[Bool.and_eq_true,Bool.or_eq_true,beq_iff_eq]at hb
   have h1:=hc j oj hj hl ed Q0 hb.1
   rcases hb.2 with h2 | h2
   ·rwa [h2]at h1
   ·exact wM hc d ed.on h1 h2
theorem JE {md:Region.Mode} {ops:Array Oper} {listed:Array Bool} {i j:Nat} (hc:td md ops listed) (hr:j∈Region.ready md ops listed) {d:Nat} (h:DO md ops i d j=true):listed.getD i false=true:=by
 obtain ⟨_,oj,Vd,dW⟩:=mem_ready.1 hr
 cases d with
 | zero=>simp[DO]at h
 | succ d=>
  unfold DO at h
  simp only[Vd]at h
  obtain ⟨ed,Q0,hb⟩:=Array.any_eq_true'.1 h
  simp only[Bool.and_eq_true,Bool.or_eq_true,beq_iff_eq]at hb
  have h1:=dW ed Q0 hb.1
  rcases hb.2 with h2 | h2
  ·rwa [h2]at h1
  ·exact wM hc d ed.on h1 h2
theorem F9 {md:Region.Mode} {ops:Array Oper} {listed:Array Bool} {i:Nat} (hc:td md ops listed) (hr:i∈Region.ready md ops listed):td md ops (listed.setIfInBounds i true):=fun j oj hj hl ed Q0 hb=>by
 obtain ⟨_,oi,hoi,dW⟩:=mem_ready.1 hr
 by_cases Ve:i=j
 ·subst Ve
  have:oj=oi:=Option.some.inj (hj.symm.trans hoi)
  subst this
  exact getD_set_true (dW ed Q0 hb)
 ·rw[getD_set_ne false Ve]at hl
  exact getD_set_true (hc j oj hj hl ed Q0 hb)
def e8 (F:Fence) (n:Nat) (P:Program) (md:Region.Mode) (ops:Array Oper) (Q:Exit->Act->World->Prop) (S:World->Prop) (e:Nat):Nat->Array Bool->Act->World->Prop
 | 0,listed,a,w=>Region.ready md ops listed=[]/\Q .normal a w
 | fuel+1,listed,a,w=>
  (Region.ready md ops listed=[]->Q .normal a w) ∧
  ∀ i∈Region.ready md ops listed,wpOpIn F n P ops Q i (fun a' w'=>(i<e->S w')/\e8 F n P md ops Q S e fuel (listed.setIfInBounds i true) a' w') a w
theorem rn:∀ (fuel:Nat) (listed:Array Bool) (a:Act) (w:World),e8 F n P md ops Q S e fuel listed a w->wpAnyIn F n P md ops Q fuel listed a w
 | 0,_,_,_,h=>h
 | fuel+1,_,_,_,h=>⟨h.1,fun i hi=>wpOpIn_mono (fun a' w' h'=>rn fuel _ a' w' h'.2) (h.2 i hi)⟩
theorem BH {i:Nat} {oi:Oper} {v:Value} (tb:jP F ops) (V9:Io md ops e i=true) (hi:ops[i]?=some oi) (V_:∀ (j:Nat) (o:Oper) cs b,ops[j]?=some o->o.op≠.select cs b)
  (hQ:∀ c a w,Q (.panic c) (a.put oi.dst v) w->Q (.panic c) a w) :
  ∀ (fuel:Nat) (listed:Array Bool) (a:Act) (w:World),td md ops listed →
   (∀ j oj,ops[j]?=some oj->j≠i->listed.getD j true=false->(∀ e∈oj.after,Region.binds md e=true->e.on≠i)->oi.apart ops oj=true) →
   i∈Region.ready md ops listed->YieldsM P ops S oi v a->S w →
   e8 F n P md ops Q S e fuel (listed.setIfInBounds i true) (a.put oi.dst v) w->e8 F n P md ops Q S e (fuel+1) listed a w:=by
 intro fuel
 induction fuel with
 | zero=>
  intro listed a w _ _ hr hy hS H
  have pp278:=();exact pm278
 | succ fuel ih=>
  intro listed a w hcl Q1 hr hy hS H
  exact pm278
theorem Q2 {i:Nat} {oi:Oper} (d:Nat) (v:Value) {fuel:Nat} {listed:Array Bool} {a:Act} {w:World} (tb:jP F ops) (hi:ops[i]?=some oi)
  (hs:(Region.noSelect ops && (Region.free md ops listed i && ((Region.ready md ops listed).contains i && (Io md ops e i && ww md ops listed))))=true)
  (hQ:∀ c a w,Q (.panic c) (a.put oi.dst v) w->Q (.panic c) a w) (LD:oi.dst=some d) (hw:Region.wanted oi (yielded ops a.tmps)=true) (hy:∀ w,S w->(execOp a.eval oi).run P w=.ok (.value v) w) (F8:∀ w,oi.about P w a.eval=none) (hS:S w)
  (h:S w->e8 F n P md ops Q S e fuel (listed.setIfInBounds i true) { a with tmps:=a.tmps.setIfInBounds d v } w):e8 F n P md ops Q S e (fuel+1) listed a w:=by
 simp only[Bool.and_eq_true]at hs
 exact BH tb hs.2.2.2.1 hi (Region.noSelect_spec hs.1) hQ fuel listed a w (JD hs.2.2.2.2) (Region.free_spec hi hs.2.1) (by simpa using hs.2.2.1) ⟨.inl ⟨hw,hy⟩,F8⟩ hS (by rw[LD];exact h hS)
theorem zai {i:Nat} {oi:Oper} {fuel:Nat} {listed:Array Bool} {a:Act} {w:World} (hi:ops[i]?=some oi) (hr:Region.ready md ops listed=[i]) (hw:Region.wanted oi (yielded ops a.tmps)=true)
  (h:∀ K:Act->World->Prop,(∀ a w,(i<e->S w)->((i<e->S w)->e8 F n P md ops Q S e fuel (listed.setIfInBounds i true) a w)->K a w)->Oper.wpIn F n P oi a w K Q):e8 F n P md ops Q S e (fuel+1) listed a w:=by
 refine ⟨fun h0=>(by rw[hr]at h0;cases h0),fun j hj=>?_⟩
 rw[hr]at hj
 obtain rfl:=List.mem_singleton.1 hj
 refine wpOpIn_step hi (fun K' JF=>?_)
 rw[if_pos hw]
 exact h K' (fun a w hS hW=>JF a w ⟨hS,hW hS⟩)
def NP (Q:Exit->Act->World->Prop):Exit->Act->World->Prop
 | .panic _,_,_=>False
 | e,a,w=>Q e a w
theorem NP.imp {Q:Exit->Act->World->Prop}:∀ (e:Exit) (a:Act) (w:World),NP Q e a w->Q e a w:=fun e a w h=>by
 cases e <;> first | exact h | exact (h:False).elim
theorem cO {listed:Array Bool} {a:Act} {w:World} (hr:Region.ready md ops listed=[]) (h:Q .normal a w):∀ fuel,e8 F n P md ops (NP Q) S e fuel listed a w
 | 0=>⟨hr,h⟩
 | _+1=>⟨fun _=>h,by rw[hr];simp⟩
theorem br {id:Nat} {a:Act} {w:World} (S:World->Prop) (e:Nat) (hm:(P.follows .mixedOrders && ops.toList.all mj)=true) (hS:S w.drew)
  (h:jP F ops->S w.drew->e8 F n P .any ops (NP Q) S e ops.size (Array.replicate ops.size false) a w.drew):(Code.region id ops true).wpIn F n P Q a w:=by
 simp only[Bool.and_eq_true]at hm
 exact Code.wpIn_mono NP.imp (wpIn_region_any hm.1 (rn _ _ _ _ (h (DM hm.2) hS)))
theorem bS (i d:Nat) (v:Value) {fuel:Nat} {listed:Array Bool} {a:Act} {w:World} {oi:Oper} (hi:ops[i]?=some oi) (hS:S w)
  (h:S w->e8 F n P md ops Q S e fuel (listed.setIfInBounds i true) { a with tmps:=a.tmps.setIfInBounds d v } w)
  (tb:jP F ops:=by assumption) (hy:∀ w,S w->(execOp a.eval oi).run P w=.ok (.value v) w:=by intro V hX;go_simp)
  (hs:(Region.noSelect ops && (Region.free md ops listed i && ((Region.ready md ops listed).contains i && (Io md ops e i && ww md ops listed))))=true:=by kernel_rfl)
  (hQ:∀ c a w,Q (.panic c) (a.put oi.dst v) w->Q (.panic c) a w:=by exact fun _ _ _ h=>h) (LD:oi.dst=some d:=by rfl) (hw:Region.wanted oi (yielded ops a.tmps)=true:=by rfl)
  (F8:∀ w,oi.about P w a.eval=none:=by exact fun _=>rfl):e8 F n P md ops Q S e (fuel+1) listed a w:=
 Q2 d v tb hi hs hQ LD hw hy F8 hS h
theorem dc (i d:Nat) (v:Value) {fuel:Nat} {listed:Array Bool} {a:Act} {w:World} {oi:Oper} (hi:ops[i]?=some oi) (hy:∀ w,S w->(execOp a.eval oi).run P w=.ok (.value v) w) (hS:S w)
  (h:S w->e8 F n P md ops Q S e fuel (listed.setIfInBounds i true) { a with tmps:=a.tmps.setIfInBounds d v } w)
  (tb:jP F ops:=by assumption)
  (hs:(Region.noSelect ops && (Region.free md ops listed i && ((Region.ready md ops listed).contains i && (Io md ops e i && ww md ops listed))))=true:=by kernel_rfl)
  (hQ:∀ c a w,Q (.panic c) (a.put oi.dst v) w->Q (.panic c) a w:=by exact fun _ _ _ h=>h) (LD:oi.dst=some d:=by rfl) (hw:Region.wanted oi (yielded ops a.tmps)=true:=by rfl)
  (F8:∀ w,oi.about P w a.eval=none:=by exact fun _=>rfl):e8 F n P md ops Q S e (fuel+1) listed a w:=
 Q2 d v tb hi hs hQ LD hw hy F8 hS h
theorem b_ (i:Nat) {oi:Oper} {fuel:Nat} {listed:Array Bool} {a:Act} {w:World} (hi:ops[i]?=some oi)
  (h:∀ K:Act->World->Prop,(∀ a w,(i<e->S w)->((i<e->S w)->e8 F n P md ops Q S e fuel (listed.setIfInBounds i true) a w)->K a w)->Oper.wpIn F n P oi a w K Q)
  (hr:Region.ready md ops listed=[i]:=by kernel_rfl) (hw:Region.wanted oi (yielded ops a.tmps)=true:=by rfl):e8 F n P md ops Q S e (fuel+1) listed a w:=
 zai hi hr hw h
theorem ee {i:Nat} {R K:Act->World->Prop} (hK:∀ a w,(i<e->S w)->((i<e->S w)->R a w)->K a w) {a:Act} {w:World} (h:R a w) (hn:¬i<e:=by decide):K a w:=hK a w (fun x=>absurd x hn) fun _=>h
end
end Go.Proofs.YtokemihbkeddoaaGreatDoor
namespace Go.Proofs.YtokemihbkeddoaaGreatDoor
open Go
section
variable {F:Fence} {n:Nat} {P:Program} {ops:Array Oper} {Q:Exit->Act->World->Prop} {md:Region.Mode} {S:World->Prop}
variable {Γ:Type} (Φ:Nat->Value->Γ->World->Prop) (Ψ:Nat->Γ->Prop) (I:Γ->World->Prop) (G:Γ->World->Γ->World->Prop)
def F_ (ops:Array Oper) (sz:Nat):Bool:=(List.range ops.size).all fun i=>match ops[i]? with
 | none=>true
 | some oi=>oi.after.all (fun e=>!Region.binds .any e || decide (e.on<i)) && (match oi.dst with
  | none=>true
  | some d=>decide (d<sz) && (List.range ops.size).all fun j=>i == j || (match ops[j]? with | some oj=>oj.dst != some d | none=>true))
structure DagOk (ops:Array Oper) (sz:Nat):Prop where
 before:∀ (k:Nat) (o:Oper),ops[k]?=some o->∀ e∈o.after,Region.binds .any e=true->e.on<k
 there:∀ (k:Nat) (o:Oper) (d:Nat),ops[k]?=some o->o.dst=some d->d<sz
 one:∀ (k j:Nat) (o oj:Oper) (d:Nat),ops[k]?=some o->ops[j]?=some oj->o.dst=some d->oj.dst=some d->k=j
theorem DP {sz:Nat} (h:F_ ops sz=true):DagOk ops sz:=by
 have h1:∀ (k:Nat) (o:Oper),ops[k]?=some o->o.after.all (fun e=>!Region.binds .any e || decide (e.on<k))=true/\∀ d,o.dst=some d->d<sz/\∀ (j:Nat) (oj:Oper),ops[j]?=some oj->k=j\/oj.dst≠some d:=by
  intro k o ho
  have:=List.all_eq_true.1 h k (List.mem_range.2 (bl ho))
  simp only[ho,Bool.and_eq_true]at this
  refine ⟨this.1,fun d hd=>?_⟩
  have h2:=this.2
  simp only[hd,Bool.and_eq_true,decide_eq_true_eq]at h2
  refine ⟨h2.1,fun j oj hj=>?_⟩
  have h3:=List.all_eq_true.1 h2.2 j (List.mem_range.2 (bl hj))
  simp only[hj,Bool.or_eq_true,beq_iff_eq,bne_iff_ne,ne_eq]at h3
  exact h3
 refine ⟨fun k o ho e he hb=>?_,fun k o d ho hd=>((h1 k o ho).2 d hd).1,fun k j o oj d ho hj hd Q3=>?_⟩
 ·have:=Array.all_eq_true'.1 (h1 k o ho).1 e he
  simpa[hb] using this
 ·rcases ((h1 k o ho).2 d hd).2 j oj hj with h | h
  ·exact h
  ·exact absurd Q3 h
structure DagAt (ops:Array Oper) (a0:Act) (listed:Array Bool) (a:Act) (γ:Γ) (w:World):Prop where
 df:a.defers=a0.defers
 sz:a.tmps.size=a0.tmps.size
 ou:∀ d,(∀ (k:Nat) (o:Oper),ops[k]?=some o->o.dst≠some d)->a.tmps[d]?=a0.tmps[d]?
 nod:∀ (k:Nat) (o:Oper),ops[k]?=some o->o.dst=none->listed.getD k false=true->Φ k undef γ w
 val:∀ (k:Nat) (o:Oper) (d:Nat),ops[k]?=some o->o.dst=some d->listed.getD k false=true->∃v,a.tmps[d]?=some v/\Φ k v γ w
 unl:∀ k,k<ops.size->listed.getD k true=false->Ψ k γ
 inv:I γ w
 pre:∀ (k:Nat) (o:Oper) (d:Nat),ops[k]?=some o->o.dst=some d->listed.getD k false=false->a.tmps[d]?=a0.tmps[d]?
 cl:∀ (k:Nat) (o:Oper),ops[k]?=some o->listed.getD k false=true->∀ e∈o.after,Region.binds .any e=true->e.on<ops.size->listed.getD e.on false=true
def freeB (ops:Array Oper) (d:Nat):Bool:=ops.toList.all fun o=>o.dst != some d
theorem Iq {ops:Array Oper} {d:Nat} (h:freeB ops d=true) (k:Nat) (o:Oper) (ho:ops[k]?=some o):o.dst≠some d:=by
 have:=List.all_eq_true.1 h o (List.mem_of_getElem? (i:=k) (by simpa using ho))
 simpa using this
def waitB (md:Region.Mode) (o:Oper) (j:Nat):Bool:=o.after.any fun e=>e.on == j && Region.binds md e
structure DagIn (md:Region.Mode) (ops:Array Oper) (a0:Act) (o:Oper) (k:Nat) (a:Act) (γ:Γ) (w:World):Prop where
 sz:a.tmps.size=a0.tmps.size
 ou:∀ d,freeB ops d=true->a.tmps[d]?=a0.tmps[d]?
 inv:I γ w
 psi:Ψ k γ
 nod:∀ (j:Nat) (oj:Oper),ops[j]?=some oj->waitB md o j=true->oj.dst=none->Φ j undef γ w
 val:∀ (j:Nat) (oj:Oper) (d:Nat),ops[j]?=some oj->oj.dst=some d->waitB md o j=true->∃v,a.tmps[d]?=some v/\Φ j v γ w
 pre:∀ (j:Nat) (oj:Oper) (d:Nat),ops[j]?=some oj->oj.dst=some d->waitB md oj k=true->a.tmps[d]?=a0.tmps[d]?
def mP (F:Fence) (n:Nat) (P:Program) (md:Region.Mode) (ops:Array Oper) (Q:Exit->Act->World->Prop) (a0:Act) (k:Nat):Prop:=
 ∀ o,ops[k]?=some o->∀ (a:Act) (γ:Γ) (w:World),DagIn Φ Ψ I md ops a0 o k a γ w →
  ∀ K:Act->World->Prop,(∀ (v:Value) (dx:Γ) (w':World),(o.dst=none->v=undef)->G γ w dx w'->(∀ j,j≠k->Ψ j γ->Ψ j dx)->Φ k v dx w'->K (a.put o.dst v) w')->wpOpIn F n P ops Q k K a w
theorem DQ {listed:Array Bool} {a0:Act} {a:Act} {γ:Γ} {w:World} {k:Nat} {o:Oper} (h:DagAt Φ Ψ I ops a0 listed a γ w) (hk:k<ops.size) (Lf:listed.getD k true=false) (dW:∀ e∈o.after,Region.binds .any e=true->e.on<ops.size->listed.getD e.on false=true):DagIn Φ Ψ I .any ops a0 o k a γ w:=by
 have hw:∀ (j:Nat) (oj:Oper),ops[j]?=some oj->waitB .any o j=true->listed.getD j false=true:=by
  intro j oj hj hw
  obtain ⟨e,he,hb⟩:=Array.any_eq_true'.1 hw
  simp only[Bool.and_eq_true,beq_iff_eq]at hb
  rw[<-hb.1]
  exact dW e he hb.2 (by rw[hb.1];exact (bl hj))
 exact ⟨h.sz,fun d hd=>h.ou d (fun k o ho=>Iq hd k o ho),h.inv,h.unl k hk Lf,fun j oj hj Ss hd=>h.nod j oj hj hd (hw j oj hj Ss),fun j oj d hj hd Ss=>h.val j oj d hj hd (hw j oj hj Ss),fun j oj d hj hd Ss=>h.pre j oj d hj hd (by
  cases hc:listed.getD j false with
  | false=>rfl
  | true=>
   obtain ⟨e,he,hb⟩:=Array.any_eq_true'.1 Ss
   simp only[Bool.and_eq_true,beq_iff_eq]at hb
   have h1:=h.cl j oj hj hc e he hb.2 (by rw[hb.1];exact hk)
   rw[hb.1]at h1
   rcases Nat.lt_or_ge k listed.size with hlt | hge
   ·simp[Array.getD,hlt]at h1 Lf
    rw[h1]at Lf
    cases Lf
   ·simp[Array.getD,Nat.not_lt.2 hge]at h1)⟩
theorem JG {listed:Array Bool} (hok:DagOk ops n) (hl:listed.size=ops.size) (h:Region.ready .any ops listed=[]):∀ k,k<ops.size->listed.getD k false=true:=by
 intro k
 induction k using Nat.strongRecOn with
 | ind k ih=>
  intro hk
  cases hc:listed.getD k false with
  | true=>rfl
  | false=>
   exfalso
   have ho:ops[k]?=some ops[k]:=by simp[hk]
   have:k∈Region.ready .any ops listed:=mem_ready.2 ⟨by
    have bc:k<listed.size:=by omega
    simp[Array.getD,bc]at hc ⊢
    exact hc,ops[k],ho,fun e he hb=>by
     have hlt:=hok.before k _ ho e he hb
     exact ih e.on hlt (by omega)⟩
   rw[h]at this
   cases this
theorem AA {l:Array Bool} {i:Nat} (h:l.getD i true=false):(l.setIfInBounds i true).toList.countP (fun b=>!b)+1=l.toList.countP (fun b=>!b):=by
 have hi:i<l.size:=by
  rcases Nat.lt_or_ge i l.size with h' | h'
  ·exact h'
  ·simp[Array.getD,Nat.not_lt.2 h']at h
 have hv:l[i]=false:=by simpa[Array.getD,hi] using h
 have h2:i<l.toList.length:=by simpa using hi
 have iW:l.toList[i]=false:=by simpa using hv
 rw[Array.toList_setIfInBounds,List.countP_set h2,iW]
 have:0<l.toList.countP (fun b=>!b):=List.countP_pos_iff.2 ⟨false,by rw[<-iW];exact List.getElem_mem h2,rfl⟩
 simp only[Bool.not_false,Bool.not_true,if_true,Bool.false_eq_true,if_false]
 omega
theorem Ir {a0:Act} (hok:DagOk ops a0.tmps.size) (hI:∀ γ w dx w',G γ w dx w'->I γ w->I dx w') (ur:∀ k v γ w dx w',G γ w dx w'->Φ k v γ w->Φ k v dx w')
  {listed:Array Bool} {a:Act} {γ dx:Γ} {w w':World} {k:Nat} {o:Oper} {v:Value} (dW:∀ e∈o.after,Region.binds .any e=true->e.on<ops.size->listed.getD e.on false=true) (hl:listed.size=ops.size) (ho:ops[k]?=some o) (h:DagAt Φ Ψ I ops a0 listed a γ w) (hv:o.dst=none->v=undef) (hG:G γ w dx w') (JH:∀ j,j≠k->Ψ j γ->Ψ j dx) (gR:Φ k v dx w') :
  DagAt Φ Ψ I ops a0 (listed.setIfInBounds k true) (a.put o.dst v) dx w':=by
 have hsz:(a.put o.dst v).tmps.size=a0.tmps.size:=by
  unfold Act.put
  split <;> simp[h.sz]
 have pT:∀ j,j≠k->(listed.setIfInBounds k true).getD j false=true->listed.getD j false=true:=fun j hj hh=>by rwa [getD_set_ne false (Ne.symm hj)]at hh
 refine ⟨?_,hsz,fun d hd=>?_,fun j oj hj DC j5=>?_,fun j oj d hj DC j5=>?_,fun j hj j5=>?_,hI γ w dx w' hG h.inv,fun j oj d hj DC j5=>?_,fun j oj hj j5 e he hb hlt=>?_⟩
 ·unfold Act.put;split <;> exact h.df
 ·rw[<-h.ou d hd]
  have jt:=hd k o ho
  unfold Act.put
  split
  ·rename_i d' St
   have:d'≠d:=fun e=>jt (by rw[St,e])
   simp[this]
  ·rfl
 ·by_cases pS:j=k
  ·subst pS
   obtain rfl:oj=o:=Option.some.inj (hj.symm.trans ho)
   have:=hv DC
   subst this
   exact gR
  ·exact ur j _ γ w dx w' hG (h.nod j oj hj DC (pT j pS j5))
 ·by_cases pS:j=k
  ·subst pS
   obtain rfl:oj=o:=Option.some.inj (hj.symm.trans ho)
   refine ⟨v,?_,gR⟩
   have hlt:d<a.tmps.size:=by rw[h.sz];exact hok.there j oj d hj DC
   rw[DC]
   simp[Act.put,hlt]
  ·obtain ⟨u,hu,hφ⟩:=h.val j oj d hj DC (pT j pS j5)
   refine ⟨u,?_,ur j _ γ w dx w' hG hφ⟩
   rw[<-hu]
   exact pm280
 ·by_cases pS:j=k
  ·subst pS
   have hlt:j<listed.size:=by omega
   simp[Array.getD,hlt]at j5
  ·exact JH j pS (h.unl j hj (by rwa [getD_set_ne true (Ne.symm pS)]at j5))
 ·by_cases pS:j=k
  ·subst pS
   have hlt:j<listed.size:=by rw[hl];exact (bl hj)
   simp[Array.getD,hlt]at j5
  ·rw[getD_set_ne false (Ne.symm pS)]at j5
   rw[<-h.pre j oj d hj DC j5]
   exact pm280
 ·have Ga:listed.getD e.on false=true:=by
   by_cases pS:j=k
   ·subst pS
    obtain rfl:oj=o:=Option.some.inj (hj.symm.trans ho)
    exact dW e he hb hlt
   ·exact h.cl j oj hj (pT j pS j5) e he hb hlt
  by_cases hek:e.on=k
  ·rw[hek]
   have e9:k<listed.size:=by rw[hl,<-hek];exact hlt
   simp[Array.getD,e9]
  ·rw[getD_set_ne false (Ne.symm hek)]
   exact Ga
theorem Wd {a0:Act} (hok:DagOk ops a0.tmps.size) (hI:∀ γ w dx w',G γ w dx w'->I γ w->I dx w') (ur:∀ k v γ w dx w',G γ w dx w'->Φ k v γ w->Φ k v dx w')
  (DR:∀ k,k<ops.size->mP Φ Ψ I G F n P Region.Mode.any ops Q a0 k)
  (hQ:∀ (a:Act) (γ:Γ) (w:World),DagAt Φ Ψ I ops a0 (Array.replicate ops.size true) a γ w->Q .normal a w) :
  ∀ (fuel:Nat) (listed:Array Bool) (a:Act) (γ:Γ) (w:World),listed.size=ops.size->listed.toList.countP (fun b=>!b)<=fuel->DagAt Φ Ψ I ops a0 listed a γ w->e8 F n P Region.Mode.any ops Q S 0 fuel listed a w:=by
 have fin:∀ (listed:Array Bool) (a:Act) (γ:Γ) (w:World),listed.size=ops.size->Region.ready Region.Mode.any ops listed=[]->DagAt Φ Ψ I ops a0 listed a γ w->Q .normal a w:=by
  intro listed a γ w hl hr h
  have dW:=JG hok hl hr
  exact pm133
 intro fuel
 induction fuel with
 | zero=>
  intro listed a γ w hl hc h
  have hr:Region.ready Region.Mode.any ops listed=[]:=by
   cases fL:Region.ready Region.Mode.any ops listed with
   | nil=>rfl
   | cons j r=>
    have hj:j∈Region.ready Region.Mode.any ops listed:=by rw[fL];exact List.mem_cons_self
    have:=AA (mem_ready.1 hj).1
    omega
  exact ⟨hr,fin listed a γ w hl hr h⟩
 | succ fuel ih=>
  intro listed a γ w hl hc h
  refine ⟨fun hr=>fin listed a γ w hl hr h,fun k hk=>?_⟩
  obtain ⟨Lf,o,ho,dW⟩:=mem_ready.1 hk
  have ut:=(bl ho)
  refine DR k ut o ho a γ w (DQ Φ Ψ I h ut Lf (fun e he hb _=>dW e he hb)) _ (fun v dx w' hv hG JH gR=>⟨fun h0=>absurd h0 (Nat.not_lt_zero _),?_⟩)
  refine ih (listed.setIfInBounds k true) (a.put o.dst v) dx w' (by simpa using hl) (by have:=AA Lf;omega) ?_
  exact Ir Φ Ψ I G hok hI ur (fun e he hb _=>dW e he hb) hl ho h hv hG JH gR
theorem AB {a0:Act} {LE:Γ} {w:World} (hI:I LE w) (JH:∀ k,k<ops.size->Ψ k LE):DagAt Φ Ψ I ops a0 (Array.replicate ops.size false) a0 LE w:=by
 refine ⟨rfl,rfl,fun _ _=>rfl,fun k o ho Lg hl=>?_,fun k o d ho Lg hl=>?_,fun k hk _=>JH k hk,hI,fun _ _ _ _ _ _=>rfl,fun k o ho hl=>?_⟩
 ·have hk:=(bl ho)
  simp[Array.getD,hk]at hl
 ·have hk:=(bl ho)
  simp[Array.getD,hk]at hl
 ·have hk:=(bl ho)
  simp[Array.getD,hk]at hl
theorem j8 {id:Nat} {a0:Act} {w:World} {sz:Nat} (LE:Γ) (hm:(P.follows .mixedOrders && ops.toList.all mj)=true) (hsz:a0.tmps.size=sz) (hd:F_ ops sz=true) (hI0:I LE w.drew) (Su:∀ k,k<ops.size->Ψ k LE)
  (hI:∀ γ w dx w',G γ w dx w'->I γ w->I dx w') (ur:∀ k v γ w dx w',G γ w dx w'->Φ k v γ w->Φ k v dx w')
  (DR:∀ k,k<ops.size->mP Φ Ψ I G F n P .any ops (NP Q) a0 k) (hQ:∀ (a:Act) (γ:Γ) (w':World),DagAt Φ Ψ I ops a0 (Array.replicate ops.size true) a γ w'->Q .normal a w'):(Code.region id ops true).wpIn F n P Q a0 w:=
 br (fun _=>True) 0 hm trivial (fun _ _=>Wd Φ Ψ I G (DP (hsz ▸ hd)) hI ur DR (fun a γ w' h=>hQ a γ w' h) ops.size _ a0 LE w.drew (by simp) (Nat.le_trans List.countP_le_length (by simp)) (AB Φ Ψ I hI0 Su))
theorem ml {id:Nat} {a0:Act} {w:World} {sz:Nat} (LE:Γ) (hsz:a0.tmps.size=sz) (hd:F_ ops sz=true) (hI0:I LE w) (Su:∀ k,k<ops.size->Ψ k LE)
  (hI:∀ γ w dx w',G γ w dx w'->I γ w->I dx w') (ur:∀ k v γ w dx w',G γ w dx w'->Φ k v γ w->Φ k v dx w')
  (DR:∀ k,k<ops.size->mP Φ Ψ I G F n P .any ops Q a0 k) (hQ:∀ (a:Act) (γ:Γ) (w':World),DagAt Φ Ψ I ops a0 (Array.replicate ops.size true) a γ w'->Q .normal a w'):(Code.region id ops false).wpIn F n P Q a0 w:=by
 have hok:=DP (hsz ▸ hd)
 refine wpIn_region ?_
 have zaj:∀ (m k:Nat) (listed:Array Bool) (a:Act) (γ:Γ) (w:World),k+m=ops.size->listed.size=ops.size->(∀ j,j<ops.size->(listed.getD j false=true ↔ j<k))->DagAt Φ Ψ I ops a0 listed a γ w->wpOpsIn F n P ops Q (List.range' k m) a w:=by
  intro m
  induction m with
  | zero=>
   intro k listed a γ w hk hl AC h
   have dW:∀ j,j<ops.size->listed.getD j false=true:=fun j hj=>(AC j hj).2 (by omega)
   exact pm133
  | succ m ih=>
   intro k listed a γ w hk hl AC h
   have ut:k<ops.size:=by omega
   rw[List.range'_succ,wpOpsIn_cons]
   have ho:ops[k]?=some ops[k]:=by simp[ut]
   have Lf:listed.getD k true=false:=by
    have:=(AC k ut)
    have bc:k<listed.size:=by omega
    simp[Array.getD,bc]at this ⊢
    exact this
   refine DR k ut _ ho a γ w (DQ Φ Ψ I h ut Lf (fun e he hb hlt=>(AC _ hlt).2 (hok.before k _ ho e he hb))) _ (fun v dx w' hv hG JH gR=>?_)
   exact ih (k+1) (listed.setIfInBounds k true) _ dx w' (by omega) (by simpa using hl) (fun j hj=>by
    by_cases pS:k=j
    ·subst pS
     have bc:k<listed.size:=by omega
     simp[Array.getD,bc]
    ·rw[getD_set_ne false pS,AC j hj]
     omega) (Ir Φ Ψ I G hok hI ur (fun e he hb hlt=>(AC _ hlt).2 (hok.before k _ ho e he hb)) hl ho h hv hG JH gR)
 have:=zaj ops.size 0 (Array.replicate ops.size false) a0 LE w (by omega) (by simp) (fun j hj=>by simp[Array.getD,hj]) (AB Φ Ψ I hI0 Su)
 rwa [List.range_eq_range']
variable {Φ} {Ψ} {I} {G}
theorem DagAt.get {a0 a:Act} {γ:Γ} {w:World} (h:DagAt Φ Ψ I ops a0 (Array.replicate ops.size true) a γ w) (k:Nat) (o:Oper) (d:Nat) (ho:ops[k]?=some o) (hd:o.dst=some d):∃v,a.tmps[d]?=some v/\Φ k v γ w:=
 h.val k o d ho hd (by simp[Array.getD,(bl ho)])
theorem DagAt.did {a0 a:Act} {γ:Γ} {w:World} (h:DagAt Φ Ψ I ops a0 (Array.replicate ops.size true) a γ w) (k:Nat) (o:Oper) (ho:ops[k]?=some o) (hd:o.dst=none):Φ k undef γ w:=
 h.nod k o ho hd (by simp[Array.getD,(bl ho)])
theorem DagAt.old {a0 a:Act} {listed:Array Bool} {γ:Γ} {w:World} (h:DagAt Φ Ψ I ops a0 listed a γ w) (d:Nat) (hd:freeB ops d=true):a.tmps[d]?=a0.tmps[d]?:=
 h.ou d (fun k o ho=>Iq hd k o ho)
theorem DagAt.od {a0 a:Act} {listed:Array Bool} {γ:Γ} {w:World} (h:DagAt Φ Ψ I ops a0 listed a γ w) (d:Nat) (hd:freeB ops d=true:=by kernel_rfl):a.tmps[d]?=a0.tmps[d]?:=h.old d hd
theorem DagAt.ol {a0 a:Act} {listed:Array Bool} {γ:Γ} {w:World} (h:DagAt Φ Ψ I ops a0 listed a γ w) (d:Nat) {v:Option Value} (e:a0.tmps[d]?=v) (hd:freeB ops d=true:=by kernel_rfl):a.tmps[d]?=v:=(h.old d hd).trans e
theorem c_ {a0:Act} {k:Nat} {o:Oper} {d:Nat} (ho:ops[k]?=some o) (hd:o.dst=some d) (pU:∀ f,F.fn f) (hr:F.round=none)
  (h:∀ (a:Act) (γ:Γ) (w:World),DagIn Φ Ψ I md ops a0 o k a γ w->Region.wanted o (yielded ops a.tmps)=true/\∃v dx w',(execOp a.eval o).run P w=.ok (.value v) w'/\G γ w dx w'/\(∀ j,j≠k->Ψ j γ->Ψ j dx)/\Φ k v dx w'):mP Φ Ψ I G F n P md ops Q a0 k:=by
 have pp204a:=();exact pm204
theorem kK {a0:Act} {k:Nat} {o:Oper} (ho:ops[k]?=some o) (pU:∀ f,F.fn f) (hr:F.round=none)
  (h:∀ (a:Act) (γ:Γ) (w:World),DagIn Φ Ψ I md ops a0 o k a γ w->Region.wanted o (yielded ops a.tmps)=true/\∃dx w',(execOp a.eval o).run P w=.ok .skip w'/\G γ w dx w'/\(∀ j,j≠k->Ψ j γ->Ψ j dx)/\Φ k undef dx w'):mP Φ Ψ I G F n P md ops Q a0 k:=by
 have pp204b:=();exact pm204
theorem AD {a0:Act} {k:Nat} {o:Oper} {d:Nat} (ho:ops[k]?=some o) (hd:o.dst=some d) (pU:∀ f,F.fn f) (hr:F.round=none) (oc:F.depth=none)
  (h:∀ (a:Act) (γ:Γ) (w:World),DagIn Φ Ψ I md ops a0 o k a γ w->Region.wanted o (yielded ops a.tmps)=true/\∃f args,(execOp a.eval o).run P w=.ok (.enter f args) w/\CallsIn F (n - 1) P f args w fun e w'=>∃v,e=.returned v/\∃dx,G γ w dx w'/\(∀ j,j≠k->Ψ j γ->Ψ j dx)/\Φ k v dx w'):mP Φ Ψ I G F n P md ops Q a0 k:=by
 have pp204c:=();exact pm204
theorem Is {t:Array Value}:∀ (ds:List (Nat×Value)) (t0:Array Value),t.size=t0.size->(∀ p∈ds,t[p.1]?=some p.2)->(∀ d,d ∉ ds.map (·.1)->t[d]?=t0[d]?)->t=ds.foldl (fun t p=>t.setIfInBounds p.1 p.2) t0
 | [],t0,hs,_,ho=>by
  simp only[List.foldl_nil]
  exact Array.ext_getElem? (fun i=>ho i (by simp))
 | p :: ds,t0,hs,hi,ho=>by
  simp only[List.foldl_cons]
  refine Is ds _ (by simpa using hs) (fun q hq=>hi q (List.mem_cons_of_mem _ hq)) (fun d hd=>?_)
  by_cases h:d=p.1
  ·subst h
   rw[hi p List.mem_cons_self]
   have:p.1<t0.size:=by rw[<-hs];exact (bl (hi p List.mem_cons_self))
   simp[this]
  ·rw[ho d (by simp only[List.map_cons,List.mem_cons,not_or];exact ⟨h,hd⟩)]
   simp[Ne.symm h]
theorem LH {ops:Array Oper} {d:Nat} {l:List Nat} (h:ops.toList.filterMap (·.dst)=l) (hd:d ∉ l):freeB ops d=true:=by
 refine List.all_eq_true.2 (fun o ho=>?_)
 simp only[bne_iff_ne,ne_eq]
 intro e
 exact hd (h ▸ List.mem_filterMap.2 ⟨o,ho,e⟩)
theorem DagAt.act {a0 a:Act} {listed:Array Bool} {γ:Γ} {w:World} (h:DagAt Φ Ψ I ops a0 listed a γ w) (ds:List (Nat×Value)) (hd:ops.toList.filterMap (·.dst)=ds.map (·.1)) (hv:∀ p∈ds,a.tmps[p.1]?=some p.2):a={ tmps:=ds.foldl (fun t p=>t.setIfInBounds p.1 p.2) a0.tmps,defers:=a0.defers }:=by
 have h1:=Is ds a0.tmps h.sz hv (fun d hn=>h.old d (LH hd hn))
 have h2:=h.df
 obtain ⟨t,df⟩:=a
 simp only at h1 h2
 rw[h1,h2]
end
end Go.Proofs.YtokemihbkeddoaaGreatDoor
