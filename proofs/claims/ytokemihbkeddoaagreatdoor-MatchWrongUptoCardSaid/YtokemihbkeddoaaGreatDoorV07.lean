/-
Contracts of 'copyList','copyTerm','Copy' of package syntax.
-/
import Derived.Test.YtokemihbkeddoaaGreatDoorV06
namespace Go.Proofs.YtokemihbkeddoaaGreatDoor
open Go Go.RowKit Lib
set_option maxRecDepth 100000
set_option maxHeartbeats 64000000
variable {lo:Nat} {W X w Y:World} {o0 ou o1 o2:Obj}
section
attribute [local go_sem] Oper.semAt_some
theorem RowT.made (cur:Array Value) (cap:Nat) (hb:lo<=W.heap.size) (hm:cap<=maxLen) (hs:cur.size=cap * 3):RowT lo (.slice (some ⟨W.heap.size,0,none⟩) 0 cap) [] (W.alloc (.cells cur 43)):=
 ⟨[],rfl,World.ownsRow_made W cur cap hb hm hs,fun j h=>by simp at h⟩
theorem RowF.made (cur:Array Value) (cap:Nat) (hb:lo<=W.heap.size) (hm:cap<=maxLen) (hs:cur.size=cap * 4):RowF lo (.slice (some ⟨W.heap.size,0,none⟩) 0 cap) [] (W.alloc (.cells cur 36)):=
 ⟨[],rfl,World.ownsRow_made W cur cap hb hm hs,fun j h=>by simp at h⟩
def UK (t:Tm):Prop:=∀ (ok:Nat->Prop) (w:World) (q:TQ),TermV ok w q.val t->Calls Tryz.prog 107 #[q.val] w fun e w'=>∃p:TQ,e=.returned p.val/\TermV (w.heap.size<=·) w' p.val t/\Below w.heap.size w w'
theorem sh (l:List Tm) (aA:fitTs l) (hcp:∀ t∈l,UK t) (ok:Nat->Prop) (w:World) (a:Option Addr) (n c:Nat) (hv:TermsV ok w (.slice a n c) l) :
  Calls Tryz.prog 106 #[.slice a n c,.func (.func 107) #[] #[]] w fun e w'=>∃a' c',e=.returned (.slice a' l.length c')/\TermsV (w.heap.size<=·) w' (.slice a' l.length c') l/\Below w.heap.size w w':=by
 obtain ⟨i0,hi,pF,iq,gV⟩:=info_parts gN;obtain rfl:=hv.len;have cf:=aA.len
 by_cases h0:l=[]
 ·subst h0;go_enter Tryz.func106,Tryz.ntmps106;go_wp2;go_ret;exact ⟨none,0,rfl,b_,ak _ _⟩
 ·obtain ⟨k0,cg⟩:=ao l.length;have pp236:=();exact pm236
def UL (t:Fm):Prop:=∀ (ok:Nat->Prop) (w:World) (q:FQ),FormV ok w q.val t->Calls Tryz.prog 51 #[q.val] w fun e w'=>∃p:FQ,e=.returned p.val/\FormV (w.heap.size<=·) w' p.val t/\Below w.heap.size w w'
theorem B7 (l:List Fm) (aA:fitFs l) (hcp:∀ t∈l,UL t) (ok:Nat->Prop) (w:World) (a:Option Addr) (n c:Nat) (hv:FormsV ok w (.slice a n c) l) :
  Calls Tryz.prog 108 #[.slice a n c,.func (.func 51) #[] #[]] w fun e w'=>∃a' c',e=.returned (.slice a' l.length c')/\FormsV (w.heap.size<=·) w' (.slice a' l.length c') l/\Below w.heap.size w w':=by
 obtain ⟨i0,hi,pF,iq,gV⟩:=info_parts kC;obtain rfl:=hv.len;have cf:=aA.len
 by_cases h0:l=[]
 ·subst h0;go_enter Tryz.func108,Tryz.ntmps108;go_wp2;go_ret;exact ⟨none,0,rfl,fB,ak _ _⟩
 ·obtain ⟨k0,cg⟩:=ao l.length;exact pm236
theorem B9:∀ (t:Tm),fitT t->UK t:=by
 intro t
 induction t using Tm.ind with
 | h v n a ih=>
  intro aA ok w q hq;have pp171e:=();exact pm171
theorem oe:∀ (t:Fm),fitF t->UL t:=by
 intro t
 induction t using Fm.ind with
 | h o n a s ih=>
  intro aA ok w q hq;have pp22c:=();exact pm22
theorem rx {ok:Nat->Prop} {B c:Nat} {p:FQ} {f:Fm} (h:FormV ok X p.val f) (hB:ok B) (hx:X.heap[B]?=some (.cells #[.int .u8 p.o,.string p.n,.slice p.a p.l p.c,.slice p.b p.m p.e] 36 (0,0))):FormsV ok X (.slice (some ⟨B,0,none⟩) 1 c) [f]:=
 ⟨_,c,fun _=>p.val,rfl,.inr ⟨B,0,rfl,hB,fun j hj=>by
  obtain rfl:j=0:=by simpa using hj
  exact ⟨_,_,_,_,rfl,ah hx 0,ah hx 1,ah hx 2,ah hx 3⟩⟩,fun j hj=>by
  obtain rfl:j=0:=by simpa using hj
  exact h⟩
structure PutB (w:World) (o0 ou o1 o2:Obj) (X:World):Prop where
 below:Below w.heap.size w X
 b0:X.heap[w.heap.size]?=some o0
 bu:X.heap[w.heap.size+1]?=some ou
 b1:X.heap[w.heap.size+1+1]?=some o1
 b2:X.heap[w.heap.size+1+1+1]?=some o2
theorem PutB.keep (h:PutB w o0 ou o1 o2 X) (h1:Y.os=X.os) (h2:Y.tape=X.tape) (h3:Y.output=X.output) (h4:X.heap.size<=Y.heap.size) (h5:∀ b,b<=w.heap.size+3->Y.heap[b]?=X.heap[b]?):PutB w o0 ou o1 o2 Y:=
 ⟨⟨h1.trans h.below.os,h2.trans h.below.tape,h3.trans h.below.output,aQ h.below.size h4,fun b hb=>(h5 b (by omega)).trans (h.below.block b hb)⟩,(h5 _ (by omega)).trans h.b0,(h5 _ (by omega)).trans h.bu,(h5 _ (by omega)).trans h.b1,(h5 _ (by omega)).trans h.b2⟩
theorem PutB.lt (h:PutB w o0 ou o1 o2 X):w.heap.size+3<X.heap.size:=(bn h.b2)
theorem PutB.later (h:PutB w o0 ou o1 o2 X) (hb:Below X.heap.size X Y):PutB w o0 ou o1 o2 Y:=
 h.keep hb.os hb.tape hb.output hb.size (fun b bF=>hb.block b (by have:=h.lt;omega))
theorem PutB.grown (h:PutB w o0 ou o1 o2 X) {bo:Option Nat} (hg:X.grownBy Y bo) (ja:∀ b,bo=some b->w.heap.size+3<b):PutB w o0 ou o1 o2 Y:=
 h.keep hg.os hg.tape hg.output hg.size (fun b bF=>hg.block b (by have:=h.lt;omega) (fun e=>by have:=ja b e.symm;omega))
theorem PutB.setR {cs:Array Value} {T:TypeId} (h:PutB w o0 ou o1 (.cells cs T (0,0)) X) (F:Nat) (v:Value):PutB w o0 ou o1 (.cells (cs.setIfInBounds F v) T (0,0)) (X.setCell ⟨w.heap.size+1+1+1,F,none⟩ v):=
 ⟨⟨h.below.os,h.below.tape,h.below.output,by simpa using h.below.size,fun b hb=>(d9 _ _ _ _ (by simp <;> omega)).trans (h.below.block b hb)⟩,(d9 _ _ _ _ (by simp <;> omega)).trans h.b0,(d9 _ _ _ _ (by simp <;> omega)).trans h.bu,(d9 _ _ _ _ (by simp)).trans h.b1,bm h.b2 v⟩
def WA (kk:Nat):Prop:=∀ (W0:World) (f:Fm) (nx:Str) (z:Tm),fitF f->nodesF f<=100000->lL f=true->qone f=true->depthF f<=kk->nx.length<=2000000->fitT z->nodesT z<=100000->∀ (ok MV:Nat->Prop) (w:World) (q:FQ) (zq:TQ),Tabs W0 w->FormV ok w q.val f->TermV MV w zq.val z →
 Calls Tryz.prog 101 #[q.val,.string ⟨nx.toArray⟩,zq.val] w fun e w'=>(∃p:FQ,e=.returned p.val/\FormV (w.heap.size<=·) w' p.val (eD kk nx z f))/\Below w.heap.size w w'
theorem WC (kk:Nat) (IH:WA kk):WA (kk+1):=by
 have pp159c:=();exact pm159
theorem GI:∀ k,WA k
 | 0=>fun W0 f nx z _ _ _ _ hd=>by have:=kG f;omega
 | k+1=>WC k (GI k)
theorem uy (W0:World) (f:Fm) (nx:Str) (z:Tm) (hf:fitF f) (hn:nodesF f<=100000) (hw:lL f=true) (hq:qone f=true) (hx:nx.length<=2000000) (hz:fitT z) (LA:nodesT z<=100000) (ok MV:Nat->Prop) (w:World) (q:FQ) (zq:TQ) (hT:Tabs W0 w) (h:FormV ok w q.val f) (h2:TermV MV w zq.val z) :
  Calls Tryz.prog 101 #[q.val,.string ⟨nx.toArray⟩,zq.val] w fun e w'=>(∃p:FQ,e=.returned p.val/\FormV (w.heap.size<=·) w' p.val (iD nx z f))/\Below w.heap.size w w':=
 GI (depthF f) W0 f nx z hf hn hw hq (aF _) hx hz LA ok MV w q zq hT h h2
