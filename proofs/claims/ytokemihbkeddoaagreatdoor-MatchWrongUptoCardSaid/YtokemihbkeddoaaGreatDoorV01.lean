/-
A range over a function whose body writes blocks of its own that lay ahead of the loop (a.
-/
import Derived.Test.YtokemihbkeddoaaGreatDoorV00
namespace Go.Proofs.YtokemihbkeddoaaGreatDoor
open Go Go.RowKit Lib
set_option maxRecDepth 100000
set_option maxHeartbeats 64000000
variable {m l R B B' L g base cap lo p c:Nat} {f:FuncId} {tmps:Array Value} {assign body:Code} {A C X Y W2 W' W1 w4 wr:World} {a ts:List Tm} {v row a0 v0:Value} {o:Obj} {t:Tm} {I:World->Prop} {st:Prop} {xs:List Value} {ps:Array Tmp} {e:TypeId} {q:Int->Bool} {s:List Fm} {Row:Value->World->Prop}
theorem D4 {F:Fence} (hd:F.depth=none) (k:Nat):F.room k:=fun d h=>by rw[hd]at h;cases h
theorem FY {F:Fence} (hd:F.depth=none) {m':Nat} {P:Program} {w:World} {R:Ending->World->Prop}
  (h:RoundIn F m P l f tmps assign body w R):RoundIn F m' P l f tmps assign body w R:=⟨h.1,fun c cs _=>h.2 c cs (D4 hd _)⟩
theorem jG (m':Nat) {P:Program} {args:Array Value} {W:World} {R:Ending->World->Prop} (h:YieldAt Fence.wide m P l args W R):YieldAt Fence.wide m' P l args W R:=by
 obtain ⟨fn,tmps,assign,body,hy,hR⟩:=h;exact ⟨fn,tmps,assign,body,hy,FY rfl hR⟩
structure Kp (M:Nat->Prop) (X Y:World):Prop where
 os:Y.os=X.os
 tape:Y.tape=X.tape
 output:Y.output=X.output
 size:X.heap.size<=Y.heap.size
 same:∀ b,b<X.heap.size->¬M b->Y.heap[b]?=X.heap[b]?
structure KpFrom (M:Nat->Prop) (B:Nat) (X Y:World):Prop where
 size:X.heap.size<=Y.heap.size
 same:∀ b,B<=b->b<X.heap.size->¬M b->Y.heap[b]?=X.heap[b]?
variable {M:Nat->Prop}
theorem Kp.refl (W:World):Kp M W W:=⟨rfl,rfl,rfl,aF _,fun _ _ _=>rfl⟩
theorem Kp.trans {B:World} (h:Kp M A B) (k:Kp M B C):Kp M A C:=
 ⟨k.os.trans h.os,k.tape.trans h.tape,k.output.trans h.output,aQ h.size k.size,fun b hb hm=>(k.same b (bN hb h.size) hm).trans (h.same b hb hm)⟩
theorem Kp.mono {M':Nat->Prop} {B:World} (h:Kp M A B) (hM:∀ b,b<A.heap.size->M b->M' b):Kp M' A B:=⟨h.os,h.tape,h.output,h.size,fun b hb hm=>h.same b hb (fun h'=>hm (hM b hb h'))⟩
theorem Kp.from {B:World} (h:Kp M A B) (n:Nat):KpFrom M n A B:=⟨h.size,fun b _ hb hm=>h.same b hb hm⟩
theorem KpFrom.trans {n:Nat} {B:World} (h:KpFrom M n A B) (k:KpFrom M n B C):KpFrom M n A C:=
 ⟨aQ h.size k.size,fun b hn hb hm=>(k.same b hn (bN hb h.size) hm).trans (h.same b hn hb hm)⟩
theorem KpFrom.mono {n n':Nat} {B:World} (h:KpFrom M n A B) (hn:n<=n'):KpFrom M n' A B:=⟨h.size,fun b hb hs=>h.same b (aQ hn hb) hs⟩
theorem Kp.below {B:World} (h:Below A.heap.size A B):Kp M A B:=⟨h.os,h.tape,h.output,h.size,fun b hb _=>h.block b hb⟩
theorem Kp.empty {B:World} (h:Kp (fun _=>False) A B):Below A.heap.size A B:=⟨h.os,h.tape,h.output,h.size,fun b hb=>h.same b hb id⟩
theorem Kp.cell {B:World} (h:Kp M A B) {a:Addr} (hm:¬M a.block) (hc:A.cell? a=some v):B.cell? a=some v:=
 (World.cell?_of_block (h.same a.block (World.block_lt_of_cell? A a hc) hm)).trans hc
theorem Kp.grown {B:World} {r:Nat} (h:A.grownBy B (some r)) (hr:M r):Kp M A B:=⟨h.os,h.tape,h.output,h.size,fun b hb hm=>h.block b hb (fun e=>hm (by cases e;exact hr))⟩
structure Nw (B:Nat) (X Y:World):Prop where
 os:Y.os=X.os
 tape:Y.tape=X.tape
 output:Y.output=X.output
 size:X.heap.size<=Y.heap.size
 same:∀ b,b<X.heap.size->Y.heap[b]?=X.heap[b]?\/(B<=b/\(∃o:Obj,X.heap[b]?=some o/\o.isCells=false)/\∃o:Obj,Y.heap[b]?=some o/\o.isCells=false)
theorem Nw.refl (B:Nat) (X:World):Nw B X X:=⟨rfl,rfl,rfl,aF _,fun _ _=>.inl rfl⟩
theorem Nw.trans {Z:World} (h:Nw B X Y) (k:Nw B Y Z):Nw B X Z:=
 ⟨k.os.trans h.os,k.tape.trans h.tape,k.output.trans h.output,aQ h.size k.size,fun b hb=>by
  rcases h.same b hb with h1 | ⟨h1,h2,h3⟩
  ·rcases k.same b (bN hb h.size) with k1 | ⟨k1,k2,k3⟩
   ·exact .inl (k1.trans h1)
   ·exact .inr ⟨k1,by rw[<-h1];exact k2,k3⟩
  ·rcases k.same b (bN hb h.size) with k1 | ⟨k1,k2,k3⟩
   ·exact .inr ⟨h1,h2,by rw[k1];exact h3⟩
   ·exact .inr ⟨h1,h2,k3⟩⟩
theorem Nw.mono (h:Nw B' X Y) (hB:B<=B'):Nw B X Y:=⟨h.os,h.tape,h.output,h.size,fun b hb=>by
 rcases h.same b hb with h1 | ⟨h1,h2⟩
 ·exact .inl h1
 ·exact .inr ⟨aQ hB h1,h2⟩⟩
theorem Nw.below (h:Below X.heap.size X Y):Nw B X Y:=⟨h.os,h.tape,h.output,h.size,fun b hb=>.inl (h.block b hb)⟩
theorem Nw.put {o':Obj} (hB:B<=l) (hl:X.heap[l]?=some o) (ho:o.isCells=false) (OL:o'.isCells=false):Nw B X (X.putObj l o'):=
 ⟨rfl,rfl,rfl,by simp,fun b hb=>by
  by_cases h:b=l
  ·subst h;exact .inr ⟨hB,⟨o,hl,ho⟩,o',World.putObj_heap_same hb,OL⟩
  ·exact .inl (nJ h)⟩
theorem Nw.old (h:Nw B X Y) {b:Nat} (hb:b<B) (hx:b<X.heap.size):Y.heap[b]?=X.heap[b]?:=by
 rcases h.same b hx with h1 | ⟨h1,_⟩
 ·exact h1
 ·omega
theorem Nw.cells (h:Nw B X Y) {b:Nat} {cs:Array Value} {t:TypeId} {fr:Nat×Nat} (hc:X.heap[b]?=some (.cells cs t fr)):Y.heap[b]?=some (.cells cs t fr):=by
 rcases h.same b (bn hc) with h1 | ⟨_,⟨o,h1,h2⟩,_⟩
 ·exact h1.trans hc
 ·rw[hc]at h1;cases h1;cases h2
theorem Nw.cell (h:Nw B X Y) {a:Addr} (hc:X.cell? a=some v):Y.cell? a=some v:=by
 cases ho:X.heap[a.block]? with
 | none=>simp[World.cell?,ho]at hc
 | some o=>
  cases o with
  | cells cs t fr=>exact (World.cell?_of_block ((h.cells ho).trans ho.symm)).trans hc
  | _=>simp[World.cell?,ho]at hc
def Abides (B:Nat) (I:World->Prop):Prop:=∀ X Y,Nw B X Y->I X->I Y
theorem Abides.mono (h:Abides B I) (hB:B<=B'):Abides B' I:=fun X Y hn=>h X Y (hn.mono hB)
theorem Abides.and {I':World->Prop} (h:Abides B I) (h':Abides B I'):Abides B (fun W=>I W/\I' W):=fun X Y hn hi=>⟨h X Y hn hi.1,h' X Y hn hi.2⟩
def I2 (M:Nat->Prop) (st:Prop) (P:Program) (gf:Nat) (lb:Array Value) {T:Type} (xs:List T) (At:World->Array Value->T->Prop) (w:World):Prop:=
 ∀ (l:Nat) (J Jx:List T->World->Prop) (W:World),Kp M w W->(∀ b,M b->b<w.heap.size)->l<W.heap.size->¬M l →
  (∀ s,Abides W.heap.size (J s))->(∀ s,Abides W.heap.size (Jx s)) →
  (∀ pre vs x W1,J pre W1->Kp M W W1->At W1 vs x->(pre ++ [x]) <+: xs->YieldAt Fence.wide 0 P l vs W1 fun e W'=>
    (e=.returned (.bool true)/\J (pre ++ [x]) W'/\Kp M W1 W')\/(st/\e=.returned (.bool false)/\Jx (pre ++ [x]) W'/\KpFrom M (l+1) W1 W')) →
  J [] W →
  Calls P gf (#[.func (.yield l) #[] #[]] ++ lb) W fun e W'=>(∃v,e=.returned v) ∧
   ((J xs W'/\Kp M W W')\/(st/\∃pre,pre <+: xs/\Jx pre W'/\KpFrom M (l+1) W W'))
def Um (M:Nat->Prop) (st:Prop) {T:Type} (B:Nat) (I:List T->World->Prop) (Ix:Code->List T->World->Prop) (xs:List T) (W:World):Exit->Act->World->Prop
 | .normal,_,W'=>Kp M W W'/\I xs W'
 | .ret,_,W'=>st/\KpFrom M B W W'/\Ix .ret xs W'
 | .exit id,_,W'=>st/\KpFrom M B W W'/\Ix (.exit id) xs W'
 | .goto t,_,W'=>st/\KpFrom M B W W'/\Ix (.goto t) xs W'
 | .panic _,_,_=>False
 | .outgrown,_,_=>False
structure Busy (l:Nat) (W W2:World):Prop where
 os:W2.os=W.os
 tape:W2.tape=W.tape
 output:W2.output=W.output
 size:W2.heap.size=W.heap.size
 same:∀ b,b≠l->W2.heap[b]?=W.heap[b]?
 lrec:∃r,W2.heap[l]?=some (.loop r)
theorem Busy.kp {W:World} (h:Busy l W W2):Kp (·=l) W W2:=⟨h.os,h.tape,h.output,Nat.le_of_eq h.size.symm,fun b _ hb=>h.same b hb⟩
theorem Busy.cell {W:World} (h:Busy l W W2) (hl:∃r,W.heap[l]?=some (.loop r)) {a:Addr} (hc:W.cell? a=some v):W2.cell? a=some v:=by
 refine (World.cell?_of_block (h.same a.block (fun e=>?_))).trans hc;obtain ⟨r,hr⟩:=hl;rw[World.cell?,e,hr]at hc;simp at hc
theorem D5 {w:World} (o:Obj) (hk:Kp M w X) (hL:w.heap.size<=L):Kp M w (X.putObj L o):=
 ⟨hk.os,hk.tape,hk.output,by simpa using hk.size,fun b hb hm=>(nJ (by omega)).trans (hk.same b hb hm)⟩
theorem Sl {P:Program} {T:Type} {xs:List T} {w:World} {fn:Nat} {dd:Nat} (Ze:w.heap.size<=L) (hM:∀ b,M b->b<w.heap.size)
  {vw:LoopState->Option Code->Loop} (xZ:vw=fun st pe=>{ state:=st,pending:=pe,fn,tmps,params:=ps,assign,body,defers:=dd })
  {At:World->Array Value->T->Prop} (iF:∀ W vs x,At W vs x->vs.size=ps.size)
  (I:List T->World->Prop) (Ix:Code->List T->World->Prop) (hI:∀ s,Abides w.heap.size (I s)) (hIx:∀ c s,Abides w.heap.size (Ix c s))
  (I3:∀ (l:Nat) (pre:List T) (vs:Array Value) (x:T) (W:World),w.heap.size<=l->(∃r,W.heap[l]?=some (.loop r))->I pre W->At W vs x->Kp M w W->(pre ++ [x]) <+: xs →
    assign.wpIn (Fence.wide.inRound l) 3 P (Exit.then (fun a' W'=>Kp M W W'/\I pre W'/\∀ W2,Busy l W' W2->I pre W2->Kp M w W2 →
     body.wpIn (Fence.wide.inRound l) 3 P (Um M st w.heap.size I Ix (pre ++ [x]) W2) a' W2) (fun _ _ _=>False)) { tmps:=(ps.zip vs).foldl (fun t (p,v)=>t.setIfInBounds p v) tmps,defers:=[] } W)
  (pre:List T) (vs:Array Value) (x:T) (W:World) (hi:I pre W) (hl:W.heap[L]?=some (.loop (vw .ready none))) (jf:Kp M w W) (hat:At W vs x) (dt:(pre ++ [x]) <+: xs)
  (D:Nat) (od:Obj) (hD:w.heap.size<=D/\D≠L) (hd:W.heap[D]?=some od) :
  YieldAt Fence.wide 0 P L vs W fun e W'=>
   (e=.returned (.bool true)/\(I (pre ++ [x]) W'/\W'.heap[L]?=some (.loop (vw .ready none))/\W'.heap[D]?=some od/\Kp M w W')/\Kp M W W') ∨
   (st/\e=.returned (.bool false)/\(∃c,Ix c (pre ++ [x]) W'/\W'.heap[L]?=some (.loop (vw .done (some c)))/\W'.heap[D]?=some od)/\KpFrom M (L+1) W W'):=by
 refine jG (m:=3) 0 ?_;have hy:=run_yield (P:=P) (args:=vs) hl (by rw[xZ];exact iF W vs x hat);rw[xZ]at hy;refine ⟨fn,_,assign,body,hy,roundIn_of_wpIn trivial (wpIn_mono (I3 L pre vs x W Ze ⟨_,hl⟩ hi hat jf dt) ?_)⟩;clear hy hat;intro e1 a' Wa hq1
 cases e1 with
 | ret=>exact hq1.elim
 | exit id=>exact hq1.elim
 | goto t=>exact hq1.elim
 | panic ch=>exact hq1.elim
 | outgrown=>exact hq1.elim
 | normal=>?_
 obtain ⟨dG,yF,zae⟩:=hq1;have hLW:=(bn hl);have hDW:=(bn hd);have hLm:¬M L:=fun h=>by have:=hM L h;omega
 have hDm:¬M D:=fun h=>by have:=hM D h;omega
 have hla:Wa.heap[L]?=some (.loop (vw .ready none)):=(dG.same L hLW hLm).trans hl;have hda:Wa.heap[D]?=some od:=(dG.same D hDW hDm).trans hd;have zaf:L<Wa.heap.size:=(bn hla);refine ⟨_,run_beginRound hla (by rw[xZ]),?_⟩;have sx:(Wa.putObj L (.loop { vw .ready none with state:=.busy })).heap[L]?=some (.loop { vw .ready none with state:=.busy }):=World.putObj_heap_same zaf;have Uk:(Wa.putObj L (.loop { vw .ready none with state:=.busy })).heap[D]?=some od:=(nJ hD.2).trans hda;have zci:=jf.trans dG;refine wpIn_mono (zae _ ⟨rfl,rfl,rfl,by simp,fun b hb=>nJ hb,_,sx⟩ (hI pre _ _ (Nw.put Ze hla rfl rfl) yF) (D5 _ zci Ze)) ?_;have fin:∀ (rL:Option Code) (W3:World),KpFrom M w.heap.size (Wa.putObj L (.loop { vw .ready none with state:=.busy })) W3 →
   (Instr.endRound L rL).run P W3=.ok (.bool rL.isNone) (W3.putObj L (.loop (vw (if rL.isNone then .ready else .done) rL))) ∧
   W3.heap[L]?=some (.loop { vw .ready none with state:=.busy }) ∧
   (W3.putObj L (.loop (vw (if rL.isNone then .ready else .done) rL))).heap[L]?=some (.loop (vw (if rL.isNone then .ready else .done) rL)) ∧
   (W3.putObj L (.loop (vw (if rL.isNone then .ready else .done) rL))).heap[D]?=some od ∧
   (∀ b,w.heap.size<=b->b≠L->b<W.heap.size->(W3.putObj L (.loop (vw (if rL.isNone then .ready else .done) rL))).heap[b]?=W.heap[b]?) ∧
   W.heap.size<=(W3.putObj L (.loop (vw (if rL.isNone then .ready else .done) rL))).heap.size:=fun rL W3 iV=>by
  have Mv:=(iV.same L Ze (by simpa using zaf) hLm).trans sx;have FA:=(iV.same D hD.1 (by simp;have:=dG.size;omega) hDm).trans Uk;have:=run_endRound (P:=P) rL Mv;rw[xZ]at this ⊢;refine ⟨this,by rw[xZ]at Mv;exact Mv,World.putObj_heap_same (bn Mv),(nJ hD.2).trans FA,fun b hb Zf hs=>?_,?_⟩
  ·have hbm:¬M b:=fun h=>by have:=hM b h;omega
   exact (nJ Zf).trans ((iV.same b hb (by simp;have:=dG.size;omega) hbm).trans ((nJ Zf).trans (dG.same b hs hbm)))
  ·have:=dG.size;have:=iV.size;simp at *;omega
 rintro e a3 W3 hp;have VX:∀ (c:Code),st->KpFrom M w.heap.size (Wa.putObj L (.loop { vw .ready none with state:=.busy })) W3->Ix c (pre ++ [x]) W3 →
   ∃v w',(Instr.endRound L (some c)).run P W3=.ok v w'/\((Ending.returned v=.returned (.bool true)/\(I (pre ++ [x]) w'/\w'.heap[L]?=some (.loop (vw .ready none))/\w'.heap[D]?=some od/\Kp M w w')/\Kp M W w') ∨
   (st/\Ending.returned v=.returned (.bool false)/\(∃c,Ix c (pre ++ [x]) w'/\w'.heap[L]?=some (.loop (vw .done (some c)))/\w'.heap[D]?=some od)/\KpFrom M (L+1) W w')):=fun c cV iV hi3=>by
  obtain ⟨hr,Mv,FZ,Mw,eA,hsz⟩:=fin (some c) W3 iV;exact ⟨_,_,hr,.inr ⟨cV,rfl,⟨c,hIx c (pre ++ [x]) _ _ (Nw.put Ze Mv rfl rfl) hi3,FZ,Mw⟩,⟨hsz,fun b hb hs _=>eA b (by omega) (by omega) hs⟩⟩⟩
 cases e with
 | normal=>
  obtain ⟨iV,hi3⟩:=hp;obtain ⟨hr,Mv,FZ,Mw,eA,hsz⟩:=fin none W3 (iV.from _);have wS:Kp M W (W3.putObj L (.loop (vw (if (none:Option Code).isNone then .ready else .done) none))):=
   ⟨iV.os.trans dG.os,iV.tape.trans dG.tape,iV.output.trans dG.output,hsz,fun b hs hm=>by
    by_cases Zf:b=L
    ·subst Zf;exact FZ.trans hl.symm
    ·exact (nJ Zf).trans ((iV.same b (by simp;have:=dG.size;omega) hm).trans ((nJ Zf).trans (dG.same b hs hm)))⟩
  exact ⟨_,_,hr,.inl ⟨rfl,⟨hI (pre ++ [x]) _ _ (Nw.put Ze Mv rfl rfl) hi3,FZ,Mw,jf.trans wS⟩,wS⟩⟩
 | ret=>exact VX .ret hp.1 hp.2.1 hp.2.2
 | exit id=>exact VX (.exit id) hp.1 hp.2.1 hp.2.2
 | goto t=>exact VX (.goto t) hp.1 hp.2.1 hp.2.2
 | panic ch=>exact hp.elim
 | outgrown=>exact hp.elim
theorem gd {P:Program} {T:Type} {xs:List T} {g:Operand} {Q:Exit->Act->World->Prop} {a:Act} {w:World}
  {gf:Nat} {lb:Array Value} (hg:a.eval g=.func (.func gf) #[] lb) (eg:∀ args w,(callFunc gf args).run P w=.ok (.enter gf args) w) (hM:∀ b,M b->b<w.heap.size)
  {At:World->Array Value->T->Prop} (oB:I2 M st P gf lb xs At w) (iF:∀ W vs x,At W vs x->vs.size=ps.size)
  (I:List T->World->Prop) (Ix:Code->List T->World->Prop) (hI:∀ s,Abides w.heap.size (I s)) (hIx:∀ c s,Abides w.heap.size (Ix c s)) (h0:I [] w)
  (I3:∀ (l:Nat) (pre:List T) (vs:Array Value) (x:T) (W:World),w.heap.size<=l->(∃r,W.heap[l]?=some (.loop r))->I pre W->At W vs x->Kp M w W->(pre ++ [x]) <+: xs →
    assign.wpIn (Fence.wide.inRound l) 3 P (Exit.then (fun a' W'=>Kp M W W'/\I pre W'/\∀ W2,Busy l W' W2->I pre W2->Kp M w W2 →
     body.wpIn (Fence.wide.inRound l) 3 P (Um M st w.heap.size I Ix (pre ++ [x]) W2) a' W2) (fun _ _ _=>False)) { tmps:=(ps.zip vs).foldl (fun t (p,v)=>t.setIfInBounds p v) a.tmps,defers:=[] } W)
  (zag:∀ (D:Nat) (W:World),w.heap.size<=D->I xs W->Kp M w W->W.heap[D]?=some (.deferred (some []))->Q .normal { a with defers:={ target:=.collected D,args:=#[] } :: a.defers } W)
  (zah:∀ (D:Nat) (c:Code) (pre:List T) (W:World),st->w.heap.size<=D->pre <+: xs->Ix c pre W->W.heap[D]?=some (.deferred (some []))->c.wpIn Fence.wide 3 P Q { a with defers:={ target:=.collected D,args:=#[] } :: a.defers } W) :
  (Code.rangeFunc g ps assign body).wpIn Fence.wide 3 P Q a w:=by
 refine wpIn_rangeFunc ?_;intro fn _;obtain ⟨vw,xZ⟩:∃vw:LoopState->Option Code->Loop,vw=fun st pe=>{ state:=st,pending:=pe,fn,tmps:=a.tmps,params:=ps,assign,body,defers:=w.heap.size }:=⟨_,rfl⟩;obtain ⟨W1,bR⟩:∃W1,(w.alloc (.deferred (some []))).alloc (.loop (vw .ready none))=W1:=⟨_,rfl⟩;have hL1:W1.heap[w.heap.size+1]?=some (.loop (vw .ready none)):=by
  rw[<-bR];have:=fO (w.alloc (.deferred (some []))) (.loop (vw .ready none));rwa [World.size_alloc]at this
 have hK1:W1.heap[w.heap.size]?=some (.deferred (some [])):=by
  rw[<-bR];exact (bK _ _ _ (by simp)).trans (fO w _)
 have hb1:Below w.heap.size w W1:=by
  rw[<-bR];exact ((ak _ w).alloc (aF _) _).alloc (by simp) _
 have gx:W1.heap.size=w.heap.size+2:=by rw[<-bR];simp
 have hI1:I [] W1:=hI [] _ _ (Nw.below hb1) h0;have Bz:Kp M w W1:=Kp.below hb1;have jD:∀ b,w.heap.size<=b->¬M b:=fun b hb h=>by have:=hM b h;omega
 refine ⟨w.heap.size+1,[{ target:=.collected w.heap.size,args:=#[] }],W1,{ target:=.fn (.func gf) lb,args:=#[.func (.yield (w.heap.size+1)) #[] #[]] },W1,gf,
  #[.func (.yield (w.heap.size+1)) #[] #[]] ++ lb,W1,?_,?_,?_,?_,(fun h=>by cases h),?_⟩
 ·rw[<-bR,xZ];exact run_enterLoop_outer _ _ _ _ _
 ·simp only[resolve,hg];simp[go_sem]
 ·intro f' I4;simp[Target.leads]at I4;subst I4;trivial
 ·simp[invoke,go_sem,eg]
 ·refine aL.2 ((oB (w.heap.size+1)
   (fun pre W=>I pre W/\W.heap[w.heap.size+1]?=some (.loop (vw .ready none))/\W.heap[w.heap.size]?=some (.deferred (some []))/\Kp M w W)
   (fun pre W=>∃c,Ix c pre W/\W.heap[w.heap.size+1]?=some (.loop (vw .done (some c)))/\W.heap[w.heap.size]?=some (.deferred (some [])))
   W1 Bz hM (by omega) (jD _ (by omega)) ?_ ?_ ?_ ⟨hI1,hL1,hK1,Bz⟩).mono ?_)
  ·rintro s X Y hn ⟨h1,h2,h3,h4⟩;refine ⟨hI s X Y (hn.mono (by omega)) h1,(hn.old (by omega) (bn h2)).trans h2,(hn.old (by omega) (bn h3)).trans h3,hn.os.trans h4.os,hn.tape.trans h4.tape,hn.output.trans h4.output,aQ h4.size hn.size,fun b hb hm=>?_⟩;exact (hn.old (by omega) (bN hb h4.size)).trans (h4.same b hb hm)
  ·rintro s X Y hn ⟨c,h1,h2,h3⟩;exact ⟨c,hIx c s X Y (hn.mono (by omega)) h1,(hn.old (by omega) (bn h2)).trans h2,(hn.old (by omega) (bn h3)).trans h3⟩
  ·rintro pre vs x W ⟨hi,hl,hd,jf⟩ FB hat dt;exact Sl (by omega) hM xZ iF I Ix hI hIx I3 pre vs x W hi hl jf hat dt _ _ ⟨aF _,by simp⟩ hd
  ·rintro e W2 ⟨⟨v,rfl⟩,(⟨⟨hi,hl,hd,jf⟩,_⟩ | ⟨cV,pre,hSp,⟨c,hi,hl,hd⟩,Un⟩)⟩
   ·exact ⟨none,_,by have:=run_endLoop (P:=P) hl (by rw[xZ];simp);rw[xZ]at this;exact this,zag _ _ (aF _) (hI xs _ _ (Nw.put (by omega) hl rfl rfl) hi) (D5 _ jf (by omega)) ((nJ (by simp)).trans hd)⟩
   ·exact ⟨some c,_,by have:=run_endLoop (P:=P) hl (by rw[xZ];simp);rw[xZ]at this;exact this,zah _ c pre _ cV (aF _) hSp (hIx c pre _ _ (Nw.put (by omega) hl rfl rfl) hi) ((nJ (by simp)).trans hd)⟩
theorem aj {w:World} {k:Nat} (h:k=w.heap.size):(w.alloc o).heap[k]?=some o:=by rw[h];exact fO w o
theorem oC {w:World} {a:Addr} (h:w.cell? a=some v):a.block<w.heap.size:=World.block_lt_of_cell? w a h
theorem aa {W w:World} (hb:Below W.heap.size W w) {a:Addr} (h:W.cell? a=some v):w.cell? a=some v:=(hb.cell (oC h)).trans h
theorem aH {W:World} {b:Nat} {cs:Array Value} {T:TypeId} {fr:Nat×Nat} (h:W.heap[b]?=some (.cells cs T fr)) (k:Nat):W.cell? ⟨b,k,none⟩=cs[k]?:=by simp[World.cell?,h]
theorem ac {W:World} {b:Nat} {cs:Array Value} {T:TypeId} (h:W.heap[b]?=some (.cells cs T (0,0))) (k:Nat):W.frozen? ⟨b,k,none⟩=false:=by simp[World.frozen?,h]
theorem ah {W:World} {b:Nat} {cs:Array Value} {T:TypeId} {fr:Nat×Nat} (h:W.heap[b]?=some (.cells cs T fr)) (k:Nat) {v:Option Value} (e:cs[k]?=v:=by rfl):W.cell? ⟨b,k,none⟩=v:=(aH h k).trans e
section
variable {W w:World} {b:Nat} {cs:Array Value} {T:TypeId} {fr:Nat×Nat}
theorem Sm (h:W.heap[b]?=some (.cells cs T fr)):W.cell? ⟨b,0,none⟩=cs[0]?/\W.cell? ⟨b,1,none⟩=cs[1]?:=⟨aH h 0,aH h 1⟩
theorem lE (h:W.heap[b]?=some (.cells cs T fr)):W.cell? ⟨b,0,none⟩=cs[0]?/\W.cell? ⟨b,1,none⟩=cs[1]?/\W.cell? ⟨b,2,none⟩=cs[2]?:=⟨aH h 0,aH h 1,aH h 2⟩
theorem mi (h:W.heap[b]?=some (.cells cs T fr)):W.cell? ⟨b,0,none⟩=cs[0]?/\W.cell? ⟨b,1,none⟩=cs[1]?/\W.cell? ⟨b,2,none⟩=cs[2]?/\W.cell? ⟨b,3,none⟩=cs[3]?:=⟨aH h 0,aH h 1,aH h 2,aH h 3⟩
theorem BA (h:W.heap[b]?=some (.cells cs T fr)):W.cell? ⟨b,0,none⟩=cs[0]?/\W.cell? ⟨b,1,none⟩=cs[1]?/\W.cell? ⟨b,2,none⟩=cs[2]?/\W.cell? ⟨b,3,none⟩=cs[3]?/\W.cell? ⟨b,4,none⟩=cs[4]?/\W.cell? ⟨b,5,none⟩=cs[5]?/\W.cell? ⟨b,6,none⟩=cs[6]?/\W.cell? ⟨b,7,none⟩=cs[7]?:=⟨aH h 0,aH h 1,aH h 2,aH h 3,aH h 4,aH h 5,aH h 6,aH h 7⟩
variable {a1 a2 a3 a4 a5 a6 a7 a8 a9:Addr} {v1 v2 v3 v4 v5 v6 v7 v8 v9:Value}
theorem yR (hb:Below W.heap.size W w) (h1:W.cell? a1=some v1) (h2:W.cell? a2=some v2):w.cell? a1=some v1/\w.cell? a2=some v2:=⟨aa hb h1,aa hb h2⟩
theorem kB (hb:Below W.heap.size W w) (h1:W.cell? a1=some v1) (h2:W.cell? a2=some v2) (h3:W.cell? a3=some v3):w.cell? a1=some v1/\w.cell? a2=some v2/\w.cell? a3=some v3:=⟨aa hb h1,aa hb h2,aa hb h3⟩
theorem nb (hb:Below W.heap.size W w) (h1:W.cell? a1=some v1) (h2:W.cell? a2=some v2) (h3:W.cell? a3=some v3) (h4:W.cell? a4=some v4):w.cell? a1=some v1/\w.cell? a2=some v2/\w.cell? a3=some v3/\w.cell? a4=some v4:=⟨aa hb h1,aa hb h2,aa hb h3,aa hb h4⟩
theorem zai (hb:Below W.heap.size W w) (h1:W.cell? a1=some v1) (h2:W.cell? a2=some v2) (h3:W.cell? a3=some v3) (h4:W.cell? a4=some v4) (h5:W.cell? a5=some v5):w.cell? a1=some v1/\w.cell? a2=some v2/\w.cell? a3=some v3/\w.cell? a4=some v4/\w.cell? a5=some v5:=⟨aa hb h1,aa hb h2,aa hb h3,aa hb h4,aa hb h5⟩
theorem I5 (hb:Below W.heap.size W w) (h1:W.cell? a1=some v1) (h2:W.cell? a2=some v2) (h3:W.cell? a3=some v3) (h4:W.cell? a4=some v4) (h5:W.cell? a5=some v5) (h6:W.cell? a6=some v6) (h7:W.cell? a7=some v7) (h8:W.cell? a8=some v8):w.cell? a1=some v1/\w.cell? a2=some v2/\w.cell? a3=some v3/\w.cell? a4=some v4/\w.cell? a5=some v5/\w.cell? a6=some v6/\w.cell? a7=some v7/\w.cell? a8=some v8:=⟨aa hb h1,aa hb h2,aa hb h3,aa hb h4,aa hb h5,aa hb h6,aa hb h7,aa hb h8⟩
end
theorem lX (g k:Nat):(⟨g,0,none⟩:Addr).add k=⟨g,k,none⟩:=by unfold Addr.add;split <;> simp_all
theorem eM {w:World} {size n:Nat} (h:w.ownsRow base e size v n xs):(v=.slice none 0 0/\n=0)\/∃g cap,v=.slice (some ⟨g,0,none⟩) n cap/\base<=g/\g<w.heap.size:=by
 rcases h.2 with ⟨h1,h2⟩ | ⟨g,cap,cur,h1,h2,h3,_⟩
 ·exact .inl ⟨h1,h2⟩
 ·exact .inr ⟨g,cap,h1,h2,(bn h3)⟩
def TQ.cells (q:TQ):List Value:=[.bool q.v,.string q.n,.slice q.a q.l q.c]
def FQ.cells (q:FQ):List Value:=[.int .u8 q.o,.string q.n,.slice q.a q.l q.c,.slice q.b q.m q.e]
theorem zaj (qs:List TQ):∀ j (h:j<qs.length),(qs.flatMap TQ.cells)[j * 3]?=some (.bool qs[j].v)/\(qs.flatMap TQ.cells)[j * 3+1]?=some (.string qs[j].n)/\(qs.flatMap TQ.cells)[j * 3+2]?=some (.slice qs[j].a qs[j].l qs[j].c):=by
 induction qs with
 | nil=>intro j h;simp at h
 | cons q qs ih=>
  intro j h
  cases j with
  | zero=>simp[TQ.cells]
  | succ j=>
   have:=ih j (by simpa using h);simp only[List.flatMap_cons,TQ.cells,nK,rU];rw[show (j+1) * 3=j * 3+1+1+1 by omega,show j * 3+1+1+1+1=(j * 3+1)+1+1+1 by omega,show j * 3+1+1+1+2=(j * 3+2)+1+1+1 by omega];simpa using this
theorem zak (qs:List FQ):∀ j (h:j<qs.length),(qs.flatMap FQ.cells)[j * 4]?=some (.int .u8 qs[j].o)/\(qs.flatMap FQ.cells)[j * 4+1]?=some (.string qs[j].n)/\(qs.flatMap FQ.cells)[j * 4+2]?=some (.slice qs[j].a qs[j].l qs[j].c)/\(qs.flatMap FQ.cells)[j * 4+3]?=some (.slice qs[j].b qs[j].m qs[j].e):=by
 induction qs with
 | nil=>intro j h;simp at h
 | cons q qs ih=>
  intro j h
  cases j with
  | zero=>simp[FQ.cells]
  | succ j=>
   have:=ih j (by simpa using h);simp only[List.flatMap_cons,FQ.cells,nK,rU];have pp165:=();exact pm165
theorem F0 {w:World} {g n:Nat} {qs:List TQ} (h:w.ownsRow base 43 3 (.slice (some ⟨g,0,none⟩) n cap) n (qs.flatMap TQ.cells)):∀ j (hj:j<qs.length),Cells3 w g (j * 3) qs[j].val:=by
 intro j hj;obtain ⟨h0,h1,h2⟩:=zaj qs j hj;have c0:=h.cells (g:=g) rfl _ _ h0;have c1:=h.cells (g:=g) rfl _ _ h1;have c2:=h.cells (g:=g) rfl _ _ h2;rw[lX]at c0 c1 c2;exact ⟨_,_,_,rfl,c0,c1,c2⟩
theorem wT {w:World} {g n:Nat} {qs:List FQ} (h:w.ownsRow base 36 4 (.slice (some ⟨g,0,none⟩) n cap) n (qs.flatMap FQ.cells)):∀ j (hj:j<qs.length),Cells4 w g (j * 4) qs[j].val:=by
 intro j hj;obtain ⟨h0,h1,h2,h3⟩:=zak qs j hj;have c0:=h.cells (g:=g) rfl _ _ h0;have c1:=h.cells (g:=g) rfl _ _ h1;have c2:=h.cells (g:=g) rfl _ _ h2;have c3:=h.cells (g:=g) rfl _ _ h3;rw[lX]at c0 c1 c2 c3;exact ⟨_,_,_,_,rfl,c0,c1,c2,c3⟩
def RowT (lo:Nat) (v:Value) (ts:List Tm) (W:World):Prop:=
 ∃qs:List TQ,qs.length=ts.length/\W.ownsRow lo 43 3 v ts.length (qs.flatMap TQ.cells)/\∀ j (h:j<qs.length) (h2:j<ts.length),TermV (fun b=>lo<=b/\v.ownBlock≠some b) W qs[j].val ts[j]
def RowF (lo:Nat) (v:Value) (ts:List Fm) (W:World):Prop:=
 ∃qs:List FQ,qs.length=ts.length/\W.ownsRow lo 36 4 v ts.length (qs.flatMap FQ.cells)/\∀ j (h:j<qs.length) (h2:j<ts.length),FormV (fun b=>lo<=b/\v.ownBlock≠some b) W qs[j].val ts[j]
theorem RowT.nil (lo:Nat) (W:World):RowT lo (.slice none 0 0) [] W:=⟨[],rfl,World.ownsRow_nil _ _ _ _,fun j h=>by simp at h⟩
theorem RowF.nil (lo:Nat) (W:World):RowF lo (.slice none 0 0) [] W:=⟨[],rfl,World.ownsRow_nil _ _ _ _,fun j h=>by simp at h⟩
theorem RowT.shape {W:World} (h:RowT lo v ts W):(v=.slice none 0 0/\ts.length=0)\/∃g cap,v=.slice (some ⟨g,0,none⟩) ts.length cap/\lo<=g/\g<W.heap.size:=by
 obtain ⟨qs,_,ho,_⟩:=h;exact eM ho
theorem RowF.shape {ts:List Fm} {W:World} (h:RowF lo v ts W):(v=.slice none 0 0/\ts.length=0)\/∃g cap,v=.slice (some ⟨g,0,none⟩) ts.length cap/\lo<=g/\g<W.heap.size:=by
 obtain ⟨qs,_,ho,_⟩:=h;exact eM ho
theorem RowT.slice {W:World} (h:RowT lo v ts W):∃a c,v=.slice a ts.length c:=by
 rcases h.shape with ⟨rfl,h0⟩ | ⟨g,cap,rfl,_⟩
 ·exact ⟨none,0,by rw[h0]⟩
 ·exact ⟨_,_,rfl⟩
theorem RowF.slice {ts:List Fm} {W:World} (h:RowF lo v ts W):∃a c,v=.slice a ts.length c:=by
 rcases h.shape with ⟨rfl,h0⟩ | ⟨g,cap,rfl,_⟩
 ·exact ⟨none,0,by rw[h0]⟩
 ·exact ⟨_,_,rfl⟩
theorem bh {size n:Nat} {W:World} (h:W.ownsRow lo e size v n xs) (hb:∀ b,lo<=b->b<W.heap.size->W'.heap[b]?=W.heap[b]?):W'.ownsRow lo e size v n xs:=by
 refine ⟨h.1,?_⟩;rcases h.2 with h1 | ⟨g,cap,cur,h1,h2,h3,h4⟩
 ·exact .inl h1
 ·exact .inr ⟨g,cap,cur,h1,h2,(hb g h2 (bn h3)).trans h3,h4⟩
theorem RowT.held {W:World} (h:RowT lo v ts W) (hb:∀ b,lo<=b->b<W.heap.size->W'.heap[b]?=W.heap[b]?):RowT lo v ts W':=by
 exact pm255
theorem RowF.held {ts:List Fm} {W:World} (h:RowF lo v ts W) (hb:∀ b,lo<=b->b<W.heap.size->W'.heap[b]?=W.heap[b]?):RowF lo v ts W':=by
 exact pm255
theorem RowT.below {W:World} (h:RowT lo v ts W) (hb:Below W.heap.size W W'):RowT lo v ts W':=h.held (fun b _ hlt=>hb.block b hlt)
theorem RowF.below {ts:List Fm} {W:World} (h:RowF lo v ts W) (hb:Below W.heap.size W W'):RowF lo v ts W':=h.held (fun b _ hlt=>hb.block b hlt)
theorem RowT.terms {W:World} (h:RowT lo v ts W):TermsV (lo<=·) W v ts:=by
 have pp246a:=();exact pm246
theorem RowF.forms {ts:List Fm} {W:World} (h:RowF lo v ts W):FormsV (lo<=·) W v ts:=by
 have pp246b:=();exact pm246
theorem RowT.step {W:World} {qs:List TQ} {q:TQ} (hk:qs.length=ts.length) (hb:Below W.heap.size W W1) (hlo:lo<=W.heap.size)
  (ht:∀ j (h:j<qs.length) (h2:j<ts.length),TermV (fun b=>lo<=b/\v.ownBlock≠some b) W qs[j].val ts[j]) (hv:∀ b,v.ownBlock=some b->b<W.heap.size)
  (hq:TermV (W.heap.size<=·) W1 q.val t) (aR:w4.ownsRow lo 43 3 (.slice (some ⟨g,0,none⟩) (ts.length+1) cap) (ts.length+1) (qs.flatMap TQ.cells ++ q.cells))
  (hold:∀ c,lo<=c->c<W1.heap.size->v.ownBlock≠some c->w4.heap[c]?=W1.heap[c]?) (hg:v.ownBlock=some g\/W1.heap.size<=g) :
  RowT lo (.slice (some ⟨g,0,none⟩) (ts.length+1) cap) (ts ++ [t]) w4:=by
 exact pm46
theorem RowF.step {ts:List Fm} {t:Fm} {W:World} {qs:List FQ} {q:FQ} (hk:qs.length=ts.length) (hb:Below W.heap.size W W1) (hlo:lo<=W.heap.size)
  (ht:∀ j (h:j<qs.length) (h2:j<ts.length),FormV (fun b=>lo<=b/\v.ownBlock≠some b) W qs[j].val ts[j]) (hv:∀ b,v.ownBlock=some b->b<W.heap.size)
  (hq:FormV (W.heap.size<=·) W1 q.val t) (aR:w4.ownsRow lo 36 4 (.slice (some ⟨g,0,none⟩) (ts.length+1) cap) (ts.length+1) (qs.flatMap FQ.cells ++ q.cells))
  (hold:∀ c,lo<=c->c<W1.heap.size->v.ownBlock≠some c->w4.heap[c]?=W1.heap[c]?) (hg:v.ownBlock=some g\/W1.heap.size<=g) :
  RowF lo (.slice (some ⟨g,0,none⟩) (ts.length+1) cap) (ts ++ [t]) w4:=by
 exact pm46
theorem dj {w:World} {cs:Array Value} {t:TypeId} {fr:Nat×Nat} (hb:w.heap[B]?=some (.cells cs t fr)):∀ j u,cs.toList[j]?=some u->w.cell? ((⟨B,0,none⟩:Addr).add j)=some u:=fun j u hu=>by
 rw[lX,aH hb];simpa using hu
theorem gN:(Tryz.prog.info? 43).map (fun i=>(i.zero,i.size,i.bytes))=some (some (.agg #[.bool false,.string ByteArray.empty,.slice none 0 0]),3,48):=by kernel_rfl
theorem kC:(Tryz.prog.info? 36).map (fun i=>(i.zero,i.size,i.bytes))=some (some (.agg #[.int .u8 0,.string ByteArray.empty,.slice none 0 0,.slice none 0 0]),4,72):=by kernel_rfl
mutual
def jN (p:Nat):Tm->Bool | .mk _ n a=>decide (n.length<=p) && nmTs p a
def nmTs (p:Nat):List Tm->Bool | []=>true | t :: l=>jN p t && nmTs p l
end
mutual
def kT (p:Nat):Fm->Bool | .mk o n a s=>decide (0<=o/\o<=255) && (decide (n.length<=p) && (nmTs p a && nmFs p s))
def nmFs (p:Nat):List Fm->Bool | []=>true | t :: l=>kT p t && nmFs p l
end
def fitT (t:Tm):Prop:=nodesT t<=2000000/\jN 2000000 t=true
def fitTs (l:List Tm):Prop:=nodesTs l<=2000000/\nmTs 2000000 l=true
def fitF (f:Fm):Prop:=nodesF f<=2000000/\kT 2000000 f=true
def fitFs (l:List Fm):Prop:=nodesFs l<=2000000/\nmFs 2000000 l=true
theorem jy (t:Tm):0<nodesT t:=by cases t;unfold nodesT;omega
theorem yS (t:Fm):0<nodesF t:=by cases t;unfold nodesF;omega
theorem io (l:List Tm):l.length<=nodesTs l:=by
 induction l with
 | nil=>simp
 | cons t l ih=>have:=jy t;simp[nodesTs];omega
theorem qk (l:List Fm):l.length<=nodesFs l:=by
 induction l with
 | nil=>simp
 | cons t l ih=>have:=yS t;simp[nodesFs];omega
theorem f8 {l:List Tm} (h:t∈l):nodesT t<=nodesTs l:=by
 induction l with
 | nil=>cases h
 | cons u l ih=>
  unfold nodesTs;rcases dw.1 h with rfl | h
  ·omega
  ·have:=ih h;omega
theorem e9 {l:List Fm} {t:Fm} (h:t∈l):nodesF t<=nodesFs l:=by
 induction l with
 | nil=>cases h
 | cons u l ih=>
  unfold nodesFs;rcases dw.1 h with rfl | h
  ·omega
  ·have:=ih h;omega
theorem e_ {l:List Tm}:nmTs p l=true ↔ ∀ t∈l,jN p t=true:=by
 induction l with
 | nil=>simp[nmTs]
 | cons u l ih=>simp[nmTs,ih]
theorem qp {l:List Fm}:nmFs p l=true ↔ ∀ t∈l,kT p t=true:=by
 induction l with
 | nil=>simp[nmFs]
 | cons u l ih=>simp[nmFs,ih]
theorem fitTs.mem {l:List Tm} (h:fitTs l) (ht:t∈l):fitT t:=⟨aQ (f8 ht) h.1,e_.1 h.2 t ht⟩
theorem fitFs.mem {l:List Fm} (h:fitFs l) {t:Fm} (ht:t∈l):fitF t:=⟨aQ (e9 ht) h.1,qp.1 h.2 t ht⟩
theorem fitTs.len {l:List Tm} (h:fitTs l):l.length<=2000000:=aQ (io l) h.1
theorem fitFs.len {l:List Fm} (h:fitFs l):l.length<=2000000:=aQ (qk l) h.1
theorem fitT.args {v:Bool} {n:Str} (h:fitT (.mk v n a)):fitTs a:=by
 obtain ⟨h1,h2⟩:=h;simp[nodesT,jN]at h1 h2;exact ⟨by omega,h2.2⟩
theorem fitT.name {v:Bool} {n:Str} (h:fitT (.mk v n a)):n.length<=2000000:=by
 obtain ⟨h1,h2⟩:=h;simp[jN]at h2;exact h2.1
theorem fitF.args {o:Int} {n:Str} (h:fitF (.mk o n a s)):fitTs a:=by
 obtain ⟨h1,h2⟩:=h;simp[nodesF,kT]at h1 h2;exact ⟨by omega,h2.2.2.1⟩
theorem fitF.subs {o:Int} {n:Str} (h:fitF (.mk o n a s)):fitFs s:=by
 obtain ⟨h1,h2⟩:=h;simp[nodesF,kT]at h1 h2;exact ⟨by omega,h2.2.2.2⟩
theorem fitF.name {o:Int} {n:Str} (h:fitF (.mk o n a s)):n.length<=2000000:=by
 obtain ⟨h1,h2⟩:=h;simp[kT]at h2;exact h2.2.1
theorem fitF.op {o:Int} {n:Str} (h:fitF (.mk o n a s)):0<=o/\o<=255:=by
 obtain ⟨h1,h2⟩:=h;simp[kT]at h2;exact h2.1
mutual
theorem jW {q:Nat} (h:p<=q):∀ t,jN p t=true->jN q t=true
 | .mk v n a,ht=>by
  simp only[jN,ae,bw]at ht ⊢;exact ⟨by omega,dS h a ht.2⟩
theorem dS {q:Nat} (h:p<=q):∀ t,nmTs p t=true->nmTs q t=true
 | [],_=>rfl
 | t :: l,ht=>by
  simp only[nmTs,ae]at ht ⊢;exact ⟨jW h t ht.1,dS h l ht.2⟩
end
mutual
theorem jX {q:Nat} (h:p<=q):∀ t,kT p t=true->kT q t=true
 | .mk v n a s,ht=>by
  simp only[kT,ae,bw]at ht ⊢;exact ⟨ht.1,by omega,dS h a ht.2.2.1,iG h s ht.2.2.2⟩
theorem iG {q:Nat} (h:p<=q):∀ t,nmFs p t=true->nmFs q t=true
 | [],_=>rfl
 | t :: l,ht=>by
  simp only[nmFs,ae]at ht ⊢;exact ⟨jX h t ht.1,iG h l ht.2⟩
end
theorem aK {a b:Bool} (h:a=b):Ending.returned (.bool a)=.returned (.bool b):=by rw[h]
theorem rn {k:IntKind} {a b:Int} (h:a=b):Ending.returned (.int k a)=.returned (.int k b):=by rw[h]
theorem Sn {a b:ByteArray} (h:a=b):Ending.returned (.string a)=.returned (.string b):=by rw[h]
theorem fC {P:Program} {args:Array Value} {w:World} {n:Nat}
  (h:Calls P f args (w.drewN n) fun e w'=>e=.returned v/\w.drewN n=w'):Calls P f args (w.drewN n) fun e OJ=>e=.returned v/\∃m,OJ=w.drewN m:=
 h.mono fun _ _ ⟨he,hm⟩=>⟨he,n,hm.symm⟩
theorem C5 {w:World} (h:∃n,wr=w.drewN n) (m:Nat):∃n,wr.drewN m=w.drewN n:=by
 obtain ⟨n,rfl⟩:=h;exact ⟨_,by rw[World.drewN_drewN]⟩
theorem jY (s:ByteArray):s.data.toList.length=s.size:=by simp
theorem yT (s:ByteArray):s.data.toList.take s.size=s.data.toList:=ii (by simp)
theorem g_ (n:Str):(⟨n.toArray⟩:ByteArray).size=n.length:=by simp[ByteArray.size]
theorem D6 (n:Str):(⟨n.toArray⟩:ByteArray).data.toList=n:=by simp
theorem qq {w w':World} (h:∃n,w'=w.drewN n):Below w.heap.size w w':=by obtain ⟨n,rfl⟩:=h;exact ⟨rfl,rfl,rfl,aF _,fun _ _=>rfl⟩
def Uo (c:Int):Bool:=decide (97<=c/\c<=116)
def F1 (c:Int):Bool:=decide (117<=c/\c<=122)
def vR (c:Int):Bool:=decide (97<=c/\c<=122)
def D7 (c:Int):Bool:=decide (65<=c/\c<=90)
def BB (c:Int):Bool:=decide (48<=c/\c<=57)
def ll (c:Int):Bool:=vR c || D7 c || BB c
theorem Lh (c:Int) (w:World) :
  Calls Tryz.prog 190 #[.int .u8 c] w fun e w'=>e=.returned (.bool (Uo c))/\w=w':=by
 by_cases h1:97<=c <;> by_cases h2:c<=116
 all_goals
  have hs:Uo c=(decide (97<=c) && decide (c<=116)):=by simp[Uo]
  rw[hs];clear hs;go_enter Tryz.func190,Tryz.ntmps190;go_wp2;go_ret;simp[h1,h2]
theorem F2 (c:Int) (w:World) :
  Calls Tryz.prog 216 #[.int .u8 c] w fun e w'=>e=.returned (.bool (F1 c))/\w=w':=by
 by_cases h1:117<=c <;> by_cases h2:c<=122
 all_goals
  have hs:F1 c=(decide (117<=c) && decide (c<=122)):=by simp[F1]
  rw[hs];clear hs;go_enter Tryz.func216,Tryz.ntmps216;go_wp2;go_ret;simp[h1,h2]
theorem I6 (c:Int) (w:World) :
  Calls Tryz.prog 241 #[.int .u8 c] w fun e w'=>e=.returned (.bool (vR c))/\w=w':=by
 by_cases h1:97<=c <;> by_cases h2:c<=122
 all_goals
  have hs:vR c=(decide (97<=c) && decide (c<=122)):=by simp[vR]
  rw[hs];clear hs;go_enter Tryz.func241,Tryz.ntmps241;go_wp2;go_ret;simp[h1,h2]
theorem yU (c:Int) (w:World) :
  Calls Tryz.prog 188 #[.int .u8 c] w fun e w'=>e=.returned (.bool (D7 c))/\w=w':=by
 by_cases h1:65<=c <;> by_cases h2:c<=90
 all_goals
  have hs:D7 c=(decide (65<=c) && decide (c<=90)):=by simp[D7]
  rw[hs];clear hs;go_enter Tryz.func188,Tryz.ntmps188;go_wp2;go_ret;simp[h1,h2]
theorem yV (c:Int) (w:World) :
  Calls Tryz.prog 217 #[.int .u8 c] w fun e w'=>e=.returned (.bool (BB c))/\w=w':=by
 by_cases h1:48<=c <;> by_cases h2:c<=57
 all_goals
  have hs:BB c=(decide (48<=c) && decide (c<=57)):=by simp[BB]
  rw[hs];clear hs;go_enter Tryz.func217,Tryz.ntmps217;go_wp2;go_ret;simp[h1,h2]
theorem oD (c:Int) (w:World) :
  Calls Tryz.prog 189 #[.int .u8 c] w fun e w'=>e=.returned (.bool (ll c))/\w=w':=by
 unfold ll;go_enter Tryz.func189,Tryz.ntmps189;go_wp2_with (first
  | (go_at_call 241;refine (I6 _ _).mono ?_;rintro e w' ⟨rfl,rfl⟩)
  | (go_at_call 188;refine (yU _ _).mono ?_;rintro e w' ⟨rfl,rfl⟩)
  | (go_at_call 217;refine (yV _ _).mono ?_;rintro e w' ⟨rfl,rfl⟩))
 all_goals (go_ret;simp_all)
def iH (l:List UInt8):Bool:=VW.contains l
theorem eE (s:ByteArray) (w:World) :
  Calls Tryz.prog 240 #[.string s] w fun e w'=>e=.returned (.bool (iH s.data.toList))/\w=w':=by
 go_enter Tryz.func240,Tryz.ntmps240;go_wp2
 all_goals
  go_ret;refine ⟨aK ?_,rfl⟩;rw[<-ByteArray.toList_eq]
  simp_all [iH,VW]
def lv (p:Int->Bool) (l:List UInt8):Bool:=l.all fun c=>p c.toNat
def kx (first other:Int->Bool) (l:List UInt8):Bool:=decide (1<=l.length/\l.length<=16) && (!iH l && (first (l.headD 0).toNat && lv other l.tail))
theorem nQ {s:ByteArray} (h:1<=s.size):s.data.toList.headD 0=s[0]:=by
 have h':0<s.data.toList.length:=by simp;omega
 cases hs:s.data.toList with
 | nil=>rw[hs]at h';simp at h'
 | cons a b=>
  have:s[0]=s.data.toList[0]:=by simp[ByteArray.getElem_eq_getElem_data]
  rw[this];simp[hs]
theorem vS (s:ByteArray) (k:Nat) (h1:1<=k) (h:k<s.size) (p:Int->Bool) :
  lv p (s.data.toList.take (k+1)).tail=(lv p (s.data.toList.take k).tail && p s[k].toNat):=by
 rw[mQ (by simpa using h)];have h0:(s.data.toList.take k)≠[]:=by
  intro e;have:(s.data.toList.take k).length=0:=by rw[e];rfl
  have hl:s.data.toList.length=s.size:=by simp
  rw[dX,hl]at this;omega
 rw[List.tail_append_of_ne_nil h0];simp[lv,ByteArray.getElem_eq_getElem_data]
theorem sA (s:ByteArray) (k:Nat) (h1:1<=k) (h:k<s.size) (p:Int->Bool) (hp:p s[k].toNat=false):lv p s.data.toList.tail=false:=by
 unfold lv;rw[List.all_eq_false];refine ⟨s[k],?_,by simp[hp]⟩;rw[List.mem_iff_getElem];refine ⟨k - 1,by simp;omega,?_⟩;simp only[List.getElem_tail];simp[ByteArray.getElem_eq_getElem_data,show k - 1+1=k by omega]
theorem lY {p:Int->Bool} {l:List UInt8} (h:¬(1<=l.length/\l.length<=16)):kx p q l=false:=by simp[kx,h]
theorem vT {p:Int->Bool} {l:List UInt8} (h:iH l=true):kx p q l=false:=by simp[kx,h]
theorem qr {p:Int->Bool} {l:List UInt8} (h:p (l.headD 0).toNat=false):kx p q l=false:=by unfold kx;rw[h];simp
theorem sB {p:Int->Bool} {l:List UInt8} (h:lv q l.tail=false):kx p q l=false:=by simp[kx,h]
theorem vU {p:Int->Bool} {l:List UInt8} (h1:1<=l.length/\l.length<=16) (h2:iH l=false) (h3:p (l.headD 0).toNat=true) (h4:lv q l.tail=true):kx p q l=true:=by unfold kx;rw[h3,h2,h4];simp[h1]
theorem yW {p:Int->Bool} {f o:UInt8->Bool} (h1:∀ c:UInt8,p c.toNat=f c) (h2:∀ c:UInt8,q c.toNat=o c):∀ n:Str,kx p q n=rY f o n
 | []=>rfl
 | c :: r=>by
  have e:lv q r=r.all o:=by unfold lv;congr 1;funext c;exact h2 c
  have d:decide (1<=(c :: r).length/\(c :: r).length<=16)=decide (r.length<16):=by rw[gA];simp;omega
  unfold kx rY iH;rw[d];simp[h1,e]
theorem I7 (b1 b2:Nat) (s:ByteArray) (w:World) (hs:s.size<=9223372036854775807) (Oj:w.cell? ⟨b1,0,none⟩=some (.func (.func 190) #[] #[])) (hc2:w.cell? ⟨b2,0,none⟩=some (.func (.func 189) #[] #[])) :
  Calls Tryz.prog 239 #[.string s,.pointer (some ⟨b1,0,none⟩),.pointer (some ⟨b2,0,none⟩)] w fun e w'=>e=.returned (.bool (kx Uo ll s.data.toList))/\∃n,w'=w.drewN n:=by
 by_cases h1:1<=s.size
 ·have d1:decide ((s.size:Int)<1)=false:=by simp;omega
  have h0:0<s.size:=h1
  by_cases h2:s.size<=16
  ·have d2:decide (16<(s.size:Int))=false:=by simp;omega
   cases hr:iH s.data.toList
   ·cases hf:Uo s[0].toNat
    ·have HR:=ab hr;have pp201a:=();exact pm201
    ·have HR:=ab hr;have pp201b:=();exact pm201
   ·have HR:=ab hr;exact pm275
  ·have d2:decide (16<(s.size:Int))=true:=by simp;omega
   have pp44d:=();exact pm44
 ·have d1:decide ((s.size:Int)<1)=true:=by simp;omega
  have pp44d:=();exact pm44
theorem F4 (b1 b2:Nat) (s:ByteArray) (w:World) (hs:s.size<=9223372036854775807) (Oj:w.cell? ⟨b1,0,none⟩=some (.func (.func 216) #[] #[])) (hc2:w.cell? ⟨b2,0,none⟩=some (.func (.func 217) #[] #[])) :
  Calls Tryz.prog 239 #[.string s,.pointer (some ⟨b1,0,none⟩),.pointer (some ⟨b2,0,none⟩)] w fun e w'=>e=.returned (.bool (kx F1 BB s.data.toList))/\∃n,w'=w.drewN n:=by
 by_cases h1:1<=s.size
 ·have d1:decide ((s.size:Int)<1)=false:=by simp;omega
  have h0:0<s.size:=h1
  by_cases h2:s.size<=16
  ·have d2:decide (16<(s.size:Int))=false:=by simp;omega
   cases hr:iH s.data.toList
   ·cases hf:F1 s[0].toNat
    ·have HR:=ab hr;have pp201c:=();exact pm201
    ·have HR:=ab hr;have pp201d:=();exact pm201
   ·have HR:=ab hr;exact pm275
  ·have d2:decide (16<(s.size:Int))=true:=by simp;omega
   have pp44d:=();exact pm44
 ·have d1:decide ((s.size:Int)<1)=true:=by simp;omega
  have pp44d:=();exact pm44
theorem F5 (b1 b2:Nat) (s:ByteArray) (w:World) (hs:s.size<=9223372036854775807) (Oj:w.cell? ⟨b1,0,none⟩=some (.func (.func 188) #[] #[])) (hc2:w.cell? ⟨b2,0,none⟩=some (.func (.func 189) #[] #[])) :
  Calls Tryz.prog 239 #[.string s,.pointer (some ⟨b1,0,none⟩),.pointer (some ⟨b2,0,none⟩)] w fun e w'=>e=.returned (.bool (kx D7 ll s.data.toList))/\∃n,w'=w.drewN n:=by
 by_cases h1:1<=s.size
 ·have d1:decide ((s.size:Int)<1)=false:=by simp;omega
  have h0:0<s.size:=h1
  by_cases h2:s.size<=16
  ·have d2:decide (16<(s.size:Int))=false:=by simp;omega
   cases hr:iH s.data.toList
   ·cases hf:D7 s[0].toNat
    ·have HR:=ab hr;have pp201e:=();exact pm201
    ·have HR:=ab hr;exact pm201
   ·have HR:=ab hr;exact pm275
  ·have d2:decide (16<(s.size:Int))=true:=by simp;omega
   have pp44d:=();exact pm44
 ·have d1:decide ((s.size:Int)<1)=true:=by simp;omega
  have pp44d:=();exact pm44
theorem VY (c:UInt8):Uo c.toNat=(decide (97<=c) && decide (c<=116)):=by rw[gA];simp[Uo,UInt8.le_iff_toNat_le];omega
theorem Sp (c:UInt8):F1 c.toNat=(decide (117<=c) && decide (c<=122)):=by rw[gA];simp[F1,UInt8.le_iff_toNat_le];omega
theorem Mx (c:UInt8):vR c.toNat=ON c:=by rw[gA];simp[vR,ON,UInt8.le_iff_toNat_le];omega
theorem Li (c:UInt8):D7 c.toNat=Le c:=by rw[gA];simp[D7,Le,UInt8.le_iff_toNat_le];omega
theorem Lj (c:UInt8):BB c.toNat=Lf c:=by rw[gA];simp[BB,Lf,UInt8.le_iff_toNat_le];omega
theorem C6 (c:UInt8):ll c.toNat=Lg c:=by simp only[ll,Lg,Mx,Li,Lj,Bool.or_assoc]
theorem sC (f o:Nat) (w:World) :
  Calls Tryz.prog 187 #[.func (.func f) #[] #[],.func (.func o) #[] #[]] w fun e w'=>
   e=.returned (.func (.func 239) #[] #[.pointer (some ⟨w.heap.size,0,none⟩),.pointer (some ⟨w.heap.size+1,0,none⟩)])/\w'=(w.alloc (.cells #[.func (.func f) #[] #[]] 228)).alloc (.cells #[.func (.func o) #[] #[]] 228):=by
 go_enter Tryz.func187,Tryz.ntmps187;go_wp2;go_ret;simp
theorem Sq (n:Str):kx F1 BB n=i8 n:=yW Sp Lj n
theorem iI (n:Str) (w:World) (hn:n.length<=1000000000) :
  Calls Tryz.prog 152 #[.string ⟨n.toArray⟩] w fun e w'=>e=.returned (.bool (i8 n))/\Below w.heap.size w w':=by
 have hc:=F4 w.heap.size (w.heap.size+1) ⟨n.toArray⟩ ((w.alloc (.cells #[.func (.func 216) #[] #[]] 228)).alloc (.cells #[.func (.func 217) #[] #[]] 228)) (by rw[g_];omega) (by simp) (by simp);rw[D6,Sq]at hc;have HC:=ab hc;clear hc;go_enter Tryz.func152,Tryz.ntmps152;exact pm69
theorem Sr (n:Str):kx Uo ll n=Bw n:=yW VY C6 n
theorem lF (n:Str) (w:World) (hn:n.length<=1000000000) :
  Calls Tryz.prog 121 #[.string ⟨n.toArray⟩] w fun e w'=>e=.returned (.bool (Bw n))/\Below w.heap.size w w':=by
 have hc:=I7 w.heap.size (w.heap.size+1) ⟨n.toArray⟩ ((w.alloc (.cells #[.func (.func 190) #[] #[]] 228)).alloc (.cells #[.func (.func 189) #[] #[]] 228)) (by rw[g_];omega) (by simp) (by simp);rw[D6,Sr]at hc;have HC:=ab hc;clear hc;go_enter Tryz.func121,Tryz.ntmps121;exact pm69
theorem OO (n:Str):kx D7 ll n=wR n:=yW Li C6 n
theorem nc (n:Str) (w:World) (hn:n.length<=1000000000) :
  Calls Tryz.prog 120 #[.string ⟨n.toArray⟩] w fun e w'=>e=.returned (.bool (wR n))/\Below w.heap.size w w':=by
 have hc:=F5 w.heap.size (w.heap.size+1) ⟨n.toArray⟩ ((w.alloc (.cells #[.func (.func 188) #[] #[]] 228)).alloc (.cells #[.func (.func 189) #[] #[]] 228)) (by rw[g_];omega) (by simp) (by simp);rw[D6,OO]at hc;have HC:=ab hc;clear hc;go_enter Tryz.func120,Tryz.ntmps120;exact pm69
theorem My (c:UInt8) (r:Str):(⟨(c :: r).toArray⟩:ByteArray).extract 1 (c :: r).length=⟨r.toArray⟩:=by
 apply ByteArray.ext;simp[ByteArray.data_extract]
theorem jz (c:UInt8) (r:Str):(⟨(c :: r).toArray⟩:ByteArray).extract 1 (r.length+1)=⟨r.toArray⟩:=My c r
theorem OP (c:UInt8) (r:Str):(((⟨(c :: r).toArray⟩:ByteArray).extract 0 1)).toList=[c]:=by
 have:(⟨(c :: r).toArray⟩:ByteArray).extract 0 1=⟨#[c]⟩:=by apply ByteArray.ext;simp[ByteArray.data_extract]
 rw[this];simp[ByteArray.toList_eq]
theorem nR (n:Str) (w:World) (hn:n.length<=1000000000) :
  Calls Tryz.prog 242 #[.string ⟨n.toArray⟩,.string ⟨#[63]⟩] w fun e w'=>e=.returned (.bool (n.head? == some 63))/\w=w':=by
 cases n with
 | nil=>
  have pp289:=();exact pm289
 | cons c r=>
  have hs:=g_ (c :: r);simp at hs;have h1:((1:Int)<=((c :: r).length:Int)):=by simp;omega
  exact pm289
theorem wU (n:Str) (w:World) (hn:n.length<=1000000000) :
  Calls Tryz.prog 191 #[.string ⟨n.toArray⟩,.string ⟨#[63]⟩] w fun e w'=>e=.returned (.bool (n.head? == some 63))/\w=w':=by
 go_enter Tryz.func191,Tryz.ntmps191;go_wp2_with (go_at_call 242;refine (nR n _ hn).mono ?_;rintro e w' ⟨rfl,rfl⟩);go_ret;exact ⟨rfl,rfl⟩
theorem nd (r:Str) (w:World) (hn:(63 :: r).length<=1000000000) :
  Calls Tryz.prog 191 #[.string ⟨(63 :: r).toArray⟩,.string ⟨#[63]⟩] w fun e w'=>e=.returned (.bool true)/\w=w':=wU (63 :: r) w hn
theorem oE (n:Str) (w:World) (hn:n.length<=1000000000) (h:(n.head? == some 63)=false) :
  Calls Tryz.prog 191 #[.string ⟨n.toArray⟩,.string ⟨#[63]⟩] w fun e w'=>e=.returned (.bool false)/\w=w':=h ▸ wU n w hn
theorem sD {n:Str} (h:(n.head? == some 63)=true):∃r,n=63 :: r:=by
 cases n with
 | nil=>simp at h
 | cons c r=>simp at h;exact ⟨r,by rw[h]⟩
theorem jZ (n:Str) (w:World) (hn:n.length<=1000000000) :
  Calls Tryz.prog 123 #[.string ⟨n.toArray⟩] w fun e w'=>e=.returned (.bool (dZ n))/\Below w.heap.size w w':=by
 cases h:(n.head? == some 63) with
 | false=>
  have hp:dZ n=false:=by simp only[dZ,h,Bool.false_and]
  rw[hp];have CP:=ab (fun w=>oE n w hn h);clear h hp;go_enter Tryz.func123,Tryz.ntmps123;exact pm145
 | true=>
  obtain ⟨r,rfl⟩:=sD h;have hp:dZ (63 :: r)=i8 r:=by simp[dZ]
  rw[hp];have CP:=ab (fun w=>nd r w hn);have pp194:=();exact pm194
theorem ne (n:Str) (w:World) (hn:n.length<=1000000000) :
  Calls Tryz.prog 185 #[.string ⟨n.toArray⟩] w fun e w'=>e=.returned (.bool (dA n))/\Below w.heap.size w w':=by
 have hs:=g_ n
 by_cases hl:n.length<=16
 ·have d1:decide ((n.length:Int)<=16)=true:=by simp;omega
  cases h:(n.head? == some 63) with
  | false=>
   have hp:dA n=false:=by simp only[dA,h,Bool.false_and,Bool.and_false]
   rw[hp];have CP:=ab (fun w=>oE n w hn h);clear h hp;go_enter Tryz.func185,Tryz.ntmps185;exact pm145
  | true=>
   obtain ⟨r,rfl⟩:=sD h;have hp:dA (63 :: r)=wR r:=by simp only[dA,hl,List.head?_cons,List.tail_cons,decide_true,dP,beq_self_eq_true]
   have pp137:=();exact pm137
 ·have d1:decide ((n.length:Int)<=16)=false:=by simp;omega
  have hp:dA n=false:=by simp[dA,hl]
  rw[hp];clear hp;go_enter Tryz.func185,Tryz.ntmps185;go_wp2;go_ret;exact ⟨rfl,ak _ _⟩
theorem kL (n:Str) (w:World) (hn:n.length<=1000000000) :
  Calls Tryz.prog 186 #[.string ⟨n.toArray⟩] w fun e w'=>e=.returned (.bool (cW n))/\Below w.heap.size w w':=by
 have hs:=g_ n
 by_cases hl:n.length<=16
 ·have d1:decide ((n.length:Int)<=16)=true:=by simp;omega
  cases h:(n.head? == some 63) with
  | false=>
   have hp:cW n=false:=by simp only[cW,h,Bool.false_and,Bool.and_false]
   rw[hp];have CP:=ab (fun w=>oE n w hn h);clear h hp;go_enter Tryz.func186,Tryz.ntmps186;exact pm145
  | true=>
   obtain ⟨r,rfl⟩:=sD h;have hp:cW (63 :: r)=Bw r:=by simp only[cW,hl,List.head?_cons,List.tail_cons,decide_true,dP,beq_self_eq_true]
   exact pm137
 ·have d1:decide ((n.length:Int)<=16)=false:=by simp;omega
  have hp:cW n=false:=by simp[cW,hl]
  rw[hp];clear hp;go_enter Tryz.func186,Tryz.ntmps186;go_wp2;go_ret;exact ⟨rfl,ak _ _⟩
theorem ip (n:Str) (w:World) (hn:n.length<=1000000000) :
  Calls Tryz.prog 119 #[.string ⟨n.toArray⟩] w fun e w'=>e=.returned (.bool (da n))/\Below w.heap.size w w':=by
 unfold da
 cases h1:dA n with
 | true=>
  have pp273:=();exact pm273
 | false=>
  exact pm273
theorem I8 (n:Str):dA n=(da n && wR n.tail):=by
 exact pm268
theorem D8 (n:Str) (w:World) (hn:n.length<=1000000000) :
  Calls Tryz.prog 65 #[.string ⟨n.toArray⟩] w fun e w'=>e=.returned (.bool (dA n))/\Below w.heap.size w w':=by
 rw[I8]
 cases h:da n with
 | false=>
  have C1:=ab (fun w=>h ▸ ip n w hn);clear h;go_enter Tryz.func65,Tryz.ntmps65;exact pm252
 | true=>
  have pp107:=();exact pm107
theorem I9 (n:Str):cW n=(da n && Bw n.tail):=by
 exact pm268
theorem D9 (n:Str) (w:World) (hn:n.length<=1000000000) :
  Calls Tryz.prog 67 #[.string ⟨n.toArray⟩] w fun e w'=>e=.returned (.bool (cW n))/\Below w.heap.size w w':=by
 rw[I9]
 cases h:da n with
 | false=>
  have C1:=ab (fun w=>h ▸ ip n w hn);clear h;go_enter Tryz.func67,Tryz.ntmps67;exact pm252
 | true=>
  exact pm107
theorem eN (q:FQ) (w:World) :
  Calls Tryz.prog 93 #[q.val] w fun e w'=>e=.returned (.bool (bD q.o))/\Below w.heap.size w w':=by
 obtain ⟨o,n,a,l,c,b,m,e⟩:=q;unfold FQ.val bD;go_enter Tryz.func93,Tryz.ntmps93;go_wp2
 all_goals (go_ret;refine ⟨aK (by simp_all),cQ⟩)
theorem pE (q:FQ) (w:World) :
  Calls Tryz.prog 146 #[q.val] w fun e w'=>e=.returned (.bool (bD q.o))/\Below w.heap.size w w':=by
 obtain ⟨o,n,a,l,c,b,m,e⟩:=q;unfold FQ.val bD;go_enter Tryz.func146,Tryz.ntmps146;go_wp2
 all_goals (go_ret;refine ⟨aK (by simp_all),cQ⟩)
theorem eY (n:Str) (w:World) (hn:n.length<=1000000000) :
  Calls Tryz.prog 130 #[.string ⟨n.toArray⟩] w fun e w'=>e=.returned (.string ⟨(cM n).toArray⟩)/\w=w':=by
 have hs:=g_ n;go_enter Tryz.func130,Tryz.ntmps130;go_wp2;go_ret;exact ⟨Sn (by apply ByteArray.ext;simp[cM]),rfl⟩
theorem gg (n:Str) (w:World) :
  Calls Tryz.prog 131 #[.string ⟨n.toArray⟩] w fun e w'=>e=.returned (.agg #[.bool true,.string ⟨n.toArray⟩,.slice none 0 0])/\Below w.heap.size w w':=by
 go_enter Tryz.func131,Tryz.ntmps131;go_wp2;refine bI (v:=.agg #[.bool true,.string ⟨n.toArray⟩,.slice none 0 0]) (by simp[results,Tryz.results131,go_sem]) rfl ⟨rfl,?_⟩;exact cQ
section
variable {F:Fence} {n:Nat} {P:Program} {Q:Exit->Act->World->Prop}
theorem bB {o:Oper} {a:Act} {w:World} {K:Act->World->Prop} (s x:Operand) (t:TypeId)
  (ho:o.op=.call { callee:=.builtin .append,args:=#[s,x],argTypes:=#[t,t] })
  (base:Nat) (e:TypeId) (i:TypeInfo) (z:Value) (size bytes:Nat) (ht:P.underlying t=some (.slice e)) (hi:P.info? e=some i) (hz:i.zero=some z)
  (Lk:i.size=size) (hby:i.bytes=bytes) (hzs:z.cells.size=size) (hsz:0<size)
  (v:Value) (k:Nat) (xs:List Value) (hs:a.eval s=v) (au:w.ownsRow base e size v k xs)
  (ad:Addr) (m c:Nat) (vV:List Value) (hx:a.eval x=.slice (some ad) m c) (hl:vV.length=m * size) (Ll:∀ j u,vV[j]?=some u->w.cell? (ad.add j)=some u) (h1:∀ u∈vV,u.oneCell'=true)
  (hm:0<m) (h63:k+m<=maxLen) (D_:(k+m) * bytes<=140737488355328) (zal:base<=w.heap.size) (H:Nat) (hH:w.heap.size=H)
  (h:∀ g cap w',w'.ownsRow base e size (.slice (some ⟨g,0,none⟩) (k+m) cap) (k+m) (xs ++ vV)->w.grownBy w' v.ownBlock->(v.ownBlock=some g\/g=H)->g<w'.heap.size->K (a.put o.dst (.slice (some ⟨g,0,none⟩) (k+m) cap)) w'):o.wpIn F n P a w K Q:=by
 obtain ⟨g,cap,w',hr,h2,h3,h4,h5⟩:=run_append_lies (P:=P) w t o.type base e i z size bytes ht hi hz Lk hby hzs hsz v k xs au ad m c vV hl Ll h1 hm h63 D_ zal H hH;unfold Oper.wpIn;refine ⟨?_,?_⟩
 ·simp[Oper.about,ho,resolve,Target.leads,Sem.run_pure]
 ·rw[Oper.semAt_plain F _ _ (by rw[ho];intro c hc';cases hc')];simp[execOp,ho,resolve,invoke,builtin,hs,hx,hr,Result.andThen];exact h g cap w' h2 h3 h4 h5
end
structure Fills (T:TypeId) (R lo:Nat) (mk:Value->Array Value) (Row:Value->World->Prop) (W1 W:World) (row:Value):Prop where
 box:W.heap[R]?=some (.cells (mk row) T (0,0))
 row:Row row W
 kp:Kp (fun b=>b=R) W1 W
 lt:R<lo
 base:lo=W1.heap.size
theorem Fills.size {T:TypeId} {mk:Value->Array Value} {W:World} (h:Fills T R lo mk Row W1 W row):lo<=W.heap.size:=by have:=h.kp.size;have:=h.base;omega
theorem Fills.cell {T:TypeId} {mk:Value->Array Value} {W:World} (h:Fills T R lo mk Row W1 W row) (k:Nat):W.cell? ⟨R,k,none⟩=(mk row)[k]?:=aH h.box k
theorem Fills.below {T:TypeId} {mk:Value->Array Value} {w W:World} (h:Fills T R lo mk Row W1 W row) (hb:Below w.heap.size w W1) (hR:w.heap.size<=R):Below w.heap.size w W:=
 ⟨h.kp.os.trans hb.os,h.kp.tape.trans hb.tape,h.kp.output.trans hb.output,aQ hb.size h.kp.size,fun b hlt=>(h.kp.same b (bN hlt hb.size) (by omega)).trans (hb.block b hlt)⟩
theorem Fills.start {T:TypeId} {mk:Value->Array Value} (hx:W1.heap[R]?=some (.cells (mk row) T (0,0))) (hr:Row row W1):Fills T R W1.heap.size mk Row W1 W1 row:=
 ⟨hx,hr,Kp.refl _,(bn hx),rfl⟩
theorem Fills.later {T:TypeId} {mk:Value->Array Value} {W:World} (h:Fills T R lo mk Row W1 W row) (hb:Below W.heap.size W W') (hr:Row row W->Row row W'):Fills T R lo mk Row W1 W' row:=
 ⟨(hb.block R (bn h.box)).trans h.box,hr h.row,h.kp.trans (Kp.below hb),h.lt,h.base⟩
theorem Fills.other {T:TypeId} {mk:Value->Array Value} {W:World} (h:Fills T R lo mk Row W1 W row) {b:Nat} (jD:b≠R) (hb:W1.heap[b]?=some o):W.heap[b]?=some o:=
 (h.kp.same b (bn hb) jD).trans hb
theorem bm {W:World} {F:Nat} {cs:Array Value} {T:TypeId} (h:W.heap[R]?=some (.cells cs T (0,0))) (u:Value):(W.setCell ⟨R,F,none⟩ u).heap[R]?=some (.cells (cs.setIfInBounds F u) T (0,0)):=heap_setCell_same _ _ F _ _ u h
theorem Fills.at4 {T:TypeId} {size n kk:Nat} {mk:Value->Array Value}
  (h:Fills T R lo mk Row W1 wr row) (au:wr.ownsRow lo e size row n xs) (hA:Below wr.heap.size wr A) (ap:(A.alloc o).grownBy w4 row.ownBlock):w4.heap[R]?=some (.cells (mk row) T (0,0))/\w4.frozen? ⟨R,kk,none⟩=false/\w4.cell? ⟨R,kk,none⟩=(mk row)[kk]?:=by
 have hlt:=(bn h.box);have hs:=hA.size;have hx:w4.heap[R]?=some (.cells (mk row) T (0,0)):=(ap.block R (by simp;omega) (fun e=>by have:=(au.lt R e.symm).1;have:=h.lt;omega)).trans ((bK _ _ _ (by omega)).trans ((hA.block R hlt).trans h.box));exact ⟨hx,by simp[World.frozen?,hx],aH hx kk⟩
theorem Fills.kp5 {T:TypeId} {size n F:Nat} {mk:Value->Array Value} {u:Value}
  (h:Fills T R lo mk Row W1 wr row) (au:wr.ownsRow lo e size row n xs) (hA:Below wr.heap.size wr A) (ap:(A.alloc o).grownBy w4 row.ownBlock):Kp (fun b=>b=R) W1 (w4.setCell ⟨R,F,none⟩ u):=by
 have hs:=hA.size;have hg:=ap.size;simp only[World.size_alloc]at hg;have h1:Kp (fun b=>b=R) wr (w4.setCell ⟨R,F,none⟩ u)->Kp (fun b=>b=R) W1 (w4.setCell ⟨R,F,none⟩ u):=fun k=>h.kp.trans k;refine ⟨ap.os.trans (hA.os.trans h.kp.os),ap.tape.trans (hA.tape.trans h.kp.tape),ap.output.trans (hA.output.trans h.kp.output),by have:=h.kp.size;simp;omega,fun b hb jD=>?_⟩;have bF:b<wr.heap.size:=bN hb h.kp.size;exact (d9 _ _ _ _ (by simpa using jD)).trans ((ap.block b (by simp;omega) (fun e=>by have:=(au.lt b e.symm).1;have:=h.base;omega)).trans ((bK _ _ _ (by omega)).trans ((hA.block b bF).trans (h.kp.same b hb jD))))
theorem Fills.stepT {T:TypeId} {F:Nat} {mk:Value->Array Value} {qs:List TQ} {p:TQ}
  (h:Fills T R lo mk (fun r=>RowT lo r ts) W1 wr row) (au:wr.ownsRow lo 43 3 row ts.length (qs.flatMap TQ.cells)) (ew:qs.length=ts.length) (gh:∀ j (h:j<qs.length) (h2:j<ts.length),TermV (fun b=>lo<=b/\row.ownBlock≠some b) wr qs[j].val ts[j])
  (hA:Below wr.heap.size wr A) (hp:TermV (wr.heap.size<=·) A p.val t)
  (aR:w4.ownsRow lo 43 3 (.slice (some ⟨g,0,none⟩) (ts.length+1) cap) (ts.length+1) (qs.flatMap TQ.cells ++ p.cells)) (ap:(A.alloc o).grownBy w4 row.ownBlock) (hg:row.ownBlock=some g\/g=A.heap.size+1)
  (wV:(mk row).setIfInBounds F (.slice (some ⟨g,0,none⟩) (ts.length+1) cap)=mk (.slice (some ⟨g,0,none⟩) (ts.length+1) cap)) :
  Fills T R lo mk (fun r=>RowT lo r (ts ++ [t])) W1 (w4.setCell ⟨R,F,none⟩ (.slice (some ⟨g,0,none⟩) (ts.length+1) cap)) (.slice (some ⟨g,0,none⟩) (ts.length+1) cap):=by
 have pp86a:=();exact pm86
theorem Fills.stepF {T:TypeId} {F:Nat} {mk:Value->Array Value} {ts:List Fm} {t:Fm} {qs:List FQ} {p:FQ}
  (h:Fills T R lo mk (fun r=>RowF lo r ts) W1 wr row) (au:wr.ownsRow lo 36 4 row ts.length (qs.flatMap FQ.cells)) (ew:qs.length=ts.length) (gh:∀ j (h:j<qs.length) (h2:j<ts.length),FormV (fun b=>lo<=b/\row.ownBlock≠some b) wr qs[j].val ts[j])
  (hA:Below wr.heap.size wr A) (hp:FormV (wr.heap.size<=·) A p.val t)
  (aR:w4.ownsRow lo 36 4 (.slice (some ⟨g,0,none⟩) (ts.length+1) cap) (ts.length+1) (qs.flatMap FQ.cells ++ p.cells)) (ap:(A.alloc o).grownBy w4 row.ownBlock) (hg:row.ownBlock=some g\/g=A.heap.size+1)
  (wV:(mk row).setIfInBounds F (.slice (some ⟨g,0,none⟩) (ts.length+1) cap)=mk (.slice (some ⟨g,0,none⟩) (ts.length+1) cap)) :
  Fills T R lo mk (fun r=>RowF lo r (ts ++ [t])) W1 (w4.setCell ⟨R,F,none⟩ (.slice (some ⟨g,0,none⟩) (ts.length+1) cap)) (.slice (some ⟨g,0,none⟩) (ts.length+1) cap):=by
 have pp86b:=();exact pm86
theorem qt {W:World} {b:Nat} {a1 a2 v1 v2:Value} {T:TypeId} (h:W.heap[b]?=some (.cells #[a0,a1,a2] T (0,0))) :
  (((W.setCell ⟨b,0,none⟩ v0).setCell ⟨b,1,none⟩ v1).setCell ⟨b,2,none⟩ v2).heap[b]?=some (.cells #[v0,v1,v2] T (0,0)):=by
 have h0:=bm (F:=0) h v0;have h1:=bm (F:=1) h0 v1;exact (bm (F:=2) h1 v2).trans rfl
theorem lm {W:World} {b:Nat} {a1 a2 a3 v1 v2 v3:Value} {T:TypeId} (h:W.heap[b]?=some (.cells #[a0,a1,a2,a3] T (0,0))) :
  ((((W.setCell ⟨b,0,none⟩ v0).setCell ⟨b,1,none⟩ v1).setCell ⟨b,2,none⟩ v2).setCell ⟨b,3,none⟩ v3).heap[b]?=some (.cells #[v0,v1,v2,v3] T (0,0)):=by
 have h0:=bm (F:=0) h v0;have h1:=bm (F:=1) h0 v1;have h2:=bm (F:=2) h1 v2;exact (bm (F:=3) h2 v3).trans rfl
theorem eF {W:World} {b:Nat} {v1 v2:Value}:Kp (fun c=>c=b) W (((W.setCell ⟨b,0,none⟩ v0).setCell ⟨b,1,none⟩ v1).setCell ⟨b,2,none⟩ v2):=
 ⟨rfl,rfl,rfl,by simp,fun c _ hc=>(d9 _ _ _ _ (by simpa using hc)).trans ((d9 _ _ _ _ (by simpa using hc)).trans (d9 _ _ _ _ (by simpa using hc)))⟩
theorem dI {W:World} {b:Nat} {v1 v2 v3:Value}:Kp (fun c=>c=b) W ((((W.setCell ⟨b,0,none⟩ v0).setCell ⟨b,1,none⟩ v1).setCell ⟨b,2,none⟩ v2).setCell ⟨b,3,none⟩ v3):=
 ⟨rfl,rfl,rfl,by simp,fun c _ hc=>(d9 _ _ _ _ (by simpa using hc)).trans ((d9 _ _ _ _ (by simpa using hc)).trans ((d9 _ _ _ _ (by simpa using hc)).trans (d9 _ _ _ _ (by simpa using hc))))⟩
theorem Below.kp1 {w W:World} {b:Nat} (h:Below w.heap.size w W) (hk:Kp (fun c=>c=b) W W') (hb:w.heap.size<=b):Below w.heap.size w W':=
 ⟨hk.os.trans h.os,hk.tape.trans h.tape,hk.output.trans h.output,aQ h.size hk.size,fun c hc=>(hk.same c (bN hc h.size) (by omega)).trans (h.block c hc)⟩
theorem RowT.kp1 {b:Nat} {W:World} (h:RowT lo v ts W) (hk:Kp (fun c=>c=b) W W') (hb:b<lo):RowT lo v ts W':=h.held (fun c hc hlt=>hk.same c hlt (by omega))
theorem RowF.kp1 {b:Nat} {ts:List Fm} {W:World} (h:RowF lo v ts W) (hk:Kp (fun c=>c=b) W W') (hb:b<lo):RowF lo v ts W':=h.held (fun c hc hlt=>hk.same c hlt (by omega))
theorem RowT.term {w:Nat} {W:World} {v:Bool} {n:Str} {a:Option Addr} (h:RowT lo (.slice a l c) ts W) (hw:w<=lo):TermV (w<=·) W (TQ.val ⟨v,⟨n.toArray⟩,a,l,c⟩) (.mk v n ts):=
 aV.2 ⟨_,rfl,h.terms.move (fun _ hok _=>⟨aQ hw hok,rfl⟩)⟩
theorem RowF.form {lo2 w:Nat} {W:World} {o:Int} {n:Str} {fs:List Fm} {a b:Option Addr} {e:Nat} (ht:RowT lo (.slice a l c) ts W) (hf:RowF lo2 (.slice b m e) fs W) (hw:w<=lo) (Ok:w<=lo2):FormV (w<=·) W (FQ.val ⟨o,⟨n.toArray⟩,a,l,c,b,m,e⟩) (.mk o n ts fs):=
 aW.2 ⟨_,_,rfl,ht.terms.move (fun _ hok _=>⟨aQ hw hok,rfl⟩),hf.forms.move (fun _ hok _=>⟨aQ Ok hok,rfl⟩)⟩
section
attribute [local go_sem] Oper.semAt_some
theorem oF:∀ (t:Tm),fitT t->∀ (ok:Nat->Prop) (w:World) (q:TQ),TermV ok w q.val t →
  Calls Tryz.prog 53 #[q.val] w fun e w'=>∃p:TQ,e=.returned p.val/\TermV (w.heap.size<=·) w' p.val t/\Below w.heap.size w w':=by
 obtain ⟨i0,hi,pF,iq,gV⟩:=info_parts gN;intro t
 induction t using Tm.ind with
 | h v n a ih=>
  intro aA ok w q hq;have pp171a:=();exact pm171
