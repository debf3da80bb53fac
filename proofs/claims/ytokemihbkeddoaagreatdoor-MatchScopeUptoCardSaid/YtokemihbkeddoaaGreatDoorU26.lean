/-
'instance' of package match: the second pass at a place. (Printed by gen_minstance.py.)
'places' of package match: the iterator made,and run over.
A loop whose rounds add marks (a range over a function in a loop): the law over slots and the list of deferred marks;leaving a function with marks.
-/
import Derived.Test.YtokemihbkeddoaaGreatDoorU00
import Derived.Test.YtokemihbkeddoaaGreatDoorU20
import Derived.Test.YtokemihbkeddoaaGreatDoorU21
import Derived.Test.YtokemihbkeddoaaGreatDoorU13
import Derived.Test.YtokemihbkeddoaaGreatDoorU08
import Derived.Test.YtokemihbkeddoaaGreatDoorU17
import Derived.Test.YtokemihbkeddoaaGreatDoorU02
import Derived.LoopIn
namespace Go.Proofs.YtokemihbkeddoaaGreatDoor
open Go Go.RowKit Lib
set_option maxRecDepth 100000
set_option maxHeartbeats 64000000
section
attribute [local go_sem] Oper.semAt_some
theorem Np (k:Bd) (o:Int) (n:Str) (a:List Tm) (s:List Fm) (F:Fm) (c:Sco):gP k ⟨.mk o n a s,F,c⟩ =
  if (o != 16)=true then ((k,0):Bd×Int)
  else match getB k.fs n with
  | none=>(k,71)
  | some f=>match fD c [] F with
   | none=>(k,70)
   | some im=>
    if gF (bg (.mk o n a s)).1 f=0 then (if bT [] f im=true then (k,0) else (k,70))
    else match (match getB k.ts (bg (.mk o n a s)).2 with | some t=>some (t,k.ts) | none=>(iZ f im (bg (.mk o n a s)).1).map fun t=>(t,gw (bg (.mk o n a s)).2 t k.ts)) with
     | none=>(k,70)
     | some (t,ts)=>if (nodesF f+gF (bg (.mk o n a s)).1 f * (nodesT t - 1) != nodesF im)=true then ({ k with ts:=ts },70)
      else if bT [] (gS (bg (.mk o n a s)).1 t f) im=true then ({ k with ts:=ts },0) else ({ k with ts:=ts },70):=rfl
theorem Ho {M:Nat->Prop} {W X Y:World} {B:Nat} (h:Kp M W X) (k:Kp (fun b=>b=B) X Y) (hB:W.heap.size<=B):Kp M W Y:=
 ⟨k.os.trans h.os,k.tape.trans h.tape,k.output.trans h.output,Nat.le_trans h.size k.size,fun b hb hm=>(k.same b (Nat.lt_of_lt_of_le hb h.size) (by omega)).trans (h.same b hb hm)⟩
theorem Hp {x:Str}:∀ (l:List Tm) (i:Nat),eW x l≠0->(dX x l i).isSome=true:=by
 have Ga:∀ t:Tm,BJ x t≠0->(mn x t).isSome=true:=by
  exact pm190
 intro l
 induction l with
 | nil=>intro i h;simp[eW]at h
 | cons u a L2=>
  intro i h
  simp only[eW]at h
  unfold dX
  cases hp:mn x u with
  | some p=>rfl
  | none=>
   simp only
   refine L2 _ ?_
   intro h0
   have:=Ga u (by omega)
   rw[hp]at this;cases this
theorem KG {x:Str}:∀ f:Fm,gF x f≠0->(ko x f).isSome=true:=by
 intro f
 induction f using Fm.ind with
 | h o n a s ih=>
 intro h
 unfold ko
 cases hp:dX x a 0 with
 | some p=>rfl
 | none=>
  simp only
  have h1:eW x a=0:=by
   by_cases h0:eW x a=0
   ·exact h0
   ·have:=Hp a 0 h0
    rw[hp]at this;cases this
  simp only[gF,h1,Nat.zero_add]at h
  clear hp h1
  generalize 0=i
  induction s generalizing i with
  | nil=>simp[iY]at h
  | cons u s ihs=>
   simp only[iY]at h
   unfold ld
   cases hp:ko x u with
   | some p=>rfl
   | none=>
    simp only
    refine ihs (fun t ht=>ih t (List.mem_cons_of_mem _ ht)) ?_ _
    intro h0
    have:=ih u (List.mem_cons_self ..) (by omega)
    rw[hp]at this;cases this
theorem KH (W0:World):RH W0 48 gP:=by
 intro M kb mF mT ON OM OO Tv p hp pA W nF nT k q ps Tw yw dw pN oA hpv
 obtain ⟨⟨o,n,a,s⟩,F,c⟩:=p
 exact pm97
def gp (w:World) (q r:FQ):World:=(w.alloc (.cells #[.int .u8 q.o,.string q.n,.slice q.a q.l q.c,.slice q.b q.m q.e] 36)).alloc (.cells #[.int .u8 r.o,.string r.n,.slice r.a r.l r.c,.slice r.b r.m r.e] 36)
theorem eU (w:World) (q r:FQ):Below w.heap.size w (gp w q r):=ct.alloc (by simp) _
theorem jn (w:World) (q r:FQ):(gp w q r).heap.size=w.heap.size+2:=by simp[gp]
theorem jX (w:World) (q r:FQ):(gp w q r).heap[w.heap.size]?=some (.cells #[.int .u8 q.o,.string q.n,.slice q.a q.l q.c,.slice q.b q.m q.e] 36 (0,0)):=by
 unfold gp
 exact ((((Below.refl _ (w.alloc (.cells #[.int .u8 q.o,.string q.n,.slice q.a q.l q.c,.slice q.b q.m q.e] 36))).alloc (Nat.le_refl _) _).block w.heap.size (by simp)).trans (aj rfl))
theorem jY (w:World) (q r:FQ):(gp w q r).heap[w.heap.size+1]?=some (.cells #[.int .u8 r.o,.string r.n,.slice r.a r.l r.c,.slice r.b r.m r.e] 36 (0,0)):=by
 unfold gp
 exact aj (by simp)
theorem ly (q r:FQ) (w:World) :
  Calls Tryz.prog 49 #[q.val,r.val] w fun e w'=>e=.returned (.func (.func 102) #[] #[.pointer (some ⟨w.heap.size,0,none⟩),.pointer (some ⟨w.heap.size+1,0,none⟩)])/\w'=gp w q r:=by
 obtain ⟨o,n,a,l,c,b,m,e⟩:=q
 obtain ⟨o2,n2,a2,l2,c2,b2,m2,e2⟩:=r
 unfold FQ.val gp
 go_enter Tryz.func49,Tryz.ntmps49
 go_wp2
 go_ret
 exact ⟨by simp,rfl⟩
theorem lA (s f:Fm) (aD:fitF f) (yd:nodesF s<=1000000) (M:Nat->Prop) (B X Y:Nat) (w:World) (q r:FQ) (hX:w.heap[X]?=some (.cells #[.int .u8 q.o,.string q.n,.slice q.a q.l q.c,.slice q.b q.m q.e] 36 (0,0))) (FP:¬M X)
  (hY0:w.heap[Y]?=some (.cells #[.int .u8 r.o,.string r.n,.slice r.a r.l r.c,.slice r.b r.m r.e] 36 (0,0))) (T2:¬M Y) (hq:FormV (fun b=>b<B/\¬M b) w q.val s) (hr:FormV (fun b=>b<B/\¬M b) w r.val f) :
  Gb M True Tryz.prog 102 #[.pointer (some ⟨X,0,none⟩),.pointer (some ⟨Y,0,none⟩)] (bE [] s f) (MJ M B) w:=by
 intro l J Jx W hk hM hl Vj hJ Xy hY hj
 have OH:=(bl hX)
 have hYl:=(bl hY0)
 have vN:=(hk.same X OH FP).trans hX
 have Yh:=(hk.same Y hYl T2).trans hY0
 exact pm94
end
def gZ (tm:Array Value) (us:Nat->Value):List Nat->Array Value
 | []=>tm
 | s :: l=>(gZ tm us l).setIfInBounds s (us s)
theorem vi (tm:Array Value) (us:Nat->Value):∀ ss,(gZ tm us ss).size=tm.size
 | []=>rfl
 | s :: l=>by simp only[gZ,Array.size_setIfInBounds,vi tm us l]
theorem vj (tm:Array Value):∀ ss,gZ tm (fun s=>tm.getD s undef) ss=tm
 | []=>rfl
 | s :: l=>by
  simp only[gZ,vj tm l]
  apply Array.ext
  ·simp
  ·intro i h1 h2
   rw[Array.getElem_setIfInBounds]
   split
   ·rename_i h;subst h;simp[Array.getD,h2]
   ·rfl
theorem yU (tm:Array Value) (us:Nat->Value) (s0:Nat) (h0:s0<tm.size):∀ ss,s0∈ss->(gZ tm us ss).getD s0 undef=us s0
 | [],h=>by cases h
 | s :: l,h=>by
  simp only[gZ]
  have hz:=vi tm us l
  by_cases hs:s=s0
  ·subst hs;simp[Array.getD,hz,h0]
  ·have ih:=yU tm us s0 h0 l (by rcases List.mem_cons.1 h with h | h;exact absurd h.symm hs;exact h)
   rw[<-ih]
   simp only[Array.getD,Array.size_setIfInBounds]
   by_cases hlt:s0<(gZ tm us l).size
   ·simp[hlt,hs]
   ·simp[hlt]
def RoundEnd (tm:Array Value) (ss:List Nat) (s0:Nat) (rel:(Nat->Value)->List Deferred->World->Prop) (μ:Value->Nat) (m:Nat) (a:Act) (w:World):Prop:=(∃us',a.tmps=gZ tm us' ss/\rel us' a.defers w)/\μ (a.tmps.getD s0 undef)<m
theorem RoundEnd.mk {tm:Array Value} {ss:List Nat} {s0:Nat} {rel:(Nat->Value)->List Deferred->World->Prop} {μ:Value->Nat} {m:Nat} {T:Array Value} {ds:List Deferred} {w:World} (hT:gZ tm (fun s=>T.getD s undef) ss=T) (hr:rel (fun s=>T.getD s undef) ds w) (hm:μ (T.getD s0 undef)<m):RoundEnd tm ss s0 rel μ m { tmps:=T,defers:=ds } w:=⟨⟨_,hT.symm,hr⟩,hm⟩
theorem kl {F:Fence} {n:Nat} {P:Program} {Q:Exit->Act->World->Prop} {c:Code} (ss:List Nat) (s0:Nat) {tm:Array Value} {ds:List Deferred} {w:World} (rel:(Nat->Value)->List Deferred->World->Prop) (μ:Value->Nat)
  (gu:s0<tm.size) (iD:s0∈ss) (h0:rel (fun s=>tm.getD s undef) ds w)
  (round:∀ us ds' wr,rel us ds' wr->c.wpIn F n P (Exit.then (RoundEnd tm ss s0 rel μ (μ (us s0))) Q) { tmps:=gZ tm us ss,defers:=ds' } wr) :
  (Code.loop c).wpIn F n P Q { tmps:=tm,defers:=ds } w:=by
 refine wpIn_loop (fun a w=>∃us,a.tmps=gZ tm us ss/\rel us a.defers w) (fun a _=>μ (a.tmps.getD s0 undef)) ⟨_,(vj tm ss).symm,h0⟩ ?_
 have Gq:∀ us,(gZ tm us ss).getD s0 undef=us s0:=fun us=>yU tm us s0 gu ss iD
 rintro ⟨T,ds'⟩ wr ⟨us,hT,hr⟩
 simp only at hT hr
 subst hT
 refine wpIn_mono (round us ds' wr hr) ?_
 intro e a' w' h
 cases e with
 | normal=>exact ⟨h.1,by have:=h.2;rw[<-Gq us]at this;exact this⟩
 | _=>exact h
def mkD (D:Nat):Deferred:={ target:=.collected D,args:=#[] }
def Marks (B:Nat) (w:World) (ds:List Deferred):Prop:=∃Ds:List Nat,ds=Ds.map mkD/\Ds.Nodup/\∀ D∈Ds,B<=D/\w.heap[D]?=some (.deferred (some []))
theorem Marks.nil (B:Nat) (w:World):Marks B w []:=⟨[],rfl,List.nodup_nil,fun _ h=>by cases h⟩
theorem Marks.move {B:Nat} {w w':World} {ds:List Deferred} (h:Marks B w ds) (hk:∀ D,B<=D->w.heap[D]?=some (.deferred (some []))->w'.heap[D]?=some (.deferred (some []))):Marks B w' ds:=by
 obtain ⟨Ds,rfl,hn,h⟩:=h
 exact ⟨Ds,rfl,hn,fun D hD=>⟨(h D hD).1,hk D (h D hD).1 (h D hD).2⟩⟩
theorem Marks.more {B D:Nat} {w w':World} {ds:List Deferred} (h:Marks B w ds) (hk:∀ D,B<=D->w.heap[D]?=some (.deferred (some []))->w'.heap[D]?=some (.deferred (some []))) (hD:w.heap.size<=D) (hB:B<=D) (hd:w'.heap[D]?=some (.deferred (some []))):Marks B w' ({ target:=.collected D,args:=#[] } :: ds):=by
 obtain ⟨Ds,rfl,hn,h⟩:=h
 refine ⟨D :: Ds,rfl,List.nodup_cons.2 ⟨fun hm=>?_,hn⟩,fun E hE=>?_⟩
 ·have:=(bl (h D hm).2)
  omega
 ·rcases List.mem_cons.1 hE with rfl | hE
  ·exact ⟨hB,hd⟩
  ·exact ⟨(h E hE).1,hk E (h E hE).1 (h E hE).2⟩
theorem dI {F:Fence} {n:Nat} {P:Program} {fn:Func} {tmps:Array Value} {R:Ending->World->Prop} {B:Nat} {ds:List Deferred} {w:World} (h:Marks B w ds) (hR:∀ w',Nw B w w'->LeavesInM F n P fn tmps R [] .returning w'):LeavesInM F n P fn tmps R ds .returning w:=by
 obtain ⟨Ds,rfl,hn,h⟩:=h
 induction Ds generalizing w with
 | nil=>exact hR w (Nw.refl _ _)
 | cons D Ds ih=>
  have hd:=h D (List.mem_cons_self ..)
  have hD:=(List.nodup_cons.1 hn).1
  refine ⟨by simp,.inl ⟨D,_,rfl,run_takeDeferred hd.2,?_⟩⟩
  have hw:Nw B w (w.putObj D (.deferred none)):=Nw.put hd.1 hd.2 rfl rfl
  refine ih (fun w' hk=>hR w' (hw.trans hk)) (List.nodup_cons.1 hn).2 (fun E hE=>⟨(h E (List.mem_cons_of_mem _ hE)).1,?_⟩)
  exact (World.putObj_heap_other (fun e=>hD (by rw[<-e];exact hE))).trans (h E (List.mem_cons_of_mem _ hE)).2
end Go.Proofs.YtokemihbkeddoaaGreatDoor
