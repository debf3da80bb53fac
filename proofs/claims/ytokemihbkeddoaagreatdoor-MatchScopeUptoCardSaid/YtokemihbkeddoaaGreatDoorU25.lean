/-
Plain laws of filling: what is filled in has no more nodes than was counted ahead,and no long names.
Rows of what metavariables stand for that a call makes,element by element. (Printed by gen_mrowb.py.)
slices.Sorted(maps.Keys(m)) at the maps of formulas and of terms.
'binding' of package match: what is known,in memory of its own. (Printed by gen_mbinding.py.)
-/
import Derived.Test.YtokemihbkeddoaaGreatDoorU00
import Derived.Test.YtokemihbkeddoaaGreatDoorU24
import Derived.Test.YtokemihbkeddoaaGreatDoorU19
import Derived.Test.YtokemihbkeddoaaGreatDoorU01
import Derived.Test.YtokemihbkeddoaaGreatDoorU02
import Derived.Test.YtokemihbkeddoaaGreatDoorU03
import Derived.Test.YtokemihbkeddoaaGreatDoorU07
import Derived.Test.YtokemihbkeddoaaGreatDoorU16
import Derived.Test.YtokemihbkeddoaaGreatDoorU20
namespace Go.Proofs.YtokemihbkeddoaaGreatDoor
open Go Go.RowKit Lib
set_option maxRecDepth 100000
set_option maxHeartbeats 64000000
theorem C7 {α:Type}:∀ {l:List (Str×α)} {z:Str} {v:α},getB l z=some v->(z,v)∈l
 | [],_,_,h=>by simp[getB]at h
 | (y,u) :: r,z,v,h=>by
  unfold getB at h
  split at h
  ·rename_i e
   obtain rfl:=Option.some.inj h
   obtain rfl:=beq_iff_eq.1 e
   exact List.mem_cons_self
  ·exact List.mem_cons_of_mem _ (C7 h)
mutual
def sF (k:Bd):Fm->Nat | .mk o n a s=>kr k (.mk o n a s)+oU k s
def oU (k:Bd):List Fm->Nat | []=>0 | t :: l=>sF k t+oU k l
end
mutual
theorem Bs (k:Bd):∀ (s:Fm) (c:Sco),((bE c s s).map fun p=>kr k p.s).sum=sF k s
 | .mk o n a s,c=>by simp only[bE,List.map_cons,List.sum_cons,sF,yN k s]
theorem yN (k:Bd):∀ (s:List Fm) (c:Sco),((aT c s s).map fun p=>kr k p.s).sum=oU k s
 | [],_=>by simp[aT,oU]
 | t :: l,c=>by simp only[aT,List.map_append,List.sum_append,oU,Bs k t,yN k l]
end
theorem Fe {k:Bd} (hk:bU k=true) (fB:∀ x∈k.ts,nodesT x.2<=1000) (n:Str):goodT (termOf k.ts n)\/termOf k.ts n=.mk false [] []:=by
 unfold termOf
 cases e:getB k.ts n with
 | none=>exact .inr rfl
 | some t=>exact .inl (Cp hk fB _ (C7 e)).1
theorem KD {k:Bd} (hk:bU k=true) (fB:∀ x∈k.ts,nodesT x.2<=1000) (n:Str):iS 17 (termOf k.ts n)=true:=by
 rcases Fe hk fB n with h | h
 ·exact h.nm
 ·rw[h];rfl
mutual
theorem Nm {k:List (Str×Tm)} (hk:∀ n,iS 17 (termOf k n)=true) {c:List Str}:∀ t,iS 16 t=true->iS 17 (cC k c t)=true
 | .mk v n a,h=>by
  have pp295d:=();exact pm295
theorem t_ {k:List (Str×Tm)} (hk:∀ n,iS 17 (termOf k n)=true) {c:List Str}:∀ l,dF 16 l=true->dF 17 (eQ k c l)=true
 | [],_=>rfl
 | t :: l,h=>by
  simp only[dF,Bool.and_eq_true]at h
  simp[eQ,dF,Nm hk t h.1,t_ hk l h.2]
end
theorem yO {p:Nat} {o:Int} {n:Str} {a:List Tm} {s:List Fm} (h:ks p (.mk o n a s)=true):(0<=o/\o<=255)/\n.length<=p/\dF p a=true/\fd p s=true:=by
 simpa only[ks,Bool.and_eq_true,decide_eq_true_eq] using h
theorem Hl {n:Str} {r:Fm} (hn:n.length<=16) (hr:nodesF r<=100000):(if (aO [] r).contains n then dq (aO [] r) else n).length<=2000000:=by
 split
 ·exact nb (by have:=fj r [];omega)
 ·omega
mutual
theorem yP {k:Bd} (hk:bU k=true) (fB:∀ x∈k.ts,nodesT x.2<=1000):∀ (s:Fm) (c:List Str),okF true s=true->gY k s=true->sF k s<=1000->nodesF (cz k c s)<=sF k s/\ks 2000000 (cz k c s)=true
 | .mk o n a s,c,hok,h,hsz=>by
  obtain ⟨k1,k2⟩:=(gI k).1 hk
  have c9:=yO (gB _ hok)
  by_cases lK:o=15
  ·subst lK
   obtain ⟨g,hg⟩:=yL h
   have e2:formOf k.fs n=g:=by unfold formOf;rw[hg]
   have e:cz k c (.mk 15 n a s)=g:=by simp only[cz,if_true];exact e2
   have sV:goodF g:=(oQ k1 hg).1
   rw[e]
   refine ⟨?_,sV.fit.2⟩
   have:kr k (.mk 15 n a s)=nodesF g:=by simp only[kr,Fm.op,Fm.n,if_true,e2]
   unfold sF
   omega
  ·by_cases iE:o=16
   ·subst iE
    obtain ⟨rfl,x,y,rfl,hx,_⟩:=Br hok
    rw[t5]
    obtain ⟨g,hg,h2⟩:=yM h
    have e2:formOf k.fs n=g:=by unfold formOf;rw[hg]
    have sV:goodF g:=(oQ k1 hg).1
    have hz:kr k (.mk 16 n [ap x,ap y] [])=nodesF g+gF (cH x) g * (nodesT (termOf k.ts y) - 1):=by
     simp only[kr,Fm.op,Fm.n,e2]
     rw[if_neg (by decide)]
     rfl
    unfold sF
    rw[hz]
    unfold Fd
    rw[e2]
    split
    ·exact ⟨by omega,sV.fit.2⟩
    ·rename_i h0
     obtain ⟨t,ht⟩:=h2.resolve_left h0
     have e3:termOf k.ts y=t:=by unfold termOf;rw[ht]
     have htg:=(Cp hk fB _ (C7 ht)).1
     rw[e3]
     have hn:=sV.nodes
     have lH:nodesT t<=1000:=htg.2
     refine ⟨?_,(sh sV htg).2⟩
     have hlt:nodesF g+nodesT t<10 ^ 19:=by omega
     rw[KC (sE x) sV.wf sV.qone (PU (oQ k1 hg).1) (tZ htg.1) hlt]
     exact Nat.le_add_right _ _
   ·obtain ⟨h1,h2⟩:=nv lK iE h
    have Nf:=hok
    simp only[okF,Bool.and_eq_true]at hok
    have hz:kr k (.mk o n a s)=dC k.ts a+1:=by unfold kr;rw[if_neg (show ¬(Fm.mk o n a s).op=15 from lK),if_neg (show ¬(Fm.mk o n a s).op=16 from iE)];rfl
    unfold sF at hsz ⊢
    rw[hz]at hsz ⊢
    by_cases hq:bn o=true
    ·obtain ⟨_,rfl,g,rfl⟩:=mL Nf hq
     have ih:=lY hk fB [g] (n :: c) hok.2.2.2.2 h2 (by omega)
     have iw:=oT hk [g] (n :: c) hok.2.2.2.2 h2
     simp only[eR,ah,fd,Bool.and_true,eF,en]at ih iw
     exact pm291
    ·have ih:=lY hk fB s c hok.2.2.2.2 h2 (by omega)
     exact pm308
theorem lY {k:Bd} (hk:bU k=true) (fB:∀ x∈k.ts,nodesT x.2<=1000):∀ (s:List Fm) (c:List Str),cX true s=true->jm k s=true->oU k s<=1000->ah (eR k c s)<=oU k s/\fd 2000000 (eR k c s)=true
 | [],_,_,_,_=>by simp[eR,ah,fd]
 | t :: l,c,hok,h,hsz=>by
  simp only[cX,jm,Bool.and_eq_true]at hok h
  simp only[oU]at hsz ⊢
  have i1:=yP hk fB t c hok.1 h.1 (by omega)
  have i2:=lY hk fB l c hok.2 h.2 (by omega)
  simp only[eR,ah,fd,i1.2,i2.2,Bool.and_self,and_true]
  omega
end
theorem Ff {w:World} {base size n g c:Nat} {e:TypeId} {xs:List Value} (h:w.ownsRow base e size (.slice (some ⟨g,0,none⟩) n c) n xs):n<=c:=by
 exact pm194
def BF (e:Str×FQ):List Value:=.string ⟨e.1.toArray⟩ :: e.2.cells
theorem TM (es:List (Str×FQ)):∀ j (h:j<es.length),(es.flatMap BF)[j * 5]?=some (.string ⟨es[j].1.toArray⟩)/\(es.flatMap BF)[j * 5+1]?=some (.int .u8 es[j].2.o)/\(es.flatMap BF)[j * 5+2]?=some (.string es[j].2.n)/\(es.flatMap BF)[j * 5+3]?=some (.slice es[j].2.a es[j].2.l es[j].2.c)/\(es.flatMap BF)[j * 5+4]?=some (.slice es[j].2.b es[j].2.m es[j].2.e):=by
 induction es with
 | nil=>intro j h;simp at h
 | cons q es ih=>
  intro j h
  cases j with
  | zero=>simp[BF,FQ.cells]
  | succ j=>
   have:=ih j (by simpa using h)
   simp only[List.flatMap_cons,BF,FQ.cells,List.cons_append,List.nil_append]
   rw[show (j+1) * 5=j * 5+1+1+1+1+1 by omega,show j * 5+1+1+1+1+1+1=(j * 5+1)+1+1+1+1+1 by omega,show j * 5+1+1+1+1+1+2=(j * 5+2)+1+1+1+1+1 by omega,show j * 5+1+1+1+1+1+3=(j * 5+3)+1+1+1+1+1 by omega,show j * 5+1+1+1+1+1+4=(j * 5+4)+1+1+1+1+1 by omega]
   simpa[BF,FQ.cells] using this
def RowFB (lo:Nat) (v:Value) (l:List (Str×Fm)) (W:World):Prop:=
 ∃es:List (Str×FQ),es.length=l.length/\W.ownsRow lo 40 5 v l.length (es.flatMap BF)/\∀ j (h:j<es.length) (h2:j<l.length),es[j].1=l[j].1/\FormV (fun b=>lo<=b/\v.ownBlock≠some b) W es[j].2.val l[j].2
theorem RowFB.nil (lo:Nat) (W:World):RowFB lo (.slice none 0 0) [] W:=⟨[],rfl,World.ownsRow_nil _ _ _ _,fun j h=>by simp at h⟩
theorem RowFB.slice {lo:Nat} {v:Value} {ts:List (Str×Fm)} {W:World} (h:RowFB lo v ts W):∃a c,v=.slice a ts.length c:=by
 exact pm263
theorem RowFB.held {lo:Nat} {v:Value} {ts:List (Str×Fm)} {W W':World} (h:RowFB lo v ts W) (hb:∀ b,lo<=b->b<W.heap.size->W'.heap[b]?=W.heap[b]?):RowFB lo v ts W':=by
 exact pm233
theorem RowFB.below {lo:Nat} {v:Value} {ts:List (Str×Fm)} {W W':World} (h:RowFB lo v ts W) (hb:Below W.heap.size W W'):RowFB lo v ts W':=h.held (fun b _ hlt=>hb.block b hlt)
theorem RowFB.binds {lo:Nat} {v:Value} {ts:List (Str×Fm)} {W:World} (h:RowFB lo v ts W):FBindsV (lo<=·) W v ts:=by
 obtain ⟨es,hk,ho,ht⟩:=h
 rcases gx ho with ⟨rfl,h0⟩ | ⟨g,cap,rfl,hg,_⟩
 ·obtain rfl:=List.eq_nil_of_length_eq_zero h0
  exact ⟨none,0,fun _=>⟨0,⟨#[]⟩,none,0,0,none,0,0⟩,rfl,Nat.le_refl _,.inl rfl,fun j hj=>by simp at hj⟩
 ·refine ⟨_,cap,fun j=>if h:j<es.length then es[j].2 else ⟨0,⟨#[]⟩,none,0,0,none,0,0⟩,rfl,Ff ho,.inr ⟨g,0,rfl,hg,fun j hj=>?_⟩,fun j hj=>?_⟩
  ·have vJ:j<es.length:=by omega
   obtain ⟨c0,c1,c2,c3,c4⟩:=TM es j vJ
   have pp201:=();exact pm201
  ·have vJ:j<es.length:=by omega
   simp only[dif_pos vJ]
   exact (ht j vJ hj).2.move (fun b hok _=>⟨hok.1,rfl⟩)
theorem RowFB.step {lo g cap:Nat} {v:Value} {ts:List (Str×Fm)} {x:Str} {t:Fm} {W W1 w4:World} {qs:List (Str×FQ)} {q:FQ} (hk:qs.length=ts.length) (hb:Below W.heap.size W W1) (hlo:lo<=W.heap.size)
  (ht:∀ j (h:j<qs.length) (h2:j<ts.length),qs[j].1=ts[j].1/\FormV (fun b=>lo<=b/\v.ownBlock≠some b) W qs[j].2.val ts[j].2) (hv:∀ b,v.ownBlock=some b->b<W.heap.size)
  (hq:FormV (W.heap.size<=·) W1 q.val t) (aR:w4.ownsRow lo 40 5 (.slice (some ⟨g,0,none⟩) (ts.length+1) cap) (ts.length+1) (qs.flatMap BF ++ BF (x,q)))
  (hold:∀ c,lo<=c->c<W1.heap.size->v.ownBlock≠some c->w4.heap[c]?=W1.heap[c]?) (hg:v.ownBlock=some g\/W1.heap.size<=g) :
  RowFB lo (.slice (some ⟨g,0,none⟩) (ts.length+1) cap) (ts ++ [(x,t)]) w4:=by
 exact pm50
theorem Fills.stepFB {T:TypeId} {R lo F:Nat} {mk:Value->Array Value} {ts:List (Str×Fm)} {x:Str} {t:Fm} {W1 wr A w4:World} {row:Value} {qs:List (Str×FQ)} {p:FQ} {g cap:Nat} {o:Obj}
  (h:Fills T R lo mk (fun r=>RowFB lo r ts) W1 wr row) (aC:wr.ownsRow lo 40 5 row ts.length (qs.flatMap BF)) (dZ:qs.length=ts.length) (fR:∀ j (h:j<qs.length) (h2:j<ts.length),qs[j].1=ts[j].1/\FormV (fun b=>lo<=b/\row.ownBlock≠some b) wr qs[j].2.val ts[j].2)
  (hA:Below wr.heap.size wr A) (hp:FormV (wr.heap.size<=·) A p.val t)
  (aR:w4.ownsRow lo 40 5 (.slice (some ⟨g,0,none⟩) (ts.length+1) cap) (ts.length+1) (qs.flatMap BF ++ BF (x,p))) (aq:(A.alloc o).grownBy w4 row.ownBlock) (hg:row.ownBlock=some g\/g=A.heap.size+1)
  (uA:(mk row).setIfInBounds F (.slice (some ⟨g,0,none⟩) (ts.length+1) cap)=mk (.slice (some ⟨g,0,none⟩) (ts.length+1) cap)) :
  Fills T R lo mk (fun r=>RowFB lo r (ts ++ [(x,t)])) W1 (w4.setCell ⟨R,F,none⟩ (.slice (some ⟨g,0,none⟩) (ts.length+1) cap)) (.slice (some ⟨g,0,none⟩) (ts.length+1) cap):=by
 have pp102c:=();exact pm102
theorem Hm:(Tryz.prog.info? 40).map (fun i=>(i.zero,i.size,i.bytes))=some (some (.agg #[.string ByteArray.empty,.int .u8 0,.string ByteArray.empty,.slice none 0 0,.slice none 0 0]),5,88):=by kernel_rfl
def BT (e:Str×TQ):List Value:=.string ⟨e.1.toArray⟩ :: e.2.cells
theorem TN (es:List (Str×TQ)):∀ j (h:j<es.length),(es.flatMap BT)[j * 4]?=some (.string ⟨es[j].1.toArray⟩)/\(es.flatMap BT)[j * 4+1]?=some (.bool es[j].2.v)/\(es.flatMap BT)[j * 4+2]?=some (.string es[j].2.n)/\(es.flatMap BT)[j * 4+3]?=some (.slice es[j].2.a es[j].2.l es[j].2.c):=by
 induction es with
 | nil=>intro j h;simp at h
 | cons q es ih=>
  intro j h
  cases j with
  | zero=>simp[BT,TQ.cells]
  | succ j=>
   have:=ih j (by simpa using h)
   simp only[List.flatMap_cons,BT,TQ.cells,List.cons_append,List.nil_append]
   exact pm188
def RowTB (lo:Nat) (v:Value) (l:List (Str×Tm)) (W:World):Prop:=
 ∃es:List (Str×TQ),es.length=l.length/\W.ownsRow lo 47 4 v l.length (es.flatMap BT)/\∀ j (h:j<es.length) (h2:j<l.length),es[j].1=l[j].1/\TermV (fun b=>lo<=b/\v.ownBlock≠some b) W es[j].2.val l[j].2
theorem RowTB.nil (lo:Nat) (W:World):RowTB lo (.slice none 0 0) [] W:=⟨[],rfl,World.ownsRow_nil _ _ _ _,fun j h=>by simp at h⟩
theorem RowTB.slice {lo:Nat} {v:Value} {ts:List (Str×Tm)} {W:World} (h:RowTB lo v ts W):∃a c,v=.slice a ts.length c:=by
 exact pm263
theorem RowTB.held {lo:Nat} {v:Value} {ts:List (Str×Tm)} {W W':World} (h:RowTB lo v ts W) (hb:∀ b,lo<=b->b<W.heap.size->W'.heap[b]?=W.heap[b]?):RowTB lo v ts W':=by
 exact pm233
theorem RowTB.below {lo:Nat} {v:Value} {ts:List (Str×Tm)} {W W':World} (h:RowTB lo v ts W) (hb:Below W.heap.size W W'):RowTB lo v ts W':=h.held (fun b _ hlt=>hb.block b hlt)
theorem RowTB.binds {lo:Nat} {v:Value} {ts:List (Str×Tm)} {W:World} (h:RowTB lo v ts W):TBindsV (lo<=·) W v ts:=by
 obtain ⟨es,hk,ho,ht⟩:=h
 rcases gx ho with ⟨rfl,h0⟩ | ⟨g,cap,rfl,hg,_⟩
 ·obtain rfl:=List.eq_nil_of_length_eq_zero h0
  exact ⟨none,0,fun _=>⟨false,⟨#[]⟩,none,0,0⟩,rfl,Nat.le_refl _,.inl rfl,fun j hj=>by simp at hj⟩
 ·refine ⟨_,cap,fun j=>if h:j<es.length then es[j].2 else ⟨false,⟨#[]⟩,none,0,0⟩,rfl,Ff ho,.inr ⟨g,0,rfl,hg,fun j hj=>?_⟩,fun j hj=>?_⟩
  ·have vJ:j<es.length:=by omega
   obtain ⟨c0,c1,c2,c3⟩:=TN es j vJ
   exact pm201
  ·have vJ:j<es.length:=by omega
   simp only[dif_pos vJ]
   exact (ht j vJ hj).2.move (fun b hok _=>⟨hok.1,rfl⟩)
theorem RowTB.step {lo g cap:Nat} {v:Value} {ts:List (Str×Tm)} {x:Str} {t:Tm} {W W1 w4:World} {qs:List (Str×TQ)} {q:TQ} (hk:qs.length=ts.length) (hb:Below W.heap.size W W1) (hlo:lo<=W.heap.size)
  (ht:∀ j (h:j<qs.length) (h2:j<ts.length),qs[j].1=ts[j].1/\TermV (fun b=>lo<=b/\v.ownBlock≠some b) W qs[j].2.val ts[j].2) (hv:∀ b,v.ownBlock=some b->b<W.heap.size)
  (hq:TermV (W.heap.size<=·) W1 q.val t) (aR:w4.ownsRow lo 47 4 (.slice (some ⟨g,0,none⟩) (ts.length+1) cap) (ts.length+1) (qs.flatMap BT ++ BT (x,q)))
  (hold:∀ c,lo<=c->c<W1.heap.size->v.ownBlock≠some c->w4.heap[c]?=W1.heap[c]?) (hg:v.ownBlock=some g\/W1.heap.size<=g) :
  RowTB lo (.slice (some ⟨g,0,none⟩) (ts.length+1) cap) (ts ++ [(x,t)]) w4:=by
 exact pm50
theorem Fills.stepTB {T:TypeId} {R lo F:Nat} {mk:Value->Array Value} {ts:List (Str×Tm)} {x:Str} {t:Tm} {W1 wr A w4:World} {row:Value} {qs:List (Str×TQ)} {p:TQ} {g cap:Nat} {o:Obj}
  (h:Fills T R lo mk (fun r=>RowTB lo r ts) W1 wr row) (aC:wr.ownsRow lo 47 4 row ts.length (qs.flatMap BT)) (dZ:qs.length=ts.length) (fR:∀ j (h:j<qs.length) (h2:j<ts.length),qs[j].1=ts[j].1/\TermV (fun b=>lo<=b/\row.ownBlock≠some b) wr qs[j].2.val ts[j].2)
  (hA:Below wr.heap.size wr A) (hp:TermV (wr.heap.size<=·) A p.val t)
  (aR:w4.ownsRow lo 47 4 (.slice (some ⟨g,0,none⟩) (ts.length+1) cap) (ts.length+1) (qs.flatMap BT ++ BT (x,p))) (aq:(A.alloc o).grownBy w4 row.ownBlock) (hg:row.ownBlock=some g\/g=A.heap.size+1)
  (uA:(mk row).setIfInBounds F (.slice (some ⟨g,0,none⟩) (ts.length+1) cap)=mk (.slice (some ⟨g,0,none⟩) (ts.length+1) cap)) :
  Fills T R lo mk (fun r=>RowTB lo r (ts ++ [(x,t)])) W1 (w4.setCell ⟨R,F,none⟩ (.slice (some ⟨g,0,none⟩) (ts.length+1) cap)) (.slice (some ⟨g,0,none⟩) (ts.length+1) cap):=by
 exact pm102
theorem Hn:(Tryz.prog.info? 47).map (fun i=>(i.zero,i.size,i.bytes))=some (some (.agg #[.string ByteArray.empty,.bool false,.string ByteArray.empty,.slice none 0 0]),4,64):=by kernel_rfl
end Go.Proofs.YtokemihbkeddoaaGreatDoor
namespace Go.Proofs
open Go.RowKit Go.Maps Go.Sort Go.Shelf
shelf_lay_g SlLaysZ.n7 Ggz 7 at Tryz 104 as Tryz.keysF
shelf_lay_g SlLaysZ.n7 Ggz 7 at Tryz 105 as Tryz.keysT
end Go.Proofs
namespace Go.Proofs.YtokemihbkeddoaaGreatDoor
open Go Go.RowKit Go.Maps Go.Sort Go.Shelf
theorem KE (mb:Option Nat) (W:World):Calls Tryz.prog 104 #[.map mb] W fun e w'=>e=.returned (.func (.func 169) #[] #[.pointer (some ⟨W.heap.size,0,none⟩)])/\w'=W.alloc (.cells #[.map mb] 145):=
 callsIn_wide.1 (AnyZ.keys_in Tryz.keysF Fence.wide 5 trivial rfl mb W)
theorem KF (mb:Option Nat) (W:World):Calls Tryz.prog 105 #[.map mb] W fun e w'=>e=.returned (.func (.func 170) #[] #[.pointer (some ⟨W.heap.size,0,none⟩)])/\w'=W.alloc (.cells #[.map mb] 146):=
 callsIn_wide.1 (AnyZ.keys_in Tryz.keysT Fence.wide 5 trivial rfl mb W)
theorem mM:∀ {l:List Str},dh l=true->Up l
 | [],_=>List.Pairwise.nil
 | x :: l,h=>by
  obtain ⟨h1,h2⟩:=lV.1 h
  have h3:=mM h2
  refine List.pairwise_cons.2 ⟨fun y hy=>?_,h3⟩
  cases l with
  | nil=>cases hy
  | cons z l=>
   have h4:=h1 z rfl
   rcases List.mem_cons.1 hy with rfl | hy
   ·exact h4
   ·exact rD _ _ _ h4 ((List.pairwise_cons.1 h3).1 y hy)
theorem C8 {l:List Str} (h:Up l):de l=l:=Gv _ _ (qF l) h (fun x=>dj x l)
theorem Fg {V:Value->Fm->Prop} (m n:Nat) (l:List (Str×Fm)) (hn:n<=3000000) (X8:Up (l.map (·.1))) (W:World) (hs:MapV Tryz.prog 9 V W m n l) :
  Calls Tryz.prog 74 #[.func (.func 169) #[] #[.pointer (some ⟨W.heap.size,0,none⟩)]] (W.alloc (.cells #[.map (some m)] 145)) fun e w'=>∃v,e=.returned v/\RowS W.heap.size w' v (l.map (·.1))/\RowKit.Below W.heap.size W w':=by
 obtain ⟨D0,aC,hx⟩:=hs
 have Vk:=aC.lt
 have hsz:=aC.size_le
 have mR:SeqGives Fence.wide 2 Tryz.prog 169 #[.pointer (some ⟨W.heap.size,0,none⟩)] encStr (fun ss=>ss.Perm (strKeys D0)) (Maps.size D0) (W.alloc (.cells #[.map (some m)] 145)):=
  AnyZ.keys_gives (ρ:=Tryz.keysF_ren) { Tryz.keysF with } Fence.wide _ trivial rfl (by omega) W.heap.size m n D0 _ (by simp) (by simp) (aC.alloc _)
 have cS:=AnyZ.sorted_in Tryz.sortedA Fence.wide 5 trivial trivial trivial trivial rfl (by omega) (Tryz.sortsA _) (enters_of Tryz.func134 (by kernel_rfl) rfl) 169 #[.pointer (some ⟨W.heap.size,0,none⟩)] trivial (enters_of Tryz.func169 (by kernel_rfl) rfl) _ _ (by unfold maxLen;omega) (by omega) _ mR
 exact pm31
theorem Fh {V:Value->Tm->Prop} (m n:Nat) (l:List (Str×Tm)) (hn:n<=3000000) (X8:Up (l.map (·.1))) (W:World) (hs:MapV Tryz.prog 9 V W m n l) :
  Calls Tryz.prog 74 #[.func (.func 170) #[] #[.pointer (some ⟨W.heap.size,0,none⟩)]] (W.alloc (.cells #[.map (some m)] 146)) fun e w'=>∃v,e=.returned v/\RowS W.heap.size w' v (l.map (·.1))/\RowKit.Below W.heap.size W w':=by
 obtain ⟨D0,aC,hx⟩:=hs
 have Vk:=aC.lt
 have hsz:=aC.size_le
 have mR:SeqGives Fence.wide 2 Tryz.prog 170 #[.pointer (some ⟨W.heap.size,0,none⟩)] encStr (fun ss=>ss.Perm (strKeys D0)) (Maps.size D0) (W.alloc (.cells #[.map (some m)] 146)):=
  AnyZ.keys_gives (ρ:=Tryz.keysT_ren) { Tryz.keysT with } Fence.wide _ trivial rfl (by omega) W.heap.size m n D0 _ (by simp) (by simp) (aC.alloc _)
 have cS:=AnyZ.sorted_in Tryz.sortedA Fence.wide 5 trivial trivial trivial trivial rfl (by omega) (Tryz.sortsA _) (enters_of Tryz.func134 (by kernel_rfl) rfl) 170 #[.pointer (some ⟨W.heap.size,0,none⟩)] trivial (enters_of Tryz.func170 (by kernel_rfl) rfl) _ _ (by unfold maxLen;omega) (by omega) _ mR
 exact pm31
end Go.Proofs.YtokemihbkeddoaaGreatDoor
namespace Go.Proofs.YtokemihbkeddoaaGreatDoor
open Go Go.RowKit Go.Maps Go.Sort Go.Shelf
attribute [local go_sem] Oper.semAt_some
theorem MapV.len {k:TypeId} {α:Type} {V:Value->α->Prop} {W:World} {m n:Nat} {l:List (Str×α)} (hk:Tryz.prog.underlying k=some .string) (h:MapV Tryz.prog k V W m n l) (X8:Up (l.map (·.1))):l.length<=n:=by
 obtain ⟨D0,aC,hx⟩:=h
 obtain ⟨es,hD,SI,_⟩:=aC.entries (Maps.string_keyed hk)
 obtain ⟨Pa,L0,SJ⟩:=aC.keysOf
 obtain rfl:es=Pa:=by rw[hD]at L0;simpa using L0
 have hsz:=aC.size_le
 have jM:(de (l.map (·.1))).Perm (strKeys D0):=by
  rw[hD]
  refine perm_strKeys SI (fun p hp=>by obtain ⟨v,hv⟩:=SJ p hp;obtain ⟨x,_,hx,_⟩:=Maps.keyOf_str hk hv;exact ⟨x,hx⟩) (jf (qF _)) (fun x=>?_)
  rw[dj,<-hD]
  cases hg:getB l x with
  | none=>rw[(hx x).1 hg];simp only[Bool.false_eq_true,iff_false];exact (fY l x).1 hg
  | some a=>
   have h1:x∈l.map (·.1):=by
    by_cases h:x∈l.map (·.1)
    ·exact h
    ·rw[(fY l x).2 h]at hg;cases hg
   exact ⟨fun _=>((hx x).2 a hg).1,fun _=>h1⟩
 have h1:=jM.length_eq
 rw[C8 X8]at h1
 have h2:(strKeys D0).length<=Maps.size D0:=by
  rw[hD]
  simp only[strKeys,Maps.size]
  simp
 simp at h1
 omega
theorem qY {X:World} {B:Nat} {c0 c1:Value} {T:TypeId} (hx:X.heap[B]?=some (.cells #[c0,c1] T (0,0))):X.cell? ⟨B,0,none⟩=some c0/\X.cell? ⟨B,1,none⟩=some c1/\X.frozen? ⟨B,0,none⟩=false/\X.frozen? ⟨B,1,none⟩=false:=
 ⟨ai hx 0,ai hx 1,ae hx 0,ae hx 1⟩
theorem Au {X:World} {B:Nat} {c0 c1:Value} {T:TypeId} (hx:X.heap[B]?=some (.cells #[c0,c1] T (0,0))) (v0 v1:Value):∃W6,W6=(X.setCell ⟨B,0,none⟩ v0).setCell ⟨B,1,none⟩ v1/\W6.heap[B]?=some (.cells #[v0,v1] T (0,0))/\Kp (fun b=>b=B) X W6/\W6.cell? ⟨B,0,none⟩=some v0/\W6.cell? ⟨B,1,none⟩=some v1:=by
 have h0:=aV (F:=0) hx v0
 have h1:=(aV (F:=1) h0 v1).trans rfl
 exact ⟨_,rfl,h1,⟨rfl,rfl,rfl,by simp,fun c _ hc=>(Below.heap_setCell _ _ _ _ (by simpa using hc)).trans (Below.heap_setCell _ _ _ _ (by simpa using hc))⟩,ai h1 0,ai h1 1⟩
theorem Je {α:Type} {l:List (Str×α)} (h:(l.map (·.1)).Nodup) {j:Nat} (hj:j<l.length):getB l l[j].1=some l[j].2:=by
 have h1:=tR h hj l[j].1
 rw[if_pos rfl]at h1
 have h2:∀ (a b:List (Str×α)) (x:Str) (v:α),getB a x=some v->getB (a ++ b) x=some v:=by
  intro a b x v ha
  induction a with
  | nil=>cases ha
  | cons z a ih=>
   obtain ⟨z1,z2⟩:=z
   simp only[List.cons_append,getB]at ha ⊢
   by_cases hz:(z1 == x)=true
   ·simpa[hz] using ha
   ·simp only[hz]at ha ⊢;exact ih ha
 have h3:=h2 _ (l.drop (j+1)) _ _ h1
 rwa [List.take_append_drop]at h3
theorem Fi (k:Bd) (hv:bU k=true) (PF:Fm->Prop) (PT:Tm->Prop) (Xw:∀ f,PF f->fitF f) (Rz:∀ t,PT t->fitT t) (ok:Nat->Prop) (w:World) (kb mF mT nF nT:Nat) (dw:KnV ok PF PT w kb mF mT nF nT k) (pN:nF<=3000000) (oA:nT<=3000000) :
  Calls Tryz.prog 50 #[.pointer (some ⟨kb,0,none⟩)] w fun e w'=>(∃q:BQ,e=.returned q.val/\BindV (w.heap.size<=·) w' q k)/\Below w.heap.size w w':=by
 obtain ⟨nZ,hi,wy,tu,wT⟩:=info_parts Hm
 obtain ⟨Gm,hq,hqa,FY,hqc⟩:=info_parts Hn
 have iW:=hv
 simp only[bU,Bool.and_eq_true,List.all_eq_true]at iW
 have huF:=mM iW.2.1
 have huT:=mM iW.2.2
 have hlF:=dw.fs.len Tryz.underlying9 huF
 have hlT:=dw.ts.len Tryz.underlying9 huT
 obtain ⟨n1,dT⟩:=ao k.fs.length
 obtain ⟨n2,lH⟩:=ao k.ts.length
 have J_:n1<=3000000:=by omega
 have Pt:n2<=3000000:=by omega
 have HN:=aF dT lH
 have HP:=ce (jf huF) (jf huT) Xw Rz
 have Gp:=aF (show ∀ x∈k.fs,x.1.length<=2000000 from fun x hx=>by have:=yp (iW.1.1 x hx).1;omega) (show ∀ x∈k.ts,x.1.length<=2000000 from fun x hx=>by have:=fK (iW.1.2 x hx).1;omega)
 obtain ⟨W2,aY⟩:=ao ((w.alloc (.cells #[.slice none 0 0,.slice none 0 0] 26)).alloc (.cells #[.slice none 0 0,.slice none 0 0] 26))
 have bA:=j7 aY
 have hO:=vE aY
 have x0:=rm aY
 have x1:=iV aY
 have eu:=dw.later bA
 have k0:=ai eu.box 0
 have CK:=Fg mF nF k.fs pN huF W2 eu.fs
 have FX:=ab (fun (V:World) (m n:Nat) (hs:MapV Tryz.prog 9 (TermK ok PT V) V m n k.ts) (h:n<=3000000)=>Fh m n k.ts h huT V hs)
 have VH:=ab CK
 have H2:=ce bA hO x0 x1
 have FZ:=ab dw
 have HNB:=aF pN oA
 have eN:=ab aY
 rw[aY]at k0
 clear hv iW huF huT hlF hlT Xw Rz dw bA hO x0 x1 eu CK aY pN oA dT lH
 go_enter Tryz.func50,Tryz.ntmps50
 go_wp2_with (first | (go_at_call 104;rw[<-eN.o];refine (KE _ _).mono ?_;rintro e w4 ⟨rfl,rfl⟩) | (go_at_call 74;refine VH.o.mono ?_;rintro e w5 ⟨v5,rfl,JT,a_⟩;obtain ⟨ka,kc,rfl⟩:=JT.strs.slice;have H5:=aF JT a_;clear JT a_))
 obtain ⟨W3,cZ⟩:=ao w5
 obtain ⟨P9,vX⟩:=aS H5.o.1.strs H5.o.2
 clear H5
 rw[List.length_map,<-HN.o.1]at P9
 rw[<-HN.o.1]
 rw[<-cZ]at P9 vX ⊢
 clear cZ w5
 have X9:Below w.heap.size w W3:=H2.o.1.tr vX.o
 have Lq:=bC vX.o H2.o.2.2.2
 have X':=bC vX.o H2.o.2.2.1
 have TO:=ab (Fills.start (R:=w.heap.size+1) (mk:=fun rr=>#[rr,.slice none 0 0]) (Row:=fun r W=>RowFB W3.heap.size r (k.fs.take 0) W) Lq (RowFB.nil _ _))
 have JL:=ab X'
 have H3:=bx X9 P9.o H2.o.2.1
 clear X9 Lq X' P9
 go_loopw [15] (fun i wr=>∃j:Nat,j<=n1/\i=.int .i64 j/\∃row,Fills 26 (w.heap.size+1) W3.heap.size (fun rr=>#[rr,.slice none 0 0]) (fun r W=>RowFB W3.heap.size r (k.fs.take j) W) W3 wr row) (fun i _=>n1 - (intOf i).toNat)
 case atStart=>exact ⟨0,Nat.zero_le _,rfl,_,TO.o⟩
 case round=>
  obtain ⟨j,hj,rfl,row,hF⟩:=hrel
  have az:=hF.below H3.o.1 (by omega)
  by_cases hlt:j<n1
  ·have da:j<k.fs.length:=by rw[<-HN.o.1];exact hlt
   have dw:j<(k.fs.map (·.1)).length:=by simpa using da
   obtain ⟨bk,J7,rfl,hbk,ck⟩:=H3.o.2.1.get dw
   obtain ⟨nm,c9⟩:=ao (k.fs[j].1)
   simp only[List.getElem_map,<-c9]at ck
   have Jf:=Je HP.o.1 da
   rw[<-c9]at Jf
   have Nn:Kp (fun b=>b=w.heap.size+1) W3 wr:=hF.kp
   have No:bk≠w.heap.size+1:=by have:=H3.o.2.2;omega
   have dk:=Nn.cell (a:=⟨bk,J7+j,none⟩) No ck
   have g_:=FZ.o.later az
   rcases g_.fs.look Tryz.underlying9 Tryz.underlying145 kX (x:=nm) (by rw[c9];exact Gp.o.1 _ (List.getElem_mem da)) with ⟨hg,_⟩ | ⟨g,vg,hg,hvg,hlk⟩
   ·rw[Jf]at hg;cases hg
   rw[Jf]at hg
   obtain rfl:k.fs[j].2=g:=by injection hg
   obtain ⟨⟨g0,g1,g2,g3,g4,g5,g6,g7⟩,rfl,nl,EV⟩:=hvg
   simp only[FQ.val]at hlk
   have cA:(k.fs.take j).length=j:=by rw[List.length_take];omega
   have pp243:=();exact pm243
  ·obtain rfl:n1=j:=by omega
   have cA:(k.fs.take n1).length=n1:=by rw[List.length_take];have:=HN.o;omega
   have jc:k.fs.take n1=k.fs:=List.take_of_length_le (by have:=HN.o;omega)
   obtain ⟨Ya,Yb,rfl⟩:=hF.row.slice
   rw[cA]at hF
   rw[jc]at hF
   have HRF:=ab hF.row
   have g_:=FZ.o.later az
   have xb:=hF.box
   have kpF:=hF.kp
   have Yc:=hF.size
   obtain ⟨wo,Me⟩:=ao wr
   subst Me
   have k1:=ai g_.box 1
   have za6:=ab (FX.o wo mT nT g_.ts HNB.o.2)
   have HO:=ce az xb kpF Yc
   clear az g_ xb kpF Yc hF cA jc
   go_wp2_with (first | (go_at_call 105;refine (KF _ _).mono ?_;rintro e w4 ⟨rfl,rfl⟩) | (go_at_call 74;refine za6.o.mono ?_;rintro e w5 ⟨v5,rfl,JT,a_⟩;obtain ⟨kta,ktc,rfl⟩:=JT.strs.slice;have H5:=aF JT a_;clear JT a_))
   clear k1
   obtain ⟨W6,cM⟩:=ao w5
   obtain ⟨P9,Fj⟩:=aS H5.o.1.strs H5.o.2
   clear H5
   rw[List.length_map,<-HN.o.2]at P9
   rw[<-HN.o.2]
   rw[<-cM]at P9 Fj ⊢
   clear cM w5
   have Yd:Below w.heap.size w W6:=HO.o.1.tr Fj.o
   have OU:=bC Fj.o HO.o.2.1
   have TP:=ab (Fills.start (R:=w.heap.size+1) (mk:=fun rr=>#[.slice Ya n1 Yb,rr]) (Row:=fun r W=>RowTB W6.heap.size r (k.ts.take 0) W) OU (RowTB.nil _ _))
   have H6:=bx Yd P9.o (show w.heap.size+1<wo.heap.size from (bl HO.o.2.1))
   clear Yd OU P9
   go_loopw [41] (fun i wr=>∃j:Nat,j<=n2/\i=.int .i64 j/\∃row,Fills 26 (w.heap.size+1) W6.heap.size (fun rr=>#[.slice Ya n1 Yb,rr]) (fun r W=>RowTB W6.heap.size r (k.ts.take j) W) W6 wr row) (fun i _=>n2 - (intOf i).toNat)
   case atStart=>exact ⟨0,Nat.zero_le _,rfl,_,TP.o⟩
   case round=>
    obtain ⟨j,hj,rfl,row,hF⟩:=hrel
    have az:=hF.below H6.o.1 (by omega)
    by_cases hlt:j<n2
    ·have da:j<k.ts.length:=by rw[<-HN.o.2];exact hlt
     have dw:j<(k.ts.map (·.1)).length:=by simpa using da
     obtain ⟨bk,J7,rfl,hbk,ck⟩:=H6.o.2.1.get dw
     obtain ⟨nm,c9⟩:=ao (k.ts[j].1)
     simp only[List.getElem_map,<-c9]at ck
     have Jf:=Je HP.o.2.1 da
     rw[<-c9]at Jf
     have Nn:Kp (fun b=>b=w.heap.size+1) W6 wr:=hF.kp
     have No:bk≠w.heap.size+1:=by have:=H6.o.2.2;omega
     have dk:=Nn.cell (a:=⟨bk,J7+j,none⟩) No ck
     have g_:=FZ.o.later az
     rcases g_.ts.look Tryz.underlying9 Tryz.underlying146 iG (x:=nm) (by rw[c9];exact Gp.o.2 _ (List.getElem_mem da)) with ⟨hg,_⟩ | ⟨g,vg,hg,hvg,hlk⟩
     ·rw[Jf]at hg;cases hg
     rw[Jf]at hg
     obtain rfl:k.ts[j].2=g:=by injection hg
     obtain ⟨⟨g0,g1,g2,g3,g4⟩,rfl,nl,EV⟩:=hvg
     simp only[TQ.val]at hlk
     have cA:(k.ts.take j).length=j:=by rw[List.length_take];omega
     exact pm243
    ·obtain rfl:n2=j:=by omega
     have cA:(k.ts.take n2).length=n2:=by rw[List.length_take];have:=HN.o;omega
     have jc:k.ts.take n2=k.ts:=List.take_of_length_le (by have:=HN.o;omega)
     obtain ⟨ra,rc,rfl⟩:=hF.row.slice
     rw[cA]at hF
     rw[jc]at hF
     have SB:=ab hF.row
     have hz:=HO.o.2.2.2
     have hO:=Fj.o.size
     have x02:=(hF.kp.same _ (by have:=(bl HO.o.2.1);omega) (by omega)).trans ((Fj.o.block _ (by have:=(bl HO.o.2.1);omega)).trans ((HO.o.2.2.1.same _ (bl JL.o) (by omega)).trans JL.o))
     obtain ⟨e0,e1,y0,y1⟩:=qY x02
     obtain ⟨s0,s1,_,_⟩:=qY hF.box
     have za7:=ab (HRF.o.held (W':=wr) (fun b hb hlt=>(hF.kp.same b (Nat.lt_of_lt_of_le hlt Fj.o.size) (by have:=H3.o.1.size;have:=H2.o.2.1;have:=vX.o.size;omega)).trans (Fj.o.block b hlt)))
     have HX:=aF x02 az
     clear hF az x02 cA jc hz hO
     go_wp2
     obtain ⟨W8,kH,x8,k8,g0,g1⟩:=Au HX.o.1 (.slice Ya n1 Yb) (.slice ra n2 rc)
     rw[<-kH]
     refine bodyPost_ret (v:=BQ.val ⟨Ya,n1,Yb,ra,n2,rc⟩) (by simp[BQ.val,results,Tryz.results50,go_sem,g0,g1]) rfl ⟨⟨⟨Ya,n1,Yb,ra,n2,rc⟩,rfl,?_,?_⟩,Below.kp1 HX.o.2 k8 (by omega)⟩
     ·exact za7.o.binds.move (fun b hb hlt=>⟨by have:=H3.o.1.size;omega,k8.same b hlt (by have:=H3.o.1.size;have:=H2.o.2.1;have:=vX.o.size;omega)⟩)
     ·exact SB.o.binds.move (fun b hb hlt=>⟨by have:=H6.o.1.size;omega,k8.same b hlt (by have:=H6.o.1.size;have:=Fj.o.size;have:=HO.o.2.2.2;have:=H3.o.1.size;have:=H2.o.2.1;have:=vX.o.size;omega)⟩)
end Go.Proofs.YtokemihbkeddoaaGreatDoor
