/-
Terms,formulas,pairs and bindings that came in as arguments,opened;their size by the bulk of what was read.
What reads as data before a call that keeps all that was there reads so behind it.
-/
import Derived.Test.YtokemihbkeddoaaGreatDoorU00
import Derived.Test.YtokemihbkeddoaaGreatDoorRows
import Derived.Test.YtokemihbkeddoaaGreatDoorU01
import Derived.Test.YtokemihbkeddoaaGreatDoorU02
import Derived.ChangeStays
import Derived.ChangeSame
import Derived.SliceStrings
import Derived.Deep.Slices
import Derived.Deep.Fields
import Derived.Lib.SmallJoins
import Derived.ChangeMaps5
import Derived.OpenShut
import Derived.SizedLaws
namespace Go.Proofs.YtokemihbkeddoaaGreatDoor
set_option maxRecDepth 100000
set_option maxHeartbeats 64000000
open Go Go.RowKit Go.ChangeShapes Go.WideShapes Go.Deep
theorem Ld (b off j:Nat):(⟨b,off,none⟩:Addr).add j=⟨b,off+j,none⟩:=by unfold Addr.add;split <;> simp_all
theorem zD {H:Type} (l r:List (DataW H)):Rows.uptoBulkAll (l ++ r)=Rows.uptoBulkAll l+Rows.uptoBulkAll r:=by
 induction l with
 | nil=>simp[Rows.uptoBulkAll]
 | cons x l ih=>simp only[List.cons_append,Rows.uptoBulkAll,ih];omega
theorem qi {H α:Type} {enc:TypeId×Value->H} {P:Program} {W:World} {held:Bool} {j4:Nat->Bool} {t e:TypeId} {K:Nat} (ht:P.underlying t=some (.slice e)) (hK:P.cellsOf e=K) (RW:0<K) (Pd:List Value->α->DataW H->Prop) {fuel:Nat} {c:Value} {y:DataW H×List MemPlace}
  (h:DataW.trod enc P W 0 j4 held fuel t [c]=some y) (ih:∀ m,m<fuel->∀ cs z,DataW.trod enc P W 0 j4 held m e cs=some z->∃a,Pd cs a z.1) :
  ∃(l:List α) (a0:Option Addr) (cap:Nat) (rW:Nat->List Value) (ds:Nat->DataW H),c=.slice a0 l.length cap/\l.length<=cap/\cap<=maxLen/\(a0=none->c=.slice none 0 0)/\Rows.uptoBulkAll ((List.range l.length).map ds)+1<=Rows.uptoBulk y.1 ∧
   (l=[]\/∃b off,a0=some ⟨b,off,none⟩/\∀ j,j<l.length->∀ k,k<K->W.cell? ⟨b,off+j * K+k,none⟩=(rW j)[k]?)/\(∀ j,j<l.length->(rW j).length=K)/\∀ j (hj:j<l.length),Pd (rW j) l[j] (ds j):=by
 rcases DataW.trod_slice ht h with ⟨hc,hy⟩ | ⟨a,len,cap,elems,rest,m,rfl,hc,hy,_,hlc,hcm,hel,hi,_,_⟩
 ·simp only[List.cons.injEq,and_true]at hc
  subst hc;subst hy
  exact ⟨[],none,0,fun _=>[],fun _=>.nil,rfl,Nat.le_refl _,Nat.zero_le _,fun _=>rfl,by simp[Rows.uptoBulk,Rows.uptoBulkAll],.inl rfl,fun j hj=>by simp at hj,fun j hj=>by simp at hj⟩
 ·simp only[List.cons.injEq,and_true]at hc
  subst hc;subst hy
  rw[hK]at hi
  have each:∀ i,i<len->∃(cs:List Value) (u:α) (d:DataW H),W.cells? 0 (a.add (i * K)) K=some cs/\(elems.map (·.1))[i]?=some d/\Pd cs u d:=by
   intro i Ka
   have h:=hi i Ka
   rw[List.getElem?_eq_getElem (by omega)]at h
   obtain ⟨cs,Sy,AI⟩:=Option.bind_eq_some_iff.1 h
   obtain ⟨u,hu⟩:=ih m (by omega) cs _ AI
   exact ⟨cs,u,_,Sy,by rw[List.getElem?_map,List.getElem?_eq_getElem (by omega)];rfl,hu⟩
  let f:Fin len->α:=fun i=>(each i.1 i.2).choose_spec.choose
  let rW:Nat->List Value:=fun i=>if h:i<len then (each i h).choose else []
  let ds:Nat->DataW H:=fun i=>if h:i<len then (each i h).choose_spec.choose_spec.choose else .nil
  have hcs:∀ i (h:i<len),rW i=(each i h).choose:=fun i h=>by simp[rW,h]
  have D3:∀ i (h:i<len),ds i=(each i h).choose_spec.choose_spec.choose:=fun i h=>by simp[ds,h]
  have mv:(List.ofFn f).length=len:=by simp
  have SD:(List.range len).map ds=elems.map (·.1):=by
   apply List.ext_getElem?
   intro i
   by_cases Ka:i<len
   ·have:=(each i Ka).choose_spec.choose_spec.choose_spec.2.1
    rw[this,<-D3 i Ka]
    simp[Ka]
   ·rw[List.getElem?_eq_none (by simp;omega),List.getElem?_eq_none (by simp;omega)]
  refine ⟨List.ofFn f,some a,cap,rW,ds,by rw[mv],by rw[mv];exact hlc,hcm,(fun h=>by cases h),?_,?_,?_,?_⟩
  ·rw[mv,SD]
   simp only[Rows.uptoBulk]
   omega
  ·rw[mv]
   by_cases h0:len=0
   ·left
    exact List.eq_nil_of_length_eq_zero (by rw[mv];exact h0)
   ·right
    obtain ⟨b,off,ZZ⟩:=a
    have hcells:∀ i (h:i<len) k,k<K->W.cell? ((⟨b,off,ZZ⟩:Addr).add (i * K+k))=(rW i)[k]?/\(rW i).length=K:=by
     intro i h k hk
     obtain ⟨_,hcl,hat⟩:=World.cells?_some (each i h).choose_spec.choose_spec.choose_spec.1
     have g:=hat k hk
     rw[Go.Deep.add_add]at g
     rw[hcs i h]
     exact ⟨g,hcl⟩
    have Z0:ZZ=none:=by
     obtain ⟨h1,h2⟩:=hcells 0 (by omega) 0 RW
     rw[List.getElem?_eq_getElem (by omega)]at h1
     simpa[Addr.add] using World.cell?_spot h1
    subst Z0
    refine ⟨b,off,rfl,fun j hj k hk=>?_⟩
    have:=(hcells j hj k hk).1
    rw[Ld,<-Nat.add_assoc]at this
    exact this
  ·intro j hj
   rw[mv]at hj
   rw[hcs j hj]
   exact (World.cells?_some (each j hj).choose_spec.choose_spec.choose_spec.1).2.1
  ·intro j hj
   rw[mv]at hj
   rw[hcs j hj,D3 j hj]
   have:=(each j hj).choose_spec.choose_spec.choose_spec.2.2
   simpa[f] using this
theorem zE {α:Type} (f:Nat->α) (n:Nat):(List.range (n+1)).map f=f 0 :: (List.range n).map (fun j=>f (j+1)):=by
 rw[List.range_succ_eq_map,List.map_cons,List.map_map]
 rfl
def JB {H:Type} (W:World) (cs:List Value) (t:Tm) (d:DataW H):Prop:=TermV (fun _=>True) W (.agg cs.toArray) t/\nodesT t<=Rows.uptoBulk d/\iS (Rows.uptoBulk d) t=true
def JC {H:Type} (W:World) (cs:List Value) (t:Fm) (d:DataW H):Prop:=FormV (fun _=>True) W (.agg cs.toArray) t/\nodesF t<=Rows.uptoBulk d/\ks (Rows.uptoBulk d) t=true
theorem BD {H:Type} {W:World}:∀ (l:List Tm) (rW:Nat->List Value) (ds:Nat->DataW H),(∀ j (hj:j<l.length),JB W (rW j) l[j] (ds j))->ac l<=Rows.uptoBulkAll ((List.range l.length).map ds)/\dF (Rows.uptoBulkAll ((List.range l.length).map ds)) l=true
 | [],_,_,_=>by simp[ac,dF]
 | t :: l,rW,ds,h=>by
  obtain ⟨_,h1,h2⟩:=h 0 (by simp)
  have ih:=BD l (fun j=>rW (j+1)) (fun j=>ds (j+1)) (fun j hj=>h (j+1) (by simpa using hj))
  rw[List.length_cons,zE]
  simp only[Rows.uptoBulkAll,ac,dF,Bool.and_eq_true]
  simp only[List.getElem_cons_zero]at h1 h2
  exact ⟨by omega,lh (by omega) _ h2,ev (by omega) _ ih.2⟩
theorem BE {H:Type} {W:World}:∀ (l:List Fm) (rW:Nat->List Value) (ds:Nat->DataW H),(∀ j (hj:j<l.length),JC W (rW j) l[j] (ds j))->ah l<=Rows.uptoBulkAll ((List.range l.length).map ds)/\fd (Rows.uptoBulkAll ((List.range l.length).map ds)) l=true
 | [],_,_,_=>by simp[ah,fd]
 | t :: l,rW,ds,h=>by
  obtain ⟨_,h1,h2⟩:=h 0 (by simp)
  have ih:=BE l (fun j=>rW (j+1)) (fun j=>ds (j+1)) (fun j hj=>h (j+1) (by simpa using hj))
  rw[List.length_cons,zE]
  simp only[Rows.uptoBulkAll,ah,fd,Bool.and_eq_true]
  simp only[List.getElem_cons_zero]at h1 h2
  exact ⟨by omega,jR (by omega) _ h2,ms (by omega) _ ih.2⟩
theorem OF {α:Type} {l:List α} (h:l.length=3):∃a b c,l=[a,b,c]:=by
 rcases l with _ | ⟨c0,_ | ⟨c1,_ | ⟨c2,_ | _⟩⟩⟩ <;> simp at h
 exact ⟨_,_,_,rfl⟩
theorem Vc {α:Type} {l:List α} (h:l.length=4):∃a b c d,l=[a,b,c,d]:=by
 rcases l with _ | ⟨c0,_ | ⟨c1,_ | ⟨c2,_ | ⟨c3,_ | _⟩⟩⟩⟩ <;> simp at h
 exact ⟨_,_,_,_,rfl⟩
section
variable {H:Type} {enc:TypeId×Value->H} {W:World} {held:Bool} {j4:Nat->Bool}
theorem qj {fuel:Nat} {c:Value} {y:DataW H×List MemPlace} (h:DataW.trod enc Tryz.prog W 0 j4 held fuel 33 [c]=some y) (ih:∀ m,m<fuel->∀ cs z,DataW.trod enc Tryz.prog W 0 j4 held m 43 cs=some z->∃t,JB W cs t z.1) :
  ∃(l:List Tm),TermsV (fun _=>True) W c l/\ac l+1<=Rows.uptoBulk y.1/\dF (Rows.uptoBulk y.1) l=true:=by
 obtain ⟨l,a0,cap,rW,ds,rfl,hlc,hcm,_,hb,hs,hcl,hP⟩:=qi Tryz.underlying33 (K:=3) (by kernel_rfl) (by omega) (JB W) h ih
 have KQ:=BD l rW ds hP
 refine ⟨l,⟨a0,cap,fun j=>.agg (rW j).toArray,rfl,?_,fun j hj=>(hP j hj).1⟩,by omega,ev (by omega) _ KQ.2⟩
 rcases hs with hs | ⟨b,off,ha,hc⟩
 ·exact .inl hs
 ·refine .inr ⟨b,off,ha,trivial,fun j hj=>?_⟩
  obtain ⟨x0,x1,x2,hx⟩:=OF (hcl j hj)
  have h0:=hc j hj 0 (by omega)
  have h1:=hc j hj 1 (by omega)
  have h2:=hc j hj 2 (by omega)
  rw[hx]at h0 h1 h2
  exact ⟨x0,x1,x2,by simp only[hx],h0,h1,h2⟩
theorem Az {fuel:Nat} {c:Value} {y:DataW H×List MemPlace} (h:DataW.trod enc Tryz.prog W 0 j4 held fuel 34 [c]=some y) (ih:∀ m,m<fuel->∀ cs z,DataW.trod enc Tryz.prog W 0 j4 held m 36 cs=some z->∃t,JC W cs t z.1) :
  ∃(l:List Fm),FormsV (fun _=>True) W c l/\ah l+1<=Rows.uptoBulk y.1/\fd (Rows.uptoBulk y.1) l=true:=by
 obtain ⟨l,a0,cap,rW,ds,rfl,hlc,hcm,_,hb,hs,hcl,hP⟩:=qi Tryz.underlying34 (K:=4) (by kernel_rfl) (by omega) (JC W) h ih
 have KQ:=BE l rW ds hP
 refine ⟨l,⟨a0,cap,fun j=>.agg (rW j).toArray,rfl,?_,fun j hj=>(hP j hj).1⟩,by omega,ms (by omega) _ KQ.2⟩
 rcases hs with hs | ⟨b,off,ha,hc⟩
 ·exact .inl hs
 ·refine .inr ⟨b,off,ha,trivial,fun j hj=>?_⟩
  obtain ⟨x0,x1,x2,x3,hx⟩:=Vc (hcl j hj)
  have h0:=hc j hj 0 (by omega)
  have h1:=hc j hj 1 (by omega)
  have h2:=hc j hj 2 (by omega)
  have h3:=hc j hj 3 (by omega)
  rw[hx]at h0 h1 h2 h3
  exact ⟨x0,x1,x2,x3,by simp only[hx],h0,h1,h2,h3⟩
theorem vC {n:Nat} {v:Value} {y:DataW H×List MemPlace} (h:DataW.trod enc Tryz.prog W 0 j4 held n 9 [v]=some y):∃s:Str,v=.string ⟨s.toArray⟩/\s.length+1<=Rows.uptoBulk y.1/\s.length<=maxLen:=by
 obtain ⟨s,hs,rfl,hw⟩:=DataW.trod_string Tryz.underlying9 h
 simp only[List.cons.injEq,and_true]at hs
 exact ⟨s.data.toList,by rw[hs],by simp[Rows.uptoBulk],by simpa using hw⟩
theorem Dz:∀ (fuel:Nat) (cs:List Value) (y:DataW H×List MemPlace),DataW.trod enc Tryz.prog W 0 j4 held fuel 43 cs=some y->∃t,JB W cs t y.1:=by
 intro fuel
 induction fuel using Nat.strongRecOn with
 | _ fuel ih=>
  intro cs y h
  obtain ⟨xs,n,rfl,rfl,cq,BV,hf⟩:=DataW.trod_struct Tryz.underlying43 h
  obtain ⟨c0,c1,c2,rfl⟩:=OF (cq.trans (by kernel_rfl))
  obtain ⟨x0,x1,x2,rfl⟩:=OF (BV.trans (by kernel_rfl))
  have h0:DataW.trod enc Tryz.prog W 0 j4 held n 4 [c0]=some x0:=hf 0 _ rfl
  have pp211:=();exact pm211
theorem DA:∀ (fuel:Nat) (cs:List Value) (y:DataW H×List MemPlace),DataW.trod enc Tryz.prog W 0 j4 held fuel 36 cs=some y->∃t,JC W cs t y.1:=by
 intro fuel
 induction fuel using Nat.strongRecOn with
 | _ fuel ih=>
  intro cs y h
  obtain ⟨xs,n,rfl,rfl,cq,BV,hf⟩:=DataW.trod_struct Tryz.underlying36 h
  obtain ⟨c0,c1,c2,c3,rfl⟩:=Vc (cq.trans (by kernel_rfl))
  obtain ⟨x0,x1,x2,x3,rfl⟩:=Vc (BV.trans (by kernel_rfl))
  have h0:DataW.trod enc Tryz.prog W 0 j4 held n 5 [c0]=some x0:=hf 0 _ rfl
  exact pm211
theorem two {α:Type} {l:List α} (h:l.length=2):∃a b,l=[a,b]:=by
 rcases l with _ | ⟨c0,_ | ⟨c1,_ | _⟩⟩ <;> simp at h
 exact ⟨_,_,rfl⟩
end
theorem BG {H:Type} {enc:TypeId×Value->H} {W:World} {b0:Nat} {v:Value} {d:DataW H} {p:List MemPlace} (hv:Value.okWide Tryz.prog W .any b0 36 v) (h:DataW.Trod enc Tryz.prog W 0 (fun _=>true) true 36 v d p) :
  ∃(q:FQ) (f:Fm),v=q.val/\FormV (fun _=>True) W q.val f/\nodesF f<=Rows.uptoBulk d/\ks (Rows.uptoBulk d) f=true:=by
 obtain ⟨cs,rfl,hsz⟩:=okWide_struct Tryz.underlying36 hv
 obtain ⟨fuel,hf⟩:=h
 obtain ⟨f,h1,h2,h3⟩:=DA fuel _ _ hf
 have h1:FormV (fun _=>True) W (.agg cs) f:=by simpa[Value.cells] using h1
 obtain ⟨q,hq,_⟩:=h1.form
 exact ⟨q,f,hq,hq ▸ h1,h2,h3⟩
end Go.Proofs.YtokemihbkeddoaaGreatDoor
namespace Go.Proofs.YtokemihbkeddoaaGreatDoor
set_option maxRecDepth 100000
set_option maxHeartbeats 64000000
open Go Go.RowKit Go.ChangeShapes Go.WideShapes Go.Deep
def Sn (P:Program) (l:List TypeId):Bool:=l.all fun t=>match P.underlying t with
 | some (.pointer e)=>l.contains e
 | some (.slice e)=>l.contains e && decide (0<P.cellsOf e)
 | some (.array n e)=>l.contains e && P.cellsOf t == n * P.cellsOf e
 | some (.struct fs)=>fs.toList.all (fun f=>l.contains f.type) && (P.cellsOf t == (fs.toList.map fun f=>P.cellsOf f.type).sum) &&
   ((List.range fs.toList.length).all fun j=>match fs.toList[j]? with
     | some f=>f.offset == ((fs.toList.take j).map fun f=>P.cellsOf f.type).sum
     | none=>true)
 | some (.map _ e)=>l.contains e
 | _=>true
theorem QW {P:Program} {l:List TypeId} (h:Sn P l=true):Kids P (·∈l)/\∀ {t e:TypeId},t∈l->P.underlying t=some (.slice e)->0<P.cellsOf e:=by
 have h1:∀ t∈l,_:=fun t ht=>List.all_eq_true.1 h t ht
 refine ⟨⟨?_,?_,?_,?_,?_⟩,?_⟩
 ·intro t e ht hu
  have:=h1 t ht
  rw[hu]at this
  simpa using this
 ·intro t e ht hu
  have:=h1 t ht
  rw[hu]at this
  simp at this
  exact this.1
 ·intro t e n ht hu
  have:=h1 t ht
  rw[hu]at this
  simp at this
  exact this
 ·intro t fs ht hu
  have:=h1 t ht
  rw[hu]at this
  simp only[Bool.and_eq_true,List.all_eq_true,beq_iff_eq]at this
  obtain ⟨⟨a1,a2⟩,a3⟩:=this
  refine ⟨fun f hf=>by simpa using a1 f hf,a2,fun j f hf=>?_⟩
  have hj:j<fs.toList.length:=(List.getElem?_eq_some_iff.1 hf).1
  have:=a3 j (by simpa using hj)
  rw[hf]at this
  simpa using this
 ·intro t k e ht hu
  have:=h1 t ht
  rw[hu]at this
  simpa using this
 ·intro t e ht hu
  have:=h1 t ht
  rw[hu]at this
  simp at this
  exact this.2
section
variable {H:Type} {enc:TypeId×Value->H} {P:Program} {w w':World} {sp':Nat->Bool}
theorem qk {T:TypeId->Prop} (K:Kids P T) (hsz:∀ {t e:TypeId},T t->P.underlying t=some (.slice e)->0<P.cellsOf e) :
  ∀ {ts:List TypeId} {vs:List Value} {ds:List (DataW H)} {p:List MemPlace},(∀ t∈ts,T t)->DataW.TrodAll enc P w 0 (fun _=>true) true ts vs ds p →
   (∀ q∈p,w.sameAt w' q)->(∀ q∈p,sp' q.block=true)->DataW.TrodAll enc P w' 0 sp' true ts vs ds p
 | [],_,_,_,_,h,_,_=>by
  obtain ⟨rfl,rfl,rfl⟩:=trodAll_nil h
  exact trodAll_mk0
 | t :: ts,_,_,_,hT,h,hs,hsp=>by
  obtain ⟨v,vs1,d,ds1,a,b,rfl,rfl,rfl,⟨n,h1⟩,h2⟩:=trodAll_cons h
  exact ⟨a,b,⟨n,DataW.trod_stays K hsz (fun h=>by cases h) (hT t (by simp)) h1 (fun q hq=>hs q (by simp[hq])) (fun q hq=>hsp q (by simp[hq]))⟩,
   qk K hsz (fun t ht=>hT t (by simp[ht])) h2 (fun q hq=>hs q (by simp[hq])) (fun q hq=>hsp q (by simp[hq])),rfl⟩
theorem Le {ts:List TypeId} {vs:List Value} {ds:List (DataW H)} {p:List MemPlace} (l:List TypeId) (hk:Sn P l=true) (hl:ts.all (l.contains ·)=true)
  (h:DataW.TrodAll enc P w 0 (fun _=>true) true ts vs ds p) (hb:Below w.heap.size w w'):DataW.TrodAll enc P w' 0 (fun b=>decide (b<w.heap.size)) true ts vs ds p:=by
 obtain ⟨K,hsz⟩:=QW hk
 have hlt:=DataW.TrodAll.lt h
 exact qk K hsz (fun t ht=>by simpa using List.all_eq_true.1 hl t ht) h (fun q hq=>hb.same (hlt q hq)) (fun q hq=>by simpa using hlt q hq)
end
theorem QX {H:Type} {l g:List (DataW H)} (h:Rows.uptoSmall H (l ++ g)=true):Rows.uptoBulkAll l<=1048576:=by
 have h:=of_decide_eq_true h
 rw[zD]at h
 omega
end Go.Proofs.YtokemihbkeddoaaGreatDoor
