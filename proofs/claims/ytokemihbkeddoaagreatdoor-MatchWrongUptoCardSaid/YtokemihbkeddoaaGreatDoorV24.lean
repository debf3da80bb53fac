/-
Terms,formulas,pairs and bindings that came in as arguments,opened;their size by the bulk.
-/
import Derived.Test.YtokemihbkeddoaaGreatDoorRows
import Derived.Test.YtokemihbkeddoaaGreatDoorV19
namespace Go.Proofs.YtokemihbkeddoaaGreatDoor
set_option maxRecDepth 100000
set_option maxHeartbeats 64000000
open Go Go.RowKit Go.ChangeShapes Go.WideShapes Go.Deep
variable {α:Type} {cE b0:Nat} {c v:Value} {cs:List Value} {p:List MemPlace}
theorem Od (b off j:Nat):(⟨b,off,none⟩:Addr).add j=⟨b,off+j,none⟩:=by unfold Addr.add;split <;> simp_all
theorem Be {H:Type} (l r:List (DataW H)):Rows.uptoBulkAll (l ++ r)=Rows.uptoBulkAll l+Rows.uptoBulkAll r:=by
 induction l with
 | nil=>simp[Rows.uptoBulkAll]
 | cons x l ih=>simp only[nK,Rows.uptoBulkAll,ih];omega
theorem kO {H:Type} {enc:TypeId×Value->H} {P:Program} {W:World} {held:Bool} {gM:Nat->Bool} {t e:TypeId} {K:Nat} (ht:P.underlying t=some (.slice e)) (hK:P.cellsOf e=K) (Vg:0<K) (Pd:List Value->α->DataW H->Prop) {y:DataW H×List MemPlace}
  (h:DataW.trod enc P W 0 gM held cE t [c]=some y) (ih:∀ m,m<cE->∀ cs z,DataW.trod enc P W 0 gM held m e cs=some z->∃a,Pd cs a z.1) :
  ∃(l:List α) (a0:Option Addr) (cap:Nat) (np:Nat->List Value) (ds:Nat->DataW H),c=.slice a0 l.length cap/\l.length<=cap/\cap<=maxLen/\(a0=none->c=.slice none 0 0)/\Rows.uptoBulkAll ((List.range l.length).map ds)+1<=Rows.uptoBulk y.1 ∧
   (l=[]\/∃b off,a0=some ⟨b,off,none⟩/\∀ j,j<l.length->∀ k,k<K->W.cell? ⟨b,off+j * K+k,none⟩=(np j)[k]?)/\(∀ j,j<l.length->(np j).length=K)/\∀ j (hj:j<l.length),Pd (np j) l[j] (ds j):=by
 rcases DataW.trod_slice ht h with ⟨hc,hy⟩ | ⟨a,len,cap,elems,rest,m,rfl,hc,hy,_,hlc,hcm,hel,hi,_,_⟩
 ·simp only[cr,and_true]at hc;subst hc;subst hy;exact ⟨[],none,0,fun _=>[],fun _=>.nil,rfl,aF _,bc _,fun _=>rfl,by simp[Rows.uptoBulk,Rows.uptoBulkAll],.inl rfl,fun j hj=>by simp at hj,fun j hj=>by simp at hj⟩
 ·simp only[cr,and_true]at hc;subst hc;subst hy;rw[hK]at hi;have each:∀ i,i<len->∃(cs:List Value) (u:α) (d:DataW H),W.cells? 0 (a.add (i * K)) K=some cs/\(elems.map (·.1))[i]?=some d/\Pd cs u d:=by
   intro i MZ;have h:=hi i MZ;rw[gy (by omega)]at h;obtain ⟨cs,Oj,hc2⟩:=Option.bind_eq_some_iff.1 h;obtain ⟨u,hu⟩:=ih m (by omega) cs _ hc2;exact ⟨cs,u,_,Oj,by rw[List.getElem?_map,gy (by omega)];rfl,hu⟩
  let f:Fin len->α:=fun i=>(each i.1 i.2).choose_spec.choose
  let np:Nat->List Value:=fun i=>if h:i<len then (each i h).choose else []
  let ds:Nat->DataW H:=fun i=>if h:i<len then (each i h).choose_spec.choose_spec.choose else .nil
  have hcs:∀ i (h:i<len),np i=(each i h).choose:=fun i h=>by simp[np,h]
  have F':∀ i (h:i<len),ds i=(each i h).choose_spec.choose_spec.choose:=fun i h=>by simp[ds,h]
  have ox:(List.ofFn f).length=len:=by simp
  have V5:(List.range len).map ds=elems.map (·.1):=by
   apply List.ext_getElem?;intro i
   by_cases MZ:i<len
   ·have:=(each i MZ).choose_spec.choose_spec.choose_spec.2.1;rw[this,<-F' i MZ];simp[MZ]
   ·rw[List.getElem?_eq_none (by simp;omega),List.getElem?_eq_none (by simp;omega)]
  refine ⟨List.ofFn f,some a,cap,np,ds,by rw[ox],by rw[ox];exact hlc,hcm,(fun h=>by cases h),?_,?_,?_,?_⟩
  ·rw[ox,V5];simp only[Rows.uptoBulk];omega
  ·rw[ox]
   by_cases h0:len=0
   ·left;exact jj (by rw[ox];exact h0)
   ·right;obtain ⟨b,off,zb4⟩:=a;have hcells:∀ i (h:i<len) k,k<K->W.cell? ((⟨b,off,zb4⟩:Addr).add (i * K+k))=(np i)[k]?/\(np i).length=K:=by
     intro i h k hk;obtain ⟨_,hcl,hat⟩:=World.cells?_some (each i h).choose_spec.choose_spec.choose_spec.1;have g:=hat k hk;rw[Go.Deep.add_add]at g;rw[hcs i h];exact ⟨g,hcl⟩
    have zb5:zb4=none:=by
     obtain ⟨h1,h2⟩:=hcells 0 (by omega) 0 Vg;rw[gy (by omega)]at h1;simpa[Addr.add] using World.cell?_spot h1
    subst zb5;refine ⟨b,off,rfl,fun j hj k hk=>?_⟩;have:=(hcells j hj k hk).1;rw[Od,<-Nat.add_assoc]at this;exact this
  ·intro j hj;rw[ox]at hj;rw[hcs j hj];exact (World.cells?_some (each j hj).choose_spec.choose_spec.choose_spec.1).2.1
  ·intro j hj;rw[ox]at hj;rw[hcs j hj,F' j hj];have:=(each j hj).choose_spec.choose_spec.choose_spec.2.2;simpa[f] using this
theorem pC (f:Nat->α) (n:Nat):(List.range (n+1)).map f=f 0 :: (List.range n).map (fun j=>f (j+1)):=by
 rw[List.range_succ_eq_map,cU,List.map_map];rfl
def Mn {H:Type} (W:World) (cs:List Value) (t:Tm) (d:DataW H):Prop:=TermV (fun _=>True) W (.agg cs.toArray) t/\nodesT t<=Rows.uptoBulk d/\jN (Rows.uptoBulk d) t=true
def Mo {H:Type} (W:World) (cs:List Value) (t:Fm) (d:DataW H):Prop:=FormV (fun _=>True) W (.agg cs.toArray) t/\nodesF t<=Rows.uptoBulk d/\kT (Rows.uptoBulk d) t=true
theorem DV {H:Type} {W:World}:∀ (l:List Tm) (np:Nat->List Value) (ds:Nat->DataW H),(∀ j (hj:j<l.length),Mn W (np j) l[j] (ds j))->nodesTs l<=Rows.uptoBulkAll ((List.range l.length).map ds)/\nmTs (Rows.uptoBulkAll ((List.range l.length).map ds)) l=true
 | [],_,_,_=>by simp[nodesTs,nmTs]
 | t :: l,np,ds,h=>by
  obtain ⟨_,h1,h2⟩:=h 0 (by simp);have ih:=DV l (fun j=>np (j+1)) (fun j=>ds (j+1)) (fun j hj=>h (j+1) (by simpa using hj));rw[fF,pC];simp only[Rows.uptoBulkAll,nodesTs,nmTs,ae];simp only[List.getElem_cons_zero]at h1 h2;exact ⟨by omega,jW (by omega) _ h2,dS (by omega) _ ih.2⟩
theorem DW {H:Type} {W:World}:∀ (l:List Fm) (np:Nat->List Value) (ds:Nat->DataW H),(∀ j (hj:j<l.length),Mo W (np j) l[j] (ds j))->nodesFs l<=Rows.uptoBulkAll ((List.range l.length).map ds)/\nmFs (Rows.uptoBulkAll ((List.range l.length).map ds)) l=true
 | [],_,_,_=>by simp[nodesFs,nmFs]
 | t :: l,np,ds,h=>by
  obtain ⟨_,h1,h2⟩:=h 0 (by simp);have ih:=DW l (fun j=>np (j+1)) (fun j=>ds (j+1)) (fun j hj=>h (j+1) (by simpa using hj));rw[fF,pC];simp only[Rows.uptoBulkAll,nodesFs,nmFs,ae];simp only[List.getElem_cons_zero]at h1 h2;exact ⟨by omega,jX (by omega) _ h2,iG (by omega) _ ih.2⟩
theorem RW {l:List α} (h:l.length=3):∃a b c,l=[a,b,c]:=by
 rcases l with _ | ⟨c0,_ | ⟨c1,_ | ⟨c2,_ | _⟩⟩⟩ <;> simp at h
 exact ⟨_,_,_,rfl⟩
theorem Zb {l:List α} (h:l.length=4):∃a b c d,l=[a,b,c,d]:=by
 rcases l with _ | ⟨c0,_ | ⟨c1,_ | ⟨c2,_ | ⟨c3,_ | _⟩⟩⟩⟩ <;> simp at h
 exact ⟨_,_,_,_,rfl⟩
section
variable {H:Type} {enc:TypeId×Value->H} {W:World} {held:Bool} {gM:Nat->Bool}
theorem su {y:DataW H×List MemPlace} (h:DataW.trod enc Tryz.prog W 0 gM held cE 33 [c]=some y) (ih:∀ m,m<cE->∀ cs z,DataW.trod enc Tryz.prog W 0 gM held m 43 cs=some z->∃t,Mn W cs t z.1) :
  ∃(l:List Tm),TermsV (fun _=>True) W c l/\nodesTs l+1<=Rows.uptoBulk y.1/\nmTs (Rows.uptoBulk y.1) l=true:=by
 obtain ⟨l,a0,cap,np,ds,rfl,hlc,hcm,_,hb,hs,hcl,hP⟩:=kO Tryz.underlying33 (K:=3) (by kernel_rfl) (by omega) (Mn W) h ih;have yx:=DV l np ds hP;refine ⟨l,⟨a0,cap,fun j=>.agg (np j).toArray,rfl,?_,fun j hj=>(hP j hj).1⟩,by omega,dS (by omega) _ yx.2⟩;rcases hs with hs | ⟨b,off,ha,hc⟩
 ·exact .inl hs
 ·refine .inr ⟨b,off,ha,trivial,fun j hj=>?_⟩;obtain ⟨x0,x1,x2,hx⟩:=RW (hcl j hj);have h0:=hc j hj 0 (by omega);have h1:=hc j hj 1 (by omega);have h2:=hc j hj 2 (by omega);rw[hx]at h0 h1 h2;exact ⟨x0,x1,x2,by simp only[hx],h0,h1,h2⟩
theorem Cy {y:DataW H×List MemPlace} (h:DataW.trod enc Tryz.prog W 0 gM held cE 34 [c]=some y) (ih:∀ m,m<cE->∀ cs z,DataW.trod enc Tryz.prog W 0 gM held m 36 cs=some z->∃t,Mo W cs t z.1) :
  ∃(l:List Fm),FormsV (fun _=>True) W c l/\nodesFs l+1<=Rows.uptoBulk y.1/\nmFs (Rows.uptoBulk y.1) l=true:=by
 obtain ⟨l,a0,cap,np,ds,rfl,hlc,hcm,_,hb,hs,hcl,hP⟩:=kO Tryz.underlying34 (K:=4) (by kernel_rfl) (by omega) (Mo W) h ih;have yx:=DW l np ds hP;refine ⟨l,⟨a0,cap,fun j=>.agg (np j).toArray,rfl,?_,fun j hj=>(hP j hj).1⟩,by omega,iG (by omega) _ yx.2⟩;rcases hs with hs | ⟨b,off,ha,hc⟩
 ·exact .inl hs
 ·refine .inr ⟨b,off,ha,trivial,fun j hj=>?_⟩;obtain ⟨x0,x1,x2,x3,hx⟩:=Zb (hcl j hj);have h0:=hc j hj 0 (by omega);have h1:=hc j hj 1 (by omega);have h2:=hc j hj 2 (by omega);have h3:=hc j hj 3 (by omega);rw[hx]at h0 h1 h2 h3;exact ⟨x0,x1,x2,x3,by simp only[hx],h0,h1,h2,h3⟩
theorem m6 {n:Nat} {y:DataW H×List MemPlace} (h:DataW.trod enc Tryz.prog W 0 gM held n 9 [v]=some y):∃s:Str,v=.string ⟨s.toArray⟩/\s.length+1<=Rows.uptoBulk y.1/\s.length<=maxLen:=by
 obtain ⟨s,hs,rfl,hw⟩:=DataW.trod_string Tryz.underlying9 h;simp only[cr,and_true]at hs;exact ⟨s.data.toList,by rw[hs],by simp[Rows.uptoBulk],by simpa using hw⟩
theorem vq:∀ (cE:Nat) (cs:List Value) (y:DataW H×List MemPlace),DataW.trod enc Tryz.prog W 0 gM held cE 43 cs=some y->∃t,Mn W cs t y.1:=by
 intro cE
 induction cE using Nat.strongRecOn with
 | _ cE ih=>
  intro cs y h;obtain ⟨xs,n,rfl,rfl,cf,yg,hf⟩:=DataW.trod_struct Tryz.underlying43 h;obtain ⟨c0,c1,c2,rfl⟩:=RW (cf.trans (by kernel_rfl));obtain ⟨x0,x1,x2,rfl⟩:=RW (yg.trans (by kernel_rfl));have h0:DataW.trod enc Tryz.prog W 0 gM held n 4 [c0]=some x0:=hf 0 _ rfl;have pp189:=();exact pm189
theorem vr:∀ (cE:Nat) (cs:List Value) (y:DataW H×List MemPlace),DataW.trod enc Tryz.prog W 0 gM held cE 36 cs=some y->∃t,Mo W cs t y.1:=by
 intro cE
 induction cE using Nat.strongRecOn with
 | _ cE ih=>
  intro cs y h;obtain ⟨xs,n,rfl,rfl,cf,yg,hf⟩:=DataW.trod_struct Tryz.underlying36 h;obtain ⟨c0,c1,c2,c3,rfl⟩:=Zb (cf.trans (by kernel_rfl));obtain ⟨x0,x1,x2,x3,rfl⟩:=Zb (yg.trans (by kernel_rfl));have h0:DataW.trod enc Tryz.prog W 0 gM held n 5 [c0]=some x0:=hf 0 _ rfl;exact pm189
theorem K5 {f:Fm} (h:FormV (fun _=>True) W (.agg cs.toArray) f):∃q:FQ,cs=[.int .u8 q.o,.string q.n,.slice q.a q.l q.c,.slice q.b q.m q.e]/\FormV (fun _=>True) W q.val f:=by
 obtain ⟨q,hq,_⟩:=h.form;rw[hq]at h;refine ⟨q,?_,h⟩;unfold FQ.val at hq;have:=congrArg (fun v=>match v with | Value.agg xs=>xs.toList | _=>[]) hq;simpa using this
theorem K6 {f:Tm} (h:TermV (fun _=>True) W (.agg cs.toArray) f):∃q:TQ,cs=[.bool q.v,.string q.n,.slice q.a q.l q.c]/\TermV (fun _=>True) W q.val f:=by
 obtain ⟨q,hq,_⟩:=h.form;rw[hq]at h;refine ⟨q,?_,h⟩;unfold TQ.val at hq;have:=congrArg (fun v=>match v with | Value.agg xs=>xs.toList | _=>[]) hq;simpa using this
theorem two {l:List α} (h:l.length=2):∃a b,l=[a,b]:=by
 rcases l with _ | ⟨c0,_ | ⟨c1,_ | _⟩⟩ <;> simp at h
 exact ⟨_,_,rfl⟩
def K7 (cs:List Value) (p:Str×Fm) (d:DataW H):Prop:=∃a:FQ,cs=[.string ⟨p.1.toArray⟩,.int .u8 a.o,.string a.n,.slice a.a a.l a.c,.slice a.b a.m a.e]/\FormV (fun _=>True) W a.val p.2/\nodesF p.2+2<=Rows.uptoBulk d/\p.1.length<=Rows.uptoBulk d/\kT (Rows.uptoBulk d) p.2=true
def K8 (cs:List Value) (p:Str×Tm) (d:DataW H):Prop:=∃a:TQ,cs=[.string ⟨p.1.toArray⟩,.bool a.v,.string a.n,.slice a.a a.l a.c]/\TermV (fun _=>True) W a.val p.2/\nodesT p.2+2<=Rows.uptoBulk d/\p.1.length<=Rows.uptoBulk d/\jN (Rows.uptoBulk d) p.2=true
theorem Cz (cE:Nat) (cs:List Value) (y:DataW H×List MemPlace) (h:DataW.trod enc Tryz.prog W 0 gM held cE 40 cs=some y):∃p,K7 (W:=W) cs p y.1:=by
 obtain ⟨xs,n,rfl,rfl,cf,yg,hf⟩:=DataW.trod_struct Tryz.underlying40 h;have hcl:cs.length=5:=cf.trans (by kernel_rfl);have pp132:=();exact pm132
theorem CG (cE:Nat) (cs:List Value) (y:DataW H×List MemPlace) (h:DataW.trod enc Tryz.prog W 0 gM held cE 47 cs=some y):∃p,K8 (W:=W) cs p y.1:=by
 obtain ⟨xs,n,rfl,rfl,cf,yg,hf⟩:=DataW.trod_struct Tryz.underlying47 h;have hcl:cs.length=4:=cf.trans (by kernel_rfl);exact pm132
theorem Bf:∀ (l:List (Str×Fm)) (np:Nat->List Value) (ds:Nat->DataW H),(∀ j (hj:j<l.length),K7 (W:=W) (np j) l[j] (ds j))->nodesFs (l.map (·.2))+2 * l.length<=Rows.uptoBulkAll ((List.range l.length).map ds)/\nmFs (Rows.uptoBulkAll ((List.range l.length).map ds)) (l.map (·.2))=true/\∀ p∈l,p.1.length<=Rows.uptoBulkAll ((List.range l.length).map ds)
 | [],_,_,_=>by simp[nodesFs,nmFs]
 | t :: l,np,ds,h=>by
  obtain ⟨_,_,_,h1,h2,h3⟩:=h 0 (by simp);have ih:=Bf l (fun j=>np (j+1)) (fun j=>ds (j+1)) (fun j hj=>h (j+1) (by simpa using hj));rw[fF,pC,cU];simp only[Rows.uptoBulkAll,nodesFs,nmFs,ae];simp only[List.getElem_cons_zero]at h1 h2 h3;refine ⟨by omega,⟨jX (by omega) _ h3,iG (by omega) _ ih.2.1⟩,fun p hp=>?_⟩;rcases dw.1 hp with rfl | hp
  ·omega
  ·have:=ih.2.2 p hp;omega
theorem Bg:∀ (l:List (Str×Tm)) (np:Nat->List Value) (ds:Nat->DataW H),(∀ j (hj:j<l.length),K8 (W:=W) (np j) l[j] (ds j))->nodesTs (l.map (·.2))+2 * l.length<=Rows.uptoBulkAll ((List.range l.length).map ds)/\nmTs (Rows.uptoBulkAll ((List.range l.length).map ds)) (l.map (·.2))=true/\∀ p∈l,p.1.length<=Rows.uptoBulkAll ((List.range l.length).map ds)
 | [],_,_,_=>by simp[nodesTs,nmTs]
 | t :: l,np,ds,h=>by
  obtain ⟨_,_,_,h1,h2,h3⟩:=h 0 (by simp);have ih:=Bg l (fun j=>np (j+1)) (fun j=>ds (j+1)) (fun j hj=>h (j+1) (by simpa using hj));rw[fF,pC,cU];simp only[Rows.uptoBulkAll,nodesTs,nmTs,ae];simp only[List.getElem_cons_zero]at h1 h2 h3;refine ⟨by omega,⟨jW (by omega) _ h3,dS (by omega) _ ih.2.1⟩,fun p hp=>?_⟩;rcases dw.1 hp with rfl | hp
  ·omega
  ·have:=ih.2.2 p hp;omega
theorem Bh {y:DataW H×List MemPlace} (h:DataW.trod enc Tryz.prog W 0 gM held cE 23 [c]=some y) :
  ∃l:List (Str×Fm),FBindsV (fun _=>True) W c l/\nodesFs (l.map (·.2))+2 * l.length+1<=Rows.uptoBulk y.1/\nmFs (Rows.uptoBulk y.1) (l.map (·.2))=true/\∀ p∈l,p.1.length<=Rows.uptoBulk y.1:=by
 obtain ⟨l,a0,cap,np,ds,rfl,hlc,hcm,_,hb,hs,hcl,hP⟩:=kO Tryz.underlying23 (K:=5) (by kernel_rfl) (by omega) (K7 (W:=W)) h (fun m _=>Cz m);have yx:=Bf l np ds hP;refine ⟨l,?_,by omega,iG (by omega) _ yx.2.1,fun p hp=>by have:=yx.2.2 p hp;omega⟩;have hC:∀ j,∃a:FQ,∀ h:j<l.length,np j=[.string ⟨l[j].1.toArray⟩,.int .u8 a.o,.string a.n,.slice a.a a.l a.c,.slice a.b a.m a.e]/\FormV (fun _=>True) W a.val l[j].2:=fun j=>by
  by_cases h:j<l.length
  ·obtain ⟨a,h1,h2,_⟩:=hP j h;exact ⟨a,fun _=>⟨h1,h2⟩⟩
  ·exact ⟨⟨0,ByteArray.empty,none,0,0,none,0,0⟩,fun h'=>absurd h' h⟩
 have pp205:=();exact pm205
theorem Bi {y:DataW H×List MemPlace} (h:DataW.trod enc Tryz.prog W 0 gM held cE 24 [c]=some y) :
  ∃l:List (Str×Tm),TBindsV (fun _=>True) W c l/\nodesTs (l.map (·.2))+2 * l.length+1<=Rows.uptoBulk y.1/\nmTs (Rows.uptoBulk y.1) (l.map (·.2))=true/\∀ p∈l,p.1.length<=Rows.uptoBulk y.1:=by
 obtain ⟨l,a0,cap,np,ds,rfl,hlc,hcm,_,hb,hs,hcl,hP⟩:=kO Tryz.underlying24 (K:=4) (by kernel_rfl) (by omega) (K8 (W:=W)) h (fun m _=>CG m);have yx:=Bg l np ds hP;refine ⟨l,?_,by omega,dS (by omega) _ yx.2.1,fun p hp=>by have:=yx.2.2 p hp;omega⟩;have hC:∀ j,∃a:TQ,∀ h:j<l.length,np j=[.string ⟨l[j].1.toArray⟩,.bool a.v,.string a.n,.slice a.a a.l a.c]/\TermV (fun _=>True) W a.val l[j].2:=fun j=>by
  by_cases h:j<l.length
  ·obtain ⟨a,h1,h2,_⟩:=hP j h;exact ⟨a,fun _=>⟨h1,h2⟩⟩
  ·exact ⟨⟨false,ByteArray.empty,none,0,0⟩,fun h'=>absurd h' h⟩
 exact pm205
structure BdBy (p:Nat) (b:Bd):Prop where
 nodes:nodesFs (b.fs.map (·.2))+2 * b.fs.length+(nodesTs (b.ts.map (·.2))+2 * b.ts.length)+2<=p
 fs:nmFs p (b.fs.map (·.2))=true
 ts:nmTs p (b.ts.map (·.2))=true
 fn:∀ x∈b.fs,x.1.length<=p
 tn:∀ x∈b.ts,x.1.length<=p
end
theorem Oe {H:Type} {enc:TypeId×Value->H} {W:World} {d:DataW H} (hv:Value.okWide Tryz.prog W .any b0 26 v) (h:DataW.Trod enc Tryz.prog W 0 (fun _=>true) true 26 v d p) :
  ∃(q:BQ) (b:Bd),v=q.val/\BindV (fun _=>True) W q b/\BdBy (Rows.uptoBulk d) b:=by
 obtain ⟨cs,rfl,hsz⟩:=okWide_struct Tryz.underlying26 hv;obtain ⟨cE,hf⟩:=h;obtain ⟨xs,n,rfl,hx,cf,yg,hg⟩:=DataW.trod_struct Tryz.underlying26 hf;injection hx with hx _;subst hx;have hcl:cs.toList.length=2:=cf.trans (by kernel_rfl);obtain ⟨x0,x1,rfl⟩:=two (yg.trans (by kernel_rfl));obtain ⟨c0,c1,hc⟩:=two hcl;obtain rfl:cs=#[c0,c1]:=by rw[<-Array.toArray_toList (xs:=cs),hc]
 have h0:DataW.trod enc Tryz.prog W 0 (fun _=>true) true n 23 [c0]=some x0:=hg 0 _ rfl;have h1:DataW.trod enc Tryz.prog W 0 (fun _=>true) true n 24 [c1]=some x1:=hg 1 _ rfl;obtain ⟨fs,hfs,f1,f2,f3⟩:=Bh h0;obtain ⟨ts,fS,t1,t2,t3⟩:=Bi h1;obtain ⟨a,c,rfl⟩:=hfs.slice;obtain ⟨b,e,rfl⟩:=fS.slice;refine ⟨⟨a,_,c,b,_,e⟩,⟨fs,ts⟩,rfl,⟨hfs,fS⟩,?_⟩;have e1:Rows.uptoBulk (DataW.agg ([x0,x1].map (·.1)))=Rows.uptoBulk x0.1+Rows.uptoBulk x1.1+1:=by simp[Rows.uptoBulk,Rows.uptoBulkAll]
 rw[e1];exact ⟨by simp only;omega,iG (by omega) _ f2,dS (by omega) _ t2,fun x hx=>by have:=f3 x hx;omega,fun x hx=>by have:=t3 x hx;omega⟩
theorem Of {H:Type} {enc:TypeId×Value->H} {W:World} {d:DataW H} (hv:Value.okWide Tryz.prog W .any b0 36 v) (h:DataW.Trod enc Tryz.prog W 0 (fun _=>true) true 36 v d p) :
  ∃(q:FQ) (f:Fm),v=q.val/\FormV (fun _=>True) W q.val f/\nodesF f<=Rows.uptoBulk d/\kT (Rows.uptoBulk d) f=true:=by
 obtain ⟨cs,rfl,hsz⟩:=okWide_struct Tryz.underlying36 hv;obtain ⟨cE,hf⟩:=h;obtain ⟨f,h1,h2,h3⟩:=vr cE _ _ hf;have h1:FormV (fun _=>True) W (.agg cs) f:=by simpa[Value.cells] using h1
 obtain ⟨q,hq,_⟩:=h1.form;exact ⟨q,f,hq,hq ▸ h1,h2,h3⟩
end Go.Proofs.YtokemihbkeddoaaGreatDoor
namespace Go.Proofs.YtokemihbkeddoaaGreatDoor
set_option maxRecDepth 100000
set_option maxHeartbeats 64000000
open Go Go.RowKit Go.ChangeShapes Go.WideShapes Go.Deep
def VP (P:Program) (l:List TypeId):Bool:=l.all fun t=>match P.underlying t with
 | some (.pointer e)=>l.contains e
 | some (.slice e)=>l.contains e && decide (0<P.cellsOf e)
 | some (.array n e)=>l.contains e && P.cellsOf t == n * P.cellsOf e
 | some (.struct fs)=>fs.toList.all (fun f=>l.contains f.type) && (P.cellsOf t == (fs.toList.map fun f=>P.cellsOf f.type).sum) &&
   ((List.range fs.toList.length).all fun j=>match fs.toList[j]? with
     | some f=>f.offset == ((fs.toList.take j).map fun f=>P.cellsOf f.type).sum
     | none=>true)
 | some (.map _ e)=>l.contains e
 | _=>true
theorem Ud {P:Program} {l:List TypeId} (h:VP P l=true):Kids P (·∈l)/\∀ {t e:TypeId},t∈l->P.underlying t=some (.slice e)->0<P.cellsOf e:=by
 have h1:∀ t∈l,_:=fun t ht=>List.all_eq_true.1 h t ht;refine ⟨⟨?_,?_,?_,?_,?_⟩,?_⟩
 ·intro t e ht hu;have:=h1 t ht;rw[hu]at this;simpa using this
 ·intro t e ht hu;have:=h1 t ht;rw[hu]at this;simp at this;exact this.1
 ·intro t e n ht hu;have:=h1 t ht;rw[hu]at this;simp at this;exact this
 ·intro t fs ht hu;have:=h1 t ht;rw[hu]at this;simp only[ae,List.all_eq_true,fY]at this;obtain ⟨⟨a1,a2⟩,a3⟩:=this;refine ⟨fun f hf=>by simpa using a1 f hf,a2,fun j f hf=>?_⟩;have hj:j<fs.toList.length:=(List.getElem?_eq_some_iff.1 hf).1;have:=a3 j (by simpa using hj);rw[hf]at this;simpa using this
 ·intro t k e ht hu;have:=h1 t ht;rw[hu]at this;simpa using this
 ·intro t e ht hu;have:=h1 t ht;rw[hu]at this;simp at this;exact this.2
section
variable {H:Type} {enc:TypeId×Value->H} {P:Program} {w w':World} {sp':Nat->Bool}
theorem sw {T:TypeId->Prop} (K:Kids P T) (hsz:∀ {t e:TypeId},T t->P.underlying t=some (.slice e)->0<P.cellsOf e) :
  ∀ {ts:List TypeId} {vs:List Value} {ds:List (DataW H)} {p:List MemPlace},(∀ t∈ts,T t)->DataW.TrodAll enc P w 0 (fun _=>true) true ts vs ds p →
   (∀ q∈p,w.sameAt w' q)->(∀ q∈p,sp' q.block=true)->DataW.TrodAll enc P w' 0 sp' true ts vs ds p
 | [],_,_,_,_,h,_,_=>by
  obtain ⟨rfl,rfl,rfl⟩:=trodAll_nil h;exact trodAll_mk0
 | t :: ts,_,_,_,hT,h,hs,hsp=>by
  obtain ⟨v,vs1,d,ds1,a,b,rfl,rfl,rfl,⟨n,h1⟩,h2⟩:=trodAll_cons h;exact ⟨a,b,⟨n,DataW.trod_stays K hsz (fun h=>by cases h) (hT t (by simp)) h1 (fun q hq=>hs q (by simp[hq])) (fun q hq=>hsp q (by simp[hq]))⟩,
   sw K hsz (fun t ht=>hT t (by simp[ht])) h2 (fun q hq=>hs q (by simp[hq])) (fun q hq=>hsp q (by simp[hq])),rfl⟩
theorem Og {ts:List TypeId} {vs:List Value} {ds:List (DataW H)} {p:List MemPlace} (l:List TypeId) (hk:VP P l=true) (hl:ts.all (l.contains ·)=true)
  (h:DataW.TrodAll enc P w 0 (fun _=>true) true ts vs ds p) (hb:Below w.heap.size w w'):DataW.TrodAll enc P w' 0 (fun b=>decide (b<w.heap.size)) true ts vs ds p:=by
 obtain ⟨K,hsz⟩:=Ud hk;have hlt:=DataW.TrodAll.lt h;exact sw K hsz (fun t ht=>by simpa using List.all_eq_true.1 hl t ht) h (fun q hq=>hb.same (hlt q hq)) (fun q hq=>by simpa using hlt q hq)
end
theorem Ue {H:Type} {l g:List (DataW H)} (h:Rows.uptoSmall H (l ++ g)=true):Rows.uptoBulkAll l<=1048576:=by
 have h:=of_decide_eq_true h;rw[Be]at h;omega
end Go.Proofs.YtokemihbkeddoaaGreatDoor
namespace Go.Proofs.YtokemihbkeddoaaGreatDoor
open Go Go.RowKit Lib
set_option maxRecDepth 100000
set_option maxHeartbeats 64000000
theorem Bj:∀ l:List (Str×Fm),nodesFs (kn l)=nodesFs (l.map (·.2))+l.length
 | []=>rfl
 | x :: l=>by
  have:=Bj l;simp only[kn,List.flatMap_cons,nK,rU,nodesFs,nodesF,nodesTs,cU,fF]at this ⊢;omega
theorem Bk:∀ l:List (Str×Tm),nodesFs (ld l)=nodesTs (l.map (·.2))+l.length
 | []=>rfl
 | x :: l=>by
  have:=Bk l;simp only[ld,nodesFs,nodesF,nodesTs,cU,fF]at this ⊢;omega
theorem Mp {p:Nat}:∀ l:List (Str×Fm),nmFs p (l.map (·.2))=true->(∀ x∈l,x.1.length<=p)->nmFs p (kn l)=true
 | [],_,_=>rfl
 | x :: l,h,hn=>by
  simp only[cU,nmFs,ae]at h;have h1:=Mp l h.2 (fun y hy=>hn y (iU _ hy));have h2:=hn x (ij ..);simp only[kn]at h1 ⊢;simp only[List.flatMap_cons,nK,rU,nmFs,kT,nmTs,ae,h.1,h1,bw];simp;omega
theorem Mq {p:Nat}:∀ l:List (Str×Tm),nmTs p (l.map (·.2))=true->(∀ x∈l,x.1.length<=p)->nmFs p (ld l)=true
 | [],_,_=>rfl
 | x :: l,h,hn=>by
  simp only[cU,nmTs,ae]at h;have h1:=Mq l h.2 (fun y hy=>hn y (iU _ hy));have h2:=hn x (ij ..);simp only[ld]at h1 ⊢;simp only[cU,nmFs,kT,nmTs,ae,h.1,h1,bw];simp;omega
theorem RX {p:Nat}:∀ a b:List Fm,nmFs p a=true->nmFs p b=true->nmFs p (a ++ b)=true
 | [],_,_,h=>h
 | x :: a,b,h,hb=>by
  simp only[nmFs,ae]at h;simp only[nK,nmFs,ae];exact ⟨h.1,RX a b h.2 hb⟩
theorem DX:∀ c d:List Fm,nodesFs (c ++ d)=nodesFs c+nodesFs d
 | [],d=>by simp[nodesFs]
 | y :: c,d=>by have:=DX c d;simp only[nK,nodesFs,this];omega
theorem RY {p:Nat} {b:Bd} (h:BdBy p b) (hp:p<=1048576):b.fs.length<=1000000/\b.ts.length<=1000000/\fitFs (kn b.fs ++ ld b.ts):=by
 have hn:=h.nodes;refine ⟨by omega,by omega,?_,?_⟩
 ·rw[DX,Bj,Bk];omega
 ·exact RX _ _ (Mp _ (iG (by omega) _ h.fs) (fun x hx=>by have:=h.fn x hx;omega)) (Mq _ (dS (by omega) _ h.ts) (fun x hx=>by have:=h.tn x hx;omega))
