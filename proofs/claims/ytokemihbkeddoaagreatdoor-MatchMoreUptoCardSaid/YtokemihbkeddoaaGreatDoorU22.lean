/-
Terms,formulas,pairs and bindings that came in as arguments,opened;their size by the bulk.
-/
import Derived.Test.YtokemihbkeddoaaGreatDoorRows
import Derived.Test.YtokemihbkeddoaaGreatDoorU19
namespace Go.Proofs.YtokemihbkeddoaaGreatDoor
set_option maxRecDepth 100000
set_option maxHeartbeats 64000000
open Go Go.RowKit Go.ChangeShapes Go.WideShapes Go.Deep
variable {α:Type} {cw b0:Nat} {c v:Value} {cs:List Value} {p:List MemPlace}
theorem MN (b off j:Nat):(⟨b,off,none⟩:Addr).add j=⟨b,off+j,none⟩:=by unfold Addr.add;split <;> simp_all
theorem As {H:Type} (l r:List (DataW H)):Rows.uptoBulkAll (l ++ r)=Rows.uptoBulkAll l+Rows.uptoBulkAll r:=by
 induction l with
 | nil=>simp[Rows.uptoBulkAll]
 | cons x l ih=>simp only[ky,Rows.uptoBulkAll,ih];omega
theorem i8 {H:Type} {enc:TypeId×Value->H} {P:Program} {W:World} {held:Bool} {fd:Nat->Bool} {t e:TypeId} {K:Nat} (ht:P.underlying t=some (.slice e)) (hK:P.cellsOf e=K) (TU:0<K) (Pd:List Value->α->DataW H->Prop) {y:DataW H×List MemPlace}
  (h:DataW.trod enc P W 0 fd held cw t [c]=some y) (ih:∀ m,m<cw->∀ cs z,DataW.trod enc P W 0 fd held m e cs=some z->∃a,Pd cs a z.1) :
  ∃(l:List α) (a0:Option Addr) (cap:Nat) (k_:Nat->List Value) (ds:Nat->DataW H),c=.slice a0 l.length cap/\l.length<=cap/\cap<=maxLen/\(a0=none->c=.slice none 0 0)/\Rows.uptoBulkAll ((List.range l.length).map ds)+1<=Rows.uptoBulk y.1 ∧
   (l=[]\/∃b off,a0=some ⟨b,off,none⟩/\∀ j,j<l.length->∀ k,k<K->W.cell? ⟨b,off+j * K+k,none⟩=(k_ j)[k]?)/\(∀ j,j<l.length->(k_ j).length=K)/\∀ j (hj:j<l.length),Pd (k_ j) l[j] (ds j):=by
 rcases DataW.trod_slice ht h with ⟨hc,hy⟩ | ⟨a,len,cap,elems,rest,m,rfl,hc,hy,_,hlc,hcm,hel,hi,_,_⟩
 ·simp only[cB,and_true]at hc;subst hc;subst hy;exact ⟨[],none,0,fun _=>[],fun _=>.nil,rfl,aI _,bc _,fun _=>rfl,by simp[Rows.uptoBulk,Rows.uptoBulkAll],.inl rfl,fun j hj=>by simp at hj,fun j hj=>by simp at hj⟩
 ·simp only[cB,and_true]at hc;subst hc;subst hy;rw[hK]at hi;have each:∀ i,i<len->∃(cs:List Value) (u:α) (d:DataW H),W.cells? 0 (a.add (i * K)) K=some cs/\(elems.map (·.1))[i]?=some d/\Pd cs u d:=by
   intro i LR;have h:=hi i LR;rw[gx (by omega)]at h;obtain ⟨cs,UO,B8⟩:=Option.bind_eq_some_iff.1 h;obtain ⟨u,hu⟩:=ih m (by omega) cs _ B8;exact ⟨cs,u,_,UO,by rw[List.getElem?_map,gx (by omega)];rfl,hu⟩
  let f:Fin len->α:=fun i=>(each i.1 i.2).choose_spec.choose
  let k_:Nat->List Value:=fun i=>if h:i<len then (each i h).choose else []
  let ds:Nat->DataW H:=fun i=>if h:i<len then (each i h).choose_spec.choose_spec.choose else .nil
  have hcs:∀ i (h:i<len),k_ i=(each i h).choose:=fun i h=>by simp[k_,h]
  have FA:∀ i (h:i<len),ds i=(each i h).choose_spec.choose_spec.choose:=fun i h=>by simp[ds,h]
  have mY:(List.ofFn f).length=len:=by simp
  have UT:(List.range len).map ds=elems.map (·.1):=by
   apply List.ext_getElem?;intro i
   by_cases LR:i<len
   ·have:=(each i LR).choose_spec.choose_spec.choose_spec.2.1;rw[this,<-FA i LR];simp[LR]
   ·rw[List.getElem?_eq_none (by simp;omega),List.getElem?_eq_none (by simp;omega)]
  refine ⟨List.ofFn f,some a,cap,k_,ds,by rw[mY],by rw[mY];exact hlc,hcm,(fun h=>by cases h),?_,?_,?_,?_⟩
  ·rw[mY,UT];simp only[Rows.uptoBulk];omega
  ·rw[mY]
   by_cases h0:len=0
   ·left;exact jk (by rw[mY];exact h0)
   ·right;obtain ⟨b,off,zbr⟩:=a;have hcells:∀ i (h:i<len) k,k<K->W.cell? ((⟨b,off,zbr⟩:Addr).add (i * K+k))=(k_ i)[k]?/\(k_ i).length=K:=by
     intro i h k hk;obtain ⟨_,hcl,hat⟩:=World.cells?_some (each i h).choose_spec.choose_spec.choose_spec.1;have g:=hat k hk;rw[Go.Deep.add_add]at g;rw[hcs i h];exact ⟨g,hcl⟩
    have zbs:zbr=none:=by
     obtain ⟨h1,h2⟩:=hcells 0 (by omega) 0 TU;rw[gx (by omega)]at h1;simpa[Addr.add] using World.cell?_spot h1
    subst zbs;refine ⟨b,off,rfl,fun j hj k hk=>?_⟩;have:=(hcells j hj k hk).1;rw[MN,<-Nat.add_assoc]at this;exact this
  ·intro j hj;rw[mY]at hj;rw[hcs j hj];exact (World.cells?_some (each j hj).choose_spec.choose_spec.choose_spec.1).2.1
  ·intro j hj;rw[mY]at hj;rw[hcs j hj,FA j hj];have:=(each j hj).choose_spec.choose_spec.choose_spec.2.2;simpa[f] using this
theorem mf (f:Nat->α) (n:Nat):(List.range (n+1)).map f=f 0 :: (List.range n).map (fun j=>f (j+1)):=by
 rw[List.range_succ_eq_map,cK,List.map_map];rfl
def Lb {H:Type} (W:World) (cs:List Value) (t:Tm) (d:DataW H):Prop:=TermV (fun _=>True) W (.agg cs.toArray) t/\nodesT t<=Rows.uptoBulk d/\jw (Rows.uptoBulk d) t=true
def Lc {H:Type} (W:World) (cs:List Value) (t:Fm) (d:DataW H):Prop:=FormV (fun _=>True) W (.agg cs.toArray) t/\nodesF t<=Rows.uptoBulk d/\kJ (Rows.uptoBulk d) t=true
theorem Dn {H:Type} {W:World}:∀ (l:List Tm) (k_:Nat->List Value) (ds:Nat->DataW H),(∀ j (hj:j<l.length),Lb W (k_ j) l[j] (ds j))->nodesTs l<=Rows.uptoBulkAll ((List.range l.length).map ds)/\nmTs (Rows.uptoBulkAll ((List.range l.length).map ds)) l=true
 | [],_,_,_=>by simp[nodesTs,nmTs]
 | t :: l,k_,ds,h=>by
  obtain ⟨_,h1,h2⟩:=h 0 (by simp);have ih:=Dn l (fun j=>k_ (j+1)) (fun j=>ds (j+1)) (fun j hj=>h (j+1) (by simpa using hj));rw[fN,mf];simp only[Rows.uptoBulkAll,nodesTs,nmTs,ah];simp only[List.getElem_cons_zero]at h1 h2;exact ⟨by omega,jC (by omega) _ h2,dQ (by omega) _ ih.2⟩
theorem Do {H:Type} {W:World}:∀ (l:List Fm) (k_:Nat->List Value) (ds:Nat->DataW H),(∀ j (hj:j<l.length),Lc W (k_ j) l[j] (ds j))->nodesFs l<=Rows.uptoBulkAll ((List.range l.length).map ds)/\nmFs (Rows.uptoBulkAll ((List.range l.length).map ds)) l=true
 | [],_,_,_=>by simp[nodesFs,nmFs]
 | t :: l,k_,ds,h=>by
  obtain ⟨_,h1,h2⟩:=h 0 (by simp);have ih:=Do l (fun j=>k_ (j+1)) (fun j=>ds (j+1)) (fun j hj=>h (j+1) (by simpa using hj));rw[fN,mf];simp only[Rows.uptoBulkAll,nodesFs,nmFs,ah];simp only[List.getElem_cons_zero]at h1 h2;exact ⟨by omega,gz (by omega) _ h2,eT (by omega) _ ih.2⟩
theorem Qv {l:List α} (h:l.length=3):∃a b c,l=[a,b,c]:=by
 rcases l with _ | ⟨c0,_ | ⟨c1,_ | ⟨c2,_ | _⟩⟩⟩ <;> simp at h
 exact ⟨_,_,_,rfl⟩
theorem XU {l:List α} (h:l.length=4):∃a b c d,l=[a,b,c,d]:=by
 rcases l with _ | ⟨c0,_ | ⟨c1,_ | ⟨c2,_ | ⟨c3,_ | _⟩⟩⟩⟩ <;> simp at h
 exact ⟨_,_,_,_,rfl⟩
section
variable {H:Type} {enc:TypeId×Value->H} {W:World} {held:Bool} {fd:Nat->Bool}
theorem rI {y:DataW H×List MemPlace} (h:DataW.trod enc Tryz.prog W 0 fd held cw 33 [c]=some y) (ih:∀ m,m<cw->∀ cs z,DataW.trod enc Tryz.prog W 0 fd held m 43 cs=some z->∃t,Lb W cs t z.1) :
  ∃(l:List Tm),TermsV (fun _=>True) W c l/\nodesTs l+1<=Rows.uptoBulk y.1/\nmTs (Rows.uptoBulk y.1) l=true:=by
 obtain ⟨l,a0,cap,k_,ds,rfl,hlc,hcm,_,hb,hs,hcl,hP⟩:=i8 Tryz.underlying33 (K:=3) (by kernel_rfl) (by omega) (Lb W) h ih;have tX:=Dn l k_ ds hP;refine ⟨l,⟨a0,cap,fun j=>.agg (k_ j).toArray,rfl,?_,fun j hj=>(hP j hj).1⟩,by omega,dQ (by omega) _ tX.2⟩;rcases hs with hs | ⟨b,off,ha,hc⟩
 ·exact .inl hs
 ·refine .inr ⟨b,off,ha,trivial,fun j hj=>?_⟩;obtain ⟨x0,x1,x2,hx⟩:=Qv (hcl j hj);have h0:=hc j hj 0 (by omega);have h1:=hc j hj 1 (by omega);have h2:=hc j hj 2 (by omega);rw[hx]at h0 h1 h2;exact ⟨x0,x1,x2,by simp only[hx],h0,h1,h2⟩
theorem BJ {y:DataW H×List MemPlace} (h:DataW.trod enc Tryz.prog W 0 fd held cw 34 [c]=some y) (ih:∀ m,m<cw->∀ cs z,DataW.trod enc Tryz.prog W 0 fd held m 36 cs=some z->∃t,Lc W cs t z.1) :
  ∃(l:List Fm),FormsV (fun _=>True) W c l/\nodesFs l+1<=Rows.uptoBulk y.1/\nmFs (Rows.uptoBulk y.1) l=true:=by
 obtain ⟨l,a0,cap,k_,ds,rfl,hlc,hcm,_,hb,hs,hcl,hP⟩:=i8 Tryz.underlying34 (K:=4) (by kernel_rfl) (by omega) (Lc W) h ih;have tX:=Do l k_ ds hP;refine ⟨l,⟨a0,cap,fun j=>.agg (k_ j).toArray,rfl,?_,fun j hj=>(hP j hj).1⟩,by omega,eT (by omega) _ tX.2⟩;rcases hs with hs | ⟨b,off,ha,hc⟩
 ·exact .inl hs
 ·refine .inr ⟨b,off,ha,trivial,fun j hj=>?_⟩;obtain ⟨x0,x1,x2,x3,hx⟩:=XU (hcl j hj);have h0:=hc j hj 0 (by omega);have h1:=hc j hj 1 (by omega);have h2:=hc j hj 2 (by omega);have h3:=hc j hj 3 (by omega);rw[hx]at h0 h1 h2 h3;exact ⟨x0,x1,x2,x3,by simp only[hx],h0,h1,h2,h3⟩
theorem mE {n:Nat} {y:DataW H×List MemPlace} (h:DataW.trod enc Tryz.prog W 0 fd held n 9 [v]=some y):∃s:Str,v=.string ⟨s.toArray⟩/\s.length+1<=Rows.uptoBulk y.1/\s.length<=maxLen:=by
 obtain ⟨s,hs,rfl,hw⟩:=DataW.trod_string Tryz.underlying9 h;simp only[cB,and_true]at hs;exact ⟨s.data.toList,by rw[hs],by simp[Rows.uptoBulk],by simpa using hw⟩
theorem uw:∀ (cw:Nat) (cs:List Value) (y:DataW H×List MemPlace),DataW.trod enc Tryz.prog W 0 fd held cw 43 cs=some y->∃t,Lb W cs t y.1:=by
 intro cw
 induction cw using Nat.strongRecOn with
 | _ cw ih=>
  intro cs y h;obtain ⟨xs,n,rfl,rfl,cm,uW,hf⟩:=DataW.trod_struct Tryz.underlying43 h;obtain ⟨c0,c1,c2,rfl⟩:=Qv (cm.trans (by kernel_rfl));obtain ⟨x0,x1,x2,rfl⟩:=Qv (uW.trans (by kernel_rfl));have h0:DataW.trod enc Tryz.prog W 0 fd held n 4 [c0]=some x0:=hf 0 _ rfl;have pp184:=();exact pm184
theorem oI:∀ (cw:Nat) (cs:List Value) (y:DataW H×List MemPlace),DataW.trod enc Tryz.prog W 0 fd held cw 36 cs=some y->∃t,Lc W cs t y.1:=by
 intro cw
 induction cw using Nat.strongRecOn with
 | _ cw ih=>
  intro cs y h;obtain ⟨xs,n,rfl,rfl,cm,uW,hf⟩:=DataW.trod_struct Tryz.underlying36 h;obtain ⟨c0,c1,c2,c3,rfl⟩:=XU (cm.trans (by kernel_rfl));obtain ⟨x0,x1,x2,x3,rfl⟩:=XU (uW.trans (by kernel_rfl));have h0:DataW.trod enc Tryz.prog W 0 fd held n 5 [c0]=some x0:=hf 0 _ rfl;exact pm184
def Qw (cs:List Value) (p:Fm×Fm) (d:DataW H):Prop:=∃a b:FQ,cs=[.int .u8 a.o,.string a.n,.slice a.a a.l a.c,.slice a.b a.m a.e,.int .u8 b.o,.string b.n,.slice b.a b.l b.c,.slice b.b b.m b.e]/\FormV (fun _=>True) W a.val p.1/\FormV (fun _=>True) W b.val p.2/\nodesF p.1+nodesF p.2<=Rows.uptoBulk d/\kJ (Rows.uptoBulk d) p.1=true/\kJ (Rows.uptoBulk d) p.2=true
theorem sM {f:Fm} (h:FormV (fun _=>True) W (.agg cs.toArray) f):∃q:FQ,cs=[.int .u8 q.o,.string q.n,.slice q.a q.l q.c,.slice q.b q.m q.e]/\FormV (fun _=>True) W q.val f:=by
 obtain ⟨q,hq,_⟩:=h.form;rw[hq]at h;refine ⟨q,?_,h⟩;unfold FQ.val at hq;have:=congrArg (fun v=>match v with | Value.agg xs=>xs.toList | _=>[]) hq;simpa using this
theorem J1 {f:Tm} (h:TermV (fun _=>True) W (.agg cs.toArray) f):∃q:TQ,cs=[.bool q.v,.string q.n,.slice q.a q.l q.c]/\TermV (fun _=>True) W q.val f:=by
 obtain ⟨q,hq,_⟩:=h.form;rw[hq]at h;refine ⟨q,?_,h⟩;unfold TQ.val at hq;have:=congrArg (fun v=>match v with | Value.agg xs=>xs.toList | _=>[]) hq;simpa using this
theorem two {l:List α} (h:l.length=2):∃a b,l=[a,b]:=by
 rcases l with _ | ⟨c0,_ | ⟨c1,_ | _⟩⟩ <;> simp at h
 exact ⟨_,_,rfl⟩
theorem E3 (cw:Nat) (cs:List Value) (y:DataW H×List MemPlace) (h:DataW.trod enc Tryz.prog W 0 fd held cw 50 cs=some y):∃p,Qw (W:=W) cs p y.1:=by
 obtain ⟨xs,n,rfl,rfl,cm,uW,hf⟩:=DataW.trod_struct Tryz.underlying50 h;have hcl:cs.length=8:=cm.trans (by kernel_rfl);obtain ⟨x0,x1,rfl⟩:=two (uW.trans (by kernel_rfl));have h0:DataW.trod enc Tryz.prog W 0 fd held n 36 (cs.take 4)=some x0:=hf 0 _ rfl;have h1:DataW.trod enc Tryz.prog W 0 fd held n 36 ((cs.drop 4).take 4)=some x1:=hf 1 _ rfl;obtain ⟨f,YO,Pc,hf3⟩:=oI n _ _ h0;obtain ⟨g,Ns,S6,hg3⟩:=oI n _ _ h1;obtain ⟨a,ha,h_⟩:=sM YO;obtain ⟨b,hb,vP⟩:=sM Ns;have bD:cs.drop 4=(cs.drop 4).take 4:=by rw[f8];rw[List.length_drop];omega
 refine ⟨(f,g),a,b,?_,h_,vP,?_,?_,?_⟩
 ·rw[<-List.take_append_drop 4 cs,ha,bD,hb];rfl
 ·simp only[cK,List.map_nil,Rows.uptoBulk,Rows.uptoBulkAll];omega
 ·exact gz (by simp only[cK,List.map_nil,Rows.uptoBulk,Rows.uptoBulkAll];omega) _ hf3
 ·exact gz (by simp only[cK,List.map_nil,Rows.uptoBulk,Rows.uptoBulkAll];omega) _ hg3
theorem Dp:∀ (l:List (Fm×Fm)) (k_:Nat->List Value) (ds:Nat->DataW H),(∀ j (hj:j<l.length),Qw (W:=W) (k_ j) l[j] (ds j))->nodesFs (cz l)<=Rows.uptoBulkAll ((List.range l.length).map ds)/\nmFs (Rows.uptoBulkAll ((List.range l.length).map ds)) (cz l)=true
 | [],_,_,_=>by simp[cz,nodesFs,nmFs]
 | t :: l,k_,ds,h=>by
  obtain ⟨_,_,_,_,_,h1,h2,h3⟩:=h 0 (by simp);have ih:=Dp l (fun j=>k_ (j+1)) (fun j=>ds (j+1)) (fun j hj=>h (j+1) (by simpa using hj));rw[fN,mf];have he:cz (t :: l)=t.1 :: t.2 :: cz l:=rfl;rw[he];simp only[Rows.uptoBulkAll,nodesFs,nmFs,ah];simp only[List.getElem_cons_zero]at h1 h2 h3;exact ⟨by omega,gz (by omega) _ h2,gz (by omega) _ h3,eT (by omega) _ ih.2⟩
theorem BK {y:DataW H×List MemPlace} (h:DataW.trod enc Tryz.prog W 0 fd held cw 22 [c]=some y) :
  ∃l:List (Fm×Fm),SPairsV (fun _=>True) W c l/\nodesFs (cz l)<=Rows.uptoBulk y.1/\nmFs (Rows.uptoBulk y.1) (cz l)=true:=by
 obtain ⟨l,a0,cap,k_,ds,rfl,hlc,hcm,_,hb,hs,hcl,hP⟩:=i8 Tryz.underlying22 (K:=8) (by kernel_rfl) (by omega) (Qw (W:=W)) h (fun m _=>E3 m);have tX:=Dp l k_ ds hP;refine ⟨l,?_,by omega,eT (by omega) _ tX.2⟩;have hC:∀ j,∃ab:FQ×FQ,∀ h:j<l.length,k_ j=[.int .u8 ab.1.o,.string ab.1.n,.slice ab.1.a ab.1.l ab.1.c,.slice ab.1.b ab.1.m ab.1.e,.int .u8 ab.2.o,.string ab.2.n,.slice ab.2.a ab.2.l ab.2.c,.slice ab.2.b ab.2.m ab.2.e]/\FormV (fun _=>True) W ab.1.val l[j].1/\FormV (fun _=>True) W ab.2.val l[j].2:=fun j=>by
  by_cases h:j<l.length
  ·obtain ⟨a,b,h1,h2,h3,_⟩:=hP j h;exact ⟨(a,b),fun _=>⟨h1,h2,h3⟩⟩
  ·exact ⟨(⟨0,ByteArray.empty,none,0,0,none,0,0⟩,⟨0,ByteArray.empty,none,0,0,none,0,0⟩),fun h'=>absurd h' h⟩
 obtain ⟨g,hg⟩:=Classical.axiomOfChoice hC;refine ⟨a0,cap,fun j=>(g j).1,fun j=>(g j).2,rfl,hlc,?_,fun j hj=>(hg j hj).2⟩;rcases hs with hs | ⟨b,off,ha,hc⟩
 ·exact .inl hs
 ·refine .inr ⟨b,off,ha,trivial,fun j hj=>?_⟩;have c:=fun k hk=>hc j hj k hk;rw[(hg j hj).1]at c;exact ⟨c 0 (by omega),c 1 (by omega),c 2 (by omega),c 3 (by omega),c 4 (by omega),c 5 (by omega),c 6 (by omega),c 7 (by omega)⟩
def J2 (cs:List Value) (p:Str×Fm) (d:DataW H):Prop:=∃a:FQ,cs=[.string ⟨p.1.toArray⟩,.int .u8 a.o,.string a.n,.slice a.a a.l a.c,.slice a.b a.m a.e]/\FormV (fun _=>True) W a.val p.2/\nodesF p.2+2<=Rows.uptoBulk d/\p.1.length<=Rows.uptoBulk d/\kJ (Rows.uptoBulk d) p.2=true
def J3 (cs:List Value) (p:Str×Tm) (d:DataW H):Prop:=∃a:TQ,cs=[.string ⟨p.1.toArray⟩,.bool a.v,.string a.n,.slice a.a a.l a.c]/\TermV (fun _=>True) W a.val p.2/\nodesT p.2+2<=Rows.uptoBulk d/\p.1.length<=Rows.uptoBulk d/\jw (Rows.uptoBulk d) p.2=true
theorem BL (cw:Nat) (cs:List Value) (y:DataW H×List MemPlace) (h:DataW.trod enc Tryz.prog W 0 fd held cw 40 cs=some y):∃p,J2 (W:=W) cs p y.1:=by
 obtain ⟨xs,n,rfl,rfl,cm,uW,hf⟩:=DataW.trod_struct Tryz.underlying40 h;have hcl:cs.length=5:=cm.trans (by kernel_rfl);have pp127:=();exact pm127
theorem BM (cw:Nat) (cs:List Value) (y:DataW H×List MemPlace) (h:DataW.trod enc Tryz.prog W 0 fd held cw 47 cs=some y):∃p,J3 (W:=W) cs p y.1:=by
 obtain ⟨xs,n,rfl,rfl,cm,uW,hf⟩:=DataW.trod_struct Tryz.underlying47 h;have hcl:cs.length=4:=cm.trans (by kernel_rfl);exact pm127
theorem Au:∀ (l:List (Str×Fm)) (k_:Nat->List Value) (ds:Nat->DataW H),(∀ j (hj:j<l.length),J2 (W:=W) (k_ j) l[j] (ds j))->nodesFs (l.map (·.2))+2 * l.length<=Rows.uptoBulkAll ((List.range l.length).map ds)/\nmFs (Rows.uptoBulkAll ((List.range l.length).map ds)) (l.map (·.2))=true/\∀ p∈l,p.1.length<=Rows.uptoBulkAll ((List.range l.length).map ds)
 | [],_,_,_=>by simp[nodesFs,nmFs]
 | t :: l,k_,ds,h=>by
  obtain ⟨_,_,_,h1,h2,h3⟩:=h 0 (by simp);have ih:=Au l (fun j=>k_ (j+1)) (fun j=>ds (j+1)) (fun j hj=>h (j+1) (by simpa using hj));rw[fN,mf,cK];simp only[Rows.uptoBulkAll,nodesFs,nmFs,ah];simp only[List.getElem_cons_zero]at h1 h2 h3;refine ⟨by omega,⟨gz (by omega) _ h3,eT (by omega) _ ih.2.1⟩,fun p hp=>?_⟩;rcases cY.1 hp with rfl | hp
  ·omega
  ·have:=ih.2.2 p hp;omega
theorem Av:∀ (l:List (Str×Tm)) (k_:Nat->List Value) (ds:Nat->DataW H),(∀ j (hj:j<l.length),J3 (W:=W) (k_ j) l[j] (ds j))->nodesTs (l.map (·.2))+2 * l.length<=Rows.uptoBulkAll ((List.range l.length).map ds)/\nmTs (Rows.uptoBulkAll ((List.range l.length).map ds)) (l.map (·.2))=true/\∀ p∈l,p.1.length<=Rows.uptoBulkAll ((List.range l.length).map ds)
 | [],_,_,_=>by simp[nodesTs,nmTs]
 | t :: l,k_,ds,h=>by
  obtain ⟨_,_,_,h1,h2,h3⟩:=h 0 (by simp);have ih:=Av l (fun j=>k_ (j+1)) (fun j=>ds (j+1)) (fun j hj=>h (j+1) (by simpa using hj));rw[fN,mf,cK];simp only[Rows.uptoBulkAll,nodesTs,nmTs,ah];simp only[List.getElem_cons_zero]at h1 h2 h3;refine ⟨by omega,⟨jC (by omega) _ h3,dQ (by omega) _ ih.2.1⟩,fun p hp=>?_⟩;rcases cY.1 hp with rfl | hp
  ·omega
  ·have:=ih.2.2 p hp;omega
theorem Aw {y:DataW H×List MemPlace} (h:DataW.trod enc Tryz.prog W 0 fd held cw 23 [c]=some y) :
  ∃l:List (Str×Fm),FBindsV (fun _=>True) W c l/\nodesFs (l.map (·.2))+2 * l.length+1<=Rows.uptoBulk y.1/\nmFs (Rows.uptoBulk y.1) (l.map (·.2))=true/\∀ p∈l,p.1.length<=Rows.uptoBulk y.1:=by
 obtain ⟨l,a0,cap,k_,ds,rfl,hlc,hcm,_,hb,hs,hcl,hP⟩:=i8 Tryz.underlying23 (K:=5) (by kernel_rfl) (by omega) (J2 (W:=W)) h (fun m _=>BL m);have tX:=Au l k_ ds hP;refine ⟨l,?_,by omega,eT (by omega) _ tX.2.1,fun p hp=>by have:=tX.2.2 p hp;omega⟩;have hC:∀ j,∃a:FQ,∀ h:j<l.length,k_ j=[.string ⟨l[j].1.toArray⟩,.int .u8 a.o,.string a.n,.slice a.a a.l a.c,.slice a.b a.m a.e]/\FormV (fun _=>True) W a.val l[j].2:=fun j=>by
  by_cases h:j<l.length
  ·obtain ⟨a,h1,h2,_⟩:=hP j h;exact ⟨a,fun _=>⟨h1,h2⟩⟩
  ·exact ⟨⟨0,ByteArray.empty,none,0,0,none,0,0⟩,fun h'=>absurd h' h⟩
 have pp200:=();exact pm200
theorem Ax {y:DataW H×List MemPlace} (h:DataW.trod enc Tryz.prog W 0 fd held cw 24 [c]=some y) :
  ∃l:List (Str×Tm),TBindsV (fun _=>True) W c l/\nodesTs (l.map (·.2))+2 * l.length+1<=Rows.uptoBulk y.1/\nmTs (Rows.uptoBulk y.1) (l.map (·.2))=true/\∀ p∈l,p.1.length<=Rows.uptoBulk y.1:=by
 obtain ⟨l,a0,cap,k_,ds,rfl,hlc,hcm,_,hb,hs,hcl,hP⟩:=i8 Tryz.underlying24 (K:=4) (by kernel_rfl) (by omega) (J3 (W:=W)) h (fun m _=>BM m);have tX:=Av l k_ ds hP;refine ⟨l,?_,by omega,dQ (by omega) _ tX.2.1,fun p hp=>by have:=tX.2.2 p hp;omega⟩;have hC:∀ j,∃a:TQ,∀ h:j<l.length,k_ j=[.string ⟨l[j].1.toArray⟩,.bool a.v,.string a.n,.slice a.a a.l a.c]/\TermV (fun _=>True) W a.val l[j].2:=fun j=>by
  by_cases h:j<l.length
  ·obtain ⟨a,h1,h2,_⟩:=hP j h;exact ⟨a,fun _=>⟨h1,h2⟩⟩
  ·exact ⟨⟨false,ByteArray.empty,none,0,0⟩,fun h'=>absurd h' h⟩
 exact pm200
structure BdBy (p:Nat) (b:Bd):Prop where
 nodes:nodesFs (b.fs.map (·.2))+2 * b.fs.length+(nodesTs (b.ts.map (·.2))+2 * b.ts.length)+2<=p
 fs:nmFs p (b.fs.map (·.2))=true
 ts:nmTs p (b.ts.map (·.2))=true
 fn:∀ x∈b.fs,x.1.length<=p
 tn:∀ x∈b.ts,x.1.length<=p
end
theorem MO {H:Type} {enc:TypeId×Value->H} {W:World} {d:DataW H} (hv:Value.okWide Tryz.prog W .any b0 26 v) (h:DataW.Trod enc Tryz.prog W 0 (fun _=>true) true 26 v d p) :
  ∃(q:BQ) (b:Bd),v=q.val/\BindV (fun _=>True) W q b/\BdBy (Rows.uptoBulk d) b:=by
 obtain ⟨cs,rfl,hsz⟩:=okWide_struct Tryz.underlying26 hv;obtain ⟨cw,hf⟩:=h;obtain ⟨xs,n,rfl,hx,cm,uW,hg⟩:=DataW.trod_struct Tryz.underlying26 hf;injection hx with hx _;subst hx;have hcl:cs.toList.length=2:=cm.trans (by kernel_rfl);obtain ⟨x0,x1,rfl⟩:=two (uW.trans (by kernel_rfl));obtain ⟨c0,c1,hc⟩:=two hcl;obtain rfl:cs=#[c0,c1]:=by rw[<-Array.toArray_toList (xs:=cs),hc]
 have h0:DataW.trod enc Tryz.prog W 0 (fun _=>true) true n 23 [c0]=some x0:=hg 0 _ rfl;have h1:DataW.trod enc Tryz.prog W 0 (fun _=>true) true n 24 [c1]=some x1:=hg 1 _ rfl;obtain ⟨fs,Ku,f1,f2,f3⟩:=Aw h0;obtain ⟨ts,fX,t1,t2,t3⟩:=Ax h1;obtain ⟨a,c,rfl⟩:=Ku.slice;obtain ⟨b,e,rfl⟩:=fX.slice;refine ⟨⟨a,_,c,b,_,e⟩,⟨fs,ts⟩,rfl,⟨Ku,fX⟩,?_⟩;have e1:Rows.uptoBulk (DataW.agg ([x0,x1].map (·.1)))=Rows.uptoBulk x0.1+Rows.uptoBulk x1.1+1:=by simp[Rows.uptoBulk,Rows.uptoBulkAll]
 rw[e1];exact ⟨by simp only;omega,eT (by omega) _ f2,dQ (by omega) _ t2,fun x hx=>by have:=f3 x hx;omega,fun x hx=>by have:=t3 x hx;omega⟩
theorem J4 {H:Type} {enc:TypeId×Value->H} {W:World} {d:DataW H} (hv:Value.okWide Tryz.prog W .any b0 22 v) (h:DataW.Trod enc Tryz.prog W 0 (fun _=>true) true 22 v d p) :
  ∃l:List (Fm×Fm),SPairsV (fun _=>True) W v l/\nodesFs (cz l)<=Rows.uptoBulk d/\nmFs (Rows.uptoBulk d) (cz l)=true:=by
 obtain ⟨a0,len,cap,rfl⟩:=okWide_slice Tryz.underlying22 hv;obtain ⟨cw,hf⟩:=h;exact BK hf
end Go.Proofs.YtokemihbkeddoaaGreatDoor
namespace Go.Proofs.YtokemihbkeddoaaGreatDoor
set_option maxRecDepth 100000
set_option maxHeartbeats 64000000
open Go Go.RowKit Go.ChangeShapes Go.WideShapes Go.Deep
def UB (P:Program) (l:List TypeId):Bool:=l.all fun t=>match P.underlying t with
 | some (.pointer e)=>l.contains e
 | some (.slice e)=>l.contains e && decide (0<P.cellsOf e)
 | some (.array n e)=>l.contains e && P.cellsOf t == n * P.cellsOf e
 | some (.struct fs)=>fs.toList.all (fun f=>l.contains f.type) && (P.cellsOf t == (fs.toList.map fun f=>P.cellsOf f.type).sum) &&
   ((List.range fs.toList.length).all fun j=>match fs.toList[j]? with
     | some f=>f.offset == ((fs.toList.take j).map fun f=>P.cellsOf f.type).sum
     | none=>true)
 | some (.map _ e)=>l.contains e
 | _=>true
theorem SS {P:Program} {l:List TypeId} (h:UB P l=true):Kids P (·∈l)/\∀ {t e:TypeId},t∈l->P.underlying t=some (.slice e)->0<P.cellsOf e:=by
 have h1:∀ t∈l,_:=fun t ht=>List.all_eq_true.1 h t ht;refine ⟨⟨?_,?_,?_,?_,?_⟩,?_⟩
 ·intro t e ht hu;have:=h1 t ht;rw[hu]at this;simpa using this
 ·intro t e ht hu;have:=h1 t ht;rw[hu]at this;simp at this;exact this.1
 ·intro t e n ht hu;have:=h1 t ht;rw[hu]at this;simp at this;exact this
 ·intro t fs ht hu;have:=h1 t ht;rw[hu]at this;simp only[ah,List.all_eq_true,f9]at this;obtain ⟨⟨a1,a2⟩,a3⟩:=this;refine ⟨fun f hf=>by simpa using a1 f hf,a2,fun j f hf=>?_⟩;have hj:j<fs.toList.length:=(List.getElem?_eq_some_iff.1 hf).1;have:=a3 j (by simpa using hj);rw[hf]at this;simpa using this
 ·intro t k e ht hu;have:=h1 t ht;rw[hu]at this;simpa using this
 ·intro t e ht hu;have:=h1 t ht;rw[hu]at this;simp at this;exact this.2
section
variable {H:Type} {enc:TypeId×Value->H} {P:Program} {w w':World} {sp':Nat->Bool}
theorem rJ {T:TypeId->Prop} (K:Kids P T) (hsz:∀ {t e:TypeId},T t->P.underlying t=some (.slice e)->0<P.cellsOf e) :
  ∀ {ts:List TypeId} {vs:List Value} {ds:List (DataW H)} {p:List MemPlace},(∀ t∈ts,T t)->DataW.TrodAll enc P w 0 (fun _=>true) true ts vs ds p →
   (∀ q∈p,w.sameAt w' q)->(∀ q∈p,sp' q.block=true)->DataW.TrodAll enc P w' 0 sp' true ts vs ds p
 | [],_,_,_,_,h,_,_=>by
  obtain ⟨rfl,rfl,rfl⟩:=trodAll_nil h;exact trodAll_mk0
 | t :: ts,_,_,_,hT,h,hs,hsp=>by
  obtain ⟨v,vs1,d,ds1,a,b,rfl,rfl,rfl,⟨n,h1⟩,h2⟩:=trodAll_cons h;exact ⟨a,b,⟨n,DataW.trod_stays K hsz (fun h=>by cases h) (hT t (by simp)) h1 (fun q hq=>hs q (by simp[hq])) (fun q hq=>hsp q (by simp[hq]))⟩,
   rJ K hsz (fun t ht=>hT t (by simp[ht])) h2 (fun q hq=>hs q (by simp[hq])) (fun q hq=>hsp q (by simp[hq])),rfl⟩
theorem MP {ts:List TypeId} {vs:List Value} {ds:List (DataW H)} {p:List MemPlace} (l:List TypeId) (hk:UB P l=true) (hl:ts.all (l.contains ·)=true)
  (h:DataW.TrodAll enc P w 0 (fun _=>true) true ts vs ds p) (hb:Below w.heap.size w w'):DataW.TrodAll enc P w' 0 (fun b=>decide (b<w.heap.size)) true ts vs ds p:=by
 obtain ⟨K,hsz⟩:=SS hk;have hlt:=DataW.TrodAll.lt h;exact rJ K hsz (fun t ht=>by simpa using List.all_eq_true.1 hl t ht) h (fun q hq=>hb.same (hlt q hq)) (fun q hq=>by simpa using hlt q hq)
end
theorem ST {H:Type} {l g:List (DataW H)} (h:Rows.uptoSmall H (l ++ g)=true):Rows.uptoBulkAll l<=1048576:=by
 have h:=of_decide_eq_true h;rw[As]at h;omega
end Go.Proofs.YtokemihbkeddoaaGreatDoor
namespace Go.Proofs.YtokemihbkeddoaaGreatDoor
open Go Go.RowKit Lib
set_option maxRecDepth 100000
set_option maxHeartbeats 64000000
theorem Ay:∀ l:List (Str×Fm),nodesFs (jV l)=nodesFs (l.map (·.2))+l.length
 | []=>rfl
 | x :: l=>by
  have:=Ay l;simp only[jV,List.flatMap_cons,ky,pf,nodesFs,nodesF,nodesTs,cK,fN]at this ⊢;omega
theorem Az:∀ l:List (Str×Tm),nodesFs (kI l)=nodesTs (l.map (·.2))+l.length
 | []=>rfl
 | x :: l=>by
  have:=Az l;simp only[kI,nodesFs,nodesF,nodesTs,cK,fN]at this ⊢;omega
theorem Ld {p:Nat}:∀ l:List (Str×Fm),nmFs p (l.map (·.2))=true->(∀ x∈l,x.1.length<=p)->nmFs p (jV l)=true
 | [],_,_=>rfl
 | x :: l,h,hn=>by
  simp only[cK,nmFs,ah]at h;have h1:=Ld l h.2 (fun y hy=>hn y (eV _ hy));have h2:=hn x (fD ..);simp only[jV]at h1 ⊢;simp only[List.flatMap_cons,ky,pf,nmFs,kJ,nmTs,ah,h.1,h1,bx];simp;omega
theorem Le {p:Nat}:∀ l:List (Str×Tm),nmTs p (l.map (·.2))=true->(∀ x∈l,x.1.length<=p)->nmFs p (kI l)=true
 | [],_,_=>rfl
 | x :: l,h,hn=>by
  simp only[cK,nmTs,ah]at h;have h1:=Le l h.2 (fun y hy=>hn y (eV _ hy));have h2:=hn x (fD ..);simp only[kI]at h1 ⊢;simp only[cK,nmFs,kJ,nmTs,ah,h.1,h1,bx];simp;omega
theorem Qx {p:Nat}:∀ a b:List Fm,nmFs p a=true->nmFs p b=true->nmFs p (a ++ b)=true
 | [],_,_,h=>h
 | x :: a,b,h,hb=>by
  simp only[nmFs,ah]at h;simp only[ky,nmFs,ah];exact ⟨h.1,Qx a b h.2 hb⟩
theorem Dq:∀ c d:List Fm,nodesFs (c ++ d)=nodesFs c+nodesFs d
 | [],d=>by simp[nodesFs]
 | y :: c,d=>by have:=Dq c d;simp only[ky,nodesFs,this];omega
theorem Qy {p:Nat} {b:Bd} (h:BdBy p b) (hp:p<=1048576):b.fs.length<=1000000/\b.ts.length<=1000000/\fitFs (jV b.fs ++ kI b.ts):=by
 have hn:=h.nodes;refine ⟨by omega,by omega,?_,?_⟩
 ·rw[Dq,Ay,Az];omega
 ·exact Qx _ _ (Ld _ (eT (by omega) _ h.fs) (fun x hx=>by have:=h.fn x hx;omega)) (Le _ (dQ (by omega) _ h.ts) (fun x hx=>by have:=h.tn x hx;omega))
