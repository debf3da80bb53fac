/-
Terms,formulas,pairs and bindings that came in as arguments,opened;their size by the bulk.
-/
import Derived.Test.YtokemihbkeddoaaGreatDoorRows
import Derived.Test.YtokemihbkeddoaaGreatDoorV09
namespace Go.Proofs.YtokemihbkeddoaaGreatDoor
set_option maxRecDepth 100000
set_option maxHeartbeats 64000000
open Go Go.RowKit Go.ChangeShapes Go.WideShapes Go.Deep
variable{α:Type}{cO b0:Nat}{c v:Value}{cs:List Value}{p:List MemPlace}
theorem Qo(b off j:Nat):(⟨b,off,none⟩:Addr).add j=⟨b,off+j,none⟩:=by unfold Addr.add;split<;>simp_all
theorem DM{H:Type}(l r:List (DataW H)):Rows.uptoBulkAll (l++r)=Rows.uptoBulkAll l+Rows.uptoBulkAll r:=by
 induction l with
 |nil=>simp[Rows.uptoBulkAll]
 |cons x l ih=>simp only[oC,Rows.uptoBulkAll,ih];omega
theorem lD{H:Type}{enc:TypeId×Value->H}{P:Program}{W:World}{held:Bool}{iv:Nat->Bool}{t e:TypeId}{K:Nat}(ht:P.underlying t=some (.slice e))(hK:P.cellsOf e=K)(Yu:0<K)(Pd:List Value->α->DataW H->Prop){y:DataW H×List MemPlace}
  (h:DataW.trod enc P W 0 iv held cO t [c]=some y) (ih:∀m,m<cO->∀cs z,DataW.trod enc P W 0 iv held m e cs=some z->∃a,Pd cs a z.1):
  ∃(l:List α)(a0:Option Addr)(cap:Nat)(oo:Nat->List Value)(ds:Nat->DataW H),c=.slice a0 l.length cap/\l.length<=cap/\cap<=maxLen/\(a0=none->c=.slice none 0 0)/\Rows.uptoBulkAll ((List.range l.length).map ds)+1<=Rows.uptoBulk y.1∧
   (l=[]\/∃b off,a0=some ⟨b,off,none⟩/\∀j,j<l.length->∀k,k<K->W.cell? ⟨b,off+j*K+k,none⟩=(oo j)[k]?)/\(∀j,j<l.length->(oo j).length=K)/\∀j (hj:j<l.length),Pd (oo j) l[j] (ds j):=by
 rcases DataW.trod_slice ht h with⟨hc,hy⟩|⟨a,len,cap,elems,rest,m,rfl,hc,hy,_,hlc,hcm,hel,hi,_,_⟩
 ·simp only[bP,and_true]at hc;subst hc;subst hy;exact⟨[],none,0,fun _=>[],fun _=>.nil,rfl,aC _,aX _,fun _=>rfl,by simp[Rows.uptoBulk,Rows.uptoBulkAll],.inl rfl,fun j hj=>by simp at hj,fun j hj=>by simp at hj⟩
 ·simp only[bP,and_true]at hc;subst hc;subst hy;rw[hK]at hi;have each:∀i,i<len->∃(cs:List Value)(u:α)(d:DataW H),W.cells? 0 (a.add (i*K)) K=some cs/\(elems.map (·.1))[i]?=some d/\Pd cs u d:=by
   intro i OT;have h:=hi i OT;rw[io (by omega)]at h;obtain⟨cs,XA,E5⟩:=Option.bind_eq_some_iff.1 h;obtain⟨u,hu⟩:=ih m (by omega) cs _ E5;exact⟨cs,u,_,XA,by rw[List.getElem?_map,io (by omega)];rfl,hu⟩
  let f:Fin len->α:=fun i=>(each i.1 i.2).choose_spec.choose
  let oo:Nat->List Value:=fun i=>if h:i<len then(each i h).choose else[]
  let ds:Nat->DataW H:=fun i=>if h:i<len then(each i h).choose_spec.choose_spec.choose else .nil
  have hcs:∀i (h:i<len),oo i=(each i h).choose:=fun i h=>by simp[oo,h]
  have IM:∀i (h:i<len),ds i=(each i h).choose_spec.choose_spec.choose:=fun i h=>by simp[ds,h]
  have o8:(List.ofFn f).length=len:=by simp
  have Zp:(List.range len).map ds=elems.map (·.1):=by
   apply List.ext_getElem?;intro i
   by_cases OT:i<len
   ·have:=(each i OT).choose_spec.choose_spec.choose_spec.2.1;rw[this,<-IM i OT];simp[OT]
   ·rw[List.getElem?_eq_none (by simp;omega),List.getElem?_eq_none (by simp;omega)]
  refine⟨List.ofFn f,some a,cap,oo,ds,by rw[o8],by rw[o8];exact hlc,hcm,(fun h=>by cases h),?_,?_,?_,?_⟩
  ·rw[o8,Zp];simp only[Rows.uptoBulk];omega
  ·rw[o8]
   by_cases h0:len=0
   ·left;exact j6 (by rw[o8];exact h0)
   ·right;obtain⟨b,off,zcP⟩:=a;have hcells:∀i (h:i<len) k,k<K->W.cell? ((⟨b,off,zcP⟩:Addr).add (i*K+k))=(oo i)[k]?/\(oo i).length=K:=by
     intro i h k hk;obtain⟨_,hcl,hat⟩:=World.cells?_some (each i h).choose_spec.choose_spec.choose_spec.1;have g:=hat k hk;rw[Go.Deep.add_add]at g;rw[hcs i h];exact⟨g,hcl⟩
    have zcQ:zcP=none:=by
     obtain⟨h1,h2⟩:=hcells 0 (by omega) 0 Yu;rw[io (by omega)]at h1;simpa[Addr.add]using World.cell?_spot h1
    subst zcQ;refine⟨b,off,rfl,fun j hj k hk=>?_⟩;have:=(hcells j hj k hk).1;rw[Qo,<-Nat.add_assoc]at this;exact this
  ·intro j hj;rw[o8]at hj;rw[hcs j hj];exact(World.cells?_some (each j hj).choose_spec.choose_spec.choose_spec.1).2.1
  ·intro j hj;rw[o8]at hj;rw[hcs j hj,IM j hj];have:=(each j hj).choose_spec.choose_spec.choose_spec.2.2;simpa[f]using this
theorem pZ(f:Nat->α)(n:Nat):(List.range (n+1)).map f=f 0::(List.range n).map (fun j=>f (j+1)):=by
 rw[List.range_succ_eq_map,cC,List.map_map];rfl
def Ok{H:Type}(W:World)(cs:List Value)(t:Tm)(d:DataW H):Prop:=TermV (fun _=>True) W (.agg cs.toArray) t/\nodesT t<=Rows.uptoBulk d/\jJ (Rows.uptoBulk d) t=true
def Ol{H:Type}(W:World)(cs:List Value)(t:Fm)(d:DataW H):Prop:=FormV (fun _=>True) W (.agg cs.toArray) t/\nodesF t<=Rows.uptoBulk d/\li (Rows.uptoBulk d) t=true
theorem F'{H:Type}{W:World}:∀(l:List Tm)(oo:Nat->List Value)(ds:Nat->DataW H),(∀j (hj:j<l.length),Ok W (oo j) l[j] (ds j))->nodesTs l<=Rows.uptoBulkAll ((List.range l.length).map ds)/\nmTs (Rows.uptoBulkAll ((List.range l.length).map ds)) l=true
 |[],_,_,_=>by simp[nodesTs,nmTs]
 |t::l,oo,ds,h=>by
  obtain⟨_,h1,h2⟩:=h 0 (by simp);have ih:=F' l (fun j=>oo (j+1)) (fun j=>ds (j+1)) (fun j hj=>h (j+1) (by simpa using hj));rw[eT,pZ];simp only[Rows.uptoBulkAll,nodesTs,nmTs,ae];simp only[List.getElem_cons_zero]at h1 h2;exact⟨by omega,kw (by omega) _ h2,ef (by omega) _ ih.2⟩
theorem F_{H:Type}{W:World}:∀(l:List Fm)(oo:Nat->List Value)(ds:Nat->DataW H),(∀j (hj:j<l.length),Ol W (oo j) l[j] (ds j))->nodesFs l<=Rows.uptoBulkAll ((List.range l.length).map ds)/\nmFs (Rows.uptoBulkAll ((List.range l.length).map ds)) l=true
 |[],_,_,_=>by simp[nodesFs,nmFs]
 |t::l,oo,ds,h=>by
  obtain⟨_,h1,h2⟩:=h 0 (by simp);have ih:=F_ l (fun j=>oo (j+1)) (fun j=>ds (j+1)) (fun j hj=>h (j+1) (by simpa using hj));rw[eT,pZ];simp only[Rows.uptoBulkAll,nodesFs,nmFs,ae];simp only[List.getElem_cons_zero]at h1 h2;exact⟨by omega,jK (by omega) _ h2,jd (by omega) _ ih.2⟩
theorem Uu{l:List α}(h:l.length=3):∃a b c,l=[a,b,c]:=by
 rcases l with _|⟨c0,_|⟨c1,_|⟨c2,_|_⟩⟩⟩<;>simp at h
 exact⟨_,_,_,rfl⟩
theorem zaD{l:List α}(h:l.length=4):∃a b c d,l=[a,b,c,d]:=by
 rcases l with _|⟨c0,_|⟨c1,_|⟨c2,_|⟨c3,_|_⟩⟩⟩⟩<;>simp at h
 exact⟨_,_,_,_,rfl⟩
section
variable{H:Type}{enc:TypeId×Value->H}{W:World}{held:Bool}{iv:Nat->Bool}
theorem tE{y:DataW H×List MemPlace}(h:DataW.trod enc Tryz.prog W 0 iv held cO 33 [c]=some y)(ih:∀m,m<cO->∀cs z,DataW.trod enc Tryz.prog W 0 iv held m 43 cs=some z->∃t,Ok W cs t z.1):
  ∃(l:List Tm),TermsV (fun _=>True) W c l/\nodesTs l+1<=Rows.uptoBulk y.1/\nmTs (Rows.uptoBulk y.1) l=true:=by
 obtain⟨l,a0,cap,oo,ds,rfl,hlc,hcm,_,hb,hs,hcl,hP⟩:=lD Tryz.underlying33 (K:=3) (by kernel_rfl) (by omega) (Ok W) h ih;have Ap:=F' l oo ds hP;refine⟨l,⟨a0,cap,fun j=>.agg (oo j).toArray,rfl,?_,fun j hj=>(hP j hj).1⟩,by omega,ef (by omega) _ Ap.2⟩;have qnZ:=();exact qcu
theorem EP{y:DataW H×List MemPlace}(h:DataW.trod enc Tryz.prog W 0 iv held cO 34 [c]=some y)(ih:∀m,m<cO->∀cs z,DataW.trod enc Tryz.prog W 0 iv held m 36 cs=some z->∃t,Ol W cs t z.1):
  ∃(l:List Fm),FormsV (fun _=>True) W c l/\nodesFs l+1<=Rows.uptoBulk y.1/\nmFs (Rows.uptoBulk y.1) l=true:=by
 obtain⟨l,a0,cap,oo,ds,rfl,hlc,hcm,_,hb,hs,hcl,hP⟩:=lD Tryz.underlying34 (K:=4) (by kernel_rfl) (by omega) (Ol W) h ih;have Ap:=F_ l oo ds hP;refine⟨l,⟨a0,cap,fun j=>.agg (oo j).toArray,rfl,?_,fun j hj=>(hP j hj).1⟩,by omega,jd (by omega) _ Ap.2⟩;have qn0:=();exact qcu
theorem n9{n:Nat}{y:DataW H×List MemPlace}(h:DataW.trod enc Tryz.prog W 0 iv held n 9 [v]=some y):∃s:Str,v=.string ⟨s.toArray⟩/\s.length+1<=Rows.uptoBulk y.1/\s.length<=maxLen:=by
 obtain⟨s,hs,rfl,hw⟩:=DataW.trod_string Tryz.underlying9 h;simp only[bP,and_true]at hs;exact⟨s.data.toList,by rw[hs],by simp[Rows.uptoBulk],by simpa using hw⟩
theorem xd:∀(cO:Nat)(cs:List Value)(y:DataW H×List MemPlace),DataW.trod enc Tryz.prog W 0 iv held cO 43 cs=some y->∃t,Ok W cs t y.1:=by
 intro cO
 induction cO using Nat.strongRecOn with
 |_ cO ih=>
  intro cs y h;obtain⟨xs,n,rfl,rfl,bW,z_,hf⟩:=DataW.trod_struct Tryz.underlying43 h;obtain⟨c0,c1,c2,rfl⟩:=Uu (bW.trans (by kernel_rfl));obtain⟨x0,x1,x2,rfl⟩:=Uu (z_.trans (by kernel_rfl));have h0:DataW.trod enc Tryz.prog W 0 iv held n 4 [c0]=some x0:=hf 0 _ rfl;have qn1:=();exact qfu
theorem xf:∀(cO:Nat)(cs:List Value)(y:DataW H×List MemPlace),DataW.trod enc Tryz.prog W 0 iv held cO 36 cs=some y->∃t,Ol W cs t y.1:=by
 intro cO
 induction cO using Nat.strongRecOn with
 |_ cO ih=>
  intro cs y h;obtain⟨xs,n,rfl,rfl,bW,z_,hf⟩:=DataW.trod_struct Tryz.underlying36 h;obtain⟨c0,c1,c2,c3,rfl⟩:=zaD (bW.trans (by kernel_rfl));obtain⟨x0,x1,x2,x3,rfl⟩:=zaD (z_.trans (by kernel_rfl));have h0:DataW.trod enc Tryz.prog W 0 iv held n 5 [c0]=some x0:=hf 0 _ rfl;exact qfu
theorem MU{f:Fm}(h:FormV (fun _=>True) W (.agg cs.toArray) f):∃q:FQ,cs=[.int .u8 q.o,.string q.n,.slice q.a q.l q.c,.slice q.b q.m q.e]/\FormV (fun _=>True) W q.val f:=by
 obtain⟨q,hq,_⟩:=h.form;rw[hq]at h;refine⟨q,?_,h⟩;unfold FQ.val at hq;exact qfv
theorem MV{f:Tm}(h:TermV (fun _=>True) W (.agg cs.toArray) f):∃q:TQ,cs=[.bool q.v,.string q.n,.slice q.a q.l q.c]/\TermV (fun _=>True) W q.val f:=by
 obtain⟨q,hq,_⟩:=h.form;rw[hq]at h;refine⟨q,?_,h⟩;unfold TQ.val at hq;exact qfv
theorem two{l:List α}(h:l.length=2):∃a b,l=[a,b]:=by
 rcases l with _|⟨c0,_|⟨c1,_|_⟩⟩<;>simp at h
 exact⟨_,_,rfl⟩
def MW(cs:List Value)(p:Str×Fm)(d:DataW H):Prop:=∃a:FQ,cs=[.string ⟨p.1.toArray⟩,.int .u8 a.o,.string a.n,.slice a.a a.l a.c,.slice a.b a.m a.e]/\FormV (fun _=>True) W a.val p.2/\nodesF p.2+2<=Rows.uptoBulk d/\p.1.length<=Rows.uptoBulk d/\li (Rows.uptoBulk d) p.2=true
def MX(cs:List Value)(p:Str×Tm)(d:DataW H):Prop:=∃a:TQ,cs=[.string ⟨p.1.toArray⟩,.bool a.v,.string a.n,.slice a.a a.l a.c]/\TermV (fun _=>True) W a.val p.2/\nodesT p.2+2<=Rows.uptoBulk d/\p.1.length<=Rows.uptoBulk d/\jJ (Rows.uptoBulk d) p.2=true
theorem ER(cO:Nat)(cs:List Value)(y:DataW H×List MemPlace)(h:DataW.trod enc Tryz.prog W 0 iv held cO 40 cs=some y):∃p,MW (W:=W) cs p y.1:=by
 obtain⟨xs,n,rfl,rfl,bW,z_,hf⟩:=DataW.trod_struct Tryz.underlying40 h;have hcl:cs.length=5:=bW.trans (by kernel_rfl);have qn2:=();exact qfw
theorem ES(cO:Nat)(cs:List Value)(y:DataW H×List MemPlace)(h:DataW.trod enc Tryz.prog W 0 iv held cO 47 cs=some y):∃p,MX (W:=W) cs p y.1:=by
 obtain⟨xs,n,rfl,rfl,bW,z_,hf⟩:=DataW.trod_struct Tryz.underlying47 h;have hcl:cs.length=4:=bW.trans (by kernel_rfl);exact qfw
theorem DN:∀(l:List (Str×Fm))(oo:Nat->List Value)(ds:Nat->DataW H),(∀j (hj:j<l.length),MW (W:=W) (oo j) l[j] (ds j))->nodesFs (l.map (·.2))+2*l.length<=Rows.uptoBulkAll ((List.range l.length).map ds)/\nmFs (Rows.uptoBulkAll ((List.range l.length).map ds)) (l.map (·.2))=true/\∀p∈l,p.1.length<=Rows.uptoBulkAll ((List.range l.length).map ds)
 |[],_,_,_=>by simp[nodesFs,nmFs]
 |t::l,oo,ds,h=>by
  obtain⟨_,_,_,h1,h2,h3⟩:=h 0 (by simp);have ih:=DN l (fun j=>oo (j+1)) (fun j=>ds (j+1)) (fun j hj=>h (j+1) (by simpa using hj));rw[eT,pZ,cC];simp only[Rows.uptoBulkAll,nodesFs,nmFs,ae];simp only[List.getElem_cons_zero]at h1 h2 h3;refine⟨by omega,⟨jK (by omega) _ h3,jd (by omega) _ ih.2.1⟩,fun p hp=>?_⟩;exact qfx
theorem DO:∀(l:List (Str×Tm))(oo:Nat->List Value)(ds:Nat->DataW H),(∀j (hj:j<l.length),MX (W:=W) (oo j) l[j] (ds j))->nodesTs (l.map (·.2))+2*l.length<=Rows.uptoBulkAll ((List.range l.length).map ds)/\nmTs (Rows.uptoBulkAll ((List.range l.length).map ds)) (l.map (·.2))=true/\∀p∈l,p.1.length<=Rows.uptoBulkAll ((List.range l.length).map ds)
 |[],_,_,_=>by simp[nodesTs,nmTs]
 |t::l,oo,ds,h=>by
  obtain⟨_,_,_,h1,h2,h3⟩:=h 0 (by simp);have ih:=DO l (fun j=>oo (j+1)) (fun j=>ds (j+1)) (fun j hj=>h (j+1) (by simpa using hj));rw[eT,pZ,cC];simp only[Rows.uptoBulkAll,nodesTs,nmTs,ae];simp only[List.getElem_cons_zero]at h1 h2 h3;refine⟨by omega,⟨kw (by omega) _ h3,ef (by omega) _ ih.2.1⟩,fun p hp=>?_⟩;exact qfx
theorem DP{y:DataW H×List MemPlace}(h:DataW.trod enc Tryz.prog W 0 iv held cO 23 [c]=some y):
  ∃l:List (Str×Fm),FBindsV (fun _=>True) W c l/\nodesFs (l.map (·.2))+2*l.length+1<=Rows.uptoBulk y.1/\nmFs (Rows.uptoBulk y.1) (l.map (·.2))=true/\∀p∈l,p.1.length<=Rows.uptoBulk y.1:=by
 obtain⟨l,a0,cap,oo,ds,rfl,hlc,hcm,_,hb,hs,hcl,hP⟩:=lD Tryz.underlying23 (K:=5) (by kernel_rfl) (by omega) (MW (W:=W)) h (fun m _=>ER m);have Ap:=DN l oo ds hP;refine⟨l,?_,by omega,jd (by omega) _ Ap.2.1,fun p hp=>by have:=Ap.2.2 p hp;omega⟩;have hC:∀j,∃a:FQ,∀h:j<l.length,oo j=[.string ⟨l[j].1.toArray⟩,.int .u8 a.o,.string a.n,.slice a.a a.l a.c,.slice a.b a.m a.e]/\FormV (fun _=>True) W a.val l[j].2:=fun j=>by
  have qn3:=();exact qfy
 have qn4:=();exact qfz
theorem DQ{y:DataW H×List MemPlace}(h:DataW.trod enc Tryz.prog W 0 iv held cO 24 [c]=some y):
  ∃l:List (Str×Tm),TBindsV (fun _=>True) W c l/\nodesTs (l.map (·.2))+2*l.length+1<=Rows.uptoBulk y.1/\nmTs (Rows.uptoBulk y.1) (l.map (·.2))=true/\∀p∈l,p.1.length<=Rows.uptoBulk y.1:=by
 obtain⟨l,a0,cap,oo,ds,rfl,hlc,hcm,_,hb,hs,hcl,hP⟩:=lD Tryz.underlying24 (K:=4) (by kernel_rfl) (by omega) (MX (W:=W)) h (fun m _=>ES m);have Ap:=DO l oo ds hP;refine⟨l,?_,by omega,ef (by omega) _ Ap.2.1,fun p hp=>by have:=Ap.2.2 p hp;omega⟩;have hC:∀j,∃a:TQ,∀h:j<l.length,oo j=[.string ⟨l[j].1.toArray⟩,.bool a.v,.string a.n,.slice a.a a.l a.c]/\TermV (fun _=>True) W a.val l[j].2:=fun j=>by
  exact qfy
 exact qfz
structure BdBy(p:Nat)(b:Bd):Prop where
 nodes:nodesFs (b.fs.map (·.2))+2*b.fs.length+(nodesTs (b.ts.map (·.2))+2*b.ts.length)+2<=p
 fs:nmFs p (b.fs.map (·.2))=true
 ts:nmTs p (b.ts.map (·.2))=true
 fn:∀x∈b.fs,x.1.length<=p
 tn:∀x∈b.ts,x.1.length<=p
end
theorem Qp{H:Type}{enc:TypeId×Value->H}{W:World}{d:DataW H}(hv:Value.okWide Tryz.prog W .any b0 26 v)(h:DataW.Trod enc Tryz.prog W 0 (fun _=>true) true 26 v d p):
  ∃(q:BQ)(b:Bd),v=q.val/\BindV (fun _=>True) W q b/\BdBy (Rows.uptoBulk d) b:=by
 obtain⟨cs,rfl,hsz⟩:=okWide_struct Tryz.underlying26 hv;obtain⟨cO,hf⟩:=h;obtain⟨xs,n,rfl,hx,bW,z_,hg⟩:=DataW.trod_struct Tryz.underlying26 hf;injection hx with hx _;subst hx;have hcl:cs.toList.length=2:=bW.trans (by kernel_rfl);obtain⟨x0,x1,rfl⟩:=two (z_.trans (by kernel_rfl));obtain⟨c0,c1,hc⟩:=two hcl;obtain rfl:cs=#[c0,c1]:=by rw[<-Array.toArray_toList (xs:=cs),hc]
 have h0:DataW.trod enc Tryz.prog W 0 (fun _=>true) true n 23 [c0]=some x0:=hg 0 _ rfl;have h1:DataW.trod enc Tryz.prog W 0 (fun _=>true) true n 24 [c1]=some x1:=hg 1 _ rfl;obtain⟨fs,hfs,f1,f2,f3⟩:=DP h0;obtain⟨ts,eW,t1,t2,t3⟩:=DQ h1;obtain⟨a,c,rfl⟩:=hfs.slice;obtain⟨b,e,rfl⟩:=eW.slice;refine⟨⟨a,_,c,b,_,e⟩,⟨fs,ts⟩,rfl,⟨hfs,eW⟩,?_⟩;have e1:Rows.uptoBulk (DataW.agg ([x0,x1].map (·.1)))=Rows.uptoBulk x0.1+Rows.uptoBulk x1.1+1:=by simp[Rows.uptoBulk,Rows.uptoBulkAll]
 rw[e1];exact⟨by simp only;omega,jd (by omega) _ f2,ef (by omega) _ t2,fun x hx=>by have:=f3 x hx;omega,fun x hx=>by have:=t3 x hx;omega⟩
theorem Qq{H:Type}{enc:TypeId×Value->H}{W:World}{d:DataW H}(hv:Value.okWide Tryz.prog W .any b0 36 v)(h:DataW.Trod enc Tryz.prog W 0 (fun _=>true) true 36 v d p):
  ∃(q:FQ)(f:Fm),v=q.val/\FormV (fun _=>True) W q.val f/\nodesF f<=Rows.uptoBulk d/\li (Rows.uptoBulk d) f=true:=by
 obtain⟨cs,rfl,hsz⟩:=okWide_struct Tryz.underlying36 hv;obtain⟨cO,hf⟩:=h;obtain⟨f,h1,h2,h3⟩:=xf cO _ _ hf;have h1:FormV (fun _=>True) W (.agg cs) f:=by simpa[Value.cells]using h1
 obtain⟨q,hq,_⟩:=h1.form;exact⟨q,f,hq,hq▸h1,h2,h3⟩
end Go.Proofs.YtokemihbkeddoaaGreatDoor
namespace Go.Proofs.YtokemihbkeddoaaGreatDoor
set_option maxRecDepth 100000
set_option maxHeartbeats 64000000
open Go Go.RowKit Go.ChangeShapes Go.WideShapes Go.Deep
def Zb(P:Program)(l:List TypeId):Bool:=l.all fun t=>match P.underlying t with
 |some (.pointer e)=>l.contains e
 |some (.slice e)=>l.contains e&&decide (0<P.cellsOf e)
 |some (.array n e)=>l.contains e&&P.cellsOf t==n*P.cellsOf e
 |some (.struct fs)=>fs.toList.all (fun f=>l.contains f.type)&&(P.cellsOf t==(fs.toList.map fun f=>P.cellsOf f.type).sum)&&
   ((List.range fs.toList.length).all fun j=>match fs.toList[j]? with
     |some f=>f.offset==((fs.toList.take j).map fun f=>P.cellsOf f.type).sum
     |none=>true)
 |some (.map _ e)=>l.contains e
 |_=>true
theorem Xq{P:Program}{l:List TypeId}(h:Zb P l=true):Kids P (·∈l)/\∀{t e:TypeId},t∈l->P.underlying t=some (.slice e)->0<P.cellsOf e:=by
 have h1:∀t∈l,_:=fun t ht=>List.all_eq_true.1 h t ht;refine⟨⟨?_,?_,?_,?_,?_⟩,?_⟩
 ·intro t e ht hu;have:=h1 t ht;rw[hu]at this;simpa using this
 ·intro t e ht hu;have:=h1 t ht;rw[hu]at this;simp at this;exact this.1
 ·intro t e n ht hu;have:=h1 t ht;rw[hu]at this;simp at this;exact this
 ·intro t fs ht hu;have:=h1 t ht;rw[hu]at this;simp only[ae,List.all_eq_true,ej]at this;obtain⟨⟨a1,a2⟩,a3⟩:=this;refine⟨fun f hf=>by simpa using a1 f hf,a2,fun j f hf=>?_⟩;have hj:j<fs.toList.length:=(List.getElem?_eq_some_iff.1 hf).1;have:=a3 j (by simpa using hj);rw[hf]at this;simpa using this
 ·intro t k e ht hu;have:=h1 t ht;rw[hu]at this;simpa using this
 ·intro t e ht hu;have:=h1 t ht;rw[hu]at this;simp at this;exact this.2
section
variable{H:Type}{enc:TypeId×Value->H}{P:Program}{w w':World}{sp':Nat->Bool}
theorem tF{T:TypeId->Prop}(K:Kids P T)(hsz:∀{t e:TypeId},T t->P.underlying t=some (.slice e)->0<P.cellsOf e):
  ∀{ts:List TypeId}{vs:List Value}{ds:List (DataW H)}{p:List MemPlace},(∀t∈ts,T t)->DataW.TrodAll enc P w 0 (fun _=>true) true ts vs ds p→
   (∀q∈p,w.sameAt w' q)->(∀q∈p,sp' q.block=true)->DataW.TrodAll enc P w' 0 sp' true ts vs ds p
 |[],_,_,_,_,h,_,_=>by
  obtain⟨rfl,rfl,rfl⟩:=trodAll_nil h;exact trodAll_mk0
 |t::ts,_,_,_,hT,h,hs,hsp=>by
  obtain⟨v,vs1,d,ds1,a,b,rfl,rfl,rfl,⟨n,h1⟩,h2⟩:=trodAll_cons h;exact⟨a,b,⟨n,DataW.trod_stays K hsz (fun h=>by cases h) (hT t (by simp)) h1 (fun q hq=>hs q (by simp[hq])) (fun q hq=>hsp q (by simp[hq]))⟩,
   tF K hsz (fun t ht=>hT t (by simp[ht])) h2 (fun q hq=>hs q (by simp[hq])) (fun q hq=>hsp q (by simp[hq])),rfl⟩
theorem Qr{ts:List TypeId}{vs:List Value}{ds:List (DataW H)}{p:List MemPlace}(l:List TypeId)(hk:Zb P l=true)(hl:ts.all (l.contains ·)=true)
  (h:DataW.TrodAll enc P w 0 (fun _=>true) true ts vs ds p) (hb:Below w.heap.size w w'):DataW.TrodAll enc P w' 0 (fun b=>decide (b<w.heap.size)) true ts vs ds p:=by
 obtain⟨K,hsz⟩:=Xq hk;have hlt:=DataW.TrodAll.lt h;exact tF K hsz (fun t ht=>by simpa using List.all_eq_true.1 hl t ht) h (fun q hq=>hb.same (hlt q hq)) (fun q hq=>by simpa using hlt q hq)
end
theorem Xr{H:Type}{l g:List (DataW H)}(h:Rows.uptoSmall H (l++g)=true):Rows.uptoBulkAll l<=1048576:=by
 have h:=of_decide_eq_true h;rw[DM]at h;omega
end Go.Proofs.YtokemihbkeddoaaGreatDoor
namespace Go.Proofs.YtokemihbkeddoaaGreatDoor
open Go Go.RowKit Lib
set_option maxRecDepth 100000
set_option maxHeartbeats 64000000
theorem DR:∀l:List (Str×Fm),nodesFs (kT l)=nodesFs (l.map (·.2))+l.length
 |[]=>rfl
 |x::l=>by
  have:=DR l;simp only[kT,List.flatMap_cons,oC,sS,nodesFs,nodesF,nodesTs,cC,eT]at this⊢;omega
theorem DS:∀l:List (Str×Tm),nodesFs (lS l)=nodesTs (l.map (·.2))+l.length
 |[]=>rfl
 |x::l=>by
  have:=DS l;simp only[lS,nodesFs,nodesF,nodesTs,cC,eT]at this⊢;omega
theorem Om{p:Nat}:∀l:List (Str×Fm),nmFs p (l.map (·.2))=true->(∀x∈l,x.1.length<=p)->nmFs p (kT l)=true
 |[],_,_=>rfl
 |x::l,h,hn=>by
  simp only[cC,nmFs,ae]at h;have h1:=Om l h.2 (fun y hy=>hn y (fL _ hy));have h2:=hn x (gp ..);simp only[kT]at h1⊢;simp only[List.flatMap_cons,oC,sS,nmFs,li,nmTs,ae,h.1,h1,br];simp;omega
theorem On{p:Nat}:∀l:List (Str×Tm),nmTs p (l.map (·.2))=true->(∀x∈l,x.1.length<=p)->nmFs p (lS l)=true
 |[],_,_=>rfl
 |x::l,h,hn=>by
  simp only[cC,nmTs,ae]at h;have h1:=On l h.2 (fun y hy=>hn y (fL _ hy));have h2:=hn x (gp ..);simp only[lS]at h1⊢;simp only[cC,nmFs,li,nmTs,ae,h.1,h1,br];simp;omega
theorem Uv{p:Nat}:∀a b:List Fm,nmFs p a=true->nmFs p b=true->nmFs p (a++b)=true
 |[],_,_,h=>h
 |x::a,b,h,hb=>by
  simp only[nmFs,ae]at h;simp only[oC,nmFs,ae];exact⟨h.1,Uv a b h.2 hb⟩
theorem Ga:∀c d:List Fm,nodesFs (c++d)=nodesFs c+nodesFs d
 |[],d=>by simp[nodesFs]
 |y::c,d=>by have:=Ga c d;simp only[oC,nodesFs,this];omega
theorem Uw{p:Nat}{b:Bd}(h:BdBy p b)(hp:p<=1048576):b.fs.length<=1000000/\b.ts.length<=1000000/\fitFs (kT b.fs++lS b.ts):=by
 have hn:=h.nodes;refine⟨by omega,by omega,?_,?_⟩
 ·rw[Ga,DR,DS];omega
 ·exact Uv _ _ (Om _ (jd (by omega) _ h.fs) (fun x hx=>by have:=h.fn x hx;omega)) (On _ (ef (by omega) _ h.ts) (fun x hx=>by have:=h.tn x hx;omega))
