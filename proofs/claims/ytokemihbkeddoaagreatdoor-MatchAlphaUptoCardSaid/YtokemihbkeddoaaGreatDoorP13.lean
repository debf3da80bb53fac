/-L-/
import Derived.Test.YtokemihbkeddoaaGreatDoorRows
import Derived.Test.YtokemihbkeddoaaGreatDoorP09
open Go.Proofs.Tryz
namespace Go.Proofs.YtokemihbkeddoaaGreatDoor
set_option maxRecDepth 100000
set_option maxHeartbeats 0
open Go Go.RowKit Go.ChangeShapes Go.WideShapes Go.Deep
variable{α:Type}{dl b0:Nat}{c v:Value}{cs:List Value}{p:List MemPlace}
theorem Su(b off j:Nat):(⟨b,off,none⟩:Addr).add j=⟨b,off+j,none⟩:=by unfold Addr.add;split<;>simp_all
theorem Fv{H:Type}(l r:List (DataW H)):Rows.uptoBulkAll (l++r)=Rows.uptoBulkAll l+Rows.uptoBulkAll r:=by
 induction l with
 |nil=>simp[Rows.uptoBulkAll]
 |cons x l ih=>simp only[lL,Rows.uptoBulkAll,ih];omega
theorem kY{H:Type}{enc:TypeId×Value->H}{P:Program}{W:World}{held:Bool}{iy:Nat->Bool}{t e:TypeId}{K:Nat}(ht:P.underlying t=some (.slice e))(hK:P.cellsOf e=K)(_y:0<K)(Pd:List Value->α->DataW H->Prop){y:DataW H×List MemPlace}
  (h:DataW.trod enc P W 0 iy held dl t [c]=some y) (ih:∀m,m<dl->∀cs z,DataW.trod enc P W 0 iy held m e cs=some z->∃a,Pd cs a z.1):
  ∃(l:List α)(a0:Option Addr)(cap:Nat)(nY:Nat->List Value)(ds:Nat->DataW H),c=.slice a0 l.length cap/\l.length<=cap/\cap<=maxLen/\(a0=none->c=.slice none 0 0)/\Rows.uptoBulkAll ((List.range l.length).map ds)+1<=Rows.uptoBulk y.1∧
   (l=[]\/∃b off,a0=some ⟨b,off,none⟩/\∀j,j<l.length->∀k,k<K->W.cell? ⟨b,off+j*K+k,none⟩=(nY j)[k]?)/\(∀j,j<l.length->(nY j).length=K)/\∀j (hj:j<l.length),Pd (nY j) l[j] (ds j):=by
 rcases DataW.trod_slice ht h with⟨hc,hy⟩|⟨a,len,cap,elems,rest,m,rfl,hc,hy,_,hlc,hcm,hel,hi,_,_⟩
 ·simp only[cF,and_true]at hc;subst hc;subst hy;exact⟨[],none,0,fun _=>[],fun _=>.nil,rfl,aK _,bn _,fun _=>rfl,by simp[Rows.uptoBulk,Rows.uptoBulkAll],.inl rfl,fun j hj=>by simp at hj,fun j hj=>by simp at hj⟩
 ·simp only[cF,and_true]at hc;subst hc;subst hy;rw[hK]at hi;have each:∀i,i<len->∃(cs:List Value)(u:α)(d:DataW H),W.cells? 0 (a.add (i*K)) K=some cs/\(elems.map (·.1))[i]?=some d/\Pd cs u d:=by
   intro i Rd;have h:=hi i Rd;rw[jn (by omega)]at h;obtain⟨cs,ZM,GN⟩:=Option.bind_eq_some_iff.1 h;obtain⟨u,hu⟩:=ih m (by omega) cs _ GN;exact⟨cs,u,_,ZM,by rw[List.getElem?_map,jn (by omega)];rfl,hu⟩
  let f:Fin len->α:=fun i=>(each i.1 i.2).choose_spec.choose
  let nY:Nat->List Value:=fun i=>if h:i<len then(each i h).choose else[]
  let ds:Nat->DataW H:=fun i=>if h:i<len then(each i h).choose_spec.choose_spec.choose else .nil
  have hcs:∀i (h:i<len),nY i=(each i h).choose:=fun i h=>by simp[nY,h]
  have KE:∀i (h:i<len),ds i=(each i h).choose_spec.choose_spec.choose:=fun i h=>by simp[ds,h]
  have qq:(List.ofFn f).length=len:=by simp
  have Ν:(List.range len).map ds=elems.map (·.1):=by
   apply List.ext_getElem?;intro i
   by_cases Rd:i<len
   ·have:=(each i Rd).choose_spec.choose_spec.choose_spec.2.1;rw[this,<-KE i Rd];simp[Rd]
   ·rw[List.getElem?_eq_none (by simp;omega),List.getElem?_eq_none (by simp;omega)]
  refine⟨List.ofFn f,some a,cap,nY,ds,by rw[qq],by rw[qq];exact hlc,hcm,(fun h=>by cases h),?_,?_,?_,?_⟩
  ·rw[qq,Ν];simp only[Rows.uptoBulk];omega
  ·rw[qq]
   by_cases h0:len=0
   ·left;exact ku (by rw[qq];exact h0)
   ·right;obtain⟨b,off,zew⟩:=a;have hcells:∀i (h:i<len) k,k<K->W.cell? ((⟨b,off,zew⟩:Addr).add (i*K+k))=(nY i)[k]?/\(nY i).length=K:=by
     intro i h k hk;obtain⟨_,hcl,hat⟩:=World.cells?_some (each i h).choose_spec.choose_spec.choose_spec.1;have g:=hat k hk;rw[Go.Deep.add_add]at g;rw[hcs i h];exact⟨g,hcl⟩
    have zex:zew=none:=by
     obtain⟨h1,h2⟩:=hcells 0 (by omega) 0 _y;rw[jn (by omega)]at h1;simpa[Addr.add]using World.cell?_spot h1
    subst zex;refine⟨b,off,rfl,fun j hj k hk=>?_⟩;have:=(hcells j hj k hk).1;rw[Su,<-Nat.add_assoc]at this;exact this
  ·intro j hj;rw[qq]at hj;rw[hcs j hj];exact(World.cells?_some (each j hj).choose_spec.choose_spec.choose_spec.1).2.1
  ·intro j hj;rw[qq]at hj;rw[hcs j hj,KE j hj];have:=(each j hj).choose_spec.choose_spec.choose_spec.2.2;simpa[f]using this
theorem pz(f:Nat->α)(n:Nat):(List.range (n+1)).map f=f 0::(List.range n).map (fun j=>f (j+1)):=by
 rw[List.range_succ_eq_map,cM,List.map_map];rfl
def QG{H:Type}(W:World)(cs:List Value)(t:Tm)(d:DataW H):Prop:=aN (fun _=>True) W (.agg cs.toArray) t/\ap t<=Rows.uptoBulk d/\kI (Rows.uptoBulk d) t=true
def QH{H:Type}(W:World)(cs:List Value)(t:Fm)(d:DataW H):Prop:=aC (fun _=>True) W (.agg cs.toArray) t/\ag t<=Rows.uptoBulk d/\mI (Rows.uptoBulk d) t=true
theorem Is{H:Type}{W:World}:∀(l:List Tm)(nY:Nat->List Value)(ds:Nat->DataW H),(∀j (hj:j<l.length),QG W (nY j) l[j] (ds j))->af l<=Rows.uptoBulkAll ((List.range l.length).map ds)/\d8 (Rows.uptoBulkAll ((List.range l.length).map ds)) l=true
 |[],_,_,_=>by simp[af,d8]
 |t::l,nY,ds,h=>by
  obtain⟨_,h1,h2⟩:=h 0 (by simp);have ih:=Is l (fun j=>nY (j+1)) (fun j=>ds (j+1)) (fun j hj=>h (j+1) (by simpa using hj));rw[fB,pz];simp only[Rows.uptoBulkAll,af,d8,ak];simp only[List.getElem_cons_zero]at h1 h2;exact⟨by omega,lO (by omega) _ h2,eV (by omega) _ ih.2⟩
theorem It{H:Type}{W:World}:∀(l:List Fm)(nY:Nat->List Value)(ds:Nat->DataW H),(∀j (hj:j<l.length),QH W (nY j) l[j] (ds j))->ah l<=Rows.uptoBulkAll ((List.range l.length).map ds)/\eu (Rows.uptoBulkAll ((List.range l.length).map ds)) l=true
 |[],_,_,_=>by simp[ah,eu]
 |t::l,nY,ds,h=>by
  obtain⟨_,h1,h2⟩:=h 0 (by simp);have ih:=It l (fun j=>nY (j+1)) (fun j=>ds (j+1)) (fun j hj=>h (j+1) (by simpa using hj));rw[fB,pz];simp only[Rows.uptoBulkAll,ah,eu,ak];simp only[List.getElem_cons_zero]at h1 h2;exact⟨by omega,iR (by omega) _ h2,ic (by omega) _ ih.2⟩
theorem WC{l:List α}(h:l.length=3):∃a b c,l=[a,b,c]:=by
 rcases l with _|⟨c0,_|⟨c1,_|⟨c2,_|_⟩⟩⟩<;>simp at h
 exact⟨_,_,_,rfl⟩
theorem zca{l:List α}(h:l.length=4):∃a b c d,l=[a,b,c,d]:=by
 rcases l with _|⟨c0,_|⟨c1,_|⟨c2,_|⟨c3,_|_⟩⟩⟩⟩<;>simp at h
 exact⟨_,_,_,_,rfl⟩
section
variable{H:Type}{enc:TypeId×Value->H}{W:World}{held:Bool}{iy:Nat->Bool}
theorem vX{y:DataW H×List MemPlace}(h:DataW.trod enc prog W 0 iy held dl 33 [c]=some y)(ih:∀m,m<dl->∀cs z,DataW.trod enc prog W 0 iy held m 43 cs=some z->∃t,QG W cs t z.1):
  ∃(l:List Tm),cB (fun _=>True) W c l/\af l+1<=Rows.uptoBulk y.1/\d8 (Rows.uptoBulk y.1) l=true:=by
 obtain⟨l,a0,cap,nY,ds,rfl,hlc,hcm,_,hb,hs,hcl,hP⟩:=kY underlying33 (K:=3) (by kernel_rfl) (by omega) (QG W) h ih;have zm:=Is l nY ds hP;refine⟨l,⟨a0,cap,fun j=>.agg (nY j).toArray,rfl,?_,fun j hj=>(hP j hj).1⟩,by omega,eV (by omega) _ zm.2⟩;have it:=();exact qbu
theorem Gu{y:DataW H×List MemPlace}(h:DataW.trod enc prog W 0 iy held dl 34 [c]=some y)(ih:∀m,m<dl->∀cs z,DataW.trod enc prog W 0 iy held m 36 cs=some z->∃t,QH W cs t z.1):
  ∃(l:List Fm),eL (fun _=>True) W c l/\ah l+1<=Rows.uptoBulk y.1/\eu (Rows.uptoBulk y.1) l=true:=by
 obtain⟨l,a0,cap,nY,ds,rfl,hlc,hcm,_,hb,hs,hcl,hP⟩:=kY underlying34 (K:=4) (by kernel_rfl) (by omega) (QH W) h ih;have zm:=It l nY ds hP;refine⟨l,⟨a0,cap,fun j=>.agg (nY j).toArray,rfl,?_,fun j hj=>(hP j hj).1⟩,by omega,ic (by omega) _ zm.2⟩;have up:=();exact qbu
theorem pU{n:Nat}{y:DataW H×List MemPlace}(h:DataW.trod enc prog W 0 iy held n 9 [v]=some y):∃s:aj,v=.string ⟨s.toArray⟩/\s.length+1<=Rows.uptoBulk y.1/\s.length<=maxLen:=by
 obtain⟨s,hs,rfl,hw⟩:=DataW.trod_string underlying9 h;simp only[cF,and_true]at hs;exact⟨s.data.toList,by rw[hs],by simp[Rows.uptoBulk],by simpa using hw⟩
theorem zD:∀(dl:Nat)(cs:List Value)(y:DataW H×List MemPlace),DataW.trod enc prog W 0 iy held dl 43 cs=some y->∃t,QG W cs t y.1:=by
 intro dl
 induction dl using Nat.strongRecOn with
 |_ dl ih=>
  intro cs y h;obtain⟨xs,n,rfl,rfl,hlen,z8,hf⟩:=DataW.trod_struct underlying43 h;obtain⟨c0,c1,c2,rfl⟩:=WC (hlen.trans (by kernel_rfl));obtain⟨x0,x1,x2,rfl⟩:=WC (z8.trans (by kernel_rfl));have h0:DataW.trod enc prog W 0 iy held n 4 [c0]=some x0:=hf 0 _ rfl;have an:=();exact qfF
theorem su:∀(dl:Nat)(cs:List Value)(y:DataW H×List MemPlace),DataW.trod enc prog W 0 iy held dl 36 cs=some y->∃t,QH W cs t y.1:=by
 intro dl
 induction dl using Nat.strongRecOn with
 |_ dl ih=>
  intro cs y h;obtain⟨xs,n,rfl,rfl,hlen,z8,hf⟩:=DataW.trod_struct underlying36 h;obtain⟨c0,c1,c2,c3,rfl⟩:=zca (hlen.trans (by kernel_rfl));obtain⟨x0,x1,x2,x3,rfl⟩:=zca (z8.trans (by kernel_rfl));have h0:DataW.trod enc prog W 0 iy held n 5 [c0]=some x0:=hf 0 _ rfl;exact qfF
def WD(cs:List Value)(p:Fm×Fm)(d:DataW H):Prop:=∃a b:FQ,cs=[.int .u8 a.o,.string a.n,.slice a.a a.l a.c,.slice a.b a.m a.e,.int .u8 b.o,.string b.n,.slice b.a b.l b.c,.slice b.b b.m b.e]/\aC (fun _=>True) W a.val p.1/\aC (fun _=>True) W b.val p.2/\ag p.1+ag p.2<=Rows.uptoBulk d/\mI (Rows.uptoBulk d) p.1=true/\mI (Rows.uptoBulk d) p.2=true
theorem xE{f:Fm}(h:aC (fun _=>True) W (.agg cs.toArray) f):∃q:FQ,cs=[.int .u8 q.o,.string q.n,.slice q.a q.l q.c,.slice q.b q.m q.e]/\aC (fun _=>True) W q.val f:=by
 obtain⟨q,hq,_⟩:=h.form;rw[hq]at h;refine⟨q,?_,h⟩;unfold FQ.val at hq;exact qfG
theorem O8{f:Tm}(h:aN (fun _=>True) W (.agg cs.toArray) f):∃q:TQ,cs=[.bool q.v,.string q.n,.slice q.a q.l q.c]/\aN (fun _=>True) W q.val f:=by
 obtain⟨q,hq,_⟩:=h.form;rw[hq]at h;refine⟨q,?_,h⟩;unfold TQ.val at hq;exact qfG
theorem Ι{l:List α}(h:l.length=2):∃a b,l=[a,b]:=by
 rcases l with _|⟨c0,_|⟨c1,_|_⟩⟩<;>simp at h
 exact⟨_,_,rfl⟩
theorem J7(dl:Nat)(cs:List Value)(y:DataW H×List MemPlace)(h:DataW.trod enc prog W 0 iy held dl 50 cs=some y):∃p,WD (W:=W) cs p y.1:=by
 obtain⟨xs,n,rfl,rfl,hlen,z8,hf⟩:=DataW.trod_struct underlying50 h;have hcl:cs.length=8:=hlen.trans (by kernel_rfl);have an:=();exact qcI
theorem Iu:∀(l:List (Fm×Fm))(nY:Nat->List Value)(ds:Nat->DataW H),(∀j (hj:j<l.length),WD (W:=W) (nY j) l[j] (ds j))->ah (cP l)<=Rows.uptoBulkAll ((List.range l.length).map ds)/\eu (Rows.uptoBulkAll ((List.range l.length).map ds)) (cP l)=true
 |[],_,_,_=>by simp[cP,ah,eu]
 |t::l,nY,ds,h=>by
  obtain⟨_,_,_,_,_,h1,h2,h3⟩:=h 0 (by simp);have ih:=Iu l (fun j=>nY (j+1)) (fun j=>ds (j+1)) (fun j hj=>h (j+1) (by simpa using hj));rw[fB,pz];have he:cP (t::l)=t.1::t.2::cP l:=rfl;rw[he];have an:=();exact qfH
theorem Gv{y:DataW H×List MemPlace}(h:DataW.trod enc prog W 0 iy held dl 22 [c]=some y):
  ∃l:List (Fm×Fm),dZ (fun _=>True) W c l/\ah (cP l)<=Rows.uptoBulk y.1/\eu (Rows.uptoBulk y.1) (cP l)=true:=by
 obtain⟨l,a0,cap,nY,ds,rfl,hlc,hcm,_,hb,hs,hcl,hP⟩:=kY underlying22 (K:=8) (by kernel_rfl) (by omega) (WD (W:=W)) h (fun m _=>J7 m);have zm:=Iu l nY ds hP;refine⟨l,?_,by omega,ic (by omega) _ zm.2⟩;have hC:∀j,∃ab:FQ×FQ,∀h:j<l.length,nY j=[.int .u8 ab.1.o,.string ab.1.n,.slice ab.1.a ab.1.l ab.1.c,.slice ab.1.b ab.1.m ab.1.e,.int .u8 ab.2.o,.string ab.2.n,.slice ab.2.a ab.2.l ab.2.c,.slice ab.2.b ab.2.m ab.2.e]/\aC (fun _=>True) W ab.1.val l[j].1/\aC (fun _=>True) W ab.2.val l[j].2:=fun j=>by
  by_cases h:j<l.length
  ·obtain⟨a,b,h1,h2,h3,_⟩:=hP j h;exact⟨(a,b),fun _=>⟨h1,h2,h3⟩⟩
  ·exact⟨(⟨0,ByteArray.empty,none,0,0,none,0,0⟩,⟨0,ByteArray.empty,none,0,0,none,0,0⟩),fun h'=>absurd h' h⟩
 obtain⟨g,hg⟩:=Classical.axiomOfChoice hC;refine⟨a0,cap,fun j=>(g j).1,fun j=>(g j).2,rfl,hlc,?_,fun j hj=>(hg j hj).2⟩;have GB:=();exact qbu
def O9(cs:List Value)(p:aj×Fm)(d:DataW H):Prop:=∃a:FQ,cs=[.string ⟨p.1.toArray⟩,.int .u8 a.o,.string a.n,.slice a.a a.l a.c,.slice a.b a.m a.e]/\aC (fun _=>True) W a.val p.2/\ag p.2+2<=Rows.uptoBulk d/\p.1.length<=Rows.uptoBulk d/\mI (Rows.uptoBulk d) p.2=true
def O'(cs:List Value)(p:aj×Tm)(d:DataW H):Prop:=∃a:TQ,cs=[.string ⟨p.1.toArray⟩,.bool a.v,.string a.n,.slice a.a a.l a.c]/\aN (fun _=>True) W a.val p.2/\ap p.2+2<=Rows.uptoBulk d/\p.1.length<=Rows.uptoBulk d/\kI (Rows.uptoBulk d) p.2=true
theorem Gw(dl:Nat)(cs:List Value)(y:DataW H×List MemPlace)(h:DataW.trod enc prog W 0 iy held dl 40 cs=some y):∃p,O9 (W:=W) cs p y.1:=by
 obtain⟨xs,n,rfl,rfl,hlen,z8,hf⟩:=DataW.trod_struct underlying40 h;have hcl:cs.length=5:=hlen.trans (by kernel_rfl);have qor:=();exact qfI
theorem Gx(dl:Nat)(cs:List Value)(y:DataW H×List MemPlace)(h:DataW.trod enc prog W 0 iy held dl 47 cs=some y):∃p,O' (W:=W) cs p y.1:=by
 obtain⟨xs,n,rfl,rfl,hlen,z8,hf⟩:=DataW.trod_struct underlying47 h;have hcl:cs.length=4:=hlen.trans (by kernel_rfl);exact qfI
theorem Fw:∀(l:List (aj×Fm))(nY:Nat->List Value)(ds:Nat->DataW H),(∀j (hj:j<l.length),O9 (W:=W) (nY j) l[j] (ds j))->ah (l.map (·.2))+2*l.length<=Rows.uptoBulkAll ((List.range l.length).map ds)/\eu (Rows.uptoBulkAll ((List.range l.length).map ds)) (l.map (·.2))=true/\∀p∈l,p.1.length<=Rows.uptoBulkAll ((List.range l.length).map ds)
 |[],_,_,_=>by simp[ah,eu]
 |t::l,nY,ds,h=>by
  obtain⟨_,_,_,h1,h2,h3⟩:=h 0 (by simp);have ih:=Fw l (fun j=>nY (j+1)) (fun j=>ds (j+1)) (fun j hj=>h (j+1) (by simpa using hj));rw[fB,pz,cM];exact qfH
theorem Fx:∀(l:List (aj×Tm))(nY:Nat->List Value)(ds:Nat->DataW H),(∀j (hj:j<l.length),O' (W:=W) (nY j) l[j] (ds j))->af (l.map (·.2))+2*l.length<=Rows.uptoBulkAll ((List.range l.length).map ds)/\d8 (Rows.uptoBulkAll ((List.range l.length).map ds)) (l.map (·.2))=true/\∀p∈l,p.1.length<=Rows.uptoBulkAll ((List.range l.length).map ds)
 |[],_,_,_=>by simp[af,d8]
 |t::l,nY,ds,h=>by
  obtain⟨_,_,_,h1,h2,h3⟩:=h 0 (by simp);have ih:=Fx l (fun j=>nY (j+1)) (fun j=>ds (j+1)) (fun j hj=>h (j+1) (by simpa using hj));rw[fB,pz,cM];simp only[Rows.uptoBulkAll,af,d8,ak];simp only[List.getElem_cons_zero]at h1 h2 h3;refine⟨by omega,⟨lO (by omega) _ h3,eV (by omega) _ ih.2.1⟩,fun p hp=>?_⟩;exact qfJ
theorem Fy{y:DataW H×List MemPlace}(h:DataW.trod enc prog W 0 iy held dl 23 [c]=some y):
  ∃l:List (aj×Fm),et (fun _=>True) W c l/\ah (l.map (·.2))+2*l.length+1<=Rows.uptoBulk y.1/\eu (Rows.uptoBulk y.1) (l.map (·.2))=true/\∀p∈l,p.1.length<=Rows.uptoBulk y.1:=by
 obtain⟨l,a0,cap,nY,ds,rfl,hlc,hcm,_,hb,hs,hcl,hP⟩:=kY underlying23 (K:=5) (by kernel_rfl) (by omega) (O9 (W:=W)) h (fun m _=>Gw m);have zm:=Fw l nY ds hP;refine⟨l,?_,by omega,ic (by omega) _ zm.2.1,fun p hp=>by have:=zm.2.2 p hp;omega⟩;have hC:∀j,∃a:FQ,∀h:j<l.length,nY j=[.string ⟨l[j].1.toArray⟩,.int .u8 a.o,.string a.n,.slice a.a a.l a.c,.slice a.b a.m a.e]/\aC (fun _=>True) W a.val l[j].2:=fun j=>by
  have an:=();exact qfK
 have qot:=();exact qfL
theorem Fz{y:DataW H×List MemPlace}(h:DataW.trod enc prog W 0 iy held dl 24 [c]=some y):
  ∃l:List (aj×Tm),eI (fun _=>True) W c l/\af (l.map (·.2))+2*l.length+1<=Rows.uptoBulk y.1/\d8 (Rows.uptoBulk y.1) (l.map (·.2))=true/\∀p∈l,p.1.length<=Rows.uptoBulk y.1:=by
 obtain⟨l,a0,cap,nY,ds,rfl,hlc,hcm,_,hb,hs,hcl,hP⟩:=kY underlying24 (K:=4) (by kernel_rfl) (by omega) (O' (W:=W)) h (fun m _=>Gx m);have zm:=Fx l nY ds hP;refine⟨l,?_,by omega,eV (by omega) _ zm.2.1,fun p hp=>by have:=zm.2.2 p hp;omega⟩;have hC:∀j,∃a:TQ,∀h:j<l.length,nY j=[.string ⟨l[j].1.toArray⟩,.bool a.v,.string a.n,.slice a.a a.l a.c]/\aN (fun _=>True) W a.val l[j].2:=fun j=>by
  exact qfK
 exact qfL
structure zey(p:Nat)(b:Bd):Prop where
 nodes:ah (b.fs.map (·.2))+2*b.fs.length+(af (b.ts.map (·.2))+2*b.ts.length)+2<=p
 fs:eu p (b.fs.map (·.2))=true
 ts:d8 p (b.ts.map (·.2))=true
 fn:∀x∈b.fs,x.1.length<=p
 tn:∀x∈b.ts,x.1.length<=p
end
theorem Sv{H:Type}{enc:TypeId×Value->H}{W:World}{d:DataW H}(hv:Value.okWide prog W .any b0 26 v)(h:DataW.Trod enc prog W 0 (fun _=>true) true 26 v d p):
  ∃(q:BQ)(b:Bd),v=q.val/\fH (fun _=>True) W q b/\zey (Rows.uptoBulk d) b:=by
 obtain⟨cs,rfl,hsz⟩:=okWide_struct underlying26 hv;obtain⟨dl,hf⟩:=h;obtain⟨xs,n,rfl,hx,hlen,z8,hg⟩:=DataW.trod_struct underlying26 hf;injection hx with hx _;subst hx;have hcl:cs.toList.length=2:=hlen.trans (by kernel_rfl);have it:=();exact qcI
theorem O_{H:Type}{enc:TypeId×Value->H}{W:World}{d:DataW H}(hv:Value.okWide prog W .any b0 22 v)(h:DataW.Trod enc prog W 0 (fun _=>true) true 22 v d p):
  ∃l:List (Fm×Fm),dZ (fun _=>True) W v l/\ah (cP l)<=Rows.uptoBulk d/\eu (Rows.uptoBulk d) (cP l)=true:=by
 obtain⟨a0,len,cap,rfl⟩:=okWide_slice underlying22 hv;obtain⟨dl,hf⟩:=h;exact Gv hf
end Go.Proofs.YtokemihbkeddoaaGreatDoor
namespace Go.Proofs.YtokemihbkeddoaaGreatDoor
set_option maxRecDepth 100000
set_option maxHeartbeats 0
open Go Go.RowKit Go.ChangeShapes Go.WideShapes Go.Deep
def Α(P:Program)(l:List TypeId):Bool:=l.all fun t=>match P.underlying t with
 |some (.pointer e)=>l.contains e
 |some (.slice e)=>l.contains e&&decide (0<P.cellsOf e)
 |some (.array n e)=>l.contains e&&P.cellsOf t==n*P.cellsOf e
 |some (.struct fs)=>fs.toList.all (fun f=>l.contains f.type)&&(P.cellsOf t==(fs.toList.map fun f=>P.cellsOf f.type).sum)&&
   ((List.range fs.toList.length).all fun j=>match fs.toList[j]? with
     |some f=>f.offset==((fs.toList.take j).map fun f=>P.cellsOf f.type).sum
     |none=>true)
 |some (.map _ e)=>l.contains e
 |_=>true
theorem ZA{P:Program}{l:List TypeId}(h:Α P l=true):Kids P (·∈l)/\∀{t e:TypeId},t∈l->P.underlying t=some (.slice e)->0<P.cellsOf e:=by
 have h1:∀t∈l,_:=fun t ht=>List.all_eq_true.1 h t ht;refine⟨⟨?_,?_,?_,?_,?_⟩,?_⟩
 ·intro t e ht hu;have:=h1 t ht;rw[hu]at this;simpa using this
 ·intro t e ht hu;have:=h1 t ht;rw[hu]at this;simp at this;exact this.1
 ·intro t e n ht hu;have:=h1 t ht;rw[hu]at this;simp at this;exact this
 ·intro t fs ht hu;have:=h1 t ht;rw[hu]at this;simp only[ak,List.all_eq_true,ef]at this;obtain⟨⟨a1,a2⟩,a3⟩:=this;refine⟨fun f hf=>by simpa using a1 f hf,a2,fun j f hf=>?_⟩;have hj:j<fs.toList.length:=(List.getElem?_eq_some_iff.1 hf).1;have:=a3 j (by simpa using hj);rw[hf]at this;simpa using this
 ·intro t k e ht hu;have:=h1 t ht;rw[hu]at this;simpa using this
 ·intro t e ht hu;have:=h1 t ht;rw[hu]at this;simp at this;exact this.2
section
variable{H:Type}{enc:TypeId×Value->H}{P:Program}{w w':World}{sp':Nat->Bool}
theorem vY{T:TypeId->Prop}(K:Kids P T)(hsz:∀{t e:TypeId},T t->P.underlying t=some (.slice e)->0<P.cellsOf e):
  ∀{ts:List TypeId}{vs:List Value}{ds:List (DataW H)}{p:List MemPlace},(∀t∈ts,T t)->DataW.TrodAll enc P w 0 (fun _=>true) true ts vs ds p→
   (∀q∈p,w.sameAt w' q)->(∀q∈p,sp' q.block=true)->DataW.TrodAll enc P w' 0 sp' true ts vs ds p
 |[],_,_,_,_,h,_,_=>by
  obtain⟨rfl,rfl,rfl⟩:=trodAll_nil h;exact trodAll_mk0
 |t::ts,_,_,_,hT,h,hs,hsp=>by
  obtain ⟨v,vs1,d,ds1,a,b,rfl,rfl,rfl,⟨n,h1⟩,h2⟩:=trodAll_cons h;exact ⟨a,b,⟨n,DataW.trod_stays K hsz (fun h=>by cases h) (hT t (by simp)) h1 (fun q hq=>hs q (by simp[hq])) (fun q hq=>hsp q (by simp[hq]))⟩,
   vY K hsz (fun t ht=>hT t (by simp[ht])) h2 (fun q hq=>hs q (by simp[hq])) (fun q hq=>hsp q (by simp[hq])),rfl⟩
theorem Sw{ts:List TypeId}{vs:List Value}{ds:List (DataW H)}{p:List MemPlace}(l:List TypeId)(hk:Α P l=true)(hl:ts.all (l.contains ·)=true)
  (h:DataW.TrodAll enc P w 0 (fun _=>true) true ts vs ds p) (hb:Below w.heap.size w w'):DataW.TrodAll enc P w' 0 (fun b=>decide (b<w.heap.size)) true ts vs ds p:=by
 obtain⟨K,hsz⟩:=ZA hk;have hlt:=DataW.TrodAll.lt h;exact vY K hsz (fun t ht=>by simpa using List.all_eq_true.1 hl t ht) h (fun q hq=>hb.same (hlt q hq)) (fun q hq=>by simpa using hlt q hq)
end
theorem ZB{H:Type}{l g:List (DataW H)}(h:Rows.uptoSmall H (l++g)=true):Rows.uptoBulkAll l<=1048576:=by
 have h:=of_decide_eq_true h;rw[Fv]at h;omega
end Go.Proofs.YtokemihbkeddoaaGreatDoor
namespace Go.Proofs.YtokemihbkeddoaaGreatDoor
open Go Go.RowKit Lib
set_option maxRecDepth 100000
set_option maxHeartbeats 0
theorem FA:∀l:List (aj×Fm),ah (mm l)=ah (l.map (·.2))+l.length
 |[]=>rfl
 |x::l=>by
  have:=FA l;simp only[mm,List.flatMap_cons,lL,sw,ah,ag,af,cM,fB]at this⊢;omega
theorem FB:∀l:List (aj×Tm),ah (nG l)=af (l.map (·.2))+l.length
 |[]=>rfl
 |x::l=>by
  have:=FB l;simp only[nG,ah,ag,af,cM,fB]at this⊢;omega
theorem QI{p:Nat}:∀l:List (aj×Fm),eu p (l.map (·.2))=true->(∀x∈l,x.1.length<=p)->eu p (mm l)=true
 |[],_,_=>rfl
 |x::l,h,hn=>by
  simp only[cM,eu,ak]at h;have h1:=QI l h.2 (fun y hy=>hn y (fS _ hy));have h2:=hn x (fT ..);simp only[mm]at h1⊢;simp only[List.flatMap_cons,lL,sw,eu,mI,d8,ak,h.1,h1,bM];simp;omega
theorem QJ{p:Nat}:∀l:List (aj×Tm),d8 p (l.map (·.2))=true->(∀x∈l,x.1.length<=p)->eu p (nG l)=true
 |[],_,_=>rfl
 |x::l,h,hn=>by
  simp only[cM,d8,ak]at h;have h1:=QJ l h.2 (fun y hy=>hn y (fS _ hy));have h2:=hn x (fT ..);simp only[nG]at h1⊢;simp only[cM,eu,mI,d8,ak,h.1,h1,bM];simp;omega
theorem WE{p:Nat}:∀a b:List Fm,eu p a=true->eu p b=true->eu p (a++b)=true
 |[],_,_,h=>h
 |x::a,b,h,hb=>by
  simp only[eu,ak]at h;simp only[lL,eu,ak];exact⟨h.1,WE a b h.2 hb⟩
theorem Iv:∀c d:List Fm,ah (c++d)=ah c+ah d
 |[],d=>by simp[ah]
 |y::c,d=>by have:=Iv c d;simp only[lL,ah,this];omega
theorem WF{p:Nat}{b:Bd}(h:zey p b)(hp:p<=1048576):b.fs.length<=1000000/\b.ts.length<=1000000/\jp (mm b.fs++nG b.ts):=by
 have hn:=h.nodes;refine⟨by omega,by omega,?_,?_⟩
 ·rw[Iv,FA,FB];omega
 ·exact WE _ _ (QI _ (ic (by omega) _ h.fs) (fun x hx=>by have:=h.fn x hx;omega)) (QJ _ (eV (by omega) _ h.ts) (fun x hx=>by have:=h.tn x hx;omega))
