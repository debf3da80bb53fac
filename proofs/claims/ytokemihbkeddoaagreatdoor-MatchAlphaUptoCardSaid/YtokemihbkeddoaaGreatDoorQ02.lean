/-L-/
import Derived.Test.YtokemihbkeddoaaGreatDoorQ00
namespace Go.Proofs.YtokemihbkeddoaaGreatDoor
open Go Go.RowKit Lib
set_option maxRecDepth 100000
variable{G:Prop}
theorem qaY(h:G:=by
 obtain⟨ra,rc,rfl⟩:=hF.row.slice;rw[cr]at hF
 first
 |clear qnJ;have qy8:=();exact qbE
 |clear qnK;have qza:=();exact qbE
 |clear qnL;rw[jW]at hF;have Λ:=ae hF.row;have hz:=HO.o.2.2.2;have iG:=Mb.o.size;have x02:=(hF.kp.same _ (by have:=(bQ HO.o.2.1);omega) (by omega)).trans ((Mb.o.block _ (by have:=(bQ HO.o.2.1);omega)).trans ((HO.o.2.2.1.same _ (bQ KA.o) (by omega)).trans KA.o));obtain⟨e0,e1,y0,y1⟩:=w_ x02;obtain⟨s0,s1,_,_⟩:=w_ hF.box;have zfw:=ae (HRF.o.held (W':=wr) (fun b hb hlt=>(hF.kp.same b (bP hlt Mb.o.size) (by have:=H3.o.1.size;have:=H2.o.2.1;have:=DO.o.size;omega)).trans (Mb.o.block b hlt)));have HX:=aM x02 aD;clear hF aD x02 cr jW hz iG;go_wp2;obtain⟨W8,kM,x8,k8,g0,g1⟩:=Gj HX.o.1 (.slice fra n1 frc) (.slice ra p0 rc);rw[<-kM];refine bX (v:=BQ.val ⟨fra,n1,frc,ra,p0,rc⟩) (by simp[BQ.val,results,results50,go_sem,g0,g1]) rfl ⟨⟨⟨fra,n1,frc,ra,p0,rc⟩,rfl,?_,?_⟩,Below.kp1 HX.o.2 k8 (by omega)⟩
  ·exact zfw.o.binds.move (fun b hb hlt=>⟨by have:=H3.o.1.size;omega,k8.same b hlt (by have:=H3.o.1.size;have:=H2.o.2.1;have:=DO.o.size;omega)⟩)
  ·exact Λ.o.binds.move (fun b hb hlt=>⟨by have:=H6.o.1.size;omega,k8.same b hlt (by have:=H6.o.1.size;have:=Mb.o.size;have:=HO.o.2.2.2;have:=H3.o.1.size;have:=H2.o.2.1;have:=DO.o.size;omega)⟩)
 |clear qwI;have HR:=ae (jW▸hF.row);have x2:=hF.box
  first
  |clear qBD;have x1:=hF.other (b:=w.heap.size+1+1) (by omega) zbV.o;have up:=();exact qlk
  |clear qqE;have x1:=hF.other (by omega) kJ.o;have⟨c0,c1,c2⟩:=n8 x2;have⟨e0,e1,e2⟩:=n8 x1;have z0:=ai x1 0;have z1:=ai x1 1;have z2:=ai x1 2;have⟨lT,cR⟩:=bi x1 aD;clear jW cr hF x1 x2 aD;gi_wp2
   first
   |clear qBF;have x6:=sN (v0:=.bool qv) (v1:=.string ⟨n.toArray⟩) (v2:=.slice ra k rc) lT.o;have k6:=fW (W:=wr) (b:=w.heap.size+1) (v0:=.bool qv) (v1:=.string ⟨n.toArray⟩) (v2:=.slice ra k rc);have⟨W6,dr⟩:=az (((wr.setCell ⟨w.heap.size+1,0,none⟩ (.bool qv)).setCell ⟨w.heap.size+1,1,none⟩ (.string ⟨n.toArray⟩)).setCell ⟨w.heap.size+1,2,none⟩ (.slice ra k rc));exact qgz
   |clear qBG;have qx9:=();exact qcV
   |clear qAt;have up:=();exact qll
   |clear qAu;have x6:=sN (v0:=.bool true) (v1:=.string ⟨r.toArray⟩) (v2:=.slice ra k rc) lT.o;have k6:=fW (W:=wr) (b:=w.heap.size+1) (v0:=.bool true) (v1:=.string ⟨r.toArray⟩) (v2:=.slice ra k rc);have⟨W6,dr⟩:=az (((wr.setCell ⟨w.heap.size+1,0,none⟩ (.bool true)).setCell ⟨w.heap.size+1,1,none⟩ (.string ⟨r.toArray⟩)).setCell ⟨w.heap.size+1,2,none⟩ (.slice ra k rc));exact qgO
   |clear qzO;have qya:=();exact qcV
   |clear qzN;exact qll
   |clear qy6;exact qcV
   |have x6:=sN (v0:=.bool true) (v1:=.string ⟨n.toArray⟩) (v2:=.slice ra k rc) lT.o;exact qcY
  |clear qBI;have x1:=hF.other (b:=w.heap.size+1) (by omega) kJ.o;exact qlk
  |clear quH;have x1:=hF.other (by omega) QS.o;have⟨c0,c1,c2,c3⟩:=pC x2;have⟨e0,e1,e2,e3⟩:=pC x1;have z0:=ai x1 0;have z1:=ai x1 1;have z2:=ai x1 2;have z3:=ai x1 3;have lT:=ae x1;have S5:=ae (Λ.o.kp1 hF.kp (by have:=Bb.o;omega));have⟨cR,HSz⟩:=bi aD hF.size;clear jW cr hF x1 x2 aD;gi_wp2;have x6:=nJ (v0:=.int .u8 qo) (v1:=.string ⟨n.toArray⟩) (v2:=.slice fN k1 fO) (v3:=.slice ra k rc) lT.o
   first
   |clear qBJ;have k6:=ev (W:=wr) (b:=w.heap.size+1+1) (v0:=.int .u8 qo) (v1:=.string ⟨n.toArray⟩) (v2:=.slice fN k1 fO) (v3:=.slice ra k rc);have⟨W6,dr⟩:=az ((((wr.setCell ⟨w.heap.size+1+1,0,none⟩ (.int .u8 qo)).setCell ⟨w.heap.size+1+1,1,none⟩ (.string ⟨n.toArray⟩)).setCell ⟨w.heap.size+1+1,2,none⟩ (.slice fN k1 fO)).setCell ⟨w.heap.size+1+1,3,none⟩ (.slice ra k rc));have qBz:=();exact qjT
   |have k6:=ev (W:=wr) (b:=w.heap.size+1) (v0:=.int .u8 qo) (v1:=.string ⟨n.toArray⟩) (v2:=.slice fN k1 fO) (v3:=.slice ra k rc);have⟨W6,dr⟩:=az ((((wr.setCell ⟨w.heap.size+1,0,none⟩ (.int .u8 qo)).setCell ⟨w.heap.size+1,1,none⟩ (.string ⟨n.toArray⟩)).setCell ⟨w.heap.size+1,2,none⟩ (.slice fN k1 fO)).setCell ⟨w.heap.size+1,3,none⟩ (.slice ra k rc));exact qgD
  |have x1:=hF.other (by omega) QS.o;have⟨c0,c1,c2,c3⟩:=pC x2;obtain⟨e0,e1,e2,e3,z0,z1,z2,z3⟩:=dw x1;have lT:=ae x1;have S5:=ae (Λ.o.kp1 hF.kp (by have:=Bb.o;omega));have cR:=ae aD;clear jW cr hF x1 x2 aD;gi_wp2;have x6:=nJ (v0:=.int .u8 so) (v1:=.string ⟨n.toArray⟩) (v2:=.slice fN k1 fO) (v3:=.slice ra k rc) lT.o;have k6:=ev (W:=wr) (b:=w.heap.size+1) (v0:=.int .u8 so) (v1:=.string ⟨n.toArray⟩) (v2:=.slice fN k1 fO) (v3:=.slice ra k rc);have⟨W6,dr⟩:=az ((((wr.setCell ⟨w.heap.size+1,0,none⟩ (.int .u8 so)).setCell ⟨w.heap.size+1,1,none⟩ (.string ⟨n.toArray⟩)).setCell ⟨w.heap.size+1,2,none⟩ (.slice fN k1 fO)).setCell ⟨w.heap.size+1,3,none⟩ (.slice ra k rc));have qzp:=();exact qdN
 |have HU:=ae (hu.later aD);have⟨HF,dR,cR⟩:=cU hF cr aD
  first
  |clear qrE;clear hu aD hF c0 c1 c2 c3 cr;gi_wp2;have⟨W2,bp⟩:=az (wr.alloc (.cells #[.int .u8 u.o,.string u.n,.slice u.a u.l u.c,.slice u.b u.m u.e] 36));have ew:=dj bp;have xb:=cA bp;rw[<-bp];clear bp d0 d1 d2 d3;have g9:=HF.o.later ew (fun r=>r.below ew);have quS:=();exact qan
  |clear qs0;clear hu aD hF c0 c1 c2 cr;gi_wp2;have⟨W2,bp⟩:=az (wr.alloc (.cells #[.bool u.v,.string u.n,.slice u.a u.l u.c] 43));exact qgS
  |clear hu aD hF c0 c1 c2 c3 cr;have ew:Below wr.heap.size wr wr:=ar _ _;have g9:=HF.o.later ew (fun r=>r.below ew);exact qbE):G:=h
theorem qk5(h:G:=by
 have dW:S X4.drew:=by rw[hS];exact(ar _ _).drew
 have Ke:=HP.o.cases;have⟨Ui,c9⟩:=bi Ke hS
 first
 |clear qBa
  first
  |clear qt3;have qBK:=();exact qcR
  |exact qcR
 |have qBL:=();exact qcR):G:=h
theorem qlm(h:G:=by
 rcases LS ht ho.f GF.f with⟨h1,h2⟩|⟨im,im',h1,h2,h3⟩
 ·simp only[h1,h2];exact qd3
 first
 |clear an
  ·simp only[h1,h2];rcases hk.f.get s.n with⟨g1,g2⟩|⟨g,g',g1,g2,g3⟩
   ·simp only[g1,g2];exact⟨by first|rfl|trivial,fun _=>⟨hk.f.add h3,hk.t⟩⟩
   ·simp only[g1,g2];have w1:=oG (mc ((fp k).1 hk.v).1 g1).1;have w2:=oG (mc ((fp k').1 hk.v').1 g2).1;have i1:=yZ ho.c ho.f h1;have i2:=yZ GF.c GF.f h2;have:cI [] g im=cI [] g' im':=by
     rw[iM,mO w1.1 i1.1,mO w2.1 i2.1,g3,h3]
    rw[this];exact qlb
 |·simp only[h1,h2];have b1:=mc ((fp k).1 hk.v).1 g1;have b2:=mc ((fp k').1 hk.v').1 g2;have w1:=oG b1.1;have w2:=oG b2.1;have i1:=yZ ho.c ho.f h1;have i2:=yZ GF.c GF.f h2;have hx:=zb x0;rw[<-UR hx w1.1 (pS b1.1) w2.1 (pS b2.1) g3];have PU:cI [] g im=cI [] g' im':=by
    rw[iM,mO w1.1 i1.1,mO w2.1 i2.1,g3,h3]
   by_cases h0:fD (cg x0) g=0
   ·rw[aG h0,aG h0,PU];exact qlb
   ·rw[aw h0,aw h0,<-hk.t,<-Ol hx w1.1 (pS b1.1) i1.1 w2.1 (pS b2.1) i2.1 g3 h3];have hsz:ag g=ag g':=(PZ (iv []) (iv []) w1.1 w2.1 g3).1;have zfs:ag im=ag im':=(PZ (iv []) (iv []) i1.1 i2.1 h3).1;have go:∀(t:Tm)(ts:List (aj×Tm)),lI t=true→
      (if(ag g+fD (cg x0) g*(ap t-1)!=ag im)=true then(({k with ts:=ts }:Bd),(70:Int))else if cI [] (gQ (cg x0) t g) im=true then({k with ts:=ts },0)else({k with ts:=ts },70)).2=
      (if(ag g'+fD (cg x0) g*(ap t-1)!=ag im')=true then(({k' with ts:=ts }:Bd),(70:Int))else if cI [] (gQ (cg x0) t g') im'=true then({k' with ts:=ts },0)else({k' with ts:=ts },70)).2∧
      ((if (ag g+fD (cg x0) g * (ap t - 1) != ag im)=true then (({ k with ts:=ts }:Bd),(70:Int)) else if cI [] (gQ (cg x0) t g) im=true then ({ k with ts:=ts },0) else ({ k with ts:=ts },70)).2=0 →
      qU (if(ag g+fD (cg x0) g*(ap t-1)!=ag im)=true then(({k with ts:=ts }:Bd),(70:Int))else if cI [] (gQ (cg x0) t g) im=true then({k with ts:=ts },0)else({k with ts:=ts },70)).1.fs
      (if(ag g'+fD (cg x0) g*(ap t-1)!=ag im')=true then(({k' with ts:=ts }:Bd),(70:Int))else if cI [] (gQ (cg x0) t g') im'=true then({k' with ts:=ts },0)else({k' with ts:=ts },70)).1.fs∧
      (if(ag g+fD (cg x0) g*(ap t-1)!=ag im)=true then(({k with ts:=ts }:Bd),(70:Int))else if cI [] (gQ (cg x0) t g) im=true then({k with ts:=ts },0)else({k with ts:=ts },70)).1.ts=
      (if(ag g'+fD (cg x0) g*(ap t-1)!=ag im')=true then(({k' with ts:=ts }:Bd),(70:Int))else if cI [] (gQ (cg x0) t g') im'=true then({k' with ts:=ts },0)else({k' with ts:=ts },70)).1.ts):=by
     intro t ts Kr;rw[<-hsz,<-zfs]
     by_cases jd:(ag g+fD (cg x0) g*(ap t-1)!=ag im)=true
     ·rw[aG jd,aG jd];exact⟨rfl,fun h=>by cases h⟩
     ·rw[aw jd,aw jd];have zO:ap t<=401:=by
       have h4:ag g+fD (cg x0) g*(ap t-1)=ag im:=by simpa using jd
       have h5:fD (cg x0) g*(ap t-1)<=400:=by have h7:=i1.2.2.1;have h8:=ho.n;simp only at h7 h8;omega
       have h6:=Nat.le_mul_of_pos_left (ap t-1) (Nat.pos_of_ne_zero h0);omega
      have p1:=rY Kr (a_ g) g (cg x0) w1.1 w1.2.1 (aK _);have p2:=rY Kr (a_ g') g' (cg x0) w2.1 w2.2.1 (aK _);have hdb:db (gQ (cg x0) t g)=db (gQ (cg x0) t g'):=by
       unfold db gQ;rw[rL (a_ g) g (cg x0) t _ _ w1.1 w1.2.1 (aK _) (by have:=w1.2.2.1;omega),rL (a_ g') g' (cg x0) t _ _ w2.1 w2.2.1 (aK _) (by have:=w2.2.2.1;omega)];exact Tk g3 _ _
      have ha2:cI [] (gQ (cg x0) t g) im=cI [] (gQ (cg x0) t g') im':=by
       rw[iM,mO (f:=gQ (cg x0) t g) p1.1 i1.1,mO (f:=gQ (cg x0) t g') p2.1 i2.1,hdb,h3]
      rw[ha2];split
      ·exact⟨rfl,fun _=>⟨hk.f,rfl⟩⟩
      ·exact⟨rfl,fun h=>by cases h⟩
    cases ht:bG k.ts y0 with
    |some t=>
     simp only;exact go t k.ts (oH (Ek ((fp k).1 hk.v).2 ht).1)
    |none=>
     simp only
     cases hf:fG g im (cg x0)with
     |none=>exact⟨rfl,fun h=>by cases h⟩
     |some t=>
      simp only[Option.map_some];exact go t _ ((Ex hx w1.1 (pS b1.1) i1.1).2 t hf)):G:=h
theorem qbu(h:G:=by
 rcases hs with hs|⟨b,off,ha,hc⟩
 ·exact .inl hs
 first
 |clear it
  ·refine .inr ⟨b,off,ha,trivial,fun j hj=>?_⟩;obtain⟨x0,x1,x2,hx⟩:=WC (hcl j hj);have an:=();exact qln
 |clear up
  ·refine .inr ⟨b,off,ha,trivial,fun j hj=>?_⟩;obtain⟨x0,x1,x2,x3,hx⟩:=zca (hcl j hj);exact qln
 |clear GB
  ·refine .inr ⟨b,off,ha,trivial,fun j hj=>?_⟩;have c:=fun k hk=>hc j hj k hk;rw[(hg j hj).1]at c;exact⟨c 0 (by omega),c 1 (by omega),c 2 (by omega),c 3 (by omega),c 4 (by omega),c 5 (by omega),c 6 (by omega),c 7 (by omega)⟩
 |first
  |clear qot
   ·refine .inr ⟨b,off,ha,trivial,fun j hj=>?_⟩;have c:=fun k hk=>hc j hj k hk;rw[(hg j hj).1]at c;exact⟨c 0 (by omega),c 1 (by omega),c 2 (by omega),c 3 (by omega),c 4 (by omega)⟩
  |·refine .inr ⟨b,off,ha,trivial,fun j hj=>?_⟩
    have c:=fun k hk=>hc j hj k hk;rw[(hg j hj).1]at c;exact⟨c 0 (by omega),c 1 (by omega),c 2 (by omega),c 3 (by omega)⟩):G:=h
theorem qk8(h:G:=by
 have H2:=bS bU iG x1;have⟨gh,HR⟩:=bi bp hR;clear Bp sV aI eB bU iG x1 bp hR;unfold BQ.val
 first
 |clear GB;go_enter func16,ntmps16;go_wp2_with fail;rw[<-gh.o];go_loopw [11] (fun i wr=>∃k:Nat,k<=n1/\i=.int .i64 k/\Below W2.heap.size W2 wr/\R=bG (b.fs.drop k) n) (fun i _=>n1-(intOf i).toNat)
  case atStart=>exact⟨0,bn _,rfl,ar _ _,by simpa using HR.o⟩
  case round=>
   have an:=();exact qlo
 |go_enter func18,ntmps18;go_wp2_with fail;rw[<-gh.o];go_loopw [11] (fun i wr=>∃k:Nat,k<=n1/\i=.int .i64 k/\Below W2.heap.size W2 wr/\R=bG (b.ts.drop k) n) (fun i _=>n1-(intOf i).toNat)
  case atStart=>exact⟨0,bn _,rfl,ar _ _,by simpa using HR.o⟩
  case round=>
   exact qlo):G:=h
theorem qc5(h:G:=by
 have⟨HC,HS⟩:=bi CC jX;have mJ:=ae (bD.trans (Kp.below hB))
 first
 |clear qsX;clear hu hB FT uY CC jX bD hj c0 c1 c2
  first
  |clear qkE;gi_wp2_with (gi_at_call 214;refine aO.2 (HC.o.mono ?_);rintro e w3 ⟨rfl,tb,mq⟩;have HH:=aM tb mq;clear tb mq);exact qdz
  |go_wp2_with (go_at_call 214;refine HC.o.mono ?_;rintro e w3 ⟨rfl,tb,mq⟩;have HH:=aM tb mq;clear tb mq);exact qdz
 |clear up;clear hu hB FT uY CC jX bD hj c0 c1 c2 hmW Ty AS;go_wp2_with (go_at_call 214;refine HC.o.mono ?_;rintro e w3 ⟨rfl,tb,mq⟩;have HH:=aM tb mq;clear tb mq);exact qkk
 |clear hu hB FT uY CC jX bD hj c0 c1 c2 c3;gi_wp2_with (gi_at_call 151;refine aO.2 (HC.o.mono ?_);rintro e w3 ⟨rfl,tb,mq⟩;have HH:=aM tb mq;clear tb mq);exact qdz):G:=h
theorem qju(h:G:=by
 go_enter func19,ntmps19
 first
 |clear qxK;exact qat
 |have qyK:=();exact qjV):G:=h
theorem qgW(h:G:=by
 have⟨bb,dz⟩:=az (eD sc a&&(decide ((af a:Int)<=left-1)&&decide (bB+1+bO a<=bT+1)))
 first
 |clear qrY;rw[<-dz]at hb CJ;have HE:=ae hb;clear hf hb Sy wk sM d4 nH dz
  cases bb with
  |true=>
   have qtx:=();exact qap
  |false=>
   have qtz:=();exact qap
 |rw[<-dz]at CT hM
  first
  |clear qx6
   cases bb with
   |false=>
    have qiu:=();exact qaE
   |true=>
    have qwg:=();exact qbY
  |cases bb with
   |false=>
    exact qaE
   |true=>
    exact qbY):G:=h
theorem qeh(h:G:=by
 obtain⟨a',cap,qs,hv,_,hs,hf⟩:=h;have up:=();exact qbj):G:=h
theorem qjO(h:G:=by
 rintro X Y hn ⟨h1,h2,h3⟩;exact⟨h1,hn.cells h2,qh h3 hn⟩):G:=h
theorem qj5(h:G:=by
 rw[hS]at h;exact⟨aa h r0,aa h k0,(hlk V (h.block _ mlt)).2⟩):G:=h
theorem qg4(h:G:=by
 unfold FQ.val at Lr;simp only at Lr;clear bU bp;unfold FQ.val
 by_cases FY:uo=vo/\k0=m0/\k1=m1
 first
 |clear qr9
  ·obtain⟨rfl,rfl,rfl⟩:=FY;have qwk:=();exact qiV
  ·have G7:R=false:=by
    exact qkx
   have HE:=ae G7;clear hm G7;have qBq:=();exact qdA
 |·obtain⟨rfl,rfl,rfl⟩:=FY;exact qiV
  ·have G7:R=false:=by
    exact qkx
   have HE:=ae G7;clear hm G7;go_enter func83,ntmps83;exact qhp):G:=h
theorem qbF(h:G:=by
 clear ff dW b_ cK f_ gX iQ jM km mU jO;go_wp2;go_ret
 first
 |clear up;exact⟨by rw[uN.o];rfl,(H1.o.1.tr H3.o).tr H7.o⟩
 |clear Ss;exact⟨by rw[uN.o];rfl,H2.o.1.tr H7.o⟩
 |clear ZU;exact⟨⟨_,rfl,by rw[uN.o];exact H8.o.2.base (((H1.o.1.tr H3.o)).size)⟩,(H1.o.1.tr H3.o).tr H8.o.1⟩
 |exact⟨⟨_,rfl,by rw[uN.o];exact H8.o.2.base H2.o.1.size⟩,H2.o.1.tr H8.o.1⟩):G:=h
theorem qiG(h:G:=by
 have H5:=cH (l9.tr bE) x5 (hf.later (l9.tr bE)) oA;have HO:=gN aD aE gt dQ hg;have tS:=ae hZ
 first
 |clear qvZ
  cases Ga:ej nm with
  |false=>
   rw[Ga]at CM;have HC:=ae CM;have HE3:=ae (show R=false by
    rw[HR.o];unfold bF;rw[show(b.fs.all fun x=>ej x.1&&bw (bI x.2))=false from List.all_eq_false.2 ⟨_,kF,by simp[Ga]⟩];rfl)
   clear CM l9 aD aE gt dQ hg oA hf bE x5 hZ kF Ga c0 c1 c2 c3 c4 hok;go_wp2_with (rw[<-tS.o];go_at_call 65;refine HC.o.mono ?_;rintro e w6 ⟨rfl,dh⟩;have H6:=ae dh;clear dh);exact qlp
  |true=>
   rw[Ga]at CM;have HC:=ae CM;have NE:=ae (fun(W:World)(hb:Below W5.heap.size W5 W)=>QQ g oA.2.1 ok W ⟨qo,qn,qa,ql,qc,qb,qm,qe⟩ ((hf.later (l9.tr bE)).later hb));have Oz:=ae (fun(W:World)(p:FQ)(ok':Nat->Prop)(hb:Below W5.heap.size W5 W)(hp:aC ok' W p.val (bI g))=>oJ W0 (bI g) oA.2.2 ok' W (WW.o.next ((l9.tr bE).tr hb)) p hp);simp only[FQ.val]at NE Oz
   cases Mf:bw (bI g)with
   |false=>
    rw[Mf]at Oz;have HE3:=ae (show R=false by
     rw[HR.o];unfold bF;rw[show(b.fs.all fun x=>ej x.1&&bw (bI x.2))=false from List.all_eq_false.2 ⟨_,kF,by simp[Mf]⟩];rfl)
    clear CM l9 aD aE gt dQ hg oA hf bE x5 hZ kF Ga Mf c0 c1 c2 c3 c4 hok;go_wp2_with (first|(rw[<-tS.o];go_at_call 65;refine HC.o.mono ?_;rintro e w6 ⟨rfl,dh⟩;have x6:=bY dh H5.o.2.1;have s0:=ao x6 0;have s1:=ao x6 1;have s2:=ao x6 2;have s3:=ao x6 3;have s4:=ao x6 4;have H6:=aM dh x6;clear dh x6)|(go_at_call 66;refine(NE.o w6 H6.o.1).mono ?_;rintro e w7 ⟨⟨p0,p1,p2,p3,p4,p5,p6,p7⟩,rfl,Oc,g_⟩;have H7:=aM Oc g_;clear Oc g_)|(go_at_call 39;refine(Oz.o w7 ⟨p0,p1,p2,p3,p4,p5,p6,p7⟩ _ (H6.o.1.tr H7.o.2) H7.o.1).mono ?_;rintro e w8 ⟨rfl,jc⟩;have H8:=ae (H6.o.1.tr (H7.o.2.tr jc));clear jc));exact qlq
   |true=>
    rw[Mf]at Oz;have DO:=ae bE;have HLn:=ae (show ((b.fs.take k).map (·.1)).length+1<=4000000 by simp;omega);have PG:=ae (show (b.fs.take (k+1)).map (·.1)=(b.fs.take k).map (·.1) ++ [nm]/\(b.fs.take (k+1)).all (fun x=>ej x.1 && bw (bI x.2))=true by
     rw[List.take_add_one,jn bA];refine⟨by rw[List.map_append,dQ];rfl,?_⟩;rw[List.all_append,gt];simp only[Option.toList,List.all_cons,List.all_nil,Bool.and_true,dL];rw[<-dQ,<-hg,Ga,Mf];rfl)
    clear CM l9 aD aE gt dQ hg oA hf bE x5 hZ kF Ga Mf c0 c1 c2 c3 c4 hok;go_wp2_with (first|(rw[<-tS.o];go_at_call 65;refine HC.o.mono ?_;rintro e w6 ⟨rfl,dh⟩;have x6:=bY dh H5.o.2.1;have s0:=ao x6 0;have s1:=ao x6 1;have s2:=ao x6 2;have s3:=ao x6 3;have s4:=ao x6 4;have H6:=aM dh x6;clear dh x6)|(go_at_call 66;refine(NE.o w6 H6.o.1).mono ?_;rintro e w7 ⟨⟨p0,p1,p2,p3,p4,p5,p6,p7⟩,rfl,Oc,g_⟩;have H7:=aM Oc g_;clear Oc g_)|(go_at_call 39;refine(Oz.o w7 ⟨p0,p1,p2,p3,p4,p5,p6,p7⟩ _ (H6.o.1.tr H7.o.2) H7.o.1).mono ?_;rintro e w8 ⟨rfl,jc⟩;have r0:=aa (H7.o.2.tr jc) s0;have H8:=ae (H6.o.1.tr (H7.o.2.tr jc));clear jc)|(at_builtin;refine eW rfl _ _ rfl W1.heap.size (by have:=HO.o.1.size;have:=DO.o.size;have:=H8.o.size;simp;omega) u3 ((b.fs.take k).map (·.1)) rfl (HO.o.2.1.later ((DO.o.tr H8.o).tr dp)) (.slice (some ⟨w8.heap.size,0,none⟩) 1 1) [nm] rfl (fun _=>True) (DZ (aq rfl)) HLn.o ?_;intro v9 w9 TZ MV;have HG:=aM TZ (qR ((Kp.below (M:=fun _=>False) ((HO.o.1.tr DO.o).tr H8.o)).trans (Kp.below dp)) MV (fun g hg=>(World.ownsRow.lt HO.o.2.1 g hg).1)).empty;clear TZ MV));go_roundw
    case rel=>exact⟨k+1,by omega,by go_num,HG.o.2,by rw[PG.o.1];exact HG.o.1,PG.o.2⟩
    case measure=>simp[intOf];omega
 |cases Ga:dI nm with
  |false=>
   rw[Ga]at CM;have HC:=ae CM;have HE3:=ae (show R=false by
    rw[HR.o];unfold bF;rw[HO1.o.2.2.1];rw[show(b.ts.all fun x=>dI x.1&&jA false (aU x.2))=false from List.all_eq_false.2 ⟨_,kF,by simp[Ga]⟩];simp)
   clear CM l9 aD aE gt dQ hg oA hf bE x5 hZ kF Ga c0 c1 c2 c3 hok;go_wp2_with (rw[<-tS.o];go_at_call 67;refine HC.o.mono ?_;rintro e w6 ⟨rfl,dh⟩;have H6:=ae dh;clear dh);exact qlp
  |true=>
   rw[Ga]at CM;have HC:=ae CM;have NE:=ae (fun(W:World)(hb:Below W5.heap.size W5 W)=>vF g oA.2.1 ok W ⟨qv,qn,qa,ql,qc⟩ ((hf.later (l9.tr bE)).later hb));have Oz:=ae (fun(W:World)(p:TQ)(ok':Nat->Prop)(hb:Below W5.heap.size W5 W)(hp:aN ok' W p.val (aU g))=>Tb (aU g) oA.2.2 ok' W p hp);simp only[TQ.val]at NE Oz
   cases Mf:jA false (aU g)with
   |false=>
    rw[Mf]at Oz;have HE3:=ae (show R=false by
     rw[HR.o];unfold bF;rw[HO1.o.2.2.1];rw[show(b.ts.all fun x=>dI x.1&&jA false (aU x.2))=false from List.all_eq_false.2 ⟨_,kF,by simp[Mf]⟩];simp)
    clear CM l9 aD aE gt dQ hg oA hf bE x5 hZ kF Ga Mf c0 c1 c2 c3 hok;go_wp2_with (first|(rw[<-tS.o];go_at_call 67;refine HC.o.mono ?_;rintro e w6 ⟨rfl,dh⟩;have x6:=bY dh H5.o.2.1;have s0:=ao x6 0;have s1:=ao x6 1;have s2:=ao x6 2;have s3:=ao x6 3;have H6:=aM dh x6;clear dh x6)|(go_at_call 69;refine(NE.o w6 H6.o.1).mono ?_;rintro e w7 ⟨⟨p0,p1,p2,p3,p4⟩,rfl,Oc,g_⟩;have H7:=aM Oc g_;clear Oc g_)|(go_at_call 68;refine(Oz.o w7 ⟨p0,p1,p2,p3,p4⟩ _ (H6.o.1.tr H7.o.2) H7.o.1).mono ?_;rintro e w8 ⟨rfl,jc⟩;have H8:=ae (H6.o.1.tr (H7.o.2.tr jc));clear jc));exact qlq
   |true=>
    rw[Mf]at Oz;have DO:=ae bE;have HLn:=ae (show ((b.ts.take j).map (·.1)).length+1<=4000000 by simp;omega);have PG:=ae (show (b.ts.take (j+1)).map (·.1)=(b.ts.take j).map (·.1) ++ [nm]/\(b.ts.take (j+1)).all (fun x=>dI x.1 && jA false (aU x.2))=true by
     rw[List.take_add_one,jn lG];refine⟨by rw[List.map_append,dQ];rfl,?_⟩;rw[List.all_append,gt];simp only[Option.toList,List.all_cons,List.all_nil,Bool.and_true,dL];rw[<-dQ,<-hg,Ga,Mf];simp)
    clear CM l9 aD aE gt dQ hg oA hf bE x5 hZ kF Ga Mf c0 c1 c2 c3 hok;go_wp2_with (first|(rw[<-tS.o];go_at_call 67;refine HC.o.mono ?_;rintro e w6 ⟨rfl,dh⟩;have x6:=bY dh H5.o.2.1;have s0:=ao x6 0;have s1:=ao x6 1;have s2:=ao x6 2;have s3:=ao x6 3;have H6:=aM dh x6;clear dh x6)|(go_at_call 69;refine(NE.o w6 H6.o.1).mono ?_;rintro e w7 ⟨⟨p0,p1,p2,p3,p4⟩,rfl,Oc,g_⟩;have H7:=aM Oc g_;clear Oc g_)|(go_at_call 68;refine(Oz.o w7 ⟨p0,p1,p2,p3,p4⟩ _ (H6.o.1.tr H7.o.2) H7.o.1).mono ?_;rintro e w8 ⟨rfl,jc⟩;have r0:=aa (H7.o.2.tr jc) s0;have H8:=ae (H6.o.1.tr (H7.o.2.tr jc));clear jc)|(at_builtin;refine eW rfl _ _ rfl wo.heap.size (by have:=HO.o.1.size;have:=DO.o.size;have:=H8.o.size;simp;omega) u4 ((b.ts.take j).map (·.1)) rfl (HO.o.2.1.later ((DO.o.tr H8.o).tr dp)) (.slice (some ⟨w8.heap.size,0,none⟩) 1 1) [nm] rfl (fun _=>True) (DZ (aq rfl)) HLn.o ?_;intro v9 w9 TZ MV;have HG:=aM TZ (qR ((Kp.below (M:=fun _=>False) ((HO.o.1.tr DO.o).tr H8.o)).trans (Kp.below dp)) MV (fun g hg=>(World.ownsRow.lt HO.o.2.1 g hg).1)).empty;clear TZ MV));go_roundw
    case rel=>exact⟨j+1,by omega,by go_num,HG.o.2,by rw[PG.o.1];exact HG.o.1,PG.o.2⟩
    case measure=>simp[intOf];omega):G:=h
theorem qlr(h:G:=by
 have bU:=mo bp;have iG:=zP bp;have x1:=sx bp;have x2:=kv bp;have ia:=kH.later bU;have jq:=fP
 first
 |clear qBP;have⟨RS,IV⟩:=az (dF kd c (.mk 15 n a ss));have qzo:=();exact qkf
 |have⟨RS,IV⟩:=az (dF kd c (.mk 16 n a ss));exact qkf):G:=h
theorem qf5(h:G:=by
 have vJ:=ae (iA.later aD);have qZ:=ae (rf.o.later dS);have⟨Cg,Ch,cR,oh⟩:=f8 mR he aD dS
 first
 |clear qpR;have my:=cH (aa cR.o kK) (aa cR.o lW) (aa cR.o lX) (aa cR.o Bu);have⟨xW,HT⟩:=bi y2 ht;clear hu iA mR he aD dS ht c0 c1 c2 kK lW lX c3 Bu;go_wp2;have⟨W3,ec⟩:=az (wr.alloc (.cells #[.int .u8 u.o,.string u.n,.slice u.a u.l u.c,.slice u.b u.m u.e] 36));have qwD:=();exact qdI
 |have my:=bS (aa cR.o kK) (aa cR.o lW) (aa cR.o lX);have⟨xW,HT⟩:=bi y2 ht;clear hu iA mR he aD dS ht c0 c1 c2 kK lW lX;exact qhn):G:=h
theorem qlk(h:G:=by
 obtain⟨c0,c1,c2,c3,_⟩:=dw x2;obtain⟨e0,e1,e2,e3,z0,z1,z2,z3⟩:=dw x1;have lT:=ae x1
 first
 |clear up;have ZS:=ae (HTj.o.move (W':=wr) (ok':=(W1.heap.size<=·)) (fun b hb hlt=>⟨hb,hF.kp.same b hlt (by have h1:W1.heap.size<=b:=hb;have:=SE.o;omega)⟩));have⟨cR,HSz⟩:=bi aD hF.size;clear jW cr hF x1 x2 aD;gi_wp2;obtain⟨W6,dr,x6,k6,g0,g1,g2,g3⟩:=tP lT.o (.int .u8 qo) (.string ⟨nm.toArray⟩) (.slice fN k1 fO) (.slice ra k rc);rw[<-dr];clear dr;have hz:=SE.o;have iG:=HSj.o;have h6:aC (w.heap.size<=·) W6 (FQ.val ⟨qo,⟨nm.toArray⟩,fN,k1,fO,ra,k,rc⟩) PM:=by
   rw[HMJ.o];exact aX.2 ⟨_,_,rfl,ZS.o.move (fun b hb hlt=>⟨by have h1:W1.heap.size<=b:=hb;omega,k6.same b hlt (by have h1:W1.heap.size<=b:=hb;omega)⟩),(HR.o.kp1 k6 (by omega)).forms.move (fun b hb _=>⟨by have h1:wj.heap.size<=b:=hb;omega,rfl⟩)⟩
  refine bX (v:=FQ.val ⟨qo,⟨nm.toArray⟩,fN,k1,fO,ra,k,rc⟩) (by simp[FQ.val,results,results89,go_sem,g0,g1,g2,g3]) rfl ⟨⟨⟨qo,⟨nm.toArray⟩,fN,k1,fO,ra,k,rc⟩,rfl,h6⟩,Below.kp1 cR.o k6 (by omega)⟩
 |have ZS:=ae (H1.o.2.2.2.move (W':=wr) (ok':=(W0.heap.size<=·)) (fun b hb hlt=>⟨hb.1,hF.kp.same b hlt hb.2⟩));have⟨cR,HSz,Bb⟩:=cU aD hF.size hF.lt;clear jW cr hF x1 x2 aD;go_wp2;obtain⟨W6,dr,x6,k6,g0,g1,g2,g3⟩:=tP lT.o (.int .u8 qo) (.string ⟨n.toArray⟩) (.slice r1 k0 r2) (.slice ra k rc);rw[<-dr];clear dr;have hz:=H0.o.2.2.2;have jv:=H1.o.1.size;have h6:aC (w.heap.size<=·) W6 (FQ.val ⟨qo,⟨n.toArray⟩,r1,k0,r2,ra,k,rc⟩) (.mk qo n (d9 ns a) (s.map (fd ns))):=aX.2 ⟨_,_,rfl,ZS.o.move (fun b hb hlt=>⟨by have:W0.heap.size<=b:=hb;omega,k6.same b hlt (by have:W0.heap.size<=b:=hb;omega)⟩),(HR.o.kp1 k6 (by omega)).forms.move (fun b hb _=>⟨by have:W1.heap.size<=b:=hb;omega,rfl⟩)⟩;refine bX (v:=FQ.val ⟨qo,⟨n.toArray⟩,r1,k0,r2,ra,k,rc⟩) (by simp[FQ.val,results,results88,go_sem,g0,g1,g2,g3]) rfl ⟨⟨qo,⟨n.toArray⟩,r1,k0,r2,ra,k,rc⟩,rfl,h6,Below.kp1 cR.o k6 (by omega)⟩):G:=h
theorem qiY(h:G:=by
 obtain⟨fN,fO,rfl⟩:=hF.row.slice;rw[cr]at hF;have HR:=ae (jW▸hF.row);have x2:=hF.box
 first
 |clear qwp;have x1:=hF.other (by omega) kJ.o;have x0:=hF.other (by omega) KA.o
  first
  |clear qBQ;have xu:=hF.other (by omega) HXU.o;exact qls
  |clear qBR;have p2:IW.cell? ⟨w.heap.size,2,none⟩=some (.slice qa k1 qc):=ao x0 2;have p3:IW.cell? ⟨w.heap.size,3,none⟩=some (.slice qb m0 qe):=ao x0 3;have QS:=ae x1;have Λ:=HR;have⟨eQ,Bb,B_⟩:=cU aD hF.lt hF.size;have s9:=ae (ce.start (R:=w.heap.size+1+1) (mk:=fun rr=>#[.int .u8 qo,.string ⟨n.toArray⟩,.slice fN k1 fO,rr]) (Row:=fun r W=>eO IW.heap.size r ((s.map bI).take 0) W) x2 (eO.nil _ _));clear jW cr hF x0 x1 x2 aD HR;gi_wp2;gi_loopw [31] (fun i wr=>∃k:Nat,k<=m0/\i=.int .i64 k/\∃row,ce 36 (w.heap.size+1+1) IW.heap.size (fun rr=>#[.int .u8 qo,.string ⟨n.toArray⟩,.slice fN k1 fO,rr]) (fun r W=>eO IW.heap.size r ((s.map bI).take k) W) IW wr row) (fun i _=>m0-(intOf i).toNat)
   case atStart=>exact⟨0,bn _,rfl,_,s9.o⟩
   case round=>
    exact qjp
  |have CQ:=gS ⟨so,⟨n.toArray⟩,sa,k1,sc,sb,m1,se⟩ IW;simp only[FQ.val]at CQ;have⟨e0,e1,e2,e3⟩:=pC x0;have MR:=ae CQ;have HE:=cH x0 x1 x2 aD;have Bb:=ae hF.lt;have TT:=hF.size;clear CQ hF x0 x1 x2 aD jW cr;exact qjG
 |have x0:=hF.other (b:=w.heap.size) (by omega) KA.o;have xa:=hF.other (b:=w.heap.size+1) (by omega) NB.o;have x1:=hF.other (b:=w.heap.size+1+1) (by omega) kJ.o;have HY:=cH x0 xa x1 x2;have⟨rv,zd9⟩:=bi aD hF.size;have zea:=ae (show W1.heap.size<=IW.heap.size from hF.size);have HTm:=ae (HR.o.terms);have rf:=ae (PD.o.later (hF.below HBA.o HRA.o));have HAb:=ae (fun b o (h:pa=some ⟨b,o,none⟩) (h2:c.reverse≠[])=>show b≠w.heap.size+1+1+1 from by have:=qZ.o.old b o h h2;omega);have CQ:=ae (fun W=>lg ⟨qo,⟨n.toArray⟩,qa,k1,qc,qb,m0,qe⟩ W);obtain⟨p0',p1',p2',p3',_⟩:=dw x0;clear jW cr hF x0 xa x1 x2 aD HR s9
  cases Q_:br qo with
  |false=>
   have HQo:=ae Q_;gi_wp2_with (gi_at_call 146;refine aO.2 ((CQ.o _).mono ?_);rintro e wj ⟨he,hbj⟩;simp only[Q_]at he;obtain rfl:=he;have p3:wj.cell? ⟨w.heap.size,3,none⟩=some (.slice qb m0 qe):=aa hbj p3';have HJ:=ae hbj;clear hbj);have⟨nm,dQ⟩:=az n;have⟨cc,SU⟩:=az c;have⟨va,Zp⟩:=az pa;have⟨v0,hv0⟩:=az p0;have⟨vc,hvc⟩:=az pc;have kp:=fun(b:Nat)(o:Obj)(h:IW.heap[b]?=some o)=>(HJ.o.block b (bQ h)).trans h;have HBj:=ae (rv.o.tr HJ.o);have zeb:=ae (kp _ _ HY.o.1);have zbU:=ae (show wj.heap[w.heap.size+1]?=some (.cells #[.slice va v0 vc] 193 (0,0)) by rw[Zp,hv0,hvc];exact kp _ _ HY.o.2.1);have zbV:=ae (kp _ _ HY.o.2.2.1);have zbW:=ae (show wj.heap[w.heap.size+1+1+1]?=some (.cells #[.int .u8 qo,.string ⟨nm.toArray⟩,.slice fN k1 fO,.slice none 0 0] 36 (0,0)) by rw[dQ];exact kp _ _ HY.o.2.2.2);have HTj:=ae (HTm.o.later HJ.o);have HPj:=ae (show cw wj (.slice va v0 vc) cc.reverse by rw[Zp,hv0,hvc,SU];exact rf.o.later HJ.o);have HAj:=ae (show ∀b o,va=some ⟨b,o,none⟩->cc.reverse≠[]->b≠w.heap.size+1+1+1 by rw[Zp,SU];exact HAb.o);have HMJ:=ae (show PM=.mk qo nm (a.map (ep (s8 c))) (s.map (eb fr cc)) by rw[HNM.o,Q_,dQ,SU];rfl);have zbX:=ae (show ∀x∈s,cc.length+ag x<=2000000 from fun x hx=>by rw[SU];have h1:=HCl.o;simp only[ag]at h1;have h2:=i9 hx;omega);have zbY:=ae (show ∀x∈cc,x.2.length<=2000000 by rw[SU];exact HCn.o);have HSj:=ae (show W1.heap.size<=wj.heap.size from aR zd9.o HJ.o.size);clear dQ SU Zp hv0 hvc kp Q_ p0' p1' p2' p3';exact qf3
  |true=>
   have HQo:=ae Q_;have wH:=ae (qZ.o.len.trans (List.length_reverse ..));have zht:p0<=2000000:=by rw[wH.o];have:=HCl.o;omega
   gi_wp2_with (gi_at_call 146;refine aO.2 ((CQ.o _).mono ?_);rintro e W8 ⟨he,hbj⟩;simp only[Q_]at he;obtain rfl:=he;have q0:W8.cell? ⟨w.heap.size+1,0,none⟩=some (.slice pa p0 pc):=aa hbj (ao HY.o.2.1 0);have aY:Below W8.heap.size W8 (W8.alloc (.map #[] 0)):=dp;have q1:=aa aY q0;have HJ:=ae hbj;have e9:=ae aY;clear hbj aY);have Bm:np (W8.alloc (.map #[] 0)) W8.heap.size 0 []:=⟨_,World.ownsMap_made W8 _ _ _,fun x=>by simp[Maps.has],fun x hx=>by simp at hx⟩;have⟨mu,ZR⟩:=az W8.heap.size;have⟨W4,vE⟩:=az (W8.alloc (.map #[] 0));rw[<-ZR]at Bm;rw[<-vE]at Bm q1;have p_:W4.heap.size=mu+1:=by rw[vE,ZR];simp
   rw[<-ZR,<-vE];have zec:=ae (show Below W8.heap.size W8 W4 by rw[vE];exact e9.o);have HBW:=ae ((rv.o.tr HJ.o).tr zec.o);have Zq:=ae (show w.heap.size+4<=mu/\IW.heap.size<=mu/\W1.heap.size<=mu by have:=HJ.o.size;have:=zd9.o;have:=SE.o;have:=zea.o;omega);have⟨HZ4,HS4⟩:=bi p_ Bm;clear vE ZR Bm p_ q0 e9 p0' p1' p2' p3' Q_;gi_loopw [41] (fun i wr=>∃j:Nat,j<=p0/\i=.int .i64 j/\np wr mu ((c.reverse.take j).map (·.2)).length ((c.reverse.take j).map (·.2))/\Kp (fun b=>b=mu) W4 wr) (fun i _=>p0-(intOf i).toNat)
   case atStart=>exact⟨0,bn _,rfl,by simpa using HS4.o,Kp.refl _⟩
   case round=>
    obtain⟨j,hjp,rfl,ea,bD⟩:=hrel;have l9:Below w.heap.size w wr:=AP HBW.o bD (fun b e=>by have h:b=mu:=e;have:=Zq.o;omega)
    by_cases hlt:j<p0
    ·have lG:j<c.reverse.length:=by rw[List.length_reverse,<-wH.o];exact hlt
     obtain⟨pb,po,rfl,c0,c1⟩:=(qZ.o.later l9).get lG;obtain⟨⟨lf,rt⟩,hpe⟩:∃x,x=c.reverse[j]:=⟨_,rfl⟩;have hrt:rt.length<=2000000:=HCn.o (lf,rt) (by rw[hpe];exact List.mem_reverse.1 (aH lG));have cr:(c.reverse.take (j+1)).map (·.2)=(c.reverse.take j).map (·.2)++[rt]:=by rw[lq lG,<-hpe];simp
     rw[<-hpe]at c0 c1;simp only at c0 c1;have ξ:((c.reverse.take j).map (·.2)).length<=2000000:=by have:=HCl.o;simp;omega
     have⟨X,hX⟩:=az ((c.reverse.take j).map (·.2));rw[<-hX]at ea cr ξ;have bE:Below wr.heap.size wr (wr.alloc (.cells #[.string ⟨lf.toArray⟩,.string ⟨rt.toArray⟩] 196)):=dp;have e1:(wr.alloc (.cells #[.string ⟨lf.toArray⟩,.string ⟨rt.toArray⟩] 196)).cell? ⟨wr.heap.size,1,none⟩=some (.string ⟨rt.toArray⟩):=ao (aq (w:=wr) (o:=.cells #[.string ⟨lf.toArray⟩,.string ⟨rt.toArray⟩] 196) rfl) 1;obtain⟨D,aE,uZ,ws⟩:=ea.same (bE.block mu ea.lt);have KI:keyOf prog 9 (.string ⟨rt.toArray⟩)=some (.string rt):=by rw[WideMaps.keyOf_string_mk underlying9 (by have e:(⟨rt.toArray⟩:ByteArray).size=rt.length:=rfl;rw[e];unfold maxLen;omega)]
     have oe:X.length<maxLen:=by unfold maxLen;omega
     have HD:=bS aE uZ ws;have Ud:=ae (bD.trans (Kp.below bE));have dR:=ae cr;have C7:(j:Int)<(p0:Int):=by omega
     clear l9 uZ ws bD bE hX ea hpe cr ξ;gi_wp2_with (gi_at_mapUpdate;refine wpListIn_mapUpdate_own _ rfl _ _ _ 118 rfl 9 4 (Maps.string_keyed underlying9) underlying118 (plainElem prog 4) mu X.length D rfl aE oe _ _ (.string rt) rfl rfl KI (.lit (.bool true)) [] (plainElem_bool underlying4 true) ?_;intro w6 ο au;have HG:=aM ο au;clear ο au);go_roundw
     case rel=>exact⟨j+1,by omega,by go_num,by rw[dR.o];exact np.more rt HD.o.1 HD.o.2.1 HD.o.2.2 HG.o.1,Ud.o.trans (Kp.grown HG.o.2 rfl)⟩
     case measure=>simp[intOf];omega
    ·obtain rfl:p0=j:=by omega
     have cr:c.reverse.take p0=c.reverse:=gB (by rw[List.length_reverse,<-wH.o];omega);rw[cr]at ea;have⟨ww,hww⟩:=az wr;subst hww;have jX:np ww mu (c.reverse.map (·.2)).length (c.map (·.2)):=ea.ext (fun x=>by simp);have SM:np ww mf nf fr:=zbT.o.same (l9.block mf HMl.o);have kh:=fun(b:Nat)(hb:b<mu)(h:b<IW.heap.size)=>(bD.same b (by have:=HZ4.o;omega) (by omega)).trans ((zec.o.block b (by have:=Zq.o;have:=HJ.o.size;omega)).trans (HJ.o.block b h));have kw:=fun(b:Nat)(o:Obj)(hb:b<mu)(h:IW.heap[b]?=some o)=>(kh b hb (bQ h)).trans h;have x0:=kw _ _ (by have:=Zq.o;omega) HY.o.1;have xa:=kw _ _ (by have:=Zq.o;omega) HY.o.2.1;have x1:=kw _ _ (by have:=Zq.o;omega) HY.o.2.2.1;have xr:=kw _ _ (by have:=Zq.o;omega) HY.o.2.2.2;have WL:cw ww (.slice pa p0 pc) c.reverse:=qZ.o.later l9;have hmw:mu<ww.heap.size:=ea.lt;have htw:cB (fun b=>W1.heap.size<=b/\b<mu) ww (.slice fN k1 fO) (a.map (ep (s8 c))):=HTm.o.move (fun b hb hlt=>⟨⟨hb,by have:=Zq.o;omega⟩,kh b (by have:=Zq.o;omega) hlt⟩);have ζ:=cH l9 WL htw hmw;have⟨m,hm⟩:=az (dy (fr++c.map (·.2)));have te:m.length<=2000000:=by
      have h1:=HFr.o;have h2:=HCl.o;obtain⟨jj,_,J',zG,_⟩:=qL (fr++c.map (·.2)) (by simp;omega);rw[hm,zG];have:=GY (n:=jj) (by simp at J';omega);omega
     have ⟨W6,dr⟩:=az (ww.alloc (.cells #[.map (some mf),.map (some mu)] 118));have dh:=dj dr;have x6:=cA dr;have CL:=ae (GZ W0 W6 ((HT.o.next l9).next dh) (.slice (some ⟨ww.heap.size,0,none⟩) 2 2) [fr,c.map (·.2)] (by have:=HFr.o;have:=HCl.o;simp;omega) (by simp) ⟨_,_,_,rfl,fun jx hjx=>by
      have h2:jx=0\/jx=1:=by simp at hjx;omega
      rcases h2 with rfl|rfl
      ·exact⟨mf,nf,ao x6 0,SM.same (dh.block _ SM.lt)⟩
      ·exact⟨mu,_,ao x6 1,jX.same (dh.block _ jX.lt)⟩⟩)
     rw[show[fr,c.map (·.2)].flatten=fr++c.map (·.2) by simp,<-hm]at CL;have Ic:=cH (bY dh x0) (bY dh xa) (bY dh x1) (bY dh xr);have⟨NX,HM,RU,XR⟩:=f8 dh hm te dr;clear jX SM kh kw x0 xa x1 xr WL htw hmw ea cr bD l9 dh x6 hm te dr;gi_wp2_with (first|rw[<-XR.o]|(gi_at_call 156;refine aO.2 (CL.o.mono ?_);rintro e w7 ⟨rfl,g_⟩;have x7:=bY g_ Ic.o.2.2.2;have z71:=ai x7 1;have c71:=ao x7 1;have H7:=aM g_ x7;clear g_ x7));have⟨w3,kM⟩:=az (w7.setCell ⟨w.heap.size+1+1+1,1,none⟩ (.string ⟨m.toArray⟩));rw[<-kM];have k8:Kp (fun b=>b=w.heap.size+1+1+1) w7 w3:=by rw[kM];exact⟨rfl,rfl,rfl,by simp,fun b _ hb=>e_ _ _ _ _ (by simpa using hb)⟩
     have Z1:w3.heap[w.heap.size+1+1+1]?=some (.cells #[.int .u8 qo,.string ⟨m.toArray⟩,.slice fN k1 fO,.slice none 0 0] 36 (0,0)):=by rw[kM];exact(bJ H7.o.2 _).trans rfl
     have k7:=fun(b:Nat)(o:Obj)(jd:b≠w.heap.size+1+1+1)(h:W6.heap[b]?=some o)=>(k8.same b (bP (bQ h) H7.o.1.size) jd).trans ((H7.o.1.block b (bQ h)).trans h);have hx0:=k7 _ _ (by omega) Ic.o.1;have gH:=k7 _ _ (by omega) Ic.o.2.1;have hx1:=k7 _ _ (by omega) Ic.o.2.2.1;have jc:Below w.heap.size w w3:=AP ((ζ.o.1.tr NX.o).tr H7.o.1) k8 (fun b e=>by have h:b=w.heap.size+1+1+1:=e;omega);have SO:mu<w3.heap.size:=bP ζ.o.2.2.2 (aR NX.o.size (aR H7.o.1.size k8.size));have ht8:cB (fun b=>W1.heap.size<=b/\b<mu) w3 (.slice fN k1 fO) (a.map (ep (s8 c))):=ζ.o.2.2.1.move (fun b hb hlt=>⟨hb,(k8.same b (bP (Nat.lt_trans hb.2 ζ.o.2.2.2) (aR NX.o.size H7.o.1.size)) (by have:=hb.1;have:=SE.o;omega)).trans ((H7.o.1.block b (bP hlt NX.o.size)).trans (NX.o.block b hlt))⟩);have TW:cw w3 (.slice pa p0 pc) c.reverse:=qZ.o.later jc;have H8:=ae (an8 jc SO ht8 TW Z1 hx0 gH hx1);have⟨Ui,zed⟩:=bi qZ.o.cases qZ.o.cap;clear kM k8 k7 jc SO ht8 TW Z1 hx0 gH hx1 z71 c71;have qxR:=();exact qa0):G:=h
theorem qcS(h:G:=by
 refine(wpIn_wide (n:=3)).1 ?_;refine lM S 12 dW fun jO b_=>?_
 first
 |clear qqI;refine bH 0 64 (.slice pa p0 pc) rfl b_ fun cK=>?_
  simp only[am];refine bH 1 65 (.slice pa p0 pc) rfl cK fun f_=>?_;simp only[am];refine bH 2 66 (.int .i64 (p0:Int)) rfl f_ fun gX=>?_;simp only[am];refine bH 3 67 (.slice pa p0 pc) rfl gX fun iQ=>?_;simp only[am];refine bH 4 68 (.int .i64 (p0:Int)) rfl iQ fun jM=>?_;simp only[am];refine di 5 69 (.slice pa p0 p0) rfl (fun V hX=>by rcases Ui.o with⟨rfl,rfl,rfl⟩|⟨b,off,rfl⟩<;>go_simp) jM fun km=>?_;simp only[am];refine bH 6 70 (.pointer (some ⟨w.heap.size,1,none⟩)) rfl km fun mU=>?_;simp only[am];refine di 7 71 (.string ⟨xn.toArray⟩) rfl (fun V hX=>by have g0:=f0 V hX;go_simp) mU fun q_=>?_;simp only[am];refine bH 8 72 (.pointer (some ⟨w.heap.size+1,1,none⟩)) rfl q_ fun D2=>?_
  first
  |clear qBL;simp only[am];refine di 9 73 (.string ⟨xn.toArray⟩) rfl (fun V hX=>by have g1:=f1 V hX;go_simp) D2 fun vi=>?_
   simp only[am];refine bH 10 74 (.agg #[.string ⟨xn.toArray⟩,.string ⟨xn.toArray⟩]) rfl vi fun D3=>?_;exact qbt
  |clear qBK;simp only[am];have qBS:=();exact qi6
  |simp only[am];exact qi6
 |clear qwa;refine di 0 99 (.agg #[.int .u8 so,.string ⟨n.toArray⟩,.slice (some ⟨b1,o1,none⟩) n1 sc,.slice sb m1 se,.int .u8 so,.string ⟨n'.toArray⟩,.slice (some ⟨b2,o2,none⟩) n1 fc,.slice fb m1 fe,.slice ca cl cc]) rfl (fun V hX=>by obtain⟨h0,h1,h2,h3,h4,h5,h6,h7,h8⟩:=pp V hX;go_simp) b_ fun cK=>?_
  simp only[am];refine bH 1 100 (.pointer (some ⟨B6,2,none⟩)) rfl cK fun f_=>?_;simp only[am];refine di 2 101 (.slice (some ⟨b2,o2,none⟩) n1 fc) rfl (fun V hX=>by have h0:=tt V hX;go_simp) f_ fun gX=>?_;simp only[am];refine bH 3 102 (.int .i64 (j:Int)) rfl gX fun iQ=>?_;simp only[am];refine bH 4 103 (.pointer (some ⟨b2,o2+j*3,none⟩)) rfl iQ fun jM=>?_;simp only[am];refine di 5 104 (.agg #[.bool yv,.string yn,.slice ya yl yc]) rfl (fun V hX=>by obtain⟨h0,h1,h2⟩:=yy V hX;go_simp) jM fun km=>?_;simp only[am];refine zaC (i:=6) (j:=10) rfl rfl (by kernel_rfl) (by rfl) (by rfl) (fun K hK=>?_) (fun K hK=>?_)
  ·go_simp;refine aO.2 ((ZT.o _ (by have h:=b_;rw[c9.o]at h;exact h)).mono ?_);rintro e w6 ⟨⟨⟨u0,u1,u2,u3,u4⟩,rfl,hu⟩,dh⟩;have mS:Below W5.heap.size W5 w6:=((ar W5.heap.size W5).drew).trans dh;have H6:=aM mS hu;refine hK _ _ (fun _=>by rw[c9.o];exact H6.o.1) (fun km=>?_);replace km:=km (by decide);clear hK K hu dh mS;have qwy:=();exact qi0
  ·go_simp;have⟨EB,Al⟩:=az W5.heap.size;have⟨A1,sG⟩:=az (W5.alloc (.cells #[.bool false,.string ⟨#[]⟩,.slice none 0 0] 43)).drew;have wS:Below W5.heap.size W5 A1:=by rw[sG];exact dp.drew
   have Hm:A1.heap[EB]?=some (.cells #[.bool false,.string ⟨#[]⟩,.slice none 0 0] 43 (0,0)):=by rw[sG,Al];exact aq rfl
   have PS:EB=W5.heap.size:=Al;rw[<-sG,<-Al];have HA:=bS wS Hm PS;refine hK _ _ (fun _=>by rw[c9.o];exact HA.o.1) (fun _=>?_);clear hK K sG Al wS Hm PS;refine cb 6 rfl fun K hK=>?_;go_simp;refine aO.2 ((ZT.o _ HA.o.1).mono ?_);rintro e w6 ⟨⟨⟨u0,u1,u2,u3,u4⟩,rfl,hu⟩,dh⟩;have mS:Below W5.heap.size W5 w6:=HA.o.1.tr dh;have hn6:=bY dh HA.o.2.1;have H6:=gN mS hu hn6 (bQ HA.o.2.1) HA.o.1.size;refine hK _ _ (fun _=>by rw[c9.o];exact H6.o.1) (fun km=>?_);replace km:=km (by decide);obtain⟨z0,z1,z2,y0',y1',y2'⟩:=ir hn6;clear hK K hu dh mS hn6;exact qi0
 |first
  |clear qBT;refine bH 0 19 (.pointer (some ⟨w.heap.size+1,0,none⟩)) rfl b_ fun cK=>?_
   simp only[am];refine di 1 20 (.slice ra j rc) rfl (fun V hX=>by obtain⟨h0,h1,h2⟩:=ff V hX;go_simp) cK fun f_=>?_;simp only[am];refine bH 2 21 (.string ⟨nm.toArray⟩) rfl f_ fun gX=>?_;simp only[am];refine bH 3 22 (.pointer (some ⟨kb,0,none⟩)) rfl gX fun iQ=>?_;simp only[am];refine bH 4 23 (.pointer (some ⟨kb,0,none⟩)) rfl iQ fun jM=>?_;simp only[am];refine bH 5 24 (.pointer (some ⟨kb,0,none⟩)) rfl jM fun km=>?_;simp only[am];refine di 6 25 (.map (some mF)) rfl (fun V hX=>by obtain⟨h0,h1,h2⟩:=ff V hX;go_simp) km fun mU=>?_;simp only[am];refine bH 7 26 (.string ⟨nm.toArray⟩) rfl mU fun q_=>?_;simp only[am];refine di 8 27 (.agg #[.int .u8 g0,.string g1,.slice g2 g3 g4,.slice g5 g6 g7]) rfl (fun V hX=>by obtain⟨h0,h1,h2⟩:=ff V hX;go_simp) q_ fun D2=>?_;simp only[am];refine cb 9 rfl fun K hK=>?_;have qBn:=();exact qdm
  |refine bH 0 45 (.pointer (some ⟨w.heap.size+1,1,none⟩)) rfl b_ fun cK=>?_
   simp only[am];refine di 1 46 (.slice ra j rc) rfl (fun V hX=>by obtain⟨h0,h1,h2⟩:=ff V hX;go_simp) cK fun f_=>?_;simp only[am];refine bH 2 47 (.string ⟨nm.toArray⟩) rfl f_ fun gX=>?_;simp only[am];refine bH 3 48 (.pointer (some ⟨kb,0,none⟩)) rfl gX fun iQ=>?_;simp only[am];refine bH 4 49 (.pointer (some ⟨kb,0,none⟩)) rfl iQ fun jM=>?_;simp only[am];refine bH 5 50 (.pointer (some ⟨kb,1,none⟩)) rfl jM fun km=>?_;simp only[am];refine di 6 51 (.map (some mT)) rfl (fun V hX=>by obtain⟨h0,h1,h2⟩:=ff V hX;go_simp) km fun mU=>?_;simp only[am];refine bH 7 52 (.string ⟨nm.toArray⟩) rfl mU fun q_=>?_;simp only[am];refine di 8 53 (.agg #[.bool g0,.string g1,.slice g2 g3 g4]) rfl (fun V hX=>by obtain⟨h0,h1,h2⟩:=ff V hX;go_simp) q_ fun D2=>?_;simp only[am];refine cb 9 rfl fun K hK=>?_;exact qdm):G:=h
theorem qgb(h:G:=by
 refine cb 6 rfl fun K hK=>?_;go_simp;refine eX hK ?_;clear hK K;refine cb 7 rfl fun K hK=>?_
 first
 |clear qqe;have I8:=();exact qaa
 |have it:=();exact qaa):G:=h
theorem qaP(h:G:=by
 rw[<-cC];clear cC;have⟨eQ,kJ⟩:=bi jN x1
 first
 |clear qtA
  first
  |clear qA1;have s9:=ae (ce.start (R:=w.heap.size+1+1) (mk:=fun rr=>#[.bool false,.string ⟨n.toArray⟩,rr]) (Row:=fun r W=>dH W1.heap.size r ((a.map aU).take 0) W) x2 (dH.nil _ _));clear jN x1 x2;gi_loopw [25] (fun i wr=>∃k:Nat,k<=k0/\i=.int .i64 k/\∃row,ce 43 (w.heap.size+1+1) W1.heap.size (fun rr=>#[.bool false,.string ⟨n.toArray⟩,rr]) (fun r W=>dH W1.heap.size r ((a.map aU).take k) W) W1 wr row) (fun i _=>k0-(intOf i).toNat)
   case atStart=>exact⟨0,bn _,rfl,_,s9.o⟩
   case round=>
    exact qdr
  |clear qA7;have s9:=ae (ce.start (R:=w.heap.size+1+1) (mk:=fun rr=>#[.bool false,.string ⟨n.toArray⟩,rr]) (Row:=fun r W=>dH W1.heap.size r ((a.map (ep f)).take 0) W) x2 (dH.nil _ _));clear jN x1 x2;gi_loopw [30] (fun i wr=>∃k:Nat,k<=k0/\i=.int .i64 k/\∃row,ce 43 (w.heap.size+1+1) W1.heap.size (fun rr=>#[.bool false,.string ⟨n.toArray⟩,rr]) (fun r W=>dH W1.heap.size r ((a.map (ep f)).take k) W) W1 wr row) (fun i _=>k0-(intOf i).toNat)
   case atStart=>exact⟨0,bn _,rfl,_,s9.o⟩
   case round=>
    have qBU:=();exact qbZ
  |have s9:=ae (ce.start (R:=w.heap.size+1+1) (mk:=fun rr=>#[.bool false,.string ⟨n.toArray⟩,rr]) (Row:=fun r W=>dH W1.heap.size r ((a.map (dK kd.ts sc)).take 0) W) x2 (dH.nil _ _));clear jN x1 x2;gi_loopw [47] (fun i wr=>∃k:Nat,k<=k0/\i=.int .i64 k/\∃row,ce 43 (w.heap.size+1+1) W1.heap.size (fun rr=>#[.bool false,.string ⟨n.toArray⟩,rr]) (fun r W=>dH W1.heap.size r ((a.map (dK kd.ts sc)).take k) W) W1 wr row) (fun i _=>k0-(intOf i).toNat)
   case atStart=>exact⟨0,bn _,rfl,_,s9.o⟩
   case round=>
    have qBV:=();exact qbZ
 |clear qz4;have s9:=ae (ce.start (R:=w.heap.size+1+1) (mk:=fun r=>#[.bool qv,.string ⟨n.toArray⟩,r]) (Row:=fun r W=>dH W1.heap.size r (a.take 0) W) x2 (dH.nil _ _));clear jN x1 x2;gi_loopw [14] (fun i wr=>∃k:Nat,k<=k0/\i=.int .i64 k/\∃row,ce 43 (w.heap.size+1+1) W1.heap.size (fun r=>#[.bool qv,.string ⟨n.toArray⟩,r]) (fun r W=>dH W1.heap.size r (a.take k) W) W1 wr row) (fun i _=>k0-(intOf i).toNat)
  case atStart=>exact⟨0,bn _,rfl,_,s9.o⟩
  case round=>
   have qBW:=();exact qbZ
 |clear qAn;have s9:=ae (ce.start (R:=w3.heap.size) (mk:=fun rr=>#[.bool true,.string ⟨n.toArray⟩,rr]) (Row:=fun r W=>dH W1.heap.size r ((a.map (dK kd.ts sc)).take 0) W) x2 (dH.nil _ _));clear jN x1 x2;gi_loopw [47] (fun i wr=>∃k:Nat,k<=k0/\i=.int .i64 k/\∃row,ce 43 (w3.heap.size) W1.heap.size (fun rr=>#[.bool true,.string ⟨n.toArray⟩,rr]) (fun r W=>dH W1.heap.size r ((a.map (dK kd.ts sc)).take k) W) W1 wr row) (fun i _=>k0-(intOf i).toNat)
  case atStart=>exact⟨0,bn _,rfl,_,s9.o⟩
  case round=>
   have qBX:=();exact qlt
 |clear qAZ;have s9:=ae (ce.start (R:=w.heap.size+1+1) (mk:=fun rr=>#[.bool true,.string ⟨n.toArray⟩,rr]) (Row:=fun r W=>dH W1.heap.size r ((a.map aU).take 0) W) x2 (dH.nil _ _));clear jN x1 x2;gi_loopw [25] (fun i wr=>∃k:Nat,k<=k0/\i=.int .i64 k/\∃row,ce 43 (w.heap.size+1+1) W1.heap.size (fun rr=>#[.bool true,.string ⟨n.toArray⟩,rr]) (fun r W=>dH W1.heap.size r ((a.map aU).take k) W) W1 wr row) (fun i _=>k0-(intOf i).toNat)
  case atStart=>exact⟨0,bn _,rfl,_,s9.o⟩
  case round=>
   have qBY:=();exact qdr
 |clear qA0;have s9:=ae (ce.start (R:=w.heap.size+1+1) (mk:=fun rr=>#[.bool true,.string ⟨r.toArray⟩,rr]) (Row:=fun r W=>dH W1.heap.size r ((a.map aU).take 0) W) x2 (dH.nil _ _));clear jN x1 x2;gi_loopw [25] (fun i wr=>∃k:Nat,k<=k0/\i=.int .i64 k/\∃row,ce 43 (w.heap.size+1+1) W1.heap.size (fun rr=>#[.bool true,.string ⟨r.toArray⟩,rr]) (fun r W=>dH W1.heap.size r ((a.map aU).take k) W) W1 wr row) (fun i _=>k0-(intOf i).toNat)
  case atStart=>exact⟨0,bn _,rfl,_,s9.o⟩
  case round=>
   have qBZ:=();exact qdr
 |have s9:=ae (ce.start (R:=w3.heap.size+1) (mk:=fun rr=>#[.bool true,.string ⟨n.toArray⟩,rr]) (Row:=fun r W=>dH W1.heap.size r ((a.map (ep f)).take 0) W) x2 (dH.nil _ _));clear jN x1 x2;gi_loopw [30] (fun i wr=>∃k:Nat,k<=k0/\i=.int .i64 k/\∃row,ce 43 (w3.heap.size+1) W1.heap.size (fun rr=>#[.bool true,.string ⟨n.toArray⟩,rr]) (fun r W=>dH W1.heap.size r ((a.map (ep f)).take k) W) W1 wr row) (fun i _=>k0-(intOf i).toNat)
  case atStart=>exact⟨0,bn _,rfl,_,s9.o⟩
  case round=>
   exact qlt):G:=h
theorem qcq(h:G:=by
 simp[execOp,ho,resolve,invoke,builtin,hs,hx,hr,Result.andThen]
 first
 |clear an;exact h g cap w' h2 h3 h4 h5
 |clear up;exact hK _ _ (h v' w' h3 h4)
 |exact h g cap w' h2 h3):G:=h
theorem qk7(h:G:=by
 clear hj GP bD ht b0 b1 CQ td;go_wp2_with fail;refine MR.o.mono ?_;rintro e w3 ⟨rfl,aS⟩
 first
 |clear qBm;have H4:=ae (show J (pre++(A++[])) w3/\Kp M W0 w3/\gz w3 mb (n+0) bs'/\Kp (fun b=>M b\/b=mb) W1 w3 from⟨by simpa using HJ.o _ _ _ (Nw.below aS) HE.o.2.1,HE.o.1.kp.trans (Kp.below aS),by rw[jb.o];exact HE.o.1.bd.same (aS.block mb HE.o.1.bd.lt),HE.o.2.2.trans (Kp.below aS)⟩);have y3:w3.cell? ⟨W.heap.size,3,none⟩=some (.slice ub m0 ue):=aa aS ji.o;clear x0 x1 x2 x3 x4 aS;go_wp2;clear y3;go_loopw [36] (fun i wr=>∃k:Nat,k<=m0/\i=.int .i64 k/\J (pre++(A++bK bs' (ss.take k))) wr/\Kp M W0 wr/\(∃n',n'<=n+0+2*ah (ss.take k)/\gz wr mb n' bs')/\Kp (fun b=>M b\/b=mb) W1 wr) (fun i _=>m0-(intOf i).toNat)
  case atStart=>exact⟨0,bn _,rfl,by simpa[bK]using H4.o.1,H4.o.2.1,⟨n+0,by omega,H4.o.2.2.1⟩,H4.o.2.2.2⟩
  case round=>
   have qAX:=();exact qiK
 |have hbd:=HE.o.1.bd.same (aS.block mb HE.o.1.bd.lt);obtain⟨w4,cV,aY,zF,Bm,G'⟩:=hbd.store (bs':=nm::bs) (x:=nm) (by have:=zK.o;omega) KH.o (fun y hy=>by rw[List.count_cons_of_ne];exact fun h=>hy h.symm);have hr:=hbd.look KH.o w3 rfl;have hcl:bs.count nm<=4000000:=by have:=zK.o;have:=List.count_le_length (a:=nm) (l:=bs);omega
  rw[List.count_cons_self]at cV;have⟨cn,wM⟩:=az (bs.count nm);rw[<-wM]at cV hr hcl;have cV:(Instr.mapUpdate 198 (.map (some mb)) (.string ⟨nm.toArray⟩) (.int .i64 ((cn:Int)+1))).run prog w3=.ok () w4:=cV;have nV:Kp (fun b=>M b\/b=mb) w3 w4:=⟨zF.os,zF.tape,zF.output,Nat.le_of_eq Bm.symm,fun b hb hm=>zF.block b hb (fun h=>hm (.inr (by cases h;rfl)))⟩;have H4:=ae (show J (pre++(A++[])) w4/\Kp M W0 w4/\gz w4 mb (n+1) bs'/\Kp (fun b=>M b\/b=mb) W1 w4 from⟨by simpa using HJ.o _ _ _ (G' _ HMb.o) (HJ.o _ _ _ (Nw.below aS) HE.o.2.1),TM (HE.o.1.kp.trans (Kp.below aS)) (G' _ HMb.o) (aK _),by rw[jb.o];exact aY,(HE.o.2.2.trans (Kp.below aS)).trans nV⟩);have z1:w3.cell? ⟨W.heap.size,1,none⟩=some (.string ⟨nm.toArray⟩):=aa aS lT.o;have z4:w3.cell? ⟨W.heap.size+1,0,none⟩=some (.map (some mb)):=aa aS HX4.o;have y3:w4.cell? ⟨W.heap.size,3,none⟩=some (.slice ub m0 ue):=nV.cell sU.o.2.1 (aa aS ji.o);clear x0 x1 x2 x3 x4 aS hbd aY zF Bm G' nV wM;go_wp2;clear y3 z1 z4 cV hr;go_loopw [36] (fun i wr=>∃k:Nat,k<=m0/\i=.int .i64 k/\J (pre++(A++bK bs' (ss.take k))) wr/\Kp M W0 wr/\(∃n',n'<=n+1+2*ah (ss.take k)/\gz wr mb n' bs')/\Kp (fun b=>M b\/b=mb) W1 wr) (fun i _=>m0-(intOf i).toNat)
  case atStart=>exact⟨0,bn _,rfl,by simpa[bK]using H4.o.1,H4.o.2.1,⟨n+1,by omega,H4.o.2.2.1⟩,H4.o.2.2.2⟩
  case round=>
   exact qiK):G:=h
theorem qkL(h:G:=by
 have HE:Hd (BX=false):=ae (hM.trans (by simp[dG]));exact qdW):G:=h
theorem qfJ(h:G:=by
 rcases dc.1 hp with rfl|hp
 ·omega
 ·have:=ih.2.2 p hp;omega):G:=h
theorem qev(h:G:=by
 unfold Oper.wpIn;refine⟨?_,?_⟩
 ·simp[Oper.about,ho,resolve,Target.leads,Sem.run_pure]
 first
 |clear it
  ·rw[Oper.semAt_plain F _ _ (by rw[ho];intro c hc';cases hc')];have an:=();exact qcq
 |·rw[Oper.semAt_plain F _ _ (by rw[ho];intro c hc';cases hc')];exact qcq):G:=h
theorem qeQ(h:G:=by
 go_ret;exact⟨rfl,HB.o.trans (bV.o.mono (by simp;omega))⟩):G:=h
theorem qiz(h:G:=by
 have ck:=ao _C 0;have⟨P0,P1,P2,P3,P4,P5,P6,P7⟩:=FP FH;have P8:=ao FH 8;have vQ:=ae Vl
 first
 |clear qvL;have HG:=cH g1 g2 g3 g4;have Qj:=ae AA;have it:=();exact qc6
 |have HG:=bS g1 g2 g3;have Qj:=ae AA;exact qc6):G:=h
theorem qfY(h:G:=by
 have iA:aC ok wr u.val s[k]:=hu.move (fun b hok hlt=>⟨hok,bD.same b hlt (s_.o b hok)⟩)
 first
 |clear Ss;have ij:=gZ.o s[k] (aH bA) ok J true (left-1-af a-ah (s.take k)) bT (bB+1) (wr.alloc (.cells #[.int .u8 u.o,.string u.n,.slice u.a u.l u.c,.slice u.b u.m u.e] 36)) u ((HT.o.kp bD (fun b hb=>by subst hb;exact YB)).next dp) YB (iA.later dp) s_.o (hj.later dp) (by omega) (by omega) hde (by omega) (by omega);have⟨bb,dz⟩:=az (gF true s[k]&&(decide ((ag s[k]:Int)<=left-1-af a-ah (s.take k))&&decide (bB+1+a_ s[k]<=bT+1)));rw[<-dz]at ij
  cases bb with
  |true=>
   have ry:=dz.symm;simp only[ak,bM]at ry;have hrel:dJ true (s.take (k+1))=true/\((ah (s.take (k+1)):Int))<=left-1-af a/\bB+1+bl (s.take (k+1))<=bT+1/\left-1-af a-ah (s.take k)-ag s[k]=left-1-af a-ah (s.take (k+1)):=⟨by rw[II,ha,ry.1];rfl,by omega,by omega,by omega⟩;exact qh7
  |false=>
   have lV:(dJ true s&&(decide ((ah s:Int)<=left-1-af a)&&decide (bB+1+bl s<=bT+1)))=false:=by
    have dQ:=de s (k+1);have hdm:=pJ bA
    cases h1:gF true s[k]with
    |false=>rw[ye bA h1];rfl
    |true=>
     exact qdv
   exact qik
 |have ij:=gZ.o s[k] (aH bA) ok J sc (left-1-af a-ah (s.take k)) bT (bB+1) (wr.alloc (.cells #[.int .u8 u.o,.string u.n,.slice u.a u.l u.c,.slice u.b u.m u.e] 36)) u ((HT.o.kp bD (fun b hb=>by subst hb;exact YB)).next dp) YB (iA.later dp) s_.o (hj.later dp) (by omega) (by omega) hde (by omega) (by omega);have⟨bb,dz⟩:=az (gF sc s[k]&&(decide ((ag s[k]:Int)<=left-1-af a-ah (s.take k))&&decide (bB+1+a_ s[k]<=bT+1)));rw[<-dz]at ij
  cases bb with
  |true=>
   have ry:=dz.symm;simp only[ak,bM]at ry;have hrel:dJ sc (s.take (k+1))=true/\((ah (s.take (k+1)):Int))<=left-1-af a/\bB+1+bl (s.take (k+1))<=bT+1/\left-1-af a-ah (s.take k)-ag s[k]=left-1-af a-ah (s.take (k+1)):=⟨by rw[II,ha,ry.1];rfl,by omega,by omega,by omega⟩;exact qh7
  |false=>
   have lV:(dJ sc s&&(decide ((ah s:Int)<=left-1-af a)&&decide (bB+1+bl s<=bT+1)))=false:=by
    have dQ:=de s (k+1);have hdm:=pJ bA
    cases h1:gF sc s[k]with
    |false=>rw[ye bA h1];rfl
    |true=>
     exact qdv
   exact qik):G:=h
theorem qdQ(h:G:=by
 refine(wpIn_wide (n:=3)).1 ?_;refine lM S 9 dW fun jO b_=>?_
 first
 |clear qxG;have qzF:=();exact qkm
 |clear qB2;refine bH 0 48 (.slice la l0 lc) rfl b_ fun cK=>?_
  simp only[am];refine bH 1 49 (.slice la l0 lc) rfl cK fun f_=>?_;simp only[am];refine bH 2 50 (.int .i64 (l0:Int)) rfl f_ fun gX=>?_;simp only[am];refine bH 3 51 (.slice la l0 lc) rfl gX fun iQ=>?_;simp only[am];refine bH 4 52 (.int .i64 (l0:Int)) rfl iQ fun jM=>?_;simp only[am];refine di 5 53 (.slice la l0 l0) rfl (fun V hX=>by rcases HSh.o with⟨rfl,rfl,rfl⟩|⟨b,off,rfl⟩<;>go_simp) jM fun km=>?_;simp only[am];refine bH 6 54 (.pointer (some ⟨w.heap.size+1,1,none⟩)) rfl km fun mU=>?_;simp only[am];refine di 7 55 (.string ⟨n.toArray⟩) rfl (fun V hX=>by have g0:=f0 V hX;go_simp) mU fun q_=>?_;simp only[am];refine cb 8 rfl fun K hK=>?_;go_simp;have lJ:Below X4.heap.size X4 (X4.alloc (.cells #[.string ⟨n.toArray⟩] 9)).drew:=((ar _ X4).alloc (aK _) _).drew;have qxo:=();exact qaF
 |exact qhm):G:=h
theorem qhf(h:G:=by
 refine bH 10 76 (.pointer (some ⟨b2,off2+j*4,none⟩)) rfl b_ fun cK=>?_;simp only[am]
 first
 |clear qsA;refine di 11 77 (.string ⟨ny.toArray⟩) rfl (fun V hX=>by obtain⟨g0,_⟩:=f2 V hX;go_simp) b_ fun cK=>?_
  simp only[am];refine bH 12 78 (.bool true) rfl b_ fun cK=>?_;simp only[am];refine bH 13 79 (.bool true) rfl b_ fun cK=>?_;simp only[am];refine OV 14 80 rfl b_ fun cK=>?_;simp only[am];refine OV 15 81 rfl b_ fun cK=>?_;simp only[am];refine OV 16 82 rfl b_ fun cK=>?_;simp only[am];refine OV 17 83 rfl b_ fun cK=>?_;simp only[am];refine OV 18 84 rfl b_ fun cK=>?_;simp only[am];refine OV 19 85 rfl b_ fun cK=>?_;simp only[am];refine OV 20 86 rfl b_ fun cK=>?_;simp only[am];refine OV 21 87 rfl b_ fun cK=>?_;simp only[am];refine OV 22 88 rfl b_ fun cK=>?_;simp only[am];refine OV 23 89 rfl b_ fun cK=>?_;simp only[am];refine OV 24 90 rfl b_ fun cK=>?_;simp only[am];refine OV 25 91 rfl b_ fun cK=>?_;simp only[am];refine OV 26 92 rfl b_ fun cK=>?_;simp only[am];refine OV 27 93 rfl b_ fun cK=>?_;simp only[am];refine nnA 28 94 rfl b_ fun cK=>?_;simp only[am];refine OV 29 95 rfl b_ fun cK=>?_;simp only[am];refine bH 30 96 (.bool true) rfl b_ fun cK=>?_;simp only[am];refine kO ?_;go_wp2;go_ret;exact⟨by rw[HE3.o];rfl,HE.o.1.tr HB.o.drew⟩
 |refine di 11 77 (.string ⟨nx.toArray⟩) rfl (fun V hX=>by obtain⟨g0,_⟩:=f2 V hX;go_simp) b_ fun cK=>?_
  simp only[am];refine bH 12 78 (.bool false) rfl b_ fun cK=>?_;simp only[am];refine bH 13 79 (.bool false) rfl b_ fun cK=>?_;simp only[am];refine bH 14 80 (.pointer (some ⟨w.heap.size,1,none⟩)) rfl b_ fun cK=>?_;simp only[am];refine di 15 81 (.slice (some ⟨b,off,none⟩) n2 qe) rfl (fun V hX=>by obtain⟨g0,_⟩:=f0 V hX;go_simp) b_ fun cK=>?_;simp only[am];refine bH 16 82 (.int .i64 j) rfl b_ fun cK=>?_;simp only[am];refine bH 17 83 (.pointer (some ⟨b,off+j*4,none⟩)) rfl b_ fun cK=>?_;simp only[am];refine bH 18 84 (.pointer (some ⟨b,off+j*4+1,none⟩)) rfl b_ fun cK=>?_;simp only[am];refine di 19 85 (.agg #[.bool u.v,.string u.n,.slice u.a u.l u.c]) rfl (fun V hX=>by obtain⟨_,g0,g1,g2⟩:=f1 V hX;go_simp) b_ fun cK=>?_;simp only[am];refine bH 21 87 (.pointer (some ⟨w.heap.size+1,1,none⟩)) rfl b_ fun cK=>?_;simp only[am];refine di 22 88 (.slice (some ⟨b2,off2,none⟩) n2 re) rfl (fun V hX=>by obtain⟨_,g0⟩:=f0 V hX;go_simp) b_ fun cK=>?_;simp only[am];refine bH 23 89 (.int .i64 j) rfl b_ fun cK=>?_;simp only[am];refine bH 24 90 (.pointer (some ⟨b2,off2+j*4,none⟩)) rfl b_ fun cK=>?_;simp only[am];refine bH 25 91 (.pointer (some ⟨b2,off2+j*4+1,none⟩)) rfl b_ fun cK=>?_;simp only[am];refine di 26 92 (.agg #[.bool v.v,.string v.n,.slice v.a v.l v.c]) rfl (fun V hX=>by obtain⟨_,g0,g1,g2⟩:=f2 V hX;go_simp) b_ fun cK=>?_;simp only[am];refine twM 20 27 rfl rfl (fun K hK=>?_) (fun K hK=>?_)
  case _=>
   have hb1:Below W2.heap.size W2 (wz.drew.alloc (.cells #[.bool u.v,.string u.n,.slice u.a u.l u.c] 43)):=HB.o.drew.alloc HB.o.size _;have cd:Below W2.heap.size W2 ((wz.drew.alloc (.cells #[.bool u.v,.string u.n,.slice u.a u.l u.c] 43)).alloc (.cells #[.bool v.v,.string v.n,.slice v.a v.l v.c] 43)):=hb1.alloc hb1.size _;have qB3:=();exact qlu
  have hb1:Below W2.heap.size W2 (wz.drew.alloc (.cells #[.bool v.v,.string v.n,.slice v.a v.l v.c] 43)):=HB.o.drew.alloc HB.o.size _;have cd:Below W2.heap.size W2 ((wz.drew.alloc (.cells #[.bool v.v,.string v.n,.slice v.a v.l v.c] 43)).alloc (.cells #[.bool u.v,.string u.n,.slice u.a u.l u.c] 43)):=hb1.alloc hb1.size _;exact qlu):G:=h
theorem qkP(h:G:=by
 rw[<-kM];have xf:=dj kM;have x8:=cA kM;have x58:=bY xf Mc.o.2.1;have x78:=bY xf Mc.o.2.2.1
 first
 |clear qAx;obtain⟨e0,e1,e2,e3,_,_,_,_⟩:=dw x58;obtain⟨f0,f1,f2,f3,_,_,_,_⟩:=dw x78;have CF:=Rb f im dM Cq.o.1.fit H5.o.2.2.2.fit (RK f (by have:=HN0.o;have:=sU.o;omega)) (fun b=>(¬M b/\b≠W1.heap.size)/\b<w7.heap.size) W8 ⟨Ja,Jb,Jc,Jd,Je,Jf,Jg,Jh⟩ ⟨p0,p1,p2,p3,p4,p5,p6,p7⟩ (Yw.o.move (fun b hb hlt=>⟨⟨hb,hlt⟩,xf.block b hlt⟩)) (Mc.o.2.2.2.move (fun b hb hlt=>⟨⟨hb,hlt⟩,xf.block b hlt⟩));have⟨FS,hFS⟩:=az (fG f im dM);rw[hg,<-hFS]at Yx;rw[<-hFS]at CF;simp only[FQ.val]at CF;have FJ:=ae CF;have H8:=cH xf x8 x58 x78;have⟨HG0,HFS⟩:=bi hg hFS;clear CF kM xf x8 x58 x78 hg hFS
  cases FS with
  |none=>
   have HE:=ae (show R=(k,70)from Yx);clear Yx;go_wp2_with (go_at_call 98;refine FJ.o.mono ?_;rintro e w9 ⟨⟨⟨Jl,Ur,Us,Ut,Uu⟩,rfl,ht⟩,oq⟩;have x9:=bY oq H8.o.2.1;obtain⟨s0,s1,s2,v0,v1,v2⟩:=ir x9;have H9:=aM oq x9;clear ht oq x9;simp only[TQ.val,Option.isSome]);obtain⟨lB,Cr,I1,T0,_⟩:=sT H9.o.2 (.bool Jl) (.string Ur) (.slice Us Ut Uu);rw[<-Cr];have zfz:=ae (Ox (M:=N2 mF mT) (Kp.below ((H2.o.2.1.tr (Mc.o.1.tr H8.o.1)).tr H9.o.1)) T0 (by have:=H2.o.2.1.size;have:=Mc.o.1.size;omega));clear Cr I1 T0;go_ret;exact dq.bad HE.o (by decide) zfz.o
  |some t=>
   have M4:dV t:=Ea H5.o.2.2.2.ok H5.o.2.2.2.nodes HFS.o.symm;have HE8:=ae (show R=if(ag f+n0*(ap t-1)!=ag im)=true then({k with ts:=iB y t k.ts },70)else if cI [] (gQ dM t f) im=true then({k with ts:=iB y t k.ts },0)else({k with ts:=iB y t k.ts },70)from Yx);have HGt:=ae M4;clear Yx M4;go_upto_region 17 with(go_at_call 98;refine FJ.o.mono ?_;rintro e w9 ⟨⟨⟨Jl,Ur,Us,Ut,Uu⟩,rfl,ht⟩,oq⟩;have x9:=bY oq H8.o.2.1;obtain⟨s0,s1,s2,v0,v1,v2⟩:=ir x9;have H9:=bS oq x9 (ht t rfl);clear ht oq x9;simp only[TQ.val,Option.isSome]);clear s0 s1 s2 v0 v1 v2 e0 e1 e2 e3 f0 f1 f2 f3;obtain⟨lB,Cr,I1,T0,y0,y1,y2⟩:=sT H9.o.2.1 (.bool Jl) (.string Ur) (.slice Us Ut Uu);rw[<-Cr];have zfA:w7.heap.size<W8.heap.size:=(bQ H8.o.2.1);have zaY:Below w7.heap.size w7 lB:=Below.kp1 (H8.o.1.tr H9.o.1) T0 (aK _);have _x:Below lB.heap.size lB lB.drew:=(ar _ _).drew;have zaZ:aN (fun b=>¬M b/\b≠W1.heap.size) lB (TQ.val ⟨Jl,Ur,Us,Ut,Uu⟩) t:=H9.o.2.2.move (fun b hb hlt=>⟨hb.2.1,T0.same b hlt (by have:=hb.2.2;omega)⟩);have H_:=_n.o.later zaY;obtain⟨Gi,cV,BH,EL,U1⟩:=(H_.later _x).storeT (fun h=>h.1 HG.o.2.1) (by have:=HB.o.2.1;omega) (x:=y) (by omega) (zaZ.later _x) HGt.o (l':=iB y t k.ts) (fun z=>D5 HG0.o z);have k0:lB.cell? ⟨kb,1,none⟩=some (.map (some mT)):=ao H_.box 1;have⟨k1,y3,y4,y5⟩:=mH _x k0 y0 y1 y2;have Ia:Below w7.heap.size w7 lB.drew:=zaY.tr _x;have dQ:∀b,¬M b->b≠mT:=fun b hb e=>hb (e▸HG.o.2.1);have Bo:∀b o,w7.heap[b]?=some o->b≠mT->Gi.heap[b]?=some o:=fun b o h jd=>(EL.same b (by have:=(bQ h);have:=Ia.size;omega) jd).trans ((Ia.block b (bQ h)).trans h);have zfB:=Bb.o.2.2.1;have x5':=Bo _ _ Mc.o.2.1 (by omega);have x7':=Bo _ _ Mc.o.2.2.1 (by have:=HT7.o;have:=H4.o.2.size;have:=Bb.o.2.2.2.1;omega);have xt':=(EL.same _ (by have:=(bQ I1);have:=_x.size;omega) (by have:=Mc.o.1.size;have:=Bb.o.2.2.2.1;omega)).trans (bY _x I1);have J9:Kp (N2 mF mT) W Gi:=(Kp.below (H2.o.2.1.tr (Mc.o.1.tr Ia))).trans (EL.mono (fun b _ h=>.inr h));have pA:=ae (Xf (an3 x5' x7' xt') J9 HGt.o BH ((Yw.o.later Ia).move (fun b hb hlt=>⟨hb,EL.same b hlt (dQ b hb.1)⟩)) ((Mc.o.2.2.2.later Ia).move (fun b hb hlt=>⟨hb,EL.same b hlt (dQ b hb.1)⟩)) ((zaZ.later _x).move (fun b hb hlt=>⟨hb,EL.same b hlt (dQ b hb.1)⟩)));unfold TQ.val at cV;clear zfA zaY _x zaZ H_ BH EL U1 Ia dQ Bo zfB x5' x7' xt' J9 I1 T0 Cr;go_region
   all_goals
    go_upto_region 18 with fail;clear k0 k1 y0 y1 y2 y3 y4 y5 cV;have⟨nt,zO⟩:=az (ap t);have⟨nf,yB⟩:=az (ag f);have⟨ni,Yy⟩:=az (ag im);have⟨m2,jQ⟩:=az (nt-1);have⟨m1,sK⟩:=az (n0*m2);have⟨m3,WU⟩:=az (nf+m1);have Rt:1<=nt:=by rw[zO];exact ln t
    have Bn:nt<=1000:=by rw[zO];exact pA.o.2.2.1.2
    have hp3:nf<=400:=by rw[yB];exact Cq.o.1.nodes
    have hp4:ni<=400:=by rw[Yy];exact H5.o.2.2.2.nodes
    have sS:m1<=400*1000:=by rw[sK];exact Nat.mul_le_mul sU.o.1 (by omega)
    have Cd:IntKind.i64.wrap ((nt:Int)-1)=(m2:Int):=by rw[jD _ (by omega)];omega
    have SA:IntKind.i64.wrap ((n0:Int)*(m2:Int))=(m1:Int):=by rw[show(n0:Int)*(m2:Int)=(m1:Int) by rw[sK];simp];exact jD _ (by omega)
    have hw3:IntKind.i64.wrap ((nf:Int)+(m1:Int))=(m3:Int):=by rw[jD _ (by omega)];omega
    have CNf:=fun(x:aA Gi)=>mV f Cq.o.1.fit _ x.w ⟨Ja,Jb,Jc,Jd,Je,Jf,Jg,Jh⟩ (pA.o.2.2.2.2.1.later x.below);have CNi:=fun(x:aA Gi)=>mV im H5.o.2.2.2.fit _ x.w ⟨p0,p1,p2,p3,p4,p5,p6,p7⟩ (pA.o.2.2.2.2.2.1.later x.below);have CNt:=fun(x:aA Gi)=>nd t pA.o.2.2.1.fit (by have:=pA.o.2.2.1.2;omega) _ x.w ⟨Jl,Ur,Us,Ut,Uu⟩ (pA.o.2.2.2.2.2.2.later x.below);simp only[FQ.val,TQ.val,<-yB,<-Yy,<-zO]at CNf CNi CNt;have⟨HCf,HCi,HCt⟩:=cU CNf CNi CNt;have hE1:=HE8.o;rw[<-yB,<-Yy,<-zO,<-jQ,<-sK,<-WU]at hE1;have HE1:=ae hE1;obtain⟨f0,f1,f2,f3,_,_,_,_⟩:=dw pA.o.1.1;obtain⟨i0,i1,i2,i3,_,_,_,_⟩:=dw pA.o.1.2.1;obtain⟨s0,s1,s2,_,_,_⟩:=ir pA.o.1.2.2;have q0:=fun x:aA Gi=>x.get f0;have q1:=fun x:aA Gi=>x.get f1;have q2:=fun x:aA Gi=>x.get f2;have q3:=fun x:aA Gi=>x.get f3;have q4:=fun x:aA Gi=>x.get i0;have q5:=fun x:aA Gi=>x.get i1;have q6:=fun x:aA Gi=>x.get i2;have q7:=fun x:aA Gi=>x.get i3;have q8:=fun x:aA Gi=>x.get s0;have q9:=fun x:aA Gi=>x.get s1;have q10:=fun x:aA Gi=>x.get s2;clear CNf CNi CNt hE1 zO yB Yy jQ sK WU Rt Bn hp3 hp4 sS f0 f1 f2 f3 i0 i1 i2 i3 s0 s1 s2;refine aQ (by kernel_rfl) (by kernel_rfl) ?_
    iterate 2 (go_big_quiet_step ((go_at_call 99;exact cq (HCf.o _))))
    iterate 7 (go_big_quiet_step ((go_at_call 100;exact cq (HCt.o _))))
    iterate 2 (go_big_quiet_step ((go_at_call 99;exact cq (HCi.o _))))
    refine wpQuiet_nil ?_;rintro _ ⟨x',rfl⟩;have⟨W9,vd⟩:=az x'.w;have oq:Below Gi.heap.size Gi W9:=by rw[vd];exact x'.below
    rw[<-vd];clear vd q0 q1 q2 q3 q4 q5 q6 q7 q8 q9 q10 Cd SA hw3 x';have EM:Kp (N2 mF mT) W W9:=pA.o.2.1.trans (Kp.below oq);have x27:=bY oq pA.o.1.1;have x79:=bY oq pA.o.1.2.1;have xt9:=bY oq pA.o.1.2.2;have OB:=HE1.o
    by_cases jd:m3=ni
    ·rw[aw (by simp[jd])]at OB;have qsa:=();exact qf6
    ·rw[aG (by simp[jd])]at OB;exact qf7
 |rw[hg]at Yx;have HE8:=ae (show R=if(ag f+n0*(ap t-1)!=ag im)=true then({k with ts:=k.ts },70)else if cI [] (gQ dM t f) im=true then({k with ts:=k.ts },0)else({k with ts:=k.ts },70)from Yx);have pA:=ae (Xf (an3 x58 x78 x8) (Kp.below (M:=N2 mF mT) (H2.o.2.1.tr (Mc.o.1.tr xf))) hpt (_n.o.later xf) (Yw.o.later xf) (Mc.o.2.2.2.later xf) (sV.later xf));clear kM xf x8 x58 x78 Yx hpt sV e0 e1 e2 e3 z0 z1 z2 z3 f0 f1 f2 f3 hg;have⟨nt,zO⟩:=az (ap t);have⟨nf,yB⟩:=az (ag f);have⟨ni,Yy⟩:=az (ag im);have⟨m2,jQ⟩:=az (nt-1);have⟨m1,sK⟩:=az (n0*m2);have⟨m3,WU⟩:=az (nf+m1);have Rt:1<=nt:=by rw[zO];exact ln t
  have Bn:nt<=1000:=by rw[zO];exact pA.o.2.2.1.2
  have hp3:nf<=400:=by rw[yB];exact Cq.o.1.nodes
  have hp4:ni<=400:=by rw[Yy];exact H5.o.2.2.2.nodes
  have sS:m1<=400*1000:=by rw[sK];exact Nat.mul_le_mul sU.o.1 (by omega)
  exact qjl):G:=h
theorem qln(h:G:=by
 have h0:=hc j hj 0 (by omega);have h1:=hc j hj 1 (by omega);have h2:=hc j hj 2 (by omega)
 first
 |clear an;rw[hx]at h0 h1 h2;exact⟨x0,x1,x2,by simp only[hx],h0,h1,h2⟩
 |have h3:=hc j hj 3 (by omega);rw[hx]at h0 h1 h2 h3;exact⟨x0,x1,x2,x3,by simp only[hx],h0,h1,h2,h3⟩):G:=h
theorem qbt(h:G:=by
 simp only[am];refine cb 11 rfl fun K hK=>?_;go_simp
 first
 |clear qoa;refine hK _ _ (fun _=>by rw[c9.o];exact(HB.o.drew).alloc HB.o.size _) (fun _=>?_)
  clear hK K;refine cb 12 rfl fun K hK=>?_;refine qk (.tmp 15) (.tmp 26) rfl w.heap.size ra (2*k) rc (cP (l.take k)) [l[k].1,l[k].2] [p,q] wz wz.drew _ HR.o HM.o ((ar _ _).drew) HB.o.size rfl (by simp) (fun j h1 h2=>?_) rfl rfl rfl (by simp;omega) (fun g eP w4 ea Nn=>?_)
  ·have WY:∀{x:Value}{f:Fm},aC (fun b=>b<w.heap.size) wz x f->aC (fun b=>(Value.slice ra (2*k:Nat) rc).ownBlock≠some b) wz.drew x f:=fun h=>
    h.move (show iN (fun b=>b<w.heap.size) (fun b=>(Value.slice ra (2*k:Nat) rc).ownBlock≠some b) wz wz.drew from fun c hc hlt=>⟨fun e=>by obtain⟨_,_,ho,_⟩:=HR.o;have:=(ho.lt c e).1;omega,rfl⟩)
   rcases j with _|_|j
   ·exact WY HP.o.1
   ·exact WY HP.o.2
   ·simp only[fB,List.length_nil]at h1;omega
  rw[<-MA bA]at ea;have sQ:=ae ea;have e9:=ae (Nn w HB.o.drew (aK _));clear ea Nn;have up:=();exact qaN
 |clear qwX
  first
  |clear qBS;have lJ:Below X4.heap.size X4 (X4.alloc (.cells #[.string ⟨xn.toArray⟩,.string ⟨yn.toArray⟩] 213)).drew:=((ar _ X4).alloc (aK _) _).drew;have qxq:=();exact qaF
  |have lJ:Below X4.heap.size X4 (X4.alloc (.cells #[.string ⟨xn.toArray⟩,.string ⟨yn.toArray⟩] 196)).drew:=((ar _ X4).alloc (aK _) _).drew;exact qaF
 |clear qBu;have lJ:Below w3.heap.size w3 (w3.alloc (.cells #[.string ⟨n.toArray⟩,.string ⟨m.toArray⟩] 196)).drew:=((ar _ w3).alloc (aK _) _).drew;have qxp:=();exact qaF
 |have lJ:Below X4.heap.size X4 (X4.alloc (.cells #[.string ⟨xn.toArray⟩,.string ⟨xn.toArray⟩] 213)).drew:=((ar _ X4).alloc (aK _) _).drew;have qxn:=();exact qaF):G:=h
theorem qfK(h:G:=by
 by_cases h:j<l.length
 ·obtain⟨a,h1,h2,_⟩:=hP j h;exact⟨a,fun _=>⟨h1,h2⟩⟩
 first
 |clear an
  ·exact⟨⟨0,ByteArray.empty,none,0,0,none,0,0⟩,fun h'=>absurd h' h⟩
 |·exact⟨⟨false,ByteArray.empty,none,0,0⟩,fun h'=>absurd h' h⟩):G:=h
theorem qeO(h:G:=by
 go_enter func232,ntmps232;go_wp2
 first
 |clear it;have zI:Below (W.alloc (.cells #[.bool false,.string ⟨#[]⟩,.slice none 0 0] 43)).heap.size (W.alloc (.cells #[.bool false,.string ⟨#[]⟩,.slice none 0 0] 43)) ((W.alloc (.cells #[.bool false,.string ⟨#[]⟩,.slice none 0 0] 43)).alloc (.cells #[.bool false,.string ⟨#[]⟩,.slice none 0 0] 43)):=dp;exact qeN
 |have zI:Below (W.alloc (.cells #[.bool qv,.string qn,.slice qa ql qc] 43)).heap.size (W.alloc (.cells #[.bool qv,.string qn,.slice qa ql qc] 43)) ((W.alloc (.cells #[.bool qv,.string qn,.slice qa ql qc] 43)).alloc (.cells #[.bool qv,.string qn,.slice qa ql qc] 43)):=dp;have hba:Below W.heap.size W (W.alloc (.cells #[.bool qv,.string qn,.slice qa ql qc] 43)):=dp;have hx:(W.alloc (.cells #[.bool qv,.string qn,.slice qa ql qc] 43)).heap[W.heap.size]?=some (.cells #[.bool qv,.string qn,.slice qa ql qc] 43 (0,0)):=aq rfl;exact qk9):G:=h
theorem qir(h:G:=by
 have g3:W6.cell? ⟨w.heap.size+1,3,none⟩=some (.slice ra k rc):=ao x6 3;have hz:=Bb.o
 first
 |clear qvC;have h6:aC (w.heap.size<=·) W6 (FQ.val ⟨qo,⟨n.toArray⟩,fN,k1,fO,ra,k,rc⟩) (.mk qo n (a.map aU) (s.map bI)):=eO.form (S5.o.kp1 k6 (by omega)) (HR.o.kp1 k6 (by have:=B_.o;omega)) rv.o.size (by have:=B_.o;have:=rv.o.size;omega);refine bX (v:=FQ.val ⟨qo,⟨n.toArray⟩,fN,k1,fO,ra,k,rc⟩) (by simp[FQ.val,results,results66,go_sem,g0,g1,g2,g3]) rfl (⟨⟨qo,⟨n.toArray⟩,fN,k1,fO,ra,k,rc⟩,rfl,h6,Below.kp1 cR.o k6 (by omega)⟩)
 |have h6:aC (w.heap.size<=·) W6 (FQ.val ⟨so,⟨n.toArray⟩,fN,k1,fO,ra,k,rc⟩) (.mk so n (a.map (dK kd.ts c)) (ss.map (dF kd c))):=eO.form (S5.o.kp1 k6 (by omega)) (HR.o.kp1 k6 (by have:=B_.o;omega)) eQ.o.size (by have:=B_.o;have:=eQ.o.size;omega);refine bX (v:=FQ.val ⟨so,⟨n.toArray⟩,fN,k1,fO,ra,k,rc⟩) (by simp[FQ.val,results,results72,go_sem,g0,g1,g2,g3]) rfl (⟨⟨⟨so,⟨n.toArray⟩,fN,k1,fO,ra,k,rc⟩,rfl,Ah.o▸h6⟩,Below.kp1 cR.o k6 (by omega)⟩)):G:=h
theorem qfD(h:G:=by
 injection h with _ h;injection h with _ h;exact absurd h jd):G:=h
theorem qlt(h:G:=by
 obtain⟨k,hk,rfl,row,hF⟩:=hrel;have aD:=hF.below eQ.o ((by omega))
 by_cases hlt:k<k0
 first
 |clear qBX
  ·have dG:=cG dN.o hlt;have qwO:=();exact qah
  ·obtain rfl:k=k0:=by omega
   have qy5:=();exact qby
 |·have dG:=cG dN.o hlt;have qwM:=();exact qah
  ·obtain rfl:k=k0:=by omega
   have qzM:=();exact qbx):G:=h
theorem qkZ(h:G:=by
 refine bH 0 3 (.pointer (some ⟨w.heap.size,0,none⟩)) rfl b_ fun cK=>?_;simp only[am]
 first
 |clear qAV;refine di 1 4 (.int .u8 qo) rfl (fun V hX=>by obtain⟨g0,g1,g2,g3⟩:=f0 V hX;go_simp) cK fun f_=>?_
  have qBB:=();exact qlh
 |refine di 1 4 (.bool qv) rfl (fun V hX=>by obtain⟨g0,g1,g2⟩:=f0 V hX;go_simp) cK fun f_=>?_
  exact qlh):G:=h
theorem qdU(h:G:=by
 rw[rK hq]
 by_cases h1:(n==x|| !(aP [] g).contains x)=true
 first
 |clear qyg
  ·rw[aG h1];refine yp _ _ _ _ (fun z hz=>?_);unfold jP;split
   ·rename_i hzx;rw[ef]at hzx;subst hzx;exfalso;simp only[aP,aF,List.filter_nil,sw,hq,if_true,bK,List.append_nil]at hz;have h3:=j5 n [g];simp only[bK,List.append_nil]at h3;rw[h3,List.mem_filter]at hz;simp only[Bool.or_eq_true,Bool.not_eq_true']at h1;rcases h1 with h1|h1
    ·have:=hz.2;rw[ef]at h1;subst h1;simp at this
    ·have:(aP [] g).contains z=true:=by simpa using hz.1
     rw[h1]at this;cases this
   ·rfl
  ·rw[aw h1];simp only[Bool.or_eq_true,Bool.not_eq_true',not_or,Bool.not_eq_true,Bool.not_eq_false]at h1;have uF:n≠x:=by simpa using h1.1
   by_cases h2:(aL u).contains n=true
   ·rw[aG h2];have hm:=qK (aP [] g++aL u) (by rw[ei];have:=fI g [];have:=qM u;omega);generalize dy (aP [] g++aL u)=m at hm;rw[List.mem_append,not_or]at hm;have up:=();exact qbh
   ·rw[aw h2];simp only[li,hq,if_true,tK,fv];rw[rL k g x u _ _ hw.2 hq1.2 (by omega) (by omega),KU (by simpa using h2),DG _ uF]
 |clear qyh
  ·rw[aG h1];exact AW
  ·rw[aw h1]
   by_cases h2:(aL u).contains n=true
   ·rw[aG h2];have hm:(dy (aP [] g ++ aL u)).length<=2000000:=rM (by
     have h3:=fI g [];have h4:=qM u;simp only[ei];omega)
    generalize hm':dy (aP [] g++aL u)=m;rw[hm']at hm;have GB:=();exact qbh
   ·rw[aw h2];have b1:=rN k g x u hw.2 hq1.2 (by omega) (by simp[af]at hs;omega) hf.2.2.2 hu;simp only[mI,eu,ak,bM,fU,List.map_nil,d8];exact⟨hf.1,hf.2.1,trivial,b1,trivial⟩
 |first
  |clear qye
   ·rw[aG h1];exact⟨pD,gY,rfl,rfl⟩
   ·rw[aw h1]
    by_cases h2:(aL (bj y)).contains n=true
    ·rw[aG h2];generalize dy (aP [] g++aL (bj y))=m;have an:=();exact qbh
    ·rw[aw h2];obtain⟨b1,b2,b3,b4⟩:=jz k g x y hw.2 hq1.2 (by omega);simp only[iV,gy,il,hO,a_,bl,ag,ah,fU,List.map_nil,eC,b1,b2,b3,b4,hq];simp
  |clear qyj
   ·rw[aG h1];exact Nat.le_mul_of_pos_right _ hu
   ·rw[aw h1]
    by_cases h2:(aL u).contains n=true
    ·rw[aG h2];generalize dy (aP [] g++aL u)=m;have it:=();exact qbh
    ·rw[aw h2];have b1:=yN k g x u hw.2 hq1.2 (by omega);exact qkQ
  |·rw[aG h1];exact⟨pD,gY⟩
   ·rw[aw h1]
    by_cases h2:(aL u).contains n=true
    ·rw[aG h2];generalize dy (aP [] g++aL u)=m;exact qbh
    ·rw[aw h2];obtain⟨b1,b2⟩:=rY hu k g x hw.2 hq1.2 (by omega);simp[iV,gy,il,hO,fU,eC,b1,b2]):G:=h
theorem qhA(h:G:=by
 clear aD cr;go_wp2;go_ret;exact⟨by rw[uN.o];rfl,HK.o⟩):G:=h
theorem qeu(h:G:=by
 go_wp2
 all_goals (go_ret;refine⟨aJ (by simp_all),dp⟩)):G:=h
theorem qhJ(h:G:=by
 have Cv:=ae (show J (pre++[]) W1/\Kp M W W1 from⟨by simpa using J',Kp.below jN⟩)
 first
 |clear qua;have⟨qG,HJ,HY⟩:=cU dU hJ hY;clear hq bN aI ih eh hj jN J' hJ hM hY dU oA cC;gi_wp2;rw[<-kf.o];gi_loopw [19] (fun i wr=>∃k:Nat,k<=m0/\i=.int .i64 k/\J (pre++([]++aF (a.take k))) wr/\Kp M W wr) (fun i _=>m0-(intOf i).toNat)
  case atStart=>exact⟨0,bn _,rfl,by simpa[aF]using Cv.o.1,Cv.o.2⟩
  case round=>
   have qzz:=();exact qau
 |clear hq bN aI ih eh hj jN J' hJ hM hY dU oA cC;go_wp2;rw[<-kf.o];go_loopw [19] (fun i wr=>∃k:Nat,k<=m0/\i=.int .i64 k/\J (pre++([]++aF (a.take k))) wr/\Kp M W wr) (fun i _=>m0-(intOf i).toNat)
  case atStart=>exact⟨0,bn _,rfl,by simpa[aF]using Cv.o.1,Cv.o.2⟩
  case round=>
   have qzC:=();exact qau):G:=h
theorem qh2(h:G:=by
 have Uh:=ae (show R=cX ps.reverse xs ys by rw[ht,iW (by rw[dN.o];exact aK _)];simp[ct])
 first
 |clear quA;have qqw:=();exact qa4
 |have qqB:=();exact qa4):G:=h
theorem qgw(h:G:=by
 have c1:wr.cell? ⟨w.heap.size+1+1+1,1,none⟩=some (.string ⟨n.toArray⟩):=ao x2 1
 first
 |clear up;have c2:wr.cell? ⟨w.heap.size+1+1+1,2,none⟩=some (.slice fN k1 fO):=ao x2 2;have c3:wr.cell? ⟨w.heap.size+1+1+1,3,none⟩=some (.slice ra k rc):=ao x2 3;obtain⟨e0,e1,e2,e3,z0,z1,z2,z3⟩:=dw x1;have Kb:=aM x1 aD;clear hF x1 x2 xp DP jW aD;go_wp2;obtain⟨W6,dr,x6,k6,g0,g1,g2,g3⟩:=tP Kb.o.1 (.int .u8 qo) (.string ⟨n.toArray⟩) (.slice fN k1 fO) (.slice ra k rc);rw[<-dr];have hr6:=sQ.o.kp1 k6 (by have:=eQ.o.2;have:=TE.o.2;omega);have ha6:=HRA.o.kp1 k6 (by have:=eQ.o.2;omega);have h6:aC (w.heap.size<=·) W6 (FQ.val ⟨qo,⟨n.toArray⟩,fN,k1,fO,ra,k,rc⟩) (.mk qo n XB us):=eO.form ha6 hr6 (by have:=eQ.o.2;omega) (by have:=eQ.o.2;have:=TE.o.2;omega);refine bX (v:=.tuple #[FQ.val ⟨qo,⟨n.toArray⟩,fN,k1,fO,ra,k,rc⟩,.bool true]) (by simp[FQ.val,results,results91,go_sem,g0,g1,g2,g3]) rfl ⟨⟨⟨qo,⟨n.toArray⟩,fN,k1,fO,ra,k,rc⟩,by rw[HE.o];rfl,fun u hu=>by rw[HE.o]at hu;cases hu;exact h6⟩,Below.kp1 Kb.o.2 k6 (by omega)⟩
 |have c2:wr.cell? ⟨w.heap.size+1+1+1,2,none⟩=some (.slice ra k rc):=ao x2 2;obtain⟨e0,e1,e2,z0,z1,z2⟩:=ir x1;have HX:=aM x1 aD;clear hF x1 x2 DP jW aD;go_wp2;obtain⟨W6,dr,x6,k6,g0,g1,g2⟩:=sT HX.o.1 (.bool false) (.string ⟨n.toArray⟩) (.slice ra k rc);rw[<-dr];have hr6:=sQ.o.kp1 k6 (by have:=TE.o.2;omega);have h6:aN (w.heap.size<=·) W6 (TQ.val ⟨false,⟨n.toArray⟩,ra,k,rc⟩) (.mk false n us):=dH.term (v:=false) (n:=n) (l:=k) hr6 (by have:=TE.o.2;omega);refine bX (v:=.tuple #[TQ.val ⟨false,⟨n.toArray⟩,ra,k,rc⟩,.bool true]) (by simp[TQ.val,results,results94,go_sem,g0,g1,g2]) rfl ⟨⟨⟨false,⟨n.toArray⟩,ra,k,rc⟩,by rw[HE.o];rfl,fun u hu=>by rw[HE.o]at hu;cases hu;exact h6⟩,Below.kp1 HX.o.2 k6 (by omega)⟩):G:=h
theorem qj6(h:G:=by
 have dW:S wr.drew:=by rw[hS];exact(ar _ _).drew
 have⟨c9,fk,dR,cR⟩:=f8 hS hF cr aD
 first
 |clear qy9;have HC:=ae (fun(V:World)(h:Below wr.heap.size wr V)=>qQ k.fs[j].2 (HP.o.2.2.1 _ Lw) ok V ⟨g0,g1,g2,g3,g4,g5,g6,g7⟩ (rS.later h));simp only[FQ.val]at HC;have WW:=ae (show k.fs.take j++[(nm,k.fs[j].2)]=k.fs.take (j+1) by rw[dQ,List.take_add_one,jn dG];rfl);have C7:(j:Int)<(n1:Int):=by omega
  have qBT:=();exact qkq
 |have HC:=ae (fun(V:World)(h:Below wr.heap.size wr V)=>rq k.ts[j].2 (HP.o.2.2.2 _ Lw) ok V ⟨g0,g1,g2,g3,g4⟩ (rS.later h));simp only[TQ.val]at HC;have WW:=ae (show k.ts.take j++[(nm,k.ts[j].2)]=k.ts.take (j+1) by rw[dQ,List.take_add_one,jn dG];rfl);have C7:(j:Int)<(p0:Int):=by omega
  exact qkq):G:=h
theorem qi2(h:G:=by
 have g1:=fun x:aA W3=>x.get (aa gU my.o.1);have g2:=fun x:aA W3=>x.get (aa gU my.o.2.1)
 first
 |clear qwE;have g3:=fun x:aA W3=>x.get (aa gU my.o.2.2.1);have g4:=fun x:aA W3=>x.get (aa gU my.o.2.2.2)
  first
  |clear qz2;have bV:=ae gU;have CC:=ae (fun(x:aA W3)=>gZ.o xs[k] (aH bA) ys[k] ps (.slice pa p0 pc) ok ok' x.w u u' I_ Cg.o ((HU.o.later bV.o).later x.below) ((vJ.o.later bV.o).later x.below) ((qZ.o.later bV.o).later x.below));have Ss:=();exact qbf
  |clear qB4;have bV:=ae gU;have CC:=ae (fun(x:aA W3)=>gZ.o xs[k] (aH bA) ys[k] (ps++[(xn,xn)]) (.slice (some ⟨g,0,none⟩) (p0+1) cap) ok ok' x.w u u' I_ Cg.o ((HU.o.later bV.o).later x.below) ((vJ.o.later bV.o).later x.below) ((qZ.o.later bV.o).later x.below));have Ss:=();exact qbf
  |clear qB5;have bV:=ae gU;have CC:=ae (fun(x:aA W3)=>gZ.o xs[k] (aH bA) ys[k] (ps++[(xn,yn)]) (.slice (some ⟨g,0,none⟩) (p0+1) cap) ok ok' x.w u u' I_ Cg.o ((HU.o.later bV.o).later x.below) ((vJ.o.later bV.o).later x.below) ((qZ.o.later bV.o).later x.below));have Ss:=();exact qbf
  |clear qz3;have bV:=ae gU;have CC:=ae (fun(x:aA W3)=>gZ.o xs[k] (aH bA) ys[k] ps (.slice pa p0 pc) ok ok' x.w u u' I_ Cg.o (Mx HWs.o (aH bA)) ((HU.o.later bV.o).later x.below) ((vJ.o.later bV.o).later x.below) ((qZ.o.later bV.o).later x.below));exact qbf
  |have bV:=ae gU;have CC:=ae (fun(x:aA W3)=>gZ.o xs[k] (aH bA) ys[k] (ps++[(xn,yn)]) (.slice (some ⟨g,0,none⟩) (p0+1) cap) ok ok' x.w u u' I_ Cg.o (Mx HWs.o (aH bA)) ((HU.o.later bV.o).later x.below) ((vJ.o.later bV.o).later x.below) ((qZ.o.later bV.o).later x.below));exact qbf
 |first
  |clear qoQ;have g3:=fun x:aA W3=>x.get (aa gU my.o.2.2);have bV:=ae gU;have CC:=ae (fun(x:aA W3)=>DM xa[k] ya[k] ps (.slice pa p0 pc) ok ok' x.w u u' Rl Cg.o ((HU.o.later bV.o).later x.below) ((vJ.o.later bV.o).later x.below) ((qZ.o.later bV.o).later x.below));have Ss:=();exact qb4
  |have g3:=fun x:aA W3=>x.get (aa gU my.o.2.2);have bV:=ae gU;have CC:=ae (fun(x:aA W3)=>My xa[k] ya[k] ps (.slice pa p0 pc) ok ok' x.w u u' Rl Cg.o (Fb HWf.o (aH bA)) ((HU.o.later bV.o).later x.below) ((vJ.o.later bV.o).later x.below) ((qZ.o.later bV.o).later x.below));exact qb4):G:=h
theorem qef(h:G:=by
 obtain⟨a,cap,vs,hv,hs,h⟩:=h;refine⟨a,cap,vs,hv,?_,fun j hj=>(h j hj).move hb⟩
 first
 |clear it;have GB:=();exact qaC
 |have I8:=();exact qaC):G:=h
theorem qfs(h:G:=by
 rcases dc.1 ht with rfl|ht
 ·exact h.1
 ·exact ih h.2 ht):G:=h
theorem qho(h:G:=by
 repeat (go_big_quiet_step ((go_at_call 160;exact cq (CC.o _))))
 first
 |clear qtr;have ZU:=();exact qad
 |have qf9:=();exact qad):G:=h
theorem qkN(h:G:=by
 simp only[Int.toNat_zero,Int.toNat_natCast,jv]at h;exact h):G:=h
theorem qj3(h:G:=by
 go_wp2;go_ret;exact⟨by rw[HE3.o];rfl,HE.o.1.tr cQ.o⟩):G:=h
theorem qdf(h:G:=by
 have _l:=bY vM pP.o;have NS:=jb.o.trans (vM.mono jb.o.size)
 first
 |clear qt6;rw[<-ki (xn,xn) ps]at aE;have qva:=();exact qdn
 |clear qt8;rw[<-ki (xn,yn) ps]at aE;have qvb:=();exact qdn
 |rw[<-ki (xn,yn) ps]at aE;exact qdn):G:=h
theorem qkD(h:G:=by
 have uY:(pre++([]++aF (a.take k))++aL a[k]) <+: xs:=by
  have up:=();exact qbQ
 first
 |clear Ss;have CC:=gZ.o a[k] (aH bA) M B l J xs (pre++([]++aF (a.take k))) _ u FT (fun t=>(HJ.o t).mono (by simp;omega)) (HY.o.later (bD.trans (Kp.below hB))) (hu.kp (bD.trans (Kp.below hB))) uY (HJ.o _ _ _ (Nw.below hB) hj);have qkE:=();exact qbO
 |have CC:=gZ.o a[k] (aH bA) M B J xs (pre++([]++aF (a.take k))) _ u FT (fun t=>(HJ.o t).mono (by simp;omega)) HG.o (hu.kp (bD.trans (Kp.below hB))) uY (HJ.o _ _ _ ((Nw.below hB)) hj);exact qbO):G:=h
theorem qlv(h:G:=by
 obtain⟨k1,hk,rfl,row,hF⟩:=hrel;obtain⟨IW,TB⟩:∃x,x=wr:=⟨_,rfl⟩;subst TB
 first
 |clear qB6;have aD:=hF.below eQ.o (by omega)
  by_cases hlt:k1<n1
  ·have dG:=cG sU.o hlt;have qwV:=();exact qah
  ·obtain rfl:k1=n1:=by omega
   exact qfT
 |have aD:=hF.below eQ.o ((by omega))
  by_cases hlt:k1<k0
  ·have dG:=cG dN.o hlt;have qwL:=();exact qah
  ·obtain rfl:k1=k0:=by omega
   exact qfQ):G:=h
theorem qlw(h:G:=by
 obtain⟨k1,hk,rfl,row,hF⟩:=hrel;obtain⟨IW,wh⟩:∃x,x=wr:=⟨_,rfl⟩;subst wh
 first
 |clear qB7;have aD:=hF.below rv.o (Nat.le_add_right _ 2)
  by_cases hlt:k1<k0
  ·have dG:=cG dN.o hlt;have qwT:=();exact qah
  ·obtain rfl:k1=k0:=by omega
   have cr:((a.map aU).take k1).length=k1:=by rw[dO];have:=dN.o;simp;omega
   have jW:(a.map aU).take k1=(a.map aU):=gB (by have:=dN.o;simp;omega);have qBR:=();exact qdC
 |have aD:=hF.below eQ.o (by omega)
  by_cases hlt:k1<k0
  ·have dG:=cG dN.o hlt;have qwU:=();exact qah
  ·obtain rfl:k1=k0:=by omega
   have cr:((a.map (ep (s8 c))).take k1).length=k1:=by rw[dO];have:=dN.o;simp;omega
   have jW:(a.map (ep (s8 c))).take k1=(a.map (ep (s8 c))):=gB (by have:=dN.o;simp;omega);exact qiY):G:=h
theorem qfn(h:G:=by
 rcases dc.1 h with rfl|h
 ·exact hk.1
 ·exact ih h hk.2):G:=h
theorem qjJ(h:G:=by
 go_ret;exact⟨rfl,HB.o.trans (H1.o.mono HB.o.size)⟩):G:=h
theorem qkl(h:G:=by
 go_simp;refine aO.2 ((vI.o _ HA.o.1).mono ?_);rintro _ A ⟨⟨r1,r2,rfl,hp⟩,hA⟩
 first
 |clear qzE;simp only[<-gT.o]at hp⊢;have cd:Below W5.heap.size W5 A:=HA.o.1.trans (hA.mono HA.o.1.size);have H7:=cH ((hA.block _ HA.o.2.2.2).trans HA.o.2.1) (Nat.le_of_eq HA.o.2.2.1) cd (hp.move (W':=A) (ok':=fun b=>W5.heap.size<=b/\b≠EB) (fun b hb hlt=>⟨⟨aR HA.o.1.size hb,fun e=>by have:=HA.o.2.2.2;have:A1.heap.size<=b:=hb;omega⟩,rfl⟩));have up:=();exact qb5
 |simp only[<-dN.o]at hp⊢;have cd:Below W0.heap.size W0 A:=HA.o.1.trans (hA.mono HA.o.1.size);have H7:=cH ((hA.block _ HA.o.2.2.2).trans HA.o.2.1) (Nat.le_of_eq HA.o.2.2.1) cd (hp.move (W':=A) (ok':=fun b=>W0.heap.size<=b/\b≠EB) (fun b hb hlt=>⟨⟨aR HA.o.1.size hb,fun e=>by have:=HA.o.2.2.2;have:A1.heap.size<=b:=hb;omega⟩,rfl⟩));have Ss:=();exact qb5):G:=h
theorem qiE(h:G:=by
 have HC:=ae CC;have HE:=ae (show R=some g from jm);have H5:=aM (l9.tr bE) (bY bE hx)
 first
 |clear qvY;clear CC l9 aD jm hf Un bE hx hZ hg dQ c0 c1 c2 c3 c4 hok;go_wp2_with (rw[<-tS.o];go_at_call 51;refine HC.o.mono ?_;rintro e w6 ⟨⟨p0,p1,p2,p3,p4,p5,p6,p7⟩,rfl,hp,dh⟩;have hx6:=bY dh H5.o.2;obtain⟨e0,e1,e2,e3,y0,y1,y2,y3⟩:=dw hx6;have H6:=bS hx6 hp dh;clear hx6 hp dh);obtain⟨W8,kM,x8,k8,g0,g1,g2,g3⟩:=tP H6.o.1 (.int .u8 p0) (.string p1) (.slice p2 p3 p4) (.slice p5 p6 p7);rw[<-kM];refine bX (v:=.tuple #[FQ.val ⟨p0,p1,p2,p3,p4,p5,p6,p7⟩,.bool true]) (by simp[FQ.val,results,results16,go_sem,g0,g1,g2,g3]) rfl ⟨⟨⟨p0,p1,p2,p3,p4,p5,p6,p7⟩,by rw[HE.o];rfl,?_⟩,Below.kp1 (H5.o.1.tr H6.o.2.2) k8 (by omega)⟩;exact qkJ
 |clear CC l9 aD jm hf Un bE hx hZ hg dQ c0 c1 c2 c3 hok;go_wp2_with (rw[<-tS.o];go_at_call 53;refine HC.o.mono ?_;rintro e w6 ⟨⟨p0,p1,p2,p3,p4⟩,rfl,hp,dh⟩;have hx6:=bY dh H5.o.2;obtain⟨e0,e1,e2,y0,y1,y2⟩:=ir hx6;have H6:=bS hx6 hp dh;clear hx6 hp dh);obtain⟨W8,kM,x8,k8,g0,g1,g2⟩:=sT H6.o.1 (.bool p0) (.string p1) (.slice p2 p3 p4);rw[<-kM];refine bX (v:=.tuple #[TQ.val ⟨p0,p1,p2,p3,p4⟩,.bool true]) (by simp[TQ.val,results,results18,go_sem,g0,g1,g2]) rfl ⟨⟨⟨p0,p1,p2,p3,p4⟩,by rw[HE.o];rfl,?_⟩,Below.kp1 (H5.o.1.tr H6.o.2.2) k8 (by omega)⟩;exact qkJ):G:=h
theorem qc6(h:G:=by
 have Z5:∀f,(Fence.wide.inRound lR).fn f:=fun _=>trivial
 first
 |clear qsY
  by_cases SN:er=0
  first
  |clear qsc
   ·subst SN;gi_wp2_with (gi_at_call 47;refine CallsIn.inRound lR (aO.2 (vQ.o.mono ?_));rintro e w4 ⟨nV,rfl,xF⟩;have JJ:=(nV.same _ (bQ HG.o.2.2.1) (HG.o.2.2.2.2.2.2.2.1 _ (by omega) (by omega))).trans HG.o.2.2.1;have E1:=(nV.same _ (bQ HG.o.2.2.2.1) (HG.o.2.2.2.2.2.2.2.1 _ (by omega) (by omega))).trans HG.o.2.2.2.1;have JK:=(nV.same _ (bQ HG.o.2.2.2.2.2.2.2.2.1) (HG.o.2.2.2.2.2.2.2.1 _ (by omega) (by omega))).trans HG.o.2.2.2.2.2.2.2.2.1;have y0:=ao JJ 0;have y1:=ai JJ 0;have y2:=ao E1 0;have y3:=ai E1 0;have y4:=ao JK 0;have H4:=gN nV xF JJ E1 JK;clear nV xF JJ E1 JK);obtain⟨nF4,nT4,eB,jY,nV⟩:=H4.o.2.1 (by simp);have an:=();exact qbG
   ·have zfD:(er==0)=false:=by simp[SN]
    gi_wp2_with (gi_at_call 47;refine CallsIn.inRound lR (aO.2 (vQ.o.mono ?_));rintro e w4 ⟨nV,rfl,xF⟩;have JJ:=(nV.same _ (bQ HG.o.2.2.1) (HG.o.2.2.2.2.2.2.2.1 _ (by omega) (by omega))).trans HG.o.2.2.1;have E1:=(nV.same _ (bQ HG.o.2.2.2.1) (HG.o.2.2.2.2.2.2.2.1 _ (by omega) (by omega))).trans HG.o.2.2.2.1;have JK:=(nV.same _ (bQ HG.o.2.2.2.2.2.2.2.2.1) (HG.o.2.2.2.2.2.2.2.1 _ (by omega) (by omega))).trans HG.o.2.2.2.2.2.2.2.2.1;have y0:=ao JJ 0;have y1:=ai JJ 0;have y2:=ao E1 0;have y3:=ai E1 0;have y4:=ao JK 0;have J_:Kp (fun b=>b=aB+1) w4 (w4.setCell ⟨aB+1,0,none⟩ (.int .i64 er)):=ks;have xa6:=(J_.same _ (bQ E1) (by omega)).trans E1;have xi6:=(J_.same _ (bQ JK) (by omega)).trans JK;have y5:=ao xi6 0;have y6:=ao xa6 0;have y7:=ai xa6 0;clear J_ xa6 xi6;have H4:=gN nV xF JJ E1 JK;clear nV xF JJ E1 JK);exact qbG
  |·subst SN;gi_wp2_with (gi_at_call 48;refine CallsIn.inRound lR (aO.2 (vQ.o.mono ?_));rintro e w4 ⟨nV,rfl,xF⟩;have JJ:=(nV.same _ (bQ HG.o.2.2.1) (HG.o.2.2.2.2.2.2.2.1 _ (by omega) (by omega))).trans HG.o.2.2.1;have E1:=(nV.same _ (bQ HG.o.2.2.2.1) (HG.o.2.2.2.2.2.2.2.1 _ (by omega) (by omega))).trans HG.o.2.2.2.1;have JK:=(nV.same _ (bQ HG.o.2.2.2.2.2.2.2.2.1) (HG.o.2.2.2.2.2.2.2.1 _ (by omega) (by omega))).trans HG.o.2.2.2.2.2.2.2.2.1;have y0:=ao JJ 0;have y1:=ai JJ 0;have y2:=ao E1 0;have y3:=ai E1 0;have y4:=ao JK 0;have H4:=gN nV xF JJ E1 JK;clear nV xF JJ E1 JK);obtain⟨nF4,nT4,eB,jY,nV⟩:=H4.o.2.1 (by simp);have an:=();exact qbG
   ·have zfD:(er==0)=false:=by simp[SN]
    gi_wp2_with (gi_at_call 48;refine CallsIn.inRound lR (aO.2 (vQ.o.mono ?_));rintro e w4 ⟨nV,rfl,xF⟩;have JJ:=(nV.same _ (bQ HG.o.2.2.1) (HG.o.2.2.2.2.2.2.2.1 _ (by omega) (by omega))).trans HG.o.2.2.1;have E1:=(nV.same _ (bQ HG.o.2.2.2.1) (HG.o.2.2.2.2.2.2.2.1 _ (by omega) (by omega))).trans HG.o.2.2.2.1;have JK:=(nV.same _ (bQ HG.o.2.2.2.2.2.2.2.2.1) (HG.o.2.2.2.2.2.2.2.1 _ (by omega) (by omega))).trans HG.o.2.2.2.2.2.2.2.2.1;have y0:=ao JJ 0;have y1:=ai JJ 0;have y2:=ao E1 0;have y3:=ai E1 0;have y4:=ao JK 0;have J_:Kp (fun b=>b=aB+1) w4 (w4.setCell ⟨aB+1,0,none⟩ (.int .i64 er)):=ks;have xa6:=(J_.same _ (bQ E1) (by omega)).trans E1;have xi6:=(J_.same _ (bQ JK) (by omega)).trans JK;have y5:=ao xi6 0;have y6:=ao xa6 0;have y7:=ai xa6 0;clear J_ xa6 xi6;have H4:=gN nV xF JJ E1 JK;clear nV xF JJ E1 JK);exact qbG
 |clear it;have HSz:=ae (show bv<=1000000 by rw[AA,<-_A.o];exact hsz);clear hsz;clear CS Vl g1 g2 g3 g4 lw Bn kF uF YP ia FH zi _C AA Ax;have⟨S0,b_⟩:=az (pre.map JL).sum;have zm:((pre++[x]).map JL).sum=S0+bv:=by rw[b_,Qj.o];simp
  have hG:=HG.o;rw[<-b_]at hG;have⟨HGs,zfO⟩:=bi hG zm;clear b_ zm hG;have quM:=();exact qan
 |clear CS Vl g1 g2 g3 lw Bn kF uF YP ia FH zi _C AA Ax
  first
  |clear qvK
   cases bv with
   |false=>
    gi_wp2_with (gi_at_call 124;refine CallsIn.inRound lR (aO.2 (vQ.o.mono ?_));rintro e w4 ⟨rfl,aY⟩;have H4:=ae aY;clear aY);exact qkR
   |true=>
    gi_wp2_with (gi_at_call 124;refine CallsIn.inRound lR (aO.2 (vQ.o.mono ?_));rintro e w4 ⟨rfl,aY⟩;have RT:=bY aY HG.o.2.1;have z0:=ao RT 0;have z1:=ai RT 0;have H4:=aM aY RT;clear aY RT);have iZ:Kp (fun b=>b=w.heap.size+1+1) w4 (w4.setCell ⟨w.heap.size+1+1,0,none⟩ (.int .i64 6)):=ks;have FM:Kp M1 w4 (w4.setCell ⟨w.heap.size+1+1,0,none⟩ (.int .i64 6)):=iZ.mono (fun b _ h=>by subst h;rw[I'.o]);exact qj9
  |cases bv with
   |false=>
    gi_wp2_with (gi_at_call 125;refine CallsIn.inRound lR (aO.2 (vQ.o.mono ?_));rintro e w4 ⟨rfl,aY⟩;have H4:=ae aY;clear aY);exact qkR
   |true=>
    gi_wp2_with (gi_at_call 125;refine CallsIn.inRound lR (aO.2 (vQ.o.mono ?_));rintro e w4 ⟨rfl,aY⟩;have RT:=bY aY HG.o.2.1;have z0:=ao RT 0;have z1:=ai RT 0;have H4:=aM aY RT;clear aY RT);have iZ:Kp (fun b=>b=w.heap.size+1+1) w4 (w4.setCell ⟨w.heap.size+1+1,0,none⟩ (.int .i64 72)):=ks;have FM:Kp M2 w4 (w4.setCell ⟨w.heap.size+1+1,0,none⟩ (.int .i64 72)):=iZ.mono (fun b _ h=>by subst h;rw[HM2.o]);exact qj9):G:=h
theorem qll(h:G:=by
 have x6:=sN (v0:=.bool true) (v1:=.string ⟨n.toArray⟩) (v2:=.slice ra k rc) lT.o
 first
 |clear up;have qyb:=();exact qcY
 |have qyc:=();exact qcY):G:=h
theorem qb9(h:G:=by
 rcases hs with hs|⟨b,off,ha,hok,hcl⟩
 ·exact .inl hs
 first
 |clear an
  ·by_cases h0:l=[]
   ·exact .inl h0
   ·have hk:=hb b hok (World.block_lt_of_cell? W _ (hcl 0 (jR.2 h0)).1);refine .inr ⟨b,off,ha,hk.1,fun j hj=>?_⟩;obtain⟨h0,h1,h2,h3,h4,h5,h6,h7⟩:=hcl j hj;exact⟨du hk.2 h0,du hk.2 h1,du hk.2 h2,du hk.2 h3,du hk.2 h4,du hk.2 h5,du hk.2 h6,du hk.2 h7⟩
 |clear it
  first
  |clear qlJ
   ·by_cases h0:l=[]
    ·exact .inl h0
    ·have hk:=hb b hok (World.block_lt_of_cell? W _ (hcl 0 (jR.2 h0)).1);refine .inr ⟨b,off,ha,hk.1,fun j hj=>?_⟩;obtain⟨h0,h1,h2,h3,h4⟩:=hcl j hj;exact⟨du hk.2 h0,du hk.2 h1,du hk.2 h2,du hk.2 h3,du hk.2 h4⟩
  |·by_cases h0:l=[]
    ·exact .inl h0
    ·have hk:=hb b hok (World.block_lt_of_cell? W _ (hcl 0 (jR.2 h0)).1);refine .inr ⟨b,off,ha,hk.1,fun j hj=>?_⟩;obtain⟨h0,h1,h2,h3⟩:=hcl j hj;exact⟨du hk.2 h0,du hk.2 h1,du hk.2 h2,du hk.2 h3⟩
 |first
  |clear qnP
   ·refine .inr ⟨b,off,ha,hok,fun j hj=>?_⟩;obtain⟨h0,h1,h2,h3,h4⟩:=hcl j hj;exact⟨hn.cell h0,hn.cell h1,hn.cell h2,hn.cell h3,hn.cell h4⟩
  |·refine .inr ⟨b,off,ha,hok,fun j hj=>?_⟩
    obtain⟨h0,h1,h2,h3⟩:=hcl j hj;exact⟨hn.cell h0,hn.cell h1,hn.cell h2,hn.cell h3⟩):G:=h
theorem qaV(h:G:=by
 simp only[Prod.mk.injEq,and_true]at h;subst h
 first
 |clear an;refine⟨⟨Dj hg,fun _ _ h=>h⟩,fun oR hk=>?_⟩
  unfold bc;rw[aw gq,aG kL,hi];simp only;rw[hk.f _ _ (IJ hg)];simp[KL]
 |clear it;obtain⟨h1,h2⟩:=Dm _ _ _ _ _ ha;refine⟨⟨fun _ _ h=>h,h1⟩,fun oR hk=>?_⟩;unfold bc;rw[aw gq,aw kL,aw hd,h2 oR.ts hk.t]
 |clear up;refine⟨⟨fun _ _ h=>h,Dj ht⟩,fun oR hk=>?_⟩
  unfold dE;rw[aw gq,hk.f _ _ hg];have:=hk.t _ _ (IJ ht);simp only[hi,aw h0,this,aw hn,aG ha]
 |clear GB;obtain⟨k1,k2⟩:=(fp k).1 hk;refine(fp _).2 ⟨Xw k1 ?_ (GR hp hi) hg,k2⟩;exact qeH
 |obtain⟨k1,k2⟩:=(fp k).1 hk;refine(fp _).2 ⟨k1,yo hp.c _ _ _ _ ?_ ?_ k2 ha⟩
  ·have hs:=hp.s;obtain⟨⟨o,n,a,s⟩,f,c⟩:=p;simp only[gF,ak]at hs;exact hs.2.2.2.1
  ·have hs:=hp.f;obtain⟨s,⟨o,n,a,l⟩,c⟩:=p;simp only[gF,ak]at hs;exact hs.2.2.2.1):G:=h
theorem qeV(h:G:=by
 have XT:iN ok ok W w':=fun b hb hlt=>⟨hb,kp.same b hlt (fun e=>hok (e▸hb))⟩
 first
 |clear an;refine⟨w',hr,⟨(kp.same _ h.ltb h.ne2).trans h.box,hm.move rfl (fun _ _ _ _ ⟨q,e,hv,hp⟩=>⟨q,e,hv.move XT,hp⟩),h.ts.move (kp.same _ h.ts.lt (fun e=>h.ne1 e.symm)) (fun _ _ _ _ ⟨q,e,hv,hp⟩=>⟨q,e,hv.move XT,hp⟩),h.ne1,h.ne2,h.ne3⟩,kp,hs⟩
 |refine⟨w',hr,⟨(kp.same _ h.ltb h.ne3).trans h.box,h.fs.move (kp.same _ h.fs.lt h.ne1) (fun _ _ _ _ ⟨q,e,hv,hp⟩=>⟨q,e,hv.move XT,hp⟩),hm.move rfl (fun _ _ _ _ ⟨q,e,hv,hp⟩=>⟨q,e,hv.move XT,hp⟩),h.ne1,h.ne2,h.ne3⟩,kp,hs⟩):G:=h
theorem qkd(h:G:=by
 have:=congrArg List.length hd.2.2.2;rwa [iT,iT]at this):G:=h
theorem qea(h:G:=by
 obtain⟨ed,ZE,hb⟩:=Array.any_eq_true'.1 h;simp only[ak,Bool.or_eq_true,ef]at hb
 first
 |clear an;have h1:=hc j oj hj hl ed ZE hb.1;exact qlj
 |have h1:=gt ed ZE hb.1;exact qlj):G:=h
theorem qd5(h:G:=by
 simp only at c0 c1 c2;have⟨d0,d1,d2⟩:=kB Am c0 c1 c2
 first
 |clear qzP;have qvm:=();exact qaL
 |clear qzQ;have qvn:=();exact qaL
 |have qvk:=();exact qaL):G:=h
theorem qkQ(h:G:=by
 simp only[ag,ah,fU,List.map_nil,af,Nat.add_mul];omega):G:=h
theorem qjN(h:G:=by
 gi_wp2_with fail;refine aO.2 (FJ.o.mono ?_);rintro e wf ⟨⟨vf,rfl,hvf⟩,zI⟩
 first
 |clear qyF;clear e0 e1 e2 e3;have ZI:=gp (aP [] G);have pM:=fI G [];have CT:=io (dX (aP [] G)) (by have:=qr.o.1;omega) n _ wf vf hvf.strs;rw[om]at CT;have x0:=bY zI SG.o.1;have x1:=bY zI SG.o.2.1;have x2:=bY zI SG.o.2.2.1;have x3:=bY zI SG.o.2.2.2;have n1:=ao x0 1;have K_:=ae CT;have HXf:=cH x0 x1 x2 x3;have HBf:=bS (TE.o.1.tr zI) (aR TE.o.2.2 zI.size) (HFq.o.later zI);have WN:=bS hvf ZI pM;clear CT x0 x1 x2 x3 zI hvf ZI pM;gi_wp2_with fail;refine aO.2 (K_.o.mono ?_);rintro e wt ⟨rfl,rfl⟩
  cases wM:(aP [] G).contains n with
  |false=>
   have HRm:=ae (show RS=.mk so n [] [gQ (cg n) (bj n) G] by rw[HRq.o];unfold rk;rw[wM];rfl);have HM:=ae (show n.length<=2000000 by have:=WR.o.2.1;omega);have⟨w3,PI⟩:=az wt;subst PI;have⟨Mk,La⟩:=bi HXf.o HBf.o;clear wM n1;gi_wp2_with fail;have qxT:=();exact qil
  |true=>
   have⟨m,hm⟩:=az (dy (aP [] G));have HRm:=ae (show RS=.mk so m [] [gQ (cg n) (bj m) G] by rw[HRq.o,hm];unfold rk;rw[wM];rfl);have HM:=ae (show m.length<=2000000 by rw[hm];exact rM (by have:=WN.o.2.2;have:=qr.o.1;omega));have CFr:=G0 WB wt (TS.o.next HBf.o.1) (dX (aP [] G)) (by have:=WN.o.2;have:=qr.o.1;omega) (fun x hx=>oo G [] qr.o.2.1 x ((eG x _).1 hx)) _ vf WN.o.1.strs;rw[show dy (dX (aP [] G))=m from(GW (by have:=WN.o.2;have:=qr.o.1;omega) (by have:=WN.o.2;have:=qr.o.1;omega) (fun x=>eG x _)).trans hm.symm]at CFr;have zax:=ae CFr;clear wM n1 hm CFr;gi_wp2_with fail;refine aO.2 (zax.o.mono ?_);rintro e w8 ⟨rfl,jc⟩;have x0:=bY jc HXf.o.1;have x1:=bY jc HXf.o.2.1;have x2:=bY jc HXf.o.2.2.1;have x3:=bY jc HXf.o.2.2.2;have r1:=ao x2 1;have rz:=ai x2 1;have⟨w3,PI⟩:=az (w8.setCell ⟨w.heap.size+1+1,1,none⟩ (.string ⟨m.toArray⟩));have kq:Kp (fun b=>b=w.heap.size+1+1) w8 w3:=by rw[PI];exact⟨rfl,rfl,rfl,by simp,fun c _ hc=>e_ _ _ _ _ (by simpa using hc)⟩
   have x2q:w3.heap[w.heap.size+1+1]?=some (.cells #[.int .u8 so,.string ⟨m.toArray⟩,.slice fN 0 fO,.slice none 0 0] 36 (0,0)):=by rw[PI];exact(bJ (F:=1) x2 (.string ⟨m.toArray⟩)).trans rfl
   have XE:=Bb.o;have zfV:=TE.o.2.1;have Mk:=cH ((kq.same _ (bQ x0) (by omega)).trans x0) ((kq.same _ (bQ x1) (by omega)).trans x1) x2q ((kq.same _ (bQ x3) (by have:=B_.o;omega)).trans x3);have La:=bS (Below.kp1 (HBf.o.1.tr jc) kq (by omega)) (aR HBf.o.2.1 (aR jc.size kq.size)) ((HBf.o.2.2.later jc).move (fun b hb hlt=>⟨hb,kq.same b hlt (by have h:W1.heap.size<=b:=hb;omega)⟩));have Hwq:=ae PI;clear x0 x1 x2 x3 kq x2q jc XE zfV PI;gi_wp2_with fail
   try rw[<-Hwq.o]
   exact qil
 |clear d0 d1 d2 d3 p3;have Lh:=ae (HPB.o.later zI);have⟨ze5,WN⟩:=bi zI.size hvf;clear zI hvf;have p0:wf.cell? ⟨w.heap.size,0,none⟩=some (.int .u8 qo):=ao Lh.o.b0 0;have p1:wf.cell? ⟨w.heap.size,1,none⟩=some (.string ⟨n.toArray⟩):=ao Lh.o.b0 1;have p2:wf.cell? ⟨w.heap.size,2,none⟩=some (.slice qa 0 qc):=ao Lh.o.b0 2;have p3:wf.cell? ⟨w.heap.size,3,none⟩=some (.slice (some ⟨b,off,none⟩) 1 qe):=ao Lh.o.b0 3
  by_cases hn:n=nx
  ·subst hn;have Ah:Hd (RS=.mk qo n [] [g]):=ae (by rw[Z9.o,rK td,aG (by simp)]);have CC:=qQ (.mk qo n [] [g]) HFq.o.1 ok wf ⟨qo,⟨n.toArray⟩,qa,0,qc,some ⟨b,off,none⟩,1,qe⟩ (HFq.o.2.later Lh.o.below);exact qgs
  ·have hnb:(n==nx)=false:=by simpa using hn
   cases wM:(aP [] g).contains nx with
   |false=>
    have Ah:Hd (RS=.mk qo n [] [g]):=ae (by rw[Z9.o,rK td,wM];simp);have qAp:=();exact qkI
   |true=>
    exact qkI):G:=h
theorem qgL(h:G:=by
 go_enter func160,ntmps160
 first
 |clear up;cases uv
  ·have tO:Hd (R=(xn==yn&&ct ps.reverse xa ya)):=ae (by rw[HM.o];simp)
   by_cases dQ:xn=yn
   ·subst dQ;have qBw:=();exact qdK
   ·have iZ:(xn==yn)=false:=by simpa using dQ
    have up:=();exact qdH
  ·go_wp2;rw[<-gh.o];go_loopw [7] (fun i wr=>∃j:Nat,j<=p0/\i=.int .i64 ((j:Int)-1)/\Below W2.heap.size W2 wr/\nW ps.reverse xn yn=nW (ps.take j).reverse xn yn) (fun i _=>(intOf i+1).toNat)
   case atStart=>exact⟨p0,aK _,by go_num,ar _ _,by rw[wH.o,dA]⟩
   case round=>
    obtain⟨j,hj,rfl,dS,ht⟩:=hrel
    cases j with
    |zero=>
     have tO:Hd (R=(xn==yn&&ct ps.reverse xa ya)):=ae (by rw[HM.o,ht,List.take_zero];simp[G5]);have⟨iz,wh⟩:=az wr;subst wh;have HBp:=ae dS;have zeW:((0:Nat):Int)-1=-1:=rfl;have x1:iz.cell? ⟨w.heap.size,1,none⟩=some (.string ⟨xn.toArray⟩):=aa dS (ao HX.o 1);have x2:iz.cell? ⟨w.heap.size,2,none⟩=some (.slice ua k0 uc):=aa dS (ao HX.o 2);have y1:iz.cell? ⟨w.heap.size+1,1,none⟩=some (.string ⟨yn.toArray⟩):=aa dS (ao HY.o 1);clear dS ht
     by_cases dQ:xn=yn
     ·subst dQ;have qBx:=();exact qdK
     ·have iZ:(xn==yn)=false:=by simpa using dQ
      exact qdH
    |succ j=>
     have Ss:=();exact qjd
 |exact qis):G:=h
theorem qgM(h:G:=by
 go_enter func147,ntmps147
 first
 |clear up;cases uv
  ·have tO:Hd (R=(xn==yn&&ct ps.reverse xa ya)):=ae (by rw[HM.o];simp)
   by_cases dQ:xn=yn
   ·subst dQ;exact qdK
   ·have iZ:(xn==yn)=false:=by simpa using dQ
    have up:=();exact qdH
  ·have zd2:xa=[]:=by simpa using zgk
   have HMn:Hd (R=(match nW ps.reverse xn yn with|some b=>b|none=>xn==yn)):=ae (by rw[HM.o,zd2];cases nW ps.reverse xn yn<;>simp[ct]);clear HM zd2;have HM:=HMn;clear HMn;go_wp2;rw[<-gh.o];go_loopw [9] (fun i wr=>∃j:Nat,j<=p0/\i=.int .i64 ((j:Int)-1)/\Below W2.heap.size W2 wr/\nW ps.reverse xn yn=nW (ps.take j).reverse xn yn) (fun i _=>(intOf i+1).toNat)
   case atStart=>exact⟨p0,aK _,by go_num,ar _ _,by rw[wH.o,dA]⟩
   case round=>
    obtain⟨j,hj,rfl,dS,ht⟩:=hrel
    cases j with
    |zero=>
     have HE:Hd (R=(xn==yn)):=ae (by rw[HM.o,ht,List.take_zero];simp[G5]);have cR:=ae (cQ.o.trans (dS.mono cQ.o.size));have zeW:((0:Nat):Int)-1=-1:=rfl;have qyN:=();exact qji
    |succ j=>
     exact qjd
 |exact qis):G:=h
theorem qew(h:G:=by
 go_enter func117,ntmps117
 first
 |clear up;exact qat
 |go_wp2_with (go_at_call 152;refine(C1.o _).mono ?_;rintro e w' ⟨rfl,hb⟩);go_ret;exact⟨rfl,hb⟩):G:=h
theorem qj2(h:G:=by
 go_wp2;go_ret;exact⟨uE (by rw[FJ.o,HE.o]),rv.o⟩):G:=h
theorem qfT(h:G:=by
 have cr:((a.map (dK kd.ts c)).take k1).length=k1:=by rw[dO];have:=sU.o;simp;omega
 first
 |clear qo3;obtain⟨ra,rc,rfl⟩:=hF.row.slice;have quZ:=();exact qbw
 |have jW:(a.map (dK kd.ts c)).take k1=(a.map (dK kd.ts c)):=gB (by have:=sU.o;simp;omega);exact qdC):G:=h
theorem qe8(h:G:=by
 have:=congrArg List.length hd.2.2;rwa [iT,iT]at this):G:=h
theorem qfc(h:G:=by
 obtain⟨es,hk,ho,ht⟩:=h;rcases gR ho with⟨rfl,h0⟩|⟨g,cap,rfl,hg,_⟩
 first
 |clear an
  ·obtain rfl:=ku h0;exact⟨none,0,fun _=>⟨0,⟨#[]⟩,none,0,0,none,0,0⟩,rfl,aK _,.inl rfl,fun j hj=>by simp at hj⟩
  ·refine⟨_,cap,fun j=>if h:j<es.length then es[j].2 else⟨0,⟨#[]⟩,none,0,0,none,0,0⟩,rfl,L8 ho,.inr ⟨g,0,rfl,hg,fun j hj=>?_⟩,fun j hj=>?_⟩
   ·have sA:j<es.length:=by omega
    obtain⟨c0,c1,c2,c3,c4⟩:=zaS es j sA;have it:=();exact qjZ
   ·have sA:j<es.length:=by omega
    exact qlc
 |·obtain rfl:=ku h0;exact⟨none,0,fun _=>⟨false,⟨#[]⟩,none,0,0⟩,rfl,aK _,.inl rfl,fun j hj=>by simp at hj⟩
  ·refine⟨_,cap,fun j=>if h:j<es.length then es[j].2 else⟨false,⟨#[]⟩,none,0,0⟩,rfl,L8 ho,.inr ⟨g,0,rfl,hg,fun j hj=>?_⟩,fun j hj=>?_⟩
   ·have sA:j<es.length:=by omega
    obtain⟨c0,c1,c2,c3⟩:=zaT es j sA;exact qjZ
   ·have sA:j<es.length:=by omega
    exact qlc):G:=h
theorem qfH(h:G:=by
 simp only[Rows.uptoBulkAll,ah,eu,ak];simp only[List.getElem_cons_zero]at h1 h2 h3
 first
 |clear an;exact⟨by omega,iR (by omega) _ h2,iR (by omega) _ h3,ic (by omega) _ ih.2⟩
 |refine⟨by omega,⟨iR (by omega) _ h3,ic (by omega) _ ih.2.1⟩,fun p hp=>?_⟩
  exact qfJ):G:=h
theorem qls(h:G:=by
 have CQ:=gS ⟨qo,⟨n.toArray⟩,qa,k1,qc,qb,m0,qe⟩ IW;simp only[FQ.val]at CQ
 first
 |clear qCa;have e0:IW.cell? ⟨w.heap.size+1,0,none⟩=some (.int .u8 qo):=ao xt 0;have e1:IW.cell? ⟨w.heap.size+1,1,none⟩=some (.string ⟨n.toArray⟩):=ao xt 1;have e2:IW.cell? ⟨w.heap.size+1,2,none⟩=some (.slice qa k1 qc):=ao xt 2;have e3:IW.cell? ⟨w.heap.size+1,3,none⟩=some (.slice qb m0 qe):=ao xt 3;have MR:=ae CQ;have HAs:=aM DP F5;have TC:=ae hF;have HE:=gN xp xt x1 x2 aD;clear CQ DP F5 hF xp xt x1 x2 aD jW;go_wp2_with fail;refine MR.o.mono ?_;rintro e X4 ⟨rfl,nX⟩;clear e0 e1 e2 e3;have hFq:=TC.o.later nX (fun r=>r.below nX);have La:=ae (HE.o.2.2.2.2.tr nX);have zcD:=ae (hFq.other (by omega) TA.o);have zah:=ae (hFq.other (by omega) zcC.o);have zcE:=ae (hFq.other (by omega) Q6.o);have⟨zcF,Z2⟩:=bi hFq.box hFq.row;have TD:=aM hFq.size TC.o.lt;clear nX hFq TC HE sQ
  cases td:br qo with
  |false=>
   have zH:u_=ins:=by rw[HI'.o,td];rfl
   have TE:=aM La.o TD.o.1;have TF:=zcD;have zai:=zah;have TG:=zcE;have zaj:=zcF;have NJ:=Z2;have NK:=aM (oa.o.1.later La.o) (show ∀b,vL.ownBlock=some b->b≠w.heap.size+1+1+1/\b<X4.heap.size from fun b hb=>by have:=oa.o.2 b hb;have:=La.o.size;omega);have NL:=Cj.o.2;rw[zH]at NL;have TH:=aM Cj.o.1 NL;clear Cj NL;have zak:=ae (ce.start (R:=w.heap.size+1+1+1) (mk:=fun rr=>#[.int .u8 qo,.string ⟨n.toArray⟩,.slice fN k1 fO,rr]) (Row:=fun r W=>eO X4.heap.size r ([]:List Fm) W) zaj.o (eO.nil _ _));have p3:X4.cell? ⟨w.heap.size+1,3,none⟩=some (.slice qb m0 qe):=ao zai.o 3;clear zH;go_wp2;clear p3;go_loopw [61] (fun i wr=>∃k:Nat,k<=m0/\i=.int .i64 k/\∃row us,ce 36 (w.heap.size+1+1+1) X4.heap.size (fun rr=>#[.int .u8 qo,.string ⟨n.toArray⟩,.slice fN k1 fO,rr]) (fun r W=>eO X4.heap.size r us W) X4 wr row/\gC ps.reverse ins (s.take k)=some us/\us.length=k) (fun i _=>m0-(intOf i).toNat)
   case atStart=>exact⟨0,bn _,rfl,_,[],zak.o,by simp[gC],rfl⟩
   case round=>
    have qxV:=();exact qcU
  |true=>
   obtain⟨i0s,XC,zeX,zeY,zeZ⟩:=info_parts yz;have zH:u_=n::ins:=by rw[HI'.o,td];rfl
   have ze0:=oa.o.1.later La.o;obtain⟨la,lc,FY,hlc,vG⟩:=ze0;have⟨l0,wL⟩:=az L.length;rw[<-wL]at FY hlc;have zgX:l0<=2000000:=by rw[wL];exact NI.o.2.2
   have qyC:=();exact qjK
 |have⟨e0,e1,e2,e3⟩:=pC x0;have MR:=ae CQ;have HE:=gN x0 x1 xu x2 aD;have Bb:=ae hF.lt;have TT:=hF.size;clear CQ hF x0 x1 xu x2 aD jW cr;have qyx:=();exact qjG):G:=h
theorem qjL(h:G:=by
 obtain⟨S,hS⟩:∃S:World->Prop,S=fun V=>Below X4.heap.size X4 V:=⟨_,rfl⟩
 first
 |clear qyD;have f0:∀V,S V->V.cell? ⟨w.heap.size+1,1,none⟩=some (.string ⟨n.toArray⟩):=fun V h=>by rw[hS]at h;exact aa h (ao zah.o 1)
  have dW:S X4.drew:=by rw[hS];exact(ar _ _).drew
  have⟨c9,ze1⟩:=bi hS zH;clear hS hold FF wL vG zH td;go_wp2;have qB2:=();exact qdQ
 |have hx1:X4.cell? ⟨w.heap.size,1,none⟩=some (.string ⟨xn.toArray⟩):=ao ot.o 1
  first
  |clear qt2;have uX:X4.cell? ⟨w.heap.size+1,1,none⟩=some (.string ⟨yn.toArray⟩):=ao pP.o 1;have qA9:=();exact qk4
  |have uX:X4.cell? ⟨w.heap.size+1,1,none⟩=some (.string ⟨xn.toArray⟩):=ao pP.o 1;exact qk4):G:=h
theorem qfe(h:G:=by
 obtain⟨Xx,Tg,Υ⟩:=aE.keysOf;obtain rfl:es=Xx:=by rw[hD]at Tg;simpa using Tg
 first
 |clear it;have hsz:=aE.size_le;have mx:(dX (l.map (·.1))).Perm (strKeys D0):=by
   rw[hD];refine perm_strKeys WL (fun p hp=>by obtain⟨v,hv⟩:=Υ p hp;obtain⟨x,_,hx,_⟩:=Maps.keyOf_str hk hv;exact⟨x,hx⟩) (jZ (wy _)) (fun x=>?_);rw[eG,<-hD]
   cases hg:bG l x with
   |none=>rw[(hx x).1 hg];simp only[bR,iff_false];exact(jy l x).1 hg
   |some a=>
    have an:=();exact qlf
  have h1:=mx.length_eq;rw[JC hup]at h1;have h2:(strKeys D0).length<=Maps.size D0:=by
   rw[hD];simp only[strKeys,Maps.size];simp
  simp at h1;omega
 |first
  |clear qmr;have mx:(dX xs).Perm (strKeys D0):=by
    rw[hD];refine perm_strKeys WL (fun p hp=>by obtain⟨v,hv⟩:=Υ p hp;obtain⟨x,_,hx,_⟩:=Maps.keyOf_str underlying9 hv;exact⟨x,hx⟩) (jZ (wy xs)) (fun x=>?_);rw[eG,<-hD,uZ]
   refine(aO.1 cS).mono ?_;rintro e w' ⟨v,ss,rfl,hS,ea,Th,hb⟩;have oA:ss.Perm (dX xs):=hS.trans mx.symm;have lZ:ss.length=(dX xs).length:=oA.length_eq;refine⟨v,rfl,⟨?_,?_⟩,((ar _ W).alloc (aK _) _).trans (hb.mono (by simp))⟩
   ·rw[Dx oA,lZ]at ea;exact ownsRow_base_a ea (by simp)
   ·rw[Th];constructor
    ·intro h;rw[h]at lZ;exact ku lZ.symm
    ·intro h;rw[h]at lZ;exact ku lZ
  |have uZ:∀x:aj,Maps.has D0 (.string x)=true↔x∈l.map (·.1):=fun x=>by
    cases hg:bG l x with
    |none=>rw[(hx x).1 hg];simp only[bR,false_iff];exact(jy l x).1 hg
    |some a=>
     exact qlf
   have mx:(dX (l.map (·.1))).Perm (strKeys D0):=by
    rw[hD];refine perm_strKeys WL (fun p hp=>by obtain⟨v,hv⟩:=Υ p hp;obtain⟨x,_,hx,_⟩:=Maps.keyOf_str underlying9 hv;exact⟨x,hx⟩) (jZ (wy _)) (fun x=>?_);rw[eG,<-hD,uZ]
   refine(aO.1 cS).mono ?_;rintro e w' ⟨v,ss,rfl,hS,ea,Th,hb⟩;have oA:ss.Perm (dX (l.map (·.1))):=hS.trans mx.symm;have lZ:ss.length=(dX (l.map (·.1))).length:=oA.length_eq;have hu:=JC hup;refine⟨v,rfl,⟨?_,?_⟩,((ar _ W).alloc (aK _) _).trans (hb.mono (by simp))⟩
   ·rw[Dx oA,lZ,hu]at ea;exact ownsRow_base_a ea (by simp)
   ·rw[Th];rw[hu]at lZ;constructor
    ·intro h;rw[h]at lZ;exact ku lZ.symm
    ·intro h;rw[h]at lZ;exact ku lZ):G:=h
theorem qjp(h:G:=by
 obtain⟨k,hk,rfl,row,hF⟩:=hrel;have aD:=hF.below eQ.o (Nat.le_add_right _ 2)
 first
 |clear qxx
  by_cases hlt:k<k0
  first
  |clear qBW
   ·have dG:=cG dN.o hlt;have qwN:=();exact qah
   ·obtain rfl:k=k0:=by omega
    have cr:(a.take k).length=k:=by rw[dO,<-dN.o];omega
    have jW:a.take k=a:=by rw[dN.o];exact dA
    have qBF:=();exact qax
  |clear qBU
   ·have dG:=cG dN.o hlt;have qwP:=();exact qah
   ·obtain rfl:k=k0:=by omega
    exact qbx
  |clear qBV
   ·have dG:=cG dN.o hlt;have qwQ:=();exact qah
   ·obtain rfl:k=k0:=by omega
    exact qby
  |·have dG:=cG dN.o hlt;exact qah
   first
   |clear qBY
    ·obtain rfl:k=k0:=by omega
     have qAs:=();exact qkM
   |clear qBZ
    ·obtain rfl:k=k0:=by omega
     exact qkM
   |·obtain rfl:k=k0:=by omega
     have cr:((a.map aU).take k).length=k:=by rw[dO];have:=dN.o;simp;omega
     have jW:(a.map aU).take k=(a.map aU):=gB (by have:=dN.o;simp;omega);have qBG:=();exact qax
 |by_cases hlt:k<m0
  ·have dG:=cG gT.o hlt;have qCb:=();exact qaM
  ·obtain rfl:k=m0:=by omega
   have cr:((s.map bI).take k).length=k:=by rw[dO];have:=gT.o;simp;omega
   have jW:(s.map bI).take k=(s.map bI):=gB (by have:=gT.o;simp;omega);exact qia):G:=h
theorem qft(h:G:=by
 obtain⟨uo,un,ua,ul,uc,ub,um,ue⟩:=q;obtain⟨vo,vn,va,vl,vc,vb,vm,ve⟩:=q'
 first
 |clear qn6;unfold FQ.val at C1 C2 C3⊢;simp only at C1 C2 C3 HX HY bp⊢;have x0:=fun(X:World)(h:Below W2.heap.size W2 X)=>(aa h (ao HX.o 0):X.cell? ⟨w.heap.size,0,none⟩=some (.int .u8 uo))
  have x1:=fun(X:World)(h:Below W2.heap.size W2 X)=>(aa h (ao HX.o 1):X.cell? ⟨w.heap.size,1,none⟩=some (.string un))
  have x2:=fun(X:World)(h:Below W2.heap.size W2 X)=>(aa h (ao HX.o 2):X.cell? ⟨w.heap.size,2,none⟩=some (.slice ua ul uc))
  have x3:=fun(X:World)(h:Below W2.heap.size W2 X)=>(aa h (ao HX.o 3):X.cell? ⟨w.heap.size,3,none⟩=some (.slice ub um ue))
  have y0:=fun(X:World)(h:Below W2.heap.size W2 X)=>(aa h (ao HY.o 0):X.cell? ⟨w.heap.size+1,0,none⟩=some (.int .u8 vo))
  have y1:=fun(X:World)(h:Below W2.heap.size W2 X)=>(aa h (ao HY.o 1):X.cell? ⟨w.heap.size+1,1,none⟩=some (.string vn))
  have y2:=fun(X:World)(h:Below W2.heap.size W2 X)=>(aa h (ao HY.o 2):X.cell? ⟨w.heap.size+1,2,none⟩=some (.slice va vl vc))
  have y3:=fun(X:World)(h:Below W2.heap.size W2 X)=>(aa h (ao HY.o 3):X.cell? ⟨w.heap.size+1,3,none⟩=some (.slice vb vm ve))
  have M5:=gN (an4 x0 x1 x2 x3) y0 y1 y2 y3;have⟨HB,uW,vI,HC3,gh⟩:=sL hB C1 C2 C3 bp;clear C1 C2 C3 hB bp x0 x1 x2 x3 y0 y1 y2 y3;go_enter func38,ntmps38;cases b1
  ·go_wp2_with (rw[<-gh.o];go_at_call 39;refine uW.o.mono ?_;rintro e X1 ⟨rfl,h1⟩;have H1:=ae h1;clear h1);exact qjJ
  ·cases b2
   ·go_wp2_with (first|(rw[<-gh.o];go_at_call 39;refine uW.o.mono ?_;rintro e X1 ⟨rfl,h1⟩;have H1:=ae h1;clear h1;have a0:=M5.o.2.1 X1 H1.o;have a1:=M5.o.2.2.1 X1 H1.o;have a2:=M5.o.2.2.2.1 X1 H1.o;have a3:=M5.o.2.2.2.2 X1 H1.o)|(go_at_call 39;refine(vI.o _ H1.o).mono ?_;rintro e X2 ⟨rfl,h2⟩;have H2:=ae h2;clear h2));go_ret;exact⟨rfl,HB.o.trans ((H1.o.trans (H2.o.mono H1.o.size)).mono HB.o.size)⟩
   ·cases b3<;>
    (go_wp2_with (first | (rw[<-gh.o];go_at_call 39;refine uW.o.mono ?_;rintro e X1 ⟨rfl,h1⟩;have H1:=ae h1;clear h1;have a0:=M5.o.2.1 X1 H1.o;have a1:=M5.o.2.2.1 X1 H1.o;have a2:=M5.o.2.2.2.1 X1 H1.o;have a3:=M5.o.2.2.2.2 X1 H1.o) | (go_at_call 39;refine (vI.o _ H1.o).mono ?_;rintro e X2 ⟨rfl,h2⟩;have H2:=ae (H1.o.trans (h2.mono H1.o.size));clear h2;have c0:=M5.o.1.1 X2 H2.o;have c1:=M5.o.1.2.1 X2 H2.o;have c2:=M5.o.1.2.2.1 X2 H2.o;have c3:=M5.o.1.2.2.2 X2 H2.o;have d0:=M5.o.2.1 X2 H2.o;have d1:=M5.o.2.2.1 X2 H2.o;have d2:=M5.o.2.2.2.1 X2 H2.o;have d3:=M5.o.2.2.2.2 X2 H2.o) | (go_at_call 83;refine (HC3.o (by simp) _ H2.o).mono ?_;rintro e X3 ⟨rfl,h3⟩;have H3:=ae h3;clear h3))
     go_ret;exact⟨rfl,HB.o.trans ((H2.o.trans (H3.o.mono H2.o.size)).mono HB.o.size)⟩)
 |have qwf:=();exact qct):G:=h
theorem qd4(h:G:=by
 rw[<-cD]at hlen;rw[<-eh]at eN;have⟨dN,gT⟩:=bi cD eh
 first
 |clear qzu;clear hq bN em aI ih;unfold FQ.val;rw[<-cD,<-eh];clear cD eh
  first
  |clear qyV;refine oM func66 ?_;simp only[ntmps66,Nat.reduceAdd,Nat.reduceSub,ng];have jq:=fP;gi_wp2;have⟨W1,cC⟩:=az (((w.alloc (.cells #[.int .u8 qo,.string ⟨n.toArray⟩,.slice qa k0 qc,.slice qb m0 qe] 36)).alloc (.cells #[.int .u8 0,.string ⟨#[]⟩,.slice none 0 0,.slice none 0 0] 36)).alloc (.cells #[.int .u8 qo,.string ⟨n.toArray⟩,.slice none 0 0,.slice none 0 0] 36));have jN:=xK cC;have x0:=xM cC;have x1:=sy cC;have x2:=qw cC;rw[<-cC];clear cC;have⟨rv,KA,kJ⟩:=cU jN x0 x1;have s9:=ae (ce.start (R:=w.heap.size+1+1) (mk:=fun rr=>#[.int .u8 qo,.string ⟨n.toArray⟩,rr,.slice none 0 0]) (Row:=fun r W=>dH W1.heap.size r ((a.map aU).take 0) W) x2 (dH.nil _ _));clear jN x0 x1 x2;gi_loopw [16] (fun i IW=>∃k1:Nat,k1<=k0/\i=.int .i64 k1/\∃row,ce 36 (w.heap.size+1+1) W1.heap.size (fun rr=>#[.int .u8 qo,.string ⟨n.toArray⟩,rr,.slice none 0 0]) (fun r W=>dH W1.heap.size r ((a.map aU).take k1) W) W1 IW row) (fun i _=>k0-(intOf i).toNat)
   case atStart=>exact⟨0,bn _,rfl,_,s9.o⟩
   case round=>
    have qB7:=();exact qlw
  |clear qy1;have⟨W0,hW0⟩:=az ((w.alloc (.cells #[.int .u8 qo,.string ⟨n.toArray⟩,.slice qa k0 qc,.slice qb m0 qe] 36)).alloc (.cells #[.int .u8 0,.string ⟨#[]⟩,.slice none 0 0,.slice none 0 0] 36));have hB0:=mo hW0;have x0:=sx hW0;have x1:=kv hW0;have J_:=zP hW0;have HW0:=ae hW0;clear hW0;obtain⟨S,hS⟩:∃S:World->Prop,S=fun V=>Below W0.heap.size W0 V:=⟨_,rfl⟩;have ff:∀V,S V->V.cell? ⟨w.heap.size,0,none⟩=some (.int .u8 qo)/\V.cell? ⟨w.heap.size,1,none⟩=some (.string ⟨n.toArray⟩)/\V.cell? ⟨w.heap.size,2,none⟩=some (.slice qa k0 qc):=fun V h=>by rw[hS]at h;exact⟨aa h (ao x0 0),aa h (ao x0 1),aa h (ao x0 2)⟩
   have dW:S W0.drew:=by rw[hS];exact(ar _ _).drew
   have c9:=ae hS;have vI:=ae (fun(V:World)(hb:Below W0.heap.size W0 V)=>Gs ns sH a xZ.o ok κ V qa k0 qc _ (by rw[dN.o];exact(el.o.later hB0).later hb) ((HNs.o.later hB0).later hb));have H0:=cH hB0 x0 x1 J_;clear hB0 x0 x1 J_ hS;go_enter func88,ntmps88;go_wp2;rw[<-HW0.o];go_cut [5]from 7 to 15 (fun s5 wx=>∃b5,s5=.pointer (some ⟨b5,0,none⟩)/\∃r1 r2,wx.heap[b5]?=some (.cells #[.int .u8 qo,.string ⟨n.toArray⟩,.slice r1 k0 r2,.slice none 0 0] 36 (0,0))/\W0.heap.size<=b5/\Below W0.heap.size W0 wx/\cB (fun b=>W0.heap.size<=b/\b≠b5) wx (.slice r1 k0 r2) (d9 ns a))
   case first=>
    exact qj7
   case rest=>
   obtain⟨b5,h5,r1,r2,hx5,bE,AE,ht5⟩:=hcut;rw[h5];have⟨W1,cC⟩:=az wc;rw[<-cC]at hx5 AE ht5⊢;have eQ:=ae (H0.o.1.tr AE);have H1:=cH AE hx5 bE ht5;have x0:=bY AE H0.o.2.1;have x1:=bY AE H0.o.2.2.1;have⟨KA,kJ⟩:=bi x0 x1;clear hx5 AE ht5 h5 cC ff dW c9 vI S wc;have zhr:w.heap.size+2<=b5:=by have:=H0.o.2.2.2;omega
   have e3:W1.cell? ⟨w.heap.size,3,none⟩=some (.slice qb m0 qe):=ao x0 3;clear x0 x1;have s9:=ae (ce.start (R:=b5) (mk:=fun rr=>#[.int .u8 qo,.string ⟨n.toArray⟩,.slice r1 k0 r2,rr]) (Row:=fun r W=>eO W1.heap.size r ((s.map (fd ns)).take 0) W) H1.o.2.1 (eO.nil _ _));go_wp2;go_loopw [6] (fun i wr=>∃k:Nat,k<=m0/\i=.int .i64 k/\∃row,ce 36 (b5) W1.heap.size (fun rr=>#[.int .u8 qo,.string ⟨n.toArray⟩,.slice r1 k0 r2,rr]) (fun r W=>eO W1.heap.size r ((s.map (fd ns)).take k) W) W1 wr row) (fun i _=>m0-(intOf i).toNat)
   case atStart=>exact⟨0,bn _,rfl,_,s9.o⟩
   case round=>
    obtain⟨k,hk,rfl,row,hF⟩:=hrel;have aD:=hF.below eQ.o (by have:=H1.o.2.2.1;have:=H0.o.1.size;omega);have p3:wr.cell? ⟨w.heap.size,3,none⟩=some (.slice qb m0 qe):=ao (hF.other (b:=w.heap.size) (by omega) KA.o) 3
    by_cases hlt:k<m0
    ·have dG:=cG gT.o hlt;have qCc:=();exact qaM
    ·obtain rfl:k=m0:=by omega
     have qCd:=();exact qlx
  |refine oM func89 ?_;simp only[ntmps89,Nat.reduceAdd,Nat.reduceSub,ng];have jq:=fP;gi_wp2;have⟨WA,hWA⟩:=az (((w.alloc (.cells #[.int .u8 qo,.string ⟨n.toArray⟩,.slice qa k0 qc,.slice qb m0 qe] 36)).alloc (.cells #[.slice pa p0 pc] 193)).alloc (.cells #[.int .u8 0,.string ⟨#[]⟩,.slice none 0 0,.slice none 0 0] 36));have hBA:=xK hWA;have hsA:=Ki hWA;have y0:=xM hWA;have ya:=sy hWA;have y1:=qw hWA;have⟨W1,cC⟩:=az (WA.alloc (.cells #[.int .u8 qo,.string ⟨n.toArray⟩,.slice none 0 0,.slice none 0 0] 36));have hb1:=dj cC;have x2:W1.heap[w.heap.size+1+1+1]?=some (.cells #[.int .u8 qo,.string ⟨n.toArray⟩,.slice none 0 0,.slice none 0 0] 36 (0,0)):=by rw[cC];exact aq (by omega)
   rw[<-hWA,<-cC];have jN:=hBA.tr hb1;have x0:=bY hb1 y0;have xa:=bY hb1 ya;have x1:=bY hb1 y1;have HBA:=ae hb1;have HRA:=ae (show WA.heap.size<=w.heap.size+1+1+1 by omega);have HXA:=ae (show WA.cell? ⟨w.heap.size+1,0,none⟩=some (.slice pa p0 pc)from ao ya 0);have PD:=ae (qZ.o.later hBA);have SE:=ae (show W1.heap.size=w.heap.size+4 by rw[cC];simp[hsA]);have⟨eQ,KA,NB,kJ⟩:=f8 jN x0 xa x1;clear cC hWA hBA hsA y0 ya y1 hb1 jN xa;have s9:=ae (ce.start (R:=w.heap.size+1+1+1) (mk:=fun rr=>#[.int .u8 qo,.string ⟨n.toArray⟩,rr,.slice none 0 0]) (Row:=fun r W=>dH W1.heap.size r ((a.map (ep (s8 c))).take 0) W) x2 (dH.nil _ _));clear x0 x1 x2;gi_loopw [23] (fun i IW=>∃k1:Nat,k1<=k0/\i=.int .i64 k1/\∃row,ce 36 (w.heap.size+1+1+1) W1.heap.size (fun rr=>#[.int .u8 qo,.string ⟨n.toArray⟩,rr,.slice none 0 0]) (fun r W=>dH W1.heap.size r ((a.map (ep (s8 c))).take k1) W) W1 IW row) (fun i _=>k0-(intOf i).toNat)
   case atStart=>exact⟨0,bn _,rfl,_,s9.o⟩
   case round=>
    exact qlw
 |clear qzw;clear hq bN em aI ih Bm xI IH uF hfz hnz hz hT hnd CG Q_ sM;unfold FQ.val;rw[<-cD,<-eh];clear cD eh;have⟨RS,IV⟩:=az (h_ (kk+1) nx z (.mk qo n a s));rw[<-IV];have Z9:=ae IV;clear IV;refine oM func101 ?_;simp only[ntmps101,Nat.reduceAdd,Nat.reduceSub,ng];have jq:=fP;gi_wp2;have⟨W1,cC⟩:=az ((((w.alloc (.cells #[.int .u8 qo,.string ⟨n.toArray⟩,.slice qa k0 qc,.slice qb m0 qe] 36)).alloc (.cells #[.bool zv,.string zn,.slice za zl zc] 43)).alloc (.cells #[.int .u8 0,.string ⟨#[]⟩,.slice none 0 0,.slice none 0 0] 36)).alloc (.cells #[.int .u8 qo,.string ⟨n.toArray⟩,.slice none 0 0,.slice none 0 0] 36));have jN:=Xj cC;have x0:=SV cC;have xu:=ZC cC;have x1:=ZD cC;have x2:=SW cC;rw[<-cC];clear cC;have⟨eQ,KA,HXU,kJ⟩:=f8 jN x0 xu x1;have s9:=ae (ce.start (R:=w.heap.size+1+1+1) (mk:=fun rr=>#[.int .u8 qo,.string ⟨n.toArray⟩,rr,.slice none 0 0]) (Row:=fun r W=>dH W1.heap.size r ((a.map (nl nx z)).take 0) W) x2 (dH.nil _ _));clear jN x0 x1 x2 xu;gi_loopw [23] (fun i IW=>∃k1:Nat,k1<=k0/\i=.int .i64 k1/\∃row,ce 36 (w.heap.size+1+1+1) W1.heap.size (fun rr=>#[.int .u8 qo,.string ⟨n.toArray⟩,rr,.slice none 0 0]) (fun r W=>dH W1.heap.size r ((a.map (nl nx z)).take k1) W) W1 IW row) (fun i _=>k0-(intOf i).toNat)
  case atStart=>exact⟨0,bn _,rfl,_,s9.o⟩
  case round=>
   exact qlv
 |obtain ⟨u_,MQ⟩:∃u_:List aj,u_=(if br qo then n :: ins else ins):=⟨_,rfl⟩;have Cj:Hd ((eY ps.reverse ins a=none->RS=none)/\(gC ps.reverse u_ s=none->RS=none)/\∀ a' s',eY ps.reverse ins a=some a'->gC ps.reverse u_ s=some s'->RS=some (.mk qo n a' s')):=ae (by
   rw[IV,MQ];unfold f9;refine⟨fun h=>by rw[h],fun h=>by rw[h];cases eY ps.reverse ins a<;>rfl,fun a' s' h1 h2=>by rw[h1,h2]⟩)
  have HI':=ae MQ;have⟨W3,ec⟩:=az (((w.alloc (.cells q.cells 89)).alloc (.cells #[.int .u8 qo,.string ⟨n.toArray⟩,.slice qa k0 qc,.slice qb m0 qe] 36)).alloc (.cells #[.int .u8 0,.string ⟨#[]⟩,.slice none 0 0,.slice none 0 0] 36));exact qg0):G:=h
theorem qgK(h:G:=by
 simp at hm;have HM:=ae hm;clear hm;have e1:((k0:Int)!=(k0:Int))=false:=by simp
 first
 |clear qrG;have up:=();exact qgL
 |have up:=();exact qgM):G:=h
theorem qe4(h:G:=by
 simp only[bR,↓reduceIte]at h;obtain⟨m,hm,rfl⟩:=Option.map_eq_some_iff.1 h
 first
 |clear an;simp[iH,yW σ ins a m hm]
 |exact pR ins a m hw.2 hm z (by simpa[aL]using hz)):G:=h
theorem qkY(h:G:=by
 simp only[dif_pos sA,Nat.zero_add];exact AX ho j sA):G:=h
theorem qer(h:G:=by
 go_enter func65,ntmps65
 first
 |clear up;exact qet
 |go_wp2_with (first|(go_at_call 119;refine(C1.o _).mono ?_;rintro e w' ⟨rfl,hb⟩)|(go_at_call 120;refine(pX r _ hr).mono ?_;rintro e Iw ⟨rfl,bU⟩));exact qdL):G:=h
theorem qlp(h:G:=by
 go_ret;exact⟨by rw[HE3.o];rfl,H5.o.1.tr H6.o⟩):G:=h
theorem qlq(h:G:=by
 go_ret;exact⟨by rw[HE3.o];rfl,H5.o.1.tr H8.o⟩):G:=h
theorem qjH(h:G:=by
 have cr:((s.map (h_ kk nx z)).take k).length=k:=by rw[dO];have:=gT.o;simp;omega
 first
 |clear qCe;exact qbH
 |have jW:(s.map (h_ kk nx z)).take k=(s.map (h_ kk nx z)):=gB (by have:=gT.o;simp;omega);have qBJ:=();exact qia):G:=h
theorem qeS(h:G:=by
 obtain⟨i0,hi,oO,jv,iG⟩:=info_parts ib;obtain rfl:=hv.len;have hlen:=aI.len
 first
 |clear qmY
  by_cases h0:l=[]
  ·subst h0;have qA8:=();exact qkO
  ·have⟨k0,cD⟩:=az l.length;have qAv:=();exact qeT
 |obtain⟨na,nc,rfl⟩:=Zm.slice;have⟨n2,jY⟩:=az ns.length;rw[<-jY]at Zm sH⊢;have⟨k0,cD⟩:=az l.length;rw[<-cD]at hlen hv⊢;have⟨dN,Cb,el,HNs,HCp,lH⟩:=Xg cD jY hv Zm XI aI;clear hv Zm XI cD jY aI;go_enter func153,ntmps153;go_wp2;go_loopw [5,6] (fun r i wr=>∃k:Nat,k<=k0/\i=.int .i64 k/\dH w.heap.size r ((d9 ns l).take k) wr/\Below w.heap.size w wr) (fun _ i _=>k0-(intOf i).toNat)
  case atStart=>exact⟨0,bn _,rfl,dH.nil _ _,ar _ _⟩
  case round=>
   have qAC:=();exact qb6):G:=h
theorem qla(h:G:=by
 rw[Hn bA,<-dQ,<-hg]at jm;rw[<-dQ]at d0;have Un:=HP.o _ (aH bA);rw[<-hg]at hf Un
 first
 |clear it;have qvX:=();exact qdu
 |simp only at d1 d2 d3;have⟨W5,hZ⟩:=az (wr.alloc (.cells #[.string ⟨nm.toArray⟩,.bool qo,.string qn,.slice qa ql qc] 47));have bE:=dj hZ;have Cu:(k:Int)<(n1:Int):=by omega
  have tS:=ae hZ
  by_cases nH:nm=n
  ·subst nH;have Ae:(nm==nm)=true:=by simp
   rw[Ae]at jm;have CC:=rq g Un ok W5 ⟨qo,qn,qa,ql,qc⟩ ((hf.later l9).later bE);simp only[TQ.val]at CC;exact qiE
  ·have Ae:(nm==n)=false:=by simp[nH]
   rw[Ae]at jm;have HG:=aM (aD.tr bE) (show R=bG (b.ts.drop (k+1)) n from jm);clear l9 aD jm hf Un bE hx hZ hg dQ c0 c1 c2 c3 hok;exact qiF):G:=h
theorem qeD(h:G:=by
 simp only[Prod.mk.injEq]at h;exact absurd h.2.2 WK):G:=h
theorem qeB(h:G:=by
 simp only[Prod.mk.injEq]at h;exact absurd h.2.2 he):G:=h
theorem qeC(h:G:=by
 simp only[Prod.mk.injEq]at h;exact absurd h.2.2 Ρ):G:=h
theorem qjl(h:G:=by
 have Cd:IntKind.i64.wrap ((nt:Int)-1)=(m2:Int):=by rw[jD _ (by omega)];omega
 first
 |clear Ss;have SA:IntKind.i64.wrap ((n0:Int)*(m2:Int))=(m3:Int):=by rw[show(n0:Int)*(m2:Int)=(m3:Int) by rw[WU];simp];exact jD _ (by omega)
  have hw3:IntKind.i64.wrap ((nf:Int)+(m3:Int))=((nf+m3:Nat):Int):=by rw[jD _ (by have:=HY.o.2.2;omega)];simp
  have⟨uN,c9⟩:=bi hE hS;clear hS lp _r Lx MT Ed bA zO Rt hE sK WU sS y5 h0;go_upto_region 11 with fail;clear oO jv;refine(wpIn_wide (n:=3)).1 ?_;refine lM S 13 dW fun jO b_=>?_;refine di 0 48 (.agg #[.int .u8 g0,.string g1,.slice g2 g3 g4,.slice g5 g6 g7]) rfl (fun V hX=>by obtain⟨h0,h1,h2,h3,h4,h5⟩:=ff V hX;go_simp) b_ fun cK=>?_;simp only[am];refine bH 2 50 (.int .i64 (n0:Int)) rfl cK fun f_=>?_;simp only[am];refine bH 3 51 (.pointer (some ⟨kb,0,none⟩)) rfl f_ fun gX=>?_;simp only[am];refine bH 4 52 (.pointer (some ⟨kb,0,none⟩)) rfl gX fun iQ=>?_;simp only[am];refine bH 5 53 (.pointer (some ⟨kb,1,none⟩)) rfl iQ fun jM=>?_;simp only[am];refine di 6 54 (.map (some mT)) rfl (fun V hX=>by obtain⟨h0,h1,h2,h3,h4,h5⟩:=ff V hX;go_simp) jM fun km=>?_;simp only[am];refine bH 7 55 (.string ⟨y.toArray⟩) rfl km fun mU=>?_;simp only[am];refine di 8 56 (.agg #[.bool z0,.string z1,.slice z2 z3 z4]) rfl (fun V hX=>by obtain⟨h0,h1,h2,h3,h4,h5⟩:=ff V hX;go_simp) mU fun q_=>?_;simp only[am];refine cb 1 rfl fun K hK=>?_;go_simp;refine aO.2 ((FJ.o _ (H5.o.tr (by have h:=b_;rw[c9.o]at h;exact h))).mono ?_);rintro e w7 ⟨rfl,g_⟩;have H7:=ae (((ar w5.heap.size w5).drew).trans g_);exact qaB
 |have SA:IntKind.i64.wrap ((n0:Int)*(m2:Int))=(m1:Int):=by rw[show(n0:Int)*(m2:Int)=(m1:Int) by rw[sK];simp];exact jD _ (by omega)
  have hw3:IntKind.i64.wrap ((nf:Int)+(m1:Int))=(m3:Int):=by rw[jD _ (by omega)];omega
  have CNf:=fun(x:aA W8)=>mV f Cq.o.1.fit _ x.w ⟨Ja,Jb,Jc,Jd,Je,Jf,Jg,Jh⟩ (pA.o.2.2.2.2.1.later x.below);have CNi:=fun(x:aA W8)=>mV im H5.o.2.2.2.fit _ x.w ⟨p0,p1,p2,p3,p4,p5,p6,p7⟩ (pA.o.2.2.2.2.2.1.later x.below);have CNt:=fun(x:aA W8)=>nd t pA.o.2.2.1.fit (by have:=pA.o.2.2.1.2;omega) _ x.w ⟨Jl,Ur,Us,Ut,Uu⟩ (pA.o.2.2.2.2.2.2.later x.below);simp only[FQ.val,TQ.val,<-yB,<-Yy,<-zO]at CNf CNi CNt;have⟨HCf,HCi,HCt⟩:=cU CNf CNi CNt;have hE1:=HE8.o;rw[<-yB,<-Yy,<-zO,<-jQ,<-sK,<-WU]at hE1;have HE1:=ae hE1;obtain⟨f0,f1,f2,f3,_,_,_,_⟩:=dw pA.o.1.1;obtain⟨i0,i1,i2,i3,_,_,_,_⟩:=dw pA.o.1.2.1;obtain⟨s0,s1,s2,_,_,_⟩:=ir pA.o.1.2.2;have q0:=fun x:aA W8=>x.get f0;have q1:=fun x:aA W8=>x.get f1;have q2:=fun x:aA W8=>x.get f2;have q3:=fun x:aA W8=>x.get f3;have q4:=fun x:aA W8=>x.get i0;have q5:=fun x:aA W8=>x.get i1;have q6:=fun x:aA W8=>x.get i2;have q7:=fun x:aA W8=>x.get i3;have q8:=fun x:aA W8=>x.get s0;have q9:=fun x:aA W8=>x.get s1;have q10:=fun x:aA W8=>x.get s2;clear CNf CNi CNt hE1 zO yB Yy jQ sK WU Rt Bn hp3 hp4 sS f0 f1 f2 f3 i0 i1 i2 i3 s0 s1 s2;have qtp:=();exact qac):G:=h
theorem qfQ(h:G:=by
 have cr:((a.map (nl nx z)).take k1).length=k1:=by rw[dO];have:=dN.o;simp;omega
 first
 |clear qoO;obtain⟨fN,fO,rfl⟩:=hF.row.slice;have quY:=();exact qbw
 |have jW:(a.map (nl nx z)).take k1=(a.map (nl nx z)):=gB (by have:=dN.o;simp;omega);have qBQ:=();exact qdC):G:=h
theorem qij(h:G:=by
 have gh:=ae bp;clear hu c0 c1 c2 Ck hF g9 eJ aE gM CC hts iX hU DP F5 aD bU bp
 first
 |clear qvg
  cases U with
  |none=>
   go_wp2_with (go_at_call 94;refine oQ.o.mono ?_;rintro e w4 ⟨⟨⟨pv,pn,pa,pl,pc⟩,rfl,hp⟩,aY⟩;simp only[Option.isSome]at hp⊢;rw[<-gh.o]at aY;have bE:Below w4.heap.size w4 (w4.alloc (.cells #[.bool pv,.string pn,.slice pa pl pc] 43)):=dp;have wK:=fk.o.later (aY.tr bE) (fun r=>r.below (aY.tr bE));have x5:=wK.other (by omega) Q6.o;obtain⟨e0,e1,e2,z0,z1,z2⟩:=ir x5;have H5:=aM (aY.tr bE) x5;clear hp aY bE wK x5);obtain⟨W6,dr,x6,k6,g0,g1,g2⟩:=sT H5.o.2 (.bool false) (.string ⟨#[]⟩) (.slice none 0 0);rw[<-dr];have HE:=ae (show R=none by rw[Cj.o,Bl.o (by simp)];rfl);refine bX (v:=.tuple #[TQ.val ⟨false,⟨#[]⟩,none,0,0⟩,.bool false]) (by simp[TQ.val,results,results94,go_sem,g0,g1,g2]) rfl ⟨⟨⟨false,⟨#[]⟩,none,0,0⟩,by rw[HE.o];rfl,fun u hu=>by rw[HE.o]at hu;cases hu⟩,Below.kp1 ((cR.o.1.tr cR.o.2).tr H5.o.1) k6 (by omega)⟩
  |some u'=>
   go_wp2_with (first|(go_at_call 94;refine oQ.o.mono ?_;rintro e w4 ⟨⟨⟨pv,pn,pa,pl,pc⟩,rfl,hp⟩,aY⟩;simp only[Option.isSome]at hp⊢;rw[<-gh.o]at aY hp;have bE:Below w4.heap.size w4 (w4.alloc (.cells #[.bool pv,.string pn,.slice pa pl pc] 43)):=dp;have wK:=fk.o.later (aY.tr bE) (fun r=>r.below (aY.tr bE));have r2:(w4.alloc (.cells #[.bool pv,.string pn,.slice pa pl pc] 43)).cell? ⟨w.heap.size+1+1+1,2,none⟩=some (.slice ra k rc):=(wK.cell 2).trans rfl;have HF5:=ae wK;have NH:=aM ((hp u' rfl).later bE) (aY.tr bE);have HO:=ae (bh DQ.o.2.1 (fun b _ hlt=>(aY.tr bE).block b hlt));have p_:((w4.alloc (.cells #[.bool pv,.string pn,.slice pa pl pc] 43)).alloc (.cells #[.bool pv,.string pn,.slice pa pl pc] 43)).heap.size=w4.heap.size+2:=(by simp);have Nz:=wK.size;simp only[World.size_alloc]at Nz;clear hp aY bE wK)|(at_builtin;refine wpList_append_lies _ rfl _ _ 33 rfl W1.heap.size 43 i0 (.agg #[.bool false,.string ByteArray.empty,.slice none 0 0]) 3 48 underlying33 hi oO jv iG rfl (by decide) (.slice ra k rc) k _ rfl (HO.o.alloc _) ⟨w4.heap.size+1,0,none⟩ 1 1 [.bool pv,.string pn,.slice pa pl pc] rfl rfl (da (cs:=#[.bool pv,.string pn,.slice pa pl pc]) (t:=43) (fr:=(0,0)) (aq (by simp))) (by simp[Value.oneCell']) (by decide) (by unfold maxLen;omega) (by omega) (by simp;omega) (w4.heap.size+2) p_ ?_;intro g eP w6 aV au hg eM;have h4:=fk.o.at4 (kk:=2) DQ.o.2.1 NH.o.2 au;have d3:=h4.2.2;have z3:=h4.2.1;have HG:=cH aV au hg eM;clear aV au hg eM h4));go_roundw
   case rel=>
    have Ss:=();exact qiS
   case measure=>simp[intOf];omega
 |cases U with
  |none=>
   go_wp2_with (go_at_call 94;refine oQ.o.mono ?_;rintro e w4 ⟨⟨⟨pv,pn,pa,pl,pc⟩,rfl,hp⟩,aY⟩;simp only[Option.isSome]at hp⊢;rw[<-gh.o]at aY;have bE:Below w4.heap.size w4 (w4.alloc (.cells #[.bool pv,.string pn,.slice pa pl pc] 43)):=dp;have wK:=fk.o.later (aY.tr bE) (fun r=>r.below (aY.tr bE));have x5:=wK.other (by omega) Q6.o;obtain⟨e0,e1,e2,e3,z0,z1,z2,z3⟩:=dw x5;have H3:=aM (aY.tr bE) x5;clear hp aY bE wK x5);exact qg8
  |some u'=>
   go_wp2_with (first|(go_at_call 94;refine oQ.o.mono ?_;rintro e w4 ⟨⟨⟨pv,pn,pa,pl,pc⟩,rfl,hp⟩,aY⟩;simp only[Option.isSome]at hp⊢;rw[<-gh.o]at aY hp;have bE:Below w4.heap.size w4 (w4.alloc (.cells #[.bool pv,.string pn,.slice pa pl pc] 43)):=dp;have wK:=fk.o.later (aY.tr bE) (fun r=>r.below (aY.tr bE));have r2:(w4.alloc (.cells #[.bool pv,.string pn,.slice pa pl pc] 43)).cell? ⟨w.heap.size+1+1+1,2,none⟩=some (.slice fN k1 fO):=(wK.cell 2).trans rfl;have HF5:=ae wK;have NH:=aM ((hp u' rfl).later bE) (aY.tr bE);have HO:=ae (bh DQ.o.2.1 (fun b _ hlt=>(aY.tr bE).block b hlt));have p_:((w4.alloc (.cells #[.bool pv,.string pn,.slice pa pl pc] 43)).alloc (.cells #[.bool pv,.string pn,.slice pa pl pc] 43)).heap.size=w4.heap.size+2:=(by simp);have Nz:=wK.size;simp only[World.size_alloc]at Nz;clear hp aY bE wK)|(at_builtin;refine wpList_append_lies _ rfl _ _ 33 rfl W1.heap.size 43 sB (.agg #[.bool false,.string ByteArray.empty,.slice none 0 0]) 3 48 underlying33 hi AV xV B8 rfl (by decide) (.slice fN k1 fO) k1 _ rfl (HO.o.alloc _) ⟨w4.heap.size+1,0,none⟩ 1 1 [.bool pv,.string pn,.slice pa pl pc] rfl rfl (da (cs:=#[.bool pv,.string pn,.slice pa pl pc]) (t:=43) (fr:=(0,0)) (aq (by simp))) (by simp[Value.oneCell']) (by decide) (by unfold maxLen;omega) (by omega) (by simp;omega) (w4.heap.size+2) p_ ?_;intro g eP w6 aV au hg eM;have h4:=fk.o.at4 (kk:=2) DQ.o.2.1 NH.o.2 au;have d3:=h4.2.2;have z3:=h4.2.1;have HG:=cH aV au hg eM;clear aV au hg eM h4));go_roundw
   case rel=>
    exact qiS
   case measure=>simp[intOf];omega):G:=h
theorem qha(h:G:=by
 have hii:(i0:Int)<(m0:Int):=by omega
 have zfe:¬((m0:Int)<=(i0:Int)):=by omega
 first
 |clear qsi;have CQ:=gS ⟨c0,⟨cn.toArray⟩,c2,c3,c4,some ⟨b2,off2,none⟩,m0,c7⟩ wr;simp only[FQ.val]at CQ;have MR:=ae CQ;have hfi:=hfc.subs.mem (aH XC);have cQ:=ae (Xf Bo bD hu hfi aE Rd kC);have HD:=cH d0 d1 d2 d3;have HZ:=bS sP p_ bD.size
  cases td:br c0 with
  |false=>
   rw[td]at MR;rw[aw (show ¬(br c0=true) by rw[td];simp)]at MU;have HWk:=ae MU;clear MU Cm bD hcv hfc aE Rd hcs NW Ll Bo eh sB FO jd xV eN p_ sP aD CQ hu hfi kC d0 d1 d2 d3 td;go_wp2_with (go_at_call 93;refine MR.o.mono ?_;rintro e w8 ⟨rfl,jc⟩;have x8:=bY jc cQ.o.1;obtain⟨s0,s1,s2,s3,y0,y1,y2,y3⟩:=dw x8;have d0:=aa jc HD.o.1;have d1:=aa jc HD.o.2.1;have d2:=aa jc HD.o.2.2.1;have d3:=aa jc HD.o.2.2.2;have H8:=aM jc x8;clear jc x8);go_roundw
   case rel=>
    have x9:=nJ (v0:=.int .u8 uo) (v1:=.string un) (v2:=.slice ua ul uc) (v3:=.slice ub um ue) H8.o.2;have k9:=ev (W:=w8) (b:=w.heap.size+1) (v0:=.int .u8 uo) (v1:=.string un) (v2:=.slice ua ul uc) (v3:=.slice ub um ue);rw[<-HM.o.1]at k9;have kk:=cQ.o.2.1.trans ((Kp.below H8.o.1).trans k9);exact⟨k+1,nY[i0],ins,⟨uo,un,ua,ul,uc,ub,um,ue⟩,by omega,by go_num,kk,x9,cQ.o.2.2.1.kp3 ((Kp.below H8.o.1).trans k9),cQ.o.2.2.2.1,cQ.o.2.2.2.2.1.held (fun b hb hlt=>((Kp.below H8.o.1).trans k9).same b hlt (by rw[HM.o.1];have:=HZ.o;omega)),by have:=cQ.o.2.2.2.2.2.1;omega,by rw[HWk.o]⟩
   case measure=>simp[intOf];omega
  |true=>
   rw[td]at MR;rw[aG td]at MU;have HWk:=ae MU;have hrl:ins.reverse.length+1<=4000000:=by simp;omega
   have HRL:=ae hrl;clear MU Cm bD hcv hfc aE Rd hcs NW Ll Bo eh sB FO jd xV eN p_ sP aD CQ hu hfi kC d0 d1 d2 d3 td hrl;go_wp2_with (first|(go_at_call 93;refine MR.o.mono ?_;rintro e w8 ⟨rfl,jc⟩;have x8:=bY jc cQ.o.1;obtain⟨s0,s1,s2,s3,y0,y1,y2,y3⟩:=dw x8;have H8:=aM jc x8;clear jc x8)|(at_builtin;refine eW rfl _ _ rfl w4.heap.size (by have:=HZ.o;have:=H8.o.1.size;simp;omega) u10 ins.reverse rfl ((cQ.o.2.2.2.2.1.later H8.o.1).later dp) (.slice (some ⟨w8.heap.size,0,none⟩) 1 1) [cn] rfl (fun _=>True) (DZ (aq rfl)) HRL.o ?_;intro v9 w9 TZ MV;have K9:Kp (fun b=>w4.heap.size<=b) wr w9:=zcQ (H8.o.1.tr dp) MV (fun g hg=>(World.ownsRow.lt cQ.o.2.2.2.2.1 g hg).1);have x9:=(K9.same _ (bQ cQ.o.1) (by have:=HZ.o;omega)).trans cQ.o.1;obtain⟨s0,s1,s2,s3,y0,y1,y2,y3⟩:=dw x9;have hlo:¬w4.heap.size<=b2:=(by have:=HZ.o;have:=cQ.o.2.2.2.2.2.2.1;omega);have d0:=K9.cell hlo HD.o.1;have d1:=K9.cell hlo HD.o.2.1;have d2:=K9.cell hlo HD.o.2.2.1;have d3:=K9.cell hlo HD.o.2.2.2;have HG:=cH TZ K9 x9 (qR ((cQ.o.2.1.trans (Kp.below H8.o.1)).trans (Kp.below dp)) MV (fun g hg=>(World.ownsRow.lt cQ.o.2.2.2.2.1 g hg).1));clear TZ MV K9 x9 hlo));go_roundw
   case rel=>
    have I1:=nJ (v0:=.int .u8 uo) (v1:=.string un) (v2:=.slice ua ul uc) (v3:=.slice ub um ue) HG.o.2.2.1;have T0:=ev (W:=w9) (b:=w.heap.size+1) (v0:=.int .u8 uo) (v1:=.string un) (v2:=.slice ua ul uc) (v3:=.slice ub um ue);rw[<-HM.o.1]at T0;exact⟨k+1,nY[i0],cn::ins,⟨uo,un,ua,ul,uc,ub,um,ue⟩,by omega,by go_num,HG.o.2.2.2.trans T0,I1,(cQ.o.2.2.1.move (fun b hb hlt=>⟨hb,HG.o.2.1.same b hlt (by have:=HZ.o;omega)⟩)).kp3 T0,cQ.o.2.2.2.1,by rw[List.reverse_cons];exact HG.o.1.held (fun b hb hlt=>T0.same b hlt (by rw[HM.o.1];have:=HZ.o;omega)),by have:=cQ.o.2.2.2.2.2.1;simp;omega,by rw[HWk.o]⟩
   case measure=>simp[intOf];omega
 |obtain⟨bt,zg2,⟨uv,un,ua,ul,uc⟩,rfl,kC,hu,d0,d1,d2⟩:=I3.get XC;have hf:=pM.mem (aH XC);have⟨y,hy⟩:=az (l[i0]);rw[<-hy]at hu hf;have hyy:l[i0]?=some y:=by rw[hy];exact jn XC
  obtain⟨xv,xn,xa⟩:=y;obtain⟨s1,h2,gH⟩:=aW.1 hu;exact qb3):G:=h
theorem qeH(h:G:=by
 have hs:=hp.s;obtain⟨⟨o,n,a,s⟩,f,c⟩:=p;simp only[Fm.op]at gq;subst gq
 first
 |clear GB;simp only[gF,ak,bne_self_eq_false,Bool.false_or]at hs;have h1:=hs.2.2.1;have h2:=hs.2.2.2.1;unfold xS at h1;split at h1
  ·rename_i x y;obtain⟨xv,xn,xa⟩:=x;obtain⟨yv,yn,ya⟩:=y;simp only[Tm.v,Tm.n,ak]at h1;obtain⟨rfl,hx,rfl,hy⟩:=h1;simp only[eD,jA,↓reduceIte,ak]at h2;have e1:xa=[]:=by simpa using h2.1.1
   have e2:ya=[]:=by simpa using h2.2.1.1
   subst e1 e2;exact⟨xn,yn,rfl,hx,hy,rfl⟩
  ·cases h1
 |simp only[gF,ak]at hs;exact hs.2.1.1):G:=h
theorem qi9(h:G:=by
 have wO:=ae (lS n W1 (by omega));have H1:=bS hb1 x1 (hb.tr hb1);have kf:=ae cC
 first
 |clear qw0;clear hq j7 rO ih CA hb1 x1 cC hE hR hb eB PU;obtain⟨e0,e1,e2,_⟩:=ir H1.o.2.1
  cases tv with
  |false=>
   have⟨B,hB⟩:=az (a.any (lm k.ts));have hE:=HE.o;rw[aw (by simp),<-hB]at hE;rw[<-hB]at Ji;have HE3:=ae hE;have uW:=ae (Ji.o W1 (ar _ _));clear hE hB;have Ss:=();exact qdM
  |true=>
   cases rd:eA n with
   |false=>
    rw[rd]at wO;have⟨B,hB⟩:=az (a.any (lm k.ts));have hE:=HE.o;rw[aw (by simp[rd]),<-hB]at hE;rw[<-hB]at Ji;have HE3:=ae hE;clear hE hB rd;have ZU:=();exact qdM
   |true=>
    rw[rd]at wO;have hE:=HE.o;rw[aG (by simp[rd])]at hE;have HE3:=ae hE;clear hE rd Ji;exact qdM
 |have HAv:=ae (j7.later hb1)
  first
  |clear qw2;have⟨gZ,_q,HN⟩:=cU ih rO.args eB;clear hq j7 rO ih hb1 x1 cC hE hR hb eB;have jq:=fP
   by_cases Px:(tv&&eA n)=true
   ·obtain⟨rfl,rd⟩:tv=true/\eA n=true:=by simpa using Px
    rw[rd]at wO;have hE:=HE.o;rw[aG Px]at hE;have uN:=ae hE;clear hE Px rd;have qzU:=();exact qkv
   ·have hE:=HE.o;rw[aw Px]at hE;have uN:=ae hE;clear hE;exact qkv
  |have⟨gZ,_q,HSm,HN⟩:=f8 ih rO.args Kc eB;clear hq j7 rO Kc ih hb1 x1 cC hE hR hb eB;have jq:=fP
   by_cases Px:(tv&&eA n)=true
   ·obtain⟨rfl,rd⟩:tv=true/\eA n=true:=by simpa using Px
    rw[rd]at wO;have hE:=HE.o;rw[aG Px]at hE;have uN:=ae hE;clear hE Px rd;have qzT:=();exact qku
   ·have hE:=HE.o;rw[aw Px]at hE;have uN:=ae hE;clear hE;exact qku):G:=h
theorem qd1(h:G:=by
 obtain⟨⟨xv,xn,xa⟩,hx⟩:∃x,l[k]=x:=⟨_,rfl⟩
 first
 |clear qze;rw[hx]at hu hf sD jX;obtain⟨s1,h1,gH⟩:=aW.1 hu;obtain⟨uv,un,ua,ul,uc⟩:=u;exact qdk
 |clear qzf;rw[hx]at hu hf sD hcut;obtain⟨s1,h2,gH⟩:=aW.1 hu;obtain⟨uv,un,ua,ul,uc⟩:=u;have qws:=();exact qb3
 |obtain⟨⟨yv,yn,ya⟩,hy⟩:∃x,m[k]=x:=⟨_,rfl⟩;rw[hx]at hu hf sD;rw[hy]at iA;obtain⟨s1,h1,gH⟩:=aW.1 hu;obtain⟨s2,h2,xG⟩:=aW.1 iA;obtain⟨uv,un,ua,ul,uc⟩:=u;obtain⟨vv,vn,va,vl,vc⟩:=u';have qtS:=();exact qaI):G:=h
theorem qd8(h:G:=by
 refine hK _ _ (fun _=>by rw[c9.o];exact PE) (fun _=>?_)
 first
 |clear qCf;clear hK K;have zd5:=Rt.later hA';refine cb 6 rfl fun K hK=>?_;go_simp;refine aO.2 ((R9 W0 (fd ns f) (fd ns g) (Io ns lH.o.1) (Io ns lH.o.2.1) _ _ _ (HT3.o.next PE) pf pg zd5 Bn).mono ?_);rintro _ A'' ⟨rfl,zd6⟩;have HE:=ae (bV.o.tr (PE.tr zd6));refine eX hK ?_;clear hK K hA hA' zd6 cd PE Rt Bn zd5;refine cb 7 rfl fun K hK=>?_;have qrm:=();exact qaa
 |clear qCg;clear hK K;have tB:A.heap[w4.heap.size]?=some (.cells #[.int .u8 go,.string gn,.slice ga gl gc,.slice gb gm ge] 36 (0,0)):=bY PE HTA.o;have oY:=jz kk g n m qr.o.2.1 qr.o.2.2.1 qr.o.2.2.2.1;have⟨G2,hG2⟩:=az (h_ kk n (bj m) g);have Z_:mI 2000000 G2=true:=by rw[hG2];exact rN kk g n (bj m) qr.o.2.1 qr.o.2.2.1 qr.o.2.2.2.1 (by have:=qr.o.1;simp[bj,ap,af];omega) qr.o.2.2.2.2.2 (Af HM.o.2.1)
  rw[<-hG2]at oY hp;have HG2:Hd (cJ G2/\ag G2<=100000/\iV G2=true/\il G2=true/\a_ G2<=kk):=ae ⟨⟨by have:=qr.o.1;omega,Z_⟩,by have:=qr.o.1;omega,oY.1,oY.2.1,by have:=qr.o.2.2.2.1;omega⟩;have Ah:Hd (RS=.mk qo m [] [h_ kk nx z G2]):=ae (by rw[Ah.o,hG2]);have lK:w.heap.size+3<w4.heap.size:=Lh.o.lt;have n_:=cd.size;have zfd:=(bQ HTA.o);have k13:=ev (W:=A) (b:=w4.heap.size) (v0:=.int .u8 ho) (v1:=.string wE) (v2:=.slice ha hl hc) (v3:=.slice hb hm he);have TY:=nJ (v0:=.int .u8 ho) (v1:=.string wE) (v2:=.slice ha hl hc) (v3:=.slice hb hm he) tB;have⟨s0,s1,s2,s3⟩:=pC tB;have zs0:=ai tB 0;have zs1:=ai tB 1;have zs2:=ai tB 2;have zs3:=ai tB 3;have _a:=(Ra.o.later PE).keep k13.os k13.tape k13.output k13.size (fun b bU=>k13.same b (by have:=(Ra.o.later PE).lt;omega) (by omega));have zcN:=hp.move (ok':=fun _=>True) (fun b hok hlt=>⟨trivial,k13.same b hlt (by omega)⟩);have⟨yF,zcO,zcP⟩:=cU _a TY zcN;clear oY hG2 Z_ lK n_ zfd k13 TY tB _a zcN hp hA sG cd PE zay;refine cb 7 rfl fun K hK=>?_;simp only[FQ.val];have qru:=();exact qaa
 |clear hK K hA' cd hp hq hp' gY PE;refine cb 10 rfl fun K hK=>?_
  go_simp;refine hK _ _ (fun _=>by rw[c9.o];exact HP.o.2.2) (fun _=>?_);clear hK K;refine cb 11 rfl fun K hK=>?_;have y1:=bY HP.o.2.2 kJ.o;have⟨e0,e1,e2,e3⟩:=pC y1;have z0:=ai y1 0;have z1:=ai y1 1;have z2:=ai y1 2;have z3:=ai y1 3;have Κ:=ae y1;clear y1;have qrs:=();exact qaa):G:=h
theorem qdt(h:G:=by
 refine hK _ _ (fun _=>by rw[c9.o];exact cd) (fun _=>?_)
 first
 |clear qvV;clear hK K
  first
  |clear qzs;refine cb 14 rfl fun K hK=>?_
   have qzY:=();exact qd6
  |clear qxm;refine cb 15 rfl fun K hK=>?_
   have qzZ:=();exact qd6
  |clear qxL;refine cb 5 rfl fun K hK=>?_
   go_simp;refine aO.2 ((HD.o _ cd).mono ?_);rintro _ A' ⟨pg,rfl,Bn,hA'⟩;have PE:Below W5.heap.size W5 A':=cd.tr hA';have qCf:=();exact qd8
  |clear qqY
   first
   |clear qBi;refine cb 6 rfl fun K hK=>?_
    simp only[FQ.val];have qpv:=();exact qag
   |clear qBh;refine cb 4 rfl fun K hK=>?_
    simp only[TQ.val];have qpE:=();exact qag
   |clear qyQ;refine cb 5 rfl fun K hK=>?_
    simp only[TQ.val];have qpG:=();exact qag
   |clear qyP;refine cb 6 rfl fun K hK=>?_
    simp only[TQ.val];have qpK:=();exact qag
   |clear qBk;refine cb 6 rfl fun K hK=>?_
    simp only[TQ.val];have qpM:=();exact qag
   |clear qvN;refine cb 5 rfl fun K hK=>?_
    simp only[TQ.val];exact qag
   |clear qBj;refine cb 6 rfl fun K hK=>?_
    simp only[FQ.val];have qpz:=();exact qag
   |clear qBe;refine cb 4 rfl fun K hK=>?_
    simp only[TQ.val];have qpA:=();exact qag
   |clear qBf;refine cb 4 rfl fun K hK=>?_
    simp only[TQ.val];have qpC:=();exact qag
   |clear qBg;refine cb 4 rfl fun K hK=>?_
    simp only[FQ.val];have qpr:=();exact qag
   |refine cb 6 rfl fun K hK=>?_
    simp only[FQ.val];have qpt:=();exact qag
  |clear qCh;have oO:((wz.drew.alloc (.cells #[.bool u.v,.string u.n,.slice u.a u.l u.c] 43)).alloc (.cells #[.bool v.v,.string v.n,.slice v.a v.l v.c] 43)).heap[wz.heap.size]?=some (.cells #[.bool u.v,.string u.n,.slice u.a u.l u.c] 43 (0,0)):=(bZ _ _ _ (by simp)).trans (aq (by simp));have jv:((wz.drew.alloc (.cells #[.bool u.v,.string u.n,.slice u.a u.l u.c] 43)).alloc (.cells #[.bool v.v,.string v.n,.slice v.a v.l v.c] 43)).heap[wz.heap.size+1]?=some (.cells #[.bool v.v,.string v.n,.slice v.a v.l v.c] 43 (0,0)):=aq (by simp);refine cb 28 rfl fun K hK=>?_;go_simp;refine aO.2 ((K_.o _ cd _ _ oO jv).mono ?_);clear oO jv;exact qlg
  |clear qCi;have oO:((wz.drew.alloc (.cells #[.bool v.v,.string v.n,.slice v.a v.l v.c] 43)).alloc (.cells #[.bool u.v,.string u.n,.slice u.a u.l u.c] 43)).heap[wz.heap.size]?=some (.cells #[.bool v.v,.string v.n,.slice v.a v.l v.c] 43 (0,0)):=(bZ _ _ _ (by simp)).trans (aq (by simp));have jv:((wz.drew.alloc (.cells #[.bool v.v,.string v.n,.slice v.a v.l v.c] 43)).alloc (.cells #[.bool u.v,.string u.n,.slice u.a u.l u.c] 43)).heap[wz.heap.size+1]?=some (.cells #[.bool u.v,.string u.n,.slice u.a u.l u.c] 43 (0,0)):=aq (by simp);refine cb 28 rfl fun K hK=>?_;go_simp;refine aO.2 ((K_.o _ cd _ _ jv oO).mono ?_);clear jv oO;exact qlg
  |clear quI;refine cb 10 rfl fun K hK=>?_
   go_simp;refine hK _ _ (fun _=>by rw[c9.o];exact cd) (fun _=>?_);clear hK K;refine cb 11 rfl fun K hK=>?_;exact qd6
  |clear qBl;refine cb 6 rfl fun K hK=>?_
   go_simp;have zay:=Ra.o.later cd;refine aO.2 ((gZ.o W0 g n (bj m) qr.o.2.2.2.2 qr.o.1 qr.o.2.1 qr.o.2.2.1 qr.o.2.2.2.1 mn ⟨by simp[bj,ap,af],Af HM.o.2.1⟩ (by simp[bj,ap,af]) _ (fun _=>True) A1 ⟨go,gn,ga,gl,gc,gb,gm,ge⟩ ⟨true,⟨m.toArray⟩,none,0,0⟩ (TS.o.next zay.below) (HG.o.later zay.below) (aW.2 ⟨_,rfl,cE⟩)).mono ?_);rintro _ A ⟨⟨⟨ho,wE,ha,hl,hc,hb,hm,he⟩,rfl,hp⟩,hA⟩;have PE:=cd.tr hA;have qCg:=();exact qd8
  |clear qCj;refine cb 9 rfl fun K hK=>?_
   simp only[FQ.val];have qpx:=();exact qag
  |refine cb 8 rfl fun K hK=>?_
   simp only[TQ.val];have qpI:=();exact qag
 |clear qyu;clear hK K hA;refine cb 9 rfl fun K hK=>?_
  go_simp;refine aO.2 ((vQ.o A (cQ.o.trans (cd.mono cQ.o.size))).mono ?_);rintro _ A' ⟨rb,re,rfl,hq,hA'⟩;have PE:Below W2.heap.size W2 A':=cd.trans (hA'.mono cd.size);have hp':=(hp.later hA').move (ok':=(W2.heap.size<=·)) (fun b hok _=>⟨hok,rfl⟩);have gY:=hq.move (ok':=(W2.heap.size<=·)) (fun b hok _=>⟨aR cd.size hok,rfl⟩);have HP:=bS hp' gY PE;exact qd8
 |clear hK K hA;refine cb 7 rfl fun K hK=>?_
  go_simp;refine hK _ _ (fun _=>by rw[c9.o];exact H5.o.2) (fun _=>?_);clear hK K;refine cb 8 rfl fun K hK=>?_;have y1:=bY H5.o.2 kJ.o;have⟨e0,e1,e2⟩:=n8 y1;have z0:=ai y1 0;have z1:=ai y1 1;have z2:=ai y1 2;have Κ:=ae y1;clear y1 hp cd;have qq2:=();exact qaa):G:=h
theorem qjP(h:G:=by
 rintro lR pre vs x W hl Ce ⟨h1,h2,h3⟩ ⟨q,ps,rfl,Ql,oe,xI,F_,hps⟩ J9 dU
 first
 |clear qyG;have qqR:=();exact qa6
 |have qqT:=();exact qa6):G:=h
theorem qko(h:G:=by
 rw[<-cC];have iZ:W1.heap.size=w.heap.size+4:=by rw[cC];have:=bV.o.2;simp;omega
 first
 |clear qzH;have s9:=ae (ce.start (R:=w.heap.size+1+1+1) (mk:=fun rr=>#[.int .u8 qo,.string ⟨n.toArray⟩,rr,.slice none 0 0]) (Row:=fun r W=>dH W1.heap.size r ([]:List Tm) W) Z1 (dH.nil _ _));have eQ:=aM (bV.o.1.tr F4) iZ;have TA:=ae (bY F4 HX.o.1);have zcC:=ae (bY F4 HX.o.2.1);have Q6:=ae (bY F4 HX.o.2.2);clear cC F4 Z1 iZ t0 t1 t2;go_loopw [25] (fun i wr=>∃k1:Nat,k1<=k0/\i=.int .i64 k1/\∃row XB,ce 36 (w.heap.size+1+1+1) W1.heap.size (fun rr=>#[.int .u8 qo,.string ⟨n.toArray⟩,rr,.slice none 0 0]) (fun r W=>dH W1.heap.size r XB W) W1 wr row/\eY ps.reverse ins (a.take k1)=some XB/\XB.length=k1) (fun i _=>k0-(intOf i).toNat)
  case atStart=>exact⟨0,bn _,rfl,_,[],s9.o,by simp[eY],rfl⟩
  case round=>
   obtain⟨k1,hk,rfl,row,XB,hF,DP,F5⟩:=hrel;have aD:=hF.below eQ.o.1 (by omega);obtain⟨fN,fO,rfl⟩:=hF.row.slice;rw[F5]at hF
   by_cases hlt:k1<k0
   ·have dG:=cG dN.o hlt;have qwR:=();exact qah
   ·obtain rfl:k1=k0:=by omega
    have jW:a.take k1=a:=by rw[dN.o];exact dA
    rw[jW]at DP;have sQ:=ae hF.row;have x2:=hF.box;have x1:=hF.other (by omega) Q6.o;have xp:=hF.other (by omega) TA.o;have xt:=hF.other (by omega) zcC.o;have⟨IW,TB⟩:=az wr;subst TB;have qCa:=();exact qls
 |have s9:=ae (ce.start (R:=w.heap.size+1+1+1) (mk:=fun rr=>#[.bool false,.string ⟨n.toArray⟩,rr]) (Row:=fun r W=>dH W1.heap.size r ([]:List Tm) W) Z1 (dH.nil _ _));have TE:=aM (bV.o.1.tr F4) iZ;have TA:=ae (bY F4 HXP.o);have Q6:=ae (bY F4 kJ.o);clear cC F4 Z1 iZ p0 p1 p2 p3 p4 p5 p6 p7 p8 t0 t1 t2;go_loopw [40] (fun i wr=>∃k:Nat,k<=k0/\i=.int .i64 k/\∃row us,ce 43 (w.heap.size+1+1+1) W1.heap.size (fun rr=>#[.bool false,.string ⟨n.toArray⟩,rr]) (fun r W=>dH W1.heap.size r us W) W1 wr row/\eY ps.reverse ins (a.take k)=some us/\us.length=k) (fun i _=>k0-(intOf i).toNat)
  case atStart=>exact⟨0,bn _,rfl,_,[],s9.o,by simp[eY],rfl⟩
  case round=>
   exact qcU):G:=h
theorem qfk(h:G:=by
 simp only[kE,List.setIfInBounds_toArray,List.set_cons_zero,List.set_cons_succ]
 first
 |clear qnS;rw[hu];have FT:∀b,M b->w.heap.size<=b:=fun b hb=>by rw[HM.o]at hb;have:=nZ.o.2.2.2.1;have:=nZ.o.2.1;omega
  have YE:¬M (w.heap.size+1):=by rw[HM.o];have:=nZ.o.2.2.2.1;have:=nZ.o.2.1;have:=(bQ nZ.o.2.2.2.2);have:=HKw.o;omega
  have hbr:=en nZ.o.2.2.1 bD FT;have x1r:=(bD.same _ (bQ nZ.o.2.2.2.2) YE).trans nZ.o.2.2.2.2;have FL:=aM FT YE;clear FT YE;rcases(show i=2\/i=0\/i=1 by omega)with rfl|rfl|rfl
  ·obtain⟨k1,Rt,Bn⟩:=zH rfl;have HE:=ae (show R=(k,0,0) by rw[Cj.o,Rt];simp only[ne_eq,not_true_eq_false,↓reduceIte];rw[Bn];simp);have e0:=ao Kg 0;have CB:=Ma k CX dx dV (fun _ h=>h.fit) (fun _ h=>h.fit) _ wr _ _ _ nF nT eR (by omega) (by omega);have HCB:=ae CB;have HX:=bS x1r hbr AZ;clear Kg gH bD eR CB x1r hbr AZ Rt Bn sB hi1 zH;gi_wp2_with (gi_at_call 50;refine aO.2 (HCB.o.mono ?_);rintro e w7 ⟨⟨⟨p0,p1,p2,p3,p4,p5⟩,rfl,N5⟩,g_⟩;have x17:=bY g_ HX.o.1;obtain⟨y0,y1,z0,z1⟩:=w_ x17;have H7:=bS x17 g_ N5;clear x17 g_ N5;simp only[BQ.val]);obtain⟨W8,kM,x8,k8,g0,g1⟩:=Gj H7.o.1 (.slice p0 p1 p2) (.slice p3 p4 p5);rw[<-kM,Exit.noGoto_ret];have xh:Below w.heap.size w W8:=Below.kp1 (HX.o.2.1.tr H7.o.2.1) k8 (by omega);have zhb:=(bQ HX.o.1);refine fE (B:=lB.heap.size) (HX.o.2.2.move (fun D hD hd=>(k8.same D (bP (bQ hd) H7.o.2.1.size) (by have:=(bQ nZ.o.2.2.2.2);omega)).trans ((H7.o.2.1.block D (bQ hd)).trans hd))) (fun w' hn=>?_);have h0:=hn.cell g0;have h1:=hn.cell g1;refine⟨.tuple #[.agg #[.slice p0 p1 p2,.slice p3 p4 p5],.int .i64 0,.int .i64 0],by simp[results,results15,go_sem,h0,h1],⟨⟨⟨p0,p1,p2,p3,p4,p5⟩,by(rw[HE.o];try rfl),?_⟩,kU xh (hn.mono nZ.o.2.2.1.size)⟩⟩;rw[HE.o];exact(H7.o.2.2.move (fun b hb hlt=>⟨aR HX.o.2.1.size hb,k8.same b hlt (by omega)⟩)).nw hn
  ·have HST:=ae (Lu W0);have e0:=ao Kg 0;have⟨zf,uf⟩:=az (wr.alloc (.cells #[(.func (.func 47) #[.pointer (some ⟨K0+1+1+1,0,none⟩)] #[])] 82));have quf:=();exact qhM
  ·have HST:=ae (RL W0);have e0:=ao Kg 0;have⟨zf,uf⟩:=az (wr.alloc (.cells #[(.func (.func 48) #[.pointer (some ⟨K0+1+1+1,0,none⟩)] #[])] 82));exact qhM
 |rw[hu3];have nX:Below w.heap.size w wq:=en xJ.o.2.2.1 bD FL.o.1
  by_cases hlt:j<n2
  first
  |clear qug
   ·have lG:=cG HN.o hlt;exact qfj
   ·obtain rfl:n2=j:=by omega
    have zj:dt bc 0 k l=(kj,0,0):=by rw[jm,iW (by rw[<-HN.o];exact aK _)];rfl
    have an:=();exact qjW
  |·have lG:=cG HN.o hlt;obtain⟨bb,off,⟨a0,a1,a2,a3,a4,a5,a6,a7⟩,⟨b0,b1,b2,b3,b4,b5,b6,b7⟩,rfl,hok,hs,hf,c0,c1,c2,c3,c4,c5,c6,c7⟩:=HV.o.1.get lG;have⟨d0,d1,d2,d3,d4,d5,d6,d7⟩:=M_ nX c0 c1 c2 c3 c4 c5 c6 c7;simp only at d0 d1 d2 d3 d4 d5 d6 d7;have cV:=EV (step:=dE) (k:=kj) lG;have rO:=HV.o.2.2.2.2 _ (aH lG);have EZ:=(gx l 0).1 HBp.o _ (aH lG);obtain⟨⟨s,f⟩,SM⟩:∃x,x=l[j]:=⟨_,rfl⟩;rw[<-SM]at cV rO hs hf EZ;simp only at cV rO hs hf EZ;rw[cV]at jm;exact qgd
   ·obtain rfl:n2=j:=by omega
    have zj:dt dE 0 k l=(kj,0,0):=by rw[jm,iW (by rw[<-HN.o];exact aK _)];rfl
    exact qjW):G:=h
theorem qf4(h:G:=by
 have cr:((s.map (eb fr cc)).take k).length=k:=by rw[dO];have:=gT.o;simp;omega
 first
 |clear qpP;have jW:(s.map (eb fr cc)).take k=(s.map (eb fr cc)):=gB (by have:=gT.o;simp;omega);have qBD:=();exact qa5
 |have quV:=();exact qbH):G:=h
theorem qbq(h:G:=by
 have hnd:af a<=400:=by simp only[ag]at uM;omega
 first
 |clear qnw;have mn:n.length<=2000000:=by have:=nM.2.1;omega
  obtain⟨q,_,SD,vD,_⟩:=eR.formOf (x:=n) mn;have jQ:(dX (aP [] (cZ k.fs n))).length<=400:=by have h1:=gp (aP [] (cZ k.fs n));have h2:=fI (cZ k.fs n) [];omega
  have sK:∀x∈dX (aP [] (cZ k.fs n)),x.length<=2000000:=fun x hx=>oo _ [] SD.2 x ((eG x _).1 hx);rw[An]
  by_cases kL:o=15
  ·rw[aG kL];exact⟨aR (List.length_filter_le _ _) (by omega),fun x hx=>sK x (List.mem_filter.1 hx).1⟩
  rw[aw kL]
  by_cases gq:o=16
  ·subst gq;rw[aG rfl];obtain⟨x,y,gH,M0,Jk,bq⟩:=lA hs;rw[bq];have Lz:=iI Jk;obtain⟨q2,_,_,htn,htm,_⟩:=eR.termOf (x:=y) (by omega);simp only;split
   ·exact⟨aR (List.length_filter_le _ _) (by omega),fun x hx=>sK x (List.mem_filter.1 hx).1⟩
   ·refine⟨?_,fun z hz=>?_⟩
    ·rw[ei];have h1:=List.length_filter_le (fun z=>z !=cg x) ((dX (aP [] (cZ k.fs n))).filter cW);have h2:=List.length_filter_le cW (dX (aP [] (cZ k.fs n)));have h3:=List.length_filter_le cW (dX (aL (b8 k.ts y)));have h4:=gp (aL (b8 k.ts y));have h5:=oS (b8 k.ts y);omega
    ·rcases List.mem_append.1 hz with h|h
     ·exact sK z (List.mem_filter.1 (List.mem_filter.1 h).1).1
     ·exact aR (oT _ htm z ((eG z _).1 (List.mem_filter.1 h).1)) (by decide)
  ·rw[aw gq];have dQ:d8 2000000 a=true:=eV (by omega) a nM.2.2.1;refine⟨?_,wU (fun x hx=>by obtain⟨_,_,_,_,h,_⟩:=eR.termOf (x:=x) hx;exact h) a dQ⟩;have:=rW (fun x hx=>mW eR (x:=x) hx) a dQ;omega
 |clear qsT;have xH:jE a:=⟨by omega,eV (by omega) a nM.2.2.1⟩;have mn:n.length<=2000000:=by have:=nM.2.1;omega
  exact qiA
 |clear qCk;have xH:∀t∈a,e7 t:=fun t ht=>⟨by have:=i8 ht;omega,lO (by omega) t (ii.1 nM.2.2.1 t ht)⟩
  have mn:=nM.2.1;have qvO:=();exact qiA
 |have Rc:n1<=400:=by have:=jU a;omega
  have XP:n2<=2000000:=by rw[jY];exact aI.args.len
  have⟨HR,HP⟩:=bi tN hp;have HG:=gN WP WO WQ hM0 hMs;have HV:=uU hs hf j7 I7 hc eR;have HN:=cH eB jY jQ sK;have HB:=gN vh tC hnd hl hps;have kf:=ae cC;have H1:=bS hb1 jv x1;have HF:=aM aI nM;clear tN hR hp WP WO WQ hM0 hMs hs hf j7 I7 oY zaD hc eR eB jY jQ sK vh tC hnd hl hps cC hb1 jv aI nM vD Ec uM;simp only[gd.val,gd.cells];go_enter func47,ntmps47;go_wp2;rw[<-kf.o];go_cut [5,6]from 14 to 17 (fun s5 s6 wx=>∃B5 B6,s5=.pointer (some ⟨B5,0,none⟩)/\s6=.pointer (some ⟨B6,0,none⟩)/\Cmp W W1 B5 B6 #[.int .u8 so,.string ⟨n.toArray⟩,.slice sa n1 sc,.slice sb m1 se] #[.int .u8 fo,.string ⟨n'.toArray⟩,.slice fa n2 fc,.slice fb m2 fe] wx)
  case first=>
   have⟨c0,c1,c2,c3,c4,c5,c6,c7⟩:=FP x1;exact qkV
  case rest=>
  obtain⟨B5,B6,h5,h6,hcm⟩:=hcut;rw[h5,h6];clear h5 h6;have⟨W3,ec⟩:=az wc;rw[<-ec]at hcm⊢;clear ec wc;have aS:Below W.heap.size W W3:=H1.o.1.tr hcm.b;have xp:=bY hcm.b H1.o.2.2;have hlb:=hcm.l;obtain⟨e0,e1,e2,e3,_,_,_,_⟩:=dw hcm.s;obtain⟨f0,f1,f2,f3,_,_,_,_⟩:=dw hcm.f;have⟨P0,P1,P2,P3,P4,P5,P6,P7⟩:=FP xp;have P8:=ao xp 8;have H3:=cH aS xp hcm hlb;have pE:=ae (HV.o.2.2.2.2.2.later aS);clear aS xp hcm hlb
  by_cases gq:so=16
  ·subst gq;have HE:=ae (show R=(k,0) by rw[HR.o,aG rfl]);go_wp2;go_ret;exact dq.good nF nT HE.o (Kp.below (H3.o.1.tr (ar _ _))) (by omega) (by omega) pE.o
  by_cases kL:so=15
  ·subst kL;have⟨I,hI⟩:=az (f9 ps.reverse [] (.mk fo n' a' s'));have N8:=HR.o;rw[aw (by decide),aG rfl,<-hI]at N8;have CI:=G8 ⟨⟨15,⟨n.toArray⟩,sa,n1,sc,sb,m1,se⟩,⟨fo,⟨n'.toArray⟩,fa,n2,fc,fb,m2,fe⟩,ca,cl,cc⟩ ps HB.o.2.2.2.1 HB.o.2.2.2.2 (.mk fo n' a' s') HF.o.1 [] [] (by have:=HF.o.1.1;simp;omega) (fun _=>rfl) (.slice none 0 0) (fun b=>¬M b) W3 ⟨fo,⟨n'.toArray⟩,fa,n2,fc,fb,m2,fe⟩ (HV.o.2.2.2.2.1.1.later H3.o.1) (Hl _) (HV.o.2.1.later H3.o.1);rw[<-hI]at CI;simp only[gd.val,gd.cells,FQ.val]at CI;have HC:=ae CI
   cases I with
   |none=>
    have HE:=ae (show R=(k,70)from N8);clear CI N8 hI;have up:=();exact qjA
   |some im=>
    have him:dx im:=Eb HP.o hI.symm;have _b:=ae him;clear CI hI him;go_wp2_with (go_at_call 91;refine HC.o.mono ?_;rintro e w4 ⟨⟨⟨p0,p1,p2,p3,p4,p5,p6,p7⟩,rfl,hp⟩,aY⟩;have H4:=aM (hp _ rfl) aY;clear hp aY;simp only[Option.isSome]);have qAw:=();exact qjB
  have⟨G,hG⟩:=az (so !=fo||(n1 !=n2||(m1 !=m2||(n !=n'&& !br so))));have hRg:=HR.o;rw[aw gq,aw kL,<-hG]at hRg;have⟨HRg,HGb⟩:=bi hRg hG;have j8:(so==16)=false:=by simp[gq]
  have N9:(so==15)=false:=by simp[kL]
  clear hRg hG;go_upto_region 15 with fail;clear j8 N9;go_cut [89]from 55 to 89 (fun s89 wx=>s89=.bool G/\Below W3.heap.size W3 wx)
  case first=>
   by_cases g1:so=fo
   ·subst g1;have a1:(so==so)=true:=by simp
    by_cases g2:n1=n2
    ·subst g2
     by_cases g3:m1=m2
     ·subst g3
      by_cases g4:n=n'
      ·subst g4;have a4:(n==n)=true:=by simp
       go_wp2_with fail;go_meet;exact⟨by rw[HGb.o];simp,ar _ _⟩
      ·have a4:(n==n')=false:=by simp[g4]
       have a5:(n !=n')=true:=by simp[g4]
       have⟨qb,MY⟩:=az (br so);have HQ:=ae (fun(V:World)=>gS ⟨so,⟨n.toArray⟩,sa,n1,sc,sb,m1,se⟩ V);simp only[FQ.val,<-MY]at HQ;have HGq:=ae (show G=!qb by rw[HGb.o,MY];simp[g4]);clear MY;cases qb
       ·go_wp2_with (go_at_call 93;refine(HQ.o _).mono ?_;rintro e w4 ⟨rfl,aY⟩;have H4:=ae aY;clear aY);go_meet;exact⟨by rw[HGq.o];rfl,H4.o⟩
       ·go_wp2_with (go_at_call 93;refine(HQ.o _).mono ?_;rintro e w4 ⟨rfl,aY⟩;have H4:=ae aY;clear aY);go_meet;exact⟨by rw[HGq.o];rfl,H4.o⟩
     ·have a3:((m1:Int)!=(m2:Int))=true:=by simp;omega
      have a3b:((m1:Int)==(m2:Int))=false:=by simp;omega
      have a3c:¬((m1:Int)=(m2:Int)):=by omega
      go_wp2_with fail;go_meet;exact⟨by rw[HGb.o];simp[g3],ar _ _⟩
    ·have a3:((n1:Int)!=(n2:Int))=true:=by simp;omega
     have a3b:((n1:Int)==(n2:Int))=false:=by simp;omega
     have a3c:¬((n1:Int)=(n2:Int)):=by omega
     go_wp2_with fail;go_meet;exact⟨by rw[HGb.o];simp[g2],ar _ _⟩
   ·have a1:(so==fo)=false:=by simp[g1]
    have a2:(so !=fo)=true:=by simp[g1]
    go_wp2_with fail;go_meet;exact⟨by rw[HGb.o];simp[g1],ar _ _⟩
  case rest=>
  obtain⟨h89,aY⟩:=hcut;rw[h89];clear h89;have⟨W4,vE⟩:=az wc;rw[<-vE]at aY⊢;clear vE wc
  cases G with
  |true=>
   have HE:=ae (show R=(k,70) by rw[HRg.o];rfl);have e9:=ae (H3.o.1.tr aY);clear aY;go_wp2;go_ret;exact dq.bad HE.o (by decide) (Kp.below e9.o)
  |false=>
   have hgg:=HGb.o.symm;simp only[Bool.or_eq_false_iff,bne_eq_false_iff_eq]at hgg;obtain ⟨g1,g2,g3,_⟩:=hgg;subst g1 g2 g3;have zc2:=H3.o.1.tr aY;have xp4:=bY aY H3.o.2.1;have x54:=bY aY H3.o.2.2.1.s;have x64:=bY aY H3.o.2.2.1.f;have q2:=ao x54 2;have hsz:W.heap.size<W4.heap.size:=(bQ xp4);have H4:=gN zc2 hsz xp4 x64 (H3.o.2.2.2.2);have HK4:=ae (pE.o.later aY);have ⟨Cb,HVa⟩:=bi HN.o.2.1 HV.o.2.2.2.1;have zfl:∀ {V:World},Kp M W V->nK M V (.slice ca cl cc) ps:=fun h=>HV.o.2.2.2.2.1.kp h;have WR:=ae (show ∀ u∈a,e7 u/\kI 1999999 u=true from fun u hu=>by
    have h1:=ii.1 HF.o.2.2.2.1 u hu;have h2:=i8 hu;have:=HB.o.2.2.1;exact⟨⟨by omega,lO (by omega) u h1⟩,lO (by omega) u h1⟩)
   have zaE:=HRg.o;simp only[bR,↓reduceIte]at zaE;have HRg:=ae zaE;clear aY zc2 xp4 x54 x64 hsz e0 e1 e2 e3 f0 f1 f2 f3 P0 P1 P2 P3 P4 P5 P6 P7 P8;go_wp2_with fail;clear zaE;go_loopw [93] (fun i wr=>∃(j Gc:Nat)(kj:List (aj×Tm)),j<=n1/\i=.int .i64 j/\Kp (fun b=>b=mT) W4 wr/\Gc<=nT+af (a.take j)/\ly (fun b=>¬M b) dx dV wr kb mF mT nF Gc ⟨k.fs,kj⟩/\dB ps.reverse k.ts a a'=dB ps.reverse kj (a.drop j) (a'.drop j)) (fun i _=>n1-(intOf i).toNat)
   case atStart=>exact⟨0,nT,k.ts,bn _,rfl,Kp.refl _,by omega,HK4.o,by simp⟩
   case round=>
    obtain⟨j,Gc,kj,hj,rfl,bD,rR,eR,jm⟩:=hrel;have hMm:∀b,b=mT->M b:=fun b e=>e▸HG.o.2.1;have hkN:Kp (N2 mF mT) W wr:=(Kp.below H4.o.1).trans (bD.mono (fun b _ h=>.inr h));have N':Kp M W wr:=hkN.two HG.o.1 HG.o.2.1;have zg6:mT<W.heap.size:=HG.o.2.2.2.2 mT HG.o.2.1
    by_cases hlt:j<n1
    ·have lU:=cG HN.o.1 hlt;have Ba:=cG Cb.o hlt;exact qfV
    ·obtain rfl:j=n1:=by omega
     have HE:=ae (show R=({ k with ts:=kj },0) by
      rw[HRg.o,jm,iW (by rw[<-HN.o.1];exact aK _)];simp[dB])
     have cr:a.take j=a:=by rw[HN.o.1];exact dA
     rw[cr]at rR;have HK:=bS hkN rR eR;clear bD rR eR jm cr N' hkN;go_wp2;go_ret;exact dq.good nF Gc HE.o HK.o.1 (by omega) (by have:=HK.o.2.1;have:=HB.o.2.2.1;omega) HK.o.2.2):G:=h
theorem qaK(h:G:=by
 have⟨d0,d1,d2,d3⟩:=mH aD c0 c1 c2 c3
 first
 |clear qn8;have⟨M,hM⟩:=az (Fc l[k] (500-m));have CC:=V9 l[k] (HF.o.mem (aH bA)) ok wr u (500-m) (hu.later aD) (by omega) (by omega);rw[<-hM]at CC;have vw:gA l 500 0=gA (l.drop (k+1)) 500 (m+M):=by
   rw[hcut];simp only[gA,aG te];rw[hM]
  have Od:m+M<=100002000000:=by
   have h5:=(m5 l 500 0).2.1;have h6:=(m5 (l.drop (k+1)) 500 (m+M)).1;omega
  exact qit
 |clear qof;have C7:(j:Int)<(n1:Int):=by omega
  have mn:=mQ l _ (aH lU);have FJ:=ae (tR l[j] (HF.o.1.mem (aH lU)) (by have:=HF.o.2;omega) _ wo u (hx.later aD));have pQ:=MC lU;have⟨P,hP⟩:=az (gg (l.take j));have⟨L,hL⟩:=az (dX (aP [] l[j]));rw[<-hP]at ea pQ;rw[<-hL]at FJ pQ;have hlen:P.length+L.length<=2000000:=by
   have h1:=xx (l.take j);have h2:=gp (aP [] l[j]);have h3:=fI l[j] [];have h4:ah (l.take j)<=ah l:=de l j;have:=HF.o.2;rw[hP,hL];omega
  have dQ:∀x∈L,x.length<=2000000:=fun x hx=>by
   rw[hL,Jq]at hx;exact oo l[j] [] (HF.o.1.mem (aH lU)).2 x hx
  have⟨HT,wn,KH,sQ,HB⟩:=sL pQ hlen dQ ea aD;obtain⟨uo,un,ua,ul,uc,ub,um,ue⟩:=u;simp only[FQ.val]at FJ;simp only at d0 d1 d2 d3;clear pQ hlen dQ ea aD hP hL c0 c1 c2 c3 hx hok mn;go_wp2_with (go_at_call 40;refine FJ.o.mono ?_;rintro e w5 ⟨⟨v5,rfl,hv5⟩,bE⟩;have H5:=aM hv5 bE;clear hv5 bE);have cV:=H5.o.1.strs.own;have zbQ:∀b,v5.ownBlock=some b->wo.heap.size<=b/\b<w5.heap.size:=fun b hb=>H5.o.1.1.lt b hb;have hrb:∀b,u3.ownBlock=some b->b<wo.heap.size:=fun b hb=>(sQ.o.lt b hb).2;obtain⟨a5,c5,rfl⟩:=cV.slice;have⟨k0,jY⟩:=az L.length;rw[<-jY]at cV zbQ⊢;have zhn:k0<=2000000:=by have:=wn.o;omega
  have⟨Cb,tS⟩:=bi jY H5.o.2;have hd5:∀b,u3.ownBlock=some b->(Value.slice a5 k0 c5).ownBlock≠some b:=fun b hb e=>by have h1:=hrb b hb;have h2:=(zbQ b e).1;omega
  have HS0:=aM cV hd5;clear jY H5 cV zbQ hrb hd5 d0 d1 d2 d3;go_wp2;go_loopw [3,6] (fun r i wr=>∃k:Nat,k<=k0/\i=.int .i64 k/\fK w.heap.size wr r (P++(L.take k).filter cW)/\Below w.heap.size w wr/\fJ (fun b=>(Value.slice a5 k0 c5).ownBlock=some b) wr (.slice a5 k0 c5) L/\(∀b,r.ownBlock=some b->(Value.slice a5 k0 c5).ownBlock≠some b)) (fun _ i _=>k0-(intOf i).toNat)
  case atStart=>exact⟨0,bn _,rfl,by simpa using sQ.o.later tS.o,HB.o.tr tS.o,HS0.o.1,HS0.o.2⟩
  case round=>
   obtain⟨k,hk,rfl,hr,ew,hS,jd⟩:=hrel
   by_cases fC:k<k0
   ·have bA:=cG Cb.o fC;obtain⟨b2,o2,rfl,_,e0⟩:=hS.get bA;have Cu:(k:Int)<(k0:Int):=by omega
    have mn:=KH.o _ (aH bA);have cr:(L.take (k+1)).filter cW=(L.take k).filter cW++[L[k]].filter cW:=by rw[lq bA,List.filter_append]
    have pM:((L.take k).filter cW).length<=k:=aR (List.length_filter_le _ _) (by simp;omega);have⟨n,hn⟩:=az (L[k]);rw[<-hn]at e0 mn cr;have⟨dR,TC⟩:=bi cr pM;have yH:=cH hr ew hS jd;clear hr ew hS jd cr pM hn;have hsz:=jf n
    by_cases h1:n.length<=1
    ·have hh:cW n=false:=by
      rcases n with _|⟨c,_|⟨c2,r⟩⟩
      ·rfl
      ·simp[cW,fQ,qD]
      ·simp at h1
     have HH:=ae hh;have M4:decide ((n.length:Int)>1)=false:=by simp;omega
     have zho:decide ((1:Int)<(n.length:Int))=false:=by simp;omega
     clear hh;go_wp2;go_roundw
     case rel=>exact⟨k+1,by omega,by go_num,by rw[dR.o];simpa[HH.o]using yH.o.1,yH.o.2.1,yH.o.2.2.1,yH.o.2.2.2⟩
     case measure=>simp[intOf];omega
    ·obtain⟨c,r,NY⟩:∃c r,n=c::r:=by cases n with|nil=>simp at h1|cons c r=>exact⟨c,r,rfl⟩
     have hr1:1<=r.length:=by rw[NY,fB]at h1;omega
     replace hsz:(⟨n.toArray⟩:ByteArray).size=r.length+1:=by rw[hsz,NY];rfl
     have M4:(1:Int)<(r.length:Int)+1:=by omega
     have hx:(⟨n.toArray⟩:ByteArray).extract 1 (r.length+1)=⟨r.toArray⟩:=by rw[NY];exact jV c r
     have TN:r.length<=2000000:=by rw[NY,fB]at mn;omega
     have HCR:=ae NY;have HH:=ae (show cW n=(c==63&&fQ r) by rw[NY];simp[cW]);have h0:∀h,(⟨n.toArray⟩:ByteArray)[0]'h=c:=by rw[NY];intro _;rfl
     clear h1 NY
     by_cases hc:c=63
     ·subst hc;have CV:=fun W=>jg r W (by omega)
      cases hv:fQ r with
      |false=>
       rw[hv]at CV HH;have U4:=ae CV;clear CV hv;go_wp2_with (go_at_call 152;refine(U4.o _).mono ?_;rintro e w6 ⟨rfl,dh⟩;have H6:=ae dh;clear dh);have h2:=yH.o;have k6:=H6.o;go_roundw
       case rel=>exact⟨k+1,by omega,by go_num,by rw[dR.o];simpa[HH.o]using h2.1.later k6,h2.2.1.tr k6,h2.2.2.1.later k6,h2.2.2.2⟩
       case measure=>simp[intOf];omega
      |true=>
       rw[hv]at CV HH;have U4:=ae CV;clear CV hv;have XN:=ae (show(P++(L.take k).filter cW).length+1<=4000000 by have:=wn.o;have:=TC.o;have:=Cb.o;rw[ei];omega);go_wp2_with (first|(go_at_call 152;refine(U4.o _).mono ?_;rintro e w6 ⟨rfl,dh⟩;have H6:=ae dh;have e6:=aa dh e0;clear dh)|(at_builtin;refine vB rfl _ _ rfl w.heap.size (by have:=(yH.o.2.1.tr H6.o).size;simp;omega) u3 (P++(L.take k).filter cW) rfl ((yH.o.1.later H6.o).later dp) w6.heap.size n rfl (ao (aq rfl) 0) XN.o ?_;intro v7 w7 ho7 _Q MW;have H7:=bS ho7 _Q MW;clear ho7 _Q MW));obtain⟨h2r,h2b,h2s,h2n⟩:=yH.o;have h6:=H6.o;have h7:=H7.o;have hra:Below w6.heap.size w6 (w6.alloc (.cells #[.string ⟨n.toArray⟩] 9)):=dp;go_roundw
       case rel=>
        refine⟨k+1,by omega,by go_num,by rw[dR.o];simpa[HH.o,<-List.append_assoc]using h7.1,((h2b.tr h6).tr hra).grown h7.2.1 ((h2b.tr h6).tr hra).size (fun b hb=>(h2r.lt b hb).1),((h2s.later h6).later hra).grown h7.2.1 h2n,fun b hb e=>?_⟩;rcases h7.2.2 b hb with h|h
        ·exact h2n b h e
        ·have h8:=k_ e6;simp only[Value.ownBlock,dn]at e;simp only[World.size_alloc]at h;simp only at h8;omega
       case measure=>simp[intOf];omega
     ·have hh:cW n=false:=by rw[HH.o];simp[hc]
      have HH2:=ae hh;have ZM:¬((c.toNat:Int)=63):=fun e=>hc (UInt8.toNat_inj.1 (by have h:c.toNat=63:=(by omega);exact h));clear hh hc;go_wp2_with fail;go_roundw
      case rel=>exact⟨k+1,by omega,by go_num,by rw[dR.o];simpa[HH2.o]using yH.o.1,yH.o.2.1,yH.o.2.2.1,yH.o.2.2.2⟩
      case measure=>simp[intOf];omega
   ·have eR:k=k0:=by omega
    subst eR;have fC:¬((k:Int)<(k:Int)):=by omega
    go_wp2;go_roundw
    case rel=>exact⟨j+1,by omega,by go_num,by rw[HT.o,<-dA (l:=L),<-Cb.o];exact hr,ew⟩
    case measure=>simp[intOf];omega
 |clear qtH;have y2:wr.cell? ⟨w.heap.size+1,3,none⟩=some (.slice (some ⟨b',kQ,none⟩) k1 ve):=aa dS (ao pP.o 3);have DH:(k:Int)<(k1:Int):=by omega
  first
  |clear qs4;have qz1:=();exact qky
  |clear qs6;exact qky
  |clear qs8;have I_:(ps++[(xn,xn)]).length+fL xs[k]<=1000000000:=by have:=Lq xs[k] (aH bA);first|omega|(simp only[ei,fB,List.length_nil];omega)
   have HU:=ae (hu.later aD);have qB4:=();exact qa2
  |clear qta;have I_:(ps++[(xn,yn)]).length+fL xs[k]<=1000000000:=by have:=Lq xs[k] (aH bA);first|omega|(simp only[ei,fB,List.length_nil];omega)
   have HU:=ae (hu.later aD);have qB5:=();exact qa2
  |have I_:(ps++[(xn,yn)]).length+fL xs[k]<=1000000000:=by have:=Lq xs[k] (aH bA);first|omega|(simp only[ei,fB,List.length_nil];omega)
   have HU:=ae (hu.later aD);exact qa2
 |clear qvM
  first
  |clear qpO;exact qf4
  |clear qyy;have qCe:=();exact qjH
  |clear qtI;obtain⟨uo,un,ua,ul,uc,ub,um,ue⟩:=u;have⟨W2,bp⟩:=az (wr.alloc (.cells #[.int .u8 uo,.string un,.slice ua ul uc,.slice ub um ue] 36));have bU:=dj bp;have Ck:=cA bp;have u0:W2.cell? ⟨wr.heap.size,0,none⟩=some (.int .u8 uo):=ao Ck 0;exact qic
  |clear qCb;have cr:((s.map bI).take k).length=k:=by rw[dO];have:=gT.o;simp;omega
   have quW:=();exact qbH
  |clear qCc;have Cu:(k:Int)<(m0:Int):=by omega
   exact qlx
  |have cr:((ss.map (dF kd c)).take k).length=k:=by rw[dO];have:=I'.o;simp;omega
   have quT:=();exact qbH
 |clear qzg;have hW:Below wr.heap.size wr (wr.alloc (.cells #[.int .u8 u.o,.string u.n,.slice u.a u.l u.c,.slice u.b u.m u.e] 36)):=dp
  first
  |clear qBv;have DH:(k:Int)<(k0:Int):=by omega
   have C2:=sD x ok _ u hf ((hu.later aD).later hW);unfold FQ.val at C2;have zae:=fun r=>yx (x:=x) xs[k] r;have vD:=hf.1;have⟨T,hT⟩:=az (lN x xs[k]);rw[<-hT]at ht C2 zae;have⟨vI,HT⟩:=bi C2 ht;have HB:=ae (aD.trans (hW.mono aD.size));have dR:=aM zae vD;clear aD hW hu hf sD ht c0 c1 c2 c3 C2 zae vD hT
   cases T with
   |none=>
    go_wp2_with (go_at_call 165;refine vI.o.mono ?_;rintro e w4 ⟨⟨v1,v2,rfl,PA,ll⟩,aY⟩;obtain⟨a3,c3,rfl⟩:=ll.slice;simp only[Option.map,Option.getD,List.length_nil]at PA ll⊢;have e9:=ae (HB.o.trans (aY.mono HB.o.size));clear aY PA ll);exact qgm
   |some r=>
    obtain⟨p,q⟩:=r;have hok:=dR.o.1 (p,q) rfl;have vD:=dR.o.2;have⟨q0,QV⟩:=az q.length;have qN:0<q0:=by rw[QV];exact jR.2 hok.1
    have Tr:(0:Int)<(q0:Int):=by omega
    have F1:p.length<=2000000:=by have:=hok.2.1;simp only at this;omega
    have⟨zeT,HQ0⟩:=bi F1 QV;clear QV hok dR F1 vD;go_wp2_with (first|(go_at_call 165;refine vI.o.mono ?_;rintro e w4 ⟨⟨v1,v2,rfl,PA,ll⟩,aY⟩;obtain⟨a3,c3,rfl⟩:=ll.slice;simp only[Option.map,Option.getD]at PA ll⊢;rw[<-HQ0.o];have Nx:=ae PA;have K6:=ae ll;have e9:=ae (HB.o.trans (aY.mono HB.o.size));clear aY PA ll)|(at_builtin;refine wI rfl _ _ rfl w4.heap.size k (aq rfl) p _ rfl rfl (Nx.o.later dp) zeT.o ?_;intro v5 w5 hv5 au;have HG:=aM hv5 au;clear hv5 au));have HE:=ae (show R=some (k::p,q) by rw[HT.o]);have bE:Below w4.heap.size w4 w5:=by
     have hg:=HG.o.2;have hs:=hg.size;exact⟨hg.os,hg.tape,hg.output,by simp at hs;omega,fun b hb=>(hg.block b (by simp;omega) (fun h=>by injection h with h;omega)).trans (bZ _ _ _ hb)⟩
    refine bX (v:=.tuple #[v5,.slice a3 q0 c3]) (by simp[results,results165,go_sem]) rfl ⟨⟨_,_,rfl,?_,?_⟩,e9.o.trans (bE.mono e9.o.size)⟩
    ·rw[HE.o];exact HG.o.1
    ·rw[HE.o,HQ0.o];exact K6.o.later bE
  |have CC:=ae (gZ.o s[k] (aH bA) ok _ u ((hu.later aD).later hW));have⟨N,hN⟩:=az (A+jo x (s.take k));have⟨M,hM⟩:=az (fD x s[k]);have zg7:M<=ah s:=by rw[hM];exact aR (rT x _) (i9 (aH bA))
   have zg8:N<=10000000:=by have:=yT x (s.take k);have:=de s k;omega
   rw[<-hM]at CC jX;rw[<-hN];have HS:=ae (show A+jo x (s.take (k+1))=N+M by omega);have⟨cQ,HW⟩:=bi aD hW;clear hu aD hW jX hN hM c0 c1 c2 c3 hb1 bU;go_wp2_with (go_at_call 97;refine CC.o.mono ?_;rintro e w2 ⟨rfl,bU⟩;have bV:=ae bU;clear bU);go_roundw
   case rel=>exact⟨k+1,by omega,by go_num,cQ.o.trans ((HW.o.trans (bV.o.mono HW.o.size)).mono cQ.o.size),by rw[HS.o];simp⟩
   case measure=>simp[intOf];omega
 |have cr:(l.take k).length=k:=by rw[dO];omega
  rw[cr]at hR⊢;have HU:=ae ((hu.later aD).later (W':=wr.alloc (.cells #[.int .u8 u.o,.string u.n,.slice u.a u.l u.c,.slice u.b u.m u.e] 36)) dp);have⟨cR,HR,dR⟩:=cU aD hR cr;clear hu aD hR cr c0 c1 c2 c3;have up:=();exact qfP):G:=h
theorem qio(h:G:=by
 have⟨n1,eB⟩:=az a.length;have⟨m1,jQ⟩:=az ss.length;rw[<-eB]at hq j7
 first
 |clear qvp;rw[<-jQ]at hq oY;rw[<-eB,<-jQ];have kH:=eR.later dz;have mn:n.length<=2000000:=by have:=nM.2.1;omega
  first
  |clear qst;have⟨W2,bp⟩:=az ((w.alloc (.cells #[.int .u8 15,.string ⟨n.toArray⟩,.slice sa n1 sc,.slice sb m1 se] 36)).alloc (.cells #[.int .u8 0,.string ⟨#[]⟩,.slice none 0 0,.slice none 0 0] 36));have qBP:=();exact qlr
  |clear qsv;have⟨W2,bp⟩:=az ((w.alloc (.cells #[.int .u8 16,.string ⟨n.toArray⟩,.slice sa n1 sc,.slice sb m1 se] 36)).alloc (.cells #[.int .u8 0,.string ⟨#[]⟩,.slice none 0 0,.slice none 0 0] 36));exact qlr
  |have⟨Wa,hWa⟩:=az ((w.alloc (.cells #[.int .u8 so,.string ⟨n.toArray⟩,.slice sa n1 sc,.slice sb m1 se] 36)).alloc (.cells #[.int .u8 0,.string ⟨#[]⟩,.slice none 0 0,.slice none 0 0] 36));have bU:=mo hWa;have iG:=zP hWa;have x1:=sx hWa;have x2:=kv hWa;have ia:=kH.later bU;have jq:=fP;have⟨RS,IV⟩:=az (dF kd c (.mk so n a ss));rw[<-IV];have N9:(so==15)=false:=by simp[kL]
   have j8:(so==16)=false:=by simp[gq]
   have hfT:∀t∈a,e7 t:=fun t ht=>⟨by have:=i8 ht;simp only[ag]at uM;omega,lO (by omega) t (ii.1 nM.2.2.1 t ht)⟩
   have CF:=Jm w qt kb mF mT nF nT kd kH _ vL L c hL.strs (by omega) Uv;have xI:br so=true->a=[]/\∃g,ss=[g]:=fun h=>(oF hs h).2;have zhc:n1<=400:=by rw[eB];have:=jU a;simp only[ag]at uM;omega
   have zhd:m1<=400:=by rw[jQ];have:=tj ss;simp only[ag]at uM;omega
   have⟨W1,cC⟩:=az (Wa.alloc (.cells #[.int .u8 so,.string ⟨n.toArray⟩,.slice none 0 0,.slice none 0 0] 36));have YV:=dj cC;have y0:=bY YV x1;have y1:=bY YV x2;have y2:W1.heap[w.heap.size+1+1]?=some (.cells #[.int .u8 so,.string ⟨n.toArray⟩,.slice none 0 0,.slice none 0 0] 36 (0,0)):=by rw[cC];exact aq (by rw[iG])
   have zaV:=ae (ce.start (R:=w.heap.size+1+1) (mk:=fun rr=>#[.int .u8 so,.string ⟨n.toArray⟩,rr,.slice none 0 0]) (Row:=fun r W=>dH W1.heap.size r ((a.map (dK kd.ts c)).take 0) W) y2 (dH.nil _ _));have eQ:=ae (bU.tr YV);have⟨KA,kJ⟩:=bi y0 y1;have HW:=gN hWa cC iG x1 x2;have⟨el,gD,HFT,zdp,sU,I',gZ,HQs⟩:=Xi j7 oY CF hfT eB jQ IH xI;have HL:=cH hL Yc Uv dz;have HP:=uU hs uM zdo hsz CX hts;have⟨WR,Z9⟩:=bi nM IV;have TS:=ae (mY.next dz);have HQ0:=ae hq;have Ie:=aM kL gq;clear j7 oY CF hfT eB jQ IH xI hL Yc Uv dz hs uM zdo hsz CX hts nM IV mY hq bU iG x1 x2 YV y0 y1 y2 cC hWa ia kH eR mn;simp only[FQ.val];have⟨c0,c1,c2⟩:=n8 HW.o.2.2.2.1;rw[HW.o.1]at c0 c1 c2;refine oM func72 ?_;simp only[ntmps72,Nat.reduceAdd,Nat.reduceSub,ng];gi_wp2;rw[<-HW.o.1,<-HW.o.2.1];clear c0 c1 c2;gi_loopw [66] (fun i wr=>∃k1:Nat,k1<=n1/\i=.int .i64 k1/\∃row,ce 36 (w.heap.size+1+1) W1.heap.size (fun rr=>#[.int .u8 so,.string ⟨n.toArray⟩,rr,.slice none 0 0]) (fun r W=>dH W1.heap.size r ((a.map (dK kd.ts c)).take k1) W) W1 wr row) (fun i _=>n1-(intOf i).toNat)
   case atStart=>exact⟨0,bn _,rfl,_,zaV.o⟩
   case round=>
    have qB6:=();exact qlv
 |rw[<-jQ]at hq;rw[<-eB,<-jQ]
  first
  |clear qsm;have⟨R,hR⟩:=az (kz k (.mk so n a ss));have hE:=hR;rw[Rp]at hE;rw[<-hR];have qCk:=();exact qbq
  |clear qso;have⟨R,hR⟩:=az (nS k (.mk so n a ss));have hE:=hR;rw[LA]at hE;rw[<-hR];have qvQ:=();exact qhj
  |have⟨R,hR⟩:=az (tg k (.mk so n a ss));have hE:=hR;rw[An]at hE;rw[<-hR];exact qhj):G:=h
theorem qfV(h:G:=by
 obtain⟨b1,o1,⟨xv,xn,xa,xl,xc⟩,rfl,vj,hx,c0,c1,c2⟩:=HV.o.2.2.1.get lU
 first
 |clear qo8;obtain⟨b2,o2,⟨yv,yn,ya,yl,yc⟩,rfl,vk,hy,y0,y1,y2⟩:=HV.o.2.2.2.get Ba;have tT:∀b,¬M b->¬(b=mT):=fun b hb e=>hb (e▸HG.o.2.2.2.1);simp only at c0 c1 c2 y0 y1 y2;have d0:=bD.cell (tT _ vj) c0;have d1:=bD.cell (tT _ vj) c1;have d2:=bD.cell (tT _ vj) c2;have g0:=bD.cell (tT _ vk) y0;have g1:=bD.cell (tT _ vk) y1;have g2:=bD.cell (tT _ vk) y2;have WS:=(bD.same _ (by have:=H3.o.2.1;omega) (by have:=HmT.o;omega)).trans H3.o.2.2.1;have xuw:=(bD.same _ (by have:=H3.o.2.1;omega) (by have:=HmT.o;omega)).trans H3.o.2.2.2.2.1;have qvi:=();exact qaL
 |obtain⟨b2,o2,⟨yv,yn,ya,yl,yc⟩,rfl,vk,hy,y0,y1,y2⟩:=HVa.o.get Ba;simp only at c0 c1 c2 y0 y1 y2;have d0:=N'.cell vj c0;have d1:=N'.cell vj c1;have d2:=N'.cell vj c2;have g0:=N'.cell vk y0;have g1:=N'.cell vk y1;have g2:=N'.cell vk y2;have WS:=(bD.same _ (by have:=H4.o.2.1;omega) (by omega)).trans H4.o.2.2.1;have x6w:=(bD.same _ (bQ H4.o.2.2.2.1) (by have:=H4.o.2.2.2.2;have:=H1.o.2.1;omega)).trans H4.o.2.2.2.1;exact qaL):G:=h
theorem qeU(h:G:=by
 obtain⟨u1,u2,h1,NW,Ll⟩:=aX.1 hcv;obtain⟨c0,c1,c2,c3,c4,c5,c6,c7⟩:=c
 first
 |clear qm2;have qsh:=();exact qal
 |have qsj:=();exact qal):G:=h
theorem qeM(h:G:=by
 obtain⟨va,vs2,h1,gH,DI⟩:=aX.1 hq;obtain⟨uo,un,ua,ul,uc,ub,um,ue⟩:=q
 first
 |clear qmH;have qse:=();exact qal
 |have qsf:=();exact qal):G:=h
theorem qeA(h:G:=by
 cases h;refine⟨Di.refl _,fun oR hk=>?_⟩;unfold dE;rw[aw gq,hk.f _ _ hg]
 first
 |clear an;simp only[hi,aG h0,aG ha]
 |simp only[hi,aw h0,hk.t _ _ ht,aw hn,aG ha]):G:=h
theorem qfz(h:G:=by
 exact⟨by omega,fun h=>⟨h2 h.1,h4 h.2⟩⟩):G:=h
theorem qhi(h:G:=by
 go_simp;refine hK _ _ (fun _=>by rw[c9.o];exact e9.o) (fun _=>?_);clear hK K
 first
 |clear Ss;refine cb 30 rfl fun K hK=>?_
  exact qbM
 |refine kO ?_
  first
  |clear qsK;go_wp2;go_roundw
   case rel=>exact⟨k+1,by omega,by omega,by go_num,sQ.o,e9.o⟩
   case measure=>simp[intOf];omega
  |clear qsM;go_wp2;go_roundw
   case rel=>exact⟨k+1,by omega,by go_num,sQ.o,e9.o⟩
   case measure=>simp[intOf];omega
  |clear qsO;go_wp2;go_roundw
   case rel=>exact⟨j+1,by omega,by go_num,sQ.o,e9.o⟩
   case measure=>simp[intOf];omega
  |cases V with
   |false=>
    have HE3:=ae (Bl.o fun h=>by
     subst h;have:=congrArg Prod.snd (HX.o.1.trans HX.o.2.symm);have e:=HV.o;rw[(jw _ _).2 (by rw[show tx=ty from this])]at e;cases e)
    go_wp2;go_ret;exact⟨by rw[HE3.o];rfl,HE.o.1.tr e9.o⟩
   |true=>
    go_wp2;go_roundw
    case rel=>exact⟨j+1,by omega,by go_num,e9.o,sk HT.o bA lj (by rw[<-HX.o.1,<-HX.o.2];have:=(jw _ _).1 HV.o.symm;injection this with e _;rw[e])⟩
    case measure=>simp[intOf];omega):G:=h
theorem qld(h:G:=by
 go_wp2;go_ret;exact⟨uE (by rw[HE.o]),HB.o⟩):G:=h
theorem qcn(h:G:=by
 obtain rfl:a=[]:=by simpa using h.1
 by_cases h1:n==x
 first
 |clear an
  ·simp[h1,hu]
  ·simp[h1,lI,lr,eC]
 |clear it
  ·simp[h1,bj,dm]
  ·simp[h1,lr,dm]
 |·simp[h1,bj,ap]
  ·simp[h1,lr,ap]):G:=h
theorem qe7(h:G:=by
 obtain⟨s,f,c⟩:=p;obtain⟨s',f',c'⟩:=p';obtain⟨hs,ht,ho,GF⟩:=hp
 first
 |clear it;simp only at hs ht;subst hs;unfold bc
  by_cases gq:s.op=16
  ·rw[aG gq,aG gq];exact⟨rfl,fun _=>⟨hk.f,hk.t⟩⟩
  ·rw[aw gq,aw gq]
   by_cases kL:s.op=15
   ·rw[aG kL,aG kL];have an:=();exact qlm
   ·rw[aw kL,aw kL];obtain⟨so,sn,sa,ss⟩:=s;obtain⟨o,n,a,l⟩:=f;obtain⟨o',n',a',l'⟩:=f';have hd:=ht.d;have hf:=ho.f;have AW:=GF.f;simp only[gF,ak]at hf AW;simp only[li]at hd;have FC:o=o'/\(br o=true\/n=n')/\dP (gI (c.map (·.2))) a=dP (gI (c'.map (·.2))) a'/\l.length=l'.length:=by
     by_cases hq:br o=true
     ·rw[aG hq]at hd
      by_cases gY:br o'=true
      ·rw[aG gY]at hd;simp only[Df.mk.injEq,true_and]at hd;refine⟨hd.1,.inl hq,hd.2.1,?_⟩;exact qe8
      ·rw[aw gY]at hd;exact qcx
     ·rw[aw hq]at hd;have it:=();exact qcy
    obtain⟨rfl,hqn,hda,hl⟩:=FC;have WG:a.length=a'.length:=by have:=congrArg List.length hda;rwa [l7,l7]at this
    have zdc:((so !=o)||((sa.length !=a.length)||((ss.length !=l.length)||(sn !=n&& !br so))))=((so !=o)||((sa.length !=a'.length)||((ss.length !=l'.length)||(sn !=n'&& !br so)))):=by
     rw[WG,hl]
     by_cases e:so=o
     ·subst e;rcases hqn with hqn|rfl
      ·simp[hqn]
      ·rfl
     ·have:(so !=o)=true:=by simpa using e
      simp[this]
    have bN:=Ez ho.c ht.n sa a a' k.ts hf.2.2.2.1 AW.2.2.2.1 hda;simp only[Fm.op,Fm.a,Fm.s,Fm.n,zdc]
    by_cases hT:((so !=o)||((sa.length !=a'.length)||((ss.length !=l'.length)||(sn !=n'&& !br so))))=true
    ·simp only[hT,if_true];exact qd3
    ·simp only[hT,bR,↓reduceIte];rw[<-hk.t,bN]
     cases dB c' k.ts sa a' with
     |none=>exact⟨rfl,fun h=>by cases h⟩
     |some ts=>exact⟨rfl,fun _=>⟨hk.f,rfl⟩⟩
 |simp only at hs ht Eg;subst hs;unfold dE
  by_cases gq:(s.op !=16)=true
  ·simp only[gq,if_true];exact⟨by first|rfl|trivial,fun _=>⟨hk.f,hk.t⟩⟩
  ·obtain⟨x0,y0,_,_,_,bq⟩:=Eg (by simpa using gq);simp only[gq,bR,↓reduceIte,bq];rcases hk.f.get s.n with⟨g1,g2⟩|⟨g,g',g1,g2,g3⟩
   ·simp only[g1,g2];exact qd3
   ·simp only[g1,g2];exact qlm):G:=h
theorem qcl(h:G:=by
 split at h
 ·split at h
  ·cases h;exact hk
  ·cases h
 first
 |clear an
  ·split at h
   ·cases h
   ·rename_i hs hd;simp only[Bool.or_eq_true,bne_iff_ne,ne_eq,not_or,Decidable.not_not]at hd;obtain⟨rfl,rfl,hl⟩:=hd
    cases v with
    |true=>
     simp only[jA,↓reduceIte,ak]at ht;have:a=[]:=by simpa using ht.1
     subst this;have:a'=[]:=List.length_eq_zero_iff.1 (by simpa using hl.symm);subst this;simp only[cY,dn]at h;rw[<-h];exact hk
    |false=>
     simp only[jA,bR,↓reduceIte,ak]at ht;exact vH sc a a' k k' ht.2.2 (Dr hu) hk h
 |clear it
  ·split at h
   ·cases h
   ·exact vU sc a a' k k' hk (fun x hx=>ht x (by simp[xq,hx])) h
 |·split at h
   ·cases h
   ·exact Fq sc a a' k k' hk (by simp only[ap]at hu;omega) h):G:=h
theorem qlu(h:G:=by
 go_simp;refine hK _ _ (fun _=>by rw[c9.o];exact hb1) (fun _=>?_);clear hK K
 first
 |clear qB3;refine cb 27 rfl fun K hK=>?_
  go_simp;have qCh:=();exact qao
 |refine cb 20 rfl fun K hK=>?_
  go_simp;have qCi:=();exact qao):G:=h
theorem qip(h:G:=by
 have g2:W6.cell? ⟨w.heap.size+1,2,none⟩=some (.slice ra k0 rc):=ao x6 2
 first
 |clear qvu;have hz:=(bQ kJ.o);obtain⟨hp,cd⟩:=H5.o;have qzV:=();exact qkw
 |have g3:W6.cell? ⟨w.heap.size+1,3,none⟩=some (.slice rb m0 re):=ao x6 3;have hz:=(bQ kJ.o);obtain⟨hp,hs,cd⟩:=HP.o;exact qkw):G:=h
theorem qlo(h:G:=by
 obtain⟨k,hk,rfl,aD,jm⟩:=hrel;have hx:=bY aD H2.o.2.2
 by_cases hlt:k<n1
 first
 |clear an
  ·have bA:k<b.fs.length:=by rw[<-HN.o];exact hlt
   have an:=();exact qd7
  ·obtain rfl:k=n1:=by omega
   have HE:=ae (show R=none by rw[jm,iW (by rw[<-HN.o];exact aK _)];rfl);obtain⟨e0,e1,e2,e3,y0,y1,y2,y3⟩:=dw hx;have HB:=aM hx (H2.o.1.tr aD);clear aD jm hx;go_wp2;obtain⟨W8,kM,x8,k8,g0,g1,g2,g3⟩:=tP HB.o.1 (.int .u8 0) (.string ⟨#[]⟩) (.slice none 0 0) (.slice none 0 0);rw[<-kM];refine bX (v:=.tuple #[FQ.val ⟨0,⟨#[]⟩,none,0,0,none,0,0⟩,.bool false]) (by simp[FQ.val,results,results16,go_sem,g0,g1,g2,g3]) rfl ⟨⟨⟨0,⟨#[]⟩,none,0,0,none,0,0⟩,by rw[HE.o];rfl,?_⟩,Below.kp1 HB.o.2 k8 (by omega)⟩;rw[HE.o];exact oE
 |·have bA:k<b.ts.length:=by rw[<-HN.o];exact hlt
   obtain⟨bb,off,⟨qo,qn,qa,ql,qc⟩,rfl,hok,hf,c0,c1,c2,c3⟩:=HFv.o.get bA;have l9:=H2.o.1.tr aD;have⟨d0,d1,d2,d3⟩:=mH l9 c0 c1 c2 c3;have⟨nm,dQ⟩:=az (b.ts[k].1);have⟨g,hg⟩:=az (b.ts[k].2);exact qla
  ·obtain rfl:k=n1:=by omega
   have HE:=ae (show R=none by rw[jm,iW (by rw[<-HN.o];exact aK _)];rfl);obtain⟨e0,e1,e2,y0,y1,y2⟩:=ir hx;have HB:=aM hx (H2.o.1.tr aD);clear aD jm hx;go_wp2;obtain⟨W8,kM,x8,k8,g0,g1,g2⟩:=sT HB.o.1 (.bool false) (.string ⟨#[]⟩) (.slice none 0 0);rw[<-kM];refine bX (v:=.tuple #[TQ.val ⟨false,⟨#[]⟩,none,0,0⟩,.bool false]) (by simp[TQ.val,results,results18,go_sem,g0,g1,g2]) rfl ⟨⟨⟨false,⟨#[]⟩,none,0,0⟩,by rw[HE.o];rfl,?_⟩,Below.kp1 HB.o.2 k8 (by omega)⟩;rw[HE.o];exact Ho):G:=h
theorem qih(h:G:=by
 simp only[FQ.val,<-hm]at HC;have c9:=ae hS;clear hS hm hE zJ te e0 e1 e2 e3
 first
 |clear qu8;have qxZ:=();exact qdR
 |have qxF:=();exact qdP):G:=h
theorem qcG(h:G:=by
 have DH:decide ((k:Int)<(k0:Int))=true:=by simp;omega
 first
 |clear qn9;have HE:=ae (show nP l=false by unfold nP;rw[hcut.trans (BP _ te)];simp;omega);have Zj:=ae aD;clear hcut aD;go_wp2;go_ret;exact⟨aJ HE.o.symm,Zj.o⟩
 |clear qy4;have HE:=ae (hcut.trans (BP _ te));clear hcut aD;exact qj2
 |have he:=hcut.trans (OR _ te);have⟨HE,HB⟩:=bi he aD;clear he hcut aD;exact qld):G:=h
theorem qg0(h:G:=by
 have aS:=xK ec;have xp:=xM ec;have xt:=sy ec;have x1:=qw ec;have wA:=Ki ec
 first
 |clear qr3;rw[<-hR];have HR:=ae hR;have bV:=aM aS wA;have⟨HXP,kJ,Ci⟩:=cU xp x1 ec;have p0:=j6 xp;have qun:=();exact qai
 |rw[<-IV];have bV:=aM aS wA;have Ci:=ae ec;have quj:=();exact qai):G:=h
theorem qlx(h:G:=by
 have cr:((s.map (fd ns)).take k).length=k:=by rw[dO];have:=gT.o;simp;omega
 first
 |clear qCd;have jW:(s.map (fd ns)).take k=(s.map (fd ns)):=gB (by have:=gT.o;simp;omega);have qBI:=();exact qa5
 |exact qcW):G:=h
theorem qfW(h:G:=by
 have d0:=bD.cell kC.2 c0;have d1:=bD.cell kC.2 c1;have d2:=bD.cell kC.2 c2
 first
 |clear ZU;have d3:=bD.cell kC.2 c3;have jX:=yd bA;have up:=();exact qfX
 |have Ss:=();exact qkB):G:=h
theorem qk9(h:G:=by
 have g0:=aa zI (ao hx 0);have g1:=aa zI (ao hx 1);have g2:=aa zI (ao hx 2)
 first
 |clear an;refine bX (v:=.tuple #[TQ.val ⟨false,⟨#[]⟩,none,0,0⟩,.bool false]) (by simp[TQ.val,results,results232,go_sem,g0,g1,g2]) rfl ⟨⟨⟨false,⟨#[]⟩,none,0,0⟩,rfl,fun u h=>by cases h⟩,hba.tr zI⟩
 |refine bX (v:=.tuple #[TQ.val ⟨qv,qn,qa,ql,qc⟩,.bool true]) (by simp[TQ.val,results,results232,go_sem,g0,g1,g2]) rfl ⟨⟨⟨qv,qn,qa,ql,qc⟩,rfl,fun u2 h=>by cases h;exact hqw.later (hba.tr zI)⟩,hba.tr zI⟩):G:=h
theorem qfy(h:G:=by
 have ha:a=[]:=by cases a with|nil=>rfl|cons t l=>simp[bW]at h
 subst ha
 first
 |clear an;refine⟨?_,rfl,rfl⟩;simp[jA,Zl,eD]
 |have hh:cW n=false:=by
   cases hh:cW n
   ·rfl
   ·have:=hz n hh (by simp[xU]);rw[List.contains_iff_mem.2 this]at hc;cases hc
  rw[hh]at h;refine⟨?_,rfl,rfl⟩;simp only[jA,↓reduceIte,d9,List.isEmpty_nil,dL,Bool.false_and,Bool.or_false];simpa using h.2):G:=h
theorem qfC(h:G:=by
 have hn:ag f<=400:=by simp only[bw,ak,bM]at h;exact h.2.1
 have pM:=fI f []
 first
 |clear an;have h':=h;simp only[bw,ak]at h'⊢;obtain⟨h1,h2,h3⟩:=Fl (aP [] f) f [] (fun x hx=>by cases hx) (by simp;omega) h'.1;rw[h2,h3];refine⟨⟨h1,h'.2⟩,?_⟩;exact MF f [] _ _ 0 (by simp;omega) ⟨fun z y e=>by simp[jt]at e,fun z _ _=>rfl⟩ (fun z hz _=>hz)
 |simp only[bw,ak]at h;exact(Fl (aP [] f) f [] (fun x hx=>by cases hx) (by simp;omega) h.1).2.1):G:=h
theorem qj7(h:G:=by
 have jq:=fP;refine(wpIn_wide (n:=3)).1 ?_;refine lM S 10 dW fun jO b_=>?_
 first
 |clear qzb;refine bH 0 23 (.pointer (some ⟨b5,3,none⟩)) rfl b_ fun cK=>?_
  simp only[am];refine di 1 24 (.slice ra k rc) rfl (fun V hX=>by have g0:=f0 V hX;go_simp) cK fun f_=>?_;simp only[am];refine bH 2 25 (.pointer (some ⟨w.heap.size,3,none⟩)) rfl f_ fun gX=>?_;simp only[am];refine di 3 26 (.slice (some ⟨b,off,none⟩) m0 qe) rfl (fun V hX=>by have g0:=f2 V hX;go_simp) gX fun iQ=>?_;simp only[am];refine bH 4 27 (.int .i64 (k:Int)) rfl iQ fun jM=>?_;simp only[am];refine bH 5 28 (.pointer (some ⟨b,off+k*4,none⟩)) rfl jM fun km=>?_;simp only[am];refine di 6 29 (.agg #[.int .u8 u.o,.string u.n,.slice u.a u.l u.c,.slice u.b u.m u.e]) rfl (fun V hX=>by obtain⟨g0,g1,g2,g3⟩:=f1 V hX;go_simp) km fun mU=>?_;simp only[am];refine bH 7 30 (.slice na n2 nc) rfl mU fun zhq=>?_;simp only[am];refine cb 8 rfl fun K hK=>?_;go_simp;refine aO.2 ((gZ.o s[k] (aH dG) (sC.o.mem (aH dG)) _ κ wr.drew u _ (HU.o.later (cQ.o.drew)) ((HNs.o.later cR.o).later (cQ.o.drew))).mono ?_);rintro _ A ⟨p,rfl,hp,hA⟩;have cd:Below wr.heap.size wr A:=((ar wr.heap.size wr).drew).trans hA;have qCj:=();exact qao
 |refine bH 0 7 (.pointer (some ⟨w.heap.size,0,none⟩)) rfl b_ fun cK=>?_
  simp only[am];refine di 1 8 (.int .u8 qo) rfl (fun V hX=>by obtain⟨h0,h1,h2⟩:=ff V hX;go_simp) cK fun f_=>?_;simp only[am];refine bH 2 9 (.pointer (some ⟨w.heap.size,1,none⟩)) rfl f_ fun gX=>?_;simp only[am];refine di 3 10 (.string ⟨n.toArray⟩) rfl (fun V hX=>by obtain⟨h0,h1,h2⟩:=ff V hX;go_simp) gX fun iQ=>?_;simp only[am];refine bH 4 11 (.pointer (some ⟨w.heap.size,2,none⟩)) rfl iQ fun jM=>?_;simp only[am];refine di 5 12 (.slice qa k0 qc) rfl (fun V hX=>by obtain⟨h0,h1,h2⟩:=ff V hX;go_simp) jM fun km=>?_;simp only[am];refine bH 6 13 (.slice na n2 nc) rfl km fun mU=>?_;simp only[am];have AJ:Below W0.heap.size W0 W0.drew:=(ar _ _).drew;refine zaC (i:=7) (j:=9) rfl rfl (by kernel_rfl) (by rfl) (by rfl) (fun K hK=>?_) (fun K hK=>?_)
  ·go_simp;refine aO.2 ((vI.o _ AJ).mono ?_);rintro _ A ⟨⟨r1,r2,rfl,hp⟩,hA⟩;simp only[<-dN.o]at hp⊢;have cd:Below W0.heap.size W0 A:=AJ.trans (hA.mono AJ.size);refine hK _ _ (fun _=>by rw[c9.o];exact cd) (fun zhq=>?_);clear hK K;refine bH 8 15 (.agg #[.int .u8 qo,.string ⟨n.toArray⟩,.slice r1 k0 r2,.slice none 0 0]) rfl (by rw[c9.o];exact cd) fun D2=>?_;simp only[am];refine cb 9 rfl fun K hK=>?_;go_simp;have⟨EB,Al⟩:=az A.heap.size;have⟨A1,sG⟩:=az (A.alloc (.cells #[.int .u8 0,.string ⟨#[]⟩,.slice none 0 0,.slice none 0 0] 36));have wS:=dj sG;have ZU:=();exact qkA
  ·go_simp;have⟨EB,Al⟩:=az W0.heap.size;have⟨A1,sG⟩:=az (W0.alloc (.cells #[.int .u8 0,.string ⟨#[]⟩,.slice none 0 0,.slice none 0 0] 36)).drew;have wS:Below W0.heap.size W0 A1:=by rw[sG];exact dp.drew
   exact qkA):G:=h
theorem qcI(h:G:=by
 obtain⟨x0,x1,rfl⟩:=Ι (z8.trans (by kernel_rfl))
 first
 |clear an;have h0:DataW.trod enc prog W 0 iy held n 36 (cs.take 4)=some x0:=hf 0 _ rfl;have h1:DataW.trod enc prog W 0 iy held n 36 ((cs.drop 4).take 4)=some x1:=hf 1 _ rfl;obtain⟨f,hf1,YH,hf3⟩:=su n _ _ h0;obtain⟨g,S8,WH,hg3⟩:=su n _ _ h1;obtain⟨a,ha,j7⟩:=xE hf1;obtain⟨b,hb,AA⟩:=xE S8;have bU:cs.drop 4=(cs.drop 4).take 4:=by rw[gB];rw[List.length_drop];omega
  refine⟨(f,g),a,b,?_,j7,AA,?_,?_,?_⟩
  ·rw[<-List.take_append_drop 4 cs,ha,bU,hb];rfl
  ·simp only[cM,List.map_nil,Rows.uptoBulk,Rows.uptoBulkAll];omega
  ·exact iR (by simp only[cM,List.map_nil,Rows.uptoBulk,Rows.uptoBulkAll];omega) _ hf3
  ·exact iR (by simp only[cM,List.map_nil,Rows.uptoBulk,Rows.uptoBulkAll];omega) _ hg3
 |clear it;obtain⟨c0,c1,hc⟩:=Ι hcl;obtain rfl:cs=#[c0,c1]:=by rw[<-Array.toArray_toList (xs:=cs),hc]
  have h0:DataW.trod enc prog W 0 (fun _=>true) true n 23 [c0]=some x0:=hg 0 _ rfl;have h1:DataW.trod enc prog W 0 (fun _=>true) true n 24 [c1]=some x1:=hg 1 _ rfl;obtain⟨fs,Ka,f1,f2,f3⟩:=Fy h0;obtain⟨ts,hts,t1,t2,t3⟩:=Fz h1;obtain⟨a,c,rfl⟩:=Ka.slice;obtain⟨b,e,rfl⟩:=hts.slice;refine⟨⟨a,_,c,b,_,e⟩,⟨fs,ts⟩,rfl,⟨Ka,hts⟩,?_⟩;have e1:Rows.uptoBulk (DataW.agg ([x0,x1].map (·.1)))=Rows.uptoBulk x0.1+Rows.uptoBulk x1.1+1:=by simp[Rows.uptoBulk,Rows.uptoBulkAll]
  rw[e1];exact⟨by simp only;omega,ic (by omega) _ f2,eV (by omega) _ t2,fun x hx=>by have:=f3 x hx;omega,fun x hx=>by have:=t3 x hx;omega⟩
 |obtain⟨c0,r,rfl⟩:∃c0 r,cs=c0::r:=by cases cs with|nil=>simp at hcl|cons c r=>exact⟨c,r,rfl⟩
  have h0:DataW.trod enc prog W 0 iy held n 9 [c0]=some x0:=hf 0 _ rfl
  first
  |clear qor;have h1:DataW.trod enc prog W 0 iy held n 36 (r.take 4)=some x1:=hf 1 _ rfl;have hr:r.take 4=r:=gB (by simp at hcl;omega);rw[hr]at h1;obtain⟨s,rfl,hs,_⟩:=pU h0;obtain⟨f,hf1,YH,hf3⟩:=su n _ _ h1;obtain⟨a,rfl,j7⟩:=xE hf1;have up:=();exact qki
  |have h1:DataW.trod enc prog W 0 iy held n 43 (r.take 3)=some x1:=hf 1 _ rfl;have hr:r.take 3=r:=gB (by simp at hcl;omega);rw[hr]at h1;obtain⟨s,rfl,hs,_⟩:=pU h0;obtain⟨f,hf1,YH,hf3⟩:=zD n _ _ h1;obtain⟨a,rfl,j7⟩:=O8 hf1;exact qki):G:=h
theorem qk6(h:G:=by
 rintro e w6 ⟨rfl,rfl⟩;refine hK _ _ (fun _=>dW) (fun _=>?_);clear hK K
 first
 |clear up;refine cb 4 rfl fun K hK=>?_
  go_simp;refine aO.2 ((jh (cg n) w3.drew).mono ?_);rintro e w7 ⟨rfl,g_⟩;refine hK _ _ (fun _=>by rw[c9.o];exact(ar _ _).drew.tr g_) (fun _=>?_);clear hK K;have h37:Below W3.heap.size W3 w7:=(H5.o.drew).tr g_;have CS:=yK (.mk uv n' a') (bj (cg n)) (fun b=>¬M b) (fun b=>¬M b) w7 ⟨uv,⟨n'.toArray⟩,ua,n2,uc⟩ ⟨true,⟨(cg n).toArray⟩,none,0,0⟩ (HG.o.2.1 _ HF.o.2) (T_ KH.o) (HV.o.2.1.later h37) (aW.2 ⟨_,rfl,cE⟩);simp only[TQ.val]at CS;rw[<-PC.o]at CS;refine cb 5 rfl fun K hK=>?_;go_simp;refine aO.2 (CS.mono ?_);rintro e w8 ⟨rfl,jc⟩;refine eX hK ?_;clear hK K;have H8:=ae (h37.tr jc);clear CS g_ h37 jc;refine cb 6 rfl fun K hK=>?_;have qrq:=();exact qaa
 |refine cb 11 rfl fun K hK=>?_
  go_simp;refine hK _ _ (fun _=>dW) (fun _=>?_);clear hK K;refine cb 12 rfl fun K hK=>?_;go_simp;refine hK _ _ (fun _=>dW) (fun _=>?_);clear hK K;refine kO ?_;go_wp2;refine bX (v:=.tuple #[.string ⟨(cg x).toArray⟩,.string ⟨y.toArray⟩]) (by simp[results,results96,go_sem]) rfl ⟨rfl,HB.o.drew⟩):G:=h
