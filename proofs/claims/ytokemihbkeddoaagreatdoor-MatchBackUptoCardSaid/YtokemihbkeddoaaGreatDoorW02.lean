/-
Runs of tactics that several proofs share.
-/
import Derived.Test.YtokemihbkeddoaaGreatDoorW00
namespace Go.Proofs.YtokemihbkeddoaaGreatDoor
open Go Go.RowKit Lib
set_option maxRecDepth 100000
variable {G:Prop}
theorem qaR(h:G:=by
 obtain ⟨ra,rc,rfl⟩:=hF.row.slice;rw[ce]at hF
 first
 |clear qnu;have qyh:=();exact qbv
 |clear qnv;have qyj:=();exact qbv
 |clear qnw;rw[j_]at hF;have Zn:=ab hF.row;have hz:=HO.o.2.2.2;have gY:=J7.o.size;have x02:=(hF.kp.same _ (by have:=(bA HO.o.2.1);omega) (by omega)).trans ((J7.o.block _ (by have:=(bA HO.o.2.1);omega)).trans ((HO.o.2.2.1.same _ (bA Lh.o) (by omega)).trans Lh.o));obtain ⟨e0,e1,y0,y1⟩:=uz x02;obtain ⟨s0,s1,_,_⟩:=uz hF.box;have zdN:=ab (HRF.o.held (W':=wr) (fun b hb hlt=>(hF.kp.same b (bJ hlt J7.o.size) (by have:=H3.o.1.size;have:=H2.o.2.1;have:=xr.o.size;omega)).trans (J7.o.block b hlt)));have HX:=aA x02 aq;clear hF aq x02 ce j_ hz gY;go_wp2;obtain ⟨W8,kV,x8,k8,g0,g1⟩:=EH HX.o.1 (.slice fra n1 frc) (.slice ra n2 rc);rw[<-kV];refine bK (v:=BQ.val ⟨fra,n1,frc,ra,n2,rc⟩) (by simp[BQ.val,results,Tryz.results50,go_sem,g0,g1]) rfl ⟨⟨⟨fra,n1,frc,ra,n2,rc⟩,rfl,?_,?_⟩,Below.kp1 HX.o.2 k8 (by omega)⟩
  ·exact zdN.o.binds.move (fun b hb hlt=>⟨by have:=H3.o.1.size;omega,k8.same b hlt (by have:=H3.o.1.size;have:=H2.o.2.1;have:=xr.o.size;omega)⟩)
  ·exact Zn.o.binds.move (fun b hb hlt=>⟨by have:=H6.o.1.size;omega,k8.same b hlt (by have:=H6.o.1.size;have:=J7.o.size;have:=HO.o.2.2.2;have:=H3.o.1.size;have:=H2.o.2.1;have:=xr.o.size;omega)⟩)
 |clear qxh;have HR:=ab (j_ ▸ hF.row);have x2:=hF.box
  first
  |clear qp5;have x1:=hF.other (by omega) jS.o;have ⟨c0,c1,c2⟩:=mq x2;have ⟨e0,e1,e2⟩:=mq x1;have z0:=ac x1 0;have z1:=ac x1 1;have z2:=ac x1 2;have ⟨l7,cz⟩:=aS x1 aq;clear j_ ce hF x1 x2 aq;gi_wp2
   first
   |clear qAF;have x6:=qu (v0:=.bool qv) (v1:=.string ⟨n.toArray⟩) (v2:=.slice ra k rc) l7.o;have k6:=eN (W:=wr) (b:=w.heap.size+1) (v0:=.bool qv) (v1:=.string ⟨n.toArray⟩) (v2:=.slice ra k rc);have ⟨W6,cQ⟩:=aj (((wr.setCell ⟨w.heap.size+1,0,none⟩ (.bool qv)).setCell ⟨w.heap.size+1,1,none⟩ (.string ⟨n.toArray⟩)).setCell ⟨w.heap.size+1,2,none⟩ (.slice ra k rc));exact qgp
   |clear qAG;have qxc:=();exact qcK
   |clear qzB;have qAH:=();exact qla
   |clear qzC;have x6:=qu (v0:=.bool true) (v1:=.string ⟨r.toArray⟩) (v2:=.slice ra k rc) l7.o;have k6:=eN (W:=wr) (b:=w.heap.size+1) (v0:=.bool true) (v1:=.string ⟨r.toArray⟩) (v2:=.slice ra k rc);have ⟨W6,cQ⟩:=aj (((wr.setCell ⟨w.heap.size+1,0,none⟩ (.bool true)).setCell ⟨w.heap.size+1,1,none⟩ (.string ⟨r.toArray⟩)).setCell ⟨w.heap.size+1,2,none⟩ (.slice ra k rc));exact qgB
   |clear qyV;have qxd:=();exact qcK
   |clear qyU;exact qla
   |clear qx8;exact qcK
   |have x6:=qu (v0:=.bool true) (v1:=.string ⟨n.toArray⟩) (v2:=.slice ra k rc) l7.o;exact qcO
  |clear qt9;have x1:=hF.other (by omega) Oy.o;have ⟨c0,c1,c2,c3⟩:=nI x2;have ⟨e0,e1,e2,e3⟩:=nI x1;have z0:=ac x1 0;have z1:=ac x1 1;have z2:=ac x1 2;have z3:=ac x1 3;have l7:=ab x1;have QT:=ab (Zn.o.kp1 hF.kp (by have:=zg.o;omega));have ⟨cz,HSz⟩:=aS aq hF.size;clear j_ ce hF x1 x2 aq;gi_wp2;have x6:=lZ (v0:=.int .u8 qo) (v1:=.string ⟨n.toArray⟩) (v2:=.slice gy k1 gz) (v3:=.slice ra k rc) l7.o
   first
   |clear qAI;have k6:=dM (W:=wr) (b:=w.heap.size+1) (v0:=.int .u8 qo) (v1:=.string ⟨n.toArray⟩) (v2:=.slice gy k1 gz) (v3:=.slice ra k rc);have ⟨W6,cQ⟩:=aj ((((wr.setCell ⟨w.heap.size+1,0,none⟩ (.int .u8 qo)).setCell ⟨w.heap.size+1,1,none⟩ (.string ⟨n.toArray⟩)).setCell ⟨w.heap.size+1,2,none⟩ (.slice gy k1 gz)).setCell ⟨w.heap.size+1,3,none⟩ (.slice ra k rc));exact qgu
   |have k6:=dM (W:=wr) (b:=w.heap.size+1+1) (v0:=.int .u8 qo) (v1:=.string ⟨n.toArray⟩) (v2:=.slice gy k1 gz) (v3:=.slice ra k rc);have ⟨W6,cQ⟩:=aj ((((wr.setCell ⟨w.heap.size+1+1,0,none⟩ (.int .u8 qo)).setCell ⟨w.heap.size+1+1,1,none⟩ (.string ⟨n.toArray⟩)).setCell ⟨w.heap.size+1+1,2,none⟩ (.slice gy k1 gz)).setCell ⟨w.heap.size+1+1,3,none⟩ (.slice ra k rc));exact qjI
  |clear qxz;have x1:=hF.other (by omega) Oy.o;have ⟨c0,c1,c2,c3⟩:=nI x2;obtain ⟨e0,e1,e2,e3,z0,z1,z2,z3⟩:=dc x1;have l7:=ab x1;have QT:=ab (Zn.o.kp1 hF.kp (by have:=zg.o;omega));have cz:=ab aq;clear j_ ce hF x1 x2 aq;gi_wp2;have x6:=lZ (v0:=.int .u8 so) (v1:=.string ⟨n.toArray⟩) (v2:=.slice gy k1 gz) (v3:=.slice ra k rc) l7.o;have k6:=dM (W:=wr) (b:=w.heap.size+1) (v0:=.int .u8 so) (v1:=.string ⟨n.toArray⟩) (v2:=.slice gy k1 gz) (v3:=.slice ra k rc);have ⟨W6,cQ⟩:=aj ((((wr.setCell ⟨w.heap.size+1,0,none⟩ (.int .u8 so)).setCell ⟨w.heap.size+1,1,none⟩ (.string ⟨n.toArray⟩)).setCell ⟨w.heap.size+1,2,none⟩ (.slice gy k1 gz)).setCell ⟨w.heap.size+1,3,none⟩ (.slice ra k rc));exact qdH
  |have x1:=hF.other (b:=w.heap.size+1) (by omega) jS.o;obtain ⟨c0,c1,c2,c3,_⟩:=dc x2;obtain ⟨e0,e1,e2,e3,z0,z1,z2,z3⟩:=dc x1;have l7:=ab x1;have HT2:=ab (H1.o.2.2.2.move (W':=wr) (ok':=(W0.heap.size<=·)) (fun b hb hlt=>⟨hb.1,hF.kp.same b hlt hb.2⟩));have ⟨cz,HSz,zg⟩:=cE aq hF.size hF.lt;clear j_ ce hF x1 x2 aq;go_wp2;obtain ⟨W6,cQ,x6,k6,g0,g1,g2,g3⟩:=yf l7.o (.int .u8 qo) (.string ⟨n.toArray⟩) (.slice r1 k0 r2) (.slice ra k rc);rw[<-cQ];clear cQ;have hz:=H0.o.2.2.2;have iM:=H1.o.1.size;have h6:FormV (w.heap.size<=·) W6 (FQ.val ⟨qo,⟨n.toArray⟩,r1,k0,r2,ra,k,rc⟩) (.mk qo n (dC ns a) (s.map (et ns))):=aQ.2 ⟨_,_,rfl,HT2.o.move (fun b hb hlt=>⟨by have:W0.heap.size<=b:=hb;omega,k6.same b hlt (by have:W0.heap.size<=b:=hb;omega)⟩),(HR.o.kp1 k6 (by omega)).forms.move (fun b hb _=>⟨by have:W1.heap.size<=b:=hb;omega,rfl⟩)⟩;refine bK (v:=FQ.val ⟨qo,⟨n.toArray⟩,r1,k0,r2,ra,k,rc⟩) (by simp[FQ.val,results,Tryz.results88,go_sem,g0,g1,g2,g3]) rfl ⟨⟨qo,⟨n.toArray⟩,r1,k0,r2,ra,k,rc⟩,rfl,h6,Below.kp1 cz.o k6 (by omega)⟩
 |have HU:=ab (hu.later aq);have ⟨HF,dU,cz⟩:=cE hF ce aq
  first
  |clear qsf;clear hu aq hF c0 c1 c2 ce;gi_wp2;have ⟨W2,aZ⟩:=aj (wr.alloc (.cells #[.bool u.v,.string u.n,.slice u.a u.l u.c] 43));exact qhj
  |clear quQ;clear hu aq hF c0 c1 c2 c3 ce;gi_wp2;have ⟨W2,aZ⟩:=aj (wr.alloc (.cells #[.int .u8 u.o,.string u.n,.slice u.a u.l u.c,.slice u.b u.m u.e] 36));have eV:=cM aZ;have xb:=bS aZ;rw[<-aZ];clear aZ d0 d1 d2 d3;have gR:=HF.o.later eV (fun r=>r.below eV)
   first
   |clear qAJ;have qtu:=();exact qag
   |have qtB:=();exact qag
  |clear hu aq hF c0 c1 c2 c3 ce;have eV:Below wr.heap.size wr wr:=ai _ _;have gR:=HF.o.later eV (fun r=>r.below eV);exact qbv):G:=h
theorem qkG(h:G:=by
 simp only[nodesF,nodesFs,eL,List.map_nil,nodesTs,Nat.add_mul];omega):G:=h
theorem qkX(h:G:=by
 have dN:S X4.drew:=by rw[hS];exact (ai _ _).drew
 have In:=HP.o.cases;have ⟨Yg,cR⟩:=aS In hS
 first
 |clear qAk
  first
  |clear qtb;have qAK:=();exact qcH
  |exact qcH
 |have qAL:=();exact qcH):G:=h
theorem qkZ(h:G:=by
 have H2:=bx bG gY x1;have ⟨fj,HR⟩:=aS aZ hR;clear r_ qF ar eh bG gY x1 aZ hR;unfold BQ.val
 first
 |clear qAn;go_enter Tryz.func16,Tryz.ntmps16;go_wp2_with fail;rw[<-fj.o];go_loopw [11] (fun i wr=>∃k:Nat,k<=n1/\i=.int .i64 k/\Below W2.heap.size W2 wr/\R=getB (b.fs.drop k) n) (fun i _=>n1 - (intOf i).toNat)
  case atStart=>exact ⟨0,aX _,rfl,ai _ _,by simpa using HR.o⟩
  case round=>
   have qAM:=();exact qlb
 |go_enter Tryz.func18,Tryz.ntmps18;go_wp2_with fail;rw[<-fj.o];go_loopw [11] (fun i wr=>∃k:Nat,k<=n1/\i=.int .i64 k/\Below W2.heap.size W2 wr/\R=getB (b.ts.drop k) n) (fun i _=>n1 - (intOf i).toNat)
  case atStart=>exact ⟨0,aX _,rfl,ai _ _,by simpa using HR.o⟩
  case round=>
   exact qlb):G:=h
theorem qcV(h:G:=by
 have ⟨HC,HS⟩:=aS CC js;have lj:=ab (bi.trans (Kp.below hB))
 first
 |clear qsc;clear hu hB D8 vj CC js bi hj c0 c1 c2
  first
  |clear qkw;gi_wp2_with (gi_at_call 214;refine aH.2 (HC.o.mono ?_);rintro e w3 ⟨rfl,qK,jr⟩;have HH:=aA qK jr;clear qK jr);exact qdp
  |go_wp2_with (go_at_call 214;refine HC.o.mono ?_;rintro e w3 ⟨rfl,qK,jr⟩;have HH:=aA qK jr;clear qK jr);exact qdp
 |clear qzr;clear hu hB D8 vj CC js bi hj c0 c1 c2 hmW Rm y';go_wp2_with (go_at_call 214;refine HC.o.mono ?_;rintro e w3 ⟨rfl,qK,jr⟩;have HH:=aA qK jr;clear qK jr);exact qj9
 |clear hu hB D8 vj CC js bi hj c0 c1 c2 c3;gi_wp2_with (gi_at_call 151;refine aH.2 (HC.o.mono ?_);rintro e w3 ⟨rfl,qK,jr⟩;have HH:=aA qK jr;clear qK jr);exact qdp):G:=h
theorem qjl(h:G:=by
 go_enter Tryz.func19,Tryz.ntmps19
 first
 |clear qwS;exact qat
 |have qxN:=();exact qjK):G:=h
theorem qiJ(h:G:=by
 have g1:=fun x:Later W3=>x.get (aa fv kZ.o.1);have g2:=fun x:Later W3=>x.get (aa fv kZ.o.2.1)
 first
 |clear qvw;have g3:=fun x:Later W3=>x.get (aa fv kZ.o.2.2.1);have g4:=fun x:Later W3=>x.get (aa fv kZ.o.2.2.2)
  first
  |clear qy9;have bD:=ab fv;have CC:=ab (fun (x:Later W3)=>fd.o xs[k] (ap bj) ys[k] ps (.slice pa p0 pc) ok ok' x.w u u' GN Ad.o ((HU.o.later bD.o).later x.below) ((td.o.later bD.o).later x.below) ((t4.o.later bD.o).later x.below));have qdu:=();exact qa7
  |clear qAN;have bD:=ab fv;have CC:=ab (fun (x:Later W3)=>fd.o xs[k] (ap bj) ys[k] (ps ++ [(xn,xn)]) (.slice (some ⟨g,0,none⟩) (p0+1) cap) ok ok' x.w u u' GN Ad.o ((HU.o.later bD.o).later x.below) ((td.o.later bD.o).later x.below) ((t4.o.later bD.o).later x.below));have qdu:=();exact qa7
  |clear qAO;have bD:=ab fv;have CC:=ab (fun (x:Later W3)=>fd.o xs[k] (ap bj) ys[k] (ps ++ [(xn,yn)]) (.slice (some ⟨g,0,none⟩) (p0+1) cap) ok ok' x.w u u' GN Ad.o ((HU.o.later bD.o).later x.below) ((td.o.later bD.o).later x.below) ((t4.o.later bD.o).later x.below));have qdu:=();exact qa7
  |clear qza;have bD:=ab fv;have CC:=ab (fun (x:Later W3)=>fd.o xs[k] (ap bj) ys[k] ps (.slice pa p0 pc) ok ok' x.w u u' GN Ad.o (Kt HWs.o (ap bj)) ((HU.o.later bD.o).later x.below) ((td.o.later bD.o).later x.below) ((t4.o.later bD.o).later x.below));exact qa7
  |have bD:=ab fv;have CC:=ab (fun (x:Later W3)=>fd.o xs[k] (ap bj) ys[k] (ps ++ [(xn,yn)]) (.slice (some ⟨g,0,none⟩) (p0+1) cap) ok ok' x.w u u' GN Ad.o (Kt HWs.o (ap bj)) ((HU.o.later bD.o).later x.below) ((td.o.later bD.o).later x.below) ((t4.o.later bD.o).later x.below));exact qa7
 |first
  |clear qoq;have g3:=fun x:Later W3=>x.get (aa fv kZ.o.2.2);have bD:=ab fv;have CC:=ab (fun (x:Later W3)=>BC xa[k] ya[k] ps (.slice pa p0 pc) ok ok' x.w u u' O2 Ad.o ((HU.o.later bD.o).later x.below) ((td.o.later bD.o).later x.below) ((t4.o.later bD.o).later x.below));have qAa:=();exact qbR
  |have g3:=fun x:Later W3=>x.get (aa fv kZ.o.2.2);have bD:=ab fv;have CC:=ab (fun (x:Later W3)=>Ku xa[k] ya[k] ps (.slice pa p0 pc) ok ok' x.w u u' O2 Ad.o (Dv HWf.o (ap bj)) ((HU.o.later bD.o).later x.below) ((td.o.later bD.o).later x.below) ((t4.o.later bD.o).later x.below));exact qbR):G:=h
theorem qfM(h:G:=by
 have gI:FormV ok wr u.val s[k]:=hu.move (fun b hok hlt=>⟨hok,bi.same b hlt (ko.o b hok)⟩)
 first
 |clear qoM;have fR:=fd.o s[k] (ap bj) ok J true (left - 1 - nodesTs a - nodesFs (s.take k)) bz (bc+1) (wr.alloc (.cells #[.int .u8 u.o,.string u.n,.slice u.a u.l u.c,.slice u.b u.m u.e] 36)) u ((HT.o.kp bi (fun b hb=>by subst hb;exact Wd)).next cI) Wd (gI.later cI) ko.o (hj.later cI) (by omega) (by omega) hde (by omega) (by omega);have ⟨bb,cZ⟩:=aj (okF true s[k] && (decide ((nodesF s[k]:Int)<=left - 1 - nodesTs a - nodesFs (s.take k)) && decide (bc+1+depthF s[k]<=bz+1)));rw[<-cZ]at fR
  cases bb with
  | true=>
   have pt:=cZ.symm;simp only[ae,br]at pt;have hrel:dt true (s.take (k+1))=true/\((nodesFs (s.take (k+1)):Int))<=left - 1 - nodesTs a/\bc+1+aV (s.take (k+1))<=bz+1/\left - 1 - nodesTs a - nodesFs (s.take k) - nodesF s[k]=left - 1 - nodesTs a - nodesFs (s.take (k+1)):=⟨by rw[Gj,ha,pt.1];rfl,by omega,by omega,by omega⟩;exact qhX
  | false=>
   have kC:(dt true s && (decide ((nodesFs s:Int)<=left - 1 - nodesTs a) && decide (bc+1+aV s<=bz+1)))=false:=by
    have dD:=bQ s (k+1);have hdm:=nQ bj
    cases h1:okF true s[k] with
    | false=>rw[vk bj h1];rfl
    | true=>
     exact qdj
   exact qh9
 |have fR:=fd.o s[k] (ap bj) ok J sc (left - 1 - nodesTs a - nodesFs (s.take k)) bz (bc+1) (wr.alloc (.cells #[.int .u8 u.o,.string u.n,.slice u.a u.l u.c,.slice u.b u.m u.e] 36)) u ((HT.o.kp bi (fun b hb=>by subst hb;exact Wd)).next cI) Wd (gI.later cI) ko.o (hj.later cI) (by omega) (by omega) hde (by omega) (by omega);have ⟨bb,cZ⟩:=aj (okF sc s[k] && (decide ((nodesF s[k]:Int)<=left - 1 - nodesTs a - nodesFs (s.take k)) && decide (bc+1+depthF s[k]<=bz+1)));rw[<-cZ]at fR
  cases bb with
  | true=>
   have pt:=cZ.symm;simp only[ae,br]at pt;have hrel:dt sc (s.take (k+1))=true/\((nodesFs (s.take (k+1)):Int))<=left - 1 - nodesTs a/\bc+1+aV (s.take (k+1))<=bz+1/\left - 1 - nodesTs a - nodesFs (s.take k) - nodesF s[k]=left - 1 - nodesTs a - nodesFs (s.take (k+1)):=⟨by rw[Gj,ha,pt.1];rfl,by omega,by omega,by omega⟩;exact qhX
  | false=>
   have kC:(dt sc s && (decide ((nodesFs s:Int)<=left - 1 - nodesTs a) && decide (bc+1+aV s<=bz+1)))=false:=by
    have dD:=bQ s (k+1);have hdm:=nQ bj
    cases h1:okF sc s[k] with
    | false=>rw[vk bj h1];rfl
    | true=>
     exact qdj
   exact qh9):G:=h
theorem qd7(h:G:=by
 obtain ⟨a',cap,qs,hv,_,hs,hf⟩:=h;have qu9:=();exact qbc):G:=h
theorem qjD(h:G:=by
 rintro X Y hn ⟨h1,h2,h3⟩;exact ⟨h1,hn.cells h2,ot h3 hn⟩):G:=h
theorem qjW(h:G:=by
 rw[hS]at h;exact ⟨aa h r0,aa h k0,(hlk V (h.block _ mlt)).2⟩):G:=h
theorem qgU(h:G:=by
 unfold FQ.val at Js;simp only at Js;clear bG aZ;unfold FQ.val
 by_cases Ed:uo=vo/\k0=m0/\k1=m1
 first
 |clear qrR
  ·obtain ⟨rfl,rfl,rfl⟩:=Ed;have qvA:=();exact qiK
  ·have Fg:R=false:=by
    exact qko
   have HE:=ab Fg;clear hm Fg;have qAp:=();exact qdr
 |·obtain ⟨rfl,rfl,rfl⟩:=Ed;exact qiK
  ·have Fg:R=false:=by
    exact qko
   have HE:=ab Fg;clear hm Fg;go_enter Tryz.func83,Tryz.ntmps83;exact qhh):G:=h
theorem qbx(h:G:=by
 clear ff dN bV cB fB gq ir jj jz lM jE;go_wp2;go_ret
 first
 |clear qqC;exact ⟨by rw[sg.o];rfl,(H1.o.1.tr H3.o).tr H7.o⟩
 |clear qqE;exact ⟨by rw[sg.o];rfl,H2.o.1.tr H7.o⟩
 |clear qqJ;exact ⟨⟨_,rfl,by rw[sg.o];exact H8.o.2.base (((H1.o.1.tr H3.o)).size)⟩,(H1.o.1.tr H3.o).tr H8.o.1⟩
 |exact ⟨⟨_,rfl,by rw[sg.o];exact H8.o.2.base H2.o.1.size⟩,H2.o.1.tr H8.o.1⟩):G:=h
theorem qiv(h:G:=by
 have H5:=cq (l8.tr bh) x5 (hf.later (l8.tr bh)) mI;have HO:=fG aq au eJ dD hg;have pH:=ab e_
 first
 |clear qu6
  cases Et:dA nm with
  | false=>
   rw[Et]at CM;have HC:=ab CM;have HE3:=ab (show R=false by
    rw[HR.o];unfold validB;rw[show (b.fs.all fun x=>dA x.1 && bT (bl x.2))=false from List.all_eq_false.2 ⟨_,jB,by simp[Et]⟩];rfl)
   clear CM l8 aq au eJ dD hg mI hf bh x5 e_ jB Et c0 c1 c2 c3 c4 hok;go_wp2_with (rw[<-pH.o];go_at_call 65;refine HC.o.mono ?_;rintro e w6 ⟨rfl,cF⟩;have H6:=ab cF;clear cF);exact qlc
  | true=>
   rw[Et]at CM;have HC:=ab CM;have Fh:=ab (fun (W:World) (hb:Below W5.heap.size W5 W)=>Ox g mI.2.1 ok W ⟨qo,qn,qa,ql,qc,qb,qm,qe⟩ ((hf.later (l8.tr bh)).later hb));have Mp:=ab (fun (W:World) (p:FQ) (ok':Nat->Prop) (hb:Below W5.heap.size W5 W) (hp:FormV ok' W p.val (bl g))=>oZ W0 (bl g) mI.2.2 ok' W (UJ.o.next ((l8.tr bh).tr hb)) p hp);simp only[FQ.val]at Fh Mp
   cases Py:bT (bl g) with
   | false=>
    rw[Py]at Mp;have HE3:=ab (show R=false by
     rw[HR.o];unfold validB;rw[show (b.fs.all fun x=>dA x.1 && bT (bl x.2))=false from List.all_eq_false.2 ⟨_,jB,by simp[Py]⟩];rfl)
    clear CM l8 aq au eJ dD hg mI hf bh x5 e_ jB Et Py c0 c1 c2 c3 c4 hok;go_wp2_with (first | (rw[<-pH.o];go_at_call 65;refine HC.o.mono ?_;rintro e w6 ⟨rfl,cF⟩;have x6:=bN cF H5.o.2.1;have s0:=ag x6 0;have s1:=ag x6 1;have s2:=ag x6 2;have s3:=ag x6 3;have s4:=ag x6 4;have H6:=aA cF x6;clear cF x6) | (go_at_call 66;refine (Fh.o w6 H6.o.1).mono ?_;rintro e w7 ⟨⟨p0,p1,p2,p3,p4,p5,p6,p7⟩,rfl,L8,fW⟩;have H7:=aA L8 fW;clear L8 fW) | (go_at_call 39;refine (Mp.o w7 ⟨p0,p1,p2,p3,p4,p5,p6,p7⟩ _ (H6.o.1.tr H7.o.2) H7.o.1).mono ?_;rintro e w8 ⟨rfl,iA⟩;have H8:=ab (H6.o.1.tr (H7.o.2.tr iA));clear iA));exact qld
   | true=>
    rw[Py]at Mp;have xr:=ab bh;have _o:=ab (show ((b.fs.take k).map (·.1)).length+1<=4000000 by simp;omega);have Ns:=ab (show (b.fs.take (k+1)).map (·.1)=(b.fs.take k).map (·.1) ++ [nm]/\(b.fs.take (k+1)).all (fun x=>dA x.1 && bT (bl x.2))=true by
     rw[List.take_add_one,io bj];refine ⟨by rw[List.map_append,dD];rfl,?_⟩;rw[List.all_append,eJ];simp only[Option.toList,List.all_cons,List.all_nil,Bool.and_true,dz];rw[<-dD,<-hg,Et,Py];rfl)
    clear CM l8 aq au eJ dD hg mI hf bh x5 e_ jB Et Py c0 c1 c2 c3 c4 hok;go_wp2_with (first | (rw[<-pH.o];go_at_call 65;refine HC.o.mono ?_;rintro e w6 ⟨rfl,cF⟩;have x6:=bN cF H5.o.2.1;have s0:=ag x6 0;have s1:=ag x6 1;have s2:=ag x6 2;have s3:=ag x6 3;have s4:=ag x6 4;have H6:=aA cF x6;clear cF x6) | (go_at_call 66;refine (Fh.o w6 H6.o.1).mono ?_;rintro e w7 ⟨⟨p0,p1,p2,p3,p4,p5,p6,p7⟩,rfl,L8,fW⟩;have H7:=aA L8 fW;clear L8 fW) | (go_at_call 39;refine (Mp.o w7 ⟨p0,p1,p2,p3,p4,p5,p6,p7⟩ _ (H6.o.1.tr H7.o.2) H7.o.1).mono ?_;rintro e w8 ⟨rfl,iA⟩;have r0:=aa (H7.o.2.tr iA) s0;have H8:=ab (H6.o.1.tr (H7.o.2.tr iA));clear iA) | (at_builtin;refine ei rfl _ _ rfl W1.heap.size (by have:=HO.o.1.size;have:=xr.o.size;have:=H8.o.size;simp;omega) u3 ((b.fs.take k).map (·.1)) rfl (HO.o.2.1.later ((xr.o.tr H8.o).tr cI)) (.slice (some ⟨w8.heap.size,0,none⟩) 1 1) [nm] rfl (fun _=>True) (BP (ah rfl)) _o.o ?_;intro v9 w9 RI KV;have HG:=aA RI (oV ((Kp.below (M:=fun _=>False) ((HO.o.1.tr xr.o).tr H8.o)).trans (Kp.below cI)) KV (fun g hg=>(World.ownsRow.lt HO.o.2.1 g hg).1)).empty;clear RI KV));go_roundw
    case rel=>exact ⟨k+1,by omega,by go_num,HG.o.2,by rw[Ns.o.1];exact HG.o.1,Ns.o.2⟩
    case measure=>simp[intOf];omega
 |cases Et:cX nm with
  | false=>
   rw[Et]at CM;have HC:=ab CM;have HE3:=ab (show R=false by
    rw[HR.o];unfold validB;rw[HO1.o.2.2.1];rw[show (b.ts.all fun x=>cX x.1 && jc false (aK x.2))=false from List.all_eq_false.2 ⟨_,jB,by simp[Et]⟩];simp)
   clear CM l8 aq au eJ dD hg mI hf bh x5 e_ jB Et c0 c1 c2 c3 hok;go_wp2_with (rw[<-pH.o];go_at_call 67;refine HC.o.mono ?_;rintro e w6 ⟨rfl,cF⟩;have H6:=ab cF;clear cF);exact qlc
  | true=>
   rw[Et]at CM;have HC:=ab CM;have Fh:=ab (fun (W:World) (hb:Below W5.heap.size W5 W)=>sX g mI.2.1 ok W ⟨qv,qn,qa,ql,qc⟩ ((hf.later (l8.tr bh)).later hb));have Mp:=ab (fun (W:World) (p:TQ) (ok':Nat->Prop) (hb:Below W5.heap.size W5 W) (hp:TermV ok' W p.val (aK g))=>Q0 (aK g) mI.2.2 ok' W p hp);simp only[TQ.val]at Fh Mp
   cases Py:jc false (aK g) with
   | false=>
    rw[Py]at Mp;have HE3:=ab (show R=false by
     rw[HR.o];unfold validB;rw[HO1.o.2.2.1];rw[show (b.ts.all fun x=>cX x.1 && jc false (aK x.2))=false from List.all_eq_false.2 ⟨_,jB,by simp[Py]⟩];simp)
    clear CM l8 aq au eJ dD hg mI hf bh x5 e_ jB Et Py c0 c1 c2 c3 hok;go_wp2_with (first | (rw[<-pH.o];go_at_call 67;refine HC.o.mono ?_;rintro e w6 ⟨rfl,cF⟩;have x6:=bN cF H5.o.2.1;have s0:=ag x6 0;have s1:=ag x6 1;have s2:=ag x6 2;have s3:=ag x6 3;have H6:=aA cF x6;clear cF x6) | (go_at_call 69;refine (Fh.o w6 H6.o.1).mono ?_;rintro e w7 ⟨⟨p0,p1,p2,p3,p4⟩,rfl,L8,fW⟩;have H7:=aA L8 fW;clear L8 fW) | (go_at_call 68;refine (Mp.o w7 ⟨p0,p1,p2,p3,p4⟩ _ (H6.o.1.tr H7.o.2) H7.o.1).mono ?_;rintro e w8 ⟨rfl,iA⟩;have H8:=ab (H6.o.1.tr (H7.o.2.tr iA));clear iA));exact qld
   | true=>
    rw[Py]at Mp;have xr:=ab bh;have _o:=ab (show ((b.ts.take j).map (·.1)).length+1<=4000000 by simp;omega);have Ns:=ab (show (b.ts.take (j+1)).map (·.1)=(b.ts.take j).map (·.1) ++ [nm]/\(b.ts.take (j+1)).all (fun x=>cX x.1 && jc false (aK x.2))=true by
     rw[List.take_add_one,io le];refine ⟨by rw[List.map_append,dD];rfl,?_⟩;rw[List.all_append,eJ];simp only[Option.toList,List.all_cons,List.all_nil,Bool.and_true,dz];rw[<-dD,<-hg,Et,Py];simp)
    clear CM l8 aq au eJ dD hg mI hf bh x5 e_ jB Et Py c0 c1 c2 c3 hok;go_wp2_with (first | (rw[<-pH.o];go_at_call 67;refine HC.o.mono ?_;rintro e w6 ⟨rfl,cF⟩;have x6:=bN cF H5.o.2.1;have s0:=ag x6 0;have s1:=ag x6 1;have s2:=ag x6 2;have s3:=ag x6 3;have H6:=aA cF x6;clear cF x6) | (go_at_call 69;refine (Fh.o w6 H6.o.1).mono ?_;rintro e w7 ⟨⟨p0,p1,p2,p3,p4⟩,rfl,L8,fW⟩;have H7:=aA L8 fW;clear L8 fW) | (go_at_call 68;refine (Mp.o w7 ⟨p0,p1,p2,p3,p4⟩ _ (H6.o.1.tr H7.o.2) H7.o.1).mono ?_;rintro e w8 ⟨rfl,iA⟩;have r0:=aa (H7.o.2.tr iA) s0;have H8:=ab (H6.o.1.tr (H7.o.2.tr iA));clear iA) | (at_builtin;refine ei rfl _ _ rfl wo.heap.size (by have:=HO.o.1.size;have:=xr.o.size;have:=H8.o.size;simp;omega) u4 ((b.ts.take j).map (·.1)) rfl (HO.o.2.1.later ((xr.o.tr H8.o).tr cI)) (.slice (some ⟨w8.heap.size,0,none⟩) 1 1) [nm] rfl (fun _=>True) (BP (ah rfl)) _o.o ?_;intro v9 w9 RI KV;have HG:=aA RI (oV ((Kp.below (M:=fun _=>False) ((HO.o.1.tr xr.o).tr H8.o)).trans (Kp.below cI)) KV (fun g hg=>(World.ownsRow.lt HO.o.2.1 g hg).1)).empty;clear RI KV));go_roundw
    case rel=>exact ⟨j+1,by omega,by go_num,HG.o.2,by rw[Ns.o.1];exact HG.o.1,Ns.o.2⟩
    case measure=>simp[intOf];omega):G:=h
theorem qle(h:G:=by
 have bG:=k_ aZ;have gY:=xC aZ;have x1:=qM aZ;have x2:=jH aZ;have fJ:=jD.later bG;have jx:=eU
 first
 |clear qAP;have ⟨RS,Gy⟩:=aj (cw kd c (.mk 15 n a ss));have qyp:=();exact qj0
 |have ⟨RS,Gy⟩:=aj (cw kd c (.mk 16 n a ss));exact qj0):G:=h
theorem qfS(h:G:=by
 have td:=ab (gI.later aq);have t4:=ab (qp.o.later dx);have ⟨Ad,Ae,cz,mx⟩:=eD mw he aq dx
 first
 |clear qpk;have kZ:=cq (aa cz.o kr) (aa cz.o kX) (aa cz.o kY) (aa cz.o B_);have ⟨uZ,HT⟩:=aS y2 ht;clear hu gI mw he aq dx ht c0 c1 c2 kr kX kY c3 B_;go_wp2;have ⟨W3,dF⟩:=aj (wr.alloc (.cells #[.int .u8 u.o,.string u.n,.slice u.a u.l u.c,.slice u.b u.m u.e] 36));have qvv:=();exact qdq
 |have kZ:=bx (aa cz.o kr) (aa cz.o kX) (aa cz.o kY);have ⟨uZ,HT⟩:=aS y2 ht;clear hu gI mw he aq dx ht c0 c1 c2 kr kX kY;exact qhd):G:=h
theorem qcI(h:G:=by
 refine (wpIn_wide (n:=3)).1 ?_;refine lF S 12 dN fun jE bV=>?_
 first
 |clear qp9;refine bw 0 64 (.slice pa p0 pc) rfl bV fun cB=>?_
  simp only[af];refine bw 1 65 (.slice pa p0 pc) rfl cB fun fB=>?_;simp only[af];refine bw 2 66 (.int .i64 (p0:Int)) rfl fB fun gq=>?_;simp only[af];refine bw 3 67 (.slice pa p0 pc) rfl gq fun ir=>?_;simp only[af];refine bw 4 68 (.int .i64 (p0:Int)) rfl ir fun jj=>?_;simp only[af];refine c_ 5 69 (.slice pa p0 p0) rfl (fun V hX=>by rcases Yg.o with ⟨rfl,rfl,rfl⟩ | ⟨b,off,rfl⟩ <;> go_simp) jj fun jz=>?_;simp only[af];refine bw 6 70 (.pointer (some ⟨w.heap.size,1,none⟩)) rfl jz fun lM=>?_;simp only[af];refine c_ 7 71 (.string ⟨xn.toArray⟩) rfl (fun V hX=>by have g0:=f0 V hX;go_simp) lM fun qh=>?_;simp only[af];refine bw 8 72 (.pointer (some ⟨w.heap.size+1,1,none⟩)) rfl qh fun Eu=>?_
  first
  |clear qAL;simp only[af];refine c_ 9 73 (.string ⟨xn.toArray⟩) rfl (fun V hX=>by have g1:=f1 V hX;go_simp) Eu fun vX=>?_
   simp only[af];refine bw 10 74 (.agg #[.string ⟨xn.toArray⟩,.string ⟨xn.toArray⟩]) rfl vX fun Ev=>?_;simp only[af];refine b_ 11 rfl fun K hK=>?_;go_simp;have m7:Below X4.heap.size X4 (X4.alloc (.cells #[.string ⟨xn.toArray⟩,.string ⟨xn.toArray⟩] 213)).drew:=((ai _ X4).alloc (aC _) _).drew;have qxr:=();exact qaM
  |clear qAK;simp only[af];have qvT:=();exact qiV
  |simp only[af];exact qiV
 |clear qvk;refine c_ 0 99 (.agg #[.int .u8 so,.string ⟨n.toArray⟩,.slice (some ⟨b1,o1,none⟩) n1 sc,.slice sb m1 se,.int .u8 so,.string ⟨n'.toArray⟩,.slice (some ⟨b2,o2,none⟩) n1 fc,.slice fb m1 fe,.slice ca cl cc]) rfl (fun V hX=>by obtain ⟨h0,h1,h2,h3,h4,h5,h6,h7,h8⟩:=pp V hX;go_simp) bV fun cB=>?_
  simp only[af];refine bw 1 100 (.pointer (some ⟨B6,2,none⟩)) rfl cB fun fB=>?_;simp only[af];refine c_ 2 101 (.slice (some ⟨b2,o2,none⟩) n1 fc) rfl (fun V hX=>by have h0:=tt V hX;go_simp) fB fun gq=>?_;simp only[af];refine bw 3 102 (.int .i64 (j:Int)) rfl gq fun ir=>?_;simp only[af];refine bw 4 103 (.pointer (some ⟨b2,o2+j * 3,none⟩)) rfl ir fun jj=>?_;simp only[af];refine c_ 5 104 (.agg #[.bool yv,.string yn,.slice ya yl yc]) rfl (fun V hX=>by obtain ⟨h0,h1,h2⟩:=yy V hX;go_simp) jj fun jz=>?_;simp only[af];refine _c (i:=6) (j:=10) rfl rfl (by kernel_rfl) (by rfl) (by rfl) (fun K hK=>?_) (fun K hK=>?_)
  ·go_simp;refine aH.2 ((XG.o _ (by have h:=bV;rw[cR.o]at h;exact h)).mono ?_);rintro e w6 ⟨⟨⟨u0,u1,u2,u3,u4⟩,rfl,hu⟩,cF⟩;have lp:Below W5.heap.size W5 w6:=((ai W5.heap.size W5).drew).trans cF;have H6:=aA lp hu;refine hK _ _ (fun _=>by rw[cR.o];exact H6.o.1) (fun jz=>?_);replace jz:=jz (by decide);clear hK K hu cF lp;have qvN:=();exact qiQ
  ·go_simp;have ⟨EB,yq⟩:=aj W5.heap.size;have ⟨A1,qi⟩:=aj (W5.alloc (.cells #[.bool false,.string ⟨#[]⟩,.slice none 0 0] 43)).drew;have ug:Below W5.heap.size W5 A1:=by rw[qi];exact cI.drew
   have Fx:A1.heap[EB]?=some (.cells #[.bool false,.string ⟨#[]⟩,.slice none 0 0] 43 (0,0)):=by rw[qi,yq];exact ah rfl
   have NH:EB=W5.heap.size:=yq;rw[<-qi,<-yq];have HA:=bx ug Fx NH;refine hK _ _ (fun _=>by rw[cR.o];exact HA.o.1) (fun _=>?_);clear hK K qi yq ug Fx NH;refine b_ 6 rfl fun K hK=>?_;go_simp;refine aH.2 ((XG.o _ HA.o.1).mono ?_);rintro e w6 ⟨⟨⟨u0,u1,u2,u3,u4⟩,rfl,hu⟩,cF⟩;have lp:Below W5.heap.size W5 w6:=HA.o.1.tr cF;have hn6:=bN cF HA.o.2.1;have H6:=fG lp hu hn6 (bA HA.o.2.1) HA.o.1.size;refine hK _ _ (fun _=>by rw[cR.o];exact H6.o.1) (fun jz=>?_);replace jz:=jz (by decide);obtain ⟨z0,z1,z2,y0',y1',y2'⟩:=fV hn6;clear hK K hu cF lp hn6;exact qiQ
 |first
  |clear qAQ;refine bw 0 19 (.pointer (some ⟨w.heap.size+1,0,none⟩)) rfl bV fun cB=>?_
   simp only[af];refine c_ 1 20 (.slice ra j rc) rfl (fun V hX=>by obtain ⟨h0,h1,h2⟩:=ff V hX;go_simp) cB fun fB=>?_;simp only[af];refine bw 2 21 (.string ⟨nm.toArray⟩) rfl fB fun gq=>?_;simp only[af];refine bw 3 22 (.pointer (some ⟨kb,0,none⟩)) rfl gq fun ir=>?_;simp only[af];refine bw 4 23 (.pointer (some ⟨kb,0,none⟩)) rfl ir fun jj=>?_;simp only[af];refine bw 5 24 (.pointer (some ⟨kb,0,none⟩)) rfl jj fun jz=>?_;simp only[af];refine c_ 6 25 (.map (some mF)) rfl (fun V hX=>by obtain ⟨h0,h1,h2⟩:=ff V hX;go_simp) jz fun lM=>?_;simp only[af];refine bw 7 26 (.string ⟨nm.toArray⟩) rfl lM fun qh=>?_;simp only[af];refine c_ 8 27 (.agg #[.int .u8 g0,.string g1,.slice g2 g3 g4,.slice g5 g6 g7]) rfl (fun V hX=>by obtain ⟨h0,h1,h2⟩:=ff V hX;go_simp) qh fun Eu=>?_;simp only[af];refine b_ 9 rfl fun K hK=>?_;have qAm:=();exact qdd
  |refine bw 0 45 (.pointer (some ⟨w.heap.size+1,1,none⟩)) rfl bV fun cB=>?_
   simp only[af];refine c_ 1 46 (.slice ra j rc) rfl (fun V hX=>by obtain ⟨h0,h1,h2⟩:=ff V hX;go_simp) cB fun fB=>?_;simp only[af];refine bw 2 47 (.string ⟨nm.toArray⟩) rfl fB fun gq=>?_;simp only[af];refine bw 3 48 (.pointer (some ⟨kb,0,none⟩)) rfl gq fun ir=>?_;simp only[af];refine bw 4 49 (.pointer (some ⟨kb,0,none⟩)) rfl ir fun jj=>?_;simp only[af];refine bw 5 50 (.pointer (some ⟨kb,1,none⟩)) rfl jj fun jz=>?_;simp only[af];refine c_ 6 51 (.map (some mT)) rfl (fun V hX=>by obtain ⟨h0,h1,h2⟩:=ff V hX;go_simp) jz fun lM=>?_;simp only[af];refine bw 7 52 (.string ⟨nm.toArray⟩) rfl lM fun qh=>?_;simp only[af];refine c_ 8 53 (.agg #[.bool g0,.string g1,.slice g2 g3 g4]) rfl (fun V hX=>by obtain ⟨h0,h1,h2⟩:=ff V hX;go_simp) qh fun Eu=>?_;simp only[af];refine b_ 9 rfl fun K hK=>?_;exact qdd):G:=h
theorem qfY(h:G:=by
 refine b_ 6 rfl fun K hK=>?_;go_simp;refine eK hK ?_;clear hK K;refine b_ 7 rfl fun K hK=>?_
 first
 |clear qpH;have qcD:=();exact qaa
 |have qcE:=();exact qaa):G:=h
theorem qaL(h:G:=by
 rw[<-bY];clear bY;have ⟨dY,jS⟩:=aS jf x1
 first
 |clear qsP
  first
  |clear qz1;have uY:=ab (Fills.start (R:=w.heap.size+1+1) (mk:=fun rr=>#[.bool false,.string ⟨n.toArray⟩,rr]) (Row:=fun r W=>RowT W1.heap.size r ((a.map aK).take 0) W) x2 (RowT.nil _ _));clear jf x1 x2;gi_loopw [25] (fun i wr=>∃k:Nat,k<=k0/\i=.int .i64 k/\∃row,Fills 43 (w.heap.size+1+1) W1.heap.size (fun rr=>#[.bool false,.string ⟨n.toArray⟩,rr]) (fun r W=>RowT W1.heap.size r ((a.map aK).take k) W) W1 wr row) (fun i _=>k0 - (intOf i).toNat)
   case atStart=>exact ⟨0,aX _,rfl,_,uY.o⟩
   case round=>
    exact qdh
  |clear qz7;have uY:=ab (Fills.start (R:=w.heap.size+1+1) (mk:=fun rr=>#[.bool false,.string ⟨n.toArray⟩,rr]) (Row:=fun r W=>RowT W1.heap.size r ((a.map (gC f)).take 0) W) x2 (RowT.nil _ _));clear jf x1 x2;gi_loopw [30] (fun i wr=>∃k:Nat,k<=k0/\i=.int .i64 k/\∃row,Fills 43 (w.heap.size+1+1) W1.heap.size (fun rr=>#[.bool false,.string ⟨n.toArray⟩,rr]) (fun r W=>RowT W1.heap.size r ((a.map (gC f)).take k) W) W1 wr row) (fun i _=>k0 - (intOf i).toNat)
   case atStart=>exact ⟨0,aX _,rfl,_,uY.o⟩
   case round=>
    have qAR:=();exact qbN
  |have uY:=ab (Fills.start (R:=w.heap.size+1+1) (mk:=fun rr=>#[.bool false,.string ⟨n.toArray⟩,rr]) (Row:=fun r W=>RowT W1.heap.size r ((a.map (da kd.ts sc)).take 0) W) x2 (RowT.nil _ _));clear jf x1 x2;gi_loopw [47] (fun i wr=>∃k:Nat,k<=k0/\i=.int .i64 k/\∃row,Fills 43 (w.heap.size+1+1) W1.heap.size (fun rr=>#[.bool false,.string ⟨n.toArray⟩,rr]) (fun r W=>RowT W1.heap.size r ((a.map (da kd.ts sc)).take k) W) W1 wr row) (fun i _=>k0 - (intOf i).toNat)
   case atStart=>exact ⟨0,aX _,rfl,_,uY.o⟩
   case round=>
    have qAS:=();exact qbN
 |clear qzi;have uY:=ab (Fills.start (R:=w.heap.size+1+1) (mk:=fun r=>#[.bool qv,.string ⟨n.toArray⟩,r]) (Row:=fun r W=>RowT W1.heap.size r (a.take 0) W) x2 (RowT.nil _ _));clear jf x1 x2;gi_loopw [14] (fun i wr=>∃k:Nat,k<=k0/\i=.int .i64 k/\∃row,Fills 43 (w.heap.size+1+1) W1.heap.size (fun r=>#[.bool qv,.string ⟨n.toArray⟩,r]) (fun r W=>RowT W1.heap.size r (a.take k) W) W1 wr row) (fun i _=>k0 - (intOf i).toNat)
  case atStart=>exact ⟨0,aX _,rfl,_,uY.o⟩
  case round=>
   have qAT:=();exact qbN
 |clear qzt;have uY:=ab (Fills.start (R:=w3.heap.size) (mk:=fun rr=>#[.bool true,.string ⟨n.toArray⟩,rr]) (Row:=fun r W=>RowT W1.heap.size r ((a.map (da kd.ts sc)).take 0) W) x2 (RowT.nil _ _));clear jf x1 x2;gi_loopw [47] (fun i wr=>∃k:Nat,k<=k0/\i=.int .i64 k/\∃row,Fills 43 (w3.heap.size) W1.heap.size (fun rr=>#[.bool true,.string ⟨n.toArray⟩,rr]) (fun r W=>RowT W1.heap.size r ((a.map (da kd.ts sc)).take k) W) W1 wr row) (fun i _=>k0 - (intOf i).toNat)
  case atStart=>exact ⟨0,aX _,rfl,_,uY.o⟩
  case round=>
   have qAU:=();exact qlf
 |clear qzZ;have uY:=ab (Fills.start (R:=w.heap.size+1+1) (mk:=fun rr=>#[.bool true,.string ⟨n.toArray⟩,rr]) (Row:=fun r W=>RowT W1.heap.size r ((a.map aK).take 0) W) x2 (RowT.nil _ _));clear jf x1 x2;gi_loopw [25] (fun i wr=>∃k:Nat,k<=k0/\i=.int .i64 k/\∃row,Fills 43 (w.heap.size+1+1) W1.heap.size (fun rr=>#[.bool true,.string ⟨n.toArray⟩,rr]) (fun r W=>RowT W1.heap.size r ((a.map aK).take k) W) W1 wr row) (fun i _=>k0 - (intOf i).toNat)
  case atStart=>exact ⟨0,aX _,rfl,_,uY.o⟩
  case round=>
   have qAV:=();exact qdh
 |clear qz0;have uY:=ab (Fills.start (R:=w.heap.size+1+1) (mk:=fun rr=>#[.bool true,.string ⟨r.toArray⟩,rr]) (Row:=fun r W=>RowT W1.heap.size r ((a.map aK).take 0) W) x2 (RowT.nil _ _));clear jf x1 x2;gi_loopw [25] (fun i wr=>∃k:Nat,k<=k0/\i=.int .i64 k/\∃row,Fills 43 (w.heap.size+1+1) W1.heap.size (fun rr=>#[.bool true,.string ⟨r.toArray⟩,rr]) (fun r W=>RowT W1.heap.size r ((a.map aK).take k) W) W1 wr row) (fun i _=>k0 - (intOf i).toNat)
  case atStart=>exact ⟨0,aX _,rfl,_,uY.o⟩
  case round=>
   have qAW:=();exact qdh
 |have uY:=ab (Fills.start (R:=w3.heap.size+1) (mk:=fun rr=>#[.bool true,.string ⟨n.toArray⟩,rr]) (Row:=fun r W=>RowT W1.heap.size r ((a.map (gC f)).take 0) W) x2 (RowT.nil _ _));clear jf x1 x2;gi_loopw [30] (fun i wr=>∃k:Nat,k<=k0/\i=.int .i64 k/\∃row,Fills 43 (w3.heap.size+1) W1.heap.size (fun rr=>#[.bool true,.string ⟨n.toArray⟩,rr]) (fun r W=>RowT W1.heap.size r ((a.map (gC f)).take k) W) W1 wr row) (fun i _=>k0 - (intOf i).toNat)
  case atStart=>exact ⟨0,aX _,rfl,_,uY.o⟩
  case round=>
   exact qlf):G:=h
theorem qcb(h:G:=by
 simp[execOp,ho,resolve,invoke,builtin,hs,hx,hr,Result.andThen]
 first
 |clear qAX;exact h g cap w' h2 h3 h4 h5
 |clear qmp;exact hK _ _ (h v' w' h3 h4)
 |exact h g cap w' h2 h3):G:=h
theorem qkY(h:G:=by
 clear hj KO bi ht b0 b1 CQ qL;go_wp2_with fail;refine KS.o.mono ?_;rintro e w3 ⟨rfl,aG⟩
 first
 |clear qAl;have H4:=ab (show J (pre ++ (A ++ [])) w3/\Kp M W0 w3/\BoundW w3 mb (n+0) bs'/\Kp (fun b=>M b\/b=mb) W1 w3 from ⟨by simpa using HJ.o _ _ _ (Nw.below aG) HE.o.2.1,HE.o.1.kp.trans (Kp.below aG),by rw[il.o];exact HE.o.1.bd.same (aG.block mb HE.o.1.bd.lt),HE.o.2.2.trans (Kp.below aG)⟩);have y3:w3.cell? ⟨W.heap.size,3,none⟩=some (.slice ub m0 ue):=aa aG ie.o;clear x0 x1 x2 x3 x4 aG;go_wp2;clear y3;go_loopw [36] (fun i wr=>∃k:Nat,k<=m0/\i=.int .i64 k/\J (pre ++ (A ++ bn bs' (ss.take k))) wr/\Kp M W0 wr/\(∃n',n'<=n+0+2 * nodesFs (ss.take k)/\BoundW wr mb n' bs')/\Kp (fun b=>M b\/b=mb) W1 wr) (fun i _=>m0 - (intOf i).toNat)
  case atStart=>exact ⟨0,aX _,rfl,by simpa[bn] using H4.o.1,H4.o.2.1,⟨n+0,by omega,H4.o.2.2.1⟩,H4.o.2.2.2⟩
  case round=>
   have qzX:=();exact qix
 |have hbd:=HE.o.1.bd.same (aG.block mb HE.o.1.bd.lt);obtain ⟨w4,cD,aR,xh,yh,KT⟩:=hbd.store (bs':=nm :: bs) (x:=nm) (by have:=xy.o;omega) IQ.o (fun y hy=>by rw[List.count_cons_of_ne];exact fun h=>hy h.symm);have hr:=hbd.look IQ.o w3 rfl;have hcl:bs.count nm<=4000000:=by have:=xy.o;have:=List.count_le_length (a:=nm) (l:=bs);omega
  rw[List.count_cons_self]at cD;have ⟨cn,zs⟩:=aj (bs.count nm);rw[<-zs]at cD hr hcl;have cD:(Instr.mapUpdate 198 (.map (some mb)) (.string ⟨nm.toArray⟩) (.int .i64 ((cn:Int)+1))).run Tryz.prog w3=.ok () w4:=cD;have kD:Kp (fun b=>M b\/b=mb) w3 w4:=⟨xh.os,xh.tape,xh.output,Nat.le_of_eq yh.symm,fun b hb hm=>xh.block b hb (fun h=>hm (.inr (by cases h;rfl)))⟩;have H4:=ab (show J (pre ++ (A ++ [])) w4/\Kp M W0 w4/\BoundW w4 mb (n+1) bs'/\Kp (fun b=>M b\/b=mb) W1 w4 from ⟨by simpa using HJ.o _ _ _ (KT _ ZQ.o) (HJ.o _ _ _ (Nw.below aG) HE.o.2.1),Ry (HE.o.1.kp.trans (Kp.below aG)) (KT _ ZQ.o) (aC _),by rw[il.o];exact aR,(HE.o.2.2.trans (Kp.below aG)).trans kD⟩);have z1:w3.cell? ⟨W.heap.size,1,none⟩=some (.string ⟨nm.toArray⟩):=aa aG l7.o;have z4:w3.cell? ⟨W.heap.size+1,0,none⟩=some (.map (some mb)):=aa aG HX4.o;have y3:w4.cell? ⟨W.heap.size,3,none⟩=some (.slice ub m0 ue):=kD.cell qE.o.2.1 (aa aG ie.o);clear x0 x1 x2 x3 x4 aG hbd aR xh yh KT kD zs;go_wp2;clear y3 z1 z4 cD hr;go_loopw [36] (fun i wr=>∃k:Nat,k<=m0/\i=.int .i64 k/\J (pre ++ (A ++ bn bs' (ss.take k))) wr/\Kp M W0 wr/\(∃n',n'<=n+1+2 * nodesFs (ss.take k)/\BoundW wr mb n' bs')/\Kp (fun b=>M b\/b=mb) W1 wr) (fun i _=>m0 - (intOf i).toNat)
  case atStart=>exact ⟨0,aX _,rfl,by simpa[bn] using H4.o.1,H4.o.2.1,⟨n+1,by omega,H4.o.2.2.1⟩,H4.o.2.2.2⟩
  case round=>
   exact qix):G:=h
theorem qkD(h:G:=by
 have HE:Hd (BX=false):=ab (hM.trans (by simp[dy]));exact qdL):G:=h
theorem qfx(h:G:=by
 rcases cG.1 hp with rfl | hp
 ·omega
 ·have:=ih.2.2 p hp;omega):G:=h
theorem qel(h:G:=by
 unfold Oper.wpIn;refine ⟨?_,?_⟩
 ·simp[Oper.about,ho,resolve,Target.leads,Sem.run_pure]
 first
 |clear qlR
  ·rw[Oper.semAt_plain F _ _ (by rw[ho];intro c Zl;cases Zl)];have qAX:=();exact qcb
 |·rw[Oper.semAt_plain F _ _ (by rw[ho];intro c Zl;cases Zl)];exact qcb):G:=h
theorem qeE(h:G:=by
 go_ret;exact ⟨rfl,HB.o.trans (bD.o.mono (by simp;omega))⟩):G:=h
theorem qin(h:G:=by
 have ck:=ag Yy 0;have ⟨P0,P1,P2,P3,P4,P5,P6,P7⟩:=D6 zr;have P8:=ag zr 8;have uP:=ab S6
 first
 |clear quS;have HG:=cq g1 g2 g3 g4;have NW:=ab Ao;have qAY:=();exact qcW
 |have HG:=bx g1 g2 g3;have NW:=ab Ao;exact qcW):G:=h
theorem qdG(h:G:=by
 refine (wpIn_wide (n:=3)).1 ?_;refine lF S 9 dN fun jE bV=>?_
 first
 |clear qAZ;exact qhc
 |clear qwM;exact qkb
 |refine bw 0 48 (.slice la l0 lc) rfl bV fun cB=>?_
  simp only[af];refine bw 1 49 (.slice la l0 lc) rfl cB fun fB=>?_;simp only[af];refine bw 2 50 (.int .i64 (l0:Int)) rfl fB fun gq=>?_;simp only[af];refine bw 3 51 (.slice la l0 lc) rfl gq fun ir=>?_;simp only[af];refine bw 4 52 (.int .i64 (l0:Int)) rfl ir fun jj=>?_;simp only[af];refine c_ 5 53 (.slice la l0 l0) rfl (fun V hX=>by rcases HSh.o with ⟨rfl,rfl,rfl⟩ | ⟨b,off,rfl⟩ <;> go_simp) jj fun jz=>?_;simp only[af];refine bw 6 54 (.pointer (some ⟨w.heap.size+1,1,none⟩)) rfl jz fun lM=>?_;simp only[af];refine c_ 7 55 (.string ⟨n.toArray⟩) rfl (fun V hX=>by have g0:=f0 V hX;go_simp) lM fun qh=>?_;simp only[af];refine b_ 8 rfl fun K hK=>?_;go_simp;have m7:Below X4.heap.size X4 (X4.alloc (.cells #[.string ⟨n.toArray⟩] 9)).drew:=((ai _ X4).alloc (aC _) _).drew;have qxs:=();exact qaM):G:=h
theorem qg4(h:G:=by
 refine bw 10 76 (.pointer (some ⟨b2,off2+j * 4,none⟩)) rfl bV fun cB=>?_;simp only[af]
 first
 |clear qrZ;refine c_ 11 77 (.string ⟨ny.toArray⟩) rfl (fun V hX=>by obtain ⟨g0,_⟩:=f2 V hX;go_simp) bV fun cB=>?_
  simp only[af];refine bw 12 78 (.bool true) rfl bV fun cB=>?_;simp only[af];refine bw 13 79 (.bool true) rfl bV fun cB=>?_;simp only[af];refine MJ 14 80 rfl bV fun cB=>?_;simp only[af];refine MJ 15 81 rfl bV fun cB=>?_;simp only[af];refine MJ 16 82 rfl bV fun cB=>?_;simp only[af];refine MJ 17 83 rfl bV fun cB=>?_;simp only[af];refine MJ 18 84 rfl bV fun cB=>?_;simp only[af];refine MJ 19 85 rfl bV fun cB=>?_;simp only[af];refine MJ 20 86 rfl bV fun cB=>?_;simp only[af];refine MJ 21 87 rfl bV fun cB=>?_;simp only[af];refine MJ 22 88 rfl bV fun cB=>?_;simp only[af];refine MJ 23 89 rfl bV fun cB=>?_;simp only[af];refine MJ 24 90 rfl bV fun cB=>?_;simp only[af];refine MJ 25 91 rfl bV fun cB=>?_;simp only[af];refine MJ 26 92 rfl bV fun cB=>?_;simp only[af];refine MJ 27 93 rfl bV fun cB=>?_;simp only[af];refine nnA 28 94 rfl bV fun cB=>?_;simp only[af];refine MJ 29 95 rfl bV fun cB=>?_;simp only[af];refine bw 30 96 (.bool true) rfl bV fun cB=>?_;simp only[af];refine ku ?_;go_wp2;go_ret;exact ⟨by rw[HE3.o];rfl,HE.o.1.tr HB.o.drew⟩
 |refine c_ 11 77 (.string ⟨nx.toArray⟩) rfl (fun V hX=>by obtain ⟨g0,_⟩:=f2 V hX;go_simp) bV fun cB=>?_
  simp only[af];refine bw 12 78 (.bool false) rfl bV fun cB=>?_;simp only[af];refine bw 13 79 (.bool false) rfl bV fun cB=>?_;simp only[af];refine bw 14 80 (.pointer (some ⟨w.heap.size,1,none⟩)) rfl bV fun cB=>?_;simp only[af];refine c_ 15 81 (.slice (some ⟨b,off,none⟩) n2 qe) rfl (fun V hX=>by obtain ⟨g0,_⟩:=f0 V hX;go_simp) bV fun cB=>?_;simp only[af];refine bw 16 82 (.int .i64 j) rfl bV fun cB=>?_;simp only[af];refine bw 17 83 (.pointer (some ⟨b,off+j * 4,none⟩)) rfl bV fun cB=>?_;simp only[af];refine bw 18 84 (.pointer (some ⟨b,off+j * 4+1,none⟩)) rfl bV fun cB=>?_;simp only[af];refine c_ 19 85 (.agg #[.bool u.v,.string u.n,.slice u.a u.l u.c]) rfl (fun V hX=>by obtain ⟨_,g0,g1,g2⟩:=f1 V hX;go_simp) bV fun cB=>?_;simp only[af];refine bw 21 87 (.pointer (some ⟨w.heap.size+1,1,none⟩)) rfl bV fun cB=>?_;simp only[af];refine c_ 22 88 (.slice (some ⟨b2,off2,none⟩) n2 re) rfl (fun V hX=>by obtain ⟨_,g0⟩:=f0 V hX;go_simp) bV fun cB=>?_;simp only[af];refine bw 23 89 (.int .i64 j) rfl bV fun cB=>?_;simp only[af];refine bw 24 90 (.pointer (some ⟨b2,off2+j * 4,none⟩)) rfl bV fun cB=>?_;simp only[af];refine bw 25 91 (.pointer (some ⟨b2,off2+j * 4+1,none⟩)) rfl bV fun cB=>?_;simp only[af];refine c_ 26 92 (.agg #[.bool v.v,.string v.n,.slice v.a v.l v.c]) rfl (fun V hX=>by obtain ⟨_,g0,g1,g2⟩:=f2 V hX;go_simp) bV fun cB=>?_;simp only[af];refine twM 20 27 rfl rfl (fun K hK=>?_) (fun K hK=>?_)
  case _=>
   have hb1:Below W2.heap.size W2 (wz.drew.alloc (.cells #[.bool u.v,.string u.n,.slice u.a u.l u.c] 43)):=HB.o.drew.alloc HB.o.size _;have bZ:Below W2.heap.size W2 ((wz.drew.alloc (.cells #[.bool u.v,.string u.n,.slice u.a u.l u.c] 43)).alloc (.cells #[.bool v.v,.string v.n,.slice v.a v.l v.c] 43)):=hb1.alloc hb1.size _;have qA0:=();exact qlg
  have hb1:Below W2.heap.size W2 (wz.drew.alloc (.cells #[.bool v.v,.string v.n,.slice v.a v.l v.c] 43)):=HB.o.drew.alloc HB.o.size _;have bZ:Below W2.heap.size W2 ((wz.drew.alloc (.cells #[.bool v.v,.string v.n,.slice v.a v.l v.c] 43)).alloc (.cells #[.bool u.v,.string u.n,.slice u.a u.l u.c] 43)):=hb1.alloc hb1.size _;exact qlg):G:=h
theorem qkF(h:G:=by
 rw[<-kV];have uB:=cM kV;have x8:=bS kV;have x58:=bN uB J9.o.2.1;have x78:=bN uB J9.o.2.2.1
 first
 |clear qzE;obtain ⟨e0,e1,e2,e3,_,_,_,_⟩:=dc x58;obtain ⟨f0,f1,f2,f3,_,_,_,_⟩:=dc x78;have CF:=OR f im dm Am.o.1.fit H5.o.2.2.2.fit (Pu f (by have:=HN0.o;have:=qE.o;omega)) (fun b=>(¬M b/\b≠W1.heap.size)/\b<w7.heap.size) W8 ⟨GO,GP,GQ,GR,GS,GT,GU,GV⟩ ⟨p0,p1,p2,p3,p4,p5,p6,p7⟩ (V7.o.move (fun b hb hlt=>⟨⟨hb,hlt⟩,uB.block b hlt⟩)) (J9.o.2.2.2.move (fun b hb hlt=>⟨⟨hb,hlt⟩,uB.block b hlt⟩));have ⟨FS,hFS⟩:=aj (gD f im dm);rw[hg,<-hFS]at V8;rw[<-hFS]at CF;simp only[FQ.val]at CF;have DX:=ab CF;have H8:=cq uB x8 x58 x78;have ⟨HG0,HFS⟩:=aS hg hFS;clear CF kV uB x8 x58 x78 hg hFS
  cases FS with
  | none=>
   have HE:=ab (show R=(k,70) from V8);clear V8;go_wp2_with (go_at_call 98;refine DX.o.mono ?_;rintro e w9 ⟨⟨⟨R7,R8,R9,R_,Sa⟩,rfl,ht⟩,mz⟩;have x9:=bN mz H8.o.2.1;obtain ⟨s0,s1,s2,v0,v1,v2⟩:=fV x9;have H9:=aA mz x9;clear ht mz x9;simp only[TQ.val,Option.isSome]);obtain ⟨oA,An,GF,RJ,_⟩:=sJ H9.o.2 (.bool R7) (.string R8) (.slice R9 R_ Sa);rw[<-An];have zdQ:=ab (Mn (M:=N2 mF mT) (Kp.below ((H2.o.2.1.tr (J9.o.1.tr H8.o.1)).tr H9.o.1)) RJ (by have:=H2.o.2.1.size;have:=J9.o.1.size;omega));clear An GF RJ;go_ret;exact StepPost.bad HE.o (by decide) zdQ.o
  | some t=>
   have K4:goodT t:=L2 H5.o.2.2.2.ok H5.o.2.2.2.nodes HFS.o.symm;have HE8:=ab (show R=if (nodesF f+n0 * (nodesT t - 1) != nodesF im)=true then ({ k with ts:=g_ y t k.ts },70) else if cg [] (e9 dm t f) im=true then ({ k with ts:=g_ y t k.ts },0) else ({ k with ts:=g_ y t k.ts },70) from V8);have HGt:=ab K4;clear V8 K4;go_upto_region 17 with (go_at_call 98;refine DX.o.mono ?_;rintro e w9 ⟨⟨⟨R7,R8,R9,R_,Sa⟩,rfl,ht⟩,mz⟩;have x9:=bN mz H8.o.2.1;obtain ⟨s0,s1,s2,v0,v1,v2⟩:=fV x9;have H9:=bx mz x9 (ht t rfl);clear ht mz x9;simp only[TQ.val,Option.isSome]);clear s0 s1 s2 v0 v1 v2 e0 e1 e2 e3 f0 f1 f2 f3;obtain ⟨oA,An,GF,RJ,y0,y1,y2⟩:=sJ H9.o.2.1 (.bool R7) (.string R8) (.slice R9 R_ Sa);rw[<-An];have zdR:w7.heap.size<W8.heap.size:=(bA H8.o.2.1);have _E:Below w7.heap.size w7 oA:=Below.kp1 (H8.o.1.tr H9.o.1) RJ (aC _);have Yt:Below oA.heap.size oA oA.drew:=(ai _ _).drew;have _F:TermV (fun b=>¬M b/\b≠W1.heap.size) oA (TQ.val ⟨R7,R8,R9,R_,Sa⟩) t:=H9.o.2.2.move (fun b hb hlt=>⟨hb.2.1,RJ.same b hlt (by have:=hb.2.2;omega)⟩);have FP:=Yj.o.later _E;obtain ⟨EF,cD,zO,CW,CX⟩:=(FP.later Yt).storeT (fun h=>h.1 HG.o.2.1) (by have:=HB.o.2.1;omega) (x:=y) (by omega) (_F.later Yt) HGt.o (l':=g_ y t k.ts) (fun z=>BU HG0.o z);have k0:oA.cell? ⟨kb,1,none⟩=some (.map (some mT)):=ag FP.box 1;have ⟨k1,y3,y4,y5⟩:=lH Yt k0 y0 y1 y2;have FR:Below w7.heap.size w7 oA.drew:=_E.tr Yt;have dD:∀ b,¬M b->b≠mT:=fun b hb e=>hb (e ▸ HG.o.2.1);have zw:∀ b o,w7.heap[b]?=some o->b≠mT->EF.heap[b]?=some o:=fun b o h jb=>(CW.same b (by have:=(bA h);have:=FR.size;omega) jb).trans ((FR.block b (bA h)).trans h);have zdS:=zg.o.2.2.1;have x5':=zw _ _ J9.o.2.1 (by omega);have x7':=zw _ _ J9.o.2.2.1 (by have:=HT7.o;have:=H4.o.2.size;have:=zg.o.2.2.2.1;omega);have xt':=(CW.same _ (by have:=(bA GF);have:=Yt.size;omega) (by have:=J9.o.1.size;have:=zg.o.2.2.2.1;omega)).trans (bN Yt GF);have Ii:Kp (N2 mF mT) W EF:=(Kp.below (H2.o.2.1.tr (J9.o.1.tr FR))).trans (CW.mono (fun b _ h=>.inr h));have nD:=ab (UR (an3 x5' x7' xt') Ii HGt.o zO ((V7.o.later FR).move (fun b hb hlt=>⟨hb,CW.same b hlt (dD b hb.1)⟩)) ((J9.o.2.2.2.later FR).move (fun b hb hlt=>⟨hb,CW.same b hlt (dD b hb.1)⟩)) ((_F.later Yt).move (fun b hb hlt=>⟨hb,CW.same b hlt (dD b hb.1)⟩)));unfold TQ.val at cD;clear zdR _E Yt _F FP zO CW CX FR dD zw zdS x5' x7' xt' Ii GF RJ An;go_region
   all_goals
    go_upto_region 18 with fail;clear k0 k1 y0 y1 y2 y3 y4 y5 cD;have ⟨nt,pL⟩:=aj (nodesT t);have ⟨nf,vO⟩:=aj (nodesF f);have ⟨ni,V9⟩:=aj (nodesF im);have ⟨m2,iI⟩:=aj (nt - 1);have ⟨m1,sO⟩:=aj (n0 * m2);have ⟨m3,UI⟩:=aj (nf+m1);have Sb:1<=nt:=by rw[pL];exact jY t
    have zu:nt<=1000:=by rw[pL];exact nD.o.2.2.1.2
    have hp3:nf<=400:=by rw[vO];exact Am.o.1.nodes
    have hp4:ni<=400:=by rw[V9];exact H5.o.2.2.2.nodes
    have qD:m1<=400 * 1000:=by rw[sO];exact Nat.mul_le_mul qE.o.1 (by omega)
    have s8:IntKind.i64.wrap ((nt:Int) - 1)=(m2:Int):=by rw[gU _ (by omega)];omega
    have Qu:IntKind.i64.wrap ((n0:Int) * (m2:Int))=(m1:Int):=by rw[show (n0:Int) * (m2:Int)=(m1:Int) by rw[sO];simp];exact gU _ (by omega)
    have _n:IntKind.i64.wrap ((nf:Int)+(m1:Int))=(m3:Int):=by rw[gU _ (by omega)];omega
    have _G:=fun (x:Later EF)=>lq f Am.o.1.fit _ x.w ⟨GO,GP,GQ,GR,GS,GT,GU,GV⟩ (nD.o.2.2.2.2.1.later x.below);have _H:=fun (x:Later EF)=>lq im H5.o.2.2.2.fit _ x.w ⟨p0,p1,p2,p3,p4,p5,p6,p7⟩ (nD.o.2.2.2.2.2.1.later x.below);have _I:=fun (x:Later EF)=>lC t nD.o.2.2.1.fit (by have:=nD.o.2.2.1.2;omega) _ x.w ⟨R7,R8,R9,R_,Sa⟩ (nD.o.2.2.2.2.2.2.later x.below);simp only[FQ.val,TQ.val,<-vO,<-V9,<-pL]at _G _H _I;have ⟨HCf,HCi,HCt⟩:=cE _G _H _I;have _J:=HE8.o;rw[<-vO,<-V9,<-pL,<-iI,<-sO,<-UI]at _J;have HE1:=ab _J;obtain ⟨f0,f1,f2,f3,_,_,_,_⟩:=dc nD.o.1.1;obtain ⟨i0,i1,i2,i3,_,_,_,_⟩:=dc nD.o.1.2.1;obtain ⟨s0,s1,s2,_,_,_⟩:=fV nD.o.1.2.2;have q0:=fun x:Later EF=>x.get f0;have q1:=fun x:Later EF=>x.get f1;have q2:=fun x:Later EF=>x.get f2;have q3:=fun x:Later EF=>x.get f3;have q4:=fun x:Later EF=>x.get i0;have q5:=fun x:Later EF=>x.get i1;have q6:=fun x:Later EF=>x.get i2;have q7:=fun x:Later EF=>x.get i3;have q8:=fun x:Later EF=>x.get s0;have q9:=fun x:Later EF=>x.get s1;have q10:=fun x:Later EF=>x.get s2;clear _G _H _I _J pL vO V9 iI sO UI Sb zu hp3 hp4 qD f0 f1 f2 f3 i0 i1 i2 i3 s0 s1 s2;refine aI (by kernel_rfl) (by kernel_rfl) ?_
    iterate 2 (go_big_quiet_step ((go_at_call 99;exact bU (HCf.o _))))
    iterate 7 (go_big_quiet_step ((go_at_call 100;exact bU (HCt.o _))))
    iterate 2 (go_big_quiet_step ((go_at_call 99;exact bU (HCi.o _))))
    refine wpQuiet_nil ?_;rintro _ ⟨x',rfl⟩;have ⟨W9,sK⟩:=aj x'.w;have mz:Below EF.heap.size EF W9:=by rw[sK];exact x'.below
    rw[<-sK];clear sK q0 q1 q2 q3 q4 q5 q6 q7 q8 q9 q10 s8 Qu _n x';have CY:Kp (N2 mF mT) W W9:=nD.o.2.1.trans (Kp.below mz);have x27:=bN mz nD.o.1.1;have _K:=bN mz nD.o.1.2.1;have _L:=bN mz nD.o.1.2.2;have Mr:=HE1.o
    by_cases jb:m3=ni
    ·rw[ak (by simp[jb])]at Mr;exact qfT
    ·rw[aw (by simp[jb])]at Mr;exact qfU
 |rw[hg]at V8;have HE8:=ab (show R=if (nodesF f+n0 * (nodesT t - 1) != nodesF im)=true then ({ k with ts:=k.ts },70) else if cg [] (e9 dm t f) im=true then ({ k with ts:=k.ts },0) else ({ k with ts:=k.ts },70) from V8);have nD:=ab (UR (an3 x58 x78 x8) (Kp.below (M:=N2 mF mT) (H2.o.2.1.tr (J9.o.1.tr uB))) Zz (Yj.o.later uB) (V7.o.later uB) (J9.o.2.2.2.later uB) (qF.later uB));clear kV uB x8 x58 x78 V8 Zz qF e0 e1 e2 e3 z0 z1 z2 z3 f0 f1 f2 f3 hg;have ⟨nt,pL⟩:=aj (nodesT t);have ⟨nf,vO⟩:=aj (nodesF f);have ⟨ni,V9⟩:=aj (nodesF im);have ⟨m2,iI⟩:=aj (nt - 1);have ⟨m1,sO⟩:=aj (n0 * m2);have ⟨m3,UI⟩:=aj (nf+m1);have Sb:1<=nt:=by rw[pL];exact jY t
  have zu:nt<=1000:=by rw[pL];exact nD.o.2.2.1.2
  have hp3:nf<=400:=by rw[vO];exact Am.o.1.nodes
  have hp4:ni<=400:=by rw[V9];exact H5.o.2.2.2.nodes
  have qD:m1<=400 * 1000:=by rw[sO];exact Nat.mul_le_mul qE.o.1 (by omega)
  have qA1:=();exact qlh):G:=h
theorem qli(h:G:=by
 have h0:=hc j hj 0 (by omega);have h1:=hc j hj 1 (by omega);have h2:=hc j hj 2 (by omega)
 first
 |clear qA2;rw[hx]at h0 h1 h2;exact ⟨x0,x1,x2,by simp only[hx],h0,h1,h2⟩
 |have h3:=hc j hj 3 (by omega);rw[hx]at h0 h1 h2 h3;exact ⟨x0,x1,x2,x3,by simp only[hx],h0,h1,h2,h3⟩):G:=h
theorem qfy(h:G:=by
 by_cases h:j<l.length
 ·obtain ⟨a,h1,h2,_⟩:=hP j h;exact ⟨a,fun _=>⟨h1,h2⟩⟩
 first
 |clear qn3
  ·exact ⟨⟨0,ByteArray.empty,none,0,0,none,0,0⟩,fun h'=>absurd h' h⟩
 |·exact ⟨⟨false,ByteArray.empty,none,0,0⟩,fun h'=>absurd h' h⟩):G:=h
theorem qeB(h:G:=by
 go_enter Tryz.func232,Tryz.ntmps232;go_wp2
 first
 |clear qmt;have xq:Below (W.alloc (.cells #[.bool false,.string ⟨#[]⟩,.slice none 0 0] 43)).heap.size (W.alloc (.cells #[.bool false,.string ⟨#[]⟩,.slice none 0 0] 43)) ((W.alloc (.cells #[.bool false,.string ⟨#[]⟩,.slice none 0 0] 43)).alloc (.cells #[.bool false,.string ⟨#[]⟩,.slice none 0 0] 43)):=cI;exact qeA
 |have xq:Below (W.alloc (.cells #[.bool qv,.string qn,.slice qa ql qc] 43)).heap.size (W.alloc (.cells #[.bool qv,.string qn,.slice qa ql qc] 43)) ((W.alloc (.cells #[.bool qv,.string qn,.slice qa ql qc] 43)).alloc (.cells #[.bool qv,.string qn,.slice qa ql qc] 43)):=cI;have hba:Below W.heap.size W (W.alloc (.cells #[.bool qv,.string qn,.slice qa ql qc] 43)):=cI;have hx:(W.alloc (.cells #[.bool qv,.string qn,.slice qa ql qc] 43)).heap[W.heap.size]?=some (.cells #[.bool qv,.string qn,.slice qa ql qc] 43 (0,0)):=ah rfl;exact qk0):G:=h
theorem qig(h:G:=by
 have g3:W6.cell? ⟨w.heap.size+1,3,none⟩=some (.slice ra k rc):=ag x6 3;have hz:=zg.o
 first
 |clear quJ;have h6:FormV (w.heap.size<=·) W6 (FQ.val ⟨qo,⟨n.toArray⟩,gy,k1,gz,ra,k,rc⟩) (.mk qo n (a.map aK) (s.map bl)):=RowF.form (QT.o.kp1 k6 (by omega)) (HR.o.kp1 k6 (by have:=z9.o;omega)) sF.o.size (by have:=z9.o;have:=sF.o.size;omega);refine bK (v:=FQ.val ⟨qo,⟨n.toArray⟩,gy,k1,gz,ra,k,rc⟩) (by simp[FQ.val,results,Tryz.results66,go_sem,g0,g1,g2,g3]) rfl (⟨⟨qo,⟨n.toArray⟩,gy,k1,gz,ra,k,rc⟩,rfl,h6,Below.kp1 cz.o k6 (by omega)⟩)
 |have h6:FormV (w.heap.size<=·) W6 (FQ.val ⟨so,⟨n.toArray⟩,gy,k1,gz,ra,k,rc⟩) (.mk so n (a.map (da kd.ts c)) (ss.map (cw kd c))):=RowF.form (QT.o.kp1 k6 (by omega)) (HR.o.kp1 k6 (by have:=z9.o;omega)) dY.o.size (by have:=z9.o;have:=dY.o.size;omega);refine bK (v:=FQ.val ⟨so,⟨n.toArray⟩,gy,k1,gz,ra,k,rc⟩) (by simp[FQ.val,results,Tryz.results72,go_sem,g0,g1,g2,g3]) rfl (⟨⟨⟨so,⟨n.toArray⟩,gy,k1,gz,ra,k,rc⟩,rfl,ym.o ▸ h6⟩,Below.kp1 cz.o k6 (by omega)⟩)):G:=h
theorem qlf(h:G:=by
 obtain ⟨k,hk,rfl,row,hF⟩:=hrel;have aq:=hF.below dY.o ((by omega))
 by_cases hlt:k<k0
 first
 |clear qAU
  ·have dy:=cb du.o hlt;exact qai
  ·obtain rfl:k=k0:=by omega
   have qx7:=();exact qbp
 |·have dy:=cb du.o hlt;have qwj:=();exact qai
  ·obtain rfl:k=k0:=by omega
   have qyT:=();exact qbo):G:=h
theorem qjS(h:G:=by
 refine bw 0 3 (.pointer (some ⟨w.heap.size,0,none⟩)) rfl bV fun cB=>?_;simp only[af]
 first
 |clear qyc;refine c_ 1 4 (.int .u8 qo) rfl (fun V hX=>by obtain ⟨g0,g1,g2,g3⟩:=f0 V hX;go_simp) cB fun fB=>?_
  have qAC:=();exact qk7
 |refine c_ 1 4 (.bool qv) rfl (fun V hX=>by obtain ⟨g0,g1,g2⟩:=f0 V hX;go_simp) cB fun fB=>?_
  exact qk7):G:=h
theorem qdD(h:G:=by
 rw[pE hq]
 by_cases h1:(n == x || !(aL [] g).contains x)=true
 first
 |clear qwA
  ·rw[aw h1];refine vC _ _ _ _ (fun z hz=>?_);unfold upd;split
   ·rename_i hzx;rw[ej]at hzx;subst hzx;exfalso;simp only[aL,ao,List.filter_nil,sS,hq,if_true,bn,List.append_nil]at hz;have h3:=ib n [g];simp only[bn,List.append_nil]at h3;rw[h3,List.mem_filter]at hz;simp only[Bool.or_eq_true,Bool.not_eq_true']at h1;rcases h1 with h1 | h1
    ·have:=hz.2;rw[ej]at h1;subst h1;simp at this
    ·have:(aL [] g).contains z=true:=by simpa using hz.1
     rw[h1]at this;cases this
   ·rfl
  ·rw[ak h1];simp only[Bool.or_eq_true,Bool.not_eq_true',not_or,Bool.not_eq_true,Bool.not_eq_false]at h1;have tP:n≠x:=by simpa using h1.1
   by_cases h2:(aE u).contains n=true
   ·rw[aw h2];have hm:=oO (aL [] g ++ aE u) (by rw[cU];have:=fp g [];have:=oP u;omega);generalize dL (aL [] g ++ aE u)=m at hm;rw[List.mem_append,not_or]at hm;have qzF:=();exact qba
   ·rw[ak h2];simp only[jF,hq,if_true,rg,em];rw[nS k g x u _ _ hw.2 hq1.2 (by omega) (by omega),IX (by simpa using h2),vI _ tP]
 |clear qwB
  ·rw[aw h1];exact E3
  ·rw[ak h1]
   by_cases h2:(aE u).contains n=true
   ·rw[aw h2];have hm:(dL (aL [] g ++ aE u)).length<=2000000:=pF (by
     have h3:=fp g [];have h4:=oP u;simp only[cU];omega)
    generalize hm':dL (aL [] g ++ aE u)=m;rw[hm']at hm;have qzG:=();exact qba
   ·rw[ak h2];have b1:=pG k g x u hw.2 hq1.2 (by omega) (by simp[nodesTs]at hs;omega) hf.2.2.2 hu;simp only[li,nmFs,ae,br,eL,List.map_nil,nmTs];exact ⟨hf.1,hf.2.1,trivial,b1,trivial⟩
 |first
  |clear qwy
   ·rw[aw h1];exact ⟨nJ,iN,rfl,rfl⟩
   ·rw[ak h1]
    by_cases h2:(aE (aP y)).contains n=true
    ·rw[aw h2];generalize dL (aL [] g ++ aE (aP y))=m;have qzH:=();exact qba
    ·rw[ak h2];obtain ⟨b1,b2,b3,b4⟩:=gL k g x y hw.2 hq1.2 (by omega);simp only[gS,eR,qone,fF,depthF,aV,nodesF,nodesFs,eL,List.map_nil,dO,b1,b2,b3,b4,hq];simp
  |clear qwD
   ·rw[aw h1];exact Nat.le_mul_of_pos_right _ hu
   ·rw[ak h1]
    by_cases h2:(aE u).contains n=true
    ·rw[aw h2];generalize dL (aL [] g ++ aE u)=m;have qzI:=();exact qba
    ·rw[ak h2];have b1:=we k g x u hw.2 hq1.2 (by omega);exact qkG
  |·rw[aw h1];exact ⟨nJ,iN⟩
   ·rw[ak h1]
    by_cases h2:(aE u).contains n=true
    ·rw[aw h2];generalize dL (aL [] g ++ aE u)=m;exact qba
    ·rw[ak h2];obtain ⟨b1,b2⟩:=pR hu k g x hw.2 hq1.2 (by omega);simp[gS,eR,qone,fF,eL,dO,b1,b2]):G:=h
theorem qjm(h:G:=by
 simp only[TQ.val,cr,Array.mk.injEq,bP,and_true,Value.bool.injEq,Value.string.injEq]at h1
 first
 |clear qwU;exact ⟨h1.1.trans h2,h1.2.1.trans h3⟩
 |obtain ⟨rfl,rfl,rfl⟩:=h1
  first
  |clear qA3;have qot:=();exact qab
  |clear qpj;obtain rfl:=iu.len;have kz:=lN.name;have ⟨W5,e_⟩:=aj (wr.alloc (.cells #[.bool xv,.string ⟨n.toArray⟩,.slice xa a'.length xc] 43));have bh:=cM e_;have x5:=bS e_;have T4:=de.same (bh.block m de.lt);have ro:=de.lt;have nE:Kp (fun b=>b=m) w W5:=hk.trans (Kp.below bh);have ⟨P,hP⟩:=aj (pre ++ j5 (l.take j));have LS:(UQ (.mk xv n a')).length<=nodesT (.mk xv n a'):=T3 _;have hPl:P.length+nodesT (.mk xv n a')<=4000000:=by
    have h1:=qY.o;have h2:nodesTs (l.take j)+nodesT (.mk xv n a')<=nodesTs l:=by
     have h3:=gN (a:=l) (j:=j+1);have h4:nodesTs (l.take (j+1))=nodesTs (l.take j)+nodesT (.mk xv n a'):=by rw[kB gZ,<-hte]
     omega
    rw[hP,cU];omega
   simp only[nodesT]at hPl pL;have CC:=ab (fun (X:World) (Q:List Str) (hQ:SetW X m Q.length Q) (hX:Kp (fun b=>b=m) w X) (hl:Q.length+nodesTs a'<=4000000)=>fd.o (nodesTs a') (by have:=HN.o.2;omega) a' (aC _) lN.args _ Q m X xa xc hQ (iu.move (fun b hb hlt=>⟨hb,hX.same b hlt (ko.o b hb)⟩)) ko.o hl);rw[<-hP]at de T4;have ⟨HP,pH⟩:=aS hP e_;have HB:=cq bh T4 nE x5;have HM:=ab (iV n W5 (by omega));have ⟨HT,HMl,Fh⟩:=cE gO ro hPl;have z7:(j:Int)<(n1:Int):=by omega
   clear hx iu lN pL gO nO vR e_ bh x5 T4 ro nE hP LS hPl de hk hte c0 c1 c2;obtain ⟨e0,e1,e2,_⟩:=fV HB.o.2.2.2
   cases xv with
   | false=>
    have C:=ab (CC.o W5 P HB.o.2.1 HB.o.2.2.1 (by have:=Fh.o;omega));go_wp2_with (first | rw[<-pH.o] | (go_at_call 132;refine C.o.mono ?_;rintro e w6 ⟨rfl,sd,n8⟩;have H6:=aA sd n8;clear sd n8));go_roundw
    case rel=>exact ⟨j+1,by omega,by go_num,by have:=H6.o.1;rw[HT.o];simpa[UQ,HP.o] using this,HB.o.2.2.1.trans H6.o.2⟩
    case measure=>simp[intOf];omega
   | true=>
    cases l_:dl n with
    | false=>
     rw[l_]at HM;go_wp2_with (first | rw[<-pH.o] | (go_at_call 119;refine HM.o.mono ?_;rintro e w3 ⟨rfl,aG⟩;have g2:=aa aG e2;have jr:=HB.o.2.2.1.trans (Kp.below aG);have C:=ab (CC.o w3 P (HB.o.2.1.same (aG.block m HB.o.2.1.lt)) jr (by have:=Fh.o;omega));have H3:=ab jr;clear aG jr) | (go_at_call 132;refine C.o.mono ?_;rintro e w6 ⟨rfl,sd,n8⟩;have H6:=aA sd n8;clear sd n8));go_roundw
     case rel=>exact ⟨j+1,by omega,by go_num,by have:=H6.o.1;rw[HT.o];simpa[UQ,l_,HP.o] using this,H3.o.trans H6.o.2⟩
     case measure=>simp[intOf];omega
    | true=>
     have qwx:=();exact qgH
  |obtain rfl:=iu.len;have kz:=lN.name;have Io:=lN.args.len;have ⟨n1,eh⟩:=aj a.length
   first
   |clear qyu;rw[<-eh]at hq iu;have qvY:=();exact qdy
   |clear qyw;rw[<-eh]at hq iu Io;have qv0:=();exact qdy
   |rw[<-eh]at hq iu Io;exact qdy):G:=h
theorem qhq(h:G:=by
 clear aq ce;go_wp2;go_ret;exact ⟨by rw[sg.o];rfl,HK.o⟩):G:=h
theorem qek(h:G:=by
 go_wp2
 all_goals (go_ret;refine ⟨az (by simp_all),cI⟩)):G:=h
theorem qhB(h:G:=by
 have As:=ab (show J (pre ++ []) W1/\Kp M W W1 from ⟨by simpa using KP,Kp.below jf⟩)
 first
 |clear qtk;have ⟨nK,HJ,HY⟩:=cE dq hJ hY;clear hq bB ar ih dQ hj jf KP hJ hM hY dq mI bY;gi_wp2;rw[<-jt.o];gi_loopw [19] (fun i wr=>∃k:Nat,k<=m0/\i=.int .i64 k/\J (pre ++ ([] ++ ao (a.take k))) wr/\Kp M W wr) (fun i _=>m0 - (intOf i).toNat)
  case atStart=>exact ⟨0,aX _,rfl,by simpa[ao] using As.o.1,As.o.2⟩
  case round=>
   have qyF:=();exact qau
 |clear hq bB ar ih dQ hj jf KP hJ hM hY dq mI bY;go_wp2;rw[<-jt.o];go_loopw [19] (fun i wr=>∃k:Nat,k<=m0/\i=.int .i64 k/\J (pre ++ ([] ++ ao (a.take k))) wr/\Kp M W wr) (fun i _=>m0 - (intOf i).toNat)
  case atStart=>exact ⟨0,aX _,rfl,by simpa[ao] using As.o.1,As.o.2⟩
  case round=>
   have qyI:=();exact qau):G:=h
theorem qhS(h:G:=by
 have NE:=ab (show R=cJ ps.reverse xs ys by rw[ht,gT (by rw[du.o];exact aC _)];simp[cf])
 first
 |clear qt3;have qpY:=();exact qaV
 |have qp3:=();exact qaV):G:=h
theorem qgj(h:G:=by
 have c1:wr.cell? ⟨w.heap.size+1+1+1,1,none⟩=some (.string ⟨n.toArray⟩):=ag x2 1
 first
 |clear qqp;have c2:wr.cell? ⟨w.heap.size+1+1+1,2,none⟩=some (.slice gy k1 gz):=ag x2 2;have c3:wr.cell? ⟨w.heap.size+1+1+1,3,none⟩=some (.slice ra k rc):=ag x2 3;obtain ⟨e0,e1,e2,e3,z0,z1,z2,z3⟩:=dc x1;have Ik:=aA x1 aq;clear hF x1 x2 xp BG j_ aq;go_wp2;obtain ⟨W6,cQ,x6,k6,g0,g1,g2,g3⟩:=yf Ik.o.1 (.int .u8 qo) (.string ⟨n.toArray⟩) (.slice gy k1 gz) (.slice ra k rc);rw[<-cQ];have hr6:=sI.o.kp1 k6 (by have:=dY.o.2;have:=Rr.o.2;omega);have ha6:=HRA.o.kp1 k6 (by have:=dY.o.2;omega);have h6:FormV (w.heap.size<=·) W6 (FQ.val ⟨qo,⟨n.toArray⟩,gy,k1,gz,ra,k,rc⟩) (.mk qo n Ve us):=RowF.form ha6 hr6 (by have:=dY.o.2;omega) (by have:=dY.o.2;have:=Rr.o.2;omega);refine bK (v:=.tuple #[FQ.val ⟨qo,⟨n.toArray⟩,gy,k1,gz,ra,k,rc⟩,.bool true]) (by simp[FQ.val,results,Tryz.results91,go_sem,g0,g1,g2,g3]) rfl ⟨⟨⟨qo,⟨n.toArray⟩,gy,k1,gz,ra,k,rc⟩,by rw[HE.o];rfl,fun u hu=>by rw[HE.o]at hu;cases hu;exact h6⟩,Below.kp1 Ik.o.2 k6 (by omega)⟩
 |have c2:wr.cell? ⟨w.heap.size+1+1+1,2,none⟩=some (.slice ra k rc):=ag x2 2;obtain ⟨e0,e1,e2,z0,z1,z2⟩:=fV x1;have HX:=aA x1 aq;clear hF x1 x2 BG j_ aq;go_wp2;obtain ⟨W6,cQ,x6,k6,g0,g1,g2⟩:=sJ HX.o.1 (.bool false) (.string ⟨n.toArray⟩) (.slice ra k rc);rw[<-cQ];have hr6:=sI.o.kp1 k6 (by have:=Rr.o.2;omega);have h6:TermV (w.heap.size<=·) W6 (TQ.val ⟨false,⟨n.toArray⟩,ra,k,rc⟩) (.mk false n us):=RowT.term (v:=false) (n:=n) (l:=k) hr6 (by have:=Rr.o.2;omega);refine bK (v:=.tuple #[TQ.val ⟨false,⟨n.toArray⟩,ra,k,rc⟩,.bool true]) (by simp[TQ.val,results,Tryz.results94,go_sem,g0,g1,g2]) rfl ⟨⟨⟨false,⟨n.toArray⟩,ra,k,rc⟩,by rw[HE.o];rfl,fun u hu=>by rw[HE.o]at hu;cases hu;exact h6⟩,Below.kp1 HX.o.2 k6 (by omega)⟩):G:=h
theorem qjX(h:G:=by
 have dN:S wr.drew:=by rw[hS];exact (ai _ _).drew
 have ⟨cR,fh,dU,cz⟩:=eD hS hF ce aq
 first
 |clear qyi;have HC:=ab (fun (V:World) (h:Below wr.heap.size wr V)=>oU k.fs[j].2 (HP.o.2.2.1 _ Jy) ok V ⟨g0,g1,g2,g3,g4,g5,g6,g7⟩ (oy.later h));simp only[FQ.val]at HC;have UJ:=ab (show k.fs.take j ++ [(nm,k.fs[j].2)]=k.fs.take (j+1) by rw[dD,List.take_add_one,io dy];rfl);have z7:(j:Int)<(n1:Int):=by omega
  have qAQ:=();exact qkj
 |have HC:=ab (fun (V:World) (h:Below wr.heap.size wr V)=>pk k.ts[j].2 (HP.o.2.2.2 _ Jy) ok V ⟨g0,g1,g2,g3,g4⟩ (oy.later h));simp only[TQ.val]at HC;have UJ:=ab (show k.ts.take j ++ [(nm,k.ts[j].2)]=k.ts.take (j+1) by rw[dD,List.take_add_one,io dy];rfl);have z7:(j:Int)<(n2:Int):=by omega
  exact qkj):G:=h
theorem qd5(h:G:=by
 obtain ⟨a,cap,vs,hv,hs,h⟩:=h;refine ⟨a,cap,vs,hv,?_,fun j hj=>(h j hj).move hb⟩
 first
 |clear qlr;have qu0:=();exact qaB
 |have qu1:=();exact qaB):G:=h
theorem qfi(h:G:=by
 rcases cG.1 ht with rfl | ht
 ·exact h.1
 ·exact ih h.2 ht):G:=h
theorem qhi(h:G:=by
 repeat (go_big_quiet_step ((go_at_call 160;exact bU (CC.o _))))
 first
 |clear qsL;have qfV:=();exact qad
 |have qfW:=();exact qad):G:=h
theorem qkJ(h:G:=by
 simp only[Int.toNat_zero,Int.toNat_natCast,iM]at h;exact h):G:=h
theorem qkg(h:G:=by
 go_wp2;go_ret;exact ⟨by rw[HE3.o];rfl,HE.o.1.tr cv.o⟩):G:=h
theorem qc6(h:G:=by
 have Yh:=bN xw nW.o;have zt:=il.o.trans (xw.mono il.o.size)
 first
 |clear qte;rw[<-kI (xn,xn) ps]at au;have que:=();exact qdc
 |clear qtg;rw[<-kI (xn,yn) ps]at au;have quf:=();exact qdc
 |rw[<-kI (xn,yn) ps]at au;exact qdc):G:=h
theorem qcW(h:G:=by
 have hfr:∀ f,(Fence.wide.inRound lR).fn f:=fun _=>trivial
 first
 |clear qsd
  by_cases QF:er=0
  first
  |clear qrS
   ·subst QF;gi_wp2_with (gi_at_call 47;refine CallsIn.inRound lR (aH.2 (uP.o.mono ?_));rintro e w4 ⟨kD,rfl,uN⟩;have Hm:=(kD.same _ (bA HG.o.2.2.1) (HG.o.2.2.2.2.2.2.2.1 _ (by omega) (by omega))).trans HG.o.2.2.1;have Dg:=(kD.same _ (bA HG.o.2.2.2.1) (HG.o.2.2.2.2.2.2.2.1 _ (by omega) (by omega))).trans HG.o.2.2.2.1;have Hn:=(kD.same _ (bA HG.o.2.2.2.2.2.2.2.2.1) (HG.o.2.2.2.2.2.2.2.1 _ (by omega) (by omega))).trans HG.o.2.2.2.2.2.2.2.2.1;have y0:=ag Hm 0;have y1:=ac Hm 0;have y2:=ag Dg 0;have y3:=ac Dg 0;have y4:=ag Hn 0;have H4:=fG kD uN Hm Dg Hn;clear kD uN Hm Dg Hn);obtain ⟨nF4,nT4,eh,i_,kD⟩:=H4.o.2.1 (by simp);have qgm:=();exact qbw
   ·have zdU:(er == 0)=false:=by simp[QF]
    gi_wp2_with (gi_at_call 47;refine CallsIn.inRound lR (aH.2 (uP.o.mono ?_));rintro e w4 ⟨kD,rfl,uN⟩;have Hm:=(kD.same _ (bA HG.o.2.2.1) (HG.o.2.2.2.2.2.2.2.1 _ (by omega) (by omega))).trans HG.o.2.2.1;have Dg:=(kD.same _ (bA HG.o.2.2.2.1) (HG.o.2.2.2.2.2.2.2.1 _ (by omega) (by omega))).trans HG.o.2.2.2.1;have Hn:=(kD.same _ (bA HG.o.2.2.2.2.2.2.2.2.1) (HG.o.2.2.2.2.2.2.2.1 _ (by omega) (by omega))).trans HG.o.2.2.2.2.2.2.2.2.1;have y0:=ag Hm 0;have y1:=ac Hm 0;have y2:=ag Dg 0;have y3:=ac Dg 0;have y4:=ag Hn 0;have Eb:Kp (fun b=>b=aB+1) w4 (w4.setCell ⟨aB+1,0,none⟩ (.int .i64 er)):=jm;have δ:=(Eb.same _ (bA Dg) (by omega)).trans Dg;have xi6:=(Eb.same _ (bA Hn) (by omega)).trans Hn;have y5:=ag xi6 0;have y6:=ag δ 0;have y7:=ac δ 0;clear Eb δ xi6;have H4:=fG kD uN Hm Dg Hn;clear kD uN Hm Dg Hn);exact qbw
  |·subst QF;gi_wp2_with (gi_at_call 48;refine CallsIn.inRound lR (aH.2 (uP.o.mono ?_));rintro e w4 ⟨kD,rfl,uN⟩;have Hm:=(kD.same _ (bA HG.o.2.2.1) (HG.o.2.2.2.2.2.2.2.1 _ (by omega) (by omega))).trans HG.o.2.2.1;have Dg:=(kD.same _ (bA HG.o.2.2.2.1) (HG.o.2.2.2.2.2.2.2.1 _ (by omega) (by omega))).trans HG.o.2.2.2.1;have Hn:=(kD.same _ (bA HG.o.2.2.2.2.2.2.2.2.1) (HG.o.2.2.2.2.2.2.2.1 _ (by omega) (by omega))).trans HG.o.2.2.2.2.2.2.2.2.1;have y0:=ag Hm 0;have y1:=ac Hm 0;have y2:=ag Dg 0;have y3:=ac Dg 0;have y4:=ag Hn 0;have H4:=fG kD uN Hm Dg Hn;clear kD uN Hm Dg Hn);obtain ⟨nF4,nT4,eh,i_,kD⟩:=H4.o.2.1 (by simp);have qgm:=();exact qbw
   ·have zdU:(er == 0)=false:=by simp[QF]
    gi_wp2_with (gi_at_call 48;refine CallsIn.inRound lR (aH.2 (uP.o.mono ?_));rintro e w4 ⟨kD,rfl,uN⟩;have Hm:=(kD.same _ (bA HG.o.2.2.1) (HG.o.2.2.2.2.2.2.2.1 _ (by omega) (by omega))).trans HG.o.2.2.1;have Dg:=(kD.same _ (bA HG.o.2.2.2.1) (HG.o.2.2.2.2.2.2.2.1 _ (by omega) (by omega))).trans HG.o.2.2.2.1;have Hn:=(kD.same _ (bA HG.o.2.2.2.2.2.2.2.2.1) (HG.o.2.2.2.2.2.2.2.1 _ (by omega) (by omega))).trans HG.o.2.2.2.2.2.2.2.2.1;have y0:=ag Hm 0;have y1:=ac Hm 0;have y2:=ag Dg 0;have y3:=ac Dg 0;have y4:=ag Hn 0;have Eb:Kp (fun b=>b=aB+1) w4 (w4.setCell ⟨aB+1,0,none⟩ (.int .i64 er)):=jm;have δ:=(Eb.same _ (bA Dg) (by omega)).trans Dg;have xi6:=(Eb.same _ (bA Hn) (by omega)).trans Hn;have y5:=ag xi6 0;have y6:=ag δ 0;have y7:=ac δ 0;clear Eb δ xi6;have H4:=fG kD uN Hm Dg Hn;clear kD uN Hm Dg Hn);exact qbw
 |clear qAY;have HSz:=ab (show bv<=1000000 by rw[Ao,<-Yw.o];exact hsz);clear hsz;clear CS S6 g1 g2 g3 g4 kf zu jB tP Wp fJ zr wJ Yy Ao yH;have ⟨S0,bV⟩:=aj (pre.map Ho).sum;have Ap:((pre ++ [x]).map Ho).sum=S0+bv:=by rw[bV,NW.o];simp
  have hG:=HG.o;rw[<-bV]at hG;have ⟨HGs,zd5⟩:=aS hG Ap;clear bV Ap hG;have qtq:=();exact qag
 |clear CS S6 g1 g2 g3 kf zu jB tP Wp fJ zr wJ Yy Ao yH
  first
  |clear quR
   cases bv with
   | false=>
    gi_wp2_with (gi_at_call 124;refine CallsIn.inRound lR (aH.2 (uP.o.mono ?_));rintro e w4 ⟨rfl,aR⟩;have H4:=ab aR;clear aR);exact qkI
   | true=>
    gi_wp2_with (gi_at_call 124;refine CallsIn.inRound lR (aH.2 (uP.o.mono ?_));rintro e w4 ⟨rfl,aR⟩;have PD:=bN aR HG.o.2.1;have z0:=ag PD 0;have z1:=ac PD 0;have H4:=aA aR PD;clear aR PD);have gG:Kp (fun b=>b=w.heap.size+1+1) w4 (w4.setCell ⟨w.heap.size+1+1,0,none⟩ (.int .i64 6)):=jm;have D1:Kp M1 w4 (w4.setCell ⟨w.heap.size+1+1,0,none⟩ (.int .i64 6)):=gG.mono (fun b _ h=>by subst h;rw[GM.o]);exact qj1
  |cases bv with
   | false=>
    gi_wp2_with (gi_at_call 125;refine CallsIn.inRound lR (aH.2 (uP.o.mono ?_));rintro e w4 ⟨rfl,aR⟩;have H4:=ab aR;clear aR);exact qkI
   | true=>
    gi_wp2_with (gi_at_call 125;refine CallsIn.inRound lR (aH.2 (uP.o.mono ?_));rintro e w4 ⟨rfl,aR⟩;have PD:=bN aR HG.o.2.1;have z0:=ag PD 0;have z1:=ac PD 0;have H4:=aA aR PD;clear aR PD);have gG:Kp (fun b=>b=w.heap.size+1+1) w4 (w4.setCell ⟨w.heap.size+1+1,0,none⟩ (.int .i64 72)):=jm;have D1:Kp M2 w4 (w4.setCell ⟨w.heap.size+1+1,0,none⟩ (.int .i64 72)):=gG.mono (fun b _ h=>by subst h;rw[HM2.o]);exact qj1):G:=h
theorem qkv(h:G:=by
 have vj:(pre ++ ([] ++ ao (a.take k)) ++ aE a[k]) <+: xs:=by
  have qc4:=();exact qbD
 first
 |clear qzq;have CC:=fd.o a[k] (ap bj) M B l J xs (pre ++ ([] ++ ao (a.take k))) _ u D8 (fun t=>(HJ.o t).mono (by simp;omega)) (HY.o.later (bi.trans (Kp.below hB))) (hu.kp (bi.trans (Kp.below hB))) vj (HJ.o _ _ _ (Nw.below hB) hj);have qkw:=();exact qbC
 |have CC:=fd.o a[k] (ap bj) M B J xs (pre ++ ([] ++ ao (a.take k))) _ u D8 (fun t=>(HJ.o t).mono (by simp;omega)) HG.o (hu.kp (bi.trans (Kp.below hB))) vj (HJ.o _ _ _ ((Nw.below hB)) hj);exact qbC):G:=h
theorem qbH(h:G:=by
 have ⟨cR,cv,fh⟩:=cE hS eV gR;clear hS eV gR xb
 first
 |clear qt0;refine lF S 7 dN fun jE bV=>?_
  refine bw 0 70 (.pointer (some ⟨w.heap.size+1+1,2,none⟩)) rfl bV fun S_=>?_;simp only[af];refine c_ 1 71 (.slice ra k1 rc) rfl (fun V hX=>by have g0:=f0 V hX;go_simp) S_ fun Ta=>?_;simp only[af];refine bw 2 72 (.pointer (some ⟨kb,0,none⟩)) rfl Ta fun Mt=>?_;simp only[af];refine c_ 3 73 (.agg #[.bool u.v,.string u.n,.slice u.a u.l u.c]) rfl (fun V hX=>by obtain ⟨g0,g1,g2⟩:=f1 V hX;go_simp) Mt fun Tb=>?_;simp only[af];refine bw 4 74 (vL) rfl Tb fun ω=>?_;have qAw:=();exact qa9
 |clear quZ
  first
  |clear qA4;refine lF S 5 dN fun jE bV=>?_
   refine bw 0 35 (.pointer (some ⟨w.heap.size+1+1,3,none⟩)) rfl bV fun cB=>?_;simp only[af];refine c_ 1 36 (.slice ra k rc) rfl (fun V hX=>by have g0:=f0 V hX;go_simp) cB fun fB=>?_;simp only[af];refine c_ 2 37 (.agg #[.int .u8 u.o,.string u.n,.slice u.a u.l u.c,.slice u.b u.m u.e]) rfl (fun V hX=>by obtain ⟨g0,g1,g2,g3⟩:=f1 V hX;go_simp) fB fun gq=>?_;have qAd:=();exact qaO
  |refine lF S 7 dN fun jE bV=>?_
   refine bw 0 125 (.pointer (some ⟨w.heap.size+1+1,3,none⟩)) rfl bV fun S_=>?_;simp only[af];refine c_ 1 126 (.slice ra k rc) rfl (fun V hX=>by have g0:=f0 V hX;go_simp) S_ fun Ta=>?_;simp only[af];refine bw 2 127 (.pointer (some ⟨kb,0,none⟩)) rfl Ta fun Mt=>?_;simp only[af];refine c_ 3 128 (.agg #[.int .u8 u.o,.string u.n,.slice u.a u.l u.c,.slice u.b u.m u.e]) rfl (fun V hX=>by obtain ⟨g0,g1,g2,g3⟩:=f1 V hX;go_simp) Mt fun Tb=>?_;simp only[af];refine bw 4 129 (vL) rfl Tb fun ω=>?_;have qAy:=();exact qa9
 |clear qx9
  first
  |clear qtH;refine lF S 6 dN fun jE bV=>?_
   refine bw 0 34 (.pointer (some ⟨w3.heap.size+1,2,none⟩)) rfl bV fun cB=>?_;exact qhu
  |clear qtJ;refine lF S 7 dN fun jE bV=>?_
   refine bw 0 51 (.pointer (some ⟨w3.heap.size,2,none⟩)) rfl bV fun cB=>?_;exact qhn
  |first
   |clear qn6;refine lF S 5 dN fun jE bV=>?_
    refine bw 0 18 (.pointer (some ⟨w.heap.size+1+1,2,none⟩)) rfl bV fun cB=>?_;simp only[af];refine c_ 1 19 (.slice ra k rc) rfl (fun V hX=>by have g0:=f0 V hX;go_simp) cB fun fB=>?_;simp only[af];refine c_ 2 20 (.agg #[.bool u.v,.string u.n,.slice u.a u.l u.c]) rfl (fun V hX=>by obtain ⟨g0,g1,g2⟩:=f1 V hX;go_simp) fB fun gq=>?_;have qAf:=();exact qjQ
   |clear qn8;refine lF S 5 dN fun jE bV=>?_
    refine bw 0 29 (.pointer (some ⟨w.heap.size+1+1,2,none⟩)) rfl bV fun cB=>?_;simp only[af];refine c_ 1 30 (.slice ra k rc) rfl (fun V hX=>by have g0:=f0 V hX;go_simp) cB fun fB=>?_;simp only[af];refine c_ 2 31 (.agg #[.bool u.v,.string u.n,.slice u.a u.l u.c]) rfl (fun V hX=>by obtain ⟨g0,g1,g2⟩:=f1 V hX;go_simp) fB fun gq=>?_;exact qjQ
   |clear qyS;refine lF S 6 dN fun jE bV=>?_
    refine bw 0 34 (.pointer (some ⟨w.heap.size+1+1,2,none⟩)) rfl bV fun cB=>?_;exact qhu
   |refine lF S 7 dN fun jE bV=>?_
    refine bw 0 51 (.pointer (some ⟨w.heap.size+1+1,2,none⟩)) rfl bV fun cB=>?_;exact qhn
 |refine lF S 5 dN fun jE bV=>?_
  refine bw 0 20 (.pointer (some ⟨w.heap.size+1+1,2,none⟩)) rfl bV fun cB=>?_;simp only[af];refine c_ 1 21 (.slice gy k1 gz) rfl (fun V hX=>by have g0:=f0 V hX;go_simp) cB fun fB=>?_;simp only[af];refine c_ 2 22 (.agg #[.bool u.v,.string u.n,.slice u.a u.l u.c]) rfl (fun V hX=>by obtain ⟨g0,g1,g2⟩:=f1 V hX;go_simp) fB fun gq=>?_;exact qaO):G:=h
theorem qeW(h:G:=by
 obtain ⟨t,ht⟩:=h2.resolve_left h0;have e3:termOf k.ts y=t:=by unfold termOf;rw[ht]
 first
 |clear qnn;rw[e3];exact pR (kl (oY k2 ht).1) (depthF g) g (bI x) w1 w2 (aC _)
 |have htg:=(AB hk eW _ (su ht)).1;rw[e3];have hn:=uN.nodes;have i_:nodesT t<=1000:=htg.2;refine ⟨?_,(wg uN htg).2⟩;have hlt:nodesF g+nodesT t<10 ^ 19:=by omega
  rw[FJ (kL x) uN.wf uN.qone (nY (iZ k1 hg).1) (kl htg.1) hlt];exact Nat.le_add_right _ _):G:=h
theorem qfd(h:G:=by
 rcases cG.1 h with rfl | h
 ·exact hk.1
 ·exact ih h hk.2):G:=h
theorem qjx(h:G:=by
 go_ret;exact ⟨rfl,HB.o.trans (H1.o.mono HB.o.size)⟩):G:=h
theorem qka(h:G:=by
 go_simp;refine aH.2 ((tb.o _ HA.o.1).mono ?_);rintro _ A ⟨⟨r1,r2,rfl,hp⟩,hA⟩
 first
 |clear qyK;simp only[<-gt.o]at hp ⊢;have bZ:Below W5.heap.size W5 A:=HA.o.1.trans (hA.mono HA.o.1.size);have H7:=cq ((hA.block _ HA.o.2.2.2).trans HA.o.2.1) (Nat.le_of_eq HA.o.2.2.1) bZ (hp.move (W':=A) (ok':=fun b=>W5.heap.size<=b/\b≠EB) (fun b hb hlt=>⟨⟨aN HA.o.1.size hb,fun e=>by have:=HA.o.2.2.2;have:A1.heap.size<=b:=hb;omega⟩,rfl⟩));have qz4:=();exact qbT
 |simp only[<-du.o]at hp ⊢;have bZ:Below W0.heap.size W0 A:=HA.o.1.trans (hA.mono HA.o.1.size);have H7:=cq ((hA.block _ HA.o.2.2.2).trans HA.o.2.1) (Nat.le_of_eq HA.o.2.2.1) bZ (hp.move (W':=A) (ok':=fun b=>W0.heap.size<=b/\b≠EB) (fun b hb hlt=>⟨⟨aN HA.o.1.size hb,fun e=>by have:=HA.o.2.2.2;have:A1.heap.size<=b:=hb;omega⟩,rfl⟩));have qz5:=();exact qbT):G:=h
theorem qit(h:G:=by
 have HC:=ab CC;have HE:=ab (show R=some g from ik);have H5:=aA (l8.tr bh) (bN bh hx)
 first
 |clear qu5;clear CC l8 aq ik hf O4 bh hx e_ hg dD c0 c1 c2 c3 c4 hok;go_wp2_with (rw[<-pH.o];go_at_call 51;refine HC.o.mono ?_;rintro e w6 ⟨⟨p0,p1,p2,p3,p4,p5,p6,p7⟩,rfl,hp,cF⟩;have _j:=bN cF H5.o.2;obtain ⟨e0,e1,e2,e3,y0,y1,y2,y3⟩:=dc _j;have H6:=bx _j hp cF;clear _j hp cF);obtain ⟨W8,kV,x8,k8,g0,g1,g2,g3⟩:=yf H6.o.1 (.int .u8 p0) (.string p1) (.slice p2 p3 p4) (.slice p5 p6 p7);rw[<-kV];refine bK (v:=.tuple #[FQ.val ⟨p0,p1,p2,p3,p4,p5,p6,p7⟩,.bool true]) (by simp[FQ.val,results,Tryz.results16,go_sem,g0,g1,g2,g3]) rfl ⟨⟨⟨p0,p1,p2,p3,p4,p5,p6,p7⟩,by rw[HE.o];rfl,?_⟩,Below.kp1 (H5.o.1.tr H6.o.2.2) k8 (by omega)⟩;exact qkB
 |clear CC l8 aq ik hf O4 bh hx e_ hg dD c0 c1 c2 c3 hok;go_wp2_with (rw[<-pH.o];go_at_call 53;refine HC.o.mono ?_;rintro e w6 ⟨⟨p0,p1,p2,p3,p4⟩,rfl,hp,cF⟩;have _j:=bN cF H5.o.2;obtain ⟨e0,e1,e2,y0,y1,y2⟩:=fV _j;have H6:=bx _j hp cF;clear _j hp cF);obtain ⟨W8,kV,x8,k8,g0,g1,g2⟩:=sJ H6.o.1 (.bool p0) (.string p1) (.slice p2 p3 p4);rw[<-kV];refine bK (v:=.tuple #[TQ.val ⟨p0,p1,p2,p3,p4⟩,.bool true]) (by simp[TQ.val,results,Tryz.results18,go_sem,g0,g1,g2]) rfl ⟨⟨⟨p0,p1,p2,p3,p4⟩,by rw[HE.o];rfl,?_⟩,Below.kp1 (H5.o.1.tr H6.o.2.2) k8 (by omega)⟩;exact qkB):G:=h
theorem qla(h:G:=by
 have x6:=qu (v0:=.bool true) (v1:=.string ⟨n.toArray⟩) (v2:=.slice ra k rc) l7.o
 first
 |clear qAH;have qxe:=();exact qcO
 |have qxf:=();exact qcO):G:=h
theorem qbW(h:G:=by
 rcases hs with hs | ⟨b,off,ha,hok,hcl⟩
 ·exact .inl hs
 first
 |clear qlw
  ·by_cases h0:l=[]
   ·exact .inl h0
   ·have hk:=hb b hok (World.block_lt_of_cell? W _ (hcl 0 (jp.2 h0)).1);refine .inr ⟨b,off,ha,hk.1,fun j hj=>?_⟩;obtain ⟨h0,h1,h2,h3,h4,h5,h6,h7⟩:=hcl j hj;exact ⟨dn hk.2 h0,dn hk.2 h1,dn hk.2 h2,dn hk.2 h3,dn hk.2 h4,dn hk.2 h5,dn hk.2 h6,dn hk.2 h7⟩
 |clear qyY
  first
  |clear qlv
   ·by_cases h0:l=[]
    ·exact .inl h0
    ·have hk:=hb b hok (World.block_lt_of_cell? W _ (hcl 0 (jp.2 h0)).1);refine .inr ⟨b,off,ha,hk.1,fun j hj=>?_⟩;obtain ⟨h0,h1,h2,h3,h4⟩:=hcl j hj;exact ⟨dn hk.2 h0,dn hk.2 h1,dn hk.2 h2,dn hk.2 h3,dn hk.2 h4⟩
  |·by_cases h0:l=[]
    ·exact .inl h0
    ·have hk:=hb b hok (World.block_lt_of_cell? W _ (hcl 0 (jp.2 h0)).1);refine .inr ⟨b,off,ha,hk.1,fun j hj=>?_⟩;obtain ⟨h0,h1,h2,h3⟩:=hcl j hj;exact ⟨dn hk.2 h0,dn hk.2 h1,dn hk.2 h2,dn hk.2 h3⟩
 |first
  |clear qnA
   ·refine .inr ⟨b,off,ha,hok,fun j hj=>?_⟩;obtain ⟨h0,h1,h2,h3,h4⟩:=hcl j hj;exact ⟨hn.cell h0,hn.cell h1,hn.cell h2,hn.cell h3,hn.cell h4⟩
  |·refine .inr ⟨b,off,ha,hok,fun j hj=>?_⟩
    obtain ⟨h0,h1,h2,h3⟩:=hcl j hj;exact ⟨hn.cell h0,hn.cell h1,hn.cell h2,hn.cell h3⟩):G:=h
theorem qeJ(h:G:=by
 have Vv:gF ok ok W w':=fun b hb hlt=>⟨hb,kp.same b hlt (fun e=>hok (e ▸ hb))⟩
 first
 |clear qmK;refine ⟨w',hr,⟨(kp.same _ h.ltb h.ne2).trans h.box,hm.move rfl (fun _ _ _ _ ⟨q,e,hv,hp⟩=>⟨q,e,hv.move Vv,hp⟩),h.ts.move (kp.same _ h.ts.lt (fun e=>h.ne1 e.symm)) (fun _ _ _ _ ⟨q,e,hv,hp⟩=>⟨q,e,hv.move Vv,hp⟩),h.ne1,h.ne2,h.ne3⟩,kp,hs⟩
 |refine ⟨w',hr,⟨(kp.same _ h.ltb h.ne3).trans h.box,h.fs.move (kp.same _ h.fs.lt h.ne1) (fun _ _ _ _ ⟨q,e,hv,hp⟩=>⟨q,e,hv.move Vv,hp⟩),hm.move rfl (fun _ _ _ _ ⟨q,e,hv,hp⟩=>⟨q,e,hv.move Vv,hp⟩),h.ne1,h.ne2,h.ne3⟩,kp,hs⟩):G:=h
theorem qd0(h:G:=by
 obtain ⟨ed,Xu,hb⟩:=Array.any_eq_true'.1 h;simp only[ae,Bool.or_eq_true,ej]at hb
 first
 |clear qlk;have h1:=hc j oj hj hl ed Xu hb.1;exact qk9
 |have h1:=eJ ed Xu hb.1;exact qk9):G:=h
theorem qdX(h:G:=by
 clear hK K;refine b_ 4 rfl fun K hK=>?_;simp only[TQ.val]
 first
 |clear qA5;have qpb:=();exact qal
 |clear qA6;have qo7:=();exact qal
 |have qo9:=();exact qal):G:=h
theorem qdT(h:G:=by
 simp only at c0 c1 c2;have ⟨d0,d1,d2⟩:=jX yr c0 c1 c2
 first
 |clear qy0;have quu:=();exact qaJ
 |clear qy1;have quv:=();exact qaJ
 |have qus:=();exact qaJ):G:=h
theorem qjC(h:G:=by
 gi_wp2_with fail;refine aH.2 (DX.o.mono ?_);rintro e wf ⟨⟨vf,rfl,hvf⟩,xq⟩
 first
 |clear qxI;clear e0 e1 e2 e3;have Ux:=eH (aL [] G);have uM:=fp G [];have CT:=fT (di (aL [] G)) (by have:=ox.o.1;omega) n _ wf vf hvf.strs;rw[my]at CT;have x0:=bN xq QA.o.1;have x1:=bN xq QA.o.2.1;have x2:=bN xq QA.o.2.2.1;have x3:=bN xq QA.o.2.2.2;have n1:=ag x0 1;have I_:=ab CT;have HXf:=cq x0 x1 x2 x3;have HBf:=bx (Rr.o.1.tr xq) (aN Rr.o.2.2 xq.size) (HFq.o.later xq);have UB:=bx hvf Ux uM;clear CT x0 x1 x2 x3 xq hvf Ux uM;gi_wp2_with fail;refine aH.2 (I_.o.mono ?_);rintro e wt ⟨rfl,rfl⟩
  cases zs:(aL [] G).contains n with
  | false=>
   have HRm:=ab (show RS=.mk so n [] [e9 (bI n) (aP n) G] by rw[HRq.o];unfold mW;rw[zs];rfl);have HM:=ab (show n.length<=2000000 by have:=UF.o.2.1;omega);have ⟨w5,Nx⟩:=aj wt;subst Nx;have ⟨Kd,Ja⟩:=aS HXf.o HBf.o;clear zs n1;gi_wp2_with fail;have qA7:=();exact qia
  | true=>
   have ⟨m,hm⟩:=aj (dL (aL [] G));have HRm:=ab (show RS=.mk so m [] [e9 (bI n) (aP m) G] by rw[HRq.o,hm];unfold mW;rw[zs];rfl);have HM:=ab (show m.length<=2000000 by rw[hm];exact pF (by have:=UB.o.2.2;have:=ox.o.1;omega));have Z0:=Fb WB wt (RE.o.next HBf.o.1) (di (aL [] G)) (by have:=UB.o.2;have:=ox.o.1;omega) (fun x hx=>nU G [] ox.o.2.1 x ((dV x _).1 hx)) _ vf UB.o.1.strs;rw[show dL (di (aL [] G))=m from (Fa (by have:=UB.o.2;have:=ox.o.1;omega) (by have:=UB.o.2;have:=ox.o.1;omega) (fun x=>dV x _)).trans hm.symm]at Z0;have Z1:=ab Z0;clear zs n1 hm Z0;gi_wp2_with fail;refine aH.2 (Z1.o.mono ?_);rintro e w8 ⟨rfl,iA⟩;have x0:=bN iA HXf.o.1;have x1:=bN iA HXf.o.2.1;have x2:=bN iA HXf.o.2.2.1;have x3:=bN iA HXf.o.2.2.2;have r1:=ag x2 1;have rz:=ac x2 1;have ⟨w5,Nx⟩:=aj (w8.setCell ⟨w.heap.size+1+1,1,none⟩ (.string ⟨m.toArray⟩));have kq:Kp (fun b=>b=w.heap.size+1+1) w8 w5:=by rw[Nx];exact ⟨rfl,rfl,rfl,by simp,fun c _ hc=>eC _ _ _ _ (by simpa using hc)⟩
   have x2q:w5.heap[w.heap.size+1+1]?=some (.cells #[.int .u8 so,.string ⟨m.toArray⟩,.slice gy 0 gz,.slice none 0 0] 36 (0,0)):=by rw[Nx];exact (bp (F:=1) x2 (.string ⟨m.toArray⟩)).trans rfl
   have Vi:=zg.o;have zec:=Rr.o.2.1;have Kd:=cq ((kq.same _ (bA x0) (by omega)).trans x0) ((kq.same _ (bA x1) (by omega)).trans x1) x2q ((kq.same _ (bA x3) (by have:=z9.o;omega)).trans x3);have Ja:=bx (Below.kp1 (HBf.o.1.tr iA) kq (by omega)) (aN HBf.o.2.1 (aN iA.size kq.size)) ((HBf.o.2.2.later iA).move (fun b hb hlt=>⟨hb,kq.same b hlt (by have h:W1.heap.size<=b:=hb;omega)⟩));have Hwq:=ab Nx;clear x0 x1 x2 x3 kq x2q iA Vi zec Nx;gi_wp2_with fail
   try rw[<-Hwq.o]
   exact qia
 |clear d0 d1 d2 d3 p3;have Jh:=ab (HPB.o.later xq);have ⟨zdn,UB⟩:=aS xq.size hvf;clear xq hvf;have p0:wf.cell? ⟨w.heap.size,0,none⟩=some (.int .u8 qo):=ag Jh.o.b0 0;have p1:wf.cell? ⟨w.heap.size,1,none⟩=some (.string ⟨n.toArray⟩):=ag Jh.o.b0 1;have p2:wf.cell? ⟨w.heap.size,2,none⟩=some (.slice qa 0 qc):=ag Jh.o.b0 2;have p3:wf.cell? ⟨w.heap.size,3,none⟩=some (.slice (some ⟨b,off,none⟩) 1 qe):=ag Jh.o.b0 3
  by_cases hn:n=nx
  ·subst hn;have ym:Hd (RS=.mk qo n [] [g]):=ab (by rw[XV.o,pE qL,aw (by simp)]);have CC:=oU (.mk qo n [] [g]) HFq.o.1 ok wf ⟨qo,⟨n.toArray⟩,qa,0,qc,some ⟨b,off,none⟩,1,qe⟩ (HFq.o.2.later Jh.o.below);exact qgf
  ·have hnb:(n == nx)=false:=by simpa using hn
   cases zs:(aL [] g).contains nx with
   | false=>
    have ym:Hd (RS=.mk qo n [] [g]):=ab (by rw[XV.o,pE qL,zs];simp);have qzv:=();exact qkA
   | true=>
    exact qkA):G:=h
theorem qgz(h:G:=by
 go_enter Tryz.func160,Tryz.ntmps160
 first
 |clear qA8;cases uv
  ·have rk:Hd (R=(xn == yn && cf ps.reverse xa ya)):=ab (by rw[HM.o];simp)
   by_cases dD:xn=yn
   ·subst dD;have qAu:=();exact qdz
   ·have gG:(xn == yn)=false:=by simpa using dD
    have qiT:=();exact qdx
  ·go_wp2;rw[<-fj.o];go_loopw [7] (fun i wr=>∃j:Nat,j<=p0/\i=.int .i64 ((j:Int) - 1)/\Below W2.heap.size W2 wr/\mm ps.reverse xn yn=mm (ps.take j).reverse xn yn) (fun i _=>(intOf i+1).toNat)
   case atStart=>exact ⟨p0,aC _,by go_num,ai _ _,by rw[Aa.o,cK]⟩
   case round=>
    obtain ⟨j,hj,rfl,dx,ht⟩:=hrel
    cases j with
    | zero=>
     have rk:Hd (R=(xn == yn && cf ps.reverse xa ya)):=ab (by rw[HM.o,ht,List.take_zero];simp[Fe]);have ⟨ix,xQ⟩:=aj wr;subst xQ;have HBp:=ab dx;have zdf:((0:Nat):Int) - 1=-1:=rfl;have x1:ix.cell? ⟨w.heap.size,1,none⟩=some (.string ⟨xn.toArray⟩):=aa dx (ag HX.o 1);have x2:ix.cell? ⟨w.heap.size,2,none⟩=some (.slice ua k0 uc):=aa dx (ag HX.o 2);have y1:ix.cell? ⟨w.heap.size+1,1,none⟩=some (.string ⟨yn.toArray⟩):=aa dx (ag HY.o 1);clear dx ht
     by_cases dD:xn=yn
     ·subst dD;have qAv:=();exact qdz
     ·have gG:(xn == yn)=false:=by simpa using dD
      exact qdx
    | succ j=>
     have qv9:=();exact qi6
 |exact qii):G:=h
theorem qgA(h:G:=by
 go_enter Tryz.func147,Tryz.ntmps147
 first
 |clear qA9;cases uv
  ·have rk:Hd (R=(xn == yn && cf ps.reverse xa ya)):=ab (by rw[HM.o];simp)
   by_cases dD:xn=yn
   ·subst dD;exact qdz
   ·have gG:(xn == yn)=false:=by simpa using dD
    have qiT:=();exact qdx
  ·have zcq:xa=[]:=by simpa using zev
   have HMn:Hd (R=(match mm ps.reverse xn yn with | some b=>b | none=>xn == yn)):=ab (by rw[HM.o,zcq];cases mm ps.reverse xn yn <;> simp[cf]);clear HM zcq;have HM:=HMn;clear HMn;go_wp2;rw[<-fj.o];go_loopw [9] (fun i wr=>∃j:Nat,j<=p0/\i=.int .i64 ((j:Int) - 1)/\Below W2.heap.size W2 wr/\mm ps.reverse xn yn=mm (ps.take j).reverse xn yn) (fun i _=>(intOf i+1).toNat)
   case atStart=>exact ⟨p0,aC _,by go_num,ai _ _,by rw[Aa.o,cK]⟩
   case round=>
    obtain ⟨j,hj,rfl,dx,ht⟩:=hrel
    cases j with
    | zero=>
     have HE:Hd (R=(xn == yn)):=ab (by rw[HM.o,ht,List.take_zero];simp[Fe]);have cz:=ab (cv.o.trans (dx.mono cv.o.size));have zdf:((0:Nat):Int) - 1=-1:=rfl;have qxQ:=();exact qjb
    | succ j=>
     exact qi6
 |exact qii):G:=h
theorem qem(h:G:=by
 go_enter Tryz.func117,Tryz.ntmps117
 first
 |clear ql4;exact qat
 |go_wp2_with (go_at_call 152;refine (C1.o _).mono ?_;rintro e w' ⟨rfl,hb⟩);go_ret;exact ⟨rfl,hb⟩):G:=h
theorem qkf(h:G:=by
 go_wp2;go_ret;exact ⟨rT (by rw[DX.o,HE.o]),sF.o⟩):G:=h
theorem qfH(h:G:=by
 have ce:((a.map (da kd.ts c)).take k1).length=k1:=by rw[dS];have:=qE.o;simp;omega
 first
 |clear qoD;obtain ⟨ra,rc,rfl⟩:=hF.row.slice;exact qcv
 |have j_:(a.map (da kd.ts c)).take k1=(a.map (da kd.ts c)):=iP (by have:=qE.o;simp;omega);exact qdt):G:=h
theorem qe2(h:G:=by
 obtain ⟨es,hk,ho,ht⟩:=h;rcases f9 ho with ⟨rfl,h0⟩ | ⟨g,cap,rfl,hg,_⟩
 first
 |clear qnr
  ·obtain rfl:=j6 h0;exact ⟨none,0,fun _=>⟨0,⟨#[]⟩,none,0,0,none,0,0⟩,rfl,aC _,.inl rfl,fun j hj=>by simp at hj⟩
  ·refine ⟨_,cap,fun j=>if h:j<es.length then es[j].2 else ⟨0,⟨#[]⟩,none,0,0,none,0,0⟩,rfl,J3 ho,.inr ⟨g,0,rfl,hg,fun j hj=>?_⟩,fun j hj=>?_⟩
   ·have tH:j<es.length:=by omega
    obtain ⟨c0,c1,c2,c3,c4⟩:=_x es j tH;have qx5:=();exact qjP
   ·have tH:j<es.length:=by omega
    exact qk3
 |·obtain rfl:=j6 h0;exact ⟨none,0,fun _=>⟨false,⟨#[]⟩,none,0,0⟩,rfl,aC _,.inl rfl,fun j hj=>by simp at hj⟩
  ·refine ⟨_,cap,fun j=>if h:j<es.length then es[j].2 else ⟨false,⟨#[]⟩,none,0,0⟩,rfl,J3 ho,.inr ⟨g,0,rfl,hg,fun j hj=>?_⟩,fun j hj=>?_⟩
   ·have tH:j<es.length:=by omega
    obtain ⟨c0,c1,c2,c3⟩:=_y es j tH;exact qjP
   ·have tH:j<es.length:=by omega
    exact qk3):G:=h
theorem qiO(h:G:=by
 have CQ:=fk ⟨qo,⟨n.toArray⟩,qa,k1,qc,qb,m0,qe⟩ Gz;simp only[FQ.val]at CQ
 first
 |clear qvJ;have ⟨e0,e1,e2,e3⟩:=nI x0;have KS:=ab CQ;have HE:=fG x0 x1 xu x2 aq;have zg:=ab hF.lt;have RF:=hF.size;clear CQ hF x0 x1 xu x2 aq j_ ce;have qxw:=();exact qiP
 |have e0:Gz.cell? ⟨w.heap.size+1,0,none⟩=some (.int .u8 qo):=ag xt 0;have e1:Gz.cell? ⟨w.heap.size+1,1,none⟩=some (.string ⟨n.toArray⟩):=ag xt 1;have e2:Gz.cell? ⟨w.heap.size+1,2,none⟩=some (.slice qa k1 qc):=ag xt 2;have e3:Gz.cell? ⟨w.heap.size+1,3,none⟩=some (.slice qb m0 qe):=ag xt 3;have KS:=ab CQ;have HAs:=aA BG Ek;have ZF:=ab hF;have HE:=fG xp xt x1 x2 aq;clear CQ BG Ek hF xp xt x1 x2 aq j_;go_wp2_with fail;refine KS.o.mono ?_;rintro e X4 ⟨rfl,mn⟩;clear e0 e1 e2 e3;have ZG:=ZF.o.later mn (fun r=>r.below mn);have Ja:=ab (HE.o.2.2.2.2.tr mn);have za4:=ab (ZG.other (by omega) Ro.o);have ZH:=ab (ZG.other (by omega) za3.o);have za5:=ab (ZG.other (by omega) OM.o);have ⟨za6,XO⟩:=aS ZG.box ZG.row;have Rq:=aA ZG.size ZF.o.lt;clear mn ZG ZF HE sI
  cases qL:bm qo with
  | false=>
   have xk:sH=ins:=by rw[HI'.o,qL];rfl
   have Rr:=aA Ja.o Rq.o.1;have Rs:=za4;have ZI:=ZH;have Rt:=za5;have ZJ:=za6;have LG:=XO;have LH:=aA (og.o.1.later Ja.o) (show ∀ b,vL.ownBlock=some b->b≠w.heap.size+1+1+1/\b<X4.heap.size from fun b hb=>by have:=og.o.2 b hb;have:=Ja.o.size;omega);have LI:=BE.o.2;rw[xk]at LI;have Ru:=aA BE.o.1 LI;clear BE LI;have ZK:=ab (Fills.start (R:=w.heap.size+1+1+1) (mk:=fun rr=>#[.int .u8 qo,.string ⟨n.toArray⟩,.slice gy k1 gz,rr]) (Row:=fun r W=>RowF X4.heap.size r ([]:List Fm) W) ZJ.o (RowF.nil _ _));have p3:X4.cell? ⟨w.heap.size+1,3,none⟩=some (.slice qb m0 qe):=ag ZI.o 3;clear xk;go_wp2;clear p3;go_loopw [61] (fun i wr=>∃k:Nat,k<=m0/\i=.int .i64 k/\∃row us,Fills 36 (w.heap.size+1+1+1) X4.heap.size (fun rr=>#[.int .u8 qo,.string ⟨n.toArray⟩,.slice gy k1 gz,rr]) (fun r W=>RowF X4.heap.size r us W) X4 wr row/\eZ ps.reverse ins (s.take k)=some us/\us.length=k) (fun i _=>m0 - (intOf i).toNat)
   case atStart=>exact ⟨0,aX _,rfl,_,[],ZK.o,by simp[eZ],rfl⟩
   case round=>
    have qwW:=();exact qcL
  | true=>
   obtain ⟨i0s,Vf,zdg,zdh,zdi⟩:=info_parts vN;have xk:sH=n :: ins:=by rw[HI'.o,qL];rfl
   have zdj:=og.o.1.later Ja.o;obtain ⟨la,lc,Ed,hlc,sY⟩:=zdj;have ⟨l0,tf⟩:=aj L.length;rw[<-tf]at Ed hlc;have zfl:l0<=2000000:=by rw[tf];exact LE.o.2.2
   have qxF:=();exact qjz):G:=h
theorem qjA(h:G:=by
 obtain ⟨S,hS⟩:∃S:World->Prop,S=fun V=>Below X4.heap.size X4 V:=⟨_,rfl⟩
 first
 |clear qxG;have f0:∀ V,S V->V.cell? ⟨w.heap.size+1,1,none⟩=some (.string ⟨n.toArray⟩):=fun V h=>by rw[hS]at h;exact aa h (ag ZH.o 1)
  have dN:S X4.drew:=by rw[hS];exact (ai _ _).drew
  have ⟨cR,zdk⟩:=aS hS xk;clear hS hold Qy tf sY xk qL;go_wp2;exact qdG
 |have sZ:X4.cell? ⟨w.heap.size,1,none⟩=some (.string ⟨xn.toArray⟩):=ag mC.o 1
  first
  |clear qta;have sG:X4.cell? ⟨w.heap.size+1,1,none⟩=some (.string ⟨yn.toArray⟩):=ag nW.o 1;have qAj:=();exact qkW
  |have sG:X4.cell? ⟨w.heap.size+1,1,none⟩=some (.string ⟨xn.toArray⟩):=ag nW.o 1;exact qkW):G:=h
theorem qg5(h:G:=by
 obtain ⟨S,hS⟩:∃S:World->Prop,S=fun V=>Below w3.heap.size w3 V:=⟨_,rfl⟩
 first
 |clear qr0;have ff:∀ V,S V->V.cell? ⟨kb,1,none⟩=some (.map (some mT))/\V.cell? ⟨w.heap.size,1,none⟩=some (.string ⟨n.toArray⟩)/\(Instr.lookup 146 (.map (some mT)) (.string ⟨n.toArray⟩) false).run Tryz.prog V=.ok (.agg #[.bool z0,.string z1,.slice z2 z3 z4]) V:=fun V h=>by
   rw[hS]at h;exact ⟨aa h (ag l9.box 1),aa h (ag x3 1),Cb V (h.block _ bj)⟩
  have dN:S w3.drew:=by rw[hS];exact (ai _ _).drew
  first
  |clear qAs;have HC:=ab (fun (V:World) (h:Below w3.heap.size w3 V)=>lC _ GY (by omega) _ V ⟨z0,z1,z2,z3,z4⟩ (hz.later h));simp only[TQ.val]at HC;have ⟨m,hm⟩:=aj (nodesT (termOf k.ts n));rw[<-hm]at HC sg;have cR:=ab hS;clear hS l9 x3 hz GY Nu Cb bj hm e0 e1 e2;have qzd:=();exact qaZ
  |clear qww;have Se:=m4 _ Sd;have bW:=aN (eH (aE (termOf k.ts n))) (mZ (termOf k.ts n));have HC:=ab (fun (V:World) (h:Below w3.heap.size w3 V)=>mv _ GY _ V ⟨z0,z1,z2,z3,z4⟩ (hz.later h));simp only[TQ.val]at HC;have ⟨m,hm⟩:=aj (di (aE (termOf k.ts n)));have L9:∀ x∈m,x.length<=2000000:=fun x hx=>by rw[hm,dV]at hx;exact aN (Se x hx) (by decide)
   have ro:m.length<=2000000:=by rw[hm];omega
   rw[<-hm]at HC sg;have HM:=aA L9 ro;clear L9 ro bW Se;have cR:=ab hS;clear hS l9 x3 hz GY Nu Sd Cb bj hm e0 e1 e2;have qAZ:=();exact qdG
  |have HC:=ab (fun (V:World) (h:Below w3.heap.size w3 V)=>pk _ GY _ V ⟨z0,z1,z2,z3,z4⟩ (hz.later h));simp only[TQ.val]at HC;rw[<-HU.o]at HC;have cR:=ab hS;clear hS l9 x3 hz GY Nu Cb bj;have qzf:=();exact qaZ
 |have s1:∀ V,S V->V.cell? ⟨W.heap.size+1,1,none⟩=some (.string ⟨n.toArray⟩):=fun V h=>by rw[hS]at h;exact aa h t1
  have v0:∀ V,S V->V.cell? ⟨W.heap.size+1+1,0,none⟩=some (.bool uv)/\V.cell? ⟨W.heap.size+1+1,1,none⟩=some (.string ⟨n'.toArray⟩)/\V.cell? ⟨W.heap.size+1+1,2,none⟩=some (.slice ua n2 uc):=fun V h=>by rw[hS]at h;exact ⟨aa h u0,aa h u1,aa h u2⟩
  have dN:S w3.drew:=by rw[hS];exact (ai _ _).drew
  have cR:=ab hS;clear hS t0 t1 t2 u0 u1 u2;have jx:=eU;refine (wpIn_wide (n:=3)).1 ?_;refine lF S 5 dN fun jE bV=>?_;refine c_ 0 56 (.agg #[.bool uv,.string ⟨n'.toArray⟩,.slice ua n2 uc]) rfl (fun V hX=>by obtain ⟨h0,h1,h2⟩:=v0 V hX;go_simp) bV fun cB=>?_;simp only[af];refine bw 1 57 (.pointer (some ⟨W.heap.size+1,1,none⟩)) rfl cB fun fB=>?_;simp only[af];refine c_ 2 58 (.string ⟨n.toArray⟩) rfl (fun V hX=>by have h0:=s1 V hX;go_simp) fB fun gq=>?_;have qAb:=();exact qaO):G:=h
theorem qib(h:G:=by
 obtain ⟨S,hS⟩:∃S:World->Prop,S=fun V=>Below w5.heap.size w5 V:=⟨_,rfl⟩
 first
 |clear quo;have f0:∀ V,S V->V.cell? ⟨bb,0,none⟩=some (.int .u8 q.o)/\V.cell? ⟨bb,1,none⟩=some (.string q.n)/\V.cell? ⟨bb,2,none⟩=some (.slice q.a q.l q.c)/\V.cell? ⟨bb,3,none⟩=some (.slice q.b q.m q.e):=fun V h=>by rw[hS]at h;exact ⟨aa h (ag Kd.o.2.2.2 0),aa h (ag Kd.o.2.2.2 1),aa h (ag Kd.o.2.2.2 2),aa h (ag Kd.o.2.2.2 3)⟩
  first
  |clear qA7;have f1:∀ V,S V->V.cell? ⟨w.heap.size,1,none⟩=some (.string ⟨n.toArray⟩)/\V.cell? ⟨w.heap.size+1+1,1,none⟩=some (.string ⟨n.toArray⟩):=fun V h=>by rw[hS]at h;exact ⟨aa h (ag Kd.o.1 1),aa h (ag Kd.o.2.2.1 1)⟩
   have dN:S w5.drew:=by rw[hS];exact (ai _ _).drew
   have LN:=ab (fun (V:World) (h:Below w5.heap.size w5 V)=>vU WB G (bI n) (aP n) ⟨by have:=ox.o.1;omega,ox.o.2.1⟩ (by have:=ox.o.1;omega) ox.o.2.2.1 ox.o.2.2.2 (by have:=UF.o.2.1;simp[bI];omega) ⟨by simp[aP,nodesT,nodesTs],yi HM.o⟩ (by simp[aP,nodesT,nodesTs]) _ (fun _=>True) V q ⟨true,⟨n.toArray⟩,none,0,0⟩ (RE.o.next (Ja.o.1.tr h)) (Ja.o.2.2.later h) (aM.2 ⟨_,rfl,cm⟩));have qtn:=();exact qhC
  |have f1:∀ V,S V->V.cell? ⟨w.heap.size,1,none⟩=some (.string ⟨n.toArray⟩)/\V.cell? ⟨w.heap.size+1+1,1,none⟩=some (.string ⟨m.toArray⟩):=fun V h=>by rw[hS]at h;exact ⟨aa h (ag Kd.o.1 1),aa h (ag Kd.o.2.2.1 1)⟩
   have dN:S w5.drew:=by rw[hS];exact (ai _ _).drew
   have LN:=ab (fun (V:World) (h:Below w5.heap.size w5 V)=>vU WB G (bI n) (aP m) ⟨by have:=ox.o.1;omega,ox.o.2.1⟩ (by have:=ox.o.1;omega) ox.o.2.2.1 ox.o.2.2.2 (by have:=UF.o.2.1;simp[bI];omega) ⟨by simp[aP,nodesT,nodesTs],yi HM.o⟩ (by simp[aP,nodesT,nodesTs]) _ (fun _=>True) V q ⟨true,⟨m.toArray⟩,none,0,0⟩ (RE.o.next (Ja.o.1.tr h)) (Ja.o.2.2.later h) (aM.2 ⟨_,rfl,cm⟩));exact qhC
 |first
  |clear qwZ;have ff:∀ V,S V->V.cell? ⟨kb,1,none⟩=some (.map (some mT))/\(Instr.lookup 146 (.map (some mT)) (.string ⟨y.toArray⟩) false).run Tryz.prog V=.ok (.agg #[.bool z0,.string z1,.slice z2 z3 z4]) V/\V.cell? ⟨W2.heap.size,0,none⟩=some (.int .u8 g0)/\V.cell? ⟨W2.heap.size,1,none⟩=some (.string g1)/\V.cell? ⟨W2.heap.size,2,none⟩=some (.slice g2 g3 g4)/\V.cell? ⟨W2.heap.size,3,none⟩=some (.slice g5 g6 g7):=fun V h=>by
    exact qkp
   have dN:S w5.drew:=by rw[hS];exact (ai _ _).drew
   have HCt:=ab (fun (V:World) (h:Below w5.heap.size w5 V)=>lC _ GY (by omega) _ V ⟨z0,z1,z2,z3,z4⟩ (Ym.later h));have ⟨nt,pL⟩:=aj (nodesT (termOf k.ts y));have Sb:1<=nt:=by rw[pL];exact jY _
   have hE:=HE3.o;simp only[TQ.val,<-pL]at HCt;rw[<-pL]at Nu hE;have ⟨m2,sO⟩:=aj (nt - 1);have ⟨m3,UI⟩:=aj (n0 * m2);have qD:m3<=400 * 1000:=by rw[UI];exact Nat.mul_le_mul HY.o.2.1 (by omega)
   rw[<-sO,<-UI]at hE;exact qlh
  |have ff:∀ V,S V->V.cell? ⟨kb,1,none⟩=some (.map (some mT))/\(Instr.lookup 146 (.map (some mT)) (.string ⟨y.toArray⟩) false).run Tryz.prog V=.ok (.agg #[.bool z0,.string z1,.slice z2 z3 z4]) V/\V.cell? ⟨w4.heap.size,0,none⟩=some (.int .u8 g0)/\V.cell? ⟨w4.heap.size,1,none⟩=some (.string g1)/\V.cell? ⟨w4.heap.size,2,none⟩=some (.slice g2 g3 g4)/\V.cell? ⟨w4.heap.size,3,none⟩=some (.slice g5 g6 g7):=fun V h=>by
    exact qkp
   have dN:S w5.drew:=by rw[hS];exact (ai _ _).drew
   have HR5:=ab (show RS=e9 dm (termOf kd.ts y) f by rw[HB.o.2.2.2.2,ak h0]);have hbd:=((H3.o.1.tr H5.o).tr (ai w5.heap.size w5).drew);have CP:=vU WB f dm (termOf kd.ts y) wm.o.2.1 (by have:=wm.o.2.2.1;omega) wm.o.2.2.2.1 wm.o.2.2.2.2 (by have:=HY.o.2.1;omega) GY (by omega) _ _ w5.drew ⟨g0,g1,g2,g3,g4,g5,g6,g7⟩ ⟨z0,z1,z2,z3,z4⟩ (RE.o.next hbd) (wm.o.1.later hbd) (Ym.later ((ai w5.heap.size w5).drew));simp only[FQ.val,TQ.val]at CP;have ⟨LN,HX5,cR⟩:=cE CP x15 hS;clear hS j4 Ym GY Nu Cb bj hbd CP y5 x15 h0;go_upto_region 9 with fail;clear ow iM gY;refine (wpIn_wide (n:=3)).1 ?_;refine lF S 9 dN fun jE bV=>?_;refine c_ 0 49 (.agg #[.int .u8 g0,.string g1,.slice g2 g3 g4,.slice g5 g6 g7]) rfl (fun V hX=>by obtain ⟨h0,h1,h2,h3,h4,h5⟩:=ff V hX;go_simp) bV fun S_=>?_;simp only[af];refine bw 1 50 (.string ⟨dm.toArray⟩) rfl S_ fun Ta=>?_;simp only[af];refine bw 2 51 (.pointer (some ⟨kb,0,none⟩)) rfl Ta fun Mt=>?_;simp only[af];refine bw 3 52 (.pointer (some ⟨kb,0,none⟩)) rfl Mt fun Tb=>?_;simp only[af];refine bw 4 53 (.pointer (some ⟨kb,1,none⟩)) rfl Tb fun ω=>?_;simp only[af];refine c_ 5 54 (.map (some mT)) rfl (fun V hX=>by obtain ⟨h0,h1,h2,h3,h4,h5⟩:=ff V hX;go_simp) ω fun hT5=>?_;simp only[af];refine bw 6 55 (.string ⟨y.toArray⟩) rfl hT5 fun hT6=>?_;simp only[af];refine c_ 7 56 (.agg #[.bool z0,.string z1,.slice z2 z3 z4]) rfl (fun V hX=>by obtain ⟨h0,h1,h2,h3,h4,h5⟩:=ff V hX;go_simp) hT6 fun hT7=>?_;simp only[af];refine b_ 8 rfl fun K hK=>?_;go_simp;refine aH.2 (LN.o.mono ?_);rintro e w7 ⟨⟨⟨p0,p1,p2,p3,p4,p5,p6,p7⟩,rfl,hp⟩,fW⟩;have H7:=ab (((ai w5.heap.size w5).drew).trans fW);have HP7:=ab hp;have x7:=bN H7.o HX5.o;have Mw:=ab x7;obtain ⟨i0,i1,i2,i3,q0,q1,q2,q3⟩:=dc x7;refine hK _ _ (fun _=>by rw[cR.o];exact H7.o) (fun _=>?_);clear hK K fW x7 hp;refine b_ 9 rfl fun K hK=>?_;have qqO:=();exact qaa):G:=h
theorem qe4(h:G:=by
 obtain ⟨U',Q6,Zt⟩:=au.keysOf;obtain rfl:es=U':=by rw[hD]at Q6;simpa using Q6
 first
 |clear qnt;have hsz:=au.size_le;have lA:(di (l.map (·.1))).Perm (strKeys D0):=by
   rw[hD];refine perm_strKeys U9 (fun p hp=>by obtain ⟨v,hv⟩:=Zt p hp;obtain ⟨x,_,hx,_⟩:=Maps.keyOf_str hk hv;exact ⟨x,hx⟩) (iW (tR _)) (fun x=>?_);rw[dV,<-hD]
   cases hg:getB l x with
   | none=>rw[(hx x).1 hg];simp only[bO,iff_false];exact (iy l x).1 hg
   | some a=>
    have qAB:=();exact qk5
  have h1:=lA.length_eq;rw[Hf hup]at h1;have h2:(strKeys D0).length<=Maps.size D0:=by
   rw[hD];simp only[strKeys,Maps.size];simp
  simp at h1;omega
 |first
  |clear ql7;have lA:(di xs).Perm (strKeys D0):=by
    rw[hD];refine perm_strKeys U9 (fun p hp=>by obtain ⟨v,hv⟩:=Zt p hp;obtain ⟨x,_,hx,_⟩:=Maps.keyOf_str Tryz.underlying9 hv;exact ⟨x,hx⟩) (iW (tR xs)) (fun x=>?_);rw[dV,<-hD,pz]
   refine (aH.1 cS).mono ?_;rintro e w' ⟨v,ss,rfl,hS,de,Q7,hb⟩;have mI:ss.Perm (di xs):=hS.trans lA.symm;have kG:ss.length=(di xs).length:=mI.length_eq;refine ⟨v,rfl,⟨?_,?_⟩,((ai _ W).alloc (aC _) _).trans (hb.mono (by simp))⟩
   ·rw[Bl mI,kG]at de;exact ownsRow_base_a de (by simp)
   ·rw[Q7];constructor
    ·intro h;rw[h]at kG;exact j6 kG.symm
    ·intro h;rw[h]at kG;exact j6 kG
  |have pz:∀ x:Str,Maps.has D0 (.string x)=true ↔ x∈l.map (·.1):=fun x=>by
    cases hg:getB l x with
    | none=>rw[(hx x).1 hg];simp only[bO,false_iff];exact (iy l x).1 hg
    | some a=>
     exact qk5
   have lA:(di (l.map (·.1))).Perm (strKeys D0):=by
    rw[hD];refine perm_strKeys U9 (fun p hp=>by obtain ⟨v,hv⟩:=Zt p hp;obtain ⟨x,_,hx,_⟩:=Maps.keyOf_str Tryz.underlying9 hv;exact ⟨x,hx⟩) (iW (tR _)) (fun x=>?_);rw[dV,<-hD,pz]
   refine (aH.1 cS).mono ?_;rintro e w' ⟨v,ss,rfl,hS,de,Q7,hb⟩;have mI:ss.Perm (di (l.map (·.1))):=hS.trans lA.symm;have kG:ss.length=(di (l.map (·.1))).length:=mI.length_eq;have hu:=Hf hup;refine ⟨v,rfl,⟨?_,?_⟩,((ai _ W).alloc (aC _) _).trans (hb.mono (by simp))⟩
   ·rw[Bl mI,kG,hu]at de;exact ownsRow_base_a de (by simp)
   ·rw[Q7];rw[hu]at kG;constructor
    ·intro h;rw[h]at kG;exact j6 kG.symm
    ·intro h;rw[h]at kG;exact j6 kG):G:=h
theorem qiN(h:G:=by
 obtain ⟨k,hk,rfl,row,hF⟩:=hrel;have aq:=hF.below dY.o (Nat.le_add_right _ 2)
 first
 |clear qvH
  by_cases hlt:k<m0
  ·have dy:=cb gt.o hlt;have qBa:=();exact qa5
  ·obtain rfl:k=m0:=by omega
   have ce:((s.map bl).take k).length=k:=by rw[dS];have:=gt.o;simp;omega
   have j_:(s.map bl).take k=(s.map bl):=iP (by have:=gt.o;simp;omega);have qAI:=();exact qhZ
 |by_cases hlt:k<k0
  first
  |clear qAT
   ·have dy:=cb du.o hlt;have qwk:=();exact qai
   ·obtain rfl:k=k0:=by omega
    have ce:(a.take k).length=k:=by rw[dS,<-du.o];omega
    have j_:a.take k=a:=by rw[du.o];exact cK
    have qAF:=();exact qax
  |clear qAR
   ·have dy:=cb du.o hlt;have qwl:=();exact qai
   ·obtain rfl:k=k0:=by omega
    exact qbo
  |clear qAS
   ·have dy:=cb du.o hlt;have qwm:=();exact qai
   ·obtain rfl:k=k0:=by omega
    exact qbp
  |·have dy:=cb du.o hlt;have qwq:=();exact qai
   first
   |clear qAV
    ·obtain rfl:k=k0:=by omega
     have qzA:=();exact qkE
   |clear qAW
    ·obtain rfl:k=k0:=by omega
     exact qkE
   |·obtain rfl:k=k0:=by omega
     have ce:((a.map aK).take k).length=k:=by rw[dS];have:=du.o;simp;omega
     have j_:(a.map aK).take k=(a.map aK):=iP (by have:=du.o;simp;omega);have qAG:=();exact qax):G:=h
theorem qfj(h:G:=by
 obtain ⟨uo,un,ua,ul,uc,ub,um,ue⟩:=q;obtain ⟨vo,vn,va,vl,vc,vb,vm,ve⟩:=q'
 first
 |clear qnQ;unfold FQ.val at C1 C2 C3 ⊢;simp only at C1 C2 C3 HX HY aZ ⊢;have x0:=fun (X:World) (h:Below W2.heap.size W2 X)=>(aa h (ag HX.o 0):X.cell? ⟨w.heap.size,0,none⟩=some (.int .u8 uo))
  have x1:=fun (X:World) (h:Below W2.heap.size W2 X)=>(aa h (ag HX.o 1):X.cell? ⟨w.heap.size,1,none⟩=some (.string un))
  have x2:=fun (X:World) (h:Below W2.heap.size W2 X)=>(aa h (ag HX.o 2):X.cell? ⟨w.heap.size,2,none⟩=some (.slice ua ul uc))
  have x3:=fun (X:World) (h:Below W2.heap.size W2 X)=>(aa h (ag HX.o 3):X.cell? ⟨w.heap.size,3,none⟩=some (.slice ub um ue))
  have y0:=fun (X:World) (h:Below W2.heap.size W2 X)=>(aa h (ag HY.o 0):X.cell? ⟨w.heap.size+1,0,none⟩=some (.int .u8 vo))
  have y1:=fun (X:World) (h:Below W2.heap.size W2 X)=>(aa h (ag HY.o 1):X.cell? ⟨w.heap.size+1,1,none⟩=some (.string vn))
  have y2:=fun (X:World) (h:Below W2.heap.size W2 X)=>(aa h (ag HY.o 2):X.cell? ⟨w.heap.size+1,2,none⟩=some (.slice va vl vc))
  have y3:=fun (X:World) (h:Below W2.heap.size W2 X)=>(aa h (ag HY.o 3):X.cell? ⟨w.heap.size+1,3,none⟩=some (.slice vb vm ve))
  have K6:=fG (an4 x0 x1 x2 x3) y0 y1 y2 y3;have ⟨HB,Au,tb,HC3,fj⟩:=qt hB C1 C2 C3 aZ;clear C1 C2 C3 hB aZ x0 x1 x2 x3 y0 y1 y2 y3;go_enter Tryz.func38,Tryz.ntmps38;cases b1
  ·go_wp2_with (rw[<-fj.o];go_at_call 39;refine Au.o.mono ?_;rintro e X1 ⟨rfl,h1⟩;have H1:=ab h1;clear h1);exact qjx
  ·cases b2
   ·go_wp2_with (first | (rw[<-fj.o];go_at_call 39;refine Au.o.mono ?_;rintro e X1 ⟨rfl,h1⟩;have H1:=ab h1;clear h1;have a0:=K6.o.2.1 X1 H1.o;have a1:=K6.o.2.2.1 X1 H1.o;have a2:=K6.o.2.2.2.1 X1 H1.o;have a3:=K6.o.2.2.2.2 X1 H1.o) | (go_at_call 39;refine (tb.o _ H1.o).mono ?_;rintro e X2 ⟨rfl,h2⟩;have H2:=ab h2;clear h2));go_ret;exact ⟨rfl,HB.o.trans ((H1.o.trans (H2.o.mono H1.o.size)).mono HB.o.size)⟩
   ·cases b3 <;>
    (go_wp2_with (first | (rw[<-fj.o];go_at_call 39;refine Au.o.mono ?_;rintro e X1 ⟨rfl,h1⟩;have H1:=ab h1;clear h1;have a0:=K6.o.2.1 X1 H1.o;have a1:=K6.o.2.2.1 X1 H1.o;have a2:=K6.o.2.2.2.1 X1 H1.o;have a3:=K6.o.2.2.2.2 X1 H1.o) | (go_at_call 39;refine (tb.o _ H1.o).mono ?_;rintro e X2 ⟨rfl,h2⟩;have H2:=ab (H1.o.trans (h2.mono H1.o.size));clear h2;have c0:=K6.o.1.1 X2 H2.o;have c1:=K6.o.1.2.1 X2 H2.o;have c2:=K6.o.1.2.2.1 X2 H2.o;have c3:=K6.o.1.2.2.2 X2 H2.o;have d0:=K6.o.2.1 X2 H2.o;have d1:=K6.o.2.2.1 X2 H2.o;have d2:=K6.o.2.2.2.1 X2 H2.o;have d3:=K6.o.2.2.2.2 X2 H2.o) | (go_at_call 83;refine (HC3.o (by simp) _ H2.o).mono ?_;rintro e X3 ⟨rfl,h3⟩;have H3:=ab h3;clear h3))
     go_ret;exact ⟨rfl,HB.o.trans ((H2.o.trans (H3.o.mono H2.o.size)).mono HB.o.size)⟩)
 |have qvq:=();exact qce):G:=h
theorem qgy(h:G:=by
 simp at hm;have HM:=ab hm;clear hm;have e1:((k0:Int) != (k0:Int))=false:=by simp
 first
 |clear qq7;have qA8:=();exact qgz
 |have qA9:=();exact qgA):G:=h
theorem qeS(h:G:=by
 simp only[bO,↓reduceIte]at h;obtain ⟨m,hm,rfl⟩:=Option.map_eq_some_iff.1 h
 first
 |clear qnf;simp[fY,wu σ ins a m hm]
 |exact nX ins a m hw.2 hm z (by simpa[aE] using hz)):G:=h
theorem qkR(h:G:=by
 simp only[dif_pos tH,Nat.zero_add];exact zb ho j tH):G:=h
theorem qeh(h:G:=by
 go_enter Tryz.func65,Tryz.ntmps65
 first
 |clear qlP;exact qej
 |go_wp2_with (first | (go_at_call 119;refine (C1.o _).mono ?_;rintro e w' ⟨rfl,hb⟩) | (go_at_call 120;refine (oa r _ hr).mono ?_;rintro e QM ⟨rfl,bG⟩));exact qdA):G:=h
theorem qlc(h:G:=by
 go_ret;exact ⟨by rw[HE3.o];rfl,H5.o.1.tr H6.o⟩):G:=h
theorem qld(h:G:=by
 go_ret;exact ⟨by rw[HE3.o];rfl,H5.o.1.tr H8.o⟩):G:=h
theorem qjv(h:G:=by
 have ce:((s.map (fI kk nx z)).take k).length=k:=by rw[dS];have:=gt.o;simp;omega
 first
 |clear qBb;have qAJ:=();exact qg0
 |have j_:(s.map (fI kk nx z)).take k=(s.map (fI kk nx z)):=iP (by have:=gt.o;simp;omega);exact qhZ):G:=h
theorem qk2(h:G:=by
 rw[Fy bj,<-dD,<-hg]at ik;rw[<-dD]at d0;have O4:=HP.o _ (ap bj);rw[<-hg]at hf O4
 first
 |clear qAr;have qu4:=();exact qdk
 |simp only at d1 d2 d3;have ⟨W5,e_⟩:=aj (wr.alloc (.cells #[.string ⟨nm.toArray⟩,.bool qo,.string qn,.slice qa ql qc] 47));have bh:=cM e_;have D3:(k:Int)<(n1:Int):=by omega
  have pH:=ab e_
  by_cases mt:nm=n
  ·subst mt;have Az:(nm == nm)=true:=by simp
   rw[Az]at ik;have CC:=pk g O4 ok W5 ⟨qo,qn,qa,ql,qc⟩ ((hf.later l8).later bh);simp only[TQ.val]at CC;exact qit
  ·have Az:(nm == n)=false:=by simp[mt]
   rw[Az]at ik;have HG:=aA (aq.tr bh) (show R=getB (b.ts.drop (k+1)) n from ik);clear l8 aq ik hf O4 bh hx e_ hg dD c0 c1 c2 c3 hok;exact qiu):G:=h
theorem qfq(h:G:=by
 rw[aW ti];simp only[intOf,Int.toNat_natCast];omega):G:=h
theorem qfE(h:G:=by
 have ce:((a.map (lG nx z)).take k1).length=k1:=by rw[dS];have:=du.o;simp;omega
 first
 |clear qoo;obtain ⟨gy,gz,rfl⟩:=hF.row.slice;have qtL:=();exact qcv
 |have j_:(a.map (lG nx z)).take k1=(a.map (lG nx z)):=iP (by have:=du.o;simp;omega);have qvI:=();exact qdt):G:=h
theorem qgF(h:G:=by
 have hii:(i0:Int)<(m0:Int):=by omega
 have zdw:¬((m0:Int)<=(i0:Int)):=by omega
 first
 |clear qrj;have CQ:=fk ⟨c0,⟨cn.toArray⟩,c2,c3,c4,some ⟨b2,off2,none⟩,m0,c7⟩ wr;simp only[FQ.val]at CQ;have KS:=ab CQ;have hfi:=Z7.subs.mem (ap Vf);have cv:=ab (UR zw bi hu hfi au OT jy);have HD:=cq d0 d1 d2 d3;have HZ:=bx qB o9 bi.size
  cases qL:bm c0 with
  | false=>
   rw[qL]at KS;rw[ak (show ¬(bm c0=true) by rw[qL];simp)]at KU;have HWk:=ab KU;clear KU Ah bi Z6 Z7 au OT hcs LQ Jl zw dQ qJ D5 jb xP ek o9 qB aq CQ hu hfi jy d0 d1 d2 d3 qL;go_wp2_with (go_at_call 93;refine KS.o.mono ?_;rintro e w8 ⟨rfl,iA⟩;have x8:=bN iA cv.o.1;obtain ⟨s0,s1,s2,s3,y0,y1,y2,y3⟩:=dc x8;have d0:=aa iA HD.o.1;have d1:=aa iA HD.o.2.1;have d2:=aa iA HD.o.2.2.1;have d3:=aa iA HD.o.2.2.2;have H8:=aA iA x8;clear iA x8);go_roundw
   case rel=>
    have x9:=lZ (v0:=.int .u8 uo) (v1:=.string un) (v2:=.slice ua ul uc) (v3:=.slice ub um ue) H8.o.2;have k9:=dM (W:=w8) (b:=w.heap.size+1) (v0:=.int .u8 uo) (v1:=.string un) (v2:=.slice ua ul uc) (v3:=.slice ub um ue);rw[<-HM.o.1]at k9;have kk:=cv.o.2.1.trans ((Kp.below H8.o.1).trans k9);exact ⟨k+1,oo[i0],ins,⟨uo,un,ua,ul,uc,ub,um,ue⟩,by omega,by go_num,kk,x9,cv.o.2.2.1.kp3 ((Kp.below H8.o.1).trans k9),cv.o.2.2.2.1,cv.o.2.2.2.2.1.held (fun b hb hlt=>((Kp.below H8.o.1).trans k9).same b hlt (by rw[HM.o.1];have:=HZ.o;omega)),by have:=cv.o.2.2.2.2.2.1;omega,by rw[HWk.o]⟩
   case measure=>simp[intOf];omega
  | true=>
   rw[qL]at KS;rw[aw qL]at KU;have HWk:=ab KU;have hrl:ins.reverse.length+1<=4000000:=by simp;omega
   have HRL:=ab hrl;clear KU Ah bi Z6 Z7 au OT hcs LQ Jl zw dQ qJ D5 jb xP ek o9 qB aq CQ hu hfi jy d0 d1 d2 d3 qL hrl;go_wp2_with (first | (go_at_call 93;refine KS.o.mono ?_;rintro e w8 ⟨rfl,iA⟩;have x8:=bN iA cv.o.1;obtain ⟨s0,s1,s2,s3,y0,y1,y2,y3⟩:=dc x8;have H8:=aA iA x8;clear iA x8) | (at_builtin;refine ei rfl _ _ rfl w4.heap.size (by have:=HZ.o;have:=H8.o.1.size;simp;omega) u10 ins.reverse rfl ((cv.o.2.2.2.2.1.later H8.o.1).later cI) (.slice (some ⟨w8.heap.size,0,none⟩) 1 1) [cn] rfl (fun _=>True) (BP (ah rfl)) HRL.o ?_;intro v9 w9 RI KV;have K9:Kp (fun b=>w4.heap.size<=b) wr w9:=zbg (H8.o.1.tr cI) KV (fun g hg=>(World.ownsRow.lt cv.o.2.2.2.2.1 g hg).1);have x9:=(K9.same _ (bA cv.o.1) (by have:=HZ.o;omega)).trans cv.o.1;obtain ⟨s0,s1,s2,s3,y0,y1,y2,y3⟩:=dc x9;have hlo:¬w4.heap.size<=b2:=(by have:=HZ.o;have:=cv.o.2.2.2.2.2.2.1;omega);have d0:=K9.cell hlo HD.o.1;have d1:=K9.cell hlo HD.o.2.1;have d2:=K9.cell hlo HD.o.2.2.1;have d3:=K9.cell hlo HD.o.2.2.2;have HG:=cq RI K9 x9 (oV ((cv.o.2.1.trans (Kp.below H8.o.1)).trans (Kp.below cI)) KV (fun g hg=>(World.ownsRow.lt cv.o.2.2.2.2.1 g hg).1));clear RI KV K9 x9 hlo));go_roundw
   case rel=>
    have GF:=lZ (v0:=.int .u8 uo) (v1:=.string un) (v2:=.slice ua ul uc) (v3:=.slice ub um ue) HG.o.2.2.1;have RJ:=dM (W:=w9) (b:=w.heap.size+1) (v0:=.int .u8 uo) (v1:=.string un) (v2:=.slice ua ul uc) (v3:=.slice ub um ue);rw[<-HM.o.1]at RJ;exact ⟨k+1,oo[i0],cn :: ins,⟨uo,un,ua,ul,uc,ub,um,ue⟩,by omega,by go_num,HG.o.2.2.2.trans RJ,GF,(cv.o.2.2.1.move (fun b hb hlt=>⟨hb,HG.o.2.1.same b hlt (by have:=HZ.o;omega)⟩)).kp3 RJ,cv.o.2.2.2.1,by rw[List.reverse_cons];exact HG.o.1.held (fun b hb hlt=>RJ.same b hlt (by rw[HM.o.1];have:=HZ.o;omega)),by have:=cv.o.2.2.2.2.2.1;simp;omega,by rw[HWk.o]⟩
   case measure=>simp[intOf];omega
 |obtain ⟨bt,zfq,⟨uv,un,ua,ul,uc⟩,rfl,jy,hu,d0,d1,d2⟩:=LR.get Vf;have hf:=uM.mem (ap Vf);have ⟨y,hy⟩:=aj (l[i0]);rw[<-hy]at hu hf;have hyy:l[i0]?=some y:=by rw[hy];exact io Vf
  obtain ⟨xv,xn,xa⟩:=y;obtain ⟨s1,h2,fC⟩:=aM.1 hu;exact qbS):G:=h
theorem qlh(h:G:=by
 have s8:IntKind.i64.wrap ((nt:Int) - 1)=(m2:Int):=by rw[gU _ (by omega)];omega
 first
 |clear qA1;have Qu:IntKind.i64.wrap ((n0:Int) * (m2:Int))=(m1:Int):=by rw[show (n0:Int) * (m2:Int)=(m1:Int) by rw[sO];simp];exact gU _ (by omega)
  have _n:IntKind.i64.wrap ((nf:Int)+(m1:Int))=(m3:Int):=by rw[gU _ (by omega)];omega
  have _G:=fun (x:Later W8)=>lq f Am.o.1.fit _ x.w ⟨GO,GP,GQ,GR,GS,GT,GU,GV⟩ (nD.o.2.2.2.2.1.later x.below);have _H:=fun (x:Later W8)=>lq im H5.o.2.2.2.fit _ x.w ⟨p0,p1,p2,p3,p4,p5,p6,p7⟩ (nD.o.2.2.2.2.2.1.later x.below);have _I:=fun (x:Later W8)=>lC t nD.o.2.2.1.fit (by have:=nD.o.2.2.1.2;omega) _ x.w ⟨R7,R8,R9,R_,Sa⟩ (nD.o.2.2.2.2.2.2.later x.below);simp only[FQ.val,TQ.val,<-vO,<-V9,<-pL]at _G _H _I;have ⟨HCf,HCi,HCt⟩:=cE _G _H _I;have _J:=HE8.o;rw[<-vO,<-V9,<-pL,<-iI,<-sO,<-UI]at _J;have HE1:=ab _J;obtain ⟨f0,f1,f2,f3,_,_,_,_⟩:=dc nD.o.1.1;obtain ⟨i0,i1,i2,i3,_,_,_,_⟩:=dc nD.o.1.2.1;obtain ⟨s0,s1,s2,_,_,_⟩:=fV nD.o.1.2.2;have q0:=fun x:Later W8=>x.get f0;have q1:=fun x:Later W8=>x.get f1;have q2:=fun x:Later W8=>x.get f2;have q3:=fun x:Later W8=>x.get f3;have q4:=fun x:Later W8=>x.get i0;have q5:=fun x:Later W8=>x.get i1;have q6:=fun x:Later W8=>x.get i2;have q7:=fun x:Later W8=>x.get i3;have q8:=fun x:Later W8=>x.get s0;have q9:=fun x:Later W8=>x.get s1;have q10:=fun x:Later W8=>x.get s2;clear _G _H _I _J pL vO V9 iI sO UI Sb zu hp3 hp4 qD f0 f1 f2 f3 i0 i1 i2 i3 s0 s1 s2;have qsJ:=();exact qac
 |have Qu:IntKind.i64.wrap ((n0:Int) * (m2:Int))=(m3:Int):=by rw[show (n0:Int) * (m2:Int)=(m3:Int) by rw[UI];simp];exact gU _ (by omega)
  have _n:IntKind.i64.wrap ((nf:Int)+(m3:Int))=((nf+m3:Nat):Int):=by rw[gU _ (by have:=HY.o.2.2;omega)];simp
  have ⟨sg,cR⟩:=aS hE hS;clear hS j4 Ym GY Nu Cb bj pL Sb hE sO UI qD y5 h0;go_upto_region 11 with fail;clear ow iM;refine (wpIn_wide (n:=3)).1 ?_;refine lF S 13 dN fun jE bV=>?_;refine c_ 0 48 (.agg #[.int .u8 g0,.string g1,.slice g2 g3 g4,.slice g5 g6 g7]) rfl (fun V hX=>by obtain ⟨h0,h1,h2,h3,h4,h5⟩:=ff V hX;go_simp) bV fun cB=>?_;simp only[af];refine bw 2 50 (.int .i64 (n0:Int)) rfl cB fun fB=>?_;simp only[af];refine bw 3 51 (.pointer (some ⟨kb,0,none⟩)) rfl fB fun gq=>?_;simp only[af];refine bw 4 52 (.pointer (some ⟨kb,0,none⟩)) rfl gq fun ir=>?_;simp only[af];refine bw 5 53 (.pointer (some ⟨kb,1,none⟩)) rfl ir fun jj=>?_;simp only[af];refine c_ 6 54 (.map (some mT)) rfl (fun V hX=>by obtain ⟨h0,h1,h2,h3,h4,h5⟩:=ff V hX;go_simp) jj fun jz=>?_;simp only[af];refine bw 7 55 (.string ⟨y.toArray⟩) rfl jz fun lM=>?_;simp only[af];refine c_ 8 56 (.agg #[.bool z0,.string z1,.slice z2 z3 z4]) rfl (fun V hX=>by obtain ⟨h0,h1,h2,h3,h4,h5⟩:=ff V hX;go_simp) lM fun qh=>?_;simp only[af];refine b_ 1 rfl fun K hK=>?_;go_simp;refine aH.2 ((DX.o _ (H5.o.tr (by have h:=bV;rw[cR.o]at h;exact h))).mono ?_);rintro e w7 ⟨rfl,fW⟩;have H7:=ab (((ai w5.heap.size w5).drew).trans fW);exact qaA):G:=h
theorem qi0(h:G:=by
 have t7:=ab (iV n W1 (by omega));have H1:=bx hb1 x1 (hb.tr hb1);have jt:=ab bY
 first
 |clear qvZ;clear hq iu lN ih CA hb1 x1 bY hE hR hb eh Io;obtain ⟨e0,e1,e2,_⟩:=fV H1.o.2.1
  cases tv with
  | false=>
   have ⟨B,hB⟩:=aj (a.any (iS k.ts));have hE:=HE.o;rw[ak (by simp),<-hB]at hE;rw[<-hB]at GW;have HE3:=ab hE;have Au:=ab (GW.o W1 (ai _ _));clear hE hB;have qwf:=();exact qdB
  | true=>
   cases l_:dl n with
   | false=>
    rw[l_]at t7;have ⟨B,hB⟩:=aj (a.any (iS k.ts));have hE:=HE.o;rw[ak (by simp[l_]),<-hB]at hE;rw[<-hB]at GW;have HE3:=ab hE;clear hE hB l_;have qwg:=();exact qdB
   | true=>
    rw[l_]at t7;have hE:=HE.o;rw[aw (by simp[l_])]at hE;have HE3:=ab hE;clear hE l_ GW;exact qdB
 |have _l:=ab (iu.later hb1)
  first
  |clear qv1;have ⟨fd,Yl,HN⟩:=cE ih lN.args eh;clear hq iu lN ih hb1 x1 bY hE hR hb eh;have jx:=eU
   by_cases Nm:(tv && dl n)=true
   ·obtain ⟨rfl,l_⟩:tv=true/\dl n=true:=by simpa using Nm
    rw[l_]at t7;have hE:=HE.o;rw[aw Nm]at hE;have sg:=ab hE;clear hE Nm l_;have qy2:=();exact qkn
   ·have hE:=HE.o;rw[ak Nm]at hE;have sg:=ab hE;clear hE;exact qkn
  |have ⟨fd,Yl,HSm,HN⟩:=eD ih lN.args Im eh;clear hq iu lN Im ih hb1 x1 bY hE hR hb eh;have jx:=eU
   by_cases Nm:(tv && dl n)=true
   ·obtain ⟨rfl,l_⟩:tv=true/\dl n=true:=by simpa using Nm
    rw[l_]at t7;have hE:=HE.o;rw[aw Nm]at hE;have sg:=ab hE;clear hE Nm l_;have qyZ:=();exact qkm
   ·have hE:=HE.o;rw[ak Nm]at hE;have sg:=ab hE;clear hE;exact qkm):G:=h
theorem qdQ(h:G:=by
 obtain ⟨⟨xv,xn,xa⟩,hx⟩:∃x,l[k]=x:=⟨_,rfl⟩
 first
 |clear qyn;rw[hx]at hu hf p_ js;obtain ⟨s1,h1,fC⟩:=aM.1 hu;obtain ⟨uv,un,ua,ul,uc⟩:=u;have qA3:=();exact qcx
 |clear qyo;rw[hx]at hu hf p_ hcut;obtain ⟨s1,h2,fC⟩:=aM.1 hu;obtain ⟨uv,un,ua,ul,uc⟩:=u;have qvM:=();exact qbS
 |obtain ⟨⟨yv,yn,ya⟩,hy⟩:∃x,m[k]=x:=⟨_,rfl⟩;rw[hx]at hu hf p_;rw[hy]at gI;obtain ⟨s1,h1,fC⟩:=aM.1 hu;obtain ⟨s2,h2,Ac⟩:=aM.1 gI;obtain ⟨uv,un,ua,ul,uc⟩:=u;obtain ⟨vv,vn,va,vl,vc⟩:=u';have qs3:=();exact qaG):G:=h
theorem qdY(h:G:=by
 refine hK _ _ (fun _=>by rw[cR.o];exact Nr) (fun _=>?_)
 first
 |clear qBc;clear hK K ZS bZ hp hq hp' iN Nr;refine b_ 10 rfl fun K hK=>?_
  go_simp;refine hK _ _ (fun _=>by rw[cR.o];exact HP.o.2.2) (fun _=>?_);clear hK K;refine b_ 11 rfl fun K hK=>?_;have y1:=bN HP.o.2.2 jS.o;have ⟨e0,e1,e2,e3⟩:=nI y1;have z0:=ac y1 0;have z1:=ac y1 1;have z2:=ac y1 2;have z3:=ac y1 3;have Zm:=ab y1;clear y1;have qq1:=();exact qaa
 |clear qBd;clear hK K;have zcu:=Sb.later ZS;refine b_ 6 rfl fun K hK=>?_;go_simp;refine aH.2 ((PV W0 (et ns f) (et ns g) (F9 ns jw.o.1) (F9 ns jw.o.2.1) _ _ _ (HT3.o.next Nr) pf pg zcu zu).mono ?_);rintro _ A'' ⟨rfl,zcv⟩;have HE:=ab (bD.o.tr (Nr.tr zcv));refine eK hK ?_;clear hK K hA ZS zcv bZ Nr Sb zu zcu;refine b_ 7 rfl fun K hK=>?_;have qqP:=();exact qaa
 |clear hK K;have tB:A.heap[w4.heap.size]?=some (.cells #[.int .u8 go,.string gn,.slice ga gl gc,.slice gb gm ge] 36 (0,0)):=bN Nr Z2.o;have lU:=gL kk g n m ox.o.2.1 ox.o.2.2.1 ox.o.2.2.2.1;have ⟨G2,hG2⟩:=aj (fI kk n (aP m) g);have XZ:li 2000000 G2=true:=by rw[hG2];exact pG kk g n (aP m) ox.o.2.1 ox.o.2.2.1 ox.o.2.2.2.1 (by have:=ox.o.1;simp[aP,nodesT,nodesTs];omega) ox.o.2.2.2.2.2 (yi HM.o.2.1)
  rw[<-hG2]at lU hp;have HG2:Hd (fitF G2/\nodesF G2<=100000/\gS G2=true/\qone G2=true/\depthF G2<=kk):=ab ⟨⟨by have:=ox.o.1;omega,XZ⟩,by have:=ox.o.1;omega,lU.1,lU.2.1,by have:=ox.o.2.2.2.1;omega⟩;have ym:Hd (RS=.mk qo m [] [fI kk nx z G2]):=ab (by rw[ym.o,hG2]);have ks:w.heap.size+3<w4.heap.size:=Jh.o.lt;have oe:=bZ.size;have zdv:=(bA Z2.o);have Z4:=dM (W:=A) (b:=w4.heap.size) (v0:=.int .u8 ho) (v1:=.string tW) (v2:=.slice ha hl hc) (v3:=.slice hb hm he);have Z5:=lZ (v0:=.int .u8 ho) (v1:=.string tW) (v2:=.slice ha hl hc) (v3:=.slice hb hm he) tB;have ⟨s0,s1,s2,s3⟩:=nI tB;have zs0:=ac tB 0;have zs1:=ac tB 1;have zs2:=ac tB 2;have zs3:=ac tB 3;have X6:=(OQ.o.later Nr).keep Z4.os Z4.tape Z4.output Z4.size (fun b bG=>Z4.same b (by have:=(OQ.o.later Nr).lt;omega) (by omega));have zbd:=hp.move (ok':=fun _=>True) (fun b hok hlt=>⟨trivial,Z4.same b hlt (by omega)⟩);have ⟨vT,zbe,zbf⟩:=cE X6 Z5 zbd;clear lU hG2 XZ ks oe zdv Z4 Z5 tB X6 zbd hp hA qi bZ Nr Z3;refine b_ 7 rfl fun K hK=>?_;simp only[FQ.val];exact qaa):G:=h
theorem qcM(h:G:=by
 refine hK _ _ (fun _=>by rw[cR.o];exact bZ) (fun _=>?_)
 first
 |clear qq4
  first
  |clear qAz;clear hK K;refine b_ 6 rfl fun K hK=>?_
   simp only[FQ.val];have qo4:=();exact qal
  |clear qAi;have qA5:=();exact qdX
  |clear qxU;clear hK K;refine b_ 5 rfl fun K hK=>?_
   simp only[TQ.val];have qpd:=();exact qal
  |clear qxT;clear hK K;refine b_ 6 rfl fun K hK=>?_
   simp only[TQ.val];have qph:=();exact qal
  |clear qAx;clear hK K;refine b_ 6 rfl fun K hK=>?_
   simp only[TQ.val];exact qal
  |clear qAg;have qA6:=();exact qdX
  |clear qAh;exact qdX
  |clear qAe;clear hK K;refine b_ 4 rfl fun K hK=>?_
   simp only[FQ.val];have qo0:=();exact qal
  |clear qzP;clear hK K hA;refine b_ 9 rfl fun K hK=>?_
   go_simp;refine aH.2 ((uP.o A (cv.o.trans (bZ.mono cv.o.size))).mono ?_);rintro _ A' ⟨rb,re,rfl,hq,ZS⟩;have Nr:Below W2.heap.size W2 A':=bZ.trans (ZS.mono bZ.size);have hp':=(hp.later ZS).move (ok':=(W2.heap.size<=·)) (fun b hok _=>⟨hok,rfl⟩);have iN:=hq.move (ok':=(W2.heap.size<=·)) (fun b hok _=>⟨aN bZ.size hok,rfl⟩);have HP:=bx hp' iN Nr;have qBc:=();exact qdY
  |clear hK K;refine b_ 6 rfl fun K hK=>?_
   simp only[FQ.val];have qo2:=();exact qal
 |clear qvm;clear hK K
  first
  |clear qyy;refine b_ 14 rfl fun K hK=>?_
   have qy5:=();exact qdU
  |clear qxt;refine b_ 15 rfl fun K hK=>?_
   have qy6:=();exact qdU
  |clear qwT;refine b_ 5 rfl fun K hK=>?_
   go_simp;refine aH.2 ((HD.o _ bZ).mono ?_);rintro _ A' ⟨pg,rfl,zu,ZS⟩;have Nr:Below W5.heap.size W5 A':=bZ.tr ZS;have qBd:=();exact qdY
  |clear qBe;refine b_ 9 rfl fun K hK=>?_
   simp only[FQ.val];have qo6:=();exact qal
  |clear qBf;have ow:((wz.drew.alloc (.cells #[.bool u.v,.string u.n,.slice u.a u.l u.c] 43)).alloc (.cells #[.bool v.v,.string v.n,.slice v.a v.l v.c] 43)).heap[wz.heap.size]?=some (.cells #[.bool u.v,.string u.n,.slice u.a u.l u.c] 43 (0,0)):=(bH _ _ _ (by simp)).trans (ah (by simp));have iM:((wz.drew.alloc (.cells #[.bool u.v,.string u.n,.slice u.a u.l u.c] 43)).alloc (.cells #[.bool v.v,.string v.n,.slice v.a v.l v.c] 43)).heap[wz.heap.size+1]?=some (.cells #[.bool v.v,.string v.n,.slice v.a v.l v.c] 43 (0,0)):=ah (by simp);refine b_ 28 rfl fun K hK=>?_;go_simp;refine aH.2 ((I_.o _ bZ _ _ ow iM).mono ?_);clear ow iM;exact qk6
  |clear qBg;have ow:((wz.drew.alloc (.cells #[.bool v.v,.string v.n,.slice v.a v.l v.c] 43)).alloc (.cells #[.bool u.v,.string u.n,.slice u.a u.l u.c] 43)).heap[wz.heap.size]?=some (.cells #[.bool v.v,.string v.n,.slice v.a v.l v.c] 43 (0,0)):=(bH _ _ _ (by simp)).trans (ah (by simp));have iM:((wz.drew.alloc (.cells #[.bool v.v,.string v.n,.slice v.a v.l v.c] 43)).alloc (.cells #[.bool u.v,.string u.n,.slice u.a u.l u.c] 43)).heap[wz.heap.size+1]?=some (.cells #[.bool u.v,.string u.n,.slice u.a u.l u.c] 43 (0,0)):=ah (by simp);refine b_ 28 rfl fun K hK=>?_;go_simp;refine aH.2 ((I_.o _ bZ _ _ iM ow).mono ?_);clear iM ow;exact qk6
  |clear qAA;refine b_ 6 rfl fun K hK=>?_
   go_simp;have Z3:=OQ.o.later bZ;refine aH.2 ((fd.o W0 g n (aP m) ox.o.2.2.2.2 ox.o.1 ox.o.2.1 ox.o.2.2.1 ox.o.2.2.2.1 kz ⟨by simp[aP,nodesT,nodesTs],yi HM.o.2.1⟩ (by simp[aP,nodesT,nodesTs]) _ (fun _=>True) A1 ⟨go,gn,ga,gl,gc,gb,gm,ge⟩ ⟨true,⟨m.toArray⟩,none,0,0⟩ (RE.o.next Z3.below) (HG.o.later Z3.below) (aM.2 ⟨_,rfl,cm⟩)).mono ?_);rintro _ A ⟨⟨⟨ho,tW,ha,hl,hc,hb,hm,he⟩,rfl,hp⟩,hA⟩;have Nr:=bZ.tr hA;exact qdY
  |clear qub;refine b_ 10 rfl fun K hK=>?_
   go_simp;refine hK _ _ (fun _=>by rw[cR.o];exact bZ) (fun _=>?_);clear hK K;refine b_ 11 rfl fun K hK=>?_;exact qdU
  |refine b_ 8 rfl fun K hK=>?_
   simp only[TQ.val];have qpf:=();exact qal
 |clear hK K hA;refine b_ 7 rfl fun K hK=>?_
  go_simp;refine hK _ _ (fun _=>by rw[cR.o];exact HP.o.2) (fun _=>?_);clear hK K;refine b_ 8 rfl fun K hK=>?_;have y1:=bN HP.o.2 jS.o;have ⟨e0,e1,e2⟩:=mq y1;have z0:=ac y1 0;have z1:=ac y1 1;have z2:=ac y1 2;have Zm:=ab y1;clear y1 hp bZ;have qqv:=();exact qaa):G:=h
theorem qjE(h:G:=by
 rintro lR pre vs x W hl xj ⟨h1,h2,h3⟩ ⟨q,ps,rfl,NY,hpl,uQ,Es,iG⟩ Ii dq
 first
 |clear qxJ;have qqj:=();exact qaW
 |have qql:=();exact qaW):G:=h
theorem qkd(h:G:=by
 rw[<-bY];have gG:W1.heap.size=w.heap.size+4:=by rw[bY];have:=bD.o.2;simp;omega
 first
 |clear qyN;have uY:=ab (Fills.start (R:=w.heap.size+1+1+1) (mk:=fun rr=>#[.int .u8 qo,.string ⟨n.toArray⟩,rr,.slice none 0 0]) (Row:=fun r W=>RowT W1.heap.size r ([]:List Tm) W) hxr (RowT.nil _ _));have dY:=aA (bD.o.1.tr Ej) gG;have Ro:=ab (bN Ej HX.o.1);have za3:=ab (bN Ej HX.o.2.1);have OM:=ab (bN Ej HX.o.2.2);clear bY Ej hxr gG t0 t1 t2;go_loopw [25] (fun i wr=>∃k1:Nat,k1<=k0/\i=.int .i64 k1/\∃row Ve,Fills 36 (w.heap.size+1+1+1) W1.heap.size (fun rr=>#[.int .u8 qo,.string ⟨n.toArray⟩,rr,.slice none 0 0]) (fun r W=>RowT W1.heap.size r Ve W) W1 wr row/\eq ps.reverse ins (a.take k1)=some Ve/\Ve.length=k1) (fun i _=>k0 - (intOf i).toNat)
  case atStart=>exact ⟨0,aX _,rfl,_,[],uY.o,by simp[eq],rfl⟩
  case round=>
   obtain ⟨k1,hk,rfl,row,Ve,hF,BG,Ek⟩:=hrel;have aq:=hF.below dY.o.1 (by omega);obtain ⟨gy,gz,rfl⟩:=hF.row.slice;rw[Ek]at hF
   by_cases hlt:k1<k0
   ·have dy:=cb du.o hlt;have qwn:=();exact qai
   ·obtain rfl:k1=k0:=by omega
    have j_:a.take k1=a:=by rw[du.o];exact cK
    rw[j_]at BG;have sI:=ab hF.row;have x2:=hF.box;have x1:=hF.other (by omega) OM.o;have xp:=hF.other (by omega) Ro.o;have xt:=hF.other (by omega) za3.o;have ⟨Gz,Rp⟩:=aj wr;subst Rp;exact qiO
 |have uY:=ab (Fills.start (R:=w.heap.size+1+1+1) (mk:=fun rr=>#[.bool false,.string ⟨n.toArray⟩,rr]) (Row:=fun r W=>RowT W1.heap.size r ([]:List Tm) W) hxr (RowT.nil _ _));have Rr:=aA (bD.o.1.tr Ej) gG;have Ro:=ab (bN Ej HXP.o);have OM:=ab (bN Ej jS.o);clear bY Ej hxr gG p0 p1 p2 p3 p4 p5 p6 p7 p8 t0 t1 t2;go_loopw [40] (fun i wr=>∃k:Nat,k<=k0/\i=.int .i64 k/\∃row us,Fills 43 (w.heap.size+1+1+1) W1.heap.size (fun rr=>#[.bool false,.string ⟨n.toArray⟩,rr]) (fun r W=>RowT W1.heap.size r us W) W1 wr row/\eq ps.reverse ins (a.take k)=some us/\us.length=k) (fun i _=>k0 - (intOf i).toNat)
  case atStart=>exact ⟨0,aX _,rfl,_,[],uY.o,by simp[eq],rfl⟩
  case round=>
   exact qcL):G:=h
theorem qfa(h:G:=by
 simp only[jA,List.setIfInBounds_toArray,List.set_cons_zero,List.set_cons_succ]
 first
 |clear qnD;rw[hu];have D8:∀ b,M b->w.heap.size<=b:=fun b hb=>by rw[HM.o]at hb;have:=mo.o.2.2.2.1;have:=mo.o.2.1;omega
  have Wf:¬M (w.heap.size+1):=by rw[HM.o];have:=mo.o.2.2.2.1;have:=mo.o.2.1;have:=(bA mo.o.2.2.2.2);have:=HKw.o;omega
  have hbr:=dE mo.o.2.2.1 bi D8;have x1r:=(bi.same _ (bA mo.o.2.2.2.2) Wf).trans mo.o.2.2.2.2;have DZ:=aA D8 Wf;clear D8 Wf;rcases (show i=2\/i=0\/i=1 by omega) with rfl | rfl | rfl
  ·obtain ⟨k1,Sb,zu⟩:=xk rfl;have HE:=ab (show R=(k,0,0) by rw[BE.o,Sb];simp only[ne_eq,not_true_eq_false,↓reduceIte];rw[zu];simp);have e0:=ag Iq 0;have CB:=J6 k FU goodF goodT (fun _ h=>h.fit) (fun _ h=>h.fit) _ wr _ _ _ nF nT d_ (by omega) (by omega);have HCB:=ab CB;have HX:=bx x1r hbr ze;clear Iq fC bi d_ CB x1r hbr ze Sb zu qJ hi1 xk;gi_wp2_with (gi_at_call 50;refine aH.2 (HCB.o.mono ?_);rintro e w7 ⟨⟨⟨p0,p1,p2,p3,p4,p5⟩,rfl,LZ⟩,fW⟩;have _V:=bN fW HX.o.1;obtain ⟨y0,y1,z0,z1⟩:=uz _V;have H7:=bx _V fW LZ;clear _V fW LZ;simp only[BQ.val]);obtain ⟨W8,kV,x8,k8,g0,g1⟩:=EH H7.o.1 (.slice p0 p1 p2) (.slice p3 p4 p5);rw[<-kV,Exit.noGoto_ret];have uC:Below w.heap.size w W8:=Below.kp1 (HX.o.2.1.tr H7.o.2.1) k8 (by omega);have zfz:=(bA HX.o.1);refine eB (B:=oA.heap.size) (HX.o.2.2.move (fun D hD hd=>(k8.same D (bJ (bA hd) H7.o.2.1.size) (by have:=(bA mo.o.2.2.2.2);omega)).trans ((H7.o.2.1.block D (bA hd)).trans hd))) (fun w' hn=>?_);have h0:=hn.cell g0;have h1:=hn.cell g1;refine ⟨.tuple #[.agg #[.slice p0 p1 p2,.slice p3 p4 p5],.int .i64 0,.int .i64 0],by simp[results,Tryz.results15,go_sem,h0,h1],⟨⟨⟨p0,p1,p2,p3,p4,p5⟩,by (rw[HE.o];try rfl),?_⟩,jN uC (hn.mono mo.o.2.2.1.size)⟩⟩;rw[HE.o];exact (H7.o.2.2.move (fun b hb hlt=>⟨aN HX.o.2.1.size hb,k8.same b hlt (by omega)⟩)).nw hn
  ·have HST:=ab (Jv W0);have e0:=ag Iq 0;have ⟨wH,rE⟩:=aj (wr.alloc (.cells #[(.func (.func 47) #[.pointer (some ⟨K0+1+1+1,0,none⟩)] #[])] 82));have qti:=();exact qhz
  ·have HST:=ab (Pv W0);have e0:=ag Iq 0;have ⟨wH,rE⟩:=aj (wr.alloc (.cells #[(.func (.func 48) #[.pointer (some ⟨K0+1+1+1,0,none⟩)] #[])] 82));exact qhz
 |rw[_Y];have mn:Below w.heap.size w wq:=dE uR.o.2.2.1 bi DZ.o.1
  by_cases hlt:j<n1
  first
  |clear qtj
   ·have le:=cb HN.o hlt;exact qe9
   ·obtain rfl:n1=j:=by omega
    have wK:e7 aY 0 k l=(kj,0,0):=by rw[ik,gT (by rw[<-HN.o];exact aC _)];rfl
    have qxC:=();exact qjy
  |·have le:=cb HN.o hlt;obtain ⟨bb,off,⟨a0,a1,a2,a3,a4,a5,a6,a7⟩,⟨b0,b1,b2,b3,b4,b5,b6,b7⟩,rfl,hok,hs,hf,c0,c1,c2,c3,c4,c5,c6,c7⟩:=HV.o.1.get le;have ⟨d0,d1,d2,d3,d4,d5,d6,d7⟩:=Lc mn c0 c1 c2 c3 c4 c5 c6 c7;simp only at d0 d1 d2 d3 d4 d5 d6 d7;have cD:=C_ (step:=dp) (k:=kj) le;have lN:=HV.o.2.2.2.2 _ (ap le);have Dd:=(kF l 0).1 HBp.o _ (ap le);obtain ⟨⟨s,f⟩,Mv⟩:∃x,x=l[j]:=⟨_,rfl⟩;rw[<-Mv]at cD lN hs hf Dd;simp only at cD lN hs hf Dd;rw[cD]at ik;exact qf0
   ·obtain rfl:n1=j:=by omega
    have wK:e7 dp 0 k l=(kj,0,0):=by rw[ik,gT (by rw[<-HN.o];exact aC _)];rfl
    exact qjy):G:=h
theorem qh8(h:G:=by
 have fj:=ab aZ;clear hu c0 c1 c2 Ag hF gR eu au gd CC eW gV hU BG Ek aq bG aZ
 first
 |clear qun
  cases U with
  | none=>
   go_wp2_with (go_at_call 94;refine lJ.o.mono ?_;rintro e w4 ⟨⟨⟨pv,pn,pa,pl,pc⟩,rfl,hp⟩,aR⟩;simp only[Option.isSome]at hp ⊢;rw[<-fj.o]at aR;have bh:Below w4.heap.size w4 (w4.alloc (.cells #[.bool pv,.string pn,.slice pa pl pc] 43)):=cI;have t5:=fh.o.later (aR.tr bh) (fun r=>r.below (aR.tr bh));have x5:=t5.other (by omega) OM.o;obtain ⟨e0,e1,e2,z0,z1,z2⟩:=fV x5;have H5:=aA (aR.tr bh) x5;clear hp aR bh t5 x5);obtain ⟨W6,cQ,x6,k6,g0,g1,g2⟩:=sJ H5.o.2 (.bool false) (.string ⟨#[]⟩) (.slice none 0 0);rw[<-cQ];have HE:=ab (show R=none by rw[BE.o,BH.o (by simp)];rfl);refine bK (v:=.tuple #[TQ.val ⟨false,⟨#[]⟩,none,0,0⟩,.bool false]) (by simp[TQ.val,results,Tryz.results94,go_sem,g0,g1,g2]) rfl ⟨⟨⟨false,⟨#[]⟩,none,0,0⟩,by rw[HE.o];rfl,fun u hu=>by rw[HE.o]at hu;cases hu⟩,Below.kp1 ((cz.o.1.tr cz.o.2).tr H5.o.1) k6 (by omega)⟩
  | some u'=>
   go_wp2_with (first | (go_at_call 94;refine lJ.o.mono ?_;rintro e w4 ⟨⟨⟨pv,pn,pa,pl,pc⟩,rfl,hp⟩,aR⟩;simp only[Option.isSome]at hp ⊢;rw[<-fj.o]at aR hp;have bh:Below w4.heap.size w4 (w4.alloc (.cells #[.bool pv,.string pn,.slice pa pl pc] 43)):=cI;have t5:=fh.o.later (aR.tr bh) (fun r=>r.below (aR.tr bh));have r2:(w4.alloc (.cells #[.bool pv,.string pn,.slice pa pl pc] 43)).cell? ⟨w.heap.size+1+1+1,2,none⟩=some (.slice ra k rc):=(t5.cell 2).trans rfl;have HF5:=ab t5;have LD:=aA ((hp u' rfl).later bh) (aR.tr bh);have HO:=ab (ba BI.o.2.1 (fun b _ hlt=>(aR.tr bh).block b hlt));have o9:((w4.alloc (.cells #[.bool pv,.string pn,.slice pa pl pc] 43)).alloc (.cells #[.bool pv,.string pn,.slice pa pl pc] 43)).heap.size=w4.heap.size+2:=(by simp);have Lx:=t5.size;simp only[World.size_alloc]at Lx;clear hp aR bh t5) | (at_builtin;refine wpList_append_lies _ rfl _ _ 33 rfl W1.heap.size 43 i0 (.agg #[.bool false,.string ByteArray.empty,.slice none 0 0]) 3 48 Tryz.underlying33 hi ow iM gY rfl (by decide) (.slice ra k rc) k _ rfl (HO.o.alloc _) ⟨w4.heap.size+1,0,none⟩ 1 1 [.bool pv,.string pn,.slice pa pl pc] rfl rfl (cV (cs:=#[.bool pv,.string pn,.slice pa pl pc]) (t:=43) (fr:=(0,0)) (ah (by simp))) (by simp[Value.oneCell']) (by decide) (by unfold maxLen;omega) (by omega) (by simp;omega) (w4.heap.size+2) o9 ?_;intro g eF w6 aO am hg eA;have h4:=fh.o.at4 (kk:=2) BI.o.2.1 LD.o.2 am;have d3:=h4.2.2;have z3:=h4.2.1;have HG:=cq aO am hg eA;clear aO am hg eA h4));go_roundw
   case rel=>
    have qvl:=();exact qiG
   case measure=>simp[intOf];omega
 |cases U with
  | none=>
   go_wp2_with (go_at_call 94;refine lJ.o.mono ?_;rintro e w4 ⟨⟨⟨pv,pn,pa,pl,pc⟩,rfl,hp⟩,aR⟩;simp only[Option.isSome]at hp ⊢;rw[<-fj.o]at aR;have bh:Below w4.heap.size w4 (w4.alloc (.cells #[.bool pv,.string pn,.slice pa pl pc] 43)):=cI;have t5:=fh.o.later (aR.tr bh) (fun r=>r.below (aR.tr bh));have x5:=t5.other (by omega) OM.o;obtain ⟨e0,e1,e2,e3,z0,z1,z2,z3⟩:=dc x5;have H5:=aA (aR.tr bh) x5;clear hp aR bh t5 x5);exact qgY
  | some u'=>
   go_wp2_with (first | (go_at_call 94;refine lJ.o.mono ?_;rintro e w4 ⟨⟨⟨pv,pn,pa,pl,pc⟩,rfl,hp⟩,aR⟩;simp only[Option.isSome]at hp ⊢;rw[<-fj.o]at aR hp;have bh:Below w4.heap.size w4 (w4.alloc (.cells #[.bool pv,.string pn,.slice pa pl pc] 43)):=cI;have t5:=fh.o.later (aR.tr bh) (fun r=>r.below (aR.tr bh));have r2:(w4.alloc (.cells #[.bool pv,.string pn,.slice pa pl pc] 43)).cell? ⟨w.heap.size+1+1+1,2,none⟩=some (.slice gy k1 gz):=(t5.cell 2).trans rfl;have HF5:=ab t5;have LD:=aA ((hp u' rfl).later bh) (aR.tr bh);have HO:=ab (ba BI.o.2.1 (fun b _ hlt=>(aR.tr bh).block b hlt));have o9:((w4.alloc (.cells #[.bool pv,.string pn,.slice pa pl pc] 43)).alloc (.cells #[.bool pv,.string pn,.slice pa pl pc] 43)).heap.size=w4.heap.size+2:=(by simp);have Lx:=t5.size;simp only[World.size_alloc]at Lx;clear hp aR bh t5) | (at_builtin;refine wpList_append_lies _ rfl _ _ 33 rfl W1.heap.size 43 qJ (.agg #[.bool false,.string ByteArray.empty,.slice none 0 0]) 3 48 Tryz.underlying33 hi Ar xP AT rfl (by decide) (.slice gy k1 gz) k1 _ rfl (HO.o.alloc _) ⟨w4.heap.size+1,0,none⟩ 1 1 [.bool pv,.string pn,.slice pa pl pc] rfl rfl (cV (cs:=#[.bool pv,.string pn,.slice pa pl pc]) (t:=43) (fr:=(0,0)) (ah (by simp))) (by simp[Value.oneCell']) (by decide) (by unfold maxLen;omega) (by omega) (by simp;omega) (w4.heap.size+2) o9 ?_;intro g eF w6 aO am hg eA;have h4:=fh.o.at4 (kk:=2) BI.o.2.1 LD.o.2 am;have d3:=h4.2.2;have z3:=h4.2.1;have HG:=cq aO am hg eA;clear aO am hg eA h4));go_roundw
   case rel=>
    exact qiG
   case measure=>simp[intOf];omega):G:=h
theorem qk1(h:G:=by
 have hk:=AM (.deferred none) HK.o hD;exact qen):G:=h
theorem qaI(h:G:=by
 have ⟨d0,d1,d2,d3⟩:=lH aq c0 c1 c2 c3
 first
 |clear qnS;have ⟨M,hM⟩:=aj (Dw l[k] (500 - m));have CC:=TY l[k] (HF.o.mem (ap bj)) ok wr u (500 - m) (hu.later aq) (by omega) (by omega);rw[<-hM]at CC;have Dx:eY l 500 0=eY (l.drop (k+1)) 500 (m+M):=by
   rw[hcut];simp only[eY,aw ro];rw[hM]
  have L9:m+M<=100002000000:=by
   have h5:=(lw l 500 0).2.1;have h6:=(lw (l.drop (k+1)) 500 (m+M)).1;omega
  exact qik
 |clear qnW;have z7:(j:Int)<(n1:Int):=by omega
  have kz:=ln l _ (ap gZ);have DX:=ab (rn l[j] (HF.o.1.mem (ap gZ)) (by have:=HF.o.2;omega) _ wo u (hx.later aq));have gO:=KA gZ;have ⟨P,hP⟩:=aj (eS (l.take j));have ⟨L,hL⟩:=aj (di (aL [] l[j]));rw[<-hP]at de gO;rw[<-hL]at DX gO;have bW:P.length+L.length<=2000000:=by
   have h1:=uH (l.take j);have h2:=eH (aL [] l[j]);have h3:=fp l[j] [];have h4:nodesFs (l.take j)<=nodesFs l:=bQ l j;have:=HF.o.2;rw[hP,hL];omega
  have dD:∀ x∈L,x.length<=2000000:=fun x hx=>by
   rw[hL,AC]at hx;exact nU l[j] [] (HF.o.1.mem (ap gZ)).2 x hx
  have ⟨HT,qY,IQ,sI,HB⟩:=qt gO bW dD de aq;obtain ⟨uo,un,ua,ul,uc,ub,um,ue⟩:=u;simp only[FQ.val]at DX;simp only at d0 d1 d2 d3;clear gO bW dD de aq hP hL c0 c1 c2 c3 hx hok kz;go_wp2_with (go_at_call 40;refine DX.o.mono ?_;rintro e w5 ⟨⟨v5,rfl,hv5⟩,bh⟩;have H5:=aA hv5 bh;clear hv5 bh);have cD:=H5.o.1.strs.own;have zar:∀ b,v5.ownBlock=some b->wo.heap.size<=b/\b<w5.heap.size:=fun b hb=>H5.o.1.1.lt b hb;have hrb:∀ b,u3.ownBlock=some b->b<wo.heap.size:=fun b hb=>(sI.o.lt b hb).2;obtain ⟨a5,c5,rfl⟩:=cD.slice;have ⟨k0,i_⟩:=aj L.length;rw[<-i_]at cD zar ⊢;have zfK:k0<=2000000:=by have:=qY.o;omega
  have ⟨xU,pH⟩:=aS i_ H5.o.2;have hd5:∀ b,u3.ownBlock=some b->(Value.slice a5 k0 c5).ownBlock≠some b:=fun b hb e=>by have h1:=hrb b hb;have h2:=(zar b e).1;omega
  have HS0:=aA cD hd5;clear i_ H5 cD zar hrb hd5 d0 d1 d2 d3;go_wp2;go_loopw [3,6] (fun r i wr=>∃k:Nat,k<=k0/\i=.int .i64 k/\OwnS w.heap.size wr r (P ++ (L.take k).filter ct)/\Below w.heap.size w wr/\StrsO (fun b=>(Value.slice a5 k0 c5).ownBlock=some b) wr (.slice a5 k0 c5) L/\(∀ b,r.ownBlock=some b->(Value.slice a5 k0 c5).ownBlock≠some b)) (fun _ i _=>k0 - (intOf i).toNat)
  case atStart=>exact ⟨0,aX _,rfl,by simpa using sI.o.later pH.o,HB.o.tr pH.o,HS0.o.1,HS0.o.2⟩
  case round=>
   obtain ⟨k,hk,rfl,hr,eV,hS,jb⟩:=hrel
   by_cases eE:k<k0
   ·have bj:=cb xU.o eE;obtain ⟨b2,o2,rfl,_,e0⟩:=hS.get bj;have D3:(k:Int)<(k0:Int):=by omega
    have kz:=IQ.o _ (ap bj);have ce:(L.take (k+1)).filter ct=(L.take k).filter ct ++ [L[k]].filter ct:=by rw[mh bj,List.filter_append]
    have uM:((L.take k).filter ct).length<=k:=aN (List.length_filter_le _ _) (by simp;omega);have ⟨n,hn⟩:=aj (L[k]);rw[<-hn]at e0 kz ce;have ⟨dU,ZF⟩:=aS ce uM;have vV:=cq hr eV hS jb;clear hr eV hS jb ce uM hn;have hsz:=hO n
    by_cases h1:n.length<=1
    ·have hh:ct n=false:=by
      rcases n with _ | ⟨c,_ | ⟨c2,r⟩⟩
      ·rfl
      ·simp[ct,fH,nN]
      ·simp at h1
     have HH:=ab hh;have K4:decide ((n.length:Int) > 1)=false:=by simp;omega
     have zfL:decide ((1:Int)<(n.length:Int))=false:=by simp;omega
     clear hh;go_wp2;go_roundw
     case rel=>exact ⟨k+1,by omega,by go_num,by rw[dU.o];simpa[HH.o] using vV.o.1,vV.o.2.1,vV.o.2.2.1,vV.o.2.2.2⟩
     case measure=>simp[intOf];omega
    ·obtain ⟨c,r,LU⟩:∃c r,n=c :: r:=by cases n with | nil=>simp at h1 | cons c r=>exact ⟨c,r,rfl⟩
     have hr1:1<=r.length:=by rw[LU,eT]at h1;omega
     replace hsz:(⟨n.toArray⟩:ByteArray).size=r.length+1:=by rw[hsz,LU];rfl
     have K4:(1:Int)<(r.length:Int)+1:=by omega
     have hx:(⟨n.toArray⟩:ByteArray).extract 1 (r.length+1)=⟨r.toArray⟩:=by rw[LU];exact iU c r
     have Rz:r.length<=2000000:=by rw[LU,eT]at kz;omega
     have HCR:=ab LU;have HH:=ab (show ct n=(c == 63 && fH r) by rw[LU];simp[ct]);have h0:∀ h,(⟨n.toArray⟩:ByteArray)[0]'h=c:=by rw[LU];intro _;rfl
     clear h1 LU
     by_cases hc:c=63
     ·subst hc;have CV:=fun W=>hZ r W (by omega)
      cases hv:fH r with
      | false=>
       rw[hv]at CV HH;have SL:=ab CV;clear CV hv;go_wp2_with (go_at_call 152;refine (SL.o _).mono ?_;rintro e w6 ⟨rfl,cF⟩;have H6:=ab cF;clear cF);have h2:=vV.o;have k6:=H6.o;go_roundw
       case rel=>exact ⟨k+1,by omega,by go_num,by rw[dU.o];simpa[HH.o] using h2.1.later k6,h2.2.1.tr k6,h2.2.2.1.later k6,h2.2.2.2⟩
       case measure=>simp[intOf];omega
      | true=>
       rw[hv]at CV HH;have SL:=ab CV;clear CV hv;have Vq:=ab (show (P ++ (L.take k).filter ct).length+1<=4000000 by have:=qY.o;have:=ZF.o;have:=xU.o;rw[cU];omega);go_wp2_with (first | (go_at_call 152;refine (SL.o _).mono ?_;rintro e w6 ⟨rfl,cF⟩;have H6:=ab cF;have e6:=aa cF e0;clear cF) | (at_builtin;refine sR rfl _ _ rfl w.heap.size (by have:=(vV.o.2.1.tr H6.o).size;simp;omega) u3 (P ++ (L.take k).filter ct) rfl ((vV.o.1.later H6.o).later cI) w6.heap.size n rfl (ag (ah rfl) 0) Vq.o ?_;intro v7 w7 ho7 YL KW;have H7:=bx ho7 YL KW;clear ho7 YL KW));obtain ⟨h2r,h2b,h2s,h2n⟩:=vV.o;have h6:=H6.o;have h7:=H7.o;have hra:Below w6.heap.size w6 (w6.alloc (.cells #[.string ⟨n.toArray⟩] 9)):=cI;go_roundw
       case rel=>
        refine ⟨k+1,by omega,by go_num,by rw[dU.o];simpa[HH.o,<-List.append_assoc] using h7.1,((h2b.tr h6).tr hra).grown h7.2.1 ((h2b.tr h6).tr hra).size (fun b hb=>(h2r.lt b hb).1),((h2s.later h6).later hra).grown h7.2.1 h2n,fun b hb e=>?_⟩;rcases h7.2.2 b hb with h | h
        ·exact h2n b h e
        ·have h8:=jR e6;simp only[Value.ownBlock,c9]at e;simp only[World.size_alloc]at h;simp only at h8;omega
       case measure=>simp[intOf];omega
     ·have hh:ct n=false:=by rw[HH.o];simp[hc]
      have HH2:=ab hh;have XA:¬((c.toNat:Int)=63):=fun e=>hc (UInt8.toNat_inj.1 (by have h:c.toNat=63:=(by omega);exact h));clear hh hc;go_wp2_with fail;go_roundw
      case rel=>exact ⟨k+1,by omega,by go_num,by rw[dU.o];simpa[HH2.o] using vV.o.1,vV.o.2.1,vV.o.2.2.1,vV.o.2.2.2⟩
      case measure=>simp[intOf];omega
   ·have d_:k=k0:=by omega
    subst d_;have eE:¬((k:Int)<(k:Int)):=by omega
    go_wp2;go_roundw
    case rel=>exact ⟨j+1,by omega,by go_num,by rw[HT.o,<-cK (l:=L),<-xU.o];exact hr,eV⟩
    case measure=>simp[intOf];omega
 |clear qsR;have y2:wr.cell? ⟨w.heap.size+1,3,none⟩=some (.slice (some ⟨b',jZ,none⟩) k1 ve):=aa dx (ag nW.o 3);have Bv:(k:Int)<(k1:Int):=by omega
  first
  |clear qsj;have qy8:=();exact qkq
  |clear qsl;exact qkq
  |clear qsn;have GN:(ps ++ [(xn,xn)]).length+eI xs[k]<=1000000000:=by have:=Jr xs[k] (ap bj);first | omega | (simp only[cU,eT,List.length_nil];omega)
   have HU:=ab (hu.later aq);have qAN:=();exact qaT
  |clear qsp;have GN:(ps ++ [(xn,yn)]).length+eI xs[k]<=1000000000:=by have:=Jr xs[k] (ap bj);first | omega | (simp only[cU,eT,List.length_nil];omega)
   have HU:=ab (hu.later aq);have qAO:=();exact qaT
  |have GN:(ps ++ [(xn,yn)]).length+eI xs[k]<=1000000000:=by have:=Jr xs[k] (ap bj);first | omega | (simp only[cU,eT,List.length_nil];omega)
   have HU:=ab (hu.later aq);exact qaT
 |clear qvF
  first
  |clear qBa;have ce:((s.map bl).take k).length=k:=by rw[dS];have:=gt.o;simp;omega
   have qA4:=();exact qgZ
  |clear qxx;have qBb:=();exact qjv
  |clear qBh;have D3:(k:Int)<(m0:Int):=by omega
   have qBi:=();exact qlj
  |clear qsS;obtain ⟨uo,un,ua,ul,uc,ub,um,ue⟩:=u;have ⟨W2,aZ⟩:=aj (wr.alloc (.cells #[.int .u8 uo,.string un,.slice ua ul uc,.slice ub um ue] 36));have bG:=cM aZ;have Ag:=bS aZ;have u0:W2.cell? ⟨wr.heap.size,0,none⟩=some (.int .u8 uo):=ag Ag 0;exact qh2
  |have ce:((ss.map (cw kd c)).take k).length=k:=by rw[dS];have:=GM.o;simp;omega
   exact qgZ
 |clear qyq;have hW:Below wr.heap.size wr (wr.alloc (.cells #[.int .u8 u.o,.string u.n,.slice u.a u.l u.c,.slice u.b u.m u.e] 36)):=cI
  first
  |clear qAt;have Bv:(k:Int)<(k0:Int):=by omega
   have C2:=p_ x ok _ u hf ((hu.later aq).later hW);unfold FQ.val at C2;have ZB:=fun r=>vM (x:=x) xs[k] r;have sU:=hf.1;have ⟨T,hT⟩:=aj (kv x xs[k]);rw[<-hT]at ht C2 ZB;have ⟨tb,HT⟩:=aS C2 ht;have HB:=ab (aq.trans (hW.mono aq.size));have dU:=aA ZB sU;clear aq hW hu hf p_ ht c0 c1 c2 c3 C2 ZB sU hT
   cases T with
   | none=>
    go_wp2_with (go_at_call 165;refine tb.o.mono ?_;rintro e w4 ⟨⟨v1,v2,rfl,Np,jW⟩,aR⟩;obtain ⟨a3,c3,rfl⟩:=jW.slice;simp only[Option.map,Option.getD,List.length_nil]at Np jW ⊢;have eG:=ab (HB.o.trans (aR.mono HB.o.size));clear aR Np jW);exact qf8
   | some r=>
    obtain ⟨p,q⟩:=r;have hok:=dU.o.1 (p,q) rfl;have sU:=dU.o.2;have ⟨q0,Lk⟩:=aj q.length;have oQ:0<q0:=by rw[Lk];exact jp.2 hok.1
    have Rd:(0:Int)<(q0:Int):=by omega
    have Eg:p.length<=2000000:=by have:=hok.2.1;simp only at this;omega
    have ⟨zdb,HQ0⟩:=aS Eg Lk;clear Lk hok dU Eg sU;go_wp2_with (first | (go_at_call 165;refine tb.o.mono ?_;rintro e w4 ⟨⟨v1,v2,rfl,Np,jW⟩,aR⟩;obtain ⟨a3,c3,rfl⟩:=jW.slice;simp only[Option.map,Option.getD]at Np jW ⊢;rw[<-HQ0.o];have Lw:=ab Np;have I8:=ab jW;have eG:=ab (HB.o.trans (aR.mono HB.o.size));clear aR Np jW) | (at_builtin;refine tZ rfl _ _ rfl w4.heap.size k (ah rfl) p _ rfl rfl (Lw.o.later cI) zdb.o ?_;intro v5 w5 hv5 am;have HG:=aA hv5 am;clear hv5 am));have HE:=ab (show R=some (k :: p,q) by rw[HT.o]);have bh:Below w4.heap.size w4 w5:=by
     have hg:=HG.o.2;have hs:=hg.size;exact ⟨hg.os,hg.tape,hg.output,by simp at hs;omega,fun b hb=>(hg.block b (by simp;omega) (fun h=>by injection h with h;omega)).trans (bH _ _ _ hb)⟩
    refine bK (v:=.tuple #[v5,.slice a3 q0 c3]) (by simp[results,Tryz.results165,go_sem]) rfl ⟨⟨_,_,rfl,?_,?_⟩,eG.o.trans (bh.mono eG.o.size)⟩
    ·rw[HE.o];exact HG.o.1
    ·rw[HE.o,HQ0.o];exact I8.o.later bh
  |have CC:=ab (fd.o s[k] (ap bj) ok _ u ((hu.later aq).later hW));have ⟨N,hN⟩:=aj (A+iq x (s.take k));have ⟨M,hM⟩:=aj (ea x s[k]);have zfv:M<=nodesFs s:=by rw[hM];exact aN (pM x _) (fO (ap bj))
   have zfw:N<=10000000:=by have:=wl x (s.take k);have:=bQ s k;omega
   rw[<-hM]at CC js;rw[<-hN];have HS:=ab (show A+iq x (s.take (k+1))=N+M by omega);have ⟨cv,HW⟩:=aS aq hW;clear hu aq hW js hN hM c0 c1 c2 c3 hb1 bG;go_wp2_with (go_at_call 97;refine CC.o.mono ?_;rintro e w2 ⟨rfl,bG⟩;have bD:=ab bG;clear bG);go_roundw
   case rel=>exact ⟨k+1,by omega,by go_num,cv.o.trans ((HW.o.trans (bD.o.mono HW.o.size)).mono cv.o.size),by rw[HS.o];simp⟩
   case measure=>simp[intOf];omega
 |have ce:(l.take k).length=k:=by rw[dS];omega
  rw[ce]at hR ⊢;have HU:=ab ((hu.later aq).later (W':=wr.alloc (.cells #[.int .u8 u.o,.string u.n,.slice u.a u.l u.c,.slice u.b u.m u.e] 36)) cI);have ⟨cz,HR,dU⟩:=cE aq hR ce;clear hu aq hR ce c0 c1 c2 c3;have quO:=();exact qfD):G:=h
theorem qh6(h:G:=by
 have ⟨n1,eh⟩:=aj a.length;have ⟨m1,iI⟩:=aj ss.length;rw[<-eh]at hq iu
 first
 |clear qui;rw[<-iI]at hq lU;rw[<-eh,<-iI];have jD:=d_.later cZ;have kz:n.length<=2000000:=by have:=ma.2.1;omega
  first
  |clear qru;have ⟨W2,aZ⟩:=aj ((w.alloc (.cells #[.int .u8 15,.string ⟨n.toArray⟩,.slice sa n1 sc,.slice sb m1 se] 36)).alloc (.cells #[.int .u8 0,.string ⟨#[]⟩,.slice none 0 0,.slice none 0 0] 36));have qAP:=();exact qle
  |clear qrw;have ⟨W2,aZ⟩:=aj ((w.alloc (.cells #[.int .u8 16,.string ⟨n.toArray⟩,.slice sa n1 sc,.slice sb m1 se] 36)).alloc (.cells #[.int .u8 0,.string ⟨#[]⟩,.slice none 0 0,.slice none 0 0] 36));exact qle
  |have ⟨Wa,hWa⟩:=aj ((w.alloc (.cells #[.int .u8 so,.string ⟨n.toArray⟩,.slice sa n1 sc,.slice sb m1 se] 36)).alloc (.cells #[.int .u8 0,.string ⟨#[]⟩,.slice none 0 0,.slice none 0 0] 36));have bG:=k_ hWa;have gY:=xC hWa;have x1:=qM hWa;have x2:=jH hWa;have fJ:=jD.later bG;have jx:=eU;have ⟨RS,Gy⟩:=aj (cw kd c (.mk so n a ss));rw[<-Gy];have L4:(so == 15)=false:=by simp[ja]
   have iY:(so == 16)=false:=by simp[h16]
   have hfT:∀ t∈a,fitT t:=fun t ht=>⟨by have:=gW ht;simp only[nodesF]at sf;omega,kw (by omega) t (fP.1 ma.2.2.1 t ht)⟩
   have CF:=G0 w oz kb mF mT nF nT kd jD _ vL L c hL.strs (by omega) Sc;have uQ:bm so=true->a=[]/\∃g,ss=[g]:=fun h=>(ls hs h).2;have zfA:n1<=400:=by rw[eh];have:=iT a;simp only[nodesF]at sf;omega
   have zfB:m1<=400:=by rw[iI];have:=qS ss;simp only[nodesF]at sf;omega
   have ⟨W1,bY⟩:=aj (Wa.alloc (.cells #[.int .u8 so,.string ⟨n.toArray⟩,.slice none 0 0,.slice none 0 0] 36));have Wx:=cM bY;have y0:=bN Wx x1;have y1:=bN Wx x2;have y2:W1.heap[w.heap.size+1+1]?=some (.cells #[.int .u8 so,.string ⟨n.toArray⟩,.slice none 0 0,.slice none 0 0] 36 (0,0)):=by rw[bY];exact ah (by rw[gY])
   have _B:=ab (Fills.start (R:=w.heap.size+1+1) (mk:=fun rr=>#[.int .u8 so,.string ⟨n.toArray⟩,rr,.slice none 0 0]) (Row:=fun r W=>RowT W1.heap.size r ((a.map (da kd.ts c)).take 0) W) y2 (RowT.nil _ _));have dY:=ab (bG.tr Wx);have ⟨Lh,jS⟩:=aS y0 y1;have HW:=fG hWa bY gY x1 x2;have ⟨dT,fQ,HFT,zbS,qE,GM,fd,HQs⟩:=US iu lU CF hfT eh iI IH uQ;have HL:=cq hL VK Sc cZ;have HP:=sC hs sf zbR hsz FU eW;have ⟨UF,XV⟩:=aS ma Gy;have RE:=ab (i8.next cZ);have HQ0:=ab hq;have FV:=aA ja h16;clear iu lU CF hfT eh iI IH uQ hL VK Sc cZ hs sf zbR hsz FU eW ma Gy i8 hq bG gY x1 x2 Wx y0 y1 y2 bY hWa fJ jD d_ kz;simp only[FQ.val];have ⟨c0,c1,c2⟩:=mq HW.o.2.2.2.1;rw[HW.o.1]at c0 c1 c2;refine nG Tryz.func72 ?_;simp only[Tryz.ntmps72,Nat.reduceAdd,Nat.reduceSub,lE];gi_wp2;rw[<-HW.o.1,<-HW.o.2.1];clear c0 c1 c2;gi_loopw [66] (fun i wr=>∃k1:Nat,k1<=n1/\i=.int .i64 k1/\∃row,Fills 36 (w.heap.size+1+1) W1.heap.size (fun rr=>#[.int .u8 so,.string ⟨n.toArray⟩,rr,.slice none 0 0]) (fun r W=>RowT W1.heap.size r ((a.map (da kd.ts c)).take k1) W) W1 wr row) (fun i _=>n1 - (intOf i).toNat)
   case atStart=>exact ⟨0,aX _,rfl,_,_B.o⟩
   case round=>
    have qzw:=();exact qdW
 |rw[<-iI]at hq;rw[<-eh,<-iI]
  first
  |clear qrn;have ⟨R,hR⟩:=aj (jv k (.mk so n a ss));have hE:=hR;rw[O5]at hE;rw[<-hR];have qAE:=();exact qbj
  |clear qrp;have ⟨R,hR⟩:=aj (mj k (.mk so n a ss));have hE:=hR;rw[JC]at hE;rw[<-hR];have quV:=();exact qg6
  |have ⟨R,hR⟩:=aj (qQ k (.mk so n a ss));have hE:=hR;rw[yt]at hE;rw[<-hR];exact qg6):G:=h
theorem qfJ(h:G:=by
 obtain ⟨b1,o1,⟨xv,xn,xa,xl,xc⟩,rfl,sM,hx,c0,c1,c2⟩:=HV.o.2.2.1.get gZ
 first
 |clear qoH;obtain ⟨b2,o2,⟨yv,yn,ya,yl,yc⟩,rfl,sN,hy,y0,y1,y2⟩:=HV.o.2.2.2.get AU;have rp:∀ b,¬M b->¬(b=mT):=fun b hb e=>hb (e ▸ HG.o.2.2.2.1);simp only at c0 c1 c2 y0 y1 y2;have d0:=bi.cell (rp _ sM) c0;have d1:=bi.cell (rp _ sM) c1;have d2:=bi.cell (rp _ sM) c2;have g0:=bi.cell (rp _ sN) y0;have g1:=bi.cell (rp _ sN) y1;have g2:=bi.cell (rp _ sN) y2;have UG:=(bi.same _ (by have:=H3.o.2.1;omega) (by have:=HmT.o;omega)).trans H3.o.2.2.1;have _a:=(bi.same _ (by have:=H3.o.2.1;omega) (by have:=HmT.o;omega)).trans H3.o.2.2.2.2.1;have quq:=();exact qaJ
 |obtain ⟨b2,o2,⟨yv,yn,ya,yl,yc⟩,rfl,sN,hy,y0,y1,y2⟩:=HVa.o.get AU;simp only at c0 c1 c2 y0 y1 y2;have d0:=L5.cell sM c0;have d1:=L5.cell sM c1;have d2:=L5.cell sM c2;have g0:=L5.cell sN y0;have g1:=L5.cell sN y1;have g2:=L5.cell sN y2;have UG:=(bi.same _ (by have:=H4.o.2.1;omega) (by omega)).trans H4.o.2.2.1;have x6w:=(bi.same _ (bA H4.o.2.2.2.1) (by have:=H4.o.2.2.2.2;have:=H1.o.2.1;omega)).trans H4.o.2.2.2.1;exact qaJ):G:=h
theorem qeG(h:G:=by
 obtain ⟨i0,hi,ow,iM,gY⟩:=info_parts gH;obtain rfl:=hv.len;have bW:=ar.len
 first
 |clear qmF
  by_cases h0:l=[]
  ·subst h0;have qz9:=();exact qkK
  ·have ⟨k0,cd⟩:=aj l.length;have qzM:=();exact qeH
 |obtain ⟨na,nc,rfl⟩:=Xh.slice;have ⟨n2,i_⟩:=aj ns.length;rw[<-i_]at Xh hns ⊢;have ⟨k0,cd⟩:=aj l.length;rw[<-cd]at bW hv ⊢;have ⟨du,xU,dT,HNs,HCp,jw⟩:=QJ cd i_ hv Xh XT ar;clear hv Xh XT cd i_ ar;go_enter Tryz.func153,Tryz.ntmps153;go_wp2;go_loopw [5,6] (fun r i wr=>∃k:Nat,k<=k0/\i=.int .i64 k/\RowT w.heap.size r ((dC ns l).take k) wr/\Below w.heap.size w wr) (fun _ i _=>k0 - (intOf i).toNat)
  case atStart=>exact ⟨0,aX _,rfl,RowT.nil _ _,ai _ _⟩
  case round=>
   obtain ⟨k,hk,rfl,hR,aq⟩:=hrel;obtain ⟨ra,rc,rfl⟩:=hR.slice;have ⟨W5,Gx⟩:=aj wr;subst Gx;have ce:((dC ns l).take k).length=k:=by rw[dS,nC,<-du.o];omega
   rw[ce]at hR ⊢
   by_cases hlt:k<k0
   ·have dy:=cb du.o hlt;obtain ⟨b,off,u,rfl,_,hu,c0,c1,c2⟩:=dT.o.get dy;have uO:=jw.o.mem (ap dy);have HC:=HCp.o l[k] (ap dy);obtain ⟨v,n,al,hel⟩:∃v n al,l[k]=.mk v n al:=by cases l[k];exact ⟨_,_,_,rfl⟩
    have yZ:(dC ns l).take (k+1)=(dC ns l).take k ++ [eQ ns v n al n2]:=by
     rw[DG,<-List.map_take,<-List.map_take,mh dy,List.map_append,hel,xU.o];simp[eQ,nA]
    rw[hel]at hu uO HC
    change KB ns al at HC
    obtain ⟨s,hs,bB⟩:=aM.1 hu;obtain ⟨qv,qn,qa,ql,qc⟩:=u;exact qam
   ·obtain rfl:k=k0:=by omega
    have ht:(dC ns l).take k=dC ns l:=iP (by rw[nC,du.o];omega);rw[ht]at hR;have ⟨HR,HB⟩:=aS hR aq;clear hR aq ht ce;go_wp2;go_ret;exact ⟨⟨ra,rc,rfl,HR.o.terms⟩,HB.o⟩):G:=h
theorem qez(h:G:=by
 obtain ⟨va,vs2,h1,fC,Bw⟩:=aQ.1 hq;obtain ⟨uo,un,ua,ul,uc,ub,um,ue⟩:=q
 first
 |clear qmn;have qrf:=();exact qah
 |have qrg:=();exact qah):G:=h
theorem qeZ(h:G:=by
 rw[yz,<-e,wC _ [] y (fun s hs=>by cases hs)];rfl):G:=h
theorem qeu(h:G:=by
 simp only[Prod.mk.injEq,and_true]at h;subst h;obtain ⟨k1,k2⟩:=(dj k).1 hk
 first
 |clear ql6;refine (dj _).2 ⟨U8 k1 ?_ (E7 hp hi) hg,k2⟩;have hs:=hp.s;obtain ⟨⟨o,n,a,s⟩,f,c⟩:=p;simp only[Fm.op]at ja;subst ja;simp only[okF,ae]at hs;exact hs.2.1.1
 |refine (dj _).2 ⟨k1,vw hp.c _ _ _ _ ?_ ?_ k2 ha⟩
  ·have hs:=hp.s;obtain ⟨⟨o,n,a,s⟩,f,c⟩:=p;simp only[okF,ae]at hs;exact hs.2.2.2.1
  ·have hs:=hp.f;obtain ⟨s,⟨o,n,a,l⟩,c⟩:=p;simp only[okF,ae]at hs;exact hs.2.2.2.1):G:=h
theorem qfp(h:G:=by
 exact ⟨by omega,fun h=>⟨h2 h.1,h4 h.2⟩⟩):G:=h
theorem qg8(h:G:=by
 go_simp;refine hK _ _ (fun _=>by rw[cR.o];exact eG.o) (fun _=>?_);clear hK K
 first
 |clear qr9;refine b_ 30 rfl fun K hK=>?_
  exact qcU
 |refine ku ?_
  first
  |clear qr3;go_wp2;go_roundw
   case rel=>exact ⟨k+1,by omega,by go_num,sI.o,eG.o⟩
   case measure=>simp[intOf];omega
  |clear qr5;go_wp2;go_roundw
   case rel=>exact ⟨j+1,by omega,by go_num,sI.o,eG.o⟩
   case measure=>simp[intOf];omega
  |cases V with
   | false=>
    have HE3:=ab (BH.o fun h=>by
     subst h;have:=congrArg Prod.snd (HX.o.1.trans HX.o.2.symm);have e:=HV.o;rw[(gK _ _).2 (by rw[show tx=ty from this])]at e;cases e)
    go_wp2;go_ret;exact ⟨by rw[HE3.o];rfl,HE.o.1.tr eG.o⟩
   | true=>
    go_wp2;go_roundw
    case rel=>exact ⟨j+1,by omega,by go_num,eG.o,pW HT.o bj kK (by rw[<-HX.o.1,<-HX.o.2];have:=(gK _ _).1 HV.o.symm;injection this with e _;rw[e])⟩
    case measure=>simp[intOf];omega):G:=h
theorem qk4(h:G:=by
 go_wp2;go_ret;exact ⟨rT (by rw[HE.o]),HB.o⟩):G:=h
theorem qb8(h:G:=by
 obtain rfl:a=[]:=by simpa using h.1
 by_cases h1:n == x
 first
 |clear qma
  ·simp[h1,hu]
  ·simp[h1,jL,sW,dO]
 |clear qmb
  ·simp[h1,aP,dh]
  ·simp[h1,sW,dh]
 |·simp[h1,aP,nodesT]
  ·simp[h1,sW,nodesT]):G:=h
theorem qeI(h:G:=by
 obtain ⟨u1,u2,h1,LQ,Jl⟩:=aQ.1 Z6;obtain ⟨c0,c1,c2,c3,c4,c5,c6,c7⟩:=c
 first
 |clear qmJ;have qri:=();exact qah
 |have qrk:=();exact qah):G:=h
theorem qdS(h:G:=by
 rw[<-cd]at bW;rw[<-dQ]at ek;have ⟨du,gt⟩:=aS cd dQ
 first
 |clear qyA;clear hq bB eb ar ih;unfold FQ.val;rw[<-cd,<-dQ];clear cd dQ
  first
  |clear qxZ;refine nG Tryz.func66 ?_;simp only[Tryz.ntmps66,Nat.reduceAdd,Nat.reduceSub,lE];have jx:=eU;gi_wp2;have ⟨W1,bY⟩:=aj (((w.alloc (.cells #[.int .u8 qo,.string ⟨n.toArray⟩,.slice qa k0 qc,.slice qb m0 qe] 36)).alloc (.cells #[.int .u8 0,.string ⟨#[]⟩,.slice none 0 0,.slice none 0 0] 36)).alloc (.cells #[.int .u8 qo,.string ⟨n.toArray⟩,.slice none 0 0,.slice none 0 0] 36));have jf:=uS bY;have x0:=yX bY;have x1:=qN bY;have x2:=oD bY;rw[<-bY];clear bY;have ⟨sF,Lh,jS⟩:=cE jf x0 x1;have uY:=ab (Fills.start (R:=w.heap.size+1+1) (mk:=fun rr=>#[.int .u8 qo,.string ⟨n.toArray⟩,rr,.slice none 0 0]) (Row:=fun r W=>RowT W1.heap.size r ((a.map aK).take 0) W) x2 (RowT.nil _ _));clear jf x0 x1 x2;gi_loopw [16] (fun i Gz=>∃k1:Nat,k1<=k0/\i=.int .i64 k1/\∃row,Fills 36 (w.heap.size+1+1) W1.heap.size (fun rr=>#[.int .u8 qo,.string ⟨n.toArray⟩,rr,.slice none 0 0]) (fun r W=>RowT W1.heap.size r ((a.map aK).take k1) W) W1 Gz row) (fun i _=>k0 - (intOf i).toNat)
   case atStart=>exact ⟨0,aX _,rfl,_,uY.o⟩
   case round=>
    have qzx:=();exact qdW
  |have ⟨W0,hW0⟩:=aj ((w.alloc (.cells #[.int .u8 qo,.string ⟨n.toArray⟩,.slice qa k0 qc,.slice qb m0 qe] 36)).alloc (.cells #[.int .u8 0,.string ⟨#[]⟩,.slice none 0 0,.slice none 0 0] 36));have hB0:=k_ hW0;have x0:=qM hW0;have x1:=jH hW0;have Eb:=xC hW0;have HW0:=ab hW0;clear hW0;obtain ⟨S,hS⟩:∃S:World->Prop,S=fun V=>Below W0.heap.size W0 V:=⟨_,rfl⟩;have ff:∀ V,S V->V.cell? ⟨w.heap.size,0,none⟩=some (.int .u8 qo)/\V.cell? ⟨w.heap.size,1,none⟩=some (.string ⟨n.toArray⟩)/\V.cell? ⟨w.heap.size,2,none⟩=some (.slice qa k0 qc):=fun V h=>by rw[hS]at h;exact ⟨aa h (ag x0 0),aa h (ag x0 1),aa h (ag x0 2)⟩
   have dN:S W0.drew:=by rw[hS];exact (ai _ _).drew
   have cR:=ab hS;have tb:=ab (fun (V:World) (hb:Below W0.heap.size W0 V)=>EN ns hns a AV.o ok Y1 V qa k0 qc _ (by rw[du.o];exact (dT.o.later hB0).later hb) ((HNs.o.later hB0).later hb));have H0:=cq hB0 x0 x1 Eb;clear hB0 x0 x1 Eb hS;go_enter Tryz.func88,Tryz.ntmps88;go_wp2;rw[<-HW0.o];go_cut [5] from 7 to 15 (fun s5 wx=>∃b5,s5=.pointer (some ⟨b5,0,none⟩)/\∃r1 r2,wx.heap[b5]?=some (.cells #[.int .u8 qo,.string ⟨n.toArray⟩,.slice r1 k0 r2,.slice none 0 0] 36 (0,0))/\W0.heap.size<=b5/\Below W0.heap.size W0 wx/\TermsV (fun b=>W0.heap.size<=b/\b≠b5) wx (.slice r1 k0 r2) (dC ns a))
   case first=>
    exact qjY
   case rest=>
   obtain ⟨b5,h5,r1,r2,hx5,bh,yN,ht5⟩:=hcut;rw[h5];have ⟨W1,bY⟩:=aj wc;rw[<-bY]at hx5 yN ht5 ⊢;have dY:=ab (H0.o.1.tr yN);have H1:=cq yN hx5 bh ht5;have x0:=bN yN H0.o.2.1;have x1:=bN yN H0.o.2.2.1;have ⟨Lh,jS⟩:=aS x0 x1;clear hx5 yN ht5 h5 bY ff dN cR tb S wc;have zfO:w.heap.size+2<=b5:=by have:=H0.o.2.2.2;omega
   have e3:W1.cell? ⟨w.heap.size,3,none⟩=some (.slice qb m0 qe):=ag x0 3;clear x0 x1;have uY:=ab (Fills.start (R:=b5) (mk:=fun rr=>#[.int .u8 qo,.string ⟨n.toArray⟩,.slice r1 k0 r2,rr]) (Row:=fun r W=>RowF W1.heap.size r ((s.map (et ns)).take 0) W) H1.o.2.1 (RowF.nil _ _));go_wp2;go_loopw [6] (fun i wr=>∃k:Nat,k<=m0/\i=.int .i64 k/\∃row,Fills 36 (b5) W1.heap.size (fun rr=>#[.int .u8 qo,.string ⟨n.toArray⟩,.slice r1 k0 r2,rr]) (fun r W=>RowF W1.heap.size r ((s.map (et ns)).take k) W) W1 wr row) (fun i _=>m0 - (intOf i).toNat)
   case atStart=>exact ⟨0,aX _,rfl,_,uY.o⟩
   case round=>
    obtain ⟨k,hk,rfl,row,hF⟩:=hrel;have aq:=hF.below dY.o (by have:=H1.o.2.2.1;have:=H0.o.1.size;omega);have p3:wr.cell? ⟨w.heap.size,3,none⟩=some (.slice qb m0 qe):=ag (hF.other (b:=w.heap.size) (by omega) Lh.o) 3
    by_cases hlt:k<m0
    ·have dy:=cb gt.o hlt;have qBh:=();exact qa5
    ·obtain rfl:k=m0:=by omega
     exact qlj
 |clear qyC;clear hq bB eb ar ih yh uQ IH tP hfz hnz hz hT DV AA hqo p9;unfold FQ.val;rw[<-cd,<-dQ];clear cd dQ;have ⟨RS,Gy⟩:=aj (fI (kk+1) nx z (.mk qo n a s));rw[<-Gy];have XV:=ab Gy;clear Gy;refine nG Tryz.func101 ?_;simp only[Tryz.ntmps101,Nat.reduceAdd,Nat.reduceSub,lE];have jx:=eU;gi_wp2;have ⟨W1,bY⟩:=aj ((((w.alloc (.cells #[.int .u8 qo,.string ⟨n.toArray⟩,.slice qa k0 qc,.slice qb m0 qe] 36)).alloc (.cells #[.bool zv,.string zn,.slice za zl zc] 43)).alloc (.cells #[.int .u8 0,.string ⟨#[]⟩,.slice none 0 0,.slice none 0 0] 36)).alloc (.cells #[.int .u8 qo,.string ⟨n.toArray⟩,.slice none 0 0,.slice none 0 0] 36));have jf:=UT bY;have x0:=QK bY;have xu:=Xs bY;have x1:=Xt bY;have x2:=QL bY;rw[<-bY];clear bY;have ⟨dY,Lh,HXU,jS⟩:=eD jf x0 xu x1;have uY:=ab (Fills.start (R:=w.heap.size+1+1+1) (mk:=fun rr=>#[.int .u8 qo,.string ⟨n.toArray⟩,rr,.slice none 0 0]) (Row:=fun r W=>RowT W1.heap.size r ((a.map (lG nx z)).take 0) W) x2 (RowT.nil _ _));clear jf x0 x1 x2 xu;gi_loopw [23] (fun i Gz=>∃k1:Nat,k1<=k0/\i=.int .i64 k1/\∃row,Fills 36 (w.heap.size+1+1+1) W1.heap.size (fun rr=>#[.int .u8 qo,.string ⟨n.toArray⟩,rr,.slice none 0 0]) (fun r W=>RowT W1.heap.size r ((a.map (lG nx z)).take k1) W) W1 Gz row) (fun i _=>k0 - (intOf i).toNat)
  case atStart=>exact ⟨0,aX _,rfl,_,uY.o⟩
  case round=>
   exact qdW
 |obtain ⟨sH,hi'⟩:∃sH:List Str,sH=(if bm qo then n :: ins else ins):=⟨_,rfl⟩;have BE:Hd ((eq ps.reverse ins a=none->RS=none)/\(eZ ps.reverse sH s=none->RS=none)/\∀ a' s',eq ps.reverse ins a=some a'->eZ ps.reverse sH s=some s'->RS=some (.mk qo n a' s')):=ab (by
   rw[Gy,hi'];unfold e8;refine ⟨fun h=>by rw[h],fun h=>by rw[h];cases eq ps.reverse ins a <;> rfl,fun a' s' h1 h2=>by rw[h1,h2]⟩)
  have HI':=ab hi';have ⟨W3,dF⟩:=aj (((w.alloc (.cells q.cells 89)).alloc (.cells #[.int .u8 qo,.string ⟨n.toArray⟩,.slice qa k0 qc,.slice qb m0 qe] 36)).alloc (.cells #[.int .u8 0,.string ⟨#[]⟩,.slice none 0 0,.slice none 0 0] 36));exact qgQ):G:=h
theorem qlg(h:G:=by
 go_simp;refine hK _ _ (fun _=>by rw[cR.o];exact hb1) (fun _=>?_);clear hK K
 first
 |clear qA0;refine b_ 27 rfl fun K hK=>?_
  go_simp;have qBf:=();exact qar
 |refine b_ 20 rfl fun K hK=>?_
  go_simp;have qBg:=();exact qar):G:=h
theorem qif(h:G:=by
 have g2:W6.cell? ⟨w.heap.size+1,2,none⟩=some (.slice ra k0 rc):=ag x6 2
 first
 |clear quF;have hz:=(bA jS.o);obtain ⟨hp,bZ⟩:=HP.o;have qyW:=();exact qkk
 |have g3:W6.cell? ⟨w.heap.size+1,3,none⟩=some (.slice rb m0 re):=ag x6 3;have hz:=(bA jS.o);obtain ⟨hp,hs,bZ⟩:=HP.o;exact qkk):G:=h
theorem qlb(h:G:=by
 obtain ⟨k,hk,rfl,aq,ik⟩:=hrel;have hx:=bN aq H2.o.2.2
 by_cases hlt:k<n1
 first
 |clear qAM
  ·have bj:k<b.fs.length:=by rw[<-HN.o];exact hlt
   have qzm:=();exact qdV
  ·obtain rfl:k=n1:=by omega
   have HE:=ab (show R=none by rw[ik,gT (by rw[<-HN.o];exact aC _)];rfl);obtain ⟨e0,e1,e2,e3,y0,y1,y2,y3⟩:=dc hx;have HB:=aA hx (H2.o.1.tr aq);clear aq ik hx;go_wp2;obtain ⟨W8,kV,x8,k8,g0,g1,g2,g3⟩:=yf HB.o.1 (.int .u8 0) (.string ⟨#[]⟩) (.slice none 0 0) (.slice none 0 0);rw[<-kV];refine bK (v:=.tuple #[FQ.val ⟨0,⟨#[]⟩,none,0,0,none,0,0⟩,.bool false]) (by simp[FQ.val,results,Tryz.results16,go_sem,g0,g1,g2,g3]) rfl ⟨⟨⟨0,⟨#[]⟩,none,0,0,none,0,0⟩,by rw[HE.o];rfl,?_⟩,Below.kp1 HB.o.2 k8 (by omega)⟩;rw[HE.o];exact mO
 |·have bj:k<b.ts.length:=by rw[<-HN.o];exact hlt
   obtain ⟨bb,off,⟨qo,qn,qa,ql,qc⟩,rfl,hok,hf,c0,c1,c2,c3⟩:=Z9.o.get bj;have l8:=H2.o.1.tr aq;have ⟨d0,d1,d2,d3⟩:=lH l8 c0 c1 c2 c3;have ⟨nm,dD⟩:=aj (b.ts[k].1);have ⟨g,hg⟩:=aj (b.ts[k].2);exact qk2
  ·obtain rfl:k=n1:=by omega
   have HE:=ab (show R=none by rw[ik,gT (by rw[<-HN.o];exact aC _)];rfl);obtain ⟨e0,e1,e2,y0,y1,y2⟩:=fV hx;have HB:=aA hx (H2.o.1.tr aq);clear aq ik hx;go_wp2;obtain ⟨W8,kV,x8,k8,g0,g1,g2⟩:=sJ HB.o.1 (.bool false) (.string ⟨#[]⟩) (.slice none 0 0);rw[<-kV];refine bK (v:=.tuple #[TQ.val ⟨false,⟨#[]⟩,none,0,0⟩,.bool false]) (by simp[TQ.val,results,Tryz.results18,go_sem,g0,g1,g2]) rfl ⟨⟨⟨false,⟨#[]⟩,none,0,0⟩,by rw[HE.o];rfl,?_⟩,Below.kp1 HB.o.2 k8 (by omega)⟩;rw[HE.o];exact Fz):G:=h
theorem qjU(h:G:=by
 simp only[FQ.val,<-hm]at HC;have cR:=ab hS;clear hS hm hE xx ro e0 e1 e2 e3
 first
 |clear qyf;have qw0:=();exact qdJ
 |have qwL:=();exact qdF):G:=h
theorem qcr(h:G:=by
 have Bv:decide ((k:Int)<(k0:Int))=true:=by simp;omega
 first
 |clear qnT;have HE:=ab (show mg l=false by unfold mg;rw[hcut.trans (zV _ ro)];simp;omega);have Xc:=ab aq;clear hcut aq;go_wp2;go_ret;exact ⟨az HE.o.symm,Xc.o⟩
 |clear qyP;have HE:=ab (hcut.trans (zV _ ro));clear hcut aq;exact qkf
 |have he:=hcut.trans (MH _ ro);have ⟨HE,HB⟩:=aS he aq;clear he hcut aq;exact qk4):G:=h
theorem qgQ(h:G:=by
 have aG:=uS dF;have xp:=yX dF;have xt:=qN dF;have x1:=oD dF;have rV:=Ir dF
 first
 |clear qrL;rw[<-hR];have HR:=ab hR;have bD:=aA aG rV;have ⟨HXP,jS,Af⟩:=cE xp x1 dF;have p0:=iX xp;have qtT:=();exact qaj
 |rw[<-Gy];have bD:=aA aG rV;have Af:=ab dF;have qtP:=();exact qaj):G:=h
theorem qlj(h:G:=by
 have ce:((s.map (et ns)).take k).length=k:=by rw[dS];have:=gt.o;simp;omega
 first
 |clear qBi;exact qcX
 |have j_:(s.map (et ns)).take k=(s.map (et ns)):=iP (by have:=gt.o;simp;omega);exact qbu):G:=h
theorem qfK(h:G:=by
 have d0:=bi.cell jy.2 c0;have d1:=bi.cell jy.2 c1;have d2:=bi.cell jy.2 c2
 first
 |clear qoJ;have d3:=bi.cell jy.2 c3;have js:=vi bj;have qzN:=();exact qfL
 |have qzp:=();exact qks):G:=h
theorem qk0(h:G:=by
 have g0:=aa xq (ag hx 0);have g1:=aa xq (ag hx 1);have g2:=aa xq (ag hx 2)
 first
 |clear qAq;refine bK (v:=.tuple #[TQ.val ⟨false,⟨#[]⟩,none,0,0⟩,.bool false]) (by simp[TQ.val,results,Tryz.results232,go_sem,g0,g1,g2]) rfl ⟨⟨⟨false,⟨#[]⟩,none,0,0⟩,rfl,fun u h=>by cases h⟩,hba.tr xq⟩
 |refine bK (v:=.tuple #[TQ.val ⟨qv,qn,qa,ql,qc⟩,.bool true]) (by simp[TQ.val,results,Tryz.results232,go_sem,g0,g1,g2]) rfl ⟨⟨⟨qv,qn,qa,ql,qc⟩,rfl,fun u2 h=>by cases h;exact hqw.later (hba.tr xq)⟩,hba.tr xq⟩):G:=h
theorem qfo(h:G:=by
 have ha:a=[]:=by cases a with | nil=>rfl | cons t l=>simp[bF]at h
 subst ha
 first
 |clear qnV;refine ⟨?_,rfl,rfl⟩;simp[jc,Xe,d9]
 |have hh:ct n=false:=by
   cases hh:ct n
   ·rfl
   ·have:=hz n hh (by simp[uX]);rw[List.contains_iff_mem.2 this]at hc;cases hc
  rw[hh]at h;refine ⟨?_,rfl,rfl⟩;simp only[jc,↓reduceIte,dC,List.isEmpty_nil,dz,Bool.false_and,Bool.or_false];simpa using h.2):G:=h
theorem qjY(h:G:=by
 have jx:=eU;refine (wpIn_wide (n:=3)).1 ?_;refine lF S 10 dN fun jE bV=>?_
 first
 |clear qyk;refine bw 0 23 (.pointer (some ⟨b5,3,none⟩)) rfl bV fun cB=>?_
  simp only[af];refine c_ 1 24 (.slice ra k rc) rfl (fun V hX=>by have g0:=f0 V hX;go_simp) cB fun fB=>?_;simp only[af];refine bw 2 25 (.pointer (some ⟨w.heap.size,3,none⟩)) rfl fB fun gq=>?_;simp only[af];refine c_ 3 26 (.slice (some ⟨b,off,none⟩) m0 qe) rfl (fun V hX=>by have g0:=f2 V hX;go_simp) gq fun ir=>?_;simp only[af];refine bw 4 27 (.int .i64 (k:Int)) rfl ir fun jj=>?_;simp only[af];refine bw 5 28 (.pointer (some ⟨b,off+k * 4,none⟩)) rfl jj fun jz=>?_;simp only[af];refine c_ 6 29 (.agg #[.int .u8 u.o,.string u.n,.slice u.a u.l u.c,.slice u.b u.m u.e]) rfl (fun V hX=>by obtain ⟨g0,g1,g2,g3⟩:=f1 V hX;go_simp) jz fun lM=>?_;simp only[af];refine bw 7 30 (.slice na n2 nc) rfl lM fun qh=>?_;simp only[af];refine b_ 8 rfl fun K hK=>?_;go_simp;refine aH.2 ((fd.o s[k] (ap dy) (u_.o.mem (ap dy)) _ Y1 wr.drew u _ (HU.o.later (cv.o.drew)) ((HNs.o.later cz.o).later (cv.o.drew))).mono ?_);rintro _ A ⟨p,rfl,hp,hA⟩;have bZ:Below wr.heap.size wr A:=((ai wr.heap.size wr).drew).trans hA;have qBe:=();exact qar
 |refine bw 0 7 (.pointer (some ⟨w.heap.size,0,none⟩)) rfl bV fun cB=>?_
  simp only[af];refine c_ 1 8 (.int .u8 qo) rfl (fun V hX=>by obtain ⟨h0,h1,h2⟩:=ff V hX;go_simp) cB fun fB=>?_;simp only[af];refine bw 2 9 (.pointer (some ⟨w.heap.size,1,none⟩)) rfl fB fun gq=>?_;simp only[af];refine c_ 3 10 (.string ⟨n.toArray⟩) rfl (fun V hX=>by obtain ⟨h0,h1,h2⟩:=ff V hX;go_simp) gq fun ir=>?_;simp only[af];refine bw 4 11 (.pointer (some ⟨w.heap.size,2,none⟩)) rfl ir fun jj=>?_;simp only[af];refine c_ 5 12 (.slice qa k0 qc) rfl (fun V hX=>by obtain ⟨h0,h1,h2⟩:=ff V hX;go_simp) jj fun jz=>?_;simp only[af];refine bw 6 13 (.slice na n2 nc) rfl jz fun lM=>?_;simp only[af];have yV:Below W0.heap.size W0 W0.drew:=(ai _ _).drew;refine _c (i:=7) (j:=9) rfl rfl (by kernel_rfl) (by rfl) (by rfl) (fun K hK=>?_) (fun K hK=>?_)
  ·go_simp;refine aH.2 ((tb.o _ yV).mono ?_);rintro _ A ⟨⟨r1,r2,rfl,hp⟩,hA⟩;simp only[<-du.o]at hp ⊢;have bZ:Below W0.heap.size W0 A:=yV.trans (hA.mono yV.size);refine hK _ _ (fun _=>by rw[cR.o];exact bZ) (fun qh=>?_);clear hK K;refine bw 8 15 (.agg #[.int .u8 qo,.string ⟨n.toArray⟩,.slice r1 k0 r2,.slice none 0 0]) rfl (by rw[cR.o];exact bZ) fun Eu=>?_;simp only[af];refine b_ 9 rfl fun K hK=>?_;go_simp;have ⟨EB,yq⟩:=aj A.heap.size;have ⟨A1,qi⟩:=aj (A.alloc (.cells #[.int .u8 0,.string ⟨#[]⟩,.slice none 0 0,.slice none 0 0] 36));have ug:=cM qi;have qzk:=();exact qkr
  ·go_simp;have ⟨EB,yq⟩:=aj W0.heap.size;have ⟨A1,qi⟩:=aj (W0.alloc (.cells #[.int .u8 0,.string ⟨#[]⟩,.slice none 0 0,.slice none 0 0] 36)).drew;have ug:Below W0.heap.size W0 A1:=by rw[qi];exact cI.drew
   exact qkr):G:=h
theorem qe0(h:G:=by
 obtain ⟨g',e1,e2⟩:=hl.f _ _ hk;rw[h2]at e1;simp only[c9]at e1;subst e1
 first
 |clear qnq;have w0:=lu (iZ ((dj k).1 hl.v).1 hk).1;have:cg [] g0 im=true:=(jg w0.1 i1.1).2 (e2.trans QD);have:aY k p=(k,0):=by
   unfold aY;rw[ak h16,aw ja,h1];simp only[hk,this,if_true]
  rw[this];exact ⟨rfl,hl.f,hl.t⟩
 |have gv0:=iZ ((dj k).1 hl.v).1 hk;have w0:=lu gv0.1;simp only[h1,hn];have zdK:=Sy (kL x0) w0.1 (nY gv0.1) w1.1 (nY gv.1) e2;rw[zdK];rcases h3 with ⟨h0,h3⟩ | ⟨h0,t,ht,hs,h3⟩
  ·rw[aw h0];have:cg [] g0 im=true:=(jg w0.1 i1.1).2 (e2.trans ((jg w1.1 i1.1).1 h3));rw[aw this];exact .inl ⟨rfl,hl.f,hl.t⟩
  ·rw[ak h0];have U9:=(pR (kl (oY ((dj b).1 hb).2 ht).1) (depthF g) g (bI x0) w1.1 w1.2.1 (aC _)).1;have pL:nodesT t<=401:=by
    have h5:ea (bI x0) g * (nodesT t - 1)<=400:=by have h7:=i1.2.2.1;have h8:=hp.n;omega
    have h6:=Nat.le_mul_of_pos_left (nodesT t - 1) (Nat.pos_of_ne_zero h0);omega
   -- whatever term is put so that it is alike, it is that one
   have zdL:∀ u:Tm,jL u=true->nodesF g0+ea (bI x0) g * (nodesT u - 1)=nodesF im->cg [] (e9 (bI x0) u g0) im=true->u=t:=by
    intro u hu js hau;have hnu:nodesT u<=401:=by
     have h5:ea (bI x0) g * (nodesT u - 1)<=400:=by have h7:=i1.2.2.1;have h8:=hp.n;omega
     have h6:=Nat.le_mul_of_pos_left (nodesT u - 1) (Nat.pos_of_ne_zero h0);omega
    have hpu:=(pR hu (depthF g0) g0 (bI x0) w0.1 w0.2.1 (aC _)).1;have d1:=(jg (f:=e9 (bI x0) u g0) hpu i1.1).1 hau;have d2:=(jg (f:=e9 (bI x0) t g) U9 i1.1).1 h3;have d3:=d1.trans d2.symm;unfold db e9 at d3;rw[nS (depthF g0) g0 (bI x0) u _ _ w0.1 w0.2.1 (aC _) (by have:=w0.2.2.1;omega),nS (depthF g) g (bI x0) t _ _ w1.1 w1.2.1 (aC _) (by have:=w1.2.2.1;omega),Q' e2]at d3;have aT:bI x0∈aL [] g:=Decidable.not_not.1 (fun h=>h0 ((yx (kL x0) g (nY gv.1)).2 h));have d4:=JX g _ _ 0 w1.1 d3 (bI x0) aT;simp only[upd,beq_self_eq_true,↓reduceIte]at d4;exact G8 u t hu (kl (oY ((dj b).1 hb).2 ht).1) d4
   have zbF:∀ (u:Tm) (ts:List (Str×Tm)),jL u=true->(u=t->qr ts b.ts) →
     ((if (nodesF g0+ea (bI x0) g * (nodesT u - 1) != nodesF im)=true then (({ k with ts:=ts }:Bd),(70:Int)) else if cg [] (e9 (bI x0) u g0) im=true then ({ k with ts:=ts },0) else ({ k with ts:=ts },70)).2=0 ∧
       (∀ n g',getB (if (nodesF g0+ea (bI x0) g * (nodesT u - 1) != nodesF im)=true then (({ k with ts:=ts }:Bd),(70:Int)) else if cg [] (e9 (bI x0) u g0) im=true then ({ k with ts:=ts },0) else ({ k with ts:=ts },70)).1.fs n=some g'->∃g'',getB b.fs n=some g''/\db g'=db g'') ∧
       qr (if (nodesF g0+ea (bI x0) g * (nodesT u - 1) != nodesF im)=true then (({ k with ts:=ts }:Bd),(70:Int)) else if cg [] (e9 (bI x0) u g0) im=true then ({ k with ts:=ts },0) else ({ k with ts:=ts },70)).1.ts b.ts) ∨
     (p.s.op=16/\((if (nodesF g0+ea (bI x0) g * (nodesT u - 1) != nodesF im)=true then (({ k with ts:=ts }:Bd),(70:Int)) else if cg [] (e9 (bI x0) u g0) im=true then ({ k with ts:=ts },0) else ({ k with ts:=ts },70)).2=70\/(if (nodesF g0+ea (bI x0) g * (nodesT u - 1) != nodesF im)=true then (({ k with ts:=ts }:Bd),(70:Int)) else if cg [] (e9 (bI x0) u g0) im=true then ({ k with ts:=ts },0) else ({ k with ts:=ts },70)).2=71)):=by
    intro u ts hu hlt
    by_cases jb:(nodesF g0+ea (bI x0) g * (nodesT u - 1) != nodesF im)=true
    ·rw[aw jb];exact .inr ⟨h16,.inl rfl⟩
    ·rw[ak jb]
     by_cases hau:cg [] (e9 (bI x0) u g0) im=true
     ·rw[aw hau];exact .inl ⟨rfl,hl.f,hlt (zdL u hu (by simpa using jb) hau)⟩
     ·rw[ak hau];exact .inr ⟨h16,.inl rfl⟩
   cases hkt:getB k.ts y0 with
   | some u=>
    simp only;exact zbF u k.ts (kl (oY ((dj k).1 hl.v).2 hkt).1) (fun _=>hl.t)
   | none=>
    simp only
    cases hfo:gD g0 im (bI x0) with
    | none=>exact .inr ⟨h16,.inl rfl⟩
    | some u=>
     simp only[Option.map_some];exact zbF u _ ((Sx (kL x0) w0.1 (nY gv0.1) i1.1).2 u hfo) (fun e=>FN hl.t hkt (by rw[e];exact ht))):G:=h
theorem qcu(h:G:=by
 rcases hs with hs | ⟨b,off,ha,hc⟩
 ·exact .inl hs
 first
 |clear qnZ
  ·refine .inr ⟨b,off,ha,trivial,fun j hj=>?_⟩;obtain ⟨x0,x1,x2,hx⟩:=Uu (hcl j hj);have qA2:=();exact qli
 |clear qn0
  ·refine .inr ⟨b,off,ha,trivial,fun j hj=>?_⟩;obtain ⟨x0,x1,x2,x3,hx⟩:=zaD (hcl j hj);exact qli
 |first
  |clear qn4
   ·refine .inr ⟨b,off,ha,trivial,fun j hj=>?_⟩;have c:=fun k hk=>hc j hj k hk;rw[(hg j hj).1]at c;exact ⟨c 0 (by omega),c 1 (by omega),c 2 (by omega),c 3 (by omega),c 4 (by omega)⟩
  |·refine .inr ⟨b,off,ha,trivial,fun j hj=>?_⟩
    have c:=fun k hk=>hc j hj k hk;rw[(hg j hj).1]at c;exact ⟨c 0 (by omega),c 1 (by omega),c 2 (by omega),c 3 (by omega)⟩):G:=h
theorem qkV(h:G:=by
 rintro e w6 ⟨rfl,rfl⟩;refine hK _ _ (fun _=>dN) (fun _=>?_);clear hK K
 first
 |clear qAc;refine b_ 4 rfl fun K hK=>?_
  go_simp;refine aH.2 ((h_ (bI n) w3.drew).mono ?_);rintro e w7 ⟨rfl,fW⟩;refine hK _ _ (fun _=>by rw[cR.o];exact (ai _ _).drew.tr fW) (fun _=>?_);clear hK K;have h37:Below W3.heap.size W3 w7:=(H5.o.drew).tr fW;have CS:=vZ (.mk uv n' a') (aP (bI n)) (fun b=>¬M b) (fun b=>¬M b) w7 ⟨uv,⟨n'.toArray⟩,ua,n2,uc⟩ ⟨true,⟨(bI n).toArray⟩,none,0,0⟩ (HG.o.2.1 _ HF.o.2) (RT IQ.o) (HV.o.2.1.later h37) (aM.2 ⟨_,rfl,cm⟩);simp only[TQ.val]at CS;rw[<-Nq.o]at CS;refine b_ 5 rfl fun K hK=>?_;go_simp;refine aH.2 (CS.mono ?_);rintro e w8 ⟨rfl,iA⟩;refine eK hK ?_;clear hK K;have H8:=ab (h37.tr iA);clear CS fW h37 iA;refine b_ 6 rfl fun K hK=>?_;have qqS:=();exact qaa
 |refine b_ 11 rfl fun K hK=>?_
  go_simp;refine hK _ _ (fun _=>dN) (fun _=>?_);clear hK K;refine b_ 12 rfl fun K hK=>?_;go_simp;refine hK _ _ (fun _=>dN) (fun _=>?_);clear hK K;refine ku ?_;go_wp2;refine bK (v:=.tuple #[.string ⟨(bI x).toArray⟩,.string ⟨y.toArray⟩]) (by simp[results,Tryz.results96,go_sem]) rfl ⟨rfl,HB.o.drew⟩):G:=h
