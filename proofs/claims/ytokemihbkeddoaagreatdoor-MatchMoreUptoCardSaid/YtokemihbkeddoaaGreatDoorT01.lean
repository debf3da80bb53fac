/-
Runs of tactics that several proofs share.
-/
import Derived.ArgAppend
import Derived.Below
import Derived.BigQuiet
import Derived.BigRegionIn
import Derived.CallsIn
import Derived.Carry
import Derived.ChangeMaps5
import Derived.ChangeSame
import Derived.ChangeStays
import Derived.ControlIn
import Derived.Deep.AppendLies
import Derived.Deep.Cut
import Derived.Deep.DeepCutAuto
import Derived.Deep.DeepHandedRow
import Derived.Deep.DeepWitnessRowRef
import Derived.Deep.Fields
import Derived.Deep.LoopGhost
import Derived.Deep.QuietTactic
import Derived.Deep.Slices
import Derived.Deep.Upon
import Derived.Defers
import Derived.Ground.GgzProg
import Derived.Ground.SlgmProg
import Derived.JoinedCond
import Derived.Laws.World
import Derived.Lib.Hide
import Derived.Lib.ItoaMem
import Derived.Lib.ItoaNum
import Derived.Lib.LaidTab
import Derived.Lib.LaidU8
import Derived.Lib.SliceRun
import Derived.Lib.SmallJoins
import Derived.LoopIn
import Derived.Maps.OwnIn
import Derived.Maps.OwnSet
import Derived.OpenShut
import Derived.OrdersHeld
import Derived.OrdersIn
import Derived.OwnWalkIn
import Derived.ProofKit
import Derived.RangeFuncBound
import Derived.RangeFuncBox
import Derived.RangeFuncLeaves
import Derived.RangeFuncNested
import Derived.RangeFuncRecord
import Derived.RegionIn
import Derived.Shelf.Abstract
import Derived.Shelf.AbstractIn
import Derived.Shelf.SlIter.Nil
import Derived.Shelf.SortM.Plain
import Derived.Shelf.SortM.SortNone
import Derived.ShutString
import Derived.SizedLaws
import Derived.SliceStrings
import Derived.Sort.KeysCollected
import Derived.Sort.Walk0
import Derived.Stop.RegionWithIn
import Derived.Tactics
import Derived.TacticsIn
import Derived.TacticsInMore
import Derived.WalkKit
import Derived.WalkLawsBesides
import Derived.WalkMore
import Derived.WalkSpells
namespace Go.Proofs.YtokemihbkeddoaaGreatDoor
open Go Go.RowKit Lib
set_option maxRecDepth 100000
variable {G:Prop}
theorem pm80(h:G:=by
 go_enter Tryz.func122,Tryz.ntmps122
 first
 |clear pp80a;go_wp2_with (first | (go_at_call 115;refine C1.o.mono ?_;rintro e w' ⟨rfl,rfl⟩) | (go_at_call 152;refine (CV.o _).mono ?_;rintro e w3 ⟨rfl,aL⟩));go_ret;exact JPost.yes HE.o (nR.o.1.trans (Kp.below aL)) (nR.o.2.1.later aL) (by show ((1:Nat):Int)<=left;omega)
 |clear pp80b;go_wp2_with (first | (go_at_call 115;refine C1.o.mono ?_;rintro e w' ⟨rfl,rfl⟩) | (go_at_call 152;refine (CV.o _).mono ?_;rintro e w3 ⟨rfl,aL⟩;have j0:=(nR.o.2.1.later aL).c0;have bQ:=ae aL;clear aL));go_ret;exact JPost.no HE.o (nR.o.1.trans (Kp.below bQ.o)) (nR.o.2.1.later bQ.o) (by omega) (by omega)
 |clear pp80c;go_wp2_with (go_at_call 115;refine C1.o.mono ?_;rintro e w' ⟨rfl,rfl⟩);go_ret;exact JPost.no HE.o nR.o.1 nR.o.2.1 (by omega) (by omega)
 |clear pp80d;go_wp2_with (first | (go_at_call 115;refine C1.o.mono ?_;rintro e w' ⟨rfl,rfl⟩) | (go_at_call 121;refine (CF.o _).mono ?_;rintro e w3 ⟨rfl,aL⟩;have bQ:=ae aL;clear aL));go_ret;exact JPost.no HE.o (nR.o.1.trans (Kp.below bQ.o)) (nR.o.2.1.later bQ.o) (by omega) (by omega)
 |clear pp80e;go_wp2_with (go_at_call 115;refine C1.o.mono ?_;rintro e w' ⟨rfl,rfl⟩);go_ret;exact JPost.no (l:=left - 1) HE.o ((nP _).trans (Kp.below cJ)) ((HJ.o.set _).later cJ) (by omega) (by omega)
 |clear pp80f;go_wp2_with (first | (go_at_call 115;refine C1.o.mono ?_;rintro e w' ⟨rfl,rfl⟩) | (go_at_call 152;refine (CV.o _).mono ?_;rintro e w3 ⟨rfl,aL⟩;have j0:=(nR.o.2.1.later aL).c0;have j1:=aa aL g1;have bQ:=ae aL;clear aL) | (go_at_call 186;refine (CT.o _).mono ?_;rintro e w4 ⟨rfl,aP⟩;have eG:=ae aP;clear aP));go_ret
  first
  |clear pp58;exact JPost.yes HE.o ((nR.o.1.trans (Kp.below bQ.o)).trans (Kp.below eG.o)) ((nR.o.2.1.later bQ.o).later eG.o) (by show ((1:Nat):Int)<=left;omega)
  |exact JPost.no HE.o ((nR.o.1.trans (Kp.below bQ.o)).trans (Kp.below eG.o)) ((nR.o.2.1.later bQ.o).later eG.o) (by omega) (by omega)
 |go_wp2_with (first | (go_at_call 115;refine C1.o.mono ?_;rintro e w' ⟨rfl,mn⟩;obtain rfl:=mn.symm) | (go_at_call 121;refine (CF.o _).mono ?_;rintro e w3 ⟨rfl,aL⟩;have j2:=aa aL g2;have bQ:=ae aL;clear aL) | (go_at_call 118;refine (CJ.o _ bQ.o).mono ?_;rintro e w4 ⟨rfl,kZ,l4,Y',Fr,Nu,FB⟩;have HH:=fh kZ Y' Fr Nu FB;clear kZ Y' Fr Nu FB));go_ret
  first
  |clear pp69;have h7:=HH.o.2.2.2.2 trivial;have pE:(nodesTs a:Int)<=left - 1:=by have:=HH.o.2.2.1;have h8:=HE.o;rw[ah,ah,bx]at h8;have:nodesT (.mk false n a)=nodesTs a+1:=rfl;omega
   refine JPost.yes HE.o ((nR.o.1.trans (Kp.below bQ.o)).trans HH.o.1) ?_ (by show ((nodesTs a+1:Nat):Int)<=left;omega);have h9:=HH.o.2.1;have:l4=left - (nodesT (.mk false n a):Nat):=by show l4=left - ((nodesTs a+1:Nat):Int);omega
   rw[<-this];exact h9
  |exact JPost.no HE.o ((nR.o.1.trans (Kp.below bQ.o)).trans HH.o.1) HH.o.2.1 HH.o.2.2.1 (by have:=HH.o.2.2.2.1;omega)):G:=h
theorem pm81(h:G:=by
 go_roundw
 case rel=>
  obtain ⟨aR,ao,hg,_⟩:=HG.o;have cH:=eR.o.stepF (F:=3) (t:=u') (p:=⟨po,pn,pa,pl,pc,pb,pm,pe⟩) (g:=g) (cap:=ev) (by rw[tg.o.2];exact yY.o.2.1) (by rw[tg.o.2];exact yY.o.1) yY.o.2.2 IM.o.2 IM.o.1 (by rw[tg.o.2];exact aR) ao (by rcases hg with h | h;exact .inl h;exact .inr (by simp;omega)) rfl;rw[tg.o.2]at cH;exact ⟨k+1,by omega,by go_num,_,us ++ [u'],cH,tg.o.1,by rw[dZ,tg.o.2];rfl⟩
 case measure=>simp[intOf];omega):G:=h
theorem pm82(h:G:=by
 have e0:=ai h4 0;have e1:X.drew.cell? ⟨aB+1,0,none⟩=some (.int .i64 er):=ai h4 0;have e2:=ai h5 0;have e3:X.drew.cell? ⟨aB,0,none⟩=some (.int .i64 j):=ai h5 0;have i9:(er == 0)=false:=by simp[h2]
 have xR:=(h6.same _ (bz uI.o) AG.o.2).trans uI.o;obtain ⟨y0,y1,z0,z1⟩:=sB xR;have xRd:X.drew.heap[w.heap.size+1]?=some (.cells #[.slice none 0 0,.slice none 0 0] 26 (0,0)):=xR;obtain ⟨y2,y3,z2,z3⟩:=sB xRd;exact pm19):G:=h
theorem pm83(h:G:=by
 have cv:Below wr.heap.size wr A:=((ak wr.heap.size wr).drew).trans hA;refine hK _ _ (fun _=>by rw[dh.o];exact cv) (fun _=>?_);clear hK K;refine bZ 10 rfl fun K hK=>?_;go_simp;refine hK _ _ (fun _=>by rw[dh.o];exact cv) (fun _=>?_);clear hK K;refine bZ 11 rfl fun K hK=>?_;go_simp;refine hK _ _ (fun _=>by rw[dh.o];exact cv.alloc cv.size _) (fun _=>?_);clear hK K;obtain ⟨qs,et,au,gp⟩:=HF.o.row;rw[ee.o]at et au;have nN:=cv.size
 first
 |clear pp83;have rQ:=HF.o.size;refine bZ 12 rfl fun K hK=>?_;refine bw (.tmp 20) (.tmp 30) 23 rfl W3.heap.size 40 o6 (.agg #[.string ByteArray.empty,.int .u8 0,.string ByteArray.empty,.slice none 0 0,.slice none 0 0]) 5 88 Tryz.underlying23 hi xH uU yi rfl (by decide) (.slice ra j rc) j _ rfl ((aZ au (fun b _ hlt=>cv.block b hlt)).alloc _) ⟨_,0,none⟩ 1 1 (BF (nm,⟨p0,p1,p2,p3,p4,p5,p6,p7⟩)) rfl rfl (c_ (cs:=#[.string ⟨nm.toArray⟩,.int .u8 p0,.string p1,.slice p2 p3 p4,.slice p5 p6 p7]) (t:=40) (fr:=(0,0)) (fP A _)) (by simp[BF,FQ.cells,Value.oneCell']) (by decide) (by unfold maxLen;omega) (by omega) (by simp;omega) (A.heap.size+1) (by simp) ?_;intro g ev w4 aR ao hg eq;have h4:=HF.o.at4 (kk:=0) au cv ao;have cH:=HF.o.stepFB (F:=0) (x:=nm) (t:=k.fs[j].2) (g:=g) (cap:=ev) (by rw[ee.o];exact au) (by rw[ee.o];exact et) gp cv (show FormV (wr.heap.size<=·) A (FQ.val ⟨p0,p1,p2,p3,p4,p5,p6,p7⟩) k.fs[j].2 from hp) (by rw[ee.o];exact aR) ao hg rfl;rw[ee.o,QN.o]at cH;have nO:=ae cH;have d3:=h4.2.2;have z3:=h4.2.1;clear aR ao hg eq cH h4 au et gp hp hA;refine eN hK ?_;clear hK K;refine bZ 13 rfl fun K hK=>?_;go_simp;refine eN hK ?_;clear hK K;refine bZ 14 rfl fun K hK=>?_;go_simp;refine eN hK ?_;clear hK K;refine kz ?_;clear ff dO;go_wp2;go_roundw
  case rel=>exact ⟨j+1,by omega,by go_num,_,nO.o⟩
  case measure=>simp[intOf];omega
 |have rQ:=HF.o.size;refine bZ 12 rfl fun K hK=>?_;refine bw (.tmp 46) (.tmp 56) 24 rfl W6.heap.size 47 Lr (.agg #[.string ByteArray.empty,.bool false,.string ByteArray.empty,.slice none 0 0]) 4 64 Tryz.underlying24 hq V9 M0 hqc rfl (by decide) (.slice ra j rc) j _ rfl ((aZ au (fun b _ hlt=>cv.block b hlt)).alloc _) ⟨_,0,none⟩ 1 1 (BT (nm,⟨p0,p1,p2,p3,p4⟩)) rfl rfl (c_ (cs:=#[.string ⟨nm.toArray⟩,.bool p0,.string p1,.slice p2 p3 p4]) (t:=47) (fr:=(0,0)) (fP A _)) (by simp[BT,TQ.cells,Value.oneCell']) (by decide) (by unfold maxLen;omega) (by omega) (by simp;omega) (A.heap.size+1) (by simp) ?_;intro g ev w4 aR ao hg eq;have h4:=HF.o.at4 (kk:=1) au cv ao;have cH:=HF.o.stepTB (F:=1) (x:=nm) (t:=k.ts[j].2) (g:=g) (cap:=ev) (by rw[ee.o];exact au) (by rw[ee.o];exact et) gp cv (show TermV (wr.heap.size<=·) A (TQ.val ⟨p0,p1,p2,p3,p4⟩) k.ts[j].2 from hp) (by rw[ee.o];exact aR) ao hg rfl;rw[ee.o,QN.o]at cH;have nO:=ae cH;have d3:=h4.2.2;have z3:=h4.2.1;clear aR ao hg eq cH h4 au et gp hp hA;refine eN hK ?_;clear hK K;refine bZ 13 rfl fun K hK=>?_;go_simp;refine eN hK ?_;clear hK K;refine bZ 14 rfl fun K hK=>?_;go_simp;refine eN hK ?_;clear hK K;refine kz ?_;clear ff dO;go_wp2;go_roundw
  case rel=>exact ⟨j+1,by omega,by go_num,_,nO.o⟩
  case measure=>simp[intOf];omega):G:=h
theorem pm84(h:G:=by
 have hs:=hA.size;have uy:=ao.size;simp only[World.size_alloc]at uy;have hx:=(h.at4 (kk:=F) au hA ao).1;refine ⟨by rw[bq hx,wa],?_,h.kp5 au hA ao,h.lt,h.base⟩
 first
 |clear pp84a;have h4:RowT lo (.slice (some ⟨g,0,none⟩) (ts.length+1) cap) (ts ++ [t]) w4:=RowT.step et hA h.size gp (fun b hb=>(au.lt b hb).2) hp aR
   (fun c _ hc hn=>(ao.block c (by simp;omega) (fun e=>hn e.symm)).trans (bI _ _ _ (by omega))) (by rcases hg with h | h;exact .inl h;exact .inr (by omega))
  exact h4.held (fun b hb _=>ei _ _ _ _ (by have:=h.lt;simp;omega))
 |clear pp84b;have h4:RowF lo (.slice (some ⟨g,0,none⟩) (ts.length+1) cap) (ts ++ [t]) w4:=RowF.step et hA h.size gp (fun b hb=>(au.lt b hb).2) hp aR
   (fun c _ hc hn=>(ao.block c (by simp;omega) (fun e=>hn e.symm)).trans (bI _ _ _ (by omega))) (by rcases hg with h | h;exact .inl h;exact .inr (by omega))
  exact h4.held (fun b hb _=>ei _ _ _ _ (by have:=h.lt;simp;omega))
 |clear pp84c;have h4:RowFB lo (.slice (some ⟨g,0,none⟩) (ts.length+1) cap) (ts ++ [(x,t)]) w4:=RowFB.step et hA h.size gp (fun b hb=>(au.lt b hb).2) hp aR
   (fun c _ hc hn=>(ao.block c (by simp;omega) (fun e=>hn e.symm)).trans (bI _ _ _ (by omega))) (by rcases hg with h | h;exact .inl h;exact .inr (by omega))
  exact h4.held (fun b hb _=>ei _ _ _ _ (by have:=h.lt;simp;omega))
 |have h4:RowTB lo (.slice (some ⟨g,0,none⟩) (ts.length+1) cap) (ts ++ [(x,t)]) w4:=RowTB.step et hA h.size gp (fun b hb=>(au.lt b hb).2) hp aR
   (fun c _ hc hn=>(ao.block c (by simp;omega) (fun e=>hn e.symm)).trans (bI _ _ _ (by omega))) (by rcases hg with h | h;exact .inl h;exact .inr (by omega))
  exact h4.held (fun b hb _=>ei _ _ _ _ (by have:=h.lt;simp;omega))):G:=h
theorem pm85(h:G:=by
 have x2:=hF.box;have x1:=hF.other (by omega) Lo.o;obtain ⟨c0,c1,c2,c3⟩:=mm x2;obtain ⟨e0,e1,e2,e3⟩:=mm x1;have z0:=af x1 0;have z1:=af x1 1;have z2:=af x1 2;have z3:=af x1 3;have lJ:=ae x1;have Np:=ae (UR.o.kp1 hF.kp (by have:=w_.o;omega));obtain ⟨dt,HSz⟩:=a_ ar hF.size;clear jG ct hF x1 x2 ar;gi_wp2;have x6:=kP (v0:=.int .u8 qo) (v1:=.string ⟨n.toArray⟩) (v2:=.slice fJ k1 fK) (v3:=.slice ra k rc) lJ.o
 first
 |clear pp85;have k6:=dA (W:=wr) (b:=w.heap.size+1) (v0:=.int .u8 qo) (v1:=.string ⟨n.toArray⟩) (v2:=.slice fJ k1 fK) (v3:=.slice ra k rc);obtain ⟨W6,da⟩:=am ((((wr.setCell ⟨w.heap.size+1,0,none⟩ (.int .u8 qo)).setCell ⟨w.heap.size+1,1,none⟩ (.string ⟨n.toArray⟩)).setCell ⟨w.heap.size+1,2,none⟩ (.slice fJ k1 fK)).setCell ⟨w.heap.size+1,3,none⟩ (.slice ra k rc));rw[<-da]at x6 k6 ⊢;clear da;have g0:W6.cell? ⟨w.heap.size+1,0,none⟩=some (.int .u8 qo):=ai x6 0;have g1:W6.cell? ⟨w.heap.size+1,1,none⟩=some (.string ⟨n.toArray⟩):=ai x6 1;have g2:W6.cell? ⟨w.heap.size+1,2,none⟩=some (.slice fJ k1 fK):=ai x6 2;have g3:W6.cell? ⟨w.heap.size+1,3,none⟩=some (.slice ra k rc):=ai x6 3;have hz:=w_.o;have h6:FormV (w.heap.size<=·) W6 (FQ.val ⟨qo,⟨n.toArray⟩,fJ,k1,fK,ra,k,rc⟩) (.mk qo n (a.map aM) (s.map bB)):=RowF.form (Np.o.kp1 k6 (by omega)) (HR.o.kp1 k6 (by have:=xd.o;omega)) d_.o.size (by have:=xd.o;have:=d_.o.size;omega);refine bJ (v:=FQ.val ⟨qo,⟨n.toArray⟩,fJ,k1,fK,ra,k,rc⟩) (by simp[FQ.val,results,Tryz.results66,go_sem,g0,g1,g2,g3]) rfl (⟨⟨qo,⟨n.toArray⟩,fJ,k1,fK,ra,k,rc⟩,rfl,h6,Below.kp1 dt.o k6 (by omega)⟩)
 |have k6:=dA (W:=wr) (b:=w.heap.size+1+1) (v0:=.int .u8 qo) (v1:=.string ⟨n.toArray⟩) (v2:=.slice fJ k1 fK) (v3:=.slice ra k rc);obtain ⟨W6,da⟩:=am ((((wr.setCell ⟨w.heap.size+1+1,0,none⟩ (.int .u8 qo)).setCell ⟨w.heap.size+1+1,1,none⟩ (.string ⟨n.toArray⟩)).setCell ⟨w.heap.size+1+1,2,none⟩ (.slice fJ k1 fK)).setCell ⟨w.heap.size+1+1,3,none⟩ (.slice ra k rc));rw[<-da]at x6 k6 ⊢;clear da;have g0:W6.cell? ⟨w.heap.size+1+1,0,none⟩=some (.int .u8 qo):=ai x6 0;have g1:W6.cell? ⟨w.heap.size+1+1,1,none⟩=some (.string ⟨n.toArray⟩):=ai x6 1;have g2:W6.cell? ⟨w.heap.size+1+1,2,none⟩=some (.slice fJ k1 fK):=ai x6 2;have g3:W6.cell? ⟨w.heap.size+1+1,3,none⟩=some (.slice ra k rc):=ai x6 3;have hz:=w_.o;have h6:FormV (w.heap.size<=·) W6 (FQ.val ⟨qo,⟨n.toArray⟩,fJ,k1,fK,ra,k,rc⟩) (.mk qo n (a.map (kB nx z)) (s.map (eQ kk nx z))):=RowF.form (Np.o.kp1 k6 (by omega)) (HR.o.kp1 k6 (by have:=xd.o;omega)) d_.o.size (by have:=xd.o;have:=d_.o.size;omega);refine bJ (v:=FQ.val ⟨qo,⟨n.toArray⟩,fJ,k1,fK,ra,k,rc⟩) (by simp[FQ.val,results,Tryz.results101,go_sem,g0,g1,g2,g3]) rfl (⟨⟨⟨qo,⟨n.toArray⟩,fJ,k1,fK,ra,k,rc⟩,rfl,vr.o ▸ h6⟩,Below.kp1 dt.o k6 (by omega)⟩)):G:=h
theorem pm86(h:G:=by
 obtain ⟨S,hS⟩:∃S:World->Prop,S=fun V=>Below wq.heap.size wq V:=⟨_,rfl⟩;have f0:∀ V,S V->V.cell? ⟨bb,0,none⟩=some (.int .u8 q.o)/\V.cell? ⟨bb,1,none⟩=some (.string q.n)/\V.cell? ⟨bb,2,none⟩=some (.slice q.a q.l q.c)/\V.cell? ⟨bb,3,none⟩=some (.slice q.b q.m q.e):=fun V h=>by rw[hS]at h;exact ⟨aa h (ai GV.o.2.2.2 0),aa h (ai GV.o.2.2.2 1),aa h (ai GV.o.2.2.2 2),aa h (ai GV.o.2.2.2 3)⟩
 first
 |clear pp86;have f1:∀ V,S V->V.cell? ⟨w.heap.size,1,none⟩=some (.string ⟨n.toArray⟩)/\V.cell? ⟨w.heap.size+1+1,1,none⟩=some (.string ⟨n.toArray⟩):=fun V h=>by rw[hS]at h;exact ⟨aa h (ai GV.o.1 1),aa h (ai GV.o.2.2.1 1)⟩
  have dO:S wq.drew:=by rw[hS];exact (ak _ _).drew
  have IV:=ae (fun (V:World) (h:Below wq.heap.size wq V)=>tE WB G (dc n) (ap n) ⟨by have:=m5.o.1;omega,m5.o.2.1⟩ (by have:=m5.o.1;omega) m5.o.2.2.1 m5.o.2.2.2 (by have:=QI.o.2.1;simp[dc];omega) ⟨by simp[ap,nodesT,nodesTs],vp HM.o⟩ (by simp[ap,nodesT,nodesTs]) _ (fun _=>True) V q ⟨true,⟨n.toArray⟩,none,0,0⟩ (Oa.o.next (F3.o.1.tr h)) (F3.o.2.2.later h) (aV.2 ⟨_,rfl,cf⟩));have pp65:=();exact pm65
 |have f1:∀ V,S V->V.cell? ⟨w.heap.size,1,none⟩=some (.string ⟨n.toArray⟩)/\V.cell? ⟨w.heap.size+1+1,1,none⟩=some (.string ⟨m.toArray⟩):=fun V h=>by rw[hS]at h;exact ⟨aa h (ai GV.o.1 1),aa h (ai GV.o.2.2.1 1)⟩
  have dO:S wq.drew:=by rw[hS];exact (ak _ _).drew
  have IV:=ae (fun (V:World) (h:Below wq.heap.size wq V)=>tE WB G (dc n) (ap m) ⟨by have:=m5.o.1;omega,m5.o.2.1⟩ (by have:=m5.o.1;omega) m5.o.2.2.1 m5.o.2.2.2 (by have:=QI.o.2.1;simp[dc];omega) ⟨by simp[ap,nodesT,nodesTs],vp HM.o⟩ (by simp[ap,nodesT,nodesTs]) _ (fun _=>True) V q ⟨true,⟨m.toArray⟩,none,0,0⟩ (Oa.o.next (F3.o.1.tr h)) (F3.o.2.2.later h) (aV.2 ⟨_,rfl,cf⟩));exact pm65):G:=h
theorem pm87(h:G:=by
 have mN:=cF Hq.o hlt;have ar:=kL.o.trans (e8.mono kL.o.size);obtain ⟨b,off,u,rfl,_,hu,c0,c1,c2,c3⟩:=Ta.o.get bp;obtain ⟨b',mL,u',rfl,_,iF,mg,nd,ne,Gh⟩:=HYs.o.get mN;have qF:=Yk.o.mem (aA bp);rw[n9 bp mN]at ht
 first
 |clear pp87a;obtain ⟨e,he⟩:=am (ea (ps ++ [(xn,yn)]).reverse xs[k] ys[k]);rw[<-he]at ht;obtain ⟨d0,d1,d2,d3⟩:=mG ar c0 c1 c2 c3;have y2:wr.cell? ⟨w.heap.size+1,3,none⟩=some (.slice (some ⟨b',mL,none⟩) k1 ve):=aa e8 (ai xP.o 3);have E7:(k:Int)<(k1:Int):=by omega
  have OB:(ps ++ [(xn,yn)]).length+gD xs[k]<=1000000000:=by have:=Rz xs[k] (aA bp);first | omega | (simp only[dZ,fN,List.length_nil];omega)
  have pp73a:=();exact pm73
 |clear pp87b;obtain ⟨e,he⟩:=am (ea ps.reverse xs[k] ys[k]);rw[<-he]at ht;obtain ⟨d0,d1,d2,d3⟩:=mG ar c0 c1 c2 c3;have y2:wr.cell? ⟨w.heap.size+1,3,none⟩=some (.slice (some ⟨b',mL,none⟩) k1 ve):=aa e8 (ai xP.o 3);have E7:(k:Int)<(k1:Int):=by omega
  have OB:ps.length+gD xs[k]<=1000000000:=by have:=Rz xs[k] (aA bp);first | omega | (simp only[dZ,fN,List.length_nil];omega)
  have pp73b:=();exact pm73
 |obtain ⟨e,he⟩:=am (ea (ps ++ [(xn,xn)]).reverse xs[k] ys[k]);rw[<-he]at ht;obtain ⟨d0,d1,d2,d3⟩:=mG ar c0 c1 c2 c3;have y2:wr.cell? ⟨w.heap.size+1,3,none⟩=some (.slice (some ⟨b',mL,none⟩) k1 ve):=aa e8 (ai xP.o 3);have E7:(k:Int)<(k1:Int):=by omega
  have OB:(ps ++ [(xn,xn)]).length+gD xs[k]<=1000000000:=by have:=Rz xs[k] (aA bp);first | omega | (simp only[dZ,fN,List.length_nil];omega)
  exact pm73):G:=h
theorem pm88(h:G:=by
 rcases h1 with ⟨rfl,h0⟩ | ⟨g,cap,cur,rfl,hlo,hb,hc,_,_,ht⟩
 ·obtain rfl:l=[]:=jk h0;exact ⟨none,0,rfl,aI _,.inl rfl⟩
 ·refine ⟨_,cap,rfl,hc,.inr ⟨g,0,rfl,hlo,fun j hj=>?_⟩⟩;rw[Nat.zero_add,aE hb];have h2:(cur.toList.take (l.length * 1))[j]?=(l.map encStr)[j]?:=by rw[ht]
  rw[List.getElem?_take_of_lt (by omega),List.getElem?_map,gx hj]at h2;rw[<-Array.getElem?_toList,h2];rfl):G:=h
theorem pm89(h:G:=by
 have HF:=ae (HE.o.trans jH);obtain ⟨HC,kf⟩:=a_ eZ bh;clear jH eZ cI DG FA iL oP ha hb hc hj bh hu iF c0 c1 c2 c3;go_wp2_with (go_at_call 64;refine HC.o.mono ?_;rintro e w6 ⟨rfl,zV,l6,wM,Ex,oC,jR⟩;have p9:=cC zV wM Ex oC;clear zV wM Ex oC jR);go_ret;exact JPost.no HF.o (kf.o.trans ((Kp.below cJ).trans p9.o.1)) p9.o.2.1 p9.o.2.2.1 (by have:=p9.o.2.2.2;omega)):G:=h
theorem pm90(h:G:=by
 have CT:=ae (fun w3 (h3:Kp (fun c=>c=J) w w3) (j3:JAt J true (left - 1) br w3)=>dB.o ▸ sV a QN.o ok J true (left - 1) br (ba+1) w3 qa _ qc (d9.o.move (fun b hb hlt=>⟨hb,h3.same b hlt (o7.o b hb)⟩)) o7.o j3 (by omega) (by omega) MU (by omega) (by omega) (by omega));obtain ⟨bb,cI⟩:=am (eu true a && (decide ((nodesTs a:Int)<=left - 1) && decide (ba+1+bH a<=br+1)));rw[<-cI]at CT hM
 first
 |clear pp90
  cases bb with
  | false=>
   exact pm28
  | true=>
   exact pm22
 |cases bb with
  | false=>
   exact pm41
  | true=>
   exact pm35):G:=h
theorem pm91(h:G:=by
 have CT:=ae (fun w3 (h3:Kp (fun c=>c=J) w w3) (j3:JAt J sc (left - 1) br w3)=>dB.o ▸ sV a QN.o ok J sc (left - 1) br (ba+1) w3 qa _ qc (d9.o.move (fun b hb hlt=>⟨hb,h3.same b hlt (o7.o b hb)⟩)) o7.o j3 (by omega) (by omega) MU (by omega) (by omega) (by omega));obtain ⟨bb,cI⟩:=am (eu sc a && (decide ((nodesTs a:Int)<=left - 1) && decide (ba+1+bH a<=br+1)));rw[<-cI]at CT hM
 first
 |clear pp91
  cases bb with
  | false=>
   exact pm28
  | true=>
   have pp22:=();exact pm22
 |cases bb with
  | false=>
   exact pm41
  | true=>
   have pp35:=();exact pm35):G:=h
theorem pm92(h:G:=by
 refine dr rfl rfl g_ rfl (fun a γ wz aU=>⟨rfl,.slice la l0 lc,γ,wz,?_,Gr.refl,fun _ _ h=>h,?_⟩)
 ·have e2:a.tmps.getD 2 undef=.slice la l0 lc:=bg ((aU.ou 2 rfl).trans rfl);go_simp
 ·rw[iH];exact rfl):G:=h
theorem pm93(h:G:=by
 have S2:k<fs.length:=by have:=gV.o;omega
 obtain ⟨bs,os,u,rfl,iK,hu,c0,c1,c2,c3⟩:=HSs.o.get vV;obtain ⟨bf,of,v,rfl,D8,hv,e0,e1,e2,e3⟩:=Yk.o.get S2;have iO:=zi.o.2.trans bh;have d0:=iO.cell iK.2 c0;have g0:=iO.cell D8.2 e0;have d1:=iO.cell iK.2 c1;have g1:=iO.cell D8.2 e1;have d2:=iO.cell iK.2 c2;have g2:=iO.cell D8.2 e2;have d3:=iO.cell iK.2 c3;have g3:=iO.cell D8.2 e3
 first
 |clear pp93;have pp17:=();exact pm17
 |exact pm17):G:=h
theorem pm94(h:G:=by
 obtain ⟨HF,ee,dt⟩:=cG hF ct ar;clear hu ar hF c0 c1 c2 c3 ct;gi_wp2;obtain ⟨W2,bm⟩:=am (wr.alloc (.cells #[.int .u8 u.o,.string u.n,.slice u.a u.l u.c,.slice u.b u.m u.e] 36));have fF:=cZ bm;have xb:=cb bm;rw[<-bm];clear bm d0 d1 d2 d3;have gA:=HF.o.later fF (fun r=>r.below fF);have pp137d:=();exact pm137):G:=h
theorem pm95(h:G:=by
 obtain ⟨HC,SD⟩:=a_ CC ar;have HS:=aG rh Jf;clear hu hcut CC Uj rh hM ar c0 c1 c2 c3;go_wp2_with (go_at_call 23;refine HC.o.mono ?_;rintro e w4 ⟨rfl,aP⟩;have eG:=ae aP;clear aP);go_roundw
 case rel=>exact ⟨k+1,m+M,by omega,by go_num,by go_num,SD.o.trans (eG.o.mono SD.o.size),HS.o.1,HS.o.2⟩
 case measure=>simp[intOf];omega):G:=h
theorem pm96(h:G:=by
 obtain ⟨W5,eP⟩:=am (wr.alloc (.cells #[.bool xv,.string xn,.slice xa xl xc] 43));have bj:=cZ eP
 first
 |clear pp96a;have CC:=El W2 _ kb mF mT nF nT k H2.o.2.2 a[j] (HQ.o.2.2.2.1.mem (aA lx)) _ W5 ⟨xv,xn,xa,xl,xc⟩ (ar.tr bj) ((hx.later ar).later bj);simp only[TQ.val]at CC;obtain ⟨m0,eh⟩:=am (eb k.ts (a.take j)+1);obtain ⟨m2,rd⟩:=am (pt k.ts a[j]);have cH:=pR (k:=k.ts) lx;have Ba:=qL (fun x hx=>kn H2.o.2.2 (x:=x) hx) (a.take (j+1)) (qM HQ.o.2.2.2.1.2 _);have xx:=jN (a:=a) (j:=j+1);have Jd:=Ow.o;rw[<-rd]at CC;rw[<-eh];have hw:IntKind.i64.wrap ((m0:Int)+(m2:Int))=((m0+m2:Nat):Int):=by rw[fQ _ (by omega)];simp
  have lN:=ae CC;have Ky:=ae (show m0+m2=eb k.ts (a.take (j+1))+1 by omega);have rD:=ae eP;have HB:=aG ar bj;have Du:(j:Int)<(n1:Int):=by omega
  clear CC eh rd cH Ba xx Jd eP bj ar hx hok c0 c1 c2;go_wp2_with (rw[<-rD.o];go_at_call 197;refine lN.o.mono ?_;rintro e w6 ⟨rfl,cR⟩;have H6:=ae cR;clear cR);go_roundw
  case rel=>exact ⟨j+1,by omega,by go_num,by rw[<-Ky.o];simp,(HB.o.1.tr HB.o.2).tr H6.o⟩
  case measure=>simp[intOf];omega
 |clear pp96b;have CC:=Bu W2 _ kb mF mT nF nT k H2.o.2.2 a[j] (HQ.o.2.2.2.1.mem (aA lx)) (by have:=zz (aA lx);have:=Ow.o;omega) _ W5 ⟨xv,xn,xa,xl,xc⟩ (ar.tr bj) ((hx.later vC).later bj);simp only[TQ.val]at CC;have tP:=ox (k:=k.ts) lx;have Ba:=oy (fun x hx=>kn H2.o.2.2 (x:=x) hx) (a.take (j+1)) (qM HQ.o.2.2.2.1.2 _);have xx:=jN (a:=a) (j:=j+1);have Jd:=Ow.o;obtain ⟨l1,Fe⟩:=am (dJ k.ts (a.take j));obtain ⟨l2,rK⟩:=am (j_ k.ts a[j]);rw[<-rK]at CC;rw[<-Fe,<-rK]at tP;rw[<-Fe]at ek;have cm:l1.length+l2.length<=4000000:=by rw[tP,dZ]at Ba;omega
  obtain ⟨lN,HT,xg,rD⟩:=eW CC tP cm eP;have HB:=bG ar bj ek;have Du:(j:Int)<(n1:Int):=by omega
  clear CC Fe rK tP cm Ba xx Jd eP bj ar vC hx hok c0 c1 c2 ek;go_wp2_with (first | (rw[<-rD.o];go_at_call 248;refine lN.o.mono ?_;rintro e w6 ⟨⟨v6,rfl,hv6⟩,cR⟩;have H6:=aG (HB.o.2.1.tr cR) hv6;clear cR hv6) | (at_builtin;refine dR rfl _ _ rfl W2.heap.size (HB.o.1.tr H6.o.1).size u9 l1 rfl (HB.o.2.2.later H6.o.1) v6 l2 rfl _ H6.o.2.strs xg.o ?_;intro v8 w8 F8 Tt;have Rm:=aG F8 Tt;clear F8 Tt));go_roundw
  case rel=>exact ⟨j+1,by omega,by go_num,by rw[HT.o];exact Rm.o.1,(nv (M:=fun _=>False) (Kp.below (HB.o.1.tr H6.o.1)) Rm.o.2 (fun g hg=>(HB.o.2.2.lt g hg).1)).empty⟩
  case measure=>simp[intOf];omega
 |clear pp96c;have CC:=fS.o a[j] (aA lx) (TL.o.mem (aA lx)) _ W5 ⟨xv,xn,xa,xl,xc⟩ (((H1.o.2.2.tr vC)).tr bj) ((hx.later vC).later bj);simp only[TQ.val]at CC;obtain ⟨m0,eh⟩:=am (eb k.ts (a.take j)+1);obtain ⟨m1,jz⟩:=am (pt k.ts a[j]);have cH:=pR (k:=k.ts) lx;have Ba:=qL U1.o (a.take (j+1)) (qM TL.o.2 _);have xx:=jN (a:=a) (j:=j+1);have Jd:=TL.o.1;rw[<-jz]at CC;rw[<-eh];have hw:IntKind.i64.wrap ((m0:Int)+(m1:Int))=((m0+m1:Nat):Int):=by rw[fQ _ (by omega)];simp
  have lN:=ae CC;have Ky:=ae (show m0+m1=eb k.ts (a.take (j+1))+1 by omega);have rD:=ae eP;have HB:=aG ar bj;have Du:(j:Int)<(n1:Int):=by omega
  clear CC eh jz cH Ba xx Jd eP bj ar vC hx hok c0 c1 c2;go_wp2_with (rw[<-rD.o];go_at_call 197;refine lN.o.mono ?_;rintro e w6 ⟨rfl,cR⟩;have H6:=ae cR;clear cR);go_roundw
  case rel=>exact ⟨j+1,by omega,by go_num,by rw[<-Ky.o];simp,(HB.o.1.tr HB.o.2).tr H6.o⟩
  case measure=>simp[intOf];omega
 |clear pp96d;have CC:=fS.o a[j] (aA lx) (TL.o.mem (aA lx)) (by have:=zz (aA lx);have:=HSm.o;omega) _ W5 ⟨xv,xn,xa,xl,xc⟩ (((H1.o.2.2.tr vC)).tr bj) ((hx.later vC).later bj);simp only[TQ.val]at CC;have tP:=ox (k:=k.ts) lx;have Ba:=oy U1.o (a.take (j+1)) (qM TL.o.2 _);have xx:=jN (a:=a) (j:=j+1);have Jd:=HSm.o;obtain ⟨l1,Fe⟩:=am (dJ k.ts (a.take j));obtain ⟨l2,rK⟩:=am (j_ k.ts a[j]);rw[<-rK]at CC;rw[<-Fe,<-rK]at tP;rw[<-Fe]at ek;have cm:l1.length+l2.length<=4000000:=by rw[tP,dZ]at Ba;omega
  obtain ⟨lN,HT,xg,rD⟩:=eW CC tP cm eP;have HB:=bG ar bj ek;have Du:(j:Int)<(n1:Int):=by omega
  clear CC Fe rK tP cm Ba xx Jd eP bj ar vC hx hok c0 c1 c2 ek;go_wp2_with (first | (rw[<-rD.o];go_at_call 248;refine lN.o.mono ?_;rintro e w6 ⟨⟨v6,rfl,hv6⟩,cR⟩;have H6:=aG (HB.o.2.1.tr cR) hv6;clear cR hv6) | (at_builtin;refine dR rfl _ _ rfl W2.heap.size (HB.o.1.tr H6.o.1).size u5 l1 rfl (HB.o.2.2.later H6.o.1) v6 l2 rfl _ H6.o.2.strs xg.o ?_;intro v8 w8 F8 Tt;have Rm:=aG F8 Tt;clear F8 Tt));go_roundw
  case rel=>exact ⟨j+1,by omega,by go_num,by rw[HT.o];exact Rm.o.1,(nv (M:=fun _=>False) (Kp.below (HB.o.1.tr H6.o.1)) Rm.o.2 (fun g hg=>(HB.o.2.2.lt g hg).1)).empty⟩
  case measure=>simp[intOf];omega
 |have x5:=cb eP;have OD:=bR bj QJ;have x65:=bR bj x6w;obtain ⟨S,hS⟩:∃S:World->Prop,S=fun V=>Below W5.heap.size W5 V:=⟨_,rfl⟩;have pp:∀ V,S V->V.cell? ⟨W.heap.size,0,none⟩=some (.int .u8 so)/\V.cell? ⟨W.heap.size,1,none⟩=some (.string ⟨n.toArray⟩)/\V.cell? ⟨W.heap.size,2,none⟩=some (.slice (some ⟨b1,o1,none⟩) n1 sc)/\V.cell? ⟨W.heap.size,3,none⟩=some (.slice sb m1 se)/\V.cell? ⟨W.heap.size,4,none⟩=some (.int .u8 so)/\V.cell? ⟨W.heap.size,5,none⟩=some (.string ⟨n'.toArray⟩)/\V.cell? ⟨W.heap.size,6,none⟩=some (.slice (some ⟨b2,o2,none⟩) n1 fc)/\V.cell? ⟨W.heap.size,7,none⟩=some (.slice fb m1 fe)/\V.cell? ⟨W.heap.size,8,none⟩=some (.slice ca cl cc):=fun V h=>by rw[hS]at h;exact ⟨aa h (ai OD 0),aa h (ai OD 1),aa h (ai OD 2),aa h (ai OD 3),aa h (ai OD 4),aa h (ai OD 5),aa h (ai OD 6),aa h (ai OD 7),aa h (ai OD 8)⟩
  have tt:∀ V,S V->V.cell? ⟨B6,2,none⟩=some (.slice (some ⟨b2,o2,none⟩) n1 fc):=fun V h=>by rw[hS]at h;exact aa h (ai x65 2)
  have yy:∀ V,S V->V.cell? ⟨b2,o2+j * 3,none⟩=some (.bool yv)/\V.cell? ⟨b2,o2+j * 3+1,none⟩=some (.string yn)/\V.cell? ⟨b2,o2+j * 3+2,none⟩=some (.slice ya yl yc):=fun V h=>by rw[hS]at h;exact ⟨aa h (aa bj g0),aa h (aa bj g1),aa h (aa bj g2)⟩
  have dO:S W5.drew:=by rw[hS];exact (ak _ _).drew
  have OE:Kp M W W5:=Jb.trans (Kp.below bj);have HKN:=ae (hkN.trans (Kp.below bj));have vB:=om lx;have VQ:=HV.o.2.2.2.2.1.kp OE;have hx5:=hx.kpM OE (fun _ h=>h);have hy5:=hy.kpM OE (fun _ h=>h);obtain ⟨I,hI⟩:=am (j4 ps.reverse [] a'[j]);have CI:=fun (V:World) (h:Below W5.heap.size W5 V)=>ry ⟨⟨so,⟨n.toArray⟩,some ⟨b1,o1,none⟩,n1,sc,sb,m1,se⟩,⟨so,⟨n'.toArray⟩,some ⟨b2,o2,none⟩,n1,fc,fb,m1,fe⟩,ca,cl,cc⟩ ps HB.o.2.2.2.1 HB.o.2.2.2.2 [] [] (by simp) (fun _=>rfl) (fun _=>True) (.slice none 0 0) a'[j] (HF.o.1.args.mem (aA AP)) _ V ⟨yv,yn,ya,yl,yc⟩ (VQ.1.later h) ⟨none,0,rfl,aI _,.inl rfl⟩ (hy5.later h);rw[<-hI]at CI;simp only[PlQ.val,PlQ.cells,TQ.val]at CI;obtain ⟨S',dh⟩:=a_ CI hS;have cH:=Gi (c:=ps.reverse) (k:=kj) lx AP;rw[<-hI]at cH;rw[cH]at gw;have H5:=qS OE bj x5 OD VQ hx5;have Rv:=cC bh oq (dS.later bj) vB;have HIj:=bG (show ∀ u,I=some u->goodT u from fun u h=>Cy HP.o (aA AP) (by rw[<-hI];exact h)) (QI.o _ (aA lx)) lx;have TK:=ae gw;have Du:(j:Int)<(n1:Int):=by omega
  clear CI cH gw hS hI hy5 hx5 VQ vB OE hy hx qZ q_ c0 c1 c2 y0 y1 y2 dS oq bh Jb hkN QJ x6w bj x5 OD x65;go_wp2;rw[<-eP];clear eP d0 d1 d2 g0 g1 g2;go_cut [12,13] from 98 to 107 (fun s12 s13 wx=>∃B12,s12=.pointer (some ⟨B12,0,none⟩)/\s13=.bool I.isSome/\∃uq:TQ,wx.heap[B12]?=some (.cells #[.bool uq.v,.string uq.n,.slice uq.a uq.l uq.c] 43 (0,0))/\Below W5.heap.size W5 wx/\W5.heap.size<=B12/\∀ u,I=some u->TermV (W5.heap.size<=·) wx uq.val u)
  case first=>
   have g_:=eM;refine (wpIn_wide (n:=3)).1 ?_;refine lg S 12 dO fun jp bN=>?_;refine c9 0 99 (.agg #[.int .u8 so,.string ⟨n.toArray⟩,.slice (some ⟨b1,o1,none⟩) n1 sc,.slice sb m1 se,.int .u8 so,.string ⟨n'.toArray⟩,.slice (some ⟨b2,o2,none⟩) n1 fc,.slice fb m1 fe,.slice ca cl cc]) rfl (fun V hX=>by obtain ⟨h0,h1,h2,h3,h4,h5,h6,h7,h8⟩:=pp V hX;go_simp) bN fun cq=>?_;simp only[ag];refine bC 1 100 (.pointer (some ⟨B6,2,none⟩)) rfl cq fun fI=>?_;simp only[ag];refine c9 2 101 (.slice (some ⟨b2,o2,none⟩) n1 fc) rfl (fun V hX=>by have h0:=tt V hX;go_simp) fI fun gF=>?_;simp only[ag];refine bC 3 102 (.int .i64 (j:Int)) rfl gF fun iG=>?_;simp only[ag];refine bC 4 103 (.pointer (some ⟨b2,o2+j * 3,none⟩)) rfl iG fun jx=>?_;simp only[ag];refine c9 5 104 (.agg #[.bool yv,.string yn,.slice ya yl yc]) rfl (fun V hX=>by obtain ⟨h0,h1,h2⟩:=yy V hX;go_simp) jx fun jM=>?_;simp only[ag];refine zci (i:=6) (j:=10) rfl rfl (by kernel_rfl) (by rfl) (by rfl) (fun K hK=>?_) (fun K hK=>?_)
   ·go_simp;refine aK.2 ((S'.o _ (by have h:=bN;rw[dh.o]at h;exact h)).mono ?_);rintro e w6 ⟨⟨⟨u0,u1,u2,u3,u4⟩,rfl,hu⟩,cR⟩;have kl:Below W5.heap.size W5 w6:=((ak W5.heap.size W5).drew).trans cR;have H6:=aG kl hu;refine hK _ _ (fun _=>by rw[dh.o];exact H6.o.1) (fun jM=>?_)
    replace jM:=jM (by decide)
    clear hK K hu cR kl;have pp116:=();exact pm116
   ·go_simp;obtain ⟨EB,RA⟩:=am W5.heap.size;obtain ⟨A1,Fb⟩:=am (W5.alloc (.cells #[.bool false,.string ⟨#[]⟩,.slice none 0 0] 43)).drew;have Gn:Below W5.heap.size W5 A1:=by rw[Fb];exact cJ.drew
    have Yo:A1.heap[EB]?=some (.cells #[.bool false,.string ⟨#[]⟩,.slice none 0 0] 43 (0,0)):=by rw[Fb,RA];exact aj rfl
    have hEz:EB=W5.heap.size:=RA;rw[<-Fb,<-RA];have HA:=bG Gn Yo hEz;refine hK _ _ (fun _=>by rw[dh.o];exact HA.o.1) (fun _=>?_);clear hK K Fb RA Gn Yo hEz;refine bZ 6 rfl fun K hK=>?_;go_simp;refine aK.2 ((S'.o _ HA.o.1).mono ?_);rintro e w6 ⟨⟨⟨u0,u1,u2,u3,u4⟩,rfl,hu⟩,cR⟩;have kl:Below W5.heap.size W5 w6:=HA.o.1.tr cR;have hn6:=bR cR HA.o.2.1;have H6:=fh kl hu hn6 (bz HA.o.2.1) HA.o.1.size;refine hK _ _ (fun _=>by rw[dh.o];exact H6.o.1) (fun jM=>?_)
    replace jM:=jM (by decide)
    obtain ⟨z0,z1,z2,y0',y1',y2'⟩:=gt hn6;clear hK K hu cR kl hn6;exact pm116
  case rest=>
  obtain ⟨B12,h12,h13,⟨u0,u1,u2,u3,u4⟩,Yp,cR,VR,hu⟩:=hcut;rw[h12,h13];clear h12 h13 pp tt yy;obtain ⟨W6,da⟩:=am wc;rw[<-da]at Yp cR hu ⊢;clear da wc;simp only at Yp;have RB:Kp M W W6:=H5.o.1.trans (Kp.below cR)
  cases I with
  | none=>
   have HE:=ae (show R=(k,70) by rw[Ym.o,TK.o]);have I5:=ae (HKN.o.trans (Kp.below cR));clear Yp cR VR hu RB;go_wp2;go_ret;exact StepPost.bad HE.o (by decide) I5.o
  | some im=>
   have hu:=hu im rfl;have Yq:=HIj.o.1 im rfl;have hum:TermV (fun b=>¬M b) W6 (TQ.val ⟨u0,u1,u2,u3,u4⟩) im:=hu.move (fun b hb hlt=>⟨fun hm=>by have:=HG.o.2.2.2.2 b hm;have:=H5.o.1.size;omega,rfl⟩);have uH:=bR cR H5.o.2.2.2.1;have x56:=bR cR H5.o.2.2.1;obtain ⟨P0,P1,P2,P3,P4,P5,P6,P7⟩:=AM uH;have P8:=ai uH 8;obtain ⟨s0,s1,s2,_,_,_⟩:=gt x56;obtain ⟨t0,t1,t2,_,_,_⟩:=gt Yp;have CE:=LV ⟨⟨so,⟨n.toArray⟩,some ⟨b1,o1,none⟩,n1,sc,sb,m1,se⟩,⟨so,⟨n'.toArray⟩,some ⟨b2,o2,none⟩,n1,fc,fb,m1,fe⟩,ca,cl,cc⟩ ps HB.o.2.2.2.1 goodF goodT (fun _ h=>h.fit) (fun _ _ _ h=>h.args) M kb mF mT HG.o.2.1 HG.o.1 HG.o.2.2.1 (a[j]'HIj.o.2.2) HIj.o.2.1.1 HIj.o.2.1.2 im Yq W6 nF Bp ⟨k.fs,kj⟩ ⟨xv,xn,xa,xl,xc⟩ ⟨u0,u1,u2,u3,u4⟩ (Rv.o.2.2.1.later cR) (by have:=Rv.o.2.1;have:=Rv.o.2.2.2;have:=HB.o.2.1;have:=HB.o.2.2.1;omega) (zcj RB) (H5.o.2.2.2.2.2.later cR) hum;have gw:=TK.o;simp only at gw;obtain ⟨EQ,hEQ⟩:=am (dw (ps.reverse.map (·.1)) kj (a[j]'HIj.o.2.2) im);simp only[<-hEQ]at gw CE;simp only[PlQ.val,PlQ.cells,TQ.val]at CE;have HCE:=ae CE;have I5:=aG (HKN.o.trans (Kp.below cR)) (Rv.o.1.trans (Kp.below (H5.o.2.1.tr cR)))
   cases EQ with
   | none=>
    have HE:=ae (show R=(k,70) by rw[Ym.o,gw]);clear Yp cR VR hu RB hum uH x56 CE gw hEQ Yq;go_wp2_with (go_at_call 95;refine HCE.o.mono ?_;rintro e w7 ⟨nz,r,rfl,f_,_⟩;obtain rfl:=f_ (by simp);have H7:=ae nz;clear nz f_);go_ret;exact StepPost.bad HE.o (by decide) (I5.o.1.trans (H7.o.mono (fun b _ h=>.inr h)))
   | some ts0=>
    have I7:=ae (show dl ps.reverse k.ts a a'=dl ps.reverse ts0 (a.drop (j+1)) (a'.drop (j+1)) from gw);clear Yp cR VR hu RB hum uH x56 CE gw hEQ Yq;go_wp2_with (go_at_call 95;refine HCE.o.mono ?_;rintro e w7 ⟨nz,r,rfl,_,TE⟩;obtain ⟨rfl,Z6,TF,zm⟩:=TE _ rfl;have H7:=bG nz TF zm;clear nz TE TF zm);go_roundw
    case rel=>exact ⟨j+1,Z6,ts0,by omega,by go_num,I5.o.2.trans H7.o.1,by have:=H7.o.2.1;have:=Rv.o.2.1;have:=Rv.o.2.2.2;omega,H7.o.2.2,I7.o⟩
    case measure=>simp[intOf];omega):G:=h
theorem pm97(h:G:=by
 refine ⟨fun h0=>(by rw[hr]at h0;cases h0),fun k hk=>?_⟩;rw[hr]at hk;simp only[cY,List.not_mem_nil,or_false]at hk;rcases hk with rfl | rfl
 ·refine wpOpIn_step hi (fun K' Dv=>?_);rw[aH hwi];exact h1 K' (fun a w hS hW=>Dv a w ⟨hS,hW hS⟩)
 ·refine wpOpIn_step hj (fun K' Dv=>?_);rw[aH hwj];exact h2 K' (fun a w hS hW=>Dv a w ⟨hS,hW hS⟩)):G:=h
theorem pm98(h:G:=by
 refine ef (B:=w.heap.size) (Marks.nil _ _) (fun w' hn=>?_);have h0:=hn.cell g0;have h1:=hn.cell g1;refine ⟨.tuple #[.agg #[.slice none 0 0,.slice none 0 0],.int .i64 (j:Int),.int .i64 2],by simp[results,Tryz.results15,go_sem,h0,h1],⟨⟨⟨none,0,0,none,0,0⟩,by (rw[HE.o];try rfl),by rw[HE.o];exact nA⟩,iV sF hn⟩⟩):G:=h
theorem pm99(h:G:=by
 simp only at d1 d2 d3 d4;obtain ⟨W5,eP⟩:=am (wr.alloc (.cells #[.string ⟨nm.toArray⟩,.int .u8 qo,.string qn,.slice qa ql qc,.slice qb qm qe] 40));have bj:=cZ eP
 first
 |clear pp99a;have ji:=dS.later bj.drew;have ZY:FormV (fun b=>b<w.heap.size) W5.drew (FQ.val ⟨qo,qn,qa,ql,qc,qb,qm,qe⟩) b.fs[k].2:=hf.move (fun b hb hlt=>⟨hb,((iO.trans (Kp.below bj.drew)).same b hlt (f_ b hb))⟩);obtain ⟨w6,cH,Gc,Gd,Hp⟩:=ji.storeF (by simp) (by omega) (x:=nm) (by rw[dG];exact HP.o.1 _ (aA bp)) ZY (HP.o.2.2.2.2.1 _ (aA bp)) (l':=b.fs.take (k+1)) (fun y=>by rw[vw HP.o.2.2.1 bp,<-dG]);have x8:=ai dS.box 0;have x9:=aa bj x8;have D5:=aa bj.drew x8;have HK:=aG Gc ((bh.trans (Kp.below bj.drew)).trans (Gd.mono (fun b _ h=>by rw[HM.o];exact .inl h)));obtain ⟨Yj,rD⟩:=a_ cH eP;rw[eP]at x9 D5;have BP:(k:Int)<(n1:Int):=by omega
  clear dS ji Gc bh Gd Hp hf ZY bj iO f_ hok dG eP bp c0 c1 c2 c3 c4;rw[rD.o]at cH;unfold FQ.val at cH;go_wp2;go_region;go_wp2;go_roundw
  case rel=>exact ⟨k+1,by omega,by go_num,HK.o.2,HK.o.1⟩
  case measure=>simp[intOf];omega
 |clear pp99b;have BP:(k:Int)<(n1:Int):=by omega
  have rD:=ae eP
  by_cases lM:nm=n
  ·subst lM;have Kx:(nm == nm)=true:=by simp
   rw[Kx]at gw;have CC:=nu g RE ok W5 ⟨qo,qn,qa,ql,qc,qb,qm,qe⟩ ((hf.later mO).later bj);simp only[FQ.val]at CC;have HC:=ae CC;have HE:=ae (show R=some g from gw);have H5:=aG (mO.tr bj) (bR bj hx);clear CC mO ar gw hf RE bj hx eP hg dG c0 c1 c2 c3 c4 hok;go_wp2_with (rw[<-rD.o];go_at_call 51;refine HC.o.mono ?_;rintro e w6 ⟨⟨p0,p1,p2,p3,p4,p5,p6,p7⟩,rfl,hp,cR⟩;have VS:=bR cR H5.o.2;obtain ⟨e0,e1,e2,e3,y0,y1,y2,y3⟩:=dp VS;have H6:=bG VS hp cR;clear VS hp cR);obtain ⟨W8,lr,x8,k8,g0,g1,g2,g3⟩:=Be H6.o.1 (.int .u8 p0) (.string p1) (.slice p2 p3 p4) (.slice p5 p6 p7);rw[<-lr];refine bJ (v:=.tuple #[FQ.val ⟨p0,p1,p2,p3,p4,p5,p6,p7⟩,.bool true]) (by simp[FQ.val,results,Tryz.results16,go_sem,g0,g1,g2,g3]) rfl ⟨⟨⟨p0,p1,p2,p3,p4,p5,p6,p7⟩,by rw[HE.o];rfl,?_⟩,Below.kp1 (H5.o.1.tr H6.o.2.2) k8 (by omega)⟩;exact pm288
  ·have Kx:(nm == n)=false:=by simp[lM]
   rw[Kx]at gw;have HG:=aG (ar.tr bj) (show R=getB (b.fs.drop (k+1)) n from gw);clear mO ar gw hf RE bj hx eP hg dG c0 c1 c2 c3 c4 hok;exact pm274
 |have x5:=cb eP;have BP:(k:Int)<(n1:Int):=by omega
  have gW:(nm,g)∈b.fs:=by rw[dG,hg];exact aA bp
  have CM:=DB nm W5 (by omega);have H5:=cC (mO.tr bj) x5 (hf.later (mO.tr bj)) ly;have HO:=fh ar au ew dG hg;have rD:=ae eP
  cases Bm:dx nm with
  | false=>
   rw[Bm]at CM;have HC:=ae CM;have HE:=ae (show R=false by
    rw[HR.o];unfold bL;rw[show (b.fs.all fun x=>dx x.1 && dv (bB x.2))=false from List.all_eq_false.2 ⟨_,gW,by simp[Bm]⟩];rfl)
   clear CM mO ar au ew dG hg ly hf bj x5 eP gW Bm c0 c1 c2 c3 c4 hok;go_wp2_with (rw[<-rD.o];go_at_call 65;refine HC.o.mono ?_;rintro e w6 ⟨rfl,cR⟩;have H6:=ae cR;clear cR);go_ret;exact ⟨by rw[HE.o];rfl,H5.o.1.tr H6.o⟩
  | true=>
   rw[Bm]at CM;have HC:=ae CM;have IK:=ae (fun (W:World) (hb:Below W5.heap.size W5 W)=>Lm g ly.2.1 ok W ⟨qo,qn,qa,ql,qc,qb,qm,qe⟩ ((hf.later (mO.tr bj)).later hb));have Jr:=ae (fun (W:World) (p:FQ) (ok':Nat->Prop) (hb:Below W5.heap.size W5 W) (hp:FormV ok' W p.val (bB g))=>vM W0 (bB g) ly.2.2 ok' W (QN.o.next ((mO.tr bj).tr hb)) p hp);simp only[FQ.val]at IK Jr
   cases Mi:dv (bB g) with
   | false=>
    rw[Mi]at Jr;have HE:=ae (show R=false by
     rw[HR.o];unfold bL;rw[show (b.fs.all fun x=>dx x.1 && dv (bB x.2))=false from List.all_eq_false.2 ⟨_,gW,by simp[Mi]⟩];rfl)
    clear CM mO ar au ew dG hg ly hf bj x5 eP gW Bm Mi c0 c1 c2 c3 c4 hok;go_wp2_with (first | (rw[<-rD.o];go_at_call 65;refine HC.o.mono ?_;rintro e w6 ⟨rfl,cR⟩;have x6:=bR cR H5.o.2.1;have s0:=ai x6 0;have s1:=ai x6 1;have s2:=ai x6 2;have s3:=ai x6 3;have s4:=ai x6 4;have H6:=aG cR x6;clear cR x6) | (go_at_call 66;refine (IK.o w6 H6.o.1).mono ?_;rintro e w7 ⟨⟨p0,p1,p2,p3,p4,p5,p6,p7⟩,rfl,Je,fw⟩;have H7:=aG Je fw;clear Je fw) | (go_at_call 39;refine (Jr.o w7 ⟨p0,p1,p2,p3,p4,p5,p6,p7⟩ _ (H6.o.1.tr H7.o.2) H7.o.1).mono ?_;rintro e w8 ⟨rfl,gJ⟩;have H8:=ae (H6.o.1.tr (H7.o.2.tr gJ));clear gJ));go_ret;exact ⟨by rw[HE.o];rfl,H5.o.1.tr H8.o⟩
   | true=>
    rw[Mi]at Jr;have wn:=ae bj;have VY:=ae (show ((b.fs.take k).map (·.1)).length+1<=4000000 by simp;omega);have Ky:=ae (show (b.fs.take (k+1)).map (·.1)=(b.fs.take k).map (·.1) ++ [nm]/\(b.fs.take (k+1)).all (fun x=>dx x.1 && dv (bB x.2))=true by
     rw[List.take_add_one,gx bp];refine ⟨by rw[List.map_append,dG];rfl,?_⟩;rw[List.all_append,ew];simp only[Option.toList,List.all_cons,List.all_nil,Bool.and_true,dU];rw[<-dG,<-hg,Bm,Mi];rfl)
    clear CM mO ar au ew dG hg ly hf bj x5 eP gW Bm Mi c0 c1 c2 c3 c4 hok;go_wp2_with (first | (rw[<-rD.o];go_at_call 65;refine HC.o.mono ?_;rintro e w6 ⟨rfl,cR⟩;have x6:=bR cR H5.o.2.1;have s0:=ai x6 0;have s1:=ai x6 1;have s2:=ai x6 2;have s3:=ai x6 3;have s4:=ai x6 4;have H6:=aG cR x6;clear cR x6) | (go_at_call 66;refine (IK.o w6 H6.o.1).mono ?_;rintro e w7 ⟨⟨p0,p1,p2,p3,p4,p5,p6,p7⟩,rfl,Je,fw⟩;have H7:=aG Je fw;clear Je fw) | (go_at_call 39;refine (Jr.o w7 ⟨p0,p1,p2,p3,p4,p5,p6,p7⟩ _ (H6.o.1.tr H7.o.2) H7.o.1).mono ?_;rintro e w8 ⟨rfl,gJ⟩;have r0:=aa (H7.o.2.tr gJ) s0;have H8:=ae (H6.o.1.tr (H7.o.2.tr gJ));clear gJ) | (at_builtin;refine dR rfl _ _ rfl W1.heap.size (by have:=HO.o.1.size;have:=wn.o.size;have:=H8.o.size;simp;omega) u3 ((b.fs.take k).map (·.1)) rfl (HO.o.2.1.later ((wn.o.tr H8.o).tr cJ)) (.slice (some ⟨w8.heap.size,0,none⟩) 1 1) [nm] rfl (fun _=>True) (zh (aj rfl)) VY.o ?_;intro v9 w9 Og Hn;have HG:=aG Og (nv ((Kp.below (M:=fun _=>False) ((HO.o.1.tr wn.o).tr H8.o)).trans (Kp.below cJ)) Hn (fun g hg=>(World.ownsRow.lt HO.o.2.1 g hg).1)).empty;clear Og Hn));go_roundw
    case rel=>exact ⟨k+1,by omega,by go_num,HG.o.2,by rw[Ky.o.1];exact HG.o.1,Ky.o.2⟩
    case measure=>simp[intOf];omega):G:=h
theorem pm100(h:G:=by
 go_wp2;refine aS (by kernel_rfl) (by kernel_rfl) ?_
 repeat (go_big_quiet_step ((go_at_call 17;exact cA (HC.o _))))
 refine wpQuiet_nil ?_;rintro _ ⟨x',rfl⟩
 first
 |clear pp100a;clear f0 f1 f2 f3 f4 f5 f6 f7;have cO:=ae (HB.o.trans (x'.below.mono HB.o.size));cases R
  ·go_wp2;go_ret;exact ⟨aO (HNe.o (fun h=>by have:=HR.o;rw[(ng _ _).2 h]at this;cases this)).symm,cO.o⟩
  ·go_wp2;go_roundw
   case rel=>exact ⟨k+1,by omega,by go_num,cO.o,tY HT.o bp mN ((ng _ _).1 HR.o.symm)⟩
   case measure=>simp[intOf];omega
 |clear pp100b;clear f0 f1 f2 f3 f4 f5 f6 g2 g3 g4 g5 g6;have cO:=ae (HB.o.trans (x'.below.mono HB.o.size));go_wp2;go_ret;exact ⟨by rw[HZ.o];rfl,HE.o.1.tr cO.o⟩
 |clear f0 f1 f2 f3 f4 f5 f6 g2 g3 g4 g5 g6;have cO:=ae (HB.o.trans (x'.below.mono HB.o.size))
  cases V with
  | false=>
   have HZ:=ae (yX.o fun h=>by
    subst h;have:=congrArg Prod.snd (HX.o.1.trans HX.o.2.symm);have e:=HV.o;rw[(ng _ _).2 this]at e;cases e)
   go_wp2;go_ret;exact ⟨by rw[HZ.o];rfl,HE.o.1.tr cO.o⟩
  | true=>
   go_wp2;go_roundw
   case rel=>exact ⟨k+1,by omega,by go_num,cO.o,oF HT.o bp mN (by rw[<-HX.o.1,<-HX.o.2,(ng _ _).1 HV.o.symm])⟩
   case measure=>simp[intOf];omega):G:=h
theorem pm101(h:G:=by
 refine bJ (v:=.tuple #[FQ.val ⟨0,⟨#[]⟩,none,0,0,none,0,0⟩,.bool false]) (by simp[FQ.val,results,Tryz.results91,go_sem,g0,g1,g2,g3]) rfl ⟨⟨⟨0,⟨#[]⟩,none,0,0,none,0,0⟩,by rw[HE.o];rfl,fun u hu=>by rw[HE.o]at hu;cases hu⟩,Below.kp1 ((dt.o.1.tr dt.o.2).tr H5.o.1) k6 (by omega)⟩):G:=h
theorem pm102(h:G:=by
 rw[<-da]at x6 k6 ⊢;clear da;have g0:W6.cell? ⟨w.heap.size+1,0,none⟩=some (.int .u8 p0):=ai x6 0;have g1:W6.cell? ⟨w.heap.size+1,1,none⟩=some (.string p1):=ai x6 1;have g2:W6.cell? ⟨w.heap.size+1,2,none⟩=some (.slice p2 p3 p4):=ai x6 2;have g3:W6.cell? ⟨w.heap.size+1,3,none⟩=some (.slice p5 p6 p7):=ai x6 3
 first
 |clear pp102;have tV:=EG (p:=⟨p0,p1,p2,p3,p4,p5,p6,p7⟩) (B:=w.heap.size+1) (HB.o.1.tr (H3.o.1.tr (H5.o.tr H6.o.1))) (by omega) k6 (H6.o.2.move (fun b hok _=>⟨by have h1:=HB.o.2.1;have h2:=H3.o.1.size;have h3:=H5.o.size;have h:w5.heap.size<=b:=hok;omega,rfl⟩));refine bJ (v:=FQ.val ⟨p0,p1,p2,p3,p4,p5,p6,p7⟩) (by simp[FQ.val,results,Tryz.results72,go_sem,g0,g1,g2,g3]) rfl ⟨⟨⟨p0,p1,p2,p3,p4,p5,p6,p7⟩,rfl,?_⟩,tV.2⟩;rw[HR5.o];exact tV.1
 |have tV:=EG (p:=⟨p0,p1,p2,p3,p4,p5,p6,p7⟩) (B:=w.heap.size+1) (HB.o.1.tr (H3.o.1.tr (H5.o.tr H7.o))) (by omega) k6 (HP7.o.move (fun b hok _=>⟨by have h1:=HB.o.2.1;have h2:=H3.o.1.size;have h3:=H5.o.size;have h:w5.heap.size<=b:=hok;omega,rfl⟩));refine bJ (v:=FQ.val ⟨p0,p1,p2,p3,p4,p5,p6,p7⟩) (by simp[FQ.val,results,Tryz.results72,go_sem,g0,g1,g2,g3]) rfl ⟨⟨⟨p0,p1,p2,p3,p4,p5,p6,p7⟩,rfl,?_⟩,tV.2⟩;rw[HR5.o];exact tV.1):G:=h
theorem pm103(h:G:=by
 obtain ⟨r,rfl⟩:∃r,n=63 :: r:=rP (by
  cases h2:(n.head? == some 63)
  ·simp[dC,dx,cP,h2]at h
  ·rfl)
 have C1:=ae (fun w=>h ▸ jF (63 :: r) w hn);exact pm189):G:=h
theorem pm104(h:G:=by
 have HE:=ae (show R=true by rw[ht,iS (by rw[OA.o];exact aI _)];simp[dI]);have dt:=ae (kL.o.trans (e8.mono kL.o.size));clear e8 ht;go_wp2;go_ret;exact ⟨aO HE.o.symm,dt.o⟩):G:=h
theorem pm105(h:G:=by
 have z_:Below w.heap.size w X:=aD Pp.o.1 h4 (fun b hb=>(Sd.o b hb).1);have jS:Marks w.heap.size X _:=Hv3.o.2.more (w':=X) (fun E hE hx=>(h4.same E (bz hx) (fun hm=>by rw[HM3.o]at hm;rcases hm with rfl | rfl <;> first | (rw[Pp.o.2.2.2]at hx;cases hx) | (rw[HnV.o]at hx;cases hx))).trans hx) hD (aN Pp.o.1.size hD) hd
 first
 |clear pp105;have r0:=ai h3 0;have z0:=af h3 0;have HX:=bG z_ jS h3;clear h1 h2 h3 h4 WK hd z_ jS hD;gi_wp2_with fail;obtain ⟨W8,lr⟩:=am (X.setCell ⟨w.heap.size+1+1,0,none⟩ (.int .i64 0));have k8:Kp (fun b=>b=w.heap.size+1+1) X W8:=by rw[lr];exact iB
  have x8:=iA HX.o.2.2 (v:=.int .i64 0);rw[<-lr]at x8 ⊢;refine ef (B:=w.heap.size) (HX.o.2.1.move (fun D _ hd=>(k8.same D (bz hd) (fun h=>by subst h;rw[HX.o.2.2]at hd;cases hd)).trans hd)) (fun w' hn=>?_);have h0:=hn.cell (ai x8 0);exact ⟨.int .i64 0,by simp[results,Tryz.results71,go_sem,h0],by rw[HE.o],iV (aD HX.o.1 k8 (fun b hb=>by omega)) hn⟩
 |have HE:=ae (show R=3 by rw[HR.o,aw (by rw[<-R6.o,HA1.o];simp),aw (by have h:=Y9.o;rw[WI.o]at h;rw[h];simp),aH (by have:=R4 (dn.map EF);rw[zau.o]at this h2;omega)]);have HX:=bG z_ jS h3;clear h2 h3 h4 hd dn z_ jS hD;gi_wp2_with fail;refine ef (B:=w.heap.size) HX.o.2.1 (fun w' hn=>?_);have h0:=hn.cell (ai HX.o.2.2 0);exact ⟨.int .i64 3,by simp[results,Tryz.results71,go_sem,h0],by rw[HE.o],iV HX.o.1 hn⟩):G:=h
theorem pm106(h:G:=by
 obtain ⟨aR,ao,hg,_⟩:=HG.o;have cH:=eR.o.stepT (F:=2) (t:=u') (p:=⟨pv,pn,pa,pl,pc⟩) (g:=g) (cap:=ev) (by rw[tg.o.2];exact yY.o.2.1) (by rw[tg.o.2];exact yY.o.1) yY.o.2.2 IM.o.2 IM.o.1 (by rw[tg.o.2];exact aR) ao (by rcases hg with h | h;exact .inl h;exact .inr (by simp;omega)) rfl;rw[tg.o.2]at cH
 first
 |clear pp106;exact ⟨k1+1,by omega,by go_num,_,Q' ++ [u'],cH,tg.o.1,by rw[dZ,tg.o.2];rfl⟩
 |exact ⟨k+1,by omega,by go_num,_,us ++ [u'],cH,tg.o.1,by rw[dZ,tg.o.2];rfl⟩):G:=h
theorem pm107(h:G:=by
 have l2:=(hlk (W2.alloc (.cells #[.int .u8 0,.string ⟨#[]⟩,.slice none 0 0,.slice none 0 0] 36)).drew (bI _ _ _ (by have:=H2.o.2.2.fs.lt;omega))).1
 first
 |clear pp107a;have L0:=ae (show R=true by rw[hE,hg]);obtain ⟨W3,ec⟩:=am (W2.alloc (.cells #[.int .u8 0,.string ⟨#[]⟩,.slice none 0 0,.slice none 0 0] 36)).drew;have x3:W3.heap[w.heap.size+1]?=some (.cells #[.int .u8 16,.string ⟨n.toArray⟩,.slice sa n1 sc,.slice sb m1 se] 36 (0,0)):=by rw[ec];exact (aL.block _ (bz H2.o.2.1)).trans H2.o.2.1
  have i0:=ai x3 0;have bQ:=ae (show Below w.heap.size w W3 by rw[ec];exact H2.o.1.tr aL.drew);clear hlk hg aL hE x3 Fd aU wC fL Hs Em Gt M5;go_enter Tryz.func124,Tryz.ntmps124;go_upto_region 4 with fail;rw[<-gK.o];go_region
  all_goals
   rw[<-ec];clear ec;go_wp2;go_ret;exact ⟨by rw[L0.o];rfl,bQ.o⟩
 |clear pp107b;rw[hg]at hE;simp only[show ¬((16:Int)=15) by decide,↓reduceIte]at hE;obtain ⟨W3,ec⟩:=am (W2.alloc (.cells #[.int .u8 Ec,.string Ed,.slice Ee Ef Eg,.slice Eh Ei Ej] 36)).drew;have oY:Below W2.heap.size W2 W3:=by rw[ec];exact cJ.drew
  have x3:=bR oY H2.o.2.1;have y3:W3.heap[W2.heap.size]?=some (.cells #[.int .u8 Ec,.string Ed,.slice Ee Ef Eg,.slice Eh Ei Ej] 36 (0,0)):=by rw[ec];exact aj rfl
  obtain ⟨i0,i1,i2,i3,_,_,_,_⟩:=dp x3;have B_:=ae (HIN.o W3 oY);have L3:=ae (fun (V:World) (h:Below W3.heap.size W3 V)=>jb cW f Gm.fit _ V ⟨Ec,Ed,Ee,Ef,Eg,Eh,Ei,Ej⟩ ((ot.later oY).later h));simp only[FQ.val]at L3;obtain ⟨n0,sd⟩:=am (gY cW f);rw[<-sd]at hE L3;have H3:=bG oY y3 (H2.o.2.2.later oY);have HE3:=ae hE;clear hlk hg aL hE x3 y3 Fd aU wC fL Hs Em Gt M5 ot Gm sd oY;go_enter Tryz.func124,Tryz.ntmps124;go_upto_region 4 with fail;rw[<-gK.o];go_region
  all_goals
   rw[<-ec];clear ec l1 l2 g0 g1 g3 g4 g5 e0 e1 e2 e3;go_upto_region 8 with (go_at_call 96;refine B_.o.mono ?_;rintro e w4 ⟨rfl,aP⟩;have H4:=ae aP;clear aP);clear i0 i1 i2 i3;have oo:=H3.o.2.2.later H4.o;have k1:w4.cell? ⟨kb,1,none⟩=some (.map (some mT)):=ai oo.box 1;have y4:=bR H4.o H3.o.2.1;obtain ⟨j0,j1,j2,j3,_,_,_,_⟩:=dp y4;have Yr:=ae (L3.o w4 H4.o);rcases oo.ts.look Tryz.underlying9 Tryz.underlying146 jr (x:=y) (by have:=HY.o.1;omega) with ⟨hg,hlk⟩ | ⟨t,vt,hg,hvt,hlk⟩
   ·have l1:=(hlk w4 rfl).1;have L0:=ae (show R=decide (n0 > 0) by rw[HE3.o,hg];rfl);clear hlk hg oo y4;go_wp2_with (go_at_call 97;refine Yr.o.mono ?_;rintro e w5 ⟨rfl,bj⟩;have H5:=ae bj;clear bj);go_ret;exact ⟨by rw[L0.o];simp,(H2.o.1.tr H3.o.1).tr (H4.o.tr H5.o)⟩
   ·obtain ⟨⟨CX,OI,OJ,OK,OL⟩,rfl,oW,U6⟩:=hvt;simp only[TQ.val]at hlk;have l1:=(hlk w4 rfl).1;have L0:=ae (show R=false by rw[HE3.o,hg];rfl);clear hlk hg oo y4 oW U6;go_wp2;go_ret;exact ⟨by rw[L0.o];rfl,(H2.o.1.tr H3.o.1).tr H4.o⟩
 |have L0:=ae (show R=false by rw[hE,hg];rfl);obtain ⟨W3,ec⟩:=am (W2.alloc (.cells #[.int .u8 Ec,.string Ed,.slice Ee Ef Eg,.slice Eh Ei Ej] 36)).drew;have oY:Below W2.heap.size W2 W3:=by rw[ec];exact cJ.drew
  have i0:=ai (bR oY H2.o.2.1) 0;have bQ:=ae (H2.o.1.tr oY);clear hlk hg aL hE ot Gm oY;go_enter Tryz.func124,Tryz.ntmps124;go_upto_region 4 with fail;rw[<-gK.o];go_region
  all_goals
   rw[<-ec];clear ec;go_wp2;go_ret;exact ⟨by rw[L0.o];rfl,bQ.o⟩):G:=h
theorem pm108(h:G:=by
 have jX:=cZ ec;have m4:=cb ec;rw[<-ec];have f0:=fun x:Later W3=>x.get (ai m4 0);have f1:=fun x:Later W3=>x.get (ai m4 1);have f2:=fun x:Later W3=>x.get (ai m4 2)
 first
 |clear pp108a;have g0:=fun x:Later W3=>x.get (aa jX DE.o);have g1:=fun x:Later W3=>x.get (aa jX qG.o.1);have g2:=fun x:Later W3=>x.get (aa jX qG.o.2.1);have g3:=fun x:Later W3=>x.get (aa jX qG.o.2.2);have bQ:=ae jX;have CC:=ae (fun (x:Later W3)=>yT xa[k] ya[k] ps (.slice pa p0 pc) ok ok' x.w u u' VI ID.o ((HU.o.later bQ.o).later x.below) ((AC.o.later bQ.o).later x.below) ((AZ.o.later bQ.o).later x.below));rw[<-IE.o]at CC;unfold TQ.val at CC;clear ec jX m4 d0 d1 d2 y2;refine aS (by kernel_rfl) (by kernel_rfl) ?_
  repeat (go_big_quiet_step ((go_at_call 160;exact cA (CC.o _))))
  refine wpQuiet_nil ?_;rintro _ ⟨x',rfl⟩;clear f0 f1 f2 g0 g1 g2 g3;exact pm25
 |clear pp108b;have f3:=fun x:Later W3=>x.get (aa jX DE.o);have f4:=fun x:Later W3=>x.get (aa jX qG.o.1);have f5:=fun x:Later W3=>x.get (aa jX qG.o.2.1);have f6:=fun x:Later W3=>x.get (aa jX qG.o.2.2);have bQ:=ae jX;have CC:=ae (fun (x:Later W3)=>U'.o ya[k] ps (.slice pa p0 pc) ok ok' x.w u u' (by rw[<-E8.o];exact gU) ID.o ((HU.o.later bQ.o).later x.below) ((AC.o.later bQ.o).later x.below) ((AZ.o.later bQ.o).later x.below));rw[<-IE.o]at CC;unfold TQ.val at CC;clear ec jX m4 d0 d1 d2 y2;refine aS (by kernel_rfl) (by kernel_rfl) ?_
  repeat (go_big_quiet_step ((go_at_call 160;exact cA (CC.o _))))
  refine wpQuiet_nil ?_;rintro _ ⟨x',rfl⟩;clear f0 f1 f2 f3 f4 f5 f6;exact pm25
 |have f3:=fun x:Later W3=>x.get (ai m4 3);have g0:=fun x:Later W3=>x.get (aa jX DE.o);have g1:=fun x:Later W3=>x.get (aa jX qG.o.1);have g2:=fun x:Later W3=>x.get (aa jX qG.o.2.1);have g3:=fun x:Later W3=>x.get (aa jX qG.o.2.2.1);have g4:=fun x:Later W3=>x.get (aa jX qG.o.2.2.2);have bQ:=ae jX
  first
  |clear pp30a;have CC:=ae (fun (x:Later W3)=>fS.o xs[k] (aA bp) ys[k] ps (.slice pa p0 pc) ok ok' x.w u u' OB ID.o ((HU.o.later bQ.o).later x.below) ((AC.o.later bQ.o).later x.below) ((AZ.o.later bQ.o).later x.below));rw[<-IE.o]at CC;unfold FQ.val at CC;clear ec jX m4 d0 d1 d2 d3 y2;refine aS (by kernel_rfl) (by kernel_rfl) ?_
   repeat (go_big_quiet_step ((go_at_call 92;exact cA (CC.o _))))
   refine wpQuiet_nil ?_;rintro _ ⟨x',rfl⟩;clear f0 f1 f2 f3 g0 g1 g2 g3 g4;exact pm25
  |clear pp30b;have CC:=ae (fun (x:Later W3)=>fS.o xs[k] (aA bp) ys[k] (ps ++ [(xn,xn)]) (.slice (some ⟨g,0,none⟩) (p0+1) cap) ok ok' x.w u u' OB ID.o ((HU.o.later bQ.o).later x.below) ((AC.o.later bQ.o).later x.below) ((AZ.o.later bQ.o).later x.below));rw[<-IE.o]at CC;unfold FQ.val at CC;clear ec jX m4 d0 d1 d2 d3 y2;refine aS (by kernel_rfl) (by kernel_rfl) ?_
   repeat (go_big_quiet_step ((go_at_call 92;exact cA (CC.o _))))
   refine wpQuiet_nil ?_;rintro _ ⟨x',rfl⟩;clear f0 f1 f2 f3 g0 g1 g2 g3 g4;exact pm25
  |have CC:=ae (fun (x:Later W3)=>fS.o xs[k] (aA bp) ys[k] (ps ++ [(xn,yn)]) (.slice (some ⟨g,0,none⟩) (p0+1) cap) ok ok' x.w u u' OB ID.o ((HU.o.later bQ.o).later x.below) ((AC.o.later bQ.o).later x.below) ((AZ.o.later bQ.o).later x.below));rw[<-IE.o]at CC;unfold FQ.val at CC;clear ec jX m4 d0 d1 d2 d3 y2;refine aS (by kernel_rfl) (by kernel_rfl) ?_
   repeat (go_big_quiet_step ((go_at_call 92;exact cA (CC.o _))))
   refine wpQuiet_nil ?_;rintro _ ⟨x',rfl⟩;clear f0 f1 f2 f3 g0 g1 g2 g3 g4;exact pm25):G:=h
theorem pm109(h:G:=by
 simp only[TQ.val,cE,Array.mk.injEq,cB,and_true,Value.bool.injEq,Value.string.injEq]at h2;obtain ⟨rfl,rfl,rfl⟩:=h2
 first
 |clear pp109a;have hW:Below wr.heap.size wr (wr.alloc (.cells #[.bool uv,.string ⟨xn.toArray⟩,.slice ua ul uc] 43)):=cJ;have o9:(wr.alloc (.cells #[.bool uv,.string ⟨xn.toArray⟩,.slice ua ul uc] 43)).heap[wr.heap.size]?=some (.cells #[.bool uv,.string ⟨xn.toArray⟩,.slice ua ul uc] 43 (0,0)):=aj rfl;have Y3:NAt L 9223372036854775807 wr:=HL.o.kp bh (fun h=>XZ h.symm);have zd8:N<wr.heap.size:=(bz hn);have C1:=If N L XZ (k+nodesTs (l.take j)) _ ⟨uv,⟨xn.toArray⟩,ua,ul,uc⟩ (hn.later hW) (Y3.later hW) (by omega) (by omega);unfold TQ.val at C1;have CC:=fun (W:World) (h:Kp (fun c=>c=N) wr W) (hN:NAt N (k+nodesTs (l.take j)+1) W)=>pG N L ok (k+nodesTs (l.take j)+1) W ua ul uc XZ hf.args (fL.move (fun b hb hlt=>⟨hb,h.same b hlt (o7.o b hb)⟩)) o7.o hN (Y3.kp h (fun h=>XZ h.symm)) (by omega) (by simp only[Tm.a];omega);simp only[Tm.a]at CC;obtain ⟨P,hP⟩:=am (nodesTs (l.take j));obtain ⟨M,hM⟩:=am (nodesTs xa);rw[<-hP,<-hM]at iL;rw[<-hP]at C1;rw[<-hP,<-hM]at CC;obtain ⟨B_,lN,HS,kf⟩:=eW C1 CC iL bh;have HW:=aG hW o9;clear hu iF pG hf hx fL hn C1 CC iL bh hW o9 Y3 hP hM rU c0 c1 c2;go_wp2_with (first | (go_at_call 231;refine B_.o.mono ?_;rintro e w1 ⟨rfl,kC,dX⟩;have e2:w1.cell? ⟨wr.heap.size,2,none⟩=some (.slice ua ul uc):=ai ((kC.same _ (by simp) (by omega)).trans HW.o.2) 2;have HH1:=aG ((Kp.below HW.o.1).trans kC) dX;clear kC dX) | (go_at_call 230;refine (lN.o _ HH1.o.1 HH1.o.2).mono ?_;rintro e w2 ⟨rfl,io,ku⟩;have HH2:=aG io ku;clear io ku));go_roundw
  case rel=>exact ⟨j+1,by omega,by go_num,kf.o.trans (HH1.o.1.trans HH2.o.1),by have h:=HH2.o.2;rw[HS.o];rw[show k+((P+(M+1):Nat):Int)=k+(P:Int)+1+(M:Int) by omega];exact h⟩
  case measure=>simp[intOf];omega
 |clear pp109b;obtain ⟨d0,d1,d2⟩:=ke ar c0 c1 c2;have hW:Below wr.heap.size wr (wr.alloc (.cells #[.bool uv,.string ⟨xn.toArray⟩,.slice ua ul uc] 43)):=cJ;have E7:(k:Int)<(k0:Int):=by omega
  by_cases hc:uv=true/\xn=x
  ·obtain ⟨rfl,rfl⟩:=hc;have iP:(xn == xn)=true:=by simp
   have HE:=ae (show R=some [k] by rw[ht];simp[m8]);have HB:=ae (ar.trans (hW.mono ar.size));clear ar hW hu fL hf pG hx ht c0 c1 c2;go_wp2;go_ret;refine ⟨⟨_,rfl,?_⟩,?_⟩
   ·rw[HE.o];exact IntsV.one 1 (aI _) (aj (by simp))
   ·exact HB.o.trans (cJ.mono HB.o.size)
  ·have U6:m8 x (.mk uv xn xa)=eB x xa 0:=by
    rw[m8,aw];simpa using hc
   rw[U6]at ht;have C1:=pG x ok _ ua ul uc hf.args ((fL.later ar).later hW);simp only[Tm.a]at C1;obtain ⟨S,hS⟩:=am (eB x xa 0);have S_:∀ p,S=some p->p≠[]/\p.length<=2000000:=fun p hp=>by
    rw[hS]at hp;exact ⟨vh hp,aN (lT xa 0 p hp) hf.args.1⟩
   rw[<-hS]at ht C1;obtain ⟨HC,HT⟩:=a_ C1 ht;have HB:=ae (ar.trans (hW.mono ar.size));have HLS:=ae S_;have Ns:uv=true->(xn == x)=false:=fun h=>by simpa using fun h'=>hc ⟨h,h'⟩
   clear ar hW hu fL hf pG hx ht c0 c1 c2 hS S_ C1 U6 hc;cases uv
   ·clear Ns;exact pm13
   ·have iP:(xn == x)=false:=Ns rfl;clear Ns;exact pm13
 |clear pp109c;have f0:=fun x:Later wr=>x.get (aa ar c0);have f1:=fun x:Later wr=>x.get (aa ar c1);have f2:=fun x:Later wr=>x.get (aa ar c2);have E7:(k:Int)<(k0:Int):=by omega
  have lK:=hf.name;have XB:=gQ xn;have htd:=Qd xn.length;obtain ⟨q,hq⟩:=am (xn.length / 40);have M0:q<=50000:=by omega
  obtain ⟨R,hR⟩:=am (iZ xa (left - m) 0);have hRb:=(mc xa (left - m) 0).2.1;have E9:=hf.args.sz;have CC:=fun (x:Later wr)=>pG ok x.w ua ul uc (left - m) hf.args ((fL.later ar).later x.below) (by omega) (by omega);simp only[Tm.a]at CC;rw[<-hR]at CC hRb;have rh:iZ l left 0=iZ (l.drop (k+1)) left (m+(1+q+R)):=by
   rw[hcut];simp only[iZ,aH uF,JM];rw[hq,hR]
  have Jf:m+(1+q+R)<=100002000000:=by
   have h5:=(mc l left 0).2.1;have h6:=(mc (l.drop (k+1)) left (m+(1+q+R))).1;omega
  rw[<-hq]at htd;have xh:IntKind.i64.wrap ((q:Nat):Int)=q:=fQ _ (by omega);have MT:IntKind.i64.wrap (1+((q:Nat):Int))=1+(q:Int):=fQ _ (by omega);have VX:IntKind.i64.wrap (left - (m:Int))=left - (m:Int):=fQ _ (by omega);have TN:IntKind.i64.wrap (1+(q:Int)+(R:Int))=1+(q:Int)+(R:Int):=fQ _ (by omega);have Yt:IntKind.i64.wrap ((m:Int)+(1+(q:Int)+(R:Int)))=((m+(1+q+R):Nat):Int):=by rw[fQ _ (by omega)];omega
  obtain ⟨HC,HB⟩:=a_ CC ar;have HS:=aG rh Jf;clear hu pG hf hx fL ar hcut CC hq Uj rh Jf hR hRb E9 c0 c1 c2;go_wp2;refine aS (by kernel_rfl) (by kernel_rfl) ?_
  repeat (go_big_quiet_step ((go_at_call 54;exact cA (HC.o _))))
  refine wpQuiet_nil ?_;rintro _ ⟨x',rfl⟩;clear f0 f1 f2 xh MT VX TN Yt htd XB;have cO:=ae (HB.o.trans (x'.below.mono HB.o.size));go_wp2;go_roundw
  case rel=>exact ⟨k+1,_,by omega,by go_num,rfl,cO.o,HS.o.1,HS.o.2⟩
  case measure=>simp[intOf];omega
 |simp only at d0 d1 d2;obtain rfl:=fL.len;obtain ⟨z0,z1,z2,y0,y1,y2⟩:=gt D6;have HW:=aG hw hyy;have HB:=qS D6 bh hu fL hf iK;have UT:(pq.drop (j+1)).length=j+1 - (j+1)+(n2 - (j+1)):=by rw[HN.o.2.1];simp
  have Zc:=ae UT;clear Rp ct xz bh qW IZ D6 eh o6 hjp Yg hw em hu fL hf iK hy hyy UT;go_wp2;go_roundw
  case rel=>
   have x9:=pC (v0:=.bool uv) (v1:=.string ⟨xn.toArray⟩) (v2:=.slice ua xa.length uc) HB.o.1;have k9:=eD (W:=wr) (b:=wo.heap.size) (v0:=.bool uv) (v1:=.string ⟨xn.toArray⟩) (v2:=.slice ua xa.length uc);refine ⟨j+1,.mk uv xn xa,xa,⟨uv,⟨xn.toArray⟩,ua,xa.length,uc⟩,ua,uc,by omega,by go_num,rfl,HB.o.2.1.trans k9,x9,HB.o.2.2.2.1.move (fun b hb hlt=>⟨hb,k9.same b hlt (by have:=HZ.o;omega)⟩),HB.o.2.2.2.2.1.args,fun h=>?_,fun _=>⟨HB.o.2.2.1.move (fun b hb hlt=>⟨hb,k9.same b hlt (by have:=HZ.o;omega)⟩),HB.o.2.2.2.2.1,fun h=>?_⟩⟩
   ·rw[HW.o.1,zg (fun hd=>by have:=Zc.o;rw[hd]at this;simp at this;omega),HW.o.2];rfl
   ·have hd:pq.drop (j+1)=[]:=jk (by have:=Zc.o;omega);rw[HW.o.1,hd];exact HW.o.2
  case measure=>simp[intOf];omega):G:=h
theorem pm110(h:G:=by
 exact pm231):G:=h
theorem pm111(h:G:=by
 obtain ⟨fJ,fK,rfl⟩:=hF.row.slice;rw[ct]at hF;have HR:=ae (jG ▸ hF.row);have x2:=hF.box;have x1:=hF.other (by omega) jo.o;have x0:=hF.other (by omega) Ln.o
 first
 |clear pp111a;have p2:iQ.cell? ⟨w.heap.size,2,none⟩=some (.slice qa k1 qc):=ai x0 2;have p3:iQ.cell? ⟨w.heap.size,3,none⟩=some (.slice qb m0 qe):=ai x0 3;have Lo:=ae x1;have UR:=HR;obtain ⟨qU,w_,xd⟩:=cG ar hF.lt hF.size;have uT:=ae (Fills.start (R:=w.heap.size+1+1) (mk:=fun rr=>#[.int .u8 qo,.string ⟨n.toArray⟩,.slice fJ k1 fK,rr]) (Row:=fun r W=>RowF iQ.heap.size r ((s.map bB).take 0) W) x2 (RowF.nil _ _));clear jG ct hF x0 x1 x2 ar HR;gi_wp2;gi_loopw [31] (fun i wr=>∃k:Nat,k<=m0/\i=.int .i64 k/\∃row,Fills 36 (w.heap.size+1+1) iQ.heap.size (fun rr=>#[.int .u8 qo,.string ⟨n.toArray⟩,.slice fJ k1 fK,rr]) (fun r W=>RowF iQ.heap.size r ((s.map bB).take k) W) iQ wr row) (fun i _=>m0 - (intOf i).toNat)
  case atStart=>exact ⟨0,bc _,rfl,_,uT.o⟩
  case round=>
   obtain ⟨k,hk,rfl,row,hF⟩:=hrel;have ar:=hF.below qU.o (Nat.le_add_right _ 2)
   by_cases hlt:k<m0
   ·have dy:=cF gV.o hlt;have pp134b:=();exact pm134
   ·obtain rfl:k=m0:=by omega
    have ct:((s.map bB).take k).length=k:=by rw[dM];have:=gV.o;simp;omega
    have jG:(s.map bB).take k=(s.map bB):=f8 (by have:=gV.o;simp;omega);have pp185b:=();exact pm185
 |clear pp111b;have xu:=hF.other (by omega) HXU.o;have CQ:=eI ⟨qo,⟨n.toArray⟩,qa,k1,qc,qb,m0,qe⟩ DX;simp only[FQ.val]at CQ;obtain ⟨e0,e1,e2,e3⟩:=mm x0;have Hk:=ae CQ;have HE:=fh x0 x1 xu x2 ar;have w_:=ae hF.lt;have Oc:=hF.size;clear CQ hF x0 x1 xu x2 ar jG ct;gi_wp2_with fail;refine aK.2 (Hk.o.mono ?_);rintro e iQ ⟨rfl,nq⟩;clear e0 e1 e2 e3;have xd:=ae (show W1.heap.size<=iQ.heap.size from aN Oc nq.size);have x0:=bR nq HE.o.1;have x1:=bR nq HE.o.2.1;have xu:=bR nq HE.o.2.2.1;have x2:=bR nq HE.o.2.2.2.1;have qU:=ae (HE.o.2.2.2.2.tr nq);have UR:=ae (HR.o.below nq);obtain ⟨Lo,zb0,Ri⟩:=cG x1 xu x0;clear HE HR nq Oc
  cases o_:bU qo with
  | false=>
   have vr:Hd (RS=.mk qo n (a.map (kB nx z)) (s.map (eQ kk nx z))):=ae (by rw[Tq.o,u_ o_];rfl);have p3:iQ.cell? ⟨w.heap.size,3,none⟩=some (.slice qb m0 qe):=ai x0 3;have uT:=ae (Fills.start (R:=w.heap.size+1+1+1) (mk:=fun rr=>#[.int .u8 qo,.string ⟨n.toArray⟩,.slice fJ k1 fK,rr]) (Row:=fun r W=>RowF iQ.heap.size r ((s.map (eQ kk nx z)).take 0) W) x2 (RowF.nil _ _));clear x0 x1 xu x2 o_;gi_wp2;gi_loopw [90] (fun i wr=>∃k:Nat,k<=m0/\i=.int .i64 k/\∃row,Fills 36 (w.heap.size+1+1+1) iQ.heap.size (fun rr=>#[.int .u8 qo,.string ⟨n.toArray⟩,.slice fJ k1 fK,rr]) (fun r W=>RowF iQ.heap.size r ((s.map (eQ kk nx z)).take k) W) iQ wr row) (fun i _=>m0 - (intOf i).toNat)
   case atStart=>exact ⟨0,bc _,rfl,_,uT.o⟩
   case round=>
    obtain ⟨k,hk,rfl,row,hF⟩:=hrel;have ar:=hF.below qU.o ((by omega))
    by_cases hlt:k<m0
    ·have dy:=cF gV.o hlt;have pp134c:=();exact pm134
    ·obtain rfl:k=m0:=by omega
     have ct:((s.map (eQ kk nx z)).take k).length=k:=by rw[dM];have:=gV.o;simp;omega
     have jG:(s.map (eQ kk nx z)).take k=(s.map (eQ kk nx z)):=f8 (by have:=gV.o;simp;omega);have pp185c:=();exact pm185
  | true=>
   obtain ⟨rfl,g,rfl⟩:=HQs.o o_;obtain rfl:m0=1:=gV.o;obtain rfl:k1=0:=dB.o;have pp180:=();exact pm180
 |have CQ:=eI ⟨so,⟨n.toArray⟩,sa,k1,sc,sb,m1,se⟩ DX;simp only[FQ.val]at CQ;obtain ⟨e0,e1,e2,e3⟩:=mm x0;have Hk:=ae CQ;have HE:=cC x0 x1 x2 ar;have w_:=ae hF.lt;have Oc:=hF.size;clear CQ hF x0 x1 x2 ar jG ct;gi_wp2_with fail;refine aK.2 (Hk.o.mono ?_);rintro e iQ ⟨rfl,nq⟩;clear e0 e1 e2 e3;have xd:=ae (show W1.heap.size<=iQ.heap.size from aN Oc nq.size);have x0:=bR nq HE.o.1;have x1:=bR nq HE.o.2.1;have x2:=bR nq HE.o.2.2.1;have qU:=ae (HE.o.2.2.2.tr nq);have UR:=ae (HR.o.below nq);obtain ⟨Lo,Ri,zcK⟩:=cG x1 x0 x2;clear HE HR nq Oc
  cases o_:bU so with
  | false=>
   have vr:Hd (RS=.mk so n (a.map (cQ kd.ts c)) (ss.map (cM kd c))):=ae (by rw[Tq.o,Se C_.o.1 C_.o.2 o_]);have p3:iQ.cell? ⟨w.heap.size,3,none⟩=some (.slice sb m1 se):=ai x0 3;have V_:=ae (Fills.start (R:=w.heap.size+1+1) (mk:=fun rr=>#[.int .u8 so,.string ⟨n.toArray⟩,.slice fJ k1 fK,rr]) (Row:=fun r W=>RowF iQ.heap.size r ((ss.map (cM kd c)).take 0) W) x2 (RowF.nil _ _));clear x0 x1 x2 o_;gi_wp2;gi_loopw [121] (fun i wr=>∃k:Nat,k<=m1/\i=.int .i64 k/\∃row,Fills 36 (w.heap.size+1+1) iQ.heap.size (fun rr=>#[.int .u8 so,.string ⟨n.toArray⟩,.slice fJ k1 fK,rr]) (fun r W=>RowF iQ.heap.size r ((ss.map (cM kd c)).take k) W) iQ wr row) (fun i _=>m1 - (intOf i).toNat)
   case atStart=>exact ⟨0,bc _,rfl,_,V_.o⟩
   case round=>
    obtain ⟨k,hk,rfl,row,hF⟩:=hrel;have ar:=hF.below qU.o (by omega)
    by_cases hlt:k<m1
    ·have dy:=cF Hq.o hlt;exact pm134
    ·obtain rfl:k=m1:=by omega
     have ct:((ss.map (cM kd c)).take k).length=k:=by rw[dM];have:=Hq.o;simp;omega
     have jG:(ss.map (cM kd c)).take k=(ss.map (cM kd c)):=f8 (by have:=Hq.o;simp;omega);exact pm185
  | true=>
   obtain ⟨rfl,g,rfl⟩:=HQs.o o_;obtain rfl:m1=1:=Hq.o;obtain rfl:k1=0:=oV.o;exact pm180):G:=h
theorem pm112(h:G:=by
 have:(n,g)∈l:=by
  clear h
  induction l with
  | nil=>simp[getB]at hg
  | cons x l ih=>
   obtain ⟨y,v⟩:=x;unfold getB at hg;split at hg
   ·rename_i e;simp only[dN]at hg;rw[f9]at e;subst e hg;exact fD ..
   ·exact eV _ (ih hg)
 have:=h.1 _ this;exact ⟨this.2,this.1⟩):G:=h
theorem pm113(h:G:=by
 refine hQ a γ w ⟨h.df,h.sz,h.ou,fun k o ho hd _=>h.nod k o ho hd (ew k (bz ho)),fun k o d ho hd _=>h.val k o d ho hd (ew k (bz ho)),fun k hk hl=>by simp[Array.getD,hk]at hl,h.inv,fun k o d ho _ hl=>by simp[Array.getD,(bz ho)]at hl,fun _ _ _ _ e _ _ hlt=>by simp[Array.getD,hlt]⟩):G:=h
theorem pm114(h:G:=by
 have HF:=ae (HE.o.trans jH);obtain ⟨xI,kf⟩:=a_ hj bh;clear jH hj bh ha hc ht;go_wp2;go_ret;have Wv:=HN.o;have h8:=xI.o;rw[show left - 1 - (nodesTs a:Int) - (nodesFs s:Int)=left - ((nodesTs a+nodesFs s+1:Nat):Int) by omega,<-Wv]at h8;exact JPost.yes HF.o kf.o h8 (by omega)):G:=h
theorem pm115(h:G:=by
 have jG:s.take k=s:=by rw[gV.o];exact cV
 rw[jG]at yW;have sg:=ae hF.row;have x2:=hF.box;have x1:=hF.other (by omega) N0.o;have xp:=hF.other (by omega) NZ.o;have HE:=ae (show RS=some (.mk qo n Q' us) from N1.o.2.2 _ _ HAs.o.1 yW);have HRA:=ae (IP.o.kp1 hF.kp NX.o.2);exact pm29):G:=h
theorem pm116(h:G:=by
 refine bC 7 98 (.tuple #[.agg #[.bool u0,.string u1,.slice u2 u3 u4],.bool I.isSome]) rfl jM fun mi=>?_;simp only[ag];refine bC 8 106 (.agg #[.bool u0,.string u1,.slice u2 u3 u4]) rfl mi fun rA=>?_;simp only[ag];refine bC 9 107 (.bool I.isSome) rfl rA fun I1=>?_;simp only[ag]
 first
 |clear pp116;refine bZ 10 rfl fun K hK=>?_
  go_simp;obtain ⟨EB,RA⟩:=am w6.heap.size;obtain ⟨A1,Fb⟩:=am (w6.alloc (.cells #[.bool false,.string ⟨#[]⟩,.slice none 0 0] 43));have Gn:Below W5.heap.size W5 A1:=by rw[Fb];exact H6.o.1.alloc H6.o.1.size _
  have zac:=cZ Fb;have Yo:A1.heap[EB]?=some (.cells #[.bool false,.string ⟨#[]⟩,.slice none 0 0] 43 (0,0)):=by rw[Fb,RA];exact aj rfl
  rw[<-Fb,<-RA];have HA:=cC Gn zac Yo RA;refine hK _ _ (fun _=>by rw[dh.o];exact HA.o.1) (fun _=>?_);obtain ⟨z0,z1,z2,y0',y1',y2'⟩:=gt Yo;clear hK K Fb RA Gn zac Yo;refine bZ 11 rfl fun K hK=>?_;go_simp;refine hK _ _ (fun _=>by rw[dh.o];exact Below.kp1 HA.o.1 eD (by have:=HA.o.2.2.2;have:=H6.o.1.size;omega)) (fun _=>?_);clear hK K;refine bZ 12 rfl fun K hK=>?_;go_simp;refine eN hK ?_;clear hK K;refine kz ?_;clear pp tt yy z0 z1 z2 y0' y1' y2';go_wp2_with fail;go_meet;obtain ⟨W8,lr,x8,k8,_⟩:=tj HA.o.2.2.1 (.bool u0) (.string u1) (.slice u2 u3 u4);rw[<-lr];have hl:=H6.o.1.size;refine ⟨EB,rfl,rfl,⟨u0,u1,u2,u3,u4⟩,x8,Below.kp1 HA.o.1 k8 (by have:=HA.o.2.2.2;omega),by have:=HA.o.2.2.2;omega,fun u h=>(H6.o.2 u h).move (fun b hb hlt=>⟨hb,(k8.same b (bE hlt HA.o.2.1.size) (by have:=HA.o.2.2.2;omega)).trans (HA.o.2.1.block b hlt)⟩)⟩
 |refine bZ 11 rfl fun K hK=>?_
  go_simp;refine hK _ _ (fun _=>by rw[dh.o];exact Below.kp1 H6.o.1 eD (by have:=HA.o.2.2;omega)) (fun _=>?_);clear hK K;refine bZ 12 rfl fun K hK=>?_;go_simp;refine eN hK ?_;clear hK K;refine kz ?_;clear pp tt yy z0 z1 z2 y0' y1' y2';go_wp2_with fail;go_meet;obtain ⟨W8,lr,x8,k8,_⟩:=tj H6.o.2.2.1 (.bool u0) (.string u1) (.slice u2 u3 u4);rw[<-lr];refine ⟨EB,rfl,rfl,⟨u0,u1,u2,u3,u4⟩,x8,Below.kp1 H6.o.1 k8 (by have:=HA.o.2.2;omega),by have:=HA.o.2.2;omega,fun u h=>?_⟩;exact (H6.o.2.1 u h).move (fun b hb hlt=>⟨by have:=H6.o.2.2.2.2;omega,k8.same b hlt (by have:=H6.o.2.2.2.1;omega)⟩)):G:=h
theorem pm117(h:G:=by
 have HH:=aG hj bh;have lK:¬((k:Int)<min (sm:Int) (fm:Int)):=by have:=gV.o;omega
 have rR:min (sm:Int) (fm:Int)<=(k:Int):=by have:=gV.o;omega
 clear hj bh;gi_wp2;go_ret;refine .inl ⟨rfl,?_,zi.o.2.trans HH.o.2⟩;have h:=HH.o.1;rw[tF (c:=xA) (by have:=gV.o;omega)]at h;exact h):G:=h
theorem pm118(h:G:=by
 have CI:=ae (fun w3 (h3:Kp (fun c=>c=J) w w3)=>aU ▸ (dB.o ▸ lk a TG.o ok qa _ qc w3 (d9.o.move (fun b hb hlt=>⟨hb,h3.same b hlt (o7.o b hb)⟩))))
 first
 |clear pp118a;rw[aU]at hM;simp only[Bool.or_true,dU]at hM;have pp91:=();exact pm91
 |clear pp118b;rw[aU]at hM;simp only[Bool.or_true,dU]at hM;have pp90:=();exact pm90
 |have HE:Hd (BX=false):=ae (hM.trans (by simp[aU]));clear hM rS pi AF;have pp63g:=();exact pm63):G:=h
theorem pm119(h:G:=by
 subst hq;exact ⟨b,q,⟨hs,h3,h4.move (fun c hc _=>⟨⟨⟨hc.1,fun e=>hc.2.2 (by rw[e])⟩,hc.2.1⟩,rfl⟩)⟩,(hI.2.1 b rfl).1.resolve_right id⟩):G:=h
theorem pm120(h:G:=by
 injection hv with hv _ _;subst hv;rcases hs with rfl | ⟨b,off,rfl,hok,hc⟩
 ·simp at hj
 first
 |clear pp120a
  ·obtain ⟨q,hq,_⟩:=(ht j hj).form;obtain ⟨x0,x1,x2,hx,c0,c1,c2⟩:=hc j hj;rw[hq]at hx;unfold TQ.val at hx;simp only[cE,Array.mk.injEq,cB,and_true]at hx;obtain ⟨rfl,rfl,rfl⟩:=hx;exact ⟨b,off,q,rfl,hok,hq ▸ ht j hj,c0,c1,c2⟩
 |clear pp120b
  ·obtain ⟨q,hq,_⟩:=(ht j hj).form;obtain ⟨x0,x1,x2,x3,hx,c0,c1,c2,c3⟩:=hc j hj;rw[hq]at hx;unfold FQ.val at hx;simp only[cE,Array.mk.injEq,cB,and_true]at hx;obtain ⟨rfl,rfl,rfl,rfl⟩:=hx;exact ⟨b,off,q,rfl,hok,hq ▸ ht j hj,c0,c1,c2,c3⟩
 |clear pp120c
  ·exact ⟨b,off,qs j,rfl,hok,hf j hj,hc j hj⟩
 |·exact ⟨b,off,ps j,qs j,rfl,hok,(hf j hj).1,(hf j hj).2,hc j hj⟩):G:=h
theorem pm121(h:G:=by
 go_wp2_with (go_at_call 164;refine (CC.o _ HW.o).mono ?_;rintro e w1 ⟨rfl,hb1⟩;have d_:=ae hb1;clear hb1);go_roundw
 first
 |clear pp121a
  case rel=>exact ⟨k+1,by omega,by go_num,HB.o.trans ((HW.o.trans (d_.o.mono HW.o.size)).mono HB.o.size),by rw[HS.o];simp⟩
  case measure=>simp[intOf];omega
 |clear pp121b
  case rel=>exact ⟨k+1,by omega,by go_num,HB.o.trans ((HW.o.trans (d_.o.mono HW.o.size)).mono HB.o.size),by rw[HS.o];simp;omega⟩
  case measure=>simp[intOf];omega
 |case rel=>exact ⟨k+1,by omega,by go_num,HB.o.trans ((HW.o.trans (d_.o.mono HW.o.size)).mono HB.o.size),by rw[HS.o,dX];simp⟩
  case measure=>simp[intOf];omega):G:=h
theorem pm122(h:G:=by
 clear CC gw cH Rx hx hy eS bh oq pd Kz vB cR x6 uH VH QJ VG pO c0 c1 c2 y0 y1 y2 qZ q_ hS da;go_wp2;rw[<-VC.o];have g_:=eM;refine (wpIn_wide (n:=3)).1 ?_;refine lg S 8 dO fun jp bN=>?_;refine bC 0 92 (.pointer (some ⟨kb,0,none⟩)) rfl bN fun cq=>?_;simp only[ag]
 first
 |clear pp122;have pp40:=();exact pm40
 |exact pm40):G:=h
theorem pm123(h:G:=by
 clear hK K;have HH:=aG o8 j5;clear o8 j5;refine bZ 16 rfl fun K hK=>?_;go_simp;refine eN hK ?_;clear hK K;refine kz ?_;gi_wp2;go_roundw
 case rel=>exact ⟨k+1,by omega,by go_num,by rw[HSu.o];simpa using HH.o.1,kf.o.2.trans HH.o.2⟩
 case measure=>simp[intOf];omega):G:=h
theorem pm124(h:G:=by
 rw[h1,dU]at cI;have cI:=cI.symm;rw[Bool.and_eq_false_iff]at cI;rcases cI with cI | cI
 ·have:decide ((nodesFs s:Int)<=left - 1 - nodesTs a)=false:=by simp at cI ⊢;omega
  rw[this];simp
 ·have:decide (ba+1+aY s<=br+1)=false:=by simp at cI ⊢;omega
  rw[this];simp):G:=h
theorem pm125(h:G:=by
 rw[hp];clear hp;have VY:=ae (fun (W:World) (h:Below W0.heap.size W0 W)=>ws ▸ HLk.o W h n);clear ws nD;exact pm225):G:=h
theorem pm126(h:G:=by
 have iO:Kp M w wr:=(Kp.below H4.o.1).trans bh;have f_:∀ b,b<w.heap.size->¬M b:=fun b hb=>by rw[HM.o];rintro (h | h) <;> omega
 have d0:=iO.cell (f_ _ hok) c0;have d1:=iO.cell (f_ _ hok) c1;have d2:=iO.cell (f_ _ hok) c2;have d3:=iO.cell (f_ _ hok) c3
 first
 |clear pp126;have d4:=iO.cell (f_ _ hok) c4;obtain ⟨nm,dG⟩:=am (b.fs[k].1);rw[<-dG]at d0;have pp99a:=();exact pm99
 |obtain ⟨nm,dG⟩:=am (b.ts[j].1);rw[<-dG]at d0;simp only at d1 d2 d3;obtain ⟨W5,eP⟩:=am (wr.alloc (.cells #[.string ⟨nm.toArray⟩,.bool qv,.string qn,.slice qa ql qc] 47));have bj:=cZ eP;have ji:=dS.later bj.drew;have ZY:TermV (fun b=>b<w.heap.size) W5.drew (TQ.val ⟨qv,qn,qa,ql,qc⟩) b.ts[j].2:=hf.move (fun b hb hlt=>⟨hb,((iO.trans (Kp.below bj.drew)).same b hlt (f_ b hb))⟩);obtain ⟨w6,cH,Gc,Gd,Hp⟩:=ji.storeT (by simp <;> omega) (by omega) (x:=nm) (by rw[dG];exact HP.o.2.1 _ (aA bp)) ZY (HP.o.2.2.2.2.2 _ (aA bp)) (l':=b.ts.take (j+1)) (fun y=>by rw[vw HP.o.2.2.2.1 bp,<-dG]);have x8:=ai dS.box 1;have x9:=aa bj x8;have D5:=aa bj.drew x8;have HK:=aG Gc ((bh.trans (Kp.below bj.drew)).trans (Gd.mono (fun b _ h=>by rw[HM.o];exact .inr h)));have rD:=ae eP;rw[eP]at x9 D5;have BP:(j:Int)<(n2:Int):=by omega
  clear dS ji Gc bh Gd Hp hf ZY bj iO f_ hok dG eP bp c0 c1 c2 c3;rw[rD.o]at cH;unfold TQ.val at cH;go_wp2;go_region;go_wp2;go_roundw
  case rel=>exact ⟨j+1,by omega,by go_num,HK.o.2,HK.o.1⟩
  case measure=>simp[intOf];omega):G:=h
theorem pm127(h:G:=by
 obtain ⟨x0,x1,rfl⟩:=two (uW.trans (by kernel_rfl));obtain ⟨c0,r,rfl⟩:∃c0 r,cs=c0 :: r:=by cases cs with | nil=>simp at hcl | cons c r=>exact ⟨c,r,rfl⟩
 have h0:DataW.trod enc Tryz.prog W 0 fd held n 9 [c0]=some x0:=hf 0 _ rfl
 first
 |clear pp127;have h1:DataW.trod enc Tryz.prog W 0 fd held n 36 (r.take 4)=some x1:=hf 1 _ rfl;have hr:r.take 4=r:=f8 (by simp at hcl;omega);rw[hr]at h1;obtain ⟨s,rfl,hs,_⟩:=mE h0;obtain ⟨f,YO,Pc,hf3⟩:=oI n _ _ h1;obtain ⟨a,rfl,h_⟩:=sM YO;refine ⟨(s,f),a,rfl,h_,?_,?_,?_⟩
  ·simp only[cK,List.map_nil,Rows.uptoBulk,Rows.uptoBulkAll];omega
  ·simp only[cK,List.map_nil,Rows.uptoBulk,Rows.uptoBulkAll];omega
  ·exact gz (by simp only[cK,List.map_nil,Rows.uptoBulk,Rows.uptoBulkAll];omega) _ hf3
 |have h1:DataW.trod enc Tryz.prog W 0 fd held n 43 (r.take 3)=some x1:=hf 1 _ rfl;have hr:r.take 3=r:=f8 (by simp at hcl;omega);rw[hr]at h1;obtain ⟨s,rfl,hs,_⟩:=mE h0;obtain ⟨f,YO,Pc,hf3⟩:=uw n _ _ h1;obtain ⟨a,rfl,h_⟩:=J1 YO;refine ⟨(s,f),a,rfl,h_,?_,?_,?_⟩
  ·simp only[cK,List.map_nil,Rows.uptoBulk,Rows.uptoBulkAll];omega
  ·simp only[cK,List.map_nil,Rows.uptoBulk,Rows.uptoBulkAll];omega
  ·exact jC (by simp only[cK,List.map_nil,Rows.uptoBulk,Rows.uptoBulkAll];omega) _ hf3):G:=h
theorem pm128(h:G:=by
 rw[iR.o]at e0 e1 e2;simp only[TQ.val];go_enter Tryz.func193,Tryz.ntmps193
 first
 |clear pp128a;go_wp2_with (rw[<-iR.o];go_at_call 192;refine B_.o.mono ?_;rintro e w4 ⟨rfl,aP⟩;have H4:=ae aP;clear aP);go_ret;exact ⟨by rw[qK.o];rfl,H1.o.1.tr H4.o⟩
 |clear pp128b;go_wp2_with (first | (rw[<-iR.o];go_at_call 119;refine sr.o.mono ?_;rintro e w3 ⟨rfl,aL⟩;have x3:=bR aL H1.o.2.1;obtain ⟨q0,q1,q2,_⟩:=gt x3;have H3:=ae aL;clear aL x3) | (go_at_call 192;refine (Ek.o w3 H3.o).mono ?_;rintro e w4 ⟨rfl,aP⟩;have H4:=ae aP;clear aP));go_ret;exact ⟨by rw[qK.o];rfl,H1.o.1.tr (H3.o.tr H4.o)⟩
 |go_wp2_with (rw[<-iR.o];go_at_call 119;refine sr.o.mono ?_;rintro e w3 ⟨rfl,aL⟩;have H3:=ae aL;clear aL);clear e0 e1 e2;have kQ:=(Hr.o.later H1.o.2.2).later H3.o;have x3:=bR H3.o H1.o.2.1;have g0:w3.cell? ⟨kb,1,none⟩=some (.map (some mT)):=ai kQ.box 1;have g1:w3.drew.cell? ⟨kb,1,none⟩=some (.map (some mT)):=ai kQ.box 1;have g2:w3.cell? ⟨w.heap.size,1,none⟩=some (.string ⟨n.toArray⟩):=ai x3 1;have g3:w3.drew.cell? ⟨w.heap.size,1,none⟩=some (.string ⟨n.toArray⟩):=g2;have bj:Below w3.heap.size w3 (w3.alloc (.cells #[.bool false,.string ⟨#[]⟩,.slice none 0 0] 43)):=cJ;obtain ⟨g4,g5⟩:=AN bj g0 g2;rcases kQ.ts.look Tryz.underlying9 Tryz.underlying146 jr (x:=n) (by omega) with ⟨hg,hl⟩ | ⟨u,vu,hg,hvu,hl⟩
  ·have l1:=(hl w3.drew rfl).1;have pp229:=();exact pm229
  ·obtain ⟨⟨xv,xn,xa,xl,xc⟩,rfl,hxv,hpu⟩:=hvu;simp only[TQ.val]at hl;have l1:=(hl w3.drew rfl).1;exact pm229):G:=h
theorem pm129(h:G:=by
 intro us3 WA wq hrel;obtain ⟨j,hj,WC,wa,bh,Ff,fL,kj,Mk,Ml,dS,qY,pE,xS,gw⟩:=hrel;simp only[iN,List.setIfInBounds_toArray,List.set_cons_zero,List.set_cons_succ];rw[WC];have nq:Below w.heap.size w wq:=aD sP.o.2.2.1 bh AG.o.1
 by_cases hlt:j<n1
 first
 |clear pp129
  ·have le:=cF HN.o hlt;exact pm240
  ·obtain rfl:n1=j:=by omega
   have tV:d8 bV 0 k l=(kj,0,0):=by rw[gw,iS (by rw[<-HN.o];exact aI _)];rfl
   have pp155:=();exact pm155
 |·have le:=cF HN.o hlt;obtain ⟨bb,off,⟨a0,a1,a2,a3,a4,a5,a6,a7⟩,⟨b0,b1,b2,b3,b4,b5,b6,b7⟩,rfl,hok,hs,hf,c0,c1,c2,c3,c4,c5,c6,c7⟩:=HV.o.1.get le;obtain ⟨d0,d1,d2,d3,d4,d5,d6,d7⟩:=H' nq c0 c1 c2 c3 c4 c5 c6 c7;simp only at d0 d1 d2 d3 d4 d5 d6 d7;have cH:=zX (step:=eF) (k:=kj) le;exact pm51
  ·obtain rfl:n1=j:=by omega
   have tV:d8 eF 0 k l=(kj,0,0):=by rw[gw,iS (by rw[<-HN.o];exact aI _)];rfl
   exact pm155):G:=h
theorem pm130(h:G:=by
 have ji:=H3.o.2.2.later H5.o;obtain ⟨⟨z0,z1,z2,z3,z4⟩,TM,Gq,KA,_,_,zx⟩:=ji.termOf (x:=y) (by have:=HY.o.1;omega);simp only[TQ.val]at zx;have bp:=ji.ts.lt;obtain ⟨S,hS⟩:∃S:World->Prop,S=fun V=>Below w5.heap.size w5 V:=⟨_,rfl⟩
 first
 |clear pp130;have ff:∀ V,S V->V.cell? ⟨kb,1,none⟩=some (.map (some mT))/\(Instr.lookup 146 (.map (some mT)) (.string ⟨y.toArray⟩) false).run Tryz.prog V=.ok (.agg #[.bool z0,.string z1,.slice z2 z3 z4]) V/\V.cell? ⟨w4.heap.size,0,none⟩=some (.int .u8 g0)/\V.cell? ⟨w4.heap.size,1,none⟩=some (.string g1)/\V.cell? ⟨w4.heap.size,2,none⟩=some (.slice g2 g3 g4)/\V.cell? ⟨w4.heap.size,3,none⟩=some (.slice g5 g6 g7):=fun V h=>by
   exact pm265
  have dO:S w5.drew:=by rw[hS];exact (ak _ _).drew
  have HR5:=ae (show RS=iI cW (termOf kd.ts y) f by rw[HB.o.2.2.2.2,aw h0]);have oc:=((H3.o.1.tr H5.o).tr (ak w5.heap.size w5).drew);have CP:=tE WB f cW (termOf kd.ts y) tO.o.2.1 (by have:=tO.o.2.2.1;omega) tO.o.2.2.2.1 tO.o.2.2.2.2 (by have:=HY.o.2.1;omega) Gq (by omega) _ _ w5.drew ⟨g0,g1,g2,g3,g4,g5,g6,g7⟩ ⟨z0,z1,z2,z3,z4⟩ (Oa.o.next oc) (tO.o.1.later oc) (TM.later ((ak w5.heap.size w5).drew));simp only[FQ.val,TQ.val]at CP;obtain ⟨IV,HX5,dh⟩:=cG CP x15 hS;clear hS ji TM Gq KA zx bp oc CP y5 x15 h0;go_upto_region 9 with fail;clear nM i_ ig;refine (wpIn_wide (n:=3)).1 ?_;refine lg S 9 dO fun jp bN=>?_;refine c9 0 49 (.agg #[.int .u8 g0,.string g1,.slice g2 g3 g4,.slice g5 g6 g7]) rfl (fun V hX=>by obtain ⟨h0,h1,h2,h3,h4,h5⟩:=ff V hX;go_simp) bN fun Pr=>?_;simp only[ag];refine bC 1 50 (.string ⟨cW.toArray⟩) rfl Pr fun Ps=>?_;simp only[ag];refine bC 2 51 (.pointer (some ⟨kb,0,none⟩)) rfl Ps fun Jw=>?_;simp only[ag];refine bC 3 52 (.pointer (some ⟨kb,0,none⟩)) rfl Jw fun Pt=>?_;simp only[ag];refine bC 4 53 (.pointer (some ⟨kb,1,none⟩)) rfl Pt fun WR=>?_;simp only[ag];refine c9 5 54 (.map (some mT)) rfl (fun V hX=>by obtain ⟨h0,h1,h2,h3,h4,h5⟩:=ff V hX;go_simp) WR fun hT5=>?_;simp only[ag];refine bC 6 55 (.string ⟨y.toArray⟩) rfl hT5 fun hT6=>?_;simp only[ag];refine c9 7 56 (.agg #[.bool z0,.string z1,.slice z2 z3 z4]) rfl (fun V hX=>by obtain ⟨h0,h1,h2,h3,h4,h5⟩:=ff V hX;go_simp) hT6 fun hT7=>?_;simp only[ag];refine bZ 8 rfl fun K hK=>?_;go_simp;refine aK.2 (IV.o.mono ?_);rintro e w7 ⟨⟨⟨p0,p1,p2,p3,p4,p5,p6,p7⟩,rfl,hp⟩,fw⟩;have H7:=ae (((ak w5.heap.size w5).drew).trans fw);have HP7:=ae hp;have x7:=bR H7.o HX5.o;have Jz:=ae x7;obtain ⟨i0,i1,i2,i3,q0,q1,q2,q3⟩:=dp x7;refine hK _ _ (fun _=>by rw[dh.o];exact H7.o) (fun _=>?_);clear hK K fw x7 hp;refine bZ 9 rfl fun K hK=>?_;go_simp;refine eN hK ?_;clear hK K;refine kz ?_;go_wp2;have x6:=kP (v0:=.int .u8 p0) (v1:=.string p1) (v2:=.slice p2 p3 p4) (v3:=.slice p5 p6 p7) Jz.o;have k6:=dA (W:=w7) (b:=w.heap.size+1) (v0:=.int .u8 p0) (v1:=.string p1) (v2:=.slice p2 p3 p4) (v3:=.slice p5 p6 p7);obtain ⟨W6,da⟩:=am ((((w7.setCell ⟨w.heap.size+1,0,none⟩ (.int .u8 p0)).setCell ⟨w.heap.size+1,1,none⟩ (.string p1)).setCell ⟨w.heap.size+1,2,none⟩ (.slice p2 p3 p4)).setCell ⟨w.heap.size+1,3,none⟩ (.slice p5 p6 p7));exact pm102
 |have ff:∀ V,S V->V.cell? ⟨kb,1,none⟩=some (.map (some mT))/\(Instr.lookup 146 (.map (some mT)) (.string ⟨y.toArray⟩) false).run Tryz.prog V=.ok (.agg #[.bool z0,.string z1,.slice z2 z3 z4]) V/\V.cell? ⟨W2.heap.size,0,none⟩=some (.int .u8 g0)/\V.cell? ⟨W2.heap.size,1,none⟩=some (.string g1)/\V.cell? ⟨W2.heap.size,2,none⟩=some (.slice g2 g3 g4)/\V.cell? ⟨W2.heap.size,3,none⟩=some (.slice g5 g6 g7):=fun V h=>by
   exact pm265
  have dO:S w5.drew:=by rw[hS];exact (ak _ _).drew
  have Ys:=ae (fun (V:World) (h:Below w5.heap.size w5 V)=>kw _ Gq (by omega) _ V ⟨z0,z1,z2,z3,z4⟩ (TM.later h));obtain ⟨nt,vB⟩:=am (nodesT (termOf k.ts y));have QK:1<=nt:=by rw[vB];exact jg _
  have hE:=HE3.o;simp only[TQ.val,<-vB]at Ys;rw[<-vB]at KA hE;obtain ⟨m2,rd⟩:=am (nt - 1);obtain ⟨m3,QL⟩:=am (n0 * m2);have qE:m3<=400 * 1000:=by rw[QL];exact Nat.mul_le_mul HY.o.2.1 (by omega)
  rw[<-rd,<-QL]at hE;have xh:IntKind.i64.wrap ((nt:Int) - 1)=(m2:Int):=by rw[fQ _ (by omega)];omega
  have MT:IntKind.i64.wrap ((n0:Int) * (m2:Int))=(m3:Int):=by rw[show (n0:Int) * (m2:Int)=(m3:Int) by rw[QL];simp];exact fQ _ (by omega)
  have VX:IntKind.i64.wrap ((nf:Int)+(m3:Int))=((nf+m3:Nat):Int):=by rw[fQ _ (by have:=HY.o.2.2;omega)];simp
  obtain ⟨qK,dh⟩:=a_ hE hS;clear hS ji TM Gq KA zx bp vB QK hE rd QL qE y5 h0;go_upto_region 11 with fail;clear nM i_;refine (wpIn_wide (n:=3)).1 ?_;refine lg S 13 dO fun jp bN=>?_;refine c9 0 48 (.agg #[.int .u8 g0,.string g1,.slice g2 g3 g4,.slice g5 g6 g7]) rfl (fun V hX=>by obtain ⟨h0,h1,h2,h3,h4,h5⟩:=ff V hX;go_simp) bN fun cq=>?_;simp only[ag];refine bC 2 50 (.int .i64 (n0:Int)) rfl cq fun fI=>?_;simp only[ag];refine bC 3 51 (.pointer (some ⟨kb,0,none⟩)) rfl fI fun gF=>?_;simp only[ag];refine bC 4 52 (.pointer (some ⟨kb,0,none⟩)) rfl gF fun iG=>?_;simp only[ag];refine bC 5 53 (.pointer (some ⟨kb,1,none⟩)) rfl iG fun jx=>?_;simp only[ag];refine c9 6 54 (.map (some mT)) rfl (fun V hX=>by obtain ⟨h0,h1,h2,h3,h4,h5⟩:=ff V hX;go_simp) jx fun jM=>?_;simp only[ag];refine bC 7 55 (.string ⟨y.toArray⟩) rfl jM fun mi=>?_;simp only[ag];refine c9 8 56 (.agg #[.bool z0,.string z1,.slice z2 z3 z4]) rfl (fun V hX=>by obtain ⟨h0,h1,h2,h3,h4,h5⟩:=ff V hX;go_simp) mi fun rA=>?_;simp only[ag];refine bZ 1 rfl fun K hK=>?_;go_simp;refine aK.2 ((Fc.o _ (H5.o.tr (by have h:=bN;rw[dh.o]at h;exact h))).mono ?_);rintro e w7 ⟨rfl,fw⟩;have H7:=ae (((ak w5.heap.size w5).drew).trans fw);refine hK _ _ (fun _=>by rw[dh.o];exact H7.o) (fun _=>?_);clear hK K fw;refine bZ 9 rfl fun K hK=>?_;go_simp;refine aK.2 ((Ys.o _ H7.o).mono ?_);rintro e w8 ⟨rfl,gJ⟩;have H8:=ae (H7.o.tr gJ);have rA:S w8:=by rw[dh.o];exact H8.o
  refine hK _ _ (fun _=>rA) (fun _=>?_);clear hK K gJ;refine bZ 10 rfl fun K hK=>?_;go_simp;refine hK _ _ (fun _=>rA) (fun _=>?_);clear hK K;refine bZ 11 rfl fun K hK=>?_;go_simp;refine hK _ _ (fun _=>rA) (fun _=>?_);clear hK K;refine bZ 12 rfl fun K hK=>?_;go_simp;refine hK _ _ (fun _=>rA) (fun _=>?_);clear hK K;refine bZ 13 rfl fun K hK=>?_;go_simp;refine eN hK ?_;clear hK K;refine kz ?_;clear ff dO bN cq fI gF iG jx jM mi rA jp xh MT VX;go_wp2;go_ret;exact ⟨by rw[qK.o];simp,(H2.o.1.tr H3.o.1).tr (H5.o.tr H8.o)⟩):G:=h
theorem pm131(h:G:=by
 subst qw;rw[List.getElem_append_right (by omega),List.getElem_append_right (by omega)];simp only[hk,Nat.sub_self,List.getElem_cons_zero]
 first
 |clear pp131a;exact ⟨hq.1.move rh,hq.2.move rh⟩
 |clear pp131b;refine ⟨trivial,hq.move (fun b hok hlt=>⟨⟨by omega,fun e=>?_⟩,hold b (by omega) hlt (fun e=>by have:=hv b e;omega)⟩)⟩
  injection e with e;obtain rfl:g=b:=e;rcases hg with hg | hg
  ·have:=hv g hg;omega
  ·omega
 |refine hq.move (fun b hok hlt=>⟨⟨by omega,fun e=>?_⟩,hold b (by omega) hlt (fun e=>by have:=hv b e;omega)⟩)
  injection e with e;obtain rfl:g=b:=e;rcases hg with hg | hg
  ·have:=hv g hg;omega
  ·omega):G:=h
theorem pm132(h:G:=by
 have mM:=hq1;simp only[mr,ah]at hw;simp only[qone,ah]at hq1;simp only[depthF]at hd
 first
 |clear pp132a
  by_cases hq:bU o=true
  ·obtain ⟨rfl,g,rfl⟩:=nZ hq mM;have pp165a:=();exact pm165
  ·have hq:bU o=false:=by simpa using hq
   rw[u_ hq];have ih:∀ g∈s,_:=fun g hg=>gI k g x y ((jK s).1 hw.2 g hg) ((ir s).1 hq1.2 g hg) (by have:=ki s g hg;omega);refine ⟨?_,?_,?_,?_⟩
   ·simp only[mr,ah];refine ⟨td (Ko y) a hw.1,(jK _).2 fun g hg=>?_⟩;obtain ⟨g',Lz,rfl⟩:=List.mem_map.1 hg;exact (ih g' Lz).1
   ·simp only[qone,hq,Bool.not_false,Bool.true_or,dU];refine (ir _).2 fun g hg=>?_;obtain ⟨g',Lz,rfl⟩:=List.mem_map.1 hg;exact (ih g' Lz).2.1
   ·simp only[depthF];rw[pL a hw.1,yN s (fun g hg=>(ih g hg).2.2.1)]
   ·simp only[nodesF];rw[pM a hw.1,yM s (fun g hg=>(ih g hg).2.2.2)]
 |clear pp132b;simp only[nodesF]at hn
  by_cases hq:bU o=true
  ·obtain ⟨rfl,g,rfl⟩:=nZ hq mM;simp only[iq,eO,Bool.and_true,aY,nodesFs]at hw hq1 hd hn;rw[n8 hq]
   by_cases h1:(n == x || !(bl [] g).contains x)=true
   ·rw[aH h1];refine yK _ _ _ _ (fun z hz=>?_);unfold upd;split
    ·rename_i hzx;rw[f9]at hzx;subst hzx;exfalso;simp only[bl,aC,List.filter_nil,pf,hq,if_true,bP,List.append_nil]at hz;have h3:=nY n [g];simp only[bP,List.append_nil]at h3;rw[h3,List.mem_filter]at hz;simp only[Bool.or_eq_true,Bool.not_eq_true']at h1;rcases h1 with h1 | h1
     ·have:=hz.2;rw[f9]at h1;subst h1;simp at this
     ·have:(bl [] g).contains z=true:=by simpa using hz.1
      rw[h1]at this;cases this
    ·rfl
   ·rw[aw h1];simp only[Bool.or_eq_true,Bool.not_eq_true',not_or,Bool.not_eq_true,Bool.not_eq_false]at h1;have rU:n≠x:=by simpa using h1.1
    by_cases h2:(aQ u).contains n=true
    ·rw[aH h2];have hm:=qD (bl [] g ++ aQ u) (by rw[dZ];have:=gC g [];have:=nl u;omega);generalize dL (bl [] g ++ aQ u)=m at hm;rw[List.mem_append,not_or]at hm;have pp226a:=();exact pm226
    ·rw[aw h2];simp only[dbF,hq,if_true,pK,pJ];rw[te k g x u _ _ hw.2 hq1.2 (by omega) (by omega),FO (by simpa using h2),yO _ rU]
  ·have hq:bU o=false:=by simpa using hq
   rw[u_ hq];simp only[dbF,hq,dE,↓reduceIte,pK];rw[FP _ _ _ d s (fun g hg=>te k g x u σ d ((jK s).1 hw.2 g hg) ((ir s).1 hq1.2 g hg) (by have:=ki s g hg;omega) (by have:=lA s g hg;omega))]
 |clear pp132c;simp only[nodesF]at hs;simp only[kJ,ah,bx]at hf
  by_cases hq:bU o=true
  ·obtain ⟨rfl,g,rfl⟩:=nZ hq mM;simp only[iq,eO,Bool.and_true,aY,nodesFs,nmFs]at hw hq1 hd hs hf;rw[n8 hq]
   by_cases h1:(n == x || !(bl [] g).contains x)=true
   ·rw[aH h1];exact Hz
   ·rw[aw h1]
    by_cases h2:(aQ u).contains n=true
    ·rw[aH h2];have hm:(dL (bl [] g ++ aQ u)).length<=2000000:=n_ (by
      have h3:=gC g [];have h4:=nl u;simp only[dZ];omega)
     generalize hm':dL (bl [] g ++ aQ u)=m;rw[hm']at hm;have pp226b:=();exact pm226
    ·rw[aw h2];have b1:=oa k g x u hw.2 hq1.2 (by omega) (by simp[nodesTs]at hs;omega) hf.2.2.2 hu;simp only[kJ,nmFs,ah,bx,el,List.map_nil,nmTs];exact ⟨hf.1,hf.2.1,trivial,b1,trivial⟩
  ·have hq:bU o=false:=by simpa using hq
   rw[u_ hq];simp only[kJ,ah,bx];refine ⟨hf.1,hf.2.1,zb hu a hf.2.2.1,pz.2 fun g hg=>?_⟩;obtain ⟨g',Lz,rfl⟩:=List.mem_map.1 hg;exact oa k g' x u ((jK s).1 hw.2 g' Lz) ((ir s).1 hq1.2 g' Lz) (by have:=ki s g' Lz;omega) (by have:=lA s g' Lz;omega) (pz.1 hf.2.2.2 g' Lz) hu
 |clear pp132d
  by_cases hq:bU o=true
  ·obtain ⟨rfl,g,rfl⟩:=nZ hq mM;have pp165b:=();exact pm165
  ·have hq:bU o=false:=by simpa using hq
   rw[u_ hq];have h1:=zs (x:=x) (u:=u) a;have h2:=Oz (φ:=eQ k x u) (U:=nodesT u) s (fun g hg=>tK k g x u ((jK s).1 hw.2 g hg) ((ir s).1 hq1.2 g hg) (by have:=ki s g hg;omega));simp only[nodesF,Nat.add_mul];omega
 |by_cases hq:bU o=true
  ·obtain ⟨rfl,g,rfl⟩:=nZ hq mM;exact pm165
  ·have hq:bU o=false:=by simpa using hq
   rw[u_ hq];have ih:∀ g∈s,_:=fun g hg=>tR hu k g x ((jK s).1 hw.2 g hg) ((ir s).1 hq1.2 g hg) (by have:=ki s g hg;omega);refine ⟨?_,?_⟩
   ·simp only[mr,ah];refine ⟨td hu a hw.1,(jK _).2 fun g hg=>?_⟩;obtain ⟨g',Lz,rfl⟩:=List.mem_map.1 hg;exact (ih g' Lz).1
   ·simp only[qone,hq,Bool.not_false,Bool.true_or,dU];refine (ir _).2 fun g hg=>?_;obtain ⟨g',Lz,rfl⟩:=List.mem_map.1 hg;exact (ih g' Lz).2):G:=h
theorem pm133(h:G:=by
 rw[hp];have CP:=ae (fun w=>mI r w hn);have hr:r.length<=1000000000:=by simp at hn;omega
 have hx:=jh 63 r;simp at hs hx;have h1:((1:Int)<=((63 :: r).length:Int)):=by simp;omega
 have rK:((r.length:Int)+1)<=16:=by simp at hl;omega
 clear h hp
 first
 |clear pp133;go_enter Tryz.func185,Tryz.ntmps185;go_wp2_with (first | (go_at_call 191;refine (CP.o _).mono ?_;rintro e w' ⟨rfl,rfl⟩) | (go_at_call 120;refine (mH r _ hr).mono ?_;rintro e w' ⟨rfl,hb⟩));go_ret;exact ⟨rfl,hb⟩
 |go_enter Tryz.func186,Tryz.ntmps186;go_wp2_with (first | (go_at_call 191;refine (CP.o _).mono ?_;rintro e w' ⟨rfl,rfl⟩) | (go_at_call 121;refine (lj r _ hr).mono ?_;rintro e w' ⟨rfl,hb⟩));go_ret;exact ⟨rfl,hb⟩):G:=h
theorem pm134(h:G:=by
 obtain ⟨b,off,u,rfl,_,hu,c0,c1,c2,c3⟩:=fT.o.get dy;obtain ⟨d0,d1,d2,d3⟩:=mG ar c0 c1 c2 c3
 first
 |clear pp134a;obtain ⟨uo,un,ua,ul,uc,ub,um,ue⟩:=u;obtain ⟨W2,bm⟩:=am (wr.alloc (.cells #[.int .u8 uo,.string un,.slice ua ul uc,.slice ub um ue] 36));have bD:=cZ bm;have xw:=cb bm;have u0:W2.cell? ⟨wr.heap.size,0,none⟩=some (.int .u8 uo):=ai xw 0;have u1:W2.cell? ⟨wr.heap.size,1,none⟩=some (.string un):=ai xw 1;have u2:W2.cell? ⟨wr.heap.size,2,none⟩=some (.slice ua ul uc):=ai xw 2;have u3:W2.cell? ⟨wr.heap.size,3,none⟩=some (.slice ub um ue):=ai xw 3;have gA:=hF.later bD (fun r=>r.below bD);obtain ⟨P0,P1,P2,P3,P4,P5,P6,P7,P8⟩:=hZ (gA.other (by omega) NZ.o)
  first
  |clear pp53;have CC:=fS.o s[k] (aA dy) (yk.o.mem (aA dy)) (L) (ins) (by have:=IN.o.2.1 s[k] (aA dy);omega) IN.o.1 (vL) ok W2 ⟨uo,un,ua,ul,uc,ub,um,ue⟩ (IL.o.later (ar.tr bD)) ⟨(IQ.o.1.kp hF.kp (fun b hb h=>(IQ.o.2 b hb).1 h)).later bD,fun b hb=>by have:=(IQ.o.2 b hb).2;have:=hF.size;have:=bD.size;omega⟩ ((hu.later ar).later bD);simp only[PlQ.cells,PlQ.val,FQ.val]at CC P0 P1 P2 P3 P4 P5 P6 P7 P8;have fX:=oM (c:=ps.reverse) (ins:=ins) dy;rw[yW]at fX;have f_:=fun (h:ii ps.reverse ins s[k]=none)=>yZ (c:=ps.reverse) (ins:=ins) (aA dy) h;obtain ⟨U,hU⟩:=am (ii ps.reverse ins s[k]);rw[<-hU]at CC fX f_;have lN:=ae CC;have tg:=aG fX Bc;have yX:=ae f_;obtain ⟨qs,et,au,gp⟩:=gA.row;rw[Bc]at et au;have yY:=bG et au gp;have eR:=ae gA;have dt:=aG ar bD;rw[bm]at lN u0 u1 u2 u3 P0 P1 P2 P3 P4 P5 P6 P7 P8;have gK:=ae bm;clear hu c0 c1 c2 c3 xw hF gA et au gp CC fX f_ hU yW Bc ar bD bm
   cases U with
   | none=>
    exact pm34
   | some u'=>
    go_wp2_with (first | (go_at_call 91;refine lN.o.mono ?_;rintro e w4 ⟨⟨⟨po,pn,pa,pl,pc,pb,pm,pe⟩,rfl,hp⟩,aP⟩;simp only[Option.isSome]at hp ⊢;rw[<-gK.o]at aP hp;have bj:Below w4.heap.size w4 (w4.alloc (.cells #[.int .u8 po,.string pn,.slice pa pl pc,.slice pb pm pe] 36)):=cJ;have sk:=eR.o.later (aP.tr bj) (fun r=>r.below (aP.tr bj));have r2:(w4.alloc (.cells #[.int .u8 po,.string pn,.slice pa pl pc,.slice pb pm pe] 36)).cell? ⟨w.heap.size+1+1+1,3,none⟩=some (.slice ra k rc):=(sk.cell 3).trans rfl;have HF5:=ae sk;have IM:=aG ((hp u' rfl).later bj) (aP.tr bj);have HO:=ae (aZ yY.o.2.1 (fun b _ hlt=>(aP.tr bj).block b hlt));have oT:((w4.alloc (.cells #[.int .u8 po,.string pn,.slice pa pl pc,.slice pb pm pe] 36)).alloc (.cells #[.int .u8 po,.string pn,.slice pa pl pc,.slice pb pm pe] 36)).heap.size=w4.heap.size+2:=(by simp);have Iz:=sk.size;simp only[World.size_alloc]at Iz;clear hp aP bj sk) | (at_builtin;refine wpList_append_lies _ rfl _ _ 34 rfl wq.heap.size 36 Kg (.agg #[.int .u8 0,.string ByteArray.empty,.slice none 0 0,.slice none 0 0]) 4 72 Tryz.underlying34 hj lx AP S4 rfl (by decide) (.slice ra k rc) k _ rfl (HO.o.alloc _) ⟨w4.heap.size+1,0,none⟩ 1 1 [.int .u8 po,.string pn,.slice pa pl pc,.slice pb pm pe] rfl rfl (c_ (cs:=#[.int .u8 po,.string pn,.slice pa pl pc,.slice pb pm pe]) (t:=36) (fr:=(0,0)) (aj (by simp))) (by simp[Value.oneCell']) (by decide) (by unfold maxLen;omega) (by omega) (by simp;omega) (w4.heap.size+2) oT ?_;intro g ev w6 aR ao hg eq;have h4:=eR.o.at4 (kk:=3) yY.o.2.1 IM.o.2 ao;have d3:=h4.2.2;have z3:=h4.2.1;have HG:=cC aR ao hg eq;clear aR ao hg eq h4));exact pm81
  |have CC:=fS.o s[k] (aA dy) (yk.o.mem (aA dy)) (L ++ [n]) ((n :: ins)) (by have:=IN.o.2.1 s[k] (aA dy);simp;omega) Zt.o (.slice (some ⟨g,0,none⟩) (l0+1) cap) ok W2 ⟨uo,un,ua,ul,uc,ub,um,ue⟩ (IL.o.later (ar.tr bD)) ⟨(IQ.o.1.kp hF.kp (fun b hb h=>(IQ.o.2 b hb).1 h)).later bD,fun b hb=>by have:=(IQ.o.2 b hb).2;have:=hF.size;have:=bD.size;omega⟩ ((hu.later ar).later bD);simp only[PlQ.cells,PlQ.val,FQ.val]at CC P0 P1 P2 P3 P4 P5 P6 P7 P8;have fX:=oM (c:=ps.reverse) (ins:=(n :: ins)) dy;rw[yW]at fX;have f_:=fun (h:ii ps.reverse (n :: ins) s[k]=none)=>yZ (c:=ps.reverse) (ins:=(n :: ins)) (aA dy) h;obtain ⟨U,hU⟩:=am (ii ps.reverse (n :: ins) s[k]);rw[<-hU]at CC fX f_;have lN:=ae CC;have tg:=aG fX Bc;have yX:=ae f_;obtain ⟨qs,et,au,gp⟩:=gA.row;rw[Bc]at et au;have yY:=bG et au gp;have eR:=ae gA;have dt:=aG ar bD;rw[bm]at lN u0 u1 u2 u3 P0 P1 P2 P3 P4 P5 P6 P7 P8;have gK:=ae bm;clear hu c0 c1 c2 c3 xw hF gA et au gp CC fX f_ hU yW Bc ar bD bm
   cases U with
   | none=>
    exact pm34
   | some u'=>
    go_wp2_with (first | (go_at_call 91;refine lN.o.mono ?_;rintro e w4 ⟨⟨⟨po,pn,pa,pl,pc,pb,pm,pe⟩,rfl,hp⟩,aP⟩;simp only[Option.isSome]at hp ⊢;rw[<-gK.o]at aP hp;have bj:Below w4.heap.size w4 (w4.alloc (.cells #[.int .u8 po,.string pn,.slice pa pl pc,.slice pb pm pe] 36)):=cJ;have sk:=eR.o.later (aP.tr bj) (fun r=>r.below (aP.tr bj));have r2:(w4.alloc (.cells #[.int .u8 po,.string pn,.slice pa pl pc,.slice pb pm pe] 36)).cell? ⟨w.heap.size+1+1+1,3,none⟩=some (.slice ra k rc):=(sk.cell 3).trans rfl;have HF5:=ae sk;have IM:=aG ((hp u' rfl).later bj) (aP.tr bj);have HO:=ae (aZ yY.o.2.1 (fun b _ hlt=>(aP.tr bj).block b hlt));have oT:((w4.alloc (.cells #[.int .u8 po,.string pn,.slice pa pl pc,.slice pb pm pe] 36)).alloc (.cells #[.int .u8 po,.string pn,.slice pa pl pc,.slice pb pm pe] 36)).heap.size=w4.heap.size+2:=(by simp);have Iz:=sk.size;simp only[World.size_alloc]at Iz;clear hp aP bj sk) | (at_builtin;refine wpList_append_lies _ rfl _ _ 34 rfl X5.heap.size 36 Kg (.agg #[.int .u8 0,.string ByteArray.empty,.slice none 0 0,.slice none 0 0]) 4 72 Tryz.underlying34 hj lx AP S4 rfl (by decide) (.slice ra k rc) k _ rfl (HO.o.alloc _) ⟨w4.heap.size+1,0,none⟩ 1 1 [.int .u8 po,.string pn,.slice pa pl pc,.slice pb pm pe] rfl rfl (c_ (cs:=#[.int .u8 po,.string pn,.slice pa pl pc,.slice pb pm pe]) (t:=36) (fr:=(0,0)) (aj (by simp))) (by simp[Value.oneCell']) (by decide) (by unfold maxLen;omega) (by omega) (by simp;omega) (w4.heap.size+2) oT ?_;intro g ev w6 aR ao hg eq;have h4:=eR.o.at4 (kk:=3) yY.o.2.1 IM.o.2 ao;have d3:=h4.2.2;have z3:=h4.2.1;have HG:=cC aR ao hg eq;clear aR ao hg eq h4));exact pm81
 |clear pp134b;have ct:((s.map bB).take k).length=k:=by rw[dM];have:=gV.o;simp;omega
  obtain ⟨ra,rc,rfl⟩:=hF.row.slice;rw[ct]at hF;have HU:=ae (hu.later ar);have pp39:=();exact pm39
 |clear pp134c;have ct:((s.map (eQ kk nx z)).take k).length=k:=by rw[dM];have:=gV.o;simp;omega
  obtain ⟨ra,rc,rfl⟩:=hF.row.slice;rw[ct]at hF;have HU:=ae (hu.later ar);have pp94:=();exact pm94
 |have ct:((ss.map (cM kd c)).take k).length=k:=by rw[dM];have:=Hq.o;simp;omega
  obtain ⟨ra,rc,rfl⟩:=hF.row.slice;rw[ct]at hF;have HU:=ae (hu.later ar);exact pm39):G:=h
theorem pm135(h:G:=by
 obtain ⟨k,hk,rfl,row,hF⟩:=hrel;have ar:=hF.below d_.o (Nat.le_add_right _ 2)
 by_cases hlt:k<k0
 first
 |clear pp135a
  ·have dy:=cF dB.o hlt;have pp54c:=();exact pm54
  first
  |clear pp0a
   ·obtain rfl:k=k0:=by omega
    have pp232:=();exact pm232
  |clear pp0b
   ·obtain rfl:k=k0:=by omega
    exact pm232
  |·obtain rfl:k=k0:=by omega
    have ct:((a.map aM).take k).length=k:=by rw[dM];have:=dB.o;simp;omega
    have jG:(a.map aM).take k=(a.map aM):=f8 (by have:=dB.o;simp;omega);obtain ⟨ra,rc,rfl⟩:=hF.row.slice;rw[ct]at hF;have HR:=ae (jG ▸ hF.row);have x2:=hF.box;have x1:=hF.other (by omega) jo.o;obtain ⟨c0,c1,c2⟩:=li x2;obtain ⟨e0,e1,e2⟩:=li x1;have z0:=af x1 0;have z1:=af x1 1;have z2:=af x1 2;obtain ⟨lJ,dt⟩:=a_ x1 ar;clear jG ct hF x1 x2 ar;gi_wp2;have x6:=pC (v0:=.bool true) (v1:=.string ⟨r.toArray⟩) (v2:=.slice ra k rc) lJ.o;have k6:=eD (W:=wr) (b:=w.heap.size+1) (v0:=.bool true) (v1:=.string ⟨r.toArray⟩) (v2:=.slice ra k rc);obtain ⟨W6,da⟩:=am (((wr.setCell ⟨w.heap.size+1,0,none⟩ (.bool true)).setCell ⟨w.heap.size+1,1,none⟩ (.string ⟨r.toArray⟩)).setCell ⟨w.heap.size+1,2,none⟩ (.slice ra k rc));rw[<-da]at x6 k6 ⊢;clear da;have g0:W6.cell? ⟨w.heap.size+1,0,none⟩=some (.bool true):=ai x6 0;have g1:W6.cell? ⟨w.heap.size+1,1,none⟩=some (.string ⟨r.toArray⟩):=ai x6 1;have g2:W6.cell? ⟨w.heap.size+1,2,none⟩=some (.slice ra k rc):=ai x6 2;have hz:=(bz jo.o);have h6:TermV (w.heap.size<=·) W6 (TQ.val ⟨true,⟨r.toArray⟩,ra,k,rc⟩) (.mk true r (a.map aM)):=(HR.o.kp1 k6 (by omega)).term d_.o.size;refine bJ (v:=TQ.val ⟨true,⟨r.toArray⟩,ra,k,rc⟩) (by simp[TQ.val,results,Tryz.results69,go_sem,g0,g1,g2]) rfl (⟨⟨true,⟨r.toArray⟩,ra,k,rc⟩,rfl,h6,Below.kp1 dt.o k6 (by omega)⟩)
 |clear pp135b
  ·have dy:=cF dB.o hlt;have pp54h:=();exact pm54
  ·obtain rfl:k=k0:=by omega
   have ct:(a.take k).length=k:=by rw[dM,<-dB.o];omega
   have jG:a.take k=a:=by rw[dB.o];exact cV
   have pp14a:=();exact pm14
 |clear pp135c
  ·have dy:=cF dB.o hlt;have pp54k:=();exact pm54
  ·obtain rfl:k=k0:=by omega
   exact pm210
 |·have dy:=cF dB.o hlt;exact pm54
  ·obtain rfl:k=k0:=by omega
   exact pm182):G:=h
theorem pm136(h:G:=by
 go_upto_region 1 with fail;rw[<-iR.o];go_upto_region 2 with (go_at_call 119;refine sr.o.mono ?_;rintro e w3 ⟨rfl,aL⟩;have H3:=ae aL;clear aL);have kQ:=(Hr.o.later H1.o.2.2).later H3.o;have x3:=bR H3.o H1.o.2.1
 first
 |clear pp136;obtain ⟨⟨z0,z1,z2,z3,z4⟩,hz,Gq,KA,_,_,zx⟩:=kQ.termOf (x:=n) lK;simp only[TQ.val]at zx;have bp:=kQ.ts.lt;have pp36a:=();exact pm36
 |obtain ⟨⟨z0,z1,z2,z3,z4⟩,hz,Gq,KA,ON,_,zx⟩:=kQ.termOf (x:=n) lK;simp only[TQ.val]at zx;have bp:=kQ.ts.lt;exact pm36):G:=h
theorem pm137(h:G:=by
 obtain ⟨S,hS⟩:∃S:World->Prop,S=fun V=>Below W2.heap.size W2 V:=⟨_,rfl⟩
 first
 |clear pp137a;have pp:∀ V,S V->V.cell? ⟨w.heap.size,2,none⟩=some (.slice (some ⟨b1,o1,none⟩) ql qc)/\V.cell? ⟨b1,o1+0 * 3+1,none⟩=some (.string ⟨x.toArray⟩)/\V.cell? ⟨b1,o1+1 * 3+1,none⟩=some (.string ⟨y.toArray⟩):=fun V h=>by rw[hS]at h;exact ⟨aa h (ai x2 2),aa h (aa bD c1),aa h (aa bD d1)⟩
  have dO:S W2.drew:=by rw[hS];exact (ak _ _).drew
  obtain ⟨HB,gK⟩:=a_ bD bm;have g_:=eM;have hq1:(1:Int)<(ql:Int):=by omega
  have hqn:¬ql=0:=by omega
  have Lr:(0:Int)<(ql:Int):=by omega
  clear hq h_ lV hu hz c0 c1 c2 d0 d1 d2 hx cm rK hI bD x2 hS bm hok hql;unfold FQ.val;go_enter Tryz.func96,Tryz.ntmps96;go_wp2;rw[<-gK.o];refine (wpIn_wide (n:=3)).1 ?_;refine lg S 13 dO fun jp bN=>?_;refine bC 0 4 (.pointer (some ⟨w.heap.size,2,none⟩)) rfl bN fun cq=>?_;simp only[ag];refine c9 1 5 (.slice (some ⟨b1,o1,none⟩) ql qc) rfl (fun V hX=>by obtain ⟨h0,h1,h2⟩:=pp V hX;go_simp) cq fun fI=>?_;simp only[ag];refine bC 2 6 (.pointer (some ⟨b1,o1+0 * 3,none⟩)) rfl fI fun gF=>?_;simp only[ag];refine bC 3 7 (.pointer (some ⟨b1,o1+0 * 3+1,none⟩)) rfl gF fun iG=>?_;simp only[ag];refine c9 4 8 (.string ⟨x.toArray⟩) rfl (fun V hX=>by obtain ⟨h0,h1,h2⟩:=pp V hX;go_simp) iG fun jx=>?_;simp only[ag];refine bC 6 10 (.pointer (some ⟨w.heap.size,2,none⟩)) rfl jx fun jM=>?_;simp only[ag];refine c9 7 11 (.slice (some ⟨b1,o1,none⟩) ql qc) rfl (fun V hX=>by obtain ⟨h0,h1,h2⟩:=pp V hX;go_simp) jM fun mi=>?_;simp only[ag];refine bC 8 12 (.pointer (some ⟨b1,o1+1 * 3,none⟩)) rfl mi fun rA=>?_;simp only[ag];refine bC 9 13 (.pointer (some ⟨b1,o1+1 * 3+1,none⟩)) rfl rA fun I1=>?_;simp only[ag];refine c9 10 14 (.string ⟨y.toArray⟩) rfl (fun V hX=>by obtain ⟨h0,h1,h2⟩:=pp V hX;go_simp) I1 fun Bn=>?_;simp only[ag];refine bZ 5 rfl fun K hK=>?_;go_simp;refine aK.2 ((eU x W2.drew uW).mono ?_);rintro e w6 ⟨rfl,rfl⟩;refine hK _ _ (fun _=>dO) (fun _=>?_);clear hK K;refine bZ 11 rfl fun K hK=>?_;go_simp;refine hK _ _ (fun _=>dO) (fun _=>?_);clear hK K;refine bZ 12 rfl fun K hK=>?_;go_simp;refine hK _ _ (fun _=>dO) (fun _=>?_);clear hK K;refine kz ?_;go_wp2;refine bJ (v:=.tuple #[.string ⟨(dc x).toArray⟩,.string ⟨y.toArray⟩]) (by simp[results,Tryz.results96,go_sem]) rfl ⟨rfl,HB.o.drew⟩
 |clear pp137b
  first
  |clear pp47a;have f0:∀ V,S V->V.cell? ⟨w.heap.size+1+1,2,none⟩=some (.slice ra k rc):=fun V h=>by rw[hS]at h;exact aa h (gA.cell 2)
   have f1:∀ V,S V->V.cell? ⟨wr.heap.size,0,none⟩=some (.bool u.v)/\V.cell? ⟨wr.heap.size,1,none⟩=some (.string u.n)/\V.cell? ⟨wr.heap.size,2,none⟩=some (.slice u.a u.l u.c):=fun V h=>by rw[hS]at h;exact ⟨aa h (ai xb 0),aa h (ai xb 1),aa h (ai xb 2)⟩
   have dO:S W2.drew:=by rw[hS];exact (ak _ _).drew
   obtain ⟨dh,cO,eR⟩:=cG hS fF gA
   first
   |clear pp8a;clear hS fF gA xb;refine lg S 5 dO fun jp bN=>?_
    refine bC 0 18 (.pointer (some ⟨w.heap.size+1+1,2,none⟩)) rfl bN fun cq=>?_;simp only[ag];refine c9 1 19 (.slice ra k rc) rfl (fun V hX=>by have g0:=f0 V hX;go_simp) cq fun fI=>?_;simp only[ag];refine c9 2 20 (.agg #[.bool u.v,.string u.n,.slice u.a u.l u.c]) rfl (fun V hX=>by obtain ⟨g0,g1,g2⟩:=f1 V hX;go_simp) fI fun gF=>?_;simp only[ag];refine bZ 3 rfl fun K hK=>?_;go_simp;refine aK.2 ((fS.o a[k] (aA dy) (mK.o.mem (aA dy)) _ W2.drew u (HU.o.later (cO.o.drew))).mono ?_);rintro _ A ⟨p,rfl,hp,hA⟩;have cv:Below W2.heap.size W2 A:=((ak W2.heap.size W2).drew).trans hA;refine hK _ _ (fun _=>by rw[dh.o];exact cv) (fun _=>?_);clear hK K;refine bZ 4 rfl fun K hK=>?_;simp only[TQ.val];go_simp;refine hK _ _ (fun _=>by rw[dh.o];exact cv.trans (((ak _ A).alloc (aI _) _).mono cv.size)) (fun _=>?_);clear hK K;obtain ⟨qs,et,au,gp⟩:=eR.o.row;rw[ee.o]at et au;have nN:=cv.size;have rQ:=eR.o.size;refine bZ 5 rfl fun K hK=>?_;refine bw (.tmp 19) (.tmp 22) 33 rfl W1.heap.size 43 i0 (.agg #[.bool false,.string ByteArray.empty,.slice none 0 0]) 3 48 Tryz.underlying33 hi nM i_ ig rfl (by decide) (.slice ra k rc) k _ rfl ((aZ au (fun b _ hlt=>cv.block b hlt)).alloc _) ⟨_,0,none⟩ 1 1 p.cells rfl rfl (c_ (cs:=#[.bool p.v,.string p.n,.slice p.a p.l p.c]) (t:=43) (fr:=(0,0)) (fP A _)) (by simp[TQ.cells,Value.oneCell']) (by decide) (by unfold maxLen;omega) (by omega) (by simp;omega) (A.heap.size+1) (by simp) ?_;intro g ev w4 aR ao hg eq;have h4:=eR.o.at4 (kk:=2) au cv ao;have cH:=eR.o.stepT (F:=2) (t:=a[k]) (g:=g) (cap:=ev) (by rw[ee.o];exact au) (by rw[ee.o];exact et) gp cv (hp:TermV (W2.heap.size<=·) A p.val a[k]) (by rw[ee.o];exact aR) ao hg rfl;rw[ee.o,List.take_append_getElem dy]at cH;have nO:=ae cH;have d3:=h4.2.2;have z3:=h4.2.1;clear aR ao hg eq cH h4 au et gp hp hA;refine eN hK ?_;clear hK K;refine bZ 6 rfl fun K hK=>?_;go_simp;refine eN hK ?_;clear hK K;refine bZ 7 rfl fun K hK=>?_;go_simp;refine eN hK ?_;clear hK K;refine kz ?_;gi_wp2;go_roundw
    case rel=>exact ⟨k+1,by omega,by go_num,_,nO.o⟩
    case measure=>simp[intOf];omega
   |clear pp8b;clear hS fF gA xb;refine lg S 6 dO fun jp bN=>?_
    refine bC 0 34 (.pointer (some ⟨w.heap.size+1+1,2,none⟩)) rfl bN fun cq=>?_;simp only[ag];refine c9 1 35 (.slice ra k rc) rfl (fun V hX=>by have g0:=f0 V hX;go_simp) cq fun fI=>?_;simp only[ag];refine c9 2 36 (.agg #[.bool u.v,.string u.n,.slice u.a u.l u.c]) rfl (fun V hX=>by obtain ⟨g0,g1,g2⟩:=f1 V hX;go_simp) fI fun gF=>?_;simp only[ag];refine bC 3 37 (.func (.func g) #[] lb) rfl gF fun iG=>?_;simp only[ag];refine bZ 4 rfl fun K hK=>?_;go_simp;refine aK.2 ((fS.o a[k] (aA dy) (mK.o.mem (aA dy)) _ W2.drew u (((Kw.o.tr dt.o).tr cO.o).tr (ak _ _).drew) (HU.o.later (cO.o.drew))).mono ?_);rintro _ A ⟨⟨p,rfl,hp⟩,hA⟩;have cv:Below W2.heap.size W2 A:=((ak W2.heap.size W2).drew).trans hA;refine hK _ _ (fun _=>by rw[dh.o];exact cv) (fun _=>?_);clear hK K;refine bZ 5 rfl fun K hK=>?_;simp only[TQ.val];go_simp;refine hK _ _ (fun _=>by rw[dh.o];exact cv.trans (((ak _ A).alloc (aI _) _).mono cv.size)) (fun _=>?_);clear hK K;obtain ⟨qs,et,au,gp⟩:=eR.o.row;rw[ee.o]at et au;have nN:=cv.size;have rQ:=eR.o.size;refine bZ 6 rfl fun K hK=>?_;refine bw (.tmp 35) (.tmp 39) 33 rfl W1.heap.size 43 o6 (.agg #[.bool false,.string ByteArray.empty,.slice none 0 0]) 3 48 Tryz.underlying33 hi xH uU yi rfl (by decide) (.slice ra k rc) k _ rfl ((aZ au (fun b _ hlt=>cv.block b hlt)).alloc _) ⟨_,0,none⟩ 1 1 p.cells rfl rfl (c_ (cs:=#[.bool p.v,.string p.n,.slice p.a p.l p.c]) (t:=43) (fr:=(0,0)) (fP A _)) (by simp[TQ.cells,Value.oneCell']) (by decide) (by unfold maxLen;omega) (by omega) (by simp;omega) (A.heap.size+1) (by simp) ?_;intro g ev w4 aR ao hg eq;have h4:=eR.o.at4 (kk:=2) au cv ao;have cH:=eR.o.stepT (F:=2) (t:=(fR f a[k])) (g:=g) (cap:=ev) (by rw[ee.o];exact au) (by rw[ee.o];exact et) gp cv (hp:TermV (W2.heap.size<=·) A p.val (fR f a[k])) (by rw[ee.o];exact aR) ao hg rfl;rw[ee.o,cU (fR f) a dy]at cH;have nO:=ae cH;have d3:=h4.2.2;have z3:=h4.2.1;clear aR ao hg eq cH h4 au et gp hp hA;refine eN hK ?_;clear hK K;refine bZ 7 rfl fun K hK=>?_;go_simp;refine eN hK ?_;clear hK K;refine bZ 8 rfl fun K hK=>?_;go_simp;refine eN hK ?_;clear hK K;refine kz ?_;gi_wp2;go_roundw
    case rel=>exact ⟨k+1,by omega,by go_num,_,nO.o⟩
    case measure=>simp[intOf];omega
   |clear pp8c;clear hS fF gA xb;refine lg S 7 dO fun jp bN=>?_
    refine bC 0 51 (.pointer (some ⟨w.heap.size+1+1,2,none⟩)) rfl bN fun cq=>?_;simp only[ag];refine c9 1 52 (.slice ra k rc) rfl (fun V hX=>by have g0:=f0 V hX;go_simp) cq fun fI=>?_;simp only[ag];refine bC 2 53 (.pointer (some ⟨kb,0,none⟩)) rfl fI fun gF=>?_;simp only[ag];refine c9 3 54 (.agg #[.bool u.v,.string u.n,.slice u.a u.l u.c]) rfl (fun V hX=>by obtain ⟨g0,g1,g2⟩:=f1 V hX;go_simp) gF fun iG=>?_;simp only[ag];refine bC 4 55 vL rfl iG fun jx=>?_;simp only[ag];refine bZ 5 rfl fun K hK=>?_;go_simp;refine aK.2 ((fS.o a[k] (aA dy) (mK.o.mem (aA dy)) _ W2.drew u (((Kw.o.tr dt.o).tr cO.o).tr (ak _ _).drew) (HU.o.later (cO.o.drew))).mono ?_);rintro _ A ⟨⟨p,rfl,hp⟩,hA⟩;have cv:Below W2.heap.size W2 A:=((ak W2.heap.size W2).drew).trans hA;refine hK _ _ (fun _=>by rw[dh.o];exact cv) (fun _=>?_);clear hK K;refine bZ 6 rfl fun K hK=>?_;simp only[TQ.val];go_simp;refine hK _ _ (fun _=>by rw[dh.o];exact cv.trans (((ak _ A).alloc (aI _) _).mono cv.size)) (fun _=>?_);clear hK K;obtain ⟨qs,et,au,gp⟩:=eR.o.row;rw[ee.o]at et au;have nN:=cv.size;have rQ:=eR.o.size;refine bZ 7 rfl fun K hK=>?_;refine bw (.tmp 52) (.tmp 57) 33 rfl W1.heap.size 43 o6 (.agg #[.bool false,.string ByteArray.empty,.slice none 0 0]) 3 48 Tryz.underlying33 hi xH uU yi rfl (by decide) (.slice ra k rc) k _ rfl ((aZ au (fun b _ hlt=>cv.block b hlt)).alloc _) ⟨_,0,none⟩ 1 1 p.cells rfl rfl (c_ (cs:=#[.bool p.v,.string p.n,.slice p.a p.l p.c]) (t:=43) (fr:=(0,0)) (fP A _)) (by simp[TQ.cells,Value.oneCell']) (by decide) (by unfold maxLen;omega) (by omega) (by simp;omega) (A.heap.size+1) (by simp) ?_;intro g ev w4 aR ao hg eq;have h4:=eR.o.at4 (kk:=2) au cv ao;have cH:=eR.o.stepT (F:=2) (t:=(cQ kd.ts sc a[k])) (g:=g) (cap:=ev) (by rw[ee.o];exact au) (by rw[ee.o];exact et) gp cv (hp:TermV (W2.heap.size<=·) A p.val (cQ kd.ts sc a[k])) (by rw[ee.o];exact aR) ao hg rfl;rw[ee.o,cU (cQ kd.ts sc) a dy]at cH;have nO:=ae cH;have d3:=h4.2.2;have z3:=h4.2.1;clear aR ao hg eq cH h4 au et gp hp hA;refine eN hK ?_;clear hK K;refine bZ 8 rfl fun K hK=>?_;go_simp;refine eN hK ?_;clear hK K;refine bZ 9 rfl fun K hK=>?_;go_simp;refine eN hK ?_;clear hK K;refine kz ?_;gi_wp2;go_roundw
    case rel=>exact ⟨k+1,by omega,by go_num,_,nO.o⟩
    case measure=>simp[intOf];omega
   |clear hS fF gA xb;refine lg S 5 dO fun jp bN=>?_
    refine bC 0 29 (.pointer (some ⟨w.heap.size+1+1,2,none⟩)) rfl bN fun cq=>?_;simp only[ag];refine c9 1 30 (.slice ra k rc) rfl (fun V hX=>by have g0:=f0 V hX;go_simp) cq fun fI=>?_;simp only[ag];refine c9 2 31 (.agg #[.bool u.v,.string u.n,.slice u.a u.l u.c]) rfl (fun V hX=>by obtain ⟨g0,g1,g2⟩:=f1 V hX;go_simp) fI fun gF=>?_;simp only[ag];refine bZ 3 rfl fun K hK=>?_;go_simp;refine aK.2 ((fS.o a[k] (aA dy) (mK.o.mem (aA dy)) _ W2.drew u (HU.o.later (cO.o.drew))).mono ?_);rintro _ A ⟨p,rfl,hp,hA⟩;have cv:Below W2.heap.size W2 A:=((ak W2.heap.size W2).drew).trans hA;refine hK _ _ (fun _=>by rw[dh.o];exact cv) (fun _=>?_);clear hK K;refine bZ 4 rfl fun K hK=>?_;simp only[TQ.val];go_simp;refine hK _ _ (fun _=>by rw[dh.o];exact cv.trans (((ak _ A).alloc (aI _) _).mono cv.size)) (fun _=>?_);clear hK K;obtain ⟨qs,et,au,gp⟩:=eR.o.row;rw[ee.o]at et au;have nN:=cv.size;have rQ:=eR.o.size;refine bZ 5 rfl fun K hK=>?_;refine bw (.tmp 30) (.tmp 33) 33 rfl W1.heap.size 43 o6 (.agg #[.bool false,.string ByteArray.empty,.slice none 0 0]) 3 48 Tryz.underlying33 hi xH uU yi rfl (by decide) (.slice ra k rc) k _ rfl ((aZ au (fun b _ hlt=>cv.block b hlt)).alloc _) ⟨_,0,none⟩ 1 1 p.cells rfl rfl (c_ (cs:=#[.bool p.v,.string p.n,.slice p.a p.l p.c]) (t:=43) (fr:=(0,0)) (fP A _)) (by simp[TQ.cells,Value.oneCell']) (by decide) (by unfold maxLen;omega) (by omega) (by simp;omega) (A.heap.size+1) (by simp) ?_;intro g ev w4 aR ao hg eq;have h4:=eR.o.at4 (kk:=2) au cv ao;have cH:=eR.o.stepT (F:=2) (t:=(aM a[k])) (g:=g) (cap:=ev) (by rw[ee.o];exact au) (by rw[ee.o];exact et) gp cv (hp:TermV (W2.heap.size<=·) A p.val (aM a[k])) (by rw[ee.o];exact aR) ao hg rfl;rw[ee.o,cU aM a dy]at cH;have nO:=ae cH;have d3:=h4.2.2;have z3:=h4.2.1;clear aR ao hg eq cH h4 au et gp hp hA;refine eN hK ?_;clear hK K;refine bZ 6 rfl fun K hK=>?_;go_simp;refine eN hK ?_;clear hK K;refine bZ 7 rfl fun K hK=>?_;go_simp;refine eN hK ?_;clear hK K;refine kz ?_;gi_wp2;go_roundw
    case rel=>exact ⟨k+1,by omega,by go_num,_,nO.o⟩
    case measure=>simp[intOf];omega
  |clear pp47b;have f0:∀ V,S V->V.cell? ⟨w3.heap.size+1,2,none⟩=some (.slice ra k rc):=fun V h=>by rw[hS]at h;exact aa h (gA.cell 2)
   have f1:∀ V,S V->V.cell? ⟨wr.heap.size,0,none⟩=some (.bool u.v)/\V.cell? ⟨wr.heap.size,1,none⟩=some (.string u.n)/\V.cell? ⟨wr.heap.size,2,none⟩=some (.slice u.a u.l u.c):=fun V h=>by rw[hS]at h;exact ⟨aa h (ai xb 0),aa h (ai xb 1),aa h (ai xb 2)⟩
   have dO:S W2.drew:=by rw[hS];exact (ak _ _).drew
   obtain ⟨dh,cO,eR⟩:=cG hS fF gA;clear hS fF gA xb;refine lg S 6 dO fun jp bN=>?_;refine bC 0 34 (.pointer (some ⟨w3.heap.size+1,2,none⟩)) rfl bN fun cq=>?_;simp only[ag];refine c9 1 35 (.slice ra k rc) rfl (fun V hX=>by have g0:=f0 V hX;go_simp) cq fun fI=>?_;simp only[ag];refine c9 2 36 (.agg #[.bool u.v,.string u.n,.slice u.a u.l u.c]) rfl (fun V hX=>by obtain ⟨g0,g1,g2⟩:=f1 V hX;go_simp) fI fun gF=>?_;simp only[ag];refine bC 3 37 (.func (.func g) #[] lb) rfl gF fun iG=>?_;simp only[ag];refine bZ 4 rfl fun K hK=>?_;go_simp;refine aK.2 ((fS.o a[k] (aA dy) (mK.o.mem (aA dy)) _ W2.drew u (((Kw.o.tr dt.o).tr cO.o).tr (ak _ _).drew) (HU.o.later (cO.o.drew))).mono ?_);rintro _ A ⟨⟨p,rfl,hp⟩,hA⟩;have cv:Below W2.heap.size W2 A:=((ak W2.heap.size W2).drew).trans hA;refine hK _ _ (fun _=>by rw[dh.o];exact cv) (fun _=>?_);clear hK K;refine bZ 5 rfl fun K hK=>?_;simp only[TQ.val];have pp24d:=();exact pm24
  |clear pp47c;have f0:∀ V,S V->V.cell? ⟨w.heap.size+1+1,2,none⟩=some (.slice fJ k1 fK):=fun V h=>by rw[hS]at h;exact aa h (gA.cell 2)
   have f1:∀ V,S V->V.cell? ⟨iQ.heap.size,0,none⟩=some (.bool u.v)/\V.cell? ⟨iQ.heap.size,1,none⟩=some (.string u.n)/\V.cell? ⟨iQ.heap.size,2,none⟩=some (.slice u.a u.l u.c):=fun V h=>by rw[hS]at h;exact ⟨aa h (ai xb 0),aa h (ai xb 1),aa h (ai xb 2)⟩
   have dO:S W2.drew:=by rw[hS];exact (ak _ _).drew
   obtain ⟨dh,cO,eR⟩:=cG hS fF gA;clear hS fF gA xb;refine lg S 5 dO fun jp bN=>?_;refine bC 0 20 (.pointer (some ⟨w.heap.size+1+1,2,none⟩)) rfl bN fun cq=>?_;simp only[ag];refine c9 1 21 (.slice fJ k1 fK) rfl (fun V hX=>by have g0:=f0 V hX;go_simp) cq fun fI=>?_;simp only[ag];refine c9 2 22 (.agg #[.bool u.v,.string u.n,.slice u.a u.l u.c]) rfl (fun V hX=>by obtain ⟨g0,g1,g2⟩:=f1 V hX;go_simp) fI fun gF=>?_;simp only[ag];refine bZ 3 rfl fun K hK=>?_;go_simp;refine aK.2 ((rp a[k1] (Fx.o.mem (aA dy)) _ W2.drew u (HU.o.later (cO.o.drew))).mono ?_);rintro _ A ⟨p,rfl,hp,hA⟩;have cv:Below W2.heap.size W2 A:=((ak W2.heap.size W2).drew).trans hA;refine hK _ _ (fun _=>by rw[dh.o];exact cv) (fun _=>?_);clear hK K;refine bZ 4 rfl fun K hK=>?_;simp only[TQ.val];have pp24e:=();exact pm24
  |clear pp47d;have f0:∀ V,S V->V.cell? ⟨w.heap.size+1+1+1,2,none⟩=some (.slice fJ k1 fK):=fun V h=>by rw[hS]at h;exact aa h (gA.cell 2)
   have f1:∀ V,S V->V.cell? ⟨DX.heap.size,0,none⟩=some (.bool u.v)/\V.cell? ⟨DX.heap.size,1,none⟩=some (.string u.n)/\V.cell? ⟨DX.heap.size,2,none⟩=some (.slice u.a u.l u.c):=fun V h=>by rw[hS]at h;exact ⟨aa h (ai xb 0),aa h (ai xb 1),aa h (ai xb 2)⟩
   have xu:=gA.other (by omega) HXU.o;have fu:∀ V,S V->V.cell? ⟨w.heap.size+1,0,none⟩=some (.bool zv)/\V.cell? ⟨w.heap.size+1,1,none⟩=some (.string zn)/\V.cell? ⟨w.heap.size+1,2,none⟩=some (.slice za zl zc):=fun V h=>by rw[hS]at h;exact ⟨aa h (ai xu 0),aa h (ai xu 1),aa h (ai xu 2)⟩
   clear xu;have dO:S W2.drew:=by rw[hS];exact (ak _ _).drew
   obtain ⟨dh,cO,eR⟩:=cG hS fF gA;clear hS fF gA xb;refine lg S 9 dO fun jp bN=>?_;refine bC 0 27 (.pointer (some ⟨w.heap.size+1+1+1,2,none⟩)) rfl bN fun cq=>?_;simp only[ag];refine c9 1 28 (.slice fJ k1 fK) rfl (fun V hX=>by have g0:=f0 V hX;go_simp) cq fun fI=>?_;simp only[ag];refine c9 2 29 (.agg #[.bool u.v,.string u.n,.slice u.a u.l u.c]) rfl (fun V hX=>by obtain ⟨g0,g1,g2⟩:=f1 V hX;go_simp) fI fun gF=>?_;simp only[ag];refine bC 3 30 (.string ⟨nx.toArray⟩) rfl gF fun iG=>?_;simp only[ag];refine c9 4 31 (.agg #[.bool zv,.string zn,.slice za zl zc]) rfl (fun V hX=>by obtain ⟨h0,h1,h2⟩:=fu V hX;go_simp) iG fun jx=>?_;simp only[ag];refine bC 5 32 (.agg #[.string ⟨nx.toArray⟩,.bool zv,.string zn,.slice za zl zc]) rfl jx fun jM=>?_;simp only[ag];refine bZ 6 rfl fun K hK=>?_;go_simp;refine hK _ _ (fun _=>by rw[dh.o];exact ((ak W2.heap.size W2).drew).alloc (aI _) _) (fun _=>?_);clear hK K;refine bZ 7 rfl fun K hK=>?_;go_simp;refine aK.2 ((F4 a[k1] (Fx.o.mem (aA dy)) nx Ky.o z N_.o.1 _ _ _ u ⟨zv,zn,za,zl,zc⟩ W2.heap.size 0 1 ((HU.o.later cO.o.drew).later cJ) ((((HZ.o.later dt.o).later cO.o).later ((ak _ _).drew)).later cJ) (ai (aj rfl) 0) (ai (aj rfl) 1) (ai (aj rfl) 2) (ai (aj rfl) 3)).mono ?_);rintro _ A ⟨⟨p,rfl,mZ⟩,hA⟩;have hp:TermV (W2.heap.size<=·) A p.val (kB nx z a[k1]):=mZ.move (fun b hok _=>⟨by simp at hok;omega,rfl⟩);clear mZ;have cv:Below W2.heap.size W2 A:=(((ak W2.heap.size W2).drew).alloc (aI _) _).trans (hA.mono (by simp));refine hK _ _ (fun _=>by rw[dh.o];exact cv) (fun _=>?_);clear hK K;refine bZ 8 rfl fun K hK=>?_;simp only[TQ.val];have pp24g:=();exact pm24
  |clear pp47e;have f0:∀ V,S V->V.cell? ⟨w.heap.size+1+1,2,none⟩=some (.slice ra k1 rc):=fun V h=>by rw[hS]at h;exact aa h (gA.cell 2)
   have f1:∀ V,S V->V.cell? ⟨DX.heap.size,0,none⟩=some (.bool u.v)/\V.cell? ⟨DX.heap.size,1,none⟩=some (.string u.n)/\V.cell? ⟨DX.heap.size,2,none⟩=some (.slice u.a u.l u.c):=fun V h=>by rw[hS]at h;exact ⟨aa h (ai xb 0),aa h (ai xb 1),aa h (ai xb 2)⟩
   have dO:S W2.drew:=by rw[hS];exact (ak _ _).drew
   obtain ⟨dh,cO,eR⟩:=cG hS fF gA;clear hS fF gA xb;refine lg S 7 dO fun jp bN=>?_;refine bC 0 70 (.pointer (some ⟨w.heap.size+1+1,2,none⟩)) rfl bN fun Pr=>?_;simp only[ag];refine c9 1 71 (.slice ra k1 rc) rfl (fun V hX=>by have g0:=f0 V hX;go_simp) Pr fun Ps=>?_;simp only[ag];refine bC 2 72 (.pointer (some ⟨kb,0,none⟩)) rfl Ps fun Jw=>?_;simp only[ag];refine c9 3 73 (.agg #[.bool u.v,.string u.n,.slice u.a u.l u.c]) rfl (fun V hX=>by obtain ⟨g0,g1,g2⟩:=f1 V hX;go_simp) Jw fun Pt=>?_;simp only[ag];refine bC 4 74 (vL) rfl Pt fun WR=>?_;simp only[ag];refine bZ 5 rfl fun K hK=>?_;go_simp;refine aK.2 ((HFT.o a[k1] (zax.o _ (aA dy)) _ W2.drew u ((dt.o.tr cO.o).tr (ak _ _).drew) (HU.o.later (cO.o.drew))).mono ?_);rintro _ A ⟨⟨p,rfl,hp⟩,hA⟩;have cv:Below W2.heap.size W2 A:=((ak W2.heap.size W2).drew).trans hA;refine hK _ _ (fun _=>by rw[dh.o];exact cv) (fun _=>?_);clear hK K;refine bZ 6 rfl fun K hK=>?_;simp only[TQ.val];have pp24b:=();exact pm24
  |have f0:∀ V,S V->V.cell? ⟨w3.heap.size,2,none⟩=some (.slice ra k rc):=fun V h=>by rw[hS]at h;exact aa h (gA.cell 2)
   have f1:∀ V,S V->V.cell? ⟨wr.heap.size,0,none⟩=some (.bool u.v)/\V.cell? ⟨wr.heap.size,1,none⟩=some (.string u.n)/\V.cell? ⟨wr.heap.size,2,none⟩=some (.slice u.a u.l u.c):=fun V h=>by rw[hS]at h;exact ⟨aa h (ai xb 0),aa h (ai xb 1),aa h (ai xb 2)⟩
   have dO:S W2.drew:=by rw[hS];exact (ak _ _).drew
   obtain ⟨dh,cO,eR⟩:=cG hS fF gA;clear hS fF gA xb;refine lg S 7 dO fun jp bN=>?_;refine bC 0 51 (.pointer (some ⟨w3.heap.size,2,none⟩)) rfl bN fun cq=>?_;simp only[ag];refine c9 1 52 (.slice ra k rc) rfl (fun V hX=>by have g0:=f0 V hX;go_simp) cq fun fI=>?_;simp only[ag];refine bC 2 53 (.pointer (some ⟨kb,0,none⟩)) rfl fI fun gF=>?_;simp only[ag];refine c9 3 54 (.agg #[.bool u.v,.string u.n,.slice u.a u.l u.c]) rfl (fun V hX=>by obtain ⟨g0,g1,g2⟩:=f1 V hX;go_simp) gF fun iG=>?_;simp only[ag];refine bC 4 55 vL rfl iG fun jx=>?_;simp only[ag];refine bZ 5 rfl fun K hK=>?_;go_simp;refine aK.2 ((fS.o a[k] (aA dy) (mK.o.mem (aA dy)) _ W2.drew u (((Kw.o.tr dt.o).tr cO.o).tr (ak _ _).drew) (HU.o.later (cO.o.drew))).mono ?_);rintro _ A ⟨⟨p,rfl,hp⟩,hA⟩;have cv:Below W2.heap.size W2 A:=((ak W2.heap.size W2).drew).trans hA;refine hK _ _ (fun _=>by rw[dh.o];exact cv) (fun _=>?_);clear hK K;refine bZ 6 rfl fun K hK=>?_;simp only[TQ.val];have pp24a:=();exact pm24
 |clear pp137c;have ff:∀ V,S V->V.cell? ⟨kb,0,none⟩=some (.map (some mF))/\V.cell? ⟨w.heap.size+1,1,none⟩=some (.string ⟨n.toArray⟩)/\(Instr.lookup 145 (.map (some mF)) (.string ⟨n.toArray⟩) false).run Tryz.prog V=.ok (.agg #[.int .u8 g0,.string g1,.slice g2 g3 g4,.slice g5 g6 g7]) V:=fun V h=>by
   rw[hS]at h;exact ⟨aa h (ai H2.o.2.2.box 0),aa h e1,uD V (h.block _ uF)⟩
  have dO:S W2.drew:=by rw[hS];exact (ak _ _).drew
  first
  |clear pp66;have HC:=ae (fun (V:World) (h:Below W2.heap.size W2 V)=>km f tO.o.2.1 _ V ⟨g0,g1,g2,g3,g4,g5,g6,g7⟩ (tO.o.1.later h));simp only[FQ.val,<-hm]at HC;have dh:=ae hS;clear hS hm hE uD uF e0 e1 e2 e3;go_enter Tryz.func126,Tryz.ntmps126;go_upto_region 2 with fail;rw[<-gK.o];have e0:=ai H2.o.2.1 0;go_upto_region 4 with fail;clear e0;refine (wpIn_wide (n:=3)).1 ?_;refine lg S 8 dO fun jp bN=>?_;refine bC 0 19 (.pointer (some ⟨kb,0,none⟩)) rfl bN fun cq=>?_;simp only[ag];refine bC 1 20 (.pointer (some ⟨kb,0,none⟩)) rfl cq fun fI=>?_;simp only[ag];refine bC 2 21 (.pointer (some ⟨kb,0,none⟩)) rfl fI fun gF=>?_;simp only[ag];refine c9 3 22 (.map (some mF)) rfl (fun V hX=>by obtain ⟨h0,h1,h2⟩:=ff V hX;go_simp) gF fun iG=>?_;simp only[ag];refine bC 4 23 (.pointer (some ⟨w.heap.size+1,1,none⟩)) rfl iG fun jx=>?_;simp only[ag];refine c9 5 24 (.string ⟨n.toArray⟩) rfl (fun V hX=>by obtain ⟨h0,h1,h2⟩:=ff V hX;go_simp) jx fun jM=>?_;simp only[ag];refine c9 6 25 (.agg #[.int .u8 g0,.string g1,.slice g2 g3 g4,.slice g5 g6 g7]) rfl (fun V hX=>by obtain ⟨h0,h1,h2⟩:=ff V hX;go_simp) jM fun mi=>?_;simp only[ag];refine bZ 7 rfl fun K hK=>?_;go_simp;refine aK.2 ((HC.o _ (by have h:=bN;rw[dh.o]at h;exact h)).mono ?_);rintro e w7 ⟨rfl,fw⟩;have H7:=ae (((ak W2.heap.size W2).drew).trans fw);refine hK _ _ (fun _=>by rw[dh.o];exact H7.o) (fun _=>?_);clear hK K fw;refine bZ 8 rfl fun K hK=>?_;go_simp;refine eN hK ?_;clear hK K;refine kz ?_;clear ff dO bN cq fI gF iG jx jM mi jp;go_wp2;go_ret;exact ⟨by rw[qK.o];rfl,H2.o.1.tr H7.o⟩
  |have HC:=ae (fun (V:World) (h:Below W2.heap.size W2 V)=>tw f tO.o.2.1 (by have:=tO.o.2.2;omega) _ V ⟨g0,g1,g2,g3,g4,g5,g6,g7⟩ (tO.o.1.later h));simp only[FQ.val,<-hm]at HC;have dh:=ae hS;clear hS hm hE uD uF e0 e1 e2 e3;go_enter Tryz.func195,Tryz.ntmps195;go_upto_region 2 with fail;rw[<-gK.o];have e0:=ai H2.o.2.1 0;go_upto_region 4 with fail;clear e0;refine (wpIn_wide (n:=3)).1 ?_;refine lg S 9 dO fun jp bN=>?_;refine bC 0 18 (.pointer (some ⟨kb,0,none⟩)) rfl bN fun cq=>?_;simp only[ag];refine bC 1 19 (.pointer (some ⟨kb,0,none⟩)) rfl cq fun fI=>?_;simp only[ag];refine bC 2 20 (.pointer (some ⟨kb,0,none⟩)) rfl fI fun gF=>?_;simp only[ag];refine c9 3 21 (.map (some mF)) rfl (fun V hX=>by obtain ⟨h0,h1,h2⟩:=ff V hX;go_simp) gF fun iG=>?_;simp only[ag];refine bC 4 22 (.pointer (some ⟨w.heap.size+1,1,none⟩)) rfl iG fun jx=>?_;simp only[ag];refine c9 5 23 (.string ⟨n.toArray⟩) rfl (fun V hX=>by obtain ⟨h0,h1,h2⟩:=ff V hX;go_simp) jx fun jM=>?_;simp only[ag];refine c9 6 24 (.agg #[.int .u8 g0,.string g1,.slice g2 g3 g4,.slice g5 g6 g7]) rfl (fun V hX=>by obtain ⟨h0,h1,h2⟩:=ff V hX;go_simp) jM fun mi=>?_;simp only[ag];refine bZ 7 rfl fun K hK=>?_;go_simp;refine aK.2 ((HC.o _ (by have h:=bN;rw[dh.o]at h;exact h)).mono ?_);rintro e w7 ⟨⟨v7,rfl,LS⟩,fw⟩;have H7:=ae (((ak W2.heap.size W2).drew).trans fw);have Va:=ae (qN m HM.o.2 HM.o.1 _ w7 v7 LS.1);refine hK _ _ (fun _=>by rw[dh.o];exact H7.o) (fun _=>?_);clear hK K fw LS;refine bZ 8 rfl fun K hK=>?_;go_simp;refine aK.2 (Va.o.mono ?_);rintro e w8 ⟨⟨v8,rfl,F8⟩,RI⟩;have gJ:Below W2.heap.size W2 w8:=kF (w:=W2) H7.o RI;have H8:=aG gJ F8;refine hK _ _ (fun _=>by rw[dh.o];exact H8.o.1) (fun _=>?_);clear hK K RI gJ F8;refine bZ 9 rfl fun K hK=>?_;go_simp;refine eN hK ?_;clear hK K;refine kz ?_;clear ff dO bN cq fI gF iG jx jM mi jp;go_wp2;go_ret;exact ⟨⟨_,rfl,by rw[qK.o];exact H8.o.2.base H2.o.1.size⟩,H2.o.1.tr H8.o.1⟩
 |clear pp137d
  first
  |clear pp94;have f0:∀ V,S V->V.cell? ⟨w.heap.size+1+1+1,3,none⟩=some (.slice ra k rc):=fun V h=>by rw[hS]at h;exact aa h (gA.cell 3)
   have f1:∀ V,S V->V.cell? ⟨wr.heap.size,0,none⟩=some (.int .u8 u.o)/\V.cell? ⟨wr.heap.size,1,none⟩=some (.string u.n)/\V.cell? ⟨wr.heap.size,2,none⟩=some (.slice u.a u.l u.c)/\V.cell? ⟨wr.heap.size,3,none⟩=some (.slice u.b u.m u.e):=fun V h=>by rw[hS]at h;exact ⟨aa h (ai xb 0),aa h (ai xb 1),aa h (ai xb 2),aa h (ai xb 3)⟩
   have xu:=gA.other (by omega) zb0.o;have fu:∀ V,S V->V.cell? ⟨w.heap.size+1,0,none⟩=some (.bool zv)/\V.cell? ⟨w.heap.size+1,1,none⟩=some (.string zn)/\V.cell? ⟨w.heap.size+1,2,none⟩=some (.slice za zl zc):=fun V h=>by rw[hS]at h;exact ⟨aa h (ai xu 0),aa h (ai xu 1),aa h (ai xu 2)⟩
   clear xu;have dO:S W2.drew:=by rw[hS];exact (ak _ _).drew
   obtain ⟨dh,cO,eR⟩:=cG hS fF gA;clear hS fF gA xb;refine lg S 7 dO fun jp bN=>?_;refine bC 0 94 (.pointer (some ⟨w.heap.size+1+1+1,3,none⟩)) rfl bN fun cq=>?_;simp only[ag];refine c9 1 95 (.slice ra k rc) rfl (fun V hX=>by have g0:=f0 V hX;go_simp) cq fun fI=>?_;simp only[ag];refine c9 2 96 (.agg #[.int .u8 u.o,.string u.n,.slice u.a u.l u.c,.slice u.b u.m u.e]) rfl (fun V hX=>by obtain ⟨g0,g1,g2,g3⟩:=f1 V hX;go_simp) fI fun gF=>?_;simp only[ag];refine bC 3 97 (.string ⟨nx.toArray⟩) rfl gF fun iG=>?_;simp only[ag];refine c9 4 98 (.agg #[.bool zv,.string zn,.slice za zl zc]) rfl (fun V hX=>by obtain ⟨h0,h1,h2⟩:=fu V hX;go_simp) iG fun jx=>?_;simp only[ag];refine bZ 5 rfl fun K hK=>?_;go_simp;refine aK.2 ((fS.o W0 s[k] nx z (yk.o.mem (aA dy)) (ZE.o _ (aA dy)).1 (ZE.o _ (aA dy)).2.1 (ZE.o _ (aA dy)).2.2.1 (ZE.o _ (aA dy)).2.2.2 Ky.o N_.o.1 N_.o.2 _ _ W2.drew u ⟨zv,zn,za,zl,zc⟩ (Oa.o.next ((dt.o.tr cO.o).tr ((ak _ _).drew))) (HU.o.later (cO.o.drew)) (((HZ.o.later dt.o).later cO.o).later ((ak _ _).drew))).mono ?_);rintro _ A ⟨⟨p,rfl,hp⟩,hA⟩;have cv:Below W2.heap.size W2 A:=((ak W2.heap.size W2).drew).trans hA;refine hK _ _ (fun _=>by rw[dh.o];exact cv) (fun _=>?_);clear hK K;refine bZ 6 rfl fun K hK=>?_;simp only[FQ.val];exact pm24
  |have f0:∀ V,S V->V.cell? ⟨w.heap.size+1+1,3,none⟩=some (.slice ra k rc):=fun V h=>by rw[hS]at h;exact aa h (gA.cell 3)
   have f1:∀ V,S V->V.cell? ⟨wr.heap.size,0,none⟩=some (.int .u8 u.o)/\V.cell? ⟨wr.heap.size,1,none⟩=some (.string u.n)/\V.cell? ⟨wr.heap.size,2,none⟩=some (.slice u.a u.l u.c)/\V.cell? ⟨wr.heap.size,3,none⟩=some (.slice u.b u.m u.e):=fun V h=>by rw[hS]at h;exact ⟨aa h (ai xb 0),aa h (ai xb 1),aa h (ai xb 2),aa h (ai xb 3)⟩
   have dO:S W2.drew:=by rw[hS];exact (ak _ _).drew
   obtain ⟨dh,cO,eR⟩:=cG hS fF gA
   first
   |clear pp39;clear hS fF gA xb;refine lg S 5 dO fun jp bN=>?_
    refine bC 0 35 (.pointer (some ⟨w.heap.size+1+1,3,none⟩)) rfl bN fun cq=>?_;simp only[ag];refine c9 1 36 (.slice ra k rc) rfl (fun V hX=>by have g0:=f0 V hX;go_simp) cq fun fI=>?_;simp only[ag];refine c9 2 37 (.agg #[.int .u8 u.o,.string u.n,.slice u.a u.l u.c,.slice u.b u.m u.e]) rfl (fun V hX=>by obtain ⟨g0,g1,g2,g3⟩:=f1 V hX;go_simp) fI fun gF=>?_;simp only[ag];refine bZ 3 rfl fun K hK=>?_;go_simp;refine aK.2 ((fS.o s[k] (aA dy) (yk.o.mem (aA dy)) _ W2.drew u (HU.o.later (cO.o.drew))).mono ?_);rintro _ A ⟨p,rfl,hp,hA⟩;have cv:Below W2.heap.size W2 A:=((ak W2.heap.size W2).drew).trans hA;refine hK _ _ (fun _=>by rw[dh.o];exact cv) (fun _=>?_);clear hK K;refine bZ 4 rfl fun K hK=>?_;simp only[FQ.val];have pp24f:=();exact pm24
   |clear hS fF gA xb;refine lg S 7 dO fun jp bN=>?_
    refine bC 0 125 (.pointer (some ⟨w.heap.size+1+1,3,none⟩)) rfl bN fun Pr=>?_;simp only[ag];refine c9 1 126 (.slice ra k rc) rfl (fun V hX=>by have g0:=f0 V hX;go_simp) Pr fun Ps=>?_;simp only[ag];refine bC 2 127 (.pointer (some ⟨kb,0,none⟩)) rfl Ps fun Jw=>?_;simp only[ag];refine c9 3 128 (.agg #[.int .u8 u.o,.string u.n,.slice u.a u.l u.c,.slice u.b u.m u.e]) rfl (fun V hX=>by obtain ⟨g0,g1,g2,g3⟩:=f1 V hX;go_simp) Jw fun Pt=>?_;simp only[ag];refine bC 4 129 (vL) rfl Pt fun WR=>?_;simp only[ag];refine bZ 5 rfl fun K hK=>?_;go_simp;refine aK.2 ((fS.o ss[k] (aA dy) c L _ W2.drew vL u (HL.o.2.2.2.tr ((dt.o.tr cO.o).tr (ak _ _).drew)) (HL.o.1.later ((dt.o.tr cO.o).tr (ak _ _).drew)) (by have:=jn (aA dy);have:=HL.o.2.1;simp only[nodesF]at this;omega) HL.o.2.2.1 (HU.o.later (cO.o.drew))).mono ?_);rintro _ A ⟨⟨p,rfl,hp⟩,hA⟩;have cv:Below W2.heap.size W2 A:=((ak W2.heap.size W2).drew).trans hA;refine hK _ _ (fun _=>by rw[dh.o];exact cv) (fun _=>?_);clear hK K;refine bZ 6 rfl fun K hK=>?_;simp only[FQ.val];have pp24c:=();exact pm24
 |have ft:∀ V,S V->V.cell? ⟨w4.heap.size,0,none⟩=some (.int .u8 go)/\V.cell? ⟨w4.heap.size,1,none⟩=some (.string gn)/\V.cell? ⟨w4.heap.size,2,none⟩=some (.slice ga gl gc)/\V.cell? ⟨w4.heap.size,3,none⟩=some (.slice gb gm ge):=fun V h=>by rw[hS]at h;exact ⟨aa h (ai Vw.o 0),aa h (ai Vw.o 1),aa h (ai Vw.o 2),aa h (ai Vw.o 3)⟩
  have fn0:∀ V,S V->V.cell? ⟨w.heap.size,1,none⟩=some (.string ⟨n.toArray⟩):=fun V h=>by rw[hS]at h;exact aa h (ai LO.o.b0 1)
  have fm:∀ V,S V->V.cell? ⟨w.heap.size+1+1+1,1,none⟩=some (.string ⟨m.toArray⟩):=fun V h=>by rw[hS]at h;exact aa h (ai LO.o.b2 1)
  have dO:S W2.drew:=by rw[hS];exact (ak _ _).drew
  have dh:=ae hS;clear hS;refine lg S 7 dO fun jp bN=>?_;refine c9 0 73 (.agg #[.int .u8 go,.string gn,.slice ga gl gc,.slice gb gm ge]) rfl (fun V hX=>by obtain ⟨g0,g1,g2,g3⟩:=ft V hX;go_simp) bN fun cq=>?_;simp only[ag];refine bC 1 74 (.pointer (some ⟨w.heap.size,1,none⟩)) rfl cq fun fI=>?_;simp only[ag];refine c9 2 75 (.string ⟨n.toArray⟩) rfl (fun V hX=>by have g0:=fn0 V hX;go_simp) fI fun gF=>?_;simp only[ag];refine bC 3 76 (.pointer (some ⟨w.heap.size+1+1+1,1,none⟩)) rfl gF fun iG=>?_;simp only[ag];refine c9 4 77 (.string ⟨m.toArray⟩) rfl (fun V hX=>by have g0:=fm V hX;go_simp) iG fun jx=>?_;simp only[ag];refine bZ 5 rfl fun K hK=>?_;go_simp;refine aK.2 ((gj m _).mono ?_);rintro _ A1 ⟨rfl,Fb⟩;have cv:Below W2.heap.size W2 A1:=((ak W2.heap.size W2).drew).trans Fb;refine hK _ _ (fun _=>by rw[dh.o];exact cv) (fun _=>?_);clear hK K;refine bZ 6 rfl fun K hK=>?_;go_simp;have Vx:=LO.o.later cv;refine aK.2 ((fS.o W0 g n (ap m) m5.o.2.2.2.2 m5.o.1 m5.o.2.1 m5.o.2.2.1 m5.o.2.2.2.1 lK ⟨by simp[ap,nodesT,nodesTs],vp HM.o.2.1⟩ (by simp[ap,nodesT,nodesTs]) _ (fun _=>True) A1 ⟨go,gn,ga,gl,gc,gb,gm,ge⟩ ⟨true,⟨m.toArray⟩,none,0,0⟩ (Oa.o.next Vx.below) (HG.o.later Vx.below) (aV.2 ⟨_,rfl,cf⟩)).mono ?_);rintro _ A ⟨⟨⟨ho,sd,ha,hl,hc,hb,hm,he⟩,rfl,hp⟩,hA⟩;have Rh:=cv.tr hA;refine hK _ _ (fun _=>by rw[dh.o];exact Rh) (fun _=>?_);clear hK K;have tB:A.heap[w4.heap.size]?=some (.cells #[.int .u8 go,.string gn,.slice ga gl gc,.slice gb gm ge] 36 (0,0)):=bR Rh Vw.o;have lV:=gI kk g n m m5.o.2.1 m5.o.2.2.1 m5.o.2.2.2.1;obtain ⟨G2,hG2⟩:=am (eQ kk n (ap m) g);have Tu:kJ 2000000 G2=true:=by rw[hG2];exact oa kk g n (ap m) m5.o.2.1 m5.o.2.2.1 m5.o.2.2.2.1 (by have:=m5.o.1;simp[ap,nodesT,nodesTs];omega) m5.o.2.2.2.2.2 (vp HM.o.2.1)
  rw[<-hG2]at lV hp;have ZK:Hd (fitF G2/\nodesF G2<=100000/\mr G2=true/\qone G2=true/\depthF G2<=kk):=ae ⟨⟨by have:=m5.o.1;omega,Tu⟩,by have:=m5.o.1;omega,lV.1,lV.2.1,by have:=m5.o.2.2.2.1;omega⟩;have vr:Hd (RS=.mk qo m [] [eQ kk nx z G2]):=ae (by rw[vr.o,hG2]);have jy:w.heap.size+3<w4.heap.size:=F7.o.lt;have nN:=cv.size;have zb9:=(bz Vw.o);have Vy:=dA (W:=A) (b:=w4.heap.size) (v0:=.int .u8 ho) (v1:=.string sd) (v2:=.slice ha hl hc) (v3:=.slice hb hm he);have Of:=kP (v0:=.int .u8 ho) (v1:=.string sd) (v2:=.slice ha hl hc) (v3:=.slice hb hm he) tB;obtain ⟨s0,s1,s2,s3⟩:=mm tB;have zs0:=af tB 0;have zs1:=af tB 1;have zs2:=af tB 2;have zs3:=af tB 3;have Tv:=(LO.o.later Rh).keep Vy.os Vy.tape Vy.output Vy.size (fun b bD=>Vy.same b (by have:=(LO.o.later Rh).lt;omega) (by omega));have ZL:=hp.move (ok':=fun _=>True) (fun b hok hlt=>⟨trivial,Vy.same b hlt (by omega)⟩);obtain ⟨tD,ZM,ZN⟩:=cG Tv Of ZL;clear lV hG2 Tu jy nN zb9 Vy Of tB Tv ZL hp hA Fb cv Rh Vx;refine bZ 7 rfl fun K hK=>?_;simp only[FQ.val];go_simp;refine eN hK ?_;clear hK K;refine kz ?_;obtain ⟨lq,F'⟩:=am ((((A.setCell ⟨w4.heap.size,0,none⟩ (.int .u8 ho)).setCell ⟨w4.heap.size,1,none⟩ (.string sd)).setCell ⟨w4.heap.size,2,none⟩ (.slice ha hl hc)).setCell ⟨w4.heap.size,3,none⟩ (.slice hb hm he));rw[<-F']at tD ZM ZN ⊢;clear F' s0 s1 s2 s3 zs0 zs1 zs2 zs3 ft fn0 fm dO dh bN cq fI gF iG jx jp;have CP:=fS.o W0 G2 nx z ZK.o.1 ZK.o.2.1 ZK.o.2.2.1 ZK.o.2.2.2.1 ZK.o.2.2.2.2 Ky.o N_.o.1 N_.o.2 _ _ lq ⟨ho,sd,ha,hl,hc,hb,hm,he⟩ ⟨zv,zn,za,zl,zc⟩ (Oa.o.next tD.o.below) ZN.o (HZ.o.later tD.o.below);simp only[FQ.val,TQ.val]at CP;have IV:=ae CP;obtain ⟨tu0,tu1,tu2⟩:=li tD.o.bu;obtain ⟨tt0,tt1,tt2,tt3⟩:=mm ZM.o;clear CP;gi_wp2_with fail;refine aK.2 (IV.o.mono ?_);rintro e w8 ⟨⟨⟨po,pn,pa,pl,pc,pb,pm,pe⟩,rfl,Tr⟩,gJ⟩;clear tu0 tu1 tu2 tt0 tt1 tt2 tt3;have Vr:=gJ.size;have hwX:=tD.o.below.size;have lp:Below w8.heap.size w8 (w8.alloc (.cells #[.int .u8 po,.string pn,.slice pa pl pc,.slice pb pm pe] 36)):=cJ;have tC:=(tD.o.later gJ).later lp;exact pm76):G:=h
theorem pm138(h:G:=by
 obtain ⟨k0,cg⟩:=am l.length;obtain ⟨m0,eh⟩:=am m.length;rw[i9,<-cg,<-eh];rw[<-cg,<-eh]at mY;have d1:((k0:Int) == (m0:Int))=false:=by simp;omega
 have d2:((k0:Int) != (m0:Int))=true:=by simp;omega
 clear i9 hl hm az cg eh ih
 first
 |clear pp138;go_enter Tryz.func19,Tryz.ntmps19;go_wp2;go_ret;exact ⟨rfl,ak _ _⟩
 |go_enter Tryz.func52,Tryz.ntmps52;go_wp2;go_ret;exact ⟨rfl,ak _ _⟩):G:=h
theorem pm139(h:G:=by
 clear hK K;have HH:=ae Oq;clear Oq;refine bZ 16 rfl fun K hK=>?_;go_simp;refine eN hK ?_;clear hK K;refine kz ?_;gi_wp2;go_ret;obtain ⟨D7,h1,h2,h3⟩:=HH.o;exact .inr ⟨rfl,D7,h1,h2,((zi.o.2.trans kf.o.2).from _).trans h3⟩):G:=h
theorem pm140(h:G:=by
 go_wp2_with (go_at_call 191;refine (CP.o _).mono ?_;rintro e w' ⟨rfl,rfl⟩);go_ret;exact ⟨rfl,ak _ _⟩):G:=h
theorem pm141(h:G:=by
 simp only[PlQ.val,PlQ.cells];go_enter Tryz.func48,Tryz.ntmps48
 first
 |clear pp141a;go_wp2;rw[<-iR.o];go_region
  all_goals
   rw[<-bm];clear bm;go_wp2;go_ret;exact StepPost.bad HE.o (by decide) (Kp.below cO.o)
 |clear pp141b;go_wp2;rw[<-iR.o];go_cut [5,6] from 17 to 27 (fun s5 s6 wx=>s5=.pointer (some ⟨W1.heap.size,0,none⟩)/\s6=.bool true/\wx=W2)
  case first=>
   go_region
   all_goals
    rw[<-bm];go_wp2_with fail;go_meet;exact ⟨rfl,rfl,rfl⟩
  case rest=>
  obtain ⟨h5,h6,hw⟩:=hcut;rw[h5,h6,hw];clear h5 h6 hw wc bm l1 l2 g0 g1 g3 g4 g5 P0 P1 P2 P3 P4 P5 P6 P7 P8;obtain ⟨P0,P1,P2,P3,P4,P5,P6,P7⟩:=AM H2.o.2.2.2;have P8:=ai H2.o.2.2.2 8;obtain ⟨e0,e1,e2,e3,_,_,_,_⟩:=dp H2.o.2.2.1
  cases I with
  | none=>
   have HE:=ae (show R=(k,70) from Jr.o);exact pm151
  | some im=>
  have Wd:=ae (show R=if gY cW f=0 then (if ea [] f im=true then (k,0) else (k,70))
   else match (match getB k.ts y with | some t=>some (t,k.ts) | none=>(gZ f im cW).map fun t=>(t,fj y t k.ts)) with
    | none=>(k,70)
    | some (t,ts)=>if (nodesF f+gY cW f * (nodesT t - 1) != nodesF im)=true then ({ k with ts:=ts },70)
     else if ea [] (iI cW t f) im=true then ({ k with ts:=ts },0) else ({ k with ts:=ts },70) from Jr.o)
  have L3:=ae (fun (V:World) (h:Below W2.heap.size W2 V)=>jb cW f xE.o.1.fit _ V ⟨Ec,Ed,Ee,Ef,Eg,Eh,Ei,Ej⟩ (xE.o.2.later h));simp only[FQ.val]at L3;obtain ⟨n0,sd⟩:=am (gY cW f);rw[<-sd]at Wd L3;have HN0:=ae sd;clear sd Jr;have d16:(16:Int)=16:=rfl;clear d16;go_upto_region 9 with (go_at_call 91;refine HC.o.mono ?_;rintro e w4 ⟨⟨⟨p0,p1,p2,p3,p4,p5,p6,p7⟩,rfl,hp⟩,aP⟩;have H4:=aG (hp _ rfl) aP;clear hp aP;simp only[Option.isSome]);obtain ⟨W5,eP⟩:=am (w4.alloc (.cells #[.int .u8 p0,.string p1,.slice p2 p3 p4,.slice p5 p6 p7] 36));rw[<-eP];have oX:=cZ eP;have Ep:Below W2.heap.size W2 W5:=H4.o.2.tr oX;have x5:=cb eP;have Gl:FormV (fun b=>¬M b/\b≠W1.heap.size) W5 (FQ.val ⟨p0,p1,p2,p3,p4,p5,p6,p7⟩) im:=H4.o.1.move (fun b hb hlt=>⟨⟨fun hm=>by have:=HG.o.2.2.2.2 b hm;have:=H2.o.2.1.size;omega,by have:=w_.o.2.2.2.1;omega⟩,oX.block b hlt⟩);have Yq:=Tw.o im rfl;have H5:=cC Ep x5 Gl Yq;have HT7:=ae (show W1.heap.size≠w4.heap.size by have:=w_.o.2.2.2.1;have:=H4.o.2.size;omega);have rD:=ae eP;clear P0 P1 P2 P3 P4 P5 P6 P7 P8 e0 e1 e2 e3 oX Ep x5 Gl Yq eP;have zao:=bR H5.o.1 H2.o.2.2.2;obtain ⟨P0,P1,P2,P3⟩:=mm zao;have zcs:=ae (HIN.o W5 (H2.o.1.tr H5.o.1));go_upto_region 10 with (go_at_call 96;refine zcs.o.mono ?_;rintro e w6 ⟨rfl,cR⟩;have H6:=ae cR;clear cR);clear P0 P1 P2 P3 zao;have We:Below W2.heap.size W2 w6:=H5.o.1.tr H6.o;have ZR:=bR We H2.o.2.2.1;obtain ⟨e0,e1,e2,e3,_,_,_,_⟩:=dp ZR;have zct:=ae (L3.o w6 We);clear We ZR;go_upto_region 11 with (go_at_call 97;refine zct.o.mono ?_;rintro e w7 ⟨rfl,fw⟩;have H7:=ae fw;clear fw);clear e0 e1 e2 e3;have O0:Below W2.heap.size W2 w7:=(H5.o.1.tr H6.o).tr H7.o;have Js:Below W5.heap.size W5 w7:=H6.o.tr H7.o;have x27:=bR O0 H2.o.2.2.1;have x57:=bR Js H5.o.2.1;obtain ⟨e0,e1,e2,e3,z0,z1,z2,z3⟩:=dp x27;obtain ⟨f0,f1,f2,f3,_,_,_,_⟩:=dp x57;have GP:=cC O0 x27 x57 (H5.o.2.2.1.later Js);have TJ:=ae (Zd.o.later O0);have RR:=ae (xE.o.2.later O0);clear O0 Js x27 x57
  by_cases h0:n0=0
  ·subst h0;obtain ⟨bb,cI⟩:=am (ea [] f im);have hE:=Wd.o;rw[aH rfl,<-cI]at hE;have HE:=ae hE;have CA:=tM f im [] (.slice none 0 0) _ _ w7 ⟨Ec,Ed,Ee,Ef,Eg,Eh,Ei,Ej⟩ ⟨p0,p1,p2,p3,p4,p5,p6,p7⟩ (by have:=xE.o.1.nodes;simp[gD];omega) xE.o.1.fit RR.o GP.o.2.2.2 (PairsV.nil w7);simp only[FQ.val,List.reverse_nil,<-cI]at CA;have Ek:=ae CA;clear hE CA cI;cases bb
   ·go_wp2_with (go_at_call 92;refine Ek.o.mono ?_;rintro e w8 ⟨rfl,gJ⟩;have H8:=ae gJ;clear gJ);go_ret;exact StepPost.bad HE.o (by decide) (Kp.below (H2.o.2.1.tr (GP.o.1.tr H8.o)))
   ·go_wp2_with (go_at_call 92;refine Ek.o.mono ?_;rintro e w8 ⟨rfl,gJ⟩;have H8:=ae gJ;clear gJ);go_ret;exact StepPost.good nF nT HE.o (Kp.below (H2.o.2.1.tr (GP.o.1.tr H8.o))) (by omega) (by omega) ((TJ.o.later H8.o).move (fun b hb _=>⟨hb.1,rfl⟩) rfl rfl rfl)
  have RT:=Wd.o;rw[aw h0]at RT;have oV:=ae (show n0<=400/\0<n0 by have:=xE.o.1.nodes;have:=ov cW f;have:=HN0.o;omega);have nn:(0:Int)<(n0:Int):=by omega
  have zdK:=HF.o.2.2.1;have k0:w7.cell? ⟨kb,1,none⟩=some (.map (some mT)):=ai TJ.o.box 1;clear h0;rcases TJ.o.ts.look Tryz.underlying9 Tryz.underlying146 jr (x:=y) (by omega) with ⟨hg,hlk⟩ | ⟨t,vt,hg,hvt,hlk⟩
  ·have l1:=(hlk w7 rfl).1;clear hlk;go_upto_region 14 with fail;clear k0 l1 nn e0 e1 e2 e3 z0 z1 z2 z3 f0 f1 f2 f3;obtain ⟨W8,lr⟩:=am (w7.alloc (.cells #[.bool false,.string ⟨#[]⟩,.slice none 0 0] 43));rw[<-lr];have sD:=cZ lr;have x8:=cb lr;have Yv:=bR sD GP.o.2.1;have Yw:=bR sD GP.o.2.2.1;obtain ⟨e0,e1,e2,e3,_,_,_,_⟩:=dp Yv;obtain ⟨f0,f1,f2,f3,_,_,_,_⟩:=dp Yw;have CF:=LP f im cW xE.o.1.fit H5.o.2.2.2.fit (Md f (by have:=HN0.o;have:=oV.o;omega)) (fun b=>(¬M b/\b≠W1.heap.size)/\b<w7.heap.size) W8 ⟨Ec,Ed,Ee,Ef,Eg,Eh,Ei,Ej⟩ ⟨p0,p1,p2,p3,p4,p5,p6,p7⟩ (RR.o.move (fun b hb hlt=>⟨⟨hb,hlt⟩,sD.block b hlt⟩)) (GP.o.2.2.2.move (fun b hb hlt=>⟨⟨hb,hlt⟩,sD.block b hlt⟩));obtain ⟨FS,hFS⟩:=am (gZ f im cW);rw[hg,<-hFS]at RT;rw[<-hFS]at CF;simp only[FQ.val]at CF;have Fc:=ae CF;have H8:=cC sD x8 Yv Yw;obtain ⟨HG0,HFS⟩:=a_ hg hFS;clear CF lr sD x8 Yv Yw hg hFS
   cases FS with
   | none=>
    have HE:=ae (show R=(k,70) from RT);clear RT;go_wp2_with (go_at_call 98;refine Fc.o.mono ?_;rintro e w9 ⟨⟨⟨CX,OI,OJ,OK,OL⟩,rfl,ht⟩,lp⟩;have x9:=bR lp H8.o.2.1;obtain ⟨s0,s1,s2,v0,v1,v2⟩:=gt x9;have H9:=aG lp x9;clear ht lp x9;simp only[TQ.val,Option.isSome]);obtain ⟨mS,xF,D5,Oh,_⟩:=tj H9.o.2 (.bool CX) (.string OI) (.slice OJ OK OL);rw[<-xF];have zcu:=ae (Jp (M:=N2 mF mT) (Kp.below ((H2.o.2.1.tr (GP.o.1.tr H8.o.1)).tr H9.o.1)) Oh (by have:=H2.o.2.1.size;have:=GP.o.1.size;omega));clear xF D5 Oh;go_ret;exact StepPost.bad HE.o (by decide) zcu.o
   | some t=>
    have Ht:goodT t:=zt H5.o.2.2.2.ok H5.o.2.2.2.nodes HFS.o.symm;have HE8:=ae (show R=if (nodesF f+n0 * (nodesT t - 1) != nodesF im)=true then ({ k with ts:=fj y t k.ts },70) else if ea [] (iI cW t f) im=true then ({ k with ts:=fj y t k.ts },0) else ({ k with ts:=fj y t k.ts },70) from RT);have HGt:=ae Ht;clear RT Ht;go_upto_region 17 with (go_at_call 98;refine Fc.o.mono ?_;rintro e w9 ⟨⟨⟨CX,OI,OJ,OK,OL⟩,rfl,ht⟩,lp⟩;have x9:=bR lp H8.o.2.1;obtain ⟨s0,s1,s2,v0,v1,v2⟩:=gt x9;have H9:=bG lp x9 (ht t rfl);clear ht lp x9;simp only[TQ.val,Option.isSome]);clear s0 s1 s2 v0 v1 v2 e0 e1 e2 e3 f0 f1 f2 f3;obtain ⟨mS,xF,D5,Oh,y0,y1,y2⟩:=tj H9.o.2.1 (.bool CX) (.string OI) (.slice OJ OK OL);rw[<-xF];have zcv:w7.heap.size<W8.heap.size:=(bz H8.o.2.1);have Wf:Below w7.heap.size w7 mS:=Below.kp1 (H8.o.1.tr H9.o.1) Oh (aI _);have TS:Below mS.heap.size mS mS.drew:=(ak _ _).drew;have Wg:TermV (fun b=>¬M b/\b≠W1.heap.size) mS (TQ.val ⟨CX,OI,OJ,OK,OL⟩) t:=H9.o.2.2.move (fun b hb hlt=>⟨hb.2.1,Oh.same b hlt (by have:=hb.2.2;omega)⟩);have C7:=TJ.o.later Wf;obtain ⟨Bv,cH,wJ,zM,Jt⟩:=(C7.later TS).storeT (fun h=>h.1 HG.o.2.1) (by have:=HB.o.2.1;omega) (x:=y) (by omega) (Wg.later TS) HGt.o (l':=fj y t k.ts) (fun z=>zk HG0.o z);have k0:mS.cell? ⟨kb,1,none⟩=some (.map (some mT)):=ai C7.box 1;obtain ⟨k1,y3,y4,y5⟩:=mG TS k0 y0 y1 y2;have C8:Below w7.heap.size w7 mS.drew:=Wf.tr TS;have dG:∀ b,¬M b->b≠mT:=fun b hb e=>hb (e ▸ HG.o.2.1);have wu:∀ b o,w7.heap[b]?=some o->b≠mT->Bv.heap[b]?=some o:=fun b o h i9=>(zM.same b (by have:=(bz h);have:=C8.size;omega) i9).trans ((C8.block b (bz h)).trans h);have zcw:=w_.o.2.2.1;have x5':=wu _ _ GP.o.2.1 (by omega);have x7':=wu _ _ GP.o.2.2.1 (by have:=HT7.o;have:=H4.o.2.size;have:=w_.o.2.2.2.1;omega);have xt':=(zM.same _ (by have:=(bz D5);have:=TS.size;omega) (by have:=GP.o.1.size;have:=w_.o.2.2.2.1;omega)).trans (bR TS D5);have E5:Kp (N2 mF mT) W Bv:=(Kp.below (H2.o.2.1.tr (GP.o.1.tr C8))).trans (zM.mono (fun b _ h=>.inr h));have mh:=ae (QS (an3 x5' x7' xt') E5 HGt.o wJ ((RR.o.later C8).move (fun b hb hlt=>⟨hb,zM.same b hlt (dG b hb.1)⟩)) ((GP.o.2.2.2.later C8).move (fun b hb hlt=>⟨hb,zM.same b hlt (dG b hb.1)⟩)) ((Wg.later TS).move (fun b hb hlt=>⟨hb,zM.same b hlt (dG b hb.1)⟩)));unfold TQ.val at cH;clear zcv Wf TS Wg C7 wJ zM Jt C8 dG wu zcw x5' x7' xt' E5 D5 Oh xF;go_region
    all_goals
     go_upto_region 18 with fail;clear k0 k1 y0 y1 y2 y3 y4 y5 cH;obtain ⟨nt,vB⟩:=am (nodesT t);obtain ⟨nf,tk⟩:=am (nodesF f);obtain ⟨ni,RU⟩:=am (nodesF im);obtain ⟨m1,jz⟩:=am (nt - 1);obtain ⟨m2,rd⟩:=am (n0 * m1);obtain ⟨m3,QL⟩:=am (nf+m2);have QK:1<=nt:=by rw[vB];exact jg t
     have ze:nt<=1000:=by rw[vB];exact mh.o.2.2.1.2
     have hp3:nf<=400:=by rw[tk];exact xE.o.1.nodes
     have hp4:ni<=400:=by rw[RU];exact H5.o.2.2.2.nodes
     have qE:m2<=400 * 1000:=by rw[rd];exact Nat.mul_le_mul oV.o.1 (by omega)
     have xh:IntKind.i64.wrap ((nt:Int) - 1)=(m1:Int):=by rw[fQ _ (by omega)];omega
     have MT:IntKind.i64.wrap ((n0:Int) * (m1:Int))=(m2:Int):=by rw[show (n0:Int) * (m1:Int)=(m2:Int) by rw[rd];simp];exact fQ _ (by omega)
     have VX:IntKind.i64.wrap ((nf:Int)+(m2:Int))=(m3:Int):=by rw[fQ _ (by omega)];omega
     have Wh:=fun (x:Later Bv)=>km f xE.o.1.fit _ x.w ⟨Ec,Ed,Ee,Ef,Eg,Eh,Ei,Ej⟩ (mh.o.2.2.2.2.1.later x.below);have Wi:=fun (x:Later Bv)=>km im H5.o.2.2.2.fit _ x.w ⟨p0,p1,p2,p3,p4,p5,p6,p7⟩ (mh.o.2.2.2.2.2.1.later x.below);have Wj:=fun (x:Later Bv)=>kw t mh.o.2.2.1.fit (by have:=mh.o.2.2.1.2;omega) _ x.w ⟨CX,OI,OJ,OK,OL⟩ (mh.o.2.2.2.2.2.2.later x.below);simp only[FQ.val,TQ.val,<-tk,<-RU,<-vB]at Wh Wi Wj;obtain ⟨HCf,HCi,Ys⟩:=cG Wh Wi Wj;have Wk:=HE8.o;rw[<-tk,<-RU,<-vB,<-jz,<-rd,<-QL]at Wk;have HE1:=ae Wk;obtain ⟨f0,f1,f2,f3,_,_,_,_⟩:=dp mh.o.1.1;obtain ⟨i0,i1,i2,i3,_,_,_,_⟩:=dp mh.o.1.2.1;obtain ⟨s0,s1,s2,_,_,_⟩:=gt mh.o.1.2.2;have q0:=fun x:Later Bv=>x.get f0;have q1:=fun x:Later Bv=>x.get f1;have q2:=fun x:Later Bv=>x.get f2;have q3:=fun x:Later Bv=>x.get f3;have q4:=fun x:Later Bv=>x.get i0;have q5:=fun x:Later Bv=>x.get i1;have q6:=fun x:Later Bv=>x.get i2;have q7:=fun x:Later Bv=>x.get i3;have q8:=fun x:Later Bv=>x.get s0;have q9:=fun x:Later Bv=>x.get s1;have q10:=fun x:Later Bv=>x.get s2;clear Wh Wi Wj Wk vB tk RU jz rd QL QK ze hp3 hp4 qE f0 f1 f2 f3 i0 i1 i2 i3 s0 s1 s2;refine aS (by kernel_rfl) (by kernel_rfl) ?_
     iterate 2 (go_big_quiet_step ((go_at_call 99;exact cA (HCf.o _))))
     iterate 7 (go_big_quiet_step ((go_at_call 100;exact cA (Ys.o _))))
     iterate 2 (go_big_quiet_step ((go_at_call 99;exact cA (HCi.o _))))
     refine wpQuiet_nil ?_;rintro _ ⟨x',rfl⟩;obtain ⟨W9,qX⟩:=am x'.w;have lp:Below Bv.heap.size Bv W9:=by rw[qX];exact x'.below
     rw[<-qX];clear qX q0 q1 q2 q3 q4 q5 q6 q7 q8 q9 q10 xh MT VX x';have zO:Kp (N2 mF mT) W W9:=mh.o.2.1.trans (Kp.below lp);have RV:=bR lp mh.o.1.1;have Wl:=bR lp mh.o.1.2.1;have Wm:=bR lp mh.o.1.2.2;have Ju:=HE1.o
     by_cases i9:m3=ni
     ·rw[aw (by simp[i9])]at Ju;subst i9;have pp32:=();exact pm32
     ·rw[aH (by simp[i9])]at Ju;exact pm149
  ·obtain ⟨⟨CX,OI,OJ,OK,OL⟩,rfl,oW,U6⟩:=hvt;simp only[TQ.val]at hlk;have l1:=(hlk w7 rfl).1;clear hlk;go_upto_region 18 with fail;clear k0 l1 nn;obtain ⟨W8,lr⟩:=am (w7.alloc (.cells #[.bool CX,.string OI,.slice OJ OK OL] 43));rw[<-lr];have sD:=cZ lr;have x8:=cb lr;have Yv:=bR sD GP.o.2.1;have Yw:=bR sD GP.o.2.2.1;rw[hg]at RT;have HE8:=ae (show R=if (nodesF f+n0 * (nodesT t - 1) != nodesF im)=true then ({ k with ts:=k.ts },70) else if ea [] (iI cW t f) im=true then ({ k with ts:=k.ts },0) else ({ k with ts:=k.ts },70) from RT);have mh:=ae (QS (an3 Yv Yw x8) (Kp.below (M:=N2 mF mT) (H2.o.2.1.tr (GP.o.1.tr sD))) U6 (TJ.o.later sD) (RR.o.later sD) (GP.o.2.2.2.later sD) (oW.later sD));clear lr sD x8 Yv Yw RT U6 oW e0 e1 e2 e3 z0 z1 z2 z3 f0 f1 f2 f3 hg;obtain ⟨nt,vB⟩:=am (nodesT t);obtain ⟨nf,tk⟩:=am (nodesF f);obtain ⟨ni,RU⟩:=am (nodesF im);obtain ⟨m1,jz⟩:=am (nt - 1);obtain ⟨m2,rd⟩:=am (n0 * m1);obtain ⟨m3,QL⟩:=am (nf+m2);have QK:1<=nt:=by rw[vB];exact jg t
   have ze:nt<=1000:=by rw[vB];exact mh.o.2.2.1.2
   have hp3:nf<=400:=by rw[tk];exact xE.o.1.nodes
   have hp4:ni<=400:=by rw[RU];exact H5.o.2.2.2.nodes
   have qE:m2<=400 * 1000:=by rw[rd];exact Nat.mul_le_mul oV.o.1 (by omega)
   have xh:IntKind.i64.wrap ((nt:Int) - 1)=(m1:Int):=by rw[fQ _ (by omega)];omega
   have MT:IntKind.i64.wrap ((n0:Int) * (m1:Int))=(m2:Int):=by rw[show (n0:Int) * (m1:Int)=(m2:Int) by rw[rd];simp];exact fQ _ (by omega)
   have VX:IntKind.i64.wrap ((nf:Int)+(m2:Int))=(m3:Int):=by rw[fQ _ (by omega)];omega
   have Wh:=fun (x:Later W8)=>km f xE.o.1.fit _ x.w ⟨Ec,Ed,Ee,Ef,Eg,Eh,Ei,Ej⟩ (mh.o.2.2.2.2.1.later x.below);have Wi:=fun (x:Later W8)=>km im H5.o.2.2.2.fit _ x.w ⟨p0,p1,p2,p3,p4,p5,p6,p7⟩ (mh.o.2.2.2.2.2.1.later x.below);have Wj:=fun (x:Later W8)=>kw t mh.o.2.2.1.fit (by have:=mh.o.2.2.1.2;omega) _ x.w ⟨CX,OI,OJ,OK,OL⟩ (mh.o.2.2.2.2.2.2.later x.below);simp only[FQ.val,TQ.val,<-tk,<-RU,<-vB]at Wh Wi Wj;obtain ⟨HCf,HCi,Ys⟩:=cG Wh Wi Wj;have Wk:=HE8.o;rw[<-tk,<-RU,<-vB,<-jz,<-rd,<-QL]at Wk;have HE1:=ae Wk;obtain ⟨f0,f1,f2,f3,_,_,_,_⟩:=dp mh.o.1.1;obtain ⟨i0,i1,i2,i3,_,_,_,_⟩:=dp mh.o.1.2.1;obtain ⟨s0,s1,s2,_,_,_⟩:=gt mh.o.1.2.2;have q0:=fun x:Later W8=>x.get f0;have q1:=fun x:Later W8=>x.get f1;have q2:=fun x:Later W8=>x.get f2;have q3:=fun x:Later W8=>x.get f3;have q4:=fun x:Later W8=>x.get i0;have q5:=fun x:Later W8=>x.get i1;have q6:=fun x:Later W8=>x.get i2;have q7:=fun x:Later W8=>x.get i3;have q8:=fun x:Later W8=>x.get s0;have q9:=fun x:Later W8=>x.get s1;have q10:=fun x:Later W8=>x.get s2;clear Wh Wi Wj Wk vB tk RU jz rd QL QK ze hp3 hp4 qE f0 f1 f2 f3 i0 i1 i2 i3 s0 s1 s2;refine aS (by kernel_rfl) (by kernel_rfl) ?_
   iterate 2 (go_big_quiet_step ((go_at_call 99;exact cA (HCf.o _))))
   iterate 7 (go_big_quiet_step ((go_at_call 100;exact cA (Ys.o _))))
   iterate 2 (go_big_quiet_step ((go_at_call 99;exact cA (HCi.o _))))
   refine wpQuiet_nil ?_;rintro _ ⟨x',rfl⟩;obtain ⟨W9,qX⟩:=am x'.w;have lp:Below W8.heap.size W8 W9:=by rw[qX];exact x'.below
   rw[<-qX];clear qX q0 q1 q2 q3 q4 q5 q6 q7 q8 q9 q10 xh MT VX x';have zO:Kp (N2 mF mT) W W9:=mh.o.2.1.trans (Kp.below lp);have RV:=bR lp mh.o.1.1;have Wl:=bR lp mh.o.1.2.1;have Wm:=bR lp mh.o.1.2.2;have Ju:=HE1.o
   by_cases i9:m3=ni
   ·rw[aw (by simp[i9])]at Ju;subst i9;exact pm32
   ·rw[aH (by simp[i9])]at Ju;exact pm149
 |rw[iR.o]at P0 P1 P2 P3 P4 P5 P6 P7 P8;go_wp2;rw[<-iR.o];go_ret;exact StepPost.good nF nT HE.o (Kp.below OA.o.1) (by omega) (by omega) OA.o.2):G:=h
theorem pm142(h:G:=by
 go_enter Tryz.func273,Tryz.ntmps273;go_wp2_with (go_at_call 287;refine (HC0.o _).mono ?_;rintro e w2 ⟨rfl,rfl⟩)
 first
 |clear pp142;go_loopw [20] (fun i wr=>∃k:Nat,k<=k0/\i=.int .i64 k/\Below w2.heap.size w2 wr/\R=zj (l.drop k) (m.drop k)) (fun i _=>k0 - (intOf i).toNat)
  case atStart=>exact ⟨0,bc _,rfl,ak _ _,by simpa using HR.o⟩
  case round=>
   have pp283c:=();exact pm283
 |go_ret;exact ⟨rfl,ak _ _⟩):G:=h
theorem pm143(h:G:=by
 go_enter Tryz.func115,Tryz.ntmps115;go_wp2;go_ret;exact ⟨rfl,rfl⟩):G:=h
theorem pm144(h:G:=by
 go_upto_region 8 with (go_at_call 97;refine Yr.o.mono ?_;rintro e w5 ⟨rfl,bj⟩;have H5:=ae bj;clear bj);clear j0 j1 j2 j3;have y5:=bR H5.o H3.o.2.1;have x15:=bR (H3.o.1.tr H5.o) HB.o.2.2.2.1
 first
 |clear pp144;subst h0;clear nM;obtain ⟨j0,j1,j2,j3,_,_,_,_⟩:=dp y5;have HC6:=ae (lN.o w5 H5.o);have HX5:=ae x15;have HR5:=ae (show RS=f by rw[HB.o.2.2.2.2,aH rfl]);clear y5 x15;go_wp2_with (go_at_call 51;refine HC6.o.mono ?_;rintro e w6 ⟨⟨p0,p1,p2,p3,p4,p5,p6,p7⟩,rfl,hp,cR⟩;have QO:=bR cR HX5.o;have Jz:=ae QO;obtain ⟨i0,i1,i2,i3,q0,q1,q2,q3⟩:=dp QO;have H6:=aG cR hp;clear cR hp QO);have x6:=kP (v0:=.int .u8 p0) (v1:=.string p1) (v2:=.slice p2 p3 p4) (v3:=.slice p5 p6 p7) Jz.o;have k6:=dA (W:=w6) (b:=w.heap.size+1) (v0:=.int .u8 p0) (v1:=.string p1) (v2:=.slice p2 p3 p4) (v3:=.slice p5 p6 p7);obtain ⟨W6,da⟩:=am ((((w6.setCell ⟨w.heap.size+1,0,none⟩ (.int .u8 p0)).setCell ⟨w.heap.size+1,1,none⟩ (.string p1)).setCell ⟨w.heap.size+1,2,none⟩ (.slice p2 p3 p4)).setCell ⟨w.heap.size+1,3,none⟩ (.slice p5 p6 p7));have pp102:=();exact pm102
 |have pp130:=();exact pm130):G:=h
theorem pm145(h:G:=by
 obtain ⟨b,off,u,rfl,iK,hu,c0,c1,c2,c3⟩:=fT.o.get bp;exact pm222):G:=h
theorem pm146(h:G:=by
 have Wr:((m0:Int) != (r4:Int))=false:=by simp;omega
 have Ws:(m0 == r4)=true:=by simpa using RY
 have VK:=ae RY;clear RY;rw[dG,show decide (k0<=r3)=true by simpa using dy,Ws]at hM;simp only[dU]at hM
 by_cases fG:on=16
 first
 |clear pp146
  ·subst fG
   cases aU:sT a with
   | false=>
    exact pm31
   | true=>
    have pp118a:=();exact pm118
  ·have zcx:((on:Int) == 16)=false:=by simp;omega
   rw[show ((on:Int) != 16)=true by simp;omega,Bool.true_or,dU]at hM;exact pm91
 |·subst fG
   cases aU:sT a with
   | false=>
    exact pm31
   | true=>
    have pp118b:=();exact pm118
  ·have zcx:((on:Int) == 16)=false:=by simp;omega
   rw[show ((on:Int) != 16)=true by simp;omega,Bool.true_or,dU]at hM;exact pm90):G:=h
theorem pm147(h:G:=by
 go_enter Tryz.func95,Tryz.ntmps95
 first
 |clear pp147a;go_wp2_with (first | (rw[<-xq.o];go_at_call 119;refine sr.o.mono ?_;rintro e w4 ⟨rfl,aP⟩;have p0:=aa aP P0;have p1:=aa aP P1;have p2:=aa aP P2;have p3:=aa aP P3;have p4:=aa aP P4;have p5:=aa aP P5;have p6:=aa aP P6;have p7:=aa aP P7;have p8:=aa aP P8;have q1:=aa aP e1;have q0:=aa aP e0;have H4:=ae aP;clear aP) | (go_at_call 163;refine (Rw.o w4 H4.o).mono ?_;rintro e w5 ⟨rfl,bj⟩;have H5:=ae (H4.o.tr bj);have t0:=aa (H4.o.tr bj) e0;have u0:=aa (H4.o.tr bj) f0;have t1:=aa (H4.o.tr bj) e1;have u1:=aa (H4.o.tr bj) f1;have t2:=aa (H4.o.tr bj) e2;have u2:=aa (H4.o.tr bj) f2;clear bj))
  first
  |clear pp6a;clear p0 p1 p2 p3 p4 p5 p6 p7 p8 q0 q1;obtain ⟨S,hS⟩:∃S:World->Prop,S=fun V=>Below w5.heap.size w5 V:=⟨_,rfl⟩;have s1:∀ V,S V->V.cell? ⟨W.heap.size+1,1,none⟩=some (.string ⟨n.toArray⟩):=fun V h=>by rw[hS]at h;exact aa h t1
   have v0:∀ V,S V->V.cell? ⟨W.heap.size+1+1,0,none⟩=some (.bool uv)/\V.cell? ⟨W.heap.size+1+1,1,none⟩=some (.string ⟨n'.toArray⟩)/\V.cell? ⟨W.heap.size+1+1,2,none⟩=some (.slice ua n2 uc):=fun V h=>by rw[hS]at h;exact ⟨aa h u0,aa h u1,aa h u2⟩
   have dO:S w5.drew:=by rw[hS];exact (ak _ _).drew
   have dh:=ae hS;clear hS t0 t1 t2 u0 u1 u2;have g_:=eM;refine (wpIn_wide (n:=3)).1 ?_;refine lg S 5 dO fun jp bN=>?_;refine c9 0 56 (.agg #[.bool uv,.string ⟨n'.toArray⟩,.slice ua n2 uc]) rfl (fun V hX=>by obtain ⟨h0,h1,h2⟩:=v0 V hX;go_simp) bN fun cq=>?_;simp only[ag];refine bC 1 57 (.pointer (some ⟨W.heap.size+1,1,none⟩)) rfl cq fun fI=>?_;simp only[ag];refine c9 2 58 (.string ⟨n.toArray⟩) rfl (fun V hX=>by have h0:=s1 V hX;go_simp) fI fun gF=>?_;simp only[ag];refine bZ 3 rfl fun K hK=>?_;go_simp;refine aK.2 ((eU n w5.drew (by have:=Ih.o;omega)).mono ?_);rintro e w6 ⟨rfl,rfl⟩;refine hK _ _ (fun _=>dO) (fun _=>?_);clear hK K;refine bZ 4 rfl fun K hK=>?_;go_simp;refine aK.2 ((gj (dc n) w5.drew).mono ?_);rintro e w7 ⟨rfl,fw⟩;refine hK _ _ (fun _=>by rw[dh.o];exact (ak _ _).drew.tr fw) (fun _=>?_);clear hK K;have h37:Below W3.heap.size W3 w7:=(H5.o.drew).tr fw;have CS:=tH (.mk uv n' a') (ap (dc n)) (fun b=>¬M b) (fun b=>¬M b) w7 ⟨uv,⟨n'.toArray⟩,ua,n2,uc⟩ ⟨true,⟨(dc n).toArray⟩,none,0,0⟩ (HG.o.2.1 _ HF.o.2) (Ou Ih.o) (HT.o.2.1.later h37) (aV.2 ⟨_,rfl,cf⟩);simp only[TQ.val]at CS;rw[<-Kw.o]at CS;refine bZ 5 rfl fun K hK=>?_;go_simp;refine aK.2 (CS.mono ?_);rintro e w8 ⟨rfl,gJ⟩;refine eN hK ?_;clear hK K;have H8:=ae (h37.tr gJ);clear CS fw h37 gJ;refine bZ 6 rfl fun K hK=>?_;go_simp;refine eN hK ?_;clear hK K;refine kz ?_;clear dO s1 v0 bN jp;go_wp2;go_ret;refine ⟨Kp.below (H3.o.1.tr H8.o),bb,rfl,(fun h=>?_),(fun ts fX=>?_)⟩
   ·rw[HE.o]at h;cases bb;rfl;cases h
   ·rw[HE.o]at fX;cases bb;cases fX;cases fX;exact ⟨rfl,nT,by omega,H3.o.2.2.2.2.2.later H8.o⟩
  |clear pp6b;go_ret;exact ⟨Kp.below (H3.o.1.tr H5.o),false,rfl,(fun _=>rfl),(fun ts fX=>by rw[HE.o]at fX;cases fX)⟩
  |go_loopw [87] (fun i wr=>∃(j Bp:Nat) (kj:List (Str×Tm)),j<=n1/\i=.int .i64 j/\Kp (fun b=>b=mT) W3 wr/\Bp<=nT+nodesTs (a.take j)/\KnV (fun b=>¬M b) PF PT wr kb mF mT nF Bp ⟨k.fs,kj⟩/\R=b_ (ps.reverse.map (·.1)) kj (a.drop j) (a'.drop j)) (fun i _=>n1 - (intOf i).toNat)
   case atStart=>exact ⟨0,nT,k.ts,bc _,rfl,Kp.below H5.o,by omega,H3.o.2.2.2.2.2.later H5.o,by simpa using HE.o⟩
   case round=>
    exact pm7
 |clear pp147b;go_wp2_with (first | (rw[<-xq.o];go_at_call 119;refine sr.o.mono ?_;rintro e w4 ⟨rfl,aP⟩;have H4:=ae aP;clear aP));have oo:=H3.o.2.2.2.2.2.later H4.o;have g0:w4.cell? ⟨kb,1,none⟩=some (.map (some mT)):=ai oo.box 1;have g1:w4.drew.cell? ⟨kb,1,none⟩=some (.map (some mT)):=ai oo.box 1;have g2:=aa H4.o e1;have g3:=aa H4.o.drew e1;have Zx:=ae oo;have bj:Below w4.heap.size w4 (w4.alloc (.cells #[.bool false,.string ⟨#[]⟩,.slice none 0 0] 43)):=cJ;obtain ⟨g4,g5⟩:=AN bj g0 g2;rcases oo.ts.look Tryz.underlying9 Tryz.underlying146 jr (x:=n) (by omega) with ⟨hg,hl⟩ | ⟨u,vu,hg,hvu,hl⟩
  ·have l1:=(hl w4.drew rfl).1;have pp230:=();exact pm230
  ·obtain ⟨⟨xv,xn,xa,xl,xc⟩,rfl,hxv,hpu⟩:=hvu;simp only[TQ.val]at hl;have l1:=(hl w4.drew rfl).1;exact pm230
 |clear pp147c;go_wp2;rw[<-xq.o];go_loopw [87] (fun i wr=>∃(j Bp:Nat) (kj:List (Str×Tm)),j<=n1/\i=.int .i64 j/\Kp (fun b=>b=mT) W3 wr/\Bp<=nT+nodesTs (a.take j)/\KnV (fun b=>¬M b) PF PT wr kb mF mT nF Bp ⟨k.fs,kj⟩/\R=b_ (ps.reverse.map (·.1)) kj (a.drop j) (a'.drop j)) (fun i _=>n1 - (intOf i).toNat)
  case atStart=>exact ⟨0,nT,k.ts,bc _,rfl,Kp.below (ak _ _),by omega,H3.o.2.2.2.2.2.later (ak _ _),by simpa using HE.o⟩
  case round=>
   exact pm7
 |go_wp2;rw[<-xq.o];go_ret;exact ⟨Kp.below (H3.o.1.tr (ak _ _)),false,rfl,(fun _=>rfl),(fun ts fX=>by rw[HE.o]at fX;cases fX)⟩):G:=h
theorem pm148(h:G:=by
 go_simp;exact pm164):G:=h
theorem pm149(h:G:=by
 have OP:=ae Ju;have Q2:¬((m3:Int)=(ni:Int)):=by omega
 have UU:((m3:Int) == (ni:Int))=false:=by simp;omega
 have HK9:=ae zO;clear lp zO RV Wl Wm Ju;go_wp2;go_ret;exact StepPost.bad OP.o (by decide) HK9.o):G:=h
theorem pm150(h:G:=by
 have pp287c:=();exact pm287):G:=h
theorem pm151(h:G:=by
 go_wp2_with (go_at_call 91;refine HC.o.mono ?_;rintro e w4 ⟨⟨⟨p0,p1,p2,p3,p4,p5,p6,p7⟩,rfl,hp⟩,aP⟩;have H4:=ae aP;clear hp aP;simp only[Option.isSome]);go_ret
 first
 |clear pp151;exact StepPost.bad HE.o (by decide) (Kp.below ((H3.o.1.tr H4.o).alloc (H3.o.1.tr H4.o).size _))
 |exact StepPost.bad HE.o (by decide) (Kp.below ((H2.o.2.1.tr H4.o).alloc (H2.o.2.1.tr H4.o).size _))):G:=h
theorem pm152(h:G:=by
 go_wp2;go_loopw [8] (fun i wr=>∃k:Nat,k<=k0/\i=.int .i64 k/\Below w.heap.size w wr/\∀ t∈l.take k,pr t=false) (fun i _=>k0 - (intOf i).toNat)
 case atStart=>exact ⟨0,bc _,rfl,ak _ _,by simp⟩
 first
 |clear pp152
  case round=>
   obtain ⟨k,hk,rfl,ar,f_⟩:=hrel
   by_cases hlt:k<k0
   ·have bp:=cF HK.o hlt;obtain ⟨b,off,⟨xv,xn,xa,xl,xc⟩,rfl,hok,hx,c0,c1,c2⟩:=HV.o.get bp;simp only at c0 c1 c2;obtain ⟨d0,d1,d2⟩:=ke ar c0 c1 c2;have CB:=HP.o l[k] (aA bp) _ wr ⟨xv,xn,xa,xl,xc⟩ (RC.o.tr ar) (hx.later ar);simp only[TQ.val]at CB;have BP:(k:Int)<(k0:Int):=by omega
    cases hq:pr l[k] with
    | true=>
     rw[hq]at CB;have HC:=ae CB;have HE:=ae (show l.any pr=true from List.any_eq_true.2 ⟨_,aA bp,hq⟩);have pp169:=();exact pm169
    | false=>
     rw[hq]at CB;have HC:=ae CB;have yX:=ae (show ∀ t∈l.take (k+1),pr t=false by
      intro t hm;rw[List.take_add_one,gx bp]at hm;rcases List.mem_append.1 hm with h | h
      ·exact f_ t h
      ·obtain rfl:t=l[k]:=by simpa using h
       exact hq)
     exact pm169
   ·obtain rfl:k=k0:=by omega
    have HE:=ae (show l.any pr=false by
     rw[HK.o,cV]at f_;rw[List.any_eq_false];intro t ht;rw[f_ t ht];simp)
    have HB:=ae ar;clear ar f_;go_wp2;go_ret;exact ⟨⟨_,rfl,by rw[HE.o];simp⟩,HB.o⟩
 |case round=>
   obtain ⟨k,hk,rfl,ar,f_⟩:=hrel
   by_cases hlt:k<k0
   ·have bp:=cF HK.o hlt;obtain ⟨b,off,rfl,hok,c0⟩:=HV.o.get bp;have d0:=aa ar c0;have CB:=HP.o l[k] wr (aA bp) ar;have BP:(k:Int)<(k0:Int):=by omega
    cases hq:pr l[k] with
    | true=>
     rw[hq]at CB;have HC:=ae CB;have HE:=bG hq f_ (gx bp);have pp236:=();exact pm236
    | false=>
     rw[hq]at CB;have HC:=ae CB;have yX:=ae (VZ bp f_ hq);exact pm236
   ·obtain rfl:k=k0:=by omega
    have HE:=ae (show ∀ x∈l,pr x=false by
     rw[HK.o,cV]at f_;exact f_)
    have HB:=ae ar;clear ar f_;go_wp2;go_ret;exact ⟨.inl ⟨rfl,HE.o⟩,HB.o⟩):G:=h
theorem pm153(h:G:=by
 have ht:a.take m0=a:=by rw[gV.o];exact cV
 rw[ht]at hj;have HH:=aG hj bh;clear hj bh ht
 first
 |clear pp153;gi_wp2;go_ret;exact ⟨rfl,HH.o.1,HH.o.2⟩
 |go_wp2;go_ret;exact ⟨rfl,HH.o.1,HH.o.2⟩):G:=h
theorem pm154(h:G:=by
 obtain ⟨o6,hi,xH,uU,yi⟩:=info_parts gE;obtain ⟨Kg,hj,lx,AP,S4⟩:=info_parts jm
 first
 |clear pp154a;intro t
  induction t using Fm.ind with
  | h o n a s ih=>
   intro az ok w q hq;have hp:bB (.mk o n a s)=.mk o n (a.map aM) (s.map bB):=by simp[bB,kD,wb]
   rw[hp];clear hp;have pp21a:=();exact pm21
 |clear pp154b;have IK:=aG mq gU;clear mq gU;intro f
  induction f using Fm.ind with
  | h o n a s ih=>
  intro az L ins hL NU vL ok w fq Q9 cH hq;obtain ⟨qo,qn,qa,ql,qc,qb,qm,qe⟩:=fq;obtain ⟨s1,s2,hs,bK,ej⟩:=aW.1 hq;unfold FQ.val at hs;simp only[cE,Array.mk.injEq,cB,and_true,Value.int.injEq,true_and,Value.string.injEq]at hs;obtain ⟨rfl,rfl,rfl,rfl⟩:=hs;obtain rfl:=bK.len;obtain rfl:=ej.len;have cm:=az.args.len;have em:=az.subs.len;have lK:=az.name;have tk:nodesF (.mk qo n a s)=nodesTs a+nodesFs s+1:=by unfold nodesF;rfl
  have hLs:∀ t∈s,L.length+1+nodesF t<=2000000:=fun t ht=>by have:=lA s t ht;omega
  obtain ⟨d9,fT,Fx,yk,fS,IL,nO⟩:=UD bK ej az.args az.subs ih Q9 cH;have IN:=bG NU hLs (show L.length<=2000000 by omega);obtain ⟨k0,cg⟩:=am a.length;obtain ⟨m0,eh⟩:=am s.length;obtain ⟨RS,DW⟩:=am (ii ps.reverse ins (.mk qo n a s));rw[<-cg]at cm;rw[<-eh]at em;obtain ⟨dB,gV⟩:=a_ cg eh;obtain ⟨qV,hi'⟩:∃qV:List Str,qV=(if bU qo then n :: ins else ins):=⟨_,rfl⟩;have xr:Hd ((gP ps.reverse ins a=none->RS=none)/\(iU ps.reverse qV s=none->RS=none)/\∀ a' s',gP ps.reverse ins a=some a'->iU ps.reverse qV s=some s'->RS=some (.mk qo n a' s')):=ae (by
   rw[DW,hi'];unfold ii;refine ⟨fun h=>by rw[h],fun h=>by rw[h];cases gP ps.reverse ins a <;> rfl,fun a' s' h1 h2=>by rw[h1,h2]⟩)
  have HI':=ae hi';obtain ⟨W3,ec⟩:=am (((w.alloc (.cells q.cells 89)).alloc (.cells #[.int .u8 qo,.string ⟨n.toArray⟩,.slice qa k0 qc,.slice qb m0 qe] 36)).alloc (.cells #[.int .u8 0,.string ⟨#[]⟩,.slice none 0 0,.slice none 0 0] 36));have aL:=wX ec;have xp:=xZ ec;have xt:=rj ec;have x1:=pg ec;have uz:=Hu ec;rw[<-DW];have bQ:=aG aL uz;have xq:=ae ec;have pp72a:=();exact pm72
 |clear pp154c;intro W0 f nx z az xJ Tp ZD pi rU hfz hnz ok LN w q zq hT hq hz;obtain ⟨o,n,a,s⟩:=f;have DZ:∀ t∈s,nodesF t<=100000/\mr t=true/\qone t=true/\depthF t<=kk:=fun t ht=>by
   simp only[mr,ah]at Tp;have zef:=ZD;simp only[qone,ah]at ZD;have h1:=lA s t ht;have h2:=ki s t ht;simp only[nodesF]at xJ;simp only[depthF]at pi;exact ⟨by omega,(jK s).1 Tp.2 t ht,(ir s).1 ZD.2 t ht,by omega⟩
  have sO:bU o=true->a=[]/\∃g,s=[g]:=fun h=>nZ h ZD;obtain ⟨HQs,ZE,fS,Ky⟩:=eW sO DZ IH rU;have N_:=aG hfz hnz;obtain ⟨HZ,Oa⟩:=a_ hz hT;have Yc:=aG az hq;obtain ⟨zv,zn,za,zl,zc⟩:=zq;simp only[TQ.val]at HZ ⊢;have ih:=trivial;have pp21d:=();exact pm21
 |intro c L ok w vL q cI hL RH OM hq;obtain ⟨so,sn,sa,sl,sc,sb,sm,se⟩:=q;obtain ⟨v1,v2,h1,h_,lV⟩:=aW.1 hq;exact pm33):G:=h
theorem pm155(h:G:=by
 have HZ:=ae (QS wa (sP.o.2.1.trans bh) Ff fL dS xS tV);have Pf:=aG qY pE;have HN8:=ae hl;clear wa bh Ff fL dS xS tV qY pE gw nq hu WC;gi_wp2;refine RoundEnd.mk ?hT ?hr ?hm
 case hT=>kernel_rfl
 first
 |clear pp155
  case hr=>exact ⟨0+1,by omega,by kernel_rfl,HZ.o.1,HZ.o.2.1,HZ.o.2.2.1,HZ.o.2.2.2.1,kj,Mk,Ml,HZ.o.2.2.2.2.1,by have:=Pf.o.1;have:=O8.o.2.1;have:=HN8.o;omega,by have:=Pf.o.2;have:=O8.o.2.2;have:=HN8.o;omega,HZ.o.2.2.2.2.2.1,fun h=>absurd h (by decide),fun _=>by have:=AZ.o.1 (by simp);rw[this]at HZ;exact HZ.o.2.2.2.2.2.2,fun h=>absurd h (by decide)⟩
  case hm=>
   refine (show 2 - (intOf (Value.int IntKind.i64 (1:Int))).toNat<2 - (intOf (Value.int IntKind.i64 (0:Int))).toNat from ?_);simp[intOf]
 |case hr=>exact ⟨1+1,by omega,by kernel_rfl,HZ.o.1,HZ.o.2.1,HZ.o.2.2.1,HZ.o.2.2.2.1,kj,Mk,Ml,HZ.o.2.2.2.2.1,by have:=Pf.o.1;have:=O8.o.2.1;have:=HN8.o;omega,by have:=Pf.o.2;have:=O8.o.2.2;have:=HN8.o;omega,HZ.o.2.2.2.2.2.1,fun h=>absurd h (by decide),fun h=>absurd h (by decide),fun _=>⟨k,AZ.o.2.1 (by simp),HZ.o.2.2.2.2.2.2⟩⟩
  case hm=>
   refine (show 2 - (intOf (Value.int IntKind.i64 (2:Int))).toNat<2 - (intOf (Value.int IntKind.i64 (1:Int))).toNat from ?_);simp[intOf]):G:=h
theorem pm156(h:G:=by
 have MV:(la=none/\l0=0/\lc=0)\/∃b off,la=some ⟨b,off,none⟩:=by
  rcases rq with ⟨h1,h2,h3⟩ | ⟨b,off,h1,_⟩
  ·exact .inl ⟨h2,by rw[sq,h1];rfl,h3⟩
  ·exact .inr ⟨b,off,h1⟩
 first
 |clear pp156;subst LD;have hold:((.slice la l0 l0:Value)=.slice none 0 0/\l0=0/\L.map encStr=[])\/∃b,(.slice la l0 l0:Value)=.slice (some b) l0 l0/\(L.map encStr).length=l0 * 1/\∀ j u,(L.map encStr)[j]?=some u->(wq.alloc (.cells #[.string ⟨n.toArray⟩] 9)).drew.cell? (b.add j)=some u:=by
   rcases rq with ⟨h1,h2,h3⟩ | ⟨b,off,h1,h4⟩
   ·refine .inl ⟨?_,by rw[sq,h1];rfl,by rw[h1];rfl⟩;rw[h2,sq,h1];rfl
   ·refine .inr ⟨⟨b,off,none⟩,by rw[h1],by rw[List.length_map,sq];omega,fun j u hu=>?_⟩;rw[List.getElem?_map]at hu
    by_cases hj:j<L.length
    ·rw[gx hj]at hu;rw[vi];refine (aa (((ak wq.heap.size wq).alloc (aI _) _).drew) (h4 j hj)).trans ?_;rw[<-hu];rfl
    ·rw[List.getElem?_eq_none (by omega)]at hu;cases hu
  obtain ⟨N3,Zs,HL0⟩:=cG hold MV sq;obtain ⟨S,hS⟩:∃S:World->Prop,S=fun V=>Below wq.heap.size wq V:=⟨_,rfl⟩;have f0:∀ V,S V->V.cell? ⟨w.heap.size+1,1,none⟩=some (.string ⟨n.toArray⟩):=fun V h=>by rw[hS]at h;exact aa h (ai Vc.o 1)
  have dO:S wq.drew:=by rw[hS];exact (ak _ _).drew
  obtain ⟨dh,zbX⟩:=a_ hS uB;clear hS hold MV sq rq uB o_;go_wp2;refine (wpIn_wide (n:=3)).1 ?_;refine lg S 9 dO fun jp bN=>?_;refine bC 0 48 (.slice la l0 lc) rfl bN fun cq=>?_;simp only[ag];refine bC 1 49 (.slice la l0 lc) rfl cq fun fI=>?_;simp only[ag];refine bC 2 50 (.int .i64 (l0:Int)) rfl fI fun gF=>?_;simp only[ag];refine bC 3 51 (.slice la l0 lc) rfl gF fun iG=>?_;simp only[ag];refine bC 4 52 (.int .i64 (l0:Int)) rfl iG fun jx=>?_;simp only[ag];refine c9 5 53 (.slice la l0 l0) rfl (fun V hX=>by rcases Zs.o with ⟨rfl,rfl,rfl⟩ | ⟨b,off,rfl⟩ <;> go_simp) jx fun jM=>?_;simp only[ag];refine bC 6 54 (.pointer (some ⟨w.heap.size+1,1,none⟩)) rfl jM fun mi=>?_;simp only[ag];refine c9 7 55 (.string ⟨n.toArray⟩) rfl (fun V hX=>by have g0:=f0 V hX;go_simp) mi fun rA=>?_;simp only[ag];refine bZ 8 rfl fun K hK=>?_;go_simp;have oU:Below wq.heap.size wq (wq.alloc (.cells #[.string ⟨n.toArray⟩] 9)).drew:=((ak _ wq).alloc (aI _) _).drew;refine hK _ _ (fun _=>by rw[dh.o];exact oU) (fun _=>?_);clear hK K;refine bZ 9 rfl fun K hK=>?_;refine iv (.tmp 53) (.tmp 56) 66 rfl 9 i0s (.string ByteArray.empty) 1 16 Tryz.underlying66 Ra zbT zbU zbV rfl (by decide) (.slice la l0 l0) l0 (L.map encStr) rfl N3.o ⟨wq.heap.size,0,none⟩ 1 1 [.string ⟨n.toArray⟩] rfl rfl (c_ (cs:=#[.string ⟨n.toArray⟩]) (t:=9) (fr:=(0,0)) (fP wq _)) (by simp[Value.oneCell']) (by decide) (by unfold maxLen;omega) (by omega) ?_;intro g cap X5 au ao;have y':Below wq.heap.size wq X5:=⟨ao.os.trans oU.os,ao.tape.trans oU.tape,ao.output.trans oU.output,aN oU.size ao.size,fun b hb=>(ao.block b (bE hb oU.size) (by simp)).trans (oU.block b hb)⟩;have hmp:L.map encStr ++ [.string ⟨n.toArray⟩]=(L ++ [n]).map encStr:=by rw[List.map_append];rfl
  rw[hmp]at au;have qE:=StrsN.own au;have uD:(wq.alloc (.cells #[.string ⟨n.toArray⟩] 9)).drew.heap.size<=g/\g<X5.heap.size:=au.lt g rfl;have hzz:(wq.alloc (.cells #[.string ⟨n.toArray⟩] 9)).drew.heap.size=wq.heap.size+1:=by show (wq.alloc _).heap.size=_;simp
  have Yb:wq.heap.size<g/\g<X5.heap.size:=⟨by have:=uD.1;rw[hzz]at this;omega,uD.2⟩;have IQ:=ae (And.intro qE (show ∀ b,(Value.slice (some ⟨g,0,none⟩) (l0+1) cap).ownBlock=some b->b≠w.heap.size+1+1+1/\b<X5.heap.size from fun b hb=>by
   obtain rfl:g=b:=by simpa[Value.ownBlock] using hb
   have:=NX.o.1;have:=d_.o.2;exact ⟨by omega,Yb.2⟩))
  have NY:=aG (F3.o.tr y') (aN NX.o.1 y'.size);have NZ:=ae (bR y' Zp.o);have Vd:=ae (bR y' Vc.o);have N0:=ae (bR y' Zq.o);have Ve:=ae (bR y' Zr.o);have IP:=ae (Ti.o.below y');have Zt:Hd (∀ y,(L ++ [n]).contains y=(n :: ins).contains y):=ae (fun y=>by
   have:=IN.o.1 y;rw[gy]at this ⊢;simp only[List.contains_iff_mem,List.mem_append,cY,List.not_mem_nil,or_false]at this ⊢;rw[this];exact or_comm)
  clear au ao oU y' hmp qE uD Yb hzz;refine eN hK ?_;clear hK K;refine bZ 10 rfl fun K hK=>?_;go_simp;refine eN hK ?_;clear hK K;refine kz ?_;have uB:=zbX.o;have IR:=xr.o.2;rw[uB]at IR;have N1:=aG xr.o.1 IR;clear xr IR;have Vf:=ae (Fills.start (R:=w.heap.size+1+1+1) (mk:=fun rr=>#[.int .u8 qo,.string ⟨n.toArray⟩,.slice fJ k1 fK,rr]) (Row:=fun r W=>RowF X5.heap.size r ([]:List Fm) W) Ve.o (RowF.nil _ _));have p3:X5.cell? ⟨w.heap.size+1,3,none⟩=some (.slice qb m0 qe):=ai Vd.o 3;clear uB;go_wp2;clear p3;go_loopw [61] (fun i wr=>∃k:Nat,k<=m0/\i=.int .i64 k/\∃row us,Fills 36 (w.heap.size+1+1+1) X5.heap.size (fun rr=>#[.int .u8 qo,.string ⟨n.toArray⟩,.slice fJ k1 fK,rr]) (fun r W=>RowF X5.heap.size r us W) X5 wr row/\iU ps.reverse (n :: ins) (s.take k)=some us/\us.length=k) (fun i _=>m0 - (intOf i).toNat)
  case atStart=>exact ⟨0,bc _,rfl,_,[],Vf.o,by simp[iU],rfl⟩
  case round=>
   exact pm216
 |have Zs:=ae MV;have zcL:=ae (show ¬lc<l0 by rw[sq];omega);have HL0:=ae sq;have HG:=fh (hg.later qU.o) (aa qU.o c0) (aa qU.o c1) (aa qU.o c2) (aa qU.o c3);have HQq:=ae o_;clear hg c0 c1 c2 c3 rq MV sq o_ x0 x1 x2;gi_wp2_with fail;obtain ⟨Φ,iH⟩:∃Φ:Nat->Value->Bx->World->Prop,Φ=fun k=>(match k with
   | 0=>fun v _ _=>v=.pointer (some ⟨kb,0,none⟩)
   | 1=>fun v _ _=>v=.pointer (some ⟨w.heap.size,3,none⟩)
   | 2=>fun v _ _=>v=.slice (some ⟨b,off,none⟩) 1 se
   | 3=>fun v _ _=>v=.pointer (some ⟨b,off,none⟩)
   | 4=>fun v _ _=>v=.agg #[.int .u8 go,.string gn,.slice ga gl gc,.slice gb gm ge]
   | 5=>fun v _ _=>v=.slice la l0 lc
   | 6=>fun v _ _=>v=.slice la l0 lc
   | 7=>fun v _ _=>v=.int .i64 (l0:Int)
   | 8=>fun v _ _=>v=.slice la l0 lc
   | 9=>fun v _ _=>v=.int .i64 (l0:Int)
   | 10=>fun v _ _=>v=.slice la l0 l0
   | 11=>fun v _ _=>v=.pointer (some ⟨w.heap.size,1,none⟩)
   | 12=>fun v _ _=>v=.string ⟨n.toArray⟩
   | 13=>RowG (W1.heap.size<=·) #[.string ⟨n.toArray⟩] 9 1
   | 14=>NamesG (L ++ [n])
   | 15=>FormG (W1.heap.size<=·) (cM kd (n :: c) g)
   | 16=>BoxG #[.int .u8 0,.string ⟨#[]⟩,.slice none 0 0,.slice none 0 0] 36
   | 17=>fun _ γ w=>SetG (fun cs γ w=>∃q:FQ,cs=#[.int .u8 q.o,.string q.n,.slice q.a q.l q.c,.slice q.b q.m q.e]/\FormV (okB (W1.heap.size<=·) γ w) w q.val (cM kd (n :: c) g)) 36 γ w
   | _=>fun _ _ _=>True):=⟨_,rfl⟩
  have cH:∀ k v γ w dT w',Gr γ w dT w'->Φ k v γ w->Φ k v dT w':=by
   intro k v γ wz dT wz' hG;rw[iH]
   match k with
   | 0=>exact id
   | 1=>exact id
   | 2=>exact id
   | 3=>exact id
   | 4=>exact id
   | 5=>exact id
   | 6=>exact id
   | 7=>exact id
   | 8=>exact id
   | 9=>exact id
   | 10=>exact id
   | 11=>exact id
   | 12=>exact id
   | 13=>exact RowG.step hG
   | 14=>exact NamesG.step hG
   | 15=>exact FormG.step hG
   | 16=>exact BoxG.step hG
   | 17=>exact SetG.step (fun cs ⟨q,e,h⟩=>⟨q,e,h.move hG.holds⟩) hG
   | k+18=>exact id
  refine kN Φ (PsB 16 17) (IG (fun _=>False) iQ.drew) Gr (none,false) (by kernel_rfl) rfl (by kernel_rfl) ⟨Kp.refl _,(fun _ h=>by cases h),fun _ h=>h.elim⟩ (fun k _=>⟨fun _=>rfl,fun _=>rfl⟩) (fun _ _ _ _ hG h=>h.step hG) cH ?steps ?fin
  case steps=>
   intro k hk
   match k,hk with
   | 0,_=>
    refine dr rfl rfl g_ rfl (fun a γ wz aU=>⟨rfl,.pointer (some ⟨kb,0,none⟩),γ,wz,?_,Gr.refl,fun _ _ h=>h,?_⟩)
    ·have e0:a.tmps.getD 0 undef=.pointer (some ⟨kb,0,none⟩):=bg ((aU.ou 0 rfl).trans rfl);go_simp
    ·rw[iH];exact rfl
   | 1,_=>
    refine dr rfl rfl g_ rfl (fun a γ wz aU=>⟨rfl,.pointer (some ⟨w.heap.size,3,none⟩),γ,wz,?_,Gr.refl,fun _ _ h=>h,?_⟩)
    ·have e4:a.tmps.getD 4 undef=.pointer (some ⟨w.heap.size,0,none⟩):=bg ((aU.ou 4 rfl).trans rfl);go_simp
    ·rw[iH];exact rfl
   | 2,_=>
    refine dr rfl rfl g_ rfl (fun a γ wz aU=>⟨rfl,.slice (some ⟨b,off,none⟩) 1 se,γ,wz,?_,Gr.refl,fun _ _ h=>h,?_⟩)
    ·obtain ⟨v83,t83,f83⟩:=aU.val 1 _ 83 rfl rfl (by kernel_rfl);rw[iH]at f83;obtain rfl:=f83;have e83:=bg t83;have c:=aU.inv.1.cell (fun h=>h) (show iQ.drew.cell? ⟨w.heap.size,3,none⟩=_ from ai Ri.o 3);go_simp
    ·rw[iH];exact rfl
   | 3,_=>
    refine dr rfl rfl g_ rfl (fun a γ wz aU=>⟨rfl,.pointer (some ⟨b,off,none⟩),γ,wz,?_,Gr.refl,fun _ _ h=>h,?_⟩)
    ·obtain ⟨v84,t84,f84⟩:=aU.val 2 _ 84 rfl rfl (by kernel_rfl);rw[iH]at f84;obtain rfl:=f84;have e84:=bg t84;go_simp
    ·rw[iH];exact rfl
   | 4,_=>
    refine dr rfl rfl g_ rfl (fun a γ wz aU=>⟨rfl,.agg #[.int .u8 go,.string gn,.slice ga gl gc,.slice gb gm ge],γ,wz,?_,Gr.refl,fun _ _ h=>h,?_⟩)
    ·obtain ⟨v85,t85,f85⟩:=aU.val 3 _ 85 rfl rfl (by kernel_rfl);rw[iH]at f85;obtain rfl:=f85;have e85:=bg t85;have c0:=aU.inv.1.cell (fun h=>h) (show iQ.drew.cell? _=_ from HG.o.2.1);have c1:=aU.inv.1.cell (fun h=>h) (show iQ.drew.cell? _=_ from HG.o.2.2.1);have c2:=aU.inv.1.cell (fun h=>h) (show iQ.drew.cell? _=_ from HG.o.2.2.2.1);have c3:=aU.inv.1.cell (fun h=>h) (show iQ.drew.cell? _=_ from HG.o.2.2.2.2);go_simp
    ·rw[iH];exact rfl
   | 5,_=>
    exact pm92
   | 6,_=>
    exact pm92
   | 7,_=>
    refine dr rfl rfl g_ rfl (fun a γ wz aU=>⟨rfl,.int .i64 (l0:Int),γ,wz,?_,Gr.refl,fun _ _ h=>h,?_⟩)
    ·obtain ⟨v88,t88,f88⟩:=aU.val 6 _ 88 rfl rfl (by kernel_rfl);rw[iH]at f88;obtain rfl:=f88;have e88:=bg t88;go_simp
    ·rw[iH];exact rfl
   | 8,_=>
    exact pm92
   | 9,_=>
    refine dr rfl rfl g_ rfl (fun a γ wz aU=>⟨rfl,.int .i64 (l0:Int),γ,wz,?_,Gr.refl,fun _ _ h=>h,?_⟩)
    ·obtain ⟨v90,t90,f90⟩:=aU.val 8 _ 90 rfl rfl (by kernel_rfl);rw[iH]at f90;obtain rfl:=f90;have e90:=bg t90;go_simp
    ·rw[iH];exact rfl
   | 10,_=>
    refine dr rfl rfl g_ rfl (fun a γ wz aU=>⟨rfl,.slice la l0 l0,γ,wz,?_,Gr.refl,fun _ _ h=>h,?_⟩)
    ·obtain ⟨v87,t87,f87⟩:=aU.val 5 _ 87 rfl rfl (by kernel_rfl);rw[iH]at f87;obtain rfl:=f87;have e87:=bg t87;obtain ⟨v89,t89,f89⟩:=aU.val 7 _ 89 rfl rfl (by kernel_rfl);rw[iH]at f89;obtain rfl:=f89;have e89:=bg t89;obtain ⟨v91,t91,f91⟩:=aU.val 9 _ 91 rfl rfl (by kernel_rfl);rw[iH]at f91;obtain rfl:=f91;have e91:=bg t91;have DV:=zcL.o;rcases Zs.o with ⟨rfl,rfl,rfl⟩ | ⟨b,off,rfl⟩ <;> go_simp
    ·rw[iH];exact rfl
   | 11,_=>
    refine dr rfl rfl g_ rfl (fun a γ wz aU=>⟨rfl,.pointer (some ⟨w.heap.size,1,none⟩),γ,wz,?_,Gr.refl,fun _ _ h=>h,?_⟩)
    ·have e4:a.tmps.getD 4 undef=.pointer (some ⟨w.heap.size,0,none⟩):=bg ((aU.ou 4 rfl).trans rfl);go_simp
    ·rw[iH];exact rfl
   | 12,_=>
    refine dr rfl rfl g_ rfl (fun a γ wz aU=>⟨rfl,.string ⟨n.toArray⟩,γ,wz,?_,Gr.refl,fun _ _ h=>h,?_⟩)
    ·obtain ⟨v93,t93,f93⟩:=aU.val 11 _ 93 rfl rfl (by kernel_rfl);rw[iH]at f93;obtain rfl:=f93;have e93:=bg t93;have c:=aU.inv.1.cell (fun h=>h) (show iQ.drew.cell? ⟨w.heap.size,1,none⟩=_ from ai Ri.o 1);go_simp
    ·rw[iH];exact rfl
   | 13,_=>
    refine dr rfl rfl g_ rfl (fun a γ wz aU=>⟨rfl,.slice (some ⟨wz.heap.size,0,none⟩) 1 1,γ,wz.alloc (.cells #[.string ⟨n.toArray⟩] 9),?_,Gr.keep cJ,fun _ _ h=>h,?_⟩)
    ·obtain ⟨v94,t94,f94⟩:=aU.val 12 _ 94 rfl rfl (by kernel_rfl);rw[iH]at f94;obtain rfl:=f94;have e94:=bg t94;go_simp
    ·rw[iH];exact RowG.new aU.inv (fun b hb=>aN (aN xd.o aU.inv.1.size) hb) _ _ _
   | 14,_=>
    refine dr rfl rfl g_ rfl (fun a γ wz aU=>?_);obtain ⟨v92,t92,f92⟩:=aU.val 10 _ 92 rfl rfl (by kernel_rfl);rw[iH]at f92;obtain rfl:=f92;have e92:=bg t92;obtain ⟨v95,t95,f95⟩:=aU.val 13 _ 95 rfl rfl (by kernel_rfl);rw[iH]at f95;obtain ⟨rb,rfl,hrb,hrc⟩:=f95;have e95:=bg t95;obtain ⟨v',w',hr,D1,RZ,hlo⟩:=vS wz n rb hrc la l0 lc L HL0.o (by have:=HL.o.2.1;omega) (HL.o.1.later (qU.o.tr ((ak _ _).drew.tr aU.inv.1.empty))) 66;refine ⟨rfl,v',γ,w',?_,Gr.keep RZ,fun _ _ h=>h,?_⟩
    ·simp[execOp,resolve,invoke,builtin,Act.eval,e92,e95,hr,Result.andThen]
    ·rw[iH];exact ⟨D1,fun b hb=>(okB.new (L:=fun _=>True) aU.inv (fun _ _=>trivial) b (hlo b hb).1 (hlo b hb).2).1⟩
   | 15,_=>
    refine BW rfl rfl g_ rfl rfl (fun a γ wz aU=>?_);obtain ⟨v82,t82,f82⟩:=aU.val 0 _ 82 rfl rfl (by kernel_rfl);rw[iH]at f82;obtain rfl:=f82;have e82:=bg t82;obtain ⟨v86,t86,f86⟩:=aU.val 4 _ 86 rfl rfl (by kernel_rfl);rw[iH]at f86;obtain rfl:=f86;have e86:=bg t86;obtain ⟨v96,t96,f96⟩:=aU.val 14 _ 96 rfl rfl (by kernel_rfl);rw[iH]at f96;have e96:=bg t96;have Sh:=(ak iQ.heap.size iQ).drew.tr aU.inv.1.empty;refine ⟨rfl,72,#[.pointer (some ⟨kb,0,none⟩),.agg #[.int .u8 go,.string gn,.slice ga gl gc,.slice gb gm ge],v96],?_,?_⟩
    ·go_simp
    ·refine aK.2 ((fS.o g (by simp) (n :: c) (L ++ [n]) _ wz v96 ⟨go,gn,ga,gl,gc,gb,gm,ge⟩ (HL.o.2.2.2.tr (qU.o.tr Sh)) f96.1 (by have:=HL.o.2.1;simp only[dZ,fN,List.length_nil];simp only[nodesF,nodesFs]at this;omega) (fun y=>by
      have:=HL.o.2.2.1 y;rw[List.contains_cons,<-this,gy];simp only[List.contains_iff_mem,List.mem_append,cY,List.not_mem_nil,or_false,Bool.or_eq_true,f9];exact Or.comm) (HG.o.1.later Sh)).mono ?_)
     rintro e w' ⟨⟨q,rfl,hq⟩,S9⟩;exact ⟨q.val,rfl,γ,Gr.keep S9,fun _ _ h=>h,by rw[iH];exact FormG.new aU.inv (fun b hb=>aN (aN xd.o aU.inv.1.size) hb) hq⟩
   | 16,_=>
    refine dr rfl rfl g_ rfl (fun a γ wz aU=>⟨rfl,.pointer (some ⟨wz.heap.size,0,none⟩),(some wz.heap.size,false),wz.alloc (.cells #[.int .u8 0,.string ⟨#[]⟩,.slice none 0 0,.slice none 0 0] 36),?_,tp _ (aU.psi.1 rfl),qH,?_⟩)
    ·go_simp
    ·rw[iH];exact tu
   | 17,_=>
    refine ls rfl g_ rfl (fun a γ wz aU=>?_);obtain ⟨v97,t97,f97⟩:=aU.val 15 _ 97 rfl rfl (by kernel_rfl);rw[iH]at f97;obtain ⟨q,rfl,hq⟩:=f97;have e97:=bg t97;obtain ⟨v13,Of,f13⟩:=aU.val 16 _ 13 rfl rfl (by kernel_rfl);rw[iH]at f13;obtain ⟨bb,rfl,hb1,bD,aL⟩:=f13;have e13:=bg Of;obtain ⟨KS,Mp⟩:=γ;obtain rfl:Mp=false:=aU.psi.2 rfl;simp only at hb1;subst hb1;have x:=aL rfl;obtain ⟨c0,c1,c2,c3,z0,z1,z2,z3⟩:=dp x;have k6:=dA (W:=wz) (b:=bb) (v0:=.int .u8 q.o) (v1:=.string q.n) (v2:=.slice q.a q.l q.c) (v3:=.slice q.b q.m q.e);have x6:=kP (v0:=.int .u8 q.o) (v1:=.string q.n) (v2:=.slice q.a q.l q.c) (v3:=.slice q.b q.m q.e) x;refine ⟨rfl,(some bb,true),_,?_,ix k6,lU,?_⟩
    ·simp only[FQ.val]at e97;go_simp
    ·rw[iH];exact ⟨bb,_,rfl,x6,q,rfl,hq.move (ix k6).holds⟩
   | k+18,hk=>exact absurd hk (by simp)
  case fin=>
   intro a γ wz h;obtain ⟨v82,t82,f82⟩:=h.get 0 _ 82 rfl rfl;rw[iH]at f82;obtain rfl:=f82;obtain ⟨v83,t83,f83⟩:=h.get 1 _ 83 rfl rfl;rw[iH]at f83;obtain rfl:=f83;obtain ⟨v84,t84,f84⟩:=h.get 2 _ 84 rfl rfl;rw[iH]at f84;obtain rfl:=f84;obtain ⟨v85,t85,f85⟩:=h.get 3 _ 85 rfl rfl;rw[iH]at f85;obtain rfl:=f85;obtain ⟨v86,t86,f86⟩:=h.get 4 _ 86 rfl rfl;rw[iH]at f86;obtain rfl:=f86;obtain ⟨v87,t87,f87⟩:=h.get 5 _ 87 rfl rfl;rw[iH]at f87;obtain rfl:=f87;obtain ⟨v88,t88,f88⟩:=h.get 6 _ 88 rfl rfl;rw[iH]at f88;obtain rfl:=f88;obtain ⟨v89,t89,f89⟩:=h.get 7 _ 89 rfl rfl;rw[iH]at f89;obtain rfl:=f89;obtain ⟨v90,t90,f90⟩:=h.get 8 _ 90 rfl rfl;rw[iH]at f90;obtain rfl:=f90;obtain ⟨v91,t91,f91⟩:=h.get 9 _ 91 rfl rfl;rw[iH]at f91;obtain rfl:=f91;obtain ⟨v92,t92,f92⟩:=h.get 10 _ 92 rfl rfl;rw[iH]at f92;obtain rfl:=f92;obtain ⟨v93,t93,f93⟩:=h.get 11 _ 93 rfl rfl;rw[iH]at f93;obtain rfl:=f93;obtain ⟨v94,t94,f94⟩:=h.get 12 _ 94 rfl rfl;rw[iH]at f94;obtain rfl:=f94;obtain ⟨v95,t95,f95⟩:=h.get 13 _ 95 rfl rfl;rw[iH]at f95;obtain ⟨v96,t96,f96⟩:=h.get 14 _ 96 rfl rfl;rw[iH]at f96;obtain ⟨v97,t97,f97⟩:=h.get 15 _ 97 rfl rfl;rw[iH]at f97;obtain ⟨v13,Of,f13⟩:=h.get 16 _ 13 rfl rfl;rw[iH]at f13;have fs:=h.did 17 _ rfl rfl;rw[iH]at fs;obtain ⟨bb,cs,hγ,wu,q,rfl,hq⟩:=fs;obtain ⟨b2,rfl,hb1,_,_⟩:=f13;rw[hγ]at hb1;cases hb1;subst hγ;have ha:=h.act [(82,_),(83,_),(84,_),(85,_),(86,_),(87,_),(88,_),(89,_),(90,_),(91,_),(92,_),(93,_),(94,_),(95,_),(96,_),(97,_),(13,_)] rfl (by simp only[cY,List.not_mem_nil,or_false,forall_eq_or_imp,forall_eq];exact ⟨t82,t83,t84,t85,t86,t87,t88,t89,t90,t91,t92,t93,t94,t95,t96,t97,Of⟩);rw[ha];have zay:=h.inv.1.empty;have h0b:=h.inv.2.1;clear ha h cH t82 t83 t84 t85 t86 t87 t88 t89 t90 t91 t92 t93 t94 t95 t96 t97 Of;simp only[List.foldl_cons,List.foldl_nil,List.setIfInBounds_toArray,List.set_cons_zero,List.set_cons_succ];obtain ⟨G,Si⟩:=am (cM kd (n :: c) g);have hgk:=(oA C_.o.1 C_.o.2 HP.o.2.2.1).2;have O3:pX kd [g]<=1000:=by have:=HP.o.2.2.2.1;unfold tS at this;omega
   have Lp:dD true [g]=true:=by have:=HP.o.1;simp only[okF,ah]at this;exact this.2.2.2.2
   have oc:=mD HP.o.2.2.2.2.1 HP.o.2.2.2.2.2 [g] (n :: c) Lp hgk O3;have Tp:=pW HP.o.2.2.2.2.1 [g] (n :: c) Lp hgk;simp only[fp,nodesFs,nmFs,Bool.and_true,iq,eO,<-Si]at oc Tp;rw[<-Si]at hq;have zaz:RS=nG so n [] G:=by rw[Tq.o,Sf C_.o.1 C_.o.2 HQq.o,<-Si]
   have Sh:Below iQ.heap.size iQ wz:=(ak _ _).drew.tr zay;have hGn:nodesF G<=1000:=by omega
   have x0:=bR Sh Ri.o;have x1:=bR Sh Lo.o;have x2:=bR Sh zcK.o;have cI:iQ.heap.size<=bb:=(h0b bb rfl).1.resolve_right (fun h=>h);have CF2:=tw G ⟨by omega,oc.2⟩ (by omega) _ wz q hq;have m5:=cC hGn oc.2 Tp.1 Tp.2;have Yc:=ae (hq.move (ok':=(W1.heap.size<=·)) (fun b hb _=>⟨hb.1,rfl⟩));have MZ:=cC x0 x1 x2 wu;have NY:=bG (qU.o.tr Sh) cI (aN xd.o Sh.size);have HRq:=ae zaz;simp only[FQ.val]at CF2;have Fc:=ae CF2;obtain ⟨e0,e1,e2,e3,_,_,_,_⟩:=dp wu;clear hgk O3 Lp oc Tp hq zaz Sh hGn x0 x1 x2 cI wu CF2 zay h0b Si fS;gi_wp2_with fail;refine aK.2 (Fc.o.mono ?_);rintro e wf ⟨⟨vf,rfl,hvf⟩,vj⟩;clear e0 e1 e2 e3;have Yd:=e9 (bl [] G);have qW:=gC G [];have CT:=e7 (dF (bl [] G)) (by have:=m5.o.1;omega) n _ wf vf hvf.strs;rw[ln]at CT;have x0:=bR vj MZ.o.1;have x1:=bR vj MZ.o.2.1;have x2:=bR vj MZ.o.2.2.1;have x3:=bR vj MZ.o.2.2.2;have n1:=ai x0 1;have F2:=ae CT;have HXf:=cC x0 x1 x2 x3;have HBf:=bG (NY.o.1.tr vj) (aN NY.o.2.2 vj.size) (Yc.o.later vj);have QE:=bG hvf Yd qW;clear CT x0 x1 x2 x3 vj hvf Yd qW;gi_wp2_with fail;refine aK.2 (F2.o.mono ?_);rintro e wt ⟨rfl,rfl⟩
   cases ws:(bl [] G).contains n with
   | false=>
    have HRm:=ae (show RS=.mk so n [] [iI (dc n) (ap n) G] by rw[HRq.o];unfold nG;rw[ws];rfl);have HM:=ae (show n.length<=2000000 by have:=QI.o.2.1;omega);obtain ⟨wq,KC⟩:=am wt;subst KC;obtain ⟨GV,F3⟩:=a_ HXf.o HBf.o;clear ws n1;gi_wp2_with fail;have pp86:=();exact pm86
   | true=>
    obtain ⟨m,hm⟩:=am (dL (bl [] G));have HRm:=ae (show RS=.mk so m [] [iI (dc n) (ap m) G] by rw[HRq.o,hm];unfold nG;rw[ws];rfl);have HM:=ae (show m.length<=2000000 by rw[hm];exact n_ (by have:=QE.o.2.2;have:=m5.o.1;omega));have Vu:=Ck WB wt (Oa.o.next HBf.o.1) (dF (bl [] G)) (by have:=QE.o.2;have:=m5.o.1;omega) (fun x hx=>oe G [] m5.o.2.1 x ((dH x _).1 hx)) _ vf QE.o.1.strs;rw[show dL (dF (bl [] G))=m from (Cj (by have:=QE.o.2;have:=m5.o.1;omega) (by have:=QE.o.2;have:=m5.o.1;omega) (fun x=>dH x _)).trans hm.symm]at Vu;have Vv:=ae Vu;clear ws n1 hm Vu;gi_wp2_with fail;refine aK.2 (Vv.o.mono ?_);rintro e w8 ⟨rfl,gJ⟩;have x0:=bR gJ HXf.o.1;have x1:=bR gJ HXf.o.2.1;have x2:=bR gJ HXf.o.2.2.1;have x3:=bR gJ HXf.o.2.2.2;have r1:=ai x2 1;have rz:=af x2 1;obtain ⟨wq,KC⟩:=am (w8.setCell ⟨w.heap.size+1+1,1,none⟩ (.string ⟨m.toArray⟩));have kq:Kp (fun b=>b=w.heap.size+1+1) w8 wq:=by rw[KC];exact ⟨rfl,rfl,rfl,by simp,fun c _ hc=>ei _ _ _ _ (by simpa using hc)⟩
    have x2q:wq.heap[w.heap.size+1+1]?=some (.cells #[.int .u8 so,.string ⟨m.toArray⟩,.slice fJ 0 fK,.slice none 0 0] 36 (0,0)):=by rw[KC];exact (bq (F:=1) x2 (.string ⟨m.toArray⟩)).trans rfl
    have Rc:=w_.o;have zcQ:=NY.o.2.1;have GV:=cC ((kq.same _ (bz x0) (by omega)).trans x0) ((kq.same _ (bz x1) (by omega)).trans x1) x2q ((kq.same _ (bz x3) (by have:=xd.o;omega)).trans x3);have F3:=bG (Below.kp1 (HBf.o.1.tr gJ) kq (by omega)) (aN HBf.o.2.1 (aN gJ.size kq.size)) ((HBf.o.2.2.later gJ).move (fun b hb hlt=>⟨hb,kq.same b hlt (by have h:W1.heap.size<=b:=hb;omega)⟩));have Hwq:=ae KC;clear x0 x1 x2 x3 kq x2q gJ Rc zcQ KC;gi_wp2_with fail
    try rw[<-Hwq.o]
    exact pm86):G:=h
theorem pm157(h:G:=by
 go_wp2;go_loopw [5] (fun i wr=>∃k:Nat,k<=k0/\i=.int .i64 k/\Below w.heap.size w wr/\l.take k=m.take k) (fun i _=>k0 - (intOf i).toNat)
 case atStart=>exact ⟨0,bc _,rfl,ak _ _,by simp⟩
 first
 |clear pp157
  case round=>
   have pp283d:=();exact pm283
 |case round=>
   exact pm283):G:=h
theorem pm158(h:G:=by
 rintro X Y hn ⟨k',wB,tI,h1,h2,h3,h4,h5,h6,h7,h8⟩;have:=gM.o;have:=ld.o.1;have:=ld.o.2.1;exact ⟨k',wB,tI,h1,h2.nw hn (by omega) (by omega),h3,h4,h5,hn.cells h6,hn.cells h7,mU h8 hn⟩):G:=h
theorem pm159(h:G:=by
 have hz:=QB.o;exact ⟨hk.os.trans d_.o.os,hk.tape.trans d_.o.tape,hk.output.trans d_.o.output,aN d_.o.size hk.size,fun b hb=>(hk.same b (by omega) (by omega)).trans (d_.o.block b hb)⟩):G:=h
theorem pm160(h:G:=by
 rw[show (j+1) * 4=j * 4+1+1+1+1 by omega,show j * 4+1+1+1+1+1=(j * 4+1)+1+1+1+1 by omega,show j * 4+1+1+1+1+2=(j * 4+2)+1+1+1+1 by omega,show j * 4+1+1+1+1+3=(j * 4+3)+1+1+1+1 by omega]
 first
 |clear pp160;simpa using this
 |simpa[BT,TQ.cells] using this):G:=h
theorem pm161(h:G:=by
 intro t
 induction t using Tm.ind with
 | h v n a ih=>
 first
 |clear pp161a;intro az ok w tq Q9 cH hq;obtain ⟨qv,qn,qa,ql,qc⟩:=tq;obtain ⟨s,hs,bK⟩:=aV.1 hq;have pp37f:=();exact pm37
 |clear pp161b;intro og dG im Yl W nF nT k tq uq dS pE gU oW huv;obtain ⟨v',n',a'⟩:=im;obtain ⟨s1,h1,h_⟩:=aV.1 oW;obtain ⟨s2,h2,D9⟩:=aV.1 huv;obtain ⟨tv,tn,ta,tl,tc⟩:=tq;obtain ⟨uv,un,ua,ul,uc⟩:=uq;have pp75d:=();exact pm75
 |clear pp161c;intro og ok w q hb hq;have pp74a:=();exact pm74
 |clear pp161d;intro hn;simp only[jw,ah,bx]at hn;unfold pt;simp only[nodesT];split
  ·have:=hk n hn.1;omega
  ·have h2:eb k a<=nodesTs a * 1000:=by
    have kT:=eY.1 hn.2;clear hn
    induction a with
    | nil=>simp[eb]
    | cons u a VT=>
     have h1:=ih u (fD ..) (kT u (fD ..));have h3:=VT (fun t ht=>ih t (eV _ ht)) (fun t ht=>kT t (eV _ ht));simp only[eb,nodesTs];omega
   omega
 |clear pp161e;intro og ok w q hb hq;have pp74b:=();exact pm74
 |clear pp161f;intro hn;simp only[jw,ah,bx]at hn;unfold j_;simp only[nodesT];split
  ·have h1:=hk n hn.1;have h2:=lQ (termOf k n);have h3:=e9 (aQ (termOf k n));have h4:=List.length_filter_le dV (dF (aQ (termOf k n)));omega
  ·have h2:(dJ k a).length<=nodesTs a * 1000:=by
    have kT:=eY.1 hn.2;clear hn
    induction a with
    | nil=>simp[dJ]
    | cons u a VT=>
     have h1:=ih u (fD ..) (kT u (fD ..));have h3:=VT (fun t ht=>ih t (eV _ ht)) (fun t ht=>kT t (eV _ ht));simp only[dJ,nodesTs,dZ];omega
   omega
 |clear pp161g;intro og xy ok w q hb hq;simp only[nodesT]at xy;exact pm74
 |intro h;unfold m8
  by_cases hv:(v && n == x)=true
  ·rw[aH hv];rfl
  ·rw[aw hv];simp only[Dw,hv,dE,↓reduceIte,Nat.zero_add]at h;clear hv;generalize 0=i
   induction a generalizing i with
   | nil=>simp[fE]at h
   | cons u a VT=>
    simp only[fE]at h;unfold eB
    cases hp:m8 x u with
    | some p=>rfl
    | none=>
     simp only;refine VT (fun t ht=>ih t (eV _ ht)) ?_ _;intro h0;have:=ih u (fD ..) (by omega);rw[hp]at this;cases this):G:=h
theorem pm162(h:G:=by
 exact pm272):G:=h
theorem pm163(h:G:=by
 obtain ⟨hl,h | ⟨g',cap,cur,hv,_,hg,hn,_,_,hx⟩⟩:=h
 ·obtain ⟨h,_⟩:=h;injection h with h;cases h
 first
 |clear pp163a
  ·have ku:n=l.length:=by simp[sh]at hl;omega
   have pp209:=();exact pm209
 |clear pp163b
  ·have ku:n=ps.length:=by rw[iu]at hl;omega
   exact pm209
 |·injection hv with _ _ hc;omega):G:=h
theorem pm164(h:G:=by
 refine hK _ _ (fun _=>by rw[dh.o];exact eG.o) (fun _=>?_);clear hK K
 first
 |clear pp164a;refine bZ 13 rfl fun K hK=>?_
  have pp148a:=();exact pm148
 |clear pp164b;refine bZ 16 rfl fun K hK=>?_
  have pp148b:=();exact pm148
 |clear pp164c;refine bZ 17 rfl fun K hK=>?_
  have pp148c:=();exact pm148
 |clear pp164d;refine bZ 29 rfl fun K hK=>?_
  go_simp;refine hK _ _ (fun _=>by rw[dh.o];exact eG.o) (fun _=>?_);clear hK K;refine bZ 30 rfl fun K hK=>?_;exact pm148
 |refine kz ?_
  first
  |clear pp148a;go_wp2;go_roundw
   case rel=>exact ⟨k+1,by omega,by omega,by go_num,sg.o,eG.o⟩
   case measure=>simp[intOf];omega
  |clear pp148b;go_wp2;go_roundw
   case rel=>exact ⟨k+1,by omega,by go_num,sg.o,eG.o⟩
   case measure=>simp[intOf];omega
  |clear pp148c;go_wp2;go_roundw
   case rel=>exact ⟨j+1,by omega,by go_num,sg.o,eG.o⟩
   case measure=>simp[intOf];omega
  |cases V with
   | false=>
    have HZ:=ae (yX.o fun h=>by
     subst h;have:=congrArg Prod.snd (HX.o.1.trans HX.o.2.symm);have e:=HV.o;rw[(fV _ _).2 (by rw[show tx=ty from this])]at e;cases e)
    go_wp2;go_ret;exact ⟨by rw[HZ.o];rfl,HE.o.1.tr eG.o⟩
   | true=>
    go_wp2;go_roundw
    case rel=>exact ⟨j+1,by omega,by go_num,eG.o,oF HT.o bp mN (by rw[<-HX.o.1,<-HX.o.2];have:=(fV _ _).1 HV.o.symm;injection this with e _;rw[e])⟩
    case measure=>simp[intOf];omega):G:=h
theorem pm165(h:G:=by
 simp only[iq,eO,Bool.and_true,aY]at hw hq1 hd;rw[n8 hq]
 by_cases h1:(n == x || !(bl [] g).contains x)=true
 first
 |clear pp165a
  ·rw[aH h1];exact ⟨mn,mM,rfl,rfl⟩
  ·rw[aw h1]
   by_cases h2:(aQ (ap y)).contains n=true
   ·rw[aH h2];generalize dL (bl [] g ++ aQ (ap y))=m;have pp226c:=();exact pm226
   ·rw[aw h2];obtain ⟨b1,b2,b3,b4⟩:=gI k g x y hw.2 hq1.2 (by omega);simp only[mr,iq,qone,eO,depthF,aY,nodesF,nodesFs,el,List.map_nil,gL,b1,b2,b3,b4,hq];simp
 |clear pp165b
  ·rw[aH h1];exact Nat.le_mul_of_pos_right _ hu
  ·rw[aw h1]
   by_cases h2:(aQ u).contains n=true
   ·rw[aH h2];generalize dL (bl [] g ++ aQ u)=m;have pp226d:=();exact pm226
   ·rw[aw h2];have b1:=tK k g x u hw.2 hq1.2 (by omega);simp only[nodesF,nodesFs,el,List.map_nil,nodesTs,Nat.add_mul];omega
 |·rw[aH h1];exact ⟨mn,mM⟩
  ·rw[aw h1]
   by_cases h2:(aQ u).contains n=true
   ·rw[aH h2];generalize dL (bl [] g ++ aQ u)=m;exact pm226
   ·rw[aw h2];obtain ⟨b1,b2⟩:=tR hu k g x hw.2 hq1.2 (by omega);simp[mr,iq,qone,eO,el,gL,b1,b2]):G:=h
theorem pm166(h:G:=by
 go_enter Tryz.func246,Tryz.ntmps246
 first
 |clear pp166a;go_wp2_with (go_at_call 244;refine HC.o.mono ?_;rintro e w4 ⟨⟨rfl,_⟩ | ⟨k,x,hk,_⟩,aP⟩;rotate_left;(exact absurd hk (by simp));have H4:=ae aP;clear aP);go_ret;exact ⟨⟨_,rfl,OwnS.nil _ _⟩,Kp.below H4.o⟩
 |clear pp166b;go_wp2_with (go_at_call 244;refine HC.o.mono ?_;rintro e w4 ⟨rfl,aP⟩;have H4:=ae aP;clear aP);go_ret;exact ⟨⟨_,rfl,by rw[HE.o];exact HR.o.later H4.o⟩,Kp.below H4.o⟩
 |go_upto_region 2 with (go_at_call 244;refine HC.o.mono ?_;rintro e w4 ⟨⟨k,x,hk,rfl,hkx,f_⟩,aP⟩;have dS:k<n:=(by rw[HN.o];exact (List.getElem?_eq_some_iff.1 hk).1);have H4:=cC aP hk hkx f_;have Q2:((k:Int) == -1)=false:=beq_eq_false_iff_ne.2 (by omega);have Hm:IntKind.i64.wrap ((k:Int)+1)=((k+1:Nat):Int):=(by rw[fQ _ (by omega)];simp);clear aP hkx f_ hk);have cH:=(((DelR.start (keep:=fun x=>!pr x) HB.o.1 HB.o.2.1 HB.o.2.2 (by rw[<-HN.o];exact dS) (fun x hx=>by rw[H4.o.2.2.2 x hx];rfl)).drop (by rw[<-HN.o];exact dS) (by
   obtain ⟨bp,he⟩:=List.getElem?_eq_some_iff.1 H4.o.2.1;rw[he,H4.o.2.2.1];rfl)).later H4.o.1)
  have Yj:=ae cH;clear cH;go_wp2;clear Q2 Hm;go_loopw [5,6,7] (fun s5 s6 _ wr=>∃i j:Nat,s5=.int .i64 i/\s6=.int .i64 j/\i<j/\j<=n/\DelR (fun x=>!pr x) l b cap i j wr/\Kp (fun c=>lo<=c/\some b=some c) w wr) (fun _ s6 _ _=>n - (intOf s6).toNat)
  case atStart=>exact ⟨k,k+1,rfl,by go_num,by omega,by omega,Yj.o,Kp.below H4.o.1⟩
  case round=>
   obtain ⟨i,j,rfl,rfl,XW,Yh,hD,hK⟩:=hrel
   by_cases hlt:j<n
   ·have le:=cF HN.o hlt;have CB:=HP.o l[j] wr (aA le) hK;have KJ:=fun W h=>DelR.keep (W:=W) (keep:=fun x=>!pr x) (l:=l) (b:=b) (cap:=cap) (i:=i) h le (by rw[<-HN.o];exact hc) (by omega);have TO:=fun W=>DelR.drop (W:=W) (keep:=fun x=>!pr x) (l:=l) (b:=b) (cap:=cap) (i:=i) (j:=j);obtain ⟨cu,g1,g2,g3,g4,g5⟩:=hD;have cj:wr.cell? ⟨b,j,none⟩=some (.string ⟨l[j].toArray⟩):=(aE g1 j).trans (g5 j le (aI _));have HD:=ae (show DelR (fun x=>!pr x) l b cap i j wr from ⟨cu,g1,g2,g3,g4,g5⟩);have hlz:(j:Int)<(n:Int):=by omega
    have hwj:IntKind.i64.wrap ((j:Int)+1)=((j+1:Nat):Int):=(by rw[fQ _ (by omega)];simp);have hwi:IntKind.i64.wrap ((i:Int)+1)=((i+1:Nat):Int):=(by rw[fQ _ (by omega)];simp);have HK:=ae hK;have HKD:=aG KJ TO;obtain ⟨u,hu⟩:=am (l[j]);rw[<-hu]at CB cj;have HU:=ae hu;clear KJ TO g1 g2 g3 g4 g5 hK hu
    cases hq:pr u with
    | true=>
     rw[hq]at CB;obtain ⟨AV,HQ⟩:=a_ CB hq;clear CB hq;go_wp2_with (go_at_fn g;refine AV.o.mono ?_;rintro e w5 ⟨rfl,bj⟩;have H5:=ae bj;clear bj);go_roundw
     case rel=>exact ⟨i,j+1,rfl,by go_num,by omega,by omega,(HKD.o.2 wr HD.o le (by rw[<-HU.o,HQ.o];rfl)).later H5.o,HK.o.trans (Kp.below H5.o)⟩
     case measure=>simp[intOf];omega
    | false=>
     rw[hq]at CB;obtain ⟨AV,HQ⟩:=a_ CB hq;clear CB hq;go_wp2_with (go_at_fn g;refine AV.o.mono ?_;rintro e w5 ⟨rfl,bj⟩;have hD5:=HD.o.later bj;have H5:=aG bj hD5;obtain ⟨cu,g1,g2,g3,g4,g5⟩:=hD5;have ci:w5.cell? ⟨b,i,none⟩=some cu[i]!:=((aE g1 i).trans (by rw[getElem!_pos cu i (by omega)];exact Array.getElem?_eq_getElem (by omega)));have fi:=af g1 i;clear bj g1 g2 g3 g4 g5);go_roundw
     case rel=>
      refine ⟨i+1,j+1,by go_num,by go_num,by omega,by omega,?_,(HK.o.trans (Kp.below H5.o.1)).trans ⟨rfl,rfl,rfl,by simp,fun c _ hc=>ei _ _ _ _ (by intro e;obtain rfl:c=b:=e;exact hc ⟨hlo,rfl⟩)⟩⟩;have:=HKD.o.1 w5 H5.o.2 (by rw[<-HU.o,HQ.o];rfl);rw[<-HU.o]at this;exact this
     case measure=>simp[intOf];omega
   ·obtain rfl:j=n:=by omega
    have hcl:∀ ty,(Builtin.clear_ #[66] ty #[.slice (some ⟨b,i,none⟩) (j - i) (cap - i)]).run Tryz.prog wr=.ok (.tuple #[]) (wr.setCells b i (List.replicate (j - i) (.string ⟨#[]⟩))):=fun ty=>by
     obtain ⟨cu,g1,g2,_⟩:=hD;refine Lib.run_clear_slice wr _ _ ty _ Tryz.underlying66 (fun W=>Tryz.zeroValue9 W) rfl rfl b i _ _ (by omega) (fun t ht=>?_) (fun t ht=>af g1 _);rw[(aE g1 (i+t)).trans (Array.getElem?_eq_getElem (by omega))];rfl
    obtain ⟨HD,HK⟩:=a_ hD hK;have yi:i<=j:=by omega
    clear hD hK;go_upto_region 11 with fail;go_wp2_with fail;go_ret;have hD:=HD.o;rw[HN.o]at hD;refine ⟨⟨_,rfl,hD.done hlo (by rw[<-HN.o];exact hc) (by rw[<-HN.o];omega) sr.o.1 _⟩,?_⟩;exact HK.o.trans ((wD b _ i wr).mono fun c _ e=>⟨by rw[e];exact hlo,by rw[e]⟩)):G:=h
theorem pm167(h:G:=by
 obtain ⟨qv,qn,qa,ql,qc⟩:=q;obtain ⟨s,hs,bK⟩:=aV.1 hq
 first
 |clear pp167a;have pp37a:=();exact pm37
 |clear pp167b;have pp37b:=();exact pm37
 |clear pp167c;have pp37c:=();exact pm37
 |clear pp167d;have pp37e:=();exact pm37
 |clear pp167e;have pp37h:=();exact pm37
 |exact pm37):G:=h
theorem pm168(h:G:=by
 have HB:=ae ar;clear CB ar f_ hp hq c0 c1 hcs gU bp;go_wp2_with (go_at_call 228;refine HC.o.mono ?_;rintro e w4 ⟨rfl,aP⟩;have H4:=ae aP;clear aP)
 first
 |clear pp168;go_ret;exact ⟨⟨_,rfl,by rw[HE.o];simp,by omega,by omega⟩,HB.o.tr H4.o⟩
 |go_roundw
  case rel=>exact ⟨k+1,by omega,by go_num,HB.o.tr H4.o,yX.o⟩
  case measure=>simp[intOf];omega):G:=h
theorem pm169(h:G:=by
 have HB:=ae ar;clear CB ar f_ hq c0 c1 c2 hx hok;go_wp2_with (go_at_call 193;refine HC.o.mono ?_;rintro e w4 ⟨rfl,aP⟩;have H4:=ae aP;clear aP)
 first
 |clear pp169;go_ret;exact ⟨⟨_,rfl,by rw[HE.o];simp⟩,HB.o.tr H4.o⟩
 |go_roundw
  case rel=>exact ⟨k+1,by omega,by go_num,HB.o.tr H4.o,yX.o⟩
  case measure=>simp[intOf];omega):G:=h
theorem pm170(h:G:=by
 have e1:decide ((nodesF t:Int)<=400)=decide (nodesF t<=400):=by rw[gy];simp;omega
 have e2:decide (1+(depthF t:Int)<=40+1)=decide (depthF t<=40):=by rw[gy];simp;omega
 rw[e1,e2];rfl):G:=h
theorem pm171(h:G:=by
 have t1:(nx == ny)=false:=by simpa using lM
 have t2:(nx != ny)=true:=by simpa using lM
 have HZ:=ae (yX.o fun h=>by subst h;exact lM (congrArg Prod.fst (HX.o.1.trans HX.o.2.symm)))
 first
 |clear pp171;have pp100b:=();exact pm100
 |go_wp2;refine (wpIn_wide (n:=3)).1 ?_;refine lg S 31 dO fun jp bN=>?_;refine bC 0 66 (.pointer (some ⟨w.heap.size,1,none⟩)) rfl bN fun cq=>?_;simp only[ag];have pp52:=();exact pm52):G:=h
theorem pm172(h:G:=by
 have he:l=m:=by
  have h1:l.take k=l:=by rw[dB.o];exact cV
  have h2:m.take k=m:=by rw[dB.o,Vs.o];exact cV
  rw[<-h1,ht,h2]
 obtain ⟨HE,HB⟩:=a_ he ar;clear he ar ht;go_wp2;go_ret
 first
 |clear pp172;exact ⟨aO (by rw[HE.o,nS]),HB.o⟩
 |exact ⟨aO (by rw[HE.o];exact ((nh _ _).2 rfl).symm),HB.o⟩):G:=h
theorem pm173(h:G:=by
 obtain ⟨b,off,u,rfl,_,hu,c0,c1,c2⟩:=HL.o.get bp;have hf:=HF.o.mem (aA bp);have pG:=fS.o l[k] (aA bp)
 first
 |clear pp173a;rw[FY bp]at ht;obtain ⟨⟨xv,xn,xa⟩,hx⟩:∃y,l[k]=y:=⟨_,rfl⟩;rw[hx]at hu hf pG ht;obtain ⟨s1,h2,fL⟩:=aV.1 hu;obtain ⟨uv,un,ua,ul,uc⟩:=u;have pp109b:=();exact pm109
 |clear pp173b;have iL:=xC x bp;have hb1:=pS x (l.take (k+1));have bD:=ja l (k+1);obtain ⟨⟨xv,xn,xa⟩,hx⟩:∃x,l[k]=x:=⟨_,rfl⟩;rw[hx]at hu hf pG iL;obtain ⟨s1,h1,fL⟩:=aV.1 hu;obtain ⟨uv,un,ua,ul,uc⟩:=u;simp only[TQ.val,cE,Array.mk.injEq,cB,and_true,Value.bool.injEq,Value.string.injEq]at h1;obtain ⟨rfl,rfl,rfl⟩:=h1;obtain ⟨d0,d1,d2⟩:=ke ar c0 c1 c2;have CC:=ae (fun (W:World) (hb:Below wr.heap.size wr W)=>pG ok W ua ul uc hf.args ((fL.later ar).later hb));have HB:=ae ar;obtain ⟨N,hN⟩:=am (fE x (l.take k));obtain ⟨M,hM⟩:=am (fE x xa);have VW:fE x (l.take (k+1))=N+((if uv && xn == x then 1 else 0)+M):=by rw[iL,hN,hM];rfl
  simp only[Tm.a]at CC;rw[<-hN];rw[<-hM]at CC;rw[VW]at hb1;have HS:=ae VW;clear hu pG hf hx fL ar iL hN hM VW c0 c1 c2;have HW:=ae (show Below wr.heap.size wr (wr.alloc (.cells #[.bool uv,.string ⟨xn.toArray⟩,.slice ua ul uc] 43)) from cJ);have e2:(wr.alloc (.cells #[.bool uv,.string ⟨xn.toArray⟩,.slice ua ul uc] 43)).cell? ⟨wr.heap.size,2,none⟩=some (.slice ua ul uc):=ai (aj rfl) 2
  cases uv with
  | false=>
   simp only[Bool.false_and,dE,if_false]at hb1;have pp121a:=();exact pm121
  | true=>
   by_cases hn:xn=x
   ·subst hn;simp only[dU,beq_self_eq_true,if_true]at hb1;have pp121b:=();exact pm121
   ·have dX:(xn == x)=false:=by simpa using hn
    rw[dX]at hb1;simp only[Bool.and_false,dE,if_false]at hb1;exact pm121
 |have Uj:l.drop k=l[k] :: l.drop (k+1):=fO bp;rw[Uj]at hcut;obtain ⟨⟨xv,xn,xa⟩,hx⟩:∃x,l[k]=x:=⟨_,rfl⟩;rw[hx]at hu hf pG hcut;obtain ⟨s1,h2,fL⟩:=aV.1 hu;obtain ⟨uv,un,ua,ul,uc⟩:=u;have pp109c:=();exact pm109):G:=h
theorem pm174(h:G:=by
 rw[ee.o,List.take_append_getElem dy]at h4;exact ⟨k+1,by omega,by go_num,h4,((dt.o.trans (cv.mono N')).alloc (by omega) _).grown ao (by simp;omega) (fun c hc=>(au.lt c hc).1)⟩):G:=h
theorem pm175(h:G:=by
 simp only[dif_pos oJ,Nat.zero_add];have d0:=ho.cells (g:=g) rfl _ _ c0;have d1:=ho.cells (g:=g) rfl _ _ c1;have d2:=ho.cells (g:=g) rfl _ _ c2;have d3:=ho.cells (g:=g) rfl _ _ c3
 first
 |clear pp175;have d4:=ho.cells (g:=g) rfl _ _ c4;rw[lv]at d0 d1 d2 d3 d4;rw[(ht j oJ hj).1]at d0;exact ⟨d0,d1,d2,d3,d4⟩
 |rw[lv]at d0 d1 d2 d3;rw[(ht j oJ hj).1]at d0;exact ⟨d0,d1,d2,d3⟩):G:=h
theorem pm176(h:G:=by
 obtain ⟨d0,d1,d2,d3⟩:=mG ar c0 c1 c2 c3;have hW:Below wr.heap.size wr (wr.alloc (.cells #[.int .u8 u.o,.string u.n,.slice u.a u.l u.c,.slice u.b u.m u.e] 36)):=cJ
 first
 |clear pp176;have CC:=ae (fS.o s[k] (aA bp) ok _ u ((hu.later ar).later hW));obtain ⟨N,hN⟩:=am (A+jB x (s.take k));obtain ⟨M,hM⟩:=am (gY x s[k]);have zel:M<=nodesFs s:=by rw[hM];exact aN (ov x _) (jn (aA bp))
  have zem:N<=10000000:=by have:=tN x (s.take k);have:=cD s k;omega
  rw[<-hM]at CC iL;rw[<-hN];have HS:=ae (show A+jB x (s.take (k+1))=N+M by omega);obtain ⟨cO,HW⟩:=a_ ar hW;clear hu ar hW iL hN hM c0 c1 c2 c3 hb1 bD;go_wp2_with (go_at_call 97;refine CC.o.mono ?_;rintro e w2 ⟨rfl,bD⟩;have bQ:=ae bD;clear bD);go_roundw
  case rel=>exact ⟨k+1,by omega,by go_num,cO.o.trans ((HW.o.trans (bQ.o.mono HW.o.size)).mono cO.o.size),by rw[HS.o];simp⟩
  case measure=>simp[intOf];omega
 |have E7:(k:Int)<(k0:Int):=by omega
  have C2:=pG x ok _ u hf ((hu.later ar).later hW);unfold FQ.val at C2;have U8:=fun r=>th (x:=x) xs[k] r;have rk:=hf.1;obtain ⟨T,hT⟩:=am (kW x xs[k]);rw[<-hT]at ht C2 U8;obtain ⟨AV,HT⟩:=a_ C2 ht;have HB:=ae (ar.trans (hW.mono ar.size));have ee:=aG U8 rk;clear ar hW hu hf pG ht c0 c1 c2 c3 C2 U8 rk hT
  cases T with
  | none=>
   go_wp2_with (go_at_call 165;refine AV.o.mono ?_;rintro e w4 ⟨⟨v1,v2,rfl,Kv,jd⟩,aP⟩;obtain ⟨a3,c3,rfl⟩:=jd.slice;simp only[Option.map,Option.getD,List.length_nil]at Kv jd ⊢;have eG:=ae (HB.o.trans (aP.mono HB.o.size));clear aP Kv jd);go_roundw
   case rel=>exact ⟨k+1,by omega,by go_num,eG.o,HT.o⟩
   case measure=>simp[intOf];omega
  | some r=>
   obtain ⟨p,q⟩:=r;have hok:=ee.o.1 (p,q) rfl;have rk:=ee.o.2;obtain ⟨q0,Lr⟩:=am q.length;have nn:0<q0:=by rw[Lr];exact iD.2 hok.1
   have NL:(0:Int)<(q0:Int):=by omega
   have AY:p.length<=2000000:=by have:=hok.2.1;simp only at this;omega
   obtain ⟨zbP,HQ0⟩:=a_ AY Lr;clear Lr hok ee AY rk;go_wp2_with (first | (go_at_call 165;refine AV.o.mono ?_;rintro e w4 ⟨⟨v1,v2,rfl,Kv,jd⟩,aP⟩;obtain ⟨a3,c3,rfl⟩:=jd.slice;simp only[Option.map,Option.getD]at Kv jd ⊢;rw[<-HQ0.o];have Iy:=ae Kv;have F0:=ae jd;have eG:=ae (HB.o.trans (aP.mono HB.o.size));clear aP Kv jd) | (at_builtin;refine si rfl _ _ rfl w4.heap.size k (aj rfl) p _ rfl rfl (Iy.o.later cJ) zbP.o ?_;intro v5 w5 hv5 ao;have HG:=aG hv5 ao;clear hv5 ao));have HE:=ae (show R=some (k :: p,q) by rw[HT.o]);have bj:Below w4.heap.size w4 w5:=by
    have hg:=HG.o.2;have hs:=hg.size;exact ⟨hg.os,hg.tape,hg.output,by simp at hs;omega,fun b hb=>(hg.block b (by simp;omega) (fun h=>by injection h with h;omega)).trans (bI _ _ _ hb)⟩
   refine bJ (v:=.tuple #[v5,.slice a3 q0 c3]) (by simp[results,Tryz.results165,go_sem]) rfl ⟨⟨_,_,rfl,?_,?_⟩,eG.o.trans (bj.mono eG.o.size)⟩
   ·rw[HE.o];exact HG.o.1
   ·rw[HE.o,HQ0.o];exact F0.o.later bj):G:=h
theorem pm177(h:G:=by
 rcases eH ho with ⟨rfl,h0⟩ | ⟨g,cap,rfl,_⟩
 ·exact ⟨none,0,by rw[h0]⟩
 ·exact ⟨_,_,rfl⟩):G:=h
theorem pm178(h:G:=by
 refine wpOpIn_step ho (fun K' Dv=>?_);rw[aH hw];refine ⟨fun f _=>rk f,?_⟩;rw[hr,Oper.semAt_none,lh]
 first
 |clear pp178a;exact Dv _ _ (hK v dT w' (fun h0=>by rw[hd]at h0;cases h0) hG Lh iH)
 |clear pp178b;exact Dv _ _ (hK undef dT w' (fun _=>rfl) hG Lh iH)
 |refine ⟨fun h0=>(by rw[pi]at h0;cases h0),hc.mono ?_⟩
  rintro e w' ⟨v,rfl,dT,hG,Lh,iH⟩;exact Dv _ _ (hK v dT w' (fun h0=>by rw[hd]at h0;cases h0) hG Lh iH)):G:=h
theorem pm179(h:G:=by
 intro o' Nj a γ w aU K hK;obtain rfl:o'=o:=Option.some.inj (Nj.symm.trans ho)
 first
 |clear pp179a;obtain ⟨hw,v,dT,w',lh,hG,Lh,iH⟩:=h a γ w aU;have pp178a:=();exact pm178
 |clear pp179b;obtain ⟨hw,dT,w',lh,hG,Lh,iH⟩:=h a γ w aU;have pp178b:=();exact pm178
 |clear pp179c;obtain ⟨hw,f,args,lh,hc⟩:=h a γ w aU;exact pm178
 |obtain ⟨v,h1,rfl⟩:=hd a γ w aU;have hw:Region.wanted o' (yielded ops a.tmps)=false:=by simp[Region.wanted,hg,yielded,hj,Hg,h1];exact MB hx
  refine wpOpIn_step ho (fun K' Dv=>?_);rw[aw (by rw[hw];exact Bool.false_ne_true)];exact ⟨fun _ _=>trivial,Dv _ _ (hK undef γ w (fun _=>rfl) Gr.refl (fun _ _ h=>h) (by rcases hp with h | h <;> rw[h] <;> trivial))⟩):G:=h
theorem pm180(h:G:=by
 obtain ⟨b,off,⟨go,gn,ga,gl,gc,gb,gm,ge⟩,rfl,_,hg,c0,c1,c2,c3⟩:=fT.o.get (j:=0) (by simp);simp only[Nat.zero_mul,Nat.add_zero,List.getElem_cons_zero]at hg c0 c1 c2 c3
 first
 |clear pp180;obtain ⟨D2,Rj,Rk,uC⟩:=ZE.o g (by simp);have Od:=yk.o.mem (List.mem_singleton.2 rfl);have hpb:PutB w (.cells #[.int .u8 qo,.string ⟨n.toArray⟩,.slice qa 0 qc,.slice (some ⟨b,off,none⟩) 1 qe] 36 (0,0)) (.cells #[.bool zv,.string zn,.slice za zl zc] 43 (0,0)) (.cells #[.int .u8 0,.string ⟨#[]⟩,.slice none 0 0,.slice none 0 0] 36 (0,0)) (.cells #[.int .u8 qo,.string ⟨n.toArray⟩,.slice fJ 0 fK,.slice none 0 0] 36 (0,0)) iQ:=⟨qU.o,x0,xu,x1,x2⟩;have CF:=tw g Od (by omega) ok iQ ⟨go,gn,ga,gl,gc,gb,gm,ge⟩ (hg.later qU.o);simp only[FQ.val]at CF;obtain ⟨Fc,HG⟩:=a_ CF hg;have m5:=fh D2 Rj Rk uC Od;have HC:=cC c0 c1 c2 c3;obtain ⟨d0,d1,d2,d3⟩:=mG qU.o c0 c1 c2 c3;have p3:=ai x0 3;have HPB:=ae hpb;clear CF hg D2 Rj Rk uC Od c0 c1 c2 c3 x0 x1 xu x2 hpb;gi_wp2_with fail;refine aK.2 (Fc.o.mono ?_);rintro e wf ⟨⟨vf,rfl,hvf⟩,vj⟩;clear d0 d1 d2 d3 p3;have F7:=ae (HPB.o.later vj);obtain ⟨zb1,QE⟩:=a_ vj.size hvf;clear vj hvf;have p0:wf.cell? ⟨w.heap.size,0,none⟩=some (.int .u8 qo):=ai F7.o.b0 0;have p1:wf.cell? ⟨w.heap.size,1,none⟩=some (.string ⟨n.toArray⟩):=ai F7.o.b0 1;have p2:wf.cell? ⟨w.heap.size,2,none⟩=some (.slice qa 0 qc):=ai F7.o.b0 2;have p3:wf.cell? ⟨w.heap.size,3,none⟩=some (.slice (some ⟨b,off,none⟩) 1 qe):=ai F7.o.b0 3
  by_cases hn:n=nx
  ·subst hn;have vr:Hd (RS=.mk qo n [] [g]):=ae (by rw[Tq.o,n8 o_,aH (by simp)]);have CC:=nu (.mk qo n [] [g]) Yc.o.1 ok wf ⟨qo,⟨n.toArray⟩,qa,0,qc,some ⟨b,off,none⟩,1,qe⟩ (Yc.o.2.later F7.o.below);simp only[FQ.val]at CC;exact pm16
  ·have hnb:(n == nx)=false:=by simpa using hn
   cases ws:(bl [] g).contains nx with
   | false=>
    have vr:Hd (RS=.mk qo n [] [g]):=ae (by rw[Tq.o,n8 o_,ws];simp);have pp227:=();exact pm227
   | true=>
    exact pm227
 |obtain ⟨la,lc,hLv,OM,rq⟩:=HL.o.1;obtain ⟨l0,sq⟩:=am L.length;rw[<-sq]at hLv;subst hLv;exact pm156):G:=h
theorem pm181(h:G:=by
 have x6:=kP (v0:=.int .u8 0) (v1:=.string ⟨#[]⟩) (v2:=.slice none 0 0) (v3:=.slice none 0 0) Jz.o
 first
 |clear pp181a;have k6:=dA (W:=w9) (b:=w.heap.size+1+1) (v0:=.int .u8 0) (v1:=.string ⟨#[]⟩) (v2:=.slice none 0 0) (v3:=.slice none 0 0);obtain ⟨W6,da⟩:=am ((((w9.setCell ⟨w.heap.size+1+1,0,none⟩ (.int .u8 0)).setCell ⟨w.heap.size+1+1,1,none⟩ (.string ⟨#[]⟩)).setCell ⟨w.heap.size+1+1,2,none⟩ (.slice none 0 0)).setCell ⟨w.heap.size+1+1,3,none⟩ (.slice none 0 0));rw[<-da]at x6 k6 ⊢;clear da;obtain ⟨g0,g1,g2,g3,_,_,_,_⟩:=dp x6;refine bJ (v:=.tuple #[FQ.val ⟨0,⟨#[]⟩,none,0,0,none,0,0⟩,.int .i64 3]) (by simp[FQ.val,results,Tryz.results32,go_sem,g0,g1,g2,g3]) rfl ⟨⟨⟨0,⟨#[]⟩,none,0,0,none,0,0⟩,(by rw[HE.o];try rfl),?_⟩,Below.kp1 (H8.o.1.tr H9.o) k6 (by omega)⟩;rw[HE.o];exact lE
 |clear pp181b;have k6:=dA (W:=w6) (b:=w.heap.size+1+1) (v0:=.int .u8 0) (v1:=.string ⟨#[]⟩) (v2:=.slice none 0 0) (v3:=.slice none 0 0);obtain ⟨W6,da⟩:=am ((((w6.setCell ⟨w.heap.size+1+1,0,none⟩ (.int .u8 0)).setCell ⟨w.heap.size+1+1,1,none⟩ (.string ⟨#[]⟩)).setCell ⟨w.heap.size+1+1,2,none⟩ (.slice none 0 0)).setCell ⟨w.heap.size+1+1,3,none⟩ (.slice none 0 0));rw[<-da]at x6 k6 ⊢;clear da;obtain ⟨g0,g1,g2,g3,_,_,_,_⟩:=dp x6;refine bJ (v:=.tuple #[FQ.val ⟨0,⟨#[]⟩,none,0,0,none,0,0⟩,.int .i64 er]) (by simp[FQ.val,results,Tryz.results32,go_sem,g0,g1,g2,g3]) rfl ⟨⟨⟨0,⟨#[]⟩,none,0,0,none,0,0⟩,(by rw[HE.o];try rfl),?_⟩,Below.kp1 (HB.o.1.tr (H5.o.1.tr H6.o)) k6 (by omega)⟩;rw[HE.o];exact lE
 |have k6:=dA (W:=w4) (b:=w.heap.size+1+1) (v0:=.int .u8 0) (v1:=.string ⟨#[]⟩) (v2:=.slice none 0 0) (v3:=.slice none 0 0);obtain ⟨W6,da⟩:=am ((((w4.setCell ⟨w.heap.size+1+1,0,none⟩ (.int .u8 0)).setCell ⟨w.heap.size+1+1,1,none⟩ (.string ⟨#[]⟩)).setCell ⟨w.heap.size+1+1,2,none⟩ (.slice none 0 0)).setCell ⟨w.heap.size+1+1,3,none⟩ (.slice none 0 0));rw[<-da]at x6 k6 ⊢;clear da;obtain ⟨g0,g1,g2,g3,_,_,_,_⟩:=dp x6;refine bJ (v:=.tuple #[FQ.val ⟨0,⟨#[]⟩,none,0,0,none,0,0⟩,.int .i64 2]) (by simp[FQ.val,results,Tryz.results32,go_sem,g0,g1,g2,g3]) rfl ⟨⟨⟨0,⟨#[]⟩,none,0,0,none,0,0⟩,(by rw[HE.o];try rfl),?_⟩,Below.kp1 (HB.o.1.tr H4.o) k6 (by omega)⟩;rw[HE.o];exact lE):G:=h
theorem pm182(h:G:=by
 have ct:((a.map (cQ kd.ts sc)).take k).length=k:=by rw[dM];have:=dB.o;simp;omega
 have jG:(a.map (cQ kd.ts sc)).take k=(a.map (cQ kd.ts sc)):=f8 (by have:=dB.o;simp;omega)
 first
 |clear pp182;have pp14e:=();exact pm14
 |have pp14d:=();exact pm14):G:=h
theorem pm183(h:G:=by
 have dO:S wz.drew:=by rw[hS];exact ar.drew
 have d0:=aa ar g0;have HX:=ae (hx.later (iR.o.1.tr ar));obtain ⟨HB,HR,dh,HM,HNf⟩:=wV ar hR hS hm tk;have R1:M<=40:=by omega
 first
 |clear pp183;clear hS hR ar hx g0 c0 c1 c2 c3 c4 hm tk XD;go_wp2;refine (wpIn_wide (n:=3)).1 ?_;have g_:=eM;refine lg S 17 dO fun jp bN=>?_;refine bC 0 23 (.slice ra M rc) rfl bN fun cq=>?_;simp only[ag];refine bC 1 24 (.pointer (some ⟨w.heap.size,0,none⟩)) rfl bN fun cq=>?_;simp only[ag];refine c9 2 25 (.slice (some ⟨b,off,none⟩) n1 qc) rfl (fun V hX=>by have g:=f0 V hX;go_simp) bN fun cq=>?_;simp only[ag];refine bC 3 26 (.int .i64 k) rfl bN fun cq=>?_;simp only[ag];refine bC 4 27 (.pointer (some ⟨b,off+k * 5,none⟩)) rfl bN fun cq=>?_;simp only[ag];refine bC 5 28 (.pointer (some ⟨b,off+k * 5+1,none⟩)) rfl bN fun cq=>?_;simp only[ag];refine c9 6 29 (.agg #[.int .u8 x.o,.string x.n,.slice x.a x.l x.c,.slice x.b x.m x.e]) rfl (fun V hX=>by obtain ⟨_,g0,g1,g2,g3⟩:=ff V hX;go_simp) bN fun cq=>?_;simp only[ag];refine bC 7 30 (.pointer (some ⟨w.heap.size,0,none⟩)) rfl bN fun cq=>?_;simp only[ag];refine c9 8 31 (.slice (some ⟨b,off,none⟩) n1 qc) rfl (fun V hX=>by have g:=f0 V hX;go_simp) bN fun cq=>?_;simp only[ag];refine bC 9 32 (.int .i64 k) rfl bN fun cq=>?_;simp only[ag];refine bC 10 33 (.pointer (some ⟨b,off+k * 5,none⟩)) rfl bN fun cq=>?_;simp only[ag];refine bC 11 34 (.pointer (some ⟨b,off+k * 5,none⟩)) rfl bN fun cq=>?_;simp only[ag];refine c9 12 35 (.string ⟨nm.toArray⟩) rfl (fun V hX=>by obtain ⟨g0,_⟩:=ff V hX;go_simp) bN fun cq=>?_;simp only[ag];refine bZ 13 rfl fun K hK=>?_;go_simp;refine aK.2 ((DY ⟨nm.toArray⟩ none 0 0 _).mono ?_);rintro _ A ⟨rfl,hA⟩;have Gn:Below W1.heap.size W1 A:=HB.o.drew.tr hA;have XE:Below wz.heap.size wz A:=((ak wz.heap.size wz).drew).trans hA;refine hK _ _ (fun _=>by rw[dh.o];exact Gn) (fun _=>?_);clear hK K;refine bZ 14 rfl fun K hK=>?_;go_simp;refine hK _ _ (fun _=>by rw[dh.o];exact Gn.alloc Gn.size _) (fun _=>?_);clear hK K;refine bZ 15 rfl fun K hK=>?_;refine mX (.tmp 23) (.tmp 37) rfl W1.heap.size ra M rc (jV (bd.fs.take k)) [fm,.mk 1 nm [] []] [x,⟨1,⟨nm.toArray⟩,none,0,0,none,0,0⟩] wz A _ HR.o HM.o XE HB.o.size rfl (by simp) (fun j h1 h2=>?_) rfl rfl rfl (by simp;omega) (fun g ev w4 ek Io=>?_)
  ·rcases j with _ | _ | j
   ·exact HX.o.move (show dW (fun b=>b<w.heap.size) (fun b=>(Value.slice ra M rc).ownBlock≠some b) wz A from fun c hc hlt=>⟨fun e=>by obtain ⟨_,_,ho,_⟩:=HR.o;have:=(ho.lt c e).1;have:=iR.o.1.size;omega,XE.block c hlt⟩)
   ·exact aW.2 ⟨_,_,rfl,cf,gh⟩
   ·simp only[fN,List.length_nil]at h1;omega
  have ct:=ME bp;rw[<-HNf.o]at ct;simp only at ct;rw[<-ct]at ek;have sg:=ae ek;have eG:=ae (Io W1 Gn (aI _));clear ek Io Gn XE hA ct;have pp164b:=();exact pm164
 |clear hS hR ar hx g0 c0 c1 c2 c3 hm tk XD;go_wp2;refine (wpIn_wide (n:=3)).1 ?_;have g_:=eM;refine lg S 18 dO fun jp bN=>?_;refine bC 0 46 (.slice ra M rc) rfl bN fun cq=>?_;simp only[ag];refine bC 1 47 (.pointer (some ⟨w.heap.size,1,none⟩)) rfl bN fun cq=>?_;simp only[ag];refine c9 2 48 (.slice (some ⟨b,off,none⟩) n2 qe) rfl (fun V hX=>by have g:=f0 V hX;go_simp) bN fun cq=>?_;simp only[ag];refine bC 3 49 (.int .i64 j) rfl bN fun cq=>?_;simp only[ag];refine bC 4 50 (.pointer (some ⟨b,off+j * 4,none⟩)) rfl bN fun cq=>?_;simp only[ag];refine bC 5 51 (.pointer (some ⟨b,off+j * 4,none⟩)) rfl bN fun cq=>?_;simp only[ag];refine c9 6 52 (.string ⟨nm.toArray⟩) rfl (fun V hX=>by obtain ⟨g0,_⟩:=ff V hX;go_simp) bN fun cq=>?_;simp only[ag];refine bC 7 53 (.pointer (some ⟨w.heap.size,1,none⟩)) rfl bN fun cq=>?_;simp only[ag];refine c9 8 54 (.slice (some ⟨b,off,none⟩) n2 qe) rfl (fun V hX=>by have g:=f0 V hX;go_simp) bN fun cq=>?_;simp only[ag];refine bC 9 55 (.int .i64 j) rfl bN fun cq=>?_;simp only[ag];refine bC 10 56 (.pointer (some ⟨b,off+j * 4,none⟩)) rfl bN fun cq=>?_;simp only[ag];refine bC 11 57 (.pointer (some ⟨b,off+j * 4+1,none⟩)) rfl bN fun cq=>?_;simp only[ag];refine c9 12 58 (.agg #[.bool x.v,.string x.n,.slice x.a x.l x.c]) rfl (fun V hX=>by obtain ⟨_,g0,g1,g2⟩:=ff V hX;go_simp) bN fun cq=>?_;simp only[ag];refine bZ 13 rfl fun K hK=>?_;go_simp;have M4:Below W1.heap.size W1 (wz.drew.alloc (.cells #[.bool x.v,.string x.n,.slice x.a x.l x.c] 43)):=HB.o.drew.alloc HB.o.size _;refine hK _ _ (fun _=>by rw[dh.o];exact M4) (fun _=>?_);clear hK K;refine bZ 14 rfl fun K hK=>?_;go_simp;refine aK.2 ((DY ⟨nm.toArray⟩ (some ⟨wz.heap.size,0,none⟩) 1 1 _).mono ?_);rintro _ A ⟨rfl,hA⟩;have Gn:Below W1.heap.size W1 A:=M4.tr hA;have hw0:Below wz.heap.size wz (wz.drew.alloc (.cells #[.bool x.v,.string x.n,.slice x.a x.l x.c] 43)):=((ak wz.heap.size wz).drew).alloc (aI _) _;have XE:Below wz.heap.size wz A:=hw0.tr hA;have Ts:A.heap[wz.heap.size]?=some (.cells #[.bool x.v,.string x.n,.slice x.a x.l x.c] 43 (0,0)):=(hA.block wz.heap.size (by simp)).trans (aj (by simp));refine hK _ _ (fun _=>by rw[dh.o];exact Gn) (fun _=>?_);clear hK K;refine bZ 15 rfl fun K hK=>?_;go_simp;refine hK _ _ (fun _=>by rw[dh.o];exact Gn.alloc Gn.size _) (fun _=>?_);clear hK K;refine bZ 16 rfl fun K hK=>?_;refine mX (.tmp 46) (.tmp 61) rfl W1.heap.size ra M rc (jV bd.fs ++ kI (bd.ts.take j)) [.mk 1 nm [tm] []] [⟨1,⟨nm.toArray⟩,some ⟨wz.heap.size,0,none⟩,1,1,none,0,0⟩] wz A _ HR.o HM.o XE HB.o.size rfl (by simp) (fun j h1 h2=>?_) rfl rfl rfl (by simp;omega) (fun g ev w4 ek Io=>?_)
  ·rcases j with _ | j
   ·have au:∀ c,(Value.slice ra M rc).ownBlock=some c->W1.heap.size<=c/\c<wz.heap.size:=fun c e=>by obtain ⟨_,_,ho,_⟩:=HR.o;exact ho.lt c e
    refine aW.2 ⟨_,_,rfl,⟨_,1,fun _=>TQ.val x,rfl,.inr ⟨wz.heap.size,0,rfl,fun e=>by have:=au _ e;omega,fun j hj=>?_⟩,fun j hj=>?_⟩,gh⟩
    ·obtain rfl:j=0:=by simpa using hj
     exact ⟨_,_,_,rfl,li Ts⟩
    ·obtain rfl:j=0:=by simpa using hj
     exact HX.o.move (show dW (fun b=>b<w.heap.size) (fun b=>(Value.slice ra M rc).ownBlock≠some b) wz A from fun c hc eA=>⟨fun e=>by have:=(au c e).1;have:=iR.o.1.size;omega,XE.block c eA⟩)
   ·simp only[fN,List.length_nil]at h1;omega
  have ct:=MF bp;rw[<-HNf.o]at ct;simp only at ct;rw[List.append_assoc,<-ct]at ek;have sg:=ae ek;have eG:=ae (Io W1 Gn (aI _));clear ek Io Gn XE hA ct M4 hw0 Ts;have pp164c:=();exact pm164):G:=h
theorem pm184(h:G:=by
 have h1:DataW.trod enc Tryz.prog W 0 fd held n 9 [c1]=some x1:=hf 1 _ rfl;have h2:DataW.trod enc Tryz.prog W 0 fd held n 33 [c2]=some x2:=hf 2 _ rfl
 first
 |clear pp184;obtain ⟨v,hv,rfl⟩:=DataW.trod_bool Tryz.underlying4 h0;simp only[cB,and_true]at hv;subst hv;obtain ⟨s,rfl,hs,_⟩:=mE h1;obtain ⟨l,hl,hln,Zk⟩:=rI h2 (fun m hm=>ih m (by omega));refine ⟨.mk v s l,aV.2 ⟨_,rfl,hl⟩,?_,?_⟩
  ·simp only[nodesT,cK,List.map_nil,Rows.uptoBulk,Rows.uptoBulkAll];omega
  ·simp only[jw,cK,List.map_nil,Rows.uptoBulk,Rows.uptoBulkAll,ah,bx];exact ⟨by omega,dQ (by omega) _ Zk⟩
 |have h3:DataW.trod enc Tryz.prog W 0 fd held n 34 [c3]=some x3:=hf 3 _ rfl;obtain ⟨o,hv,rfl,ho⟩:=DataW.trod_int Tryz.underlying5 h0;simp only[cB,and_true]at hv;subst hv;have ho:0<=o/\o<=255:=by
   simp[Lit.wf,IntKind.min,IntKind.max,IntKind.signed,IntKind.bits]at ho;omega
  obtain ⟨s,rfl,hs,_⟩:=mE h1;obtain ⟨l,hl,hln,Zk⟩:=rI h2 (fun m _=>uw m);obtain ⟨k,hk,dS,mN⟩:=BJ h3 (fun m hm=>ih m (by omega));refine ⟨.mk o s l k,aW.2 ⟨_,_,rfl,hl,hk⟩,?_,?_⟩
  ·simp only[nodesF,cK,List.map_nil,Rows.uptoBulk,Rows.uptoBulkAll];omega
  ·simp only[kJ,cK,List.map_nil,Rows.uptoBulk,Rows.uptoBulkAll,ah,bx];exact ⟨ho,by omega,dQ (by omega) _ Zk,eT (by omega) _ mN⟩):G:=h
theorem pm185(h:G:=by
 obtain ⟨ra,rc,rfl⟩:=hF.row.slice;rw[ct]at hF;have HR:=ae (jG ▸ hF.row)
 first
 |clear pp185a;have x2:=hF.box;have x1:=hF.other (by omega) jo.o;obtain ⟨c0,c1,c2⟩:=li x2;obtain ⟨e0,e1,e2⟩:=li x1;have z0:=af x1 0;have z1:=af x1 1;have z2:=af x1 2;obtain ⟨lJ,dt⟩:=a_ x1 ar;clear jG ct hF x1 x2 ar;gi_wp2
  first
  |clear pp14a;have x6:=pC (v0:=.bool qv) (v1:=.string ⟨n.toArray⟩) (v2:=.slice ra k rc) lJ.o;have k6:=eD (W:=wr) (b:=w.heap.size+1) (v0:=.bool qv) (v1:=.string ⟨n.toArray⟩) (v2:=.slice ra k rc);obtain ⟨W6,da⟩:=am (((wr.setCell ⟨w.heap.size+1,0,none⟩ (.bool qv)).setCell ⟨w.heap.size+1,1,none⟩ (.string ⟨n.toArray⟩)).setCell ⟨w.heap.size+1,2,none⟩ (.slice ra k rc));rw[<-da]at x6 k6 ⊢;clear da;have g0:W6.cell? ⟨w.heap.size+1,0,none⟩=some (.bool qv):=ai x6 0;have g1:W6.cell? ⟨w.heap.size+1,1,none⟩=some (.string ⟨n.toArray⟩):=ai x6 1;have g2:W6.cell? ⟨w.heap.size+1,2,none⟩=some (.slice ra k rc):=ai x6 2;have hz:=(bz jo.o);have h6:TermV (w.heap.size<=·) W6 (TQ.val ⟨qv,⟨n.toArray⟩,ra,k,rc⟩) (.mk qv n a):=(HR.o.kp1 k6 (by omega)).term d_.o.size;refine bJ (v:=TQ.val ⟨qv,⟨n.toArray⟩,ra,k,rc⟩) (by simp[TQ.val,results,Tryz.results53,go_sem,g0,g1,g2]) rfl ⟨⟨qv,⟨n.toArray⟩,ra,k,rc⟩,rfl,h6,Below.kp1 dt.o k6 (by omega)⟩
  |clear pp14b;have x6:=pC (v0:=.bool false) (v1:=.string ⟨n.toArray⟩) (v2:=.slice ra k rc) lJ.o;have k6:=eD (W:=wr) (b:=w.heap.size+1) (v0:=.bool false) (v1:=.string ⟨n.toArray⟩) (v2:=.slice ra k rc);obtain ⟨W6,da⟩:=am (((wr.setCell ⟨w.heap.size+1,0,none⟩ (.bool false)).setCell ⟨w.heap.size+1,1,none⟩ (.string ⟨n.toArray⟩)).setCell ⟨w.heap.size+1,2,none⟩ (.slice ra k rc));rw[<-da]at x6 k6 ⊢;clear da;have g0:W6.cell? ⟨w.heap.size+1,0,none⟩=some (.bool false):=ai x6 0;have g1:W6.cell? ⟨w.heap.size+1,1,none⟩=some (.string ⟨n.toArray⟩):=ai x6 1;have g2:W6.cell? ⟨w.heap.size+1,2,none⟩=some (.slice ra k rc):=ai x6 2;have hz:=(bz jo.o);have h6:TermV (w.heap.size<=·) W6 (TQ.val ⟨false,⟨n.toArray⟩,ra,k,rc⟩) (.mk false n (a.map (fR f))):=(HR.o.kp1 k6 (by omega)).term d_.o.size;refine bJ (v:=TQ.val ⟨false,⟨n.toArray⟩,ra,k,rc⟩) (by simp[TQ.val,results,Tryz.results154,go_sem,g0,g1,g2]) rfl (⟨⟨⟨false,⟨n.toArray⟩,ra,k,rc⟩,rfl,h6⟩,Below.kp1 dt.o k6 (by omega)⟩)
  |clear pp14c;have x6:=pC (v0:=.bool true) (v1:=.string ⟨n.toArray⟩) (v2:=.slice ra k rc) lJ.o;have k6:=eD (W:=wr) (b:=w.heap.size+1) (v0:=.bool true) (v1:=.string ⟨n.toArray⟩) (v2:=.slice ra k rc);obtain ⟨W6,da⟩:=am (((wr.setCell ⟨w.heap.size+1,0,none⟩ (.bool true)).setCell ⟨w.heap.size+1,1,none⟩ (.string ⟨n.toArray⟩)).setCell ⟨w.heap.size+1,2,none⟩ (.slice ra k rc));rw[<-da]at x6 k6 ⊢;clear da;have g0:W6.cell? ⟨w.heap.size+1,0,none⟩=some (.bool true):=ai x6 0;have g1:W6.cell? ⟨w.heap.size+1,1,none⟩=some (.string ⟨n.toArray⟩):=ai x6 1;have g2:W6.cell? ⟨w.heap.size+1,2,none⟩=some (.slice ra k rc):=ai x6 2;have hz:=(bz jo.o);have h6:TermV (w.heap.size<=·) W6 (TQ.val ⟨true,⟨n.toArray⟩,ra,k,rc⟩) (.mk true n (a.map (fR f))):=(HR.o.kp1 k6 (by omega)).term d_.o.size;refine bJ (v:=TQ.val ⟨true,⟨n.toArray⟩,ra,k,rc⟩) (by simp[TQ.val,results,Tryz.results154,go_sem,g0,g1,g2]) rfl (⟨⟨⟨true,⟨n.toArray⟩,ra,k,rc⟩,rfl,h6⟩,Below.kp1 dt.o k6 (by omega)⟩)
  |clear pp14d;have x6:=pC (v0:=.bool false) (v1:=.string ⟨n.toArray⟩) (v2:=.slice ra k rc) lJ.o;have k6:=eD (W:=wr) (b:=w.heap.size+1) (v0:=.bool false) (v1:=.string ⟨n.toArray⟩) (v2:=.slice ra k rc);obtain ⟨W6,da⟩:=am (((wr.setCell ⟨w.heap.size+1,0,none⟩ (.bool false)).setCell ⟨w.heap.size+1,1,none⟩ (.string ⟨n.toArray⟩)).setCell ⟨w.heap.size+1,2,none⟩ (.slice ra k rc));rw[<-da]at x6 k6 ⊢;clear da;have g0:W6.cell? ⟨w.heap.size+1,0,none⟩=some (.bool false):=ai x6 0;have g1:W6.cell? ⟨w.heap.size+1,1,none⟩=some (.string ⟨n.toArray⟩):=ai x6 1;have g2:W6.cell? ⟨w.heap.size+1,2,none⟩=some (.slice ra k rc):=ai x6 2;have hz:=(bz jo.o);have h6:TermV (w.heap.size<=·) W6 (TQ.val ⟨false,⟨n.toArray⟩,ra,k,rc⟩) (.mk false n (a.map (cQ kd.ts sc))):=(HR.o.kp1 k6 (by omega)).term d_.o.size;refine bJ (v:=TQ.val ⟨false,⟨n.toArray⟩,ra,k,rc⟩) (by simp[TQ.val,results,Tryz.results127,go_sem,g0,g1,g2]) rfl (⟨⟨⟨false,⟨n.toArray⟩,ra,k,rc⟩,rfl,h6⟩,Below.kp1 dt.o k6 (by omega)⟩)
  |clear pp14e;have x6:=pC (v0:=.bool true) (v1:=.string ⟨n.toArray⟩) (v2:=.slice ra k rc) lJ.o;have k6:=eD (W:=wr) (b:=w.heap.size+1) (v0:=.bool true) (v1:=.string ⟨n.toArray⟩) (v2:=.slice ra k rc);obtain ⟨W6,da⟩:=am (((wr.setCell ⟨w.heap.size+1,0,none⟩ (.bool true)).setCell ⟨w.heap.size+1,1,none⟩ (.string ⟨n.toArray⟩)).setCell ⟨w.heap.size+1,2,none⟩ (.slice ra k rc));rw[<-da]at x6 k6 ⊢;clear da;have g0:W6.cell? ⟨w.heap.size+1,0,none⟩=some (.bool true):=ai x6 0;have g1:W6.cell? ⟨w.heap.size+1,1,none⟩=some (.string ⟨n.toArray⟩):=ai x6 1;have g2:W6.cell? ⟨w.heap.size+1,2,none⟩=some (.slice ra k rc):=ai x6 2;have hz:=(bz jo.o);have h6:TermV (w.heap.size<=·) W6 (TQ.val ⟨true,⟨n.toArray⟩,ra,k,rc⟩) (.mk true n (a.map (cQ kd.ts sc))):=(HR.o.kp1 k6 (by omega)).term d_.o.size;refine bJ (v:=TQ.val ⟨true,⟨n.toArray⟩,ra,k,rc⟩) (by simp[TQ.val,results,Tryz.results127,go_sem,g0,g1,g2]) rfl (⟨⟨⟨true,⟨n.toArray⟩,ra,k,rc⟩,rfl,h6⟩,Below.kp1 dt.o k6 (by omega)⟩)
  |clear pp14f;have x6:=pC (v0:=.bool false) (v1:=.string ⟨n.toArray⟩) (v2:=.slice ra k rc) lJ.o;have k6:=eD (W:=wr) (b:=w.heap.size+1) (v0:=.bool false) (v1:=.string ⟨n.toArray⟩) (v2:=.slice ra k rc);obtain ⟨W6,da⟩:=am (((wr.setCell ⟨w.heap.size+1,0,none⟩ (.bool false)).setCell ⟨w.heap.size+1,1,none⟩ (.string ⟨n.toArray⟩)).setCell ⟨w.heap.size+1,2,none⟩ (.slice ra k rc));rw[<-da]at x6 k6 ⊢;clear da;have g0:W6.cell? ⟨w.heap.size+1,0,none⟩=some (.bool false):=ai x6 0;have g1:W6.cell? ⟨w.heap.size+1,1,none⟩=some (.string ⟨n.toArray⟩):=ai x6 1;have g2:W6.cell? ⟨w.heap.size+1,2,none⟩=some (.slice ra k rc):=ai x6 2;have hz:=(bz jo.o);have h6:TermV (w.heap.size<=·) W6 (TQ.val ⟨false,⟨n.toArray⟩,ra,k,rc⟩) (.mk false n (a.map aM)):=(HR.o.kp1 k6 (by omega)).term d_.o.size;refine bJ (v:=TQ.val ⟨false,⟨n.toArray⟩,ra,k,rc⟩) (by simp[TQ.val,results,Tryz.results69,go_sem,g0,g1,g2]) rfl (⟨⟨false,⟨n.toArray⟩,ra,k,rc⟩,rfl,h6,Below.kp1 dt.o k6 (by omega)⟩)
  |have x6:=pC (v0:=.bool true) (v1:=.string ⟨n.toArray⟩) (v2:=.slice ra k rc) lJ.o;have k6:=eD (W:=wr) (b:=w.heap.size+1) (v0:=.bool true) (v1:=.string ⟨n.toArray⟩) (v2:=.slice ra k rc);obtain ⟨W6,da⟩:=am (((wr.setCell ⟨w.heap.size+1,0,none⟩ (.bool true)).setCell ⟨w.heap.size+1,1,none⟩ (.string ⟨n.toArray⟩)).setCell ⟨w.heap.size+1,2,none⟩ (.slice ra k rc));rw[<-da]at x6 k6 ⊢;clear da;have g0:W6.cell? ⟨w.heap.size+1,0,none⟩=some (.bool true):=ai x6 0;have g1:W6.cell? ⟨w.heap.size+1,1,none⟩=some (.string ⟨n.toArray⟩):=ai x6 1;have g2:W6.cell? ⟨w.heap.size+1,2,none⟩=some (.slice ra k rc):=ai x6 2;have hz:=(bz jo.o);have h6:TermV (w.heap.size<=·) W6 (TQ.val ⟨true,⟨n.toArray⟩,ra,k,rc⟩) (.mk true n (a.map aM)):=(HR.o.kp1 k6 (by omega)).term d_.o.size;refine bJ (v:=TQ.val ⟨true,⟨n.toArray⟩,ra,k,rc⟩) (by simp[TQ.val,results,Tryz.results69,go_sem,g0,g1,g2]) rfl (⟨⟨true,⟨n.toArray⟩,ra,k,rc⟩,rfl,h6,Below.kp1 dt.o k6 (by omega)⟩)
 |clear pp185b;have pp85:=();exact pm85
 |clear pp185c;exact pm85
 |have x2:=hF.box;have x1:=hF.other (by omega) Lo.o;obtain ⟨c0,c1,c2,c3⟩:=mm x2;obtain ⟨e0,e1,e2,e3,z0,z1,z2,z3⟩:=dp x1;have lJ:=ae x1;have Np:=ae (UR.o.kp1 hF.kp (by have:=w_.o;omega));have dt:=ae ar;clear jG ct hF x1 x2 ar;gi_wp2;have x6:=kP (v0:=.int .u8 so) (v1:=.string ⟨n.toArray⟩) (v2:=.slice fJ k1 fK) (v3:=.slice ra k rc) lJ.o;have k6:=dA (W:=wr) (b:=w.heap.size+1) (v0:=.int .u8 so) (v1:=.string ⟨n.toArray⟩) (v2:=.slice fJ k1 fK) (v3:=.slice ra k rc);obtain ⟨W6,da⟩:=am ((((wr.setCell ⟨w.heap.size+1,0,none⟩ (.int .u8 so)).setCell ⟨w.heap.size+1,1,none⟩ (.string ⟨n.toArray⟩)).setCell ⟨w.heap.size+1,2,none⟩ (.slice fJ k1 fK)).setCell ⟨w.heap.size+1,3,none⟩ (.slice ra k rc));rw[<-da]at x6 k6 ⊢;clear da;have g0:W6.cell? ⟨w.heap.size+1,0,none⟩=some (.int .u8 so):=ai x6 0;have g1:W6.cell? ⟨w.heap.size+1,1,none⟩=some (.string ⟨n.toArray⟩):=ai x6 1;have g2:W6.cell? ⟨w.heap.size+1,2,none⟩=some (.slice fJ k1 fK):=ai x6 2;have g3:W6.cell? ⟨w.heap.size+1,3,none⟩=some (.slice ra k rc):=ai x6 3;have hz:=w_.o;have h6:FormV (w.heap.size<=·) W6 (FQ.val ⟨so,⟨n.toArray⟩,fJ,k1,fK,ra,k,rc⟩) (.mk so n (a.map (cQ kd.ts c)) (ss.map (cM kd c))):=RowF.form (Np.o.kp1 k6 (by omega)) (HR.o.kp1 k6 (by have:=xd.o;omega)) d_.o.size (by have:=xd.o;have:=d_.o.size;omega);refine bJ (v:=FQ.val ⟨so,⟨n.toArray⟩,fJ,k1,fK,ra,k,rc⟩) (by simp[FQ.val,results,Tryz.results72,go_sem,g0,g1,g2,g3]) rfl (⟨⟨⟨so,⟨n.toArray⟩,fJ,k1,fK,ra,k,rc⟩,rfl,vr.o ▸ h6⟩,Below.kp1 dt.o k6 (by omega)⟩)):G:=h
theorem pm186(h:G:=by
 rcases Z9.o with ⟨rfl,rfl,rfl⟩ | ⟨b,off,rfl⟩
 ·exact .inl ⟨rfl,rfl,by rw[jk E8.o.symm];rfl⟩
 ·exact .inr ⟨_,rfl,by rw[iu,<-E8.o],(AE.o.later oU).olds⟩):G:=h
theorem pm187(h:G:=by
 simp only[FQ.val,cE,Array.mk.injEq,cB,and_true,Value.int.injEq,true_and,Value.string.injEq]at h1 h2;obtain ⟨rfl,rfl,rfl,rfl⟩:=h1;obtain ⟨rfl,rfl,rfl,rfl⟩:=h2
 first
 |clear pp187;obtain rfl:=NT.len;obtain rfl:=Ku.len;simp only at gU;obtain rfl:=gU.1.len;obtain ⟨X,hX⟩:∃X:Pl,X=⟨.mk Rr sn KD ss,.mk Z0 fn TB fs,ps.reverse⟩:=⟨_,rfl⟩;obtain ⟨xA,B8⟩:∃xA:Sco,xA=(if bU Rr then (sn,fn) :: ps.reverse else ps.reverse):=⟨_,rfl⟩;have ly:bA ps.reverse (.mk Rr sn KD ss) (.mk Z0 fn TB fs)=[X] ++ aT xA ss fs:=by rw[hX,B8];unfold bA;rfl
  rw[ly]at dn ⊢;have em:=On.subs.len;have tk:nodesF (.mk Rr sn KD ss)=nodesTs KD+nodesFs ss+1:=by unfold nodesF;rfl
  have mY:∀ t∈ss,ps.length+1+nodesF t<=1000000:=fun t ht=>by have:=lA ss t ht;omega
  obtain ⟨m0,eh⟩:=am (min ss.length fs.length);obtain ⟨sm,xy⟩:=am ss.length;obtain ⟨fm,Bm⟩:=am fs.length;obtain ⟨cl,hcl⟩:=am ps.length;have zcc:ss.length<=1000000:=by have:=pw ss;omega
  simp only[PlQ.val,PlQ.cells];rw[<-hcl]at gU;rw[<-xy]at NT zcc sO;rw[<-Bm]at Ku em Bl;rw[<-xy,<-Bm]at eh;rw[<-xy,<-Bm,<-hcl];obtain ⟨W1,bX⟩:=am (W.alloc (.cells #[.int .u8 Rr,.string ⟨sn.toArray⟩,.slice sa sl sc,.slice sb sm se,.int .u8 Z0,.string ⟨fn.toArray⟩,.slice fa fl fc,.slice fb fm fe,.slice ca cl cc] 89));have il:=cZ bX;have Hi:J pre W1:=hJ pre _ _ (Nw.below il) hj;have wg:=cb bX;have hWM:W.heap.size<W1.heap.size/\¬M W.heap.size:=⟨by rw[bX];simp,fun h=>by have:=hM _ h;omega⟩;have sN:=hY pre #[PlQ.val ⟨⟨Rr,⟨sn.toArray⟩,sa,sl,sc,sb,sm,se⟩,⟨Z0,⟨fn.toArray⟩,fa,fl,fc,fb,fm,fe⟩,ca,cl,cc⟩] X W1 Hi (Kp.below il) ⟨_,ps,rfl,by rw[hX],by omega,by rw[hX];exact sO.kp (Kp.below il),by rw[hX];exact Bl.kp (Kp.below il),gU.kp (Kp.below il)⟩ (jq dn);simp only[PlQ.val,PlQ.cells]at sN;obtain ⟨fS,TC⟩:=a_ ih On.subs;have xg:=bG mq mY hcl;have AA:=aG hM hl;have HJ:=aG hJ ZZ;obtain ⟨HY,HSs,Yk,HP⟩:=eW hY NT Ku gU;have DV:=gU.1.cap;have nc:=ae dn;have gV:=bG eh xy Bm;obtain ⟨jo,d_,HWM,Z1,iR⟩:=wV wg il hWM B8 bX;have Z2:=ae (show (pre ++ [X]) <+: xs from jq dn);obtain ⟨yfn,tmps,assign,body,hy,FC⟩:=jl 2 sN;rw[bX]at hy FC;clear sO Bl gU hsa E' NT Ku On ih eh xy Bm hcl hj il Hi sN hJ ZZ hM hl hY dn ly hX B8 wg hWM bX mY tk mq;refine ml Tryz.func103 ?_;simp only[Tryz.ntmps103,Nat.reduceAdd,Nat.reduceSub,kM];have g_:=eM;gi_wp2;refine FC.mono ?_;rintro e W2 (⟨rfl,wd,io⟩ | ⟨rfl,Z3,io⟩)
  ·rw[<-iR.o]at io;have o9:=(io.same _ HWM.o.1 HWM.o.2).trans jo.o;obtain ⟨P0,P1,P2,P3,P4,P5,P6,P7,P8⟩:=hZ (q:=⟨⟨Rr,⟨sn.toArray⟩,sa,sl,sc,sb,sm,se⟩,⟨Z0,⟨fn.toArray⟩,fa,fl,fc,fb,fm,fe⟩,ca,cl,cc⟩) o9;have CQ:=eI ⟨Rr,⟨sn.toArray⟩,sa,sl,sc,sb,sm,se⟩ W2;simp only[FQ.val]at CQ;have Hk:=ae CQ;have H2:=bG wd ((Kp.below d_.o).trans io) o9;simp only at P0 P1 P2 P3 P4 P5 P6 P7 P8;clear wd io o9 CQ FC hy;gi_wp2_with fail;refine aK.2 (Hk.o.mono ?_);rintro e W3 ⟨rfl,aL⟩;clear P0 P1 P2 P3 P4 P5 P6 P7 P8;have uG:=aG (HJ.o.1 _ _ _ ((Nw.below aL)) (show J (pre ++ [X]) W2 from H2.o.1)) (H2.o.2.1.trans (Kp.below aL));have gu:=ae (bR aL H2.o.2.2)
   cases o_:bU Rr with
   | false=>
    have AV:=ae (show ps.reverse=xA by rw[Z1.o,o_];rfl);have zi:=uG;have MZ:=gu;have HPz:=ae (HP.o.kp uG.o.2);have p3:=ai gu.o 3;have p7:=ai gu.o 7;clear aL o_;gi_wp2;clear p3 p7;gi_loopw [40] (fun i wr=>∃k:Nat,k<=m0/\i=.int .i64 k/\J (pre ++ ([X] ++ aT xA (ss.take k) (fs.take k))) wr/\Kp M W3 wr) (fun i _=>m0 - (intOf i).toNat)
    case atStart=>exact ⟨0,bc _,rfl,by simpa[aT] using zi.o.1,Kp.refl _⟩
    case round=>
     have pp193f:=();exact pm193
   | true=>
    have AV:=ae (show (ps ++ [(sn,fn)]).reverse=xA by rw[Z1.o,o_];simp);have MV:=(HP.o.kp uG.o.2).1.cases;have Zs:=ae MV;have hold:((.slice ca cl cl:Value)=.slice none 0 0/\cl=0/\gS ps=[])\/∃b,(.slice ca cl cl:Value)=.slice (some b) cl cl/\(gS ps).length=cl * 2/\∀ j u,(gS ps)[j]?=some u->(W3.alloc (.cells #[.string ⟨sn.toArray⟩,.string ⟨fn.toArray⟩] 213)).drew.cell? (b.add j)=some u:=by
     rcases MV with ⟨rfl,rfl,rfl⟩ | ⟨b,off,rfl⟩
     ·exact .inl ⟨rfl,rfl,by rw[jk xg.o.2.2.symm];rfl⟩
     ·exact .inr ⟨_,rfl,by rw[iu,<-xg.o.2.2],((HP.o.kp uG.o.2).1.later (((ak W3.heap.size W3).alloc (aI _) _).drew)).olds⟩
    have N3:=ae hold;have zej:cl<=1000000:=by have:=xg.o.1;have:=xg.o.2.2;omega
    obtain ⟨S,hS⟩:∃S:World->Prop,S=fun V=>Below W3.heap.size W3 V:=⟨_,rfl⟩;have f1:∀ V,S V->V.cell? ⟨W.heap.size,1,none⟩=some (.string ⟨sn.toArray⟩):=fun V h=>by rw[hS]at h;exact aa h (ai gu.o 1)
    have f5:∀ V,S V->V.cell? ⟨W.heap.size,5,none⟩=some (.string ⟨fn.toArray⟩):=fun V h=>by rw[hS]at h;exact aa h (ai gu.o 5)
    have dO:S W3.drew:=by rw[hS];exact (ak _ _).drew
    have dh:=ae hS;clear hS hold MV o_ aL;gi_wp2;refine lg S 14 dO fun jp bN=>?_;refine bC 0 16 (.slice ca cl cc) rfl bN fun cq=>?_;simp only[ag];refine bC 1 17 (.slice ca cl cc) rfl cq fun fI=>?_;simp only[ag];refine bC 2 18 (.int .i64 (cl:Int)) rfl fI fun gF=>?_;simp only[ag];refine bC 3 19 (.slice ca cl cc) rfl gF fun iG=>?_;simp only[ag];refine bC 4 20 (.int .i64 (cl:Int)) rfl iG fun jx=>?_;simp only[ag];refine c9 5 21 (.slice ca cl cl) rfl (fun V hX=>by rcases Zs.o with ⟨rfl,rfl,rfl⟩ | ⟨b,off,rfl⟩ <;> go_simp) jx fun jM=>?_;simp only[ag];refine bC 6 22 (.pointer (some ⟨W.heap.size,0,none⟩)) rfl jM fun mi=>?_;simp only[ag];refine bC 7 23 (.pointer (some ⟨W.heap.size,1,none⟩)) rfl mi fun rA=>?_;simp only[ag];refine c9 8 24 (.string ⟨sn.toArray⟩) rfl (fun V hX=>by have g0:=f1 V hX;go_simp) rA fun I1=>?_;simp only[ag];refine bC 9 25 (.pointer (some ⟨W.heap.size,4,none⟩)) rfl I1 fun Bn=>?_;simp only[ag];refine bC 10 26 (.pointer (some ⟨W.heap.size,5,none⟩)) rfl Bn fun I2=>?_;simp only[ag];refine c9 11 27 (.string ⟨fn.toArray⟩) rfl (fun V hX=>by have g0:=f5 V hX;go_simp) I2 fun Oo=>?_;simp only[ag];refine bC 12 28 (.agg #[.string ⟨sn.toArray⟩,.string ⟨fn.toArray⟩]) rfl Oo fun Rs=>?_;simp only[ag];refine bZ 13 rfl fun K hK=>?_;go_simp;have oU:Below W3.heap.size W3 (W3.alloc (.cells #[.string ⟨sn.toArray⟩,.string ⟨fn.toArray⟩] 213)).drew:=((ak _ W3).alloc (aI _) _).drew;refine hK _ _ (fun _=>by rw[dh.o];exact oU) (fun _=>?_);clear hK K;refine bZ 14 rfl fun K hK=>?_;refine iv (.tmp 21) (.tmp 29) 87 rfl 213 i0 (.agg #[.string ByteArray.empty,.string ByteArray.empty]) 2 32 Tryz.underlying87 hi nM i_ ig rfl (by decide) (.slice ca cl cl) cl (gS ps) rfl N3.o ⟨W3.heap.size,0,none⟩ 1 1 [.string ⟨sn.toArray⟩,.string ⟨fn.toArray⟩] rfl rfl (c_ (cs:=#[.string ⟨sn.toArray⟩,.string ⟨fn.toArray⟩]) (t:=213) (fr:=(0,0)) (fP W3 _)) (by simp[Value.oneCell']) (by decide) (by unfold maxLen;omega) (by omega) ?_;intro g cap X5 au ao;have y':Below W3.heap.size W3 X5:=⟨ao.os.trans oU.os,ao.tape.trans oU.tape,ao.output.trans oU.output,aN oU.size ao.size,fun b hb=>(ao.block b (bE hb oU.size) (by simp)).trans (oU.block b hb)⟩;rw[<-lm (sn,fn) ps]at au;have uD:(W3.alloc (.cells #[.string ⟨sn.toArray⟩,.string ⟨fn.toArray⟩] 213)).drew.heap.size<=g/\g<X5.heap.size:=au.lt g rfl;have hzz:(W3.alloc (.cells #[.string ⟨sn.toArray⟩,.string ⟨fn.toArray⟩] 213)).drew.heap.size=W3.heap.size+1:=by show (W3.alloc _).heap.size=_;simp
    have HPz:=ae (show PairsN M X5 (.slice (some ⟨g,0,none⟩) (cl+1) cap) (ps ++ [(sn,fn)]) from ⟨PairsV.own au,fun b hb hm=>by
     obtain rfl:g=b:=by simpa[Value.ownBlock] using hb
     have:=AA.o.1 g hm;have:=uG.o.2.size;omega⟩)
    have zi:=aG (HJ.o.1 _ _ _ ((Nw.below y').mono uG.o.2.size) uG.o.1) (uG.o.2.trans (Kp.below y'));have MZ:=ae (bR y' gu.o);clear au ao oU y' uD hzz;refine eN hK ?_;clear hK K;refine bZ 15 rfl fun K hK=>?_;go_simp;refine eN hK ?_;clear hK K;refine kz ?_;have p3:=ai MZ.o 3;have p7:=ai MZ.o 7;clear f1 f5 dO dh bN jp;gi_wp2;clear p3 p7;gi_loopw [40] (fun i wr=>∃k:Nat,k<=m0/\i=.int .i64 k/\J (pre ++ ([X] ++ aT xA (ss.take k) (fs.take k))) wr/\Kp M X5 wr) (fun i _=>m0 - (intOf i).toNat)
    case atStart=>exact ⟨0,bc _,rfl,by simpa[aT] using zi.o.1,Kp.refl _⟩
    case round=>
     exact pm193
  ·have HH:=aG Z3 io;clear Z3 io FC hy;gi_wp2;go_ret;refine .inr ⟨rfl,_,Z2.o,HH.o.1,?_⟩;have h:=HH.o.2;rw[<-iR.o]at h;exact ((Kp.below d_.o).from _).trans h
 |obtain rfl:=fL.len;obtain rfl:=IC.len;obtain rfl:=E9.len;obtain rfl:=hys.len;obtain ⟨pa,pl,pc,rfl⟩:∃pa pl pc,v=.slice pa pl pc:=by obtain ⟨a,c,h,_⟩:=hp;exact ⟨_,_,_,h⟩
  obtain rfl:=hp.len;have E':=hf.args;have Ku:=hf.subs;have cm:=E'.len;have em:=Ku.len;have DV:=hp.cap;have hm:=LY ps.reverse uo vo xn yn xa ya xs ys;obtain ⟨R,hR⟩:=am (ea ps.reverse (.mk uo xn xa xs) (.mk vo yn ya ys));rw[<-hR]at hm ⊢;have Rz:=Eb uo xn xa xs;obtain ⟨D,hD⟩:=am (gD (.mk uo xn xa xs));rw[<-hD]at Rz gU;obtain ⟨k0,cg⟩:=am xa.length;obtain ⟨m0,eh⟩:=am ya.length;obtain ⟨k1,kC⟩:=am xs.length;obtain ⟨m1,jz⟩:=am ys.length;obtain ⟨p0,mZ⟩:=am ps.length;have VI:ps.length<=1000000000:=by omega
  have hp9:p0<=1000000000:=by omega
  rw[<-cg,<-eh,<-kC,<-jz]at hm;rw[<-cg]at cm;rw[<-kC]at em;rw[<-mZ]at DV;rw[<-cg]at fL;rw[<-eh]at IC;rw[<-kC]at E9;rw[<-jz]at hys;rw[<-mZ]at hp;rw[<-cg,<-eh,<-kC,<-jz,<-mZ];obtain ⟨dB,gV,OA,Hq,E8,Th,X9,Ta,HYs,HP⟩:=Nd cg eh kC jz mZ fL IC E9 hys hp;obtain ⟨fS,TG,Yk⟩:=cG ih E' Ku;clear hR cg eh kC jz mZ fL IC E9 hys hp ih hf E' Ku hq mM hD;obtain ⟨W2,bm⟩:=am ((w.alloc (.cells #[.int .u8 uo,.string ⟨xn.toArray⟩,.slice ua k0 uc,.slice ub k1 ue] 36)).alloc (.cells #[.int .u8 vo,.string ⟨yn.toArray⟩,.slice va m0 vc,.slice vb m1 ve] 36));have bD:=lF bm;have HX:Hd (W2.heap[w.heap.size]?=some (.cells #[.int .u8 uo,.string ⟨xn.toArray⟩,.slice ua k0 uc,.slice ub k1 ue] 36 (0,0))):=ae (by rw[bm];exact (bI _ _ _ (by simp)).trans (aj rfl));have HY:Hd (W2.heap[w.heap.size+1]?=some (.cells #[.int .u8 vo,.string ⟨yn.toArray⟩,.slice va m0 vc,.slice vb m1 ve] 36 (0,0))):=ae (by rw[bm];exact aj (by simp));obtain ⟨cO,gK⟩:=a_ bD bm;have TH:=ae (fun (W:World)=>eI ⟨uo,⟨xn.toArray⟩,ua,k0,uc,ub,k1,ue⟩ W);unfold FQ.val at TH;simp only at TH;clear bD bm;unfold FQ.val
  by_cases LD:uo=vo/\k0=m0/\k1=m1
  ·obtain ⟨rfl,rfl,rfl⟩:=LD;simp only[beq_self_eq_true,Bool.and_self,dU]at hm;have e0:(uo == uo)=true:=by simp
   have e1:(uo != uo)=false:=by simp
   have e2:((k0:Int) != (k0:Int))=false:=by simp
   have e3:((k1:Int) != (k1:Int))=false:=by simp
   obtain ⟨qb,M0⟩:=am (bU uo);rw[<-M0]at hm TH
   by_cases VJ:((xn == yn) || qb)=true
   ·simp only[VJ,dU]at hm;clear M0;have pp277a:=();exact pm277
   ·have NS:R=false:=by rw[hm];rw[Bool.not_eq_true]at VJ;rw[VJ];simp
    simp at VJ;obtain ⟨dG,rfl⟩:=VJ;have iP:(xn == yn)=false:=by simpa using dG
    have kK:(!(xn == yn))=true:=by simpa using dG
    have HE:=ae NS;clear hm NS dG M0;have pp277b:=();exact pm277
  ·have NS:R=false:=by
    rw[hm]
    by_cases h1:uo=vo
    ·by_cases h2:k0=m0
     ·have h3:¬k1=m1:=fun h=>LD ⟨h1,h2,h⟩;simp[h3]
     ·simp[h2]
    ·simp[h1]
   have HE:=ae NS;clear hm NS;exact pm277):G:=h
theorem pm188(h:G:=by
 obtain ⟨es,hD,UZ,_⟩:=au.entries (Maps.string_keyed Tryz.underlying9);obtain ⟨Q6,NE,U0⟩:=au.keysOf;obtain rfl:es=Q6:=by rw[hD]at NE;simpa using NE
 first
 |clear pp188;have mZ:(dF xs).Perm (strKeys D0):=by
   rw[hD];refine perm_strKeys UZ (fun p hp=>by obtain ⟨v,hv⟩:=U0 p hp;obtain ⟨x,_,hx,_⟩:=Maps.keyOf_str Tryz.underlying9 hv;exact ⟨x,hx⟩) (fW (rY xs)) (fun x=>?_);rw[dH,<-hD,yr]
  refine (aK.1 cS).mono ?_;rintro e w' ⟨v,ss,rfl,hS,ek,NG,hb⟩;have ly:ss.Perm (dF xs):=hS.trans mZ.symm;have jJ:ss.length=(dF xs).length:=ly.length_eq;refine ⟨v,rfl,⟨?_,?_⟩,((ak _ W).alloc (aI _) _).trans (hb.mono (by simp))⟩
  ·rw[yH ly,jJ]at ek;exact ownsRow_base_a ek (by simp)
  ·rw[NG];constructor
   ·intro h;rw[h]at jJ;exact jk jJ.symm
   ·intro h;rw[h]at jJ;exact jk jJ
 |have yr:∀ x:Str,Maps.has D0 (.string x)=true ↔ x∈l.map (·.1):=fun x=>by
   cases hg:getB l x with
   | none=>rw[(hx x).1 hg];simp only[dE,false_iff];exact (gG l x).1 hg
   | some a=>
    have h1:x∈l.map (·.1):=by
     by_cases h:x∈l.map (·.1)
     ·exact h
     ·rw[(gG l x).2 h]at hg;cases hg
    exact ⟨fun _=>h1,fun _=>((hx x).2 a hg).1⟩
  have mZ:(dF (l.map (·.1))).Perm (strKeys D0):=by
   rw[hD];refine perm_strKeys UZ (fun p hp=>by obtain ⟨v,hv⟩:=U0 p hp;obtain ⟨x,_,hx,_⟩:=Maps.keyOf_str Tryz.underlying9 hv;exact ⟨x,hx⟩) (fW (rY _)) (fun x=>?_);rw[dH,<-hD,yr]
  refine (aK.1 cS).mono ?_;rintro e w' ⟨v,ss,rfl,hS,ek,NG,hb⟩;have ly:ss.Perm (dF (l.map (·.1))):=hS.trans mZ.symm;have jJ:ss.length=(dF (l.map (·.1))).length:=ly.length_eq;have hu:=Ev hup;refine ⟨v,rfl,⟨?_,?_⟩,((ak _ W).alloc (aI _) _).trans (hb.mono (by simp))⟩
  ·rw[yH ly,jJ,hu]at ek;exact ownsRow_base_a ek (by simp)
  ·rw[NG];rw[hu]at jJ;constructor
   ·intro h;rw[h]at jJ;exact jk jJ.symm
   ·intro h;rw[h]at jJ;exact jk jJ):G:=h
theorem pm189(h:G:=by
 have hr:r.length<=1000000000:=by simp at hn;omega
 have hs:=gQ (63 :: r);have hx:=jh 63 r;simp at hs hx;have h1:((1:Int)<=((63 :: r).length:Int)):=by simp;omega
 first
 |clear pp189;clear h hp;go_enter Tryz.func123,Tryz.ntmps123;go_wp2_with (first | (go_at_call 191;refine (CP.o _).mono ?_;rintro e w' ⟨rfl,rfl⟩) | (go_at_call 152;refine (ik r _ hr).mono ?_;rintro e w' ⟨rfl,hb⟩));go_ret;exact ⟨rfl,hb⟩
 |clear h
  first
  |clear pp103;go_enter Tryz.func65,Tryz.ntmps65;go_wp2_with (first | (go_at_call 119;refine (C1.o _).mono ?_;rintro e w' ⟨rfl,hb⟩) | (go_at_call 120;refine (mH r _ hr).mono ?_;rintro e Dr ⟨rfl,bD⟩));go_ret;exact ⟨by simp,hb.trans (bD.mono hb.size)⟩
  |go_enter Tryz.func67,Tryz.ntmps67;go_wp2_with (first | (go_at_call 119;refine (C1.o _).mono ?_;rintro e w' ⟨rfl,hb⟩) | (go_at_call 121;refine (lj r _ hr).mono ?_;rintro e Dr ⟨rfl,bD⟩));go_ret;exact ⟨by simp,hb.trans (bD.mono hb.size)⟩):G:=h
theorem pm190(h:G:=by
 have l2:=(hlk (W1.alloc (.cells #[.int .u8 0,.string ⟨#[]⟩,.slice none 0 0,.slice none 0 0] 36)).drew (bI _ _ _ (by have:=sC.fs.lt;omega))).1
 first
 |clear pp190;obtain ⟨W2,bm⟩:=am (W1.alloc (.cells #[.int .u8 0,.string ⟨#[]⟩,.slice none 0 0,.slice none 0 0] 36)).drew;have HE:=ae (show R=(k,71) by rw[HR.o];simp only[hg]);have cO:=ae (show Below W.heap.size W W2 by rw[bm];exact hb1.tr oZ.drew);clear pN hR hp QG QF QH VM VN hs hf h_ lV hc dS dX jz qY pE hl gU bX hb1 i_ az kT rk zw qJ Fd sC hlk hg oZ fL Hs Em aU wC Gt M5 x1;have pp141a:=();exact pm141
 |obtain ⟨W2,bm⟩:=am (W1.alloc (.cells #[.int .u8 Ec,.string Ed,.slice Ee Ef Eg,.slice Eh Ei Ej] 36)).drew;have bD:Below W1.heap.size W1 W2:=by rw[bm];exact cJ.drew
  have vK:=hb1.tr bD;have x2:W2.heap[W1.heap.size]?=some (.cells #[.int .u8 Ec,.string Ed,.slice Ee Ef Eg,.slice Eh Ei Ej] 36 (0,0)):=by rw[bm];exact aj rfl
  have xp:=bR bD x1;obtain ⟨I,hI⟩:=am (ii ps.reverse [] F);have I_:=HR.o;rw[hg,<-hI]at I_;simp only at I_;have CI:=Cn ⟨⟨16,⟨n.toArray⟩,sa,n1,sc,sb,m1,se⟩,⟨fo,fn,fa,fl,fc,fb,fm,fe⟩,ca,cl,cc⟩ ps hl gU F az [] [] (by have:=az.1;simp;omega) (fun _=>rfl) (.slice none 0 0) (fun b=>¬M b) W2 ⟨fo,fn,fa,fl,fc,fb,fm,fe⟩ (hc.1.later vK) (Cz _) (hf.later vK);rw[<-hI]at CI;simp only[PlQ.val,PlQ.cells,FQ.val]at CI;have HC:=ae CI;have ig:W1.heap.size<W2.heap.size:=(bz x2);have Rq:dW (fun b=>¬M b) (fun b=>¬M b/\b≠W1.heap.size) W1 W2:=fun b hb hlt=>⟨⟨hb,by omega⟩,bD.block b hlt⟩
  have xE:=aG Gm (ot.move Rq);have w_:=fh sC.ltb sC.fs.lt sC.ts.lt ig i_;have Mf:=ae zw;have H2:=cC bD vK x2 xp;have Zd:=ae (sC.move Rq (bD.block _ sC.ltb) (bD.block _ sC.fs.lt) (bD.block _ sC.ts.lt));have Tw:=ae (show ∀ im,I=some im->goodF im from fun im h=>zu HP.o (by rw[<-hI];exact h));have Jr:=ae I_;clear pN hR hp QG QF QH VM VN hs hf h_ lV hc dS dX jz qY pE hl gU bX hb1 i_ az kT rk zw qJ Fd sC hlk hg oZ fL Hs Em aU wC Gt M5 x1 CI I_ hI ot Gm bD vK x2 xp ig Rq;have pp141b:=();exact pm141):G:=h
theorem pm191(h:G:=by
 have l2:=(hlk (W5.alloc (.cells #[.int .u8 0,.string ⟨#[]⟩,.slice none 0 0,.slice none 0 0] 36)).drew (bI _ _ _ (by have:=ji.fs.lt;omega))).1
 first
 |clear pp191;obtain ⟨W6,da⟩:=am (W5.alloc (.cells #[.int .u8 0,.string ⟨#[]⟩,.slice none 0 0,.slice none 0 0] 36)).drew;have kl:Below W5.heap.size W5 W6:=by rw[da];exact bj.drew
  have Bq:Below W6.heap.size W6 W6.drew:=(ak _ _).drew;have Ox:=(ji.later kl).later Bq;obtain ⟨w7,cH,zm,nz,Z_⟩:=Ox.storeF (fun h=>h HG.o.1) (by have:=HB.o.1;omega) (x:=n) (by have:=HF.o.2.2.1;omega) ((Gl.later kl).later Bq) Tw.o (l':=fj n im k.fs) (fun y=>zk hg y);have zaa:Kp (N2 mF mT) W6.drew w7:=nz.mono (fun b _ h=>.inl h);have r0:=aa kl g0;have r1:=aa Bq r0;have r2:=aa kl g2;have r3:=aa Bq r2;obtain ⟨q0,q1,q2,q3,_,_,_,_⟩:=dp x7;have r4:=aa kl q0;have r5:=aa Bq r4;have r6:=aa kl q1;have r7:=aa Bq r6;have r8:=aa kl q2;have r9:=aa Bq r8;have r10:=aa kl q3;have r11:=aa Bq r10;have HE:=ae (show R=({ k with fs:=fj n im k.fs },0) by rw[I_];simp only[hg]);have TJ:=aG zm ((Kp.below (((H3.o.1.tr mQ).tr kl).tr Bq)).trans zaa);unfold FQ.val at cH;clear ji hlk Ox zm nz zaa Z_ hg mQ oX bj kl Bq x7 Gl I_ eP Iz;go_region
  all_goals
   rw[<-da];clear da;go_wp2;go_region;go_wp2;go_ret;exact StepPost.good (nF+1) nT HE.o TJ.o.2 (by omega) (by omega) TJ.o.1
 |obtain ⟨W6,da⟩:=am (W5.alloc (.cells #[.int .u8 Ec,.string Ed,.slice Ee Ef Eg,.slice Eh Ei Ej] 36)).drew;have kl:Below W5.heap.size W5 W6:=by rw[da];exact cJ.drew
  have x6:W6.heap[W5.heap.size]?=some (.cells #[.int .u8 Ec,.string Ed,.slice Ee Ef Eg,.slice Eh Ei Ej] 36 (0,0)):=by rw[da];exact aj rfl
  obtain ⟨q0,q1,q2,q3,_,_,_,_⟩:=dp x7;obtain ⟨r0,r1,r2,r3⟩:=mG kl q0 q1 q2 q3;obtain ⟨r4,r5,r6,r7,_,_,_,_⟩:=dp x6;have CA:=tM g im [] (.slice none 0 0) _ _ W6 ⟨Ec,Ed,Ee,Ef,Eg,Eh,Ei,Ej⟩ ⟨p0,p1,p2,p3,p4,p5,p6,p7⟩ (by have:=Gm.nodes;simp[gD];omega) Gm.fit (ot.later kl) (Gl.later kl) (PairsV.nil W6);simp only[FQ.val,List.reverse_nil]at CA;have HE:=ae (show R=if ea [] g im then (k,0) else (k,70) by rw[I_];simp only[hg]);obtain ⟨bb,cI⟩:=am (ea [] g im);rw[<-cI]at HE CA;have Ek:=ae CA;have I5:=aG (ji.later kl) ((H3.o.1.tr mQ).tr kl);clear ji hlk hg mQ oX bj kl x7 x6 Gl I_ eP Iz CA cI ot Gm;go_region
  all_goals
   rw[<-da];clear da;cases bb
   ·go_wp2_with (go_at_call 92;refine Ek.o.mono ?_;rintro e w7 ⟨rfl,fw⟩;have H7:=ae fw;clear fw);go_ret;exact StepPost.bad HE.o (by decide) (Kp.below (I5.o.2.tr H7.o))
   ·go_wp2_with (go_at_call 92;refine Ek.o.mono ?_;rintro e w7 ⟨rfl,fw⟩;have H7:=ae fw;clear fw);go_ret;exact StepPost.good nF nT HE.o (Kp.below (I5.o.2.tr H7.o)) (by omega) (by omega) (I5.o.1.later H7.o)):G:=h
theorem pm192(h:G:=by
 obtain ⟨b1,o1,⟨xv,xn,xa,xl,xc⟩,rfl,hok,hx,c0,c1,c2⟩:=VV.o.get lx
 first
 |clear pp192a;simp only at c0 c1 c2;obtain ⟨d0,d1,d2⟩:=ke ar c0 c1 c2;have pp96a:=();exact pm96
 |clear pp192b;have vC:=ar;simp only at c0 c1 c2;obtain ⟨d0,d1,d2⟩:=ke vC c0 c1 c2;have pp96b:=();exact pm96
 |clear pp192c;have vC:=H2.o.1.tr ar;simp only at c0 c1 c2;obtain ⟨d0,d1,d2⟩:=ke vC c0 c1 c2;have pp96c:=();exact pm96
 |have vC:=H2.o.1.tr ar;simp only at c0 c1 c2;obtain ⟨d0,d1,d2⟩:=ke vC c0 c1 c2;have pp96d:=();exact pm96):G:=h
theorem pm193(h:G:=by
 obtain ⟨k,hk,rfl,hj,bh⟩:=hrel
 by_cases hlt:k<m0
 first
 |clear pp193a
  ·have bp:=cF gV.o hlt;obtain ⟨b,off,u,rfl,iK,hu,c0,c1,c2,c3⟩:=fT.o.get bp;have pp275b:=();exact pm275
  ·obtain rfl:k=m0:=by omega
   have ht:s.take k=s:=by rw[gV.o];exact cV
   rw[ht]at hj;have HH:=aG hj bh;clear hj bh ht;gi_wp2;go_ret;exact ⟨rfl,HH.o.1,HH.o.2⟩
 |clear pp193b
  ·have bp:=cF gV.o hlt;have pp26a:=();exact pm26
  ·obtain rfl:m0=k:=by omega
   have pp153:=();exact pm153
 |clear pp193c
  ·have bp:=cF gV.o hlt;have pp26b:=();exact pm26
  ·obtain rfl:m0=k:=by omega
   have pp153:=();exact pm153
 |clear pp193d
  ·have bp:=cF gV.o hlt;have pp26c:=();exact pm26
  ·obtain rfl:m0=k:=by omega
   exact pm153
 |clear pp193e
  ·have bp:=cF gV.o hlt;exact pm26
  ·obtain rfl:m0=k:=by omega
   exact pm153
 |clear pp193f
  ·have vV:k<ss.length:=by have:=gV.o;omega
   have pp93:=();exact pm93
  ·obtain rfl:k=m0:=by omega
   exact pm117
 |·have vV:k<ss.length:=by have:=gV.o;omega
   exact pm93
  ·obtain rfl:k=m0:=by omega
   exact pm117):G:=h
theorem pm194(h:G:=by
 clear hS xb k0 r0 mlt hlk ot Gm hg Ht dG iO hF ct ar OX ck OY OW;have g_:=eM;go_wp2;clear dk;refine (wpIn_wide (n:=3)).1 ?_;refine lg S 12 dO fun jp bN=>?_
 first
 |clear pp194;refine bC 0 19 (.pointer (some ⟨w.heap.size+1,0,none⟩)) rfl bN fun cq=>?_
  simp only[ag];refine c9 1 20 (.slice ra j rc) rfl (fun V hX=>by obtain ⟨h0,h1,h2⟩:=ff V hX;go_simp) cq fun fI=>?_;simp only[ag];refine bC 2 21 (.string ⟨nm.toArray⟩) rfl fI fun gF=>?_;simp only[ag];refine bC 3 22 (.pointer (some ⟨kb,0,none⟩)) rfl gF fun iG=>?_;simp only[ag];refine bC 4 23 (.pointer (some ⟨kb,0,none⟩)) rfl iG fun jx=>?_;simp only[ag];refine bC 5 24 (.pointer (some ⟨kb,0,none⟩)) rfl jx fun jM=>?_;simp only[ag];refine c9 6 25 (.map (some mF)) rfl (fun V hX=>by obtain ⟨h0,h1,h2⟩:=ff V hX;go_simp) jM fun mi=>?_;simp only[ag];refine bC 7 26 (.string ⟨nm.toArray⟩) rfl mi fun rA=>?_;simp only[ag];refine c9 8 27 (.agg #[.int .u8 g0,.string g1,.slice g2 g3 g4,.slice g5 g6 g7]) rfl (fun V hX=>by obtain ⟨h0,h1,h2⟩:=ff V hX;go_simp) rA fun I1=>?_;simp only[ag];refine bZ 9 rfl fun K hK=>?_;go_simp;refine aK.2 ((HC.o _ (by have h:=bN;rw[dh.o]at h;exact h)).mono ?_);rintro _ A ⟨⟨p0,p1,p2,p3,p4,p5,p6,p7⟩,rfl,hp,hA⟩;have pp83:=();exact pm83
 |refine bC 0 45 (.pointer (some ⟨w.heap.size+1,1,none⟩)) rfl bN fun cq=>?_
  simp only[ag];refine c9 1 46 (.slice ra j rc) rfl (fun V hX=>by obtain ⟨h0,h1,h2⟩:=ff V hX;go_simp) cq fun fI=>?_;simp only[ag];refine bC 2 47 (.string ⟨nm.toArray⟩) rfl fI fun gF=>?_;simp only[ag];refine bC 3 48 (.pointer (some ⟨kb,0,none⟩)) rfl gF fun iG=>?_;simp only[ag];refine bC 4 49 (.pointer (some ⟨kb,0,none⟩)) rfl iG fun jx=>?_;simp only[ag];refine bC 5 50 (.pointer (some ⟨kb,1,none⟩)) rfl jx fun jM=>?_;simp only[ag];refine c9 6 51 (.map (some mT)) rfl (fun V hX=>by obtain ⟨h0,h1,h2⟩:=ff V hX;go_simp) jM fun mi=>?_;simp only[ag];refine bC 7 52 (.string ⟨nm.toArray⟩) rfl mi fun rA=>?_;simp only[ag];refine c9 8 53 (.agg #[.bool g0,.string g1,.slice g2 g3 g4]) rfl (fun V hX=>by obtain ⟨h0,h1,h2⟩:=ff V hX;go_simp) rA fun I1=>?_;simp only[ag];refine bZ 9 rfl fun K hK=>?_;go_simp;refine aK.2 ((HC.o _ (by have h:=bN;rw[dh.o]at h;exact h)).mono ?_);rintro _ A ⟨⟨p0,p1,p2,p3,p4⟩,rfl,hp,hA⟩;exact pm83):G:=h
theorem pm195(h:G:=by
 go_enter Tryz.func14,Tryz.ntmps14;go_wp2;go_ret;exact ⟨by rw[HE.o];rfl,by rw[<-HWW.o];exact iR.o.1⟩):G:=h
theorem pm196(h:G:=by
 have HF:=ae hf;have CR:=ae (fun w:World=>hr ▸ eC s w)
 first
 |clear pp196a;have CF:=ae (fun w:World=>hf ▸ Kb s[0].toNat w);clear hr hf;have pp43a:=();exact pm43
 |clear pp196b;have CF:=ae (fun w:World=>hf ▸ Kb s[0].toNat w);clear hr hf;have pp43b:=();exact pm43
 |clear pp196c;have CF:=ae (fun w:World=>hf ▸ Fu s[0].toNat w);clear hr hf;have pp43e:=();exact pm43
 |clear pp196d;have CF:=ae (fun w:World=>hf ▸ Fu s[0].toNat w);clear hr hf;have pp43f:=();exact pm43
 |clear pp196e;have CF:=ae (fun w:World=>hf ▸ yf s[0].toNat w);clear hr hf;have pp43g:=();exact pm43
 |have CF:=ae (fun w:World=>hf ▸ yf s[0].toNat w);clear hr hf;exact pm43):G:=h
theorem pm197(h:G:=by
 go_loopw [67] (fun i wr=>∃k:Nat,k<=k0/\i=.int .i64 k/\Below W2.heap.size W2 wr/\R=di ps.reverse (xa.drop k) (ya.drop k)) (fun i _=>k0 - (intOf i).toNat)
 first
 |clear pp197
  case atStart=>exact ⟨0,bc _,rfl,(ak _ _),by simpa using HMt.o⟩
  case round=>
   exact pm9
 |case atStart=>exact ⟨0,bc _,rfl,X'.o,by simpa using HMt.o⟩
  case round=>
   exact pm9):G:=h
theorem pm198(h:G:=by
 obtain ⟨a,cap,qs,hv,hc,hs,hf⟩:=h;refine ⟨a,cap,qs,hv,hc,?_,fun j hj=>(hf j hj).move hb⟩;rcases hs with hs | ⟨b,off,ha,hok,hcl⟩
 ·exact .inl hs
 first
 |clear pp198
  ·by_cases h0:l=[]
   ·exact .inl h0
   ·have hk:=hb b hok (World.block_lt_of_cell? W _ (hcl 0 (iD.2 h0)).1);refine .inr ⟨b,off,ha,hk.1,fun j hj=>?_⟩;obtain ⟨h0,h1,h2,h3,h4⟩:=hcl j hj;exact ⟨cX hk.2 h0,cX hk.2 h1,cX hk.2 h2,cX hk.2 h3,cX hk.2 h4⟩
 |·by_cases h0:l=[]
   ·exact .inl h0
   ·have hk:=hb b hok (World.block_lt_of_cell? W _ (hcl 0 (iD.2 h0)).1);refine .inr ⟨b,off,ha,hk.1,fun j hj=>?_⟩;obtain ⟨h0,h1,h2,h3⟩:=hcl j hj;exact ⟨cX hk.2 h0,cX hk.2 h1,cX hk.2 h2,cX hk.2 h3⟩):G:=h
theorem pm199(h:G:=by
 obtain ⟨e0,e1,e2,_⟩:=gt H1.o.2.1;simp only[TQ.val];go_enter Tryz.func248,Tryz.ntmps248
 first
 |clear pp199;exact pm136
 |go_upto_region 1 with fail;rw[<-iR.o];exact pm57):G:=h
theorem pm200(h:G:=by
 obtain ⟨g,hg⟩:=Classical.axiomOfChoice hC;refine ⟨a0,cap,g,rfl,hlc,?_,fun j hj=>(hg j hj).2⟩;rcases hs with hs | ⟨b,off,ha,hc⟩
 ·exact .inl hs
 first
 |clear pp200
  ·refine .inr ⟨b,off,ha,trivial,fun j hj=>?_⟩;have c:=fun k hk=>hc j hj k hk;rw[(hg j hj).1]at c;exact ⟨c 0 (by omega),c 1 (by omega),c 2 (by omega),c 3 (by omega),c 4 (by omega)⟩
 |·refine .inr ⟨b,off,ha,trivial,fun j hj=>?_⟩
   have c:=fun k hk=>hc j hj k hk;rw[(hg j hj).1]at c;exact ⟨c 0 (by omega),c 1 (by omega),c 2 (by omega),c 3 (by omega)⟩):G:=h
theorem pm201(h:G:=by
 go_enter Tryz.func21,Tryz.ntmps21;go_wp2;go_ret;exact ⟨by rw[HZ.o];rfl,by rw[<-gK.o];exact HE.o.1⟩):G:=h
theorem pm202(h:G:=by
 have HX:=bG z_ jS h3;clear h2 h3 h4 hd dn z_ jS hD;gi_wp2_with fail;refine ef (B:=w.heap.size) HX.o.2.1 (fun w' hn=>?_);have h0:=hn.cell (ai HX.o.2.2 0)
 first
 |clear pp202;exact ⟨.int .i64 72,by simp[results,Tryz.results71,go_sem,h0],by rw[HE.o],iV HX.o.1 hn⟩
 |exact ⟨.int .i64 6,by simp[results,Tryz.results71,go_sem,h0],by rw[HE.o],iV HX.o.1 hn⟩):G:=h
theorem pm203(h:G:=by
 obtain ⟨a,cap,qs,hv,hc,hs,hf⟩:=h;refine ⟨a,cap,qs,hv,hc,?_,fun j hj=>(hf j hj).nw hn⟩;rcases hs with hs | ⟨b,off,ha,hok,hcl⟩
 ·exact .inl hs
 first
 |clear pp203
  ·refine .inr ⟨b,off,ha,hok,fun j hj=>?_⟩;obtain ⟨h0,h1,h2,h3,h4⟩:=hcl j hj;exact ⟨hn.cell h0,hn.cell h1,hn.cell h2,hn.cell h3,hn.cell h4⟩
 |·refine .inr ⟨b,off,ha,hok,fun j hj=>?_⟩
   obtain ⟨h0,h1,h2,h3⟩:=hcl j hj;exact ⟨hn.cell h0,hn.cell h1,hn.cell h2,hn.cell h3⟩):G:=h
theorem pm204(h:G:=by
 obtain ⟨e0,e1,e2,_⟩:=gt H1.o.2.1;simp only[TQ.val];go_enter Tryz.func197,Tryz.ntmps197
 first
 |clear pp204;have pp136:=();exact pm136
 |go_upto_region 1 with fail;rw[<-iR.o];have pp57:=();exact pm57):G:=h
theorem pm205(h:G:=by
 exact pm214):G:=h
theorem pm206(h:G:=by
 intro l J Jx W hk hM hl X7 hJ _ hY hj;have QA:=(bz hX);have xf:=(hk.same X QA Hj).trans hX
 first
 |clear pp206a;have c0:W.cell? ⟨X,0,none⟩=some (.bool q.v):=ai xf 0;have c1:W.cell? ⟨X,1,none⟩=some (.string q.n):=ai xf 1;have c2:W.cell? ⟨X,2,none⟩=some (.slice q.a q.l q.c):=ai xf 2;have Nx:∀ b,M b->b<W.heap.size:=fun b hb=>bE (hM b hb) hk.size;have CC:=AR t az M B l J (aQ t) [] W q Nx hJ (fun pre vs x W1 h1 h2 h3 h4=>by
   obtain ⟨fn,tmps,assign,body,hy,hR⟩:=hY pre vs x W1 h1 h2 h3 h4;refine ⟨fn,tmps,assign,body,hy,hR.mono ?_⟩;rintro e W' (h | ⟨h,_⟩)
   ·exact h
   ·exact h.elim) (hq.kp hk) (by simp) hj
  have HC:=ae CC;clear CC hY hJ hj hX xf hq Nx;unfold TQ.val at HC;go_enter Tryz.func270,Tryz.ntmps270;go_wp2_with (go_at_call 214;refine HC.o.mono ?_;rintro e W2 ⟨rfl,wd,io⟩);exact ⟨rfl,.tuple #[],by simp[results,Tryz.results270,go_sem],⟨_,rfl⟩,.inl ⟨by simpa using wd,io⟩⟩
 |clear pp206b;have pp77a:=();exact pm77
 |have pp77b:=();exact pm77):G:=h
theorem pm207(h:G:=by
 obtain ⟨es,hk,ho,ht⟩:=h;exact ⟨es,hk,aZ ho hb,fun j h1 h2=>⟨(ht j h1 h2).1,(ht j h1 h2).2.move (fun b hok hlt=>⟨hok,hb b hok.1 hlt⟩)⟩⟩):G:=h
theorem pm208(h:G:=by
 simp only[rn,ah,bx]at h;have h1:=h.2.2.1.1;have:(c == 63)=false:=by
  rw[Bool.eq_false_iff];intro h2;rw[f9]at h2;subst h2;exact absurd h1 (by decide)
 first
 |clear pp208;simp[dV,this]
 |simp[dC,dx,cP,this]):G:=h
theorem pm209(h:G:=by
 subst ku;injection hv with hv _ hc;injection hv with hv;injection hv with hv;subst hv;subst hc;refine ⟨_,_,rfl,hn,.inr ⟨g,0,rfl,fun j hj=>?_⟩⟩
 first
 |clear pp209;have hf:(sh l)[j]?=some (.int .i64 (l[j]:Nat)):=by simp[sh,hj]
  rw[<-hx]at hf;have k0:(cur.toList.take (l.length * 1))[j]?=cur[j]?:=by rw[List.getElem?_take,aH (by omega)];simp
  rw[k0]at hf;rw[Nat.zero_add];exact (aE hg _).trans hf
 |have hf:=vk ps j hj;rw[<-hx]at hf;have k0:(cur.toList.take (ps.length * 2))[j * 2]?=cur[j * 2]?:=by rw[List.getElem?_take,aH (by omega)];simp
  have k1:(cur.toList.take (ps.length * 2))[j * 2+1]?=cur[j * 2+1]?:=by rw[List.getElem?_take,aH (by omega)];simp
  rw[k0,k1]at hf;exact ⟨by rw[Nat.zero_add];exact (aE hg _).trans hf.1,by rw[Nat.zero_add];exact (aE hg _).trans hf.2⟩):G:=h
theorem pm210(h:G:=by
 have ct:((a.map (fR f)).take k).length=k:=by rw[dM];have:=dB.o;simp;omega
 have jG:(a.map (fR f)).take k=(a.map (fR f)):=f8 (by have:=dB.o;simp;omega)
 first
 |clear pp210;have pp14c:=();exact pm14
 |have pp14b:=();exact pm14):G:=h
theorem pm211(h:G:=by
 obtain ⟨yv,yn,ya⟩:=u;obtain ⟨s1,h1,fL⟩:=aV.1 hq;obtain ⟨s2,h2,IC⟩:=aV.1 mM;obtain ⟨uv,un,ua,ul,uc⟩:=q;obtain ⟨vv,vn,va,vl,vc⟩:=q'
 first
 |clear pp211;have pp75b:=();exact pm75
 |have pp75c:=();exact pm75):G:=h
theorem pm212(h:G:=by
 go_wp2;go_roundw
 case rel=>exact ⟨k+1,by omega,by omega,by go_num,by rw[uP s k kC hlt,HA.o,HP.o];rfl,B7 HW.o _⟩
 case measure=>simp[intOf];omega):G:=h
theorem pm213(h:G:=by
 exact ⟨trivial,((Kp.below H4.o.1).trans AH).from _,rfl,by rw[tW HG.o.1];exact KN.o.symm,iA H4.o.2,(HG.o.2.2.trans (Kp.below H4.o.1)).trans AH⟩):G:=h
theorem pm214(h:G:=by
 have B3:=B3.nx (h.od 3) h.inv.1 bW;have B5:=B5.nx (h.od 5) h.inv.1 bW;have t0:=h.ol 0 t0
 first
 |clear pp214a;have ti:=h.ol 8 ti;have P0:=P0.move (okS.next (L':=X0) h.inv.1 bW (fun _ h _=>h));have hk9:=h.inv.1;clear hT;obtain ⟨vz,tc,fz⟩:=h.get 4 _ 44 rfl rfl;obtain rfl:vz=.bool true:=fz;clear h;refine Qs _ _ ?_;refine wpIn_cond_true (bg tc) (wpIn_skip ?_);refine SN _ _ ?_;clear SN Qs K9a K9b tc;refine bM (fun Kq hKq=>?_);refine wpIn_block ?_;have hg:=En i hlt;obtain ⟨⟨nm,ff⟩,MH⟩:∃x,x=bd.fs[i]:=⟨_,rfl⟩;have az:fitF ff:=by
   have:=oc.fs _ (aA hlt);rw[<-MH]at this;exact this.2
  have BV:FBindsV (okS X0 W9) W9 (.slice qa bd.fs.length qc) bd.fs:=by have:=B3.val.1;rw[DT]at this;exact this
  obtain ⟨fb,fo,fq,V9,_,oh,c0,c1,c2,c3,c4⟩:=BV.get hlt;have Hh:W9.cell? ⟨b3,0,none⟩=some (.slice qa bd.fs.length qc):=(aE B3.box 0).trans (by rw[DT];rfl);rw[V9]at Hh;rw[<-MH]at hg oh c0;simp only at hg oh c0;have SO:FormV (okS X0 W9.drew) W9.drew fq.val ff:=oh.move (show dW (okS X0 W9) (okS X0 W9.drew) W9 W9.drew from fun _ h _=>⟨h,rfl⟩);have hT:Tabs WB W9.drew:=jc.next (Ug.drew);have B3:=B3.drew;have B5:=B5.drew;have P0:=P0.move (show dW (okS X0 W9) (okS X0 W9.drew) W9 W9.drew from fun _ h _=>⟨h,rfl⟩);refine bM (fun zdj Ul=>?_);refine eK [bF X0 (kd),
   bn (.pointer (some ⟨b3,0,none⟩)),
   bn (.slice (some ⟨fb,fo,none⟩) bd.fs.length qc),
   bn (.int .i64 i),
   bn (.pointer (some ⟨fb,fo+i * 5,none⟩)),
   bn (.pointer (some ⟨fb,fo+i * 5,none⟩)),
   bn (.string ⟨nm.toArray⟩),
   fY (bi X0 (ff)) [.bool true],
   fY (bi X0 (ff)) [.bool true],
   bi X0 (ff),
   bn (.bool true),
   l7 #[.int .u8 0,.string ⟨#[]⟩,.slice none 0 0,.slice none 0 0] 36,
   jT (bi X0 (ff)) 36,
   bn (.bool true)]
   11 12 Uf (by kernel_rfl) (by kernel_rfl) (fun k hk=>?_) (fun A11 γ mj h=>?_)
  ·exact match k,hk with
   | 0,_=>dq _ _ 5 B5.box (fun h=>h) (B5.at bW) (old B5.slot)
   | 1,_=>cr rfl 3 (.pointer (some ⟨b3,0,none⟩)) (old B3.slot)
   | 2,_=>ui 49 b3 0 (.slice (some ⟨fb,fo,none⟩) bd.fs.length qc) Hh (fun h=>h) (aq 1)
   | 3,_=>aF _ 8 (old ti)
   | 4,_=>ep rfl 50 51 (.pointer (some ⟨fb,fo+i * 5,none⟩)) (aq 2) (aq 3)
   | 5,_=>cr rfl 52 (.pointer (some ⟨fb,fo+i * 5,none⟩)) (aq 4)
   | 6,_=>Hb 53 fb (fo+i * 5) (.string ⟨nm.toArray⟩) c0 (fun h=>h) (aq 5)
   | 7,_=>Qj kd nm (by have:=pd.lf;omega) (fun x hx=>(pd.fs x hx).2) 48 54 hL (aq 0) (aq 6) (hp:=by rw[hg];rfl)
   | 8,_=>aF _ 55 (aq 7)
   | 9,_=>fM _ _ 47 (aq 8)
   | 10,_=>fC (bi X0 (ff)) [.bool true] 0 (.bool true) rfl 47 (aq 8)
   | 11,_=>ju rfl
   | 12,_=>jv _ 9 56 rfl (aq 11) (aq 9)
   | 13,_=>bY _ 57 (aq 10)
   | k+14,hk=>absurd hk (by simp)
  have Jt:=h.sz.trans Uf;have Xn:=h.df.trans hd9;have PS:Below w.heap.size w mj:=aD Ug.drew h.inv.1 (fun _ h=>h.elim);have B3:=B3.nx (h.od 3) h.inv.1 bW;have B5:=B5.nx (h.od 5) h.inv.1 bW;have t0:=h.ol 0 t0;have ti:=h.ol 8 ti;have P0:=P0.move (okS.next (L':=X0) h.inv.1 bW (fun _ h _=>h));obtain ⟨vz,tz,fz⟩:=h.get 11 _ 9 rfl rfl;obtain ⟨b9,q9,lz,_⟩:=qp tz fz (h.did 12 _ rfl rfl) h.inv;have F9:=lz.next (L':=X0) rfl (Kp.refl (M:=b8) _) (fun h=>h) (fun _ _ h=>h) (fun _ h _=>h.1);clear vz tz fz lz;have rg:=h.inv.1;clear hT;obtain ⟨vz,t10,fz⟩:=h.get 13 _ 10 rfl rfl;obtain rfl:vz=.bool true:=fz;clear h;refine Ul _ _ ?_;clear Ul zdj;have OW:Below W9.heap.size W9 mj:=aD (ak _ _).drew rg (fun _ h=>h.elim);obtain ⟨c0,c1,c2,c3,c4,Hh⟩:=zbG OW c0 c1 c2 c3 c4 Hh;have oh:=oh.move (show dW (okS X0 W9) (okS X0 mj) W9 mj from fun c h hlt=>⟨⟨h.1,bE hlt OW.size⟩,OW.block c hlt⟩);have SO:FormV (okS X0 mj.drew) mj.drew fq.val ff:=oh.move (show dW (okS X0 mj) (okS X0 mj.drew) mj mj.drew from fun _ h _=>⟨h,rfl⟩);have hT:Tabs WB mj.drew:=jc.next (PS.drew);have B3:=B3.drew;have B5:=B5.drew;have F9:=F9.drew;have P0:=P0.move (show dW (okS X0 mj) (okS X0 mj.drew) mj mj.drew from fun _ h _=>⟨h,rfl⟩);refine bM (fun zdk Um=>?_);refine eK [bn (.bool true),
   bn (.bool false),
   bn (.bool false),
   bi X0 (ff),
   bn (.pointer (some ⟨b3,0,none⟩)),
   bn (.slice (some ⟨fb,fo,none⟩) bd.fs.length qc),
   bn (.int .i64 i),
   bn (.pointer (some ⟨fb,fo+i * 5,none⟩)),
   bn (.pointer (some ⟨fb,fo+i * 5+1,none⟩)),
   bi X0 (ff),
   bn (.bool true),
   bn (.bool false),
   bn (.bool false)]
   13 13 Jt (by kernel_rfl) (by kernel_rfl) (fun k hk=>?_) (fun A12 γ W12 h=>?_)
  ·exact match k,hk with
   | 0,_=>aF _ 10 (old t10)
   | 1,_=>cr rfl 58 (.bool false) (aq 0)
   | 2,_=>aF _ 59 (aq 1)
   | 3,_=>iY _ _ 9 F9.box (fun h=>h) (F9.at bW) (old F9.slot) (hw:=aJ 2 (aq 2))
   | 4,_=>cr rfl 3 (.pointer (some ⟨b3,0,none⟩)) (old B3.slot) (hw:=aJ 2 (aq 2))
   | 5,_=>ui 62 b3 0 (.slice (some ⟨fb,fo,none⟩) bd.fs.length qc) Hh (fun h=>h) (aq 4) (hw:=aJ 2 (aq 2))
   | 6,_=>aF _ 8 (old ti) (hw:=aJ 2 (aq 2))
   | 7,_=>ep rfl 63 64 (.pointer (some ⟨fb,fo+i * 5,none⟩)) (aq 5) (aq 6) (hw:=aJ 2 (aq 2))
   | 8,_=>cr rfl 65 (.pointer (some ⟨fb,fo+i * 5+1,none⟩)) (aq 7) (hw:=aJ 2 (aq 2))
   | 9,_=>EX ff 66 fb (fo+i * 5+1) fq SO c1 c2 c3 c4 (fun h=>h) bW (aq 8) (hw:=aJ 2 (aq 2))
   | 10,_=>tZ ff ff az 61 67 (aq 3) (aq 9) (hw:=aJ 2 (aq 2)) (hp:=SJ (JY ff))
   | 11,_=>cr rfl 68 (.bool false) (aq 10) (hw:=aJ 2 (aq 2))
   | 12,_=>ep rfl 60 69 (.bool false) (aq 2) (aq 11)
   | k+13,hk=>absurd hk (by simp)
  have zbb:=h.sz.trans Jt;have zdl:=h.df.trans Xn;have zbc:Below w.heap.size w W12:=aD PS.drew h.inv.1 (fun _ h=>h.elim);have B3:=B3.nx (h.od 3) h.inv.1 bW;have B5:=B5.nx (h.od 5) h.inv.1 bW;have F9:=F9.nx (h.od 9) h.inv.1 bW;have t0:=h.ol 0 t0;have ti:=h.ol 8 ti;have t10:=h.ol 10 t10;have P0:=P0.move (okS.next (L':=X0) h.inv.1 bW (fun _ h _=>h));have zeB:=h.inv.1;clear hT;obtain ⟨vz,tc,fz⟩:=h.get 12 _ 70 rfl rfl;obtain rfl:vz=.bool false:=fz;clear h;refine Um _ _ ?_;refine wpIn_cond_false (bg tc) (wpIn_skip ?_);clear Um zdk tc;simp only[Exit.inBlock,Exit.then];refine hKq _ _ ?_;have MW:IntKind.i64.wrap ((i:Int)+1)=((i+1:Nat):Int):=by rw[fQ _ (by omega)];simp
  have hT:Tabs WB W12:=jc.next (zbc);refine bO [bn (.int .i64 i),
   bn (.int .i64 ((i+1:Nat):Int)),
   bn (.int .i64 ((i+1:Nat):Int))]
   3 3 zbb (by kernel_rfl) (fun k hk=>?_) (fun A13 γ lq h=>?_)
  ·exact match k,hk with
   | 0,_=>aF (bn (.int .i64 i)) 8 (ere 2 ti)
   | 1,_=>cr rfl 45 (.int .i64 ((i+1:Nat):Int)) (aq 0)
   | 2,_=>bY _ 46 (aq 1)
   | k+3,hk=>absurd hk (by simp)
  have Sp:=h.sz.trans zbb;have Xo:=h.df.trans zdl;have gM:Below w.heap.size w lq:=aD zbc h.inv.1 (fun _ h=>h.elim);have pp205:=();exact pm205
 |clear pp214b;have ti:=h.ol 11 ti;have P0:=P0.move (okS.next (L':=X0) h.inv.1 bW (fun _ h _=>h));have zdo:=h.inv.1;clear hT;obtain ⟨vz,tc,fz⟩:=h.get 4 _ 75 rfl rfl;obtain rfl:vz=.bool true:=fz;clear h;refine He _ _ ?_;refine wpIn_cond_true (bg tc) (wpIn_skip ?_);refine K_ _ _ ?_;clear K_ He XJ XK tc;refine bM (fun Kq hKq=>?_);refine wpIn_block ?_;have hg:=Ht i hlt;obtain ⟨⟨nm,tt⟩,MH⟩:∃x,x=bd.ts[i]:=⟨_,rfl⟩;have az:fitT tt:=by
   have:=oc.ts _ (aA hlt);rw[<-MH]at this;exact this.2.1
  have BV:TBindsV (okS X0 wQ) wQ (.slice qb bd.ts.length qe) bd.ts:=by have:=B3.val.2;rw[DT]at this;exact this
  obtain ⟨fb,fo,fq,V9,_,oh,c0,c1,c2,c3⟩:=BV.get hlt;have Hh:wQ.cell? ⟨b3,1,none⟩=some (.slice qb bd.ts.length qe):=(aE B3.box 1).trans (by rw[DT];rfl);rw[V9]at Hh;rw[<-MH]at hg oh c0;simp only at hg oh c0;have hT:Tabs WB wQ.drew:=jc.next (EO.drew);have B3:=B3.drew;have B5:=B5.drew;have P0:=P0.move (show dW (okS X0 wQ) (okS X0 wQ.drew) wQ wQ.drew from fun _ h _=>⟨h,rfl⟩);refine bM (fun zdp Uq=>?_);refine eK [bF X0 (kd),
   bn (.pointer (some ⟨b3,1,none⟩)),
   bn (.slice (some ⟨fb,fo,none⟩) bd.ts.length qe),
   bn (.int .i64 i),
   bn (.pointer (some ⟨fb,fo+i * 4,none⟩)),
   bn (.pointer (some ⟨fb,fo+i * 4,none⟩)),
   bn (.string ⟨nm.toArray⟩),
   fY (dP X0 (tt)) [.bool true],
   fY (dP X0 (tt)) [.bool true],
   dP X0 (tt),
   bn (.bool true),
   l7 #[.bool false,.string ⟨#[]⟩,.slice none 0 0] 43,
   jT (dP X0 (tt)) 43,
   bn (.bool true)]
   11 12 G8 (by kernel_rfl) (by kernel_rfl) (fun k hk=>?_) (fun A17 γ Ak h=>?_)
  ·exact match k,hk with
   | 0,_=>dq _ _ 5 B5.box (fun h=>h) (B5.at bW) (old B5.slot)
   | 1,_=>cr rfl 3 (.pointer (some ⟨b3,1,none⟩)) (old B3.slot)
   | 2,_=>uj 80 b3 1 (.slice (some ⟨fb,fo,none⟩) bd.ts.length qe) Hh (fun h=>h) (aq 1)
   | 3,_=>aF _ 11 (old ti)
   | 4,_=>ep rfl 81 82 (.pointer (some ⟨fb,fo+i * 4,none⟩)) (aq 2) (aq 3)
   | 5,_=>cr rfl 83 (.pointer (some ⟨fb,fo+i * 4,none⟩)) (aq 4)
   | 6,_=>Hb 84 fb (fo+i * 4) (.string ⟨nm.toArray⟩) c0 (fun h=>h) (aq 5)
   | 7,_=>Qk kd nm (by have:=pd.lt;omega) (fun x hx=>(pd.ts x hx).2.1) 79 85 hL (aq 0) (aq 6) (hp:=by rw[hg];rfl)
   | 8,_=>aF _ 86 (aq 7)
   | 9,_=>fM _ _ 78 (aq 8)
   | 10,_=>fC (dP X0 (tt)) [.bool true] 0 (.bool true) rfl 78 (aq 8)
   | 11,_=>Dc rfl
   | 12,_=>Dd _ 12 87 rfl (aq 11) (aq 9)
   | 13,_=>bY _ 88 (aq 10)
   | k+14,hk=>absurd hk (by simp)
  have PY:=h.sz.trans G8;have Xr:=h.df.trans PW;have PZ:Below w.heap.size w Ak:=aD EO.drew h.inv.1 (fun _ h=>h.elim);have B3:=B3.nx (h.od 3) h.inv.1 bW;have B5:=B5.nx (h.od 5) h.inv.1 bW;have t0:=h.ol 0 t0;have ti:=h.ol 11 ti;have P0:=P0.move (okS.next (L':=X0) h.inv.1 bW (fun _ h _=>h));obtain ⟨vz,tz,fz⟩:=h.get 11 _ 12 rfl rfl;obtain ⟨b12,q12,lz,_⟩:=PJ tz fz (h.did 12 _ rfl rfl) h.inv;have XL:=lz.next (L':=X0) rfl (Kp.refl (M:=b8) _) (fun h=>h) (fun _ _ h=>h) (fun _ h _=>h.1);clear vz tz fz lz;have zdq:=h.inv.1;clear hT;obtain ⟨vz,Of,fz⟩:=h.get 13 _ 13 rfl rfl;obtain rfl:vz=.bool true:=fz;clear h;refine Uq _ _ ?_;clear Uq zdp;have OW:Below wQ.heap.size wQ Ak:=aD (ak _ _).drew zdq (fun _ h=>h.elim);obtain ⟨c0,c1,c2,c3,Hh⟩:=UN OW c0 c1 c2 c3 Hh;have oh:=oh.move (show dW (okS X0 wQ) (okS X0 Ak) wQ Ak from fun c h hlt=>⟨⟨h.1,bE hlt OW.size⟩,OW.block c hlt⟩);have SO:TermV (okS X0 Ak.drew) Ak.drew fq.val tt:=oh.move (show dW (okS X0 Ak) (okS X0 Ak.drew) Ak Ak.drew from fun _ h _=>⟨h,rfl⟩);have hT:Tabs WB Ak.drew:=jc.next (PZ.drew);have B3:=B3.drew;have B5:=B5.drew;have XL:=XL.drew;have P0:=P0.move (show dW (okS X0 Ak) (okS X0 Ak.drew) Ak Ak.drew from fun _ h _=>⟨h,rfl⟩);refine bM (fun zdr Ur=>?_);refine eK [bn (.bool true),
   bn (.bool false),
   bn (.bool false),
   dP X0 (tt),
   ie X0 [tt],
   bn (.pointer (some ⟨b3,1,none⟩)),
   bn (.slice (some ⟨fb,fo,none⟩) bd.ts.length qe),
   bn (.int .i64 i),
   bn (.pointer (some ⟨fb,fo+i * 4,none⟩)),
   bn (.pointer (some ⟨fb,fo+i * 4+1,none⟩)),
   dP X0 (tt),
   ie X0 [tt],
   bn (.bool true),
   bn (.bool false),
   bn (.bool false)]
   15 15 PY (by kernel_rfl) (by kernel_rfl) (fun k hk=>?_) (fun A18 γ QQ h=>?_)
  ·exact match k,hk with
   | 0,_=>aF _ 13 (old Of)
   | 1,_=>cr rfl 89 (.bool false) (aq 0)
   | 2,_=>aF _ 90 (aq 1)
   | 3,_=>G1 _ _ 12 XL.box (fun h=>h) (XL.at bW) (old XL.slot) (hw:=aJ 2 (aq 2))
   | 4,_=>iX hL tt 92 (aq 3) (hw:=aJ 2 (aq 2))
   | 5,_=>cr rfl 3 (.pointer (some ⟨b3,1,none⟩)) (old B3.slot) (hw:=aJ 2 (aq 2))
   | 6,_=>uj 94 b3 1 (.slice (some ⟨fb,fo,none⟩) bd.ts.length qe) Hh (fun h=>h) (aq 5) (hw:=aJ 2 (aq 2))
   | 7,_=>aF _ 11 (old ti) (hw:=aJ 2 (aq 2))
   | 8,_=>ep rfl 95 96 (.pointer (some ⟨fb,fo+i * 4,none⟩)) (aq 6) (aq 7) (hw:=aJ 2 (aq 2))
   | 9,_=>cr rfl 97 (.pointer (some ⟨fb,fo+i * 4+1,none⟩)) (aq 8) (hw:=aJ 2 (aq 2))
   | 10,_=>SF tt 98 fb (fo+i * 4+1) fq SO c1 c2 c3 (fun h=>h) bW (aq 9) (hw:=aJ 2 (aq 2))
   | 11,_=>iX hL tt 99 (aq 10) (hw:=aJ 2 (aq 2))
   | 12,_=>G0 [tt] [tt] (JZ az) 93 100 (aq 4) (aq 11) (hw:=aJ 2 (aq 2)) (hp:=SJ (Hc [tt]))
   | 13,_=>cr rfl 101 (.bool false) (aq 12) (hw:=aJ 2 (aq 2))
   | 14,_=>ep rfl 91 102 (.bool false) (aq 2) (aq 13)
   | k+15,hk=>absurd hk (by simp)
  have P9:=h.sz.trans PY;have Xt:=h.df.trans Xr;have Mx:Below w.heap.size w QQ:=aD PZ.drew h.inv.1 (fun _ h=>h.elim);have B3:=B3.nx (h.od 3) h.inv.1 bW;have B5:=B5.nx (h.od 5) h.inv.1 bW;have XL:=XL.nx (h.od 12) h.inv.1 bW;have t0:=h.ol 0 t0;have ti:=h.ol 11 ti;have Of:=h.ol 13 Of;have P0:=P0.move (okS.next (L':=X0) h.inv.1 bW (fun _ h _=>h));have zeE:=h.inv.1;clear hT;obtain ⟨vz,tc,fz⟩:=h.get 14 _ 103 rfl rfl;obtain rfl:vz=.bool false:=fz;clear h;refine Ur _ _ ?_;refine wpIn_cond_false (bg tc) (wpIn_skip ?_);clear Ur zdr tc;simp only[Exit.inBlock,Exit.then];refine hKq _ _ ?_;have MW:IntKind.i64.wrap ((i:Int)+1)=((i+1:Nat):Int):=by rw[fQ _ (by omega)];simp
  have hT:Tabs WB QQ:=jc.next (Mx);refine bO [bn (.int .i64 i),
   bn (.int .i64 ((i+1:Nat):Int)),
   bn (.int .i64 ((i+1:Nat):Int))]
   3 3 P9 (by kernel_rfl) (fun k hk=>?_) (fun A19 γ M9 h=>?_)
  ·exact match k,hk with
   | 0,_=>aF (bn (.int .i64 i)) 11 (ere 2 ti)
   | 1,_=>cr rfl 76 (.int .i64 ((i+1:Nat):Int)) (aq 0)
   | 2,_=>bY _ 77 (aq 1)
   | k+3,hk=>absurd hk (by simp)
  have Ss:=h.sz.trans P9;have Xu:=h.df.trans Xt;have P':Below w.heap.size w M9:=aD Mx h.inv.1 (fun _ h=>h.elim);exact pm205
 |have P0:=P0.move (okS.next (L':=X0) h.inv.1 bW (fun _ h _=>h))
  first
  |clear pp205;have zeC:=h.inv.1;clear hT;obtain ⟨vz,ti,fz⟩:=h.get 2 _ 8 rfl rfl;obtain rfl:vz=.int .i64 ((i+1:Nat):Int):=fz;simp only[Exit.then];refine ⟨⟨i+1,hlt,⟨Sp,Xo,gM,ti,t0,B3,B5,P0⟩⟩,?_⟩;rw[bg ti];simp only[intOf,Int.toNat_natCast];omega
  |have zeF:=h.inv.1;clear hT;obtain ⟨vz,ti,fz⟩:=h.get 2 _ 11 rfl rfl;obtain rfl:vz=.int .i64 ((i+1:Nat):Int):=fz;simp only[Exit.then];refine ⟨⟨i+1,hlt,⟨Ss,Xu,P',ti,t0,B3,B5,P0⟩⟩,?_⟩;rw[bg ti];simp only[intOf,Int.toNat_natCast];omega):G:=h
theorem pm215(h:G:=by
 obtain ⟨bb,off,⟨qo,qn,qa,ql,qc,qb,qm,qe⟩,rfl,hok,hf,c0,c1,c2,c3,c4⟩:=VD.o.get bp
 first
 |clear pp215a;have mO:=H2.o.1.tr ar;obtain ⟨d0,d1,d2,d3,d4⟩:=UN mO c0 c1 c2 c3 c4;obtain ⟨nm,dG⟩:=am (b.fs[k].1);obtain ⟨g,hg⟩:=am (b.fs[k].2);rw[CG bp,<-dG,<-hg]at gw;rw[<-dG]at d0;have RE:=HP.o _ (aA bp);rw[<-hg]at hf RE;have pp99b:=();exact pm99
 |clear pp215b;have pp126:=();exact pm126
 |have mO:=H1.o.1.tr ar;obtain ⟨d0,d1,d2,d3,d4⟩:=UN mO c0 c1 c2 c3 c4;obtain ⟨nm,dG⟩:=am (b.fs[k].1);obtain ⟨g,hg⟩:=am (b.fs[k].2);have ly:=HP.o.1 _ (aA bp);rw[<-dG]at d0;rw[<-dG,<-hg]at ly;rw[<-hg]at hf;exact pm99):G:=h
theorem pm216(h:G:=by
 obtain ⟨k,hk,rfl,row,us,hF,yW,Bc⟩:=hrel;have ar:=hF.below NY.o.1 (by omega);obtain ⟨ra,rc,rfl⟩:=hF.row.slice;rw[Bc]at hF
 by_cases hlt:k<m0
 first
 |clear pp216
  ·have dy:=cF gV.o hlt;have pp53:=();exact pm53
  ·obtain rfl:k=m0:=by omega
   exact pm115
 |·have dy:=cF gV.o hlt;exact pm53
  ·obtain rfl:k=m0:=by omega
   exact pm115):G:=h
theorem pm217(h:G:=by
 obtain ⟨a,cap,vs,hv,hs,h⟩:=h;refine ⟨a,cap,vs,hv,?_,fun j hj=>(h j hj).move hb⟩;exact pm287):G:=h
