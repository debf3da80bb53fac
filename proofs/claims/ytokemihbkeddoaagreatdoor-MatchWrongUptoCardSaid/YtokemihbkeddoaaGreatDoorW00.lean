/-
Runs of tactics that several proofs share.
-/
import Derived.Deep.AppendLies
import Derived.Deep.DeepCutAuto
import Derived.Deep.DeepWitnessRowRef
import Derived.Deep.Upon
import Derived.Lib.ItoaMem
import Derived.Lib.LaidU8
import Derived.Lib.SmallJoins
import Derived.Maps.OwnIn
import Derived.OrdersHeld
import Derived.RangeFuncNested
import Derived.Shelf.SlIter.Nil
import Derived.Shelf.SortM.Plain
import Derived.Shelf.SortM.SortNone
import Derived.WalkLawsBesides
import Derived.WalkSpells
namespace Go.Proofs.YtokemihbkeddoaaGreatDoor
open Go Go.RowKit Lib
set_option maxRecDepth 100000
variable {G:Prop}
theorem pm0(h:G:=by
 have pp139a:=();exact pm139):G:=h
theorem pm1(h:G:=by
 have dW:S W6.drew:=by rw[hS];exact (ak _ _).drew
 have wm:Kp (fun b=>b=mT) W3 W6.drew:=bj.trans (Kp.below cI.drew);have Lz:∀ b,b=mT->M b:=fun b e=>e ▸ HG.o.2.2.2.1;have pV:=oW ic;have CC:=fd.o a[j] (az ic) (HF.o.1.args.mem (az ic)) (R7.o _ (az ic)) a'[j] (HG.o.2.2.1 _ _ _ HF.o.2 _ (az BC)) W6.drew nF Ce ⟨k.fs,kj⟩ ⟨xv,xn,xa,xl,xc⟩ ⟨yv,yn,ya,yl,yc⟩ (eX.later cI.drew) (by have:=PQ.o;omega) (Zm.o.kp (wm.mono (fun b _ h=>Lz b h))) (hx.kpM wm Lz) (hy.kpM wm Lz);have cV:ef (ps.reverse.map (·.1)) kj (a.drop j) (a'.drop j)=match i9 (ps.reverse.map (·.1)) kj a[j] a'[j] with | some k'=>ef (ps.reverse.map (·.1)) k' (a.drop (j+1)) (a'.drop (j+1)) | none=>none:=by
  rw[fN ic,fN BC,ef];rfl
 rw[cV]at gt;simp only[TQ.val,PlQ.val,PlQ.cells]at CC;have HK:=bE wm oY pV;have M0:=ab cP;have yQ:(j:Int)<(n1:Int):=by omega
 cases S3:i9 (ps.reverse.map (·.1)) kj a[j] a'[j] with
 | none=>
  rw[S3]at CC gt;have HC:=ab CC;have JY:=ab (show R=none from gt);have pp127:=();exact pm127
 | some ts0=>
  rw[S3]at CC gt;have HC:=ab CC;have JY:=ab (show R=ef (ps.reverse.map (·.1)) ts0 (a.drop (j+1)) (a'.drop (j+1)) from gt);exact pm127):G:=h
theorem pm2(h:G:=by
 obtain ⟨k,hk,rfl,fp,ht⟩:=hrel
 by_cases hlt:k<k0
 ·have br:=ct dJ.o hlt;have nk:=ct ib.o hlt;have ar:=lw.o.trans (fp.mono lw.o.size);obtain ⟨b,off,u,rfl,_,hu,c0,c1,c2⟩:=UF.o.get br;obtain ⟨b',nh,u',rfl,_,iA,mI,nU,nV⟩:=Zk.o.get nk;have rt:=U3.o.mem (az br);have pp278:=();exact pm278
 first
 |clear pp2a
  ·obtain rfl:k0=k:=by omega
   have WZ:=ab (show R=ee ps.reverse xs ys by rw[ht,jk (by rw[dJ.o];exact aF _)];simp[dH]);have pp47:=();exact pm47
 |clear pp2b
  ·obtain rfl:k0=k:=by omega
   have WZ:=ab (show R=ee (ps ++ [(xn,xn)]).reverse xs ys by rw[ht,jk (by rw[dJ.o];exact aF _)];simp[dH]);exact pm47
 |·obtain rfl:k0=k:=by omega
   have WZ:=ab (show R=ee (ps ++ [(xn,yn)]).reverse xs ys by rw[ht,jk (by rw[dJ.o];exact aF _)];simp[dH]);obtain ⟨jg,Eb⟩:=ao wr;subst Eb;have GP:=ab (lw.o.trans (fp.mono lw.o.size));have GQ:=ab (bT fp vI.o);have HYc:=ab (bT fp yI.o);have HPc:=ab (Bq.o.later fp);have x0:jg.cell? ⟨w.heap.size,0,none⟩=some (.int .u8 uo):=ah GQ.o 0;have x1:jg.cell? ⟨w.heap.size,1,none⟩=some (.string ⟨xn.toArray⟩):=ah GQ.o 1;have x2:jg.cell? ⟨w.heap.size,2,none⟩=some (.slice ua k0 uc):=ah GQ.o 2;have x3:jg.cell? ⟨w.heap.size,3,none⟩=some (.slice ub k1 ue):=ah GQ.o 3;clear fp ht vI yI Bq lw;go_wp2_with (go_at_call 93;refine (U4.o _).mono ?_;rintro e X4 ⟨rfl,aP⟩;have vI:=ab (bT aP GQ.o);have yI:=ab (bT aP HYc.o);have Bq:=ab (HPc.o.later aP);have lw:=ab (GP.o.trans (aP.mono GP.o.size));have z3:X4.cell? ⟨w.heap.size,3,none⟩=some (.slice ub k1 ue):=ah vI.o 3;clear aP);obtain ⟨S,hS⟩:∃S:World->Prop,S=fun V=>Below X4.heap.size X4 V:=⟨_,rfl⟩;have tP:X4.cell? ⟨w.heap.size,1,none⟩=some (.string ⟨xn.toArray⟩):=ah vI.o 1;have tC:X4.cell? ⟨w.heap.size+1,1,none⟩=some (.string ⟨yn.toArray⟩):=ah yI.o 1;have f0:∀ V,S V->V.cell? ⟨w.heap.size,1,none⟩=some (.string ⟨xn.toArray⟩):=fun V h=>by rw[hS]at h;exact aa h tP
   have f1:∀ V,S V->V.cell? ⟨w.heap.size+1,1,none⟩=some (.string ⟨yn.toArray⟩):=fun V h=>by rw[hS]at h;exact aa h tC
   have dW:S X4.drew:=by rw[hS];exact (ak _ _).drew
   have J1:=HP.o.cases;obtain ⟨HPn,du⟩:=aZ J1 hS;clear hS tP tC J1;refine (wpIn_wide (n:=3)).1 ?_;refine lV S 12 dW fun jO bW=>?_;refine bL 0 64 (.slice pa p0 pc) rfl bW fun cF=>?_;simp only[ag];refine bL 1 65 (.slice pa p0 pc) rfl cF fun fI=>?_;simp only[ag];refine bL 2 66 (.int .i64 (p0:Int)) rfl fI fun gO=>?_;simp only[ag];refine bL 3 67 (.slice pa p0 pc) rfl gO fun iX=>?_;simp only[ag];refine bL 4 68 (.int .i64 (p0:Int)) rfl iX fun jQ=>?_;simp only[ag];refine dm 5 69 (.slice pa p0 p0) rfl (fun V hX=>by rcases HPn.o with ⟨rfl,rfl,rfl⟩ | ⟨b,off,rfl⟩ <;> go_simp) jQ fun kf=>?_;simp only[ag];refine bL 6 70 (.pointer (some ⟨w.heap.size,1,none⟩)) rfl kf fun mK=>?_;simp only[ag];refine dm 7 71 (.string ⟨xn.toArray⟩) rfl (fun V hX=>by have g0:=f0 V hX;go_simp) mK fun sg=>?_;simp only[ag];refine bL 8 72 (.pointer (some ⟨w.heap.size+1,1,none⟩)) rfl sg fun JT=>?_;simp only[ag];refine dm 9 73 (.string ⟨yn.toArray⟩) rfl (fun V hX=>by have g1:=f1 V hX;go_simp) JT fun Cb=>?_;simp only[ag];refine bL 10 74 (.agg #[.string ⟨xn.toArray⟩,.string ⟨yn.toArray⟩]) rfl Cb fun JU=>?_;simp only[ag];refine ce 11 rfl fun K hK=>?_;go_simp;have pQ:Below X4.heap.size X4 (X4.alloc (.cells #[.string ⟨xn.toArray⟩,.string ⟨yn.toArray⟩] 213)).drew:=((ak _ X4).alloc (aF _) _).drew;refine hK _ _ (fun _=>by rw[du.o];exact pQ) (fun _=>?_);clear hK K;have hold:((.slice pa p0 p0:Value)=.slice none 0 0/\p0=0/\hZ ps=[])\/∃b,(.slice pa p0 p0:Value)=.slice (some b) p0 p0/\(hZ ps).length=p0 * 2/\∀ j u,(hZ ps)[j]?=some u->(X4.alloc (.cells #[.string ⟨xn.toArray⟩,.string ⟨yn.toArray⟩] 213)).drew.cell? (b.add j)=some u:=by
    exact pm191
   refine ce 12 rfl fun K hK=>?_;refine iN (.tmp 69) (.tmp 75) 87 rfl 213 i0 (.agg #[.string ByteArray.empty,.string ByteArray.empty]) 2 32 Tryz.underlying87 hi pF iq gV rfl (by decide) (.slice pa p0 p0) p0 (hZ ps) rfl hold ⟨X4.heap.size,0,none⟩ 1 1 [.string ⟨xn.toArray⟩,.string ⟨yn.toArray⟩] rfl rfl (dj (cs:=#[.string ⟨xn.toArray⟩,.string ⟨yn.toArray⟩]) (t:=213) (fr:=(0,0)) (fO X4 _)) (by simp[Value.oneCell']) (by decide) (by unfold maxLen;omega) (by omega) ?_;intro g cap X5 au ap;have zI:Below X4.heap.size X4 X5:=⟨ap.os.trans pQ.os,ap.tape.trans pQ.tape,ap.output.trans pQ.output,aQ pQ.size ap.size,fun b hb=>(ap.block b (bN hb pQ.size) (by simp)).trans (pQ.block b hb)⟩;have W_:=bT zI vI.o;have hY5:=bT zI yI.o;have Dl:=lw.o.trans (zI.mono lw.o.size);rw[<-lM (xn,yn) ps]at au;have rq:=PairsV.own au;have z5:X5.cell? ⟨w.heap.size,3,none⟩=some (.slice ub k1 ue):=ah W_ 3;clear vI yI lw Bq z3;obtain ⟨vI,yI,lw,Bq⟩:=eR W_ hY5 Dl rq;clear W_ hY5 Dl rq au ap pQ zI hold;refine eS hK ?_;clear hK K;refine ce 13 rfl fun K hK=>?_;go_simp;refine eS hK ?_;clear hK K;refine le ?_;go_wp2;go_loopw [80] (fun i wr=>∃k:Nat,k<=k1/\i=.int .i64 k/\Below X5.heap.size X5 wr/\R=ee (ps ++ [(xn,yn)]).reverse (xs.drop k) (ys.drop k)) (fun i _=>k1 - (intOf i).toNat)
   case atStart=>exact ⟨0,bc _,rfl,ak _ _,by simpa using WZ.o⟩
   case round=>
    obtain ⟨k,hk,rfl,fp,ht⟩:=hrel
    by_cases hlt:k<k1
    ·have br:=ct PV.o hlt;have pp89a:=();exact pm89
    ·obtain rfl:k1=k:=by omega
     exact pm108):G:=h
theorem pm3(h:G:=by
 go_loopw [79] (fun i wr=>∃k:Nat,k<=m0/\i=.int .i64 k/\Kp (fun c=>c=J) w wr/\JAt J true (left - 1 - nodesTs a - nodesFs (s.take k)) bz wr/\cG true (s.take k)=true/\(nodesFs (s.take k):Int)<=left - 1 - nodesTs a/\ba+1+aT (s.take k)<=bz+1) (fun i _=>m0 - (intOf i).toNat)
 case atStart=>exact ⟨0,bc _,rfl,HA.o.1,by simpa[nodesFs] using HA.o.2,by simp[cG],by simp[nodesFs];omega,by simp[aT];omega⟩
 case round=>
  obtain ⟨k,hk,rfl,bj,hj,ha,hb,hc⟩:=hrel
  by_cases hlt:k<m0
  ·have br:=ct ib.o hlt;have pp150:=();exact pm150
  ·obtain rfl:k=m0:=by omega
   have ht:s.take k=s:=by rw[ib.o];exact cO
   rw[ht]at hj ha hb hc;have j6:(cG true s && (decide ((nodesFs s:Int)<=left - 1 - nodesTs a) && decide (ba+1+aT s<=bz+1)))=true:=by rw[ha];simp;omega
   exact pm119):G:=h
theorem pm4(h:G:=by
 go_loopw [79] (fun i wr=>∃k:Nat,k<=m0/\i=.int .i64 k/\Kp (fun c=>c=J) w wr/\JAt J sc (left - 1 - nodesTs a - nodesFs (s.take k)) bz wr/\cG sc (s.take k)=true/\(nodesFs (s.take k):Int)<=left - 1 - nodesTs a/\ba+1+aT (s.take k)<=bz+1) (fun i _=>m0 - (intOf i).toNat)
 case atStart=>exact ⟨0,bc _,rfl,HA.o.1,by simpa[nodesFs] using HA.o.2,by simp[cG],by simp[nodesFs];omega,by simp[aT];omega⟩
 case round=>
  obtain ⟨k,hk,rfl,bj,hj,ha,hb,hc⟩:=hrel
  by_cases hlt:k<m0
  ·have br:=ct ib.o hlt;exact pm150
  ·obtain rfl:k=m0:=by omega
   have ht:s.take k=s:=by rw[ib.o];exact cO
   rw[ht]at hj ha hb hc;have j6:(cG sc s && (decide ((nodesFs s:Int)<=left - 1 - nodesTs a) && decide (ba+1+aT s<=bz+1)))=true:=by rw[ha];simp;omega
   exact pm119):G:=h
theorem pm5(h:G:=by
 obtain ⟨j,hj,rfl,dp,hk⟩:=hrel
 by_cases hlt:j<m1
 ·have ic:=ct HN.o.1 hlt;obtain ⟨b1,o1,⟨xo,xn,xa,xl,xc,xb,xm,xe⟩,rfl,hok,hx,c0,c1,c2,c3⟩:=HV.o.get ic;have ky:=HF.o.mem (az ic);have pV:=e9 (az ic);have iY:=rI ic;have d0:=hk.cell (a:=⟨b1,o1+j * 4,none⟩) (jP.o b1 hok) c0;have d1:=hk.cell (a:=⟨b1,o1+j * 4+1,none⟩) (jP.o b1 hok) c1;have d2:=hk.cell (a:=⟨b1,o1+j * 4+2,none⟩) (jP.o b1 hok) c2;have d3:=hk.cell (a:=⟨b1,o1+j * 4+3,none⟩) (jP.o b1 hok) c3;obtain ⟨W6,cP⟩:=ao (wr.alloc (.cells #[.int .u8 xo,.string xn,.slice xa xl xc,.slice xb xm xe] 36));have cI:=cX cP;have x6:=bX cP;have mZ:Kp (fun b=>b=m) w W6:=hk.trans (Kp.below cI);have qJ:=dp.same (cI.block m dp.lt);have VF:(P ++ js a ++ kw (s.take j)).length+nodesF s[j]<=4000000:=by
   have h1:=HP.o.2;have h2:=pw a;have h3:=vk (s.take j);have h4:=dl ic;have h5:=bS s (j+1);rw[di,di];omega
  have CC:=fd.o (nodesF s[j]) (by have:=HN.o.2;omega) s[j] (aF _) ky _ (P ++ js a ++ kw (s.take j)) m W6 ⟨xo,xn,xa,xl,xc,xb,xm,xe⟩ qJ (hx.move (fun b hb hlt=>⟨hb,mZ.same b hlt (jP.o b hb)⟩)) jP.o VF;simp only[FQ.val]at CC;obtain ⟨y0,y1,y2,y3,_⟩:=dh x6;obtain ⟨HT,kV,M0,Cd⟩:=eR iY CC cP mZ;have yQ:(j:Int)<(m1:Int):=by omega
  clear hx ky pV iY cP cI x6 qJ mZ VF dp hk c0 c1 c2 c3 CC;go_wp2_with (first | rw[<-M0.o] | (go_at_call 73;refine kV.o.mono ?_;rintro e w7 ⟨rfl,Nb,VG⟩;have H7:=aC Nb VG;clear Nb VG));go_roundw
  case rel=>exact ⟨j+1,by omega,by go_num,by have:=H7.o.1;rw[HT.o];simpa using this,Cd.o.trans H7.o.2⟩
  case measure=>simp[intOf];omega
 ·obtain rfl:m1=j:=by omega
  have cb:s.take m1=s:=by rw[HN.o.1];exact cO
  rw[cb]at dp;have HK:=aC dp hk;clear dp hk cb;go_wp2;go_end0;exact ⟨rfl,HK.o.1,HK.o.2⟩):G:=h
theorem pm6(h:G:=by
 clear hM sG qi Br;have pp65a:=();exact pm65):G:=h
theorem pm7(h:G:=by
 have pp152a:=();exact pm152):G:=h
theorem pm8(h:G:=by
 obtain ⟨j,Ce,kj,hj,rfl,bj,oY,eX,gt⟩:=hrel
 by_cases hlt:j<n1
 ·have ic:=ct HN.o.1 hlt;have BC:=ct HN.o.2 hlt;obtain ⟨b1,o1,⟨xv,xn,xa,xl,xc⟩,rfl,rQ,hx,c0,c1,c2⟩:=HT.o.2.2.1.get ic;obtain ⟨b2,o2,⟨yv,yn,ya,yl,yc⟩,rfl,hok2,hy,y0,y1,y2⟩:=HT.o.2.2.2.get BC;have qK:∀ b,¬M b->¬(b=mT):=fun b hb e=>hb (e ▸ HG.o.2.2.2.1);simp only at c0 c1 c2 y0 y1 y2;have d0:=bj.cell (qK _ rQ) c0;have d1:=bj.cell (qK _ rQ) c1;have d2:=bj.cell (qK _ rQ) c2;have g0:=bj.cell (qK _ hok2) y0;have g1:=bj.cell (qK _ hok2) y1;have g2:=bj.cell (qK _ hok2) y2;have R8:=(bj.same _ (by have:=H3.o.2.1;omega) (by have:=HmT.o;omega)).trans H3.o.2.2.1;have WV:=(bj.same _ (by have:=H3.o.2.1;omega) (by have:=HmT.o;omega)).trans H3.o.2.2.2.2.1;obtain ⟨W6,cP⟩:=ao (wr.alloc (.cells #[.bool xv,.string xn,.slice xa xl xc] 43));have cI:=cX cP;have x6:=bX cP;have vH:=bT cI R8;have WW:=bT cI WV;obtain ⟨S,hS⟩:∃S:World->Prop,S=fun V=>Below W6.heap.size W6 V:=⟨_,rfl⟩;have pp:∀ V,S V->V.cell? ⟨W.heap.size,0,none⟩=some (.int .u8 so)/\V.cell? ⟨W.heap.size,1,none⟩=some (.string sn)/\V.cell? ⟨W.heap.size,2,none⟩=some (.slice sa sl sc)/\V.cell? ⟨W.heap.size,3,none⟩=some (.slice sb sm se)/\V.cell? ⟨W.heap.size,4,none⟩=some (.int .u8 fo)/\V.cell? ⟨W.heap.size,5,none⟩=some (.string fn)/\V.cell? ⟨W.heap.size,6,none⟩=some (.slice fa fl fc)/\V.cell? ⟨W.heap.size,7,none⟩=some (.slice fb fm fe)/\V.cell? ⟨W.heap.size,8,none⟩=some (.slice ca cl cc):=fun V h=>by rw[hS]at h;exact ⟨aa h (ah vH 0),aa h (ah vH 1),aa h (ah vH 2),aa h (ah vH 3),aa h (ah vH 4),aa h (ah vH 5),aa h (ah vH 6),aa h (ah vH 7),aa h (ah vH 8)⟩
  have tt:∀ V,S V->V.cell? ⟨wr.heap.size,0,none⟩=some (.bool xv)/\V.cell? ⟨wr.heap.size,1,none⟩=some (.string xn)/\V.cell? ⟨wr.heap.size,2,none⟩=some (.slice xa xl xc):=fun V h=>by rw[hS]at h;exact ⟨aa h (ah x6 0),aa h (ah x6 1),aa h (ah x6 2)⟩
  have uu:∀ V,S V->V.cell? ⟨W.heap.size+1+1,2,none⟩=some (.slice (some ⟨b2,o2,none⟩) n1 uc):=fun V h=>by rw[hS]at h;exact aa h (ah WW 2)
  have yy:∀ V,S V->V.cell? ⟨b2,o2+j * 3,none⟩=some (.bool yv)/\V.cell? ⟨b2,o2+j * 3+1,none⟩=some (.string yn)/\V.cell? ⟨b2,o2+j * 3+2,none⟩=some (.slice ya yl yc):=fun V h=>by rw[hS]at h;exact ⟨aa h (aa cI g0),aa h (aa cI g1),aa h (aa cI g2)⟩
  exact pm1
 ·obtain rfl:j=n1:=by omega
  have JY:=ab (show R=some kj by rw[gt,jk (by rw[<-HN.o.1];exact aF _)];simp[ef]);have cb:a.take j=a:=by rw[HN.o.1];exact cO
  rw[cb]at oY;have HK:=bE bj oY eX;clear bj oY eX gt cb;go_wp2;go_ret;exact ⟨(Kp.below H3.o.1).trans HK.o.1,true,rfl,(fun h=>by rw[JY.o]at h;cases h),(fun ts fS=>⟨rfl,Ce,by have:=HK.o.2.1;have:=PQ.o.2;omega,by rw[JY.o]at fS;cases fS;exact HK.o.2.2⟩)⟩):G:=h
theorem pm9(h:G:=by
 obtain ⟨HF,eh,dy⟩:=cD hF cb ar;clear hu ar hF c0 c1 c2 cb;gi_wp2;obtain ⟨W2,bl⟩:=ao (wr.alloc (.cells #[.bool u.v,.string u.n,.slice u.a u.l u.c] 43));have pp48a:=();exact pm48):G:=h
theorem pm10(h:G:=by
 obtain ⟨k,hk,rfl,fp,ht⟩:=hrel
 by_cases hlt:k<k0
 ·have br:=ct dJ.o hlt;have nk:=ct ib.o hlt;have ar:=cJ.o.trans (fp.mono (by omega));obtain ⟨b,off,u,rfl,_,hu,c0,c1,c2⟩:=UF.o.get br;obtain ⟨b',nh,u',rfl,_,iA,mI,nU,nV⟩:=Zk.o.get nk;have rt:=HF.o.mem (az br);have qB:=fd.o xa[k] (az br);exact pm278
 ·obtain rfl:k=k0:=by omega
  have HE:=ab (show R=true by rw[ht,jk (by rw[dJ.o];exact aF _),dH];simp);have dy:=ab (cJ.o.trans (fp.mono (by omega)));clear fp ht;go_wp2;go_ret;exact ⟨aK HE.o.symm,dy.o⟩):G:=h
theorem pm11(h:G:=by
 obtain ⟨k,hk,rfl,hj,bj,⟨n',Dc,hbd⟩,ej⟩:=hrel;have pp253:=();exact pm253):G:=h
theorem pm12(h:G:=by
 have vD:=HL.o.1;have yJ:=HL.o.2.2.1;have Bp:W2.heap[W.heap.size]?=some (.cells #[.int .u8 u0,.string u1,.slice u2 u3 u4,.slice u5 u6 u7,.int .u8 v0,.string v1,.slice v2 v3 v4,.slice v5 v6 v7,.slice ca cl cc] 89 (0,0)):=(gE.same _ (by omega)).trans (aj rfl);have uP:∃r,(W.alloc (.cells #[.int .u8 u0,.string u1,.slice u2 u3 u4,.slice u5 u6 u7,.int .u8 v0,.string v1,.slice v2 v3 v4,.slice v5 v6 v7,.slice ca cl cc] 89)).heap[lR]?=some (.loop r):=by
  obtain ⟨r,hr⟩:=HL.o.2.1;exact ⟨r,(HL.o.2.2.2.1.block _ yJ).trans hr⟩
 first
 |clear pp12a;have lg:=(HQ.o.1.later HL.o.2.2.2.1).move (ok':=fun b=>¬M b) (fun b hb hlt=>⟨hb.2,gE.same b (by have:=hb.1;omega)⟩);have Sd:=(HQ.o.2.1.later HL.o.2.2.2.1).move (ok':=fun b=>¬M b) (fun b hb hlt=>⟨hb.2,gE.same b (by have:=hb.1;omega)⟩);have zM:=(HQ.o.2.2.1.kp (Kp.below HL.o.2.2.2.1)).busy gE uP;have jd:x∈bJ [] s f:=HL.o.2.2.2.2.2.subset (by simp);have sJ:nodesF x.s<=400:=aQ (l8 s f [] x jd) vF.o.1;have Vd:=HL.o.2.2.2.2.2.length_le;have J1:=qL s f [];simp only[di,fF,List.length_nil]at Vd;have cf:pre.length+1<=400:=by have:=vF.o.1;omega
  have CS:=Zu.o M (K0+1+1+1) (K0+1) (K0+1+1) wI.o.1 wI.o.2.1 wI.o.2.2.2.2 (fun b hb=>aQ HV.o.2.2.1.size (Bs.o.1 b hb)) x (nY s f [] (Eg vF.o.2.2.2) x jd) sJ W2 nF2 Ce k2 ⟨⟨u0,u1,u2,u3,u4,u5,u6,u7⟩,⟨v0,v1,v2,v3,v4,v5,v6,v7⟩,ca,cl,cc⟩ ps
   (fun b hb=>by have:=tG.o.2.2.2.2.1 b hb;have:=ix.o;have:=fW.size;omega) (Nv.o.kp fW (fun b hb=>aQ HV.o.2.2.1.size (Bs.o.1 b hb))) g2 (by have:=vF.o.2.1;have:=QC.o.2.1;omega) (by have:=vF.o.2.2.1;have:=QC.o.2.2;omega) ⟨lg,Sd,zM,HQ.o.2.2.2.1,HQ.o.2.2.2.2⟩
  obtain ⟨⟨k3,er⟩,Tx⟩:∃p,p=d_ k2 x:=⟨_,rfl⟩;rw[<-Tx]at CS;unfold StepPost at CS;simp only[PlQ.val,PlQ.cells]at CS;have QI:=fun h0:er=0=>(show validB k3=true from BJ k2 x k3 (nY s f [] (Eg vF.o.2.2.2) x jd) g5 (by rw[<-Tx,h0]))
  have m7:m8 d_ kj (pre ++ [x])=(k3,er):=by rw[wF pre kj k2 x g1,Tx]
  have hN:∀ b,b≠K0+1->b≠K0+1+1->¬N2 (K0+1) (K0+1+1) b:=fun b h h' hm=>by rcases hm with hm | hm;exact h hm;exact h' hm
  have ZL:=lx.o.2.1;have xp2:=(fW.same _ (bn HI.o.2.2.2.2.2) (fun h=>by have:=tG.o.2.2.2.2.1 _ h;have:=ix.o;omega)).trans HI.o.2.2.2.2.2;have xi2:=(fW.same _ (bn HI.o.2.2.2.2.1) (fun h=>by have:=tG.o.2.2.2.2.1 _ h;have:=ix.o;omega)).trans HI.o.2.2.2.2.1;have cp:=ah xp2 0;obtain ⟨P0,P1,P2,P3,P4,P5,P6,P7⟩:=BA Bp;have P8:=ah Bp 8;have tE:=ab CS;have HG:=ab (Z5 g3 g4 g6 g7 g8 QI m7 hN xi2 cf);clear CS g1 g2 g3 g4 g5 g6 g7 g8 QI m7 hN lg Sd zM jd sJ Vd J1 cf Tx Bp uP xp2 xi2 ZL;have Cd:=ab lx.o.2.1;have hKa:=Cd.o;have Ot:aB+2<=wq.heap.size:=by have:=ix.o;have:=lx.o.1;omega
  have hqa:K0+4<=wq.heap.size:=by have:=ix.o;have:=lx.o.1;omega
  have hfr:∀ f,(Fence.wide.inRound lR).fn f:=fun _=>trivial
  by_cases Ox:er=0
  ·subst Ox;gi_wp2_with (gi_at_call 47;refine CallsIn.inRound lR (aL.2 (tE.o.mono ?_));rintro e w4 ⟨j7,rfl,vC⟩;have E5:=(j7.same _ (bn HG.o.2.2.1) (HG.o.2.2.2.2.2.2.2.1 _ (by omega) (by omega))).trans HG.o.2.2.1;have AA:=(j7.same _ (bn HG.o.2.2.2.1) (HG.o.2.2.2.2.2.2.2.1 _ (by omega) (by omega))).trans HG.o.2.2.2.1;have E6:=(j7.same _ (bn HG.o.2.2.2.2.2.2.2.2.1) (HG.o.2.2.2.2.2.2.2.1 _ (by omega) (by omega))).trans HG.o.2.2.2.2.2.2.2.2.1;have y0:=ah E5 0;have y1:=ac E5 0;have y2:=ah AA 0;have y3:=ac AA 0;have y4:=ah E6 0;have H4:=fA j7 vC E5 AA E6;clear j7 vC E5 AA E6);exact pm56
  ·have zda:(er == 0)=false:=by simp[Ox]
   gi_wp2_with (gi_at_call 47;refine CallsIn.inRound lR (aL.2 (tE.o.mono ?_));rintro e w4 ⟨j7,rfl,vC⟩;have E5:=(j7.same _ (bn HG.o.2.2.1) (HG.o.2.2.2.2.2.2.2.1 _ (by omega) (by omega))).trans HG.o.2.2.1;have AA:=(j7.same _ (bn HG.o.2.2.2.1) (HG.o.2.2.2.2.2.2.2.1 _ (by omega) (by omega))).trans HG.o.2.2.2.1;have E6:=(j7.same _ (bn HG.o.2.2.2.2.2.2.2.2.1) (HG.o.2.2.2.2.2.2.2.1 _ (by omega) (by omega))).trans HG.o.2.2.2.2.2.2.2.2.1;have y0:=ah E5 0;have y1:=ac E5 0;have y2:=ah AA 0;have y3:=ac AA 0;have y4:=ah E6 0;have FD:Kp (fun b=>b=aB+1) w4 (w4.setCell ⟨aB+1,0,none⟩ (.int .i64 er)):=iR;have XU:=(FD.same _ (bn AA) (by omega)).trans AA;have xi6:=(FD.same _ (bn E6) (by omega)).trans E6;have y5:=ah xi6 0;have y6:=ah XU 0;have y7:=ac XU 0;clear FD XU xi6;have H4:=fA j7 vC E5 AA E6;clear j7 vC E5 AA E6);exact pm49
 |clear pp12b;have lg:=(HQ.o.1.later HL.o.2.2.2.1).move (ok':=fun b=>¬M b) (fun b hb hlt=>⟨hb.2,gE.same b (by have:=hb.1;omega)⟩);have Sd:=(HQ.o.2.1.later HL.o.2.2.2.1).move (ok':=fun b=>¬M b) (fun b hb hlt=>⟨hb.2,gE.same b (by have:=hb.1;omega)⟩);have zM:=(HQ.o.2.2.1.kp (Kp.below HL.o.2.2.2.1)).busy gE uP;have jd:x∈bJ [] s f:=HL.o.2.2.2.2.2.subset (by simp);have sJ:nodesF x.s<=400:=aQ (l8 s f [] x jd) vF.o.1;have Vd:=HL.o.2.2.2.2.2.length_le;have J1:=qL s f [];simp only[di,fF,List.length_nil]at Vd;have cf:pre.length+1<=400:=by have:=vF.o.1;omega
  have CS:=Zu.o M (K0+1+1+1) (K0+1) (K0+1+1) wI.o.1 wI.o.2.1 wI.o.2.2.2.2 (fun b hb=>aQ HV.o.2.2.1.size (Bs.o.1 b hb)) x (nY s f [] (Eg vF.o.2.2.2) x jd) sJ W2 nF2 Ce k2 ⟨⟨u0,u1,u2,u3,u4,u5,u6,u7⟩,⟨v0,v1,v2,v3,v4,v5,v6,v7⟩,ca,cl,cc⟩ ps
   (fun b hb=>by have:=tG.o.2.2.2.2.1 b hb;have:=ix.o;have:=fW.size;omega) (Nv.o.kp fW (fun b hb=>aQ HV.o.2.2.1.size (Bs.o.1 b hb))) g2 (by have:=vF.o.2.1;have:=QC.o.2.1;omega) (by have:=vF.o.2.2.1;have:=QC.o.2.2;omega) ⟨lg,Sd,zM,HQ.o.2.2.2.1,HQ.o.2.2.2.2⟩
  obtain ⟨⟨k3,er⟩,Tx⟩:∃p,p=kP k2 x:=⟨_,rfl⟩;rw[<-Tx]at CS;unfold StepPost at CS;simp only[PlQ.val,PlQ.cells]at CS;have QI:=fun h0:er=0=>(show validB k3=true from Jg k2 x k3 (nY s f [] (Eg vF.o.2.2.2) x jd) g5 (by rw[<-Tx,h0]))
  have m7:m8 kP kj (pre ++ [x])=(k3,er):=by rw[wF pre kj k2 x g1,Tx]
  have hN:∀ b,b≠K0+1->b≠K0+1+1->¬N2 (K0+1) (K0+1+1) b:=fun b h h' hm=>by rcases hm with hm | hm;exact h hm;exact h' hm
  have ZL:=lx.o.2.1;have xp2:=(fW.same _ (bn HI.o.2.2.2.2.2) (fun h=>by have:=tG.o.2.2.2.2.1 _ h;have:=ix.o;omega)).trans HI.o.2.2.2.2.2;have xi2:=(fW.same _ (bn HI.o.2.2.2.2.1) (fun h=>by have:=tG.o.2.2.2.2.1 _ h;have:=ix.o;omega)).trans HI.o.2.2.2.2.1;have cp:=ah xp2 0;obtain ⟨P0,P1,P2,P3,P4,P5,P6,P7⟩:=BA Bp;have P8:=ah Bp 8;have tE:=ab CS;have HG:=ab (Z5 g3 g4 g6 g7 g8 QI m7 hN xi2 cf);clear CS g1 g2 g3 g4 g5 g6 g7 g8 QI m7 hN lg Sd zM jd sJ Vd J1 cf Tx Bp uP xp2 xi2 ZL;have Cd:=ab lx.o.2.1;have hKa:=Cd.o;have Ot:aB+2<=wq.heap.size:=by have:=ix.o;have:=lx.o.1;omega
  have hqa:K0+4<=wq.heap.size:=by have:=ix.o;have:=lx.o.1;omega
  have hfr:∀ f,(Fence.wide.inRound lR).fn f:=fun _=>trivial
  by_cases Ox:er=0
  ·subst Ox;gi_wp2_with (gi_at_call 48;refine CallsIn.inRound lR (aL.2 (tE.o.mono ?_));rintro e w4 ⟨j7,rfl,vC⟩;have E5:=(j7.same _ (bn HG.o.2.2.1) (HG.o.2.2.2.2.2.2.2.1 _ (by omega) (by omega))).trans HG.o.2.2.1;have AA:=(j7.same _ (bn HG.o.2.2.2.1) (HG.o.2.2.2.2.2.2.2.1 _ (by omega) (by omega))).trans HG.o.2.2.2.1;have E6:=(j7.same _ (bn HG.o.2.2.2.2.2.2.2.2.1) (HG.o.2.2.2.2.2.2.2.1 _ (by omega) (by omega))).trans HG.o.2.2.2.2.2.2.2.2.1;have y0:=ah E5 0;have y1:=ac E5 0;have y2:=ah AA 0;have y3:=ac AA 0;have y4:=ah E6 0;have H4:=fA j7 vC E5 AA E6;clear j7 vC E5 AA E6);exact pm56
  ·have zda:(er == 0)=false:=by simp[Ox]
   gi_wp2_with (gi_at_call 48;refine CallsIn.inRound lR (aL.2 (tE.o.mono ?_));rintro e w4 ⟨j7,rfl,vC⟩;have E5:=(j7.same _ (bn HG.o.2.2.1) (HG.o.2.2.2.2.2.2.2.1 _ (by omega) (by omega))).trans HG.o.2.2.1;have AA:=(j7.same _ (bn HG.o.2.2.2.1) (HG.o.2.2.2.2.2.2.2.1 _ (by omega) (by omega))).trans HG.o.2.2.2.1;have E6:=(j7.same _ (bn HG.o.2.2.2.2.2.2.2.2.1) (HG.o.2.2.2.2.2.2.2.1 _ (by omega) (by omega))).trans HG.o.2.2.2.2.2.2.2.2.1;have y0:=ah E5 0;have y1:=ac E5 0;have y2:=ah AA 0;have y3:=ac AA 0;have y4:=ah E6 0;have FD:Kp (fun b=>b=aB+1) w4 (w4.setCell ⟨aB+1,0,none⟩ (.int .i64 er)):=iR;have XU:=(FD.same _ (bn AA) (by omega)).trans AA;have xi6:=(FD.same _ (bn E6) (by omega)).trans E6;have y5:=ah xi6 0;have y6:=ah XU 0;have y7:=ac XU 0;clear FD XU xi6;have H4:=fA j7 vC E5 AA E6;clear j7 vC E5 AA E6);exact pm49
 |clear pp12c;have lg:=(HQ.o.1.later HL.o.2.2.2.1).move (ok':=fun b=>¬M1 b) (fun b hb hlt=>⟨hb.2,gE.same b (by have:=hb.1;omega)⟩);have zM:=(HQ.o.2.1.kp (Kp.below HL.o.2.2.2.1)).busy gE uP;have jd:x∈bJ [] s s:=HL.o.2.2.2.2.2.subset (by simp);have sJ:nodesF x.s<=400:=aQ (l8 s s [] x jd) HP.o.2.1;have TE:=pg s s [] HP.o.1 x jd;have wD:Below w.heap.size w W2:=aq Jq.o.1 fW (fun b hb=>(TD.o b hb).1);have eX:=HP.o.2.2.2.1.later wD;have CS:=Nh nr kb mF mT nF nT kd x.s TE sJ _ W2 eX ⟨⟨u0,u1,u2,u3,u4,u5,u6,u7⟩,⟨v0,v1,v2,v3,v4,v5,v6,v7⟩,ca,cl,cc⟩ lg;simp only[PlQ.val,PlQ.cells]at CS;obtain ⟨bv,yw⟩:=ao (Tz x);have QP:=zba.o x ▸ CS;rw[<-yw]at QP;have Vk:=(fW.same _ (bn Jq.o.2.2.1) (fun h=>by have:=HMk.o;rw[IS.o]at h;omega)).trans Jq.o.2.2.1;have ck:=ah Vk 0;obtain ⟨P0,P1,P2,P3,P4,P5,P6,P7⟩:=BA Bp;have P8:=ah Bp 8;have tE:=ab QP;have HG:=bE g1 g2 g3;have LU:=ab yw;have hfr:∀ f,(Fence.wide.inRound lR).fn f:=fun _=>trivial;clear CS QP g1 g2 g3 lg zM jd sJ TE eX Bp uP Vk yw wD
  cases bv with
  | false=>
   gi_wp2_with (gi_at_call 124;refine CallsIn.inRound lR (aL.2 (tE.o.mono ?_));rintro e w4 ⟨rfl,aP⟩;have H4:=ab aP;clear aP);exact ⟨Kp.below H4.o,by rw[uR HG.o.1];exact LU.o.symm,bT H4.o HG.o.2.1,HG.o.2.2.trans (Kp.below H4.o)⟩
  | true=>
   gi_wp2_with (gi_at_call 124;refine CallsIn.inRound lR (aL.2 (tE.o.mono ?_));rintro e w4 ⟨rfl,aP⟩;have NC:=bT aP HG.o.2.1;have z0:=ah NC 0;have z1:=ac NC 0;have H4:=aC aP NC;clear aP NC);have gx:Kp (fun b=>b=w.heap.size+1+1) w4 (w4.setCell ⟨w.heap.size+1+1,0,none⟩ (.int .i64 6)):=iR;have Bt:Kp M1 w4 (w4.setCell ⟨w.heap.size+1+1,0,none⟩ (.int .i64 6)):=gx.mono (fun b _ h=>by subst h;rw[IS.o]);exact pm217
 |clear pp12d;have lg:=(HQ.o.1.later HL.o.2.2.2.1).move (ok':=fun b=>¬M2 b) (fun b hb hlt=>⟨hb.2,gE.same b (by have:=hb.1;omega)⟩);have zM:=(HQ.o.2.1.kp (Kp.below HL.o.2.2.2.1)).busy gE uP;have jd:x∈bJ [] s s:=HL.o.2.2.2.2.2.subset (by simp);have sJ:nodesF x.s<=400:=aQ (l8 s s [] x jd) HP.o.2.1;have TE:=pg s s [] HP.o.1 x jd;have wD:Below w.heap.size w W2:=aq Gx.o.1 fW (fun b hb=>(TG.o b hb).1);have eX:=HP.o.2.2.2.1.later wD;have CS:=Qk nr kb mF mT nF nT kd x ps HQ.o.2.2.1 HQ.o.2.2.2 TE sJ _ W2 eX ⟨⟨u0,u1,u2,u3,u4,u5,u6,u7⟩,⟨v0,v1,v2,v3,v4,v5,v6,v7⟩,ca,cl,cc⟩ lg zM.1;simp only[PlQ.val,PlQ.cells]at CS;obtain ⟨bv,yw⟩:=ao (TB x);have QP:=zbb.o x ▸ CS;rw[<-yw]at QP;have Vk:=(fW.same _ (bn Gx.o.2.2.1) (fun h=>by have:=HMk.o;rw[ZR.o]at h;omega)).trans Gx.o.2.2.1;have ck:=ah Vk 0;obtain ⟨P0,P1,P2,P3,P4,P5,P6,P7⟩:=BA Bp;have P8:=ah Bp 8;have tE:=ab QP;have HG:=bE g1 g2 g3;have LU:=ab yw;have hfr:∀ f,(Fence.wide.inRound lR).fn f:=fun _=>trivial;clear CS QP g1 g2 g3 lg zM jd sJ TE eX Bp uP Vk yw wD
  cases bv with
  | false=>
   gi_wp2_with (gi_at_call 125;refine CallsIn.inRound lR (aL.2 (tE.o.mono ?_));rintro e w4 ⟨rfl,aP⟩;have H4:=ab aP;clear aP);exact ⟨Kp.below H4.o,by rw[uR HG.o.1];exact LU.o.symm,bT H4.o HG.o.2.1,HG.o.2.2.trans (Kp.below H4.o)⟩
  | true=>
   gi_wp2_with (gi_at_call 125;refine CallsIn.inRound lR (aL.2 (tE.o.mono ?_));rintro e w4 ⟨rfl,aP⟩;have NC:=bT aP HG.o.2.1;have z0:=ah NC 0;have z1:=ac NC 0;have H4:=aC aP NC;clear aP NC);have gx:Kp (fun b=>b=w.heap.size+1+1) w4 (w4.setCell ⟨w.heap.size+1+1,0,none⟩ (.int .i64 72)):=iR;have Bt:Kp M2 w4 (w4.setCell ⟨w.heap.size+1+1,0,none⟩ (.int .i64 72)):=gx.mono (fun b _ h=>by subst h;rw[ZR.o]);exact pm217
 |have lg:=(HQ.o.1.later HL.o.2.2.2.1).move (ok':=fun b=>¬M3 b) (fun b hb hlt=>⟨hb.2,gE.same b (by have:=hb.1;omega)⟩);have zM:=(HQ.o.2.1.kp (Kp.below HL.o.2.2.2.1)).busy gE uP;have jd:x∈bJ [] s s:=HL.o.2.2.2.2.2.subset (by simp);have sJ:nodesF x.s<=400:=aQ (l8 s s [] x jd) HP.o.2.1;have TE:=pg s s [] HP.o.1 x jd;have wD:Below w.heap.size w W2:=aq QS.o.1 fW (fun b hb=>(TI.o b hb).1);have eX:=HP.o.2.2.2.1.later wD;have CS:=Nj nr kb mF mT nF nT kd x.s TE sJ _ W2.drew (eX.later (ak _ _).drew) ⟨⟨u0,u1,u2,u3,u4,u5,u6,u7⟩,⟨v0,v1,v2,v3,v4,v5,v6,v7⟩,ca,cl,cc⟩ (lg.later (ak _ _).drew);simp only[PlQ.val,PlQ.cells]at CS;have hsz:=QK eX x.s TE sJ;obtain ⟨bv,yw⟩:=ao (E7 x);have QP:=Vi.o x ▸ CS;rw[<-yw]at QP;have Vk:=(fW.same _ (bn QS.o.2.2.1) (fun h=>by have:=HMk.o;rw[HM3.o]at h;have:=HnB.o;omega)).trans QS.o.2.2.1;have ck:=ah Vk 0;obtain ⟨P0,P1,P2,P3,P4,P5,P6,P7⟩:=BA Bp;have P8:=ah Bp 8;have tE:=ab QP;have HG:=cC g1 g2 g3 g4;have LU:=ab yw;have hfr:∀ f,(Fence.wide.inRound lR).fn f:=fun _=>trivial;have HSz:=ab (show bv<=1000000 by rw[yw,<-Vi.o];exact hsz);clear hsz;clear CS QP g1 g2 g3 g4 lg zM jd sJ TE eX Bp uP Vk yw wD;obtain ⟨S0,bW⟩:=ao (pre.map E7).sum;have yx:((pre ++ [x]).map E7).sum=S0+bv:=by rw[bW,LU.o];simp
  have hG:=HG.o;rw[<-bW]at hG;obtain ⟨HGs,zdl⟩:=aZ hG yx;clear bW yx hG;obtain ⟨S,hS⟩:∃S:World->Prop,S=fun V=>Below W2.heap.size W2 V:=⟨_,rfl⟩;have dW:S W2.drew:=by rw[hS];exact (ak _ _).drew
  have f0:∀ V,S V->V.cell? ⟨nB,0,none⟩=some (.int .i64 S0):=fun V h=>by rw[hS]at h;exact aa h (ah HGs.o.2.1 0)
  have f1:∀ V,S V->V.cell? ⟨w.heap.size,0,none⟩=some (.pointer (some ⟨kb,0,none⟩)):=fun V h=>by rw[hS]at h;exact aa h ck
  have f2:∀ V,S V->V.cell? ⟨W.heap.size,0,none⟩=some (.int .u8 u0)/\V.cell? ⟨W.heap.size,1,none⟩=some (.string u1)/\V.cell? ⟨W.heap.size,2,none⟩=some (.slice u2 u3 u4)/\V.cell? ⟨W.heap.size,3,none⟩=some (.slice u5 u6 u7)/\V.cell? ⟨W.heap.size,4,none⟩=some (.int .u8 v0)/\V.cell? ⟨W.heap.size,5,none⟩=some (.string v1)/\V.cell? ⟨W.heap.size,6,none⟩=some (.slice v2 v3 v4)/\V.cell? ⟨W.heap.size,7,none⟩=some (.slice v5 v6 v7)/\V.cell? ⟨W.heap.size,8,none⟩=some (.slice ca cl cc):=fun V h=>by rw[hS]at h;exact ⟨aa h P0,aa h P1,aa h P2,aa h P3,aa h P4,aa h P5,aa h P6,aa h P7,aa h P8⟩
  have aJ:=HSz.o;have nE:=HGs.o.1;obtain ⟨S1,cF⟩:=ao (S0+bv);have hwr:IntKind.i64.wrap ((S0:Int)+(bv:Int))=(S1:Int):=by rw[ik _ (by omega)];omega
  have QT:=ab (cF ▸ zdl.o:((pre ++ [x]).map E7).sum=S1);have HS:=ab hS;have HWr:=aC hwr aJ;clear hS cF ck P0 P1 P2 P3 P4 P5 P6 P7 P8 aJ nE hwr;gi_wp2_with fail;refine lV S 5 dW fun jO bW=>?_;refine dm 0 27 (.int .i64 S0) rfl (fun V hX=>by have g0:=f0 V hX;go_simp) bW fun cF=>?_;simp only[ag];refine dm 1 28 (.pointer (some ⟨kb,0,none⟩)) rfl (fun V hX=>by have g0:=f1 V hX;go_simp) cF fun fI=>?_;simp only[ag];refine dm 2 29 (.agg #[.int .u8 u0,.string u1,.slice u2 u3 u4,.slice u5 u6 u7,.int .u8 v0,.string v1,.slice v2 v3 v4,.slice v5 v6 v7,.slice ca cl cc]) rfl (fun V hX=>by obtain ⟨g0,g1,g2,g3,g4,g5,g6,g7,g8⟩:=f2 V hX;go_simp) fI fun gO=>?_;simp only[ag];refine ce 3 rfl fun K hK=>?_;go_simp;refine CallsIn.inRound lR (aL.2 (tE.o.mono ?_));rintro _ w4 ⟨rfl,aP⟩;have cv:Below W2.heap.size W2 w4:=((ak W2.heap.size W2).drew).trans aP;refine hK _ _ (fun _=>by rw[HS.o];exact cv) (fun iX=>?_);clear hK K;refine dm 4 31 (.int .i64 (S1:Int)) rfl (fun V hX=>by have hwr:=HWr.o.1;go_simp) (iX (by omega)) fun jQ=>?_;simp only[ag];have X_:=bT cv HGs.o.2.1;have NC:=bT cv HGs.o.2.2.1;have n4:=ah X_ 0;have z4:=ac X_ 0;refine ce 5 rfl fun K hK=>?_;go_simp;refine eS hK ?_;clear hK K;refine le ?_;have gx:Kp (fun b=>b=nB) w4 (w4.setCell ⟨nB,0,none⟩ (.int .i64 (S1:Int))):=iR;have Bt:Kp M3 w4 (w4.setCell ⟨nB,0,none⟩ (.int .i64 (S1:Int))):=gx.mono (fun b _ h=>by subst h;rw[HM3.o];exact .inr rfl);have xn5:=iQ X_ (v:=.int .i64 (S1:Int));have xr5:=(gx.same _ (bn NC) (by have:=HnB.o;omega)).trans NC;obtain ⟨w5,ZE⟩:=ao (w4.setCell ⟨nB,0,none⟩ (.int .i64 (S1:Int)));rw[<-ZE]at gx Bt xn5 xr5 ⊢;have mL:=(Kp.below (M:=M3) cv).trans Bt;have n5:=ah xn5 0;have r5:=ah xr5 0;have z5:=ac xr5 0;have H5:=fA mL xn5 xr5 (HGs.o.2.2.2.trans mL) Bt;clear cv aP X_ NC n4 z4 gx Bt xn5 xr5 ZE mL jQ iX gO fI cF bW f0 f1 f2 dW
  by_cases LS:400<S1
  ·have hd:decide ((400:Int)<(S1:Int))=true:=by simp;omega
   gi_wp2_with fail;have qJ:Kp (fun b=>b=w.heap.size+1+1) w5 (w5.setCell ⟨w.heap.size+1+1,0,none⟩ (.int .i64 3)):=iR;have zbd:Kp M3 w5 (w5.setCell ⟨w.heap.size+1+1,0,none⟩ (.int .i64 3)):=qJ.mono (fun b _ h=>by subst h;rw[HM3.o];exact .inl rfl);exact ⟨trivial,(H5.o.1.trans zbd).from _,rfl,by rw[QT.o];exact LS,iQ H5.o.2.2.1,H5.o.2.2.2.1.trans zbd⟩
  ·have hd:decide ((400:Int)<(S1:Int))=false:=by simp;omega
   gi_wp2_with fail;exact ⟨H5.o.1,by rw[QT.o];omega,by rw[QT.o];exact H5.o.2.1,H5.o.2.2.1,H5.o.2.2.2.1⟩):G:=h
theorem pm13(h:G:=by
 have hh3:Below w.heap.size w (((w.alloc (.cells #[.bool true,.string ⟨n.toArray⟩,.slice qa k0 qc] 43)).alloc (.cells #[.bool false,.string ⟨#[]⟩,.slice none 0 0] 43)).alloc (.cells #[.bool true,.string ⟨n.toArray⟩,.slice none 0 0] 43)):=(cQ.alloc (by simp) _).alloc (by simp;omega) _;have y1:(((w.alloc (.cells #[.bool true,.string ⟨n.toArray⟩,.slice qa k0 qc] 43)).alloc (.cells #[.bool false,.string ⟨#[]⟩,.slice none 0 0] 43)).alloc (.cells #[.bool true,.string ⟨n.toArray⟩,.slice none 0 0] 43)).heap[w.heap.size+1]?=some (.cells #[.bool false,.string ⟨#[]⟩,.slice none 0 0] 43 (0,0)):=(bK _ _ _ (by simp)).trans (aj (by simp));have y2:(((w.alloc (.cells #[.bool true,.string ⟨n.toArray⟩,.slice qa k0 qc] 43)).alloc (.cells #[.bool false,.string ⟨#[]⟩,.slice none 0 0] 43)).alloc (.cells #[.bool true,.string ⟨n.toArray⟩,.slice none 0 0] 43)).heap[w.heap.size+1+1]?=some (.cells #[.bool true,.string ⟨n.toArray⟩,.slice none 0 0] 43 (0,0)):=aj (by simp);have y0:(((w.alloc (.cells #[.bool true,.string ⟨n.toArray⟩,.slice qa k0 qc] 43)).alloc (.cells #[.bool false,.string ⟨#[]⟩,.slice none 0 0] 43)).alloc (.cells #[.bool true,.string ⟨n.toArray⟩,.slice none 0 0] 43)).heap[w.heap.size]?=some (.cells #[.bool true,.string ⟨n.toArray⟩,.slice qa k0 qc] 43 (0,0)):=(bK _ _ _ (by simp;omega)).trans ((bK _ _ _ (by simp)).trans (aj rfl));have HY:=cC hh3 y1 y2 y0;have CP:=ab (fun w=>hh ▸ jZ n w (by omega));clear hh hh3 y1 y2 y0;have pp256:=();exact pm256):G:=h
theorem pm14(h:G:=by
 cases S with
 | none=>
  go_wp2_with (go_at_call 229;refine HC.o.mono ?_;rintro e w2 ⟨⟨v2,rfl,jS⟩,bF⟩;obtain ⟨a2,c2,rfl⟩:=jS.slice;simp only[Option.getD,List.length_nil];have cJ:=ab (HB.o.trans (bF.mono HB.o.size));clear bF jS);go_roundw
  case rel=>exact ⟨k+1,by omega,by go_num,cJ.o,HT.o⟩
  case measure=>simp[intOf];omega
 | some p=>
  obtain ⟨BM,BN⟩:=HLS.o p rfl;obtain ⟨p0,nD⟩:=ao p.length;have nj:0<p0:=by rw[nD];exact ie.2 BM
  have zap:p0<=2000000:=by rw[nD];exact BN
  have O9:(0:Int)<(p0:Int):=by omega
  obtain ⟨FF,Wi⟩:=aZ nD BM;clear nD BM BN HLS;go_wp2_with (first | (go_at_call 229;refine HC.o.mono ?_;rintro e w2 ⟨⟨v2,rfl,jS⟩,bF⟩;obtain ⟨a2,c2,rfl⟩:=jS.slice;simp only[Option.getD]at jS ⊢;obtain ⟨b2,off2,rfl,hc2⟩:=jS.get Wi.o;have HO:=ab jS.olds;have cJ:=ab (HB.o.trans (bF.mono HB.o.size));rw[<-FF.o];clear bF jS hc2) | (at_builtin;refine wpList_append_lies _ rfl _ _ 218 rfl 0 3 i0 (.int .i64 0) 1 8 Tryz.underlying218 hi pF iq gV rfl (by decide) _ 1 [.int .i64 (k:Int)] rfl (Wf 0 (bc _) (aj rfl)) ⟨b2,off2,none⟩ p0 c2 (sS p) rfl (by rw[FF.o];simp[sS]) (fun j u h=>aa cQ (HO.o j u h)) (by simp[sS,Value.oneCell']) nj (by unfold maxLen;omega) (by omega) (bc _) (w2.heap.size+1) (by simp) ?_;intro g eG w4 aR ap hg ev;have HG:=aC aR ap;clear aR ap hg ev));go_ret;refine ⟨⟨_,rfl,?_⟩,?_⟩
  ·rw[HT.o];exact IntsV.own (l:=k :: p) HG.o.1
  ·have aP:Below w2.heap.size w2 w4:=by
    have hg:=HG.o.2;have hs:=hg.size;exact ⟨hg.os,hg.tape,hg.output,by simp at hs;omega,fun b hb=>(hg.block b (by simp;omega) (fun h=>by injection h with h;simp at h;omega)).trans (bK _ _ _ hb)⟩
   exact cJ.o.trans (aP.mono cJ.o.size)):G:=h
theorem pm15(h:G:=by
 have pp190a:=();exact pm190):G:=h
theorem pm16(h:G:=by
 have gi:Below wq.heap.size wq lP:=by rw[wH.o];exact (((ak wq.heap.size wq).alloc (aF _) _).alloc (by simp) _).tr (fE _ _ _)
 have E4:((wq.alloc (.cells #[.int .i64 j] 3)).alloc (.cells #[.int .u8 a0,.string a1,.slice a2 a3 a4,.slice a5 a6 a7,.int .u8 b0,.string b1,.slice b2 b3 b4,.slice b5 b6 b7] 50)).heap.size=wq.heap.size+1+1:=by simp
 have QD:lP.heap.size=wq.heap.size+1+1+2:=by rw[wH.o,kg,E4]
 have xX:lP.heap[wq.heap.size+1+1]?=some (.cells #[.int .u8 a0,.string a1,.slice a2 a3 a4,.slice a5 a6 a7] 36 (0,0)):=by rw[wH.o,<-E4];exact kZ _ _ _
 have xY:lP.heap[wq.heap.size+1+1+1]?=some (.cells #[.int .u8 b0,.string b1,.slice b2 b3 b4,.slice b5 b6 b7] 36 (0,0)):=by rw[wH.o,<-E4];exact k_ _ _ _
 have xi:lP.heap[wq.heap.size]?=some (.cells #[.int .i64 j] 3 (0,0)):=by
  rw[wH.o];exact ((fE _ _ _).block _ (by simp;omega)).trans ((bK _ _ _ (by simp)).trans (aj rfl))
 have QE:sj.heap.size<=wq.heap.size:=bj.size;have Tv:∀ b,M b->b<ly.heap.size:=tG.o.2.2.2.2.1;have FN:=tG.o.2.2.2.1;have sx:=tG.o.2.2.2.2.2;have LD:w.heap.size<=ly.heap.size:=lx.o.2.2.1.size;have XT:∀ b,b<w.heap.size->lP.heap[b]?=w.heap[b]?:=fun b hb=>(gi.block b (bN hb ob.size)).trans (ob.block b hb);have lh:FormV (fun b=>b<lP.heap.size/\¬M b) lP (FQ.val ⟨a0,a1,a2,a3,a4,a5,a6,a7⟩) s:=hs.move (fun b hb hlt=>⟨⟨by omega,fun hm=>by have:=Bs.o.1 b hm;omega⟩,XT b hlt⟩);have xj:FormV (fun b=>b<lP.heap.size/\¬M b) lP (FQ.val ⟨b0,b1,b2,b3,b4,b5,b6,b7⟩) f:=hf.move (fun b hb hlt=>⟨⟨by omega,fun hm=>by have:=Bs.o.1 b hm;omega⟩,XT b hlt⟩)
 first
 |clear pp16;have Az:=Ay;simp only[ae]at Az;have Es:nodesF s<=400:=by have:=Az.1;unfold schemaF at this;simp only[ae,bw]at this;exact this.2.1
  have IK:¬M (wq.heap.size+1+1):=fun h=>by have:=Tv _ h;omega
  have XG:¬M (wq.heap.size+1+1+1):=fun h=>by have:=Tv _ h;omega
  have oB:=mz s f ky.2 (by omega) M lP.heap.size (wq.heap.size+1+1) (wq.heap.size+1+1+1) lP ⟨a0,a1,a2,a3,a4,a5,a6,a7⟩ ⟨b0,b1,b2,b3,b4,b5,b6,b7⟩ xX IK xY XG lh xj;have hMr:M (K0+1)/\M (K0+1+1)/\M aB/\M (aB+1)/\¬M (K0+1+1+1):=by rw[HM.o];have:=lx.o.2.1;omega
  have QF:=bT gi FO;have QG:=bT gi fL;have QH:lP.heap[wr.heap.size]?=some (.cells #[(.func (.func 47) #[.pointer (some ⟨K0+1+1+1,0,none⟩)] #[])] 82 (0,0)):=(gi.block _ (by omega)).trans ((bj.same _ (by omega) (fun h=>by have:=Tv _ h;omega)).trans tG.o.1);have Hp:Marks ly.heap.size lP XR:=wV.move (fun D hD hd=>(gi.block D (bn hd)).trans hd);have Nv:=ab ((HV.o.2.2.1.next ob).next gi);have HSq:=ab oB;have HI:=rK (dV.later gi) QF QG DJ xi QH;have ix:=ab (an8 gi QD Hp bj QE FN sx LD);have U7:=ab gt;have vF:=cC Es rP qw Ay;have wI:=ab hMr;have vI:=ab ((gi.block _ (by have:=(bn jI.o);omega)).trans ((bj.same _ (bn jI.o) Bs.o.2).trans jI.o));clear hs hf gi E4 QD xX xY xi QE FN sx LD XT lh xj Az Es IK XG oB hMr QF QG QH Hp dV bj FO fL wV rP qw gt DJ Ay ky ob d0 d1 d2 d3 d4 d5 d6 d7 XS hu;have eg:∀ args W,(callFunc 102 args).run Tryz.prog W=.ok (.enter 102 args) W:=enters_of Tryz.func102 (by kernel_rfl) rfl;refine gd rfl eg (fun b hb=>by have:=Tv b hb;have:=ix.o;omega) HSq.o (fun _ _ _ h=>by obtain ⟨q,ps,rfl,_⟩:=h;rfl)
   (fun pre X=>∃(k':Bd) (xx uC:Nat),m8 d_ kj pre=(k',0)/\KnV (fun b=>¬M b) goodF goodT X (K0+1+1+1) (K0+1) (K0+1+1) xx uC k'/\xx<=Nz+pre.length/\uC<=NA+pre.length * 400/\validB k'=true/\X.heap[aB+1]?=some (.cells #[.int .i64 0] 30 (0,0))/\X.heap[aB]?=some (.cells #[.int .i64 0] 3 (0,0))/\Kp M lP X)
   (fun c pre X=>c=.exit 2/\∃(k':Bd) (er:Int),er≠0/\m8 d_ kj pre=(k',er)/\X.heap[aB+1]?=some (.cells #[.int .i64 er] 30 (0,0))/\X.heap[aB]?=some (.cells #[.int .i64 j] 3 (0,0))/\Kp M lP X)
   (fun s=>?hI) (fun c s=>?hIx) ⟨kj,Nz,NA,rfl,HI.o.1,by simp,by simp,HI.o.2.2.2.1,HI.o.2.1,HI.o.2.2.1,Kp.refl _⟩ ?round ?done ?stop
  case hI=>
   exact pm163
  case hIx=>
   rintro X Y hn ⟨h1,k',er,h2,h3,h4,h5,h6⟩;exact ⟨h1,k',er,h2,h3,hn.cells h4,hn.cells h5,nu h6 hn⟩
  case round=>
   rintro lR pre vs x W hl yf ⟨k',xx,uC,h1,h2,h3,h4,h5,h6,h7,h8⟩ ⟨q,ps,rfl,LW,lJ,tF,B_,iF⟩ FB dt;have pp19d:=();exact pm19
  case done=>
   exact pm39
  case stop=>
   have pp250:=();exact pm250
 |have Az:=Ay;simp only[ae]at Az;have Es:nodesF s<=400:=by have:=Az.1;unfold schemaF at this;simp only[ae,bw]at this;exact this.2.1
  have IK:¬M (wq.heap.size+1+1):=fun h=>by have:=Tv _ h;omega
  have XG:¬M (wq.heap.size+1+1+1):=fun h=>by have:=Tv _ h;omega
  have oB:=mz s f ky.2 (by omega) M lP.heap.size (wq.heap.size+1+1) (wq.heap.size+1+1+1) lP ⟨a0,a1,a2,a3,a4,a5,a6,a7⟩ ⟨b0,b1,b2,b3,b4,b5,b6,b7⟩ xX IK xY XG lh xj;have hMr:M (K0+1)/\M (K0+1+1)/\M aB/\M (aB+1)/\¬M (K0+1+1+1):=by rw[HM.o];have:=lx.o.2.1;omega
  have QF:=bT gi FO;have QG:=bT gi fL;have QH:lP.heap[wr.heap.size]?=some (.cells #[(.func (.func 48) #[.pointer (some ⟨K0+1+1+1,0,none⟩)] #[])] 82 (0,0)):=(gi.block _ (by omega)).trans ((bj.same _ (by omega) (fun h=>by have:=Tv _ h;omega)).trans tG.o.1);have Hp:Marks ly.heap.size lP XR:=wV.move (fun D hD hd=>(gi.block D (bn hd)).trans hd);have Nv:=ab ((HV.o.2.2.1.next ob).next gi);have HSq:=ab oB;have HI:=rK (dV.later gi) QF QG DJ xi QH;have ix:=ab (an8 gi QD Hp bj QE FN sx LD);have U7:=ab gt;have vF:=cC Es rP qw Ay;have wI:=ab hMr;have vI:=ab ((gi.block _ (by have:=(bn jI.o);omega)).trans ((bj.same _ (bn jI.o) Bs.o.2).trans jI.o));clear hs hf gi E4 QD xX xY xi QE FN sx LD XT lh xj Az Es IK XG oB hMr QF QG QH Hp dV bj FO fL wV rP qw gt DJ Ay ky ob d0 d1 d2 d3 d4 d5 d6 d7 XS hu;have eg:∀ args W,(callFunc 102 args).run Tryz.prog W=.ok (.enter 102 args) W:=enters_of Tryz.func102 (by kernel_rfl) rfl;refine gd rfl eg (fun b hb=>by have:=Tv b hb;have:=ix.o;omega) HSq.o (fun _ _ _ h=>by obtain ⟨q,ps,rfl,_⟩:=h;rfl)
   (fun pre X=>∃(k':Bd) (xx uC:Nat),m8 kP kj pre=(k',0)/\KnV (fun b=>¬M b) goodF goodT X (K0+1+1+1) (K0+1) (K0+1+1) xx uC k'/\xx<=Nz+pre.length/\uC<=NA+pre.length * 400/\validB k'=true/\X.heap[aB+1]?=some (.cells #[.int .i64 0] 30 (0,0))/\X.heap[aB]?=some (.cells #[.int .i64 0] 3 (0,0))/\Kp M lP X)
   (fun c pre X=>c=.exit 2/\∃(k':Bd) (er:Int),er≠0/\m8 kP kj pre=(k',er)/\X.heap[aB+1]?=some (.cells #[.int .i64 er] 30 (0,0))/\X.heap[aB]?=some (.cells #[.int .i64 j] 3 (0,0))/\Kp M lP X)
   (fun s=>?hI) (fun c s=>?hIx) ⟨kj,Nz,NA,rfl,HI.o.1,by simp,by simp,HI.o.2.2.2.1,HI.o.2.1,HI.o.2.2.1,Kp.refl _⟩ ?round ?done ?stop
  case hI=>
   exact pm163
  case hIx=>
   rintro X Y hn ⟨h1,k',er,h2,h3,h4,h5,h6⟩;exact ⟨h1,k',er,h2,h3,hn.cells h4,hn.cells h5,nu h6 hn⟩
  case round=>
   rintro lR pre vs x W hl yf ⟨k',xx,uC,h1,h2,h3,h4,h5,h6,h7,h8⟩ ⟨q,ps,rfl,LW,lJ,tF,B_,iF⟩ FB dt;exact pm19
  case done=>
   exact pm39
  case stop=>
   exact pm250):G:=h
theorem pm17(h:G:=by
 have kV:=ab CC;clear CC;gi_wp2_with (gi_at_call 51;refine aL.2 (kV.o.mono ?_);rintro e w5 ⟨p5,rfl,rq,bi⟩;obtain ⟨po,pn,pa,pl,pc,pb,pm,pe⟩:=p5;simp only at rq ⊢;have Eu:=ab (GF.o.later bi);have HP:=ab rq;have x1:=Eu.o.b1;have f0:=ah x1 0;have f1:=ah x1 1;have f2:=ah x1 2;have f3:=ah x1 3;have z0:=ac x1 0;have z1:=ac x1 1;have z2:=ac x1 2;have z3:=ac x1 3;clear bi rq x1);have WD:=GF.o.lt;have x6:=lm (v0:=.int .u8 po) (v1:=.string pn) (v2:=.slice pa pl pc) (v3:=.slice pb pm pe) Eu.o.b1;have k6:=dI (W:=w5) (b:=w.heap.size+1+1) (v0:=.int .u8 po) (v1:=.string pn) (v2:=.slice pa pl pc) (v3:=.slice pb pm pe);obtain ⟨W6,cP⟩:=ao ((((w5.setCell ⟨w.heap.size+1+1,0,none⟩ (.int .u8 po)).setCell ⟨w.heap.size+1+1,1,none⟩ (.string pn)).setCell ⟨w.heap.size+1+1,2,none⟩ (.slice pa pl pc)).setCell ⟨w.heap.size+1+1,3,none⟩ (.slice pb pm pe));rw[<-cP]at x6 k6 ⊢;clear cP;have g0:W6.cell? ⟨w.heap.size+1+1,0,none⟩=some (.int .u8 po):=ah x6 0;have g1:W6.cell? ⟨w.heap.size+1+1,1,none⟩=some (.string pn):=ah x6 1;have g2:W6.cell? ⟨w.heap.size+1+1,2,none⟩=some (.slice pa pl pc):=ah x6 2;have g3:W6.cell? ⟨w.heap.size+1+1,3,none⟩=some (.slice pb pm pe):=ah x6 3;refine bI (v:=FQ.val ⟨po,pn,pa,pl,pc,pb,pm,pe⟩) (by simp[FQ.val,results,Tryz.results101,go_sem,g0,g1,g2,g3]) rfl ⟨⟨⟨po,pn,pa,pl,pc,pb,pm,pe⟩,rfl,wk.o ▸ HP.o.move (fun b hok hlt=>⟨by omega,k6.same b hlt (by omega)⟩)⟩,Below.kp1 Eu.o.below k6 (by omega)⟩):G:=h
theorem pm18(h:G:=by
 obtain ⟨uo,un,ua,ul,uc,ub,um,ue⟩:=u;obtain ⟨vo,vn,va,vl,vc,vb,vm,ve⟩:=v;have jb:=mv (c:=yp) wQ Un;have xh:=(bj.same _ (bn Oq.o) HWM.o.2).trans Oq.o;have zcP:=bj.size;have zcQ:k<sm:=by have:=ib.o;omega
 have zcR:k<fm:=by have:=ib.o;omega
 have tO:(pre ++ ([X] ++ aU yp (ss.take k) (fs.take k)) ++ bJ yp ss[k] fs[k]) <+: xs:=by
  have h2:=nS.o;rw[mw (c:=yp) (k:=k+1) (l:=ss) (m:=fs),jb]at h2;obtain ⟨r,rfl⟩:=h2;exact ⟨aU yp (ss.drop (k+1)) (fs.drop (k+1)) ++ r,by simp⟩
 obtain ⟨S,hS⟩:∃S:World->Prop,S=fun V=>Below wr.heap.size wr V:=⟨_,rfl⟩;have p3:∀ V,S V->V.cell? ⟨W.heap.size,3,none⟩=some (.slice (some ⟨bs,os,none⟩) sm se):=fun V h=>by rw[hS]at h;exact aa h (ah xh 3)
 have p7:∀ V,S V->V.cell? ⟨W.heap.size,7,none⟩=some (.slice (some ⟨bf,of,none⟩) fm fe):=fun V h=>by rw[hS]at h;exact aa h (ah xh 7)
 have qs:∀ V,S V->V.cell? ⟨bs,os+k * 4,none⟩=some (.int .u8 uo)/\V.cell? ⟨bs,os+k * 4+1,none⟩=some (.string un)/\V.cell? ⟨bs,os+k * 4+2,none⟩=some (.slice ua ul uc)/\V.cell? ⟨bs,os+k * 4+3,none⟩=some (.slice ub um ue):=fun V h=>by rw[hS]at h;exact ⟨aa h d0,aa h d1,aa h d2,aa h d3⟩
 have qf:∀ V,S V->V.cell? ⟨bf,of+k * 4,none⟩=some (.int .u8 vo)/\V.cell? ⟨bf,of+k * 4+1,none⟩=some (.string vn)/\V.cell? ⟨bf,of+k * 4+2,none⟩=some (.slice va vl vc)/\V.cell? ⟨bf,of+k * 4+3,none⟩=some (.slice vb vm ve):=fun V h=>by rw[hS]at h;exact ⟨aa h g0,aa h g1,aa h g2,aa h g3⟩
 have dW:S wr.drew:=by rw[hS];exact (ak _ _).drew
 first
 |clear pp18;have wm:Kp M W3 wr.drew:=bj.trans (Kp.below (ak _ _).drew);have CC:=fd.o ss[k] (az wQ) fs[k] (UZ.o.mem (az Un)) ps (by have:=tR.o.2.1 ss[k] (az wQ);omega) M B l J Jx xs (pre ++ ([X] ++ aU yp (ss.take k) (fs.take k))) wr.drew ⟨⟨uo,un,ua,ul,uc,ub,um,ue⟩,⟨vo,vn,va,vl,vc,vb,vm,ve⟩,ca,cl,cc⟩
   (fun b hb=>by have:=Bl.o.1 b hb;show b<wr.heap.size;have:=zR.o.2.size;omega) ⟨by have:=Bl.o.2.1;show l<wr.heap.size;have:=zR.o.2.size;omega,Bl.o.2.2⟩ (fun t=>(HJ.o.1 t).mono (by show W.heap.size<=wr.heap.size;have:=zR.o.2.size;omega)) (fun t=>(HJ.o.2 t).mono (by show W.heap.size<=wr.heap.size;have:=zR.o.2.size;omega))
   (HY.o.later (zR.o.2.trans wm)) (hu.kp (zR.o.2.trans wm)) (hv.kp (zR.o.2.trans wm)) (HPz.o.kp wm) (by rw[show (ps).reverse=yp from BK.o];exact tO) (HJ.o.1 _ _ _ (Nw.below (ak _ _).drew) hj)
  rw[show (ps).reverse=yp from BK.o]at CC;simp only[PlQ.val,PlQ.cells]at CC;obtain ⟨HC,HSu⟩:=aZ CC jb;have kD:=aC bj wm;clear hu hv tO CC jb hj bj wm xh jf hS c0 c1 c2 c3 e0 e1 e2 e3 d0 d1 d2 d3 g0 g1 g2 g3;gi_wp2;refine lV S 15 dW fun jO bW=>?_;refine bL 0 43 (.pointer (some ⟨W.heap.size,0,none⟩)) rfl bW fun cF=>?_;simp only[ag];refine bL 1 44 (.pointer (some ⟨W.heap.size,3,none⟩)) rfl cF fun fI=>?_;simp only[ag];refine dm 2 45 (.slice (some ⟨bs,os,none⟩) sm se) rfl (fun V hX=>by have h0:=p3 V hX;go_simp) fI fun gO=>?_;simp only[ag];refine bL 3 46 (.int .i64 (k:Int)) rfl gO fun iX=>?_;simp only[ag];refine bL 4 47 (.pointer (some ⟨bs,os+k * 4,none⟩)) rfl iX fun jQ=>?_;simp only[ag];refine dm 5 48 (.agg #[.int .u8 uo,.string un,.slice ua ul uc,.slice ub um ue]) rfl (fun V hX=>by obtain ⟨h0,h1,h2,h3⟩:=qs V hX;go_simp) jQ fun kf=>?_;simp only[ag];refine bL 6 49 (.pointer (some ⟨W.heap.size,4,none⟩)) rfl kf fun mK=>?_;simp only[ag];refine bL 7 50 (.pointer (some ⟨W.heap.size,7,none⟩)) rfl mK fun sg=>?_;simp only[ag];refine dm 8 51 (.slice (some ⟨bf,of,none⟩) fm fe) rfl (fun V hX=>by have h0:=p7 V hX;go_simp) sg fun JT=>?_;simp only[ag];refine bL 9 52 (.int .i64 (k:Int)) rfl JT fun Cb=>?_;simp only[ag];refine bL 10 53 (.pointer (some ⟨bf,of+k * 4,none⟩)) rfl Cb fun JU=>?_;simp only[ag];refine dm 11 54 (.agg #[.int .u8 vo,.string vn,.slice va vl vc,.slice vb vm ve]) rfl (fun V hX=>by obtain ⟨h0,h1,h2,h3⟩:=qf V hX;go_simp) JU fun PL=>?_;simp only[ag];refine bL 12 55 (.slice ca cl cc) rfl PL fun SW=>?_;simp only[ag];refine bL 13 56 (.agg #[.int .u8 uo,.string un,.slice ua ul uc,.slice ub um ue,.int .u8 vo,.string vn,.slice va vl vc,.slice vb vm ve,.slice ca cl cc]) rfl SW fun WS=>?_;simp only[ag];refine bL 14 57 (.func (.yield l) #[] #[]) rfl WS fun zcS=>?_;simp only[ag];refine ce 15 rfl fun K hK=>?_;go_simp;refine aL.2 (HC.o.mono ?_);rintro e w3 (⟨rfl,pZ,iV⟩ | ⟨rfl,PM⟩)
  ·refine eS hK ?_;exact pm128
  ·refine eS hK ?_;exact pm144
 |have wm:Kp M X5 wr.drew:=bj.trans (Kp.below (ak _ _).drew);have CC:=fd.o ss[k] (az wQ) fs[k] (UZ.o.mem (az Un)) (ps ++ [(sn,fn)]) (by have:=tR.o.2.1 ss[k] (az wQ);simp;omega) M B l J Jx xs (pre ++ ([X] ++ aU yp (ss.take k) (fs.take k))) wr.drew ⟨⟨uo,un,ua,ul,uc,ub,um,ue⟩,⟨vo,vn,va,vl,vc,vb,vm,ve⟩,(some ⟨g,0,none⟩),(cl+1),cap⟩
   (fun b hb=>by have:=Bl.o.1 b hb;show b<wr.heap.size;have:=zR.o.2.size;omega) ⟨by have:=Bl.o.2.1;show l<wr.heap.size;have:=zR.o.2.size;omega,Bl.o.2.2⟩ (fun t=>(HJ.o.1 t).mono (by show W.heap.size<=wr.heap.size;have:=zR.o.2.size;omega)) (fun t=>(HJ.o.2 t).mono (by show W.heap.size<=wr.heap.size;have:=zR.o.2.size;omega))
   (HY.o.later (zR.o.2.trans wm)) (hu.kp (zR.o.2.trans wm)) (hv.kp (zR.o.2.trans wm)) (HPz.o.kp wm) (by rw[show ((ps ++ [(sn,fn)])).reverse=yp from BK.o];exact tO) (HJ.o.1 _ _ _ (Nw.below (ak _ _).drew) hj)
  rw[show ((ps ++ [(sn,fn)])).reverse=yp from BK.o]at CC;simp only[PlQ.val,PlQ.cells]at CC;obtain ⟨HC,HSu⟩:=aZ CC jb;have kD:=aC bj wm;clear hu hv tO CC jb hj bj wm xh jf hS c0 c1 c2 c3 e0 e1 e2 e3 d0 d1 d2 d3 g0 g1 g2 g3;gi_wp2;refine lV S 15 dW fun jO bW=>?_;refine bL 0 43 (.pointer (some ⟨W.heap.size,0,none⟩)) rfl bW fun cF=>?_;simp only[ag];refine bL 1 44 (.pointer (some ⟨W.heap.size,3,none⟩)) rfl cF fun fI=>?_;simp only[ag];refine dm 2 45 (.slice (some ⟨bs,os,none⟩) sm se) rfl (fun V hX=>by have h0:=p3 V hX;go_simp) fI fun gO=>?_;simp only[ag];refine bL 3 46 (.int .i64 (k:Int)) rfl gO fun iX=>?_;simp only[ag];refine bL 4 47 (.pointer (some ⟨bs,os+k * 4,none⟩)) rfl iX fun jQ=>?_;simp only[ag];refine dm 5 48 (.agg #[.int .u8 uo,.string un,.slice ua ul uc,.slice ub um ue]) rfl (fun V hX=>by obtain ⟨h0,h1,h2,h3⟩:=qs V hX;go_simp) jQ fun kf=>?_;simp only[ag];refine bL 6 49 (.pointer (some ⟨W.heap.size,4,none⟩)) rfl kf fun mK=>?_;simp only[ag];refine bL 7 50 (.pointer (some ⟨W.heap.size,7,none⟩)) rfl mK fun sg=>?_;simp only[ag];refine dm 8 51 (.slice (some ⟨bf,of,none⟩) fm fe) rfl (fun V hX=>by have h0:=p7 V hX;go_simp) sg fun JT=>?_;simp only[ag];refine bL 9 52 (.int .i64 (k:Int)) rfl JT fun Cb=>?_;simp only[ag];refine bL 10 53 (.pointer (some ⟨bf,of+k * 4,none⟩)) rfl Cb fun JU=>?_;simp only[ag];refine dm 11 54 (.agg #[.int .u8 vo,.string vn,.slice va vl vc,.slice vb vm ve]) rfl (fun V hX=>by obtain ⟨h0,h1,h2,h3⟩:=qf V hX;go_simp) JU fun PL=>?_;simp only[ag];refine bL 12 55 (.slice (some ⟨g,0,none⟩) (cl+1) cap) rfl PL fun SW=>?_;simp only[ag];refine bL 13 56 (.agg #[.int .u8 uo,.string un,.slice ua ul uc,.slice ub um ue,.int .u8 vo,.string vn,.slice va vl vc,.slice vb vm ve,.slice (some ⟨g,0,none⟩) (cl+1) cap]) rfl SW fun WS=>?_;simp only[ag];refine bL 14 57 (.func (.yield l) #[] #[]) rfl WS fun zcS=>?_;simp only[ag];refine ce 15 rfl fun K hK=>?_;go_simp;refine aL.2 (HC.o.mono ?_);rintro e w3 (⟨rfl,pZ,iV⟩ | ⟨rfl,PM⟩)
  ·refine eS hK ?_;exact pm128
  ·refine eS hK ?_;exact pm144):G:=h
theorem pm19(h:G:=by
 obtain ⟨⟨u0,u1,u2,u3,u4,u5,u6,u7⟩,⟨v0,v1,v2,v3,v4,v5,v6,v7⟩,ca,cl,cc⟩:=q;simp only[PlQ.val,PlQ.cells];simp only at tF B_ iF;have yJ:lR<W.heap.size:=by obtain ⟨r,hr⟩:=yf;exact (bn hr)
 have iv:Below W.heap.size W (W.alloc (.cells #[.int .u8 u0,.string u1,.slice u2 u3 u4,.slice u5 u6 u7,.int .u8 v0,.string v1,.slice v2 v3 v4,.slice v5 v6 v7,.slice ca cl cc] 89)):=cQ
 first
 |clear pp19a;have Tw:=bE h1 (bT iv h2) (h3.trans (Kp.below iv));have HQ:=cC tF iF LW lJ;have HL:=rK hl yf yJ iv FB dt;clear h1 h2 h3 tF B_ iF LW lJ hl yf yJ iv FB dt;gi_wp2;refine ⟨Kp.below HL.o.2.2.2.1,Tw.o,fun W2 gE tY fW=>?_⟩;obtain ⟨g1,g2,g3⟩:=tY;have pp12c:=();exact pm12
 |clear pp19b;have Tw:=bE h1 (bT iv h2) (h3.trans (Kp.below iv));have HQ:=cC tF iF LW lJ;have HL:=rK hl yf yJ iv FB dt;clear h1 h2 h3 tF B_ iF LW lJ hl yf yJ iv FB dt;gi_wp2;refine ⟨Kp.below HL.o.2.2.2.1,Tw.o,fun W2 gE tY fW=>?_⟩;obtain ⟨g1,g2,g3⟩:=tY;have pp12d:=();exact pm12
 |clear pp19c;have Tw:=cC h1 (bT iv h2) (bT iv h3) (h4.trans (Kp.below iv));have HQ:=cC tF iF LW lJ;have HL:=rK hl yf yJ iv FB dt;clear h1 h2 h3 h4 tF B_ iF LW lJ hl yf yJ iv FB dt;gi_wp2;refine ⟨Kp.below HL.o.2.2.2.1,Tw.o,fun W2 gE tY fW=>?_⟩;obtain ⟨g1,g2,g3,g4⟩:=tY;exact pm12
 |clear pp19d;have Tw:=ab (an8 h1 (h2.later iv) h3 h4 h5 (bT iv h6) (bT iv h7) (h8.trans (Kp.below iv)));have HQ:=fA tF B_ iF LW lJ;have HL:=rK hl yf yJ iv FB dt;clear h1 h2 h3 h4 h5 h6 h7 h8 tF B_ iF LW lJ hl yf yJ iv FB dt;gi_wp2;refine ⟨Kp.below HL.o.2.2.2.1,⟨k',xx,uC,Tw.o⟩,fun W2 gE tY fW=>?_⟩;obtain ⟨k2,nF2,Ce,g1,g2,g3,g4,g5,g6,g7,g8⟩:=tY;have pp12a:=();exact pm12
 |have Tw:=ab (an8 h1 (h2.later iv) h3 h4 h5 (bT iv h6) (bT iv h7) (h8.trans (Kp.below iv)));have HQ:=fA tF B_ iF LW lJ;have HL:=rK hl yf yJ iv FB dt;clear h1 h2 h3 h4 h5 h6 h7 h8 tF B_ iF LW lJ hl yf yJ iv FB dt;gi_wp2;refine ⟨Kp.below HL.o.2.2.2.1,⟨k',xx,uC,Tw.o⟩,fun W2 gE tY fW=>?_⟩;obtain ⟨k2,nF2,Ce,g1,g2,g3,g4,g5,g6,g7,g8⟩:=tY;have pp12b:=();exact pm12):G:=h
theorem pm20(h:G:=by
 obtain ⟨W9,rO,x9,k9,_⟩:=Cm xR (.slice none 0 0) (.slice none 0 0);have XX:¬(aB=w.heap.size+1):=fun h=>Bs.o.2 (h ▸ wI.o.2.2.1);have XY:¬(aB+1=w.heap.size+1):=fun h=>Bs.o.2 (h ▸ wI.o.2.2.2.1);have e4:=k9.cell (a:=⟨aB,0,none⟩) XX e2;have e5:=k9.cell (a:=⟨aB+1,0,none⟩) XY e0;rw[rO]at e4 e5;clear rO x9 k9;have AC:Below w.heap.size w X:=aq (aq tG.o.2.2.1 ix.o.2.2.2.1 Bs.o.1) ((Kp.below ix.o.1).trans h6) Bs.o.1;have kl:Marks ly.heap.size X ({ target:=.collected D,args:=#[] } :: XR):=ix.o.2.2.1.more (w':=X) (fun E hE hx=>(h6.same E (bn hx) (fun hm=>by have:=tG.o.2.2.2.2.1 E hm;omega)).trans hx) hD (by have:=ix.o;omega) hd;have HZ:=bE xR AC kl;clear hrs XW iF h3 h4 h5 h6 hd AC kl xR xRd;gi_wp2_with fail;gi_region
 all_goals
  gi_wp2_with fail;obtain ⟨W8,lQ,x8,k8,g0,g1⟩:=Cm HZ.o.1 (.slice none 0 0) (.slice none 0 0);rw[<-lQ,Exit.noGoto_ret];have tg:Below w.heap.size w W8.drew:=(Below.kp1 HZ.o.2.1 k8 (by omega)).drew;refine ei (B:=ly.heap.size) (HZ.o.2.2.move (w':=W8.drew) (fun E hE hd=>(k8.same E (bn hd) (by have:=(bn lx.o.2.2.2.2);omega)).trans hd)) (fun w' hn=>?_);have h0:=hn.cell (show W8.drew.cell? _=_ from g0);have h1:=hn.cell (show W8.drew.cell? _=_ from g1);exact ⟨.tuple #[.agg #[.slice none 0 0,.slice none 0 0],.int .i64 j,.int .i64 er],by simp[results,Tryz.results15,go_sem,h0,h1],⟨⟨⟨none,0,0,none,0,0⟩,by (rw[HE.o];try rfl),by rw[HE.o];exact oq⟩,jp tg (hn.mono lx.o.2.2.1.size)⟩⟩):G:=h
theorem pm21(h:G:=by
 have pp264:=();exact pm264):G:=h
theorem pm22(h:G:=by
 obtain ⟨qo,qn,qa,ql,qc,qb,qm,qe⟩:=q;obtain ⟨sa,ss,hs,bO,ek⟩:=aW.1 hq;unfold FQ.val at hs;simp only[cA,Array.mk.injEq,cr,and_true,Value.int.injEq,true_and,Value.string.injEq]at hs;obtain ⟨rfl,rfl,rfl,rfl⟩:=hs;obtain rfl:=bO.len;obtain rfl:=ek.len
 first
 |clear pp22a;have cf:=aA.args.len;have en:=aA.subs.len;have lG:=aA.name;obtain ⟨ea,fP,F6,yY,fd⟩:=vK bO ek aA.args aA.subs ih;obtain ⟨k0,cg⟩:=ao a.length;obtain ⟨m0,el⟩:=ao s.length;rw[<-cg]at cf;rw[<-el]at en;obtain ⟨dJ,ib⟩:=aZ cg el;clear hq bO ek aA ih;unfold FQ.val;rw[<-cg,<-el];clear cg el;refine mM Tryz.func66 ?_;simp only[Tryz.ntmps66,Nat.reduceAdd,Nat.reduceSub,li];have jH:=eU;gi_wp2;obtain ⟨W1,bR⟩:=ao (((w.alloc (.cells #[.int .u8 qo,.string ⟨n.toArray⟩,.slice qa k0 qc,.slice qb m0 qe] 36)).alloc (.cells #[.int .u8 0,.string ⟨#[]⟩,.slice none 0 0,.slice none 0 0] 36)).alloc (.cells #[.int .u8 qo,.string ⟨n.toArray⟩,.slice none 0 0,.slice none 0 0] 36));have iJ:=xW bR;have x0:=yN bR;have x1:=rW bR;have x2:=qd bR;rw[<-bR];clear bR;obtain ⟨dO,MA,jI⟩:=cD iJ x0 x1;have vW:=ab (Fills.start (R:=w.heap.size+1+1) (mk:=fun rr=>#[.int .u8 qo,.string ⟨n.toArray⟩,rr,.slice none 0 0]) (Row:=fun r W=>RowT W1.heap.size r ((a.map aM).take 0) W) x2 (RowT.nil _ _));clear iJ x0 x1 x2;gi_loopw [16] (fun i jg=>∃k1:Nat,k1<=k0/\i=.int .i64 k1/\∃row,Fills 36 (w.heap.size+1+1) W1.heap.size (fun rr=>#[.int .u8 qo,.string ⟨n.toArray⟩,rr,.slice none 0 0]) (fun r W=>RowT W1.heap.size r ((a.map aM).take k1) W) W1 jg row) (fun i _=>k0 - (intOf i).toNat)
  case atStart=>exact ⟨0,bc _,rfl,_,vW.o⟩
  case round=>
   obtain ⟨k1,hk,rfl,row,hF⟩:=hrel;obtain ⟨jg,Eb⟩:∃x,x=wr:=⟨_,rfl⟩;subst Eb;have ar:=hF.below dO.o (Nat.le_add_right _ 2)
   by_cases hlt:k1<k0
   ·have dG:=ct dJ.o hlt;have pp55e:=();exact pm55
   ·obtain rfl:k1=k0:=by omega
    have cb:((a.map aM).take k1).length=k1:=by rw[dX];have:=dJ.o;simp;omega
    have j4:(a.map aM).take k1=(a.map aM):=ii (by have:=dJ.o;simp;omega);have pp115a:=();exact pm115
 |clear pp22b;have en:=aA.subs.len;have lZ:kE (.mk qo n a s)=[.mk qo n a s] ++ dM s:=by unfold kE;rfl
  rw[lZ]at dt ⊢;obtain ⟨f,hf⟩:=ao (Fm.mk qo n a s);rw[<-hf]at dt Ec ⊢;have fd:=ab (fun t ht=>ih t ht (aA.subs.mem ht));obtain ⟨k0,cg⟩:=ao a.length;obtain ⟨m0,el⟩:=ao s.length;rw[<-cg,<-el]at Ec;rw[<-el]at en ek;unfold FQ.val at Ec ⊢;simp only at Ec ⊢;rw[<-cg,<-el];obtain ⟨ib,nS⟩:=aZ el dt;have iJ:Below W.heap.size W (W.alloc (.cells #[.int .u8 qo,.string ⟨n.toArray⟩,.slice qa k0 qc,.slice qb m0 qe] 36)):=cQ;have IJ:J pre (W.alloc (.cells #[.int .u8 qo,.string ⟨n.toArray⟩,.slice qa k0 qc,.slice qb m0 qe] 36)):=hJ pre _ _ (Nw.below iJ) hj;have tC:=hY pre #[.agg #[.int .u8 qo,.string ⟨n.toArray⟩,.slice qa k0 qc,.slice qb m0 qe]] f _ IJ (Kp.below iJ) ⟨⟨qo,⟨n.toArray⟩,qa,k0,qc,qb,m0,qe⟩,rfl,Ec.kp (Kp.below iJ)⟩ (jJ dt);have HX:=ab (show (W.alloc (.cells #[.int .u8 qo,.string ⟨n.toArray⟩,.slice qa k0 qc,.slice qb m0 qe] 36)).heap[W.heap.size]?=some (.cells #[.int .u8 qo,.string ⟨n.toArray⟩,.slice qa k0 qc,.slice qb m0 qe] 36 (0,0)) from aj rfl);obtain ⟨dO,fP,HJ,Bl,HY,HF⟩:=Sj iJ ek hJ hM hY hf;obtain ⟨fn,tmps,assign,body,hy,Ga⟩:=jG 2 tC;clear hq Ec bO ek aA ih cg el hj iJ IJ tC hJ hM hY dt lZ hf;refine mM Tryz.func151 ?_;simp only[Tryz.ntmps151,Nat.reduceAdd,Nat.reduceSub,li];have jH:=eU;gi_wp2;refine Ga.mono ?_;rintro e W2 ⟨rfl,sH,fW⟩;have Zh:¬M W.heap.size:=fun h=>by have:=Bl.o _ h;omega
  have oL:=(fW.same W.heap.size (by simp) Zh).trans HX.o;have p3:W2.cell? ⟨W.heap.size,3,none⟩=some (.slice qb m0 qe):=ah oL 3;have yG:=aC sH ((Kp.below dO.o).trans fW);clear sH fW oL Ga hy;gi_wp2;gi_loopw [14] (fun i wr=>∃k:Nat,k<=m0/\i=.int .i64 k/\J (pre ++ ([f] ++ dM (s.take k))) wr/\Kp M W wr) (fun i _=>m0 - (intOf i).toNat)
  case atStart=>exact ⟨0,bc _,rfl,by simpa[dM] using yG.o.1,yG.o.2⟩
  case round=>
   have pp199a:=();exact pm199
 |clear pp22c;have CL:=fun (W:World) (hb:Below w.heap.size w W)=>sh a aA.args (fun t ht=>B9 t (aA.args.mem ht)) ok W qa _ qc (bO.later hb);have CS:=fun (W:World) (hb:Below w.heap.size w W)=>B7 s aA.subs (fun t ht=>ih t ht (aA.subs.mem ht)) ok W qb _ qe (ek.later hb);obtain ⟨k0,cg⟩:=ao a.length;obtain ⟨m0,el⟩:=ao s.length;rw[<-cg]at CL;rw[<-el]at CS;obtain ⟨Zj,tE,dJ,ib⟩:=eR CL CS cg el;clear hq bO ek aA ih CL CS;unfold FQ.val;rw[<-cg,<-el];clear cg el;refine mM Tryz.func51 ?_;simp only[Tryz.ntmps51,Nat.reduceAdd,Nat.reduceSub,li];have jH:=eU;gi_wp2;obtain ⟨W2,bl⟩:=ao ((w.alloc (.cells #[.int .u8 qo,.string ⟨n.toArray⟩,.slice qa k0 qc,.slice qb m0 qe] 36)).alloc (.cells #[.int .u8 0,.string ⟨#[]⟩,.slice none 0 0,.slice none 0 0] 36));have fH:=lB bl;have x0:=rV bl;have x1:=jC bl;rw[<-bl];clear bl;obtain ⟨S,hS⟩:∃S:World->Prop,S=fun V=>Below W2.heap.size W2 V:=⟨_,rfl⟩;have f0:∀ V,S V->V.cell? ⟨w.heap.size,0,none⟩=some (.int .u8 qo)/\V.cell? ⟨w.heap.size,1,none⟩=some (.string ⟨n.toArray⟩)/\V.cell? ⟨w.heap.size,2,none⟩=some (.slice qa k0 qc)/\V.cell? ⟨w.heap.size,3,none⟩=some (.slice qb m0 qe):=fun V h=>by rw[hS]at h;exact ⟨aa h (ah x0 0),aa h (ah x0 1),aa h (ah x0 2),aa h (ah x0 3)⟩
  have dW:S W2.drew:=by rw[hS];exact (ak _ _).drew
  obtain ⟨du,cJ,jI⟩:=cD hS fH x1;clear hS fH x0 x1;refine lV S 11 dW fun jO bW=>?_;refine bL 0 3 (.pointer (some ⟨w.heap.size,0,none⟩)) rfl bW fun cF=>?_;simp only[ag];refine dm 1 4 (.int .u8 qo) rfl (fun V hX=>by obtain ⟨g0,g1,g2,g3⟩:=f0 V hX;go_simp) cF fun fI=>?_;simp only[ag];refine bL 2 5 (.pointer (some ⟨w.heap.size,1,none⟩)) rfl fI fun gO=>?_;simp only[ag];refine dm 3 6 (.string ⟨n.toArray⟩) rfl (fun V hX=>by obtain ⟨g0,g1,g2,g3⟩:=f0 V hX;go_simp) gO fun iX=>?_;simp only[ag];refine bL 4 7 (.pointer (some ⟨w.heap.size,2,none⟩)) rfl iX fun jQ=>?_;simp only[ag];refine dm 5 8 (.slice qa k0 qc) rfl (fun V hX=>by obtain ⟨g0,g1,g2,g3⟩:=f0 V hX;go_simp) jQ fun kf=>?_;simp only[ag];refine bL 7 10 (.pointer (some ⟨w.heap.size,3,none⟩)) rfl kf fun mK=>?_;simp only[ag];refine dm 8 11 (.slice qb m0 qe) rfl (fun V hX=>by obtain ⟨g0,g1,g2,g3⟩:=f0 V hX;go_simp) mK fun sg=>?_;simp only[ag];refine ce 6 rfl fun K hK=>?_;go_simp;refine aL.2 ((Zj.o W2.drew (cJ.o.drew)).mono ?_);rintro _ A ⟨ra,rc,rfl,hp,hA⟩;have cv:Below W2.heap.size W2 A:=((ak W2.heap.size W2).drew).trans hA;refine hK _ _ (fun _=>by rw[du.o];exact cv) (fun _=>?_);clear hK K hA;refine ce 9 rfl fun K hK=>?_;go_simp;refine aL.2 ((tE.o A (cJ.o.trans (cv.mono cJ.o.size))).mono ?_);rintro _ A' ⟨rb,re,rfl,hq,hA'⟩;have SL:Below W2.heap.size W2 A':=cv.trans (hA'.mono cv.size);have hp':=(hp.later hA').move (ok':=(W2.heap.size<=·)) (fun b hok _=>⟨hok,rfl⟩);have oy:=hq.move (ok':=(W2.heap.size<=·)) (fun b hok _=>⟨aQ cv.size hok,rfl⟩);have HP:=bE hp' oy SL;refine hK _ _ (fun _=>by rw[du.o];exact SL) (fun _=>?_);clear hK K hA' cv hp hq hp' oy SL;refine ce 10 rfl fun K hK=>?_;go_simp;refine hK _ _ (fun _=>by rw[du.o];exact HP.o.2.2) (fun _=>?_);clear hK K;refine ce 11 rfl fun K hK=>?_;have y1:=bT HP.o.2.2 jI.o;obtain ⟨e0,e1,e2,e3⟩:=mi y1;have z0:=ac y1 0;have z1:=ac y1 1;have z2:=ac y1 2;have z3:=ac y1 3;have VZ:=ab y1;clear y1;go_simp;refine eS hK ?_;clear hK K;refine le ?_;gi_wp2;have x6:=lm (v0:=.int .u8 qo) (v1:=.string ⟨n.toArray⟩) (v2:=.slice ra k0 rc) (v3:=.slice rb m0 re) VZ.o;have k6:=dI (W:=A') (b:=w.heap.size+1) (v0:=.int .u8 qo) (v1:=.string ⟨n.toArray⟩) (v2:=.slice ra k0 rc) (v3:=.slice rb m0 re);obtain ⟨W6,cP⟩:=ao ((((A'.setCell ⟨w.heap.size+1,0,none⟩ (.int .u8 qo)).setCell ⟨w.heap.size+1,1,none⟩ (.string ⟨n.toArray⟩)).setCell ⟨w.heap.size+1,2,none⟩ (.slice ra k0 rc)).setCell ⟨w.heap.size+1,3,none⟩ (.slice rb m0 re));rw[<-cP]at x6 k6 ⊢;clear cP;have g0:W6.cell? ⟨w.heap.size+1,0,none⟩=some (.int .u8 qo):=ah x6 0;have g1:W6.cell? ⟨w.heap.size+1,1,none⟩=some (.string ⟨n.toArray⟩):=ah x6 1;have g2:W6.cell? ⟨w.heap.size+1,2,none⟩=some (.slice ra k0 rc):=ah x6 2;have g3:W6.cell? ⟨w.heap.size+1,3,none⟩=some (.slice rb m0 re):=ah x6 3;have hz:=(bn jI.o);obtain ⟨hp,hs,cv⟩:=HP.o;have zM:TermsV (w.heap.size<=·) W6 (.slice ra k0 rc) a:=hp.move (fun b hok hlt=>⟨aQ cJ.o.size hok,k6.same b hlt (by have:W2.heap.size<=b:=hok;omega)⟩);have lg:FormsV (w.heap.size<=·) W6 (.slice rb m0 re) s:=hs.move (fun b hok hlt=>⟨aQ cJ.o.size hok,k6.same b hlt (by have:W2.heap.size<=b:=hok;omega)⟩);refine bI (v:=FQ.val ⟨qo,⟨n.toArray⟩,ra,k0,rc,rb,m0,re⟩) (by simp[FQ.val,results,Tryz.results51,go_sem,g0,g1,g2,g3]) rfl ⟨⟨qo,⟨n.toArray⟩,ra,k0,rc,rb,m0,re⟩,rfl,aW.2 ⟨_,_,rfl,zM,lg⟩,Below.kp1 (cJ.o.trans (cv.mono cJ.o.size)) k6 (by omega)⟩
 |clear pp22d;have cf:=aA.args.len;have en:=aA.subs.len;have lG:=aA.name;obtain ⟨ea,fP,F6,yY⟩:=eR bO ek aA.args aA.subs;obtain ⟨k0,cg⟩:=ao a.length;obtain ⟨m0,el⟩:=ao s.length;rw[<-cg]at cf;rw[<-el]at en;obtain ⟨dJ,ib⟩:=aZ cg el;clear hq bO ek aA ih wh tF IH sJ hfz hnz hz hT Bm UM hqo qi;unfold FQ.val;rw[<-cg,<-el];clear cg el;obtain ⟨RS,Eo⟩:=ao (eD (kk+1) nx z (.mk qo n a s));rw[<-Eo];have UN:=ab Eo;clear Eo;refine mM Tryz.func101 ?_;simp only[Tryz.ntmps101,Nat.reduceAdd,Nat.reduceSub,li];have jH:=eU;gi_wp2;obtain ⟨W1,bR⟩:=ao ((((w.alloc (.cells #[.int .u8 qo,.string ⟨n.toArray⟩,.slice qa k0 qc,.slice qb m0 qe] 36)).alloc (.cells #[.bool zv,.string zn,.slice za zl zc] 43)).alloc (.cells #[.int .u8 0,.string ⟨#[]⟩,.slice none 0 0,.slice none 0 0] 36)).alloc (.cells #[.int .u8 qo,.string ⟨n.toArray⟩,.slice none 0 0,.slice none 0 0] 36));have iJ:=Sk bR;have x0:=OH bR;have xu:=Uf bR;have x1:=Ug bR;have x2:=OI bR;rw[<-bR];clear bR;obtain ⟨dO,MA,HXU,jI⟩:=eR iJ x0 xu x1;have vW:=ab (Fills.start (R:=w.heap.size+1+1+1) (mk:=fun rr=>#[.int .u8 qo,.string ⟨n.toArray⟩,rr,.slice none 0 0]) (Row:=fun r W=>RowT W1.heap.size r ((a.map (iB nx z)).take 0) W) x2 (RowT.nil _ _));clear iJ x0 x1 x2 xu;gi_loopw [23] (fun i Ep=>∃k1:Nat,k1<=k0/\i=.int .i64 k1/\∃row,Fills 36 (w.heap.size+1+1+1) W1.heap.size (fun rr=>#[.int .u8 qo,.string ⟨n.toArray⟩,rr,.slice none 0 0]) (fun r W=>RowT W1.heap.size r ((a.map (iB nx z)).take k1) W) W1 Ep row) (fun i _=>k0 - (intOf i).toNat)
  case atStart=>exact ⟨0,bc _,rfl,_,vW.o⟩
  case round=>
   obtain ⟨k1,hk,rfl,row,hF⟩:=hrel;obtain ⟨Ep,Pj⟩:∃x,x=wr:=⟨_,rfl⟩;subst Pj;have ar:=hF.below dO.o ((by omega))
   by_cases hlt:k1<k0
   ·have dG:=ct dJ.o hlt;have pp55f:=();exact pm55
   ·obtain rfl:k1=k0:=by omega
    have cb:((a.map (iB nx z)).take k1).length=k1:=by rw[dX];have:=dJ.o;simp;omega
    have j4:(a.map (iB nx z)).take k1=(a.map (iB nx z)):=ii (by have:=dJ.o;simp;omega);have pp115b:=();exact pm115
 |clear pp22e;have en:=aA.subs.len;have mm:=aA.1;have nC:=o6 x (.mk qo n a s);have ur:iC x (.mk qo n a s)=fG x a+jT x s:=rfl;have CT:=ab (fun (W:World) (hb:Below w.heap.size w W)=>rS x a ok W qa _ qc aA.args (bO.later hb));have fd:=ab (fun t ht=>ih t ht (aA.subs.mem ht));have fP:=ab ek;rw[ur]at nC ⊢;obtain ⟨k0,cg⟩:=ao a.length;obtain ⟨m0,el⟩:=ao s.length;obtain ⟨A,hA⟩:=ao (fG x a);have ib:=ab el;unfold FQ.val;rw[<-cg,<-hA]at CT;rw[<-cg,<-el,<-hA];rw[<-hA]at nC;rw[<-el]at en;clear hq bO ek aA ih cg el hA ur;have HB:=ab (show Below w.heap.size w (w.alloc (.cells #[.int .u8 qo,.string ⟨n.toArray⟩,.slice qa k0 qc,.slice qb m0 qe] 36)) from cQ);have HX:=ab (show (w.alloc (.cells #[.int .u8 qo,.string ⟨n.toArray⟩,.slice qa k0 qc,.slice qb m0 qe] 36)).heap[w.heap.size]?=some (.cells #[.int .u8 qo,.string ⟨n.toArray⟩,.slice qa k0 qc,.slice qb m0 qe] 36 (0,0)) from aj rfl);go_enter Tryz.func97,Tryz.ntmps97;go_wp2_with (go_at_call 164;refine (CT.o _ HB.o).mono ?_;rintro e w1 ⟨rfl,hb1⟩;have p3:w1.cell? ⟨w.heap.size,3,none⟩=some (.slice qb m0 qe):=ah (bT hb1 HX.o) 3;have dO:=ab (HB.o.trans (hb1.mono HB.o.size));clear hb1);go_loopw [5,15] (fun r i wr=>∃k:Nat,k<=m0/\i=.int .i64 k/\Below w.heap.size w wr/\r=.int .i64 ((A+jT x (s.take k):Nat):Int)) (fun _ i _=>m0 - (intOf i).toNat)
  case atStart=>exact ⟨0,bc _,rfl,dO.o,by simp[jT]⟩
  case round=>
   obtain ⟨k,hk,rfl,ar,rfl⟩:=hrel
   by_cases hlt:k<m0
   ·have br:=ct ib.o hlt;obtain ⟨b,off,u,rfl,_,hu,c0,c1,c2,c3⟩:=fP.o.get br;have jb:=yr x br;have hb1:=uH x (s.take (k+1));have bF:=bS s (k+1);have rP:nodesFs s<=nodesF (.mk qo n a s):=by unfold nodesF;omega
    have pp181:=();exact pm181
   ·obtain rfl:k=m0:=by omega
    have h1:s.take k=s:=by rw[ib.o];exact cO
    rw[h1];have cJ:=ab ar;clear h1 ar;go_wp2;go_ret;exact ⟨rfl,cJ.o⟩
 |clear pp22f;have cf:=aA.args.len;have en:=aA.subs.len;have lG:=aA.name;have sF:n.length<=1000000000:=by omega
  have jP:=ab hok;have fd:=ab (fun t ht=>ih t ht (aA.subs.mem ht));have U3:=ab aA.args;have Sb:=ab (fun t ht=>OT t (aA.args.mem ht));have sG:1<=nodesF (.mk on n a s):=yS _;have qi:1<=depthF (.mk on n a s):=by unfold depthF;omega
  have mm:nodesF (.mk on n a s)=nodesTs a+nodesFs s+1:=rfl;have Es:ba+(nodesTs a:Int)+(nodesFs s:Int)+1<=100000000:=by omega
  obtain ⟨k0,cg⟩:=ao a.length;obtain ⟨m0,el⟩:=ao s.length;have hM:=Sx sc on n a s left bz ba;rw[<-cg,<-el]at hM;obtain ⟨BX,Br⟩:=ao (okF sc (.mk on n a s) && (decide ((nodesF (.mk on n a s):Int)<=left) && decide (ba+depthF (.mk on n a s)<=bz+1)));rw[<-Br]at hM ⊢;have HB:=ab (show Below w.heap.size w (w.alloc (.cells #[.int .u8 on,.string ⟨n.toArray⟩,.slice qa k0 qc,.slice qb m0 qe] 36)) from cQ);have I_:JAt J sc left bz (w.alloc (.cells #[.int .u8 on,.string ⟨n.toArray⟩,.slice qa k0 qc,.slice qb m0 qe] 36)):=hJ.later HB.o;have zcj:J<w.heap.size:=(bn hJ);obtain ⟨ea,fP,HJ,HT⟩:=eR bO ek hJ ht;rw[<-cg]at cf;rw[<-el]at en;clear hq bO ek aA ih hok hJ ht;unfold FQ.val;rw[<-cg,<-el];obtain ⟨dJ,ib,HN⟩:=cD cg el mm;clear cg el mm
  by_cases MC:1<=left/\ba<=bz
  ·obtain ⟨St,V6⟩:=MC;have C1:=ab (F8 J sc left bz ba _ I_ St h1 V6);have fW:Kp (fun c=>c=J) w ((w.alloc (.cells #[.int .u8 on,.string ⟨n.toArray⟩,.slice qa k0 qc,.slice qb m0 qe] 36)).setCell ⟨J,1,none⟩ (.int .i64 (left - 1))):=(Kp.below HB.o).trans (oI _);have sH:=I_.set (left - 1);have hx:FBox w.heap.size on n (.slice qa k0 qc) (.slice qb m0 qe) ((w.alloc (.cells #[.int .u8 on,.string ⟨n.toArray⟩,.slice qa k0 qc,.slice qb m0 qe] 36)).setCell ⟨J,1,none⟩ (.int .i64 (left - 1))):=(d9 _ _ _ _ (by show w.heap.size≠J;omega)).trans (aj rfl);have oK:=bE fW sH hx;obtain ⟨W2,bl⟩:=ao ((w.alloc (.cells #[.int .u8 on,.string ⟨n.toArray⟩,.slice qa k0 qc,.slice qb m0 qe] 36)).setCell ⟨J,1,none⟩ (.int .i64 (left - 1)));rw[<-bl]at oK C1;clear fW sH hx I_ bl;have g0:=oK.o.2.2.c0;have g1:=oK.o.2.2.c1;have g2:=oK.o.2.2.c2;have g3:=oK.o.2.2.c3;have Kl:Tabs W0 W2:=HT.o.kp oK.o.1 (fun b hb=>by subst hb;exact Tr)
   by_cases ho:on<17
   ·have OL:((on:Int)<17):=by omega
    have za7:¬((17:Int)<=(on:Int)):=by omega
    obtain ⟨q0,q1,q2,q3,q4⟩:=Kl.t0.rows on ho;obtain ⟨R2,hr3,hr4⟩:=Jb on;obtain ⟨⟨r0,r1,r2,r3,r4⟩,dp⟩:∃x,x=rowOp on:=⟨_,rfl⟩;rw[<-dp]at hM q0 q1 q2 q3 q4 R2 hr3 hr4;simp only at hM q0 q1 q2 q3 q4 R2 hr3 hr4;clear dp Kl;have hX3:FBox w.heap.size on n (.slice qa k0 qc) (.slice qb m0 qe) (W2.alloc (.cells #[.bool r0,.bool r1,.int .u8 r2,.int .i64 r3,.int .i64 r4] 173)):=oK.o.2.2.later cQ;have hR3:RBox W2.heap.size r0 r1 r2 r3 r4 (W2.alloc (.cells #[.bool r0,.bool r1,.int .u8 r2,.int .i64 r3,.int .i64 r4] 173)):=aj rfl;have hK3:Kp (fun c=>c=J) w (W2.alloc (.cells #[.bool r0,.bool r1,.int .u8 r2,.int .i64 r3,.int .i64 r4] 173)):=oK.o.1.trans (Kp.below cQ);have hJ3:JAt J sc (left - 1) bz (W2.alloc (.cells #[.bool r0,.bool r1,.int .u8 r2,.int .i64 r3,.int .i64 r4] 173)):=oK.o.2.1.later cQ;obtain ⟨gj,qV,mN,vG⟩:=eR hX3 hR3 hK3 hJ3;clear hX3 hR3 hK3 hJ3;have y0:=gj.o.c0;have y1:=gj.o.c1;have y2:=gj.o.c2;have y3:=gj.o.c3;have yj:=vG.o.c0;have j0:=oK.o.2.1.c0;have hPn:¬w.heap.size=W2.heap.size:=by have:=(bn oK.o.2.2);omega
    have zeQ:¬W2.heap.size=w.heap.size:=by omega
    have hJn:¬J=W2.heap.size:=by have:=(bn oK.o.2.1);omega
    have zeR:¬W2.heap.size=J:=by omega
    cases r0 with
    | true=>
     rw[Bool.true_or,dP]at hM
     cases dK:oA r2 n with
     | false=>
      have CN:=ab (fun w=>dK ▸ ro r2 R2 n sF w);have HE:Hd (BX=false):=ab (hM.trans (by simp[dK]));exact pm6
     | true=>
      have CN:=ab (fun w=>dK ▸ ro r2 R2 n sF w)
      by_cases dG:k0<=r3
      ·have XH:¬((r3:Int)<(k0:Int)):=by omega
       by_cases Ts:m0=r4
       ·have XI:((m0:Int) == (r4:Int))=true:=by simp;omega
        have pp151:=();exact pm151
       ·have XI:((m0:Int) == (r4:Int))=false:=by simp;omega
        exact pm290
      ·have XH:(r3:Int)<(k0:Int):=by omega
       have HE:Hd (BX=false):=ab (hM.trans (by simp[dG]));exact pm6
    | false=>
     rw[Bool.false_or]at hM
     cases sc with
     | false=>
      have HE:Hd (BX=false):=ab (hM.trans (by simp));clear hM sG qi Br;have pp65b:=();exact pm65
     | true=>
      rw[dP]at hM
      cases r1 with
      | false=>
       have HE:Hd (BX=false):=ab (hM.trans (by simp));clear hM sG qi Br;have pp65b:=();exact pm65
      | true=>
       rw[dP]at hM
       cases dK:oA r2 n with
       | false=>
        have CN:=ab (fun w=>dK ▸ ro r2 R2 n sF w);have HE:Hd (BX=false):=ab (hM.trans (by simp[dK]));exact pm6
       | true=>
        have CN:=ab (fun w=>dK ▸ ro r2 R2 n sF w)
        by_cases dG:k0<=r3
        ·have XH:¬((r3:Int)<(k0:Int)):=by omega
         by_cases Ts:m0=r4
         ·have XI:((m0:Int) == (r4:Int))=true:=by simp;omega
          exact pm151
         ·have XI:((m0:Int) == (r4:Int))=false:=by simp;omega
          exact pm290
        ·have XH:(r3:Int)<(k0:Int):=by omega
         have HE:Hd (BX=false):=ab (hM.trans (by simp[dG]));exact pm6
   ·have OL:¬((on:Int)<17):=by omega
    have za7:((17:Int)<=(on:Int)):=by omega
    rw[ME za7]at hM;have HE:Hd (BX=false):=ab (hM.trans (by simp));clear hM sG qi Br Kl;have pp65c:=();exact pm65
  ·have C1:=ab (Ln J sc left bz ba _ I_ h0 h1 MC);have HE:=ab (show BX=false by
    rw[Br,Bool.and_eq_false_iff];right;rw[Bool.and_eq_false_iff]
    by_cases hl:1<=left
    ·right;have VU:¬ba<=bz:=fun h=>MC ⟨hl,h⟩;simp only[decide_eq_false_iff_not];omega
    ·left;simp only[decide_eq_false_iff_not];omega)
   clear I_ sG qi MC hM Br;have pp65d:=();exact pm65
 |have en:=aA.subs.len;have lG:=aA.name;have zbO:=aA.sz;have Rn:Sf (.mk qo n a s)=1+n.length / 40+vh a+vi s:=rfl;obtain ⟨R,hR⟩:=ao (jr a left 0);have hRb:=(mE a left 0).2.1;have CT:=fun (W:World) (hb:Below w.heap.size w W)=>Rl a ok W qa _ qc left aA.args (bO.later hb) h0 h1;have fd:=ab (fun t ht=>ih t ht (aA.subs.mem ht));have fP:=ab ek;obtain ⟨k0,cg⟩:=ao a.length;obtain ⟨m0,el⟩:=ao s.length;obtain ⟨q,oy⟩:=ao (n.length / 40);have ib:=ab el;have YK:=g_ n;have htd:=Rk n.length;have hcF:AN (.mk qo n a s) left=eI s left (1+q+R):=by unfold AN;rw[oy,hR]
  unfold FQ.val;rw[<-cg,<-hR]at CT;rw[<-hR]at hRb;rw[<-cg,<-el];rw[<-oy]at htd Rn;rw[Rn]at zbO;rw[<-el]at en;have ye:IntKind.i64.wrap ((q:Nat):Int)=q:=ik _ (by omega);have Ok:IntKind.i64.wrap (1+((q:Nat):Int))=1+(q:Int):=ik _ (by omega);have Tb:IntKind.i64.wrap (1+(q:Int)+(R:Int))=((1+q+R:Nat):Int):=by rw[ik _ (by omega)];omega
  have hNb:1+q+R<=100002000000:=by omega
  obtain ⟨FL,HC⟩:=aZ hcF CT;clear hq bO ek aA ih cg el hR hRb oy hcF Rn CT;have HX:=ab (show (w.alloc (.cells #[.int .u8 qo,.string ⟨n.toArray⟩,.slice qa k0 qc,.slice qb m0 qe] 36)).heap[w.heap.size]?=some (.cells #[.int .u8 qo,.string ⟨n.toArray⟩,.slice qa k0 qc,.slice qb m0 qe] 36 (0,0)) from aj rfl);obtain ⟨W1,bR⟩:=ao (w.alloc (.cells #[.int .u8 qo,.string ⟨n.toArray⟩,.slice qa k0 qc,.slice qb m0 qe] 36));have HB:=ab (show Below w.heap.size w W1 by rw[bR];exact cQ);rw[<-bR]at HX;have f0:∀ x:Later W1,x.w.cell? ⟨w.heap.size,1,none⟩=some (.string ⟨n.toArray⟩):=fun x=>x.get (ah HX.o 1);have f1:∀ x:Later W1,x.w.cell? ⟨w.heap.size,2,none⟩=some (.slice qa k0 qc):=fun x=>x.get (ah HX.o 2);have iW:=ab bR;go_enter Tryz.func23,Tryz.ntmps23;clear bR;go_wp2;rw[<-iW.o];refine aS (by kernel_rfl) (by kernel_rfl) ?_
  repeat (go_big_quiet_step ((go_at_call 54;exact cw (HC.o _ (HB.o.trans (Later.below _ |>.mono HB.o.size))))))
  refine wpQuiet_nil ?_;rintro _ ⟨x',rfl⟩;have e3:x'.w.cell? ⟨w.heap.size,3,none⟩=some (.slice qb m0 qe):=x'.get (ah HX.o 3);have dO:=ab (HB.o.trans (x'.below.mono HB.o.size));have jI:=ab (bT x'.below HX.o);obtain ⟨W3,ec⟩:=ao x'.w;rw[<-ec]at e3 dO jI ⊢;clear f0 f1 ye Ok Tb htd YK ec HX;go_wp2;go_loopw [5,6] (fun r i wr=>∃k m:Nat,k<=m0/\i=.int .i64 k/\r=.int .i64 m/\Below W3.heap.size W3 wr/\eI s left (1+q+R)=eI (s.drop k) left m/\m<=300000000000) (fun _ i _=>m0 - (intOf i).toNat)
  case atStart=>exact ⟨0,1+q+R,bc _,rfl,by go_num,ak _ _,by simp,by omega⟩
  case round=>
   obtain ⟨k,m,hk,rfl,rfl,ar,hcut,Bn⟩:=hrel;have e3':=aa ar e3;have dy:=ab (dO.o.trans (ar.mono dO.o.size))
   by_cases hlt:k<m0
   ·by_cases pS:(m:Int)<=left
    ·have br:=ct ib.o hlt;obtain ⟨b,off,u,rfl,_,hu,c0,c1,c2,c3⟩:=fP.o.get br;have VE:s.drop k=s[k] :: s.drop (k+1):=fN br;rw[VE]at hcut;obtain ⟨d0,d1,d2,d3⟩:=nb dy.o c0 c1 c2 c3;obtain ⟨M,hM⟩:=ao (AN s[k] (left - m));have CC:=fd.o s[k] (az br) ok wr u (left - m) (hu.later dy.o) (by omega) (by omega);rw[<-hM]at CC;have AO:eI s left (1+q+R)=eI (s.drop (k+1)) left (m+M):=by
      rw[hcut];simp only[eI,aX pS];rw[hM]
     have J8:m+M<=300000000000:=by
      have h5:=(kK s left (1+q+R)).2.1;have h6:=(kK (s.drop (k+1)) left (m+M)).1;omega
     exact pm98
    ·have G5:decide ((m:Int)<=left)=false:=by simp;omega
     have FE:decide ((k:Int)<(m0:Int))=true:=by simp;omega
     have HE:=ab (hcut.trans (xP _ pS));clear hcut ar;go_wp2;go_ret;exact ⟨rn (by rw[FL.o,HE.o]),dy.o⟩
   ·obtain rfl:k=m0:=by omega
    have hd:s.drop k=[]:=by rw[ib.o];exact List.drop_length
    rw[hd]at hcut;have HE:=ab (show eI s left (1+q+R)=m from hcut);clear hcut ar hd;go_wp2;go_ret;exact ⟨rn (by rw[FL.o,HE.o]),dy.o⟩):G:=h
theorem pm23(h:G:=by
 have pp272:=();exact pm272):G:=h
theorem pm24(h:G:=by
 go_wp2;go_loopw [5] (fun i wr=>∃k:Nat,1<=k/\k<=s.size/\i=.int .i64 k/\lv ll (s.data.toList.take k).tail=true/\∃n,wr=w.drewN n) (fun i _=>s.size - (intOf i).toNat)
 case atStart=>exact ⟨1,aF _,h1,rfl,by rw[List.take_one];cases s.data.toList <;> simp[lv],⟨_,rfl⟩⟩
 case round=>
  obtain ⟨k,ej,hk,rfl,ha,hw⟩:=hrel;have So:wr.cell? ⟨b2,0,none⟩=some (.func (.func 189) #[] #[]):=by obtain ⟨n,rfl⟩:=hw;exact hc2
  obtain ⟨HA,HW⟩:=aZ ha hw;clear ha d1 d2 hw Oj hc2
  by_cases hlt:k<s.size
  ·cases hp:ll s[k].toNat
   ·have HP:=ab hp;have pp243:=();exact pm243
   ·have HP:=ab hp;exact pm243
  ·obtain rfl:k=s.size:=by omega
   exact pm259):G:=h
theorem pm25(h:G:=by
 go_simp;refine hK _ _ (fun _=>by rw[du.o];exact cv.trans (((ak _ A).alloc (aF _) _).mono cv.size)) (fun _=>?_);clear hK K;obtain ⟨qs,ew,au,gh⟩:=eW.o.row;rw[eh.o]at ew au;have oG:=cv.size;have sE:=eW.o.size
 first
 |clear pp25a;refine ce 7 rfl fun K hK=>?_
  refine bB (.tmp 52) (.tmp 57) 33 rfl W1.heap.size 43 pY (.agg #[.bool false,.string ByteArray.empty,.slice none 0 0]) 3 48 Tryz.underlying33 hi yF vX yX rfl (by decide) (.slice ra k rc) k _ rfl ((bh au (fun b _ hlt=>cv.block b hlt)).alloc _) ⟨_,0,none⟩ 1 1 p.cells rfl rfl (dj (cs:=#[.bool p.v,.string p.n,.slice p.a p.l p.c]) (t:=43) (fr:=(0,0)) (fO A _)) (by simp[TQ.cells,Value.oneCell']) (by decide) (by unfold maxLen;omega) (by omega) (by simp;omega) (A.heap.size+1) (by simp) ?_;intro g eG w4 aR ap hg ev;have h4:=eW.o.at4 (kk:=2) au cv ap;have cV:=eW.o.stepT (F:=2) (t:=(bY kd.ts sc a[k])) (g:=g) (cap:=eG) (by rw[eh.o];exact au) (by rw[eh.o];exact ew) gh cv (hp:TermV (W2.heap.size<=·) A p.val (bY kd.ts sc a[k])) (by rw[eh.o];exact aR) ap hg rfl;rw[eh.o,c_ (bY kd.ts sc) a dG]at cV;have oH:=ab cV;have d3:=h4.2.2;have z3:=h4.2.1;clear aR ap hg ev cV h4 au ew gh hp hA;refine eS hK ?_;clear hK K;refine ce 8 rfl fun K hK=>?_;go_simp;refine eS hK ?_;clear hK K;refine ce 9 rfl fun K hK=>?_;go_simp;refine eS hK ?_;clear hK K;refine le ?_;gi_wp2;go_roundw
  case rel=>exact ⟨k+1,by omega,by go_num,_,oH.o⟩
  case measure=>simp[intOf];omega
 |clear pp25b;refine ce 7 rfl fun K hK=>?_
  refine bB (.tmp 71) (.tmp 76) 33 rfl W1.heap.size 43 pY (.agg #[.bool false,.string ByteArray.empty,.slice none 0 0]) 3 48 Tryz.underlying33 hi yF vX yX rfl (by decide) (.slice ra k1 rc) k1 _ rfl ((bh au (fun b _ hlt=>cv.block b hlt)).alloc _) ⟨_,0,none⟩ 1 1 p.cells rfl rfl (dj (cs:=#[.bool p.v,.string p.n,.slice p.a p.l p.c]) (t:=43) (fr:=(0,0)) (fO A _)) (by simp[TQ.cells,Value.oneCell']) (by decide) (by unfold maxLen;omega) (by omega) (by simp;omega) (A.heap.size+1) (by simp) ?_;intro g eG w4 aR ap hg ev;have h4:=eW.o.at4 (kk:=2) au cv ap;have cV:=eW.o.stepT (F:=2) (t:=(bY kd.ts c a[k1])) (g:=g) (cap:=eG) (by rw[eh.o];exact au) (by rw[eh.o];exact ew) gh cv (hp:TermV (W2.heap.size<=·) A p.val (bY kd.ts c a[k1])) (by rw[eh.o];exact aR) ap hg rfl;rw[eh.o,c_ (bY kd.ts c) a dG]at cV;have oH:=ab cV;have d3:=h4.2.2;have z3:=h4.2.1;clear aR ap hg ev cV h4 au ew gh hp hA;refine eS hK ?_;clear hK K;refine ce 8 rfl fun K hK=>?_;go_simp;refine eS hK ?_;clear hK K;refine ce 9 rfl fun K hK=>?_;go_simp;refine eS hK ?_;clear hK K;refine le ?_;gi_wp2;go_roundw
  case rel=>exact ⟨k1+1,by omega,by go_num,_,oH.o⟩
  case measure=>simp[intOf];omega
 |clear pp25c;refine ce 7 rfl fun K hK=>?_
  refine bB (.tmp 126) (.tmp 131) 34 rfl jg.heap.size 36 Lm (.agg #[.int .u8 0,.string ByteArray.empty,.slice none 0 0,.slice none 0 0]) 4 72 Tryz.underlying34 hj ic BC Uq rfl (by decide) (.slice ra k rc) k _ rfl ((bh au (fun b _ hlt=>cv.block b hlt)).alloc _) ⟨_,0,none⟩ 1 1 p.cells rfl rfl (dj (cs:=#[.int .u8 p.o,.string p.n,.slice p.a p.l p.c,.slice p.b p.m p.e]) (t:=36) (fr:=(0,0)) (fO A _)) (by simp[FQ.cells,Value.oneCell']) (by decide) (by unfold maxLen;omega) (by omega) (by simp;omega) (A.heap.size+1) (by simp) ?_;intro g eG w4 aR ap hg ev;have h4:=eW.o.at4 (kk:=3) au cv ap;have cV:=eW.o.stepF (F:=3) (t:=(cH kd c ss[k])) (g:=g) (cap:=eG) (by rw[eh.o];exact au) (by rw[eh.o];exact ew) gh cv (hp:FormV (W2.heap.size<=·) A p.val (cH kd c ss[k])) (by rw[eh.o];exact aR) ap hg rfl;rw[eh.o,c_ (cH kd c) ss dG]at cV;have oH:=ab cV;have d3:=h4.2.2;have z3:=h4.2.1;clear aR ap hg ev cV h4 au ew gh hp hA;refine eS hK ?_;clear hK K;refine ce 8 rfl fun K hK=>?_;go_simp;refine eS hK ?_;clear hK K;refine ce 9 rfl fun K hK=>?_;go_simp;refine eS hK ?_;clear hK K;refine le ?_;gi_wp2;go_roundw
  case rel=>exact ⟨k+1,by omega,by go_num,_,oH.o⟩
  case measure=>simp[intOf];omega
 |clear pp25d;refine ce 6 rfl fun K hK=>?_
  refine bB (.tmp 35) (.tmp 39) 33 rfl W1.heap.size 43 pY (.agg #[.bool false,.string ByteArray.empty,.slice none 0 0]) 3 48 Tryz.underlying33 hi yF vX yX rfl (by decide) (.slice ra k rc) k _ rfl ((bh au (fun b _ hlt=>cv.block b hlt)).alloc _) ⟨_,0,none⟩ 1 1 p.cells rfl rfl (dj (cs:=#[.bool p.v,.string p.n,.slice p.a p.l p.c]) (t:=43) (fr:=(0,0)) (fO A _)) (by simp[TQ.cells,Value.oneCell']) (by decide) (by unfold maxLen;omega) (by omega) (by simp;omega) (A.heap.size+1) (by simp) ?_;intro g eG w4 aR ap hg ev;have h4:=eW.o.at4 (kk:=2) au cv ap;have cV:=eW.o.stepT (F:=2) (t:=(eT f a[k])) (g:=g) (cap:=eG) (by rw[eh.o];exact au) (by rw[eh.o];exact ew) gh cv (hp:TermV (W2.heap.size<=·) A p.val (eT f a[k])) (by rw[eh.o];exact aR) ap hg rfl;rw[eh.o,c_ (eT f) a dG]at cV;have oH:=ab cV;have d3:=h4.2.2;have z3:=h4.2.1;clear aR ap hg ev cV h4 au ew gh hp hA;refine eS hK ?_;clear hK K;refine ce 7 rfl fun K hK=>?_;go_simp;refine eS hK ?_;clear hK K;refine ce 8 rfl fun K hK=>?_;go_simp;refine eS hK ?_;clear hK K;refine le ?_;gi_wp2;go_roundw
  case rel=>exact ⟨k+1,by omega,by go_num,_,oH.o⟩
  case measure=>simp[intOf];omega
 |clear pp25e;refine ce 5 rfl fun K hK=>?_
  refine bB (.tmp 21) (.tmp 24) 33 rfl W1.heap.size 43 pY (.agg #[.bool false,.string ByteArray.empty,.slice none 0 0]) 3 48 Tryz.underlying33 hi yF vX yX rfl (by decide) (.slice fJ k1 fK) k1 _ rfl ((bh au (fun b _ hlt=>cv.block b hlt)).alloc _) ⟨_,0,none⟩ 1 1 p.cells rfl rfl (dj (cs:=#[.bool p.v,.string p.n,.slice p.a p.l p.c]) (t:=43) (fr:=(0,0)) (fO A _)) (by simp[TQ.cells,Value.oneCell']) (by decide) (by unfold maxLen;omega) (by omega) (by simp;omega) (A.heap.size+1) (by simp) ?_;intro g eG w4 aR ap hg ev;have h4:=eW.o.at4 (kk:=2) au cv ap;have cV:=eW.o.stepT (F:=2) (t:=(aM a[k1])) (g:=g) (cap:=eG) (by rw[eh.o];exact au) (by rw[eh.o];exact ew) gh cv (hp:TermV (W2.heap.size<=·) A p.val (aM a[k1])) (by rw[eh.o];exact aR) ap hg rfl;rw[eh.o,c_ aM a dG]at cV;have oH:=ab cV;have d3:=h4.2.2;have z3:=h4.2.1;clear aR ap hg ev cV h4 au ew gh hp hA;refine eS hK ?_;clear hK K;refine ce 6 rfl fun K hK=>?_;go_simp;refine eS hK ?_;clear hK K;refine ce 7 rfl fun K hK=>?_;go_simp;refine eS hK ?_;clear hK K;refine le ?_;gi_wp2;go_roundw
  case rel=>exact ⟨k1+1,by omega,by go_num,_,oH.o⟩
  case measure=>simp[intOf];omega
 |clear pp25f;refine ce 5 rfl fun K hK=>?_
  refine bB (.tmp 36) (.tmp 39) 34 rfl jg.heap.size 36 Lm (.agg #[.int .u8 0,.string ByteArray.empty,.slice none 0 0,.slice none 0 0]) 4 72 Tryz.underlying34 hj ic BC Uq rfl (by decide) (.slice ra k rc) k _ rfl ((bh au (fun b _ hlt=>cv.block b hlt)).alloc _) ⟨_,0,none⟩ 1 1 p.cells rfl rfl (dj (cs:=#[.int .u8 p.o,.string p.n,.slice p.a p.l p.c,.slice p.b p.m p.e]) (t:=36) (fr:=(0,0)) (fO A _)) (by simp[FQ.cells,Value.oneCell']) (by decide) (by unfold maxLen;omega) (by omega) (by simp;omega) (A.heap.size+1) (by simp) ?_;intro g eG w4 aR ap hg ev;have h4:=eW.o.at4 (kk:=3) au cv ap;have cV:=eW.o.stepF (F:=3) (t:=(bC s[k])) (g:=g) (cap:=eG) (by rw[eh.o];exact au) (by rw[eh.o];exact ew) gh cv (hp:FormV (W2.heap.size<=·) A p.val (bC s[k])) (by rw[eh.o];exact aR) ap hg rfl;rw[eh.o,c_ bC s dG]at cV;have oH:=ab cV;have d3:=h4.2.2;have z3:=h4.2.1;clear aR ap hg ev cV h4 au ew gh hp hA;refine eS hK ?_;clear hK K;refine ce 6 rfl fun K hK=>?_;go_simp;refine eS hK ?_;clear hK K;refine ce 7 rfl fun K hK=>?_;go_simp;refine eS hK ?_;clear hK K;refine le ?_;gi_wp2;go_roundw
  case rel=>exact ⟨k+1,by omega,by go_num,_,oH.o⟩
  case measure=>simp[intOf];omega
 |clear pp25g;refine ce 9 rfl fun K hK=>?_
  refine bB (.tmp 28) (.tmp 35) 33 rfl W1.heap.size 43 pY (.agg #[.bool false,.string ByteArray.empty,.slice none 0 0]) 3 48 Tryz.underlying33 hi yF vX yX rfl (by decide) (.slice fJ k1 fK) k1 _ rfl ((bh au (fun b _ hlt=>cv.block b hlt)).alloc _) ⟨_,0,none⟩ 1 1 p.cells rfl rfl (dj (cs:=#[.bool p.v,.string p.n,.slice p.a p.l p.c]) (t:=43) (fr:=(0,0)) (fO A _)) (by simp[TQ.cells,Value.oneCell']) (by decide) (by unfold maxLen;omega) (by omega) (by simp;omega) (A.heap.size+1) (by simp) ?_;intro g eG w4 aR ap hg ev;have h4:=eW.o.at4 (kk:=2) au cv ap;have cV:=eW.o.stepT (F:=2) (t:=(iB nx z a[k1])) (g:=g) (cap:=eG) (by rw[eh.o];exact au) (by rw[eh.o];exact ew) gh cv (hp:TermV (W2.heap.size<=·) A p.val (iB nx z a[k1])) (by rw[eh.o];exact aR) ap hg rfl;rw[eh.o,c_ (iB nx z) a dG]at cV;have oH:=ab cV;have d3:=h4.2.2;have z3:=h4.2.1;clear aR ap hg ev cV h4 au ew gh hp hA;refine eS hK ?_;clear hK K;refine ce 10 rfl fun K hK=>?_;go_simp;refine eS hK ?_;clear hK K;refine ce 11 rfl fun K hK=>?_;go_simp;refine eS hK ?_;clear hK K;refine le ?_;gi_wp2;go_roundw
  case rel=>exact ⟨k1+1,by omega,by go_num,_,oH.o⟩
  case measure=>simp[intOf];omega
 |refine ce 7 rfl fun K hK=>?_
  refine bB (.tmp 95) (.tmp 100) 34 rfl jg.heap.size 36 Lm (.agg #[.int .u8 0,.string ByteArray.empty,.slice none 0 0,.slice none 0 0]) 4 72 Tryz.underlying34 hj ic BC Uq rfl (by decide) (.slice ra k rc) k _ rfl ((bh au (fun b _ hlt=>cv.block b hlt)).alloc _) ⟨_,0,none⟩ 1 1 p.cells rfl rfl (dj (cs:=#[.int .u8 p.o,.string p.n,.slice p.a p.l p.c,.slice p.b p.m p.e]) (t:=36) (fr:=(0,0)) (fO A _)) (by simp[FQ.cells,Value.oneCell']) (by decide) (by unfold maxLen;omega) (by omega) (by simp;omega) (A.heap.size+1) (by simp) ?_;intro g eG w4 aR ap hg ev;have h4:=eW.o.at4 (kk:=3) au cv ap;have cV:=eW.o.stepF (F:=3) (t:=(eD kk nx z s[k])) (g:=g) (cap:=eG) (by rw[eh.o];exact au) (by rw[eh.o];exact ew) gh cv (hp:FormV (W2.heap.size<=·) A p.val (eD kk nx z s[k])) (by rw[eh.o];exact aR) ap hg rfl;rw[eh.o,c_ (eD kk nx z) s dG]at cV;have oH:=ab cV;have d3:=h4.2.2;have z3:=h4.2.1;clear aR ap hg ev cV h4 au ew gh hp hA;refine eS hK ?_;clear hK K;refine ce 8 rfl fun K hK=>?_;go_simp;refine eS hK ?_;clear hK K;refine ce 9 rfl fun K hK=>?_;go_simp;refine eS hK ?_;clear hK K;refine le ?_;gi_wp2;go_roundw
  case rel=>exact ⟨k+1,by omega,by go_num,_,oH.o⟩
  case measure=>simp[intOf];omega):G:=h
theorem pm26(h:G:=by
 have eL:=ab (bM.o.trans (x'.below.mono bM.o.size));cases e
 ·have HE:=ab (show R=false by rw[HT.o];simp);go_wp2;go_ret;exact ⟨aK HE.o.symm,dy.o.trans (eL.o.mono dy.o.size)⟩
 ·go_wp2;go_roundw
  case rel=>exact ⟨k+1,by omega,by go_num,sU.o.trans (eL.o.mono sU.o.size),by rw[HT.o];simp⟩
  case measure=>simp[intOf];omega):G:=h
theorem pm27(h:G:=by
 obtain ⟨b,off,u,rfl,ja,hu,c0,c1,c2⟩:=fP.o.get br;have pp280a:=();exact pm280):G:=h
theorem pm28(h:G:=by
 exact pm193):G:=h
theorem pm29(h:G:=by
 have HE:Hd (BX=false):=ab (hM.trans (by simp));clear hM sG qi Br cK;have pp65f:=();exact pm65):G:=h
theorem pm30(h:G:=by
 have c0:wr.cell? ⟨w.heap.size+1+1+1,0,none⟩=some (.int .u8 qo):=ah x2 0;have c1:wr.cell? ⟨w.heap.size+1+1+1,1,none⟩=some (.string ⟨n.toArray⟩):=ah x2 1;have c2:wr.cell? ⟨w.heap.size+1+1+1,2,none⟩=some (.slice fJ k1 fK):=ah x2 2;have c3:wr.cell? ⟨w.heap.size+1+1+1,3,none⟩=some (.slice ra k rc):=ah x2 3;obtain ⟨e0,e1,e2,e3,z0,z1,z2,z3⟩:=dh x1;have FI:=aC x1 ar;clear hF x1 x2 xp zE j4 ar;go_wp2;obtain ⟨W6,cP,x6,k6,g0,g1,g2,g3⟩:=BV FI.o.1 (.int .u8 qo) (.string ⟨n.toArray⟩) (.slice fJ k1 fK) (.slice ra k rc);rw[<-cP];have hr6:=wb.o.kp1 k6 (by have:=dO.o.2;have:=Pm.o.2;omega);have ha6:=HRA.o.kp1 k6 (by have:=dO.o.2;omega);have h6:FormV (w.heap.size<=·) W6 (FQ.val ⟨qo,⟨n.toArray⟩,fJ,k1,fK,ra,k,rc⟩) (.mk qo n SD us):=RowF.form ha6 hr6 (by have:=dO.o.2;omega) (by have:=dO.o.2;have:=Pm.o.2;omega);refine bI (v:=.tuple #[FQ.val ⟨qo,⟨n.toArray⟩,fJ,k1,fK,ra,k,rc⟩,.bool true]) (by simp[FQ.val,results,Tryz.results91,go_sem,g0,g1,g2,g3]) rfl ⟨⟨⟨qo,⟨n.toArray⟩,fJ,k1,fK,ra,k,rc⟩,by rw[HE.o];rfl,fun u hu=>by rw[HE.o]at hu;cases hu;exact h6⟩,Below.kp1 FI.o.2 k6 (by omega)⟩):G:=h
theorem pm31(h:G:=by
 obtain ⟨W3,ec⟩:=ao (wr.alloc (.cells #[.int .u8 u.o,.string u.n,.slice u.a u.l u.c,.slice u.b u.m u.e] 36));exact pm112):G:=h
theorem pm32(h:G:=by
 simp only[FQ.val,cA,Array.mk.injEq,cr,and_true,Value.int.injEq,true_and,Value.string.injEq]at h1;obtain ⟨rfl,rfl,rfl,rfl⟩:=h1
 first
 |clear pp32a;obtain rfl:=FG.len;obtain ⟨W2,bl⟩:=ao (w.alloc (.cells #[.int .u8 uo,.string ⟨xn.toArray⟩,.slice ua ul uc,.slice ub xs.length ue] 36));have bF:=cX bl;have hX:=bX bl;have C1:=Lv xa (fun t _=>(O' t)) x ok W2 ua ul uc hf.args (fL.later bF);have en:=hf.subs.len;have hfs:=hf.subs;have zaq:=fun r=>uh (x:=x) (.mk uo xn xa xs) r;have qh:=hf.1;obtain ⟨R,hR⟩:=ao (lu x (.mk uo xn xa xs));have qI:=hR;rw[lu]at qI;rw[<-hR]at zaq ⊢;obtain ⟨S,hS⟩:=ao (eC x xa 0);rw[<-hS]at C1 qI;have zar:∀ p,S=some p->p≠[]/\p.length<=2000000:=fun p hp=>by
   rw[hS]at hp;exact ⟨wd hp,aQ (mu xa 0 p hp) hf.args.1⟩
  obtain ⟨k0,cg⟩:=ao xs.length;rw[<-cg]at en hX FG;rw[<-cg]at bl;rw[<-cg];obtain ⟨dJ,Uy,fd,HF,HX,cJ,gF,HC,HR,HSo⟩:=OG cg FG ih hfs hX bF bl C1 qI zar;clear cg FG ih hfs hX bF bl C1 qI zar hR hS hq fL hf zaq;unfold FQ.val;go_enter Tryz.func165,Tryz.ntmps165
  cases S with
  | some p=>
   obtain ⟨BM,BN⟩:=HSo.o p rfl;obtain ⟨p0,nD⟩:=ao p.length;have nj:0<p0:=by rw[nD];exact ie.2 BM
   have O9:(0:Int)<(p0:Int):=by omega
   have FF:=ab nD;clear nD BM BN HSo;go_wp2_with (rw[<-gF.o];go_at_call 229;refine HC.o.mono ?_;rintro e w2 ⟨⟨v2,rfl,jS⟩,bF⟩;obtain ⟨a2,c2,rfl⟩:=jS.slice;simp only[Option.getD]at jS ⊢;have Gx:=ab jS;have bM:=ab (cJ.o.trans (bF.mono cJ.o.size));rw[<-FF.o];clear bF jS);have HE:=ab (show R=some ([],p) by rw[HR.o]);refine bI (v:=.tuple #[.slice none 0 0,.slice a2 p0 c2]) (by simp[results,Tryz.results165,go_sem]) rfl ⟨⟨_,_,rfl,?_,?_⟩,bM.o⟩
   ·rw[HE.o];exact IntsV.nil _
   ·rw[HE.o,FF.o];exact Gx.o
  | none=>
   clear HSo;go_wp2_with (rw[<-gF.o];go_at_call 229;refine HC.o.mono ?_;rintro e w2 ⟨⟨v2,rfl,jS⟩,bF⟩;obtain ⟨a2,c2,rfl⟩:=jS.slice;simp only[Option.getD,List.length_nil]at jS ⊢;have x3:w2.cell? ⟨w.heap.size,3,none⟩=some (.slice ub k0 ue):=aa bF (ah HX.o 3);have bM:=ab (cJ.o.trans (bF.mono cJ.o.size));clear bF jS);clear x3;go_loopw [22] (fun i wr=>∃k:Nat,k<=k0/\i=.int .i64 k/\Below w.heap.size w wr/\R=mg x (xs.drop k) k) (fun i _=>k0 - (intOf i).toNat)
   case atStart=>exact ⟨0,bc _,rfl,bM.o,by simpa using HR.o⟩
   case round=>
    have pp288b:=();exact pm288
 |clear pp32b;obtain rfl:=fL.len;obtain rfl:=FG.len;have zaz:=aA.args.len;have en:=aA.subs.len;have dK:=aA.name;obtain ⟨A,hA⟩:=ao ((aw a).filter (fun x=>!bs.contains x));obtain ⟨bs',hbs⟩:∃bs':List Str,bs'=(if bD uo then nm :: bs else bs):=⟨_,rfl⟩;have lZ:a_ bs (.mk uo nm a ss)=A ++ bH bs' ss:=by rw[hA,hbs];unfold a_;rfl
  rw[lZ]at dt ⊢;have sW:nodesF (.mk uo nm a ss)=nodesTs a+nodesFs ss+1:=by unfold nodesF;rfl
  obtain ⟨NF,hNF⟩:=ao (nodesF (.mk uo nm a ss));rw[<-hNF]at hn Om ⊢;rw[<-hNF]at sW;obtain ⟨k0,cg⟩:=ao a.length;obtain ⟨m0,el⟩:=ao ss.length;rw[<-cg]at fL zaz;rw[<-el]at FG en;have FJ:=hq;unfold FQ.val;simp only;rw[<-cg,<-el];obtain ⟨W1,bR⟩:=ao (((W.alloc (.cells #[.int .u8 uo,.string ⟨nm.toArray⟩,.slice ua k0 uc,.slice ub m0 ue] 36)).alloc (.cells #[.map (some mb)] 198)).alloc (.cells #[.func (.yield l) #[] #[]] 113));have iJ:=xW bR;have gx:=IX bR;have hx0:W1.heap[W.heap.size]?=some (.cells #[.int .u8 uo,.string ⟨nm.toArray⟩,.slice ua k0 uc,.slice ub m0 ue] 36 (0,0)):=by
   rw[bR];exact (bK _ _ _ (by simp;omega)).trans ((bK _ _ _ (by simp)).trans (aj rfl))
  have tP:W1.heap[W.heap.size+1]?=some (.cells #[.map (some mb)] 198 (0,0)):=by
   rw[bR];exact (bK _ _ _ (by simp)).trans (aj (by simp))
  have oL:W1.heap[W.heap.size+2]?=some (.cells #[.func (.yield l) #[] #[]] 113 (0,0)):=by
   rw[bR];exact aj (by simp)
  have hmW:=hb.lt;have hWs:=hk.size;have hMS:∀ b,W0.heap.size<=b->b≠mb->¬(M b\/b=mb):=fun b h1 h2 h=>by
   rcases h with h | h
   ·have:=hM b h;omega
   ·exact h2 h
  have pR:Hd (W.heap.size<W1.heap.size/\¬(M W.heap.size\/W.heap.size=mb)/\W.heap.size+1<W1.heap.size/\¬(M (W.heap.size+1)\/W.heap.size+1=mb)/\W.heap.size+2<W1.heap.size/\¬(M (W.heap.size+2)\/W.heap.size+2=mb)):=
   ab ⟨by omega,hMS _ (by omega) (by omega),by omega,hMS _ (by omega) (by omega),by omega,hMS _ (by omega) (by omega)⟩
  have HMS:=ab hMS;have fd:=ab (fun t ht=>ih t ht (aA.subs.mem ht));have I_:FrJ J pre M W0 mb n bs l W.heap.size [] W1:=⟨by simpa using hJ _ _ _ (Nw.below iJ) hj,hk.trans (Kp.below iJ),hb.same (iJ.block mb hmW),tP,oL⟩;have hpa:(pre ++ (aw a).filter (fun x=>!bs.contains x)) <+: xs:=by rw[<-hA];exact jJ dt
  have hG:=Wx (n:=n) (s:=W.heap.size) hM Bn (by omega) hY aA.args hpa;have UJ:=fun (wr:World) (h:W1.heap.size<=wr.heap.size)=>FrJ.abides (l:=l) (s:=W.heap.size) (mb:=mb) (n:=n) (bs:=bs) (pre:=pre) (M:=M) (B:=wr.heap.size) hJ (by omega) (by omega) (by omega);have HFT:=ab (fun t ht=>aA.args.mem (t:=t) ht);have vF:Hd (n+2 * NF<4000000/\bs.length+NF<=4000000/\NF=nodesTs a+nodesFs ss+1/\bs'.length<=bs.length+1):=ab ⟨hn,Om,sW,by rw[hbs];split <;> simp⟩;obtain ⟨Jc,dJ,ib,UF,Uy,iW,dO,HS1,MA,jI⟩:=OG dK cg el fL FG bR iJ gx hx0 tP;obtain ⟨HX2,Bl,Wy⟩:=cD oL hM Bn;have HMW:=aC hmW hWs;obtain ⟨HJ,HY,nS,HJ1,HG,HFA,HA,lw⟩:=VR hJ hY dt I_ hG UJ hA hbs;clear hq FJ fL FG aA ih cg el bR iJ gx hx0 tP oL hM Bn hmW hWs hJ hY dt I_ hG UJ hA hbs lZ sW hn Om hj hk hb hMS hpa dK hNF;have hmf:∀ (fn:Fn) (first cap:Array Value) (w:World),(Instr.makeFunc fn first cap).run Tryz.prog w=.ok (.func fn first cap) w:=fun _ _ _ _=>rfl;go_enter_defers Tryz.func149,Tryz.ntmps149;have p2:W1.cell? ⟨W.heap.size,2,none⟩=some (.slice ua k0 uc):=ah MA.o 2;go_wp2;rw[<-iW.o];clear p2;go_loopw [16] (fun i wr=>∃k:Nat,k<=k0/\i=.int .i64 k/\FrJ J pre M W0 mb n bs l W.heap.size (aw (a.take k)) wr/\Kp (fun b=>M b\/b=mb) W1 wr) (fun i _=>k0 - (intOf i).toNat)
  case atStart=>exact ⟨0,bc _,rfl,by simpa[aw] using HJ1.o,Kp.refl _⟩
  case round=>
   obtain ⟨k,hk,rfl,hj,ej⟩:=hrel
   by_cases hlt:k<k0
   ·have br:=ct dJ.o hlt;obtain ⟨b,off,u,rfl,ja,hu,c0,c1,c2⟩:=UF.o.get br;have d0:=hj.kp.cell ja.2 c0;have d1:=hj.kp.cell ja.2 c1;have d2:=hj.kp.cell ja.2 c2;exact pm257
   ·obtain rfl:k0=k:=by omega
    have ht:a.take k0=a:=by rw[dJ.o];exact cO
    rw[ht]at hj;have Lm:=hj.j;rw[<-HA.o]at Lm;exact pm253
 |clear pp32c;obtain rfl:=GJ.len;have en:=WP.subs.len;obtain ⟨m0,el⟩:=ao np.length;simp only at xh;rw[<-el]at GJ en xh WO;obtain ⟨e0,e1,e2,e3,z0,z1,z2,z3⟩:=dh xh;have DZ:(k:Int)<(n1:Int):=by omega
  have yo:=(bj.same _ (by have:=HM.o.2.1;have:=H4.o.2.2.size;omega) (by rw[HM.o.1];simp)).trans ((H4.o.2.2.block _ (by have:=HM.o.2.1;omega)).trans HX.o.2.2);have pP:=H4.o.2.2.size;have pN:=HM.o.2.1;have ar:Below w.heap.size w wr:=Below.kp1 (HM.o.2.2.trans (H4.o.2.2.mono (by omega))) (by have h:=bj;rw[HM.o.1]at h;exact h) (by omega)
  by_cases hi:i0<m0
  ·have SE:i0<np.length:=by omega
   rw[gy SE]at IP;obtain ⟨b2,off2,⟨uo,un,ua,ul,uc,ub,um,ue⟩,rfl,ja,hu,d0,d1,d2,d3⟩:=GJ.get SE;simp only at IP d0 d1 d2 d3;have hii:(i0:Int)<(m0:Int):=by omega
   have zcM:¬((m0:Int)<=(i0:Int)):=by omega
   have CQ:=eN ⟨c0,⟨cn.toArray⟩,c2,c3,c4,some ⟨b2,off2,none⟩,m0,c7⟩ wr;simp only[FQ.val]at CQ;have IM:=ab CQ;have Zp:=WP.subs.mem (az SE);have cJ:=ab (Si xh bj hu Zp au MZ ja);have HD:=cC d0 d1 d2 d3;have HZ:=bE pN pP bj.size
   cases p9:bD c0 with
   | false=>
    rw[p9]at IM;rw[aD (show ¬(bD c0=true) by rw[p9];simp)]at IP;have HWk:=ab IP;clear IP yo bj WO WP au MZ hcs JQ GJ xh el pY Bz jD vX en pP pN ar CQ hu Zp ja d0 d1 d2 d3 p9;go_wp2_with (go_at_call 93;refine IM.o.mono ?_;rintro e w8 ⟨rfl,gS⟩;have x8:=bT gS cJ.o.1;obtain ⟨s0,s1,s2,s3,y0,y1,y2,y3⟩:=dh x8;have d0:=aa gS HD.o.1;have d1:=aa gS HD.o.2.1;have d2:=aa gS HD.o.2.2.1;have d3:=aa gS HD.o.2.2.2;have H8:=aC gS x8;clear gS x8);go_roundw
    case rel=>
     have x9:=lm (v0:=.int .u8 uo) (v1:=.string un) (v2:=.slice ua ul uc) (v3:=.slice ub um ue) H8.o.2;have k9:=dI (W:=w8) (b:=w.heap.size+1) (v0:=.int .u8 uo) (v1:=.string un) (v2:=.slice ua ul uc) (v3:=.slice ub um ue);rw[<-HM.o.1]at k9;have kk:=cJ.o.2.1.trans ((Kp.below H8.o.1).trans k9);exact ⟨k+1,np[i0],ins,⟨uo,un,ua,ul,uc,ub,um,ue⟩,by omega,by go_num,kk,x9,cJ.o.2.2.1.kp3 ((Kp.below H8.o.1).trans k9),cJ.o.2.2.2.1,cJ.o.2.2.2.2.1.held (fun b hb hlt=>((Kp.below H8.o.1).trans k9).same b hlt (by rw[HM.o.1];have:=HZ.o;omega)),by have:=cJ.o.2.2.2.2.2.1;omega,by rw[HWk.o]⟩
    case measure=>simp[intOf];omega
   | true=>
    rw[p9]at IM;rw[aX p9]at IP;have HWk:=ab IP;have hrl:ins.reverse.length+1<=4000000:=by simp;omega
    have HRL:=ab hrl;clear IP yo bj WO WP au MZ hcs JQ GJ xh el pY Bz jD vX en pP pN ar CQ hu Zp ja d0 d1 d2 d3 p9 hrl;go_wp2_with (first | (go_at_call 93;refine IM.o.mono ?_;rintro e w8 ⟨rfl,gS⟩;have x8:=bT gS cJ.o.1;obtain ⟨s0,s1,s2,s3,y0,y1,y2,y3⟩:=dh x8;have H8:=aC gS x8;clear gS x8) | (at_builtin;refine dU rfl _ _ rfl w4.heap.size (by have:=HZ.o;have:=H8.o.1.size;simp;omega) u10 ins.reverse rfl ((cJ.o.2.2.2.2.1.later H8.o.1).later cQ) (.slice (some ⟨w8.heap.size,0,none⟩) 1 1) [cn] rfl (fun _=>True) (zQ (aj rfl)) HRL.o ?_;intro v9 w9 PD IQ;have K9:Kp (fun b=>w4.heap.size<=b) wr w9:=zaH (H8.o.1.tr cQ) IQ (fun g hg=>(World.ownsRow.lt cJ.o.2.2.2.2.1 g hg).1);have x9:=(K9.same _ (bn cJ.o.1) (by have:=HZ.o;omega)).trans cJ.o.1;obtain ⟨s0,s1,s2,s3,y0,y1,y2,y3⟩:=dh x9;have hlo:¬w4.heap.size<=b2:=(by have:=HZ.o;have:=cJ.o.2.2.2.2.2.2.1;omega);have d0:=K9.cell hlo HD.o.1;have d1:=K9.cell hlo HD.o.2.1;have d2:=K9.cell hlo HD.o.2.2.1;have d3:=K9.cell hlo HD.o.2.2.2;have HG:=cC PD K9 x9 (og ((cJ.o.2.1.trans (Kp.below H8.o.1)).trans (Kp.below cQ)) IQ (fun g hg=>(World.ownsRow.lt cJ.o.2.2.2.2.1 g hg).1));clear PD IQ K9 x9 hlo));go_roundw
    case rel=>
     have Ew:=lm (v0:=.int .u8 uo) (v1:=.string un) (v2:=.slice ua ul uc) (v3:=.slice ub um ue) HG.o.2.2.1;have PE:=dI (W:=w9) (b:=w.heap.size+1) (v0:=.int .u8 uo) (v1:=.string un) (v2:=.slice ua ul uc) (v3:=.slice ub um ue);rw[<-HM.o.1]at PE;exact ⟨k+1,np[i0],cn :: ins,⟨uo,un,ua,ul,uc,ub,um,ue⟩,by omega,by go_num,HG.o.2.2.2.trans PE,Ew,(cJ.o.2.2.1.move (fun b hb hlt=>⟨hb,HG.o.2.1.same b hlt (by have:=HZ.o;omega)⟩)).kp3 PE,cJ.o.2.2.2.1,by rw[List.reverse_cons];exact HG.o.1.held (fun b hb hlt=>PE.same b hlt (by rw[HM.o.1];have:=HZ.o;omega)),by have:=cJ.o.2.2.2.2.2.1;simp;omega,by rw[HWk.o]⟩
    case measure=>simp[intOf];omega
  ·have hge:(m0:Int)<=(i0:Int):=by omega
   have hng:¬((i0:Int)<(m0:Int)):=by omega
   have HE:=ab (show R=none by rw[HR.o,IP,List.getElem?_eq_none (by omega)]);obtain ⟨f0,f1,f2,y0,y1,y2⟩:=fX yo;have FI:=aC yo ar;clear IP yo bj WO WP au MZ hcs JQ GJ xh el pY Bz jD vX en pP pN ar;go_wp2;obtain ⟨W6,cP,x6,k6,g0,g1,g2⟩:=ui FI.o.1 (.bool false) (.string ⟨#[]⟩) (.slice none 0 0);rw[<-cP];refine bI (v:=.tuple #[TQ.val ⟨false,⟨#[]⟩,none,0,0⟩,.bool false]) (by simp[TQ.val,results,Tryz.results98,go_sem,g0,g1,g2]) rfl ⟨⟨⟨false,⟨#[]⟩,none,0,0⟩,by rw[HE.o];rfl,fun u hu=>by rw[HE.o]at hu;cases hu⟩,Below.kp1 FI.o.2 k6 (by omega)⟩
 |clear pp32d;simp only at xh;obtain ⟨wo,JB⟩:=ao wr;subst JB;have pN:=HM.o.2.1;have pP:=H4.o.2.2.size;have hzo:=bj.size;have ar:Below w.heap.size w wo:=Below.kp1 (HM.o.2.2.trans (H4.o.2.2.mono (by omega))) (by have h:=bj;rw[HM.o.1]at h;exact h) (by omega);have yo:=(bj.same _ (by omega) (by rw[HM.o.1];simp)).trans ((H4.o.2.2.block _ (by omega)).trans HX.o.2.2);obtain ⟨W6,cP⟩:=ao (wo.alloc (.cells #[.bool false,.string ⟨#[]⟩,.slice none 0 0] 43));have cI:=cX cP;have Zq:=DY cP;have x6:=bX cP;have x26:=(cI.block _ (by omega)).trans yo;obtain ⟨b3,Wk,rfl,WQ⟩:=H4.o.2.1.get HN.o.2.2;have zaJ:b3≠w.heap.size+1:=H4.o.2.1.apart rfl HN.o.2.2 ((H4.o.2.2.block _ (by omega)).trans HX.o.2.1);have nj:=ie.2 HN.o.2.2;have zaK:b3<w4.heap.size:=oC (WQ 0 nj);have zaL:∀ j (h:j<pq.length),W6.cell? ⟨b3,Wk+j,none⟩=some (.int .i64 (pq[j]:Nat)):=fun j h=>aa cI (bj.cell (by rw[HM.o.1];exact zaJ) (WQ j h));obtain ⟨R0,UU⟩:=ao (mh cas pq);have SS:=HR.o;rw[IP]at SS;simp only[nO,Fm.a]at SS;rw[<-UU]at SS;have IR:=aC SS UU;have UV:=JQ.later cI;have zaM:=WP.args;have f2:=ah xh 2;have f26:=aa cI f2;have HZ:=cC pN pP hzo Zq;have H6:=ab (Si (ar.tr cI) x6 x26 zaL UV zaM zaK);have zaN:=aC au MZ;obtain ⟨Oo,M0⟩:=aZ cI cP;obtain rfl:=JQ.len;rw[cP]at f26;clear IP hdn WO JQ GJ WP xh pN pP hzo ar yo cI Zq x6 x26 WQ zaJ nj zaK zaL UU SS UV zaM au MZ bj cP;go_wp2_with fail;rw[<-M0.o];clear f2 f26;go_loopw [14,54] (fun v i wr=>∃(j:Nat) (t:Tm) (l:List Tm) (tq:TQ) (la:Option Addr) (lc:Nat),j<=n2/\i=.int .i64 j/\v=.slice la l.length lc/\Kp (fun b=>b=wo.heap.size) W6 wr/\wr.heap[wo.heap.size]?=some (.cells #[.bool tq.v,.string tq.n,.slice tq.a tq.l tq.c] 43 (0,0))/\TermsV (fun b=>b<w.heap.size/\¬M b/\ok b) wr v l/\fitTs l/\(j<n2->R0=mh l (pq.drop j))/\(0<j->TermV (fun b=>b<w.heap.size/\¬M b/\ok b) wr tq.val t/\fitT t/\(j=n2->R0=some t))) (fun _ i _=>n2 - (intOf i).toNat)
  case atStart=>exact ⟨0,.mk false [] [],cas,⟨false,⟨#[]⟩,none,0,0⟩,c2,c4,bc _,rfl,rfl,Kp.refl _,H6.o.2.1,H6.o.2.2.2.2.1,H6.o.2.2.2.2.2.1,fun _=>by simpa using IR.o.2,fun h=>absurd h (Nat.lt_irrefl _)⟩
  case round=>
   obtain ⟨j,t,l,⟨tv,tn,ta,tl,tc⟩,la,lc,hj,rfl,rfl,bj,Ex,PG,ug,ST,cb⟩:=hrel
   by_cases eJ:j<n2
   ·have hjp:=ct HN.o.2.1 eJ;have ci:=bj.cell (a:=⟨b3,Wk+j,none⟩) (show ¬(b3=wo.heap.size) by have:=HZ.o;have:=H6.o.2.2.2.2.2.2;omega) (H6.o.2.2.2.1 j hjp);obtain ⟨i0,pY⟩:=ao (pq[j]);have hw:=ST eJ;rw[fN hjp,<-pY]at hw;rw[<-pY]at ci;have en:=ug.len;obtain ⟨m0,el⟩:=ao l.length;rw[<-el]at en PG;rw[<-el];have yQ:(j:Int)<(n2:Int):=by omega
    simp only at Ex;have yo:=(bj.same _ (by have:=HZ.o;omega) (by have:=HZ.o;omega)).trans H6.o.2.2.1;have Zr:Below w.heap.size w wr:=Below.kp1 H6.o.1 bj (by have:=HZ.o;omega)
    by_cases hi:i0<m0
    ·have SE:i0<l.length:=by omega
     have hii:(i0:Int)<(m0:Int):=by omega
     have zcM:¬((m0:Int)<=(i0:Int)):=by omega
     obtain ⟨bt,zeJ,⟨uv,un,ua,ul,uc⟩,rfl,ja,hu,d0,d1,d2⟩:=PG.get SE;have hf:=ug.mem (az SE);obtain ⟨y,hy⟩:=ao (l[i0]);rw[<-hy]at hu hf;have hyy:l[i0]?=some y:=by rw[hy];exact gy SE
     obtain ⟨xv,xn,xa⟩:=y;obtain ⟨s1,h2,fL⟩:=aV.1 hu;exact pm113
    ·have hge:(m0:Int)<=(i0:Int):=by omega
     have hng:¬((i0:Int)<(m0:Int)):=by omega
     have HE:=ab (show R=none by rw[IR.o.1,hw,JP (List.getElem?_eq_none (by omega))]);obtain ⟨f0,f1,f2,y0,y1,y2⟩:=fX yo;have FI:=aC yo Zr;clear ST cb yo bj ug PG Ex el pY hjp Zr hw en;go_wp2;obtain ⟨W7,LC,x7,k7,g0,g1,g2⟩:=ui FI.o.1 (.bool false) (.string ⟨#[]⟩) (.slice none 0 0);rw[<-LC];refine bI (v:=.tuple #[TQ.val ⟨false,⟨#[]⟩,none,0,0⟩,.bool false]) (by simp[TQ.val,results,Tryz.results98,go_sem,g0,g1,g2]) rfl ⟨⟨⟨false,⟨#[]⟩,none,0,0⟩,by rw[HE.o];rfl,fun u hu=>by rw[HE.o]at hu;cases hu⟩,Below.kp1 FI.o.2 k7 (by omega)⟩
   ·obtain rfl:j=n2:=by omega
    have nj:0<j:=by rw[HN.o.2.1];exact ie.2 HN.o.2.2
    obtain ⟨pT,ky,UU⟩:=cb nj;have UU:=UU rfl;simp only at Ex;obtain ⟨wq,LD⟩:=ao wr;subst LD;have hzq:=bj.size;have hzo:=HZ.o.2.2.1;have Zq:=HZ.o.2.2.2;have PH:=HZ.o.2.1;have pN:=HZ.o.1;have yo:=(bj.same _ (by omega) (by omega)).trans H6.o.2.2.1;have Zr:Below w.heap.size w wq:=Below.kp1 H6.o.1 bj (by omega);have UW:=zaN.o.1.held (W':=wq) (fun b _ hlt=>(bj.same b (by omega) (by omega)).trans (Oo.o.block b hlt));have Pf:R=if (aN t).any ins.contains then none else some t:=by rw[IR.o.1,UU]
    have CF:=lK t ky _ wq ⟨tv,tn,ta,tl,tc⟩ pT;simp only[TQ.val]at CF;obtain ⟨ns,Es⟩:=ao (cm (aN t));rw[<-Es]at CF;have lG:ns.length<=2000000:=by rw[Es];have:=eO (aN t);have:=mo t;have:=ky.1;omega
    obtain ⟨n3,hn3⟩:=ao ns.length;have zeK:n3<=2000000:=by omega
    obtain ⟨s0,s1,s2,y0,y1,y2⟩:=fX Ex;have FL:=ab CF;have HQ:=fA yo Zr UW pT Ex;have HRf:=aC Pf Es;have HN3:=ab hn3;have HZ7:=fA hzq hzo Zq PH pN;clear ST cb bj Ex PG ug nj pT ky UU yo Zr UW Pf CF Es lG hn3 hzq hzo Zq PH pN;go_wp2_with (go_at_call 166;refine FL.o.mono ?_;rintro e w7 ⟨⟨v7,rfl,M4⟩,fD⟩;obtain ⟨a7,cc7,rfl⟩:=M4.strs.slice;rw[<-HN3.o]at M4 ⊢;have H7:=aC M4 fD;clear M4 fD);clear s0 s1 s2 y0 y1 y2;go_loopw [73] (fun i wr=>∃j3:Nat,j3<=n3/\i=.int .i64 j3/\wr=w7/\∀ y∈ns.take j3,ins.contains y=false) (fun i _=>n3 - (intOf i).toNat)
    case atStart=>exact ⟨0,bc _,rfl,rfl,by simp⟩
    case round=>
     obtain ⟨j3,pZ,rfl,rfl,fZ⟩:=hrel
     by_cases JR:j3<n3
     ·have Zs:=ct HN3.o JR;obtain ⟨b7,zeL,rfl,_,ci⟩:=H7.o.1.strs.get Zs;obtain ⟨nm,dK⟩:=ao (ns[j3]);rw[<-dK]at ci;have CT:=fk ins.reverse (by have:=zaN.o.2;simp;omega) nm _ wr u10 (HQ.o.2.2.1.later H7.o.2).strs;have Zt:ins.reverse.contains nm=ins.contains nm:=by rw[gA,List.contains_iff_mem,List.contains_iff_mem,List.mem_reverse]
      rw[Zt]at CT;have yQ:(j3:Int)<(n3:Int):=by omega
      have yo:=bT H7.o.2 HQ.o.1
      cases hc:ins.contains nm with
      | true=>
       rw[hc]at CT;have Gz:=ab CT;have HE:=ab (show R=none by rw[HRf.o.1,aX (List.any_eq_true.2 ⟨nm,(dL nm _).1 (by rw[<-HRf.o.2,dK];exact az Zs),hc⟩)]);obtain ⟨f0,f1,f2,y0,y1,y2⟩:=fX yo;have FI:=aC yo (HQ.o.2.1.tr H7.o.2);have pp240:=();exact pm240
      | false=>
       rw[hc]at CT;have Gz:=ab CT;have zF:=ab (show ∀ y∈ns.take (j3+1),ins.contains y=false by
        intro y hy;rw[List.take_add_one,gy Zs,<-dK]at hy;rcases List.mem_append.1 hy with h | h
        ·exact fZ y h
        ·obtain rfl:y=nm:=by simpa using h
         exact hc)
       exact pm240
     ·obtain rfl:j3=n3:=by omega
      rw[HN3.o,cO]at fZ;have HE:=ab (show R=some t by
       rw[HRf.o.1,aD];intro h;obtain ⟨y,hy,hc⟩:=List.any_eq_true.1 h;have:=fZ y (by rw[HRf.o.2];exact (dL y _).2 hy);rw[this]at hc;cases hc)
      have yo:=bT H7.o.2 HQ.o.1;have xtw:=bT H7.o.2 HQ.o.2.2.2.2;obtain ⟨f0,f1,f2,y0,y1,y2⟩:=fX yo;obtain ⟨t0,t1,t2,_,_,_⟩:=fX xtw;have pT:=(HQ.o.2.2.2.1.later H7.o.2);have FI:=bE yo (HQ.o.2.1.tr H7.o.2) pT;clear yo xtw fZ pT;go_wp2;obtain ⟨W8,lQ,x8,k8,g0,g1,g2⟩:=ui FI.o.1 (.bool tv) (.string tn) (.slice ta tl tc);rw[<-lQ];refine bI (v:=.tuple #[TQ.val ⟨tv,tn,ta,tl,tc⟩,.bool true]) (by simp[TQ.val,results,Tryz.results98,go_sem,g0,g1,g2]) rfl ⟨⟨⟨tv,tn,ta,tl,tc⟩,by rw[HE.o];rfl,fun u hu=>by rw[HE.o]at hu;cases hu;exact FI.o.2.2.move (fun b hb hlt=>⟨⟨hb.1,hb.2.2⟩,k8.same b hlt (by omega)⟩)⟩,Below.kp1 FI.o.2.1 k8 (by omega)⟩
 |clear pp32e;obtain rfl:=gI.len;obtain rfl:=lh.len;have lq:=iu _ hs;simp only[kT,ae,bw]at lq;obtain ⟨n1,dT⟩:=ao a.length;obtain ⟨m1,jh⟩:=ao ss.length;rw[<-dT]at hq gI;rw[<-jh]at hq;rw[<-dT,<-jh];obtain ⟨R,hR⟩:=ao (eV k (.mk so n a ss));have hE:=hR;rw[Ng]at hE;rw[<-hR];have Bm:nodesTs a<=400:=by simp only[nodesF]at ry;omega
  have FH:∀ t∈a,fitT t:=fun t ht=>⟨by have:=f8 ht;omega,jW (by omega) t (e_.1 lq.2.2.1 t ht)⟩
  have lG:=lq.2.1;obtain ⟨W2,bl⟩:=ao ((w.alloc (.cells #[.int .u8 so,.string ⟨n.toArray⟩,.slice sa n1 sc,.slice sb m1 se,.int .u8 fo,.string fn,.slice fa fl fc,.slice fb fm fe,.slice ca cl cc] 89)).alloc (.cells #[.int .u8 so,.string ⟨n.toArray⟩,.slice sa n1 sc,.slice sb m1 se] 36));have bF:=lB bl;have x2:=jC bl;have eX:=dV.later bF;have FJ:=hq.later bF;have GY:=gI.later bF;obtain ⟨HE,gF⟩:=aZ hE bl;have H2:=bE bF x2 eX;have HQ:=fA FJ GY hs FH lq;have P':a.length<=2000000:=by have:=io a;omega
  have HAl:=ab P';clear hE hR hq gI lh hs FH lq bl bF x2 eX dV FJ GY dT jh Bm P' ry;simp only[PlQ.val,PlQ.cells]
  by_cases gW:so=16
  ·subst gW;have hE:=HE.o;rw[aD (by decide)]at hE;have pp70:=();exact pm70
  by_cases kt:so=15
  ·subst kt;have hE:=HE.o;rw[aD (by decide)]at hE;exact pm63
  ·have iv:(so == 16)=false:=by simp[gW]
   have J3:(so == 15)=false:=by simp[kt]
   have V8:(so != 16)=true:=by simp[gW]
   have zcW:(so != 15)=true:=by simp[kt]
   have hE:=HE.o;rw[aX (by simp[V8,zcW])]at hE;obtain ⟨B,hB⟩:=ao (a.any (f_ k.ts));rw[<-hB]at hE;have CA:=si (f_ k.ts) a HAl.o kb W2 (fun t ht=>Cg W2 _ _ _ kb mF mT nF nT k H2.o.2.2 t (HQ.o.2.2.2.1 t ht)) _ W2 sa n1 sc (ak _ _) HQ.o.2.1;rw[<-hB]at CA;obtain ⟨EO,rA⟩:=aZ CA hE;clear hE CA hB;go_enter Tryz.func124,Tryz.ntmps124;go_upto_region 2 with fail;rw[<-gF.o];obtain ⟨e0,e1,e2,e3,_,_,_,_⟩:=dh H2.o.2.1;go_wp2_with (go_at_call 192;refine EO.o.mono ?_;rintro e w4 ⟨rfl,aP⟩;have H4:=ab aP;clear aP);go_ret;exact ⟨by rw[rA.o];rfl,H2.o.1.tr H4.o⟩
 |clear pp32f;obtain rfl:=gI.len;obtain rfl:=lh.len;have lq:=iu _ hs;simp only[kT,ae,bw]at lq;obtain ⟨n1,dT⟩:=ao a.length;obtain ⟨m1,jh⟩:=ao ss.length;rw[<-dT]at hq gI;rw[<-jh]at hq;rw[<-dT,<-jh];obtain ⟨R,hR⟩:=ao (jF k (.mk so n a ss));have hE:=hR;rw[G0]at hE;rw[<-hR];have Bm:nodesTs a<=400:=by simp only[nodesF]at ry;omega
  have FH:fitTs a:=⟨by omega,dS (by omega) a lq.2.2.1⟩;have lG:n.length<=2000000:=by have:=lq.2.1;omega
  obtain ⟨W2,bl⟩:=ao ((w.alloc (.cells #[.int .u8 so,.string ⟨n.toArray⟩,.slice sa n1 sc,.slice sb m1 se,.int .u8 fo,.string fn,.slice fa fl fc,.slice fb fm fe,.slice ca cl cc] 89)).alloc (.cells #[.int .u8 so,.string ⟨n.toArray⟩,.slice sa n1 sc,.slice sb m1 se] 36));have bF:=lB bl;have x2:=jC bl;have eX:=dV.later bF;obtain ⟨HE,gF⟩:=aZ hE bl;have H2:=bE bF x2 eX;have HQ:=fA (hq.later bF) (gI.later bF) hs FH lq;have HN:=ab dT;have MY:n1<=2000000:=by have:=io a;omega
  have PQ:=ab Bm;clear hE hR hq gI lh hs FH lq bl bF x2 eX dV dT jh Bm ry;simp only[PlQ.val,PlQ.cells];have jH:=eU;obtain ⟨e0,e1,e2,e3,_,_,_,_⟩:=dh H2.o.2.1;obtain ⟨⟨g0,g1,g2,g3,g4,g5,g6,g7⟩,oZ,G1,Et,_,_,vE⟩:=H2.o.2.2.formOf (x:=n) lG;simp only[FQ.val]at vE;obtain ⟨f,hf⟩:=ao (formOf k.fs n);rw[<-hf]at oZ G1 Et;have hE:=HE.o;rw[<-hf]at hE;have pS:=H2.o.2.2.fs.lt;have uI:=bE oZ G1 Et;clear oZ hf
  by_cases kt:so=15
  ·subst kt;rw[aX rfl]at hE;obtain ⟨m,hm⟩:=ao (nodesF f);rw[<-hm]at hE;have pp68:=();exact pm68
  rw[aD kt]at hE;have J3:(so == 15)=false:=by simp[kt]
  by_cases gW:so=16
  ·subst gW;rw[aX rfl]at hE;exact pm70
  rw[aD gW]at hE;have iv:(so == 16)=false:=by simp[gW]
  have rA:=ab hE;have GY:=HQ.o.2.1;have Xj:=ab GY;clear hE G1 Et vE pS GY;go_enter Tryz.func126,Tryz.ntmps126;go_upto_region 2 with fail;rw[<-gF.o];go_wp2_with fail;clear e0 e1 e2 e3;go_loopw [10,64] (fun r i wr=>∃j:Nat,j<=n1/\i=.int .i64 j/\r=.int .i64 ((dQ k.ts (a.take j)+1:Nat):Int)/\Below W2.heap.size W2 wr) (fun _ i _=>n1 - (intOf i).toNat)
  case atStart=>exact ⟨0,bc _,rfl,by simp[dQ],ak _ _⟩
  case round=>
   obtain ⟨j,hj,rfl,rfl,ar⟩:=hrel
   by_cases hlt:j<n1
   ·have ic:=ct HN.o hlt;have pp198a:=();exact pm198
   ·obtain rfl:n1=j:=by omega
    have cb:a.take n1=a:=by rw[HN.o];exact cO
    rw[cb];have HK:=ab (H2.o.1.tr ar);clear ar cb;go_wp2;go_ret;exact ⟨by rw[rA.o];rfl,HK.o⟩
 |clear pp32g;obtain rfl:=gI.len;obtain rfl:=lh.len;have lq:=iu _ hs;simp only[kT,ae,bw]at lq;obtain ⟨n1,dT⟩:=ao a.length;obtain ⟨m1,jh⟩:=ao ss.length;rw[<-dT]at hq gI;rw[<-jh]at hq;rw[<-dT,<-jh];obtain ⟨R,hR⟩:=ao (m_ k (.mk so n a ss));have hE:=hR;rw[wu]at hE;rw[<-hR];have Bm:nodesTs a<=400:=by simp only[nodesF]at ry;omega
  have FH:fitTs a:=⟨by omega,dS (by omega) a lq.2.2.1⟩;have lG:n.length<=2000000:=by have:=lq.2.1;omega
  obtain ⟨W2,bl⟩:=ao ((w.alloc (.cells #[.int .u8 so,.string ⟨n.toArray⟩,.slice sa n1 sc,.slice sb m1 se,.int .u8 fo,.string fn,.slice fa fl fc,.slice fb fm fe,.slice ca cl cc] 89)).alloc (.cells #[.int .u8 so,.string ⟨n.toArray⟩,.slice sa n1 sc,.slice sb m1 se] 36));have bF:=lB bl;have x2:=jC bl;have eX:=dV.later bF;obtain ⟨HE,gF⟩:=aZ hE bl;have H2:=bE bF x2 eX;have HQ:=fA (hq.later bF) (gI.later bF) hs FH lq;have HN:=ab dT;have MY:n1<=2000000:=by have:=io a;omega
  have PQ:=ab Bm;clear hE hR hq gI lh hs FH lq bl bF x2 eX dV dT jh Bm ry;simp only[PlQ.val,PlQ.cells];have jH:=eU;obtain ⟨e0,e1,e2,e3,_,_,_,_⟩:=dh H2.o.2.1;obtain ⟨⟨g0,g1,g2,g3,g4,g5,g6,g7⟩,oZ,G1,Et,_,_,vE⟩:=H2.o.2.2.formOf (x:=n) lG;simp only[FQ.val]at vE;obtain ⟨f,hf⟩:=ao (formOf k.fs n);rw[<-hf]at oZ G1 Et;have hE:=HE.o;rw[<-hf]at hE;have pS:=H2.o.2.2.fs.lt;have uI:=bE oZ G1 Et;clear oZ hf
  by_cases kt:so=15
  ·subst kt;rw[aX rfl]at hE;have pp221:=();exact pm221
  rw[aD kt]at hE;have J3:(so == 15)=false:=by simp[kt]
  by_cases gW:so=16
  ·subst gW;rw[aX rfl]at hE;have pp282:=();exact pm282
  rw[aD gW]at hE;have iv:(so == 16)=false:=by simp[gW]
  have rA:=ab hE;have GY:=HQ.o.2.1;have Xj:=ab GY;clear hE G1 Et vE pS GY;go_enter Tryz.func195,Tryz.ntmps195;go_upto_region 2 with fail;rw[<-gF.o];go_wp2_with fail;clear e0 e1 e2 e3;go_loopw [9,64] (fun r i wr=>∃j:Nat,j<=n1/\i=.int .i64 j/\OwnS W2.heap.size wr r (dE k.ts (a.take j))/\Below W2.heap.size W2 wr) (fun _ i _=>n1 - (intOf i).toNat)
  case atStart=>exact ⟨0,bc _,rfl,OwnS.nil _ _,ak _ _⟩
  case round=>
   obtain ⟨j,hj,rfl,dp,ar⟩:=hrel
   by_cases hlt:j<n1
   ·have ic:=ct HN.o hlt;have pp198b:=();exact pm198
   ·obtain rfl:n1=j:=by omega
    have cb:a.take n1=a:=by rw[HN.o];exact cO
    rw[cb]at dp;have HK:=aC (H2.o.1.tr ar) (dp.base H2.o.1.size);clear ar dp cb;go_wp2;go_ret;exact ⟨⟨_,rfl,by rw[rA.o];exact HK.o.2⟩,HK.o.1⟩
 |clear pp32h;obtain rfl:=gI.len;obtain rfl:=lh.len;subst he;obtain ⟨R,hR⟩:=ao (kP k ⟨.mk so n a s,F,ps.reverse⟩);rw[<-hR];have qI:=hR;rw[Qs]at qI;obtain ⟨n1,dT⟩:=ao a.length;obtain ⟨m1,jh⟩:=ao s.length;rw[<-dT]at hs gI;rw[<-jh]at hs lh;rw[<-dT,<-jh];obtain ⟨W1,bR⟩:=ao (W.alloc (.cells #[.int .u8 so,.string ⟨n.toArray⟩,.slice sa n1 sc,.slice sb m1 se,.int .u8 fo,.string fn,.slice fa fl fc,.slice fb fm fe,.slice ca cl cc] 89));have hb1:=cX bR;have iq:=DY bR;have x1:=bX bR;have lq:=iu _ hp.s;simp only[kT,ae,bw]at lq;have qh:=iu _ hp.f;have aA:fitF F:=⟨by have:=hp.n;simp only at this;omega,jX (by omega) _ qh⟩;obtain ⟨P0,P1,P2,P3,P4,P5,P6,P7⟩:=BA x1;have P8:=ah x1 8
  by_cases gW:so=16
  ·subst gW;obtain ⟨x,y,fL,IU,ES,aO⟩:=oQ hp rfl;simp only[Fm.a]at fL;simp only at aO;obtain ⟨dc,xy⟩:=ao (cM x);rw[aO,<-xy]at qI;rw[aD (by decide)]at qI;simp only at qI;have GZ:=gp ES;have Ou:dc.length<=17:=by rw[xy];have:=iO IU;simp[cM];omega
   have td:=dV.later hb1;have FM:=fun (V:World) (h:Below W1.heap.size W1 V)=>fv (.mk 16 n a s) (by simp[Fm.a,fL]) (by simp[Fm.a,fL]) (fun t ht=>by
    have h2:=e_.1 lq.2.2.1 t (by simpa[Fm.a] using ht);obtain ⟨tv,tn,ta⟩:=t;simp only[jN,ae,bw]at h2;have:=h2.1;simp only;omega) _ V ⟨16,⟨n.toArray⟩,sa,n1,sc,sb,m1,se⟩ ((hs.later hb1).later h)
   simp only[FQ.val]at FM;rw[aO,<-xy]at FM;obtain ⟨HIN,HR,HP⟩:=cD FM qI hp;have HG:=fA R5 R4 R6 Xa Xb;have HV:=cC hf hc td (z6.next hb1);have HB:=cC rP qw hl iF;have iW:=ab bR;have H1:=bE hb1 iq x1;have HF:=fA aA lq.2.1 GZ Ou ES;have g0:W1.cell? ⟨kb,0,none⟩=some (.map (some mF)):=ah td.box 0;have g1:W1.drew.cell? ⟨kb,0,none⟩=some (.map (some mF)):=ah td.box 0;have g3:W1.drew.cell? ⟨W.heap.size,1,none⟩=some (.string ⟨n.toArray⟩):=P1;have om:Below W1.heap.size W1 (W1.alloc (.cells #[.int .u8 0,.string ⟨#[]⟩,.slice none 0 0,.slice none 0 0] 36)):=cQ;obtain ⟨g4,g5⟩:=yR om g0 P1;rcases td.fs.look Tryz.underlying9 Tryz.underlying145 l9 (x:=n) (by have:=lq.2.1;omega) with ⟨hg,hlk⟩ | ⟨f,vf,hg,hvf,hlk⟩
   ·have l1:=(hlk W1.drew rfl).1;have pp196:=();exact pm196
   ·obtain ⟨⟨EG,EH,EI,EJ,EK,EL,EM,EN⟩,rfl,oZ,GW⟩:=hvf;simp only[FQ.val]at hlk;have l1:=(hlk W1.drew rfl).1;exact pm196
  ·have HE:=ab (show R=(k,0) by rw[qI,aX (by simp[gW])]);have cK:(so == 16)=false:=by simp[gW]
   have iW:=ab bR;have PV:=aC hb1 (dV.later hb1);clear qI hR hp R5 R4 R6 Xa Xb hs hf gI lh hc dV dT jh rP qw hl iF bR hb1 iq aA lq qh z6 ry x1;exact pm146
 |clear pp32i;obtain rfl:=gI.len;obtain rfl:=lh.len;have lq:=Ah (iu _ hs);obtain ⟨n1,dT⟩:=ao a.length;obtain ⟨m1,jh⟩:=ao ss.length;rw[<-dT]at hq gI;rw[<-jh]at hq lh;rw[<-dT,<-jh];have jf:=dV.later cK;have lG:n.length<=2000000:=by have:=lq.2.1;omega
  obtain ⟨W2,bl⟩:=ao ((w.alloc (.cells #[.int .u8 15,.string ⟨n.toArray⟩,.slice sa n1 sc,.slice sb m1 se] 36)).alloc (.cells #[.int .u8 0,.string ⟨#[]⟩,.slice none 0 0,.slice none 0 0] 36));have bF:=lB bl;have gV:=xV bl;have x1:=rV bl;have x2:=jC bl;have eX:=jf.later bF;have jH:=eU;obtain ⟨RS,Eo⟩:=ao (cH kd c (.mk 15 n a ss));rw[<-Eo];obtain ⟨⟨g0,g1,g2,g3,g4,g5,g6,g7⟩,oZ,G1,Et,SN,SO,vE⟩:=eX.formOf (x:=n) lG;simp only[FQ.val]at vE;obtain ⟨f,hf⟩:=ao (formOf kd.fs n);rw[<-hf]at oZ G1 Et SN SO;obtain ⟨S,hS⟩:∃S:World->Prop,S=fun V=>Below W2.heap.size W2 V:=⟨_,rfl⟩;have ff:∀ V,S V->V.cell? ⟨kb,0,none⟩=some (.map (some mF))/\V.cell? ⟨w.heap.size,1,none⟩=some (.string ⟨n.toArray⟩)/\(Instr.lookup 145 (.map (some mF)) (.string ⟨n.toArray⟩) false).run Tryz.prog V=.ok (.agg #[.int .u8 g0,.string g1,.slice g2 g3 g4,.slice g5 g6 g7]) V:=fun V h=>by
   rw[hS]at h;exact ⟨aa h (ah eX.box 0),aa h (ah x1 1),vE V (h.block _ eX.fs.lt)⟩
  have dW:S W2.drew:=by rw[hS];exact (ak _ _).drew
  have hR:RS=f:=by rw[Eo,hf];simp only[cH,if_true]
  have kV:=ab (fun (V:World) (h:Below W2.heap.size W2 V)=>oe f G1 _ V ⟨g0,g1,g2,g3,g4,g5,g6,g7⟩ (oZ.later h));have HB:=fA bF gV x1 x2 hR;obtain ⟨gF,du⟩:=aZ bl hS;simp only[FQ.val]at kV ⊢;clear hS bF gV x1 x2 hR bl Eo hf oZ G1 Et SN SO vE eX jf hq gI lh hL Ta Qg dT jh cK lq lG hs;go_enter Tryz.func72,Tryz.ntmps72;go_upto_region 1 with fail;rw[<-gF.o];have e0:=ah HB.o.2.2.1 0;go_upto_region 3 with fail;clear e0;refine (wpIn_wide (n:=3)).1 ?_;refine lV S 8 dW fun jO bW=>?_;refine bL 0 21 (.pointer (some ⟨kb,0,none⟩)) rfl bW fun QU=>?_;simp only[ag];refine bL 1 22 (.pointer (some ⟨kb,0,none⟩)) rfl QU fun QV=>?_;simp only[ag];refine bL 2 23 (.pointer (some ⟨kb,0,none⟩)) rfl QV fun Kl=>?_;simp only[ag];refine dm 3 24 (.map (some mF)) rfl (fun V hX=>by obtain ⟨h0,h1,h2⟩:=ff V hX;go_simp) Kl fun QW=>?_;simp only[ag];refine bL 4 25 (.pointer (some ⟨w.heap.size,1,none⟩)) rfl QW fun Yc=>?_;simp only[ag];refine dm 5 26 (.string ⟨n.toArray⟩) rfl (fun V hX=>by obtain ⟨h0,h1,h2⟩:=ff V hX;go_simp) Yc fun hT5=>?_;simp only[ag];refine dm 6 27 (.agg #[.int .u8 g0,.string g1,.slice g2 g3 g4,.slice g5 g6 g7]) rfl (fun V hX=>by obtain ⟨h0,h1,h2⟩:=ff V hX;go_simp) hT5 fun hT6=>?_;simp only[ag];refine ce 7 rfl fun K hK=>?_;go_simp;refine aL.2 ((kV.o _ (by have h:=bW;rw[du.o]at h;exact h)).mono ?_);rintro e w7 ⟨⟨p0,p1,p2,p3,p4,p5,p6,p7⟩,rfl,hp,fD⟩;have H7:=ab (((ak W2.heap.size W2).drew).trans fD);have HP7:=ab hp;have x7:=bT H7.o HB.o.2.2.2.1;have Kn:=ab x7;obtain ⟨e0,e1,e2,e3,z0,z1,z2,z3⟩:=dh x7;refine hK _ _ (fun _=>by rw[du.o];exact H7.o) (fun _=>?_);clear hK K fD x7 hp;refine ce 8 rfl fun K hK=>?_;go_simp;refine eS hK ?_;clear hK K;refine le ?_;go_wp2;have x6:=lm (v0:=.int .u8 p0) (v1:=.string p1) (v2:=.slice p2 p3 p4) (v3:=.slice p5 p6 p7) Kn.o;have k6:=dI (W:=w7) (b:=w.heap.size+1) (v0:=.int .u8 p0) (v1:=.string p1) (v2:=.slice p2 p3 p4) (v3:=.slice p5 p6 p7);obtain ⟨W6,cP⟩:=ao ((((w7.setCell ⟨w.heap.size+1,0,none⟩ (.int .u8 p0)).setCell ⟨w.heap.size+1,1,none⟩ (.string p1)).setCell ⟨w.heap.size+1,2,none⟩ (.slice p2 p3 p4)).setCell ⟨w.heap.size+1,3,none⟩ (.slice p5 p6 p7));rw[<-cP]at x6 k6 ⊢;clear cP;have g0:W6.cell? ⟨w.heap.size+1,0,none⟩=some (.int .u8 p0):=ah x6 0;have g1:W6.cell? ⟨w.heap.size+1,1,none⟩=some (.string p1):=ah x6 1;have g2:W6.cell? ⟨w.heap.size+1,2,none⟩=some (.slice p2 p3 p4):=ah x6 2;have g3:W6.cell? ⟨w.heap.size+1,3,none⟩=some (.slice p5 p6 p7):=ah x6 3;have uQ:=E8 (p:=⟨p0,p1,p2,p3,p4,p5,p6,p7⟩) (B:=w.heap.size+1) (HB.o.1.tr H7.o) (by omega) k6 (HP7.o.move (fun b hok _=>⟨by have:=HB.o.2.1;have h:W2.heap.size<=b:=hok;omega,rfl⟩));refine bI (v:=FQ.val ⟨p0,p1,p2,p3,p4,p5,p6,p7⟩) (by simp[FQ.val,results,Tryz.results72,go_sem,g0,g1,g2,g3]) rfl ⟨⟨⟨p0,p1,p2,p3,p4,p5,p6,p7⟩,rfl,?_⟩,uQ.2⟩;rw[HB.o.2.2.2.2];exact uQ.1
 |clear pp32j;obtain rfl:=gI.len;obtain rfl:=lh.len;have lq:=Ah (iu _ hs);obtain ⟨n1,dT⟩:=ao a.length;obtain ⟨m1,jh⟩:=ao ss.length;rw[<-dT]at hq gI;rw[<-jh]at hq lh;rw[<-dT,<-jh];have jf:=dV.later cK;have lG:n.length<=2000000:=by have:=lq.2.1;omega
  obtain ⟨W2,bl⟩:=ao ((w.alloc (.cells #[.int .u8 16,.string ⟨n.toArray⟩,.slice sa n1 sc,.slice sb m1 se] 36)).alloc (.cells #[.int .u8 0,.string ⟨#[]⟩,.slice none 0 0,.slice none 0 0] 36));have bF:=lB bl;have gV:=xV bl;have x1:=rV bl;have x2:=jC bl;have eX:=jf.later bF;have jH:=eU;obtain ⟨RS,Eo⟩:=ao (cH kd c (.mk 16 n a ss));rw[<-Eo];obtain ⟨⟨g0,g1,g2,g3,g4,g5,g6,g7⟩,oZ,G1,Et,SN,SO,vE⟩:=eX.formOf (x:=n) lG;simp only[FQ.val]at vE;obtain ⟨f,hf⟩:=ao (formOf kd.fs n);rw[<-hf]at oZ G1 Et SN SO;obtain ⟨x,y,fL,IU,ES,aO⟩:=jL hs;obtain ⟨dc,xy⟩:=ao (cM x);have hR:RS=if iC dc f=0 then f else iD dc (termOf kd.ts y) f:=by rw[Eo,hf,xy,fL,wA];rfl
  rw[<-xy]at aO;have GZ:=gp ES;have Ou:dc.length<=17:=by rw[xy];have:=iO IU;simp[cM];omega
  have FM:=fv (.mk 16 n a ss) (by simp[Fm.a,fL]) (by simp[Fm.a,fL]) (fun t ht=>by
   have h2:=e_.1 lq.2.2.1 t (by simpa[Fm.a] using ht);obtain ⟨tv,tn,ta⟩:=t;simp only[jN,ae,bw]at h2;have:=h2.1;simp only;omega) _ W2 ⟨16,⟨n.toArray⟩,sa,n1,sc,sb,m1,se⟩ (hq.later bF)
  simp only[FQ.val,aO]at FM;obtain ⟨n0,ud⟩:=ao (iC dc f);rw[<-ud]at hR;have IN:n0<=400:=by have:=o6 dc f;omega
  have HB:=fA bF gV x1 x2 hR;have uI:=fA oZ G1 Et SN SO;obtain ⟨HGl,IT,gF,HIN⟩:=eR vE eX bl FM;have HY:=bE GZ Ou IN;have HN0:=ab ud;have Pz:=ab (fw.next (cK.tr bF));clear bF gV x1 x2 hR oZ G1 Et SN SO vE eX bl FM GZ Ou IN ud Eo hf fL IU ES aO xy jf hq gI lh hL Ta Qg dT jh cK lq lG hs;simp only[FQ.val];obtain ⟨c0,c1,c2,c3⟩:=mi HB.o.2.2.1;go_enter Tryz.func72,Tryz.ntmps72;go_upto_region 1 with fail;rw[<-gF.o];go_upto_region 6 with (go_at_call 96;refine HIN.o.mono ?_;rintro e w4 ⟨rfl,aP⟩;have H4:=ab aP;clear aP);clear c0 c1 c2 c3;have aJ:Below w4.heap.size w4 (w4.alloc (.cells #[.int .u8 0,.string ⟨#[]⟩,.slice none 0 0,.slice none 0 0] 36)):=cQ;have oX:=IT.o.later H4.o;have k0:w4.cell? ⟨kb,0,none⟩=some (.map (some mF)):=ah oX.box 0;have k1:w4.drew.cell? ⟨kb,0,none⟩=some (.map (some mF)):=k0;have x14:=bT H4.o HB.o.2.2.1;have e1:=ah x14 1;have k3:w4.drew.cell? ⟨w.heap.size,1,none⟩=some (.string ⟨n.toArray⟩):=e1;obtain ⟨k4,k5⟩:=yR aJ k0 e1;have pS:=oX.fs.lt;have l1:=HGl.o w4.drew (H4.o.block _ IT.o.fs.lt);have l2:=HGl.o (w4.alloc (.cells #[.int .u8 0,.string ⟨#[]⟩,.slice none 0 0,.slice none 0 0] 36)).drew ((bK _ _ _ pS).trans (H4.o.block _ IT.o.fs.lt));obtain ⟨W3,ec⟩:=ao (w4.alloc (.cells #[.int .u8 g0,.string g1,.slice g2 g3 g4,.slice g5 g6 g7] 36)).drew;have Yd:Below w4.heap.size w4 W3:=by rw[ec];exact cQ.drew
  have y3:W3.heap[w4.heap.size]?=some (.cells #[.int .u8 g0,.string g1,.slice g2 g3 g4,.slice g5 g6 g7] 36 (0,0)):=by rw[ec];exact aj rfl
  have H3:=bE (H4.o.tr Yd) y3 (IT.o.later (H4.o.tr Yd));clear aJ oX x14 e1 pS Yd y3;go_region
  all_goals
   rw[<-ec];clear ec l1 l2 k0 k1 k3 k4 k5;have Ni:=ab (fun (V:World) (h:Below W3.heap.size W3 V)=>jv dc f uI.o.2.1 _ V ⟨g0,g1,g2,g3,g4,g5,g6,g7⟩ ((uI.o.1.later H3.o.1).later h));have kV:=ab (fun (V:World) (h:Below W3.heap.size W3 V)=>oe f uI.o.2.1 _ V ⟨g0,g1,g2,g3,g4,g5,g6,g7⟩ ((uI.o.1.later H3.o.1).later h));simp only[FQ.val,<-HN0.o]at Ni kV;obtain ⟨j0,j1,j2,j3,_,_,_,_⟩:=dh H3.o.2.1;have ZC:=ab (Ni.o W3 (ak _ _))
   by_cases h0:n0=0
   ·have pF:((n0:Int) == 0)=true:=by simp;omega
    have pp149:=();exact pm149
   ·have pF:((n0:Int) == 0)=false:=by simp;omega
    have iq:¬((n0:Int)=0):=by omega
    have gV:decide ((n0:Int)=0)=false:=by simp;omega
    exact pm149
 |clear pp32k;obtain rfl:=gI.len;obtain rfl:=lh.len;have lq:=Ah (iu _ hs);obtain ⟨n1,dT⟩:=ao a.length;obtain ⟨m1,jh⟩:=ao ss.length;rw[<-dT]at hq gI;rw[<-jh]at hq lh;rw[<-dT,<-jh];have jf:=dV.later cK;have lG:n.length<=2000000:=by have:=lq.2.1;omega
  obtain ⟨Wa,ZV⟩:=ao ((w.alloc (.cells #[.int .u8 so,.string ⟨n.toArray⟩,.slice sa n1 sc,.slice sb m1 se] 36)).alloc (.cells #[.int .u8 0,.string ⟨#[]⟩,.slice none 0 0,.slice none 0 0] 36));have bF:=lB ZV;have gV:=xV ZV;have x1:=rV ZV;have x2:=jC ZV;have eX:=jf.later bF;have jH:=eU;obtain ⟨RS,Eo⟩:=ao (cH kd c (.mk so n a ss));rw[<-Eo];have J3:(so == 15)=false:=by simp[kt]
  have iv:(so == 16)=false:=by simp[gW]
  have hfT:∀ t∈a,fitT t:=fun t ht=>⟨by have:=f8 ht;simp only[nodesF]at ry;omega,jW (by omega) t (e_.1 lq.2.2.1 t ht)⟩
  have CF:=ET w nr kb mF mT nF nT kd jf _ vL L c hL.strs (by omega) Qg;have tF:bD so=true->a=[]/\∃g,ss=[g]:=fun h=>(ma hs h).2;have zeT:n1<=400:=by rw[dT];have:=io a;simp only[nodesF]at ry;omega
  have zeU:m1<=400:=by rw[jh];have:=qk ss;simp only[nodesF]at ry;omega
  obtain ⟨W1,bR⟩:=ao (Wa.alloc (.cells #[.int .u8 so,.string ⟨n.toArray⟩,.slice none 0 0,.slice none 0 0] 36));have TL:=cX bR;have y0:=bT TL x1;have y1:=bT TL x2;have y2:W1.heap[w.heap.size+1+1]?=some (.cells #[.int .u8 so,.string ⟨n.toArray⟩,.slice none 0 0,.slice none 0 0] 36 (0,0)):=by rw[bR];exact aj (by rw[gV])
  have Xu:=ab (Fills.start (R:=w.heap.size+1+1) (mk:=fun rr=>#[.int .u8 so,.string ⟨n.toArray⟩,rr,.slice none 0 0]) (Row:=fun r W=>RowT W1.heap.size r ((a.map (bY kd.ts c)).take 0) W) y2 (RowT.nil _ _));have dO:=ab (bF.tr TL);obtain ⟨MA,jI⟩:=aZ y0 y1;have HW:=fA ZV bR gV x1 x2;obtain ⟨ea,fP,HFT,zbf,pR,IS,fd,HQs⟩:=VR gI lh CF hfT dT jh IH tF;have HL:=cC hL Ta Qg cK;have HP:=rK hs ry zbe hsz DJ fS;obtain ⟨R7,UN⟩:=aZ lq Eo;have Pz:=ab (fw.next cK);have HQ0:=ab hq;have DK:=aC kt gW;clear gI lh CF hfT dT jh IH tF hL Ta Qg cK hs ry zbe hsz DJ fS lq Eo fw hq bF gV x1 x2 TL y0 y1 y2 bR ZV eX jf dV lG;simp only[FQ.val];obtain ⟨c0,c1,c2⟩:=lE HW.o.2.2.2.1;rw[HW.o.1]at c0 c1 c2;refine mM Tryz.func72 ?_;simp only[Tryz.ntmps72,Nat.reduceAdd,Nat.reduceSub,li];gi_wp2;rw[<-HW.o.1,<-HW.o.2.1];clear c0 c1 c2;gi_loopw [66] (fun i wr=>∃k1:Nat,k1<=n1/\i=.int .i64 k1/\∃row,Fills 36 (w.heap.size+1+1) W1.heap.size (fun rr=>#[.int .u8 so,.string ⟨n.toArray⟩,rr,.slice none 0 0]) (fun r W=>RowT W1.heap.size r ((a.map (bY kd.ts c)).take k1) W) W1 wr row) (fun i _=>n1 - (intOf i).toNat)
  case atStart=>exact ⟨0,bc _,rfl,_,Xu.o⟩
  case round=>
   obtain ⟨k1,hk,rfl,row,hF⟩:=hrel;obtain ⟨Ep,Pj⟩:∃x,x=wr:=⟨_,rfl⟩;subst Pj;have ar:=hF.below dO.o (by omega)
   by_cases hlt:k1<n1
   ·have dG:=ct pR.o hlt;have pp55g:=();exact pm55
   ·obtain rfl:k1=n1:=by omega
    have cb:((a.map (bY kd.ts c)).take k1).length=k1:=by rw[dX];have:=pR.o;simp;omega
    have j4:(a.map (bY kd.ts c)).take k1=(a.map (bY kd.ts c)):=ii (by have:=pR.o;simp;omega);exact pm115
 |obtain rfl:=gI.len;obtain rfl:=lh.len;have lG:=hf.name;have ZF:=hf.op;have hfs:=hf.subs;have hsl:s.length<=2000000:=hfs.len;obtain ⟨m1,jh⟩:=ao s.length;rw[<-jh]at lh hsl;obtain ⟨W1,bR⟩:=ao (w.alloc (.cells #[.int .u8 qo,.string ⟨n.toArray⟩,.slice qa a.length qc,.slice qb m1 qe] 36));have hb1:=cX bR;have x1:=bX bR;have pS:=hs.lt;have gx:=hs.same (hb1.block m pS);obtain ⟨P,hP⟩:=ao (pre ++ (if ((qo == 15 || qo == 16) && da n)=true then [n] else []));have Z1:P.length<=pre.length+1:=by rw[hP,di];split <;> simp
  have hmt:pre ++ pX (.mk qo n a s)=P ++ js a ++ kw s:=by rw[hP];simp[pX]
  rw[hmt];simp only[FQ.val];rw[<-jh];simp only[nodesF]at cf hN;have CT:=ab (fun (X:World) (hQ:SetW X m P.length P) (hX:Kp (fun b=>b=m) w X)=>wK (nodesTs a) a (aF _) hf.args _ P m X qa qc hQ (gI.move (fun b hb hlt=>⟨hb,hX.same b hlt (hok b hb)⟩)) hok (by omega));have HS:=ab gx;have HM:=ab (ip n W1 (by omega));have HP:=bE hP Z1 cf;have iW:=ab bR;have HB:=bE hb1 x1 pS;obtain ⟨fd,HF,HV,jP⟩:=eR ih hfs lh hok;have HN:=aC jh hN;clear hs gx hq gI lh hok cf hN hf hfs bR hb1 x1 pS hP Z1 hmt ih jh;obtain ⟨e0,e1,e2,e3,_⟩:=dh HB.o.2.1;go_enter Tryz.func73,Tryz.ntmps73;go_upto_region 1 with fail;rw[<-iW.o]
  by_cases hc:((qo == 15 || qo == 16) && da n)=true
  ·have hP:=HP.o.1;rw[aX hc]at hP;obtain ⟨ho,lp⟩:(qo=15\/qo=16)/\da n=true:=by simpa using hc
   exact pm141
  ·have hP:=HP.o.1;rw[aD hc,List.append_nil]at hP;have HQ:=ab hP
   by_cases ho:qo=15\/qo=16
   ·have lp:da n=false:=by
     rcases ho with rfl | rfl <;> simpa using hc
    rw[lp]at HM;clear hP hc lp ZF;rcases ho with rfl | rfl
    all_goals
     go_wp2_with (first | (go_at_call 119;refine HM.o.mono ?_;rintro e w3 ⟨rfl,aJ⟩;have g2:=aa aJ e2;have g3:=aa aJ e3;have iV:=(Kp.below (M:=fun b=>b=m) HB.o.1).trans (Kp.below aJ);have C:=ab (CT.o w3 (by rw[HQ.o];exact HS.o.same (aJ.block m HS.o.lt)) iV);have H4:=ab iV;clear aJ iV) | (go_at_call 132;refine C.o.mono ?_;rintro e w5 ⟨rfl,Dl,mL⟩;have f3:=mL.cell (a:=⟨w.heap.size,3,none⟩) (by have:=HB.o.2.2;show ¬w.heap.size=m;omega) g3;have H5:=aC Dl (H4.o.trans mL);clear Dl mL));go_loopw [29] (fun i wr=>∃j:Nat,j<=m1/\i=.int .i64 j/\SetW wr m (P ++ js a ++ kw (s.take j)).length (P ++ js a ++ kw (s.take j))/\Kp (fun b=>b=m) w wr) (fun i _=>m1 - (intOf i).toNat)
     case atStart=>exact ⟨0,bc _,rfl,by simpa[kw] using H5.o.1,H5.o.2⟩
     case round=>
      exact pm5
   ·have kt:(qo == 15)=false:=by simp;omega
    have gW:(qo == 16)=false:=by simp;omega
    clear hP hc ho ZF;have C:=ab (CT.o W1 (by rw[HQ.o];exact HS.o) (Kp.below HB.o.1));have H4:=ab (Kp.below (M:=fun b=>b=m) HB.o.1);have g3:=e3;go_wp2_with ((go_at_call 132;refine C.o.mono ?_;rintro e w5 ⟨rfl,Dl,mL⟩;have f3:=mL.cell (a:=⟨w.heap.size,3,none⟩) (by have:=HB.o.2.2;show ¬w.heap.size=m;omega) g3;have H5:=aC Dl (H4.o.trans mL);clear Dl mL));go_loopw [29] (fun i wr=>∃j:Nat,j<=m1/\i=.int .i64 j/\SetW wr m (P ++ js a ++ kw (s.take j)).length (P ++ js a ++ kw (s.take j))/\Kp (fun b=>b=m) w wr) (fun i _=>m1 - (intOf i).toNat)
    case atStart=>exact ⟨0,bc _,rfl,by simpa[kw] using H5.o.1,H5.o.2⟩
    case round=>
     exact pm5):G:=h
theorem pm33(h:G:=by
 exact pm123):G:=h
theorem pm34(h:G:=by
 obtain ⟨e0,e1,e2,e3,z0,z1,z2,z3⟩:=dh Tp;obtain ⟨s0,s1,s2,_,_,_⟩:=fX XE;have CP:=uy W0 f dc t yt.o.1.fit (by have:=yt.o.1.nodes;omega) yt.o.1.wf yt.o.1.qone (by have:=HF.o.2.2.2.1;omega) mJ.o.2.2.1.fit (by have:=mJ.o.2.2.1.2;omega) _ _ W9 ⟨EG,EH,EI,EJ,EK,EL,EM,EN⟩ ⟨Qb,Qc,Qd,Qe,Qf⟩ (Nv.o.kp (Al.two HG.o.1 HG.o.2.1) HG.o.2.2.2.1) (mJ.o.2.2.2.2.1.later lO) (mJ.o.2.2.2.2.2.2.later lO);simp only[FQ.val,TQ.val]at CP;have JM:=ab CP;have H9:=cC lO Al Tp XD;obtain ⟨bb,cK⟩:=ao (eB [] (iD dc t f) im);rw[<-cK]at Kj;obtain ⟨Qj,Lx⟩:=aZ Kj cK;clear lO Al Tp XD XE CP Kj cK;go_upto_region 21 with (go_at_call 101;refine JM.o.mono ?_;rintro e w10 ⟨⟨⟨r0,r1,r2,r3,r4,r5,r6,r7⟩,rfl,hr⟩,rT⟩;have Ew:=bT rT H9.o.2.2.1;obtain ⟨y0,y1,y2,y3,v0,v1,v2,v3⟩:=dh Ew;have lx:=bE hr rT Ew;clear hr rT Ew);clear e0 e1 e2 e3 z0 z1 z2 z3 s0 s1 s2 y0 y1 y2 y3 v0 v1 v2 v3;obtain ⟨sj,qU,Tq,EY,y0,y1,y2,y3⟩:=BV lx.o.2.2 (.int .u8 r0) (.string r1) (.slice r2 r3 r4) (.slice r5 r6 r7);rw[<-qU]
 first
 |clear pp34;have XF:=(bn H9.o.2.2.1);have Am:Below Ck.heap.size Ck w10:=H9.o.1.tr lx.o.2.1;have Qu:=(EY.same _ (by have:=(bn H9.o.2.2.2);have:=lx.o.2.1.size;omega) (by have:=HT7.o;omega)).trans (bT lx.o.2.1 H9.o.2.2.2);obtain ⟨j0,j1,j2,j3,_,_,_,_⟩:=dh Qu;have hrv:FormV (fun b=>W9.heap.size<=b) sj (FQ.val ⟨r0,r1,r2,r3,r4,r5,r6,r7⟩) (iD dc t f):=lx.o.1.move (fun b hb hlt=>⟨hb,EY.same b hlt (by omega)⟩);have hiv:FormV (fun b=>¬M b/\b≠W1.heap.size) sj (FQ.val ⟨p0,p1,p2,p3,p4,p5,p6,p7⟩) im:=(mJ.o.2.2.2.2.2.1.later Am).move (fun b hb hlt=>⟨hb,EY.same b hlt hb.2⟩);have An:=mJ.o.2.2.2.1.later Am;have uJ:KnV (fun b=>¬M b) goodF goodT sj kb mF mT nF (nT+1) (⟨k.fs,iE y t k.ts⟩):=An.move (fun b hb hlt=>⟨hb.1,EY.same b hlt hb.2⟩) (EY.same _ An.ltb (by have:=x_.o.1;omega)) (EY.same _ An.fs.lt (by have:=x_.o.2.1;omega)) (EY.same _ An.ts.lt (by have:=x_.o.2.2.1;omega));have CA:=uG (iD dc t f) im [] (.slice none 0 0) _ _ sj ⟨r0,r1,r2,r3,r4,r5,r6,r7⟩ ⟨p0,p1,p2,p3,p4,p5,p6,p7⟩ (by have:=(uF (x:=dc) yt.o.1 mJ.o.2.2.1).1;simp[gJ];omega) (uF yt.o.1 mJ.o.2.2.1) hrv hiv (PairsV.nil sj);simp only[FQ.val,List.reverse_nil,<-Lx.o]at CA;have EO:=ab CA;have Kk:=aC (Kf (H9.o.2.1.trans (Kp.below lx.o.2.1)) EY (by have:=x_.o.2.2.2.2;omega)) uJ;clear XF Am Qu hrv hiv An uJ CA Tq EY qU;cases bb
  ·go_wp2_with (go_at_call 92;refine EO.o.mono ?_;rintro e w12 ⟨rfl,om⟩;have Ov:=ab om;clear om);go_ret;exact StepPost.bad Qj.o (by decide) (Kk.o.1.trans (Kp.below Ov.o))
  ·go_wp2_with (go_at_call 92;refine EO.o.mono ?_;rintro e w12 ⟨rfl,om⟩;have Ov:=ab om;clear om);go_ret;exact StepPost.good nF (nT+1) Qj.o (Kk.o.1.trans (Kp.below Ov.o)) (by omega) (by omega) (Kk.o.2.later Ov.o)
 |have XF:=(bn H9.o.2.2.1);have Am:Below W8.heap.size W8 w10:=H9.o.1.tr lx.o.2.1;have Qu:=(EY.same _ (by have:=(bn H9.o.2.2.2);have:=lx.o.2.1.size;omega) (by have:=HT7.o;omega)).trans (bT lx.o.2.1 H9.o.2.2.2);obtain ⟨j0,j1,j2,j3,_,_,_,_⟩:=dh Qu;have hrv:FormV (fun b=>W9.heap.size<=b) sj (FQ.val ⟨r0,r1,r2,r3,r4,r5,r6,r7⟩) (iD dc t f):=lx.o.1.move (fun b hb hlt=>⟨hb,EY.same b hlt (by omega)⟩);have hiv:FormV (fun b=>¬M b/\b≠W1.heap.size) sj (FQ.val ⟨p0,p1,p2,p3,p4,p5,p6,p7⟩) im:=(mJ.o.2.2.2.2.2.1.later Am).move (fun b hb hlt=>⟨hb,EY.same b hlt hb.2⟩);have An:=mJ.o.2.2.2.1.later Am;have uJ:KnV (fun b=>¬M b) goodF goodT sj kb mF mT nF (nT) ({ k with ts:=k.ts }):=An.move (fun b hb hlt=>⟨hb.1,EY.same b hlt hb.2⟩) (EY.same _ An.ltb (by have:=x_.o.1;omega)) (EY.same _ An.fs.lt (by have:=x_.o.2.1;omega)) (EY.same _ An.ts.lt (by have:=x_.o.2.2.1;omega));have CA:=uG (iD dc t f) im [] (.slice none 0 0) _ _ sj ⟨r0,r1,r2,r3,r4,r5,r6,r7⟩ ⟨p0,p1,p2,p3,p4,p5,p6,p7⟩ (by have:=(uF (x:=dc) yt.o.1 mJ.o.2.2.1).1;simp[gJ];omega) (uF yt.o.1 mJ.o.2.2.1) hrv hiv (PairsV.nil sj);simp only[FQ.val,List.reverse_nil,<-Lx.o]at CA;have EO:=ab CA;have Kk:=aC (Kf (H9.o.2.1.trans (Kp.below lx.o.2.1)) EY (by have:=x_.o.2.2.2.2;omega)) uJ;clear XF Am Qu hrv hiv An uJ CA Tq EY qU;cases bb
  ·go_wp2_with (go_at_call 92;refine EO.o.mono ?_;rintro e w12 ⟨rfl,om⟩;have Ov:=ab om;clear om);go_ret;exact StepPost.bad Qj.o (by decide) (Kk.o.1.trans (Kp.below Ov.o))
  ·go_wp2_with (go_at_call 92;refine EO.o.mono ?_;rintro e w12 ⟨rfl,om⟩;have Ov:=ab om;clear om);go_ret;exact StepPost.good nF (nT) Qj.o (Kk.o.1.trans (Kp.below Ov.o)) (by omega) (by omega) (Kk.o.2.later Ov.o)):G:=h
theorem pm35(h:G:=by
 go_wp2_with (go_at_call 91;refine kV.o.mono ?_;rintro e w4 ⟨⟨⟨po,pn,pa,pl,pc,pb,pm,pe⟩,rfl,hp⟩,aP⟩;simp only[Option.isSome]at hp ⊢;rw[<-gF.o]at aP;have bi:Below w4.heap.size w4 (w4.alloc (.cells #[.int .u8 po,.string pn,.slice pa pl pc,.slice pb pm pe] 36)):=cQ;have sV:=eW.o.later (aP.tr bi) (fun r=>r.below (aP.tr bi));have x5:=sV.other (by omega) Po.o;obtain ⟨e0,e1,e2,e3,z0,z1,z2,z3⟩:=dh x5;have H5:=aC (aP.tr bi) x5;clear hp aP bi sV x5);have pp258:=();exact pm258):G:=h
theorem pm36(h:G:=by
 exact pm272):G:=h
theorem pm37(h:G:=by
 obtain ⟨S,hS⟩:∃S:World->Prop,S=fun V=>Below w3.heap.size w3 V:=⟨_,rfl⟩;have ff:∀ V,S V->V.cell? ⟨kb,1,none⟩=some (.map (some mT))/\V.cell? ⟨w.heap.size,1,none⟩=some (.string ⟨n.toArray⟩)/\(Instr.lookup 146 (.map (some mT)) (.string ⟨n.toArray⟩) false).run Tryz.prog V=.ok (.agg #[.bool z0,.string z1,.slice z2 z3 z4]) V:=fun V h=>by
  rw[hS]at h;exact ⟨aa h (ah ln.box 1),aa h (ah x3 1),z7 V (h.block _ br)⟩
 have dW:S w3.drew:=by rw[hS];exact (ak _ _).drew
 first
 |clear pp37a;have HC:=ab (fun (V:World) (h:Below w3.heap.size w3 V)=>kN _ ER (by omega) _ V ⟨z0,z1,z2,z3,z4⟩ (hz.later h));simp only[TQ.val]at HC;obtain ⟨m,hm⟩:=ao (nodesT (termOf k.ts n));rw[<-hm]at HC rA;have du:=ab hS;clear hS ln x3 hz ER LA z7 br hm e0 e1 e2;refine (wpIn_wide (n:=3)).1 ?_;refine lV S 8 dW fun jO bW=>?_;refine bL 0 15 (.pointer (some ⟨kb,0,none⟩)) rfl bW fun cF=>?_;simp only[ag];refine bL 1 16 (.pointer (some ⟨kb,0,none⟩)) rfl cF fun fI=>?_;simp only[ag];refine bL 2 17 (.pointer (some ⟨kb,1,none⟩)) rfl fI fun gO=>?_;simp only[ag];refine dm 3 18 (.map (some mT)) rfl (fun V hX=>by obtain ⟨h0,h1,h2⟩:=ff V hX;go_simp) gO fun iX=>?_;simp only[ag];refine bL 4 19 (.pointer (some ⟨w.heap.size,1,none⟩)) rfl iX fun jQ=>?_;simp only[ag];refine dm 5 20 (.string ⟨n.toArray⟩) rfl (fun V hX=>by obtain ⟨h0,h1,h2⟩:=ff V hX;go_simp) jQ fun kf=>?_;simp only[ag];refine dm 6 21 (.agg #[.bool z0,.string z1,.slice z2 z3 z4]) rfl (fun V hX=>by obtain ⟨h0,h1,h2⟩:=ff V hX;go_simp) kf fun mK=>?_;simp only[ag];refine ce 7 rfl fun K hK=>?_;go_simp;refine aL.2 ((HC.o _ (by have h:=bW;rw[du.o]at h;exact h)).mono ?_);rintro e w7 ⟨rfl,fD⟩;have H7:=ab (((ak w3.heap.size w3).drew).trans fD);refine hK _ _ (fun _=>by rw[du.o];exact H7.o) (fun _=>?_);clear hK K fD;refine ce 8 rfl fun K hK=>?_;go_simp;refine eS hK ?_;clear hK K;refine le ?_;clear ff dW bW cF fI gO iX jQ kf mK jO;go_wp2;go_ret;exact ⟨by rw[rA.o];rfl,(H1.o.1.tr H3.o).tr H7.o⟩
 |clear pp37b;have HC:=ab (fun (V:World) (h:Below w3.heap.size w3 V)=>oF _ ER _ V ⟨z0,z1,z2,z3,z4⟩ (hz.later h));simp only[TQ.val]at HC;rw[<-HU.o]at HC;have du:=ab hS;clear hS ln x3 hz ER LA z7 br;refine (wpIn_wide (n:=3)).1 ?_;refine lV S 8 dW fun jO bW=>?_;refine bL 0 18 (.pointer (some ⟨kb,0,none⟩)) rfl bW fun cF=>?_;simp only[ag];refine bL 1 19 (.pointer (some ⟨kb,0,none⟩)) rfl cF fun fI=>?_;simp only[ag];refine bL 2 20 (.pointer (some ⟨kb,1,none⟩)) rfl fI fun gO=>?_;simp only[ag];refine dm 3 21 (.map (some mT)) rfl (fun V hX=>by obtain ⟨h0,h1,h2⟩:=ff V hX;go_simp) gO fun iX=>?_;simp only[ag];refine bL 4 22 (.pointer (some ⟨w.heap.size,1,none⟩)) rfl iX fun jQ=>?_;simp only[ag];refine dm 5 23 (.string ⟨n.toArray⟩) rfl (fun V hX=>by obtain ⟨h0,h1,h2⟩:=ff V hX;go_simp) jQ fun kf=>?_;simp only[ag];refine dm 6 24 (.agg #[.bool z0,.string z1,.slice z2 z3 z4]) rfl (fun V hX=>by obtain ⟨h0,h1,h2⟩:=ff V hX;go_simp) kf fun mK=>?_;simp only[ag];refine ce 7 rfl fun K hK=>?_;go_simp;refine aL.2 ((HC.o _ (by have h:=bW;rw[du.o]at h;exact h)).mono ?_);rintro e w7 ⟨⟨pv,pn,pa,pl,pc⟩,rfl,J7,fD⟩;simp only at J7 ⊢;have gS:=((ak w3.heap.size w3).drew).trans fD;have x7:=(gS.block _ (by omega)).trans bM.o.2.1;obtain ⟨d0,d1,d2,f0,f1,f2⟩:=fX x7;have UO:=J7.move (ok':=(w.heap.size+2<=·)) (fun b hok hlt=>⟨by have hzd:w3.drew.heap.size=w3.heap.size:=rfl;simp only at hok ⊢;omega,rfl⟩);have H7:=bE gS x7 UO;have hz7:=gS.size;refine hK _ _ (fun _=>by rw[du.o];exact H7.o.1) (fun _=>?_);clear hK K fD gS x7 J7 UO;refine ce 8 rfl fun K hK=>?_;go_simp;refine eS hK ?_;clear hK K;refine le ?_;clear ff dW bW cF fI gO iX jQ kf mK jO;clear d0 d1 d2 f0 f1 f2;have x6:=qt (v0:=.bool pv) (v1:=.string pn) (v2:=.slice pa pl pc) H7.o.2.1;have k6:=eF (W:=w7) (b:=w.heap.size+1) (v0:=.bool pv) (v1:=.string pn) (v2:=.slice pa pl pc);obtain ⟨W6,cP⟩:=ao (((w7.setCell ⟨w.heap.size+1,0,none⟩ (.bool pv)).setCell ⟨w.heap.size+1,1,none⟩ (.string pn)).setCell ⟨w.heap.size+1,2,none⟩ (.slice pa pl pc));rw[<-cP]at x6 k6 ⊢;clear cP;obtain ⟨g0,g1,g2,_⟩:=fX x6;go_wp2;refine bI (v:=TQ.val ⟨pv,pn,pa,pl,pc⟩) (by simp[TQ.val,results,Tryz.results127,go_sem,g0,g1,g2]) rfl ⟨⟨⟨pv,pn,pa,pl,pc⟩,rfl,H7.o.2.2.move (fun b hok hlt=>⟨by omega,k6.same b hlt (by omega)⟩)⟩,Below.kp1 (bM.o.1.tr H7.o.1) k6 (by omega)⟩
 |have Qi:=mq _ Qh;have cf:=aQ (eO (aN (termOf k.ts n))) (mo (termOf k.ts n));have HC:=ab (fun (V:World) (h:Below w3.heap.size w3 V)=>lK _ ER _ V ⟨z0,z1,z2,z3,z4⟩ (hz.later h));simp only[TQ.val]at HC;obtain ⟨m,hm⟩:=ao (cm (aN (termOf k.ts n)));have J8:∀ x∈m,x.length<=2000000:=fun x hx=>by rw[hm,dL]at hx;exact aQ (Qi x hx) (by decide)
  have pS:m.length<=2000000:=by rw[hm];omega
  rw[<-hm]at HC rA;have HM:=aC J8 pS;clear J8 pS cf Qi;have du:=ab hS;clear hS ln x3 hz ER LA Qh z7 br hm e0 e1 e2;refine (wpIn_wide (n:=3)).1 ?_;refine lV S 9 dW fun jO bW=>?_;refine bL 0 15 (.pointer (some ⟨kb,0,none⟩)) rfl bW fun cF=>?_;simp only[ag];refine bL 1 16 (.pointer (some ⟨kb,0,none⟩)) rfl cF fun fI=>?_;simp only[ag];refine bL 2 17 (.pointer (some ⟨kb,1,none⟩)) rfl fI fun gO=>?_;simp only[ag];refine dm 3 18 (.map (some mT)) rfl (fun V hX=>by obtain ⟨h0,h1,h2⟩:=ff V hX;go_simp) gO fun iX=>?_;simp only[ag];refine bL 4 19 (.pointer (some ⟨w.heap.size,1,none⟩)) rfl iX fun jQ=>?_;simp only[ag];refine dm 5 20 (.string ⟨n.toArray⟩) rfl (fun V hX=>by obtain ⟨h0,h1,h2⟩:=ff V hX;go_simp) jQ fun kf=>?_;simp only[ag];refine dm 6 21 (.agg #[.bool z0,.string z1,.slice z2 z3 z4]) rfl (fun V hX=>by obtain ⟨h0,h1,h2⟩:=ff V hX;go_simp) kf fun mK=>?_;simp only[ag];refine ce 7 rfl fun K hK=>?_;go_simp;refine aL.2 ((HC.o _ (by have h:=bW;rw[du.o]at h;exact h)).mono ?_);rintro e w7 ⟨⟨v7,rfl,M4⟩,fD⟩;have H7:=ab (((ak w3.heap.size w3).drew).trans fD);have CH:=rD m HM.o.2 HM.o.1 _ w7 v7 M4.1;have Wn:=ab CH;refine hK _ _ (fun _=>by rw[du.o];exact H7.o) (fun _=>?_);clear hK K fD M4 CH;refine ce 8 rfl fun K hK=>?_;go_simp;refine aL.2 (Wn.o.mono ?_);rintro e w8 ⟨⟨v8,rfl,GG⟩,Vc⟩;have gS:Below w3.heap.size w3 w8:=kY (w:=w3) H7.o Vc;have H8:=aC gS GG;refine hK _ _ (fun _=>by rw[du.o];exact H8.o.1) (fun _=>?_);clear hK K Vc gS GG;refine ce 9 rfl fun K hK=>?_;go_simp;refine eS hK ?_;clear hK K;refine le ?_;clear ff dW bW cF fI gO iX jQ kf mK jO;go_wp2;go_ret;exact ⟨⟨_,rfl,by rw[rA.o];exact H8.o.2.base (((H1.o.1.tr H3.o)).size)⟩,(H1.o.1.tr H3.o).tr H8.o.1⟩):G:=h
theorem pm38(h:G:=by
 unfold TQ.val at hs;simp only[cA,Array.mk.injEq,cr,and_true,Value.bool.injEq,Value.string.injEq]at hs;obtain ⟨rfl,rfl,rfl⟩:=hs;obtain rfl:=bO.len
 first
 |clear pp38a;have cf:=aA.args.len;obtain ⟨ea,ng,fd⟩:=cD bO aA.args ih;obtain ⟨k0,cg⟩:=ao a.length;rw[<-cg]at cf;have dJ:=ab cg;clear hq bO aA ih;unfold TQ.val;rw[<-cg];clear cg;refine mM Tryz.func53 ?_;simp only[Tryz.ntmps53,Nat.reduceAdd,Nat.reduceSub,li];have jH:=eU;gi_wp2;obtain ⟨W1,bR⟩:=ao (((w.alloc (.cells #[.bool qv,.string ⟨n.toArray⟩,.slice qa k0 qc] 43)).alloc (.cells #[.bool false,.string ⟨#[]⟩,.slice none 0 0] 43)).alloc (.cells #[.bool qv,.string ⟨n.toArray⟩,.slice none 0 0] 43));have iJ:=xW bR;have x1:W1.heap[w.heap.size+1]?=some (.cells #[.bool false,.string ⟨#[]⟩,.slice none 0 0] 43 (0,0)):=by rw[bR,bK _ _ _ (by simp)];exact aj (by simp)
  have x2:=qd bR;rw[<-bR];clear bR;obtain ⟨dO,jI⟩:=aZ iJ x1;have vW:=ab (Fills.start (R:=w.heap.size+1+1) (mk:=fun r=>#[.bool qv,.string ⟨n.toArray⟩,r]) (Row:=fun r W=>RowT W1.heap.size r (a.take 0) W) x2 (RowT.nil _ _));clear iJ x1 x2;gi_loopw [14] (fun i wr=>∃k:Nat,k<=k0/\i=.int .i64 k/\∃row,Fills 43 (w.heap.size+1+1) W1.heap.size (fun r=>#[.bool qv,.string ⟨n.toArray⟩,r]) (fun r W=>RowT W1.heap.size r (a.take k) W) W1 wr row) (fun i _=>k0 - (intOf i).toNat)
  case atStart=>exact ⟨0,bc _,rfl,_,vW.o⟩
  case round=>
   have pp139b:=();exact pm139
 |clear pp38b;have cf:=aA.args.len;have lG:=aA.name;obtain ⟨ea,ng,fd⟩:=cD bO aA.args ih;obtain ⟨k0,cg⟩:=ao a.length;rw[<-cg]at cf;have dJ:=ab cg;clear hq bO aA ih;unfold TQ.val;rw[<-cg];clear cg
  cases qv with
  | false=>
   have hp:aM (.mk false n a)=.mk false n (a.map aM):=by simp[aM,kU]
   rw[hp];clear hp;exact pm256
  | true=>
   cases hh:dZ n with
   | false=>
    have hp:aM (.mk true n a)=.mk true n (a.map aM):=by simp[aM,kU,hh]
    rw[hp];clear hp;have pp13:=();exact pm13
   | true=>
    obtain ⟨r,rfl⟩:∃r,n=63 :: r:=sD (by
     cases h2:(n.head? == some 63)
     ·simp[dZ,h2]at hh
     ·rfl)
    have hp:aM (.mk true (63 :: r) a)=.mk true r (a.map aM):=by simp[aM,kU,hh]
    rw[hp];clear hp;obtain ⟨n,hn⟩:=ao (63 :: r);rw[<-hn]at hh lG ⊢;have hx:=jz 63 r;have hsz:(⟨n.toArray⟩:ByteArray).size=r.length+1:=by rw[hn,g_];rfl
    have hx':(⟨n.toArray⟩:ByteArray).extract 1 (r.length+1)=⟨r.toArray⟩:=by rw[hn];exact hx
    have hr1:r.length+1<=2000000:=by rw[hn]at lG;simpa using lG
    clear hx hn;exact pm13
 |clear pp38c;have cf:=aA.args.len;have lG:=aA.name;have sF:n.length<=1000000000:=by omega
  have jP:=ab hok;have fd:=ab (fun t ht=>ih t ht (aA.args.mem ht));have sG:1<=nodesT (.mk qv n a):=jy _;have qi:1<=cY (.mk qv n a):=by unfold cY;omega
  obtain ⟨k0,cg⟩:=ao a.length;have HB:=ab (show Below w.heap.size w (w.alloc (.cells #[.bool qv,.string ⟨n.toArray⟩,.slice qa k0 qc] 43)) from cQ);have I_:JAt J sc left bz (w.alloc (.cells #[.bool qv,.string ⟨n.toArray⟩,.slice qa k0 qc] 43)):=hJ.later HB.o;have zcj:J<w.heap.size:=(bn hJ);obtain ⟨ea,HJ⟩:=aZ bO hJ;rw[<-cg]at cf;clear hq bO aA ih hok hJ;unfold TQ.val;rw[<-cg];have dJ:=ab cg;clear cg
  by_cases MC:1<=left/\ba<=bz
  ·obtain ⟨St,V6⟩:=MC;have C1:=ab (F8 J sc left bz ba _ I_ St h1 V6);have fW:Kp (fun c=>c=J) w ((w.alloc (.cells #[.bool qv,.string ⟨n.toArray⟩,.slice qa k0 qc] 43)).setCell ⟨J,1,none⟩ (.int .i64 (left - 1))):=(Kp.below HB.o).trans (oI _);have sH:=I_.set (left - 1);have hx:((w.alloc (.cells #[.bool qv,.string ⟨n.toArray⟩,.slice qa k0 qc] 43)).setCell ⟨J,1,none⟩ (.int .i64 (left - 1))).heap[w.heap.size]?=some (.cells #[.bool qv,.string ⟨n.toArray⟩,.slice qa k0 qc] 43 (0,0)):=(d9 _ _ _ _ (by show w.heap.size≠J;omega)).trans (aj rfl);have oK:=bE fW sH hx;have OU:TermsV ok ((w.alloc (.cells #[.bool qv,.string ⟨n.toArray⟩,.slice qa k0 qc] 43)).setCell ⟨J,1,none⟩ (.int .i64 (left - 1))) (.slice qa k0 qc) a:=by
    have h:=ea.o.move (ok':=ok) (fun b hb hlt=>⟨hb,fW.same b hlt (jP.o b hb)⟩)
    rwa [<-dJ.o]at h
   have HA2:=ab OU;obtain ⟨W2,bl⟩:=ao ((w.alloc (.cells #[.bool qv,.string ⟨n.toArray⟩,.slice qa k0 qc] 43)).setCell ⟨J,1,none⟩ (.int .i64 (left - 1)));rw[<-bl]at oK C1 HA2;clear fW sH hx I_ ea OU bl;have g0:W2.cell? ⟨w.heap.size,0,none⟩=some (.bool qv):=ah oK.o.2.2 0;have g1:W2.cell? ⟨w.heap.size,1,none⟩=some (.string ⟨n.toArray⟩):=ah oK.o.2.2 1;have g2:W2.cell? ⟨w.heap.size,2,none⟩=some (.slice qa k0 qc):=ah oK.o.2.2 2
   cases qv with
   | true=>
    by_cases ha:a=[]
    ·subst ha;have zck:k0=0:=by rw[dJ.o];rfl
     subst zck;have mm:nodesT (.mk true n [])=1:=rfl;have Oi:cY (.mk true n [])=1:=rfl;have hb:(gw sc (.mk true n []) && (decide ((nodesT (.mk true n []):Int)<=left) && decide (ba+cY (.mk true n [])<=bz+1)))=(i8 n || (sc && cW n)):=by
      rw[mm,Oi];have e1:decide (((1:Nat):Int)<=left)=true:=by simp;omega
      have e2:decide (ba+((1:Nat):Int)<=bz+1)=true:=by simp;omega
      simp only[gw,if_true,List.isEmpty_nil,dP,e1,e2,Bool.and_true]
     rw[mm]at hn
     cases hv:i8 n with
     | true=>
      have CV:=ab (fun w=>hv ▸ iI n w sF);have HE:=ab (hb.trans (by rw[hv] <;> rfl));clear hv hb mm Oi sG qi;have pp82a:=();exact pm82
     | false=>
      have CV:=ab (fun w=>hv ▸ iI n w sF)
      cases sc with
      | false=>
       have HE:=ab (hb.trans (by rw[hv] <;> rfl));clear hv hb mm Oi sG qi;have pp82b:=();exact pm82
      | true=>
       cases ht:cW n with
       | true=>
        have pp60:=();exact pm60
       | false=>
        exact pm60
    ·have bj:0<k0:=by rw[dJ.o];exact ie.2 ha
     have ej:((k0:Int) == 0)=false:=by simp;omega
     have HE:=ab (show (gw sc (.mk true n a) && (decide ((nodesT (.mk true n a):Int)<=left) && decide (ba+cY (.mk true n a)<=bz+1)))=false by
      have:a.isEmpty=false:=by cases a with | nil=>exact absurd rfl ha | cons x y=>rfl
      simp[gw,this])
     have HN:=ab sG;clear sG qi ha;have pp82c:=();exact pm82
   | false=>
    have mm:nodesT (.mk false n a)=nodesTs a+1:=rfl;have Oi:cY (.mk false n a)=bx a+1:=rfl;have hb:(gw sc (.mk false n a) && (decide ((nodesT (.mk false n a):Int)<=left) && decide (ba+cY (.mk false n a)<=bz+1)))=(decide (a.length<=4) && (Bw n && (dB sc a && (decide ((nodesTs a:Int)<=left - 1) && decide (ba+1+bx a<=bz+1))))):=by
     rw[mm,Oi];have e1:decide (((nodesTs a+1:Nat):Int)<=left)=decide ((nodesTs a:Int)<=left - 1):=by rw[gA];simp;omega
     have e2:decide (ba+((bx a+1:Nat):Int)<=bz+1)=decide (ba+1+bx a<=bz+1):=by rw[gA];simp;omega
     simp only[gw,bZ,if_false,e1,e2,Bool.and_assoc]
    rw[mm]at hn
    by_cases h4:k0<=4
    ·have h4':((k0:Int)<=4):=by omega
     have d4:decide (a.length<=4)=true:=by rw[<-dJ.o];simpa using h4
     rw[d4,dP]at hb
     cases hf:Bw n with
     | false=>
      have CF:=ab (fun w=>hf ▸ lF n w sF);have HE:=ab (hb.trans (by rw[hf] <;> rfl));clear hf hb mm Oi sG qi d4;have pp82d:=();exact pm82
     | true=>
      have CF:=ab (fun w=>hf ▸ lF n w sF);rw[hf,dP]at hb;have CJ:=ab (fun w3 (aJ:Below W2.heap.size W2 w3)=>tM a fd.o ok J sc (left - 1) bz (ba+1) w3 _ _ _ (HA2.o.later aJ) jP.o (oK.o.2.1.later aJ) (by omega) (by omega) Ol (by omega) (by omega) (by omega));obtain ⟨bb,cK⟩:=ao (dB sc a && (decide ((nodesTs a:Int)<=left - 1) && decide (ba+1+bx a<=bz+1)));rw[<-cK]at hb CJ;have HE:=ab hb;clear hf hb Oi sG qi d4 mm cK
      cases bb with
      | true=>
       have pp71:=();exact pm71
      | false=>
       exact pm71
    ·have h4':¬((k0:Int)<=4):=by omega
     have d4:decide (a.length<=4)=false:=by rw[<-dJ.o];simpa using h4
     have HE:=ab (hb.trans (by rw[d4] <;> rfl));clear hb mm Oi sG qi;have pp82c:=();exact pm82
  ·have C1:=ab (Ln J sc left bz ba _ I_ h0 h1 MC);have HE:=ab (show (gw sc (.mk qv n a) && (decide ((nodesT (.mk qv n a):Int)<=left) && decide (ba+cY (.mk qv n a)<=bz+1)))=false by
    rw[Bool.and_eq_false_iff];right;rw[Bool.and_eq_false_iff]
    by_cases hl:1<=left
    ·right;have VU:¬ba<=bz:=fun h=>MC ⟨hl,h⟩;simp only[decide_eq_false_iff_not];omega
    ·left;simp only[decide_eq_false_iff_not];omega)
   have HJ1:=ab I_;clear I_ sG qi MC;have pp82e:=();exact pm82
 |clear pp38d;have en:=aA.args.len;have fd:=ab (fun t ht=>ih t ht (aA.args.mem ht));obtain ⟨m0,el⟩:=ao a.length;rw[<-el]at en bO;unfold TQ.val;simp only;rw[<-el];have ib:=ab el;obtain ⟨W1,bR⟩:=ao (W.alloc (.cells #[.bool qv,.string ⟨n.toArray⟩,.slice qa m0 qc] 43));have iJ:=cX bR;have IJ:J pre W1:=hJ pre _ _ (Nw.below iJ) hj;have HX:Hd (W1.heap[W.heap.size]?=some (.cells #[.bool qv,.string ⟨n.toArray⟩,.slice qa m0 qc] 43 (0,0))):=ab (by rw[bR];exact aj rfl);obtain ⟨fP,Bl,iW⟩:=cD bO hM bR;have HL:Hd (W.heap.size<W1.heap.size):=ab (by rw[bR];simp);refine mM Tryz.func214 ?_;simp only[Tryz.ntmps214,Nat.reduceAdd,Nat.reduceSub,li];have jH:=eU;cases qv
  ·have lZ:aN (.mk false n a)=[] ++ aw a:=by unfold aN;rfl
   rw[lZ]at dt ⊢;have yG:=ab (show J (pre ++ []) W1/\Kp M W W1 from ⟨by simpa using IJ,Kp.below iJ⟩);obtain ⟨nS,HJ,HY⟩:=cD dt hJ hY;clear hq bO aA ih el hj iJ IJ hJ hM hY dt lZ bR;gi_wp2;rw[<-iW.o];gi_loopw [19] (fun i wr=>∃k:Nat,k<=m0/\i=.int .i64 k/\J (pre ++ ([] ++ aw (a.take k))) wr/\Kp M W wr) (fun i _=>m0 - (intOf i).toNat)
   case atStart=>exact ⟨0,bc _,rfl,by simpa[aw] using yG.o.1,yG.o.2⟩
   case round=>
    have pp199b:=();exact pm199
  ·have lZ:aN (.mk true n a)=[n] ++ aw a:=by unfold aN;rfl
   rw[lZ]at dt ⊢;have tC:=hY pre #[.string ⟨n.toArray⟩] n _ IJ (Kp.below iJ) rfl (jJ dt);obtain ⟨nS,HJ,HY,dO⟩:=eR dt hJ hY iJ;obtain ⟨fn,tmps,assign,body,hy,Ga⟩:=jG 2 tC;rw[bR]at hy Ga;clear hq bO aA ih el hj iJ IJ tC hJ hM hY dt lZ bR;gi_wp2;refine Ga.mono ?_;rintro e W2 ⟨rfl,sH,fW⟩;rw[<-iW.o]at fW;have Zh:¬M W.heap.size:=fun h=>by have:=Bl.o _ h;omega
   have oL:=(fW.same W.heap.size HL.o Zh).trans HX.o;have p2:W2.cell? ⟨W.heap.size,2,none⟩=some (.slice qa m0 qc):=ah oL 2;have yG:=aC sH ((Kp.below dO.o).trans fW);clear sH fW oL Ga hy;gi_wp2;clear p2;gi_loopw [19] (fun i wr=>∃k:Nat,k<=m0/\i=.int .i64 k/\J (pre ++ ([n] ++ aw (a.take k))) wr/\Kp M W wr) (fun i _=>m0 - (intOf i).toNat)
   case atStart=>exact ⟨0,bc _,rfl,by simpa[aw] using yG.o.1,yG.o.2⟩
   case round=>
    have pp199c:=();exact pm199
 |clear pp38e;have cf:=aA.args.len;have lG:=aA.name;obtain ⟨ea,ng,fd,Lx⟩:=eR bO aA.args ih cK;obtain ⟨k0,cg⟩:=ao a.length;rw[<-cg]at cf;have dJ:=ab cg;clear hq bO aA ih cK;unfold TQ.val;rw[<-cg];clear cg
  cases qv with
  | false=>
   have hp:eT f (.mk false n a)=.mk false n (a.map (eT f)):=by simp[eT,eZ]
   rw[hp];clear hp;exact pm264
  | true=>
   cases qh:f n with
   | none=>
    have hp:eT f (.mk true n a)=.mk true n (a.map (eT f)):=by simp[eT,eZ,qh]
    rw[hp];clear hp;have pp21:=();exact pm21
   | some u=>
    have hp:eT f (.mk true n a)=u:=by simp[eT,qh]
    rw[hp];clear hp;have hcu:=hC n u qh;exact pm21
 |clear pp38f;have cf:=aA.args.len;have lG:=aA.name;obtain ⟨ea,ng,fd,JC,oH⟩:=vK bO aA.args ih hsc cV;obtain ⟨k0,cg⟩:=ao a.length;obtain ⟨R,hR⟩:=ao (lD ps.reverse ins (.mk qv n a));rw[<-cg]at cf;have dJ:=ab cg;obtain ⟨W3,ec⟩:=ao (((w.alloc (.cells q.cells 89)).alloc (.cells #[.bool qv,.string ⟨n.toArray⟩,.slice qa k0 qc] 43)).alloc (.cells #[.bool false,.string ⟨#[]⟩,.slice none 0 0] 43));have aJ:=xW ec;have xp:=yN ec;have xt:=rW ec;have x1:=qd ec;have nE:=IX ec;rw[<-hR];have HR:=ab hR;have bM:=aC aJ nE;obtain ⟨HXP,jI,yi⟩:=cD xp x1 ec;have p0:=ir xp;obtain ⟨⟨so,sn,sa,sl,sc,sb,sm,se⟩,⟨fo,fn,fa,fl,fc,fb,fm,fe⟩,ca,cl,cc⟩:=q;simp only[PlQ.cells,PlQ.val,TQ.val]at JC yi p0 ⊢;have t0:W3.cell? ⟨w.heap.size+1,0,none⟩=some (.bool qv):=ah xt 0;have t1:W3.cell? ⟨w.heap.size+1,1,none⟩=some (.string ⟨n.toArray⟩):=ah xt 1;have t2:W3.cell? ⟨w.heap.size+1,2,none⟩=some (.slice qa k0 qc):=ah xt 2;rw[<-cg];clear hq bO aA ih hsc cV cg hR aJ nE xp x1 ec
  cases qv with
  | true=>
   have zD:Hd (R=if ins.contains n then some (am n) else (e7 ps.reverse n).map am):=ab (by rw[HR.o];simp[lD]);clear fd;go_enter Tryz.func94,Tryz.ntmps94;go_wp2_with fail;rw[<-yi.o];have CT:=fk L Di.o.2.2.1 n okL W3 vL (oH.o.later bM.o.1);rw[Di.o.2.2.2]at CT;have Gz:=ab CT;clear CT
   cases hc:ins.contains n with
   | true=>
    rw[hc]at Gz zD;have HE:=ab (show R=some (am n) by rw[zD.o];rfl);have HV:=ab (gg n W3);clear hc p0;refine Gz.o.mono ?_;rintro e w4 ⟨rfl,rfl⟩;go_wp2_with (go_at_call 131;refine HV.o.mono ?_;rintro e w5 ⟨rfl,bi⟩;have x5:=(bi.block _ (by have:=bM.o.2;omega)).trans jI.o;obtain ⟨e0,e1,e2,z0,z1,z2⟩:=fX x5;have H5:=aC bi x5;clear bi x5);obtain ⟨W6,cP,x6,k6,g0,g1,g2⟩:=ui H5.o.2 (.bool true) (.string ⟨n.toArray⟩) (.slice none 0 0);rw[<-cP];refine bI (v:=.tuple #[TQ.val ⟨true,⟨n.toArray⟩,none,0,0⟩,.bool true]) (by simp[TQ.val,results,Tryz.results94,go_sem,g0,g1,g2]) rfl ⟨⟨⟨true,⟨n.toArray⟩,none,0,0⟩,by rw[HE.o];rfl,fun u hu=>?_⟩,Below.kp1 (bM.o.1.tr H5.o.1) k6 (by omega)⟩;rw[HE.o]at hu;cases hu;exact aV.2 ⟨_,rfl,b_⟩
   | false=>
    rw[hc]at Gz zD;have qI:R=(e7 ps.reverse n).map am:=by rw[zD.o];rfl
    have CN:=BP ⟨⟨so,sn,sa,sl,sc,sb,sm,se⟩,⟨fo,fn,fa,fl,fc,fb,fm,fe⟩,ca,cl,cc⟩ ps Di.o.1 Di.o.2.1 n W3 (JC.o.later bM.o.1);simp only[PlQ.cells,PlQ.val]at CN;obtain ⟨nm,dK⟩:=ao ((e7 ps.reverse n).getD []);obtain ⟨bb,cK⟩:=ao (e7 ps.reverse n).isSome;rw[<-dK,<-cK]at CN;have hE:R.isSome=bb/\∀ u,R=some u->u=am nm:=by
     rw[qI,dK,cK]
     cases e7 ps.reverse n with
     | none=>exact ⟨rfl,fun u h=>by cases h⟩
     | some y=>exact ⟨rfl,fun u h=>by simp at h;exact h.symm⟩
    have HE:=ab hE;have HV:=ab (fun w=>gg nm w);have HCN:=ab CN;clear hc qI dK cK hE CN;refine Gz.o.mono ?_;rintro e w4 ⟨rfl,rfl⟩;obtain ⟨p0,p1,p2,p3,p4,p5,p6,p7,p8⟩:=p0;go_wp2_with (first | (go_at_call 161;refine HCN.o.mono ?_;rintro e w5 ⟨rfl,bi⟩;have yk:=ab bi;clear bi) | (go_at_call 131;refine (HV.o _).mono ?_;rintro e w6 ⟨rfl,cI⟩;have kH:=yk.o.tr cI;have x5:=(kH.block _ (by have:=bM.o.2;omega)).trans jI.o;obtain ⟨e0,e1,e2,z0,z1,z2⟩:=fX x5;have H5:=aC kH x5;clear cI kH x5));obtain ⟨W6,cP,x6,k6,g0,g1,g2⟩:=ui H5.o.2 (.bool true) (.string ⟨nm.toArray⟩) (.slice none 0 0);rw[<-cP];refine bI (v:=.tuple #[TQ.val ⟨true,⟨nm.toArray⟩,none,0,0⟩,.bool bb]) (by simp[TQ.val,results,Tryz.results94,go_sem,g0,g1,g2]) rfl ⟨⟨⟨true,⟨nm.toArray⟩,none,0,0⟩,by rw[HE.o.1];rfl,fun u hu=>?_⟩,Below.kp1 (bM.o.1.tr H5.o.1) k6 (by omega)⟩;rw[HE.o.2 u hu];exact aV.2 ⟨_,rfl,b_⟩
  | false=>
   have zD:Hd (R=(g9 ps.reverse ins a).map (Tm.mk false n)):=ab (by rw[HR.o];simp[lD]);go_enter Tryz.func94,Tryz.ntmps94;obtain ⟨p0,p1,p2,p3,p4,p5,p6,p7,p8⟩:=p0;go_wp2;rw[<-yi.o];obtain ⟨W1,bR⟩:=ao (W3.alloc (.cells #[.bool false,.string ⟨n.toArray⟩,.slice none 0 0] 43));have BS:=cX bR;have hxr:W1.heap[w.heap.size+1+1+1]?=some (.cells #[.bool false,.string ⟨n.toArray⟩,.slice none 0 0] 43 (0,0)):=by rw[bR];exact aj (by have:=bM.o.2;omega)
   rw[<-bR];have gx:W1.heap.size=w.heap.size+4:=by rw[bR];have:=bM.o.2;simp;omega
   have vW:=ab (Fills.start (R:=w.heap.size+1+1+1) (mk:=fun rr=>#[.bool false,.string ⟨n.toArray⟩,rr]) (Row:=fun r W=>RowT W1.heap.size r ([]:List Tm) W) hxr (RowT.nil _ _));have dO:=aC (bM.o.1.tr BS) gx;have Pi:=ab (bT BS HXP.o);have MS:=ab (bT BS jI.o);clear bR BS hxr gx p0 p1 p2 p3 p4 p5 p6 p7 p8 t0 t1 t2;go_loopw [40] (fun i wr=>∃k:Nat,k<=k0/\i=.int .i64 k/\∃row us,Fills 43 (w.heap.size+1+1+1) W1.heap.size (fun rr=>#[.bool false,.string ⟨n.toArray⟩,rr]) (fun r W=>RowT W1.heap.size r us W) W1 wr row/\g9 ps.reverse ins (a.take k)=some us/\us.length=k) (fun i _=>k0 - (intOf i).toNat)
   case atStart=>exact ⟨0,bc _,rfl,_,[],vW.o,by simp[g9],rfl⟩
   case round=>
    obtain ⟨k,hk,rfl,row,us,hF,zE,BU⟩:=hrel;have ar:=hF.below dO.o.1 (by omega);obtain ⟨ra,rc,rfl⟩:=hF.row.slice;rw[BU]at hF
    by_cases hlt:k<k0
    ·have dG:=ct dJ.o hlt;have pp55i:=();exact pm55
    ·obtain rfl:k=k0:=by omega
     have j4:a.take k=a:=by rw[dJ.o];exact cO
     rw[j4]at zE;have HE:=ab (show R=some (.mk false n us) by rw[zD.o,zE];rfl);have wb:=ab hF.row;have x2:=hF.box;have x1:=hF.other (by omega) MS.o;have c0:wr.cell? ⟨w.heap.size+1+1+1,0,none⟩=some (.bool false):=ah x2 0;have c1:wr.cell? ⟨w.heap.size+1+1+1,1,none⟩=some (.string ⟨n.toArray⟩):=ah x2 1;have c2:wr.cell? ⟨w.heap.size+1+1+1,2,none⟩=some (.slice ra k rc):=ah x2 2;obtain ⟨e0,e1,e2,z0,z1,z2⟩:=fX x1;have HX:=aC x1 ar;clear hF x1 x2 zE j4 ar;go_wp2;obtain ⟨W6,cP,x6,k6,g0,g1,g2⟩:=ui HX.o.1 (.bool false) (.string ⟨n.toArray⟩) (.slice ra k rc);rw[<-cP];have hr6:=wb.o.kp1 k6 (by have:=dO.o.2;omega);have h6:TermV (w.heap.size<=·) W6 (TQ.val ⟨false,⟨n.toArray⟩,ra,k,rc⟩) (.mk false n us):=RowT.term (v:=false) (n:=n) (l:=k) hr6 (by have:=dO.o.2;omega);refine bI (v:=.tuple #[TQ.val ⟨false,⟨n.toArray⟩,ra,k,rc⟩,.bool true]) (by simp[TQ.val,results,Tryz.results94,go_sem,g0,g1,g2]) rfl ⟨⟨⟨false,⟨n.toArray⟩,ra,k,rc⟩,by rw[HE.o];rfl,fun u hu=>by rw[HE.o]at hu;cases hu;exact h6⟩,Below.kp1 HX.o.2 k6 (by omega)⟩
 |clear pp38g;have en:=aA.args.len;have fd:=ab (fun t ht=>ih t ht (aA.args.mem ht));obtain ⟨m0,el⟩:=ao a.length;rw[<-el]at en bO;unfold TQ.val;simp only;rw[<-el];have ib:=ab el;obtain ⟨W1,bR⟩:=ao (W.alloc (.cells #[.bool qv,.string ⟨n.toArray⟩,.slice qa m0 qc] 43));have iJ:=cX bR;have IJ:J pre W1:=hJ pre _ _ (Nw.below iJ) hj;have HX:Hd (W1.heap[W.heap.size]?=some (.cells #[.bool qv,.string ⟨n.toArray⟩,.slice qa m0 qc] 43 (0,0))):=ab (by rw[bR];exact aj rfl);obtain ⟨fP,Bl,iW⟩:=cD bO hM bR;have HL:Hd (W.heap.size<W1.heap.size):=ab (by rw[bR];simp);obtain ⟨HG,HJ⟩:=aZ hG hJ;obtain ⟨p0,nD⟩:∃p0:List Str,p0=(if qv then [n] else []):=⟨_,rfl⟩;have lZ:aN (.mk qv n a)=p0 ++ aw a:=by unfold aN;rw[nD];cases qv <;> rfl
  rw[lZ]at dt ⊢;have nS:=ab dt;go_enter Tryz.func214,Tryz.ntmps214;cases qv
  ·simp only[bZ,if_false]at nD;subst nD;have yG:=ab (show J (pre ++ []) W1/\Kp M W W1 from ⟨by simpa using IJ,Kp.below iJ⟩);clear hq bO aA ih el hj iJ IJ hJ hM hG dt lZ bR;go_wp2;rw[<-iW.o];go_loopw [19] (fun i wr=>∃k:Nat,k<=m0/\i=.int .i64 k/\J (pre ++ ([] ++ aw (a.take k))) wr/\Kp M W wr) (fun i _=>m0 - (intOf i).toNat)
   case atStart=>exact ⟨0,bc _,rfl,by simpa[aw] using yG.o.1,yG.o.2⟩
   case round=>
    have pp199d:=();exact pm199
  ·simp only[if_true]at nD;subst nD;have C1:=hG pre n _ IJ (jJ dt);obtain ⟨C7,dO⟩:=aZ C1 iJ;clear hq bO aA ih el hj iJ IJ hJ hM hG dt lZ bR C1;go_wp2_with (rw[<-iW.o];go_at_call 213;refine C7.o.mono ?_;rintro e W2 ⟨rfl,sH,fW⟩;have Zh:¬M W.heap.size:=(fun h=>absurd (Bl.o _ h) (Nat.lt_irrefl _));have oL:=(fW.same W.heap.size HL.o Zh).trans HX.o;have p2:W2.cell? ⟨W.heap.size,2,none⟩=some (.slice qa m0 qc):=ah oL 2;have yG:=aC sH ((Kp.below dO.o).trans fW);clear sH fW oL Zh);clear p2;go_loopw [19] (fun i wr=>∃k:Nat,k<=m0/\i=.int .i64 k/\J (pre ++ ([n] ++ aw (a.take k))) wr/\Kp M W wr) (fun i _=>m0 - (intOf i).toNat)
   case atStart=>exact ⟨0,bc _,rfl,by simpa[aw] using yG.o.1,yG.o.2⟩
   case round=>
    have pp199e:=();exact pm199
 |clear pp38h;have CL:=fun (W:World) (hb:Below w.heap.size w W)=>sh a aA.args (fun t ht=>ih t ht (aA.args.mem ht)) ok W qa _ qc (bO.later hb);obtain ⟨k0,cg⟩:=ao a.length;rw[<-cg]at CL;obtain ⟨Zj,dJ⟩:=aZ CL cg;clear hq bO aA ih CL;unfold TQ.val;rw[<-cg];clear cg;refine mM Tryz.func107 ?_;simp only[Tryz.ntmps107,Nat.reduceAdd,Nat.reduceSub,li];have jH:=eU;gi_wp2;obtain ⟨W2,bl⟩:=ao ((w.alloc (.cells #[.bool qv,.string ⟨n.toArray⟩,.slice qa k0 qc] 43)).alloc (.cells #[.bool false,.string ⟨#[]⟩,.slice none 0 0] 43));have fH:=lB bl;have x0:=rV bl;have x1:=jC bl;rw[<-bl];clear bl;obtain ⟨S,hS⟩:∃S:World->Prop,S=fun V=>Below W2.heap.size W2 V:=⟨_,rfl⟩;have f0:∀ V,S V->V.cell? ⟨w.heap.size,0,none⟩=some (.bool qv)/\V.cell? ⟨w.heap.size,1,none⟩=some (.string ⟨n.toArray⟩)/\V.cell? ⟨w.heap.size,2,none⟩=some (.slice qa k0 qc):=fun V h=>by rw[hS]at h;exact ⟨aa h (ah x0 0),aa h (ah x0 1),aa h (ah x0 2)⟩
  have dW:S W2.drew:=by rw[hS];exact (ak _ _).drew
  obtain ⟨du,cJ,jI⟩:=cD hS fH x1;clear hS fH x0 x1;refine lV S 8 dW fun jO bW=>?_;refine bL 0 3 (.pointer (some ⟨w.heap.size,0,none⟩)) rfl bW fun cF=>?_;simp only[ag];refine dm 1 4 (.bool qv) rfl (fun V hX=>by obtain ⟨g0,g1,g2⟩:=f0 V hX;go_simp) cF fun fI=>?_;simp only[ag];refine bL 2 5 (.pointer (some ⟨w.heap.size,1,none⟩)) rfl fI fun gO=>?_;simp only[ag];refine dm 3 6 (.string ⟨n.toArray⟩) rfl (fun V hX=>by obtain ⟨g0,g1,g2⟩:=f0 V hX;go_simp) gO fun iX=>?_;simp only[ag];refine bL 4 7 (.pointer (some ⟨w.heap.size,2,none⟩)) rfl iX fun jQ=>?_;simp only[ag];refine dm 5 8 (.slice qa k0 qc) rfl (fun V hX=>by obtain ⟨g0,g1,g2⟩:=f0 V hX;go_simp) jQ fun kf=>?_;simp only[ag];refine ce 6 rfl fun K hK=>?_;go_simp;refine aL.2 ((Zj.o W2.drew (cJ.o.drew)).mono ?_);rintro _ A ⟨ra,rc,rfl,hp,hA⟩;have cv:Below W2.heap.size W2 A:=((ak W2.heap.size W2).drew).trans hA;have HP:=aC hp cv;refine hK _ _ (fun _=>by rw[du.o];exact cv) (fun _=>?_);clear hK K hA;refine ce 7 rfl fun K hK=>?_;go_simp;refine hK _ _ (fun _=>by rw[du.o];exact HP.o.2) (fun _=>?_);clear hK K;refine ce 8 rfl fun K hK=>?_;have y1:=bT HP.o.2 jI.o;obtain ⟨e0,e1,e2⟩:=lE y1;have z0:=ac y1 0;have z1:=ac y1 1;have z2:=ac y1 2;have VZ:=ab y1;clear y1 hp cv;go_simp;refine eS hK ?_;clear hK K;refine le ?_;gi_wp2;have x6:=qt (v0:=.bool qv) (v1:=.string ⟨n.toArray⟩) (v2:=.slice ra k0 rc) VZ.o;have k6:=eF (W:=A) (b:=w.heap.size+1) (v0:=.bool qv) (v1:=.string ⟨n.toArray⟩) (v2:=.slice ra k0 rc);obtain ⟨W6,cP⟩:=ao (((A.setCell ⟨w.heap.size+1,0,none⟩ (.bool qv)).setCell ⟨w.heap.size+1,1,none⟩ (.string ⟨n.toArray⟩)).setCell ⟨w.heap.size+1,2,none⟩ (.slice ra k0 rc));rw[<-cP]at x6 k6 ⊢;clear cP;have g0:W6.cell? ⟨w.heap.size+1,0,none⟩=some (.bool qv):=ah x6 0;have g1:W6.cell? ⟨w.heap.size+1,1,none⟩=some (.string ⟨n.toArray⟩):=ah x6 1;have g2:W6.cell? ⟨w.heap.size+1,2,none⟩=some (.slice ra k0 rc):=ah x6 2;have hz:=(bn jI.o);obtain ⟨hp,cv⟩:=HP.o;have zM:TermsV (w.heap.size<=·) W6 (.slice ra k0 rc) a:=hp.move (fun b hok hlt=>⟨aQ cJ.o.size hok,k6.same b hlt (by have:W2.heap.size<=b:=hok;omega)⟩);refine bI (v:=TQ.val ⟨qv,⟨n.toArray⟩,ra,k0,rc⟩) (by simp[TQ.val,results,Tryz.results107,go_sem,g0,g1,g2]) rfl ⟨⟨qv,⟨n.toArray⟩,ra,k0,rc⟩,rfl,aV.2 ⟨_,rfl,zM⟩,Below.kp1 (cJ.o.trans (cv.mono cJ.o.size)) k6 (by omega)⟩
 |have cf:=aA.args.len;have lG:=aA.name;obtain ⟨ea,ng,fd,Lx⟩:=eR bO aA.args ih cK;obtain ⟨k0,cg⟩:=ao a.length;rw[<-cg]at cf;have dJ:=ab cg;clear hq bO aA ih cK;unfold TQ.val;rw[<-cg];clear cg
  cases qv with
  | false=>
   have hp:bY kd.ts sc (.mk false n a)=.mk false n (a.map (bY kd.ts sc)):=by simp[bY,o7]
   rw[hp];clear hp;have pp228:=();exact pm228
  | true=>
   obtain ⟨X,hX⟩:=ao ((w.alloc (.cells #[.bool true,.string ⟨n.toArray⟩,.slice qa k0 qc] 43)).alloc (.cells #[.bool false,.string ⟨#[]⟩,.slice none 0 0] 43));have Pb:=lB hX;have y1:=jC hX;have y0:=rV hX;have tC:=xV hX;have sX:=ab (ip n X (by omega));have HY:=fA Pb y1 y0 tC (Lx.o.tr Pb);have HX:=ab hX;clear Pb y1 y0 tC hX
   cases lp:da n with
   | false=>
    rw[lp]at sX
    cases xg:sc.contains n with
    | false=>
     have hp:bY kd.ts sc (.mk true n a)=.mk true n (a.map (bY kd.ts sc)):=by
      have h2:¬n∈sc:=by simpa using xg
      simp[bY,o7,lp,h2]
     have pp130:=();exact pm130
    | true=>
     have hp:bY kd.ts sc (.mk true n a)=am (cM n):=by
      have h2:n∈sc:=by simpa using xg
      simp[bY,lp,h2]
     exact pm130
   | true=>
    rw[lp]at sX;have hp:bY kd.ts sc (.mk true n a)=termOf kd.ts n:=by simp[bY,lp]
    rw[hp];clear hp lp;obtain ⟨u,hu⟩:=ao (termOf kd.ts n);rw[<-hu];have HU:=ab hu;clear hu;have jH:=eU;obtain ⟨e0,e1,e2,_⟩:=fX HY.o.2.2.1;rw[HX.o]at e0 e1 e2;go_enter Tryz.func127,Tryz.ntmps127;go_upto_region 1 with fail;go_upto_region 2 with (go_at_call 119;rw[<-HX.o];refine sX.o.mono ?_;rintro e w3 ⟨rfl,aJ⟩;have y1:=(aJ.block _ (by have:=HY.o.2.2.2.1;omega)).trans HY.o.2.1;have y0:=(aJ.block _ (by have:=HY.o.2.2.2.1;omega)).trans HY.o.2.2.1;have pN:=aJ.size;have pP:=HY.o.2.2.2.1;have Jr:w.heap.size+2<=w3.heap.size:=(by omega);have bM:=cC (HY.o.1.tr aJ) y1 y0 (HY.o.2.2.2.2.tr aJ);clear aJ pN pP y1 y0);clear e0 e1 e2;have ln:=IT.o.later bM.o.2.2.2;obtain ⟨⟨z0,z1,z2,z3,z4⟩,hz,ER,LA,_,_,z7⟩:=ln.termOf (x:=n) lG;simp only[TQ.val]at z7;have br:=ln.ts.lt;have x3:=bM.o.2.2.1;have pp37b:=();exact pm37):G:=h
theorem pm39(h:G:=by
 rintro D X hD ⟨k',xx,uC,h1,h2,h3,h4,h5,h6,h7,h8⟩ _ hd;have XV:=U7.o;rw[h1,aX rfl]at XV;have J1:=qL s f [];have J4:Kp M sj X:=ix.o.2.2.2.1.trans ((Kp.below ix.o.1).trans h8);have kl:Marks ly.heap.size X ({ target:=.collected D,args:=#[] } :: XR):=ix.o.2.2.1.more (w':=X) (fun E hE hx=>(h8.same E (bn hx) (fun hm=>by have:=tG.o.2.2.2.2.1 E hm;omega)).trans hx) hD (by have:=ix.o;omega) hd;have HZ:=ab (Si J4 kl h6 h7 h2 h5 XV);have QJ:=ab (show xx<=nF+(j+1) * 400/\uC<=nT+(j+1) * 160000 by have:=vF.o.1;have:=vF.o.2.1;have:=vF.o.2.2.1;omega);clear h1 h2 h3 h4 h5 h6 h7 h8 XV J1 J4 kl hd;gi_wp2;refine RoundEnd.mk ?hT ?hr ?hm
 case hT=>kernel_rfl
 case hr=>
  refine ⟨j+1,by omega,by kernel_rfl,HZ.o.2.1,HZ.o.1,HZ.o.2.2.1,HZ.o.2.2.2.1,k',xx,uC,HZ.o.2.2.2.2.1,QJ.o.1,QJ.o.2,HZ.o.2.2.2.2.2.1,HZ.o.2.2.2.2.2.2⟩
 case hm=>
  refine (show n1 - (intOf (Value.int IntKind.i64 (((j+1:Nat)):Int))).toNat<n1 - (intOf (Value.int IntKind.i64 (j:Int))).toNat from ?_);simp[intOf];omega):G:=h
theorem pm40(h:G:=by
 exact pm97):G:=h
theorem pm41(h:G:=by
 refine dm 1 93 (.agg #[.int .u8 so,.string sn,.slice sa sl sc,.slice sb sm se,.int .u8 fo,.string fn,.slice fa fl fc,.slice fb fm fe,.slice ca cl cc]) rfl (fun V hX=>by obtain ⟨h0,h1,h2,h3,h4,h5,h6,h7,h8⟩:=pp V hX;go_simp) cF fun fI=>?_;simp only[ag];refine dm 2 94 (.agg #[.bool xv,.string xn,.slice xa xl xc]) rfl (fun V hX=>by obtain ⟨h0,h1,h2⟩:=tt V hX;go_simp) fI fun gO=>?_;simp only[ag];refine bL 3 95 (.pointer (some ⟨W.heap.size+1+1,2,none⟩)) rfl gO fun iX=>?_;simp only[ag];refine dm 4 96 (.slice (some ⟨b2,o2,none⟩) n1 uc) rfl (fun V hX=>by have h0:=uu V hX;go_simp) iX fun jQ=>?_;simp only[ag];refine bL 5 97 (.int .i64 (j:Int)) rfl jQ fun kf=>?_;simp only[ag];refine bL 6 98 (.pointer (some ⟨b2,o2+j * 3,none⟩)) rfl kf fun mK=>?_;simp only[ag];refine dm 7 99 (.agg #[.bool yv,.string yn,.slice ya yl yc]) rfl (fun V hX=>by obtain ⟨h0,h1,h2⟩:=yy V hX;go_simp) mK fun sg=>?_;simp only[ag]
 first
 |clear pp41;refine ce 8 rfl fun K hK=>?_
  go_simp;refine aL.2 (HC.o.mono ?_);rintro e w7 ⟨oh,r,rfl,fZ,_⟩;obtain rfl:=fZ (by simp);have H7:=ab oh;clear oh fZ;refine eS hK ?_;clear hK K;refine ce 9 rfl fun K hK=>?_;go_simp;refine eS hK ?_;clear hK K;refine le ?_;clear pp tt uu yy dW bW jO;go_wp2;go_ret;exact ⟨((Kp.below H3.o.1).trans HK.o.1).trans H7.o,false,rfl,(fun _=>rfl),(fun ts fS=>by rw[JY.o]at fS;cases fS)⟩
 |refine ce 8 rfl fun K hK=>?_
  go_simp;refine aL.2 (HC.o.mono ?_);rintro e w7 ⟨oh,r,rfl,_,U1⟩;obtain ⟨rfl,nT7,U2,zU⟩:=U1 _ rfl;have H7:=bE oh U2 zU;clear oh U1 U2 zU;refine eS hK ?_;clear hK K;refine ce 9 rfl fun K hK=>?_;go_simp;refine eS hK ?_;clear hK K;refine le ?_;clear pp tt uu yy dW bW jO;go_wp2;go_roundw
  case rel=>exact ⟨j+1,nT7,ts0,by omega,by go_num,HK.o.1.trans H7.o.1,by have:=H7.o.2.1;have:=HK.o.2;omega,H7.o.2.2,JY.o⟩
  case measure=>simp[intOf];omega):G:=h
theorem pm42(h:G:=by
 have HE:Hd (BX=false):=ab (hM.trans (by simp));clear hM sG qi Br cK;exact pm65):G:=h
theorem pm43(h:G:=by
 have hs:=hb.size;refine ⟨qs ++ [(x,q)],by simp[hk],by rw[List.flatMap_append];simpa using aR,fun j h1 h2=>?_⟩
 by_cases hj:j<qs.length
 ·rw[List.getElem_append_left hj,List.getElem_append_left (by omega)];refine ⟨(ht j hj (by omega)).1,(ht j hj (by omega)).2.move (fun b hok hlt=>⟨⟨hok.1,fun e=>?_⟩,(hold b hok.1 (by omega) hok.2).trans (hb.block b hlt)⟩)⟩;injection e with e;obtain rfl:g=b:=e;rcases hg with hg | hg
  ·exact hok.2 hg
  ·omega
 ·have rX:j=ts.length:=by simp at h2;omega
  have pp239:=();exact pm239):G:=h
theorem pm44(h:G:=by
 go_enter Tryz.func239,Tryz.ntmps239;go_wp2
 first
 |clear pp44a;go_quiet ((first | (go_at_call 240;exact fC (CR.o _)) | (go_at_call 190;exact fC (CF.o _))));go_wp2;go_ret;exact ⟨aK (qr (by rw[nQ h1];exact HF.o)).symm,⟨_,rfl⟩⟩
 |clear pp44b;go_quiet ((first | (go_at_call 240;exact fC (CR.o _)) | (go_at_call 190;exact fC (CF.o _))));exact pm24
 |clear pp44c;go_quiet ((go_at_call 240;exact fC (CR.o _)));go_wp2;go_ret;exact ⟨aK (vT HR.o).symm,⟨_,rfl⟩⟩
 |clear pp44d;go_quiet (fail);go_wp2;go_ret;exact ⟨aK (lY (by rw[jY];omega)).symm,⟨_,rfl⟩⟩
 |clear pp44e;go_quiet ((first | (go_at_call 240;exact fC (CR.o _)) | (go_at_call 216;exact fC (CF.o _))));go_wp2;go_ret;exact ⟨aK (qr (by rw[nQ h1];exact HF.o)).symm,⟨_,rfl⟩⟩
 |clear pp44f;go_quiet ((first | (go_at_call 240;exact fC (CR.o _)) | (go_at_call 216;exact fC (CF.o _))));go_wp2;go_loopw [5] (fun i wr=>∃k:Nat,1<=k/\k<=s.size/\i=.int .i64 k/\lv BB (s.data.toList.take k).tail=true/\∃n,wr=w.drewN n) (fun i _=>s.size - (intOf i).toNat)
  case atStart=>exact ⟨1,aF _,h1,rfl,by rw[List.take_one];cases s.data.toList <;> simp[lv],⟨_,rfl⟩⟩
  case round=>
   obtain ⟨k,ej,hk,rfl,ha,hw⟩:=hrel;have So:wr.cell? ⟨b2,0,none⟩=some (.func (.func 217) #[] #[]):=by obtain ⟨n,rfl⟩:=hw;exact hc2
   obtain ⟨HA,HW⟩:=aZ ha hw;clear ha d1 d2 hw Oj hc2
   by_cases hlt:k<s.size
   ·cases hp:BB s[k].toNat
    ·have HP:=ab hp;have pp244:=();exact pm244
    ·have HP:=ab hp;exact pm244
   ·obtain rfl:k=s.size:=by omega
    exact pm259
 |clear pp44g;go_quiet ((first | (go_at_call 240;exact fC (CR.o _)) | (go_at_call 188;exact fC (CF.o _))));go_wp2;go_ret;exact ⟨aK (qr (by rw[nQ h1];exact HF.o)).symm,⟨_,rfl⟩⟩
 |go_quiet ((first | (go_at_call 240;exact fC (CR.o _)) | (go_at_call 188;exact fC (CF.o _))));exact pm24):G:=h
theorem pm45(h:G:=by
 exact pm186):G:=h
theorem pm46(h:G:=by
 have hs:=hb.size;refine ⟨qs ++ [q],by simp[hk],by rw[List.flatMap_append];simpa using aR,fun j h1 h2=>?_⟩
 by_cases hj:j<qs.length
 ·rw[List.getElem_append_left hj,List.getElem_append_left (by omega)];refine (ht j hj (by omega)).move (fun b hok hlt=>⟨⟨hok.1,fun e=>?_⟩,(hold b hok.1 (by omega) hok.2).trans (hb.block b hlt)⟩);injection e with e;obtain rfl:g=b:=e;rcases hg with hg | hg
  ·exact hok.2 hg
  ·omega
 ·have rX:j=ts.length:=by simp at h2;omega
  exact pm239):G:=h
theorem pm47(h:G:=by
 obtain ⟨jg,Eb⟩:=ao wr;subst Eb;have GP:=ab (lw.o.trans (fp.mono lw.o.size));have GQ:=ab (bT fp vI.o);have HYc:=ab (bT fp yI.o);have HPc:=ab (Bq.o.later fp);have x0:jg.cell? ⟨w.heap.size,0,none⟩=some (.int .u8 uo):=ah GQ.o 0;have x1:jg.cell? ⟨w.heap.size,1,none⟩=some (.string ⟨xn.toArray⟩):=ah GQ.o 1;have x2:jg.cell? ⟨w.heap.size,2,none⟩=some (.slice ua k0 uc):=ah GQ.o 2;have x3:jg.cell? ⟨w.heap.size,3,none⟩=some (.slice ub k1 ue):=ah GQ.o 3;clear fp ht vI yI Bq lw;go_wp2_with (go_at_call 93;refine (U4.o _).mono ?_;rintro e X4 ⟨rfl,aP⟩;have vI:=ab (bT aP GQ.o);have yI:=ab (bT aP HYc.o);have Bq:=ab (HPc.o.later aP);have lw:=ab (GP.o.trans (aP.mono GP.o.size));have z3:X4.cell? ⟨w.heap.size,3,none⟩=some (.slice ub k1 ue):=ah vI.o 3;clear aP)
 first
 |clear pp47;go_loopw [80] (fun i wr=>∃k:Nat,k<=k1/\i=.int .i64 k/\Below X4.heap.size X4 wr/\R=ee ps.reverse (xs.drop k) (ys.drop k)) (fun i _=>k1 - (intOf i).toNat)
  case atStart=>exact ⟨0,bc _,rfl,ak _ _,by simpa using WZ.o⟩
  case round=>
   obtain ⟨k,hk,rfl,fp,ht⟩:=hrel
   by_cases hlt:k<k1
   ·have br:=ct PV.o hlt;have pp89b:=();exact pm89
   ·obtain rfl:k1=k:=by omega
    exact pm108
 |obtain ⟨S,hS⟩:∃S:World->Prop,S=fun V=>Below X4.heap.size X4 V:=⟨_,rfl⟩;have tP:X4.cell? ⟨w.heap.size,1,none⟩=some (.string ⟨xn.toArray⟩):=ah vI.o 1;have tC:X4.cell? ⟨w.heap.size+1,1,none⟩=some (.string ⟨xn.toArray⟩):=ah yI.o 1;have f0:∀ V,S V->V.cell? ⟨w.heap.size,1,none⟩=some (.string ⟨xn.toArray⟩):=fun V h=>by rw[hS]at h;exact aa h tP
  have f1:∀ V,S V->V.cell? ⟨w.heap.size+1,1,none⟩=some (.string ⟨xn.toArray⟩):=fun V h=>by rw[hS]at h;exact aa h tC
  have dW:S X4.drew:=by rw[hS];exact (ak _ _).drew
  have J1:=HP.o.cases;obtain ⟨HPn,du⟩:=aZ J1 hS;clear hS tP tC J1;refine (wpIn_wide (n:=3)).1 ?_;refine lV S 12 dW fun jO bW=>?_;refine bL 0 64 (.slice pa p0 pc) rfl bW fun cF=>?_;simp only[ag];refine bL 1 65 (.slice pa p0 pc) rfl cF fun fI=>?_;simp only[ag];refine bL 2 66 (.int .i64 (p0:Int)) rfl fI fun gO=>?_;simp only[ag];refine bL 3 67 (.slice pa p0 pc) rfl gO fun iX=>?_;simp only[ag];refine bL 4 68 (.int .i64 (p0:Int)) rfl iX fun jQ=>?_;simp only[ag];refine dm 5 69 (.slice pa p0 p0) rfl (fun V hX=>by rcases HPn.o with ⟨rfl,rfl,rfl⟩ | ⟨b,off,rfl⟩ <;> go_simp) jQ fun kf=>?_;simp only[ag];refine bL 6 70 (.pointer (some ⟨w.heap.size,1,none⟩)) rfl kf fun mK=>?_;simp only[ag];refine dm 7 71 (.string ⟨xn.toArray⟩) rfl (fun V hX=>by have g0:=f0 V hX;go_simp) mK fun sg=>?_;simp only[ag];refine bL 8 72 (.pointer (some ⟨w.heap.size+1,1,none⟩)) rfl sg fun JT=>?_;simp only[ag];refine dm 9 73 (.string ⟨xn.toArray⟩) rfl (fun V hX=>by have g1:=f1 V hX;go_simp) JT fun Cb=>?_;simp only[ag];refine bL 10 74 (.agg #[.string ⟨xn.toArray⟩,.string ⟨xn.toArray⟩]) rfl Cb fun JU=>?_;simp only[ag];refine ce 11 rfl fun K hK=>?_;go_simp;have pQ:Below X4.heap.size X4 (X4.alloc (.cells #[.string ⟨xn.toArray⟩,.string ⟨xn.toArray⟩] 213)).drew:=((ak _ X4).alloc (aF _) _).drew;refine hK _ _ (fun _=>by rw[du.o];exact pQ) (fun _=>?_);clear hK K;have hold:((.slice pa p0 p0:Value)=.slice none 0 0/\p0=0/\hZ ps=[])\/∃b,(.slice pa p0 p0:Value)=.slice (some b) p0 p0/\(hZ ps).length=p0 * 2/\∀ j u,(hZ ps)[j]?=some u->(X4.alloc (.cells #[.string ⟨xn.toArray⟩,.string ⟨xn.toArray⟩] 213)).drew.cell? (b.add j)=some u:=by
   exact pm191
  refine ce 12 rfl fun K hK=>?_;refine iN (.tmp 69) (.tmp 75) 87 rfl 213 i0 (.agg #[.string ByteArray.empty,.string ByteArray.empty]) 2 32 Tryz.underlying87 hi pF iq gV rfl (by decide) (.slice pa p0 p0) p0 (hZ ps) rfl hold ⟨X4.heap.size,0,none⟩ 1 1 [.string ⟨xn.toArray⟩,.string ⟨xn.toArray⟩] rfl rfl (dj (cs:=#[.string ⟨xn.toArray⟩,.string ⟨xn.toArray⟩]) (t:=213) (fr:=(0,0)) (fO X4 _)) (by simp[Value.oneCell']) (by decide) (by unfold maxLen;omega) (by omega) ?_;intro g cap X5 au ap;have zI:Below X4.heap.size X4 X5:=⟨ap.os.trans pQ.os,ap.tape.trans pQ.tape,ap.output.trans pQ.output,aQ pQ.size ap.size,fun b hb=>(ap.block b (bN hb pQ.size) (by simp)).trans (pQ.block b hb)⟩;have W_:=bT zI vI.o;have hY5:=bT zI yI.o;have Dl:=lw.o.trans (zI.mono lw.o.size);rw[<-lM (xn,xn) ps]at au;have rq:=PairsV.own au;have z5:X5.cell? ⟨w.heap.size,3,none⟩=some (.slice ub k1 ue):=ah W_ 3;clear vI yI lw Bq z3;obtain ⟨vI,yI,lw,Bq⟩:=eR W_ hY5 Dl rq;clear W_ hY5 Dl rq au ap pQ zI hold;refine eS hK ?_;clear hK K;refine ce 13 rfl fun K hK=>?_;go_simp;refine eS hK ?_;clear hK K;refine le ?_;go_wp2;go_loopw [80] (fun i wr=>∃k:Nat,k<=k1/\i=.int .i64 k/\Below X5.heap.size X5 wr/\R=ee (ps ++ [(xn,xn)]).reverse (xs.drop k) (ys.drop k)) (fun i _=>k1 - (intOf i).toNat)
  case atStart=>exact ⟨0,bc _,rfl,ak _ _,by simpa using WZ.o⟩
  case round=>
   obtain ⟨k,hk,rfl,fp,ht⟩:=hrel
   by_cases hlt:k<k1
   ·have br:=ct PV.o hlt;exact pm89
   ·obtain rfl:k1=k:=by omega
    exact pm108):G:=h
theorem pm48(h:G:=by
 have fH:=cX bl;have xb:=bX bl;rw[<-bl];clear bl d0 d1 d2;have gD:=HF.o.later fH (fun r=>r.below fH);have pp142b:=();exact pm142):G:=h
theorem pm49(h:G:=by
 have AB:Kp M W2 w4:=H4.o.1.two wI.o.1 wI.o.2.1;have gx:Kp (fun b=>b=aB+1) w4 (w4.setCell ⟨aB+1,0,none⟩ (.int .i64 er)):=iR;have lg:Kp (fun b=>b=aB) (w4.setCell ⟨aB+1,0,none⟩ (.int .i64 er)) ((w4.setCell ⟨aB+1,0,none⟩ (.int .i64 er)).setCell ⟨aB,0,none⟩ (.int .i64 j)):=iR;have Bt:Kp M w4 ((w4.setCell ⟨aB+1,0,none⟩ (.int .i64 er)).setCell ⟨aB,0,none⟩ (.int .i64 j)):=(gx.mono (fun b _ h=>by subst h;exact wI.o.2.2.2.1)).trans (lg.mono (fun b _ h=>by subst h;exact wI.o.2.2.1));have xa5:=(gx.same _ (bn H4.o.2.2.2.1) (by omega)).trans H4.o.2.2.2.1;refine ⟨trivial,(AB.trans Bt).from _,rfl,k3,er,Ox,HG.o.2.2.2.2.2.2.1,?_,iQ xa5,(HG.o.2.2.2.2.1.trans AB).trans Bt⟩;exact (lg.same _ (bn (iQ H4.o.2.2.1 (v:=.int .i64 er))) (by omega)).trans (iQ H4.o.2.2.1)):G:=h
theorem pm50(h:G:=by
 refine hK _ _ (fun _=>by rw[du.o];exact eL.o) (fun _=>?_);clear hK K;refine ce 29 rfl fun K hK=>?_;go_simp;refine hK _ _ (fun _=>by rw[du.o];exact eL.o) (fun _=>?_);clear hK K;refine ce 30 rfl fun K hK=>?_;go_simp;refine hK _ _ (fun _=>by rw[du.o];exact eL.o) (fun _=>?_);clear hK K;refine le ?_
 cases V with
 | false=>
  have HZ:=ab (zF.o fun h=>by
   subst h;have:=congrArg Prod.snd (HX.o.1.trans HX.o.2.symm);have e:=HV.o;rw[(gP _ _).2 (by rw[show tx=ty from this])]at e;cases e)
  go_wp2;go_ret;exact ⟨by rw[HZ.o];rfl,HE.o.1.tr eL.o⟩
 | true=>
  go_wp2;go_roundw
  case rel=>exact ⟨j+1,by omega,by go_num,eL.o,pu HT.o br nk (by rw[<-HX.o.1,<-HX.o.2];have:=(gP _ _).1 HV.o.symm;injection this with e _;rw[e])⟩
  case measure=>simp[intOf];omega):G:=h
theorem pm51(h:G:=by
 have jH:=eU;gi_wp2;obtain ⟨W1,bR⟩:=ao (((w.alloc (.cells #[.bool false,.string ⟨n.toArray⟩,.slice qa k0 qc] 43)).alloc (.cells #[.bool false,.string ⟨#[]⟩,.slice none 0 0] 43)).alloc (.cells #[.bool false,.string ⟨n.toArray⟩,.slice none 0 0] 43));have iJ:=xW bR;have x1:=rW bR;have x2:=qd bR;rw[<-bR];clear bR;obtain ⟨dO,jI⟩:=aZ iJ x1
 first
 |clear pp51a;have vW:=ab (Fills.start (R:=w.heap.size+1+1) (mk:=fun rr=>#[.bool false,.string ⟨n.toArray⟩,rr]) (Row:=fun r W=>RowT W1.heap.size r ((a.map aM).take 0) W) x2 (RowT.nil _ _));clear iJ x1 x2;gi_loopw [25] (fun i wr=>∃k:Nat,k<=k0/\i=.int .i64 k/\∃row,Fills 43 (w.heap.size+1+1) W1.heap.size (fun rr=>#[.bool false,.string ⟨n.toArray⟩,rr]) (fun r W=>RowT W1.heap.size r ((a.map aM).take k) W) W1 wr row) (fun i _=>k0 - (intOf i).toNat)
  case atStart=>exact ⟨0,bc _,rfl,_,vW.o⟩
  case round=>
   have pp0a:=();exact pm0
 |clear pp51b;have vW:=ab (Fills.start (R:=w.heap.size+1+1) (mk:=fun rr=>#[.bool false,.string ⟨n.toArray⟩,rr]) (Row:=fun r W=>RowT W1.heap.size r ((a.map (eT f)).take 0) W) x2 (RowT.nil _ _));clear iJ x1 x2;gi_loopw [30] (fun i wr=>∃k:Nat,k<=k0/\i=.int .i64 k/\∃row,Fills 43 (w.heap.size+1+1) W1.heap.size (fun rr=>#[.bool false,.string ⟨n.toArray⟩,rr]) (fun r W=>RowT W1.heap.size r ((a.map (eT f)).take k) W) W1 wr row) (fun i _=>k0 - (intOf i).toNat)
  case atStart=>exact ⟨0,bc _,rfl,_,vW.o⟩
  case round=>
   have pp139c:=();exact pm139
 |have vW:=ab (Fills.start (R:=w.heap.size+1+1) (mk:=fun rr=>#[.bool false,.string ⟨n.toArray⟩,rr]) (Row:=fun r W=>RowT W1.heap.size r ((a.map (bY kd.ts sc)).take 0) W) x2 (RowT.nil _ _));clear iJ x1 x2;gi_loopw [47] (fun i wr=>∃k:Nat,k<=k0/\i=.int .i64 k/\∃row,Fills 43 (w.heap.size+1+1) W1.heap.size (fun rr=>#[.bool false,.string ⟨n.toArray⟩,rr]) (fun r W=>RowT W1.heap.size r ((a.map (bY kd.ts sc)).take k) W) W1 wr row) (fun i _=>k0 - (intOf i).toNat)
  case atStart=>exact ⟨0,bc _,rfl,_,vW.o⟩
  case round=>
   exact pm139):G:=h
theorem pm52(h:G:=by
 have ky:=HV.o.2.2.2.2 _ (az lC);have Ay:=(oO l 0).1 Zl.o _ (az lC);obtain ⟨⟨s,f⟩,Hn⟩:∃x,x=l[j]:=⟨_,rfl⟩;rw[<-Hn]at cV ky hs hf Ay;simp only at cV ky hs hf Ay;rw[cV]at gt;obtain ⟨lP,GH⟩:=ao (h_ ((wq.alloc (.cells #[.int .i64 j] 3)).alloc (.cells #[.int .u8 a0,.string a1,.slice a2 a3 a4,.slice a5 a6 a7,.int .u8 b0,.string b1,.slice b2 b3 b4,.slice b5 b6 b7] 50)) ⟨a0,a1,a2,a3,a4,a5,a6,a7⟩ ⟨b0,b1,b2,b3,b4,b5,b6,b7⟩);have DZ:(j:Int)<(n1:Int):=by omega
 have wH:=ab GH;clear Hn hok c0 c1 c2 c3 c4 c5 c6 c7 cV GH;gi_wp2_with (gi_at_call 49;refine aL.2 ((my ⟨a0,a1,a2,a3,a4,a5,a6,a7⟩ ⟨b0,b1,b2,b3,b4,b5,b6,b7⟩ _).mono ?_);rintro e w' ⟨rfl,rfl⟩);rw[<-wH.o]
 first
 |clear pp52;have pp16:=();exact pm16
 |exact pm16):G:=h
theorem pm53(h:G:=by
 refine dm 1 67 (.slice (some ⟨b,off,none⟩) n2 qe) rfl (fun V hX=>by obtain ⟨g0,_⟩:=f0 V hX;go_simp) bW fun cF=>?_;simp only[ag];refine bL 2 68 (.int .i64 j) rfl bW fun cF=>?_;simp only[ag];refine bL 3 69 (.pointer (some ⟨b,off+j * 4,none⟩)) rfl bW fun cF=>?_;simp only[ag];refine bL 4 70 (.pointer (some ⟨b,off+j * 4,none⟩)) rfl bW fun cF=>?_;simp only[ag];refine dm 5 71 (.string ⟨nx.toArray⟩) rfl (fun V hX=>by obtain ⟨g0,_⟩:=f1 V hX;go_simp) bW fun cF=>?_;simp only[ag];refine bL 6 72 (.pointer (some ⟨w.heap.size+1,1,none⟩)) rfl bW fun cF=>?_;simp only[ag];refine dm 7 73 (.slice (some ⟨b2,off2,none⟩) n2 re) rfl (fun V hX=>by obtain ⟨_,g0⟩:=f0 V hX;go_simp) bW fun cF=>?_;simp only[ag]
 first
 |clear pp53;refine bL 8 74 (.int .i64 j) rfl bW fun cF=>?_
  simp only[ag];refine bL 9 75 (.pointer (some ⟨b2,off2+j * 4,none⟩)) rfl bW fun cF=>?_;simp only[ag];refine bL 10 76 (.pointer (some ⟨b2,off2+j * 4,none⟩)) rfl bW fun cF=>?_;simp only[ag];refine dm 11 77 (.string ⟨ny.toArray⟩) rfl (fun V hX=>by obtain ⟨g0,_⟩:=f2 V hX;go_simp) bW fun cF=>?_;simp only[ag];refine bL 12 78 (.bool true) rfl bW fun cF=>?_;simp only[ag];refine bL 13 79 (.bool true) rfl bW fun cF=>?_;simp only[ag];refine KH 14 80 rfl bW fun cF=>?_;simp only[ag];refine KH 15 81 rfl bW fun cF=>?_;simp only[ag];refine KH 16 82 rfl bW fun cF=>?_;simp only[ag];refine KH 17 83 rfl bW fun cF=>?_;simp only[ag];refine KH 18 84 rfl bW fun cF=>?_;simp only[ag];refine KH 19 85 rfl bW fun cF=>?_;simp only[ag];refine KH 20 86 rfl bW fun cF=>?_;simp only[ag];refine KH 21 87 rfl bW fun cF=>?_;simp only[ag];refine KH 22 88 rfl bW fun cF=>?_;simp only[ag];refine KH 23 89 rfl bW fun cF=>?_;simp only[ag];refine KH 24 90 rfl bW fun cF=>?_;simp only[ag];refine KH 25 91 rfl bW fun cF=>?_;simp only[ag];refine KH 26 92 rfl bW fun cF=>?_;simp only[ag];refine KH 27 93 rfl bW fun cF=>?_;simp only[ag];refine nnA 28 94 rfl bW fun cF=>?_;simp only[ag];refine KH 29 95 rfl bW fun cF=>?_;simp only[ag];refine bL 30 96 (.bool true) rfl bW fun cF=>?_;simp only[ag];refine le ?_;go_wp2;go_ret;exact ⟨by rw[HZ.o];rfl,HE.o.1.tr HB.o.drew⟩
 |refine bL 8 74 (.int .i64 j) rfl bW fun cF=>?_
  simp only[ag];refine bL 9 75 (.pointer (some ⟨b2,off2+j * 4,none⟩)) rfl bW fun cF=>?_;simp only[ag];refine bL 10 76 (.pointer (some ⟨b2,off2+j * 4,none⟩)) rfl bW fun cF=>?_;simp only[ag];refine dm 11 77 (.string ⟨nx.toArray⟩) rfl (fun V hX=>by obtain ⟨g0,_⟩:=f2 V hX;go_simp) bW fun cF=>?_;simp only[ag];refine bL 12 78 (.bool false) rfl bW fun cF=>?_;simp only[ag];refine bL 13 79 (.bool false) rfl bW fun cF=>?_;simp only[ag];refine bL 14 80 (.pointer (some ⟨w.heap.size,1,none⟩)) rfl bW fun cF=>?_;simp only[ag];refine dm 15 81 (.slice (some ⟨b,off,none⟩) n2 qe) rfl (fun V hX=>by obtain ⟨g0,_⟩:=f0 V hX;go_simp) bW fun cF=>?_;simp only[ag];refine bL 16 82 (.int .i64 j) rfl bW fun cF=>?_;simp only[ag];refine bL 17 83 (.pointer (some ⟨b,off+j * 4,none⟩)) rfl bW fun cF=>?_;simp only[ag];refine bL 18 84 (.pointer (some ⟨b,off+j * 4+1,none⟩)) rfl bW fun cF=>?_;simp only[ag];refine dm 19 85 (.agg #[.bool u.v,.string u.n,.slice u.a u.l u.c]) rfl (fun V hX=>by obtain ⟨_,g0,g1,g2⟩:=f1 V hX;go_simp) bW fun cF=>?_;simp only[ag];refine bL 21 87 (.pointer (some ⟨w.heap.size+1,1,none⟩)) rfl bW fun cF=>?_;simp only[ag];refine dm 22 88 (.slice (some ⟨b2,off2,none⟩) n2 re) rfl (fun V hX=>by obtain ⟨_,g0⟩:=f0 V hX;go_simp) bW fun cF=>?_;simp only[ag];refine bL 23 89 (.int .i64 j) rfl bW fun cF=>?_;simp only[ag];refine bL 24 90 (.pointer (some ⟨b2,off2+j * 4,none⟩)) rfl bW fun cF=>?_;simp only[ag];refine bL 25 91 (.pointer (some ⟨b2,off2+j * 4+1,none⟩)) rfl bW fun cF=>?_;simp only[ag];refine dm 26 92 (.agg #[.bool v.v,.string v.n,.slice v.a v.l v.c]) rfl (fun V hX=>by obtain ⟨_,g0,g1,g2⟩:=f2 V hX;go_simp) bW fun cF=>?_;simp only[ag];refine twM 20 27 rfl rfl (fun K hK=>?_) (fun K hK=>?_)
  case _=>
   have hb1:Below W2.heap.size W2 (wz.drew.alloc (.cells #[.bool u.v,.string u.n,.slice u.a u.l u.c] 43)):=HB.o.drew.alloc HB.o.size _;have bF:Below W2.heap.size W2 ((wz.drew.alloc (.cells #[.bool u.v,.string u.n,.slice u.a u.l u.c] 43)).alloc (.cells #[.bool v.v,.string v.n,.slice v.a v.l v.c] 43)):=hb1.alloc hb1.size _;go_simp;refine hK _ _ (fun _=>by rw[du.o];exact hb1) (fun _=>?_);clear hK K;refine ce 27 rfl fun K hK=>?_;go_simp;refine hK _ _ (fun _=>by rw[du.o];exact bF) (fun _=>?_);clear hK K;have pF:((wz.drew.alloc (.cells #[.bool u.v,.string u.n,.slice u.a u.l u.c] 43)).alloc (.cells #[.bool v.v,.string v.n,.slice v.a v.l v.c] 43)).heap[wz.heap.size]?=some (.cells #[.bool u.v,.string u.n,.slice u.a u.l u.c] 43 (0,0)):=(bK _ _ _ (by simp)).trans (aj (by simp));have iq:((wz.drew.alloc (.cells #[.bool u.v,.string u.n,.slice u.a u.l u.c] 43)).alloc (.cells #[.bool v.v,.string v.n,.slice v.a v.l v.c] 43)).heap[wz.heap.size+1]?=some (.cells #[.bool v.v,.string v.n,.slice v.a v.l v.c] 43 (0,0)):=aj (by simp);refine ce 28 rfl fun K hK=>?_;go_simp;refine aL.2 ((Gz.o _ bF _ _ pF iq).mono ?_);clear pF iq;rintro _ A ⟨rfl,hA⟩;have eL:=ab (bF.tr hA);clear hA hb1 bF;exact pm50
  have hb1:Below W2.heap.size W2 (wz.drew.alloc (.cells #[.bool v.v,.string v.n,.slice v.a v.l v.c] 43)):=HB.o.drew.alloc HB.o.size _;have bF:Below W2.heap.size W2 ((wz.drew.alloc (.cells #[.bool v.v,.string v.n,.slice v.a v.l v.c] 43)).alloc (.cells #[.bool u.v,.string u.n,.slice u.a u.l u.c] 43)):=hb1.alloc hb1.size _;go_simp;refine hK _ _ (fun _=>by rw[du.o];exact hb1) (fun _=>?_);clear hK K;refine ce 20 rfl fun K hK=>?_;go_simp;refine hK _ _ (fun _=>by rw[du.o];exact bF) (fun _=>?_);clear hK K;have pF:((wz.drew.alloc (.cells #[.bool v.v,.string v.n,.slice v.a v.l v.c] 43)).alloc (.cells #[.bool u.v,.string u.n,.slice u.a u.l u.c] 43)).heap[wz.heap.size]?=some (.cells #[.bool v.v,.string v.n,.slice v.a v.l v.c] 43 (0,0)):=(bK _ _ _ (by simp)).trans (aj (by simp));have iq:((wz.drew.alloc (.cells #[.bool v.v,.string v.n,.slice v.a v.l v.c] 43)).alloc (.cells #[.bool u.v,.string u.n,.slice u.a u.l u.c] 43)).heap[wz.heap.size+1]?=some (.cells #[.bool u.v,.string u.n,.slice u.a u.l u.c] 43 (0,0)):=aj (by simp);refine ce 28 rfl fun K hK=>?_;go_simp;refine aL.2 ((Gz.o _ bF _ _ iq pF).mono ?_);clear iq pF;rintro _ A ⟨rfl,hA⟩;have eL:=ab (bF.tr hA);clear hA hb1 bF;exact pm50):G:=h
theorem pm54(h:G:=by
 have pp138a:=();exact pm138):G:=h
theorem pm55(h:G:=by
 obtain ⟨b,off,u,rfl,_,hu,c0,c1,c2⟩:=ea.o.get dG;obtain ⟨d0,d1,d2⟩:=kB ar c0 c1 c2
 first
 |clear pp55a;obtain ⟨uv,un,ua,ul,uc⟩:=u;obtain ⟨W2,bl⟩:=ao (wr.alloc (.cells #[.bool uv,.string un,.slice ua ul uc] 43));have bF:=cX bl;have ym:=bX bl;have u0:W2.cell? ⟨wr.heap.size,0,none⟩=some (.bool uv):=ah ym 0;have u1:W2.cell? ⟨wr.heap.size,1,none⟩=some (.string un):=ah ym 1;have u2:W2.cell? ⟨wr.heap.size,2,none⟩=some (.slice ua ul uc):=ah ym 2;have gD:=hF.later bF (fun r=>r.below bF);obtain ⟨P0,P1,P2,P3,P4,P5,P6,P7,P8⟩:=ir (gD.other (by omega) Pi.o);have CC:=sf ⟨⟨so,sn,sa,sl,sc,sb,sm,se⟩,⟨fo,fn,fa,fl,fc,fb,fm,fe⟩,ca,cl,cc⟩ ps Di.o.1 Di.o.2 L ins JE.o.2.2 JE.o.1 _ vL a[k1] (F6.o.mem (az dG)) ok W2 ⟨uv,un,ua,ul,uc⟩ (JC.o.later (ar.tr bF)) ((oH.o.1.later (ar.tr bF)).strs) ((hu.later ar).later bF);simp only[PlQ.cells,PlQ.val,TQ.val]at CC P0 P1 P2 P3 P4 P5 P6 P7 P8;have fS:=pH (c:=ps.reverse) (ins:=ins) dG;rw[zE]at fS;have fZ:=fun (h:lD ps.reverse ins a[k1]=none)=>zC (c:=ps.reverse) (ins:=ins) (az dG) h;obtain ⟨U,hU⟩:=ao (lD ps.reverse ins a[k1]);rw[<-hU]at CC fS fZ;have kV:=ab CC;have uf:=aC fS BU;have zF:=ab fZ;obtain ⟨qs,ew,au,gh⟩:=gD.row;rw[BU]at ew au;have zG:=bE ew au gh;have eW:=ab gD;have dy:=aC ar bF;rw[bl]at kV u0 u1 u2 P0 P1 P2 P3 P4 P5 P6 P7 P8;have gF:=ab bl;clear hu c0 c1 c2 ym hF gD ew au gh CC fS fZ hU zE BU ar bF bl
  cases U with
  | none=>
   go_wp2_with (go_at_call 94;refine kV.o.mono ?_;rintro e w4 ⟨⟨⟨pv,pn,pa,pl,pc⟩,rfl,hp⟩,aP⟩;simp only[Option.isSome]at hp ⊢;rw[<-gF.o]at aP;have bi:Below w4.heap.size w4 (w4.alloc (.cells #[.bool pv,.string pn,.slice pa pl pc] 43)):=cQ;have sV:=eW.o.later (aP.tr bi) (fun r=>r.below (aP.tr bi));have x5:=sV.other (by omega) MS.o;obtain ⟨e0,e1,e2,e3,z0,z1,z2,z3⟩:=dh x5;have H5:=aC (aP.tr bi) x5;clear hp aP bi sV x5);exact pm258
  | some u'=>
   go_wp2_with (first | (go_at_call 94;refine kV.o.mono ?_;rintro e w4 ⟨⟨⟨pv,pn,pa,pl,pc⟩,rfl,hp⟩,aP⟩;simp only[Option.isSome]at hp ⊢;rw[<-gF.o]at aP hp;have bi:Below w4.heap.size w4 (w4.alloc (.cells #[.bool pv,.string pn,.slice pa pl pc] 43)):=cQ;have sV:=eW.o.later (aP.tr bi) (fun r=>r.below (aP.tr bi));have r2:(w4.alloc (.cells #[.bool pv,.string pn,.slice pa pl pc] 43)).cell? ⟨w.heap.size+1+1+1,2,none⟩=some (.slice fJ k1 fK):=(sV.cell 2).trans rfl;have HF5:=ab sV;have JD:=aC ((hp u' rfl).later bi) (aP.tr bi);have HO:=ab (bh zG.o.2.1 (fun b _ hlt=>(aP.tr bi).block b hlt));have pP:((w4.alloc (.cells #[.bool pv,.string pn,.slice pa pl pc] 43)).alloc (.cells #[.bool pv,.string pn,.slice pa pl pc] 43)).heap.size=w4.heap.size+2:=(by simp);have Jr:=sV.size;simp only[World.size_alloc]at Jr;clear hp aP bi sV) | (at_builtin;refine wpList_append_lies _ rfl _ _ 33 rfl W1.heap.size 43 pY (.agg #[.bool false,.string ByteArray.empty,.slice none 0 0]) 3 48 Tryz.underlying33 hi yF vX yX rfl (by decide) (.slice fJ k1 fK) k1 _ rfl (HO.o.alloc _) ⟨w4.heap.size+1,0,none⟩ 1 1 [.bool pv,.string pn,.slice pa pl pc] rfl rfl (dj (cs:=#[.bool pv,.string pn,.slice pa pl pc]) (t:=43) (fr:=(0,0)) (aj (by simp))) (by simp[Value.oneCell']) (by decide) (by unfold maxLen;omega) (by omega) (by simp;omega) (w4.heap.size+2) pP ?_;intro g eG w6 aR ap hg ev;have h4:=eW.o.at4 (kk:=2) zG.o.2.1 JD.o.2 ap;have d3:=h4.2.2;have z3:=h4.2.1;have HG:=cC aR ap hg ev;clear aR ap hg ev h4));go_roundw
   case rel=>
    have pp110:=();exact pm110
   case measure=>simp[intOf];omega
 |clear pp55b;have cb:(l.take k).length=k:=by rw[dX];omega
  rw[cb]at hR ⊢;have HU:=ab ((hu.later ar).later (W':=wr.alloc (.cells #[.bool u.v,.string u.n,.slice u.a u.l u.c] 43)) cQ);obtain ⟨dy,HR,eh⟩:=cD ar hR cb;clear hu ar hR cb c0 c1 c2;have CC:=ab (HCp.o l[k] (az dG) _ _ u HU.o);go_wp2_with fail;refine CC.o.mono ?_;rintro _ A ⟨p,rfl,hp,hA⟩;obtain ⟨qs,ew,au,gh⟩:=HR.o;rw[eh.o]at ew au;have cv:Below wr.heap.size wr A:=cQ.trans (hA.mono (by simp));have oG:=cv.size;have Px:=dy.o.size;have HO:=ab (bh au (fun b _ hlt=>cv.block b hlt));have HH:=bE ew au gh;have SK:=aC hp cv;clear ew au gh hp hA cv;have pP:(A.alloc (.cells #[.bool p.v,.string p.n,.slice p.a p.l p.c] 43)).heap.size=A.heap.size+1:=by simp
  unfold TQ.val;go_wp2_with (at_builtin;refine wpList_append_lies _ rfl _ _ 33 rfl w.heap.size 43 i0 (.agg #[.bool false,.string ByteArray.empty,.slice none 0 0]) 3 48 Tryz.underlying33 hi pF iq gV rfl (by decide) _ _ _ rfl (HO.o.alloc _) ⟨A.heap.size,0,none⟩ 1 1 p.cells rfl rfl (dj (cs:=#[.bool p.v,.string p.n,.slice p.a p.l p.c]) (t:=43) (fr:=(0,0)) (fO _ _)) (by simp[TQ.cells,Value.oneCell']) (by decide) (by unfold maxLen;omega) (by omega) (by simp;omega) (A.heap.size+1) pP ?_;intro g eG w4 aR ap hg ev;have HG:=bE aR ap hg;clear aR ap hg ev pP);go_roundw
  case rel=>
   have pp248:=();exact pm248
  case measure=>simp[intOf];omega
 |clear pp55c;have cb:((a.map aM).take k).length=k:=by rw[dX];have:=dJ.o;simp;omega
  obtain ⟨ra,rc,rfl⟩:=hF.row.slice;rw[cb]at hF;have HU:=ab (hu.later ar);exact pm9
 |clear pp55d;have cb:((a.map (eT f)).take k).length=k:=by rw[dX];have:=dJ.o;simp;omega
  obtain ⟨ra,rc,rfl⟩:=hF.row.slice;rw[cb]at hF;have HU:=ab (hu.later ar);obtain ⟨HF,eh,dy⟩:=cD hF cb ar;clear hu ar hF c0 c1 c2 cb;gi_wp2;obtain ⟨W2,bl⟩:=ao (wr.alloc (.cells #[.bool u.v,.string u.n,.slice u.a u.l u.c] 43));have pp48b:=();exact pm48
 |clear pp55e;have cb:((a.map aM).take k1).length=k1:=by rw[dX];have:=dJ.o;simp;omega
  obtain ⟨fJ,fK,rfl⟩:=hF.row.slice;rw[cb]at hF;have HU:=ab (hu.later ar);obtain ⟨HF,eh,dy⟩:=cD hF cb ar;clear hu ar hF c0 c1 c2 cb;gi_wp2;obtain ⟨W2,bl⟩:=ao (jg.alloc (.cells #[.bool u.v,.string u.n,.slice u.a u.l u.c] 43));have pp48c:=();exact pm48
 |clear pp55f;have cb:((a.map (iB nx z)).take k1).length=k1:=by rw[dX];have:=dJ.o;simp;omega
  obtain ⟨fJ,fK,rfl⟩:=hF.row.slice;rw[cb]at hF;have HU:=ab (hu.later ar);obtain ⟨HF,eh,dy⟩:=cD hF cb ar;clear hu ar hF c0 c1 c2 cb;gi_wp2;obtain ⟨W2,bl⟩:=ao (Ep.alloc (.cells #[.bool u.v,.string u.n,.slice u.a u.l u.c] 43));have pp48d:=();exact pm48
 |clear pp55g;have cb:((a.map (bY kd.ts c)).take k1).length=k1:=by rw[dX];have:=pR.o;simp;omega
  obtain ⟨ra,rc,rfl⟩:=hF.row.slice;rw[cb]at hF;have HU:=ab (hu.later ar);obtain ⟨HF,eh,dy⟩:=cD hF cb ar;clear hu ar hF c0 c1 c2 cb;gi_wp2;obtain ⟨W2,bl⟩:=ao (Ep.alloc (.cells #[.bool u.v,.string u.n,.slice u.a u.l u.c] 43));have pp48e:=();exact pm48
 |clear pp55h;have cb:(a.take k).length=k:=by rw[dX];omega
  obtain ⟨ra,rc,rfl⟩:=hF.row.slice;rw[cb]at hF;have HU:=ab (hu.later ar);have pp9a:=();exact pm9
 |clear pp55i;obtain ⟨uv,un,ua,ul,uc⟩:=u;obtain ⟨W2,bl⟩:=ao (wr.alloc (.cells #[.bool uv,.string un,.slice ua ul uc] 43));have bF:=cX bl;have ym:=bX bl;have u0:W2.cell? ⟨wr.heap.size,0,none⟩=some (.bool uv):=ah ym 0;have u1:W2.cell? ⟨wr.heap.size,1,none⟩=some (.string un):=ah ym 1;have u2:W2.cell? ⟨wr.heap.size,2,none⟩=some (.slice ua ul uc):=ah ym 2;have gD:=hF.later bF (fun r=>r.below bF);obtain ⟨P0,P1,P2,P3,P4,P5,P6,P7,P8⟩:=ir (gD.other (by omega) Pi.o);have CC:=fd.o a[k] (az dG) (ng.o.mem (az dG)) ok W2 ⟨uv,un,ua,ul,uc⟩ (JC.o.later (ar.tr bF)) (oH.o.later (ar.tr bF)) ((hu.later ar).later bF);simp only[PlQ.cells,PlQ.val,TQ.val]at CC P0 P1 P2 P3 P4 P5 P6 P7 P8;have fS:=pH (c:=ps.reverse) (ins:=ins) dG;rw[zE]at fS;have fZ:=fun (h:lD ps.reverse ins a[k]=none)=>zC (c:=ps.reverse) (ins:=ins) (az dG) h;obtain ⟨U,hU⟩:=ao (lD ps.reverse ins a[k]);rw[<-hU]at CC fS fZ;have kV:=ab CC;have uf:=aC fS BU;have zF:=ab fZ;obtain ⟨qs,ew,au,gh⟩:=gD.row;rw[BU]at ew au;have zG:=bE ew au gh;have eW:=ab gD;have dy:=aC ar bF;rw[bl]at kV u0 u1 u2 P0 P1 P2 P3 P4 P5 P6 P7 P8;have gF:=ab bl;clear hu c0 c1 c2 ym hF gD ew au gh CC fS fZ hU zE BU ar bF bl
  cases U with
  | none=>
   go_wp2_with (go_at_call 94;refine kV.o.mono ?_;rintro e w4 ⟨⟨⟨pv,pn,pa,pl,pc⟩,rfl,hp⟩,aP⟩;simp only[Option.isSome]at hp ⊢;rw[<-gF.o]at aP;have bi:Below w4.heap.size w4 (w4.alloc (.cells #[.bool pv,.string pn,.slice pa pl pc] 43)):=cQ;have sV:=eW.o.later (aP.tr bi) (fun r=>r.below (aP.tr bi));have x5:=sV.other (by omega) MS.o;obtain ⟨e0,e1,e2,z0,z1,z2⟩:=fX x5;have H5:=aC (aP.tr bi) x5;clear hp aP bi sV x5);obtain ⟨W6,cP,x6,k6,g0,g1,g2⟩:=ui H5.o.2 (.bool false) (.string ⟨#[]⟩) (.slice none 0 0);rw[<-cP];have HE:=ab (show R=none by rw[zD.o,zF.o (by simp)];rfl);refine bI (v:=.tuple #[TQ.val ⟨false,⟨#[]⟩,none,0,0⟩,.bool false]) (by simp[TQ.val,results,Tryz.results94,go_sem,g0,g1,g2]) rfl ⟨⟨⟨false,⟨#[]⟩,none,0,0⟩,by rw[HE.o];rfl,fun u hu=>by rw[HE.o]at hu;cases hu⟩,Below.kp1 ((dy.o.1.tr dy.o.2).tr H5.o.1) k6 (by omega)⟩
  | some u'=>
   go_wp2_with (first | (go_at_call 94;refine kV.o.mono ?_;rintro e w4 ⟨⟨⟨pv,pn,pa,pl,pc⟩,rfl,hp⟩,aP⟩;simp only[Option.isSome]at hp ⊢;rw[<-gF.o]at aP hp;have bi:Below w4.heap.size w4 (w4.alloc (.cells #[.bool pv,.string pn,.slice pa pl pc] 43)):=cQ;have sV:=eW.o.later (aP.tr bi) (fun r=>r.below (aP.tr bi));have r2:(w4.alloc (.cells #[.bool pv,.string pn,.slice pa pl pc] 43)).cell? ⟨w.heap.size+1+1+1,2,none⟩=some (.slice ra k rc):=(sV.cell 2).trans rfl;have HF5:=ab sV;have JD:=aC ((hp u' rfl).later bi) (aP.tr bi);have HO:=ab (bh zG.o.2.1 (fun b _ hlt=>(aP.tr bi).block b hlt));have pP:((w4.alloc (.cells #[.bool pv,.string pn,.slice pa pl pc] 43)).alloc (.cells #[.bool pv,.string pn,.slice pa pl pc] 43)).heap.size=w4.heap.size+2:=(by simp);have Jr:=sV.size;simp only[World.size_alloc]at Jr;clear hp aP bi sV) | (at_builtin;refine wpList_append_lies _ rfl _ _ 33 rfl W1.heap.size 43 i0 (.agg #[.bool false,.string ByteArray.empty,.slice none 0 0]) 3 48 Tryz.underlying33 hi pF iq gV rfl (by decide) (.slice ra k rc) k _ rfl (HO.o.alloc _) ⟨w4.heap.size+1,0,none⟩ 1 1 [.bool pv,.string pn,.slice pa pl pc] rfl rfl (dj (cs:=#[.bool pv,.string pn,.slice pa pl pc]) (t:=43) (fr:=(0,0)) (aj (by simp))) (by simp[Value.oneCell']) (by decide) (by unfold maxLen;omega) (by omega) (by simp;omega) (w4.heap.size+2) pP ?_;intro g eG w6 aR ap hg ev;have h4:=eW.o.at4 (kk:=2) zG.o.2.1 JD.o.2 ap;have d3:=h4.2.2;have z3:=h4.2.1;have HG:=cC aR ap hg ev;clear aR ap hg ev h4));go_roundw
   case rel=>
    exact pm110
   case measure=>simp[intOf];omega
 |clear pp55j;have cb:((a.map (bY kd.ts sc)).take k).length=k:=by rw[dX];have:=dJ.o;simp;omega
  obtain ⟨ra,rc,rfl⟩:=hF.row.slice;rw[cb]at hF;have HU:=ab (hu.later ar);obtain ⟨HF,eh,dy⟩:=cD hF cb ar;clear hu ar hF c0 c1 c2 cb;gi_wp2;obtain ⟨W2,bl⟩:=ao (wr.alloc (.cells #[.bool u.v,.string u.n,.slice u.a u.l u.c] 43));exact pm48
 |clear pp55k;have cb:((a.map (eT f)).take k).length=k:=by rw[dX];have:=dJ.o;simp;omega
  obtain ⟨ra,rc,rfl⟩:=hF.row.slice;rw[cb]at hF;have HU:=ab (hu.later ar);have pp9b:=();exact pm9
 |have cb:((a.map (bY kd.ts sc)).take k).length=k:=by rw[dX];have:=dJ.o;simp;omega
  obtain ⟨ra,rc,rfl⟩:=hF.row.slice;rw[cb]at hF;have HU:=ab (hu.later ar);have pp9c:=();exact pm9):G:=h
theorem pm56(h:G:=by
 obtain ⟨nF4,nT4,dT,ks,j7⟩:=H4.o.2.1 (by simp);have AB:Kp M W2 w4:=H4.o.1.two wI.o.1 wI.o.2.1;have gx:Kp (fun b=>b=aB+1) w4 (w4.setCell ⟨aB+1,0,none⟩ (.int .i64 0)):=iR;have Bt:Kp M w4 (w4.setCell ⟨aB+1,0,none⟩ (.int .i64 0)):=gx.mono (fun b _ h=>by subst h;exact wI.o.2.2.2.1);refine ⟨AB.trans Bt,k3,nF4,nT4,HG.o.2.2.2.2.2.2.1,j7.kpx gx (fun b h=>by subst h;exact wI.o.2.2.2.1) (by omega) (by omega) (by omega),by have:=HG.o.1;simp;omega,by have:=HG.o.2.1;simp;omega,HG.o.2.2.2.2.2.1 (by simp),iQ H4.o.2.2.1,?_,(HG.o.2.2.2.2.1.trans AB).trans Bt⟩;exact (gx.same _ (bn H4.o.2.2.2.1) (by omega)).trans H4.o.2.2.2.1):G:=h
theorem pm57(h:G:=by
 obtain ⟨W7,LC⟩:=ao (w6.alloc (.cells #[.int .u8 p0,.string p1,.slice p2 p3 p4,.slice p5 p6 p7] 36));rw[<-LC]at fD ⊢;have y7:=bX LC;have xR:=bT (H6.o.tr fD) Hr.o.2.2.1;have xT:=bT (H6.o.tr fD) Hr.o.2.1;have hlw:=cI.size;have zdo:=GA.o.2.1;have zdp:=H5.o.size;have SG:=x_.o;have zdq:=dO.o.size;have hR1:=(bn jI.o);have xR2:=(bm (F:=3) xR (.slice (some ⟨w6.heap.size,0,none⟩) 1 1)).trans rfl;have kR:Kp (fun b=>b=w.heap.size+1+1) W7 (W7.setCell ⟨w.heap.size+1+1,3,none⟩ (.slice (some ⟨w6.heap.size,0,none⟩) 1 1)):=⟨rfl,rfl,rfl,by simp,fun c _ hc=>d9 _ _ _ _ (by simpa using hc)⟩;have r3:=ah xR 3
 first
 |clear pp57;have rz:=ac xR 3;have HPp:=ab hp;have QX:=bE (H6.o.tr fD) y7 fD;have IR:=bE xR2 kR xT;clear hp cI fD y7 xR xT xR2 kR LC;refine ce 9 rfl fun K hK=>?_;go_simp;refine eS hK ?_;clear hK K;refine ce 10 rfl fun K hK=>?_;go_simp;refine eS hK ?_;clear hK K r3 rz;refine le ?_;obtain ⟨W9,rO⟩:=ao (W7.setCell ⟨w.heap.size+1+1,3,none⟩ (.slice (some ⟨w6.heap.size,0,none⟩) 1 1));have Yf:=IR.o.1;have NE:=IR.o.2.1;rw[<-rO]at Yf NE ⊢;have zdr:=QX.o.1.size;have Yg:=(NE.same _ (bn IR.o.2.2) (by omega)).trans IR.o.2.2;have y9:=(NE.same _ (bn QX.o.2.1) (by omega)).trans QX.o.2.1;have hF9:FormV (W1.heap.size<=·) W9 (FQ.val ⟨p0,p1,p2,p3,p4,p5,p6,p7⟩) (iD (cM n) (am n) G):=(HPp.o.later QX.o.2.2).move (fun b hb hlt=>⟨by have h:w5.heap.size<=b:=hb;omega,NE.same b hlt (by have h:w5.heap.size<=b:=hb;omega)⟩);have zO:FormV (W1.heap.size<=·) W9 (FQ.val ⟨so,⟨n.toArray⟩,fJ,0,fK,some ⟨w6.heap.size,0,none⟩,1,1⟩) (.mk so n [] [iD (cM n) (am n) G]):=aW.2 ⟨_,_,rfl,b_,rx hF9 (by omega) y9⟩;have QY:Below w.heap.size w W9:=Below.kp1 (GA.o.1.tr QX.o.1) NE (by omega);obtain ⟨c0,c1,c2,c3,_,_,_,_⟩:=dh Yf;obtain ⟨e0,e1,e2,e3,z0,z1,z2,z3⟩:=dh Yg;have H9:=bE zO QY Yg;clear Yf NE Yg y9 hF9 zO QY rO f0 f1 dW;gi_wp2;have x6:=lm (v0:=.int .u8 so) (v1:=.string ⟨n.toArray⟩) (v2:=.slice fJ 0 fK) (v3:=.slice (some ⟨w6.heap.size,0,none⟩) 1 1) H9.o.2.2;have k6:=dI (W:=W9) (b:=w.heap.size+1) (v0:=.int .u8 so) (v1:=.string ⟨n.toArray⟩) (v2:=.slice fJ 0 fK) (v3:=.slice (some ⟨w6.heap.size,0,none⟩) 1 1);obtain ⟨W6,cP⟩:=ao ((((W9.setCell ⟨w.heap.size+1,0,none⟩ (.int .u8 so)).setCell ⟨w.heap.size+1,1,none⟩ (.string ⟨n.toArray⟩)).setCell ⟨w.heap.size+1,2,none⟩ (.slice fJ 0 fK)).setCell ⟨w.heap.size+1,3,none⟩ (.slice (some ⟨w6.heap.size,0,none⟩) 1 1));rw[<-cP]at x6 k6 ⊢;clear cP;have g0:W6.cell? ⟨w.heap.size+1,0,none⟩=some (.int .u8 so):=ah x6 0;have g1:W6.cell? ⟨w.heap.size+1,1,none⟩=some (.string ⟨n.toArray⟩):=ah x6 1;have g2:W6.cell? ⟨w.heap.size+1,2,none⟩=some (.slice fJ 0 fK):=ah x6 2;have g3:W6.cell? ⟨w.heap.size+1,3,none⟩=some (.slice (some ⟨w6.heap.size,0,none⟩) 1 1):=ah x6 3;refine bI (v:=FQ.val ⟨so,⟨n.toArray⟩,fJ,0,fK,some ⟨w6.heap.size,0,none⟩,1,1⟩) (by simp[FQ.val,results,Tryz.results72,go_sem,g0,g1,g2,g3]) rfl ⟨⟨⟨so,⟨n.toArray⟩,fJ,0,fK,some ⟨w6.heap.size,0,none⟩,1,1⟩,rfl,HRm.o ▸ H9.o.1.move (fun b hok hlt=>⟨by have h:W1.heap.size<=b:=hok;omega,k6.same b hlt (by have h:W1.heap.size<=b:=hok;omega)⟩)⟩,Below.kp1 H9.o.2.1 k6 (by omega)⟩
 |have rz:=ac xR 3;have HPp:=ab hp;have QX:=bE (H6.o.tr fD) y7 fD;have IR:=bE xR2 kR xT;clear hp cI fD y7 xR xT xR2 kR LC;refine ce 9 rfl fun K hK=>?_;go_simp;refine eS hK ?_;clear hK K;refine ce 10 rfl fun K hK=>?_;go_simp;refine eS hK ?_;clear hK K r3 rz;refine le ?_;obtain ⟨W9,rO⟩:=ao (W7.setCell ⟨w.heap.size+1+1,3,none⟩ (.slice (some ⟨w6.heap.size,0,none⟩) 1 1));have Yf:=IR.o.1;have NE:=IR.o.2.1;rw[<-rO]at Yf NE ⊢;have zdr:=QX.o.1.size;have Yg:=(NE.same _ (bn IR.o.2.2) (by omega)).trans IR.o.2.2;have y9:=(NE.same _ (bn QX.o.2.1) (by omega)).trans QX.o.2.1;have hF9:FormV (W1.heap.size<=·) W9 (FQ.val ⟨p0,p1,p2,p3,p4,p5,p6,p7⟩) (iD (cM n) (am m) G):=(HPp.o.later QX.o.2.2).move (fun b hb hlt=>⟨by have h:w5.heap.size<=b:=hb;omega,NE.same b hlt (by have h:w5.heap.size<=b:=hb;omega)⟩);have zO:FormV (W1.heap.size<=·) W9 (FQ.val ⟨so,⟨m.toArray⟩,fJ,0,fK,some ⟨w6.heap.size,0,none⟩,1,1⟩) (.mk so m [] [iD (cM n) (am m) G]):=aW.2 ⟨_,_,rfl,b_,rx hF9 (by omega) y9⟩;have QY:Below w.heap.size w W9:=Below.kp1 (GA.o.1.tr QX.o.1) NE (by omega);obtain ⟨c0,c1,c2,c3,_,_,_,_⟩:=dh Yf;obtain ⟨e0,e1,e2,e3,z0,z1,z2,z3⟩:=dh Yg;have H9:=bE zO QY Yg;clear Yf NE Yg y9 hF9 zO QY rO f0 f1 dW;gi_wp2;have x6:=lm (v0:=.int .u8 so) (v1:=.string ⟨m.toArray⟩) (v2:=.slice fJ 0 fK) (v3:=.slice (some ⟨w6.heap.size,0,none⟩) 1 1) H9.o.2.2;have k6:=dI (W:=W9) (b:=w.heap.size+1) (v0:=.int .u8 so) (v1:=.string ⟨m.toArray⟩) (v2:=.slice fJ 0 fK) (v3:=.slice (some ⟨w6.heap.size,0,none⟩) 1 1);obtain ⟨W6,cP⟩:=ao ((((W9.setCell ⟨w.heap.size+1,0,none⟩ (.int .u8 so)).setCell ⟨w.heap.size+1,1,none⟩ (.string ⟨m.toArray⟩)).setCell ⟨w.heap.size+1,2,none⟩ (.slice fJ 0 fK)).setCell ⟨w.heap.size+1,3,none⟩ (.slice (some ⟨w6.heap.size,0,none⟩) 1 1));rw[<-cP]at x6 k6 ⊢;clear cP;have g0:W6.cell? ⟨w.heap.size+1,0,none⟩=some (.int .u8 so):=ah x6 0;have g1:W6.cell? ⟨w.heap.size+1,1,none⟩=some (.string ⟨m.toArray⟩):=ah x6 1;have g2:W6.cell? ⟨w.heap.size+1,2,none⟩=some (.slice fJ 0 fK):=ah x6 2;have g3:W6.cell? ⟨w.heap.size+1,3,none⟩=some (.slice (some ⟨w6.heap.size,0,none⟩) 1 1):=ah x6 3;refine bI (v:=FQ.val ⟨so,⟨m.toArray⟩,fJ,0,fK,some ⟨w6.heap.size,0,none⟩,1,1⟩) (by simp[FQ.val,results,Tryz.results72,go_sem,g0,g1,g2,g3]) rfl ⟨⟨⟨so,⟨m.toArray⟩,fJ,0,fK,some ⟨w6.heap.size,0,none⟩,1,1⟩,rfl,HRm.o ▸ H9.o.1.move (fun b hok hlt=>⟨by have h:W1.heap.size<=b:=hok;omega,k6.same b hlt (by have h:W1.heap.size<=b:=hok;omega)⟩)⟩,Below.kp1 H9.o.2.1 k6 (by omega)⟩):G:=h
theorem pm58(h:G:=by
 go_wp2;refine aS (by kernel_rfl) (by kernel_rfl) ?_
 repeat (go_big_quiet_step (fail))
 refine wpQuiet_nil ?_;rintro _ ⟨x',rfl⟩
 first
 |clear pp58a;clear f0 f1;have cJ:=ab (HB.o.trans (x'.below.mono HB.o.size));obtain ⟨bb,cK⟩:=ao (Op.bytesLess x y);rw[<-cK];have HT2:Hd (R=(bb && dD (l.drop (k+1)))):=ab (by rw[cK];exact HT.o);clear cK HT;cases bb
  ·have HE:=ab (show R=false by rw[HT2.o];simp);go_wp2;go_ret;exact ⟨aK HE.o.symm,cJ.o⟩
  ·go_wp2;go_roundw
   case rel=>exact ⟨k+1,.inr hlt,by go_num,cJ.o,by rw[HT2.o];simp⟩
   case measure=>simp[intOf];omega
 |clear pp58b;clear f0 f1 f2 f3;go_wp2;go_ret;exact ⟨aK HE.o.symm,dy.o.trans (x'.below.mono dy.o.size)⟩
 |clear pp58c;clear f0 f1 f2 f3;go_wp2;go_roundw
  case rel=>exact ⟨j,by omega,by go_num,sU.o.trans (x'.below.mono sU.o.size),HT.o⟩
  case measure=>simp[intOf];try omega
 |clear pp58d;clear f0 f1 f2 f3 f4 f5;go_wp2;go_ret;exact ⟨aK (HNe.o (by rw[HX.o.1,HX.o.2];intro h;injection h with _ h _;exact hn h)).symm,HB.o.trans (x'.below.mono HB.o.size)⟩
 |clear f0 f1;have cJ:=ab (HB.o.trans (x'.below.mono HB.o.size));obtain ⟨bb,cK⟩:=ao (x == y);rw[<-cK];have OF:=ab cK;clear cK;cases bb
  ·have HE:=ab (show R=false by
    rw[HR.o];simp only[beq_eq_false_iff_ne,ne_eq];intro e;subst e;have:=OF.o;rw[HX.o,HY.o]at this;simp at this)
   go_wp2;go_ret;exact ⟨aK HE.o.symm,cJ.o⟩
  ·have HT2:=ab (show l.take (k+1)=m.take (k+1) by
    have he:x=y:=by simpa using OF.o.symm
    rw[mQ ej,mQ fW,HT.o,<-HX.o,<-HY.o,he])
   go_wp2;go_roundw
   case rel=>exact ⟨k+1,by omega,by go_num,cJ.o,HT2⟩
   case measure=>simp[intOf];omega):G:=h
theorem pm59(h:G:=by
 go_cut [14] from 8 to 14 (fun s14 wx=>s14=.bool false/\Below W1.heap.size W1 wx)
 case first=>
  cases tv with
  | false=>
   go_wp2_with fail;go_meet;exact ⟨rfl,ak _ _⟩
  | true=>
   have lp:da n=false:=by simpa using Lt
   rw[lp]at sX;go_wp2_with (go_at_call 119;refine sX.o.mono ?_;rintro e w3 ⟨rfl,aJ⟩;have H3:=ab aJ;clear aJ);go_meet;exact ⟨rfl,H3.o⟩
 case rest=>
 obtain ⟨h14,bF⟩:=hcut;rw[h14];clear h14 Lt;obtain ⟨W2,bl⟩:=ao wc;rw[<-bl]at bF ⊢;clear bl wc;have x2:=bT bF H1.o.2.1;have c2:=ah x2 2;have H2:=aC bF (H1.o.1.tr bF);clear bF x2 e0 e1 e2;go_wp2_with fail
 first
 |clear pp59;clear c2;go_loopw [5,26] (fun r i wr=>∃j:Nat,j<=n1/\i=.int .i64 j/\r=.int .i64 ((dQ k.ts (a.take j)+1:Nat):Int)/\Below W2.heap.size W2 wr) (fun _ i _=>n1 - (intOf i).toNat)
  case atStart=>exact ⟨0,bc _,rfl,by simp[dQ],ak _ _⟩
  case round=>
   obtain ⟨j,hj,rfl,rfl,ar⟩:=hrel
   by_cases hlt:j<n1
   ·have ic:=ct HN.o hlt;have pp198c:=();exact pm198
   ·obtain rfl:n1=j:=by omega
    have cb:a.take n1=a:=by rw[HN.o];exact cO
    rw[cb];have HK:=ab (H2.o.2.tr ar);clear ar cb;go_wp2;go_ret;exact ⟨by rw[rA.o];rfl,HK.o⟩
 |clear c2;go_loopw [5,27] (fun r i wr=>∃j:Nat,j<=n1/\i=.int .i64 j/\OwnS W2.heap.size wr r (dE k.ts (a.take j))/\Below W2.heap.size W2 wr) (fun _ i _=>n1 - (intOf i).toNat)
  case atStart=>exact ⟨0,bc _,rfl,OwnS.nil _ _,ak _ _⟩
  case round=>
   obtain ⟨j,hj,rfl,dp,ar⟩:=hrel
   by_cases hlt:j<n1
   ·have ic:=ct HN.o hlt;exact pm198
   ·obtain rfl:n1=j:=by omega
    have cb:a.take n1=a:=by rw[HN.o];exact cO
    rw[cb]at dp;have HK:=aC (H2.o.2.tr ar) (dp.base H2.o.2.size);clear ar dp cb;go_wp2;go_ret;exact ⟨⟨_,rfl,by rw[rA.o];exact HK.o.2⟩,HK.o.1⟩):G:=h
theorem pm60(h:G:=by
 have CT:=ab (fun w=>ht ▸ kL n w sF);have HE:=ab (hb.trans (by rw[hv,ht] <;> rfl));clear hv ht hb mm Oi sG qi;have pp82f:=();exact pm82):G:=h
theorem pm61(h:G:=by
 go_wp2_with (first | (go_at_call 84;refine BK.o.mono ?_;rintro e w3 ⟨rfl,nE,aJ⟩;have H3:=aC nE aJ;clear nE aJ) | (go_at_call 75;refine (zm _ _).mono ?_;rintro e w4 ⟨rfl,rfl⟩) | (go_at_call 74;refine (sM _ _ _ SA.o _ H3.o.1).mono ?_;rintro e w5 ⟨v5,rfl,IL,bi⟩;have H5:=aC IL bi;clear IL bi));go_ret;have aJ:RowKit.Below W2.heap.size W2 w3:=by rw[HZ3.o,gF.o];exact H3.o.2
 have gi:=cJ.o.trans (aJ.mono cJ.o.size);exact ⟨⟨v5,rfl,ownsRow_base_a H5.o.1.1 gi.size,H5.o.1.2⟩,gi.trans (H5.o.2.mono gi.size)⟩):G:=h
theorem pm62(h:G:=by
 have x6:=qt (v0:=.bool pv) (v1:=.string pn) (v2:=.slice pa pl pc) H5.o.2.2.1;have k6:=eF (W:=w5) (b:=w.heap.size+1) (v0:=.bool pv) (v1:=.string pn) (v2:=.slice pa pl pc);obtain ⟨W6,cP⟩:=ao (((w5.setCell ⟨w.heap.size+1,0,none⟩ (.bool pv)).setCell ⟨w.heap.size+1,1,none⟩ (.string pn)).setCell ⟨w.heap.size+1,2,none⟩ (.slice pa pl pc));rw[<-cP]at x6 k6 ⊢;clear cP;have g0:W6.cell? ⟨w.heap.size+1,0,none⟩=some (.bool pv):=ah x6 0;have g1:W6.cell? ⟨w.heap.size+1,1,none⟩=some (.string pn):=ah x6 1;have g2:W6.cell? ⟨w.heap.size+1,2,none⟩=some (.slice pa pl pc):=ah x6 2
 first
 |clear pp62;have hz:=HY.o.2.2;refine bI (v:=TQ.val ⟨pv,pn,pa,pl,pc⟩) (by simp[TQ.val,results,Tryz.results218,go_sem,g0,g1,g2]) rfl ⟨⟨⟨pv,pn,pa,pl,pc⟩,rfl,H5.o.1.move (fun b hok hlt=>⟨by omega,k6.same b hlt (by omega)⟩)⟩,Below.kp1 H5.o.2.1 k6 (by omega)⟩
 |refine bI (v:=TQ.val ⟨pv,pn,pa,pl,pc⟩) (by simp[TQ.val,results,Tryz.results168,go_sem,g0,g1,g2]) rfl ⟨⟨⟨pv,pn,pa,pl,pc⟩,rfl,H5.o.1.move (fun b hok hlt=>⟨by omega,k6.same b hlt (by omega)⟩)⟩,Below.kp1 H5.o.2.1 k6 (by omega)⟩):G:=h
theorem pm63(h:G:=by
 obtain ⟨e0,e1,e2,e3,_,_,_,_⟩:=dh H2.o.2.1;have g0:W2.cell? ⟨kb,0,none⟩=some (.map (some mF)):=ah H2.o.2.2.box 0;have g1:W2.drew.cell? ⟨kb,0,none⟩=some (.map (some mF)):=g0;have g3:W2.drew.cell? ⟨w.heap.size+1,1,none⟩=some (.string ⟨n.toArray⟩):=e1;have aJ:Below W2.heap.size W2 (W2.alloc (.cells #[.int .u8 0,.string ⟨#[]⟩,.slice none 0 0,.slice none 0 0] 36)):=cQ;obtain ⟨g4,g5⟩:=yR aJ g0 e1;rcases H2.o.2.2.fs.look Tryz.underlying9 Tryz.underlying145 l9 (x:=n) (by omega) with ⟨hg,hlk⟩ | ⟨f,vf,hg,hvf,hlk⟩
 first
 |clear pp63
  ·have l1:=(hlk W2.drew rfl).1;have pp111a:=();exact pm111
  ·obtain ⟨⟨EG,EH,EI,EJ,EK,EL,EM,EN⟩,rfl,oZ,GW⟩:=hvf;simp only[FQ.val]at hlk;have l1:=(hlk W2.drew rfl).1;have pp111b:=();exact pm111
 |·have l1:=(hlk W2.drew rfl).1;have l2:=(hlk (W2.alloc (.cells #[.int .u8 0,.string ⟨#[]⟩,.slice none 0 0,.slice none 0 0] 36)).drew (bK _ _ _ (by have:=H2.o.2.2.fs.lt;omega))).1;have Nc:=ab (show R=true by rw[hE,hg]);have bM:=ab (H2.o.1.tr aJ.drew);clear hlk hg aJ hE;go_enter Tryz.func124,Tryz.ntmps124;go_upto_region 4 with fail;rw[<-gF.o];go_region
   all_goals
    go_wp2;go_ret;exact ⟨by rw[Nc.o];rfl,bM.o⟩
  ·obtain ⟨⟨EG,EH,EI,EJ,EK,EL,EM,EN⟩,rfl,oZ,GW⟩:=hvf;simp only[FQ.val]at hlk;have l1:=(hlk W2.drew rfl).1;exact pm111):G:=h
theorem pm64(h:G:=by
 have H5:=ab (((ak wq.heap.size wq).drew).trans bi);refine hK _ _ (fun _=>by rw[du.o];exact H5.o) (fun _=>?_);clear hK K bi;refine ce 7 rfl fun K hK=>?_;go_simp;refine aL.2 ((JM.o w5 H5.o).mono ?_);rintro _ w6 ⟨⟨⟨p0,p1,p2,p3,p4,p5,p6,p7⟩,rfl,hp⟩,cI⟩;have H6:=ab (H5.o.tr cI);refine hK _ _ (fun _=>by rw[du.o];exact H6.o) (fun _=>?_);clear hK K;refine ce 8 rfl fun K hK=>?_;go_simp;have fD:Below w6.heap.size w6 (w6.alloc (.cells #[.int .u8 p0,.string p1,.slice p2 p3 p4,.slice p5 p6 p7] 36)):=cQ;refine hK _ _ (fun _=>by rw[du.o];exact H6.o.tr fD) (fun _=>?_)
 first
 |clear pp64;clear hK K;have pp57:=();exact pm57
 |clear hK K;exact pm57):G:=h
theorem pm65(h:G:=by
 go_enter Tryz.func64,Tryz.ntmps64
 first
 |clear pp65a;go_wp2_with (first | (go_at_call 115;refine C1.o.mono ?_;rintro e w' ⟨rfl,lH⟩;obtain rfl:=lH.symm) | (go_at_call 116;refine (CN.o _).mono ?_;rintro e w3 ⟨rfl,aJ⟩;have bM:=ab aJ;have p2:=(gj.o.later aJ).c2;have p3:=(gj.o.later aJ).c3;have p0:=(gj.o.later aJ).c0;have s3:=(qV.o.later aJ).c3;have s4:=(qV.o.later aJ).c4;clear aJ));go_ret;exact JPost.no (l:=left - 1) HE.o (mN.o.trans (Kp.below bM.o)) (vG.o.later bM.o) (by omega) (by omega)
 |clear pp65b;go_wp2_with (first | (go_at_call 115;refine C1.o.mono ?_;rintro e w' ⟨rfl,lH⟩;obtain rfl:=lH.symm));go_ret;exact JPost.no (l:=left - 1) HE.o (mN.o) (vG.o) (by omega) (by omega)
 |clear pp65c;go_wp2_with (first | (go_at_call 115;refine C1.o.mono ?_;rintro e w' ⟨rfl,lH⟩;obtain rfl:=lH.symm));go_ret;exact JPost.no (l:=left - 1) HE.o oK.o.1 oK.o.2.1 (by omega) (by omega)
 |clear pp65d;go_wp2_with (go_at_call 115;refine C1.o.mono ?_;rintro e w' ⟨rfl,rfl⟩);go_ret;exact JPost.no (l:=left - 1) HE.o ((oI _).trans (Kp.below cQ)) ((HJ.o.set _).later cQ) (by omega) (by omega)
 |clear pp65e;go_wp2_with (first | (go_at_call 115;refine C1.o.mono ?_;rintro e w' ⟨rfl,lH⟩;obtain rfl:=lH.symm) | (go_at_call 116;refine (CN.o _).mono ?_;rintro e w3 ⟨rfl,aJ⟩;have bM:=ab aJ;have p2:=(gj.o.later aJ).c2;have p3:=(gj.o.later aJ).c3;have p0:=(gj.o.later aJ).c0;have s3:=(qV.o.later aJ).c3;have s4:=(qV.o.later aJ).c4;clear aJ) | (go_at_call 117;refine (CI.o _ (mN.o.trans (Kp.below bM.o))).mono ?_;rintro e w4 ⟨rfl,aP⟩;have eL:=ab aP;have p2:=((gj.o.later bM.o).later aP).c2;have p3:=((gj.o.later bM.o).later aP).c3;clear aP) | (go_at_call 118;refine (CT.o _ ((mN.o.trans (Kp.below bM.o)).trans (Kp.below eL.o)) ((vG.o.later bM.o).later eL.o)).mono ?_;rintro e w5 ⟨rfl,mL,l5,Ap,Aq,pd,kh⟩;have XL:=kh rfl;subst XL;have Qw:Kp (fun c=>c=J) w w5:=((mN.o.trans (Kp.below bM.o)).trans (Kp.below eL.o)).trans mL;have e3:w5.cell? ⟨w.heap.size,3,none⟩=some (.slice qb m0 qe):=(((gj.o.later bM.o).later eL.o).kp mL (by omega)).c3;have HA:=aC Qw Ap;clear mL Ap Aq pd kh Qw))
  first
  |clear pp23;exact pm4
  |exact pm3
 |clear pp65f;go_wp2_with (first | (go_at_call 115;refine C1.o.mono ?_;rintro e w' ⟨rfl,lH⟩;obtain rfl:=lH.symm) | (go_at_call 116;refine (CN.o _).mono ?_;rintro e w3 ⟨rfl,aJ⟩;have bM:=ab aJ;have p2:=(gj.o.later aJ).c2;have p3:=(gj.o.later aJ).c3;have p0:=(gj.o.later aJ).c0;have s3:=(qV.o.later aJ).c3;have s4:=(qV.o.later aJ).c4;clear aJ) | (go_at_call 117;refine (CI.o _ (mN.o.trans (Kp.below bM.o))).mono ?_;rintro e w4 ⟨rfl,aP⟩;have eL:=ab aP;have p2:=((gj.o.later bM.o).later aP).c2;have p3:=((gj.o.later bM.o).later aP).c3;clear aP) | (go_at_call 118;refine (CT.o _ ((mN.o.trans (Kp.below bM.o)).trans (Kp.below eL.o)) ((vG.o.later bM.o).later eL.o)).mono ?_;rintro e w5 ⟨rfl,mL,l5,Ap,Aq,pd,kh⟩;have HH:=cC mL Ap Aq Aq;have HL:=ab (show l5<=left - 1 from pd);clear mL Ap Aq pd kh));go_ret;exact JPost.no HE.o (((mN.o.trans (Kp.below bM.o)).trans (Kp.below eL.o)).trans HH.o.1) HH.o.2.1 HH.o.2.2.1 (by have:=HL.o;omega)
 |clear pp65g;go_wp2_with (first | (go_at_call 115;refine C1.o.mono ?_;rintro e w' ⟨rfl,lH⟩;obtain rfl:=lH.symm) | (go_at_call 116;refine (CN.o _).mono ?_;rintro e w3 ⟨rfl,aJ⟩;have bM:=ab aJ;have p2:=(gj.o.later aJ).c2;have p3:=(gj.o.later aJ).c3;have p0:=(gj.o.later aJ).c0;have s3:=(qV.o.later aJ).c3;have s4:=(qV.o.later aJ).c4;clear aJ) | (go_at_call 117;refine (CI.o _ (mN.o.trans (Kp.below bM.o))).mono ?_;rintro e w4 ⟨rfl,aP⟩;have eL:=ab aP;have p2:=((gj.o.later bM.o).later aP).c2;have p3:=((gj.o.later bM.o).later aP).c3;clear aP));go_ret;exact JPost.no (l:=left - 1) HE.o ((mN.o.trans (Kp.below bM.o)).trans (Kp.below eL.o)) ((vG.o.later bM.o).later eL.o) (by omega) (by omega)
 |clear pp65h;go_wp2_with (first | (go_at_call 115;refine C1.o.mono ?_;rintro e w' ⟨rfl,lH⟩;obtain rfl:=lH.symm) | (go_at_call 116;refine (CN.o _).mono ?_;rintro e w3 ⟨rfl,aJ⟩;have bM:=ab aJ;have p2:=(gj.o.later aJ).c2;have p3:=(gj.o.later aJ).c3;have p0:=(gj.o.later aJ).c0;have s3:=(qV.o.later aJ).c3;have s4:=(qV.o.later aJ).c4;clear aJ) | (go_at_call 118;refine (CT.o _ (mN.o.trans (Kp.below bM.o)) (vG.o.later bM.o)).mono ?_;rintro e w5 ⟨rfl,mL,l5,Ap,Aq,pd,kh⟩;have XL:=kh rfl;subst XL;have Qw:Kp (fun c=>c=J) w w5:=(mN.o.trans (Kp.below bM.o)).trans mL;have e3:w5.cell? ⟨w.heap.size,3,none⟩=some (.slice qb m0 qe):=((gj.o.later bM.o).kp mL (by omega)).c3;have HA:=aC Qw Ap;clear mL Ap Aq pd kh Qw))
  first
  |clear pp36;exact pm4
  |exact pm3
 |go_wp2_with (first | (go_at_call 115;refine C1.o.mono ?_;rintro e w' ⟨rfl,lH⟩;obtain rfl:=lH.symm) | (go_at_call 116;refine (CN.o _).mono ?_;rintro e w3 ⟨rfl,aJ⟩;have bM:=ab aJ;have p2:=(gj.o.later aJ).c2;have p3:=(gj.o.later aJ).c3;have p0:=(gj.o.later aJ).c0;have s3:=(qV.o.later aJ).c3;have s4:=(qV.o.later aJ).c4;clear aJ) | (go_at_call 118;refine (CT.o _ (mN.o.trans (Kp.below bM.o)) (vG.o.later bM.o)).mono ?_;rintro e w5 ⟨rfl,mL,l5,Ap,Aq,pd,kh⟩;have HH:=cC mL Ap Aq Aq;have HL:=ab (show l5<=left - 1 from pd);clear mL Ap Aq pd kh));go_ret;exact JPost.no HE.o ((mN.o.trans (Kp.below bM.o)).trans HH.o.1) HH.o.2.1 HH.o.2.2.1 (by have:=HL.o;omega)):G:=h
theorem pm66(h:G:=by
 have pp284:=();exact pm284):G:=h
theorem pm67(h:G:=by
 simp only[FQ.val,TQ.val]at JM;have du:=ab hS;clear hS;refine lV S 9 dW fun jO bW=>?_;refine dm 0 107 (.agg #[.int .u8 q.o,.string q.n,.slice q.a q.l q.c,.slice q.b q.m q.e]) rfl (fun V hX=>by obtain ⟨g0,g1,g2,g3⟩:=f0 V hX;go_simp) bW fun QU=>?_;simp only[ag];refine bL 1 108 (.pointer (some ⟨w.heap.size,1,none⟩)) rfl QU fun QV=>?_;simp only[ag];refine dm 2 109 (.string ⟨n.toArray⟩) rfl (fun V hX=>by obtain ⟨g0,g1⟩:=f1 V hX;go_simp) QV fun Kl=>?_;simp only[ag];refine bL 4 111 (.pointer (some ⟨w.heap.size+1+1,1,none⟩)) rfl Kl fun QW=>?_;simp only[ag]
 first
 |clear pp67;refine dm 5 112 (.string ⟨n.toArray⟩) rfl (fun V hX=>by obtain ⟨g0,g1⟩:=f1 V hX;go_simp) QW fun Yc=>?_
  simp only[ag];refine ce 3 rfl fun K hK=>?_;go_simp;refine aL.2 ((eY n _ (by have:=R7.o.2.1;omega)).mono ?_);rintro _ _ ⟨rfl,rfl⟩;refine hK _ _ (fun _=>dW) (fun _=>?_);clear hK K;refine ce 6 rfl fun K hK=>?_;go_simp;refine aL.2 ((gg n _).mono ?_);rintro _ w5 ⟨rfl,bi⟩;have pp64:=();exact pm64
 |refine dm 5 112 (.string ⟨m.toArray⟩) rfl (fun V hX=>by obtain ⟨g0,g1⟩:=f1 V hX;go_simp) QW fun Yc=>?_
  simp only[ag];refine ce 3 rfl fun K hK=>?_;go_simp;refine aL.2 ((eY n _ (by have:=R7.o.2.1;omega)).mono ?_);rintro _ _ ⟨rfl,rfl⟩;refine hK _ _ (fun _=>dW) (fun _=>?_);clear hK K;refine ce 6 rfl fun K hK=>?_;go_simp;refine aL.2 ((gg m _).mono ?_);rintro _ w5 ⟨rfl,bi⟩;exact pm64):G:=h
theorem pm68(h:G:=by
 have rA:=ab hE;have pp142c:=();exact pm142):G:=h
theorem pm69(h:G:=by
 go_wp2_with (first | (go_at_call 187;refine (sC _ _ _).mono ?_;rintro e w' ⟨rfl,rfl⟩) | (go_at_call 239;refine HC.o.mono ?_;rintro e w' ⟨rfl,hw⟩));go_ret;exact ⟨rfl,(cQ.alloc (by simp) _).trans ((qq hw).mono (by simp;omega))⟩):G:=h
theorem pm70(h:G:=by
 exact pm282):G:=h
theorem pm71(h:G:=by
 exact pm82):G:=h
theorem pm72(h:G:=by
 have QA:=bT qZ fL;have Ho:Marks ly.heap.size sj ds:=wV.move (fun D hD hd=>(qZ.block D (bn hd)).trans hd);have uJ:Kp M ly sj:=bj.trans (Kp.below qZ);have xG:=dV.later qZ;have QB:=DY qU;have hMl:∀ b,M b->b<ly.heap.size:=fun b hb=>by rw[HM.o]at hb;have:=lx.o.1;have:=lx.o.2.1;omega
 have tG:=rK Tq uJ (ZM.tr qZ) QB hMl bj.size;have E3:=cC Qz QA Ho xG;have QC:=bE DJ rP qw;have BO:=bE pY hi1 tY;have XQ:=ab qU;have x1w:=bT qZ ZN;have jI:=ab x1w;clear FO fL wV bj dV DJ rP qw pY hi1 tY qU qZ Tq Qz QA Ho uJ xG QB hMl ZM ZN x1w
 first
 |clear pp72;have hix:(Instr.index 83 (.agg #[(.func (.func 47) #[.pointer (some ⟨K0+1+1+1,0,none⟩)] #[]),(.func (.func 48) #[.pointer (some ⟨K0+1+1+1,0,none⟩)] #[])]) (.int .i64 0)).run Tryz.prog wr=.ok (.func (.func 47) #[.pointer (some ⟨K0+1+1+1,0,none⟩)] #[]) wr:=by kernel_rfl
  gi_wp2_with fail;clear e0 hix;rw[<-XQ.o];refine lr [53,54,55,56,57,14,15,58,59,60,61,62,70] 53 (fun us ds wq=>∃j:Nat,j<=n1/\us 53=.int .i64 j/\Marks ly.heap.size wq ds/\Kp M sj wq/\wq.heap[aB+1]?=some (.cells #[.int .i64 0] 30 (0,0))/\wq.heap[aB]?=some (.cells #[.int .i64 0] 3 (0,0)) ∧
   ∃(kj:Bd) (Nz NA:Nat),KnV (fun b=>¬M b) goodF goodT wq (K0+1+1+1) (K0+1) (K0+1+1) Nz NA kj/\Nz<=nF+j * 400/\NA<=nT+j * 160000/\validB kj=true/\jV d_ 0 k l=jV d_ j kj (l.drop j)) (fun v=>n1 - (intOf v).toNat) (by simp) (by decide) ?start3 ?round3
  case start3=>exact ⟨0,bc _,rfl,E3.o.2.2.1,Kp.refl _,E3.o.1,E3.o.2.1,k,nF,nT,E3.o.2.2.2,by omega,by omega,QC.o.1,by simp⟩
  case round3=>
   have pp134:=();exact pm134
 |have hix:(Instr.index 83 (.agg #[(.func (.func 47) #[.pointer (some ⟨K0+1+1+1,0,none⟩)] #[]),(.func (.func 48) #[.pointer (some ⟨K0+1+1+1,0,none⟩)] #[])]) (.int .i64 1)).run Tryz.prog wr=.ok (.func (.func 48) #[.pointer (some ⟨K0+1+1+1,0,none⟩)] #[]) wr:=by kernel_rfl
  gi_wp2_with fail;clear e0 hix;rw[<-XQ.o];refine lr [53,54,55,56,57,14,15,58,59,60,61,62,70] 53 (fun us ds wq=>∃j:Nat,j<=n1/\us 53=.int .i64 j/\Marks ly.heap.size wq ds/\Kp M sj wq/\wq.heap[aB+1]?=some (.cells #[.int .i64 0] 30 (0,0))/\wq.heap[aB]?=some (.cells #[.int .i64 0] 3 (0,0)) ∧
   ∃(kj:Bd) (Nz NA:Nat),KnV (fun b=>¬M b) goodF goodT wq (K0+1+1+1) (K0+1) (K0+1+1) Nz NA kj/\Nz<=nF+j * 400/\NA<=nT+j * 160000/\validB kj=true/\jV kP 0 k l=jV kP j kj (l.drop j)) (fun v=>n1 - (intOf v).toNat) (by simp) (by decide) ?start3 ?round3
  case start3=>exact ⟨0,bc _,rfl,E3.o.2.2.1,Kp.refl _,E3.o.1,E3.o.2.1,k,nF,nT,E3.o.2.2.2,by omega,by omega,QC.o.1,by simp⟩
  case round3=>
   exact pm134):G:=h
theorem pm73(h:G:=by
 obtain ⟨⟨so,sn,sa,sl,sc,sb,sm,se⟩,⟨fo,fn,fa,fl,fc,fb,fm,fe⟩,ca,cl,cc⟩:=q
 first
 |clear pp73a;simp only[PlQ.cells,PlQ.val,FQ.val]at JC yi ⊢;have t0:W3.cell? ⟨w.heap.size+1,0,none⟩=some (.int .u8 qo):=ah xt 0;have t1:W3.cell? ⟨w.heap.size+1,1,none⟩=some (.string ⟨n.toArray⟩):=ah xt 1;have t2:W3.cell? ⟨w.heap.size+1,2,none⟩=some (.slice qa k0 qc):=ah xt 2;rw[<-cg,<-el];have HX:=bE xp xt x1;clear hq bO ek aA ih hsc cV cg el Eo hi' aJ nE xp xt x1 ec hL Ph sW hLs;go_enter Tryz.func91,Tryz.ntmps91;go_wp2;rw[<-yi.o];obtain ⟨W1,bR⟩:=ao (W3.alloc (.cells #[.int .u8 qo,.string ⟨n.toArray⟩,.slice none 0 0,.slice none 0 0] 36));have BS:=cX bR;have hxr:W1.heap[w.heap.size+1+1+1]?=some (.cells #[.int .u8 qo,.string ⟨n.toArray⟩,.slice none 0 0,.slice none 0 0] 36 (0,0)):=by rw[bR];exact aj (by have:=bM.o.2;omega)
  rw[<-bR];have gx:W1.heap.size=w.heap.size+4:=by rw[bR];have:=bM.o.2;simp;omega
  have vW:=ab (Fills.start (R:=w.heap.size+1+1+1) (mk:=fun rr=>#[.int .u8 qo,.string ⟨n.toArray⟩,rr,.slice none 0 0]) (Row:=fun r W=>RowT W1.heap.size r ([]:List Tm) W) hxr (RowT.nil _ _));have dO:=aC (bM.o.1.tr BS) gx;have Pi:=ab (bT BS HX.o.1);have zat:=ab (bT BS HX.o.2.1);have MS:=ab (bT BS HX.o.2.2);clear bR BS hxr gx t0 t1 t2;go_loopw [25] (fun i wr=>∃k1:Nat,k1<=k0/\i=.int .i64 k1/\∃row SD,Fills 36 (w.heap.size+1+1+1) W1.heap.size (fun rr=>#[.int .u8 qo,.string ⟨n.toArray⟩,rr,.slice none 0 0]) (fun r W=>RowT W1.heap.size r SD W) W1 wr row/\g9 ps.reverse ins (a.take k1)=some SD/\SD.length=k1) (fun i _=>k0 - (intOf i).toNat)
  case atStart=>exact ⟨0,bc _,rfl,_,[],vW.o,by simp[g9],rfl⟩
  case round=>
   obtain ⟨k1,hk,rfl,row,SD,hF,zE,BU⟩:=hrel;have ar:=hF.below dO.o.1 (by omega);obtain ⟨fJ,fK,rfl⟩:=hF.row.slice;rw[BU]at hF
   by_cases hlt:k1<k0
   ·have dG:=ct dJ.o hlt;have pp55a:=();exact pm55
   ·obtain rfl:k1=k0:=by omega
    have j4:a.take k1=a:=by rw[dJ.o];exact cO
    rw[j4]at zE;have wb:=ab hF.row;have x2:=hF.box;have x1:=hF.other (by omega) MS.o;have xp:=hF.other (by omega) Pi.o;have xt:=hF.other (by omega) zat.o;obtain ⟨Ep,Pj⟩:=ao wr;subst Pj;have CQ:=eN ⟨qo,⟨n.toArray⟩,qa,k1,qc,qb,m0,qe⟩ Ep;simp only[FQ.val]at CQ;have e0:Ep.cell? ⟨w.heap.size+1,0,none⟩=some (.int .u8 qo):=ah xt 0;have e1:Ep.cell? ⟨w.heap.size+1,1,none⟩=some (.string ⟨n.toArray⟩):=ah xt 1;have e2:Ep.cell? ⟨w.heap.size+1,2,none⟩=some (.slice qa k1 qc):=ah xt 2;have e3:Ep.cell? ⟨w.heap.size+1,3,none⟩=some (.slice qb m0 qe):=ah xt 3;have IM:=ab CQ;have HAs:=aC zE BU;have HFl:=ab hF;have HE:=fA xp xt x1 x2 ar;clear CQ zE BU hF xp xt x1 x2 ar j4;go_wp2_with fail;refine IM.o.mono ?_;rintro e wq ⟨rfl,ob⟩;clear e0 e1 e2 e3;have Wo:=HFl.o.later ob (fun r=>r.below ob);have GA:=ab (HE.o.2.2.2.2.tr ob);have zau:=ab (Wo.other (by omega) Pi.o);have Wp:=ab (Wo.other (by omega) zat.o);have zav:=ab (Wo.other (by omega) MS.o);obtain ⟨zaw,UG⟩:=aZ Wo.box Wo.row;have Pk:=aC Wo.size HFl.o.lt;clear ob Wo HFl HE wb
    cases p9:bD qo with
    | false=>
     have tY:rN=ins:=by rw[HI'.o,p9];rfl
     have Pm:=aC GA.o Pk.o.1;have Pn:=zau;have Wq:=Wp;have Po:=zav;have Wr:=zaw;have JF:=UG;have JG:=aC (oH.o.1.later GA.o) (show ∀ b,vL.ownBlock=some b->b≠w.heap.size+1+1+1/\b<wq.heap.size from fun b hb=>by have:=oH.o.2 b hb;have:=GA.o.size;omega);have JH:=zD.o.2;rw[tY]at JH;have Pp:=aC zD.o.1 JH;clear zD JH;have Ws:=ab (Fills.start (R:=w.heap.size+1+1+1) (mk:=fun rr=>#[.int .u8 qo,.string ⟨n.toArray⟩,.slice fJ k1 fK,rr]) (Row:=fun r W=>RowF wq.heap.size r ([]:List Fm) W) Wr.o (RowF.nil _ _));have p3:wq.cell? ⟨w.heap.size+1,3,none⟩=some (.slice qb m0 qe):=ah Wq.o 3;clear tY;go_wp2;clear p3;go_loopw [61] (fun i wr=>∃k:Nat,k<=m0/\i=.int .i64 k/\∃row us,Fills 36 (w.heap.size+1+1+1) wq.heap.size (fun rr=>#[.int .u8 qo,.string ⟨n.toArray⟩,.slice fJ k1 fK,rr]) (fun r W=>RowF wq.heap.size r us W) wq wr row/\jn ps.reverse ins (s.take k)=some us/\us.length=k) (fun i _=>m0 - (intOf i).toNat)
     case atStart=>exact ⟨0,bc _,rfl,_,[],Ws.o,by simp[jn],rfl⟩
     case round=>
      have pp219:=();exact pm219
    | true=>
     obtain ⟨i0s,SE,zcv,zcw,zcx⟩:=info_parts zx;have tY:rN=n :: ins:=by rw[HI'.o,p9];rfl
     have zcy:=oH.o.1.later GA.o;obtain ⟨la,lc,MM,hlc,r'⟩:=zcy;obtain ⟨l0,vD⟩:=ao L.length;rw[<-vD]at MM hlc;have zeE:l0<=2000000:=by rw[vD];exact JE.o.2.2
     have pp161:=();exact pm161
 |clear pp73b;simp only[PlQ.val,PlQ.cells]at gF HC ⊢;go_enter Tryz.func163,Tryz.ntmps163;go_wp2_with (rw[<-gF.o];go_at_call 227;refine HC.o.mono ?_;rintro e w4 ⟨rfl,aP⟩;have H4:=ab aP;clear aP);go_ret;exact ⟨rfl,HB.o.tr H4.o⟩
 |clear pp73c;simp only[PlQ.val,PlQ.cells,TQ.val]at yi Zm P0 P1 P2 P3 P4 P5 P6 P7 P8 ⊢;clear dV qw iF pT huv gI EA hR qI aJ pN xp xt xu ln dT ks ky Zw ih ec;have CM:=ip n W3 (by omega);have sX:=ab CM;clear CM
  cases tv with
  | true=>
   cases lp:da n with
   | true=>
    rw[lp]at sX;have pp152b:=();exact pm152
   | false=>
    rw[lp]at sX;have Zt:(ps.map (·.1)).contains n=(ps.reverse.map (·.1)).contains n:=by rw[gA,List.contains_iff_mem,List.contains_iff_mem];simp
    have S2:=ab (fun (w:World) (hb:Below W3.heap.size W3 w)=>Dm ⟨⟨so,sn,sa,sl,sc,sb,sm,se⟩,⟨fo,fn,fa,fl,fc,fb,fm,fe⟩,ca,cl,cc⟩ ps HG.o.1 n w (Zm.o.1.later hb));simp only[PlQ.val,PlQ.cells]at S2;rw[Zt]at S2;clear Zt
    cases JX:(ps.reverse.map (·.1)).contains n with
    | true=>
     rw[JX]at S2;have HE:=ab (show R=if vO (.mk uv n' a') (am (cM n)) then some k.ts else none by rw[HR.o,aD (by simp[lp]),aX (by rw[JX];rfl)]);obtain ⟨bb,cK⟩:=ao (vO (.mk uv n' a') (am (cM n)));rw[<-cK]at HE;have Lx:=ab cK;clear JX cK lp;have pp7a:=();exact pm7
    | false=>
     rw[JX]at S2;have Bn:=JX
     cases uv with
     | false=>
      have HE:=ab (show R=none by rw[HR.o,aD (by simp[lp]),aD (by rw[Bn];simp),aX (by simp)]);clear lp JX Bn;have pp7b:=();exact pm7
     | true=>
      by_cases mm:n=n'
      ·subst mm
       by_cases ox:n1=n2
       ·skip;subst ox;have xf:(n == n)=true:=by simp
        have HE:=ab (show R=ef (ps.reverse.map (·.1)) k.ts a a' by rw[HR.o,aD (by simp[lp]),aD (by rw[Bn];simp),aD (by rw[<-HN.o.1,<-HN.o.2];simp)]);clear lp JX Bn;exact pm7
       ·have HE:=ab (show R=none by rw[HR.o,aD (by simp[lp]),aD (by rw[Bn];simp),aX (by rw[<-HN.o.1,<-HN.o.2];simp[ox])]);have pp263:=();exact pm263
      ·have xf:(n == n')=false:=by simp[mm]
       have HE:=ab (show R=none by rw[HR.o,aD (by simp[lp]),aD (by rw[Bn];simp),aX (by simp[mm])]);clear lp JX Bn;have pp7b:=();exact pm7
  | false=>
   cases uv with
   | true=>
    have HE:=ab (show R=none by rw[HR.o,aD (by simp),aD (by simp),aX (by simp)]);exact pm80
   | false=>
    by_cases mm:n=n'
    ·subst mm
     by_cases ox:n1=n2
     ·skip;subst ox;have xf:(n == n)=true:=by simp
      have HE:=ab (show R=ef (ps.reverse.map (·.1)) k.ts a a' by rw[HR.o,aD (by simp),aD (by simp),aD (by rw[<-HN.o.1,<-HN.o.2];simp)]);rw[yi.o]at e0 e1 e2 f0 f1 f2;have pp152c:=();exact pm152
     ·have HE:=ab (show R=none by rw[HR.o,aD (by simp),aD (by simp),aX (by rw[<-HN.o.1,<-HN.o.2];simp[ox])]);exact pm263
    ·have xf:(n == n')=false:=by simp[mm]
     have HE:=ab (show R=none by rw[HR.o,aD (by simp),aD (by simp),aX (by simp[mm])]);exact pm80
 |clear pp73d;obtain ⟨hs,hf,hc,he,hl⟩:=hpv;simp only at hs hf hc he hl ry;have iF:=hp.ps he;obtain ⟨v1,v2,h1,gI,lh⟩:=aW.1 hs;obtain ⟨v3,v4,h2,EA,Xc⟩:=aW.1 hf;simp only[FQ.val,cA,Array.mk.injEq,cr,and_true,Value.int.injEq,true_and,Value.string.injEq]at h1 h2;obtain ⟨rfl,rfl,rfl,rfl⟩:=h1;obtain ⟨rfl,rfl,rfl,rfl⟩:=h2;obtain rfl:=gI.len;obtain rfl:=EA.len;obtain rfl:=lh.len;obtain rfl:=Xc.len;subst he;obtain ⟨R,hR⟩:=ao (d_ k ⟨.mk so n a s,.mk fo n' a' s',ps.reverse⟩);rw[<-hR];have qI:=hR;rw[GT]at qI;obtain ⟨n1,dT⟩:=ao a.length;obtain ⟨n2,ks⟩:=ao a'.length;obtain ⟨m1,jh⟩:=ao s.length;obtain ⟨m2,rR⟩:=ao s'.length;rw[<-dT]at hs gI;rw[<-jh]at hs lh;rw[<-ks]at hf EA;rw[<-rR]at hf Xc;rw[<-dT,<-ks,<-jh,<-rR];rw[<-dT,<-ks,<-jh,<-rR]at qI;obtain ⟨W1,bR⟩:=ao (W.alloc (.cells #[.int .u8 so,.string ⟨n.toArray⟩,.slice sa n1 sc,.slice sb m1 se,.int .u8 fo,.string ⟨n'.toArray⟩,.slice fa n2 fc,.slice fb m2 fe,.slice ca cl cc] 89));have hb1:=cX bR;have iq:=DY bR;have x1:=bX bR;have lG:n.length<=16:=by have h:=iu _ hp.s;simp only[kT,ae,bw]at h;exact h.2.1
  have lq:=iu _ hp.s;simp only[kT,ae,bw]at lq;have qh:=iu _ hp.f;have aA:fitF (.mk fo n' a' s'):=⟨by have:=hp.n;simp only at this;omega,jX (by omega) _ qh⟩;have Bm:nodesTs a<=400:=by simp only[nodesF]at ry;omega
  have MY:n1<=400:=by have:=io a;omega
  have SR:n2<=2000000:=by rw[ks];exact aA.args.len
  obtain ⟨HR,HP⟩:=aZ qI hp;have HG:=fA R5 R4 R6 Xa Xb;have HV:=rK hs hf gI EA hc dV;have HN:=cC dT ks jh rR;have HB:=fA rP qw Bm hl iF;have iW:=ab bR;have H1:=bE hb1 iq x1;have HF:=aC aA lq;clear qI hR hp R5 R4 R6 Xa Xb hs hf gI EA lh Xc hc dV dT ks jh rR rP qw Bm hl iF bR hb1 iq aA lq qh z6 ry;simp only[PlQ.val,PlQ.cells];go_enter Tryz.func47,Tryz.ntmps47;go_wp2;rw[<-iW.o];go_cut [5,6] from 14 to 17 (fun s5 s6 wx=>∃B5 B6,s5=.pointer (some ⟨B5,0,none⟩)/\s6=.pointer (some ⟨B6,0,none⟩)/\Cmp W W1 B5 B6 #[.int .u8 so,.string ⟨n.toArray⟩,.slice sa n1 sc,.slice sb m1 se] #[.int .u8 fo,.string ⟨n'.toArray⟩,.slice fa n2 fc,.slice fb m2 fe] wx)
  case first=>
   obtain ⟨c0,c1,c2,c3,c4,c5,c6,c7⟩:=BA x1;have R9:Below W1.heap.size W1 (W1.alloc (.cells #[.int .u8 0,.string ⟨#[]⟩,.slice none 0 0,.slice none 0 0] 36)):=cQ;obtain ⟨d00,d01,d02,d03,d04,d05,d06,d07⟩:=I5 R9 c0 c1 c2 c3 c4 c5 c6 c7;clear R9;have hb1:Below W1.heap.size W1 ((W1.alloc (.cells #[.int .u8 0,.string ⟨#[]⟩,.slice none 0 0,.slice none 0 0] 36)).alloc (.cells #[.int .u8 0,.string ⟨#[]⟩,.slice none 0 0,.slice none 0 0] 36)):=cQ.alloc (by simp) _;obtain ⟨d10,d11,d12,d13,d14,d15,d16,d17⟩:=I5 hb1 c0 c1 c2 c3 c4 c5 c6 c7;clear hb1;have bF:Below W1.heap.size W1 ((W1.alloc (.cells #[.int .u8 so,.string ⟨n.toArray⟩,.slice sa n1 sc,.slice sb m1 se] 36)).alloc (.cells #[.int .u8 0,.string ⟨#[]⟩,.slice none 0 0,.slice none 0 0] 36)):=cQ.alloc (by simp) _;obtain ⟨d20,d21,d22,d23,d24,d25,d26,d27⟩:=I5 bF c0 c1 c2 c3 c4 c5 c6 c7;clear bF;have aJ:Below W1.heap.size W1 ((W1.alloc (.cells #[.int .u8 0,.string ⟨#[]⟩,.slice none 0 0,.slice none 0 0] 36)).alloc (.cells #[.int .u8 so,.string ⟨n.toArray⟩,.slice sa n1 sc,.slice sb m1 se] 36)):=cQ.alloc (by simp) _;obtain ⟨d30,d31,d32,d33,d34,d35,d36,d37⟩:=I5 aJ c0 c1 c2 c3 c4 c5 c6 c7;clear aJ;go_region
   ·go_wp2_with fail;go_meet;exact ⟨_,_,rfl,rfl,Cmp.one W W1 _ _⟩
   ·go_wp2_with fail;go_meet;exact ⟨_,_,rfl,rfl,Cmp.two W W1 _ _⟩
  case rest=>
  obtain ⟨B5,B6,h5,h6,hcm⟩:=hcut;rw[h5,h6];clear h5 h6;obtain ⟨W3,ec⟩:=ao wc;rw[<-ec]at hcm ⊢;clear ec wc;have aJ:Below W.heap.size W W3:=H1.o.1.tr hcm.b;have xp:=bT hcm.b H1.o.2.2;have hlb:=hcm.l;obtain ⟨e0,e1,e2,e3,_,_,_,_⟩:=dh hcm.s;obtain ⟨f0,f1,f2,f3,_,_,_,_⟩:=dh hcm.f;obtain ⟨P0,P1,P2,P3,P4,P5,P6,P7⟩:=BA xp;have P8:=ah xp 8;have H3:=cC aJ xp hcm hlb;have mN:=ab (HV.o.2.2.2.2.2.later aJ);clear aJ xp hcm hlb
  by_cases gW:so=16
  ·subst gW;have HE:=ab (show R=(k,0) by rw[HR.o,aX rfl]);go_wp2;go_ret;exact StepPost.good nF nT HE.o (Kp.below (H3.o.1.tr (ak _ _))) (by omega) (by omega) mN.o
  by_cases kt:so=15
  ·subst kt;obtain ⟨I,hI⟩:=ao (kv ps.reverse [] (.mk fo n' a' s'));have J2:=HR.o;rw[aD (by decide),aX rfl,<-hI]at J2;have CI:=Dj ⟨⟨15,⟨n.toArray⟩,sa,n1,sc,sb,m1,se⟩,⟨fo,⟨n'.toArray⟩,fa,n2,fc,fb,m2,fe⟩,ca,cl,cc⟩ ps HB.o.2.2.2.1 HB.o.2.2.2.2 (.mk fo n' a' s') HF.o.1 [] [] (by have:=HF.o.1.1;simp;omega) (fun _=>rfl) (.slice none 0 0) (fun b=>¬M b) W3 ⟨fo,⟨n'.toArray⟩,fa,n2,fc,fb,m2,fe⟩ (HV.o.2.2.2.2.1.1.later H3.o.1) (Dx _) (HV.o.2.1.later H3.o.1);rw[<-hI]at CI;simp only[PlQ.val,PlQ.cells,FQ.val]at CI;have HC:=ab CI
   cases I with
   | none=>
    have HE:=ab (show R=(k,70) from J2);clear CI J2 hI;have pp156:=();exact pm156
   | some im=>
    have Zw:goodF im:=GO HP.o hI.symm;have UT:=ab Zw;clear CI hI Zw;go_wp2_with (go_at_call 91;refine HC.o.mono ?_;rintro e w4 ⟨⟨⟨p0,p1,p2,p3,p4,p5,p6,p7⟩,rfl,hp⟩,aP⟩;have H4:=aC (hp _ rfl) aP;clear hp aP;simp only[Option.isSome]);obtain ⟨W5,eK⟩:=ao (w4.alloc (.cells #[.int .u8 p0,.string p1,.slice p2 p3 p4,.slice p5 p6 p7] 36));rw[<-eK];have pU:=cX eK;have nq:Below W3.heap.size W3 W5:=H4.o.2.tr pU;have Jr:=DY eK;have x7:=bX eK;have GV:FormV (fun b=>¬M b) W5 (FQ.val ⟨p0,p1,p2,p3,p4,p5,p6,p7⟩) im:=H4.o.1.move (fun b hb hlt=>⟨fun hm=>by have:=HG.o.2.2.2.2 b hm;have:=H3.o.1.size;omega,pU.block b hlt⟩);have jA:=mN.o.later nq;have br:kb<W5.heap.size:=jA.ltb;have g0:W5.cell? ⟨kb,0,none⟩=some (.map (some mF)):=ah jA.box 0;have g1:W5.drew.cell? ⟨kb,0,none⟩=some (.map (some mF)):=ah jA.box 0;have g2:=aa nq e1;have g3:=aa nq.drew e1;have bi:Below W5.heap.size W5 (W5.alloc (.cells #[.int .u8 0,.string ⟨#[]⟩,.slice none 0 0,.slice none 0 0] 36)):=cQ;obtain ⟨g4,g5⟩:=yR bi g0 g2;have H5:=cC nq GV x7 jA;rcases jA.fs.look Tryz.underlying9 Tryz.underlying145 l9 (x:=n) (by have:=HF.o.2.2.1;omega) with ⟨hg,hlk⟩ | ⟨g,vg,hg,hvg,hlk⟩
    ·have l1:=(hlk W5.drew rfl).1;have pp197:=();exact pm197
    ·obtain ⟨⟨EG,EH,EI,EJ,EK,EL,EM,EN⟩,rfl,oZ,GW⟩:=hvg;simp only[FQ.val]at hlk;have l1:=(hlk W5.drew rfl).1;exact pm197
  obtain ⟨G,hG⟩:=ao (so != fo || (n1 != n2 || (m1 != m2 || (n != n' && !bD so))));have hRg:=HR.o;rw[aD gW,aD kt,<-hG]at hRg;obtain ⟨Zx,Zy⟩:=aZ hRg hG;have iv:(so == 16)=false:=by simp[gW]
  have J3:(so == 15)=false:=by simp[kt]
  clear hRg hG;go_upto_region 15 with fail;clear iv J3;go_cut [89] from 55 to 89 (fun s89 wx=>s89=.bool G/\Below W3.heap.size W3 wx)
  case first=>
   by_cases g1:so=fo
   ·subst g1;have a1:(so == so)=true:=by simp
    by_cases g2:n1=n2
    ·subst g2
     by_cases g3:m1=m2
     ·subst g3
      by_cases g4:n=n'
      ·subst g4;have a4:(n == n)=true:=by simp
       go_wp2_with fail;go_meet;exact ⟨by rw[Zy.o];simp,ak _ _⟩
      ·have a4:(n == n')=false:=by simp[g4]
       have a5:(n != n')=true:=by simp[g4]
       obtain ⟨qb,Ot⟩:=ao (bD so);have HQ:=ab (fun (V:World)=>eN ⟨so,⟨n.toArray⟩,sa,n1,sc,sb,m1,se⟩ V);simp only[FQ.val,<-Ot]at HQ;have HGq:=ab (show G=!qb by rw[Zy.o,Ot];simp[g4]);clear Ot;cases qb
       ·go_wp2_with (go_at_call 93;refine (HQ.o _).mono ?_;rintro e w4 ⟨rfl,aP⟩;have H4:=ab aP;clear aP);go_meet;exact ⟨by rw[HGq.o];rfl,H4.o⟩
       ·go_wp2_with (go_at_call 93;refine (HQ.o _).mono ?_;rintro e w4 ⟨rfl,aP⟩;have H4:=ab aP;clear aP);go_meet;exact ⟨by rw[HGq.o];rfl,H4.o⟩
     ·have a3:((m1:Int) != (m2:Int))=true:=by simp;omega
      have a3b:((m1:Int) == (m2:Int))=false:=by simp;omega
      have a3c:¬((m1:Int)=(m2:Int)):=by omega
      go_wp2_with fail;go_meet;exact ⟨by rw[Zy.o];simp[g3],ak _ _⟩
    ·have a3:((n1:Int) != (n2:Int))=true:=by simp;omega
     have a3b:((n1:Int) == (n2:Int))=false:=by simp;omega
     have a3c:¬((n1:Int)=(n2:Int)):=by omega
     go_wp2_with fail;go_meet;exact ⟨by rw[Zy.o];simp[g2],ak _ _⟩
   ·have a1:(so == fo)=false:=by simp[g1]
    have a2:(so != fo)=true:=by simp[g1]
    go_wp2_with fail;go_meet;exact ⟨by rw[Zy.o];simp[g1],ak _ _⟩
  case rest=>
  obtain ⟨h89,aP⟩:=hcut;rw[h89];clear h89;obtain ⟨W4,wS⟩:=ao wc;rw[<-wS]at aP ⊢;clear wS wc
  cases G with
  | true=>
   have HE:=ab (show R=(k,70) by rw[Zx.o];rfl);have eL:=ab (H3.o.1.tr aP);clear aP;go_wp2;go_ret;exact StepPost.bad HE.o (by decide) (Kp.below eL.o)
  | false=>
   have hgg:=Zy.o.symm;simp only[Bool.or_eq_false_iff,bne_eq_false_iff_eq]at hgg;obtain ⟨g1,g2,g3,_⟩:=hgg;subst g1 g2 g3;have zaT:=H3.o.1.tr aP;have xp4:=bT aP H3.o.2.1;have x54:=bT aP H3.o.2.2.1.s;have x64:=bT aP H3.o.2.2.1.f;have q2:=ah x54 2;have hsz:W.heap.size<W4.heap.size:=(bn xp4);have H4:=fA zaT hsz xp4 x64 (H3.o.2.2.2.2);have HK4:=ab (mN.o.later aP);obtain ⟨FC,HVa⟩:=aZ HN.o.2.1 HV.o.2.2.2.1;have zcV:∀ {V:World},Kp M W V->PairsN M V (.slice ca cl cc) ps:=fun h=>HV.o.2.2.2.2.1.kp h;have R7:=ab (show ∀ u∈a,fitT u/\jN 1999999 u=true from fun u hu=>by
    have h1:=e_.1 HF.o.2.2.2.1 u hu;have h2:=f8 hu;have:=HB.o.2.2.1;exact ⟨⟨by omega,jW (by omega) u h1⟩,jW (by omega) u h1⟩)
   have Xd:=Zx.o;simp only[bZ,↓reduceIte]at Xd;have Zx:=ab Xd;clear aP zaT xp4 x54 x64 hsz e0 e1 e2 e3 f0 f1 f2 f3 P0 P1 P2 P3 P4 P5 P6 P7 P8;go_wp2_with fail;clear Xd;go_loopw [93] (fun i wr=>∃(j Ce:Nat) (kj:List (Str×Tm)),j<=n1/\i=.int .i64 j/\Kp (fun b=>b=mT) W4 wr/\Ce<=nT+nodesTs (a.take j)/\KnV (fun b=>¬M b) goodF goodT wr kb mF mT nF Ce ⟨k.fs,kj⟩/\i_ ps.reverse k.ts a a'=i_ ps.reverse kj (a.drop j) (a'.drop j)) (fun i _=>n1 - (intOf i).toNat)
   case atStart=>exact ⟨0,nT,k.ts,bc _,rfl,Kp.refl _,by omega,HK4.o,by simp⟩
   case round=>
    obtain ⟨j,Ce,kj,hj,rfl,bj,oY,dV,gt⟩:=hrel;have hMm:∀ b,b=mT->M b:=fun b e=>e ▸ HG.o.2.1;have hkN:Kp (N2 mF mT) W wr:=(Kp.below H4.o.1).trans (bj.mono (fun b _ h=>.inr h));have J4:Kp M W wr:=hkN.two HG.o.1 HG.o.2.1;have zeN:mT<W.heap.size:=HG.o.2.2.2.2 mT HG.o.2.1
    by_cases hlt:j<n1
    ·have ic:=ct HN.o.1 hlt;have BC:=ct FC.o hlt;obtain ⟨b1,o1,⟨xv,xn,xa,xl,xc⟩,rfl,rQ,hx,c0,c1,c2⟩:=HV.o.2.2.1.get ic;obtain ⟨b2,o2,⟨yv,yn,ya,yl,yc⟩,rfl,hok2,hy,y0,y1,y2⟩:=HVa.o.get BC;simp only at c0 c1 c2 y0 y1 y2;have d0:=J4.cell rQ c0;have d1:=J4.cell rQ c1;have d2:=J4.cell rQ c2;have g0:=J4.cell hok2 y0;have g1:=J4.cell hok2 y1;have g2:=J4.cell hok2 y2;have R8:=(bj.same _ (by have:=H4.o.2.1;omega) (by omega)).trans H4.o.2.2.1;have x6w:=(bj.same _ (bn H4.o.2.2.2.1) (by have:=H4.o.2.2.2.2;have:=H1.o.2.1;omega)).trans H4.o.2.2.2.1;exact pm99
    ·obtain rfl:j=n1:=by omega
     have HE:=ab (show R=({ k with ts:=kj },0) by
      rw[Zx.o,gt,jk (by rw[<-HN.o.1];exact aF _)];simp[i_])
     have cb:a.take j=a:=by rw[HN.o.1];exact cO
     rw[cb]at oY;have HK:=bE hkN oY dV;clear bj oY dV gt cb J4 hkN;go_wp2;go_ret;exact StepPost.good nF Ce HE.o HK.o.1 (by omega) (by have:=HK.o.2.1;have:=HB.o.2.2.1;omega) HK.o.2.2
 |clear pp73e;simp only at hq;obtain ⟨v1,v2,h1,gI,lh⟩:=aW.1 hq;have pp32e:=();exact pm32
 |clear pp73f;simp only at hq;obtain ⟨v1,v2,h1,gI,lh⟩:=aW.1 hq;have pp32f:=();exact pm32
 |clear pp73g;simp only at hq;obtain ⟨v1,v2,h1,gI,lh⟩:=aW.1 hq;have pp32g:=();exact pm32
 |clear pp73h;simp only[PlQ.val,PlQ.cells]at HC hB;have hs:=g_ (63 :: r);have hx:=jz 63 r;simp at hs hx;have h1:((1:Int)<=((63 :: r).length:Int)):=by simp;omega
  have c0:w.drew.cell? ⟨B,0,none⟩=some (.int .u8 so):=ah hB 0;have c1:w.drew.cell? ⟨B,1,none⟩=some (.string sn):=ah hB 1;have c2:w.drew.cell? ⟨B,2,none⟩=some (.slice sa sl sc):=ah hB 2;have c3:w.drew.cell? ⟨B,3,none⟩=some (.slice sb sm se):=ah hB 3;have c4:w.drew.cell? ⟨B,4,none⟩=some (.int .u8 fo):=ah hB 4;have c5:w.drew.cell? ⟨B,5,none⟩=some (.string fn):=ah hB 5;have c6:w.drew.cell? ⟨B,6,none⟩=some (.slice fa fl fc):=ah hB 6;have c7:w.drew.cell? ⟨B,7,none⟩=some (.slice fb fm fe):=ah hB 7;have c8:w.drew.cell? ⟨B,8,none⟩=some (.slice ca cl cc):=ah hB 8;obtain ⟨G,hG⟩:=ao ((ps.map (·.1)).contains r);rw[<-hG]at HC ⊢;clear hv hB hG;go_enter Tryz.func196,Tryz.ntmps196;go_upto_region 1 with fail;go_region_with (go_at_call 163;refine HC.o.mono ?_;rintro e w4 ⟨rfl,aP⟩;have H4:=ab (((ak w.heap.size w).drew).trans aP);clear aP)
  all_goals (go_wp2;go_ret;exact ⟨rfl,H4.o⟩)
 |clear pp73i;simp only[PlQ.val,PlQ.cells]at C7 HX iW ⊢;have c0:W1.cell? ⟨w.heap.size,0,none⟩=some (.int .u8 so):=ah HX.o.2 0;have c1:W1.cell? ⟨w.heap.size,1,none⟩=some (.string sn):=ah HX.o.2 1;have c2:W1.cell? ⟨w.heap.size,2,none⟩=some (.slice sa sl sc):=ah HX.o.2 2;have c3:W1.cell? ⟨w.heap.size,3,none⟩=some (.slice sb sm se):=ah HX.o.2 3;have c4:W1.cell? ⟨w.heap.size,4,none⟩=some (.int .u8 fo):=ah HX.o.2 4;have c5:W1.cell? ⟨w.heap.size,5,none⟩=some (.string fn):=ah HX.o.2 5;have c6:W1.cell? ⟨w.heap.size,6,none⟩=some (.slice fa fl fc):=ah HX.o.2 6;have c7:W1.cell? ⟨w.heap.size,7,none⟩=some (.slice fb fm fe):=ah HX.o.2 7;have c8:W1.cell? ⟨w.heap.size,8,none⟩=some (.slice ca cl cc):=ah HX.o.2 8;clear hv hq dV ZF qI hE hR hl xy hbd hb1 x1 bR hs ry Vd;go_enter Tryz.func125,Tryz.ntmps125;go_upto_region 1 with fail;rw[<-iW.o];go_wp2_with (first | (go_at_call 195;refine C7.o.mono ?_;rintro e w4 ⟨⟨v4,rfl,hv4⟩,aP⟩;have H4:=aC aP hv4;clear aP hv4) | (go_at_call 194;refine (kV.o w4 v4 H4.o.1 H4.o.2).mono ?_;rintro e w5 ⟨rfl,bi⟩;have H5:=ab bi;clear bi));go_ret;exact ⟨rfl,(HX.o.1.tr H4.o.1).tr H5.o⟩
 |obtain ⟨hs,hf,hc,he,hl⟩:=hpv;simp only at hs hf hc he hl ry;have iF:=hp.ps he;obtain ⟨v1,v2,h1,gI,lh⟩:=aW.1 hs;have pp32h:=();exact pm32):G:=h
theorem pm74(h:G:=by
 exact pm276):G:=h
theorem pm75(h:G:=by
 obtain ⟨s1,h1,gI⟩:=aV.1 hq;obtain ⟨tv,tn,ta,tl,tc⟩:=q;exact pm153):G:=h
theorem pm76(h:G:=by
 simp only[TQ.val,cA,Array.mk.injEq,cr,and_true,Value.bool.injEq,Value.string.injEq]at h1 h2;obtain ⟨rfl,rfl,rfl⟩:=h1;obtain ⟨rfl,rfl,rfl⟩:=h2
 first
 |clear pp76a;have HV:=ab hv;simp only[Nat.zero_mul,Nat.add_zero,Nat.one_mul]at c0 c1 c2 mI nU nV;have hlt:([Tm.mk uv xn xa,Tm.mk vv yn ya]:List Tm).length=2:=rfl;rw[hlt];clear hv hu iA hf hfx hfy hl c2 nV hlt;have hb:tJ [.mk uv xn xa,.mk vv yn ya]=(uv && (i8 xn && (vv && cW yn))):=rfl;rw[hb];clear hb;cases uv
  ·go_enter Tryz.func117,Tryz.ntmps117;go_wp2;go_ret;exact ⟨rfl,ak _ _⟩
  ·cases h1:i8 xn
   ·have C1:=ab (fun w=>h1 ▸ iI xn w oL);clear h1;go_enter Tryz.func117,Tryz.ntmps117;go_wp2_with (go_at_call 152;refine (C1.o _).mono ?_;rintro e w' ⟨rfl,hb⟩);go_ret;exact ⟨rfl,hb⟩
   ·have C1:=ab (fun w=>h1 ▸ iI xn w oL);clear h1;cases vv
    ·go_enter Tryz.func117,Tryz.ntmps117;go_wp2_with (go_at_call 152;refine (C1.o _).mono ?_;rintro e w' ⟨rfl,hb⟩;have g0:=aa hb mI;have HB:=ab hb;clear hb);go_ret;exact ⟨rfl,HB.o⟩
    ·go_enter Tryz.func117,Tryz.ntmps117;go_wp2_with (first | (go_at_call 152;refine (C1.o _).mono ?_;rintro e w' ⟨rfl,hb⟩;have g0:=aa hb mI;have g1:=aa hb nU;have HB:=ab hb;clear hb) | (go_at_call 186;refine (kL yn _ hy2).mono ?_;rintro e w3 ⟨rfl,aJ⟩));go_ret;exact ⟨rfl,HB.o.trans (aJ.mono HB.o.size)⟩
 |clear pp76b;obtain rfl:=fL.len;obtain rfl:=Jv.len;obtain ⟨pa,pl,pc,rfl⟩:∃pa pl pc,v=.slice pa pl pc:=by obtain ⟨a,c,h,_⟩:=hp;exact ⟨_,_,_,h⟩
  obtain rfl:=hp.len;have FH:=hf.args;have cf:=FH.len;have hm:=MQ ps.reverse uv vv xn yn xa ya;obtain ⟨R,hR⟩:=ao (mf ps.reverse (.mk uv xn xa) (.mk vv yn ya));rw[<-hR]at hm ⊢;obtain ⟨k0,cg⟩:=ao xa.length;obtain ⟨m0,el⟩:=ao ya.length;obtain ⟨p0,nD⟩:=ao ps.length;rw[<-cg,<-el]at hm;rw[<-cg]at cf;rw[<-nD]at iF;rw[<-cg]at fL;rw[<-el]at Jv;rw[<-nD]at hp;rw[<-cg,<-el,<-nD];obtain ⟨dJ,ib,FF,UF,Zk,HP,fd,HF⟩:=VR cg el nD fL Jv hp ih FH;clear hR cg el nD fL Jv hp ih hf FH hq oy;have bF:Below w.heap.size w ((w.alloc (.cells #[.bool uv,.string ⟨xn.toArray⟩,.slice ua k0 uc] 43)).alloc (.cells #[.bool vv,.string ⟨yn.toArray⟩,.slice va m0 vc] 43)):=cQ.alloc (by simp) _;obtain ⟨W2,bl⟩:=ao ((w.alloc (.cells #[.bool uv,.string ⟨xn.toArray⟩,.slice ua k0 uc] 43)).alloc (.cells #[.bool vv,.string ⟨yn.toArray⟩,.slice va m0 vc] 43));rw[<-bl]at bF;have HX:Hd (W2.heap[w.heap.size]?=some (.cells #[.bool uv,.string ⟨xn.toArray⟩,.slice ua k0 uc] 43 (0,0))):=ab (by rw[bl];exact (bK _ _ _ (by simp)).trans (aj rfl));have HY:Hd (W2.heap[w.heap.size+1]?=some (.cells #[.bool vv,.string ⟨yn.toArray⟩,.slice va m0 vc] 43 (0,0))):=ab (by rw[bl];exact aj (by simp));have gV:w.heap.size+2=W2.heap.size:=by rw[bl];simp
  obtain ⟨cJ,gF⟩:=aZ bF bl;clear bF bl;unfold TQ.val
  by_cases MM:uv=vv/\k0=m0
  ·obtain ⟨rfl,rfl⟩:=MM;simp at hm;have HM:=ab hm;clear hm;have e1:((k0:Int) != (k0:Int))=false:=by simp
   go_enter Tryz.func160,Tryz.ntmps160;cases uv
   ·have zB:Hd (R=(xn == yn && dH ps.reverse xa ya)):=ab (by rw[HM.o];simp)
    by_cases dK:xn=yn
    ·subst dK;have pp224:=();exact pm224
    ·have gx:(xn == yn)=false:=by simpa using dK
     have lg:(!(xn == yn))=true:=by simpa using dK
     have HE:=ab (show R=false by rw[zB.o];simp[gx]);go_wp2;rw[<-gF.o];go_ret;exact ⟨aK HE.o.symm,cJ.o.trans ((ak _ _).mono (by have:=cJ.o.size;omega))⟩
   ·go_wp2;rw[<-gF.o];go_loopw [7] (fun i wr=>∃j:Nat,j<=p0/\i=.int .i64 ((j:Int) - 1)/\Below W2.heap.size W2 wr/\sd ps.reverse xn yn=sd (ps.take j).reverse xn yn) (fun i _=>(intOf i+1).toNat)
    case atStart=>exact ⟨p0,aF _,by go_num,ak _ _,by rw[FF.o,cO]⟩
    case round=>
     obtain ⟨j,hj,rfl,fp,ht⟩:=hrel
     cases j with
     | zero=>
      have zB:Hd (R=(xn == yn && dH ps.reverse xa ya)):=ab (by rw[HM.o,ht,List.take_zero];simp[MP]);obtain ⟨jg,Eb⟩:=ao wr;subst Eb;have Zl:=ab fp;have zeC:((0:Nat):Int) - 1=-1:=rfl;have x1:jg.cell? ⟨w.heap.size,1,none⟩=some (.string ⟨xn.toArray⟩):=aa fp (ah HX.o 1);have x2:jg.cell? ⟨w.heap.size,2,none⟩=some (.slice ua k0 uc):=aa fp (ah HX.o 2);have y1:jg.cell? ⟨w.heap.size+1,1,none⟩=some (.string ⟨yn.toArray⟩):=aa fp (ah HY.o 1);clear fp ht
      by_cases dK:xn=yn
      ·subst dK;exact pm224
      ·have gx:(xn == yn)=false:=by simpa using dK
       have lg:(!(xn == yn))=true:=by simpa using dK
       have HE:=ab (show R=false by rw[zB.o];simp[gx]);go_wp2;go_ret;exact ⟨aK HE.o.symm,cJ.o.trans (Zl.o.mono (by have:=cJ.o.size;omega))⟩
     | succ j=>
      have lC:j<ps.length:=by rw[<-FF.o];omega
      rw[show (((j+1:Nat):Int) - 1)=(j:Int) by omega];rw[Pe lC,Ju]at ht;obtain ⟨b,off,rfl,g0,g1⟩:=HP.o.get lC;obtain ⟨⟨p1,p2⟩,hpj⟩:∃x,ps[j]=x:=⟨_,rfl⟩;rw[hpj]at ht g0 g1;simp only at ht g0 g1;have ar:=cJ.o.trans (fp.mono (by omega));have f0:=fun x:Later wr=>x.get (aa ar g0);have f1:=fun x:Later wr=>x.get (aa ar g1);have f2:=fun x:Later wr=>x.get (aa fp (ah HX.o 1));have f3:=fun x:Later wr=>x.get (aa fp (ah HY.o 1));have hjj:(j:Int)<(p0:Int):=by omega
      obtain ⟨sU,dy⟩:=aZ fp ar;clear fp ar g0 g1 hpj
      by_cases ha:p1=xn <;> by_cases hb:p2=yn
      ·subst ha;subst hb;have gx:(p1 == p1)=true:=by first | (simp;done) | simpa using ha
       have lg:(p2 == p2)=true:=by first | (simp;done) | simpa using hb
       have HE:=ab (show R=true by rw[HM.o,ht];simp);clear ht;have pp58b:=();exact pm58
      ·subst ha;have gx:(p1 == p1)=true:=by first | (simp;done) | simpa using ha
       have lg:(p2 == yn)=false:=by first | (simp;done) | simpa using hb
       have HE:=ab (show R=false by rw[HM.o,ht];simp[lg]);clear ht;have pp58b:=();exact pm58
      ·subst hb;have gx:(p1 == xn)=false:=by first | (simp;done) | simpa using ha
       have lg:(p2 == p2)=true:=by first | (simp;done) | simpa using hb
       have HE:=ab (show R=false by rw[HM.o,ht];simp[gx]);clear ht;have pp58b:=();exact pm58
      ·have gx:(p1 == xn)=false:=by simpa using ha
       have lg:(p2 == yn)=false:=by simpa using hb
       have HT:=ab (show sd ps.reverse xn yn=sd (ps.take j).reverse xn yn by rw[ht];simp[gx,lg]);clear ht;have pp58c:=();exact pm58
  ·have Pf:R=false:=by rw[hm];rcases Decidable.not_and_iff_or_not.1 MM with h | h <;> simp[h]
   have HE:=ab Pf;clear hm Pf;go_enter Tryz.func160,Tryz.ntmps160
   by_cases hv:uv=vv
   ·subst hv;have nk:¬k0=m0:=fun h=>MM ⟨rfl,h⟩;have e1:((k0:Int) == (m0:Int))=false:=by simp;omega
    have e2:((k0:Int) != (m0:Int))=true:=by simp;omega
    cases uv <;> (go_wp2;rw[<-gF.o];go_ret;exact ⟨aK HE.o.symm,cJ.o⟩)
   ·cases uv <;> cases vv <;> first | exact absurd rfl hv | (go_wp2;rw[<-gF.o];go_ret;exact ⟨aK HE.o.symm,cJ.o⟩)
 |clear pp76c;obtain ⟨W,hW⟩:=ao ((w.alloc (.cells #[.bool uv,.string ⟨xn.toArray⟩,.slice ua ul uc] 43)).alloc (.cells #[.bool vv,.string ⟨yn.toArray⟩,.slice va vl vc] 43));have hB:=lB hW;have C1:=ih ya ok ok' W ua ul uc va vl vc hf.args I4.args (fL.later hB) (Jv.later hB);rw[hW]at hB C1;have hm:=LG uv vv xn yn xa ya;obtain ⟨R,hR⟩:=ao (uA (.mk uv xn xa) (.mk vv yn ya));rw[<-hR]at hm ⊢;obtain ⟨c,hc⟩:=ao (Lib.compareBytes xn yn);rw[<-hc]at hm;obtain ⟨d,hd⟩:=ao (Dn xa ya);simp only[Tm.a]at C1;rw[<-hd]at hm C1;have HS:Hd (∀ W,Calls Tryz.prog 272 #[.string ⟨xn.toArray⟩,.string ⟨yn.toArray⟩] W fun e w'=>e=.returned (.int .i64 c)/\w'=W):=ab (fun W=>by rw[hc];exact Tryz.strings_Compare _ _ W);obtain ⟨HC,HB⟩:=aZ C1 hB;clear hR hc hd C1 hB fL Jv hW ih hf I4 hq oy;unfold TQ.val;go_enter Tryz.func226,Tryz.ntmps226
  by_cases h0:c=0
  ·subst h0;cases uv <;> cases vv <;> simp at hm <;> subst hm <;>
   (go_wp2_with (first | (go_at_call 272;refine (HS.o _).mono ?_;rintro e w2 ⟨rfl,rfl⟩) | (go_at_call 273;refine HC.o.mono ?_;rintro e w3 ⟨rfl,aJ⟩;have bM:=ab aJ;clear aJ))
    go_ret
    first | exact ⟨rfl,HB.o⟩ | exact ⟨rfl,HB.o.trans (bM.o.mono (by simp;omega))⟩)
  ·have d1:(c == 0)=false:=by simpa using h0
   have d2:(c != 0)=true:=by simpa using h0
   cases uv <;> cases vv <;> simp[h0]at hm <;> subst hm <;>
   (go_wp2_with (go_at_call 272;refine (HS.o _).mono ?_;rintro e w2 ⟨rfl,rfl⟩)
    go_ret;exact ⟨rfl,HB.o⟩)
 |clear pp76d;obtain rfl:=gI.len;obtain rfl:=EA.len;obtain ⟨n1,dT⟩:=ao a.length;obtain ⟨n2,ks⟩:=ao a'.length;have lG:=ky.name;have PP:=dK;unfold jN at PP;simp only[ae,bw]at PP;have Jc:=ab PP.1;have R7:=ab (e_.1 PP.2);clear dK PP;have MY:=ky.args.len;have SR:=(HG.o.2.1 _ Zw).args.len;rw[<-dT]at MY;rw[<-ks]at SR;obtain ⟨R,hR⟩:=ao (i9 (ps.reverse.map (·.1)) k.ts (.mk tv n a) (.mk uv n' a'));have qI:=hR;rw[i9]at qI;rw[<-hR];obtain ⟨W3,ec⟩:=ao (((W.alloc (.cells q.cells 89)).alloc (.cells #[.bool tv,.string ⟨n.toArray⟩,.slice ta n1 tc] 43)).alloc (.cells #[.bool uv,.string ⟨n'.toArray⟩,.slice ua n2 uc] 43));have aJ:=xW ec;have pN:=IX ec;have xp:=yN ec;have xt:=rW ec;have xu:=qd ec;have ln:=dV.later aJ;rw[<-dT]at pT gI;rw[<-ks]at huv EA;rw[<-dT,<-ks];have HR:=ab qI;have H3:=rK aJ pN xp xt xu ln;have HT:=cC (pT.later aJ) (huv.later aJ) (gI.later aJ) (EA.later aJ);have HF:=aC ky Zw;have HN:=aC dT ks;have Zm:=ab (iF.kp (Kp.below aJ));obtain ⟨fd,yi⟩:=aZ ih ec;have HmT:=ab (show mT<W.heap.size from dV.ts.lt);have Bm:nodesT (.mk tv n a)=nodesTs a+1:=by unfold nodesT;omega
  have PQ:=aC qw Bm;obtain ⟨e0,e1,e2,_⟩:=fX xt;obtain ⟨f0,f1,f2,_⟩:=fX xu;obtain ⟨P0,P1,P2,P3,P4,P5,P6,P7,P8⟩:=ir xp;have pp73c:=();exact pm73
 |have f0:=fun x:Later wr=>x.get (aa ar c0);have f1:=fun x:Later wr=>x.get (aa ar c1);have f2:=fun x:Later wr=>x.get (aa ar c2);have f3:=fun x:Later wr=>x.get (aa ar mI);have f4:=fun x:Later wr=>x.get (aa ar nU);have f5:=fun x:Later wr=>x.get (aa ar nV);have FE:(k:Int)<(k0:Int):=by omega
  obtain ⟨HB,HT⟩:=aZ ar ht;have HX:=aC hx hy;have jD:∀ (h:l[k]≠m[k]),jm l m=false:=fun h=>by
   cases he:jm l m with
   | false=>rfl
   | true=>exact absurd (by rw[List.getElem_of_eq ((gP _ _).1 he)]) h
  have HNe:=ab jD;have CC:=ab (fun (x:Later wr)=>qB ya ok ok' x.w ua ul uc va vl vc hf.args ((fL.later ar).later x.below) ((Jv.later ar).later x.below));clear hu iA qB hf hx hy fL Jv ar ht jD c0 c1 c2 mI nU nV
  by_cases hv:uv=vv
  ·subst hv;have Lw:(uv != uv)=false:=by simp
   by_cases hn:xn=yn
   ·subst hn;obtain ⟨R,hR⟩:=ao (jm xa ya);have CC:=ab (show ∀ x:Later wr,Calls Tryz.prog 19 #[.slice ua ul uc,.slice va vl vc] x.w fun e w'=>e=.returned (.bool R)/\Below x.w.heap.size x.w w' from fun x=>by rw[hR];exact CC.o x);have HR:=ab hR;clear hR;go_wp2;refine aS (by kernel_rfl) (by kernel_rfl) ?_
    repeat (go_big_quiet_step ((go_at_call 19;exact cw (CC.o _))))
    refine wpQuiet_nil ?_;rintro _ ⟨x',rfl⟩;clear f0 f1 f2 f3 f4 f5;have cJ:=ab (HB.o.trans (x'.below.mono HB.o.size));cases R
    ·go_wp2;go_ret;exact ⟨aK (HNe.o (by rw[HX.o.1,HX.o.2];intro h;injection h with _ _ h;rw[<-h,oN]at HR;exact absurd HR.o (by simp))).symm,cJ.o⟩
    ·go_wp2;go_roundw
     case rel=>exact ⟨k+1,by omega,by go_num,cJ.o,uS HT.o br nk (by rw[HX.o.1,HX.o.2,(gP _ _).1 HR.o.symm])⟩
     case measure=>simp[intOf];omega
   ·have gx:(xn == yn)=false:=by simpa using hn
    have lg:(!(xn == yn))=true:=by simpa using hn
    have pp58d:=();exact pm58
  ·cases uv <;> cases vv
   all_goals
    first
    | exact absurd rfl hv
    | (go_wp2
       refine aS (by kernel_rfl) (by kernel_rfl) ?_
       repeat (go_big_quiet_step (fail))
       refine wpQuiet_nil ?_;rintro _ ⟨x',rfl⟩;clear f0 f1 f2 f3 f4 f5;go_wp2;go_ret;exact ⟨aK (HNe.o (by rw[HX.o.1,HX.o.2];intro h;injection h with h _ _;exact hv h)).symm,HB.o.trans (x'.below.mono HB.o.size)⟩)):G:=h
theorem pm77(h:G:=by
 clear hT;clear Ft N9 Fu;obtain ⟨vz,tc,fz⟩:=h.get 32 _ 144 rfl rfl;obtain rfl:vz=.bool false:=fz;clear h;refine Iv _ _ ?_;refine wpIn_cond_false (aG tc) (wpIn_skip ?_);refine Iu _ _ ?_;exact YW WB w fw s bd m ft hP b3 b4 _ _ ⟨RM,RN,RO,t2,⟨_,F3⟩,⟨_,B4⟩⟩):G:=h
theorem pm78(h:G:=by
 have hx9:(w8.alloc (.cells #[.int .u8 po,.string pn,.slice pa pl pc,.slice pb pm pe] 36)).heap[w8.heap.size]?=some (.cells #[.int .u8 po,.string pn,.slice pa pl pc,.slice pb pm pe] 36 (0,0)):=aj rfl;obtain ⟨W9,rO⟩:=ao ((w8.alloc (.cells #[.int .u8 po,.string pn,.slice pa pl pc,.slice pb pm pe] 36)).setCell ⟨w.heap.size+1+1+1,3,none⟩ (.slice (some ⟨w8.heap.size,0,none⟩) 1 1));have mO:=uw.setR 3 (.slice (some ⟨w8.heap.size,0,none⟩) 1 1);rw[<-rO]at mO
 first
 |clear pp78;have UP:W9.heap[w8.heap.size]?=some (.cells #[.int .u8 po,.string pn,.slice pa pl pc,.slice pb pm pe] 36 (0,0)):=by rw[rO];exact (d9 _ _ _ _ (by have:=(Ev.o.later gS).lt;simp <;> omega)).trans hx9
  have UJ:FormV (w7.heap.size<=·) W9 (FQ.val ⟨po,pn,pa,pl,pc,pb,pm,pe⟩) (eD kk nx z g):=by
   rw[rO];exact UO.move (fun b hok hlt=>⟨hok,(d9 _ _ _ _ (by have:=Ev.o.lt;simp <;> omega)).trans (lO.block b hlt)⟩)
  have zO:FormV (w7.heap.size<=·) W9 (FQ.val ⟨qo,⟨n.toArray⟩,fJ,0,fK,some ⟨w8.heap.size,0,none⟩,1,1⟩) (.mk qo n [] [eD kk nx z g]):=aW.2 ⟨_,_,rfl,b_,rx UJ (by omega) UP⟩;have q3:=ah uw.b2 3;have zq3:=ac uw.b2 3;obtain ⟨f0,f1,f2,f3⟩:=mi mO.b2;obtain ⟨r0,r1,r2,r3⟩:=mi mO.b1;have z0:=ac mO.b1 0;have z1:=ac mO.b1 1;have z2:=ac mO.b1 2;have z3:=ac mO.b1 3;obtain ⟨SK,HP⟩:=aZ mO zO;have WD:=Ev.o.lt;rw[rO]at f0 f1 f2 f3 r0 r1 r2 r3 z0 z1 z2 z3;have HW9:=ab rO;clear UO gS WG hwX lO uw hx9 rO mO UP UJ zO;gi_wp2;rw[<-HW9.o];have x6:=lm (v0:=.int .u8 qo) (v1:=.string ⟨n.toArray⟩) (v2:=.slice fJ 0 fK) (v3:=.slice (some ⟨w8.heap.size,0,none⟩) 1 1) SK.o.b1;have k6:=dI (W:=W9) (b:=w.heap.size+1+1) (v0:=.int .u8 qo) (v1:=.string ⟨n.toArray⟩) (v2:=.slice fJ 0 fK) (v3:=.slice (some ⟨w8.heap.size,0,none⟩) 1 1);obtain ⟨W6,cP⟩:=ao ((((W9.setCell ⟨w.heap.size+1+1,0,none⟩ (.int .u8 qo)).setCell ⟨w.heap.size+1+1,1,none⟩ (.string ⟨n.toArray⟩)).setCell ⟨w.heap.size+1+1,2,none⟩ (.slice fJ 0 fK)).setCell ⟨w.heap.size+1+1,3,none⟩ (.slice (some ⟨w8.heap.size,0,none⟩) 1 1));rw[<-cP]at x6 k6 ⊢;clear cP;have g0:W6.cell? ⟨w.heap.size+1+1,0,none⟩=some (.int .u8 qo):=ah x6 0;have g1:W6.cell? ⟨w.heap.size+1+1,1,none⟩=some (.string ⟨n.toArray⟩):=ah x6 1;have g2:W6.cell? ⟨w.heap.size+1+1,2,none⟩=some (.slice fJ 0 fK):=ah x6 2;have g3:W6.cell? ⟨w.heap.size+1+1,3,none⟩=some (.slice (some ⟨w8.heap.size,0,none⟩) 1 1):=ah x6 3;refine bI (v:=FQ.val ⟨qo,⟨n.toArray⟩,fJ,0,fK,some ⟨w8.heap.size,0,none⟩,1,1⟩) (by simp[FQ.val,results,Tryz.results101,go_sem,g0,g1,g2,g3]) rfl ⟨⟨⟨qo,⟨n.toArray⟩,fJ,0,fK,some ⟨w8.heap.size,0,none⟩,1,1⟩,rfl,wk.o ▸ HP.o.move (fun b hok hlt=>⟨by omega,k6.same b hlt (by omega)⟩)⟩,Below.kp1 SK.o.below k6 (by omega)⟩
 |have UP:W9.heap[w8.heap.size]?=some (.cells #[.int .u8 po,.string pn,.slice pa pl pc,.slice pb pm pe] 36 (0,0)):=by rw[rO];exact (d9 _ _ _ _ (by have:=(ux.o.later gS).lt;simp <;> omega)).trans hx9
  have UJ:FormV (lP.heap.size<=·) W9 (FQ.val ⟨po,pn,pa,pl,pc,pb,pm,pe⟩) (eD kk nx z G2):=by
   rw[rO];exact UO.move (fun b hok hlt=>⟨hok,(d9 _ _ _ _ (by have:=ux.o.lt;simp <;> omega)).trans (lO.block b hlt)⟩)
  have zO:FormV (lP.heap.size<=·) W9 (FQ.val ⟨qo,⟨m.toArray⟩,fJ,0,fK,some ⟨w8.heap.size,0,none⟩,1,1⟩) (.mk qo m [] [eD kk nx z G2]):=aW.2 ⟨_,_,rfl,b_,rx UJ (by omega) UP⟩;have q3:=ah uw.b2 3;have zq3:=ac uw.b2 3;obtain ⟨f0,f1,f2,f3⟩:=mi mO.b2;obtain ⟨r0,r1,r2,r3⟩:=mi mO.b1;have z0:=ac mO.b1 0;have z1:=ac mO.b1 1;have z2:=ac mO.b1 2;have z3:=ac mO.b1 3;obtain ⟨SK,HP⟩:=aZ mO zO;have WD:=ux.o.lt;rw[rO]at f0 f1 f2 f3 r0 r1 r2 r3 z0 z1 z2 z3;have HW9:=ab rO;clear UO gS WG hwX lO uw hx9 rO mO UP UJ zO;gi_wp2;rw[<-HW9.o];have x6:=lm (v0:=.int .u8 qo) (v1:=.string ⟨m.toArray⟩) (v2:=.slice fJ 0 fK) (v3:=.slice (some ⟨w8.heap.size,0,none⟩) 1 1) SK.o.b1;have k6:=dI (W:=W9) (b:=w.heap.size+1+1) (v0:=.int .u8 qo) (v1:=.string ⟨m.toArray⟩) (v2:=.slice fJ 0 fK) (v3:=.slice (some ⟨w8.heap.size,0,none⟩) 1 1);obtain ⟨W6,cP⟩:=ao ((((W9.setCell ⟨w.heap.size+1+1,0,none⟩ (.int .u8 qo)).setCell ⟨w.heap.size+1+1,1,none⟩ (.string ⟨m.toArray⟩)).setCell ⟨w.heap.size+1+1,2,none⟩ (.slice fJ 0 fK)).setCell ⟨w.heap.size+1+1,3,none⟩ (.slice (some ⟨w8.heap.size,0,none⟩) 1 1));rw[<-cP]at x6 k6 ⊢;clear cP;have g0:W6.cell? ⟨w.heap.size+1+1,0,none⟩=some (.int .u8 qo):=ah x6 0;have g1:W6.cell? ⟨w.heap.size+1+1,1,none⟩=some (.string ⟨m.toArray⟩):=ah x6 1;have g2:W6.cell? ⟨w.heap.size+1+1,2,none⟩=some (.slice fJ 0 fK):=ah x6 2;have g3:W6.cell? ⟨w.heap.size+1+1,3,none⟩=some (.slice (some ⟨w8.heap.size,0,none⟩) 1 1):=ah x6 3;refine bI (v:=FQ.val ⟨qo,⟨m.toArray⟩,fJ,0,fK,some ⟨w8.heap.size,0,none⟩,1,1⟩) (by simp[FQ.val,results,Tryz.results101,go_sem,g0,g1,g2,g3]) rfl ⟨⟨⟨qo,⟨m.toArray⟩,fJ,0,fK,some ⟨w8.heap.size,0,none⟩,1,1⟩,rfl,wk.o ▸ HP.o.move (fun b hok hlt=>⟨by omega,k6.same b hlt (by omega)⟩)⟩,Below.kp1 SK.o.below k6 (by omega)⟩):G:=h
