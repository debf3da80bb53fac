/-
Runs of tactics that several proofs share.
-/
import Derived.ArgAppend
import Derived.Below
import Derived.BigQuiet
import Derived.BigRegionIn
import Derived.CallsIn
import Derived.Carry
import Derived.ChangeMaps5
import Derived.ChangeSame
import Derived.ChangeStays
import Derived.ControlIn
import Derived.Deep.AppendLies
import Derived.Deep.Cut
import Derived.Deep.DeepCutAuto
import Derived.Deep.DeepHandedRow
import Derived.Deep.DeepWitnessRowRef
import Derived.Deep.Fields
import Derived.Deep.LoopGhost
import Derived.Deep.QuietTactic
import Derived.Deep.Slices
import Derived.Deep.Upon
import Derived.Defers
import Derived.Ground.GgzProg
import Derived.Ground.SlgmProg
import Derived.JoinedCond
import Derived.Laws.World
import Derived.Lib.Hide
import Derived.Lib.ItoaMem
import Derived.Lib.ItoaNum
import Derived.Lib.LaidTab
import Derived.Lib.LaidU8
import Derived.Lib.SliceRun
import Derived.Lib.SmallJoins
import Derived.LoopIn
import Derived.Maps.OwnIn
import Derived.Maps.OwnSet
import Derived.OpenShut
import Derived.OrdersHeld
import Derived.OrdersIn
import Derived.OwnWalkIn
import Derived.ProofKit
import Derived.RangeFuncBound
import Derived.RangeFuncBox
import Derived.RangeFuncLeaves
import Derived.RangeFuncNested
import Derived.RangeFuncRecord
import Derived.RegionIn
import Derived.Shelf.Abstract
import Derived.Shelf.AbstractIn
import Derived.Shelf.SlIter.Nil
import Derived.Shelf.SortM.Plain
import Derived.Shelf.SortM.SortNone
import Derived.ShutString
import Derived.SizedLaws
import Derived.SliceStrings
import Derived.Sort.KeysCollected
import Derived.Sort.Walk0
import Derived.Stop.RegionWithIn
import Derived.Tactics
import Derived.TacticsIn
import Derived.TacticsInMore
import Derived.WalkKit
import Derived.WalkLawsBesides
import Derived.WalkMore
import Derived.WalkSpells
namespace Go.Proofs.YtokemihbkeddoaaGreatDoor
open Go Go.RowKit Lib
set_option maxRecDepth 100000
variable {G:Prop}
theorem pm0(h:G:=by
 have pp151a:=();exact pm151):G:=h
theorem pm1(h:G:=by
 have dU:S W6.drew:=by rw[hS];exact (aj _ _).drew
 have tZ:Kp (fun b=>b=mT) W3 W6.drew:=bj.trans (Kp.below da.drew);have LL:∀ b,b=mT->M b:=fun b e=>e ▸ HG.o.2.2.2.1;have wv:=o9 me;have CC:=fR.o a[j] (aw me) (HF.o.1.args.mem (aw me)) (R2.o _ (aw me)) a'[j] (HG.o.2.2.1 _ _ _ HF.o.2 _ (aw CX)) W6.drew nF Dm ⟨k.fs,kj⟩ ⟨xv,xn,xa,xl,xc⟩ ⟨yv,yn,ya,yl,yc⟩ (fA.later da.drew) (by have:=PS.o;omega) (Y2.o.kp (tZ.mono (fun b _ h=>LL b h))) (hx.kpM tZ LL) (hy.kpM tZ LL);have cR:bR (ps.reverse.map (·.1)) kj (a.drop j) (a'.drop j)=match cJ (ps.reverse.map (·.1)) kj a[j] a'[j] with | some k'=>bR (ps.reverse.map (·.1)) k' (a.drop (j+1)) (a'.drop (j+1)) | none=>none:=by
  rw[gj me,gj CX,bR];rfl
 rw[cR]at gP;simp only[TQ.val,PlQ.val,PlQ.cells]at CC;have HK:=bF tZ pd wv;have WH:=ac dm;have ES:(j:Int)<(n1:Int):=by omega
 cases SX:cJ (ps.reverse.map (·.1)) kj a[j] a'[j] with
 | none=>
  rw[SX]at CC gP;have HC:=ac CC;have Kd:=ac (show R=none from gP);have pp137:=();exact pm137
 | some ts0=>
  rw[SX]at CC gP;have HC:=ac CC;have Kd:=ac (show R=bR (ps.reverse.map (·.1)) ts0 (a.drop (j+1)) (a'.drop (j+1)) from gP);exact pm137):G:=h
theorem pm2(h:G:=by
 obtain ⟨k,hk,rfl,dt,ht⟩:=hrel
 by_cases hlt:k<k0
 ·have bg:=ce dA.o hlt;have kt:=ce gR.o hlt;have ar:=gG.o.trans (dt.mono gG.o.size);have pp75:=();exact pm75
 first
 |clear pp2a
  ·obtain rfl:k0=k:=by omega
   have PY:=ac (show R=cb ps.reverse xs ys by rw[ht,gD (by rw[dA.o];exact aD _)];simp[bM]);have pp42a:=();exact pm42
 |clear pp2b
  ·obtain rfl:k0=k:=by omega
   have PY:=ac (show R=cb (ps ++ [(xn,xn)]).reverse xs ys by rw[ht,gD (by rw[dA.o];exact aD _)];simp[bM]);have pp42b:=();exact pm42
 |·obtain rfl:k0=k:=by omega
   have PY:=ac (show R=cb (ps ++ [(xn,yn)]).reverse xs ys by rw[ht,gD (by rw[dA.o];exact aD _)];simp[bM]);obtain ⟨hZ,wK⟩:=am wr;subst wK;have vh:=ac (gG.o.trans (dt.mono gG.o.size));have vi:=ac (bJ dt l9.o);have S2:=ac (bJ dt nj.o);have S3:=ac (pL.o.later dt);have x0:hZ.cell? ⟨w.heap.size,0,none⟩=some (.int .u8 uo):=ah vi.o 0;have x1:hZ.cell? ⟨w.heap.size,1,none⟩=some (.string ⟨xn.toArray⟩):=ah vi.o 1;have x2:hZ.cell? ⟨w.heap.size,2,none⟩=some (.slice ua k0 uc):=ah vi.o 2;have x3:hZ.cell? ⟨w.heap.size,3,none⟩=some (.slice ub k1 ue):=ah vi.o 3;clear dt ht l9 nj pL gG;go_wp2_with (go_at_call 93;refine (Hz.o _).mono ?_;rintro e X4 ⟨rfl,aO⟩;have l9:=ac (bJ aO vi.o);have nj:=ac (bJ aO S2.o);have pL:=ac (S3.o.later aO);have gG:=ac (vh.o.trans (aO.mono vh.o.size));have z3:X4.cell? ⟨w.heap.size,3,none⟩=some (.slice ub k1 ue):=ah l9.o 3;clear aO);obtain ⟨S,hS⟩:∃S:World->Prop,S=fun V=>Below X4.heap.size X4 V:=⟨_,rfl⟩;have rY:X4.cell? ⟨w.heap.size,1,none⟩=some (.string ⟨xn.toArray⟩):=ah l9.o 1;have rX:X4.cell? ⟨w.heap.size+1,1,none⟩=some (.string ⟨yn.toArray⟩):=ah nj.o 1;have f0:∀ V,S V->V.cell? ⟨w.heap.size,1,none⟩=some (.string ⟨xn.toArray⟩):=fun V h=>by rw[hS]at h;exact aa h rY
   have f1:∀ V,S V->V.cell? ⟨w.heap.size+1,1,none⟩=some (.string ⟨yn.toArray⟩):=fun V h=>by rw[hS]at h;exact aa h rX
   have dU:S X4.drew:=by rw[hS];exact (aj _ _).drew
   have Gu:=HP.o.cases;obtain ⟨UT,dp⟩:=aW Gu hS;clear hS rY rX Gu;refine (wpIn_wide (n:=3)).1 ?_;refine lH S 12 dU fun jC bN=>?_;refine bC 0 64 (.slice pa p0 pc) rfl bN fun cr=>?_;simp only[ag];refine bC 1 65 (.slice pa p0 pc) rfl cr fun f_=>?_;simp only[ag];refine bC 2 66 (.int .i64 (p0:Int)) rfl f_ fun gQ=>?_;simp only[ag];refine bC 3 67 (.slice pa p0 pc) rfl gQ fun iK=>?_;simp only[ag];refine bC 4 68 (.int .i64 (p0:Int)) rfl iK fun jF=>?_;simp only[ag];refine dh 5 69 (.slice pa p0 p0) rfl (fun V hX=>by rcases UT.o with ⟨rfl,rfl,rfl⟩ | ⟨b,off,rfl⟩ <;> go_simp) jF fun j7=>?_;simp only[ag];refine bC 6 70 (.pointer (some ⟨w.heap.size,1,none⟩)) rfl j7 fun mi=>?_;simp only[ag];refine dh 7 71 (.string ⟨xn.toArray⟩) rfl (fun V hX=>by have g0:=f0 V hX;go_simp) mi fun rF=>?_;simp only[ag];refine bC 8 72 (.pointer (some ⟨w.heap.size+1,1,none⟩)) rfl rF fun Hv=>?_;simp only[ag];refine dh 9 73 (.string ⟨yn.toArray⟩) rfl (fun V hX=>by have g1:=f1 V hX;go_simp) Hv fun zh=>?_;simp only[ag];refine bC 10 74 (.agg #[.string ⟨xn.toArray⟩,.string ⟨yn.toArray⟩]) rfl zh fun Hw=>?_;simp only[ag];refine bZ 11 rfl fun K hK=>?_;go_simp;have mJ:Below X4.heap.size X4 (X4.alloc (.cells #[.string ⟨xn.toArray⟩,.string ⟨yn.toArray⟩] 213)).drew:=((aj _ X4).alloc (aD _) _).drew;refine hK _ _ (fun _=>by rw[dp.o];exact mJ) (fun _=>?_);clear hK K;have hold:((.slice pa p0 p0:Value)=.slice none 0 0/\p0=0/\gd ps=[])\/∃b,(.slice pa p0 p0:Value)=.slice (some b) p0 p0/\(gd ps).length=p0 * 2/\∀ j u,(gd ps)[j]?=some u->(X4.alloc (.cells #[.string ⟨xn.toArray⟩,.string ⟨yn.toArray⟩] 213)).drew.cell? (b.add j)=some u:=by
    exact pm120
   refine bZ 12 rfl fun K hK=>?_;refine gA (.tmp 69) (.tmp 75) 87 rfl 213 i0 (.agg #[.string ByteArray.empty,.string ByteArray.empty]) 2 32 Tryz.underlying87 hi oM ju iy rfl (by decide) (.slice pa p0 p0) p0 (gd ps) rfl hold ⟨X4.heap.size,0,none⟩ 1 1 [.string ⟨xn.toArray⟩,.string ⟨yn.toArray⟩] rfl rfl (dc (cs:=#[.string ⟨xn.toArray⟩,.string ⟨yn.toArray⟩]) (t:=213) (fr:=(0,0)) (fZ X4 _)) (by simp[Value.oneCell']) (by decide) (by unfold maxLen;omega) (by omega) ?_;intro g cap X5 aA aq;have wk:Below X4.heap.size X4 X5:=⟨aq.os.trans mJ.os,aq.tape.trans mJ.tape,aq.output.trans mJ.output,aU mJ.size aq.size,fun b hb=>(aq.block b (bH hb mJ.size) (by simp)).trans (mJ.block b hb)⟩;have PZ:=bJ wk l9.o;have UU:=bJ wk nj.o;have J4:=gG.o.trans (wk.mono gG.o.size);rw[<-kr (xn,yn) ps]at aA;have pS:=PairsV.own aA;have z5:X5.cell? ⟨w.heap.size,3,none⟩=some (.slice ub k1 ue):=ah PZ 3;clear l9 nj gG pL z3;obtain ⟨l9,nj,gG,pL⟩:=eH PZ UU J4 pS;clear PZ UU J4 pS aA aq mJ wk hold;refine eS hK ?_;clear hK K;refine bZ 13 rfl fun K hK=>?_;go_simp;refine eS hK ?_;clear hK K;refine kV ?_;go_wp2;go_loopw [80] (fun i wr=>∃k:Nat,k<=k1/\i=.int .i64 k/\Below X5.heap.size X5 wr/\R=cb (ps ++ [(xn,yn)]).reverse (xs.drop k) (ys.drop k)) (fun i _=>k1 - (intOf i).toNat)
   case atStart=>exact ⟨0,aX _,rfl,aj _ _,by simpa using PY.o⟩
   case round=>
    have pp309a:=();exact pm309):G:=h
theorem pm3(h:G:=by
 go_loopw [79] (fun i wr=>∃k:Nat,k<=m0/\i=.int .i64 k/\Kp (fun c=>c=J) w wr/\JAt J true (left - 1 - nodesTs a - nodesFs (s.take k)) br wr/\cW true (s.take k)=true/\(nodesFs (s.take k):Int)<=left - 1 - nodesTs a/\aZ+1+aS (s.take k)<=br+1) (fun i _=>m0 - (intOf i).toNat)
 case atStart=>exact ⟨0,aX _,rfl,HA.o.1,by simpa[nodesFs] using HA.o.2,by simp[cW],by simp[nodesFs];omega,by simp[aS];omega⟩
 case round=>
  obtain ⟨k,hk,rfl,bj,hj,ha,hb,hc⟩:=hrel
  by_cases hlt:k<m0
  ·have bg:=ce gR.o hlt;have pp161:=();exact pm161
  ·obtain rfl:k=m0:=by omega
   have ht:s.take k=s:=by rw[gR.o];exact cY
   rw[ht]at hj ha hb hc;have kl:(cW true s && (decide ((nodesFs s:Int)<=left - 1 - nodesTs a) && decide (aZ+1+aS s<=br+1)))=true:=by rw[ha];simp;omega
   exact pm128):G:=h
theorem pm4(h:G:=by
 go_loopw [79] (fun i wr=>∃k:Nat,k<=m0/\i=.int .i64 k/\Kp (fun c=>c=J) w wr/\JAt J sc (left - 1 - nodesTs a - nodesFs (s.take k)) br wr/\cW sc (s.take k)=true/\(nodesFs (s.take k):Int)<=left - 1 - nodesTs a/\aZ+1+aS (s.take k)<=br+1) (fun i _=>m0 - (intOf i).toNat)
 case atStart=>exact ⟨0,aX _,rfl,HA.o.1,by simpa[nodesFs] using HA.o.2,by simp[cW],by simp[nodesFs];omega,by simp[aS];omega⟩
 case round=>
  obtain ⟨k,hk,rfl,bj,hj,ha,hb,hc⟩:=hrel
  by_cases hlt:k<m0
  ·have bg:=ce gR.o hlt;exact pm161
  ·obtain rfl:k=m0:=by omega
   have ht:s.take k=s:=by rw[gR.o];exact cY
   rw[ht]at hj ha hb hc;have kl:(cW sc s && (decide ((nodesFs s:Int)<=left - 1 - nodesTs a) && decide (aZ+1+aS s<=br+1)))=true:=by rw[ha];simp;omega
   exact pm128):G:=h
theorem pm5(h:G:=by
 have ei:=ac (bD.o.trans (x'.below.mono bD.o.size));cases e
 ·have HE:=ac (show R=false by rw[HT.o];simp);go_wp2;go_ret;exact ⟨az HE.o.symm,cv.o.trans (ei.o.mono cv.o.size)⟩
 ·go_wp2;go_roundw
  case rel=>exact ⟨k+1,by omega,by go_num,lY.o.trans (ei.o.mono lY.o.size),by rw[HT.o];simp⟩
  case measure=>simp[intOf];omega):G:=h
theorem pm6(h:G:=by
 clear hM sZ qk Cw;have pp72a:=();exact pm72):G:=h
theorem pm7(h:G:=by
 have pp164a:=();exact pm164):G:=h
theorem pm8(h:G:=by
 obtain ⟨j,Dm,kj,hj,rfl,bj,pd,fA,gP⟩:=hrel
 by_cases hlt:j<n1
 ·have me:=ce HN.o.1 hlt;have CX:=ce HN.o.2 hlt;obtain ⟨b1,o1,⟨xv,xn,xa,xl,xc⟩,rfl,sf,hx,c0,c1,c2⟩:=HT.o.2.2.1.get me;obtain ⟨b2,o2,⟨yv,yn,ya,yl,yc⟩,rfl,sg,hy,y0,y1,y2⟩:=HT.o.2.2.2.get CX;have qP:∀ b,¬M b->¬(b=mT):=fun b hb e=>hb (e ▸ HG.o.2.2.2.1);simp only at c0 c1 c2 y0 y1 y2;have d0:=bj.cell (qP _ sf) c0;have d1:=bj.cell (qP _ sf) c1;have d2:=bj.cell (qP _ sf) c2;have g0:=bj.cell (qP _ sg) y0;have g1:=bj.cell (qP _ sg) y1;have g2:=bj.cell (qP _ sg) y2;have R3:=(bj.same _ (by have:=H3.o.2.1;omega) (by have:=HmT.o;omega)).trans H3.o.2.2.1;have WL:=(bj.same _ (by have:=H3.o.2.1;omega) (by have:=HmT.o;omega)).trans H3.o.2.2.2.2.1;obtain ⟨W6,dm⟩:=am (wr.alloc (.cells #[.bool xv,.string xn,.slice xa xl xc] 43));have da:=cV dm;have x6:=bU dm;have wu:=bJ da R3;have WM:=bJ da WL;obtain ⟨S,hS⟩:∃S:World->Prop,S=fun V=>Below W6.heap.size W6 V:=⟨_,rfl⟩;have pp:∀ V,S V->V.cell? ⟨W.heap.size,0,none⟩=some (.int .u8 so)/\V.cell? ⟨W.heap.size,1,none⟩=some (.string sn)/\V.cell? ⟨W.heap.size,2,none⟩=some (.slice sa sl sc)/\V.cell? ⟨W.heap.size,3,none⟩=some (.slice sb sm se)/\V.cell? ⟨W.heap.size,4,none⟩=some (.int .u8 fo)/\V.cell? ⟨W.heap.size,5,none⟩=some (.string fn)/\V.cell? ⟨W.heap.size,6,none⟩=some (.slice fa fl fc)/\V.cell? ⟨W.heap.size,7,none⟩=some (.slice fb fm fe)/\V.cell? ⟨W.heap.size,8,none⟩=some (.slice ca cl cc):=fun V h=>by rw[hS]at h;exact ⟨aa h (ah wu 0),aa h (ah wu 1),aa h (ah wu 2),aa h (ah wu 3),aa h (ah wu 4),aa h (ah wu 5),aa h (ah wu 6),aa h (ah wu 7),aa h (ah wu 8)⟩
  have tt:∀ V,S V->V.cell? ⟨wr.heap.size,0,none⟩=some (.bool xv)/\V.cell? ⟨wr.heap.size,1,none⟩=some (.string xn)/\V.cell? ⟨wr.heap.size,2,none⟩=some (.slice xa xl xc):=fun V h=>by rw[hS]at h;exact ⟨aa h (ah x6 0),aa h (ah x6 1),aa h (ah x6 2)⟩
  have uu:∀ V,S V->V.cell? ⟨W.heap.size+1+1,2,none⟩=some (.slice (some ⟨b2,o2,none⟩) n1 uc):=fun V h=>by rw[hS]at h;exact aa h (ah WM 2)
  have yy:∀ V,S V->V.cell? ⟨b2,o2+j * 3,none⟩=some (.bool yv)/\V.cell? ⟨b2,o2+j * 3+1,none⟩=some (.string yn)/\V.cell? ⟨b2,o2+j * 3+2,none⟩=some (.slice ya yl yc):=fun V h=>by rw[hS]at h;exact ⟨aa h (aa da g0),aa h (aa da g1),aa h (aa da g2)⟩
  exact pm1
 ·obtain rfl:j=n1:=by omega
  have Kd:=ac (show R=some kj by rw[gP,gD (by rw[<-HN.o.1];exact aD _)];simp[bR]);have cB:a.take j=a:=by rw[HN.o.1];exact cY
  rw[cB]at pd;have HK:=bF bj pd fA;clear bj pd fA gP cB;go_wp2;go_ret;exact ⟨(Kp.below H3.o.1).trans HK.o.1,true,rfl,(fun h=>by rw[Kd.o]at h;cases h),(fun ts gz=>⟨rfl,Dm,by have:=HK.o.2.1;have:=PS.o.2;omega,by rw[Kd.o]at gz;cases gz;exact HK.o.2.2⟩)⟩):G:=h
theorem pm9(h:G:=by
 obtain ⟨HF,ek,cv⟩:=cH hF cB ar;clear hu ar hF c0 c1 c2 cB;gi_wp2;obtain ⟨W2,a_⟩:=am (wr.alloc (.cells #[.bool u.v,.string u.n,.slice u.a u.l u.c] 43));have pp51a:=();exact pm51):G:=h
theorem pm10(h:G:=by
 obtain ⟨W3,dB⟩:=am (wr.alloc (.cells #[.int .u8 u.o,.string u.n,.slice u.a u.l u.c,.slice u.b u.m u.e] 36));have pp211:=();exact pm211):G:=h
theorem pm11(h:G:=by
 obtain ⟨k,hk,rfl,hj,bj,⟨n',D3,pU⟩,j9⟩:=hrel;have pp274:=();exact pm274):G:=h
theorem pm12(h:G:=by
 have tD:=HL.o.1;have zI:=HL.o.2.2.1;have Cv:W2.heap[W.heap.size]?=some (.cells #[.int .u8 u0,.string u1,.slice u2 u3 u4,.slice u5 u6 u7,.int .u8 v0,.string v1,.slice v2 v3 v4,.slice v5 v6 v7,.slice ca cl cc] 89 (0,0)):=(g9.same _ (by omega)).trans (ai rfl);have vM:∃r,(W.alloc (.cells #[.int .u8 u0,.string u1,.slice u2 u3 u4,.slice u5 u6 u7,.int .u8 v0,.string v1,.slice v2 v3 v4,.slice v5 v6 v7,.slice ca cl cc] 89)).heap[lR]?=some (.loop r):=by
  obtain ⟨r,hr⟩:=HL.o.2.1;exact ⟨r,(HL.o.2.2.2.1.block _ zI).trans hr⟩
 first
 |clear pp12a;have jP:=(HQ.o.1.later HL.o.2.2.2.1).move (ok':=fun b=>¬M b) (fun b hb hlt=>⟨hb.2,g9.same b (by have:=hb.1;omega)⟩);have KM:=(HQ.o.2.1.later HL.o.2.2.2.1).move (ok':=fun b=>¬M b) (fun b hb hlt=>⟨hb.2,g9.same b (by have:=hb.1;omega)⟩);have AK:=(HQ.o.2.2.1.kp (Kp.below HL.o.2.2.2.1)).busy g9 vM;have je:x∈aR [] s f:=HL.o.2.2.2.2.2.subset (by simp);have s8:nodesF x.s<=400:=aU (mj s f [] x je) wm.o.1;have U4:=HL.o.2.2.2.2.2.length_le;have Gu:=qQ s f [];simp only[dO,eR,List.length_nil]at U4;have hlen:pre.length+1<=400:=by have:=wm.o.1;omega
  have CS:=Zb.o M (K0+1+1+1) (K0+1) (K0+1+1) xC.o.1 xC.o.2.1 xC.o.2.2.2.2 (fun b hb=>aU HV.o.2.2.1.size (Cx.o.1 b hb)) x (jQ s f [] (tb wm.o.2.2.2) x je) s8 W2 nF2 Dm k2 ⟨⟨u0,u1,u2,u3,u4,u5,u6,u7⟩,⟨v0,v1,v2,v3,v4,v5,v6,v7⟩,ca,cl,cc⟩ ps
   (fun b hb=>by have:=t4.o.2.2.2.2.1 b hb;have:=iH.o;have:=iO.size;omega) (NH.o.kp iO (fun b hb=>aU HV.o.2.2.1.size (Cx.o.1 b hb))) g2 (by have:=wm.o.2.1;have:=QN.o.2.1;omega) (by have:=wm.o.2.2.1;have:=QN.o.2.2;omega) ⟨jP,KM,AK,HQ.o.2.2.2.1,HQ.o.2.2.2.2⟩
  obtain ⟨⟨k3,er⟩,Tq⟩:∃p,p=bK k2 x:=⟨_,rfl⟩;rw[<-Tq]at CS;unfold StepPost at CS;simp only[PlQ.val,PlQ.cells]at CS;have QT:=fun h0:er=0=>(show bw k3=true from sE k2 x k3 (jQ s f [] (tb wm.o.2.2.2) x je) g5 (by rw[<-Tq,h0]))
  have nv:gC bK kj (pre ++ [x])=(k3,er):=by rw[xx pre kj k2 x g1,Tq]
  have hN:∀ b,b≠K0+1->b≠K0+1+1->¬N2 (K0+1) (K0+1+1) b:=fun b h h' hm=>by rcases hm with hm | hm;exact h hm;exact h' hm
  have Zr:=lO.o.2.1;have xp2:=(iO.same _ (bz HI.o.2.2.2.2.2) (fun h=>by have:=t4.o.2.2.2.2.1 _ h;have:=iH.o;omega)).trans HI.o.2.2.2.2.2;have xi2:=(iO.same _ (bz HI.o.2.2.2.2.1) (fun h=>by have:=t4.o.2.2.2.2.1 _ h;have:=iH.o;omega)).trans HI.o.2.2.2.2.1;have cp:=ah xp2 0;obtain ⟨P0,P1,P2,P3,P4,P5,P6,P7⟩:=CU Cv;have P8:=ah Cv 8;have sI:=ac CS;have HG:=ac (ZI g3 g4 g6 g7 g8 QT nv hN xi2 hlen);clear CS g1 g2 g3 g4 g5 g6 g7 g8 QT nv hN jP KM AK je s8 U4 Gu hlen Tq Cv vM xp2 xi2 Zr;have Kb:=ac lO.o.2.1;have hKa:=Kb.o;have Je:aB+2<=wq.heap.size:=by have:=iH.o;have:=lO.o.1;omega
  have hqa:K0+4<=wq.heap.size:=by have:=iH.o;have:=lO.o.1;omega
  have Uz:∀ f,(Fence.wide.inRound lR).fn f:=fun _=>trivial
  by_cases Ox:er=0
  ·subst Ox;gi_wp2_with (gi_at_call 47;refine CallsIn.inRound lR (aK.2 (sI.o.mono ?_));rintro e w4 ⟨lK,rfl,wj⟩;have F0:=(lK.same _ (bz HG.o.2.2.1) (HG.o.2.2.2.2.2.2.2.1 _ (by omega) (by omega))).trans HG.o.2.2.1;have BS:=(lK.same _ (bz HG.o.2.2.2.1) (HG.o.2.2.2.2.2.2.2.1 _ (by omega) (by omega))).trans HG.o.2.2.2.1;have F1:=(lK.same _ (bz HG.o.2.2.2.2.2.2.2.2.1) (HG.o.2.2.2.2.2.2.2.1 _ (by omega) (by omega))).trans HG.o.2.2.2.2.2.2.2.2.1;have y0:=ah F0 0;have y1:=ae F0 0;have y2:=ah BS 0;have y3:=ae BS 0;have y4:=ah F1 0;have H4:=fE lK wj F0 BS F1;clear lK wj F0 BS F1);exact pm62
  ·have zcZ:(er == 0)=false:=by simp[Ox]
   gi_wp2_with (gi_at_call 47;refine CallsIn.inRound lR (aK.2 (sI.o.mono ?_));rintro e w4 ⟨lK,rfl,wj⟩;have F0:=(lK.same _ (bz HG.o.2.2.1) (HG.o.2.2.2.2.2.2.2.1 _ (by omega) (by omega))).trans HG.o.2.2.1;have BS:=(lK.same _ (bz HG.o.2.2.2.1) (HG.o.2.2.2.2.2.2.2.1 _ (by omega) (by omega))).trans HG.o.2.2.2.1;have F1:=(lK.same _ (bz HG.o.2.2.2.2.2.2.2.2.1) (HG.o.2.2.2.2.2.2.2.1 _ (by omega) (by omega))).trans HG.o.2.2.2.2.2.2.2.2.1;have y0:=ah F0 0;have y1:=ae F0 0;have y2:=ah BS 0;have y3:=ae BS 0;have y4:=ah F1 0;have Jz:Kp (fun b=>b=aB+1) w4 (w4.setCell ⟨aB+1,0,none⟩ (.int .i64 er)):=iW;have XH:=(Jz.same _ (bz BS) (by omega)).trans BS;have xi6:=(Jz.same _ (bz F1) (by omega)).trans F1;have y5:=ah xi6 0;have y6:=ah XH 0;have y7:=ae XH 0;clear Jz XH xi6;have H4:=fE lK wj F0 BS F1;clear lK wj F0 BS F1);exact pm52
 |clear pp12b;have jP:=(HQ.o.1.later HL.o.2.2.2.1).move (ok':=fun b=>¬M b) (fun b hb hlt=>⟨hb.2,g9.same b (by have:=hb.1;omega)⟩);have KM:=(HQ.o.2.1.later HL.o.2.2.2.1).move (ok':=fun b=>¬M b) (fun b hb hlt=>⟨hb.2,g9.same b (by have:=hb.1;omega)⟩);have AK:=(HQ.o.2.2.1.kp (Kp.below HL.o.2.2.2.1)).busy g9 vM;have je:x∈aR [] s f:=HL.o.2.2.2.2.2.subset (by simp);have s8:nodesF x.s<=400:=aU (mj s f [] x je) wm.o.1;have U4:=HL.o.2.2.2.2.2.length_le;have Gu:=qQ s f [];simp only[dO,eR,List.length_nil]at U4;have hlen:pre.length+1<=400:=by have:=wm.o.1;omega
  have CS:=Zb.o M (K0+1+1+1) (K0+1) (K0+1+1) xC.o.1 xC.o.2.1 xC.o.2.2.2.2 (fun b hb=>aU HV.o.2.2.1.size (Cx.o.1 b hb)) x (jQ s f [] (tb wm.o.2.2.2) x je) s8 W2 nF2 Dm k2 ⟨⟨u0,u1,u2,u3,u4,u5,u6,u7⟩,⟨v0,v1,v2,v3,v4,v5,v6,v7⟩,ca,cl,cc⟩ ps
   (fun b hb=>by have:=t4.o.2.2.2.2.1 b hb;have:=iH.o;have:=iO.size;omega) (NH.o.kp iO (fun b hb=>aU HV.o.2.2.1.size (Cx.o.1 b hb))) g2 (by have:=wm.o.2.1;have:=QN.o.2.1;omega) (by have:=wm.o.2.2.1;have:=QN.o.2.2;omega) ⟨jP,KM,AK,HQ.o.2.2.2.1,HQ.o.2.2.2.2⟩
  obtain ⟨⟨k3,er⟩,Tq⟩:∃p,p=ev k2 x:=⟨_,rfl⟩;rw[<-Tq]at CS;unfold StepPost at CS;simp only[PlQ.val,PlQ.cells]at CS;have QT:=fun h0:er=0=>(show bw k3=true from Ai k2 x k3 (jQ s f [] (tb wm.o.2.2.2) x je) g5 (by rw[<-Tq,h0]))
  have nv:gC ev kj (pre ++ [x])=(k3,er):=by rw[xx pre kj k2 x g1,Tq]
  have hN:∀ b,b≠K0+1->b≠K0+1+1->¬N2 (K0+1) (K0+1+1) b:=fun b h h' hm=>by rcases hm with hm | hm;exact h hm;exact h' hm
  have Zr:=lO.o.2.1;have xp2:=(iO.same _ (bz HI.o.2.2.2.2.2) (fun h=>by have:=t4.o.2.2.2.2.1 _ h;have:=iH.o;omega)).trans HI.o.2.2.2.2.2;have xi2:=(iO.same _ (bz HI.o.2.2.2.2.1) (fun h=>by have:=t4.o.2.2.2.2.1 _ h;have:=iH.o;omega)).trans HI.o.2.2.2.2.1;have cp:=ah xp2 0;obtain ⟨P0,P1,P2,P3,P4,P5,P6,P7⟩:=CU Cv;have P8:=ah Cv 8;have sI:=ac CS;have HG:=ac (ZI g3 g4 g6 g7 g8 QT nv hN xi2 hlen);clear CS g1 g2 g3 g4 g5 g6 g7 g8 QT nv hN jP KM AK je s8 U4 Gu hlen Tq Cv vM xp2 xi2 Zr;have Kb:=ac lO.o.2.1;have hKa:=Kb.o;have Je:aB+2<=wq.heap.size:=by have:=iH.o;have:=lO.o.1;omega
  have hqa:K0+4<=wq.heap.size:=by have:=iH.o;have:=lO.o.1;omega
  have Uz:∀ f,(Fence.wide.inRound lR).fn f:=fun _=>trivial
  by_cases Ox:er=0
  ·subst Ox;gi_wp2_with (gi_at_call 48;refine CallsIn.inRound lR (aK.2 (sI.o.mono ?_));rintro e w4 ⟨lK,rfl,wj⟩;have F0:=(lK.same _ (bz HG.o.2.2.1) (HG.o.2.2.2.2.2.2.2.1 _ (by omega) (by omega))).trans HG.o.2.2.1;have BS:=(lK.same _ (bz HG.o.2.2.2.1) (HG.o.2.2.2.2.2.2.2.1 _ (by omega) (by omega))).trans HG.o.2.2.2.1;have F1:=(lK.same _ (bz HG.o.2.2.2.2.2.2.2.2.1) (HG.o.2.2.2.2.2.2.2.1 _ (by omega) (by omega))).trans HG.o.2.2.2.2.2.2.2.2.1;have y0:=ah F0 0;have y1:=ae F0 0;have y2:=ah BS 0;have y3:=ae BS 0;have y4:=ah F1 0;have H4:=fE lK wj F0 BS F1;clear lK wj F0 BS F1);exact pm62
  ·have zcZ:(er == 0)=false:=by simp[Ox]
   gi_wp2_with (gi_at_call 48;refine CallsIn.inRound lR (aK.2 (sI.o.mono ?_));rintro e w4 ⟨lK,rfl,wj⟩;have F0:=(lK.same _ (bz HG.o.2.2.1) (HG.o.2.2.2.2.2.2.2.1 _ (by omega) (by omega))).trans HG.o.2.2.1;have BS:=(lK.same _ (bz HG.o.2.2.2.1) (HG.o.2.2.2.2.2.2.2.1 _ (by omega) (by omega))).trans HG.o.2.2.2.1;have F1:=(lK.same _ (bz HG.o.2.2.2.2.2.2.2.2.1) (HG.o.2.2.2.2.2.2.2.1 _ (by omega) (by omega))).trans HG.o.2.2.2.2.2.2.2.2.1;have y0:=ah F0 0;have y1:=ae F0 0;have y2:=ah BS 0;have y3:=ae BS 0;have y4:=ah F1 0;have Jz:Kp (fun b=>b=aB+1) w4 (w4.setCell ⟨aB+1,0,none⟩ (.int .i64 er)):=iW;have XH:=(Jz.same _ (bz BS) (by omega)).trans BS;have xi6:=(Jz.same _ (bz F1) (by omega)).trans F1;have y5:=ah xi6 0;have y6:=ah XH 0;have y7:=ae XH 0;clear Jz XH xi6;have H4:=fE lK wj F0 BS F1;clear lK wj F0 BS F1);exact pm52
 |clear pp12c;have jP:=(HQ.o.1.later HL.o.2.2.2.1).move (ok':=fun b=>¬M1 b) (fun b hb hlt=>⟨hb.2,g9.same b (by have:=hb.1;omega)⟩);have AK:=(HQ.o.2.1.kp (Kp.below HL.o.2.2.2.1)).busy g9 vM;have je:x∈aR [] s s:=HL.o.2.2.2.2.2.subset (by simp);have s8:nodesF x.s<=400:=aU (mj s s [] x je) HP.o.2.1;have Tx:=pz s s [] HP.o.1 x je;have xw:Below w.heap.size w W2:=aQ JO.o.1 iO (fun b hb=>(Tw.o b hb).1);have fA:=HP.o.2.2.2.1.later xw;have CS:=Ni nM kb mF mT nF nT kd x.s Tx s8 _ W2 fA ⟨⟨u0,u1,u2,u3,u4,u5,u6,u7⟩,⟨v0,v1,v2,v3,v4,v5,v6,v7⟩,ca,cl,cc⟩ jP;simp only[PlQ.val,PlQ.cells]at CS;obtain ⟨bv,xz⟩:=am (Ts x);have Q0:=zaW.o x ▸ CS;rw[<-xz]at Q0;have Vb:=(iO.same _ (bz JO.o.2.2.1) (fun h=>by have:=HMk.o;rw[Fu.o]at h;omega)).trans JO.o.2.2.1;have ck:=ah Vb 0;obtain ⟨P0,P1,P2,P3,P4,P5,P6,P7⟩:=CU Cv;have P8:=ah Cv 8;have sI:=ac Q0;have HG:=bF g1 g2 g3;have L8:=ac xz;have Uz:∀ f,(Fence.wide.inRound lR).fn f:=fun _=>trivial;clear CS Q0 g1 g2 g3 jP AK je s8 Tx fA Cv vM Vb xz xw
  cases bv with
  | false=>
   gi_wp2_with (gi_at_call 124;refine CallsIn.inRound lR (aK.2 (sI.o.mono ?_));rintro e w4 ⟨rfl,aO⟩;have H4:=ac aO;clear aO);exact ⟨Kp.below H4.o,by rw[vO HG.o.1];exact L8.o.symm,bJ H4.o HG.o.2.1,HG.o.2.2.trans (Kp.below H4.o)⟩
  | true=>
   gi_wp2_with (gi_at_call 124;refine CallsIn.inRound lR (aK.2 (sI.o.mono ?_));rintro e w4 ⟨rfl,aO⟩;have NO:=bJ aO HG.o.2.1;have z0:=ah NO 0;have z1:=ae NO 0;have H4:=aG aO NO;clear aO NO);have gY:Kp (fun b=>b=w.heap.size+1+1) w4 (w4.setCell ⟨w.heap.size+1+1,0,none⟩ (.int .i64 6)):=iW;have Cy:Kp M1 w4 (w4.setCell ⟨w.heap.size+1+1,0,none⟩ (.int .i64 6)):=gY.mono (fun b _ h=>by subst h;rw[Fu.o]);exact pm236
 |clear pp12d;have jP:=(HQ.o.1.later HL.o.2.2.2.1).move (ok':=fun b=>¬M2 b) (fun b hb hlt=>⟨hb.2,g9.same b (by have:=hb.1;omega)⟩);have AK:=(HQ.o.2.1.kp (Kp.below HL.o.2.2.2.1)).busy g9 vM;have je:x∈aR [] s s:=HL.o.2.2.2.2.2.subset (by simp);have s8:nodesF x.s<=400:=aU (mj s s [] x je) HP.o.2.1;have Tx:=pz s s [] HP.o.1 x je;have xw:Below w.heap.size w W2:=aQ He.o.1 iO (fun b hb=>(Tz.o b hb).1);have fA:=HP.o.2.2.2.1.later xw;have CS:=Qn nM kb mF mT nF nT kd x ps HQ.o.2.2.1 HQ.o.2.2.2 Tx s8 _ W2 fA ⟨⟨u0,u1,u2,u3,u4,u5,u6,u7⟩,⟨v0,v1,v2,v3,v4,v5,v6,v7⟩,ca,cl,cc⟩ jP AK.1;simp only[PlQ.val,PlQ.cells]at CS;obtain ⟨bv,xz⟩:=am (Tu x);have Q0:=zaX.o x ▸ CS;rw[<-xz]at Q0;have Vb:=(iO.same _ (bz He.o.2.2.1) (fun h=>by have:=HMk.o;rw[Zx.o]at h;omega)).trans He.o.2.2.1;have ck:=ah Vb 0;obtain ⟨P0,P1,P2,P3,P4,P5,P6,P7⟩:=CU Cv;have P8:=ah Cv 8;have sI:=ac Q0;have HG:=bF g1 g2 g3;have L8:=ac xz;have Uz:∀ f,(Fence.wide.inRound lR).fn f:=fun _=>trivial;clear CS Q0 g1 g2 g3 jP AK je s8 Tx fA Cv vM Vb xz xw
  cases bv with
  | false=>
   gi_wp2_with (gi_at_call 125;refine CallsIn.inRound lR (aK.2 (sI.o.mono ?_));rintro e w4 ⟨rfl,aO⟩;have H4:=ac aO;clear aO);exact ⟨Kp.below H4.o,by rw[vO HG.o.1];exact L8.o.symm,bJ H4.o HG.o.2.1,HG.o.2.2.trans (Kp.below H4.o)⟩
  | true=>
   gi_wp2_with (gi_at_call 125;refine CallsIn.inRound lR (aK.2 (sI.o.mono ?_));rintro e w4 ⟨rfl,aO⟩;have NO:=bJ aO HG.o.2.1;have z0:=ah NO 0;have z1:=ae NO 0;have H4:=aG aO NO;clear aO NO);have gY:Kp (fun b=>b=w.heap.size+1+1) w4 (w4.setCell ⟨w.heap.size+1+1,0,none⟩ (.int .i64 72)):=iW;have Cy:Kp M2 w4 (w4.setCell ⟨w.heap.size+1+1,0,none⟩ (.int .i64 72)):=gY.mono (fun b _ h=>by subst h;rw[Zx.o]);exact pm236
 |have jP:=(HQ.o.1.later HL.o.2.2.2.1).move (ok':=fun b=>¬M3 b) (fun b hb hlt=>⟨hb.2,g9.same b (by have:=hb.1;omega)⟩);have AK:=(HQ.o.2.1.kp (Kp.below HL.o.2.2.2.1)).busy g9 vM;have je:x∈aR [] s s:=HL.o.2.2.2.2.2.subset (by simp);have s8:nodesF x.s<=400:=aU (mj s s [] x je) HP.o.2.1;have Tx:=pz s s [] HP.o.1 x je;have xw:Below w.heap.size w W2:=aQ Q3.o.1 iO (fun b hb=>(TB.o b hb).1);have fA:=HP.o.2.2.2.1.later xw;have CS:=Nk nM kb mF mT nF nT kd x.s Tx s8 _ W2.drew (fA.later (aj _ _).drew) ⟨⟨u0,u1,u2,u3,u4,u5,u6,u7⟩,⟨v0,v1,v2,v3,v4,v5,v6,v7⟩,ca,cl,cc⟩ (jP.later (aj _ _).drew);simp only[PlQ.val,PlQ.cells]at CS;have hsz:=QV fA x.s Tx s8;obtain ⟨bv,xz⟩:=am (F2 x);have Q0:=U_.o x ▸ CS;rw[<-xz]at Q0;have Vb:=(iO.same _ (bz Q3.o.2.2.1) (fun h=>by have:=HMk.o;rw[HM3.o]at h;have:=HnB.o;omega)).trans Q3.o.2.2.1;have ck:=ah Vb 0;obtain ⟨P0,P1,P2,P3,P4,P5,P6,P7⟩:=CU Cv;have P8:=ah Cv 8;have sI:=ac Q0;have HG:=cG g1 g2 g3 g4;have L8:=ac xz;have Uz:∀ f,(Fence.wide.inRound lR).fn f:=fun _=>trivial;have HSz:=ac (show bv<=1000000 by rw[xz,<-U_.o];exact hsz);clear hsz;clear CS Q0 g1 g2 g3 g4 jP AK je s8 Tx fA Cv vM Vb xz xw;obtain ⟨S0,bN⟩:=am (pre.map F2).sum;have vP:((pre ++ [x]).map F2).sum=S0+bv:=by rw[bN,L8.o];simp
  have hG:=HG.o;rw[<-bN]at hG;obtain ⟨HGs,zda⟩:=aW hG vP;clear bN vP hG;obtain ⟨S,hS⟩:∃S:World->Prop,S=fun V=>Below W2.heap.size W2 V:=⟨_,rfl⟩;have dU:S W2.drew:=by rw[hS];exact (aj _ _).drew
  have f0:∀ V,S V->V.cell? ⟨nB,0,none⟩=some (.int .i64 S0):=fun V h=>by rw[hS]at h;exact aa h (ah HGs.o.2.1 0)
  have f1:∀ V,S V->V.cell? ⟨w.heap.size,0,none⟩=some (.pointer (some ⟨kb,0,none⟩)):=fun V h=>by rw[hS]at h;exact aa h ck
  have f2:∀ V,S V->V.cell? ⟨W.heap.size,0,none⟩=some (.int .u8 u0)/\V.cell? ⟨W.heap.size,1,none⟩=some (.string u1)/\V.cell? ⟨W.heap.size,2,none⟩=some (.slice u2 u3 u4)/\V.cell? ⟨W.heap.size,3,none⟩=some (.slice u5 u6 u7)/\V.cell? ⟨W.heap.size,4,none⟩=some (.int .u8 v0)/\V.cell? ⟨W.heap.size,5,none⟩=some (.string v1)/\V.cell? ⟨W.heap.size,6,none⟩=some (.slice v2 v3 v4)/\V.cell? ⟨W.heap.size,7,none⟩=some (.slice v5 v6 v7)/\V.cell? ⟨W.heap.size,8,none⟩=some (.slice ca cl cc):=fun V h=>by rw[hS]at h;exact ⟨aa h P0,aa h P1,aa h P2,aa h P3,aa h P4,aa h P5,aa h P6,aa h P7,aa h P8⟩
  have aM:=HSz.o;have wh:=HGs.o.1;obtain ⟨S1,cr⟩:=am (S0+bv);have Y4:IntKind.i64.wrap ((S0:Int)+(bv:Int))=(S1:Int):=by rw[ik _ (by omega)];omega
  have Q4:=ac (cr ▸ zda.o:((pre ++ [x]).map F2).sum=S1);have HS:=ac hS;have HWr:=aG Y4 aM;clear hS cr ck P0 P1 P2 P3 P4 P5 P6 P7 P8 aM wh Y4;gi_wp2_with fail;refine lH S 5 dU fun jC bN=>?_;refine dh 0 27 (.int .i64 S0) rfl (fun V hX=>by have g0:=f0 V hX;go_simp) bN fun cr=>?_;simp only[ag];refine dh 1 28 (.pointer (some ⟨kb,0,none⟩)) rfl (fun V hX=>by have g0:=f1 V hX;go_simp) cr fun f_=>?_;simp only[ag];refine dh 2 29 (.agg #[.int .u8 u0,.string u1,.slice u2 u3 u4,.slice u5 u6 u7,.int .u8 v0,.string v1,.slice v2 v3 v4,.slice v5 v6 v7,.slice ca cl cc]) rfl (fun V hX=>by obtain ⟨g0,g1,g2,g3,g4,g5,g6,g7,g8⟩:=f2 V hX;go_simp) f_ fun gQ=>?_;simp only[ag];refine bZ 3 rfl fun K hK=>?_;go_simp;refine CallsIn.inRound lR (aK.2 (sI.o.mono ?_));rintro _ w4 ⟨rfl,aO⟩;have cC:Below W2.heap.size W2 w4:=((aj W2.heap.size W2).drew).trans aO;refine hK _ _ (fun _=>by rw[HS.o];exact cC) (fun iK=>?_);clear hK K;refine dh 4 31 (.int .i64 (S1:Int)) rfl (fun V hX=>by have Y4:=HWr.o.1;go_simp) (iK (by omega)) fun jF=>?_;simp only[ag];have XS:=bJ cC HGs.o.2.1;have NO:=bJ cC HGs.o.2.2.1;have n4:=ah XS 0;have z4:=ae XS 0;refine bZ 5 rfl fun K hK=>?_;go_simp;refine eS hK ?_;clear hK K;refine kV ?_;have gY:Kp (fun b=>b=nB) w4 (w4.setCell ⟨nB,0,none⟩ (.int .i64 (S1:Int))):=iW;have Cy:Kp M3 w4 (w4.setCell ⟨nB,0,none⟩ (.int .i64 (S1:Int))):=gY.mono (fun b _ h=>by subst h;rw[HM3.o];exact .inr rfl);have xn5:=iV XS (v:=.int .i64 (S1:Int));have xr5:=(gY.same _ (bz NO) (by have:=HnB.o;omega)).trans NO;obtain ⟨w5,Zl⟩:=am (w4.setCell ⟨nB,0,none⟩ (.int .i64 (S1:Int)));rw[<-Zl]at gY Cy xn5 xr5 ⊢;have tQ:=(Kp.below (M:=M3) cC).trans Cy;have n5:=ah xn5 0;have r5:=ah xr5 0;have z5:=ae xr5 0;have H5:=fE tQ xn5 xr5 (HGs.o.2.2.2.trans tQ) Cy;clear cC aO XS NO n4 z4 gY Cy xn5 xr5 Zl tQ jF iK gQ f_ cr bN f0 f1 f2 dU
  by_cases L7:400<S1
  ·have hd:decide ((400:Int)<(S1:Int))=true:=by simp;omega
   gi_wp2_with fail;have Jc:Kp (fun b=>b=w.heap.size+1+1) w5 (w5.setCell ⟨w.heap.size+1+1,0,none⟩ (.int .i64 3)):=iW;have zaZ:Kp M3 w5 (w5.setCell ⟨w.heap.size+1+1,0,none⟩ (.int .i64 3)):=Jc.mono (fun b _ h=>by subst h;rw[HM3.o];exact .inl rfl);exact ⟨trivial,(H5.o.1.trans zaZ).from _,rfl,by rw[Q4.o];exact L7,iV H5.o.2.2.1,H5.o.2.2.2.1.trans zaZ⟩
  ·have hd:decide ((400:Int)<(S1:Int))=false:=by simp;omega
   gi_wp2_with fail;exact ⟨H5.o.1,by rw[Q4.o];omega,by rw[Q4.o];exact H5.o.2.1,H5.o.2.2.1,H5.o.2.2.2.1⟩):G:=h
theorem pm13(h:G:=by
 obtain ⟨k,hk,rfl,dt,ht⟩:=hrel
 by_cases hlt:k<k0
 ·have bg:=ce dA.o hlt;have kt:=ce gR.o hlt;have ar:=cw.o.trans (dt.mono (by omega));have pp78:=();exact pm78
 ·obtain rfl:k=k0:=by omega
  exact pm202):G:=h
theorem pm14(h:G:=by
 have Z1:Below w.heap.size w (((w.alloc (.cells #[.bool true,.string ⟨n.toArray⟩,.slice qa k0 qc] 43)).alloc (.cells #[.bool false,.string ⟨#[]⟩,.slice none 0 0] 43)).alloc (.cells #[.bool true,.string ⟨n.toArray⟩,.slice none 0 0] 43)):=(cO.alloc (by simp) _).alloc (by simp;omega) _;have y1:(((w.alloc (.cells #[.bool true,.string ⟨n.toArray⟩,.slice qa k0 qc] 43)).alloc (.cells #[.bool false,.string ⟨#[]⟩,.slice none 0 0] 43)).alloc (.cells #[.bool true,.string ⟨n.toArray⟩,.slice none 0 0] 43)).heap[w.heap.size+1]?=some (.cells #[.bool false,.string ⟨#[]⟩,.slice none 0 0] 43 (0,0)):=(bE _ _ _ (by simp)).trans (ai (by simp));have y2:(((w.alloc (.cells #[.bool true,.string ⟨n.toArray⟩,.slice qa k0 qc] 43)).alloc (.cells #[.bool false,.string ⟨#[]⟩,.slice none 0 0] 43)).alloc (.cells #[.bool true,.string ⟨n.toArray⟩,.slice none 0 0] 43)).heap[w.heap.size+1+1]?=some (.cells #[.bool true,.string ⟨n.toArray⟩,.slice none 0 0] 43 (0,0)):=ai (by simp);have y0:(((w.alloc (.cells #[.bool true,.string ⟨n.toArray⟩,.slice qa k0 qc] 43)).alloc (.cells #[.bool false,.string ⟨#[]⟩,.slice none 0 0] 43)).alloc (.cells #[.bool true,.string ⟨n.toArray⟩,.slice none 0 0] 43)).heap[w.heap.size]?=some (.cells #[.bool true,.string ⟨n.toArray⟩,.slice qa k0 qc] 43 (0,0)):=(bE _ _ _ (by simp;omega)).trans ((bE _ _ _ (by simp)).trans (ai rfl));have HY:=cG Z1 y1 y2 y0;have CP:=ac (fun w=>hh ▸ kg n w (by omega));clear hh Z1 y1 y2 y0;have pp277:=();exact pm277):G:=h
theorem pm15(h:G:=by
 obtain ⟨k,hk,rfl,dt,ht⟩:=hrel
 by_cases hlt:k<k0
 ·have bg:=ce dA.o hlt;have kt:=ce gR.o hlt;have ar:=gG.o.trans (dt.mono gG.o.size);exact pm75
 first
 |clear pp15
  ·obtain rfl:k0=k:=by omega
   have PY:=ac (show R=cb ps.reverse xs ys by rw[ht,gD (by rw[dA.o];exact aD _)];simp[bM]);exact pm42
 |·obtain rfl:k0=k:=by omega
   have PY:=ac (show R=cb (ps ++ [(xn,yn)]).reverse xs ys by rw[ht,gD (by rw[dA.o];exact aD _)];simp[bM]);obtain ⟨hZ,wK⟩:=am wr;subst wK;have vh:=ac (gG.o.trans (dt.mono gG.o.size));have vi:=ac (bJ dt l9.o);have S2:=ac (bJ dt nj.o);have S3:=ac (pL.o.later dt);have x0:hZ.cell? ⟨w.heap.size,0,none⟩=some (.int .u8 uo):=ah vi.o 0;have x1:hZ.cell? ⟨w.heap.size,1,none⟩=some (.string ⟨xn.toArray⟩):=ah vi.o 1;have x2:hZ.cell? ⟨w.heap.size,2,none⟩=some (.slice ua k0 uc):=ah vi.o 2;have x3:hZ.cell? ⟨w.heap.size,3,none⟩=some (.slice ub k1 ue):=ah vi.o 3;clear dt ht l9 nj pL gG;go_wp2_with (go_at_call 146;refine (Hz.o _).mono ?_;rintro e X4 ⟨rfl,aO⟩;have l9:=ac (bJ aO vi.o);have nj:=ac (bJ aO S2.o);have pL:=ac (S3.o.later aO);have gG:=ac (vh.o.trans (aO.mono vh.o.size));have z3:X4.cell? ⟨w.heap.size,3,none⟩=some (.slice ub k1 ue):=ah l9.o 3;clear aO);obtain ⟨S,hS⟩:∃S:World->Prop,S=fun V=>Below X4.heap.size X4 V:=⟨_,rfl⟩;have rY:X4.cell? ⟨w.heap.size,1,none⟩=some (.string ⟨xn.toArray⟩):=ah l9.o 1;have rX:X4.cell? ⟨w.heap.size+1,1,none⟩=some (.string ⟨yn.toArray⟩):=ah nj.o 1;have f0:∀ V,S V->V.cell? ⟨w.heap.size,1,none⟩=some (.string ⟨xn.toArray⟩):=fun V h=>by rw[hS]at h;exact aa h rY
   have f1:∀ V,S V->V.cell? ⟨w.heap.size+1,1,none⟩=some (.string ⟨yn.toArray⟩):=fun V h=>by rw[hS]at h;exact aa h rX
   have dU:S X4.drew:=by rw[hS];exact (aj _ _).drew
   have Gu:=HP.o.cases;obtain ⟨UT,dp⟩:=aW Gu hS;clear hS rY rX Gu;refine (wpIn_wide (n:=3)).1 ?_;refine lH S 12 dU fun jC bN=>?_;refine bC 0 64 (.slice pa p0 pc) rfl bN fun cr=>?_;simp only[ag];refine bC 1 65 (.slice pa p0 pc) rfl cr fun f_=>?_;simp only[ag];refine bC 2 66 (.int .i64 (p0:Int)) rfl f_ fun gQ=>?_;simp only[ag];refine bC 3 67 (.slice pa p0 pc) rfl gQ fun iK=>?_;simp only[ag];refine bC 4 68 (.int .i64 (p0:Int)) rfl iK fun jF=>?_;simp only[ag];refine dh 5 69 (.slice pa p0 p0) rfl (fun V hX=>by rcases UT.o with ⟨rfl,rfl,rfl⟩ | ⟨b,off,rfl⟩ <;> go_simp) jF fun j7=>?_;simp only[ag];refine bC 6 70 (.pointer (some ⟨w.heap.size,1,none⟩)) rfl j7 fun mi=>?_;simp only[ag];refine dh 7 71 (.string ⟨xn.toArray⟩) rfl (fun V hX=>by have g0:=f0 V hX;go_simp) mi fun rF=>?_;simp only[ag];refine bC 8 72 (.pointer (some ⟨w.heap.size+1,1,none⟩)) rfl rF fun Hv=>?_;simp only[ag];refine dh 9 73 (.string ⟨yn.toArray⟩) rfl (fun V hX=>by have g1:=f1 V hX;go_simp) Hv fun zh=>?_;simp only[ag];refine bC 10 74 (.agg #[.string ⟨xn.toArray⟩,.string ⟨yn.toArray⟩]) rfl zh fun Hw=>?_;simp only[ag];refine bZ 11 rfl fun K hK=>?_;go_simp;have mJ:Below X4.heap.size X4 (X4.alloc (.cells #[.string ⟨xn.toArray⟩,.string ⟨yn.toArray⟩] 196)).drew:=((aj _ X4).alloc (aD _) _).drew;refine hK _ _ (fun _=>by rw[dp.o];exact mJ) (fun _=>?_);clear hK K;have hold:((.slice pa p0 p0:Value)=.slice none 0 0/\p0=0/\gd ps=[])\/∃b,(.slice pa p0 p0:Value)=.slice (some b) p0 p0/\(gd ps).length=p0 * 2/\∀ j u,(gd ps)[j]?=some u->(X4.alloc (.cells #[.string ⟨xn.toArray⟩,.string ⟨yn.toArray⟩] 196)).drew.cell? (b.add j)=some u:=by
    exact pm120
   refine bZ 12 rfl fun K hK=>?_;refine gA (.tmp 69) (.tmp 75) 193 rfl 196 i0 (.agg #[.string ByteArray.empty,.string ByteArray.empty]) 2 32 Tryz.underlying193 hi oM ju iy rfl (by decide) (.slice pa p0 p0) p0 (gd ps) rfl hold ⟨X4.heap.size,0,none⟩ 1 1 [.string ⟨xn.toArray⟩,.string ⟨yn.toArray⟩] rfl rfl (dc (cs:=#[.string ⟨xn.toArray⟩,.string ⟨yn.toArray⟩]) (t:=196) (fr:=(0,0)) (fZ X4 _)) (by simp[Value.oneCell']) (by decide) (by unfold maxLen;omega) (by omega) ?_;intro g cap X5 aA aq;have wk:Below X4.heap.size X4 X5:=⟨aq.os.trans mJ.os,aq.tape.trans mJ.tape,aq.output.trans mJ.output,aU mJ.size aq.size,fun b hb=>(aq.block b (bH hb mJ.size) (by simp)).trans (mJ.block b hb)⟩;have PZ:=bJ wk l9.o;have UU:=bJ wk nj.o;have J4:=gG.o.trans (wk.mono gG.o.size);rw[<-kr (xn,yn) ps]at aA;have pS:=PairsV.own aA;have z5:X5.cell? ⟨w.heap.size,3,none⟩=some (.slice ub k1 ue):=ah PZ 3;clear l9 nj gG pL z3;obtain ⟨l9,nj,gG,pL⟩:=eH PZ UU J4 pS;clear PZ UU J4 pS aA aq mJ wk hold;refine eS hK ?_;clear hK K;refine bZ 13 rfl fun K hK=>?_;go_simp;refine eS hK ?_;clear hK K;refine kV ?_;go_wp2;go_loopw [80] (fun i wr=>∃k:Nat,k<=k1/\i=.int .i64 k/\Below X5.heap.size X5 wr/\R=cb (ps ++ [(xn,yn)]).reverse (xs.drop k) (ys.drop k)) (fun i _=>k1 - (intOf i).toNat)
   case atStart=>exact ⟨0,aX _,rfl,aj _ _,by simpa using PY.o⟩
   case round=>
    have pp309b:=();exact pm309):G:=h
theorem pm16(h:G:=by
 cases S with
 | none=>
  go_wp2_with (go_at_call 229;refine HC.o.mono ?_;rintro e w2 ⟨⟨v2,rfl,jy⟩,bB⟩;obtain ⟨a2,c2,rfl⟩:=jy.slice;simp only[Option.getD,List.length_nil];have cw:=ac (HB.o.trans (bB.mono HB.o.size));clear bB jy);go_roundw
  case rel=>exact ⟨k+1,by omega,by go_num,cw.o,HT.o⟩
  case measure=>simp[intOf];omega
 | some p=>
  obtain ⟨C7,C8⟩:=HLS.o p rfl;obtain ⟨p0,kZ⟩:=am p.length;have om:0<p0:=by rw[kZ];exact iZ.2 C7
  have zaa:p0<=2000000:=by rw[kZ];exact C8
  have O9:(0:Int)<(p0:Int):=by omega
  obtain ⟨yV,V7⟩:=aW kZ C7;clear kZ C7 C8 HLS;go_wp2_with (first | (go_at_call 229;refine HC.o.mono ?_;rintro e w2 ⟨⟨v2,rfl,jy⟩,bB⟩;obtain ⟨a2,c2,rfl⟩:=jy.slice;simp only[Option.getD]at jy ⊢;obtain ⟨b2,off2,rfl,DT⟩:=jy.get V7.o;have HO:=ac jy.olds;have cw:=ac (HB.o.trans (bB.mono HB.o.size));rw[<-yV.o];clear bB jy DT) | (at_builtin;refine wpList_append_lies _ rfl _ _ 218 rfl 0 3 i0 (.int .i64 0) 1 8 Tryz.underlying218 hi oM ju iy rfl (by decide) _ 1 [.int .i64 (k:Int)] rfl (V4 0 (aX _) (ai rfl)) ⟨b2,off2,none⟩ p0 c2 (tp p) rfl (by rw[yV.o];simp[tp]) (fun j u h=>aa cO (HO.o j u h)) (by simp[tp,Value.oneCell']) om (by unfold maxLen;omega) (by omega) (aX _) (w2.heap.size+1) (by simp) ?_;intro g eF w4 aV aq hg eD;have HG:=aG aV aq;clear aV aq hg eD));go_ret;refine ⟨⟨_,rfl,?_⟩,?_⟩
  ·rw[HT.o];exact IntsV.own (l:=k :: p) HG.o.1
  ·have aO:Below w2.heap.size w2 w4:=by
    have hg:=HG.o.2;have hs:=hg.size;exact ⟨hg.os,hg.tape,hg.output,by simp at hs;omega,fun b hb=>(hg.block b (by simp;omega) (fun h=>by injection h with h;simp at h;omega)).trans (bE _ _ _ hb)⟩
   exact cw.o.trans (aO.mono cw.o.size)):G:=h
theorem pm17(h:G:=by
 have pp208a:=();exact pm208):G:=h
theorem pm18(h:G:=by
 have iC:Below wq.heap.size wq mL:=by rw[xA.o];exact (((aj wq.heap.size wq).alloc (aD _) _).alloc (by simp) _).tr (fY _ _ _)
 have FZ:((wq.alloc (.cells #[.int .i64 j] 3)).alloc (.cells #[.int .u8 a0,.string a1,.slice a2 a3 a4,.slice a5 a6 a7,.int .u8 b0,.string b1,.slice b2 b3 b4,.slice b5 b6 b7] 50)).heap.size=wq.heap.size+1+1:=by simp
 have QO:mL.heap.size=wq.heap.size+1+1+2:=by rw[xA.o,kw,FZ]
 have xX:mL.heap[wq.heap.size+1+1]?=some (.cells #[.int .u8 a0,.string a1,.slice a2 a3 a4,.slice a5 a6 a7] 36 (0,0)):=by rw[xA.o,<-FZ];exact ll _ _ _
 have xY:mL.heap[wq.heap.size+1+1+1]?=some (.cells #[.int .u8 b0,.string b1,.slice b2 b3 b4,.slice b5 b6 b7] 36 (0,0)):=by rw[xA.o,<-FZ];exact lm _ _ _
 have xi:mL.heap[wq.heap.size]?=some (.cells #[.int .i64 j] 3 (0,0)):=by
  rw[xA.o];exact ((fY _ _ _).block _ (by simp;omega)).trans ((bE _ _ _ (by simp)).trans (ai rfl))
 have QP:nN.heap.size<=wq.heap.size:=bj.size;have To:∀ b,M b->b<m_.heap.size:=t4.o.2.2.2.2.1;have FI:=t4.o.2.2.2.1;have sr:=t4.o.2.2.2.2.2;have LN:w.heap.size<=m_.heap.size:=lO.o.2.2.1.size;have Nt:∀ b,b<w.heap.size->mL.heap[b]?=w.heap[b]?:=fun b hb=>(iC.block b (bH hb lM.size)).trans (lM.block b hb);have mK:FormV (fun b=>b<mL.heap.size/\¬M b) mL (FQ.val ⟨a0,a1,a2,a3,a4,a5,a6,a7⟩) s:=hs.move (fun b hb hlt=>⟨⟨by omega,fun hm=>by have:=Cx.o.1 b hm;omega⟩,Nt b hlt⟩);have yf:FormV (fun b=>b<mL.heap.size/\¬M b) mL (FQ.val ⟨b0,b1,b2,b3,b4,b5,b6,b7⟩) f:=hf.move (fun b hb hlt=>⟨⟨by omega,fun hm=>by have:=Cx.o.1 b hm;omega⟩,Nt b hlt⟩)
 first
 |clear pp18;have BR:=BP;simp only[af]at BR;have Fh:nodesF s<=400:=by have:=BR.1;unfold e9 at this;simp only[af,bp]at this;exact this.2.1
  have I6:¬M (wq.heap.size+1+1):=fun h=>by have:=To _ h;omega
  have Xu:¬M (wq.heap.size+1+1+1):=fun h=>by have:=To _ h;omega
  have oI:=mR s f o8.2 (by omega) M mL.heap.size (wq.heap.size+1+1) (wq.heap.size+1+1+1) mL ⟨a0,a1,a2,a3,a4,a5,a6,a7⟩ ⟨b0,b1,b2,b3,b4,b5,b6,b7⟩ xX I6 xY Xu mK yf;have hMr:M (K0+1)/\M (K0+1+1)/\M aB/\M (aB+1)/\¬M (K0+1+1+1):=by rw[HM.o];have:=lO.o.2.1;omega
  have QQ:=bJ iC Gw;have QR:=bJ iC e_;have QS:mL.heap[wr.heap.size]?=some (.cells #[(.func (.func 47) #[.pointer (some ⟨K0+1+1+1,0,none⟩)] #[])] 82 (0,0)):=(iC.block _ (by omega)).trans ((bj.same _ (by omega) (fun h=>by have:=To _ h;omega)).trans t4.o.1);have IK:Marks m_.heap.size mL XF:=xK.move (fun D hD hd=>(iC.block D (bz hd)).trans hd);have NH:=ac ((HV.o.2.2.1.next lM).next iC);have Z6:=ac oI;have HI:=rU (dZ.later iC) QQ QR zH xi QS;have iH:=ac (an8 iC QO IK bj QP FI sr LN);have UX:=ac gP;have wm:=cG Fh sd qC BP;have xC:=ac hMr;have l9:=ac ((iC.block _ (by have:=(bz jN.o);omega)).trans ((bj.same _ (bz jN.o) Cx.o.2).trans jN.o));clear hs hf iC FZ QO xX xY xi QP FI sr LN Nt mK yf BR Fh I6 Xu oI hMr QQ QR QS IK dZ bj Gw e_ xK sd qC gP zH BP o8 lM d0 d1 d2 d3 d4 d5 d6 d7 XG hu;have eg:∀ args W,(callFunc 102 args).run Tryz.prog W=.ok (.enter 102 args) W:=enters_of Tryz.func102 (by kernel_rfl) rfl;refine gJ rfl eg (fun b hb=>by have:=To b hb;have:=iH.o;omega) Z6.o (fun _ _ _ h=>by obtain ⟨q,ps,rfl,_⟩:=h;rfl)
   (fun pre X=>∃(k':Bd) (ym uW:Nat),gC bK kj pre=(k',0)/\KnV (fun b=>¬M b) goodF goodT X (K0+1+1+1) (K0+1) (K0+1+1) ym uW k'/\ym<=NL+pre.length/\uW<=NM+pre.length * 400/\bw k'=true/\X.heap[aB+1]?=some (.cells #[.int .i64 0] 30 (0,0))/\X.heap[aB]?=some (.cells #[.int .i64 0] 3 (0,0))/\Kp M mL X)
   (fun c pre X=>c=.exit 2/\∃(k':Bd) (er:Int),er≠0/\gC bK kj pre=(k',er)/\X.heap[aB+1]?=some (.cells #[.int .i64 er] 30 (0,0))/\X.heap[aB]?=some (.cells #[.int .i64 j] 3 (0,0))/\Kp M mL X)
   (fun s=>?hI) (fun c s=>?hIx) ⟨kj,NL,NM,rfl,HI.o.1,by simp,by simp,HI.o.2.2.2.1,HI.o.2.1,HI.o.2.2.1,Kp.refl _⟩ ?round ?done ?stop
  case hI=>
   exact pm180
  case hIx=>
   rintro X Y hn ⟨h1,k',er,h2,h3,h4,h5,h6⟩;exact ⟨h1,k',er,h2,h3,hn.cells h4,hn.cells h5,nO h6 hn⟩
  case round=>
   rintro lR pre vs x W hl yS ⟨k',ym,uW,h1,h2,h3,h4,h5,h6,h7,h8⟩ ⟨q,ps,rfl,L_,mg,tY,Dj,gX⟩ Gm dx;have pp21d:=();exact pm21
  case done=>
   exact pm41
  case stop=>
   have pp270:=();exact pm270
 |have BR:=BP;simp only[af]at BR;have Fh:nodesF s<=400:=by have:=BR.1;unfold e9 at this;simp only[af,bp]at this;exact this.2.1
  have I6:¬M (wq.heap.size+1+1):=fun h=>by have:=To _ h;omega
  have Xu:¬M (wq.heap.size+1+1+1):=fun h=>by have:=To _ h;omega
  have oI:=mR s f o8.2 (by omega) M mL.heap.size (wq.heap.size+1+1) (wq.heap.size+1+1+1) mL ⟨a0,a1,a2,a3,a4,a5,a6,a7⟩ ⟨b0,b1,b2,b3,b4,b5,b6,b7⟩ xX I6 xY Xu mK yf;have hMr:M (K0+1)/\M (K0+1+1)/\M aB/\M (aB+1)/\¬M (K0+1+1+1):=by rw[HM.o];have:=lO.o.2.1;omega
  have QQ:=bJ iC Gw;have QR:=bJ iC e_;have QS:mL.heap[wr.heap.size]?=some (.cells #[(.func (.func 48) #[.pointer (some ⟨K0+1+1+1,0,none⟩)] #[])] 82 (0,0)):=(iC.block _ (by omega)).trans ((bj.same _ (by omega) (fun h=>by have:=To _ h;omega)).trans t4.o.1);have IK:Marks m_.heap.size mL XF:=xK.move (fun D hD hd=>(iC.block D (bz hd)).trans hd);have NH:=ac ((HV.o.2.2.1.next lM).next iC);have Z6:=ac oI;have HI:=rU (dZ.later iC) QQ QR zH xi QS;have iH:=ac (an8 iC QO IK bj QP FI sr LN);have UX:=ac gP;have wm:=cG Fh sd qC BP;have xC:=ac hMr;have l9:=ac ((iC.block _ (by have:=(bz jN.o);omega)).trans ((bj.same _ (bz jN.o) Cx.o.2).trans jN.o));clear hs hf iC FZ QO xX xY xi QP FI sr LN Nt mK yf BR Fh I6 Xu oI hMr QQ QR QS IK dZ bj Gw e_ xK sd qC gP zH BP o8 lM d0 d1 d2 d3 d4 d5 d6 d7 XG hu;have eg:∀ args W,(callFunc 102 args).run Tryz.prog W=.ok (.enter 102 args) W:=enters_of Tryz.func102 (by kernel_rfl) rfl;refine gJ rfl eg (fun b hb=>by have:=To b hb;have:=iH.o;omega) Z6.o (fun _ _ _ h=>by obtain ⟨q,ps,rfl,_⟩:=h;rfl)
   (fun pre X=>∃(k':Bd) (ym uW:Nat),gC ev kj pre=(k',0)/\KnV (fun b=>¬M b) goodF goodT X (K0+1+1+1) (K0+1) (K0+1+1) ym uW k'/\ym<=NL+pre.length/\uW<=NM+pre.length * 400/\bw k'=true/\X.heap[aB+1]?=some (.cells #[.int .i64 0] 30 (0,0))/\X.heap[aB]?=some (.cells #[.int .i64 0] 3 (0,0))/\Kp M mL X)
   (fun c pre X=>c=.exit 2/\∃(k':Bd) (er:Int),er≠0/\gC ev kj pre=(k',er)/\X.heap[aB+1]?=some (.cells #[.int .i64 er] 30 (0,0))/\X.heap[aB]?=some (.cells #[.int .i64 j] 3 (0,0))/\Kp M mL X)
   (fun s=>?hI) (fun c s=>?hIx) ⟨kj,NL,NM,rfl,HI.o.1,by simp,by simp,HI.o.2.2.2.1,HI.o.2.1,HI.o.2.2.1,Kp.refl _⟩ ?round ?done ?stop
  case hI=>
   exact pm180
  case hIx=>
   rintro X Y hn ⟨h1,k',er,h2,h3,h4,h5,h6⟩;exact ⟨h1,k',er,h2,h3,hn.cells h4,hn.cells h5,nO h6 hn⟩
  case round=>
   rintro lR pre vs x W hl yS ⟨k',ym,uW,h1,h2,h3,h4,h5,h6,h7,h8⟩ ⟨q,ps,rfl,L_,mg,tY,Dj,gX⟩ Gm dx;exact pm21
  case done=>
   exact pm41
  case stop=>
   exact pm270):G:=h
theorem pm19(h:G:=by
 have mz:=ac CC;clear CC;gi_wp2_with (gi_at_call 51;refine aK.2 (mz.o.mono ?_);rintro e w5 ⟨p5,rfl,pS,bm⟩;obtain ⟨po,pn,pa,pl,pc,pb,pm,pe⟩:=p5;simp only at pS ⊢;have Fj:=ac (Hn.o.later bm);have HP:=ac pS;have x1:=Fj.o.b1;have f0:=ah x1 0;have f1:=ah x1 1;have f2:=ah x1 2;have f3:=ah x1 3;have z0:=ae x1 0;have z1:=ae x1 1;have z2:=ae x1 2;have z3:=ae x1 3;clear bm pS x1);have Wq:=Hn.o.lt;have x6:=lA (v0:=.int .u8 po) (v1:=.string pn) (v2:=.slice pa pl pc) (v3:=.slice pb pm pe) Fj.o.b1;have k6:=dL (W:=w5) (b:=w.heap.size+1+1) (v0:=.int .u8 po) (v1:=.string pn) (v2:=.slice pa pl pc) (v3:=.slice pb pm pe);obtain ⟨W6,dm⟩:=am ((((w5.setCell ⟨w.heap.size+1+1,0,none⟩ (.int .u8 po)).setCell ⟨w.heap.size+1+1,1,none⟩ (.string pn)).setCell ⟨w.heap.size+1+1,2,none⟩ (.slice pa pl pc)).setCell ⟨w.heap.size+1+1,3,none⟩ (.slice pb pm pe));rw[<-dm]at x6 k6 ⊢;clear dm;have g0:W6.cell? ⟨w.heap.size+1+1,0,none⟩=some (.int .u8 po):=ah x6 0;have g1:W6.cell? ⟨w.heap.size+1+1,1,none⟩=some (.string pn):=ah x6 1;have g2:W6.cell? ⟨w.heap.size+1+1,2,none⟩=some (.slice pa pl pc):=ah x6 2;have g3:W6.cell? ⟨w.heap.size+1+1,3,none⟩=some (.slice pb pm pe):=ah x6 3;refine bI (v:=FQ.val ⟨po,pn,pa,pl,pc,pb,pm,pe⟩) (by simp[FQ.val,results,Tryz.results101,go_sem,g0,g1,g2,g3]) rfl ⟨⟨⟨po,pn,pa,pl,pc,pb,pm,pe⟩,rfl,wX.o ▸ HP.o.move (fun b hok hlt=>⟨by omega,k6.same b hlt (by omega)⟩)⟩,Below.kp1 Fj.o.below k6 (by omega)⟩):G:=h
theorem pm20(h:G:=by
 obtain ⟨uo,un,ua,ul,uc,ub,um,ue⟩:=u;obtain ⟨vo,vn,va,vl,vc,vb,vm,ve⟩:=v;have jb:=mM (c:=zg) xF Uh;have ye:=(bj.same _ (bz On.o) HWM.o.2).trans On.o;have zcE:=bj.size;have zcF:k<sm:=by have:=gR.o;omega
 have zcG:k<fm:=by have:=gR.o;omega
 have ur:(pre ++ ([X] ++ aE zg (ss.take k) (fs.take k)) ++ aR zg ss[k] fs[k]) <+: xs:=by
  have h2:=ob.o;rw[mN (c:=zg) (k:=k+1) (l:=ss) (m:=fs),jb]at h2;obtain ⟨r,rfl⟩:=h2;exact ⟨aE zg (ss.drop (k+1)) (fs.drop (k+1)) ++ r,by simp⟩
 obtain ⟨S,hS⟩:∃S:World->Prop,S=fun V=>Below wr.heap.size wr V:=⟨_,rfl⟩;have p3:∀ V,S V->V.cell? ⟨W.heap.size,3,none⟩=some (.slice (some ⟨bs,os,none⟩) sm se):=fun V h=>by rw[hS]at h;exact aa h (ah ye 3)
 have p7:∀ V,S V->V.cell? ⟨W.heap.size,7,none⟩=some (.slice (some ⟨bf,of,none⟩) fm fe):=fun V h=>by rw[hS]at h;exact aa h (ah ye 7)
 have qs:∀ V,S V->V.cell? ⟨bs,os+k * 4,none⟩=some (.int .u8 uo)/\V.cell? ⟨bs,os+k * 4+1,none⟩=some (.string un)/\V.cell? ⟨bs,os+k * 4+2,none⟩=some (.slice ua ul uc)/\V.cell? ⟨bs,os+k * 4+3,none⟩=some (.slice ub um ue):=fun V h=>by rw[hS]at h;exact ⟨aa h d0,aa h d1,aa h d2,aa h d3⟩
 have qf:∀ V,S V->V.cell? ⟨bf,of+k * 4,none⟩=some (.int .u8 vo)/\V.cell? ⟨bf,of+k * 4+1,none⟩=some (.string vn)/\V.cell? ⟨bf,of+k * 4+2,none⟩=some (.slice va vl vc)/\V.cell? ⟨bf,of+k * 4+3,none⟩=some (.slice vb vm ve):=fun V h=>by rw[hS]at h;exact ⟨aa h g0,aa h g1,aa h g2,aa h g3⟩
 have dU:S wr.drew:=by rw[hS];exact (aj _ _).drew
 first
 |clear pp20;have tZ:Kp M W3 wr.drew:=bj.trans (Kp.below (aj _ _).drew);have CC:=fR.o ss[k] (aw xF) fs[k] (UP.o.mem (aw Uh)) ps (by have:=yQ.o.2.1 ss[k] (aw xF);omega) M B l J Jx xs (pre ++ ([X] ++ aE zg (ss.take k) (fs.take k))) wr.drew ⟨⟨uo,un,ua,ul,uc,ub,um,ue⟩,⟨vo,vn,va,vl,vc,vb,vm,ve⟩,ca,cl,cc⟩
   (fun b hb=>by have:=Cs.o.1 b hb;show b<wr.heap.size;have:=AO.o.2.size;omega) ⟨by have:=Cs.o.2.1;show l<wr.heap.size;have:=AO.o.2.size;omega,Cs.o.2.2⟩ (fun t=>(HJ.o.1 t).mono (by show W.heap.size<=wr.heap.size;have:=AO.o.2.size;omega)) (fun t=>(HJ.o.2 t).mono (by show W.heap.size<=wr.heap.size;have:=AO.o.2.size;omega))
   (HY.o.later (AO.o.2.trans tZ)) (hu.kp (AO.o.2.trans tZ)) (hv.kp (AO.o.2.trans tZ)) (HPz.o.kp tZ) (by rw[show (ps).reverse=zg from zw.o];exact ur) (HJ.o.1 _ _ _ (Nw.below (aj _ _).drew) hj)
  rw[show (ps).reverse=zg from zw.o]at CC;simp only[PlQ.val,PlQ.cells]at CC;obtain ⟨HC,HSu⟩:=aW CC jb;have kL:=aG bj tZ;clear hu hv ur CC jb hj bj tZ ye ji hS c0 c1 c2 c3 e0 e1 e2 e3 d0 d1 d2 d3 g0 g1 g2 g3;gi_wp2;refine lH S 15 dU fun jC bN=>?_;refine bC 0 43 (.pointer (some ⟨W.heap.size,0,none⟩)) rfl bN fun cr=>?_;simp only[ag];refine bC 1 44 (.pointer (some ⟨W.heap.size,3,none⟩)) rfl cr fun f_=>?_;simp only[ag];refine dh 2 45 (.slice (some ⟨bs,os,none⟩) sm se) rfl (fun V hX=>by have h0:=p3 V hX;go_simp) f_ fun gQ=>?_;simp only[ag];refine bC 3 46 (.int .i64 (k:Int)) rfl gQ fun iK=>?_;simp only[ag];refine bC 4 47 (.pointer (some ⟨bs,os+k * 4,none⟩)) rfl iK fun jF=>?_;simp only[ag];refine dh 5 48 (.agg #[.int .u8 uo,.string un,.slice ua ul uc,.slice ub um ue]) rfl (fun V hX=>by obtain ⟨h0,h1,h2,h3⟩:=qs V hX;go_simp) jF fun j7=>?_;simp only[ag];refine bC 6 49 (.pointer (some ⟨W.heap.size,4,none⟩)) rfl j7 fun mi=>?_;simp only[ag];refine bC 7 50 (.pointer (some ⟨W.heap.size,7,none⟩)) rfl mi fun rF=>?_;simp only[ag];refine dh 8 51 (.slice (some ⟨bf,of,none⟩) fm fe) rfl (fun V hX=>by have h0:=p7 V hX;go_simp) rF fun Hv=>?_;simp only[ag];refine bC 9 52 (.int .i64 (k:Int)) rfl Hv fun zh=>?_;simp only[ag];refine bC 10 53 (.pointer (some ⟨bf,of+k * 4,none⟩)) rfl zh fun Hw=>?_;simp only[ag];refine dh 11 54 (.agg #[.int .u8 vo,.string vn,.slice va vl vc,.slice vb vm ve]) rfl (fun V hX=>by obtain ⟨h0,h1,h2,h3⟩:=qf V hX;go_simp) Hw fun PN=>?_;simp only[ag];refine bC 12 55 (.slice ca cl cc) rfl PN fun SS=>?_;simp only[ag];refine bC 13 56 (.agg #[.int .u8 uo,.string un,.slice ua ul uc,.slice ub um ue,.int .u8 vo,.string vn,.slice va vl vc,.slice vb vm ve,.slice ca cl cc]) rfl SS fun WJ=>?_;simp only[ag];refine bC 14 57 (.func (.yield l) #[] #[]) rfl WJ fun zcH=>?_;simp only[ag];refine bZ 15 rfl fun K hK=>?_;go_simp;refine aK.2 (HC.o.mono ?_);rintro e w3 (⟨rfl,qd,kD⟩ | ⟨rfl,PO⟩)
  ·refine eS hK ?_;exact pm138
  ·refine eS hK ?_;exact pm155
 |have tZ:Kp M X5 wr.drew:=bj.trans (Kp.below (aj _ _).drew);have CC:=fR.o ss[k] (aw xF) fs[k] (UP.o.mem (aw Uh)) (ps ++ [(sn,fn)]) (by have:=yQ.o.2.1 ss[k] (aw xF);simp;omega) M B l J Jx xs (pre ++ ([X] ++ aE zg (ss.take k) (fs.take k))) wr.drew ⟨⟨uo,un,ua,ul,uc,ub,um,ue⟩,⟨vo,vn,va,vl,vc,vb,vm,ve⟩,(some ⟨g,0,none⟩),(cl+1),cap⟩
   (fun b hb=>by have:=Cs.o.1 b hb;show b<wr.heap.size;have:=AO.o.2.size;omega) ⟨by have:=Cs.o.2.1;show l<wr.heap.size;have:=AO.o.2.size;omega,Cs.o.2.2⟩ (fun t=>(HJ.o.1 t).mono (by show W.heap.size<=wr.heap.size;have:=AO.o.2.size;omega)) (fun t=>(HJ.o.2 t).mono (by show W.heap.size<=wr.heap.size;have:=AO.o.2.size;omega))
   (HY.o.later (AO.o.2.trans tZ)) (hu.kp (AO.o.2.trans tZ)) (hv.kp (AO.o.2.trans tZ)) (HPz.o.kp tZ) (by rw[show ((ps ++ [(sn,fn)])).reverse=zg from zw.o];exact ur) (HJ.o.1 _ _ _ (Nw.below (aj _ _).drew) hj)
  rw[show ((ps ++ [(sn,fn)])).reverse=zg from zw.o]at CC;simp only[PlQ.val,PlQ.cells]at CC;obtain ⟨HC,HSu⟩:=aW CC jb;have kL:=aG bj tZ;clear hu hv ur CC jb hj bj tZ ye ji hS c0 c1 c2 c3 e0 e1 e2 e3 d0 d1 d2 d3 g0 g1 g2 g3;gi_wp2;refine lH S 15 dU fun jC bN=>?_;refine bC 0 43 (.pointer (some ⟨W.heap.size,0,none⟩)) rfl bN fun cr=>?_;simp only[ag];refine bC 1 44 (.pointer (some ⟨W.heap.size,3,none⟩)) rfl cr fun f_=>?_;simp only[ag];refine dh 2 45 (.slice (some ⟨bs,os,none⟩) sm se) rfl (fun V hX=>by have h0:=p3 V hX;go_simp) f_ fun gQ=>?_;simp only[ag];refine bC 3 46 (.int .i64 (k:Int)) rfl gQ fun iK=>?_;simp only[ag];refine bC 4 47 (.pointer (some ⟨bs,os+k * 4,none⟩)) rfl iK fun jF=>?_;simp only[ag];refine dh 5 48 (.agg #[.int .u8 uo,.string un,.slice ua ul uc,.slice ub um ue]) rfl (fun V hX=>by obtain ⟨h0,h1,h2,h3⟩:=qs V hX;go_simp) jF fun j7=>?_;simp only[ag];refine bC 6 49 (.pointer (some ⟨W.heap.size,4,none⟩)) rfl j7 fun mi=>?_;simp only[ag];refine bC 7 50 (.pointer (some ⟨W.heap.size,7,none⟩)) rfl mi fun rF=>?_;simp only[ag];refine dh 8 51 (.slice (some ⟨bf,of,none⟩) fm fe) rfl (fun V hX=>by have h0:=p7 V hX;go_simp) rF fun Hv=>?_;simp only[ag];refine bC 9 52 (.int .i64 (k:Int)) rfl Hv fun zh=>?_;simp only[ag];refine bC 10 53 (.pointer (some ⟨bf,of+k * 4,none⟩)) rfl zh fun Hw=>?_;simp only[ag];refine dh 11 54 (.agg #[.int .u8 vo,.string vn,.slice va vl vc,.slice vb vm ve]) rfl (fun V hX=>by obtain ⟨h0,h1,h2,h3⟩:=qf V hX;go_simp) Hw fun PN=>?_;simp only[ag];refine bC 12 55 (.slice (some ⟨g,0,none⟩) (cl+1) cap) rfl PN fun SS=>?_;simp only[ag];refine bC 13 56 (.agg #[.int .u8 uo,.string un,.slice ua ul uc,.slice ub um ue,.int .u8 vo,.string vn,.slice va vl vc,.slice vb vm ve,.slice (some ⟨g,0,none⟩) (cl+1) cap]) rfl SS fun WJ=>?_;simp only[ag];refine bC 14 57 (.func (.yield l) #[] #[]) rfl WJ fun zcH=>?_;simp only[ag];refine bZ 15 rfl fun K hK=>?_;go_simp;refine aK.2 (HC.o.mono ?_);rintro e w3 (⟨rfl,qd,kD⟩ | ⟨rfl,PO⟩)
  ·refine eS hK ?_;exact pm138
  ·refine eS hK ?_;exact pm155):G:=h
theorem pm21(h:G:=by
 obtain ⟨⟨u0,u1,u2,u3,u4,u5,u6,u7⟩,⟨v0,v1,v2,v3,v4,v5,v6,v7⟩,ca,cl,cc⟩:=q;simp only[PlQ.val,PlQ.cells];simp only at tY Dj gX;have zI:lR<W.heap.size:=by obtain ⟨r,hr⟩:=yS;exact (bz hr)
 have iG:Below W.heap.size W (W.alloc (.cells #[.int .u8 u0,.string u1,.slice u2 u3 u4,.slice u5 u6 u7,.int .u8 v0,.string v1,.slice v2 v3 v4,.slice v5 v6 v7,.slice ca cl cc] 89)):=cO
 first
 |clear pp21a;have Tp:=bF h1 (bJ iG h2) (h3.trans (Kp.below iG));have HQ:=cG tY gX L_ mg;have HL:=rU hl yS zI iG Gm dx;clear h1 h2 h3 tY Dj gX L_ mg hl yS zI iG Gm dx;gi_wp2;refine ⟨Kp.below HL.o.2.2.2.1,Tp.o,fun W2 g9 wi iO=>?_⟩;obtain ⟨g1,g2,g3⟩:=wi;have pp12c:=();exact pm12
 |clear pp21b;have Tp:=bF h1 (bJ iG h2) (h3.trans (Kp.below iG));have HQ:=cG tY gX L_ mg;have HL:=rU hl yS zI iG Gm dx;clear h1 h2 h3 tY Dj gX L_ mg hl yS zI iG Gm dx;gi_wp2;refine ⟨Kp.below HL.o.2.2.2.1,Tp.o,fun W2 g9 wi iO=>?_⟩;obtain ⟨g1,g2,g3⟩:=wi;have pp12d:=();exact pm12
 |clear pp21c;have Tp:=cG h1 (bJ iG h2) (bJ iG h3) (h4.trans (Kp.below iG));have HQ:=cG tY gX L_ mg;have HL:=rU hl yS zI iG Gm dx;clear h1 h2 h3 h4 tY Dj gX L_ mg hl yS zI iG Gm dx;gi_wp2;refine ⟨Kp.below HL.o.2.2.2.1,Tp.o,fun W2 g9 wi iO=>?_⟩;obtain ⟨g1,g2,g3,g4⟩:=wi;exact pm12
 |clear pp21d;have Tp:=ac (an8 h1 (h2.later iG) h3 h4 h5 (bJ iG h6) (bJ iG h7) (h8.trans (Kp.below iG)));have HQ:=fE tY Dj gX L_ mg;have HL:=rU hl yS zI iG Gm dx;clear h1 h2 h3 h4 h5 h6 h7 h8 tY Dj gX L_ mg hl yS zI iG Gm dx;gi_wp2;refine ⟨Kp.below HL.o.2.2.2.1,⟨k',ym,uW,Tp.o⟩,fun W2 g9 wi iO=>?_⟩;obtain ⟨k2,nF2,Dm,g1,g2,g3,g4,g5,g6,g7,g8⟩:=wi;have pp12a:=();exact pm12
 |have Tp:=ac (an8 h1 (h2.later iG) h3 h4 h5 (bJ iG h6) (bJ iG h7) (h8.trans (Kp.below iG)));have HQ:=fE tY Dj gX L_ mg;have HL:=rU hl yS zI iG Gm dx;clear h1 h2 h3 h4 h5 h6 h7 h8 tY Dj gX L_ mg hl yS zI iG Gm dx;gi_wp2;refine ⟨Kp.below HL.o.2.2.2.1,⟨k',ym,uW,Tp.o⟩,fun W2 g9 wi iO=>?_⟩;obtain ⟨k2,nF2,Dm,g1,g2,g3,g4,g5,g6,g7,g8⟩:=wi;have pp12b:=();exact pm12):G:=h
theorem pm22(h:G:=by
 obtain ⟨W9,r_,x9,k9,_⟩:=Dv xR (.slice none 0 0) (.slice none 0 0);have XK:¬(aB=w.heap.size+1):=fun h=>Cx.o.2 (h ▸ xC.o.2.2.1);have XL:¬(aB+1=w.heap.size+1):=fun h=>Cx.o.2 (h ▸ xC.o.2.2.2.1);have e4:=k9.cell (a:=⟨aB,0,none⟩) XK e2;have e5:=k9.cell (a:=⟨aB+1,0,none⟩) XL e0;rw[r_]at e4 e5;clear r_ x9 k9;have BV:Below w.heap.size w X:=aQ (aQ t4.o.2.2.1 iH.o.2.2.2.1 Cx.o.1) ((Kp.below iH.o.1).trans h6) Cx.o.1;have kz:Marks m_.heap.size X ({ target:=.collected D,args:=#[] } :: XF):=iH.o.2.2.1.more (w':=X) (fun E hE hx=>(h6.same E (bz hx) (fun hm=>by have:=t4.o.2.2.2.2.1 E hm;omega)).trans hx) hD (by have:=iH.o;omega) hd;have HZ:=bF xR BV kz;clear hrs XJ gX h3 h4 h5 h6 hd BV kz xR xRd;gi_wp2_with fail;gi_region
 all_goals
  gi_wp2_with fail;obtain ⟨W8,l8,x8,k8,g0,g1⟩:=Dv HZ.o.1 (.slice none 0 0) (.slice none 0 0);rw[<-l8,Exit.noGoto_ret];have tR:Below w.heap.size w W8.drew:=(Below.kp1 HZ.o.2.1 k8 (by omega)).drew;refine em (B:=m_.heap.size) (HZ.o.2.2.move (w':=W8.drew) (fun E hE hd=>(k8.same E (bz hd) (by have:=(bz lO.o.2.2.2.2);omega)).trans hd)) (fun w' hn=>?_);have h0:=hn.cell (show W8.drew.cell? _=_ from g0);have h1:=hn.cell (show W8.drew.cell? _=_ from g1);exact ⟨.tuple #[.agg #[.slice none 0 0,.slice none 0 0],.int .i64 j,.int .i64 er],by simp[results,Tryz.results15,go_sem,h0,h1],⟨⟨⟨none,0,0,none,0,0⟩,by (rw[HE.o];try rfl),by rw[HE.o];exact oC⟩,jo tR (hn.mono lO.o.2.2.1.size)⟩⟩):G:=h
theorem pm23(h:G:=by
 have pp284:=();exact pm284):G:=h
theorem pm24(h:G:=by
 obtain ⟨qo,qn,qa,ql,qc,qb,qm,qe⟩:=q;obtain ⟨sa,ss,hs,bL,eo⟩:=aT.1 hq;unfold FQ.val at hs;simp only[cF,Array.mk.injEq,b_,and_true,Value.int.injEq,true_and,Value.string.injEq]at hs;obtain ⟨rfl,rfl,rfl,rfl⟩:=hs;obtain rfl:=bL.len;obtain rfl:=eo.len
 first
 |clear pp24a;have hlen:=hfit.args.len;have ej:=hfit.subs.len;have mw:=hfit.name;obtain ⟨eb,gt,GM,zZ,fR⟩:=t5 bL eo hfit.args hfit.subs ih;obtain ⟨k0,bX⟩:=am a.length;obtain ⟨m0,dW⟩:=am s.length;rw[<-bX]at hlen;rw[<-dW]at ej;obtain ⟨dA,gR⟩:=aW bX dW;clear hq bL eo hfit ih;unfold FQ.val;rw[<-bX,<-dW];clear bX dW;refine m4 Tryz.func66 ?_;simp only[Tryz.ntmps66,Nat.reduceAdd,Nat.reduceSub,lu];have iz:=fd;gi_wp2;obtain ⟨W1,bY⟩:=am (((w.alloc (.cells #[.int .u8 qo,.string ⟨n.toArray⟩,.slice qa k0 qc,.slice qb m0 qe] 36)).alloc (.cells #[.int .u8 0,.string ⟨#[]⟩,.slice none 0 0,.slice none 0 0] 36)).alloc (.cells #[.int .u8 qo,.string ⟨n.toArray⟩,.slice none 0 0,.slice none 0 0] 36));have iN:=yK bY;have x0:=zO bY;have x1:=sk bY;have x2:=qi bY;rw[<-bY];clear bY;obtain ⟨ec,MC,jN⟩:=cH iN x0 x1;have wI:=ac (Fills.start (R:=w.heap.size+1+1) (mk:=fun rr=>#[.int .u8 qo,.string ⟨n.toArray⟩,rr,.slice none 0 0]) (Row:=fun r W=>RowT W1.heap.size r ((a.map aN).take 0) W) x2 (RowT.nil _ _));clear iN x0 x1 x2;gi_loopw [16] (fun i hZ=>∃k1:Nat,k1<=k0/\i=.int .i64 k1/\∃row,Fills 36 (w.heap.size+1+1) W1.heap.size (fun rr=>#[.int .u8 qo,.string ⟨n.toArray⟩,rr,.slice none 0 0]) (fun r W=>RowT W1.heap.size r ((a.map aN).take k1) W) W1 hZ row) (fun i _=>k0 - (intOf i).toNat)
  case atStart=>exact ⟨0,aX _,rfl,_,wI.o⟩
  case round=>
   obtain ⟨k1,hk,rfl,row,hF⟩:=hrel;obtain ⟨hZ,wK⟩:∃x,x=wr:=⟨_,rfl⟩;subst wK;have ar:=hF.below ec.o (Nat.le_add_right _ 2)
   by_cases hlt:k1<k0
   ·have dJ:=ce dA.o hlt;have pp61e:=();exact pm61
   ·obtain rfl:k1=k0:=by omega
    have cB:((a.map aN).take k1).length=k1:=by rw[dT];have:=dA.o;simp;omega
    have ki:(a.map aN).take k1=(a.map aN):=gU (by have:=dA.o;simp;omega);have pp125a:=();exact pm125
 |clear pp24b;have ej:=hfit.subs.len;have mf:kM (.mk qo n a s)=[.mk qo n a s] ++ dR s:=by unfold kM;rfl
  rw[mf]at dx ⊢;obtain ⟨f,hf⟩:=am (Fm.mk qo n a s);rw[<-hf]at dx MG ⊢;have fR:=ac (fun t ht=>ih t ht (hfit.subs.mem ht));obtain ⟨k0,bX⟩:=am a.length;obtain ⟨m0,dW⟩:=am s.length;rw[<-bX,<-dW]at MG;rw[<-dW]at ej eo;unfold FQ.val at MG ⊢;simp only at MG ⊢;rw[<-bX,<-dW];obtain ⟨gR,ob⟩:=aW dW dx;have iN:Below W.heap.size W (W.alloc (.cells #[.int .u8 qo,.string ⟨n.toArray⟩,.slice qa k0 qc,.slice qb m0 qe] 36)):=cO;have I5:J pre (W.alloc (.cells #[.int .u8 qo,.string ⟨n.toArray⟩,.slice qa k0 qc,.slice qb m0 qe] 36)):=hJ pre _ _ (Nw.below iN) hj;have rX:=hY pre #[.agg #[.int .u8 qo,.string ⟨n.toArray⟩,.slice qa k0 qc,.slice qb m0 qe]] f _ I5 (Kp.below iN) ⟨⟨qo,⟨n.toArray⟩,qa,k0,qc,qb,m0,qe⟩,rfl,MG.kp (Kp.below iN)⟩ (jO dx);have HX:=ac (show (W.alloc (.cells #[.int .u8 qo,.string ⟨n.toArray⟩,.slice qa k0 qc,.slice qb m0 qe] 36)).heap[W.heap.size]?=some (.cells #[.int .u8 qo,.string ⟨n.toArray⟩,.slice qa k0 qc,.slice qb m0 qe] 36 (0,0)) from ai rfl);obtain ⟨ec,gt,HJ,Cs,HY,HF⟩:=VE iN eo hJ hM hY hf;obtain ⟨fn,tmps,assign,body,hy,GR⟩:=jK 2 rX;clear hq MG bL eo hfit ih bX dW hj iN I5 rX hJ hM hY dx mf hf;refine m4 Tryz.func151 ?_;simp only[Tryz.ntmps151,Nat.reduceAdd,Nat.reduceSub,lu];have iz:=fd;gi_wp2;refine GR.mono ?_;rintro e W2 ⟨rfl,xO,iO⟩;have YY:¬M W.heap.size:=fun h=>by have:=Cs.o _ h;omega
  have qg:=(iO.same W.heap.size (by simp) YY).trans HX.o;have p3:W2.cell? ⟨W.heap.size,3,none⟩=some (.slice qb m0 qe):=ah qg 3;have zr:=aG xO ((Kp.below ec.o).trans iO);clear xO iO qg GR hy;gi_wp2;gi_loopw [14] (fun i wr=>∃k:Nat,k<=m0/\i=.int .i64 k/\J (pre ++ ([f] ++ dR (s.take k))) wr/\Kp M W wr) (fun i _=>m0 - (intOf i).toNat)
  case atStart=>exact ⟨0,aX _,rfl,by simpa[dR] using zr.o.1,zr.o.2⟩
  case round=>
   have pp219a:=();exact pm219
 |clear pp24c;have CL:=fun (W:World) (hb:Below w.heap.size w W)=>sH a hfit.args (fun t ht=>Di t (hfit.args.mem ht)) ok W qa _ qc (bL.later hb);have CS:=fun (W:World) (hb:Below w.heap.size w W)=>Dh s hfit.subs (fun t ht=>ih t ht (hfit.subs.mem ht)) ok W qb _ qe (eo.later hb);obtain ⟨k0,bX⟩:=am a.length;obtain ⟨m0,dW⟩:=am s.length;rw[<-bX]at CL;rw[<-dW]at CS;obtain ⟨Y0,sI,dA,gR⟩:=eH CL CS bX dW;clear hq bL eo hfit ih CL CS;unfold FQ.val;rw[<-bX,<-dW];clear bX dW;refine m4 Tryz.func51 ?_;simp only[Tryz.ntmps51,Nat.reduceAdd,Nat.reduceSub,lu];have iz:=fd;gi_wp2;obtain ⟨W2,a_⟩:=am ((w.alloc (.cells #[.int .u8 qo,.string ⟨n.toArray⟩,.slice qa k0 qc,.slice qb m0 qe] 36)).alloc (.cells #[.int .u8 0,.string ⟨#[]⟩,.slice none 0 0,.slice none 0 0] 36));have f9:=lv a_;have x0:=t_ a_;have x1:=j_ a_;rw[<-a_];clear a_;obtain ⟨S,hS⟩:∃S:World->Prop,S=fun V=>Below W2.heap.size W2 V:=⟨_,rfl⟩;have f0:∀ V,S V->V.cell? ⟨w.heap.size,0,none⟩=some (.int .u8 qo)/\V.cell? ⟨w.heap.size,1,none⟩=some (.string ⟨n.toArray⟩)/\V.cell? ⟨w.heap.size,2,none⟩=some (.slice qa k0 qc)/\V.cell? ⟨w.heap.size,3,none⟩=some (.slice qb m0 qe):=fun V h=>by rw[hS]at h;exact ⟨aa h (ah x0 0),aa h (ah x0 1),aa h (ah x0 2),aa h (ah x0 3)⟩
  have dU:S W2.drew:=by rw[hS];exact (aj _ _).drew
  obtain ⟨dp,cw,jN⟩:=cH hS f9 x1;clear hS f9 x0 x1;refine lH S 11 dU fun jC bN=>?_;refine bC 0 3 (.pointer (some ⟨w.heap.size,0,none⟩)) rfl bN fun cr=>?_;simp only[ag];refine dh 1 4 (.int .u8 qo) rfl (fun V hX=>by obtain ⟨g0,g1,g2,g3⟩:=f0 V hX;go_simp) cr fun f_=>?_;simp only[ag];refine bC 2 5 (.pointer (some ⟨w.heap.size,1,none⟩)) rfl f_ fun gQ=>?_;simp only[ag];refine dh 3 6 (.string ⟨n.toArray⟩) rfl (fun V hX=>by obtain ⟨g0,g1,g2,g3⟩:=f0 V hX;go_simp) gQ fun iK=>?_;simp only[ag];refine bC 4 7 (.pointer (some ⟨w.heap.size,2,none⟩)) rfl iK fun jF=>?_;simp only[ag];refine dh 5 8 (.slice qa k0 qc) rfl (fun V hX=>by obtain ⟨g0,g1,g2,g3⟩:=f0 V hX;go_simp) jF fun j7=>?_;simp only[ag];refine bC 7 10 (.pointer (some ⟨w.heap.size,3,none⟩)) rfl j7 fun mi=>?_;simp only[ag];refine dh 8 11 (.slice qb m0 qe) rfl (fun V hX=>by obtain ⟨g0,g1,g2,g3⟩:=f0 V hX;go_simp) mi fun rF=>?_;simp only[ag];refine bZ 6 rfl fun K hK=>?_;go_simp;refine aK.2 ((Y0.o W2.drew (cw.o.drew)).mono ?_);rintro _ A ⟨ra,rc,rfl,hp,hA⟩;have cC:Below W2.heap.size W2 A:=((aj W2.heap.size W2).drew).trans hA;refine hK _ _ (fun _=>by rw[dp.o];exact cC) (fun _=>?_);clear hK K hA;refine bZ 9 rfl fun K hK=>?_;go_simp;refine aK.2 ((sI.o A (cw.o.trans (cC.mono cw.o.size))).mono ?_);rintro _ A' ⟨rb,re,rfl,hq,hA'⟩;have SG:Below W2.heap.size W2 A':=cC.trans (hA'.mono cC.size);have hp':=(hp.later hA').move (ok':=(W2.heap.size<=·)) (fun b hok _=>⟨hok,rfl⟩);have ip:=hq.move (ok':=(W2.heap.size<=·)) (fun b hok _=>⟨aU cC.size hok,rfl⟩);have HP:=bF hp' ip SG;refine hK _ _ (fun _=>by rw[dp.o];exact SG) (fun _=>?_);clear hK K hA' cC hp hq hp' ip SG;refine bZ 10 rfl fun K hK=>?_;go_simp;refine hK _ _ (fun _=>by rw[dp.o];exact HP.o.2.2) (fun _=>?_);clear hK K;refine bZ 11 rfl fun K hK=>?_;have y1:=bJ HP.o.2.2 jN.o;obtain ⟨e0,e1,e2,e3⟩:=m5 y1;have z0:=ae y1 0;have z1:=ae y1 1;have z2:=ae y1 2;have z3:=ae y1 3;have VN:=ac y1;clear y1;go_simp;refine eS hK ?_;clear hK K;refine kV ?_;gi_wp2;have x6:=lA (v0:=.int .u8 qo) (v1:=.string ⟨n.toArray⟩) (v2:=.slice ra k0 rc) (v3:=.slice rb m0 re) VN.o;have k6:=dL (W:=A') (b:=w.heap.size+1) (v0:=.int .u8 qo) (v1:=.string ⟨n.toArray⟩) (v2:=.slice ra k0 rc) (v3:=.slice rb m0 re);obtain ⟨W6,dm⟩:=am ((((A'.setCell ⟨w.heap.size+1,0,none⟩ (.int .u8 qo)).setCell ⟨w.heap.size+1,1,none⟩ (.string ⟨n.toArray⟩)).setCell ⟨w.heap.size+1,2,none⟩ (.slice ra k0 rc)).setCell ⟨w.heap.size+1,3,none⟩ (.slice rb m0 re));rw[<-dm]at x6 k6 ⊢;clear dm;have g0:W6.cell? ⟨w.heap.size+1,0,none⟩=some (.int .u8 qo):=ah x6 0;have g1:W6.cell? ⟨w.heap.size+1,1,none⟩=some (.string ⟨n.toArray⟩):=ah x6 1;have g2:W6.cell? ⟨w.heap.size+1,2,none⟩=some (.slice ra k0 rc):=ah x6 2;have g3:W6.cell? ⟨w.heap.size+1,3,none⟩=some (.slice rb m0 re):=ah x6 3;have hz:=(bz jN.o);obtain ⟨hp,hs,cC⟩:=HP.o;have AK:TermsV (w.heap.size<=·) W6 (.slice ra k0 rc) a:=hp.move (fun b hok hlt=>⟨aU cw.o.size hok,k6.same b hlt (by have:W2.heap.size<=b:=hok;omega)⟩);have jP:FormsV (w.heap.size<=·) W6 (.slice rb m0 re) s:=hs.move (fun b hok hlt=>⟨aU cw.o.size hok,k6.same b hlt (by have:W2.heap.size<=b:=hok;omega)⟩);refine bI (v:=FQ.val ⟨qo,⟨n.toArray⟩,ra,k0,rc,rb,m0,re⟩) (by simp[FQ.val,results,Tryz.results51,go_sem,g0,g1,g2,g3]) rfl ⟨⟨qo,⟨n.toArray⟩,ra,k0,rc,rb,m0,re⟩,rfl,aT.2 ⟨_,_,rfl,AK,jP⟩,Below.kp1 (cw.o.trans (cC.mono cw.o.size)) k6 (by omega)⟩
 |clear pp24d;have hlen:=hfit.args.len;have ej:=hfit.subs.len;have mw:=hfit.name;obtain ⟨eb,gt,GM,zZ⟩:=eH bL eo hfit.args hfit.subs;obtain ⟨k0,bX⟩:=am a.length;obtain ⟨m0,dW⟩:=am s.length;rw[<-bX]at hlen;rw[<-dW]at ej;obtain ⟨dA,gR⟩:=aW bX dW;clear hq bL eo hfit ih Fg tY IH s8 hfz hnz hz hT zu zA hqo qk;unfold FQ.val;rw[<-bX,<-dW];clear bX dW;obtain ⟨RS,Fd⟩:=am (eW (kk+1) nx z (.mk qo n a s));rw[<-Fd];have UD:=ac Fd;clear Fd;refine m4 Tryz.func101 ?_;simp only[Tryz.ntmps101,Nat.reduceAdd,Nat.reduceSub,lu];have iz:=fd;gi_wp2;obtain ⟨W1,bY⟩:=am ((((w.alloc (.cells #[.int .u8 qo,.string ⟨n.toArray⟩,.slice qa k0 qc,.slice qb m0 qe] 36)).alloc (.cells #[.bool zv,.string zn,.slice za zl zc] 43)).alloc (.cells #[.int .u8 0,.string ⟨#[]⟩,.slice none 0 0,.slice none 0 0] 36)).alloc (.cells #[.int .u8 qo,.string ⟨n.toArray⟩,.slice none 0 0,.slice none 0 0] 36));have iN:=Sc bY;have x0:=OD bY;have xu:=Ua bY;have x1:=Ub bY;have x2:=OE bY;rw[<-bY];clear bY;obtain ⟨ec,MC,HXU,jN⟩:=eH iN x0 xu x1;have wI:=ac (Fills.start (R:=w.heap.size+1+1+1) (mk:=fun rr=>#[.int .u8 qo,.string ⟨n.toArray⟩,rr,.slice none 0 0]) (Row:=fun r W=>RowT W1.heap.size r ((a.map (le nx z)).take 0) W) x2 (RowT.nil _ _));clear iN x0 x1 x2 xu;gi_loopw [23] (fun i Fe=>∃k1:Nat,k1<=k0/\i=.int .i64 k1/\∃row,Fills 36 (w.heap.size+1+1+1) W1.heap.size (fun rr=>#[.int .u8 qo,.string ⟨n.toArray⟩,rr,.slice none 0 0]) (fun r W=>RowT W1.heap.size r ((a.map (le nx z)).take k1) W) W1 Fe row) (fun i _=>k0 - (intOf i).toNat)
  case atStart=>exact ⟨0,aX _,rfl,_,wI.o⟩
  case round=>
   obtain ⟨k1,hk,rfl,row,hF⟩:=hrel;obtain ⟨Fe,Pk⟩:∃x,x=wr:=⟨_,rfl⟩;subst Pk;have ar:=hF.below ec.o ((by omega))
   by_cases hlt:k1<k0
   ·have dJ:=ce dA.o hlt;have pp61f:=();exact pm61
   ·obtain rfl:k1=k0:=by omega
    have cB:((a.map (le nx z)).take k1).length=k1:=by rw[dT];have:=dA.o;simp;omega
    have ki:(a.map (le nx z)).take k1=(a.map (le nx z)):=gU (by have:=dA.o;simp;omega);have pp125b:=();exact pm125
 |clear pp24e;have ej:=hfit.subs.len;have my:=hfit.1;have pN:=pg x (.mk qo n a s);have zd:fG x (.mk qo n a s)=eV x a+i9 x s:=rfl;have CT:=ac (fun (W:World) (hb:Below w.heap.size w W)=>sh x a ok W qa _ qc hfit.args (bL.later hb));have fR:=ac (fun t ht=>ih t ht (hfit.subs.mem ht));have gt:=ac eo;rw[zd]at pN ⊢;obtain ⟨k0,bX⟩:=am a.length;obtain ⟨m0,dW⟩:=am s.length;obtain ⟨A,hA⟩:=am (eV x a);have gR:=ac dW;unfold FQ.val;rw[<-bX,<-hA]at CT;rw[<-bX,<-dW,<-hA];rw[<-hA]at pN;rw[<-dW]at ej;clear hq bL eo hfit ih bX dW hA zd;have HB:=ac (show Below w.heap.size w (w.alloc (.cells #[.int .u8 qo,.string ⟨n.toArray⟩,.slice qa k0 qc,.slice qb m0 qe] 36)) from cO);have HX:=ac (show (w.alloc (.cells #[.int .u8 qo,.string ⟨n.toArray⟩,.slice qa k0 qc,.slice qb m0 qe] 36)).heap[w.heap.size]?=some (.cells #[.int .u8 qo,.string ⟨n.toArray⟩,.slice qa k0 qc,.slice qb m0 qe] 36 (0,0)) from ai rfl);go_enter Tryz.func97,Tryz.ntmps97;go_wp2_with (go_at_call 164;refine (CT.o _ HB.o).mono ?_;rintro e w1 ⟨rfl,hb1⟩;have p3:w1.cell? ⟨w.heap.size,3,none⟩=some (.slice qb m0 qe):=ah (bJ hb1 HX.o) 3;have ec:=ac (HB.o.trans (hb1.mono HB.o.size));clear hb1);go_loopw [5,15] (fun r i wr=>∃k:Nat,k<=m0/\i=.int .i64 k/\Below w.heap.size w wr/\r=.int .i64 ((A+i9 x (s.take k):Nat):Int)) (fun _ i _=>m0 - (intOf i).toNat)
  case atStart=>exact ⟨0,aX _,rfl,ec.o,by simp[i9]⟩
  case round=>
   obtain ⟨k,hk,rfl,ar,rfl⟩:=hrel
   by_cases hlt:k<m0
   ·have bg:=ce gR.o hlt;obtain ⟨b,off,u,rfl,_,hu,c0,c1,c2,c3⟩:=gt.o.get bg;have jb:=zj x bg;have hb1:=vj x (s.take (k+1));have bB:=cI s (k+1);have sd:nodesFs s<=nodesF (.mk qo n a s):=by unfold nodesF;omega
    have pp198:=();exact pm198
   ·obtain rfl:k=m0:=by omega
    have h1:s.take k=s:=by rw[gR.o];exact cY
    rw[h1];have cw:=ac ar;clear h1 ar;go_wp2;go_ret;exact ⟨rfl,cw.o⟩
 |clear pp24f;have hlen:=hfit.args.len;have ej:=hfit.subs.len;have mw:=hfit.name;have sY:n.length<=1000000000:=by omega
  have p_:=ac hok;have fR:=ac (fun t ht=>ih t ht (hfit.subs.mem ht));have PX:=ac hfit.args;have R6:=ac (fun t ht=>OQ t (hfit.args.mem ht));have sZ:1<=nodesF (.mk on n a s):=zT _;have qk:1<=depthF (.mk on n a s):=by unfold depthF;omega
  have my:nodesF (.mk on n a s)=nodesTs a+nodesFs s+1:=rfl;have Fh:aZ+(nodesTs a:Int)+(nodesFs s:Int)+1<=100000000:=by omega
  obtain ⟨k0,bX⟩:=am a.length;obtain ⟨m0,dW⟩:=am s.length;have hM:=Sr sc on n a s left br aZ;rw[<-bX,<-dW]at hM;obtain ⟨BX,Cw⟩:=am (okF sc (.mk on n a s) && (decide ((nodesF (.mk on n a s):Int)<=left) && decide (aZ+depthF (.mk on n a s)<=br+1)));rw[<-Cw]at hM ⊢;have HB:=ac (show Below w.heap.size w (w.alloc (.cells #[.int .u8 on,.string ⟨n.toArray⟩,.slice qa k0 qc,.slice qb m0 qe] 36)) from cO);have Ju:JAt J sc left br (w.alloc (.cells #[.int .u8 on,.string ⟨n.toArray⟩,.slice qa k0 qc,.slice qb m0 qe] 36)):=hJ.later HB.o;have zb7:J<w.heap.size:=(bz hJ);obtain ⟨eb,gt,HJ,HT⟩:=eH bL eo hJ ht;rw[<-bX]at hlen;rw[<-dW]at ej;clear hq bL eo hfit ih hok hJ ht;unfold FQ.val;rw[<-bX,<-dW];obtain ⟨dA,gR,HN⟩:=cH bX dW my;clear bX dW my
  by_cases ME:1<=left/\aZ<=br
  ·obtain ⟨OR,Ul⟩:=ME;have C1:=ac (GN J sc left br aZ _ Ju OR h1 Ul);have iO:Kp (fun c=>c=J) w ((w.alloc (.cells #[.int .u8 on,.string ⟨n.toArray⟩,.slice qa k0 qc,.slice qb m0 qe] 36)).setCell ⟨J,1,none⟩ (.int .i64 (left - 1))):=(Kp.below HB.o).trans (oP _);have xO:=Ju.set (left - 1);have hx:FBox w.heap.size on n (.slice qa k0 qc) (.slice qb m0 qe) ((w.alloc (.cells #[.int .u8 on,.string ⟨n.toArray⟩,.slice qa k0 qc,.slice qb m0 qe] 36)).setCell ⟨J,1,none⟩ (.int .i64 (left - 1))):=(dV _ _ _ _ (by show w.heap.size≠J;omega)).trans (ai rfl);have oR:=bF iO xO hx;obtain ⟨W2,a_⟩:=am ((w.alloc (.cells #[.int .u8 on,.string ⟨n.toArray⟩,.slice qa k0 qc,.slice qb m0 qe] 36)).setCell ⟨J,1,none⟩ (.int .i64 (left - 1)));rw[<-a_]at oR C1;clear iO xO hx Ju a_;have g0:=oR.o.2.2.c0;have g1:=oR.o.2.2.c1;have g2:=oR.o.2.2.c2;have g3:=oR.o.2.2.c3;have KK:Tabs W0 W2:=HT.o.kp oR.o.1 (fun b hb=>by subst hb;exact Tk)
   by_cases ho:on<17
   ·have OH:((on:Int)<17):=by omega
    have zaT:¬((17:Int)<=(on:Int)):=by omega
    obtain ⟨q0,q1,q2,q3,q4⟩:=KK.t0.rows on ho;obtain ⟨RW,hr3,hr4⟩:=Jw on;obtain ⟨⟨r0,r1,r2,r3,r4⟩,fh⟩:∃x,x=rowOp on:=⟨_,rfl⟩;rw[<-fh]at hM q0 q1 q2 q3 q4 RW hr3 hr4;simp only at hM q0 q1 q2 q3 q4 RW hr3 hr4;clear fh KK;have hX3:FBox w.heap.size on n (.slice qa k0 qc) (.slice qb m0 qe) (W2.alloc (.cells #[.bool r0,.bool r1,.int .u8 r2,.int .i64 r3,.int .i64 r4] 173)):=oR.o.2.2.later cO;have hR3:RBox W2.heap.size r0 r1 r2 r3 r4 (W2.alloc (.cells #[.bool r0,.bool r1,.int .u8 r2,.int .i64 r3,.int .i64 r4] 173)):=ai rfl;have hK3:Kp (fun c=>c=J) w (W2.alloc (.cells #[.bool r0,.bool r1,.int .u8 r2,.int .i64 r3,.int .i64 r4] 173)):=oR.o.1.trans (Kp.below cO);have hJ3:JAt J sc (left - 1) br (W2.alloc (.cells #[.bool r0,.bool r1,.int .u8 r2,.int .i64 r3,.int .i64 r4] 173)):=oR.o.2.1.later cO;obtain ⟨gO,rj,m7,ws⟩:=eH hX3 hR3 hK3 hJ3;clear hX3 hR3 hK3 hJ3;have y0:=gO.o.c0;have y1:=gO.o.c1;have y2:=gO.o.c2;have y3:=gO.o.c3;have yj:=ws.o.c0;have j0:=oR.o.2.1.c0;have hPn:¬w.heap.size=W2.heap.size:=by have:=(bz oR.o.2.2);omega
    have zeG:¬W2.heap.size=w.heap.size:=by omega
    have hJn:¬J=W2.heap.size:=by have:=(bz oR.o.2.1);omega
    have zeH:¬W2.heap.size=J:=by omega
    cases r0 with
    | true=>
     rw[Bool.true_or,du]at hM
     cases dD:qp r2 n with
     | false=>
      have CN:=ac (fun w=>dD ▸ rC r2 RW n sY w);have HE:Hd (BX=false):=ac (hM.trans (by simp[dD]));exact pm6
     | true=>
      have CN:=ac (fun w=>dD ▸ rC r2 RW n sY w)
      by_cases dJ:k0<=r3
      ·have Xv:¬((r3:Int)<(k0:Int)):=by omega
       by_cases Tl:m0=r4
       ·have Xw:((m0:Int) == (r4:Int))=true:=by simp;omega
        have pp162:=();exact pm162
       ·have Xw:((m0:Int) == (r4:Int))=false:=by simp;omega
        exact pm312
      ·have Xv:(r3:Int)<(k0:Int):=by omega
       have HE:Hd (BX=false):=ac (hM.trans (by simp[dJ]));exact pm6
    | false=>
     rw[Bool.false_or]at hM
     cases sc with
     | false=>
      have HE:Hd (BX=false):=ac (hM.trans (by simp));clear hM sZ qk Cw;have pp72b:=();exact pm72
     | true=>
      rw[du]at hM
      cases r1 with
      | false=>
       have HE:Hd (BX=false):=ac (hM.trans (by simp));clear hM sZ qk Cw;have pp72b:=();exact pm72
      | true=>
       rw[du]at hM
       cases dD:qp r2 n with
       | false=>
        have CN:=ac (fun w=>dD ▸ rC r2 RW n sY w);have HE:Hd (BX=false):=ac (hM.trans (by simp[dD]));exact pm6
       | true=>
        have CN:=ac (fun w=>dD ▸ rC r2 RW n sY w)
        by_cases dJ:k0<=r3
        ·have Xv:¬((r3:Int)<(k0:Int)):=by omega
         by_cases Tl:m0=r4
         ·have Xw:((m0:Int) == (r4:Int))=true:=by simp;omega
          exact pm162
         ·have Xw:((m0:Int) == (r4:Int))=false:=by simp;omega
          exact pm312
        ·have Xv:(r3:Int)<(k0:Int):=by omega
         have HE:Hd (BX=false):=ac (hM.trans (by simp[dJ]));exact pm6
   ·have OH:¬((on:Int)<17):=by omega
    have zaT:((17:Int)<=(on:Int)):=by omega
    rw[MH zaT]at hM;have HE:Hd (BX=false):=ac (hM.trans (by simp));clear hM sZ qk Cw KK;have pp72c:=();exact pm72
  ·have C1:=ac (Lv J sc left br aZ _ Ju h0 h1 ME);have HE:=ac (show BX=false by
    rw[Cw,Bool.and_eq_false_iff];right;rw[Bool.and_eq_false_iff]
    by_cases hl:1<=left
    ·right;have VI:¬aZ<=br:=fun h=>ME ⟨hl,h⟩;simp only[decide_eq_false_iff_not];omega
    ·left;simp only[decide_eq_false_iff_not];omega)
   clear Ju sZ qk ME hM Cw;have pp72d:=();exact pm72
 |have ej:=hfit.subs.len;have mw:=hfit.name;have zbG:=hfit.sz;have RB:R_ (.mk qo n a s)=1+n.length / 40+vW a+vX s:=rfl;obtain ⟨R,hR⟩:=am (jr a left 0);have hRb:=(mW a left 0).2.1;have CT:=fun (W:World) (hb:Below w.heap.size w W)=>Rz a ok W qa _ qc left hfit.args (bL.later hb) h0 h1;have fR:=ac (fun t ht=>ih t ht (hfit.subs.mem ht));have gt:=ac eo;obtain ⟨k0,bX⟩:=am a.length;obtain ⟨m0,dW⟩:=am s.length;obtain ⟨q,ip⟩:=am (n.length / 40);have gR:=ac dW;have YG:=il n;have htd:=Ry n.length;have hcF:Cd (.mk qo n a s) left=eN s left (1+q+R):=by unfold Cd;rw[ip,hR]
  unfold FQ.val;rw[<-bX,<-hR]at CT;rw[<-hR]at hRb;rw[<-bX,<-dW];rw[<-ip]at htd RB;rw[RB]at zbG;rw[<-dW]at ej;have yR:IntKind.i64.wrap ((q:Nat):Int)=q:=ik _ (by omega);have Oi:IntKind.i64.wrap (1+((q:Nat):Int))=1+(q:Int):=ik _ (by omega);have U0:IntKind.i64.wrap (1+(q:Int)+(R:Int))=((1+q+R:Nat):Int):=by rw[ik _ (by omega)];omega
  have hNb:1+q+R<=100002000000:=by omega
  obtain ⟨Gt,HC⟩:=aW hcF CT;clear hq bL eo hfit ih bX dW hR hRb ip hcF RB CT;have HX:=ac (show (w.alloc (.cells #[.int .u8 qo,.string ⟨n.toArray⟩,.slice qa k0 qc,.slice qb m0 qe] 36)).heap[w.heap.size]?=some (.cells #[.int .u8 qo,.string ⟨n.toArray⟩,.slice qa k0 qc,.slice qb m0 qe] 36 (0,0)) from ai rfl);obtain ⟨W1,bY⟩:=am (w.alloc (.cells #[.int .u8 qo,.string ⟨n.toArray⟩,.slice qa k0 qc,.slice qb m0 qe] 36));have HB:=ac (show Below w.heap.size w W1 by rw[bY];exact cO);rw[<-bY]at HX;have f0:∀ x:Later W1,x.w.cell? ⟨w.heap.size,1,none⟩=some (.string ⟨n.toArray⟩):=fun x=>x.get (ah HX.o 1);have f1:∀ x:Later W1,x.w.cell? ⟨w.heap.size,2,none⟩=some (.slice qa k0 qc):=fun x=>x.get (ah HX.o 2);have jj:=ac bY;go_enter Tryz.func23,Tryz.ntmps23;clear bY;go_wp2;rw[<-jj.o];refine aH (by kernel_rfl) (by kernel_rfl) ?_
  repeat (go_big_quiet_step ((go_at_call 54;exact bO (HC.o _ (HB.o.trans (Later.below _ |>.mono HB.o.size))))))
  refine wpQuiet_nil ?_;rintro _ ⟨x',rfl⟩;have e3:x'.w.cell? ⟨w.heap.size,3,none⟩=some (.slice qb m0 qe):=x'.get (ah HX.o 3);have ec:=ac (HB.o.trans (x'.below.mono HB.o.size));have jN:=ac (bJ x'.below HX.o);obtain ⟨W3,dB⟩:=am x'.w;rw[<-dB]at e3 ec jN ⊢;clear f0 f1 yR Oi U0 htd YG dB HX;go_wp2;go_loopw [5,6] (fun r i wr=>∃k m:Nat,k<=m0/\i=.int .i64 k/\r=.int .i64 m/\Below W3.heap.size W3 wr/\eN s left (1+q+R)=eN (s.drop k) left m/\m<=300000000000) (fun _ i _=>m0 - (intOf i).toNat)
  case atStart=>exact ⟨0,1+q+R,aX _,rfl,by go_num,aj _ _,by simp,by omega⟩
  case round=>
   obtain ⟨k,m,hk,rfl,rfl,ar,hcut,Cu⟩:=hrel;have e3':=aa ar e3;have cv:=ac (ec.o.trans (ar.mono ec.o.size))
   by_cases hlt:k<m0
   ·by_cases wn:(m:Int)<=left
    ·have bg:=ce gR.o hlt;obtain ⟨b,off,u,rfl,_,hu,c0,c1,c2,c3⟩:=gt.o.get bg;have Vy:s.drop k=s[k] :: s.drop (k+1):=gj bg;rw[Vy]at hcut;obtain ⟨d0,d1,d2,d3⟩:=mu cv.o c0 c1 c2 c3;obtain ⟨M,hM⟩:=am (Cd s[k] (left - m));have CC:=fR.o s[k] (aw bg) ok wr u (left - m) (hu.later cv.o) (by omega) (by omega);rw[<-hM]at CC;have Ce:eN s left (1+q+R)=eN (s.drop (k+1)) left (m+M):=by
      rw[hcut];simp only[eN,au wn];rw[hM]
     have Kl:m+M<=300000000000:=by
      have h5:=(kU s left (1+q+R)).2.1;have h6:=(kU (s.drop (k+1)) left (m+M)).1;omega
     exact pm107
    ·have Im:decide ((m:Int)<=left)=false:=by simp;omega
     have As:decide ((k:Int)<(m0:Int))=true:=by simp;omega
     have HE:=ac (hcut.trans (yF _ wn));clear hcut ar;go_wp2;go_ret;exact ⟨rB (by rw[Gt.o,HE.o]),cv.o⟩
   ·obtain rfl:k=m0:=by omega
    have hd:s.drop k=[]:=by rw[gR.o];exact List.drop_length
    rw[hd]at hcut;have HE:=ac (show eN s left (1+q+R)=m from hcut);clear hcut ar hd;go_wp2;go_ret;exact ⟨rB (by rw[Gt.o,HE.o]),cv.o⟩):G:=h
theorem pm25(h:G:=by
 have pp292:=();exact pm292):G:=h
theorem pm26(h:G:=by
 go_wp2;go_loopw [5] (fun i wr=>∃k:Nat,1<=k/\k<=s.size/\i=.int .i64 k/\lJ lx (s.data.toList.take k).tail=true/\∃n,wr=w.drewN n) (fun i _=>s.size - (intOf i).toNat)
 case atStart=>exact ⟨1,aD _,h1,rfl,by rw[List.take_one];cases s.data.toList <;> simp[lJ],⟨_,rfl⟩⟩
 case round=>
  obtain ⟨k,j9,hk,rfl,ha,hw⟩:=hrel;have hc3:wr.cell? ⟨b2,0,none⟩=some (.func (.func 189) #[] #[]):=by obtain ⟨n,rfl⟩:=hw;exact DT
  obtain ⟨HA,HW⟩:=aW ha hw;clear ha d1 d2 hw VL DT
  by_cases hlt:k<s.size
  ·cases hp:lx s[k].toNat
   ·have HP:=ac hp;have pp261:=();exact pm261
   ·have HP:=ac hp;exact pm261
  ·obtain rfl:k=s.size:=by omega
   exact pm280):G:=h
theorem pm27(h:G:=by
 go_simp;refine hK _ _ (fun _=>by rw[dp.o];exact cC.trans (((aj _ A).alloc (aD _) _).mono cC.size)) (fun _=>?_);clear hK K;obtain ⟨qs,eE,aA,gL⟩:=fw.o.row;rw[ek.o]at eE aA;have oN:=cC.size;have sX:=fw.o.size
 first
 |clear pp27a;refine bZ 7 rfl fun K hK=>?_
  refine bx (.tmp 52) (.tmp 57) 33 rfl W1.heap.size 43 p9 (.agg #[.bool false,.string ByteArray.empty,.slice none 0 0]) 3 48 Tryz.underlying33 hi zp wJ zY rfl (by decide) (.slice ra k rc) k _ rfl ((bi aA (fun b _ hlt=>cC.block b hlt)).alloc _) ⟨_,0,none⟩ 1 1 p.cells rfl rfl (dc (cs:=#[.bool p.v,.string p.n,.slice p.a p.l p.c]) (t:=43) (fr:=(0,0)) (fZ A _)) (by simp[TQ.cells,Value.oneCell']) (by decide) (by unfold maxLen;omega) (by omega) (by simp;omega) (A.heap.size+1) (by simp) ?_;intro g eF w4 aV aq hg eD;have h4:=fw.o.at4 (kk:=2) aA cC aq;have cR:=fw.o.stepT (F:=2) (t:=(cM kd.ts sc a[k])) (g:=g) (cap:=eF) (by rw[ek.o];exact aA) (by rw[ek.o];exact eE) gL cC (hp:TermV (W2.heap.size<=·) A p.val (cM kd.ts sc a[k])) (by rw[ek.o];exact aV) aq hg rfl;rw[ek.o,de (cM kd.ts sc) a dJ]at cR;have oO:=ac cR;have d3:=h4.2.2;have z3:=h4.2.1;clear aV aq hg eD cR h4 aA eE gL hp hA;refine eS hK ?_;clear hK K;refine bZ 8 rfl fun K hK=>?_;go_simp;refine eS hK ?_;clear hK K;refine bZ 9 rfl fun K hK=>?_;go_simp;refine eS hK ?_;clear hK K;refine kV ?_;gi_wp2;go_roundw
  case rel=>exact ⟨k+1,by omega,by go_num,_,oO.o⟩
  case measure=>simp[intOf];omega
 |clear pp27b;refine bZ 7 rfl fun K hK=>?_
  refine bx (.tmp 71) (.tmp 76) 33 rfl W1.heap.size 43 p9 (.agg #[.bool false,.string ByteArray.empty,.slice none 0 0]) 3 48 Tryz.underlying33 hi zp wJ zY rfl (by decide) (.slice ra k1 rc) k1 _ rfl ((bi aA (fun b _ hlt=>cC.block b hlt)).alloc _) ⟨_,0,none⟩ 1 1 p.cells rfl rfl (dc (cs:=#[.bool p.v,.string p.n,.slice p.a p.l p.c]) (t:=43) (fr:=(0,0)) (fZ A _)) (by simp[TQ.cells,Value.oneCell']) (by decide) (by unfold maxLen;omega) (by omega) (by simp;omega) (A.heap.size+1) (by simp) ?_;intro g eF w4 aV aq hg eD;have h4:=fw.o.at4 (kk:=2) aA cC aq;have cR:=fw.o.stepT (F:=2) (t:=(cM kd.ts c a[k1])) (g:=g) (cap:=eF) (by rw[ek.o];exact aA) (by rw[ek.o];exact eE) gL cC (hp:TermV (W2.heap.size<=·) A p.val (cM kd.ts c a[k1])) (by rw[ek.o];exact aV) aq hg rfl;rw[ek.o,de (cM kd.ts c) a dJ]at cR;have oO:=ac cR;have d3:=h4.2.2;have z3:=h4.2.1;clear aV aq hg eD cR h4 aA eE gL hp hA;refine eS hK ?_;clear hK K;refine bZ 8 rfl fun K hK=>?_;go_simp;refine eS hK ?_;clear hK K;refine bZ 9 rfl fun K hK=>?_;go_simp;refine eS hK ?_;clear hK K;refine kV ?_;gi_wp2;go_roundw
  case rel=>exact ⟨k1+1,by omega,by go_num,_,oO.o⟩
  case measure=>simp[intOf];omega
 |clear pp27c;refine bZ 7 rfl fun K hK=>?_
  refine bx (.tmp 126) (.tmp 131) 34 rfl hZ.heap.size 36 Lu (.agg #[.int .u8 0,.string ByteArray.empty,.slice none 0 0,.slice none 0 0]) 4 72 Tryz.underlying34 hj me CX Uj rfl (by decide) (.slice ra k rc) k _ rfl ((bi aA (fun b _ hlt=>cC.block b hlt)).alloc _) ⟨_,0,none⟩ 1 1 p.cells rfl rfl (dc (cs:=#[.int .u8 p.o,.string p.n,.slice p.a p.l p.c,.slice p.b p.m p.e]) (t:=36) (fr:=(0,0)) (fZ A _)) (by simp[FQ.cells,Value.oneCell']) (by decide) (by unfold maxLen;omega) (by omega) (by simp;omega) (A.heap.size+1) (by simp) ?_;intro g eF w4 aV aq hg eD;have h4:=fw.o.at4 (kk:=3) aA cC aq;have cR:=fw.o.stepF (F:=3) (t:=(bV kd c ss[k])) (g:=g) (cap:=eF) (by rw[ek.o];exact aA) (by rw[ek.o];exact eE) gL cC (hp:FormV (W2.heap.size<=·) A p.val (bV kd c ss[k])) (by rw[ek.o];exact aV) aq hg rfl;rw[ek.o,de (bV kd c) ss dJ]at cR;have oO:=ac cR;have d3:=h4.2.2;have z3:=h4.2.1;clear aV aq hg eD cR h4 aA eE gL hp hA;refine eS hK ?_;clear hK K;refine bZ 8 rfl fun K hK=>?_;go_simp;refine eS hK ?_;clear hK K;refine bZ 9 rfl fun K hK=>?_;go_simp;refine eS hK ?_;clear hK K;refine kV ?_;gi_wp2;go_roundw
  case rel=>exact ⟨k+1,by omega,by go_num,_,oO.o⟩
  case measure=>simp[intOf];omega
 |clear pp27d;refine bZ 6 rfl fun K hK=>?_
  refine bx (.tmp 35) (.tmp 39) 33 rfl W1.heap.size 43 p9 (.agg #[.bool false,.string ByteArray.empty,.slice none 0 0]) 3 48 Tryz.underlying33 hi zp wJ zY rfl (by decide) (.slice ra k rc) k _ rfl ((bi aA (fun b _ hlt=>cC.block b hlt)).alloc _) ⟨_,0,none⟩ 1 1 p.cells rfl rfl (dc (cs:=#[.bool p.v,.string p.n,.slice p.a p.l p.c]) (t:=43) (fr:=(0,0)) (fZ A _)) (by simp[TQ.cells,Value.oneCell']) (by decide) (by unfold maxLen;omega) (by omega) (by simp;omega) (A.heap.size+1) (by simp) ?_;intro g eF w4 aV aq hg eD;have h4:=fw.o.at4 (kk:=2) aA cC aq;have cR:=fw.o.stepT (F:=2) (t:=(gp f a[k])) (g:=g) (cap:=eF) (by rw[ek.o];exact aA) (by rw[ek.o];exact eE) gL cC (hp:TermV (W2.heap.size<=·) A p.val (gp f a[k])) (by rw[ek.o];exact aV) aq hg rfl;rw[ek.o,de (gp f) a dJ]at cR;have oO:=ac cR;have d3:=h4.2.2;have z3:=h4.2.1;clear aV aq hg eD cR h4 aA eE gL hp hA;refine eS hK ?_;clear hK K;refine bZ 7 rfl fun K hK=>?_;go_simp;refine eS hK ?_;clear hK K;refine bZ 8 rfl fun K hK=>?_;go_simp;refine eS hK ?_;clear hK K;refine kV ?_;gi_wp2;go_roundw
  case rel=>exact ⟨k+1,by omega,by go_num,_,oO.o⟩
  case measure=>simp[intOf];omega
 |clear pp27e;refine bZ 5 rfl fun K hK=>?_
  refine bx (.tmp 21) (.tmp 24) 33 rfl W1.heap.size 43 p9 (.agg #[.bool false,.string ByteArray.empty,.slice none 0 0]) 3 48 Tryz.underlying33 hi zp wJ zY rfl (by decide) (.slice gh k1 gi) k1 _ rfl ((bi aA (fun b _ hlt=>cC.block b hlt)).alloc _) ⟨_,0,none⟩ 1 1 p.cells rfl rfl (dc (cs:=#[.bool p.v,.string p.n,.slice p.a p.l p.c]) (t:=43) (fr:=(0,0)) (fZ A _)) (by simp[TQ.cells,Value.oneCell']) (by decide) (by unfold maxLen;omega) (by omega) (by simp;omega) (A.heap.size+1) (by simp) ?_;intro g eF w4 aV aq hg eD;have h4:=fw.o.at4 (kk:=2) aA cC aq;have cR:=fw.o.stepT (F:=2) (t:=(aN a[k1])) (g:=g) (cap:=eF) (by rw[ek.o];exact aA) (by rw[ek.o];exact eE) gL cC (hp:TermV (W2.heap.size<=·) A p.val (aN a[k1])) (by rw[ek.o];exact aV) aq hg rfl;rw[ek.o,de aN a dJ]at cR;have oO:=ac cR;have d3:=h4.2.2;have z3:=h4.2.1;clear aV aq hg eD cR h4 aA eE gL hp hA;refine eS hK ?_;clear hK K;refine bZ 6 rfl fun K hK=>?_;go_simp;refine eS hK ?_;clear hK K;refine bZ 7 rfl fun K hK=>?_;go_simp;refine eS hK ?_;clear hK K;refine kV ?_;gi_wp2;go_roundw
  case rel=>exact ⟨k1+1,by omega,by go_num,_,oO.o⟩
  case measure=>simp[intOf];omega
 |clear pp27f;refine bZ 5 rfl fun K hK=>?_
  refine bx (.tmp 36) (.tmp 39) 34 rfl hZ.heap.size 36 Lu (.agg #[.int .u8 0,.string ByteArray.empty,.slice none 0 0,.slice none 0 0]) 4 72 Tryz.underlying34 hj me CX Uj rfl (by decide) (.slice ra k rc) k _ rfl ((bi aA (fun b _ hlt=>cC.block b hlt)).alloc _) ⟨_,0,none⟩ 1 1 p.cells rfl rfl (dc (cs:=#[.int .u8 p.o,.string p.n,.slice p.a p.l p.c,.slice p.b p.m p.e]) (t:=36) (fr:=(0,0)) (fZ A _)) (by simp[FQ.cells,Value.oneCell']) (by decide) (by unfold maxLen;omega) (by omega) (by simp;omega) (A.heap.size+1) (by simp) ?_;intro g eF w4 aV aq hg eD;have h4:=fw.o.at4 (kk:=3) aA cC aq;have cR:=fw.o.stepF (F:=3) (t:=(bA s[k])) (g:=g) (cap:=eF) (by rw[ek.o];exact aA) (by rw[ek.o];exact eE) gL cC (hp:FormV (W2.heap.size<=·) A p.val (bA s[k])) (by rw[ek.o];exact aV) aq hg rfl;rw[ek.o,de bA s dJ]at cR;have oO:=ac cR;have d3:=h4.2.2;have z3:=h4.2.1;clear aV aq hg eD cR h4 aA eE gL hp hA;refine eS hK ?_;clear hK K;refine bZ 6 rfl fun K hK=>?_;go_simp;refine eS hK ?_;clear hK K;refine bZ 7 rfl fun K hK=>?_;go_simp;refine eS hK ?_;clear hK K;refine kV ?_;gi_wp2;go_roundw
  case rel=>exact ⟨k+1,by omega,by go_num,_,oO.o⟩
  case measure=>simp[intOf];omega
 |clear pp27g;refine bZ 9 rfl fun K hK=>?_
  refine bx (.tmp 28) (.tmp 35) 33 rfl W1.heap.size 43 p9 (.agg #[.bool false,.string ByteArray.empty,.slice none 0 0]) 3 48 Tryz.underlying33 hi zp wJ zY rfl (by decide) (.slice gh k1 gi) k1 _ rfl ((bi aA (fun b _ hlt=>cC.block b hlt)).alloc _) ⟨_,0,none⟩ 1 1 p.cells rfl rfl (dc (cs:=#[.bool p.v,.string p.n,.slice p.a p.l p.c]) (t:=43) (fr:=(0,0)) (fZ A _)) (by simp[TQ.cells,Value.oneCell']) (by decide) (by unfold maxLen;omega) (by omega) (by simp;omega) (A.heap.size+1) (by simp) ?_;intro g eF w4 aV aq hg eD;have h4:=fw.o.at4 (kk:=2) aA cC aq;have cR:=fw.o.stepT (F:=2) (t:=(le nx z a[k1])) (g:=g) (cap:=eF) (by rw[ek.o];exact aA) (by rw[ek.o];exact eE) gL cC (hp:TermV (W2.heap.size<=·) A p.val (le nx z a[k1])) (by rw[ek.o];exact aV) aq hg rfl;rw[ek.o,de (le nx z) a dJ]at cR;have oO:=ac cR;have d3:=h4.2.2;have z3:=h4.2.1;clear aV aq hg eD cR h4 aA eE gL hp hA;refine eS hK ?_;clear hK K;refine bZ 10 rfl fun K hK=>?_;go_simp;refine eS hK ?_;clear hK K;refine bZ 11 rfl fun K hK=>?_;go_simp;refine eS hK ?_;clear hK K;refine kV ?_;gi_wp2;go_roundw
  case rel=>exact ⟨k1+1,by omega,by go_num,_,oO.o⟩
  case measure=>simp[intOf];omega
 |refine bZ 7 rfl fun K hK=>?_
  refine bx (.tmp 95) (.tmp 100) 34 rfl hZ.heap.size 36 Lu (.agg #[.int .u8 0,.string ByteArray.empty,.slice none 0 0,.slice none 0 0]) 4 72 Tryz.underlying34 hj me CX Uj rfl (by decide) (.slice ra k rc) k _ rfl ((bi aA (fun b _ hlt=>cC.block b hlt)).alloc _) ⟨_,0,none⟩ 1 1 p.cells rfl rfl (dc (cs:=#[.int .u8 p.o,.string p.n,.slice p.a p.l p.c,.slice p.b p.m p.e]) (t:=36) (fr:=(0,0)) (fZ A _)) (by simp[FQ.cells,Value.oneCell']) (by decide) (by unfold maxLen;omega) (by omega) (by simp;omega) (A.heap.size+1) (by simp) ?_;intro g eF w4 aV aq hg eD;have h4:=fw.o.at4 (kk:=3) aA cC aq;have cR:=fw.o.stepF (F:=3) (t:=(eW kk nx z s[k])) (g:=g) (cap:=eF) (by rw[ek.o];exact aA) (by rw[ek.o];exact eE) gL cC (hp:FormV (W2.heap.size<=·) A p.val (eW kk nx z s[k])) (by rw[ek.o];exact aV) aq hg rfl;rw[ek.o,de (eW kk nx z) s dJ]at cR;have oO:=ac cR;have d3:=h4.2.2;have z3:=h4.2.1;clear aV aq hg eD cR h4 aA eE gL hp hA;refine eS hK ?_;clear hK K;refine bZ 8 rfl fun K hK=>?_;go_simp;refine eS hK ?_;clear hK K;refine bZ 9 rfl fun K hK=>?_;go_simp;refine eS hK ?_;clear hK K;refine kV ?_;gi_wp2;go_roundw
  case rel=>exact ⟨k+1,by omega,by go_num,_,oO.o⟩
  case measure=>simp[intOf];omega):G:=h
theorem pm28(h:G:=by
 obtain ⟨b,off,u,rfl,ja,hu,c0,c1,c2⟩:=gt.o.get bg;have pp300a:=();exact pm300):G:=h
theorem pm29(h:G:=by
 exact pm210):G:=h
theorem pm30(h:G:=by
 have HE:Hd (BX=false):=ac (hM.trans (by simp));clear hM sZ qk Cw cQ;have pp72f:=();exact pm72):G:=h
theorem pm31(h:G:=by
 have c0:wr.cell? ⟨w.heap.size+1+1+1,0,none⟩=some (.int .u8 qo):=ah x2 0;have c1:wr.cell? ⟨w.heap.size+1+1+1,1,none⟩=some (.string ⟨n.toArray⟩):=ah x2 1;have c2:wr.cell? ⟨w.heap.size+1+1+1,2,none⟩=some (.slice gh k1 gi):=ah x2 2;have c3:wr.cell? ⟨w.heap.size+1+1+1,3,none⟩=some (.slice ra k rc):=ah x2 3;obtain ⟨e0,e1,e2,e3,z0,z1,z2,z3⟩:=dy x1;have Gp:=aG x1 ar;clear hF x1 x2 xp AC ki ar;go_wp2;obtain ⟨W6,dm,x6,k6,g0,g1,g2,g3⟩:=AG Gp.o.1 (.int .u8 qo) (.string ⟨n.toArray⟩) (.slice gh k1 gi) (.slice ra k rc);rw[<-dm];have hr6:=tk.o.kp1 k6 (by have:=ec.o.2;have:=Pn.o.2;omega);have ha6:=HRA.o.kp1 k6 (by have:=ec.o.2;omega);have h6:FormV (w.heap.size<=·) W6 (FQ.val ⟨qo,⟨n.toArray⟩,gh,k1,gi,ra,k,rc⟩) (.mk qo n Sx us):=RowF.form ha6 hr6 (by have:=ec.o.2;omega) (by have:=ec.o.2;have:=Pn.o.2;omega);refine bI (v:=.tuple #[FQ.val ⟨qo,⟨n.toArray⟩,gh,k1,gi,ra,k,rc⟩,.bool true]) (by simp[FQ.val,results,Tryz.results91,go_sem,g0,g1,g2,g3]) rfl ⟨⟨⟨qo,⟨n.toArray⟩,gh,k1,gi,ra,k,rc⟩,by rw[HE.o];rfl,fun u hu=>by rw[HE.o]at hu;cases hu;exact h6⟩,Below.kp1 Gp.o.2 k6 (by omega)⟩):G:=h
theorem pm32(h:G:=by
 exact pm132):G:=h
theorem pm33(h:G:=by
 rw[<-kZ]at hp;rw[<-bX,<-dW,<-kZ];obtain ⟨dA,gR,yV,MU,Pf,HP,fR,HF⟩:=Sb bX dW kZ e_ yX hp ih xZ;clear hR bX dW kZ e_ yX hp ih hf xZ hq ip;have bB:Below w.heap.size w ((w.alloc (.cells #[.bool uv,.string ⟨xn.toArray⟩,.slice ua k0 uc] 43)).alloc (.cells #[.bool vv,.string ⟨yn.toArray⟩,.slice va m0 vc] 43)):=cO.alloc (by simp) _;obtain ⟨W2,a_⟩:=am ((w.alloc (.cells #[.bool uv,.string ⟨xn.toArray⟩,.slice ua k0 uc] 43)).alloc (.cells #[.bool vv,.string ⟨yn.toArray⟩,.slice va m0 vc] 43));rw[<-a_]at bB;have HX:Hd (W2.heap[w.heap.size]?=some (.cells #[.bool uv,.string ⟨xn.toArray⟩,.slice ua k0 uc] 43 (0,0))):=ac (by rw[a_];exact (bE _ _ _ (by simp)).trans (ai rfl));have HY:Hd (W2.heap[w.heap.size+1]?=some (.cells #[.bool vv,.string ⟨yn.toArray⟩,.slice va m0 vc] 43 (0,0))):=ac (by rw[a_];exact ai (by simp));have iy:w.heap.size+2=W2.heap.size:=by rw[a_];simp
 obtain ⟨cw,fp⟩:=aW bB a_;clear bB a_;unfold TQ.val
 by_cases C5:uv=vv/\k0=m0
 first
 |clear pp33
  ·obtain ⟨rfl,rfl⟩:=C5;simp at hm;have HM:=ac hm;clear hm;have e1:((k0:Int) != (k0:Int))=false:=by simp
   go_enter Tryz.func160,Tryz.ntmps160;cases uv
   ·have qO:Hd (R=(xn == yn && bM ps.reverse xa ya)):=ac (by rw[HM.o];simp)
    by_cases dD:xn=yn
    ·subst dD;have pp141a:=();exact pm141
    ·have gY:(xn == yn)=false:=by simpa using dD
     exact pm173
   ·go_wp2;rw[<-fp.o];go_loopw [7] (fun i wr=>∃j:Nat,j<=p0/\i=.int .i64 ((j:Int) - 1)/\Below W2.heap.size W2 wr/\lL ps.reverse xn yn=lL (ps.take j).reverse xn yn) (fun i _=>(intOf i+1).toNat)
    case atStart=>exact ⟨p0,aD _,by go_num,aj _ _,by rw[yV.o,cY]⟩
    case round=>
     obtain ⟨j,hj,rfl,dt,ht⟩:=hrel
     cases j with
     | zero=>
      have qO:Hd (R=(xn == yn && bM ps.reverse xa ya)):=ac (by rw[HM.o,ht,List.take_zero];simp[D8]);obtain ⟨hZ,wK⟩:=am wr;subst wK;have Y1:=ac dt;have zcj:((0:Nat):Int) - 1=-1:=rfl;have x1:hZ.cell? ⟨w.heap.size,1,none⟩=some (.string ⟨xn.toArray⟩):=aa dt (ah HX.o 1);have x2:hZ.cell? ⟨w.heap.size,2,none⟩=some (.slice ua k0 uc):=aa dt (ah HX.o 2);have y1:hZ.cell? ⟨w.heap.size+1,1,none⟩=some (.string ⟨yn.toArray⟩):=aa dt (ah HY.o 1);clear dt ht
      by_cases dD:xn=yn
      ·subst dD;have pp141b:=();exact pm141
      ·have gY:(xn == yn)=false:=by simpa using dD
       have jP:(!(xn == yn))=true:=by simpa using dD
       have HE:=ac (show R=false by rw[qO.o];simp[gY]);go_wp2;go_ret;exact ⟨az HE.o.symm,cw.o.trans (Y1.o.mono (by have:=cw.o.size;omega))⟩
     | succ j=>
      have pp145:=();exact pm145
  ·have D_:R=false:=by rw[hm];rcases Decidable.not_and_iff_or_not.1 C5 with h | h <;> simp[h]
   have HE:=ac D_;clear hm D_;go_enter Tryz.func160,Tryz.ntmps160;exact pm106
 |·obtain ⟨rfl,rfl⟩:=C5;simp at hm;have HM:=ac hm;clear hm;have e1:((k0:Int) != (k0:Int))=false:=by simp
   go_enter Tryz.func147,Tryz.ntmps147;cases uv
   ·have qO:Hd (R=(xn == yn && bM ps.reverse xa ya)):=ac (by rw[HM.o];simp)
    by_cases dD:xn=yn
    ·subst dD;exact pm141
    ·have gY:(xn == yn)=false:=by simpa using dD
     exact pm173
   ·have zbF:xa=[]:=by simpa using zdS
    have HMn:Hd (R=(match lL ps.reverse xn yn with | some b=>b | none=>xn == yn)):=ac (by rw[HM.o,zbF];cases lL ps.reverse xn yn <;> simp[bM]);clear HM zbF;have HM:=HMn;clear HMn;go_wp2;rw[<-fp.o];go_loopw [9] (fun i wr=>∃j:Nat,j<=p0/\i=.int .i64 ((j:Int) - 1)/\Below W2.heap.size W2 wr/\lL ps.reverse xn yn=lL (ps.take j).reverse xn yn) (fun i _=>(intOf i+1).toNat)
    case atStart=>exact ⟨p0,aD _,by go_num,aj _ _,by rw[yV.o,cY]⟩
    case round=>
     obtain ⟨j,hj,rfl,dt,ht⟩:=hrel
     cases j with
     | zero=>
      have HE:Hd (R=(xn == yn)):=ac (by rw[HM.o,ht,List.take_zero];simp[D8]);have cv:=ac (cw.o.trans (dt.mono cw.o.size));have zcj:((0:Nat):Int) - 1=-1:=rfl;have x1:wr.cell? ⟨w.heap.size,1,none⟩=some (.string ⟨xn.toArray⟩):=aa dt (ah HX.o 1);have y1:wr.cell? ⟨w.heap.size+1,1,none⟩=some (.string ⟨yn.toArray⟩):=aa dt (ah HY.o 1);clear dt ht;go_wp2;go_ret;exact ⟨az HE.o.symm,cv.o⟩
     | succ j=>
      exact pm145
  ·have D_:R=false:=by rw[hm];rcases Decidable.not_and_iff_or_not.1 C5 with h | h <;> simp[h]
   have HE:=ac D_;clear hm D_;go_enter Tryz.func147,Tryz.ntmps147;exact pm106):G:=h
theorem pm34(h:G:=by
 obtain ⟨e0,e1,e2,e3,z0,z1,z2,z3⟩:=dy Ti;obtain ⟨s0,s1,s2,_,_,_⟩:=gN Xs;have CP:=uS W0 f di t zk.o.1.fit (by have:=zk.o.1.nodes;omega) zk.o.1.wf zk.o.1.qone (by have:=HF.o.2.2.2.1;omega) mZ.o.2.2.1.fit (by have:=mZ.o.2.2.1.2;omega) _ _ W9 ⟨Fw,Fx,Fy,Fz,FA,FB,FC,FD⟩ ⟨Qe,Qf,Qg,Qh,Qi⟩ (NH.o.kp (BA.two HG.o.1 HG.o.2.1) HG.o.2.2.2.1) (mZ.o.2.2.2.2.1.later l7) (mZ.o.2.2.2.2.2.2.later l7);simp only[FQ.val,TQ.val]at CP;have J5:=ac CP;have H9:=cG l7 BA Ti Xr;obtain ⟨bb,cQ⟩:=am (cP [] (fH di t f) im);rw[<-cQ]at KI;obtain ⟨Qm,LI⟩:=aW KI cQ;clear l7 BA Ti Xr Xs CP KI cQ;go_upto_region 21 with (go_at_call 101;refine J5.o.mono ?_;rintro e w10 ⟨⟨⟨r0,r1,r2,r3,r4,r5,r6,r7⟩,rfl,hr⟩,tI⟩;have Fl:=bJ tI H9.o.2.2.1;obtain ⟨y0,y1,y2,y3,v0,v1,v2,v3⟩:=dy Fl;have lO:=bF hr tI Fl;clear hr tI Fl);clear e0 e1 e2 e3 z0 z1 z2 z3 s0 s1 s2 y0 y1 y2 y3 v0 v1 v2 v3;obtain ⟨nN,rh,Tj,FU,y0,y1,y2,y3⟩:=AG lO.o.2.2 (.int .u8 r0) (.string r1) (.slice r2 r3 r4) (.slice r5 r6 r7);rw[<-rh]
 first
 |clear pp34;have Xt:=(bz H9.o.2.2.1);have BB:Below Du.heap.size Du w10:=H9.o.1.tr lO.o.2.1;have QF:=(FU.same _ (by have:=(bz H9.o.2.2.2);have:=lO.o.2.1.size;omega) (by have:=HT7.o;omega)).trans (bJ lO.o.2.1 H9.o.2.2.2);obtain ⟨j0,j1,j2,j3,_,_,_,_⟩:=dy QF;have hrv:FormV (fun b=>W9.heap.size<=b) nN (FQ.val ⟨r0,r1,r2,r3,r4,r5,r6,r7⟩) (fH di t f):=lO.o.1.move (fun b hb hlt=>⟨hb,FU.same b hlt (by omega)⟩);have hiv:FormV (fun b=>¬M b/\b≠W1.heap.size) nN (FQ.val ⟨p0,p1,p2,p3,p4,p5,p6,p7⟩) im:=(mZ.o.2.2.2.2.2.1.later BB).move (fun b hb hlt=>⟨hb,FU.same b hlt hb.2⟩);have BC:=mZ.o.2.2.2.1.later BB;have vq:KnV (fun b=>¬M b) goodF goodT nN kb mF mT nF (nT+1) (⟨k.fs,fS y t k.ts⟩):=BC.move (fun b hb hlt=>⟨hb.1,FU.same b hlt hb.2⟩) (FU.same _ BC.ltb (by have:=yN.o.1;omega)) (FU.same _ BC.fs.lt (by have:=yN.o.2.1;omega)) (FU.same _ BC.ts.lt (by have:=yN.o.2.2.1;omega));have CA:=vd (fH di t f) im [] (.slice none 0 0) _ _ nN ⟨r0,r1,r2,r3,r4,r5,r6,r7⟩ ⟨p0,p1,p2,p3,p4,p5,p6,p7⟩ (by have:=(uZ (x:=di) zk.o.1 mZ.o.2.2.1).1;simp[eq];omega) (uZ zk.o.1 mZ.o.2.2.1) hrv hiv (PairsV.nil nN);simp only[FQ.val,List.reverse_nil,<-LI.o]at CA;have FE:=ac CA;have KJ:=aG (KD (H9.o.2.1.trans (Kp.below lO.o.2.1)) FU (by have:=yN.o.2.2.2.2;omega)) vq;clear Xt BB QF hrv hiv BC vq CA Tj FU rh;cases bb
  ·go_wp2_with (go_at_call 92;refine FE.o.mono ?_;rintro e w12 ⟨rfl,pY⟩;have Ou:=ac pY;clear pY);go_ret;exact StepPost.bad Qm.o (by decide) (KJ.o.1.trans (Kp.below Ou.o))
  ·go_wp2_with (go_at_call 92;refine FE.o.mono ?_;rintro e w12 ⟨rfl,pY⟩;have Ou:=ac pY;clear pY);go_ret;exact StepPost.good nF (nT+1) Qm.o (KJ.o.1.trans (Kp.below Ou.o)) (by omega) (by omega) (KJ.o.2.later Ou.o)
 |have Xt:=(bz H9.o.2.2.1);have BB:Below W8.heap.size W8 w10:=H9.o.1.tr lO.o.2.1;have QF:=(FU.same _ (by have:=(bz H9.o.2.2.2);have:=lO.o.2.1.size;omega) (by have:=HT7.o;omega)).trans (bJ lO.o.2.1 H9.o.2.2.2);obtain ⟨j0,j1,j2,j3,_,_,_,_⟩:=dy QF;have hrv:FormV (fun b=>W9.heap.size<=b) nN (FQ.val ⟨r0,r1,r2,r3,r4,r5,r6,r7⟩) (fH di t f):=lO.o.1.move (fun b hb hlt=>⟨hb,FU.same b hlt (by omega)⟩);have hiv:FormV (fun b=>¬M b/\b≠W1.heap.size) nN (FQ.val ⟨p0,p1,p2,p3,p4,p5,p6,p7⟩) im:=(mZ.o.2.2.2.2.2.1.later BB).move (fun b hb hlt=>⟨hb,FU.same b hlt hb.2⟩);have BC:=mZ.o.2.2.2.1.later BB;have vq:KnV (fun b=>¬M b) goodF goodT nN kb mF mT nF (nT) ({ k with ts:=k.ts }):=BC.move (fun b hb hlt=>⟨hb.1,FU.same b hlt hb.2⟩) (FU.same _ BC.ltb (by have:=yN.o.1;omega)) (FU.same _ BC.fs.lt (by have:=yN.o.2.1;omega)) (FU.same _ BC.ts.lt (by have:=yN.o.2.2.1;omega));have CA:=vd (fH di t f) im [] (.slice none 0 0) _ _ nN ⟨r0,r1,r2,r3,r4,r5,r6,r7⟩ ⟨p0,p1,p2,p3,p4,p5,p6,p7⟩ (by have:=(uZ (x:=di) zk.o.1 mZ.o.2.2.1).1;simp[eq];omega) (uZ zk.o.1 mZ.o.2.2.1) hrv hiv (PairsV.nil nN);simp only[FQ.val,List.reverse_nil,<-LI.o]at CA;have FE:=ac CA;have KJ:=aG (KD (H9.o.2.1.trans (Kp.below lO.o.2.1)) FU (by have:=yN.o.2.2.2.2;omega)) vq;clear Xt BB QF hrv hiv BC vq CA Tj FU rh;cases bb
  ·go_wp2_with (go_at_call 92;refine FE.o.mono ?_;rintro e w12 ⟨rfl,pY⟩;have Ou:=ac pY;clear pY);go_ret;exact StepPost.bad Qm.o (by decide) (KJ.o.1.trans (Kp.below Ou.o))
  ·go_wp2_with (go_at_call 92;refine FE.o.mono ?_;rintro e w12 ⟨rfl,pY⟩;have Ou:=ac pY;clear pY);go_ret;exact StepPost.good nF (nT) Qm.o (KJ.o.1.trans (Kp.below Ou.o)) (by omega) (by omega) (KJ.o.2.later Ou.o)):G:=h
theorem pm35(h:G:=by
 simp only[FQ.val,cF,Array.mk.injEq,b_,and_true,Value.int.injEq,true_and,Value.string.injEq]at h1;obtain ⟨rfl,rfl,rfl,rfl⟩:=h1
 first
 |clear pp35a;obtain rfl:=Au.len;obtain ⟨W2,a_⟩:=am (w.alloc (.cells #[.int .u8 uo,.string ⟨xn.toArray⟩,.slice ua ul uc,.slice ub xs.length ue] 36));have bB:=cV a_;have hX:=bU a_;have C1:=LG xa (fun t _=>(O' t)) x ok W2 ua ul uc hf.args (e_.later bB);have ej:=hf.subs.len;have Ct:=hf.subs;have zab:=fun r=>uK (x:=x) (.mk uo xn xa xs) r;have su:=hf.1;obtain ⟨R,hR⟩:=am (lI x (.mk uo xn xa xs));have qN:=hR;rw[lI]at qN;rw[<-hR]at zab ⊢;obtain ⟨S,hS⟩:=am (eK x xa 0);rw[<-hS]at C1 qN;have zac:∀ p,S=some p->p≠[]/\p.length<=2000000:=fun p hp=>by
   rw[hS]at hp;exact ⟨wR hp,aU (mI xa 0 p hp) hf.args.1⟩
  obtain ⟨k0,bX⟩:=am xs.length;rw[<-bX]at ej hX Au;rw[<-bX]at a_;rw[<-bX];obtain ⟨dA,Pa,fR,HF,HX,cw,fp,HC,HR,HSo⟩:=Lg bX Au ih Ct hX bB a_ C1 qN zac;clear bX Au ih Ct hX bB a_ C1 qN zac hR hS hq e_ hf zab;unfold FQ.val;go_enter Tryz.func165,Tryz.ntmps165
  cases S with
  | some p=>
   obtain ⟨C7,C8⟩:=HSo.o p rfl;obtain ⟨p0,kZ⟩:=am p.length;have om:0<p0:=by rw[kZ];exact iZ.2 C7
   have O9:(0:Int)<(p0:Int):=by omega
   have yV:=ac kZ;clear kZ C7 C8 HSo;go_wp2_with (rw[<-fp.o];go_at_call 229;refine HC.o.mono ?_;rintro e w2 ⟨⟨v2,rfl,jy⟩,bB⟩;obtain ⟨a2,c2,rfl⟩:=jy.slice;simp only[Option.getD]at jy ⊢;have He:=ac jy;have bD:=ac (cw.o.trans (bB.mono cw.o.size));rw[<-yV.o];clear bB jy);have HE:=ac (show R=some ([],p) by rw[HR.o]);refine bI (v:=.tuple #[.slice none 0 0,.slice a2 p0 c2]) (by simp[results,Tryz.results165,go_sem]) rfl ⟨⟨_,_,rfl,?_,?_⟩,bD.o⟩
   ·rw[HE.o];exact IntsV.nil _
   ·rw[HE.o,yV.o];exact He.o
  | none=>
   clear HSo;go_wp2_with (rw[<-fp.o];go_at_call 229;refine HC.o.mono ?_;rintro e w2 ⟨⟨v2,rfl,jy⟩,bB⟩;obtain ⟨a2,c2,rfl⟩:=jy.slice;simp only[Option.getD,List.length_nil]at jy ⊢;have x3:w2.cell? ⟨w.heap.size,3,none⟩=some (.slice ub k0 ue):=aa bB (ah HX.o 3);have bD:=ac (cw.o.trans (bB.mono cw.o.size));clear bB jy);clear x3;go_loopw [22] (fun i wr=>∃k:Nat,k<=k0/\i=.int .i64 k/\Below w.heap.size w wr/\R=mr x (xs.drop k) k) (fun i _=>k0 - (intOf i).toNat)
   case atStart=>exact ⟨0,aX _,rfl,bD.o,by simpa using HR.o⟩
   case round=>
    have pp308b:=();exact pm308
 |clear pp35b;obtain rfl:=e_.len;obtain rfl:=Au.len;have zak:=hfit.args.len;have ej:=hfit.subs.len;have dD:=hfit.name;obtain ⟨A,hA⟩:=am ((ap a).filter (fun x=>!bs.contains x));obtain ⟨bs',hbs⟩:∃bs':List Str,bs'=(if bh uo then nm :: bs else bs):=⟨_,rfl⟩;have mf:aL bs (.mk uo nm a ss)=A ++ bq bs' ss:=by rw[hA,hbs];unfold aL;rfl
  rw[mf]at dx ⊢;have uM:nodesF (.mk uo nm a ss)=nodesTs a+nodesFs ss+1:=by unfold nodesF;rfl
  obtain ⟨NF,hNF⟩:=am (nodesF (.mk uo nm a ss));rw[<-hNF]at hn JD ⊢;rw[<-hNF]at uM;obtain ⟨k0,bX⟩:=am a.length;obtain ⟨m0,dW⟩:=am ss.length;rw[<-bX]at e_ zak;rw[<-dW]at Au ej;have Gq:=hq;unfold FQ.val;simp only;rw[<-bX,<-dW];obtain ⟨W1,bY⟩:=am (((W.alloc (.cells #[.int .u8 uo,.string ⟨nm.toArray⟩,.slice ua k0 uc,.slice ub m0 ue] 36)).alloc (.cells #[.map (some mb)] 198)).alloc (.cells #[.func (.yield l) #[] #[]] 113));have iN:=yK bY;have gY:=Ji bY;have Y5:W1.heap[W.heap.size]?=some (.cells #[.int .u8 uo,.string ⟨nm.toArray⟩,.slice ua k0 uc,.slice ub m0 ue] 36 (0,0)):=by
   rw[bY];exact (bE _ _ _ (by simp;omega)).trans ((bE _ _ _ (by simp)).trans (ai rfl))
  have rY:W1.heap[W.heap.size+1]?=some (.cells #[.map (some mb)] 198 (0,0)):=by
   rw[bY];exact (bE _ _ _ (by simp)).trans (ai (by simp))
  have qg:W1.heap[W.heap.size+2]?=some (.cells #[.func (.yield l) #[] #[]] 113 (0,0)):=by
   rw[bY];exact ai (by simp)
  have hmW:=hb.lt;have hWs:=hk.size;have hMS:∀ b,W0.heap.size<=b->b≠mb->¬(M b\/b=mb):=fun b h1 h2 h=>by
   rcases h with h | h
   ·have:=hM b h;omega
   ·exact h2 h
  have pT:Hd (W.heap.size<W1.heap.size/\¬(M W.heap.size\/W.heap.size=mb)/\W.heap.size+1<W1.heap.size/\¬(M (W.heap.size+1)\/W.heap.size+1=mb)/\W.heap.size+2<W1.heap.size/\¬(M (W.heap.size+2)\/W.heap.size+2=mb)):=
   ac ⟨by omega,hMS _ (by omega) (by omega),by omega,hMS _ (by omega) (by omega),by omega,hMS _ (by omega) (by omega)⟩
  have HMS:=ac hMS;have fR:=ac (fun t ht=>ih t ht (hfit.subs.mem ht));have Ju:FrJ J pre M W0 mb n bs l W.heap.size [] W1:=⟨by simpa using hJ _ _ _ (Nw.below iN) hj,hk.trans (Kp.below iN),hb.same (iN.block mb hmW),rY,qg⟩;have hpa:(pre ++ (ap a).filter (fun x=>!bs.contains x)) <+: xs:=by rw[<-hA];exact jO dx
  have hG:=Wl (n:=n) (s:=W.heap.size) hM Cu (by omega) hY hfit.args hpa;have UA:=fun (wr:World) (h:W1.heap.size<=wr.heap.size)=>FrJ.abides (l:=l) (s:=W.heap.size) (mb:=mb) (n:=n) (bs:=bs) (pre:=pre) (M:=M) (B:=wr.heap.size) hJ (by omega) (by omega) (by omega);have HFT:=ac (fun t ht=>hfit.args.mem (t:=t) ht);have wm:Hd (n+2 * NF<4000000/\bs.length+NF<=4000000/\NF=nodesTs a+nodesFs ss+1/\bs'.length<=bs.length+1):=ac ⟨hn,JD,uM,by rw[hbs];split <;> simp⟩;obtain ⟨Jy,dA,gR,MU,Pa,jj,ec,HS1,MC,jN⟩:=Lg dD bX dW e_ Au bY iN gY Y5 rY;obtain ⟨HX2,Cs,Wm⟩:=cH qg hM Cu;have HMW:=aG hmW hWs;obtain ⟨HJ,HY,ob,HJ1,HG,HFA,HA,gG⟩:=Sb hJ hY dx Ju hG UA hA hbs;clear hq Gq e_ Au hfit ih bX dW bY iN gY Y5 rY qg hM Cu hmW hWs hJ hY dx Ju hG UA hA hbs mf uM hn JD hj hk hb hMS hpa dD hNF;have hmf:∀ (fn:Fn) (first cap:Array Value) (w:World),(Instr.makeFunc fn first cap).run Tryz.prog w=.ok (.func fn first cap) w:=fun _ _ _ _=>rfl;go_enter_defers Tryz.func149,Tryz.ntmps149;have p2:W1.cell? ⟨W.heap.size,2,none⟩=some (.slice ua k0 uc):=ah MC.o 2;go_wp2;rw[<-jj.o];clear p2;go_loopw [16] (fun i wr=>∃k:Nat,k<=k0/\i=.int .i64 k/\FrJ J pre M W0 mb n bs l W.heap.size (ap (a.take k)) wr/\Kp (fun b=>M b\/b=mb) W1 wr) (fun i _=>k0 - (intOf i).toNat)
  case atStart=>exact ⟨0,aX _,rfl,by simpa[ap] using HJ1.o,Kp.refl _⟩
  case round=>
   obtain ⟨k,hk,rfl,hj,j9⟩:=hrel
   by_cases hlt:k<k0
   ·have bg:=ce dA.o hlt;obtain ⟨b,off,u,rfl,ja,hu,c0,c1,c2⟩:=MU.o.get bg;have d0:=hj.kp.cell ja.2 c0;have d1:=hj.kp.cell ja.2 c1;have d2:=hj.kp.cell ja.2 c2;exact pm278
   ·obtain rfl:k0=k:=by omega
    have ht:a.take k0=a:=by rw[dA.o];exact cY
    rw[ht]at hj;have Lu:=hj.j;rw[<-HA.o]at Lu;exact pm274
 |clear pp35c;obtain rfl:=Hr.len;have ej:=WF.subs.len;obtain ⟨m0,dW⟩:=am lN.length;simp only at ye;rw[<-dW]at Hr ej ye WE;obtain ⟨e0,e1,e2,e3,z0,z1,z2,z3⟩:=dy ye;have DK:(k:Int)<(n1:Int):=by omega
  have zf:=(bj.same _ (by have:=HM.o.2.1;have:=H4.o.2.2.size;omega) (by rw[HM.o.1];simp)).trans ((H4.o.2.2.block _ (by have:=HM.o.2.1;omega)).trans HX.o.2.2);have pR:=H4.o.2.2.size;have pP:=HM.o.2.1;have ar:Below w.heap.size w wr:=Below.kp1 (HM.o.2.2.trans (H4.o.2.2.mono (by omega))) (by have h:=bj;rw[HM.o.1]at h;exact h) (by omega)
  by_cases hi:i0<m0
  ·have Sz:i0<lN.length:=by omega
   rw[gT Sz]at I_;obtain ⟨b2,off2,⟨uo,un,ua,ul,uc,ub,um,ue⟩,rfl,ja,hu,d0,d1,d2,d3⟩:=Hr.get Sz;simp only at I_ d0 d1 d2 d3;have hii:(i0:Int)<(m0:Int):=by omega
   have zcB:¬((m0:Int)<=(i0:Int)):=by omega
   have CQ:=eX ⟨c0,⟨cn.toArray⟩,c2,c3,c4,some ⟨b2,off2,none⟩,m0,c7⟩ wr;simp only[FQ.val]at CQ;have I7:=ac CQ;have Y8:=WF.subs.mem (aw Sz);have cw:=ac (Sa ye bj hu Y8 aA M6 ja);have HD:=cG d0 d1 d2 d3;have HZ:=bF pP pR bj.size
   cases qh:bh c0 with
   | false=>
    rw[qh]at I7;rw[ak (show ¬(bh c0=true) by rw[qh];simp)]at I_;have HWk:=ac I_;clear I_ zf bj WE WF aA M6 hcs J8 Hr ye dW p9 CO jZ wJ ej pR pP ar CQ hu Y8 ja d0 d1 d2 d3 qh;go_wp2_with (go_at_call 93;refine I7.o.mono ?_;rintro e w8 ⟨rfl,ic⟩;have x8:=bJ ic cw.o.1;obtain ⟨s0,s1,s2,s3,y0,y1,y2,y3⟩:=dy x8;have d0:=aa ic HD.o.1;have d1:=aa ic HD.o.2.1;have d2:=aa ic HD.o.2.2.1;have d3:=aa ic HD.o.2.2.2;have H8:=aG ic x8;clear ic x8);go_roundw
    case rel=>
     have x9:=lA (v0:=.int .u8 uo) (v1:=.string un) (v2:=.slice ua ul uc) (v3:=.slice ub um ue) H8.o.2;have k9:=dL (W:=w8) (b:=w.heap.size+1) (v0:=.int .u8 uo) (v1:=.string un) (v2:=.slice ua ul uc) (v3:=.slice ub um ue);rw[<-HM.o.1]at k9;have kk:=cw.o.2.1.trans ((Kp.below H8.o.1).trans k9);exact ⟨k+1,lN[i0],ins,⟨uo,un,ua,ul,uc,ub,um,ue⟩,by omega,by go_num,kk,x9,cw.o.2.2.1.kp3 ((Kp.below H8.o.1).trans k9),cw.o.2.2.2.1,cw.o.2.2.2.2.1.held (fun b hb hlt=>((Kp.below H8.o.1).trans k9).same b hlt (by rw[HM.o.1];have:=HZ.o;omega)),by have:=cw.o.2.2.2.2.2.1;omega,by rw[HWk.o]⟩
    case measure=>simp[intOf];omega
   | true=>
    rw[qh]at I7;rw[au qh]at I_;have HWk:=ac I_;have hrl:ins.reverse.length+1<=4000000:=by simp;omega
    have HRL:=ac hrl;clear I_ zf bj WE WF aA M6 hcs J8 Hr ye dW p9 CO jZ wJ ej pR pP ar CQ hu Y8 ja d0 d1 d2 d3 qh hrl;go_wp2_with (first | (go_at_call 93;refine I7.o.mono ?_;rintro e w8 ⟨rfl,ic⟩;have x8:=bJ ic cw.o.1;obtain ⟨s0,s1,s2,s3,y0,y1,y2,y3⟩:=dy x8;have H8:=aG ic x8;clear ic x8) | (at_builtin;refine dY rfl _ _ rfl w4.heap.size (by have:=HZ.o;have:=H8.o.1.size;simp;omega) u10 ins.reverse rfl ((cw.o.2.2.2.2.1.later H8.o.1).later cO) (.slice (some ⟨w8.heap.size,0,none⟩) 1 1) [cn] rfl (fun _=>True) (AN (ai rfl)) HRL.o ?_;intro v9 w9 PE Ja;have K9:Kp (fun b=>w4.heap.size<=b) wr w9:=zas (H8.o.1.tr cO) Ja (fun g hg=>(World.ownsRow.lt cw.o.2.2.2.2.1 g hg).1);have x9:=(K9.same _ (bz cw.o.1) (by have:=HZ.o;omega)).trans cw.o.1;obtain ⟨s0,s1,s2,s3,y0,y1,y2,y3⟩:=dy x9;have hlo:¬w4.heap.size<=b2:=(by have:=HZ.o;have:=cw.o.2.2.2.2.2.2.1;omega);have d0:=K9.cell hlo HD.o.1;have d1:=K9.cell hlo HD.o.2.1;have d2:=K9.cell hlo HD.o.2.2.1;have d3:=K9.cell hlo HD.o.2.2.2;have HG:=cG PE K9 x9 (ow ((cw.o.2.1.trans (Kp.below H8.o.1)).trans (Kp.below cO)) Ja (fun g hg=>(World.ownsRow.lt cw.o.2.2.2.2.1 g hg).1));clear PE Ja K9 x9 hlo));go_roundw
    case rel=>
     have Fl:=lA (v0:=.int .u8 uo) (v1:=.string un) (v2:=.slice ua ul uc) (v3:=.slice ub um ue) HG.o.2.2.1;have PG:=dL (W:=w9) (b:=w.heap.size+1) (v0:=.int .u8 uo) (v1:=.string un) (v2:=.slice ua ul uc) (v3:=.slice ub um ue);rw[<-HM.o.1]at PG;exact ⟨k+1,lN[i0],cn :: ins,⟨uo,un,ua,ul,uc,ub,um,ue⟩,by omega,by go_num,HG.o.2.2.2.trans PG,Fl,(cw.o.2.2.1.move (fun b hb hlt=>⟨hb,HG.o.2.1.same b hlt (by have:=HZ.o;omega)⟩)).kp3 PG,cw.o.2.2.2.1,by rw[List.reverse_cons];exact HG.o.1.held (fun b hb hlt=>PG.same b hlt (by rw[HM.o.1];have:=HZ.o;omega)),by have:=cw.o.2.2.2.2.2.1;simp;omega,by rw[HWk.o]⟩
    case measure=>simp[intOf];omega
  ·have hge:(m0:Int)<=(i0:Int):=by omega
   have hng:¬((i0:Int)<(m0:Int)):=by omega
   have HE:=ac (show R=none by rw[HR.o,I_,List.getElem?_eq_none (by omega)]);obtain ⟨f0,f1,f2,y0,y1,y2⟩:=gN zf;have Gp:=aG zf ar;clear I_ zf bj WE WF aA M6 hcs J8 Hr ye dW p9 CO jZ wJ ej pR pP ar;go_wp2;obtain ⟨W6,dm,x6,k6,g0,g1,g2⟩:=uL Gp.o.1 (.bool false) (.string ⟨#[]⟩) (.slice none 0 0);rw[<-dm];refine bI (v:=.tuple #[TQ.val ⟨false,⟨#[]⟩,none,0,0⟩,.bool false]) (by simp[TQ.val,results,Tryz.results98,go_sem,g0,g1,g2]) rfl ⟨⟨⟨false,⟨#[]⟩,none,0,0⟩,by rw[HE.o];rfl,fun u hu=>by rw[HE.o]at hu;cases hu⟩,Below.kp1 Gp.o.2 k6 (by omega)⟩
 |clear pp35d;simp only at ye;obtain ⟨wo,JT⟩:=am wr;subst JT;have pP:=HM.o.2.1;have pR:=H4.o.2.2.size;have hzo:=bj.size;have ar:Below w.heap.size w wo:=Below.kp1 (HM.o.2.2.trans (H4.o.2.2.mono (by omega))) (by have h:=bj;rw[HM.o.1]at h;exact h) (by omega);have zf:=(bj.same _ (by omega) (by rw[HM.o.1];simp)).trans ((H4.o.2.2.block _ (by omega)).trans HX.o.2.2);obtain ⟨W6,dm⟩:=am (wo.alloc (.cells #[.bool false,.string ⟨#[]⟩,.slice none 0 0] 43));have da:=cV dm;have Y9:=Gx dm;have x6:=bU dm;have x26:=(da.block _ (by omega)).trans zf;obtain ⟨b3,V9,rfl,WG⟩:=H4.o.2.1.get HN.o.2.2;have zau:b3≠w.heap.size+1:=H4.o.2.1.apart rfl HN.o.2.2 ((H4.o.2.2.block _ (by omega)).trans HX.o.2.1);have om:=iZ.2 HN.o.2.2;have zav:b3<w4.heap.size:=kW (WG 0 om);have zaw:∀ j (h:j<pq.length),W6.cell? ⟨b3,V9+j,none⟩=some (.int .i64 (pq[j]:Nat)):=fun j h=>aa da (bj.cell (by rw[HM.o.1];exact zau) (WG j h));obtain ⟨R0,UK⟩:=am (ms cas pq);have SN:=HR.o;rw[I_]at SN;simp only[n8,Fm.a]at SN;rw[<-UK]at SN;have Jb:=aG SN UK;have UL:=J8.later da;have zax:=WF.args;have f2:=ah ye 2;have f26:=aa da f2;have HZ:=cG pP pR hzo Y9;have H6:=ac (Sa (ar.tr da) x6 x26 zaw UL zax zav);have zay:=aG aA M6;obtain ⟨PH,WH⟩:=aW da dm;obtain rfl:=J8.len;rw[dm]at f26;clear I_ hdn WE J8 Hr WF ye pP pR hzo ar zf da Y9 x6 x26 WG zau om zav zaw UK SN UL zax aA M6 bj dm;go_wp2_with fail;rw[<-WH.o];clear f2 f26;go_loopw [14,54] (fun v i wr=>∃(j:Nat) (t:Tm) (l:List Tm) (tq:TQ) (la:Option Addr) (lc:Nat),j<=n2/\i=.int .i64 j/\v=.slice la l.length lc/\Kp (fun b=>b=wo.heap.size) W6 wr/\wr.heap[wo.heap.size]?=some (.cells #[.bool tq.v,.string tq.n,.slice tq.a tq.l tq.c] 43 (0,0))/\TermsV (fun b=>b<w.heap.size/\¬M b/\ok b) wr v l/\fitTs l/\(j<n2->R0=ms l (pq.drop j))/\(0<j->TermV (fun b=>b<w.heap.size/\¬M b/\ok b) wr tq.val t/\fitT t/\(j=n2->R0=some t))) (fun _ i _=>n2 - (intOf i).toNat)
  case atStart=>exact ⟨0,.mk false [] [],cas,⟨false,⟨#[]⟩,none,0,0⟩,c2,c4,aX _,rfl,rfl,Kp.refl _,H6.o.2.1,H6.o.2.2.2.2.1,H6.o.2.2.2.2.2.1,fun _=>by simpa using Jb.o.2,fun h=>absurd h (Nat.lt_irrefl _)⟩
  case round=>
   obtain ⟨j,t,l,⟨tv,tn,ta,tl,tc⟩,la,lc,hj,rfl,rfl,bj,Fo,J9,r',SO,cB⟩:=hrel
   by_cases eJ:j<n2
   ·have hjp:=ce HN.o.2.1 eJ;have ci:=bj.cell (a:=⟨b3,V9+j,none⟩) (show ¬(b3=wo.heap.size) by have:=HZ.o;have:=H6.o.2.2.2.2.2.2;omega) (H6.o.2.2.2.1 j hjp);obtain ⟨i0,p9⟩:=am (pq[j]);have hw:=SO eJ;rw[gj hjp,<-p9]at hw;rw[<-p9]at ci;have ej:=r'.len;obtain ⟨m0,dW⟩:=am l.length;rw[<-dW]at ej J9;rw[<-dW];have ES:(j:Int)<(n2:Int):=by omega
    simp only at Fo;have zf:=(bj.same _ (by have:=HZ.o;omega) (by have:=HZ.o;omega)).trans H6.o.2.2.1;have Y':Below w.heap.size w wr:=Below.kp1 H6.o.1 bj (by have:=HZ.o;omega)
    by_cases hi:i0<m0
    ·have Sz:i0<l.length:=by omega
     have hii:(i0:Int)<(m0:Int):=by omega
     have zcB:¬((m0:Int)<=(i0:Int)):=by omega
     obtain ⟨bt,zez,⟨uv,un,ua,ul,uc⟩,rfl,ja,hu,d0,d1,d2⟩:=J9.get Sz;have hf:=r'.mem (aw Sz);obtain ⟨y,hy⟩:=am (l[i0]);rw[<-hy]at hu hf;have hyy:l[i0]?=some y:=by rw[hy];exact gT Sz
     obtain ⟨xv,xn,xa⟩:=y;obtain ⟨s1,h2,e_⟩:=aP.1 hu;exact pm123
    ·have hge:(m0:Int)<=(i0:Int):=by omega
     have hng:¬((i0:Int)<(m0:Int)):=by omega
     have HE:=ac (show R=none by rw[Jb.o.1,hw,J7 (List.getElem?_eq_none (by omega))]);obtain ⟨f0,f1,f2,y0,y1,y2⟩:=gN zf;have Gp:=aG zf Y';clear SO cB zf bj r' J9 Fo dW p9 hjp Y' hw ej;go_wp2;obtain ⟨W7,LM,x7,k7,g0,g1,g2⟩:=uL Gp.o.1 (.bool false) (.string ⟨#[]⟩) (.slice none 0 0);rw[<-LM];refine bI (v:=.tuple #[TQ.val ⟨false,⟨#[]⟩,none,0,0⟩,.bool false]) (by simp[TQ.val,results,Tryz.results98,go_sem,g0,g1,g2]) rfl ⟨⟨⟨false,⟨#[]⟩,none,0,0⟩,by rw[HE.o];rfl,fun u hu=>by rw[HE.o]at hu;cases hu⟩,Below.kp1 Gp.o.2 k7 (by omega)⟩
   ·obtain rfl:j=n2:=by omega
    have om:0<j:=by rw[HN.o.2.1];exact iZ.2 HN.o.2.2
    obtain ⟨pV,o8,UK⟩:=cB om;have UK:=UK rfl;simp only at Fo;obtain ⟨wq,LN⟩:=am wr;subst LN;have hzq:=bj.size;have hzo:=HZ.o.2.2.1;have Y9:=HZ.o.2.2.2;have PI:=HZ.o.2.1;have pP:=HZ.o.1;have zf:=(bj.same _ (by omega) (by omega)).trans H6.o.2.2.1;have Y':Below w.heap.size w wq:=Below.kp1 H6.o.1 bj (by omega);have UM:=zay.o.1.held (W':=wq) (fun b _ hlt=>(bj.same b (by omega) (by omega)).trans (PH.o.block b hlt));have D_:R=if (aC t).any ins.contains then none else some t:=by rw[Jb.o.1,UK]
    have CF:=lU t o8 _ wq ⟨tv,tn,ta,tl,tc⟩ pV;simp only[TQ.val]at CF;obtain ⟨ns,Fh⟩:=am (dI (aC t));rw[<-Fh]at CF;have mw:ns.length<=2000000:=by rw[Fh];have:=fO (aC t);have:=mE t;have:=o8.1;omega
    obtain ⟨n3,hn3⟩:=am ns.length;have zeA:n3<=2000000:=by omega
    obtain ⟨s0,s1,s2,y0,y1,y2⟩:=gN Fo;have Gt:=ac CF;have HQ:=fE zf Y' UM pV Fo;have HRf:=aG D_ Fh;have HN3:=ac hn3;have HZ7:=fE hzq hzo Y9 PI pP;clear SO cB bj Fo J9 r' om pV o8 UK zf Y' UM D_ CF Fh mw hn3 hzq hzo Y9 PI pP;go_wp2_with (go_at_call 166;refine Gt.o.mono ?_;rintro e w7 ⟨⟨v7,rfl,M7⟩,fW⟩;obtain ⟨a7,cc7,rfl⟩:=M7.strs.slice;rw[<-HN3.o]at M7 ⊢;have H7:=aG M7 fW;clear M7 fW);clear s0 s1 s2 y0 y1 y2;go_loopw [73] (fun i wr=>∃j3:Nat,j3<=n3/\i=.int .i64 j3/\wr=w7/\∀ y∈ns.take j3,ins.contains y=false) (fun i _=>n3 - (intOf i).toNat)
    case atStart=>exact ⟨0,aX _,rfl,rfl,by simp⟩
    case round=>
     obtain ⟨j3,qd,rfl,rfl,gE⟩:=hrel
     by_cases PJ:j3<n3
     ·have Y_:=ce HN3.o PJ;obtain ⟨b7,zeB,rfl,_,ci⟩:=H7.o.1.strs.get Y_;obtain ⟨nm,dD⟩:=am (ns[j3]);rw[<-dD]at ci;have CT:=fM ins.reverse (by have:=zay.o.2;simp;omega) nm _ wr u10 (HQ.o.2.2.1.later H7.o.2).strs;have Za:ins.reverse.contains nm=ins.contains nm:=by rw[gV,List.contains_iff_mem,List.contains_iff_mem,List.mem_reverse]
      rw[Za]at CT;have ES:(j3:Int)<(n3:Int):=by omega
      have zf:=bJ H7.o.2 HQ.o.1
      cases hc:ins.contains nm with
      | true=>
       rw[hc]at CT;have Hh:=ac CT;have HE:=ac (show R=none by rw[HRf.o.1,au (List.any_eq_true.2 ⟨nm,(dQ nm _).1 (by rw[<-HRf.o.2,dD];exact aw Y_),hc⟩)]);obtain ⟨f0,f1,f2,y0,y1,y2⟩:=gN zf;have Gp:=aG zf (HQ.o.2.1.tr H7.o.2);have pp258:=();exact pm258
      | false=>
       rw[hc]at CT;have Hh:=ac CT;have AD:=ac (show ∀ y∈ns.take (j3+1),ins.contains y=false by
        intro y hy;rw[List.take_add_one,gT Y_,<-dD]at hy;rcases List.mem_append.1 hy with h | h
        ·exact gE y h
        ·obtain rfl:y=nm:=by simpa using h
         exact hc)
       exact pm258
     ·obtain rfl:j3=n3:=by omega
      rw[HN3.o,cY]at gE;have HE:=ac (show R=some t by
       rw[HRf.o.1,ak];intro h;obtain ⟨y,hy,hc⟩:=List.any_eq_true.1 h;have:=gE y (by rw[HRf.o.2];exact (dQ y _).2 hy);rw[this]at hc;cases hc)
      have zf:=bJ H7.o.2 HQ.o.1;have xtw:=bJ H7.o.2 HQ.o.2.2.2.2;obtain ⟨f0,f1,f2,y0,y1,y2⟩:=gN zf;obtain ⟨t0,t1,t2,_,_,_⟩:=gN xtw;have pV:=(HQ.o.2.2.2.1.later H7.o.2);have Gp:=bF zf (HQ.o.2.1.tr H7.o.2) pV;clear zf xtw gE pV;go_wp2;obtain ⟨W8,l8,x8,k8,g0,g1,g2⟩:=uL Gp.o.1 (.bool tv) (.string tn) (.slice ta tl tc);rw[<-l8];refine bI (v:=.tuple #[TQ.val ⟨tv,tn,ta,tl,tc⟩,.bool true]) (by simp[TQ.val,results,Tryz.results98,go_sem,g0,g1,g2]) rfl ⟨⟨⟨tv,tn,ta,tl,tc⟩,by rw[HE.o];rfl,fun u hu=>by rw[HE.o]at hu;cases hu;exact Gp.o.2.2.move (fun b hb hlt=>⟨⟨hb.1,hb.2.2⟩,k8.same b hlt (by omega)⟩)⟩,Below.kp1 Gp.o.2.1 k8 (by omega)⟩
 |clear pp35e;obtain rfl:=iF.len;obtain rfl:=mK.len;have lC:=ig _ hs;simp only[ls,af,bp]at lC;obtain ⟨n1,ea⟩:=am a.length;obtain ⟨m1,ii⟩:=am ss.length;rw[<-ea]at hq iF;rw[<-ii]at hq;rw[<-ea,<-ii];obtain ⟨R,hR⟩:=am (gH k (.mk so n a ss));have hE:=hR;rw[Nh]at hE;rw[<-hR];have zu:nodesTs a<=400:=by simp only[nodesF]at rI;omega
  have xZ:∀ t∈a,fitT t:=fun t ht=>⟨by have:=gF ht;omega,ke (by omega) t (fI.1 lC.2.2.1 t ht)⟩
  have mw:=lC.2.1;obtain ⟨W2,a_⟩:=am ((w.alloc (.cells #[.int .u8 so,.string ⟨n.toArray⟩,.slice sa n1 sc,.slice sb m1 se,.int .u8 fo,.string fn,.slice fa fl fc,.slice fb fm fe,.slice ca cl cc] 89)).alloc (.cells #[.int .u8 so,.string ⟨n.toArray⟩,.slice sa n1 sc,.slice sb m1 se] 36));have bB:=lv a_;have x2:=j_ a_;have fA:=dZ.later bB;have Gq:=hq.later bB;have Ig:=iF.later bB;obtain ⟨HE,fp⟩:=aW hE a_;have H2:=bF bB x2 fA;have HQ:=fE Gq Ig hs xZ lC;have Qa:a.length<=2000000:=by have:=ix a;omega
  have HAl:=ac Qa;clear hE hR hq iF mK hs xZ lC a_ bB x2 fA dZ Gq Ig ea ii zu Qa rI;simp only[PlQ.val,PlQ.cells]
  by_cases dN:so=16
  ·subst dN;have hE:=HE.o;rw[ak (by decide)]at hE;have pp81:=();exact pm81
  by_cases eQ:so=15
  ·subst eQ;have hE:=HE.o;rw[ak (by decide)]at hE;exact pm70
  ·have iG:(so == 16)=false:=by simp[dN]
   have Kg:(so == 15)=false:=by simp[eQ]
   have VT:(so != 16)=true:=by simp[dN]
   have zcL:(so != 15)=true:=by simp[eQ]
   have hE:=HE.o;rw[au (by simp[VT,zcL])]at hE;obtain ⟨B,hB⟩:=am (a.any (iv k.ts));rw[<-hB]at hE;have CA:=sK (iv k.ts) a HAl.o kb W2 (fun t ht=>Do W2 _ _ _ kb mF mT nF nT k H2.o.2.2 t (HQ.o.2.2.2.1 t ht)) _ W2 sa n1 sc (aj _ _) HQ.o.2.1;rw[<-hB]at CA;obtain ⟨FE,rJ⟩:=aW CA hE;clear hE CA hB;go_enter Tryz.func124,Tryz.ntmps124;go_upto_region 2 with fail;rw[<-fp.o];obtain ⟨e0,e1,e2,e3,_,_,_,_⟩:=dy H2.o.2.1;go_wp2_with (go_at_call 192;refine FE.o.mono ?_;rintro e w4 ⟨rfl,aO⟩;have H4:=ac aO;clear aO);go_ret;exact ⟨by rw[rJ.o];rfl,H2.o.1.tr H4.o⟩
 |clear pp35f;obtain rfl:=iF.len;obtain rfl:=mK.len;have lC:=ig _ hs;simp only[ls,af,bp]at lC;obtain ⟨n1,ea⟩:=am a.length;obtain ⟨m1,ii⟩:=am ss.length;rw[<-ea]at hq iF;rw[<-ii]at hq;rw[<-ea,<-ii];obtain ⟨R,hR⟩:=am (gW k (.mk so n a ss));have hE:=hR;rw[Ii]at hE;rw[<-hR];have zu:nodesTs a<=400:=by simp only[nodesF]at rI;omega
  have xZ:fitTs a:=⟨by omega,dX (by omega) a lC.2.2.1⟩;have mw:n.length<=2000000:=by have:=lC.2.1;omega
  obtain ⟨W2,a_⟩:=am ((w.alloc (.cells #[.int .u8 so,.string ⟨n.toArray⟩,.slice sa n1 sc,.slice sb m1 se,.int .u8 fo,.string fn,.slice fa fl fc,.slice fb fm fe,.slice ca cl cc] 89)).alloc (.cells #[.int .u8 so,.string ⟨n.toArray⟩,.slice sa n1 sc,.slice sb m1 se] 36));have bB:=lv a_;have x2:=j_ a_;have fA:=dZ.later bB;obtain ⟨HE,fp⟩:=aW hE a_;have H2:=bF bB x2 fA;have HQ:=fE (hq.later bB) (iF.later bB) hs xZ lC;have HN:=ac ea;have M5:n1<=2000000:=by have:=ix a;omega
  have PS:=ac zu;clear hE hR hq iF mK hs xZ lC a_ bB x2 fA dZ ea ii zu rI;simp only[PlQ.val,PlQ.cells];have iz:=fd;obtain ⟨e0,e1,e2,e3,_,_,_,_⟩:=dy H2.o.2.1;obtain ⟨⟨g0,g1,g2,g3,g4,g5,g6,g7⟩,pf,Ij,Fi,_,_,wl⟩:=H2.o.2.2.formOf (x:=n) mw;simp only[FQ.val]at wl;obtain ⟨f,hf⟩:=am (formOf k.fs n);rw[<-hf]at pf Ij Fi;have hE:=HE.o;rw[<-hf]at hE;have wn:=H2.o.2.2.fs.lt;have vk:=bF pf Ij Fi;clear pf hf
  by_cases eQ:so=15
  ·subst eQ;rw[au rfl]at hE;obtain ⟨m,hm⟩:=am (nodesF f);rw[<-hm]at hE;have pp79:=();exact pm79
  rw[ak eQ]at hE;have Kg:(so == 15)=false:=by simp[eQ]
  by_cases dN:so=16
  ·subst dN;rw[au rfl]at hE;exact pm81
  rw[ak dN]at hE;have iG:(so == 16)=false:=by simp[dN]
  have rJ:=ac hE;have Ig:=HQ.o.2.1;have WV:=ac Ig;clear hE Ij Fi wl wn Ig;go_enter Tryz.func126,Tryz.ntmps126;go_upto_region 2 with fail;rw[<-fp.o];go_wp2_with fail;clear e0 e1 e2 e3;go_loopw [10,64] (fun r i wr=>∃j:Nat,j<=n1/\i=.int .i64 j/\r=.int .i64 ((eh k.ts (a.take j)+1:Nat):Int)/\Below W2.heap.size W2 wr) (fun _ i _=>n1 - (intOf i).toNat)
  case atStart=>exact ⟨0,aX _,rfl,by simp[eh],aj _ _⟩
  case round=>
   obtain ⟨j,hj,rfl,rfl,ar⟩:=hrel
   by_cases hlt:j<n1
   ·have me:=ce HN.o hlt;have pp218a:=();exact pm218
   ·obtain rfl:n1=j:=by omega
    have cB:a.take n1=a:=by rw[HN.o];exact cY
    rw[cB];have HK:=ac (H2.o.1.tr ar);clear ar cB;go_wp2;go_ret;exact ⟨by rw[rJ.o];rfl,HK.o⟩
 |clear pp35g;obtain rfl:=iF.len;obtain rfl:=mK.len;have lC:=ig _ hs;simp only[ls,af,bp]at lC;obtain ⟨n1,ea⟩:=am a.length;obtain ⟨m1,ii⟩:=am ss.length;rw[<-ea]at hq iF;rw[<-ii]at hq;rw[<-ea,<-ii];obtain ⟨R,hR⟩:=am (nz k (.mk so n a ss));have hE:=hR;rw[xd]at hE;rw[<-hR];have zu:nodesTs a<=400:=by simp only[nodesF]at rI;omega
  have xZ:fitTs a:=⟨by omega,dX (by omega) a lC.2.2.1⟩;have mw:n.length<=2000000:=by have:=lC.2.1;omega
  obtain ⟨W2,a_⟩:=am ((w.alloc (.cells #[.int .u8 so,.string ⟨n.toArray⟩,.slice sa n1 sc,.slice sb m1 se,.int .u8 fo,.string fn,.slice fa fl fc,.slice fb fm fe,.slice ca cl cc] 89)).alloc (.cells #[.int .u8 so,.string ⟨n.toArray⟩,.slice sa n1 sc,.slice sb m1 se] 36));have bB:=lv a_;have x2:=j_ a_;have fA:=dZ.later bB;obtain ⟨HE,fp⟩:=aW hE a_;have H2:=bF bB x2 fA;have HQ:=fE (hq.later bB) (iF.later bB) hs xZ lC;have HN:=ac ea;have M5:n1<=2000000:=by have:=ix a;omega
  have PS:=ac zu;clear hE hR hq iF mK hs xZ lC a_ bB x2 fA dZ ea ii zu rI;simp only[PlQ.val,PlQ.cells];have iz:=fd;obtain ⟨e0,e1,e2,e3,_,_,_,_⟩:=dy H2.o.2.1;obtain ⟨⟨g0,g1,g2,g3,g4,g5,g6,g7⟩,pf,Ij,Fi,_,_,wl⟩:=H2.o.2.2.formOf (x:=n) mw;simp only[FQ.val]at wl;obtain ⟨f,hf⟩:=am (formOf k.fs n);rw[<-hf]at pf Ij Fi;have hE:=HE.o;rw[<-hf]at hE;have wn:=H2.o.2.2.fs.lt;have vk:=bF pf Ij Fi;clear pf hf
  by_cases eQ:so=15
  ·subst eQ;rw[au rfl]at hE;have pp240:=();exact pm240
  rw[ak eQ]at hE;have Kg:(so == 15)=false:=by simp[eQ]
  by_cases dN:so=16
  ·subst dN;rw[au rfl]at hE;have pp301:=();exact pm301
  rw[ak dN]at hE;have iG:(so == 16)=false:=by simp[dN]
  have rJ:=ac hE;have Ig:=HQ.o.2.1;have WV:=ac Ig;clear hE Ij Fi wl wn Ig;go_enter Tryz.func195,Tryz.ntmps195;go_upto_region 2 with fail;rw[<-fp.o];go_wp2_with fail;clear e0 e1 e2 e3;go_loopw [9,64] (fun r i wr=>∃j:Nat,j<=n1/\i=.int .i64 j/\OwnS W2.heap.size wr r (dr k.ts (a.take j))/\Below W2.heap.size W2 wr) (fun _ i _=>n1 - (intOf i).toNat)
  case atStart=>exact ⟨0,aX _,rfl,OwnS.nil _ _,aj _ _⟩
  case round=>
   obtain ⟨j,hj,rfl,fh,ar⟩:=hrel
   by_cases hlt:j<n1
   ·have me:=ce HN.o hlt;have pp218b:=();exact pm218
   ·obtain rfl:n1=j:=by omega
    have cB:a.take n1=a:=by rw[HN.o];exact cY
    rw[cB]at fh;have HK:=aG (H2.o.1.tr ar) (fh.base H2.o.1.size);clear ar fh cB;go_wp2;go_ret;exact ⟨⟨_,rfl,by rw[rJ.o];exact HK.o.2⟩,HK.o.1⟩
 |clear pp35h;obtain rfl:=iF.len;obtain rfl:=mK.len;subst he;obtain ⟨R,hR⟩:=am (ev k ⟨.mk so n a s,F,ps.reverse⟩);rw[<-hR];have qN:=hR;rw[QD]at qN;obtain ⟨n1,ea⟩:=am a.length;obtain ⟨m1,ii⟩:=am s.length;rw[<-ea]at hs iF;rw[<-ii]at hs mK;rw[<-ea,<-ii];obtain ⟨W1,bY⟩:=am (W.alloc (.cells #[.int .u8 so,.string ⟨n.toArray⟩,.slice sa n1 sc,.slice sb m1 se,.int .u8 fo,.string fn,.slice fa fl fc,.slice fb fm fe,.slice ca cl cc] 89));have hb1:=cV bY;have ju:=Gx bY;have x1:=bU bY;have lC:=ig _ hp.s;simp only[ls,af,bp]at lC;have su:=ig _ hp.f;have hfit:fitF F:=⟨by have:=hp.n;simp only at this;omega,gq (by omega) _ su⟩;obtain ⟨P0,P1,P2,P3,P4,P5,P6,P7⟩:=CU x1;have P8:=ah x1 8
  by_cases dN:so=16
  ·subst dN;obtain ⟨x,y,e_,Jg,FG,bl⟩:=iA hp rfl;simp only[Fm.a]at e_;simp only at bl;obtain ⟨di,yo⟩:=am (bQ x);rw[bl,<-yo]at qN;rw[ak (by decide)]at qN;simp only at qN;have Ih:=fX FG;have Oq:di.length<=17:=by rw[yo];have:=iT Jg;simp[bQ];omega
   have tO:=dZ.later hb1;have Gv:=fun (V:World) (h:Below W1.heap.size W1 V)=>fP (.mk 16 n a s) (by simp[Fm.a,e_]) (by simp[Fm.a,e_]) (fun t ht=>by
    have h2:=fI.1 lC.2.2.1 t (by simpa[Fm.a] using ht);obtain ⟨tv,tn,ta⟩:=t;simp only[j5,af,bp]at h2;have:=h2.1;simp only;omega) _ V ⟨16,⟨n.toArray⟩,sa,n1,sc,sb,m1,se⟩ ((hs.later hb1).later h)
   simp only[FQ.val]at Gv;rw[bl,<-yo]at Gv;obtain ⟨HIN,HR,HP⟩:=cH Gv qN hp;have HG:=fE RZ RY R1 WN WO;have HV:=cG hf hc tO (AZ.next hb1);have HB:=cG sd qC hl gX;have jj:=ac bY;have H1:=bF hb1 ju x1;have HF:=fE hfit lC.2.1 Ih Oq FG;have g0:W1.cell? ⟨kb,0,none⟩=some (.map (some mF)):=ah tO.box 0;have g1:W1.drew.cell? ⟨kb,0,none⟩=some (.map (some mF)):=ah tO.box 0;have g3:W1.drew.cell? ⟨W.heap.size,1,none⟩=some (.string ⟨n.toArray⟩):=P1;have pY:Below W1.heap.size W1 (W1.alloc (.cells #[.int .u8 0,.string ⟨#[]⟩,.slice none 0 0,.slice none 0 0] 36)):=cO;obtain ⟨g4,g5⟩:=zS pY g0 P1;rcases tO.fs.look Tryz.underlying9 Tryz.underlying145 ml (x:=n) (by have:=lC.2.1;omega) with ⟨hg,hlk⟩ | ⟨f,vf,hg,hvf,hlk⟩
   ·have l1:=(hlk W1.drew rfl).1;have pp216:=();exact pm216
   ·obtain ⟨⟨Fw,Fx,Fy,Fz,FA,FB,FC,FD⟩,rfl,pf,Ic⟩:=hvf;simp only[FQ.val]at hlk;have l1:=(hlk W1.drew rfl).1;exact pm216
  ·have HE:=ac (show R=(k,0) by rw[qN,au (by simp[dN])]);have cQ:(so == 16)=false:=by simp[dN]
   have jj:=ac bY;have Jd:=aG hb1 (dZ.later hb1);clear qN hR hp RZ RY R1 WN WO hs hf iF mK hc dZ ea ii sd qC hl gX bY hb1 ju hfit lC su AZ rI x1;exact pm157
 |clear pp35i;obtain rfl:=iF.len;obtain rfl:=mK.len;have lC:=Bw (ig _ hs);obtain ⟨n1,ea⟩:=am a.length;obtain ⟨m1,ii⟩:=am ss.length;rw[<-ea]at hq iF;rw[<-ii]at hq mK;rw[<-ea,<-ii];have ji:=dZ.later cQ;have mw:n.length<=2000000:=by have:=lC.2.1;omega
  obtain ⟨W2,a_⟩:=am ((w.alloc (.cells #[.int .u8 15,.string ⟨n.toArray⟩,.slice sa n1 sc,.slice sb m1 se] 36)).alloc (.cells #[.int .u8 0,.string ⟨#[]⟩,.slice none 0 0,.slice none 0 0] 36));have bB:=lv a_;have iy:=yJ a_;have x1:=t_ a_;have x2:=j_ a_;have fA:=ji.later bB;have iz:=fd;obtain ⟨RS,Fd⟩:=am (bV kd c (.mk 15 n a ss));rw[<-Fd];obtain ⟨⟨g0,g1,g2,g3,g4,g5,g6,g7⟩,pf,Ij,Fi,SI,SJ,wl⟩:=fA.formOf (x:=n) mw;simp only[FQ.val]at wl;obtain ⟨f,hf⟩:=am (formOf kd.fs n);rw[<-hf]at pf Ij Fi SI SJ;obtain ⟨S,hS⟩:∃S:World->Prop,S=fun V=>Below W2.heap.size W2 V:=⟨_,rfl⟩;have ff:∀ V,S V->V.cell? ⟨kb,0,none⟩=some (.map (some mF))/\V.cell? ⟨w.heap.size,1,none⟩=some (.string ⟨n.toArray⟩)/\(Instr.lookup 145 (.map (some mF)) (.string ⟨n.toArray⟩) false).run Tryz.prog V=.ok (.agg #[.int .u8 g0,.string g1,.slice g2 g3 g4,.slice g5 g6 g7]) V:=fun V h=>by
   rw[hS]at h;exact ⟨aa h (ah fA.box 0),aa h (ah x1 1),wl V (h.block _ fA.fs.lt)⟩
  have dU:S W2.drew:=by rw[hS];exact (aj _ _).drew
  have hR:RS=f:=by rw[Fd,hf];simp only[bV,if_true]
  have mz:=ac (fun (V:World) (h:Below W2.heap.size W2 V)=>ov f Ij _ V ⟨g0,g1,g2,g3,g4,g5,g6,g7⟩ (pf.later h));have HB:=fE bB iy x1 x2 hR;obtain ⟨fp,dp⟩:=aW a_ hS;simp only[FQ.val]at mz ⊢;clear hS bB iy x1 x2 hR a_ Fd hf pf Ij Fi SI SJ wl fA ji hq iF mK hL S9 Qj ea ii cQ lC mw hs;go_enter Tryz.func72,Tryz.ntmps72;go_upto_region 1 with fail;rw[<-fp.o];have e0:=ah HB.o.2.2.1 0;go_upto_region 3 with fail;clear e0;refine (wpIn_wide (n:=3)).1 ?_;refine lH S 8 dU fun jC bN=>?_;refine bC 0 21 (.pointer (some ⟨kb,0,none⟩)) rfl bN fun Q5=>?_;simp only[ag];refine bC 1 22 (.pointer (some ⟨kb,0,none⟩)) rfl Q5 fun Q6=>?_;simp only[ag];refine bC 2 23 (.pointer (some ⟨kb,0,none⟩)) rfl Q6 fun KK=>?_;simp only[ag];refine dh 3 24 (.map (some mF)) rfl (fun V hX=>by obtain ⟨h0,h1,h2⟩:=ff V hX;go_simp) KK fun Q7=>?_;simp only[ag];refine bC 4 25 (.pointer (some ⟨w.heap.size,1,none⟩)) rfl Q7 fun XV=>?_;simp only[ag];refine dh 5 26 (.string ⟨n.toArray⟩) rfl (fun V hX=>by obtain ⟨h0,h1,h2⟩:=ff V hX;go_simp) XV fun hT5=>?_;simp only[ag];refine dh 6 27 (.agg #[.int .u8 g0,.string g1,.slice g2 g3 g4,.slice g5 g6 g7]) rfl (fun V hX=>by obtain ⟨h0,h1,h2⟩:=ff V hX;go_simp) hT5 fun hT6=>?_;simp only[ag];refine bZ 7 rfl fun K hK=>?_;go_simp;refine aK.2 ((mz.o _ (by have h:=bN;rw[dp.o]at h;exact h)).mono ?_);rintro e w7 ⟨⟨p0,p1,p2,p3,p4,p5,p6,p7⟩,rfl,hp,fW⟩;have H7:=ac (((aj W2.heap.size W2).drew).trans fW);have HP7:=ac hp;have x7:=bJ H7.o HB.o.2.2.2.1;have KN:=ac x7;obtain ⟨e0,e1,e2,e3,z0,z1,z2,z3⟩:=dy x7;refine hK _ _ (fun _=>by rw[dp.o];exact H7.o) (fun _=>?_);clear hK K fW x7 hp;refine bZ 8 rfl fun K hK=>?_;go_simp;refine eS hK ?_;clear hK K;refine kV ?_;go_wp2;have x6:=lA (v0:=.int .u8 p0) (v1:=.string p1) (v2:=.slice p2 p3 p4) (v3:=.slice p5 p6 p7) KN.o;have k6:=dL (W:=w7) (b:=w.heap.size+1) (v0:=.int .u8 p0) (v1:=.string p1) (v2:=.slice p2 p3 p4) (v3:=.slice p5 p6 p7);obtain ⟨W6,dm⟩:=am ((((w7.setCell ⟨w.heap.size+1,0,none⟩ (.int .u8 p0)).setCell ⟨w.heap.size+1,1,none⟩ (.string p1)).setCell ⟨w.heap.size+1,2,none⟩ (.slice p2 p3 p4)).setCell ⟨w.heap.size+1,3,none⟩ (.slice p5 p6 p7));rw[<-dm]at x6 k6 ⊢;clear dm;have g0:W6.cell? ⟨w.heap.size+1,0,none⟩=some (.int .u8 p0):=ah x6 0;have g1:W6.cell? ⟨w.heap.size+1,1,none⟩=some (.string p1):=ah x6 1;have g2:W6.cell? ⟨w.heap.size+1,2,none⟩=some (.slice p2 p3 p4):=ah x6 2;have g3:W6.cell? ⟨w.heap.size+1,3,none⟩=some (.slice p5 p6 p7):=ah x6 3;have vN:=F3 (p:=⟨p0,p1,p2,p3,p4,p5,p6,p7⟩) (B:=w.heap.size+1) (HB.o.1.tr H7.o) (by omega) k6 (HP7.o.move (fun b hok _=>⟨by have:=HB.o.2.1;have h:W2.heap.size<=b:=hok;omega,rfl⟩));refine bI (v:=FQ.val ⟨p0,p1,p2,p3,p4,p5,p6,p7⟩) (by simp[FQ.val,results,Tryz.results72,go_sem,g0,g1,g2,g3]) rfl ⟨⟨⟨p0,p1,p2,p3,p4,p5,p6,p7⟩,rfl,?_⟩,vN.2⟩;rw[HB.o.2.2.2.2];exact vN.1
 |clear pp35j;obtain rfl:=iF.len;obtain rfl:=mK.len;have lC:=Bw (ig _ hs);obtain ⟨n1,ea⟩:=am a.length;obtain ⟨m1,ii⟩:=am ss.length;rw[<-ea]at hq iF;rw[<-ii]at hq mK;rw[<-ea,<-ii];have ji:=dZ.later cQ;have mw:n.length<=2000000:=by have:=lC.2.1;omega
  obtain ⟨W2,a_⟩:=am ((w.alloc (.cells #[.int .u8 16,.string ⟨n.toArray⟩,.slice sa n1 sc,.slice sb m1 se] 36)).alloc (.cells #[.int .u8 0,.string ⟨#[]⟩,.slice none 0 0,.slice none 0 0] 36));have bB:=lv a_;have iy:=yJ a_;have x1:=t_ a_;have x2:=j_ a_;have fA:=ji.later bB;have iz:=fd;obtain ⟨RS,Fd⟩:=am (bV kd c (.mk 16 n a ss));rw[<-Fd];obtain ⟨⟨g0,g1,g2,g3,g4,g5,g6,g7⟩,pf,Ij,Fi,SI,SJ,wl⟩:=fA.formOf (x:=n) mw;simp only[FQ.val]at wl;obtain ⟨f,hf⟩:=am (formOf kd.fs n);rw[<-hf]at pf Ij Fi SI SJ;obtain ⟨x,y,e_,Jg,FG,bl⟩:=jU hs;obtain ⟨di,yo⟩:=am (bQ x);have hR:RS=if fG di f=0 then f else fH di (termOf kd.ts y) f:=by rw[Fd,hf,yo,e_,xm];rfl
  rw[<-yo]at bl;have Ih:=fX FG;have Oq:di.length<=17:=by rw[yo];have:=iT Jg;simp[bQ];omega
  have Gv:=fP (.mk 16 n a ss) (by simp[Fm.a,e_]) (by simp[Fm.a,e_]) (fun t ht=>by
   have h2:=fI.1 lC.2.2.1 t (by simpa[Fm.a] using ht);obtain ⟨tv,tn,ta⟩:=t;simp only[j5,af,bp]at h2;have:=h2.1;simp only;omega) _ W2 ⟨16,⟨n.toArray⟩,sa,n1,sc,sb,m1,se⟩ (hq.later bB)
  simp only[FQ.val,bl]at Gv;obtain ⟨n0,ti⟩:=am (fG di f);rw[<-ti]at hR;have I8:n0<=400:=by have:=pg di f;omega
  have HB:=fE bB iy x1 x2 hR;have vk:=fE pf Ij Fi SI SJ;obtain ⟨HGl,Jf,fp,HIN⟩:=eH wl fA a_ Gv;have HY:=bF Ih Oq I8;have HN0:=ac ti;have PA:=ac (lP.next (cQ.tr bB));clear bB iy x1 x2 hR pf Ij Fi SI SJ wl fA a_ Gv Ih Oq I8 ti Fd hf e_ Jg FG bl yo ji hq iF mK hL S9 Qj ea ii cQ lC mw hs;simp only[FQ.val];obtain ⟨c0,c1,c2,c3⟩:=m5 HB.o.2.2.1;go_enter Tryz.func72,Tryz.ntmps72;go_upto_region 1 with fail;rw[<-fp.o];go_upto_region 6 with (go_at_call 96;refine HIN.o.mono ?_;rintro e w4 ⟨rfl,aO⟩;have H4:=ac aO;clear aO);clear c0 c1 c2 c3;have aM:Below w4.heap.size w4 (w4.alloc (.cells #[.int .u8 0,.string ⟨#[]⟩,.slice none 0 0,.slice none 0 0] 36)):=cO;have o_:=Jf.o.later H4.o;have k0:w4.cell? ⟨kb,0,none⟩=some (.map (some mF)):=ah o_.box 0;have k1:w4.drew.cell? ⟨kb,0,none⟩=some (.map (some mF)):=k0;have x14:=bJ H4.o HB.o.2.2.1;have e1:=ah x14 1;have k3:w4.drew.cell? ⟨w.heap.size,1,none⟩=some (.string ⟨n.toArray⟩):=e1;obtain ⟨k4,k5⟩:=zS aM k0 e1;have wn:=o_.fs.lt;have l1:=HGl.o w4.drew (H4.o.block _ Jf.o.fs.lt);have l2:=HGl.o (w4.alloc (.cells #[.int .u8 0,.string ⟨#[]⟩,.slice none 0 0,.slice none 0 0] 36)).drew ((bE _ _ _ wn).trans (H4.o.block _ Jf.o.fs.lt));obtain ⟨W3,dB⟩:=am (w4.alloc (.cells #[.int .u8 g0,.string g1,.slice g2 g3 g4,.slice g5 g6 g7] 36)).drew;have XW:Below w4.heap.size w4 W3:=by rw[dB];exact cO.drew
  have y3:W3.heap[w4.heap.size]?=some (.cells #[.int .u8 g0,.string g1,.slice g2 g3 g4,.slice g5 g6 g7] 36 (0,0)):=by rw[dB];exact ai rfl
  have H3:=bF (H4.o.tr XW) y3 (Jf.o.later (H4.o.tr XW));clear aM o_ x14 e1 wn XW y3;go_region
  all_goals
   rw[<-dB];clear dB l1 l2 k0 k1 k3 k4 k5;have Nj:=ac (fun (V:World) (h:Below W3.heap.size W3 V)=>jx di f vk.o.2.1 _ V ⟨g0,g1,g2,g3,g4,g5,g6,g7⟩ ((vk.o.1.later H3.o.1).later h));have mz:=ac (fun (V:World) (h:Below W3.heap.size W3 V)=>ov f vk.o.2.1 _ V ⟨g0,g1,g2,g3,g4,g5,g6,g7⟩ ((vk.o.1.later H3.o.1).later h));simp only[FQ.val,<-HN0.o]at Nj mz;obtain ⟨j0,j1,j2,j3,_,_,_,_⟩:=dy H3.o.2.1;have Zj:=ac (Nj.o W3 (aj _ _))
   by_cases h0:n0=0
   ·have oM:((n0:Int) == 0)=true:=by simp;omega
    have pp160:=();exact pm160
   ·have oM:((n0:Int) == 0)=false:=by simp;omega
    have ju:¬((n0:Int)=0):=by omega
    have iy:decide ((n0:Int)=0)=false:=by simp;omega
    exact pm160
 |obtain rfl:=iF.len;obtain rfl:=mK.len;have lC:=Bw (ig _ hs);obtain ⟨n1,ea⟩:=am a.length;obtain ⟨m1,ii⟩:=am ss.length;rw[<-ea]at hq iF;rw[<-ii]at hq mK;rw[<-ea,<-ii];have ji:=dZ.later cQ;have mw:n.length<=2000000:=by have:=lC.2.1;omega
  obtain ⟨Wa,ZB⟩:=am ((w.alloc (.cells #[.int .u8 so,.string ⟨n.toArray⟩,.slice sa n1 sc,.slice sb m1 se] 36)).alloc (.cells #[.int .u8 0,.string ⟨#[]⟩,.slice none 0 0,.slice none 0 0] 36));have bB:=lv ZB;have iy:=yJ ZB;have x1:=t_ ZB;have x2:=j_ ZB;have fA:=ji.later bB;have iz:=fd;obtain ⟨RS,Fd⟩:=am (bV kd c (.mk so n a ss));rw[<-Fd];have Kg:(so == 15)=false:=by simp[eQ]
  have iG:(so == 16)=false:=by simp[dN]
  have hfT:∀ t∈a,fitT t:=fun t ht=>⟨by have:=gF ht;simp only[nodesF]at rI;omega,ke (by omega) t (fI.1 lC.2.2.1 t ht)⟩
  have CF:=FH w nM kb mF mT nF nT kd ji _ vL L c hL.strs (by omega) Qj;have tY:bh so=true->a=[]/\∃g,ss=[g]:=fun h=>(jV hs h).2;have zeJ:n1<=400:=by rw[ea];have:=ix a;simp only[nodesF]at rI;omega
  have zeK:m1<=400:=by rw[ii];have:=qr ss;simp only[nodesF]at rI;omega
  obtain ⟨W1,bY⟩:=am (Wa.alloc (.cells #[.int .u8 so,.string ⟨n.toArray⟩,.slice none 0 0,.slice none 0 0] 36));have TE:=cV bY;have y0:=bJ TE x1;have y1:=bJ TE x2;have y2:W1.heap[w.heap.size+1+1]?=some (.cells #[.int .u8 so,.string ⟨n.toArray⟩,.slice none 0 0,.slice none 0 0] 36 (0,0)):=by rw[bY];exact ai (by rw[iy])
  have Xi:=ac (Fills.start (R:=w.heap.size+1+1) (mk:=fun rr=>#[.int .u8 so,.string ⟨n.toArray⟩,rr,.slice none 0 0]) (Row:=fun r W=>RowT W1.heap.size r ((a.map (cM kd.ts c)).take 0) W) y2 (RowT.nil _ _));have ec:=ac (bB.tr TE);obtain ⟨MC,jN⟩:=aW y0 y1;have HW:=fE ZB bY iy x1 x2;obtain ⟨eb,gt,HFT,za1,pT,Fu,fR,HQs⟩:=Sb iF mK CF hfT ea ii IH tY;have HL:=cG hL S9 Qj cQ;have HP:=rU hs rI za0 hsz zH gz;obtain ⟨R2,UD⟩:=aW lC Fd;have PA:=ac (lP.next cQ);have HQ0:=ac hq;have ED:=aG eQ dN;clear iF mK CF hfT ea ii IH tY hL S9 Qj cQ hs rI za0 hsz zH gz lC Fd lP hq bB iy x1 x2 TE y0 y1 y2 bY ZB fA ji dZ mw;simp only[FQ.val];obtain ⟨c0,c1,c2⟩:=lQ HW.o.2.2.2.1;rw[HW.o.1]at c0 c1 c2;refine m4 Tryz.func72 ?_;simp only[Tryz.ntmps72,Nat.reduceAdd,Nat.reduceSub,lu];gi_wp2;rw[<-HW.o.1,<-HW.o.2.1];clear c0 c1 c2;gi_loopw [66] (fun i wr=>∃k1:Nat,k1<=n1/\i=.int .i64 k1/\∃row,Fills 36 (w.heap.size+1+1) W1.heap.size (fun rr=>#[.int .u8 so,.string ⟨n.toArray⟩,rr,.slice none 0 0]) (fun r W=>RowT W1.heap.size r ((a.map (cM kd.ts c)).take k1) W) W1 wr row) (fun i _=>n1 - (intOf i).toNat)
  case atStart=>exact ⟨0,aX _,rfl,_,Xi.o⟩
  case round=>
   obtain ⟨k1,hk,rfl,row,hF⟩:=hrel;obtain ⟨Fe,Pk⟩:∃x,x=wr:=⟨_,rfl⟩;subst Pk;have ar:=hF.below ec.o (by omega)
   by_cases hlt:k1<n1
   ·have dJ:=ce pT.o hlt;have pp61g:=();exact pm61
   ·obtain rfl:k1=n1:=by omega
    have cB:((a.map (cM kd.ts c)).take k1).length=k1:=by rw[dT];have:=pT.o;simp;omega
    have ki:(a.map (cM kd.ts c)).take k1=(a.map (cM kd.ts c)):=gU (by have:=pT.o;simp;omega);exact pm125):G:=h
theorem pm36(h:G:=by
 go_wp2_with (go_at_call 91;refine mz.o.mono ?_;rintro e w4 ⟨⟨⟨po,pn,pa,pl,pc,pb,pm,pe⟩,rfl,hp⟩,aO⟩;simp only[Option.isSome]at hp ⊢;rw[<-fp.o]at aO;have bm:Below w4.heap.size w4 (w4.alloc (.cells #[.int .u8 po,.string pn,.slice pa pl pc,.slice pb pm pe] 36)):=cO;have tC:=fw.o.later (aO.tr bm) (fun r=>r.below (aO.tr bm));have x5:=tC.other (by omega) Pp.o;obtain ⟨e0,e1,e2,e3,z0,z1,z2,z3⟩:=dy x5;have H5:=aG (aO.tr bm) x5;clear hp aO bm tC x5);have pp279:=();exact pm279):G:=h
theorem pm37(h:G:=by
 exact pm292):G:=h
theorem pm38(h:G:=by
 have pp296:=();exact pm296):G:=h
theorem pm39(h:G:=by
 obtain ⟨S,hS⟩:∃S:World->Prop,S=fun V=>Below w3.heap.size w3 V:=⟨_,rfl⟩;have ff:∀ V,S V->V.cell? ⟨kb,1,none⟩=some (.map (some mT))/\V.cell? ⟨w.heap.size,1,none⟩=some (.string ⟨n.toArray⟩)/\(Instr.lookup 146 (.map (some mT)) (.string ⟨n.toArray⟩) false).run Tryz.prog V=.ok (.agg #[.bool z0,.string z1,.slice z2 z3 z4]) V:=fun V h=>by
  rw[hS]at h;exact ⟨aa h (ah lB.box 1),aa h (ah x3 1),A_ V (h.block _ bg)⟩
 have dU:S w3.drew:=by rw[hS];exact (aj _ _).drew
 first
 |clear pp39a;have HC:=ac (fun (V:World) (h:Below w3.heap.size w3 V)=>ld _ If (by omega) _ V ⟨z0,z1,z2,z3,z4⟩ (hz.later h));simp only[TQ.val]at HC;obtain ⟨m,hm⟩:=am (nodesT (termOf k.ts n));rw[<-hm]at HC rJ;have dp:=ac hS;clear hS lB x3 hz If I9 A_ bg hm e0 e1 e2;refine (wpIn_wide (n:=3)).1 ?_;refine lH S 8 dU fun jC bN=>?_;refine bC 0 15 (.pointer (some ⟨kb,0,none⟩)) rfl bN fun cr=>?_;simp only[ag];refine bC 1 16 (.pointer (some ⟨kb,0,none⟩)) rfl cr fun f_=>?_;simp only[ag];refine bC 2 17 (.pointer (some ⟨kb,1,none⟩)) rfl f_ fun gQ=>?_;simp only[ag];refine dh 3 18 (.map (some mT)) rfl (fun V hX=>by obtain ⟨h0,h1,h2⟩:=ff V hX;go_simp) gQ fun iK=>?_;simp only[ag];refine bC 4 19 (.pointer (some ⟨w.heap.size,1,none⟩)) rfl iK fun jF=>?_;simp only[ag];refine dh 5 20 (.string ⟨n.toArray⟩) rfl (fun V hX=>by obtain ⟨h0,h1,h2⟩:=ff V hX;go_simp) jF fun j7=>?_;simp only[ag];refine dh 6 21 (.agg #[.bool z0,.string z1,.slice z2 z3 z4]) rfl (fun V hX=>by obtain ⟨h0,h1,h2⟩:=ff V hX;go_simp) j7 fun mi=>?_;simp only[ag];refine bZ 7 rfl fun K hK=>?_;go_simp;refine aK.2 ((HC.o _ (by have h:=bN;rw[dp.o]at h;exact h)).mono ?_);rintro e w7 ⟨rfl,fW⟩;have H7:=ac (((aj w3.heap.size w3).drew).trans fW);refine hK _ _ (fun _=>by rw[dp.o];exact H7.o) (fun _=>?_);clear hK K fW;refine bZ 8 rfl fun K hK=>?_;go_simp;refine eS hK ?_;clear hK K;refine kV ?_;clear ff dU bN cr f_ gQ iK jF j7 mi jC;go_wp2;go_ret;exact ⟨by rw[rJ.o];rfl,(H1.o.1.tr H3.o).tr H7.o⟩
 |clear pp39b;have HC:=ac (fun (V:World) (h:Below w3.heap.size w3 V)=>oL _ If _ V ⟨z0,z1,z2,z3,z4⟩ (hz.later h));simp only[TQ.val]at HC;rw[<-HU.o]at HC;have dp:=ac hS;clear hS lB x3 hz If I9 A_ bg;refine (wpIn_wide (n:=3)).1 ?_;refine lH S 8 dU fun jC bN=>?_;refine bC 0 18 (.pointer (some ⟨kb,0,none⟩)) rfl bN fun cr=>?_;simp only[ag];refine bC 1 19 (.pointer (some ⟨kb,0,none⟩)) rfl cr fun f_=>?_;simp only[ag];refine bC 2 20 (.pointer (some ⟨kb,1,none⟩)) rfl f_ fun gQ=>?_;simp only[ag];refine dh 3 21 (.map (some mT)) rfl (fun V hX=>by obtain ⟨h0,h1,h2⟩:=ff V hX;go_simp) gQ fun iK=>?_;simp only[ag];refine bC 4 22 (.pointer (some ⟨w.heap.size,1,none⟩)) rfl iK fun jF=>?_;simp only[ag];refine dh 5 23 (.string ⟨n.toArray⟩) rfl (fun V hX=>by obtain ⟨h0,h1,h2⟩:=ff V hX;go_simp) jF fun j7=>?_;simp only[ag];refine dh 6 24 (.agg #[.bool z0,.string z1,.slice z2 z3 z4]) rfl (fun V hX=>by obtain ⟨h0,h1,h2⟩:=ff V hX;go_simp) j7 fun mi=>?_;simp only[ag];refine bZ 7 rfl fun K hK=>?_;go_simp;refine aK.2 ((HC.o _ (by have h:=bN;rw[dp.o]at h;exact h)).mono ?_);rintro e w7 ⟨⟨pv,pn,pa,pl,pc⟩,rfl,Kk,fW⟩;simp only at Kk ⊢;have ic:=((aj w3.heap.size w3).drew).trans fW;have x7:=(ic.block _ (by omega)).trans bD.o.2.1;obtain ⟨d0,d1,d2,f0,f1,f2⟩:=gN x7;have UE:=Kk.move (ok':=(w.heap.size+2<=·)) (fun b hok hlt=>⟨by have hzd:w3.drew.heap.size=w3.heap.size:=rfl;simp only at hok ⊢;omega,rfl⟩);have H7:=bF ic x7 UE;have hz7:=ic.size;refine hK _ _ (fun _=>by rw[dp.o];exact H7.o.1) (fun _=>?_);clear hK K fW ic x7 Kk UE;refine bZ 8 rfl fun K hK=>?_;go_simp;refine eS hK ?_;clear hK K;refine kV ?_;clear ff dU bN cr f_ gQ iK jF j7 mi jC;clear d0 d1 d2 f0 f1 f2;have x6:=qA (v0:=.bool pv) (v1:=.string pn) (v2:=.slice pa pl pc) H7.o.2.1;have k6:=eM (W:=w7) (b:=w.heap.size+1) (v0:=.bool pv) (v1:=.string pn) (v2:=.slice pa pl pc);obtain ⟨W6,dm⟩:=am (((w7.setCell ⟨w.heap.size+1,0,none⟩ (.bool pv)).setCell ⟨w.heap.size+1,1,none⟩ (.string pn)).setCell ⟨w.heap.size+1,2,none⟩ (.slice pa pl pc));rw[<-dm]at x6 k6 ⊢;clear dm;obtain ⟨g0,g1,g2,_⟩:=gN x6;go_wp2;refine bI (v:=TQ.val ⟨pv,pn,pa,pl,pc⟩) (by simp[TQ.val,results,Tryz.results127,go_sem,g0,g1,g2]) rfl ⟨⟨⟨pv,pn,pa,pl,pc⟩,rfl,H7.o.2.2.move (fun b hok hlt=>⟨by omega,k6.same b hlt (by omega)⟩)⟩,Below.kp1 (bD.o.1.tr H7.o.1) k6 (by omega)⟩
 |have Ql:=mG _ Qk;have hlen:=aU (fO (aC (termOf k.ts n))) (mE (termOf k.ts n));have HC:=ac (fun (V:World) (h:Below w3.heap.size w3 V)=>lU _ If _ V ⟨z0,z1,z2,z3,z4⟩ (hz.later h));simp only[TQ.val]at HC;obtain ⟨m,hm⟩:=am (dI (aC (termOf k.ts n)));have Kl:∀ x∈m,x.length<=2000000:=fun x hx=>by rw[hm,dQ]at hx;exact aU (Ql x hx) (by decide)
  have wn:m.length<=2000000:=by rw[hm];omega
  rw[<-hm]at HC rJ;have HM:=aG Kl wn;clear Kl wn hlen Ql;have dp:=ac hS;clear hS lB x3 hz If I9 Qk A_ bg hm e0 e1 e2;refine (wpIn_wide (n:=3)).1 ?_;refine lH S 9 dU fun jC bN=>?_;refine bC 0 15 (.pointer (some ⟨kb,0,none⟩)) rfl bN fun cr=>?_;simp only[ag];refine bC 1 16 (.pointer (some ⟨kb,0,none⟩)) rfl cr fun f_=>?_;simp only[ag];refine bC 2 17 (.pointer (some ⟨kb,1,none⟩)) rfl f_ fun gQ=>?_;simp only[ag];refine dh 3 18 (.map (some mT)) rfl (fun V hX=>by obtain ⟨h0,h1,h2⟩:=ff V hX;go_simp) gQ fun iK=>?_;simp only[ag];refine bC 4 19 (.pointer (some ⟨w.heap.size,1,none⟩)) rfl iK fun jF=>?_;simp only[ag];refine dh 5 20 (.string ⟨n.toArray⟩) rfl (fun V hX=>by obtain ⟨h0,h1,h2⟩:=ff V hX;go_simp) jF fun j7=>?_;simp only[ag];refine dh 6 21 (.agg #[.bool z0,.string z1,.slice z2 z3 z4]) rfl (fun V hX=>by obtain ⟨h0,h1,h2⟩:=ff V hX;go_simp) j7 fun mi=>?_;simp only[ag];refine bZ 7 rfl fun K hK=>?_;go_simp;refine aK.2 ((HC.o _ (by have h:=bN;rw[dp.o]at h;exact h)).mono ?_);rintro e w7 ⟨⟨v7,rfl,M7⟩,fW⟩;have H7:=ac (((aj w3.heap.size w3).drew).trans fW);have CH:=rM m HM.o.2 HM.o.1 _ w7 v7 M7.1;have Wc:=ac CH;refine hK _ _ (fun _=>by rw[dp.o];exact H7.o) (fun _=>?_);clear hK K fW M7 CH;refine bZ 8 rfl fun K hK=>?_;go_simp;refine aK.2 (Wc.o.mono ?_);rintro e w8 ⟨⟨v8,rfl,Ho⟩,U3⟩;have ic:Below w3.heap.size w3 w8:=lk (w:=w3) H7.o U3;have H8:=aG ic Ho;refine hK _ _ (fun _=>by rw[dp.o];exact H8.o.1) (fun _=>?_);clear hK K U3 ic Ho;refine bZ 9 rfl fun K hK=>?_;go_simp;refine eS hK ?_;clear hK K;refine kV ?_;clear ff dU bN cr f_ gQ iK jF j7 mi jC;go_wp2;go_ret;exact ⟨⟨_,rfl,by rw[rJ.o];exact H8.o.2.base (((H1.o.1.tr H3.o)).size)⟩,(H1.o.1.tr H3.o).tr H8.o.1⟩):G:=h
theorem pm40(h:G:=by
 unfold TQ.val at hs;simp only[cF,Array.mk.injEq,b_,and_true,Value.bool.injEq,Value.string.injEq]at hs;obtain ⟨rfl,rfl,rfl⟩:=hs;obtain rfl:=bL.len
 first
 |clear pp40a;have hlen:=hfit.args.len;obtain ⟨eb,nG,fR⟩:=cH bL hfit.args ih;obtain ⟨k0,bX⟩:=am a.length;rw[<-bX]at hlen;have dA:=ac bX;clear hq bL hfit ih;unfold TQ.val;rw[<-bX];clear bX;refine m4 Tryz.func53 ?_;simp only[Tryz.ntmps53,Nat.reduceAdd,Nat.reduceSub,lu];have iz:=fd;gi_wp2;obtain ⟨W1,bY⟩:=am (((w.alloc (.cells #[.bool qv,.string ⟨n.toArray⟩,.slice qa k0 qc] 43)).alloc (.cells #[.bool false,.string ⟨#[]⟩,.slice none 0 0] 43)).alloc (.cells #[.bool qv,.string ⟨n.toArray⟩,.slice none 0 0] 43));have iN:=yK bY;have x1:W1.heap[w.heap.size+1]?=some (.cells #[.bool false,.string ⟨#[]⟩,.slice none 0 0] 43 (0,0)):=by rw[bY,bE _ _ _ (by simp)];exact ai (by simp)
  have x2:=qi bY;rw[<-bY];clear bY;obtain ⟨ec,jN⟩:=aW iN x1;have wI:=ac (Fills.start (R:=w.heap.size+1+1) (mk:=fun r=>#[.bool qv,.string ⟨n.toArray⟩,r]) (Row:=fun r W=>RowT W1.heap.size r (a.take 0) W) x2 (RowT.nil _ _));clear iN x1 x2;gi_loopw [14] (fun i wr=>∃k:Nat,k<=k0/\i=.int .i64 k/\∃row,Fills 43 (w.heap.size+1+1) W1.heap.size (fun r=>#[.bool qv,.string ⟨n.toArray⟩,r]) (fun r W=>RowT W1.heap.size r (a.take k) W) W1 wr row) (fun i _=>k0 - (intOf i).toNat)
  case atStart=>exact ⟨0,aX _,rfl,_,wI.o⟩
  case round=>
   have pp151b:=();exact pm151
 |clear pp40b;have hlen:=hfit.args.len;have mw:=hfit.name;obtain ⟨eb,nG,fR⟩:=cH bL hfit.args ih;obtain ⟨k0,bX⟩:=am a.length;rw[<-bX]at hlen;have dA:=ac bX;clear hq bL hfit ih;unfold TQ.val;rw[<-bX];clear bX
  cases qv with
  | false=>
   have hp:aN (.mk false n a)=.mk false n (a.map aN):=by simp[aN,lh]
   rw[hp];clear hp;exact pm277
  | true=>
   cases hh:dG n with
   | false=>
    have hp:aN (.mk true n a)=.mk true n (a.map aN):=by simp[aN,lh,hh]
    rw[hp];clear hp;have pp14:=();exact pm14
   | true=>
    obtain ⟨r,rfl⟩:∃r,n=63 :: r:=sW (by
     cases h2:(n.head? == some 63)
     ·simp[dG,h2]at hh
     ·rfl)
    have hp:aN (.mk true (63 :: r) a)=.mk true r (a.map aN):=by simp[aN,lh,hh]
    rw[hp];clear hp;obtain ⟨n,hn⟩:=am (63 :: r);rw[<-hn]at hh mw ⊢;have hx:=jB 63 r;have hsz:(⟨n.toArray⟩:ByteArray).size=r.length+1:=by rw[hn,il];rfl
    have hx':(⟨n.toArray⟩:ByteArray).extract 1 (r.length+1)=⟨r.toArray⟩:=by rw[hn];exact hx
    have hr1:r.length+1<=2000000:=by rw[hn]at mw;simpa using mw
    clear hx hn;exact pm14
 |clear pp40c;have hlen:=hfit.args.len;have mw:=hfit.name;have sY:n.length<=1000000000:=by omega
  have p_:=ac hok;have fR:=ac (fun t ht=>ih t ht (hfit.args.mem ht));have sZ:1<=nodesT (.mk qv n a):=jA _;have qk:1<=dv (.mk qv n a):=by unfold dv;omega
  obtain ⟨k0,bX⟩:=am a.length;have HB:=ac (show Below w.heap.size w (w.alloc (.cells #[.bool qv,.string ⟨n.toArray⟩,.slice qa k0 qc] 43)) from cO);have Ju:JAt J sc left br (w.alloc (.cells #[.bool qv,.string ⟨n.toArray⟩,.slice qa k0 qc] 43)):=hJ.later HB.o;have zb7:J<w.heap.size:=(bz hJ);obtain ⟨eb,HJ⟩:=aW bL hJ;rw[<-bX]at hlen;clear hq bL hfit ih hok hJ;unfold TQ.val;rw[<-bX];have dA:=ac bX;clear bX
  by_cases ME:1<=left/\aZ<=br
  ·obtain ⟨OR,Ul⟩:=ME;have C1:=ac (GN J sc left br aZ _ Ju OR h1 Ul);have iO:Kp (fun c=>c=J) w ((w.alloc (.cells #[.bool qv,.string ⟨n.toArray⟩,.slice qa k0 qc] 43)).setCell ⟨J,1,none⟩ (.int .i64 (left - 1))):=(Kp.below HB.o).trans (oP _);have xO:=Ju.set (left - 1);have hx:((w.alloc (.cells #[.bool qv,.string ⟨n.toArray⟩,.slice qa k0 qc] 43)).setCell ⟨J,1,none⟩ (.int .i64 (left - 1))).heap[w.heap.size]?=some (.cells #[.bool qv,.string ⟨n.toArray⟩,.slice qa k0 qc] 43 (0,0)):=(dV _ _ _ _ (by show w.heap.size≠J;omega)).trans (ai rfl);have oR:=bF iO xO hx;have OS:TermsV ok ((w.alloc (.cells #[.bool qv,.string ⟨n.toArray⟩,.slice qa k0 qc] 43)).setCell ⟨J,1,none⟩ (.int .i64 (left - 1))) (.slice qa k0 qc) a:=by
    have h:=eb.o.move (ok':=ok) (fun b hb hlt=>⟨hb,iO.same b hlt (p_.o b hb)⟩)
    rwa [<-dA.o]at h
   have Z2:=ac OS;obtain ⟨W2,a_⟩:=am ((w.alloc (.cells #[.bool qv,.string ⟨n.toArray⟩,.slice qa k0 qc] 43)).setCell ⟨J,1,none⟩ (.int .i64 (left - 1)));rw[<-a_]at oR C1 Z2;clear iO xO hx Ju eb OS a_;have g0:W2.cell? ⟨w.heap.size,0,none⟩=some (.bool qv):=ah oR.o.2.2 0;have g1:W2.cell? ⟨w.heap.size,1,none⟩=some (.string ⟨n.toArray⟩):=ah oR.o.2.2 1;have g2:W2.cell? ⟨w.heap.size,2,none⟩=some (.slice qa k0 qc):=ah oR.o.2.2 2
   cases qv with
   | true=>
    by_cases ha:a=[]
    ·subst ha;have zb8:k0=0:=by rw[dA.o];rfl
     subst zb8;have my:nodesT (.mk true n [])=1:=rfl;have Oh:dv (.mk true n [])=1:=rfl;have hb:(i8 sc (.mk true n []) && (decide ((nodesT (.mk true n []):Int)<=left) && decide (aZ+dv (.mk true n [])<=br+1)))=(eC n || (sc && c9 n)):=by
      rw[my,Oh];have e1:decide (((1:Nat):Int)<=left)=true:=by simp;omega
      have e2:decide (aZ+((1:Nat):Int)<=br+1)=true:=by simp;omega
      simp only[i8,if_true,List.isEmpty_nil,du,e1,e2,Bool.and_true]
     rw[my]at hn
     cases hv:eC n with
     | true=>
      have CV:=ac (fun w=>hv ▸ iM n w sY);have HE:=ac (hb.trans (by rw[hv] <;> rfl));clear hv hb my Oh sZ qk;have pp91a:=();exact pm91
     | false=>
      have CV:=ac (fun w=>hv ▸ iM n w sY)
      cases sc with
      | false=>
       have HE:=ac (hb.trans (by rw[hv] <;> rfl));clear hv hb my Oh sZ qk;have pp91b:=();exact pm91
      | true=>
       cases ht:c9 n with
       | true=>
        have pp66:=();exact pm66
       | false=>
        exact pm66
    ·have bj:0<k0:=by rw[dA.o];exact iZ.2 ha
     have j9:((k0:Int) == 0)=false:=by simp;omega
     have HE:=ac (show (i8 sc (.mk true n a) && (decide ((nodesT (.mk true n a):Int)<=left) && decide (aZ+dv (.mk true n a)<=br+1)))=false by
      have:a.isEmpty=false:=by cases a with | nil=>exact absurd rfl ha | cons x y=>rfl
      simp[i8,this])
     have HN:=ac sZ;clear sZ qk ha;have pp91c:=();exact pm91
   | false=>
    have my:nodesT (.mk false n a)=nodesTs a+1:=rfl;have Oh:dv (.mk false n a)=bG a+1:=rfl;have hb:(i8 sc (.mk false n a) && (decide ((nodesT (.mk false n a):Int)<=left) && decide (aZ+dv (.mk false n a)<=br+1)))=(decide (a.length<=4) && (CG n && (dH sc a && (decide ((nodesTs a:Int)<=left - 1) && decide (aZ+1+bG a<=br+1))))):=by
     rw[my,Oh];have e1:decide (((nodesTs a+1:Nat):Int)<=left)=decide ((nodesTs a:Int)<=left - 1):=by rw[gV];simp;omega
     have e2:decide (aZ+((bG a+1:Nat):Int)<=br+1)=decide (aZ+1+bG a<=br+1):=by rw[gV];simp;omega
     simp only[i8,bW,if_false,e1,e2,Bool.and_assoc]
    rw[my]at hn
    by_cases h4:k0<=4
    ·have h4':((k0:Int)<=4):=by omega
     have d4:decide (a.length<=4)=true:=by rw[<-dA.o];simpa using h4
     rw[d4,du]at hb
     cases hf:CG n with
     | false=>
      have CF:=ac (fun w=>hf ▸ lS n w sY);have HE:=ac (hb.trans (by rw[hf] <;> rfl));clear hf hb my Oh sZ qk d4;have pp91d:=();exact pm91
     | true=>
      have CF:=ac (fun w=>hf ▸ lS n w sY);rw[hf,du]at hb;have CJ:=ac (fun w3 (aM:Below W2.heap.size W2 w3)=>uj a fR.o ok J sc (left - 1) br (aZ+1) w3 _ _ _ (Z2.o.later aM) p_.o (oR.o.2.1.later aM) (by omega) (by omega) Oj (by omega) (by omega) (by omega));obtain ⟨bb,cQ⟩:=am (dH sc a && (decide ((nodesTs a:Int)<=left - 1) && decide (aZ+1+bG a<=br+1)));rw[<-cQ]at hb CJ;have HE:=ac hb;clear hf hb Oh sZ qk d4 my cQ
      cases bb with
      | true=>
       have pp82:=();exact pm82
      | false=>
       exact pm82
    ·have h4':¬((k0:Int)<=4):=by omega
     have d4:decide (a.length<=4)=false:=by rw[<-dA.o];simpa using h4
     have HE:=ac (hb.trans (by rw[d4] <;> rfl));clear hb my Oh sZ qk;have pp91c:=();exact pm91
  ·have C1:=ac (Lv J sc left br aZ _ Ju h0 h1 ME);have HE:=ac (show (i8 sc (.mk qv n a) && (decide ((nodesT (.mk qv n a):Int)<=left) && decide (aZ+dv (.mk qv n a)<=br+1)))=false by
    rw[Bool.and_eq_false_iff];right;rw[Bool.and_eq_false_iff]
    by_cases hl:1<=left
    ·right;have VI:¬aZ<=br:=fun h=>ME ⟨hl,h⟩;simp only[decide_eq_false_iff_not];omega
    ·left;simp only[decide_eq_false_iff_not];omega)
   have HJ1:=ac Ju;clear Ju sZ qk ME;have pp91e:=();exact pm91
 |clear pp40d;have ej:=hfit.args.len;have fR:=ac (fun t ht=>ih t ht (hfit.args.mem ht));obtain ⟨m0,dW⟩:=am a.length;rw[<-dW]at ej bL;unfold TQ.val;simp only;rw[<-dW];have gR:=ac dW;obtain ⟨W1,bY⟩:=am (W.alloc (.cells #[.bool qv,.string ⟨n.toArray⟩,.slice qa m0 qc] 43));have iN:=cV bY;have I5:J pre W1:=hJ pre _ _ (Nw.below iN) hj;have HX:Hd (W1.heap[W.heap.size]?=some (.cells #[.bool qv,.string ⟨n.toArray⟩,.slice qa m0 qc] 43 (0,0))):=ac (by rw[bY];exact ai rfl);obtain ⟨gt,Cs,jj⟩:=cH bL hM bY;have HL:Hd (W.heap.size<W1.heap.size):=ac (by rw[bY];simp);refine m4 Tryz.func214 ?_;simp only[Tryz.ntmps214,Nat.reduceAdd,Nat.reduceSub,lu];have iz:=fd;cases qv
  ·have mf:aC (.mk false n a)=[] ++ ap a:=by unfold aC;rfl
   rw[mf]at dx ⊢;have zr:=ac (show J (pre ++ []) W1/\Kp M W W1 from ⟨by simpa using I5,Kp.below iN⟩);obtain ⟨ob,HJ,HY⟩:=cH dx hJ hY;clear hq bL hfit ih dW hj iN I5 hJ hM hY dx mf bY;gi_wp2;rw[<-jj.o];gi_loopw [19] (fun i wr=>∃k:Nat,k<=m0/\i=.int .i64 k/\J (pre ++ ([] ++ ap (a.take k))) wr/\Kp M W wr) (fun i _=>m0 - (intOf i).toNat)
   case atStart=>exact ⟨0,aX _,rfl,by simpa[ap] using zr.o.1,zr.o.2⟩
   case round=>
    have pp219b:=();exact pm219
  ·have mf:aC (.mk true n a)=[n] ++ ap a:=by unfold aC;rfl
   rw[mf]at dx ⊢;have rX:=hY pre #[.string ⟨n.toArray⟩] n _ I5 (Kp.below iN) rfl (jO dx);obtain ⟨ob,HJ,HY,ec⟩:=eH dx hJ hY iN;obtain ⟨fn,tmps,assign,body,hy,GR⟩:=jK 2 rX;rw[bY]at hy GR;clear hq bL hfit ih dW hj iN I5 rX hJ hM hY dx mf bY;gi_wp2;refine GR.mono ?_;rintro e W2 ⟨rfl,xO,iO⟩;rw[<-jj.o]at iO;have YY:¬M W.heap.size:=fun h=>by have:=Cs.o _ h;omega
   have qg:=(iO.same W.heap.size HL.o YY).trans HX.o;have p2:W2.cell? ⟨W.heap.size,2,none⟩=some (.slice qa m0 qc):=ah qg 2;have zr:=aG xO ((Kp.below ec.o).trans iO);clear xO iO qg GR hy;gi_wp2;clear p2;gi_loopw [19] (fun i wr=>∃k:Nat,k<=m0/\i=.int .i64 k/\J (pre ++ ([n] ++ ap (a.take k))) wr/\Kp M W wr) (fun i _=>m0 - (intOf i).toNat)
   case atStart=>exact ⟨0,aX _,rfl,by simpa[ap] using zr.o.1,zr.o.2⟩
   case round=>
    have pp219c:=();exact pm219
 |clear pp40e;have hlen:=hfit.args.len;have mw:=hfit.name;obtain ⟨eb,nG,fR,LI⟩:=eH bL hfit.args ih cQ;obtain ⟨k0,bX⟩:=am a.length;rw[<-bX]at hlen;have dA:=ac bX;clear hq bL hfit ih cQ;unfold TQ.val;rw[<-bX];clear bX
  cases qv with
  | false=>
   have hp:gp f (.mk false n a)=.mk false n (a.map (gp f)):=by simp[gp,ib]
   rw[hp];clear hp;exact pm284
  | true=>
   cases su:f n with
   | none=>
    have hp:gp f (.mk true n a)=.mk true n (a.map (gp f)):=by simp[gp,ib,su]
    rw[hp];clear hp;have pp23:=();exact pm23
   | some u=>
    have hp:gp f (.mk true n a)=u:=by simp[gp,su]
    rw[hp];clear hp;have hcu:=hC n u su;exact pm23
 |clear pp40f;have hlen:=hfit.args.len;have mw:=hfit.name;obtain ⟨eb,nG,fR,JV,oO⟩:=t5 bL hfit.args ih Sw cR;obtain ⟨k0,bX⟩:=am a.length;obtain ⟨R,hR⟩:=am (ir ps.reverse ins (.mk qv n a));rw[<-bX]at hlen;have dA:=ac bX;obtain ⟨W3,dB⟩:=am (((w.alloc (.cells q.cells 89)).alloc (.cells #[.bool qv,.string ⟨n.toArray⟩,.slice qa k0 qc] 43)).alloc (.cells #[.bool false,.string ⟨#[]⟩,.slice none 0 0] 43));have aM:=yK dB;have xp:=zO dB;have xt:=sk dB;have x1:=qi dB;have wh:=Ji dB;rw[<-hR];have HR:=ac hR;have bD:=aG aM wh;obtain ⟨HXP,jN,y'⟩:=cH xp x1 dB;have p0:=iE xp;obtain ⟨⟨so,sn,sa,sl,sc,sb,sm,se⟩,⟨fo,fn,fa,fl,fc,fb,fm,fe⟩,ca,cl,cc⟩:=q;simp only[PlQ.cells,PlQ.val,TQ.val]at JV y' p0 ⊢;have t0:W3.cell? ⟨w.heap.size+1,0,none⟩=some (.bool qv):=ah xt 0;have t1:W3.cell? ⟨w.heap.size+1,1,none⟩=some (.string ⟨n.toArray⟩):=ah xt 1;have t2:W3.cell? ⟨w.heap.size+1,2,none⟩=some (.slice qa k0 qc):=ah xt 2;rw[<-bX];clear hq bL hfit ih Sw cR bX hR aM wh xp x1 dB
  cases qv with
  | true=>
   have y_:Hd (R=if ins.contains n then some (ao n) else (b8 ps.reverse n).map ao):=ac (by rw[HR.o];simp[ir]);clear fR;go_enter Tryz.func94,Tryz.ntmps94;go_wp2_with fail;rw[<-y'.o];have CT:=fM L JU.o.2.2.1 n okL W3 vL (oO.o.later bD.o.1);rw[JU.o.2.2.2]at CT;have Hh:=ac CT;clear CT
   cases hc:ins.contains n with
   | true=>
    rw[hc]at Hh y_;have HE:=ac (show R=some (ao n) by rw[y_.o];rfl);have HV:=ac (gK n W3);clear hc p0;refine Hh.o.mono ?_;rintro e w4 ⟨rfl,rfl⟩;go_wp2_with (go_at_call 131;refine HV.o.mono ?_;rintro e w5 ⟨rfl,bm⟩;have x5:=(bm.block _ (by have:=bD.o.2;omega)).trans jN.o;obtain ⟨e0,e1,e2,z0,z1,z2⟩:=gN x5;have H5:=aG bm x5;clear bm x5);obtain ⟨W6,dm,x6,k6,g0,g1,g2⟩:=uL H5.o.2 (.bool true) (.string ⟨n.toArray⟩) (.slice none 0 0);rw[<-dm];refine bI (v:=.tuple #[TQ.val ⟨true,⟨n.toArray⟩,none,0,0⟩,.bool true]) (by simp[TQ.val,results,Tryz.results94,go_sem,g0,g1,g2]) rfl ⟨⟨⟨true,⟨n.toArray⟩,none,0,0⟩,by rw[HE.o];rfl,fun u hu=>?_⟩,Below.kp1 (bD.o.1.tr H5.o.1) k6 (by omega)⟩;rw[HE.o]at hu;cases hu;exact aP.2 ⟨_,rfl,cq⟩
   | false=>
    rw[hc]at Hh y_;have qN:R=(b8 ps.reverse n).map ao:=by rw[y_.o];rfl
    have CN:=C9 ⟨⟨so,sn,sa,sl,sc,sb,sm,se⟩,⟨fo,fn,fa,fl,fc,fb,fm,fe⟩,ca,cl,cc⟩ ps JU.o.1 JU.o.2.1 n W3 (JV.o.later bD.o.1);simp only[PlQ.cells,PlQ.val]at CN;obtain ⟨nm,dD⟩:=am ((b8 ps.reverse n).getD []);obtain ⟨bb,cQ⟩:=am (b8 ps.reverse n).isSome;rw[<-dD,<-cQ]at CN;have hE:R.isSome=bb/\∀ u,R=some u->u=ao nm:=by
     rw[qN,dD,cQ]
     cases b8 ps.reverse n with
     | none=>exact ⟨rfl,fun u h=>by cases h⟩
     | some y=>exact ⟨rfl,fun u h=>by simp at h;exact h.symm⟩
    have HE:=ac hE;have HV:=ac (fun w=>gK nm w);have HCN:=ac CN;clear hc qN dD cQ hE CN;refine Hh.o.mono ?_;rintro e w4 ⟨rfl,rfl⟩;obtain ⟨p0,p1,p2,p3,p4,p5,p6,p7,p8⟩:=p0;go_wp2_with (first | (go_at_call 161;refine HCN.o.mono ?_;rintro e w5 ⟨rfl,bm⟩;have yb:=ac bm;clear bm) | (go_at_call 131;refine (HV.o _).mono ?_;rintro e w6 ⟨rfl,da⟩;have kN:=yb.o.tr da;have x5:=(kN.block _ (by have:=bD.o.2;omega)).trans jN.o;obtain ⟨e0,e1,e2,z0,z1,z2⟩:=gN x5;have H5:=aG kN x5;clear da kN x5));obtain ⟨W6,dm,x6,k6,g0,g1,g2⟩:=uL H5.o.2 (.bool true) (.string ⟨nm.toArray⟩) (.slice none 0 0);rw[<-dm];refine bI (v:=.tuple #[TQ.val ⟨true,⟨nm.toArray⟩,none,0,0⟩,.bool bb]) (by simp[TQ.val,results,Tryz.results94,go_sem,g0,g1,g2]) rfl ⟨⟨⟨true,⟨nm.toArray⟩,none,0,0⟩,by rw[HE.o.1];rfl,fun u hu=>?_⟩,Below.kp1 (bD.o.1.tr H5.o.1) k6 (by omega)⟩;rw[HE.o.2 u hu];exact aP.2 ⟨_,rfl,cq⟩
  | false=>
   have y_:Hd (R=(d9 ps.reverse ins a).map (Tm.mk false n)):=ac (by rw[HR.o];simp[ir]);go_enter Tryz.func94,Tryz.ntmps94;obtain ⟨p0,p1,p2,p3,p4,p5,p6,p7,p8⟩:=p0;go_wp2;rw[<-y'.o];obtain ⟨W1,bY⟩:=am (W3.alloc (.cells #[.bool false,.string ⟨n.toArray⟩,.slice none 0 0] 43));have Da:=cV bY;have hxr:W1.heap[w.heap.size+1+1+1]?=some (.cells #[.bool false,.string ⟨n.toArray⟩,.slice none 0 0] 43 (0,0)):=by rw[bY];exact ai (by have:=bD.o.2;omega)
   rw[<-bY];have gY:W1.heap.size=w.heap.size+4:=by rw[bY];have:=bD.o.2;simp;omega
   have wI:=ac (Fills.start (R:=w.heap.size+1+1+1) (mk:=fun rr=>#[.bool false,.string ⟨n.toArray⟩,rr]) (Row:=fun r W=>RowT W1.heap.size r ([]:List Tm) W) hxr (RowT.nil _ _));have ec:=aG (bD.o.1.tr Da) gY;have Pj:=ac (bJ Da HXP.o);have MW:=ac (bJ Da jN.o);clear bY Da hxr gY p0 p1 p2 p3 p4 p5 p6 p7 p8 t0 t1 t2;go_loopw [40] (fun i wr=>∃k:Nat,k<=k0/\i=.int .i64 k/\∃row us,Fills 43 (w.heap.size+1+1+1) W1.heap.size (fun rr=>#[.bool false,.string ⟨n.toArray⟩,rr]) (fun r W=>RowT W1.heap.size r us W) W1 wr row/\d9 ps.reverse ins (a.take k)=some us/\us.length=k) (fun i _=>k0 - (intOf i).toNat)
   case atStart=>exact ⟨0,aX _,rfl,_,[],wI.o,by simp[d9],rfl⟩
   case round=>
    obtain ⟨k,hk,rfl,row,us,hF,AC,Db⟩:=hrel;have ar:=hF.below ec.o.1 (by omega);obtain ⟨ra,rc,rfl⟩:=hF.row.slice;rw[Db]at hF
    by_cases hlt:k<k0
    ·have dJ:=ce dA.o hlt;have pp61i:=();exact pm61
    ·obtain rfl:k=k0:=by omega
     have ki:a.take k=a:=by rw[dA.o];exact cY
     rw[ki]at AC;have HE:=ac (show R=some (.mk false n us) by rw[y_.o,AC];rfl);have tk:=ac hF.row;have x2:=hF.box;have x1:=hF.other (by omega) MW.o;have c0:wr.cell? ⟨w.heap.size+1+1+1,0,none⟩=some (.bool false):=ah x2 0;have c1:wr.cell? ⟨w.heap.size+1+1+1,1,none⟩=some (.string ⟨n.toArray⟩):=ah x2 1;have c2:wr.cell? ⟨w.heap.size+1+1+1,2,none⟩=some (.slice ra k rc):=ah x2 2;obtain ⟨e0,e1,e2,z0,z1,z2⟩:=gN x1;have HX:=aG x1 ar;clear hF x1 x2 AC ki ar;go_wp2;obtain ⟨W6,dm,x6,k6,g0,g1,g2⟩:=uL HX.o.1 (.bool false) (.string ⟨n.toArray⟩) (.slice ra k rc);rw[<-dm];have hr6:=tk.o.kp1 k6 (by have:=ec.o.2;omega);have h6:TermV (w.heap.size<=·) W6 (TQ.val ⟨false,⟨n.toArray⟩,ra,k,rc⟩) (.mk false n us):=RowT.term (v:=false) (n:=n) (l:=k) hr6 (by have:=ec.o.2;omega);refine bI (v:=.tuple #[TQ.val ⟨false,⟨n.toArray⟩,ra,k,rc⟩,.bool true]) (by simp[TQ.val,results,Tryz.results94,go_sem,g0,g1,g2]) rfl ⟨⟨⟨false,⟨n.toArray⟩,ra,k,rc⟩,by rw[HE.o];rfl,fun u hu=>by rw[HE.o]at hu;cases hu;exact h6⟩,Below.kp1 HX.o.2 k6 (by omega)⟩
 |clear pp40g;have ej:=hfit.args.len;have fR:=ac (fun t ht=>ih t ht (hfit.args.mem ht));obtain ⟨m0,dW⟩:=am a.length;rw[<-dW]at ej bL;unfold TQ.val;simp only;rw[<-dW];have gR:=ac dW;obtain ⟨W1,bY⟩:=am (W.alloc (.cells #[.bool qv,.string ⟨n.toArray⟩,.slice qa m0 qc] 43));have iN:=cV bY;have I5:J pre W1:=hJ pre _ _ (Nw.below iN) hj;have HX:Hd (W1.heap[W.heap.size]?=some (.cells #[.bool qv,.string ⟨n.toArray⟩,.slice qa m0 qc] 43 (0,0))):=ac (by rw[bY];exact ai rfl);obtain ⟨gt,Cs,jj⟩:=cH bL hM bY;have HL:Hd (W.heap.size<W1.heap.size):=ac (by rw[bY];simp);obtain ⟨HG,HJ⟩:=aW hG hJ;obtain ⟨p0,kZ⟩:∃p0:List Str,p0=(if qv then [n] else []):=⟨_,rfl⟩;have mf:aC (.mk qv n a)=p0 ++ ap a:=by unfold aC;rw[kZ];cases qv <;> rfl
  rw[mf]at dx ⊢;have ob:=ac dx;go_enter Tryz.func214,Tryz.ntmps214;cases qv
  ·simp only[bW,if_false]at kZ;subst kZ;have zr:=ac (show J (pre ++ []) W1/\Kp M W W1 from ⟨by simpa using I5,Kp.below iN⟩);clear hq bL hfit ih dW hj iN I5 hJ hM hG dx mf bY;go_wp2;rw[<-jj.o];go_loopw [19] (fun i wr=>∃k:Nat,k<=m0/\i=.int .i64 k/\J (pre ++ ([] ++ ap (a.take k))) wr/\Kp M W wr) (fun i _=>m0 - (intOf i).toNat)
   case atStart=>exact ⟨0,aX _,rfl,by simpa[ap] using zr.o.1,zr.o.2⟩
   case round=>
    have pp219d:=();exact pm219
  ·simp only[if_true]at kZ;subst kZ;have C1:=hG pre n _ I5 (jO dx);obtain ⟨zs,ec⟩:=aW C1 iN;clear hq bL hfit ih dW hj iN I5 hJ hM hG dx mf bY C1;go_wp2_with (rw[<-jj.o];go_at_call 213;refine zs.o.mono ?_;rintro e W2 ⟨rfl,xO,iO⟩;have YY:¬M W.heap.size:=(fun h=>absurd (Cs.o _ h) (Nat.lt_irrefl _));have qg:=(iO.same W.heap.size HL.o YY).trans HX.o;have p2:W2.cell? ⟨W.heap.size,2,none⟩=some (.slice qa m0 qc):=ah qg 2;have zr:=aG xO ((Kp.below ec.o).trans iO);clear xO iO qg YY);clear p2;go_loopw [19] (fun i wr=>∃k:Nat,k<=m0/\i=.int .i64 k/\J (pre ++ ([n] ++ ap (a.take k))) wr/\Kp M W wr) (fun i _=>m0 - (intOf i).toNat)
   case atStart=>exact ⟨0,aX _,rfl,by simpa[ap] using zr.o.1,zr.o.2⟩
   case round=>
    have pp219e:=();exact pm219
 |clear pp40h;have CL:=fun (W:World) (hb:Below w.heap.size w W)=>sH a hfit.args (fun t ht=>ih t ht (hfit.args.mem ht)) ok W qa _ qc (bL.later hb);obtain ⟨k0,bX⟩:=am a.length;rw[<-bX]at CL;obtain ⟨Y0,dA⟩:=aW CL bX;clear hq bL hfit ih CL;unfold TQ.val;rw[<-bX];clear bX;refine m4 Tryz.func107 ?_;simp only[Tryz.ntmps107,Nat.reduceAdd,Nat.reduceSub,lu];have iz:=fd;gi_wp2;obtain ⟨W2,a_⟩:=am ((w.alloc (.cells #[.bool qv,.string ⟨n.toArray⟩,.slice qa k0 qc] 43)).alloc (.cells #[.bool false,.string ⟨#[]⟩,.slice none 0 0] 43));have f9:=lv a_;have x0:=t_ a_;have x1:=j_ a_;rw[<-a_];clear a_;obtain ⟨S,hS⟩:∃S:World->Prop,S=fun V=>Below W2.heap.size W2 V:=⟨_,rfl⟩;have f0:∀ V,S V->V.cell? ⟨w.heap.size,0,none⟩=some (.bool qv)/\V.cell? ⟨w.heap.size,1,none⟩=some (.string ⟨n.toArray⟩)/\V.cell? ⟨w.heap.size,2,none⟩=some (.slice qa k0 qc):=fun V h=>by rw[hS]at h;exact ⟨aa h (ah x0 0),aa h (ah x0 1),aa h (ah x0 2)⟩
  have dU:S W2.drew:=by rw[hS];exact (aj _ _).drew
  obtain ⟨dp,cw,jN⟩:=cH hS f9 x1;clear hS f9 x0 x1;refine lH S 8 dU fun jC bN=>?_;refine bC 0 3 (.pointer (some ⟨w.heap.size,0,none⟩)) rfl bN fun cr=>?_;simp only[ag];refine dh 1 4 (.bool qv) rfl (fun V hX=>by obtain ⟨g0,g1,g2⟩:=f0 V hX;go_simp) cr fun f_=>?_;simp only[ag];refine bC 2 5 (.pointer (some ⟨w.heap.size,1,none⟩)) rfl f_ fun gQ=>?_;simp only[ag];refine dh 3 6 (.string ⟨n.toArray⟩) rfl (fun V hX=>by obtain ⟨g0,g1,g2⟩:=f0 V hX;go_simp) gQ fun iK=>?_;simp only[ag];refine bC 4 7 (.pointer (some ⟨w.heap.size,2,none⟩)) rfl iK fun jF=>?_;simp only[ag];refine dh 5 8 (.slice qa k0 qc) rfl (fun V hX=>by obtain ⟨g0,g1,g2⟩:=f0 V hX;go_simp) jF fun j7=>?_;simp only[ag];refine bZ 6 rfl fun K hK=>?_;go_simp;refine aK.2 ((Y0.o W2.drew (cw.o.drew)).mono ?_);rintro _ A ⟨ra,rc,rfl,hp,hA⟩;have cC:Below W2.heap.size W2 A:=((aj W2.heap.size W2).drew).trans hA;have HP:=aG hp cC;refine hK _ _ (fun _=>by rw[dp.o];exact cC) (fun _=>?_);clear hK K hA;refine bZ 7 rfl fun K hK=>?_;go_simp;refine hK _ _ (fun _=>by rw[dp.o];exact HP.o.2) (fun _=>?_);clear hK K;refine bZ 8 rfl fun K hK=>?_;have y1:=bJ HP.o.2 jN.o;obtain ⟨e0,e1,e2⟩:=lQ y1;have z0:=ae y1 0;have z1:=ae y1 1;have z2:=ae y1 2;have VN:=ac y1;clear y1 hp cC;go_simp;refine eS hK ?_;clear hK K;refine kV ?_;gi_wp2;have x6:=qA (v0:=.bool qv) (v1:=.string ⟨n.toArray⟩) (v2:=.slice ra k0 rc) VN.o;have k6:=eM (W:=A) (b:=w.heap.size+1) (v0:=.bool qv) (v1:=.string ⟨n.toArray⟩) (v2:=.slice ra k0 rc);obtain ⟨W6,dm⟩:=am (((A.setCell ⟨w.heap.size+1,0,none⟩ (.bool qv)).setCell ⟨w.heap.size+1,1,none⟩ (.string ⟨n.toArray⟩)).setCell ⟨w.heap.size+1,2,none⟩ (.slice ra k0 rc));rw[<-dm]at x6 k6 ⊢;clear dm;have g0:W6.cell? ⟨w.heap.size+1,0,none⟩=some (.bool qv):=ah x6 0;have g1:W6.cell? ⟨w.heap.size+1,1,none⟩=some (.string ⟨n.toArray⟩):=ah x6 1;have g2:W6.cell? ⟨w.heap.size+1,2,none⟩=some (.slice ra k0 rc):=ah x6 2;have hz:=(bz jN.o);obtain ⟨hp,cC⟩:=HP.o;have AK:TermsV (w.heap.size<=·) W6 (.slice ra k0 rc) a:=hp.move (fun b hok hlt=>⟨aU cw.o.size hok,k6.same b hlt (by have:W2.heap.size<=b:=hok;omega)⟩);refine bI (v:=TQ.val ⟨qv,⟨n.toArray⟩,ra,k0,rc⟩) (by simp[TQ.val,results,Tryz.results107,go_sem,g0,g1,g2]) rfl ⟨⟨qv,⟨n.toArray⟩,ra,k0,rc⟩,rfl,aP.2 ⟨_,rfl,AK⟩,Below.kp1 (cw.o.trans (cC.mono cw.o.size)) k6 (by omega)⟩
 |have hlen:=hfit.args.len;have mw:=hfit.name;obtain ⟨eb,nG,fR,LI⟩:=eH bL hfit.args ih cQ;obtain ⟨k0,bX⟩:=am a.length;rw[<-bX]at hlen;have dA:=ac bX;clear hq bL hfit ih cQ;unfold TQ.val;rw[<-bX];clear bX
  cases qv with
  | false=>
   have hp:cM kd.ts sc (.mk false n a)=.mk false n (a.map (cM kd.ts sc)):=by simp[cM,ph]
   rw[hp];clear hp;have pp246:=();exact pm246
  | true=>
   obtain ⟨X,hX⟩:=am ((w.alloc (.cells #[.bool true,.string ⟨n.toArray⟩,.slice qa k0 qc] 43)).alloc (.cells #[.bool false,.string ⟨#[]⟩,.slice none 0 0] 43));have Pc:=lv hX;have y1:=j_ hX;have y0:=t_ hX;have rX:=yJ hX;have tE:=ac (kh n X (by omega));have HY:=fE Pc y1 y0 rX (LI.o.tr Pc);have HX:=ac hX;clear Pc y1 y0 rX hX
   cases oG:dz n with
   | false=>
    rw[oG]at tE
    cases yd:sc.contains n with
    | false=>
     have hp:cM kd.ts sc (.mk true n a)=.mk true n (a.map (cM kd.ts sc)):=by
      have h2:¬n∈sc:=by simpa using yd
      simp[cM,ph,oG,h2]
     have pp140:=();exact pm140
    | true=>
     have hp:cM kd.ts sc (.mk true n a)=ao (bQ n):=by
      have h2:n∈sc:=by simpa using yd
      simp[cM,oG,h2]
     exact pm140
   | true=>
    rw[oG]at tE;have hp:cM kd.ts sc (.mk true n a)=termOf kd.ts n:=by simp[cM,oG]
    rw[hp];clear hp oG;obtain ⟨u,hu⟩:=am (termOf kd.ts n);rw[<-hu];have HU:=ac hu;clear hu;have iz:=fd;obtain ⟨e0,e1,e2,_⟩:=gN HY.o.2.2.1;rw[HX.o]at e0 e1 e2;go_enter Tryz.func127,Tryz.ntmps127;go_upto_region 1 with fail;go_upto_region 2 with (go_at_call 119;rw[<-HX.o];refine tE.o.mono ?_;rintro e w3 ⟨rfl,aM⟩;have y1:=(aM.block _ (by have:=HY.o.2.2.2.1;omega)).trans HY.o.2.1;have y0:=(aM.block _ (by have:=HY.o.2.2.2.1;omega)).trans HY.o.2.2.1;have pP:=aM.size;have pR:=HY.o.2.2.2.1;have JP:w.heap.size+2<=w3.heap.size:=(by omega);have bD:=cG (HY.o.1.tr aM) y1 y0 (HY.o.2.2.2.2.tr aM);clear aM pP pR y1 y0);clear e0 e1 e2;have lB:=Jf.o.later bD.o.2.2.2;obtain ⟨⟨z0,z1,z2,z3,z4⟩,hz,If,I9,_,_,A_⟩:=lB.termOf (x:=n) mw;simp only[TQ.val]at A_;have bg:=lB.ts.lt;have x3:=bD.o.2.2.1;have pp39b:=();exact pm39):G:=h
theorem pm41(h:G:=by
 rintro D X hD ⟨k',ym,uW,h1,h2,h3,h4,h5,h6,h7,h8⟩ _ hd;have XI:=UX.o;rw[h1,au rfl]at XI;have Gu:=qQ s f [];have Kh:Kp M nN X:=iH.o.2.2.2.1.trans ((Kp.below iH.o.1).trans h8);have kz:Marks m_.heap.size X ({ target:=.collected D,args:=#[] } :: XF):=iH.o.2.2.1.more (w':=X) (fun E hE hx=>(h8.same E (bz hx) (fun hm=>by have:=t4.o.2.2.2.2.1 E hm;omega)).trans hx) hD (by have:=iH.o;omega) hd;have HZ:=ac (Sa Kh kz h6 h7 h2 h5 XI);have QU:=ac (show ym<=nF+(j+1) * 400/\uW<=nT+(j+1) * 160000 by have:=wm.o.1;have:=wm.o.2.1;have:=wm.o.2.2.1;omega);clear h1 h2 h3 h4 h5 h6 h7 h8 XI Gu Kh kz hd;gi_wp2;refine RoundEnd.mk ?hT ?hr ?hm
 case hT=>kernel_rfl
 case hr=>
  refine ⟨j+1,by omega,by kernel_rfl,HZ.o.2.1,HZ.o.1,HZ.o.2.2.1,HZ.o.2.2.2.1,k',ym,uW,HZ.o.2.2.2.2.1,QU.o.1,QU.o.2,HZ.o.2.2.2.2.2.1,HZ.o.2.2.2.2.2.2⟩
 case hm=>
  refine (show n1 - (intOf (Value.int IntKind.i64 (((j+1:Nat)):Int))).toNat<n1 - (intOf (Value.int IntKind.i64 (j:Int))).toNat from ?_);simp[intOf];omega):G:=h
theorem pm42(h:G:=by
 obtain ⟨hZ,wK⟩:=am wr;subst wK;have vh:=ac (gG.o.trans (dt.mono gG.o.size));have vi:=ac (bJ dt l9.o);have S2:=ac (bJ dt nj.o);have S3:=ac (pL.o.later dt);have x0:hZ.cell? ⟨w.heap.size,0,none⟩=some (.int .u8 uo):=ah vi.o 0;have x1:hZ.cell? ⟨w.heap.size,1,none⟩=some (.string ⟨xn.toArray⟩):=ah vi.o 1;have x2:hZ.cell? ⟨w.heap.size,2,none⟩=some (.slice ua k0 uc):=ah vi.o 2;have x3:hZ.cell? ⟨w.heap.size,3,none⟩=some (.slice ub k1 ue):=ah vi.o 3;clear dt ht l9 nj pL gG
 first
 |clear pp42a;go_wp2_with (go_at_call 93;refine (Hz.o _).mono ?_;rintro e X4 ⟨rfl,aO⟩;have l9:=ac (bJ aO vi.o);have nj:=ac (bJ aO S2.o);have pL:=ac (S3.o.later aO);have gG:=ac (vh.o.trans (aO.mono vh.o.size));have z3:X4.cell? ⟨w.heap.size,3,none⟩=some (.slice ub k1 ue):=ah l9.o 3;clear aO);go_loopw [80] (fun i wr=>∃k:Nat,k<=k1/\i=.int .i64 k/\Below X4.heap.size X4 wr/\R=cb ps.reverse (xs.drop k) (ys.drop k)) (fun i _=>k1 - (intOf i).toNat)
  case atStart=>exact ⟨0,aX _,rfl,aj _ _,by simpa using PY.o⟩
  case round=>
   have pp309c:=();exact pm309
 |clear pp42b;go_wp2_with (go_at_call 93;refine (Hz.o _).mono ?_;rintro e X4 ⟨rfl,aO⟩;have l9:=ac (bJ aO vi.o);have nj:=ac (bJ aO S2.o);have pL:=ac (S3.o.later aO);have gG:=ac (vh.o.trans (aO.mono vh.o.size));have z3:X4.cell? ⟨w.heap.size,3,none⟩=some (.slice ub k1 ue):=ah l9.o 3;clear aO);obtain ⟨S,hS⟩:∃S:World->Prop,S=fun V=>Below X4.heap.size X4 V:=⟨_,rfl⟩;have rY:X4.cell? ⟨w.heap.size,1,none⟩=some (.string ⟨xn.toArray⟩):=ah l9.o 1;have rX:X4.cell? ⟨w.heap.size+1,1,none⟩=some (.string ⟨xn.toArray⟩):=ah nj.o 1;have f0:∀ V,S V->V.cell? ⟨w.heap.size,1,none⟩=some (.string ⟨xn.toArray⟩):=fun V h=>by rw[hS]at h;exact aa h rY
  have f1:∀ V,S V->V.cell? ⟨w.heap.size+1,1,none⟩=some (.string ⟨xn.toArray⟩):=fun V h=>by rw[hS]at h;exact aa h rX
  have dU:S X4.drew:=by rw[hS];exact (aj _ _).drew
  have Gu:=HP.o.cases;obtain ⟨UT,dp⟩:=aW Gu hS;clear hS rY rX Gu;refine (wpIn_wide (n:=3)).1 ?_;refine lH S 12 dU fun jC bN=>?_;refine bC 0 64 (.slice pa p0 pc) rfl bN fun cr=>?_;simp only[ag];refine bC 1 65 (.slice pa p0 pc) rfl cr fun f_=>?_;simp only[ag];refine bC 2 66 (.int .i64 (p0:Int)) rfl f_ fun gQ=>?_;simp only[ag];refine bC 3 67 (.slice pa p0 pc) rfl gQ fun iK=>?_;simp only[ag];refine bC 4 68 (.int .i64 (p0:Int)) rfl iK fun jF=>?_;simp only[ag];refine dh 5 69 (.slice pa p0 p0) rfl (fun V hX=>by rcases UT.o with ⟨rfl,rfl,rfl⟩ | ⟨b,off,rfl⟩ <;> go_simp) jF fun j7=>?_;simp only[ag];refine bC 6 70 (.pointer (some ⟨w.heap.size,1,none⟩)) rfl j7 fun mi=>?_;simp only[ag];refine dh 7 71 (.string ⟨xn.toArray⟩) rfl (fun V hX=>by have g0:=f0 V hX;go_simp) mi fun rF=>?_;simp only[ag];refine bC 8 72 (.pointer (some ⟨w.heap.size+1,1,none⟩)) rfl rF fun Hv=>?_;simp only[ag];refine dh 9 73 (.string ⟨xn.toArray⟩) rfl (fun V hX=>by have g1:=f1 V hX;go_simp) Hv fun zh=>?_;simp only[ag];refine bC 10 74 (.agg #[.string ⟨xn.toArray⟩,.string ⟨xn.toArray⟩]) rfl zh fun Hw=>?_;simp only[ag];refine bZ 11 rfl fun K hK=>?_;go_simp;have mJ:Below X4.heap.size X4 (X4.alloc (.cells #[.string ⟨xn.toArray⟩,.string ⟨xn.toArray⟩] 213)).drew:=((aj _ X4).alloc (aD _) _).drew;refine hK _ _ (fun _=>by rw[dp.o];exact mJ) (fun _=>?_);clear hK K;have hold:((.slice pa p0 p0:Value)=.slice none 0 0/\p0=0/\gd ps=[])\/∃b,(.slice pa p0 p0:Value)=.slice (some b) p0 p0/\(gd ps).length=p0 * 2/\∀ j u,(gd ps)[j]?=some u->(X4.alloc (.cells #[.string ⟨xn.toArray⟩,.string ⟨xn.toArray⟩] 213)).drew.cell? (b.add j)=some u:=by
   exact pm120
  refine bZ 12 rfl fun K hK=>?_;refine gA (.tmp 69) (.tmp 75) 87 rfl 213 i0 (.agg #[.string ByteArray.empty,.string ByteArray.empty]) 2 32 Tryz.underlying87 hi oM ju iy rfl (by decide) (.slice pa p0 p0) p0 (gd ps) rfl hold ⟨X4.heap.size,0,none⟩ 1 1 [.string ⟨xn.toArray⟩,.string ⟨xn.toArray⟩] rfl rfl (dc (cs:=#[.string ⟨xn.toArray⟩,.string ⟨xn.toArray⟩]) (t:=213) (fr:=(0,0)) (fZ X4 _)) (by simp[Value.oneCell']) (by decide) (by unfold maxLen;omega) (by omega) ?_;intro g cap X5 aA aq;have wk:Below X4.heap.size X4 X5:=⟨aq.os.trans mJ.os,aq.tape.trans mJ.tape,aq.output.trans mJ.output,aU mJ.size aq.size,fun b hb=>(aq.block b (bH hb mJ.size) (by simp)).trans (mJ.block b hb)⟩;have PZ:=bJ wk l9.o;have UU:=bJ wk nj.o;have J4:=gG.o.trans (wk.mono gG.o.size);rw[<-kr (xn,xn) ps]at aA;have pS:=PairsV.own aA;have z5:X5.cell? ⟨w.heap.size,3,none⟩=some (.slice ub k1 ue):=ah PZ 3;clear l9 nj gG pL z3;obtain ⟨l9,nj,gG,pL⟩:=eH PZ UU J4 pS;clear PZ UU J4 pS aA aq mJ wk hold;refine eS hK ?_;clear hK K;refine bZ 13 rfl fun K hK=>?_;go_simp;refine eS hK ?_;clear hK K;refine kV ?_;go_wp2;go_loopw [80] (fun i wr=>∃k:Nat,k<=k1/\i=.int .i64 k/\Below X5.heap.size X5 wr/\R=cb (ps ++ [(xn,xn)]).reverse (xs.drop k) (ys.drop k)) (fun i _=>k1 - (intOf i).toNat)
  case atStart=>exact ⟨0,aX _,rfl,aj _ _,by simpa using PY.o⟩
  case round=>
   have pp309d:=();exact pm309
 |go_wp2_with (go_at_call 146;refine (Hz.o _).mono ?_;rintro e X4 ⟨rfl,aO⟩;have l9:=ac (bJ aO vi.o);have nj:=ac (bJ aO S2.o);have pL:=ac (S3.o.later aO);have gG:=ac (vh.o.trans (aO.mono vh.o.size));have z3:X4.cell? ⟨w.heap.size,3,none⟩=some (.slice ub k1 ue):=ah l9.o 3;clear aO);go_loopw [80] (fun i wr=>∃k:Nat,k<=k1/\i=.int .i64 k/\Below X4.heap.size X4 wr/\R=cb ps.reverse (xs.drop k) (ys.drop k)) (fun i _=>k1 - (intOf i).toNat)
  case atStart=>exact ⟨0,aX _,rfl,aj _ _,by simpa using PY.o⟩
  case round=>
   exact pm309):G:=h
theorem pm43(h:G:=by
 exact pm105):G:=h
theorem pm44(h:G:=by
 refine dh 1 93 (.agg #[.int .u8 so,.string sn,.slice sa sl sc,.slice sb sm se,.int .u8 fo,.string fn,.slice fa fl fc,.slice fb fm fe,.slice ca cl cc]) rfl (fun V hX=>by obtain ⟨h0,h1,h2,h3,h4,h5,h6,h7,h8⟩:=pp V hX;go_simp) cr fun f_=>?_;simp only[ag];refine dh 2 94 (.agg #[.bool xv,.string xn,.slice xa xl xc]) rfl (fun V hX=>by obtain ⟨h0,h1,h2⟩:=tt V hX;go_simp) f_ fun gQ=>?_;simp only[ag];refine bC 3 95 (.pointer (some ⟨W.heap.size+1+1,2,none⟩)) rfl gQ fun iK=>?_;simp only[ag];refine dh 4 96 (.slice (some ⟨b2,o2,none⟩) n1 uc) rfl (fun V hX=>by have h0:=uu V hX;go_simp) iK fun jF=>?_;simp only[ag];refine bC 5 97 (.int .i64 (j:Int)) rfl jF fun j7=>?_;simp only[ag];refine bC 6 98 (.pointer (some ⟨b2,o2+j * 3,none⟩)) rfl j7 fun mi=>?_;simp only[ag];refine dh 7 99 (.agg #[.bool yv,.string yn,.slice ya yl yc]) rfl (fun V hX=>by obtain ⟨h0,h1,h2⟩:=yy V hX;go_simp) mi fun rF=>?_;simp only[ag]
 first
 |clear pp44;refine bZ 8 rfl fun K hK=>?_
  go_simp;refine aK.2 (HC.o.mono ?_);rintro e w7 ⟨ox,r,rfl,gE,_⟩;obtain rfl:=gE (by simp);have H7:=ac ox;clear ox gE;refine eS hK ?_;clear hK K;refine bZ 9 rfl fun K hK=>?_;go_simp;refine eS hK ?_;clear hK K;refine kV ?_;clear pp tt uu yy dU bN jC;go_wp2;go_ret;exact ⟨((Kp.below H3.o.1).trans HK.o.1).trans H7.o,false,rfl,(fun _=>rfl),(fun ts gz=>by rw[Kd.o]at gz;cases gz)⟩
 |refine bZ 8 rfl fun K hK=>?_
  go_simp;refine aK.2 (HC.o.mono ?_);rintro e w7 ⟨ox,r,rfl,_,UR⟩;obtain ⟨rfl,nT7,US,AR⟩:=UR _ rfl;have H7:=bF ox US AR;clear ox UR US AR;refine eS hK ?_;clear hK K;refine bZ 9 rfl fun K hK=>?_;go_simp;refine eS hK ?_;clear hK K;refine kV ?_;clear pp tt uu yy dU bN jC;go_wp2;go_roundw
  case rel=>exact ⟨j+1,nT7,ts0,by omega,by go_num,HK.o.1.trans H7.o.1,by have:=H7.o.2.1;have:=HK.o.2;omega,H7.o.2.2,Kd.o⟩
  case measure=>simp[intOf];omega):G:=h
theorem pm45(h:G:=by
 rw[<-bX]at e_;rw[<-dW]at yX;rw[<-j9]at Au;rw[<-ii]at SZ;rw[<-kZ]at hp;rw[<-bX,<-dW,<-j9,<-ii,<-kZ];obtain ⟨dA,gR,Jd,Fu,yV,MU,Pf,Pa,Zd,HP⟩:=Lg bX dW j9 ii kZ e_ yX Au SZ hp;obtain ⟨fR,PX,SR⟩:=cH ih xZ Ct;clear hR bX dW j9 ii kZ e_ yX Au SZ hp ih hf xZ Ct hq ip hD;obtain ⟨W2,a_⟩:=am ((w.alloc (.cells #[.int .u8 uo,.string ⟨xn.toArray⟩,.slice ua k0 uc,.slice ub k1 ue] 36)).alloc (.cells #[.int .u8 vo,.string ⟨yn.toArray⟩,.slice va m0 vc,.slice vb m1 ve] 36));have bB:=lv a_;have HX:Hd (W2.heap[w.heap.size]?=some (.cells #[.int .u8 uo,.string ⟨xn.toArray⟩,.slice ua k0 uc,.slice ub k1 ue] 36 (0,0))):=ac (by rw[a_];exact (bE _ _ _ (by simp)).trans (ai rfl));have HY:Hd (W2.heap[w.heap.size+1]?=some (.cells #[.int .u8 vo,.string ⟨yn.toArray⟩,.slice va m0 vc,.slice vb m1 ve] 36 (0,0))):=ac (by rw[a_];exact ai (by simp));obtain ⟨cw,fp⟩:=aW bB a_
 first
 |clear pp45;have Hz:=ac (fun (W:World)=>eX ⟨uo,⟨xn.toArray⟩,ua,k0,uc,ub,k1,ue⟩ W);unfold FQ.val at Hz;simp only at Hz;clear bB a_;unfold FQ.val
  by_cases C5:uo=vo/\k0=m0/\k1=m1
  ·obtain ⟨rfl,rfl,rfl⟩:=C5;have pp122:=();exact pm122
  ·have D_:R=false:=by
    exact pm288
   have HE:=ac D_;clear hm D_;go_enter Tryz.func92,Tryz.ntmps92;exact pm59
 |have Hz:=ac (fun (W:World)=>ly ⟨uo,⟨xn.toArray⟩,ua,k0,uc,ub,k1,ue⟩ W);unfold FQ.val at Hz;simp only at Hz;clear bB a_;unfold FQ.val
  by_cases C5:uo=vo/\k0=m0/\k1=m1
  ·obtain ⟨rfl,rfl,rfl⟩:=C5;exact pm122
  ·have D_:R=false:=by
    exact pm288
   have HE:=ac D_;clear hm D_;go_enter Tryz.func83,Tryz.ntmps83;exact pm59):G:=h
theorem pm46(h:G:=by
 have HE:Hd (BX=false):=ac (hM.trans (by simp));clear hM sZ qk Cw cQ;exact pm72):G:=h
theorem pm47(h:G:=by
 have hs:=hb.size;refine ⟨qs ++ [(x,q)],by simp[hk],by rw[List.flatMap_append];simpa using aV,fun j h1 h2=>?_⟩
 by_cases hj:j<qs.length
 ·rw[List.getElem_append_left hj,List.getElem_append_left (by omega)];refine ⟨(ht j hj (by omega)).1,(ht j hj (by omega)).2.move (fun b hok hlt=>⟨⟨hok.1,fun e=>?_⟩,(hold b hok.1 (by omega) hok.2).trans (hb.block b hlt)⟩)⟩;injection e with e;obtain rfl:g=b:=e;rcases hg with hg | hg
  ·exact hok.2 hg
  ·omega
 ·have sq:j=ts.length:=by simp at h2;omega
  have pp257:=();exact pm257):G:=h
theorem pm48(h:G:=by
 go_enter Tryz.func239,Tryz.ntmps239;go_wp2
 first
 |clear pp48a;go_quiet ((first | (go_at_call 240;exact fU (CR.o _)) | (go_at_call 190;exact fU (CF.o _))));go_wp2;go_ret;exact ⟨az (qw (by rw[n_ h1];exact HF.o)).symm,⟨_,rfl⟩⟩
 |clear pp48b;go_quiet ((first | (go_at_call 240;exact fU (CR.o _)) | (go_at_call 190;exact fU (CF.o _))));exact pm26
 |clear pp48c;go_quiet ((go_at_call 240;exact fU (CR.o _)));go_wp2;go_ret;exact ⟨az (wF HR.o).symm,⟨_,rfl⟩⟩
 |clear pp48d;go_quiet (fail);go_wp2;go_ret;exact ⟨az (mc (by rw[kf];omega)).symm,⟨_,rfl⟩⟩
 |clear pp48e;go_quiet ((first | (go_at_call 240;exact fU (CR.o _)) | (go_at_call 216;exact fU (CF.o _))));go_wp2;go_ret;exact ⟨az (qw (by rw[n_ h1];exact HF.o)).symm,⟨_,rfl⟩⟩
 |clear pp48f;go_quiet ((first | (go_at_call 240;exact fU (CR.o _)) | (go_at_call 216;exact fU (CF.o _))));go_wp2;go_loopw [5] (fun i wr=>∃k:Nat,1<=k/\k<=s.size/\i=.int .i64 k/\lJ CW (s.data.toList.take k).tail=true/\∃n,wr=w.drewN n) (fun i _=>s.size - (intOf i).toNat)
  case atStart=>exact ⟨1,aD _,h1,rfl,by rw[List.take_one];cases s.data.toList <;> simp[lJ],⟨_,rfl⟩⟩
  case round=>
   obtain ⟨k,j9,hk,rfl,ha,hw⟩:=hrel;have hc3:wr.cell? ⟨b2,0,none⟩=some (.func (.func 217) #[] #[]):=by obtain ⟨n,rfl⟩:=hw;exact DT
   obtain ⟨HA,HW⟩:=aW ha hw;clear ha d1 d2 hw VL DT
   by_cases hlt:k<s.size
   ·cases hp:CW s[k].toNat
    ·have HP:=ac hp;have pp262:=();exact pm262
    ·have HP:=ac hp;exact pm262
   ·obtain rfl:k=s.size:=by omega
    exact pm280
 |clear pp48g;go_quiet ((first | (go_at_call 240;exact fU (CR.o _)) | (go_at_call 188;exact fU (CF.o _))));go_wp2;go_ret;exact ⟨az (qw (by rw[n_ h1];exact HF.o)).symm,⟨_,rfl⟩⟩
 |go_quiet ((first | (go_at_call 240;exact fU (CR.o _)) | (go_at_call 188;exact fU (CF.o _))));exact pm26):G:=h
theorem pm49(h:G:=by
 exact pm204):G:=h
theorem pm50(h:G:=by
 have hs:=hb.size;refine ⟨qs ++ [q],by simp[hk],by rw[List.flatMap_append];simpa using aV,fun j h1 h2=>?_⟩
 by_cases hj:j<qs.length
 ·rw[List.getElem_append_left hj,List.getElem_append_left (by omega)];refine (ht j hj (by omega)).move (fun b hok hlt=>⟨⟨hok.1,fun e=>?_⟩,(hold b hok.1 (by omega) hok.2).trans (hb.block b hlt)⟩);injection e with e;obtain rfl:g=b:=e;rcases hg with hg | hg
  ·exact hok.2 hg
  ·omega
 ·have sq:j=ts.length:=by simp at h2;omega
  exact pm257):G:=h
theorem pm51(h:G:=by
 have f9:=cV a_;have xb:=bU a_;rw[<-a_];clear a_ d0 d1 d2;have gZ:=HF.o.later f9 (fun r=>r.below f9);have pp154b:=();exact pm154):G:=h
theorem pm52(h:G:=by
 have BU:Kp M W2 w4:=H4.o.1.two xC.o.1 xC.o.2.1;have gY:Kp (fun b=>b=aB+1) w4 (w4.setCell ⟨aB+1,0,none⟩ (.int .i64 er)):=iW;have jP:Kp (fun b=>b=aB) (w4.setCell ⟨aB+1,0,none⟩ (.int .i64 er)) ((w4.setCell ⟨aB+1,0,none⟩ (.int .i64 er)).setCell ⟨aB,0,none⟩ (.int .i64 j)):=iW;have Cy:Kp M w4 ((w4.setCell ⟨aB+1,0,none⟩ (.int .i64 er)).setCell ⟨aB,0,none⟩ (.int .i64 j)):=(gY.mono (fun b _ h=>by subst h;exact xC.o.2.2.2.1)).trans (jP.mono (fun b _ h=>by subst h;exact xC.o.2.2.1));have xa5:=(gY.same _ (bz H4.o.2.2.2.1) (by omega)).trans H4.o.2.2.2.1;refine ⟨trivial,(BU.trans Cy).from _,rfl,k3,er,Ox,HG.o.2.2.2.2.2.2.1,?_,iV xa5,(HG.o.2.2.2.2.1.trans BU).trans Cy⟩;exact (jP.same _ (bz (iV H4.o.2.2.1 (v:=.int .i64 er))) (by omega)).trans (iV H4.o.2.2.1)):G:=h
theorem pm53(h:G:=by
 have kt:=ce Fu.o hlt;have ar:=gG.o.trans (dt.mono gG.o.size);obtain ⟨b,off,u,rfl,_,hu,c0,c1,c2,c3⟩:=Pa.o.get bg;obtain ⟨b',jD,u',rfl,_,gu,j6,kG,kH,AY⟩:=Zd.o.get kt;have lX:=SR.o.mem (aw bg);rw[ks bg kt]at ht
 first
 |clear pp53a;obtain ⟨e,he⟩:=am (cP (ps ++ [(xn,yn)]).reverse xs[k] ys[k]);rw[<-he]at ht;obtain ⟨d0,d1,d2,d3⟩:=mu ar c0 c1 c2 c3;have y2:wr.cell? ⟨w.heap.size+1,3,none⟩=some (.slice (some ⟨b',jD,none⟩) k1 ve):=aa dt (ah nj.o 3);have As:(k:Int)<(k1:Int):=by omega
  have Fv:(ps ++ [(xn,yn)]).length+eq xs[k]<=1000000000:=by have:=Hy xs[k] (aw bg);first | omega | (simp only[dO,eR,List.length_nil];omega)
  have pp38c:=();exact pm38
 |clear pp53b;obtain ⟨e,he⟩:=am (cP (ps ++ [(xn,yn)]).reverse xs[k] ys[k]);rw[<-he]at ht;obtain ⟨d0,d1,d2,d3⟩:=mu ar c0 c1 c2 c3;have y2:wr.cell? ⟨w.heap.size+1,3,none⟩=some (.slice (some ⟨b',jD,none⟩) k1 ve):=aa dt (ah nj.o 3);have As:(k:Int)<(k1:Int):=by omega
  have Fv:(ps ++ [(xn,yn)]).length+eq xs[k]<=1000000000:=by have:=Hy xs[k] (aw bg);first | omega | (simp only[dO,eR,List.length_nil];omega)
  exact pm38
 |clear pp53c;obtain ⟨e,he⟩:=am (cP ps.reverse xs[k] ys[k]);rw[<-he]at ht;obtain ⟨d0,d1,d2,d3⟩:=mu ar c0 c1 c2 c3;have y2:wr.cell? ⟨w.heap.size+1,3,none⟩=some (.slice (some ⟨b',jD,none⟩) k1 ve):=aa dt (ah nj.o 3);have As:(k:Int)<(k1:Int):=by omega
  have Fv:ps.length+eq xs[k]<=1000000000:=by have:=Hy xs[k] (aw bg);first | omega | (simp only[dO,eR,List.length_nil];omega)
  have pp38a:=();exact pm38
 |clear pp53d;obtain ⟨e,he⟩:=am (cP (ps ++ [(xn,xn)]).reverse xs[k] ys[k]);rw[<-he]at ht;obtain ⟨d0,d1,d2,d3⟩:=mu ar c0 c1 c2 c3;have y2:wr.cell? ⟨w.heap.size+1,3,none⟩=some (.slice (some ⟨b',jD,none⟩) k1 ve):=aa dt (ah nj.o 3);have As:(k:Int)<(k1:Int):=by omega
  have Fv:(ps ++ [(xn,xn)]).length+eq xs[k]<=1000000000:=by have:=Hy xs[k] (aw bg);first | omega | (simp only[dO,eR,List.length_nil];omega)
  have pp38b:=();exact pm38
 |obtain ⟨e,he⟩:=am (cP ps.reverse xs[k] ys[k]);rw[<-he]at ht;obtain ⟨d0,d1,d2,d3⟩:=mu ar c0 c1 c2 c3;have y2:wr.cell? ⟨w.heap.size+1,3,none⟩=some (.slice (some ⟨b',jD,none⟩) k1 ve):=aa dt (ah nj.o 3);have As:(k:Int)<(k1:Int):=by omega
  have Fv:ps.length+eq xs[k]<=1000000000:=by have:=Hy xs[k] (aw bg);first | omega | (simp only[dO,eR,List.length_nil];omega)
  have pp38d:=();exact pm38):G:=h
theorem pm54(h:G:=by
 have pp187d:=();exact pm187):G:=h
theorem pm55(h:G:=by
 go_wp2;obtain ⟨W3,dB⟩:=am (wr.alloc (.cells #[.bool u.v,.string u.n,.slice u.a u.l u.c] 43));exact pm211):G:=h
theorem pm56(h:G:=by
 have iz:=fd;gi_wp2;obtain ⟨W1,bY⟩:=am (((w.alloc (.cells #[.bool false,.string ⟨n.toArray⟩,.slice qa k0 qc] 43)).alloc (.cells #[.bool false,.string ⟨#[]⟩,.slice none 0 0] 43)).alloc (.cells #[.bool false,.string ⟨n.toArray⟩,.slice none 0 0] 43));have iN:=yK bY;have x1:=sk bY;have x2:=qi bY;rw[<-bY];clear bY;obtain ⟨ec,jN⟩:=aW iN x1
 first
 |clear pp56a;have wI:=ac (Fills.start (R:=w.heap.size+1+1) (mk:=fun rr=>#[.bool false,.string ⟨n.toArray⟩,rr]) (Row:=fun r W=>RowT W1.heap.size r ((a.map aN).take 0) W) x2 (RowT.nil _ _));clear iN x1 x2;gi_loopw [25] (fun i wr=>∃k:Nat,k<=k0/\i=.int .i64 k/\∃row,Fills 43 (w.heap.size+1+1) W1.heap.size (fun rr=>#[.bool false,.string ⟨n.toArray⟩,rr]) (fun r W=>RowT W1.heap.size r ((a.map aN).take k) W) W1 wr row) (fun i _=>k0 - (intOf i).toNat)
  case atStart=>exact ⟨0,aX _,rfl,_,wI.o⟩
  case round=>
   have pp0a:=();exact pm0
 |clear pp56b;have wI:=ac (Fills.start (R:=w.heap.size+1+1) (mk:=fun rr=>#[.bool false,.string ⟨n.toArray⟩,rr]) (Row:=fun r W=>RowT W1.heap.size r ((a.map (gp f)).take 0) W) x2 (RowT.nil _ _));clear iN x1 x2;gi_loopw [30] (fun i wr=>∃k:Nat,k<=k0/\i=.int .i64 k/\∃row,Fills 43 (w.heap.size+1+1) W1.heap.size (fun rr=>#[.bool false,.string ⟨n.toArray⟩,rr]) (fun r W=>RowT W1.heap.size r ((a.map (gp f)).take k) W) W1 wr row) (fun i _=>k0 - (intOf i).toNat)
  case atStart=>exact ⟨0,aX _,rfl,_,wI.o⟩
  case round=>
   have pp151c:=();exact pm151
 |have wI:=ac (Fills.start (R:=w.heap.size+1+1) (mk:=fun rr=>#[.bool false,.string ⟨n.toArray⟩,rr]) (Row:=fun r W=>RowT W1.heap.size r ((a.map (cM kd.ts sc)).take 0) W) x2 (RowT.nil _ _));clear iN x1 x2;gi_loopw [47] (fun i wr=>∃k:Nat,k<=k0/\i=.int .i64 k/\∃row,Fills 43 (w.heap.size+1+1) W1.heap.size (fun rr=>#[.bool false,.string ⟨n.toArray⟩,rr]) (fun r W=>RowT W1.heap.size r ((a.map (cM kd.ts sc)).take k) W) W1 wr row) (fun i _=>k0 - (intOf i).toNat)
  case atStart=>exact ⟨0,aX _,rfl,_,wI.o⟩
  case round=>
   exact pm151):G:=h
theorem pm57(h:G:=by
 have o8:=HV.o.2.2.2.2 _ (aw lr);have BP:=(iP l 0).1 Y1.o _ (aw lr);obtain ⟨⟨s,f⟩,U8⟩:∃x,x=l[j]:=⟨_,rfl⟩;rw[<-U8]at cR o8 hs hf BP;simp only at cR o8 hs hf BP;rw[cR]at gP;obtain ⟨mL,Hp⟩:=am (iq ((wq.alloc (.cells #[.int .i64 j] 3)).alloc (.cells #[.int .u8 a0,.string a1,.slice a2 a3 a4,.slice a5 a6 a7,.int .u8 b0,.string b1,.slice b2 b3 b4,.slice b5 b6 b7] 50)) ⟨a0,a1,a2,a3,a4,a5,a6,a7⟩ ⟨b0,b1,b2,b3,b4,b5,b6,b7⟩);have DK:(j:Int)<(n1:Int):=by omega
 have xA:=ac Hp;clear U8 hok c0 c1 c2 c3 c4 c5 c6 c7 cR Hp;gi_wp2_with (gi_at_call 49;refine aK.2 ((mQ ⟨a0,a1,a2,a3,a4,a5,a6,a7⟩ ⟨b0,b1,b2,b3,b4,b5,b6,b7⟩ _).mono ?_);rintro e w' ⟨rfl,rfl⟩);rw[<-xA.o]
 first
 |clear pp57;have pp18:=();exact pm18
 |exact pm18):G:=h
theorem pm58(h:G:=by
 refine dh 1 67 (.slice (some ⟨b,off,none⟩) n2 qe) rfl (fun V hX=>by obtain ⟨g0,_⟩:=f0 V hX;go_simp) bN fun cr=>?_;simp only[ag];refine bC 2 68 (.int .i64 j) rfl bN fun cr=>?_;simp only[ag];refine bC 3 69 (.pointer (some ⟨b,off+j * 4,none⟩)) rfl bN fun cr=>?_;simp only[ag];refine bC 4 70 (.pointer (some ⟨b,off+j * 4,none⟩)) rfl bN fun cr=>?_;simp only[ag];refine dh 5 71 (.string ⟨nx.toArray⟩) rfl (fun V hX=>by obtain ⟨g0,_⟩:=f1 V hX;go_simp) bN fun cr=>?_;simp only[ag];refine bC 6 72 (.pointer (some ⟨w.heap.size+1,1,none⟩)) rfl bN fun cr=>?_;simp only[ag];refine dh 7 73 (.slice (some ⟨b2,off2,none⟩) n2 re) rfl (fun V hX=>by obtain ⟨_,g0⟩:=f0 V hX;go_simp) bN fun cr=>?_;simp only[ag]
 first
 |clear pp58;refine bC 8 74 (.int .i64 j) rfl bN fun cr=>?_
  simp only[ag];refine bC 9 75 (.pointer (some ⟨b2,off2+j * 4,none⟩)) rfl bN fun cr=>?_;simp only[ag];refine bC 10 76 (.pointer (some ⟨b2,off2+j * 4,none⟩)) rfl bN fun cr=>?_;simp only[ag];refine dh 11 77 (.string ⟨ny.toArray⟩) rfl (fun V hX=>by obtain ⟨g0,_⟩:=f2 V hX;go_simp) bN fun cr=>?_;simp only[ag];refine bC 12 78 (.bool true) rfl bN fun cr=>?_;simp only[ag];refine bC 13 79 (.bool true) rfl bN fun cr=>?_;simp only[ag];refine K4 14 80 rfl bN fun cr=>?_;simp only[ag];refine K4 15 81 rfl bN fun cr=>?_;simp only[ag];refine K4 16 82 rfl bN fun cr=>?_;simp only[ag];refine K4 17 83 rfl bN fun cr=>?_;simp only[ag];refine K4 18 84 rfl bN fun cr=>?_;simp only[ag];refine K4 19 85 rfl bN fun cr=>?_;simp only[ag];refine K4 20 86 rfl bN fun cr=>?_;simp only[ag];refine K4 21 87 rfl bN fun cr=>?_;simp only[ag];refine K4 22 88 rfl bN fun cr=>?_;simp only[ag];refine K4 23 89 rfl bN fun cr=>?_;simp only[ag];refine K4 24 90 rfl bN fun cr=>?_;simp only[ag];refine K4 25 91 rfl bN fun cr=>?_;simp only[ag];refine K4 26 92 rfl bN fun cr=>?_;simp only[ag];refine K4 27 93 rfl bN fun cr=>?_;simp only[ag];refine nnA 28 94 rfl bN fun cr=>?_;simp only[ag];refine K4 29 95 rfl bN fun cr=>?_;simp only[ag];refine bC 30 96 (.bool true) rfl bN fun cr=>?_;simp only[ag];refine kV ?_;go_wp2;go_ret;exact ⟨by rw[HZ.o];rfl,HE.o.1.tr HB.o.drew⟩
 |refine bC 8 74 (.int .i64 j) rfl bN fun cr=>?_
  simp only[ag];refine bC 9 75 (.pointer (some ⟨b2,off2+j * 4,none⟩)) rfl bN fun cr=>?_;simp only[ag];refine bC 10 76 (.pointer (some ⟨b2,off2+j * 4,none⟩)) rfl bN fun cr=>?_;simp only[ag];refine dh 11 77 (.string ⟨nx.toArray⟩) rfl (fun V hX=>by obtain ⟨g0,_⟩:=f2 V hX;go_simp) bN fun cr=>?_;simp only[ag];refine bC 12 78 (.bool false) rfl bN fun cr=>?_;simp only[ag];refine bC 13 79 (.bool false) rfl bN fun cr=>?_;simp only[ag];refine bC 14 80 (.pointer (some ⟨w.heap.size,1,none⟩)) rfl bN fun cr=>?_;simp only[ag];refine dh 15 81 (.slice (some ⟨b,off,none⟩) n2 qe) rfl (fun V hX=>by obtain ⟨g0,_⟩:=f0 V hX;go_simp) bN fun cr=>?_;simp only[ag];refine bC 16 82 (.int .i64 j) rfl bN fun cr=>?_;simp only[ag];refine bC 17 83 (.pointer (some ⟨b,off+j * 4,none⟩)) rfl bN fun cr=>?_;simp only[ag];refine bC 18 84 (.pointer (some ⟨b,off+j * 4+1,none⟩)) rfl bN fun cr=>?_;simp only[ag];refine dh 19 85 (.agg #[.bool u.v,.string u.n,.slice u.a u.l u.c]) rfl (fun V hX=>by obtain ⟨_,g0,g1,g2⟩:=f1 V hX;go_simp) bN fun cr=>?_;simp only[ag];refine bC 21 87 (.pointer (some ⟨w.heap.size+1,1,none⟩)) rfl bN fun cr=>?_;simp only[ag];refine dh 22 88 (.slice (some ⟨b2,off2,none⟩) n2 re) rfl (fun V hX=>by obtain ⟨_,g0⟩:=f0 V hX;go_simp) bN fun cr=>?_;simp only[ag];refine bC 23 89 (.int .i64 j) rfl bN fun cr=>?_;simp only[ag];refine bC 24 90 (.pointer (some ⟨b2,off2+j * 4,none⟩)) rfl bN fun cr=>?_;simp only[ag];refine bC 25 91 (.pointer (some ⟨b2,off2+j * 4+1,none⟩)) rfl bN fun cr=>?_;simp only[ag];refine dh 26 92 (.agg #[.bool v.v,.string v.n,.slice v.a v.l v.c]) rfl (fun V hX=>by obtain ⟨_,g0,g1,g2⟩:=f2 V hX;go_simp) bN fun cr=>?_;simp only[ag];refine twM 20 27 rfl rfl (fun K hK=>?_) (fun K hK=>?_)
  case _=>
   have hb1:Below W2.heap.size W2 (wz.drew.alloc (.cells #[.bool u.v,.string u.n,.slice u.a u.l u.c] 43)):=HB.o.drew.alloc HB.o.size _;have bB:Below W2.heap.size W2 ((wz.drew.alloc (.cells #[.bool u.v,.string u.n,.slice u.a u.l u.c] 43)).alloc (.cells #[.bool v.v,.string v.n,.slice v.a v.l v.c] 43)):=hb1.alloc hb1.size _;go_simp;refine hK _ _ (fun _=>by rw[dp.o];exact hb1) (fun _=>?_);clear hK K;refine bZ 27 rfl fun K hK=>?_;go_simp;refine hK _ _ (fun _=>by rw[dp.o];exact bB) (fun _=>?_);clear hK K;have oM:((wz.drew.alloc (.cells #[.bool u.v,.string u.n,.slice u.a u.l u.c] 43)).alloc (.cells #[.bool v.v,.string v.n,.slice v.a v.l v.c] 43)).heap[wz.heap.size]?=some (.cells #[.bool u.v,.string u.n,.slice u.a u.l u.c] 43 (0,0)):=(bE _ _ _ (by simp)).trans (ai (by simp));have ju:((wz.drew.alloc (.cells #[.bool u.v,.string u.n,.slice u.a u.l u.c] 43)).alloc (.cells #[.bool v.v,.string v.n,.slice v.a v.l v.c] 43)).heap[wz.heap.size+1]?=some (.cells #[.bool v.v,.string v.n,.slice v.a v.l v.c] 43 (0,0)):=ai (by simp);refine bZ 28 rfl fun K hK=>?_;go_simp;refine aK.2 ((Hh.o _ bB _ _ oM ju).mono ?_);clear oM ju;rintro _ A ⟨rfl,hA⟩;have ei:=ac (bB.tr hA);clear hA hb1 bB;exact pm54
  have hb1:Below W2.heap.size W2 (wz.drew.alloc (.cells #[.bool v.v,.string v.n,.slice v.a v.l v.c] 43)):=HB.o.drew.alloc HB.o.size _;have bB:Below W2.heap.size W2 ((wz.drew.alloc (.cells #[.bool v.v,.string v.n,.slice v.a v.l v.c] 43)).alloc (.cells #[.bool u.v,.string u.n,.slice u.a u.l u.c] 43)):=hb1.alloc hb1.size _;go_simp;refine hK _ _ (fun _=>by rw[dp.o];exact hb1) (fun _=>?_);clear hK K;refine bZ 20 rfl fun K hK=>?_;go_simp;refine hK _ _ (fun _=>by rw[dp.o];exact bB) (fun _=>?_);clear hK K;have oM:((wz.drew.alloc (.cells #[.bool v.v,.string v.n,.slice v.a v.l v.c] 43)).alloc (.cells #[.bool u.v,.string u.n,.slice u.a u.l u.c] 43)).heap[wz.heap.size]?=some (.cells #[.bool v.v,.string v.n,.slice v.a v.l v.c] 43 (0,0)):=(bE _ _ _ (by simp)).trans (ai (by simp));have ju:((wz.drew.alloc (.cells #[.bool v.v,.string v.n,.slice v.a v.l v.c] 43)).alloc (.cells #[.bool u.v,.string u.n,.slice u.a u.l u.c] 43)).heap[wz.heap.size+1]?=some (.cells #[.bool u.v,.string u.n,.slice u.a u.l u.c] 43 (0,0)):=ai (by simp);refine bZ 28 rfl fun K hK=>?_;go_simp;refine aK.2 ((Hh.o _ bB _ _ ju oM).mono ?_);clear ju oM;rintro _ A ⟨rfl,hA⟩;have ei:=ac (bB.tr hA);clear hA hb1 bB;exact pm54):G:=h
theorem pm59(h:G:=by
 by_cases h1:uo=vo
 ·subst h1;have e0:(uo == uo)=true:=by simp
  have e1:(uo != uo)=false:=by simp
  by_cases h2:k0=m0
  ·subst h2;have h3:¬k1=m1:=fun h=>C5 ⟨rfl,rfl,h⟩;have e2:((k0:Int) != (k0:Int))=false:=by simp
   have e3:((k1:Int) == (m1:Int))=false:=by simp;omega
   have e4:((k1:Int) != (m1:Int))=true:=by simp;omega
   go_wp2;rw[<-fp.o];go_ret;exact ⟨az HE.o.symm,cw.o⟩
  ·have e2:((k0:Int) == (m0:Int))=false:=by simp;omega
   have e3:((k0:Int) != (m0:Int))=true:=by simp;omega
   go_wp2;rw[<-fp.o];go_ret;exact ⟨az HE.o.symm,cw.o⟩
 ·have e0:(uo == vo)=false:=by simpa using h1
  have e1:(uo != vo)=true:=by simpa using h1
  go_wp2;rw[<-fp.o];go_ret;exact ⟨az HE.o.symm,cw.o⟩):G:=h
theorem pm60(h:G:=by
 have pp150a:=();exact pm150):G:=h
theorem pm61(h:G:=by
 obtain ⟨b,off,u,rfl,_,hu,c0,c1,c2⟩:=eb.o.get dJ;obtain ⟨d0,d1,d2⟩:=j4 ar c0 c1 c2
 first
 |clear pp61a;obtain ⟨uv,un,ua,ul,uc⟩:=u;obtain ⟨W2,a_⟩:=am (wr.alloc (.cells #[.bool uv,.string un,.slice ua ul uc] 43));have bB:=cV a_;have zb:=bU a_;have u0:W2.cell? ⟨wr.heap.size,0,none⟩=some (.bool uv):=ah zb 0;have u1:W2.cell? ⟨wr.heap.size,1,none⟩=some (.string un):=ah zb 1;have u2:W2.cell? ⟨wr.heap.size,2,none⟩=some (.slice ua ul uc):=ah zb 2;have gZ:=hF.later bB (fun r=>r.below bB);obtain ⟨P0,P1,P2,P3,P4,P5,P6,P7,P8⟩:=iE (gZ.other (by omega) Pj.o);have CC:=sG ⟨⟨so,sn,sa,sl,sc,sb,sm,se⟩,⟨fo,fn,fa,fl,fc,fb,fm,fe⟩,ca,cl,cc⟩ ps JU.o.1 JU.o.2 L ins JX.o.2.2 JX.o.1 _ vL a[k1] (GM.o.mem (aw dJ)) ok W2 ⟨uv,un,ua,ul,uc⟩ (JV.o.later (ar.tr bB)) ((oO.o.1.later (ar.tr bB)).strs) ((hu.later ar).later bB);simp only[PlQ.cells,PlQ.val,TQ.val]at CC P0 P1 P2 P3 P4 P5 P6 P7 P8;have gz:=pH (c:=ps.reverse) (ins:=ins) dJ;rw[AC]at gz;have gE:=fun (h:ir ps.reverse ins a[k1]=none)=>AB (c:=ps.reverse) (ins:=ins) (aw dJ) h;obtain ⟨U,hU⟩:=am (ir ps.reverse ins a[k1]);rw[<-hU]at CC gz gE;have mz:=ac CC;have uJ:=aG gz Db;have AD:=ac gE;obtain ⟨qs,eE,aA,gL⟩:=gZ.row;rw[Db]at eE aA;have AE:=bF eE aA gL;have fw:=ac gZ;have cv:=aG ar bB;rw[a_]at mz u0 u1 u2 P0 P1 P2 P3 P4 P5 P6 P7 P8;have fp:=ac a_;clear hu c0 c1 c2 zb hF gZ eE aA gL CC gz gE hU AC Db ar bB a_
  cases U with
  | none=>
   go_wp2_with (go_at_call 94;refine mz.o.mono ?_;rintro e w4 ⟨⟨⟨pv,pn,pa,pl,pc⟩,rfl,hp⟩,aO⟩;simp only[Option.isSome]at hp ⊢;rw[<-fp.o]at aO;have bm:Below w4.heap.size w4 (w4.alloc (.cells #[.bool pv,.string pn,.slice pa pl pc] 43)):=cO;have tC:=fw.o.later (aO.tr bm) (fun r=>r.below (aO.tr bm));have x5:=tC.other (by omega) MW.o;obtain ⟨e0,e1,e2,e3,z0,z1,z2,z3⟩:=dy x5;have H5:=aG (aO.tr bm) x5;clear hp aO bm tC x5);exact pm279
  | some u'=>
   go_wp2_with (first | (go_at_call 94;refine mz.o.mono ?_;rintro e w4 ⟨⟨⟨pv,pn,pa,pl,pc⟩,rfl,hp⟩,aO⟩;simp only[Option.isSome]at hp ⊢;rw[<-fp.o]at aO hp;have bm:Below w4.heap.size w4 (w4.alloc (.cells #[.bool pv,.string pn,.slice pa pl pc] 43)):=cO;have tC:=fw.o.later (aO.tr bm) (fun r=>r.below (aO.tr bm));have r2:(w4.alloc (.cells #[.bool pv,.string pn,.slice pa pl pc] 43)).cell? ⟨w.heap.size+1+1+1,2,none⟩=some (.slice gh k1 gi):=(tC.cell 2).trans rfl;have HF5:=ac tC;have JW:=aG ((hp u' rfl).later bm) (aO.tr bm);have HO:=ac (bi AE.o.2.1 (fun b _ hlt=>(aO.tr bm).block b hlt));have pR:((w4.alloc (.cells #[.bool pv,.string pn,.slice pa pl pc] 43)).alloc (.cells #[.bool pv,.string pn,.slice pa pl pc] 43)).heap.size=w4.heap.size+2:=(by simp);have JP:=tC.size;simp only[World.size_alloc]at JP;clear hp aO bm tC) | (at_builtin;refine wpList_append_lies _ rfl _ _ 33 rfl W1.heap.size 43 p9 (.agg #[.bool false,.string ByteArray.empty,.slice none 0 0]) 3 48 Tryz.underlying33 hi zp wJ zY rfl (by decide) (.slice gh k1 gi) k1 _ rfl (HO.o.alloc _) ⟨w4.heap.size+1,0,none⟩ 1 1 [.bool pv,.string pn,.slice pa pl pc] rfl rfl (dc (cs:=#[.bool pv,.string pn,.slice pa pl pc]) (t:=43) (fr:=(0,0)) (ai (by simp))) (by simp[Value.oneCell']) (by decide) (by unfold maxLen;omega) (by omega) (by simp;omega) (w4.heap.size+2) pR ?_;intro g eF w6 aV aq hg eD;have h4:=fw.o.at4 (kk:=2) AE.o.2.1 JW.o.2 aq;have d3:=h4.2.2;have z3:=h4.2.1;have HG:=cG aV aq hg eD;clear aV aq hg eD h4));go_roundw
   case rel=>
    have pp119:=();exact pm119
   case measure=>simp[intOf];omega
 |clear pp61b;have cB:(l.take k).length=k:=by rw[dT];omega
  rw[cB]at hR ⊢;have HU:=ac ((hu.later ar).later (W':=wr.alloc (.cells #[.bool u.v,.string u.n,.slice u.a u.l u.c] 43)) cO);obtain ⟨cv,HR,ek⟩:=cH ar hR cB;clear hu ar hR cB c0 c1 c2;have CC:=ac (HCp.o l[k] (aw dJ) _ _ u HU.o);go_wp2_with fail;refine CC.o.mono ?_;rintro _ A ⟨p,rfl,hp,hA⟩;obtain ⟨qs,eE,aA,gL⟩:=HR.o;rw[ek.o]at eE aA;have cC:Below wr.heap.size wr A:=cO.trans (hA.mono (by simp));have oN:=cC.size;have Py:=cv.o.size;have HO:=ac (bi aA (fun b _ hlt=>cC.block b hlt));have HH:=bF eE aA gL;have SF:=aG hp cC;clear eE aA gL hp hA cC;have pR:(A.alloc (.cells #[.bool p.v,.string p.n,.slice p.a p.l p.c] 43)).heap.size=A.heap.size+1:=by simp
  unfold TQ.val;go_wp2_with (at_builtin;refine wpList_append_lies _ rfl _ _ 33 rfl w.heap.size 43 i0 (.agg #[.bool false,.string ByteArray.empty,.slice none 0 0]) 3 48 Tryz.underlying33 hi oM ju iy rfl (by decide) _ _ _ rfl (HO.o.alloc _) ⟨A.heap.size,0,none⟩ 1 1 p.cells rfl rfl (dc (cs:=#[.bool p.v,.string p.n,.slice p.a p.l p.c]) (t:=43) (fr:=(0,0)) (fZ _ _)) (by simp[TQ.cells,Value.oneCell']) (by decide) (by unfold maxLen;omega) (by omega) (by simp;omega) (A.heap.size+1) pR ?_;intro g eF w4 aV aq hg eD;have HG:=bF aV aq hg;clear aV aq hg eD pR);go_roundw
  case rel=>
   have pp268:=();exact pm268
  case measure=>simp[intOf];omega
 |clear pp61c;have cB:((a.map aN).take k).length=k:=by rw[dT];have:=dA.o;simp;omega
  obtain ⟨ra,rc,rfl⟩:=hF.row.slice;rw[cB]at hF;have HU:=ac (hu.later ar);exact pm9
 |clear pp61d;have cB:((a.map (gp f)).take k).length=k:=by rw[dT];have:=dA.o;simp;omega
  obtain ⟨ra,rc,rfl⟩:=hF.row.slice;rw[cB]at hF;have HU:=ac (hu.later ar);obtain ⟨HF,ek,cv⟩:=cH hF cB ar;clear hu ar hF c0 c1 c2 cB;gi_wp2;obtain ⟨W2,a_⟩:=am (wr.alloc (.cells #[.bool u.v,.string u.n,.slice u.a u.l u.c] 43));have pp51b:=();exact pm51
 |clear pp61e;have cB:((a.map aN).take k1).length=k1:=by rw[dT];have:=dA.o;simp;omega
  obtain ⟨gh,gi,rfl⟩:=hF.row.slice;rw[cB]at hF;have HU:=ac (hu.later ar);obtain ⟨HF,ek,cv⟩:=cH hF cB ar;clear hu ar hF c0 c1 c2 cB;gi_wp2;obtain ⟨W2,a_⟩:=am (hZ.alloc (.cells #[.bool u.v,.string u.n,.slice u.a u.l u.c] 43));have pp51c:=();exact pm51
 |clear pp61f;have cB:((a.map (le nx z)).take k1).length=k1:=by rw[dT];have:=dA.o;simp;omega
  obtain ⟨gh,gi,rfl⟩:=hF.row.slice;rw[cB]at hF;have HU:=ac (hu.later ar);obtain ⟨HF,ek,cv⟩:=cH hF cB ar;clear hu ar hF c0 c1 c2 cB;gi_wp2;obtain ⟨W2,a_⟩:=am (Fe.alloc (.cells #[.bool u.v,.string u.n,.slice u.a u.l u.c] 43));have pp51d:=();exact pm51
 |clear pp61g;have cB:((a.map (cM kd.ts c)).take k1).length=k1:=by rw[dT];have:=pT.o;simp;omega
  obtain ⟨ra,rc,rfl⟩:=hF.row.slice;rw[cB]at hF;have HU:=ac (hu.later ar);obtain ⟨HF,ek,cv⟩:=cH hF cB ar;clear hu ar hF c0 c1 c2 cB;gi_wp2;obtain ⟨W2,a_⟩:=am (Fe.alloc (.cells #[.bool u.v,.string u.n,.slice u.a u.l u.c] 43));have pp51e:=();exact pm51
 |clear pp61h;have cB:(a.take k).length=k:=by rw[dT];omega
  obtain ⟨ra,rc,rfl⟩:=hF.row.slice;rw[cB]at hF;have HU:=ac (hu.later ar);have pp9a:=();exact pm9
 |clear pp61i;obtain ⟨uv,un,ua,ul,uc⟩:=u;obtain ⟨W2,a_⟩:=am (wr.alloc (.cells #[.bool uv,.string un,.slice ua ul uc] 43));have bB:=cV a_;have zb:=bU a_;have u0:W2.cell? ⟨wr.heap.size,0,none⟩=some (.bool uv):=ah zb 0;have u1:W2.cell? ⟨wr.heap.size,1,none⟩=some (.string un):=ah zb 1;have u2:W2.cell? ⟨wr.heap.size,2,none⟩=some (.slice ua ul uc):=ah zb 2;have gZ:=hF.later bB (fun r=>r.below bB);obtain ⟨P0,P1,P2,P3,P4,P5,P6,P7,P8⟩:=iE (gZ.other (by omega) Pj.o);have CC:=fR.o a[k] (aw dJ) (nG.o.mem (aw dJ)) ok W2 ⟨uv,un,ua,ul,uc⟩ (JV.o.later (ar.tr bB)) (oO.o.later (ar.tr bB)) ((hu.later ar).later bB);simp only[PlQ.cells,PlQ.val,TQ.val]at CC P0 P1 P2 P3 P4 P5 P6 P7 P8;have gz:=pH (c:=ps.reverse) (ins:=ins) dJ;rw[AC]at gz;have gE:=fun (h:ir ps.reverse ins a[k]=none)=>AB (c:=ps.reverse) (ins:=ins) (aw dJ) h;obtain ⟨U,hU⟩:=am (ir ps.reverse ins a[k]);rw[<-hU]at CC gz gE;have mz:=ac CC;have uJ:=aG gz Db;have AD:=ac gE;obtain ⟨qs,eE,aA,gL⟩:=gZ.row;rw[Db]at eE aA;have AE:=bF eE aA gL;have fw:=ac gZ;have cv:=aG ar bB;rw[a_]at mz u0 u1 u2 P0 P1 P2 P3 P4 P5 P6 P7 P8;have fp:=ac a_;clear hu c0 c1 c2 zb hF gZ eE aA gL CC gz gE hU AC Db ar bB a_
  cases U with
  | none=>
   go_wp2_with (go_at_call 94;refine mz.o.mono ?_;rintro e w4 ⟨⟨⟨pv,pn,pa,pl,pc⟩,rfl,hp⟩,aO⟩;simp only[Option.isSome]at hp ⊢;rw[<-fp.o]at aO;have bm:Below w4.heap.size w4 (w4.alloc (.cells #[.bool pv,.string pn,.slice pa pl pc] 43)):=cO;have tC:=fw.o.later (aO.tr bm) (fun r=>r.below (aO.tr bm));have x5:=tC.other (by omega) MW.o;obtain ⟨e0,e1,e2,z0,z1,z2⟩:=gN x5;have H5:=aG (aO.tr bm) x5;clear hp aO bm tC x5);obtain ⟨W6,dm,x6,k6,g0,g1,g2⟩:=uL H5.o.2 (.bool false) (.string ⟨#[]⟩) (.slice none 0 0);rw[<-dm];have HE:=ac (show R=none by rw[y_.o,AD.o (by simp)];rfl);refine bI (v:=.tuple #[TQ.val ⟨false,⟨#[]⟩,none,0,0⟩,.bool false]) (by simp[TQ.val,results,Tryz.results94,go_sem,g0,g1,g2]) rfl ⟨⟨⟨false,⟨#[]⟩,none,0,0⟩,by rw[HE.o];rfl,fun u hu=>by rw[HE.o]at hu;cases hu⟩,Below.kp1 ((cv.o.1.tr cv.o.2).tr H5.o.1) k6 (by omega)⟩
  | some u'=>
   go_wp2_with (first | (go_at_call 94;refine mz.o.mono ?_;rintro e w4 ⟨⟨⟨pv,pn,pa,pl,pc⟩,rfl,hp⟩,aO⟩;simp only[Option.isSome]at hp ⊢;rw[<-fp.o]at aO hp;have bm:Below w4.heap.size w4 (w4.alloc (.cells #[.bool pv,.string pn,.slice pa pl pc] 43)):=cO;have tC:=fw.o.later (aO.tr bm) (fun r=>r.below (aO.tr bm));have r2:(w4.alloc (.cells #[.bool pv,.string pn,.slice pa pl pc] 43)).cell? ⟨w.heap.size+1+1+1,2,none⟩=some (.slice ra k rc):=(tC.cell 2).trans rfl;have HF5:=ac tC;have JW:=aG ((hp u' rfl).later bm) (aO.tr bm);have HO:=ac (bi AE.o.2.1 (fun b _ hlt=>(aO.tr bm).block b hlt));have pR:((w4.alloc (.cells #[.bool pv,.string pn,.slice pa pl pc] 43)).alloc (.cells #[.bool pv,.string pn,.slice pa pl pc] 43)).heap.size=w4.heap.size+2:=(by simp);have JP:=tC.size;simp only[World.size_alloc]at JP;clear hp aO bm tC) | (at_builtin;refine wpList_append_lies _ rfl _ _ 33 rfl W1.heap.size 43 i0 (.agg #[.bool false,.string ByteArray.empty,.slice none 0 0]) 3 48 Tryz.underlying33 hi oM ju iy rfl (by decide) (.slice ra k rc) k _ rfl (HO.o.alloc _) ⟨w4.heap.size+1,0,none⟩ 1 1 [.bool pv,.string pn,.slice pa pl pc] rfl rfl (dc (cs:=#[.bool pv,.string pn,.slice pa pl pc]) (t:=43) (fr:=(0,0)) (ai (by simp))) (by simp[Value.oneCell']) (by decide) (by unfold maxLen;omega) (by omega) (by simp;omega) (w4.heap.size+2) pR ?_;intro g eF w6 aV aq hg eD;have h4:=fw.o.at4 (kk:=2) AE.o.2.1 JW.o.2 aq;have d3:=h4.2.2;have z3:=h4.2.1;have HG:=cG aV aq hg eD;clear aV aq hg eD h4));go_roundw
   case rel=>
    exact pm119
   case measure=>simp[intOf];omega
 |clear pp61j;have cB:((a.map (cM kd.ts sc)).take k).length=k:=by rw[dT];have:=dA.o;simp;omega
  obtain ⟨ra,rc,rfl⟩:=hF.row.slice;rw[cB]at hF;have HU:=ac (hu.later ar);obtain ⟨HF,ek,cv⟩:=cH hF cB ar;clear hu ar hF c0 c1 c2 cB;gi_wp2;obtain ⟨W2,a_⟩:=am (wr.alloc (.cells #[.bool u.v,.string u.n,.slice u.a u.l u.c] 43));exact pm51
 |clear pp61k;have cB:((a.map (gp f)).take k).length=k:=by rw[dT];have:=dA.o;simp;omega
  obtain ⟨ra,rc,rfl⟩:=hF.row.slice;rw[cB]at hF;have HU:=ac (hu.later ar);have pp9b:=();exact pm9
 |have cB:((a.map (cM kd.ts sc)).take k).length=k:=by rw[dT];have:=dA.o;simp;omega
  obtain ⟨ra,rc,rfl⟩:=hF.row.slice;rw[cB]at hF;have HU:=ac (hu.later ar);have pp9c:=();exact pm9):G:=h
theorem pm62(h:G:=by
 obtain ⟨nF4,nT4,ea,kY,lK⟩:=H4.o.2.1 (by simp);have BU:Kp M W2 w4:=H4.o.1.two xC.o.1 xC.o.2.1;have gY:Kp (fun b=>b=aB+1) w4 (w4.setCell ⟨aB+1,0,none⟩ (.int .i64 0)):=iW;have Cy:Kp M w4 (w4.setCell ⟨aB+1,0,none⟩ (.int .i64 0)):=gY.mono (fun b _ h=>by subst h;exact xC.o.2.2.2.1);refine ⟨BU.trans Cy,k3,nF4,nT4,HG.o.2.2.2.2.2.2.1,lK.kpx gY (fun b h=>by subst h;exact xC.o.2.2.2.1) (by omega) (by omega) (by omega),by have:=HG.o.1;simp;omega,by have:=HG.o.2.1;simp;omega,HG.o.2.2.2.2.2.1 (by simp),iV H4.o.2.2.1,?_,(HG.o.2.2.2.2.1.trans BU).trans Cy⟩;exact (gY.same _ (bz H4.o.2.2.2.1) (by omega)).trans H4.o.2.2.2.1):G:=h
theorem pm63(h:G:=by
 obtain ⟨W7,LM⟩:=am (w6.alloc (.cells #[.int .u8 p0,.string p1,.slice p2 p3 p4,.slice p5 p6 p7] 36));rw[<-LM]at fW ⊢;have y7:=bU LM;have xR:=bJ (H6.o.tr fW) IM.o.2.2.1;have xT:=bJ (H6.o.tr fW) IM.o.2.1;have hlw:=da.size;have zdd:=Hi.o.2.1;have zde:=H5.o.size;have SB:=yN.o;have zdf:=ec.o.size;have hR1:=(bz jN.o);have xR2:=(aY (F:=3) xR (.slice (some ⟨w6.heap.size,0,none⟩) 1 1)).trans rfl;have kR:Kp (fun b=>b=w.heap.size+1+1) W7 (W7.setCell ⟨w.heap.size+1+1,3,none⟩ (.slice (some ⟨w6.heap.size,0,none⟩) 1 1)):=⟨rfl,rfl,rfl,by simp,fun c _ hc=>dV _ _ _ _ (by simpa using hc)⟩;have r3:=ah xR 3
 first
 |clear pp63;have rz:=ae xR 3;have HPp:=ac hp;have Q9:=bF (H6.o.tr fW) y7 fW;have Jb:=bF xR2 kR xT;clear hp da fW y7 xR xT xR2 kR LM;refine bZ 9 rfl fun K hK=>?_;go_simp;refine eS hK ?_;clear hK K;refine bZ 10 rfl fun K hK=>?_;go_simp;refine eS hK ?_;clear hK K r3 rz;refine kV ?_;obtain ⟨W9,r_⟩:=am (W7.setCell ⟨w.heap.size+1+1,3,none⟩ (.slice (some ⟨w6.heap.size,0,none⟩) 1 1));have XY:=Jb.o.1;have NR:=Jb.o.2.1;rw[<-r_]at XY NR ⊢;have zdg:=Q9.o.1.size;have XZ:=(NR.same _ (bz Jb.o.2.2) (by omega)).trans Jb.o.2.2;have y9:=(NR.same _ (bz Q9.o.2.1) (by omega)).trans Q9.o.2.1;have hF9:FormV (W1.heap.size<=·) W9 (FQ.val ⟨p0,p1,p2,p3,p4,p5,p6,p7⟩) (fH (bQ n) (ao n) G):=(HPp.o.later Q9.o.2.2).move (fun b hb hlt=>⟨by have h:w5.heap.size<=b:=hb;omega,NR.same b hlt (by have h:w5.heap.size<=b:=hb;omega)⟩);have AL:FormV (W1.heap.size<=·) W9 (FQ.val ⟨so,⟨n.toArray⟩,gh,0,gi,some ⟨w6.heap.size,0,none⟩,1,1⟩) (.mk so n [] [fH (bQ n) (ao n) G]):=aT.2 ⟨_,_,rfl,cq,rH hF9 (by omega) y9⟩;have Q':Below w.heap.size w W9:=Below.kp1 (Hi.o.1.tr Q9.o.1) NR (by omega);obtain ⟨c0,c1,c2,c3,_,_,_,_⟩:=dy XY;obtain ⟨e0,e1,e2,e3,z0,z1,z2,z3⟩:=dy XZ;have H9:=bF AL Q' XZ;clear XY NR XZ y9 hF9 AL Q' r_ f0 f1 dU;gi_wp2;have x6:=lA (v0:=.int .u8 so) (v1:=.string ⟨n.toArray⟩) (v2:=.slice gh 0 gi) (v3:=.slice (some ⟨w6.heap.size,0,none⟩) 1 1) H9.o.2.2;have k6:=dL (W:=W9) (b:=w.heap.size+1) (v0:=.int .u8 so) (v1:=.string ⟨n.toArray⟩) (v2:=.slice gh 0 gi) (v3:=.slice (some ⟨w6.heap.size,0,none⟩) 1 1);obtain ⟨W6,dm⟩:=am ((((W9.setCell ⟨w.heap.size+1,0,none⟩ (.int .u8 so)).setCell ⟨w.heap.size+1,1,none⟩ (.string ⟨n.toArray⟩)).setCell ⟨w.heap.size+1,2,none⟩ (.slice gh 0 gi)).setCell ⟨w.heap.size+1,3,none⟩ (.slice (some ⟨w6.heap.size,0,none⟩) 1 1));rw[<-dm]at x6 k6 ⊢;clear dm;have g0:W6.cell? ⟨w.heap.size+1,0,none⟩=some (.int .u8 so):=ah x6 0;have g1:W6.cell? ⟨w.heap.size+1,1,none⟩=some (.string ⟨n.toArray⟩):=ah x6 1;have g2:W6.cell? ⟨w.heap.size+1,2,none⟩=some (.slice gh 0 gi):=ah x6 2;have g3:W6.cell? ⟨w.heap.size+1,3,none⟩=some (.slice (some ⟨w6.heap.size,0,none⟩) 1 1):=ah x6 3;refine bI (v:=FQ.val ⟨so,⟨n.toArray⟩,gh,0,gi,some ⟨w6.heap.size,0,none⟩,1,1⟩) (by simp[FQ.val,results,Tryz.results72,go_sem,g0,g1,g2,g3]) rfl ⟨⟨⟨so,⟨n.toArray⟩,gh,0,gi,some ⟨w6.heap.size,0,none⟩,1,1⟩,rfl,HRm.o ▸ H9.o.1.move (fun b hok hlt=>⟨by have h:W1.heap.size<=b:=hok;omega,k6.same b hlt (by have h:W1.heap.size<=b:=hok;omega)⟩)⟩,Below.kp1 H9.o.2.1 k6 (by omega)⟩
 |have rz:=ae xR 3;have HPp:=ac hp;have Q9:=bF (H6.o.tr fW) y7 fW;have Jb:=bF xR2 kR xT;clear hp da fW y7 xR xT xR2 kR LM;refine bZ 9 rfl fun K hK=>?_;go_simp;refine eS hK ?_;clear hK K;refine bZ 10 rfl fun K hK=>?_;go_simp;refine eS hK ?_;clear hK K r3 rz;refine kV ?_;obtain ⟨W9,r_⟩:=am (W7.setCell ⟨w.heap.size+1+1,3,none⟩ (.slice (some ⟨w6.heap.size,0,none⟩) 1 1));have XY:=Jb.o.1;have NR:=Jb.o.2.1;rw[<-r_]at XY NR ⊢;have zdg:=Q9.o.1.size;have XZ:=(NR.same _ (bz Jb.o.2.2) (by omega)).trans Jb.o.2.2;have y9:=(NR.same _ (bz Q9.o.2.1) (by omega)).trans Q9.o.2.1;have hF9:FormV (W1.heap.size<=·) W9 (FQ.val ⟨p0,p1,p2,p3,p4,p5,p6,p7⟩) (fH (bQ n) (ao m) G):=(HPp.o.later Q9.o.2.2).move (fun b hb hlt=>⟨by have h:w5.heap.size<=b:=hb;omega,NR.same b hlt (by have h:w5.heap.size<=b:=hb;omega)⟩);have AL:FormV (W1.heap.size<=·) W9 (FQ.val ⟨so,⟨m.toArray⟩,gh,0,gi,some ⟨w6.heap.size,0,none⟩,1,1⟩) (.mk so m [] [fH (bQ n) (ao m) G]):=aT.2 ⟨_,_,rfl,cq,rH hF9 (by omega) y9⟩;have Q':Below w.heap.size w W9:=Below.kp1 (Hi.o.1.tr Q9.o.1) NR (by omega);obtain ⟨c0,c1,c2,c3,_,_,_,_⟩:=dy XY;obtain ⟨e0,e1,e2,e3,z0,z1,z2,z3⟩:=dy XZ;have H9:=bF AL Q' XZ;clear XY NR XZ y9 hF9 AL Q' r_ f0 f1 dU;gi_wp2;have x6:=lA (v0:=.int .u8 so) (v1:=.string ⟨m.toArray⟩) (v2:=.slice gh 0 gi) (v3:=.slice (some ⟨w6.heap.size,0,none⟩) 1 1) H9.o.2.2;have k6:=dL (W:=W9) (b:=w.heap.size+1) (v0:=.int .u8 so) (v1:=.string ⟨m.toArray⟩) (v2:=.slice gh 0 gi) (v3:=.slice (some ⟨w6.heap.size,0,none⟩) 1 1);obtain ⟨W6,dm⟩:=am ((((W9.setCell ⟨w.heap.size+1,0,none⟩ (.int .u8 so)).setCell ⟨w.heap.size+1,1,none⟩ (.string ⟨m.toArray⟩)).setCell ⟨w.heap.size+1,2,none⟩ (.slice gh 0 gi)).setCell ⟨w.heap.size+1,3,none⟩ (.slice (some ⟨w6.heap.size,0,none⟩) 1 1));rw[<-dm]at x6 k6 ⊢;clear dm;have g0:W6.cell? ⟨w.heap.size+1,0,none⟩=some (.int .u8 so):=ah x6 0;have g1:W6.cell? ⟨w.heap.size+1,1,none⟩=some (.string ⟨m.toArray⟩):=ah x6 1;have g2:W6.cell? ⟨w.heap.size+1,2,none⟩=some (.slice gh 0 gi):=ah x6 2;have g3:W6.cell? ⟨w.heap.size+1,3,none⟩=some (.slice (some ⟨w6.heap.size,0,none⟩) 1 1):=ah x6 3;refine bI (v:=FQ.val ⟨so,⟨m.toArray⟩,gh,0,gi,some ⟨w6.heap.size,0,none⟩,1,1⟩) (by simp[FQ.val,results,Tryz.results72,go_sem,g0,g1,g2,g3]) rfl ⟨⟨⟨so,⟨m.toArray⟩,gh,0,gi,some ⟨w6.heap.size,0,none⟩,1,1⟩,rfl,HRm.o ▸ H9.o.1.move (fun b hok hlt=>⟨by have h:W1.heap.size<=b:=hok;omega,k6.same b hlt (by have h:W1.heap.size<=b:=hok;omega)⟩)⟩,Below.kp1 H9.o.2.1 k6 (by omega)⟩):G:=h
theorem pm64(h:G:=by
 simp only[TQ.val,cF,Array.mk.injEq,b_,and_true,Value.bool.injEq,Value.string.injEq]at h1 h2;obtain ⟨rfl,rfl,rfl⟩:=h1;obtain ⟨rfl,rfl,rfl⟩:=h2
 first
 |clear pp64a;have HV:=ac hv;simp only[Nat.zero_mul,Nat.add_zero,Nat.one_mul]at c0 c1 c2 j6 kG kH;have hlt:([Tm.mk uv xn xa,Tm.mk vv yn ya]:List Tm).length=2:=rfl;rw[hlt];clear hv hu gu hf Z4 hfy hl c2 kH hlt;have hb:ug [.mk uv xn xa,.mk vv yn ya]=(uv && (eC xn && (vv && c9 yn))):=rfl;rw[hb];clear hb;cases uv
  ·go_enter Tryz.func117,Tryz.ntmps117;go_wp2;go_ret;exact ⟨rfl,aj _ _⟩
  ·cases h1:eC xn
   ·have C1:=ac (fun w=>h1 ▸ iM xn w qg);clear h1;go_enter Tryz.func117,Tryz.ntmps117;go_wp2_with (go_at_call 152;refine (C1.o _).mono ?_;rintro e w' ⟨rfl,hb⟩);go_ret;exact ⟨rfl,hb⟩
   ·have C1:=ac (fun w=>h1 ▸ iM xn w qg);clear h1;cases vv
    ·go_enter Tryz.func117,Tryz.ntmps117;go_wp2_with (go_at_call 152;refine (C1.o _).mono ?_;rintro e w' ⟨rfl,hb⟩;have g0:=aa hb j6;have HB:=ac hb;clear hb);go_ret;exact ⟨rfl,HB.o⟩
    ·go_enter Tryz.func117,Tryz.ntmps117;go_wp2_with (first | (go_at_call 152;refine (C1.o _).mono ?_;rintro e w' ⟨rfl,hb⟩;have g0:=aa hb j6;have g1:=aa hb kG;have HB:=ac hb;clear hb) | (go_at_call 186;refine (kX yn _ hy2).mono ?_;rintro e w3 ⟨rfl,aM⟩));go_ret;exact ⟨rfl,HB.o.trans (aM.mono HB.o.size)⟩
 |clear pp64b;obtain rfl:=e_.len;obtain rfl:=yX.len;obtain ⟨pa,pl,pc,rfl⟩:∃pa pl pc,v=.slice pa pl pc:=by obtain ⟨a,c,h,_⟩:=hp;exact ⟨_,_,_,h⟩
  obtain rfl:=hp.len;have xZ:=hf.args;have hlen:=xZ.len;have hm:=D9 ps.reverse uv vv xn yn xa ya;obtain ⟨R,hR⟩:=am (eU ps.reverse (.mk uv xn xa) (.mk vv yn ya));rw[<-hR]at hm ⊢;obtain ⟨k0,bX⟩:=am xa.length;obtain ⟨m0,dW⟩:=am ya.length;obtain ⟨p0,kZ⟩:=am ps.length;rw[<-bX,<-dW]at hm;rw[<-bX]at hlen;rw[<-kZ]at gX;rw[<-bX]at e_;rw[<-dW]at yX;have pp33:=();exact pm33
 |clear pp64c;obtain ⟨W,hW⟩:=am ((w.alloc (.cells #[.bool uv,.string ⟨xn.toArray⟩,.slice ua ul uc] 43)).alloc (.cells #[.bool vv,.string ⟨yn.toArray⟩,.slice va vl vc] 43));have hB:=lv hW;have C1:=ih ya ok ok' W ua ul uc va vl vc hf.args EW.args (e_.later hB) (yX.later hB);rw[hW]at hB C1;have hm:=LP uv vv xn yn xa ya;obtain ⟨R,hR⟩:=am (uU (.mk uv xn xa) (.mk vv yn ya));rw[<-hR]at hm ⊢;obtain ⟨c,hc⟩:=am (Lib.compareBytes xn yn);rw[<-hc]at hm;obtain ⟨d,hd⟩:=am (Ed xa ya);simp only[Tm.a]at C1;rw[<-hd]at hm C1;have HS:Hd (∀ W,Calls Tryz.prog 272 #[.string ⟨xn.toArray⟩,.string ⟨yn.toArray⟩] W fun e w'=>e=.returned (.int .i64 c)/\w'=W):=ac (fun W=>by rw[hc];exact Tryz.strings_Compare _ _ W);obtain ⟨HC,HB⟩:=aW C1 hB;clear hR hc hd C1 hB e_ yX hW ih hf EW hq ip;unfold TQ.val;go_enter Tryz.func226,Tryz.ntmps226
  by_cases h0:c=0
  ·subst h0;cases uv <;> cases vv <;> simp at hm <;> subst hm <;>
   (go_wp2_with (first | (go_at_call 272;refine (HS.o _).mono ?_;rintro e w2 ⟨rfl,rfl⟩) | (go_at_call 273;refine HC.o.mono ?_;rintro e w3 ⟨rfl,aM⟩;have bD:=ac aM;clear aM))
    go_ret
    first | exact ⟨rfl,HB.o⟩ | exact ⟨rfl,HB.o.trans (bD.o.mono (by simp;omega))⟩)
  ·have d1:(c == 0)=false:=by simpa using h0
   have d2:(c != 0)=true:=by simpa using h0
   cases uv <;> cases vv <;> simp[h0]at hm <;> subst hm <;>
   (go_wp2_with (go_at_call 272;refine (HS.o _).mono ?_;rintro e w2 ⟨rfl,rfl⟩)
    go_ret;exact ⟨rfl,HB.o⟩)
 |clear pp64d;obtain rfl:=iF.len;obtain rfl:=Fr.len;obtain ⟨n1,ea⟩:=am a.length;obtain ⟨n2,kY⟩:=am a'.length;have mw:=o8.name;have PR:=dD;unfold j5 at PR;simp only[af,bp]at PR;have Jy:=ac PR.1;have R2:=ac (fI.1 PR.2);clear dD PR;have M5:=o8.args.len;have SM:=(HG.o.2.1 _ Zc).args.len;rw[<-ea]at M5;rw[<-kY]at SM;obtain ⟨R,hR⟩:=am (cJ (ps.reverse.map (·.1)) k.ts (.mk tv n a) (.mk uv n' a'));have qN:=hR;rw[cJ]at qN;rw[<-hR];obtain ⟨W3,dB⟩:=am (((W.alloc (.cells q.cells 89)).alloc (.cells #[.bool tv,.string ⟨n.toArray⟩,.slice ta n1 tc] 43)).alloc (.cells #[.bool uv,.string ⟨n'.toArray⟩,.slice ua n2 uc] 43));have aM:=yK dB;have pP:=Ji dB;have xp:=zO dB;have xt:=sk dB;have xu:=qi dB;have lB:=dZ.later aM;rw[<-ea]at pV iF;rw[<-kY]at huv Fr;rw[<-ea,<-kY];have HR:=ac qN;have H3:=rU aM pP xp xt xu lB;have HT:=cG (pV.later aM) (huv.later aM) (iF.later aM) (Fr.later aM);have HF:=aG o8 Zc;have HN:=aG ea kY;have Y2:=ac (gX.kp (Kp.below aM));obtain ⟨fR,y'⟩:=aW ih dB;have HmT:=ac (show mT<W.heap.size from dZ.ts.lt);have zu:nodesT (.mk tv n a)=nodesTs a+1:=by unfold nodesT;omega
  have PS:=aG qC zu;obtain ⟨e0,e1,e2,_⟩:=gN xt;obtain ⟨f0,f1,f2,_⟩:=gN xu;obtain ⟨P0,P1,P2,P3,P4,P5,P6,P7,P8⟩:=iE xp;obtain ⟨⟨so,sn,sa,sl,sc,sb,sm,se⟩,⟨fo,fn,fa,fl,fc,fb,fm,fe⟩,ca,cl,cc⟩:=q;simp only[PlQ.val,PlQ.cells,TQ.val]at y' Y2 P0 P1 P2 P3 P4 P5 P6 P7 P8 ⊢;clear dZ qC gX pV huv iF Fr hR qN aM pP xp xt xu lB ea kY o8 Zc ih dB;have CM:=kh n W3 (by omega);have tE:=ac CM;clear CM
  cases tv with
  | true=>
   cases oG:dz n with
   | true=>
    rw[oG]at tE;have pp164b:=();exact pm164
   | false=>
    rw[oG]at tE;have Za:(ps.map (·.1)).contains n=(ps.reverse.map (·.1)).contains n:=by rw[gV,List.contains_iff_mem,List.contains_iff_mem];simp
    have SW:=ac (fun (w:World) (hb:Below W3.heap.size W3 w)=>Ec ⟨⟨so,sn,sa,sl,sc,sb,sm,se⟩,⟨fo,fn,fa,fl,fc,fb,fm,fe⟩,ca,cl,cc⟩ ps HG.o.1 n w (Y2.o.1.later hb));simp only[PlQ.val,PlQ.cells]at SW;rw[Za]at SW;clear Za
    cases Kc:(ps.reverse.map (·.1)).contains n with
    | true=>
     rw[Kc]at SW;have HE:=ac (show R=if wA (.mk uv n' a') (ao (bQ n)) then some k.ts else none by rw[HR.o,ak (by simp[oG]),au (by rw[Kc];rfl)]);obtain ⟨bb,cQ⟩:=am (wA (.mk uv n' a') (ao (bQ n)));rw[<-cQ]at HE;have LI:=ac cQ;clear Kc cQ oG;have pp7a:=();exact pm7
    | false=>
     rw[Kc]at SW;have Cu:=Kc
     cases uv with
     | false=>
      have HE:=ac (show R=none by rw[HR.o,ak (by simp[oG]),ak (by rw[Cu];simp),au (by simp)]);clear oG Kc Cu;have pp7b:=();exact pm7
     | true=>
      by_cases my:n=n'
      ·subst my
       by_cases nS:n1=n2
       ·skip;subst nS;have LJ:(n == n)=true:=by simp
        have HE:=ac (show R=bR (ps.reverse.map (·.1)) k.ts a a' by rw[HR.o,ak (by simp[oG]),ak (by rw[Cu];simp),ak (by rw[<-HN.o.1,<-HN.o.2];simp)]);clear oG Kc Cu;exact pm7
       ·have HE:=ac (show R=none by rw[HR.o,ak (by simp[oG]),ak (by rw[Cu];simp),au (by rw[<-HN.o.1,<-HN.o.2];simp[nS])]);have pp283:=();exact pm283
      ·have LJ:(n == n')=false:=by simp[my]
       have HE:=ac (show R=none by rw[HR.o,ak (by simp[oG]),ak (by rw[Cu];simp),au (by simp[my])]);clear oG Kc Cu;have pp7b:=();exact pm7
  | false=>
   cases uv with
   | true=>
    have HE:=ac (show R=none by rw[HR.o,ak (by simp),ak (by simp),au (by simp)]);exact pm88
   | false=>
    by_cases my:n=n'
    ·subst my
     by_cases nS:n1=n2
     ·skip;subst nS;have LJ:(n == n)=true:=by simp
      have HE:=ac (show R=bR (ps.reverse.map (·.1)) k.ts a a' by rw[HR.o,ak (by simp),ak (by simp),ak (by rw[<-HN.o.1,<-HN.o.2];simp)]);rw[y'.o]at e0 e1 e2 f0 f1 f2;have pp164c:=();exact pm164
     ·have HE:=ac (show R=none by rw[HR.o,ak (by simp),ak (by simp),au (by rw[<-HN.o.1,<-HN.o.2];simp[nS])]);exact pm283
    ·have LJ:(n == n')=false:=by simp[my]
     have HE:=ac (show R=none by rw[HR.o,ak (by simp),ak (by simp),au (by simp[my])]);exact pm88
 |clear pp64e;have f0:=fun x:Later wr=>x.get (aa ar c0);have f1:=fun x:Later wr=>x.get (aa ar c1);have f2:=fun x:Later wr=>x.get (aa ar c2);have f3:=fun x:Later wr=>x.get (aa ar j6);have f4:=fun x:Later wr=>x.get (aa ar kG);have f5:=fun x:Later wr=>x.get (aa ar kH);have As:(k:Int)<(k0:Int):=by omega
  obtain ⟨HB,HT⟩:=aW ar ht;have HX:=aG hx hy;have jZ:∀ (h:l[k]≠m[k]),jl l m=false:=fun h=>by
   cases he:jl l m with
   | false=>rfl
   | true=>exact absurd (by rw[List.getElem_of_eq ((h_ _ _).1 he)]) h
  have HNe:=ac jZ;have CC:=ac (fun (x:Later wr)=>pG ya ok ok' x.w ua ul uc va vl vc hf.args ((e_.later ar).later x.below) ((yX.later ar).later x.below));clear hu gu pG hf hx hy e_ yX ar ht jZ c0 c1 c2 j6 kG kH
  by_cases hv:uv=vv
  ·subst hv;have LH:(uv != uv)=false:=by simp
   by_cases hn:xn=yn
   ·subst hn;obtain ⟨R,hR⟩:=am (jl xa ya);have CC:=ac (show ∀ x:Later wr,Calls Tryz.prog 19 #[.slice ua ul uc,.slice va vl vc] x.w fun e w'=>e=.returned (.bool R)/\Below x.w.heap.size x.w w' from fun x=>by rw[hR];exact CC.o x);have HR:=ac hR;clear hR;go_wp2;refine aH (by kernel_rfl) (by kernel_rfl) ?_
    repeat (go_big_quiet_step ((go_at_call 19;exact bO (CC.o _))))
    refine wpQuiet_nil ?_;rintro _ ⟨x',rfl⟩;clear f0 f1 f2 f3 f4 f5;have cw:=ac (HB.o.trans (x'.below.mono HB.o.size));cases R
    ·go_wp2;go_ret;exact ⟨az (HNe.o (by rw[HX.o.1,HX.o.2];intro h;injection h with _ _ h;rw[<-h,oT]at HR;exact absurd HR.o (by simp))).symm,cw.o⟩
    ·go_wp2;go_roundw
     case rel=>exact ⟨k+1,by omega,by go_num,cw.o,vQ HT.o bg kt (by rw[HX.o.1,HX.o.2,(h_ _ _).1 HR.o.symm])⟩
     case measure=>simp[intOf];omega
   ·have gY:(xn == yn)=false:=by simpa using hn
    have jP:(!(xn == yn))=true:=by simpa using hn
    exact pm83
  ·cases uv <;> cases vv
   all_goals
    first
    | exact absurd rfl hv
    | (go_wp2
       refine aH (by kernel_rfl) (by kernel_rfl) ?_
       repeat (go_big_quiet_step (fail))
       refine wpQuiet_nil ?_;rintro _ ⟨x',rfl⟩;clear f0 f1 f2 f3 f4 f5;go_wp2;go_ret;exact ⟨az (HNe.o (by rw[HX.o.1,HX.o.2];intro h;injection h with h _ _;exact hv h)).symm,HB.o.trans (x'.below.mono HB.o.size)⟩)
 |obtain rfl:=e_.len;obtain rfl:=yX.len;obtain ⟨pa,pl,pc,rfl⟩:∃pa pl pc,v=.slice pa pl pc:=by obtain ⟨a,c,h,_⟩:=hp;exact ⟨_,_,_,h⟩
  obtain rfl:=hp.len;have xZ:=hf.args;have hlen:=xZ.len;have zdS:(!uv || xa.isEmpty)=true:=by unfold lV at zA;simp only[af]at zA;exact zA.1
  have HWf:Hd (ep xa=true):=ac (by unfold lV at zA;simp only[af]at zA;exact zA.2);clear zA;have hm:=D9 ps.reverse uv vv xn yn xa ya;obtain ⟨R,hR⟩:=am (eU ps.reverse (.mk uv xn xa) (.mk vv yn ya));rw[<-hR]at hm ⊢;obtain ⟨k0,bX⟩:=am xa.length;obtain ⟨m0,dW⟩:=am ya.length;obtain ⟨p0,kZ⟩:=am ps.length;rw[<-bX,<-dW]at hm;rw[<-bX]at hlen;rw[<-kZ]at gX;rw[<-bX]at e_;rw[<-dW]at yX;exact pm33):G:=h
theorem pm65(h:G:=by
 go_cut [14] from 8 to 14 (fun s14 wx=>s14=.bool false/\Below W1.heap.size W1 wx)
 case first=>
  cases tv with
  | false=>
   go_wp2_with fail;go_meet;exact ⟨rfl,aj _ _⟩
  | true=>
   have oG:dz n=false:=by simpa using LD
   rw[oG]at tE;go_wp2_with (go_at_call 119;refine tE.o.mono ?_;rintro e w3 ⟨rfl,aM⟩;have H3:=ac aM;clear aM);go_meet;exact ⟨rfl,H3.o⟩
 case rest=>
 obtain ⟨h14,bB⟩:=hcut;rw[h14];clear h14 LD;obtain ⟨W2,a_⟩:=am wc;rw[<-a_]at bB ⊢;clear a_ wc;have x2:=bJ bB H1.o.2.1;have c2:=ah x2 2;have H2:=aG bB (H1.o.1.tr bB);clear bB x2 e0 e1 e2;go_wp2_with fail
 first
 |clear pp65;clear c2;go_loopw [5,26] (fun r i wr=>∃j:Nat,j<=n1/\i=.int .i64 j/\r=.int .i64 ((eh k.ts (a.take j)+1:Nat):Int)/\Below W2.heap.size W2 wr) (fun _ i _=>n1 - (intOf i).toNat)
  case atStart=>exact ⟨0,aX _,rfl,by simp[eh],aj _ _⟩
  case round=>
   obtain ⟨j,hj,rfl,rfl,ar⟩:=hrel
   by_cases hlt:j<n1
   ·have me:=ce HN.o hlt;have pp218c:=();exact pm218
   ·obtain rfl:n1=j:=by omega
    have cB:a.take n1=a:=by rw[HN.o];exact cY
    rw[cB];have HK:=ac (H2.o.2.tr ar);clear ar cB;go_wp2;go_ret;exact ⟨by rw[rJ.o];rfl,HK.o⟩
 |clear c2;go_loopw [5,27] (fun r i wr=>∃j:Nat,j<=n1/\i=.int .i64 j/\OwnS W2.heap.size wr r (dr k.ts (a.take j))/\Below W2.heap.size W2 wr) (fun _ i _=>n1 - (intOf i).toNat)
  case atStart=>exact ⟨0,aX _,rfl,OwnS.nil _ _,aj _ _⟩
  case round=>
   obtain ⟨j,hj,rfl,fh,ar⟩:=hrel
   by_cases hlt:j<n1
   ·have me:=ce HN.o hlt;exact pm218
   ·obtain rfl:n1=j:=by omega
    have cB:a.take n1=a:=by rw[HN.o];exact cY
    rw[cB]at fh;have HK:=aG (H2.o.2.tr ar) (fh.base H2.o.2.size);clear ar fh cB;go_wp2;go_ret;exact ⟨⟨_,rfl,by rw[rJ.o];exact HK.o.2⟩,HK.o.1⟩):G:=h
theorem pm66(h:G:=by
 have CT:=ac (fun w=>ht ▸ kX n w sY);have HE:=ac (hb.trans (by rw[hv,ht] <;> rfl));clear hv ht hb my Oh sZ qk;have pp91f:=();exact pm91):G:=h
theorem pm67(h:G:=by
 go_wp2_with (first | (go_at_call 84;refine zw.o.mono ?_;rintro e w3 ⟨rfl,wh,aM⟩;have H3:=aG wh aM;clear wh aM) | (go_at_call 75;refine (G0 _ _).mono ?_;rintro e w4 ⟨rfl,rfl⟩) | (go_at_call 74;refine (Al _ _ _ VW.o _ H3.o.1).mono ?_;rintro e w5 ⟨v5,rfl,MK,bm⟩;have H5:=aG MK bm;clear MK bm));go_ret;have aM:RowKit.Below W2.heap.size W2 w3:=by rw[HZ3.o,fp.o];exact H3.o.2
 have iC:=cw.o.trans (aM.mono cw.o.size);exact ⟨⟨v5,rfl,ownsRow_base_a H5.o.1.1 iC.size,H5.o.1.2⟩,iC.trans (H5.o.2.mono iC.size)⟩):G:=h
theorem pm68(h:G:=by
 have HE:=ac (show R=true by rw[ht,gD (by rw[Jd.o];exact aD _)];simp[cb]);have cv:=ac (gG.o.trans (dt.mono gG.o.size));clear dt ht;go_wp2;go_ret;exact ⟨az HE.o.symm,cv.o⟩):G:=h
theorem pm69(h:G:=by
 have x6:=qA (v0:=.bool pv) (v1:=.string pn) (v2:=.slice pa pl pc) H5.o.2.2.1;have k6:=eM (W:=w5) (b:=w.heap.size+1) (v0:=.bool pv) (v1:=.string pn) (v2:=.slice pa pl pc);obtain ⟨W6,dm⟩:=am (((w5.setCell ⟨w.heap.size+1,0,none⟩ (.bool pv)).setCell ⟨w.heap.size+1,1,none⟩ (.string pn)).setCell ⟨w.heap.size+1,2,none⟩ (.slice pa pl pc));rw[<-dm]at x6 k6 ⊢;clear dm;have g0:W6.cell? ⟨w.heap.size+1,0,none⟩=some (.bool pv):=ah x6 0;have g1:W6.cell? ⟨w.heap.size+1,1,none⟩=some (.string pn):=ah x6 1;have g2:W6.cell? ⟨w.heap.size+1,2,none⟩=some (.slice pa pl pc):=ah x6 2
 first
 |clear pp69;have hz:=HY.o.2.2;refine bI (v:=TQ.val ⟨pv,pn,pa,pl,pc⟩) (by simp[TQ.val,results,Tryz.results218,go_sem,g0,g1,g2]) rfl ⟨⟨⟨pv,pn,pa,pl,pc⟩,rfl,H5.o.1.move (fun b hok hlt=>⟨by omega,k6.same b hlt (by omega)⟩)⟩,Below.kp1 H5.o.2.1 k6 (by omega)⟩
 |refine bI (v:=TQ.val ⟨pv,pn,pa,pl,pc⟩) (by simp[TQ.val,results,Tryz.results168,go_sem,g0,g1,g2]) rfl ⟨⟨⟨pv,pn,pa,pl,pc⟩,rfl,H5.o.1.move (fun b hok hlt=>⟨by omega,k6.same b hlt (by omega)⟩)⟩,Below.kp1 H5.o.2.1 k6 (by omega)⟩):G:=h
theorem pm70(h:G:=by
 obtain ⟨e0,e1,e2,e3,_,_,_,_⟩:=dy H2.o.2.1;have g0:W2.cell? ⟨kb,0,none⟩=some (.map (some mF)):=ah H2.o.2.2.box 0;have g1:W2.drew.cell? ⟨kb,0,none⟩=some (.map (some mF)):=g0;have g3:W2.drew.cell? ⟨w.heap.size+1,1,none⟩=some (.string ⟨n.toArray⟩):=e1;have aM:Below W2.heap.size W2 (W2.alloc (.cells #[.int .u8 0,.string ⟨#[]⟩,.slice none 0 0,.slice none 0 0] 36)):=cO;obtain ⟨g4,g5⟩:=zS aM g0 e1;rcases H2.o.2.2.fs.look Tryz.underlying9 Tryz.underlying145 ml (x:=n) (by omega) with ⟨hg,hlk⟩ | ⟨f,vf,hg,hvf,hlk⟩
 first
 |clear pp70
  ·have l1:=(hlk W2.drew rfl).1;have pp121a:=();exact pm121
  ·obtain ⟨⟨Fw,Fx,Fy,Fz,FA,FB,FC,FD⟩,rfl,pf,Ic⟩:=hvf;simp only[FQ.val]at hlk;have l1:=(hlk W2.drew rfl).1;have pp121b:=();exact pm121
 |·have l1:=(hlk W2.drew rfl).1;have l2:=(hlk (W2.alloc (.cells #[.int .u8 0,.string ⟨#[]⟩,.slice none 0 0,.slice none 0 0] 36)).drew (bE _ _ _ (by have:=H2.o.2.2.fs.lt;omega))).1;have Nd:=ac (show R=true by rw[hE,hg]);have bD:=ac (H2.o.1.tr aM.drew);clear hlk hg aM hE;go_enter Tryz.func124,Tryz.ntmps124;go_upto_region 4 with fail;rw[<-fp.o];go_region
   all_goals
    go_wp2;go_ret;exact ⟨by rw[Nd.o];rfl,bD.o⟩
  ·obtain ⟨⟨Fw,Fx,Fy,Fz,FA,FB,FC,FD⟩,rfl,pf,Ic⟩:=hvf;simp only[FQ.val]at hlk;have l1:=(hlk W2.drew rfl).1;exact pm121):G:=h
theorem pm71(h:G:=by
 have H5:=ac (((aj wq.heap.size wq).drew).trans bm);refine hK _ _ (fun _=>by rw[dp.o];exact H5.o) (fun _=>?_);clear hK K bm;refine bZ 7 rfl fun K hK=>?_;go_simp;refine aK.2 ((J5.o w5 H5.o).mono ?_);rintro _ w6 ⟨⟨⟨p0,p1,p2,p3,p4,p5,p6,p7⟩,rfl,hp⟩,da⟩;have H6:=ac (H5.o.tr da);refine hK _ _ (fun _=>by rw[dp.o];exact H6.o) (fun _=>?_);clear hK K;refine bZ 8 rfl fun K hK=>?_;go_simp;have fW:Below w6.heap.size w6 (w6.alloc (.cells #[.int .u8 p0,.string p1,.slice p2 p3 p4,.slice p5 p6 p7] 36)):=cO;refine hK _ _ (fun _=>by rw[dp.o];exact H6.o.tr fW) (fun _=>?_)
 first
 |clear pp71;clear hK K;have pp63:=();exact pm63
 |clear hK K;exact pm63):G:=h
theorem pm72(h:G:=by
 go_enter Tryz.func64,Tryz.ntmps64
 first
 |clear pp72a;go_wp2_with (first | (go_at_call 115;refine C1.o.mono ?_;rintro e w' ⟨rfl,m6⟩;obtain rfl:=m6.symm) | (go_at_call 116;refine (CN.o _).mono ?_;rintro e w3 ⟨rfl,aM⟩;have bD:=ac aM;have p2:=(gO.o.later aM).c2;have p3:=(gO.o.later aM).c3;have p0:=(gO.o.later aM).c0;have s3:=(rj.o.later aM).c3;have s4:=(rj.o.later aM).c4;clear aM));go_ret;exact JPost.no (l:=left - 1) HE.o (m7.o.trans (Kp.below bD.o)) (ws.o.later bD.o) (by omega) (by omega)
 |clear pp72b;go_wp2_with (first | (go_at_call 115;refine C1.o.mono ?_;rintro e w' ⟨rfl,m6⟩;obtain rfl:=m6.symm));go_ret;exact JPost.no (l:=left - 1) HE.o (m7.o) (ws.o) (by omega) (by omega)
 |clear pp72c;go_wp2_with (first | (go_at_call 115;refine C1.o.mono ?_;rintro e w' ⟨rfl,m6⟩;obtain rfl:=m6.symm));go_ret;exact JPost.no (l:=left - 1) HE.o oR.o.1 oR.o.2.1 (by omega) (by omega)
 |clear pp72d;go_wp2_with (go_at_call 115;refine C1.o.mono ?_;rintro e w' ⟨rfl,rfl⟩);go_ret;exact JPost.no (l:=left - 1) HE.o ((oP _).trans (Kp.below cO)) ((HJ.o.set _).later cO) (by omega) (by omega)
 |clear pp72e;go_wp2_with (first | (go_at_call 115;refine C1.o.mono ?_;rintro e w' ⟨rfl,m6⟩;obtain rfl:=m6.symm) | (go_at_call 116;refine (CN.o _).mono ?_;rintro e w3 ⟨rfl,aM⟩;have bD:=ac aM;have p2:=(gO.o.later aM).c2;have p3:=(gO.o.later aM).c3;have p0:=(gO.o.later aM).c0;have s3:=(rj.o.later aM).c3;have s4:=(rj.o.later aM).c4;clear aM) | (go_at_call 117;refine (CI.o _ (m7.o.trans (Kp.below bD.o))).mono ?_;rintro e w4 ⟨rfl,aO⟩;have ei:=ac aO;have p2:=((gO.o.later bD.o).later aO).c2;have p3:=((gO.o.later bD.o).later aO).c3;clear aO) | (go_at_call 118;refine (CT.o _ ((m7.o.trans (Kp.below bD.o)).trans (Kp.below ei.o)) ((ws.o.later bD.o).later ei.o)).mono ?_;rintro e w5 ⟨rfl,tQ,l5,BE,BG,pu,kx⟩;have Xz:=kx rfl;subst Xz;have QH:Kp (fun c=>c=J) w w5:=((m7.o.trans (Kp.below bD.o)).trans (Kp.below ei.o)).trans tQ;have e3:w5.cell? ⟨w.heap.size,3,none⟩=some (.slice qb m0 qe):=(((gO.o.later bD.o).later ei.o).kp tQ (by omega)).c3;have HA:=aG QH BE;clear tQ BE BG pu kx QH))
  first
  |clear pp25;exact pm4
  |exact pm3
 |clear pp72f;go_wp2_with (first | (go_at_call 115;refine C1.o.mono ?_;rintro e w' ⟨rfl,m6⟩;obtain rfl:=m6.symm) | (go_at_call 116;refine (CN.o _).mono ?_;rintro e w3 ⟨rfl,aM⟩;have bD:=ac aM;have p2:=(gO.o.later aM).c2;have p3:=(gO.o.later aM).c3;have p0:=(gO.o.later aM).c0;have s3:=(rj.o.later aM).c3;have s4:=(rj.o.later aM).c4;clear aM) | (go_at_call 117;refine (CI.o _ (m7.o.trans (Kp.below bD.o))).mono ?_;rintro e w4 ⟨rfl,aO⟩;have ei:=ac aO;have p2:=((gO.o.later bD.o).later aO).c2;have p3:=((gO.o.later bD.o).later aO).c3;clear aO) | (go_at_call 118;refine (CT.o _ ((m7.o.trans (Kp.below bD.o)).trans (Kp.below ei.o)) ((ws.o.later bD.o).later ei.o)).mono ?_;rintro e w5 ⟨rfl,tQ,l5,BE,BG,pu,kx⟩;have HH:=cG tQ BE BG BG;have HL:=ac (show l5<=left - 1 from pu);clear tQ BE BG pu kx));go_ret;exact JPost.no HE.o (((m7.o.trans (Kp.below bD.o)).trans (Kp.below ei.o)).trans HH.o.1) HH.o.2.1 HH.o.2.2.1 (by have:=HL.o;omega)
 |clear pp72g;go_wp2_with (first | (go_at_call 115;refine C1.o.mono ?_;rintro e w' ⟨rfl,m6⟩;obtain rfl:=m6.symm) | (go_at_call 116;refine (CN.o _).mono ?_;rintro e w3 ⟨rfl,aM⟩;have bD:=ac aM;have p2:=(gO.o.later aM).c2;have p3:=(gO.o.later aM).c3;have p0:=(gO.o.later aM).c0;have s3:=(rj.o.later aM).c3;have s4:=(rj.o.later aM).c4;clear aM) | (go_at_call 117;refine (CI.o _ (m7.o.trans (Kp.below bD.o))).mono ?_;rintro e w4 ⟨rfl,aO⟩;have ei:=ac aO;have p2:=((gO.o.later bD.o).later aO).c2;have p3:=((gO.o.later bD.o).later aO).c3;clear aO));go_ret;exact JPost.no (l:=left - 1) HE.o ((m7.o.trans (Kp.below bD.o)).trans (Kp.below ei.o)) ((ws.o.later bD.o).later ei.o) (by omega) (by omega)
 |clear pp72h;go_wp2_with (first | (go_at_call 115;refine C1.o.mono ?_;rintro e w' ⟨rfl,m6⟩;obtain rfl:=m6.symm) | (go_at_call 116;refine (CN.o _).mono ?_;rintro e w3 ⟨rfl,aM⟩;have bD:=ac aM;have p2:=(gO.o.later aM).c2;have p3:=(gO.o.later aM).c3;have p0:=(gO.o.later aM).c0;have s3:=(rj.o.later aM).c3;have s4:=(rj.o.later aM).c4;clear aM) | (go_at_call 118;refine (CT.o _ (m7.o.trans (Kp.below bD.o)) (ws.o.later bD.o)).mono ?_;rintro e w5 ⟨rfl,tQ,l5,BE,BG,pu,kx⟩;have Xz:=kx rfl;subst Xz;have QH:Kp (fun c=>c=J) w w5:=(m7.o.trans (Kp.below bD.o)).trans tQ;have e3:w5.cell? ⟨w.heap.size,3,none⟩=some (.slice qb m0 qe):=((gO.o.later bD.o).kp tQ (by omega)).c3;have HA:=aG QH BE;clear tQ BE BG pu kx QH))
  first
  |clear pp37;exact pm4
  |exact pm3
 |go_wp2_with (first | (go_at_call 115;refine C1.o.mono ?_;rintro e w' ⟨rfl,m6⟩;obtain rfl:=m6.symm) | (go_at_call 116;refine (CN.o _).mono ?_;rintro e w3 ⟨rfl,aM⟩;have bD:=ac aM;have p2:=(gO.o.later aM).c2;have p3:=(gO.o.later aM).c3;have p0:=(gO.o.later aM).c0;have s3:=(rj.o.later aM).c3;have s4:=(rj.o.later aM).c4;clear aM) | (go_at_call 118;refine (CT.o _ (m7.o.trans (Kp.below bD.o)) (ws.o.later bD.o)).mono ?_;rintro e w5 ⟨rfl,tQ,l5,BE,BG,pu,kx⟩;have HH:=cG tQ BE BG BG;have HL:=ac (show l5<=left - 1 from pu);clear tQ BE BG pu kx));go_ret;exact JPost.no HE.o ((m7.o.trans (Kp.below bD.o)).trans HH.o.1) HH.o.2.1 HH.o.2.2.1 (by have:=HL.o;omega)):G:=h
theorem pm73(h:G:=by
 have pp302:=();exact pm302):G:=h
theorem pm74(h:G:=by
 simp only[FQ.val,TQ.val]at J5;have dp:=ac hS;clear hS;refine lH S 9 dU fun jC bN=>?_;refine dh 0 107 (.agg #[.int .u8 q.o,.string q.n,.slice q.a q.l q.c,.slice q.b q.m q.e]) rfl (fun V hX=>by obtain ⟨g0,g1,g2,g3⟩:=f0 V hX;go_simp) bN fun Q5=>?_;simp only[ag];refine bC 1 108 (.pointer (some ⟨w.heap.size,1,none⟩)) rfl Q5 fun Q6=>?_;simp only[ag];refine dh 2 109 (.string ⟨n.toArray⟩) rfl (fun V hX=>by obtain ⟨g0,g1⟩:=f1 V hX;go_simp) Q6 fun KK=>?_;simp only[ag];refine bC 4 111 (.pointer (some ⟨w.heap.size+1+1,1,none⟩)) rfl KK fun Q7=>?_;simp only[ag]
 first
 |clear pp74;refine dh 5 112 (.string ⟨n.toArray⟩) rfl (fun V hX=>by obtain ⟨g0,g1⟩:=f1 V hX;go_simp) Q7 fun XV=>?_
  simp only[ag];refine bZ 3 rfl fun K hK=>?_;go_simp;refine aK.2 ((fC n _ (by have:=R2.o.2.1;omega)).mono ?_);rintro _ _ ⟨rfl,rfl⟩;refine hK _ _ (fun _=>dU) (fun _=>?_);clear hK K;refine bZ 6 rfl fun K hK=>?_;go_simp;refine aK.2 ((gK n _).mono ?_);rintro _ w5 ⟨rfl,bm⟩;have pp71:=();exact pm71
 |refine dh 5 112 (.string ⟨m.toArray⟩) rfl (fun V hX=>by obtain ⟨g0,g1⟩:=f1 V hX;go_simp) Q7 fun XV=>?_
  simp only[ag];refine bZ 3 rfl fun K hK=>?_;go_simp;refine aK.2 ((fC n _ (by have:=R2.o.2.1;omega)).mono ?_);rintro _ _ ⟨rfl,rfl⟩;refine hK _ _ (fun _=>dU) (fun _=>?_);clear hK K;refine bZ 6 rfl fun K hK=>?_;go_simp;refine aK.2 ((gK m _).mono ?_);rintro _ w5 ⟨rfl,bm⟩;exact pm71):G:=h
theorem pm75(h:G:=by
 obtain ⟨b,off,u,rfl,_,hu,c0,c1,c2⟩:=MU.o.get bg;obtain ⟨b',jD,u',rfl,_,gu,j6,kG,kH⟩:=Pf.o.get kt;have lX:=PX.o.mem (aw bg);have pp298:=();exact pm298):G:=h
theorem pm76(h:G:=by
 go_wp2_with (go_at_call 146;refine (Hz.o _).mono ?_;rintro e X0 ⟨rfl,lM⟩;have mO:Below W2.heap.size W2 X0:=(by rw[fp.o];exact lM);have l9:=ac (bJ mO HX.o);have nj:=ac (bJ mO HY.o);have pL:=ac ((HP.o.later cw.o).later mO);have gG:=ac (cw.o.trans (mO.mono cw.o.size));have z1:X0.cell? ⟨w.heap.size,1,none⟩=some (.string ⟨xn.toArray⟩):=ah l9.o 1;have z3:X0.cell? ⟨w.heap.size+1,1,none⟩=some (.string ⟨yn.toArray⟩):=ah nj.o 1;have z2:X0.cell? ⟨w.heap.size,2,none⟩=some (.slice ua k0 uc):=ah l9.o 2;clear lM mO)
 first
 |clear pp76;clear z1 z2 z3;go_loopw [47] (fun i wr=>∃k:Nat,k<=k0/\i=.int .i64 k/\Below X0.heap.size X0 wr/\R=(bM ps.reverse (xa.drop k) (ya.drop k) && cb (ps ++ [(xn,yn)]).reverse xs ys)) (fun i _=>k0 - (intOf i).toNat)
  case atStart=>exact ⟨0,aX _,rfl,aj _ _,by simpa using HM.o⟩
  case round=>
   exact pm15
 |go_ret;exact ⟨az HE.o.symm,gG.o⟩):G:=h
theorem pm77(h:G:=by
 obtain ⟨vo,yn,ya,ys⟩:=u;obtain ⟨s1,s2,h1,e_,Au⟩:=aT.1 hq;obtain ⟨s3,s4,h2,yX,SZ⟩:=aT.1 ip;obtain ⟨uo,un,ua,ul,uc,ub,um,ue⟩:=q;obtain ⟨vo,vn,va,vl,vc,vb,vm,ve⟩:=q';exact pm209):G:=h
theorem pm78(h:G:=by
 obtain ⟨b,off,u,rfl,_,hu,c0,c1,c2⟩:=MU.o.get bg;obtain ⟨b',jD,u',rfl,_,gu,j6,kG,kH⟩:=Pf.o.get kt;have lX:=HF.o.mem (aw bg);have pG:=fR.o xa[k] (aw bg);exact pm298):G:=h
theorem pm79(h:G:=by
 have rJ:=ac hE;have pp154c:=();exact pm154):G:=h
theorem pm80(h:G:=by
 go_wp2_with (first | (go_at_call 187;refine (sV _ _ _).mono ?_;rintro e w' ⟨rfl,rfl⟩) | (go_at_call 239;refine HC.o.mono ?_;rintro e w' ⟨rfl,hw⟩));go_ret;exact ⟨rfl,(cO.alloc (by simp) _).trans ((qu hw).mono (by simp;omega))⟩):G:=h
theorem pm81(h:G:=by
 exact pm301):G:=h
theorem pm82(h:G:=by
 exact pm91):G:=h
theorem pm83(h:G:=by
 go_wp2;refine aH (by kernel_rfl) (by kernel_rfl) ?_
 repeat (go_big_quiet_step (fail))
 refine wpQuiet_nil ?_;rintro _ ⟨x',rfl⟩
 first
 |clear pp83a;clear f0 f1;have cw:=ac (HB.o.trans (x'.below.mono HB.o.size));obtain ⟨bb,cQ⟩:=am (Op.bytesLess x y);rw[<-cQ];have HT2:Hd (R=(bb && dK (l.drop (k+1)))):=ac (by rw[cQ];exact HT.o);clear cQ HT;cases bb
  ·have HE:=ac (show R=false by rw[HT2.o];simp);go_wp2;go_ret;exact ⟨az HE.o.symm,cw.o⟩
  ·go_wp2;go_roundw
   case rel=>exact ⟨k+1,.inr hlt,by go_num,cw.o,by rw[HT2.o];simp⟩
   case measure=>simp[intOf];omega
 |clear pp83b;clear f0 f1 f2 f3;go_wp2;go_ret;exact ⟨az HE.o.symm,cv.o.trans (x'.below.mono cv.o.size)⟩
 |clear pp83c;clear f0 f1 f2 f3;go_wp2;go_roundw
  case rel=>exact ⟨j,by omega,by go_num,lY.o.trans (x'.below.mono lY.o.size),HT.o⟩
  case measure=>simp[intOf];try omega
 |clear f0 f1 f2 f3 f4 f5;go_wp2;go_ret;exact ⟨az (HNe.o (by rw[HX.o.1,HX.o.2];intro h;injection h with _ h _;exact hn h)).symm,HB.o.trans (x'.below.mono HB.o.size)⟩):G:=h
theorem pm84(h:G:=by
 have QL:=bJ rq e_;have IJ:Marks m_.heap.size nN ds:=xK.move (fun D hD hd=>(rq.block D (bz hd)).trans hd);have vq:Kp M m_ nN:=bj.trans (Kp.below rq);have yz:=dZ.later rq;have QM:=Gx rh;have hMl:∀ b,M b->b<m_.heap.size:=fun b hb=>by rw[HM.o]at hb;have:=lO.o.1;have:=lO.o.2.1;omega
 have t4:=rU Tj vq (Zs.tr rq) QM hMl bj.size;have FY:=cG QK QL IJ yz;have QN:=bF zH sd qC;have tw:=bF p9 hi1 wi;have XE:=ac rh;have x1w:=bJ rq Zt;have jN:=ac x1w;clear Gw e_ xK bj dZ zH sd qC p9 hi1 wi rh rq Tj QK QL IJ vq yz QM hMl Zs Zt x1w
 first
 |clear pp84;have hix:(Instr.index 83 (.agg #[(.func (.func 47) #[.pointer (some ⟨K0+1+1+1,0,none⟩)] #[]),(.func (.func 48) #[.pointer (some ⟨K0+1+1+1,0,none⟩)] #[])]) (.int .i64 0)).run Tryz.prog wr=.ok (.func (.func 47) #[.pointer (some ⟨K0+1+1+1,0,none⟩)] #[]) wr:=by kernel_rfl
  gi_wp2_with fail;clear e0 hix;rw[<-XE.o];refine lD [53,54,55,56,57,14,15,58,59,60,61,62,70] 53 (fun us ds wq=>∃j:Nat,j<=n1/\us 53=.int .i64 j/\Marks m_.heap.size wq ds/\Kp M nN wq/\wq.heap[aB+1]?=some (.cells #[.int .i64 0] 30 (0,0))/\wq.heap[aB]?=some (.cells #[.int .i64 0] 3 (0,0)) ∧
   ∃(kj:Bd) (NL NM:Nat),KnV (fun b=>¬M b) goodF goodT wq (K0+1+1+1) (K0+1) (K0+1+1) NL NM kj/\NL<=nF+j * 400/\NM<=nT+j * 160000/\bw kj=true/\ew bK 0 k l=ew bK j kj (l.drop j)) (fun v=>n1 - (intOf v).toNat) (by simp) (by decide) ?start3 ?round3
  case start3=>exact ⟨0,aX _,rfl,FY.o.2.2.1,Kp.refl _,FY.o.1,FY.o.2.1,k,nF,nT,FY.o.2.2.2,by omega,by omega,QN.o.1,by simp⟩
  case round3=>
   have pp147:=();exact pm147
 |have hix:(Instr.index 83 (.agg #[(.func (.func 47) #[.pointer (some ⟨K0+1+1+1,0,none⟩)] #[]),(.func (.func 48) #[.pointer (some ⟨K0+1+1+1,0,none⟩)] #[])]) (.int .i64 1)).run Tryz.prog wr=.ok (.func (.func 48) #[.pointer (some ⟨K0+1+1+1,0,none⟩)] #[]) wr:=by kernel_rfl
  gi_wp2_with fail;clear e0 hix;rw[<-XE.o];refine lD [53,54,55,56,57,14,15,58,59,60,61,62,70] 53 (fun us ds wq=>∃j:Nat,j<=n1/\us 53=.int .i64 j/\Marks m_.heap.size wq ds/\Kp M nN wq/\wq.heap[aB+1]?=some (.cells #[.int .i64 0] 30 (0,0))/\wq.heap[aB]?=some (.cells #[.int .i64 0] 3 (0,0)) ∧
   ∃(kj:Bd) (NL NM:Nat),KnV (fun b=>¬M b) goodF goodT wq (K0+1+1+1) (K0+1) (K0+1+1) NL NM kj/\NL<=nF+j * 400/\NM<=nT+j * 160000/\bw kj=true/\ew ev 0 k l=ew ev j kj (l.drop j)) (fun v=>n1 - (intOf v).toNat) (by simp) (by decide) ?start3 ?round3
  case start3=>exact ⟨0,aX _,rfl,FY.o.2.2.1,Kp.refl _,FY.o.1,FY.o.2.1,k,nF,nT,FY.o.2.2.2,by omega,by omega,QN.o.1,by simp⟩
  case round3=>
   exact pm147):G:=h
theorem pm85(h:G:=by
 obtain ⟨s1,h1,iF⟩:=aP.1 hq;obtain ⟨tv,tn,ta,tl,tc⟩:=q;simp only[TQ.val,cF,Array.mk.injEq,b_,and_true,Value.bool.injEq,Value.string.injEq]at h1;obtain ⟨rfl,rfl,rfl⟩:=h1;obtain rfl:=iF.len;have mw:=o8.name;have Qa:=o8.args.len;obtain ⟨n1,ea⟩:=am a.length
 first
 |clear pp85a;rw[<-ea]at hq iF;rw[<-ea];obtain ⟨W1,bY⟩:=am (w.alloc (.cells #[.bool tv,.string ⟨n.toArray⟩,.slice ta n1 tc] 43));have hb1:=cV bY;have x1:=bU bY;have hE:iv k.ts (.mk tv n a)=if (tv && dz n)=true then (getB k.ts n).isNone else a.any (iv k.ts):=by rw[iv,qR]
  obtain ⟨R,hR⟩:=am (iv k.ts (.mk tv n a));rw[<-hR]at hE ⊢;have HE:=ac hE;have CA:=fun (V:World) (h:Below W1.heap.size W1 V)=>sK (iv k.ts) a Qa kb W0 (fun t ht=>ih t ht (o8.args.mem ht)) ok V ta n1 tc ((hb.tr hb1).tr h) ((iF.later hb1).later h);have FE:=ac CA;have tE:=ac (kh n W1 (by omega));have H1:=bF hb1 x1 (hb.tr hb1);have jj:=ac bY;clear hq iF o8 ih CA hb1 x1 bY hE hR hb ea Qa;obtain ⟨e0,e1,e2,_⟩:=gN H1.o.2.1
  cases tv with
  | false=>
   obtain ⟨B,hB⟩:=am (a.any (iv k.ts));have hE:=HE.o;rw[ak (by simp),<-hB]at hE;rw[<-hB]at FE;have rJ:=ac hE;have zs:=ac (FE.o W1 (aj _ _));clear hE hB;have pp146a:=();exact pm146
  | true=>
   cases oG:dz n with
   | false=>
    rw[oG]at tE;obtain ⟨B,hB⟩:=am (a.any (iv k.ts));have hE:=HE.o;rw[ak (by simp[oG]),<-hB]at hE;rw[<-hB]at FE;have rJ:=ac hE;clear hE hB oG;have pp146b:=();exact pm146
   | true=>
    rw[oG]at tE;have hE:=HE.o;rw[au (by simp[oG])]at hE;have rJ:=ac hE;clear hE oG FE;exact pm146
 |clear pp85b;rw[<-ea]at hq iF Qa;rw[<-ea];obtain ⟨W1,bY⟩:=am (w.alloc (.cells #[.bool tv,.string ⟨n.toArray⟩,.slice ta n1 tc] 43));have hb1:=cV bY;have x1:=bU bY;obtain ⟨R,hR⟩:=am (qq k.ts (.mk tv n a));have hE:=hR;rw[qq]at hE;rw[<-hR];have HE:=ac hE;have tE:=ac (kh n W1 (by omega));have H1:=bF hb1 x1 (hb.tr hb1);have jj:=ac bY;have WV:=ac (iF.later hb1);obtain ⟨fR,UY,HN⟩:=cH ih o8.args ea;clear hq iF o8 ih hb1 x1 bY hE hR hb ea;have iz:=fd
  by_cases LD:(tv && dz n)=true
  ·obtain ⟨rfl,oG⟩:tv=true/\dz n=true:=by simpa using LD
   rw[oG]at tE;have hE:=HE.o;rw[au LD]at hE;have rJ:=ac hE;clear hE LD oG;have pp229:=();exact pm229
  ·have hE:=HE.o;rw[ak LD]at hE;have rJ:=ac hE;clear hE;exact pm229
 |rw[<-ea]at hq iF Qa;rw[<-ea];obtain ⟨W1,bY⟩:=am (w.alloc (.cells #[.bool tv,.string ⟨n.toArray⟩,.slice ta n1 tc] 43));have hb1:=cV bY;have x1:=bU bY;obtain ⟨R,hR⟩:=am (jz k.ts (.mk tv n a));have hE:=hR;rw[jz]at hE;rw[<-hR];have HE:=ac hE;have tE:=ac (kh n W1 (by omega));have H1:=bF hb1 x1 (hb.tr hb1);have jj:=ac bY;have WV:=ac (iF.later hb1);obtain ⟨fR,UY,HSm,HN⟩:=eH ih o8.args ze ea;clear hq iF o8 ze ih hb1 x1 bY hE hR hb ea;have iz:=fd
  by_cases LD:(tv && dz n)=true
  ·obtain ⟨rfl,oG⟩:tv=true/\dz n=true:=by simpa using LD
   rw[oG]at tE;have hE:=HE.o;rw[au LD]at hE;have rJ:=ac hE;clear hE LD oG;have pp223:=();exact pm223
  ·have hE:=HE.o;rw[ak LD]at hE;have rJ:=ac hE;clear hE;exact pm223):G:=h
theorem pm86(h:G:=by
 have hx9:(w8.alloc (.cells #[.int .u8 po,.string pn,.slice pa pl pc,.slice pb pm pe] 36)).heap[w8.heap.size]?=some (.cells #[.int .u8 po,.string pn,.slice pa pl pc,.slice pb pm pe] 36 (0,0)):=ai rfl;obtain ⟨W9,r_⟩:=am ((w8.alloc (.cells #[.int .u8 po,.string pn,.slice pa pl pc,.slice pb pm pe] 36)).setCell ⟨w.heap.size+1+1+1,3,none⟩ (.slice (some ⟨w8.heap.size,0,none⟩) 1 1));have m8:=uQ.setR 3 (.slice (some ⟨w8.heap.size,0,none⟩) 1 1);rw[<-r_]at m8
 first
 |clear pp86;have UF:W9.heap[w8.heap.size]?=some (.cells #[.int .u8 po,.string pn,.slice pa pl pc,.slice pb pm pe] 36 (0,0)):=by rw[r_];exact (dV _ _ _ _ (by have:=(Fk.o.later ic).lt;simp <;> omega)).trans hx9
  have UA:FormV (w7.heap.size<=·) W9 (FQ.val ⟨po,pn,pa,pl,pc,pb,pm,pe⟩) (eW kk nx z g):=by
   rw[r_];exact UE.move (fun b hok hlt=>⟨hok,(dV _ _ _ _ (by have:=Fk.o.lt;simp <;> omega)).trans (l7.block b hlt)⟩)
  have AL:FormV (w7.heap.size<=·) W9 (FQ.val ⟨qo,⟨n.toArray⟩,gh,0,gi,some ⟨w8.heap.size,0,none⟩,1,1⟩) (.mk qo n [] [eW kk nx z g]):=aT.2 ⟨_,_,rfl,cq,rH UA (by omega) UF⟩;have q3:=ah uQ.b2 3;have zq3:=ae uQ.b2 3;obtain ⟨f0,f1,f2,f3⟩:=m5 m8.b2;obtain ⟨r0,r1,r2,r3⟩:=m5 m8.b1;have z0:=ae m8.b1 0;have z1:=ae m8.b1 1;have z2:=ae m8.b1 2;have z3:=ae m8.b1 3;obtain ⟨SF,HP⟩:=aW m8 AL;have Wq:=Fk.o.lt;rw[r_]at f0 f1 f2 f3 r0 r1 r2 r3 z0 z1 z2 z3;have HW9:=ac r_;clear UE ic Wu hwX l7 uQ hx9 r_ m8 UF UA AL;gi_wp2;rw[<-HW9.o];have x6:=lA (v0:=.int .u8 qo) (v1:=.string ⟨n.toArray⟩) (v2:=.slice gh 0 gi) (v3:=.slice (some ⟨w8.heap.size,0,none⟩) 1 1) SF.o.b1;have k6:=dL (W:=W9) (b:=w.heap.size+1+1) (v0:=.int .u8 qo) (v1:=.string ⟨n.toArray⟩) (v2:=.slice gh 0 gi) (v3:=.slice (some ⟨w8.heap.size,0,none⟩) 1 1);obtain ⟨W6,dm⟩:=am ((((W9.setCell ⟨w.heap.size+1+1,0,none⟩ (.int .u8 qo)).setCell ⟨w.heap.size+1+1,1,none⟩ (.string ⟨n.toArray⟩)).setCell ⟨w.heap.size+1+1,2,none⟩ (.slice gh 0 gi)).setCell ⟨w.heap.size+1+1,3,none⟩ (.slice (some ⟨w8.heap.size,0,none⟩) 1 1));rw[<-dm]at x6 k6 ⊢;clear dm;have g0:W6.cell? ⟨w.heap.size+1+1,0,none⟩=some (.int .u8 qo):=ah x6 0;have g1:W6.cell? ⟨w.heap.size+1+1,1,none⟩=some (.string ⟨n.toArray⟩):=ah x6 1;have g2:W6.cell? ⟨w.heap.size+1+1,2,none⟩=some (.slice gh 0 gi):=ah x6 2;have g3:W6.cell? ⟨w.heap.size+1+1,3,none⟩=some (.slice (some ⟨w8.heap.size,0,none⟩) 1 1):=ah x6 3;refine bI (v:=FQ.val ⟨qo,⟨n.toArray⟩,gh,0,gi,some ⟨w8.heap.size,0,none⟩,1,1⟩) (by simp[FQ.val,results,Tryz.results101,go_sem,g0,g1,g2,g3]) rfl ⟨⟨⟨qo,⟨n.toArray⟩,gh,0,gi,some ⟨w8.heap.size,0,none⟩,1,1⟩,rfl,wX.o ▸ HP.o.move (fun b hok hlt=>⟨by omega,k6.same b hlt (by omega)⟩)⟩,Below.kp1 SF.o.below k6 (by omega)⟩
 |have UF:W9.heap[w8.heap.size]?=some (.cells #[.int .u8 po,.string pn,.slice pa pl pc,.slice pb pm pe] 36 (0,0)):=by rw[r_];exact (dV _ _ _ _ (by have:=(uR.o.later ic).lt;simp <;> omega)).trans hx9
  have UA:FormV (mL.heap.size<=·) W9 (FQ.val ⟨po,pn,pa,pl,pc,pb,pm,pe⟩) (eW kk nx z G2):=by
   rw[r_];exact UE.move (fun b hok hlt=>⟨hok,(dV _ _ _ _ (by have:=uR.o.lt;simp <;> omega)).trans (l7.block b hlt)⟩)
  have AL:FormV (mL.heap.size<=·) W9 (FQ.val ⟨qo,⟨m.toArray⟩,gh,0,gi,some ⟨w8.heap.size,0,none⟩,1,1⟩) (.mk qo m [] [eW kk nx z G2]):=aT.2 ⟨_,_,rfl,cq,rH UA (by omega) UF⟩;have q3:=ah uQ.b2 3;have zq3:=ae uQ.b2 3;obtain ⟨f0,f1,f2,f3⟩:=m5 m8.b2;obtain ⟨r0,r1,r2,r3⟩:=m5 m8.b1;have z0:=ae m8.b1 0;have z1:=ae m8.b1 1;have z2:=ae m8.b1 2;have z3:=ae m8.b1 3;obtain ⟨SF,HP⟩:=aW m8 AL;have Wq:=uR.o.lt;rw[r_]at f0 f1 f2 f3 r0 r1 r2 r3 z0 z1 z2 z3;have HW9:=ac r_;clear UE ic Wu hwX l7 uQ hx9 r_ m8 UF UA AL;gi_wp2;rw[<-HW9.o];have x6:=lA (v0:=.int .u8 qo) (v1:=.string ⟨m.toArray⟩) (v2:=.slice gh 0 gi) (v3:=.slice (some ⟨w8.heap.size,0,none⟩) 1 1) SF.o.b1;have k6:=dL (W:=W9) (b:=w.heap.size+1+1) (v0:=.int .u8 qo) (v1:=.string ⟨m.toArray⟩) (v2:=.slice gh 0 gi) (v3:=.slice (some ⟨w8.heap.size,0,none⟩) 1 1);obtain ⟨W6,dm⟩:=am ((((W9.setCell ⟨w.heap.size+1+1,0,none⟩ (.int .u8 qo)).setCell ⟨w.heap.size+1+1,1,none⟩ (.string ⟨m.toArray⟩)).setCell ⟨w.heap.size+1+1,2,none⟩ (.slice gh 0 gi)).setCell ⟨w.heap.size+1+1,3,none⟩ (.slice (some ⟨w8.heap.size,0,none⟩) 1 1));rw[<-dm]at x6 k6 ⊢;clear dm;have g0:W6.cell? ⟨w.heap.size+1+1,0,none⟩=some (.int .u8 qo):=ah x6 0;have g1:W6.cell? ⟨w.heap.size+1+1,1,none⟩=some (.string ⟨m.toArray⟩):=ah x6 1;have g2:W6.cell? ⟨w.heap.size+1+1,2,none⟩=some (.slice gh 0 gi):=ah x6 2;have g3:W6.cell? ⟨w.heap.size+1+1,3,none⟩=some (.slice (some ⟨w8.heap.size,0,none⟩) 1 1):=ah x6 3;refine bI (v:=FQ.val ⟨qo,⟨m.toArray⟩,gh,0,gi,some ⟨w8.heap.size,0,none⟩,1,1⟩) (by simp[FQ.val,results,Tryz.results101,go_sem,g0,g1,g2,g3]) rfl ⟨⟨⟨qo,⟨m.toArray⟩,gh,0,gi,some ⟨w8.heap.size,0,none⟩,1,1⟩,rfl,wX.o ▸ HP.o.move (fun b hok hlt=>⟨by omega,k6.same b hlt (by omega)⟩)⟩,Below.kp1 SF.o.below k6 (by omega)⟩):G:=h
theorem pm87(h:G:=by
 have c0:W.cell? ⟨X,0,none⟩=some (.int .u8 q.o):=ah yP 0;have c1:W.cell? ⟨X,1,none⟩=some (.string q.n):=ah yP 1;have c2:W.cell? ⟨X,2,none⟩=some (.slice q.a q.l q.c):=ah yP 2;have c3:W.cell? ⟨X,3,none⟩=some (.slice q.b q.m q.e):=ah yP 3
 first
 |clear pp87a;have OV:∀ b,M b->b<W.heap.size:=fun b hb=>bH (hM b hb) hk.size;have CC:=MF f hfit M B l J (kM f) [] W q OV hJ (fun pre vs x W1 h1 h2 h3 h4=>by
   obtain ⟨fn,tmps,assign,body,hy,hR⟩:=hY pre vs x W1 h1 h2 h3 h4;refine ⟨fn,tmps,assign,body,hy,hR.mono ?_⟩;rintro e W' (h | ⟨h,_⟩)
   ·exact h
   ·exact h.elim) (hq.kp hk) (by simp) hj
  have HC:=ac CC;clear CC hY hJ hj hX yP hq OV;unfold FQ.val at HC;go_enter Tryz.func150,Tryz.ntmps150;go_wp2_with (go_at_call 151;refine HC.o.mono ?_;rintro e W2 ⟨rfl,xO,iO⟩);exact ⟨rfl,.tuple #[],by simp[results,Tryz.results150,go_sem],⟨_,rfl⟩,.inl ⟨by simpa using xO,iO⟩⟩
 |clear pp87b;have OV:∀ b,M b->b<W.heap.size:=fun b hb=>bH (hM b hb) hk.size;have hB:Below W.heap.size W (W.alloc (.map #[] 0)):=cO;have CC:=Dd f hfit M B l J (aL [] f) [] W (W.alloc (.map #[] 0)) q W.heap.size 0 [] OV (aD _) hJ (fun pre vs x W1 h1 h2 h3 h4=>by
   obtain ⟨fn,tmps,assign,body,hy,hR⟩:=hY pre vs x W1 h1 h2 h3 h4;refine ⟨fn,tmps,assign,body,hy,hR.mono ?_⟩;rintro e W' (h | ⟨h,_⟩)
   ·exact h
   ·exact h.elim) (hq.kp hk) (Kp.below hB) (BoundW.made W) (by omega) (by simp;omega) (by simp) (hJ _ _ _ (Nw.below hB) hj)
  have HC:=ac CC;clear CC hY hJ hj hX yP hq OV hB;unfold FQ.val at HC;go_enter Tryz.func148,Tryz.ntmps148;go_wp2_with (go_at_call 149;refine HC.o.mono ?_;rintro e W2 ⟨rfl,xO,iO,_,_⟩);exact ⟨rfl,.tuple #[],by simp[results,Tryz.results148,go_sem],⟨_,rfl⟩,.inl ⟨by simpa using xO,iO⟩⟩
 |have e0:W.cell? ⟨Y,0,none⟩=some (.int .u8 r.o):=ah hYW 0;have e1:W.cell? ⟨Y,1,none⟩=some (.string r.n):=ah hYW 1;have e2:W.cell? ⟨Y,2,none⟩=some (.slice r.a r.l r.c):=ah hYW 2;have e3:W.cell? ⟨Y,3,none⟩=some (.slice r.b r.m r.e):=ah hYW 3;have OV:∀ b,M b->b<W.heap.size:=fun b hb=>bH (hM b hb) hk.size;have CC:=J' s f hfit [] (by simpa using ze) M B l J Jx (aR [] s f) [] W ⟨q,r,none,0,0⟩ OV ⟨hl,YZ⟩ hJ hJx (fun pre vs x W1 h1 h2 h3 h4=>by
   obtain ⟨fn,tmps,assign,body,hy,hR⟩:=hY pre vs x W1 h1 h2 h3 h4;refine ⟨fn,tmps,assign,body,hy,hR.mono ?_⟩;rintro e W' (h | ⟨_,h⟩)
   ·exact .inl h
   ·exact .inr h) (hq.kp hk) (hr.kp hk) ⟨⟨none,0,rfl,aD _,.inl ⟨rfl,rfl,rfl⟩⟩,fun b h=>by simp[Value.ownBlock]at h⟩ (by simp) hj
  have HSp:=ac (show ∀ (e:Ending) (W2:World),((e=.returned (.bool true)/\J ([] ++ aR [].reverse s f) W2/\Kp M W W2)\/(e=.returned (.bool false)/\∃Fp,Fp <+: aR [] s f/\Jx Fp W2/\KpFrom M (l+1) W W2))->∃bb:Bool,e=.returned (.bool bb)/\((J (aR [] s f) W2/\Kp M W W2)\/(True/\∃pre,pre <+: aR [] s f/\Jx pre W2/\KpFrom M (l+1) W W2)) by
   rintro e W2 (⟨rfl,h,h'⟩ | ⟨rfl,h⟩)
   ·exact ⟨true,rfl,.inl ⟨by simpa using h,h'⟩⟩
   ·exact ⟨false,rfl,.inr ⟨trivial,h⟩⟩)
  have HC:=ac CC;clear CC hY hJ hJx hj hX yP hY0 hYW hq hr OV;simp only[PlQ.val,PlQ.cells]at HC;go_enter Tryz.func102,Tryz.ntmps102;go_wp2_with (go_at_call 103;refine HC.o.mono ?_;rintro e W2 h2;obtain ⟨bb,rfl,h3⟩:=HSp.o e W2 h2;have H2:=ac h3;clear h2 h3);exact ⟨rfl,.tuple #[],by simp[results,Tryz.results102,go_sem],⟨_,rfl⟩,H2.o⟩):G:=h
theorem pm88(h:G:=by
 rw[y'.o]at e0 e1 e2 f0 f1 f2;exact pm164):G:=h
theorem pm89(h:G:=by
 obtain ⟨HR,HC,kL⟩:=cH hrel fJ bj;clear hrel fJ cQ oQ E2 GP jb pN ha hb hc hj bj hu gu c0 c1 c2 c3;go_wp2_with (go_at_call 64;refine HC.o.mono ?_;rintro e w6 ⟨rfl,BI,l6,BJ,FV,pw,ky⟩;have rk:=bF BI BJ (ky rfl);clear BI BJ FV pw ky);go_roundw
 case rel=>exact ⟨k+1,by omega,by go_num,kL.o.trans ((Kp.below cO).trans rk.o.1),by rw[<-HR.o.2.2.2,<-rk.o.2.2];exact rk.o.2.1,HR.o.1,HR.o.2.1,HR.o.2.2.1⟩
 case measure=>simp[intOf];omega):G:=h
