/-
Runs of tactics that several proofs share.
-/
import Derived.ArgAppend
import Derived.Below
import Derived.BigQuiet
import Derived.BigRegionIn
import Derived.CallsIn
import Derived.Carry
import Derived.ChangeMaps5
import Derived.ChangeSame
import Derived.ChangeStays
import Derived.ControlIn
import Derived.Deep.AppendLies
import Derived.Deep.Cut
import Derived.Deep.DeepCutAuto
import Derived.Deep.DeepHandedRow
import Derived.Deep.DeepWitnessRowRef
import Derived.Deep.Fields
import Derived.Deep.LoopGhost
import Derived.Deep.QuietTactic
import Derived.Deep.Slices
import Derived.Deep.Upon
import Derived.Defers
import Derived.Ground.GgzProg
import Derived.Ground.SlgmProg
import Derived.JoinedCond
import Derived.Laws.World
import Derived.Lib.Hide
import Derived.Lib.ItoaMem
import Derived.Lib.ItoaNum
import Derived.Lib.LaidTab
import Derived.Lib.LaidU8
import Derived.Lib.SliceRun
import Derived.Lib.SmallJoins
import Derived.LoopIn
import Derived.Maps.OwnIn
import Derived.Maps.OwnSet
import Derived.OpenShut
import Derived.OrdersHeld
import Derived.OrdersIn
import Derived.OwnWalkIn
import Derived.ProofKit
import Derived.RangeFuncBound
import Derived.RangeFuncBox
import Derived.RangeFuncLeaves
import Derived.RangeFuncNested
import Derived.RangeFuncRecord
import Derived.RegionIn
import Derived.Shelf.Abstract
import Derived.Shelf.AbstractIn
import Derived.Shelf.SlIter.Nil
import Derived.Shelf.SortM.Plain
import Derived.Shelf.SortM.SortNone
import Derived.ShutString
import Derived.SizedLaws
import Derived.SliceStrings
import Derived.Sort.KeysCollected
import Derived.Sort.Walk0
import Derived.Stop.RegionWithIn
import Derived.Tactics
import Derived.TacticsIn
import Derived.TacticsInMore
import Derived.WalkKit
import Derived.WalkLawsBesides
import Derived.WalkMore
import Derived.WalkSpells
namespace Go.Proofs.YtokemihbkeddoaaGreatDoor
open Go Go.RowKit Lib
set_option maxRecDepth 100000
variable {G:Prop}
theorem pm0(h:G:=by
 have pp135a:=();exact pm135):G:=h
theorem pm1(h:G:=by
 have dO:S W6.drew:=by rw[hS];exact (ak _ _).drew
 have pd:Kp (fun b=>b=mT) W3 W6.drew:=bh.trans (Kp.below cR.drew);have Kz:∀ b,b=mT->M b:=fun b e=>e ▸ HG.o.2.2.2.1;have vB:=om lx;have CC:=fS.o a[j] (aA lx) (HF.o.1.args.mem (aA lx)) (QI.o _ (aA lx)) a'[j] (HG.o.2.2.1 _ _ _ HF.o.2 _ (aA AP)) W6.drew nF Bp ⟨k.fs,kj⟩ ⟨xv,xn,xa,xl,xc⟩ ⟨yv,yn,ya,yl,yc⟩ (eS.later cR.drew) (by have:=Ow.o;omega) (X_.o.kp (pd.mono (fun b _ h=>Kz b h))) (hx.kpM pd Kz) (hy.kpM pd Kz);have cH:b_ (ps.reverse.map (·.1)) kj (a.drop j) (a'.drop j)=match dw (ps.reverse.map (·.1)) kj a[j] a'[j] with | some k'=>b_ (ps.reverse.map (·.1)) k' (a.drop (j+1)) (a'.drop (j+1)) | none=>none:=by
  rw[fO lx,fO AP,b_];rfl
 rw[cH]at gw;simp only[TQ.val,PlQ.val,PlQ.cells]at CC;have HK:=bG pd oq vB;have VC:=ae da;have Du:(j:Int)<(n1:Int):=by omega
 cases Rx:dw (ps.reverse.map (·.1)) kj a[j] a'[j] with
 | none=>
  rw[Rx]at CC gw;have HC:=ae CC;have I7:=ae (show R=none from gw);have pp122:=();exact pm122
 | some ts0=>
  rw[Rx]at CC gw;have HC:=ae CC;have I7:=ae (show R=b_ (ps.reverse.map (·.1)) ts0 (a.drop (j+1)) (a'.drop (j+1)) from gw);exact pm122):G:=h
theorem pm2(h:G:=by
 obtain ⟨k,hk,rfl,e8,ht⟩:=hrel
 by_cases hlt:k<k0
 ·have bp:=cF dB.o hlt;have mN:=cF gV.o hlt;have ar:=kL.o.trans (e8.mono kL.o.size);obtain ⟨b,off,u,rfl,_,hu,c0,c1,c2⟩:=Th.o.get bp;obtain ⟨b',mL,u',rfl,_,iF,mg,nd,ne⟩:=X9.o.get mN;have qF:=TG.o.mem (aA bp);have pp273:=();exact pm273
 first
 |clear pp2a
  ·obtain rfl:k0=k:=by omega
   have VK:=ae (show R=dI ps.reverse xs ys by rw[ht,iS (by rw[dB.o];exact aI _)];simp[di]);have pp46:=();exact pm46
 |clear pp2b
  ·obtain rfl:k0=k:=by omega
   have VK:=ae (show R=dI (ps ++ [(xn,xn)]).reverse xs ys by rw[ht,iS (by rw[dB.o];exact aI _)];simp[di]);exact pm46
 |·obtain rfl:k0=k:=by omega
   have VK:=ae (show R=dI (ps ++ [(xn,yn)]).reverse xs ys by rw[ht,iS (by rw[dB.o];exact aI _)];simp[di]);obtain ⟨iQ,DF⟩:=am wr;subst DF;have Gf:=ae (kL.o.trans (e8.mono kL.o.size));have Gg:=ae (bR e8 uI.o);have Z7:=ae (bR e8 xP.o);have Z8:=ae (AE.o.later e8);have x0:iQ.cell? ⟨w.heap.size,0,none⟩=some (.int .u8 uo):=ai Gg.o 0;have x1:iQ.cell? ⟨w.heap.size,1,none⟩=some (.string ⟨xn.toArray⟩):=ai Gg.o 1;have x2:iQ.cell? ⟨w.heap.size,2,none⟩=some (.slice ua k0 uc):=ai Gg.o 2;have x3:iQ.cell? ⟨w.heap.size,3,none⟩=some (.slice ub k1 ue):=ai Gg.o 3;clear e8 ht uI xP AE kL;go_wp2_with (go_at_call 93;refine (TH.o _).mono ?_;rintro e X4 ⟨rfl,aP⟩;have uI:=ae (bR aP Gg.o);have xP:=ae (bR aP Z7.o);have AE:=ae (Z8.o.later aP);have kL:=ae (Gf.o.trans (aP.mono Gf.o.size));have z3:X4.cell? ⟨w.heap.size,3,none⟩=some (.slice ub k1 ue):=ai uI.o 3;clear aP);obtain ⟨S,hS⟩:∃S:World->Prop,S=fun V=>Below X4.heap.size X4 V:=⟨_,rfl⟩;have wg:X4.cell? ⟨w.heap.size,1,none⟩=some (.string ⟨xn.toArray⟩):=ai uI.o 1;have sN:X4.cell? ⟨w.heap.size+1,1,none⟩=some (.string ⟨yn.toArray⟩):=ai xP.o 1;have f0:∀ V,S V->V.cell? ⟨w.heap.size,1,none⟩=some (.string ⟨xn.toArray⟩):=fun V h=>by rw[hS]at h;exact aa h wg
   have f1:∀ V,S V->V.cell? ⟨w.heap.size+1,1,none⟩=some (.string ⟨yn.toArray⟩):=fun V h=>by rw[hS]at h;exact aa h sN
   have dO:S X4.drew:=by rw[hS];exact (ak _ _).drew
   have I9:=HP.o.cases;obtain ⟨Z9,dh⟩:=a_ I9 hS;clear hS wg sN I9;refine (wpIn_wide (n:=3)).1 ?_;refine lg S 12 dO fun jp bN=>?_;refine bC 0 64 (.slice pa p0 pc) rfl bN fun cq=>?_;simp only[ag];refine bC 1 65 (.slice pa p0 pc) rfl cq fun fI=>?_;simp only[ag];refine bC 2 66 (.int .i64 (p0:Int)) rfl fI fun gF=>?_;simp only[ag];refine bC 3 67 (.slice pa p0 pc) rfl gF fun iG=>?_;simp only[ag];refine bC 4 68 (.int .i64 (p0:Int)) rfl iG fun jx=>?_;simp only[ag];refine c9 5 69 (.slice pa p0 p0) rfl (fun V hX=>by rcases Z9.o with ⟨rfl,rfl,rfl⟩ | ⟨b,off,rfl⟩ <;> go_simp) jx fun jM=>?_;simp only[ag];refine bC 6 70 (.pointer (some ⟨w.heap.size,1,none⟩)) rfl jM fun mi=>?_;simp only[ag];refine c9 7 71 (.string ⟨xn.toArray⟩) rfl (fun V hX=>by have g0:=f0 V hX;go_simp) mi fun rA=>?_;simp only[ag];refine bC 8 72 (.pointer (some ⟨w.heap.size+1,1,none⟩)) rfl rA fun I1=>?_;simp only[ag];refine c9 9 73 (.string ⟨yn.toArray⟩) rfl (fun V hX=>by have g1:=f1 V hX;go_simp) I1 fun Bn=>?_;simp only[ag];refine bC 10 74 (.agg #[.string ⟨xn.toArray⟩,.string ⟨yn.toArray⟩]) rfl Bn fun I2=>?_;simp only[ag];refine bZ 11 rfl fun K hK=>?_;go_simp;have oU:Below X4.heap.size X4 (X4.alloc (.cells #[.string ⟨xn.toArray⟩,.string ⟨yn.toArray⟩] 213)).drew:=((ak _ X4).alloc (aI _) _).drew;refine hK _ _ (fun _=>by rw[dh.o];exact oU) (fun _=>?_);clear hK K;have hold:((.slice pa p0 p0:Value)=.slice none 0 0/\p0=0/\gS ps=[])\/∃b,(.slice pa p0 p0:Value)=.slice (some b) p0 p0/\(gS ps).length=p0 * 2/\∀ j u,(gS ps)[j]?=some u->(X4.alloc (.cells #[.string ⟨xn.toArray⟩,.string ⟨yn.toArray⟩] 213)).drew.cell? (b.add j)=some u:=by
    exact pm186
   refine bZ 12 rfl fun K hK=>?_;refine iv (.tmp 69) (.tmp 75) 87 rfl 213 i0 (.agg #[.string ByteArray.empty,.string ByteArray.empty]) 2 32 Tryz.underlying87 hi nM i_ ig rfl (by decide) (.slice pa p0 p0) p0 (gS ps) rfl hold ⟨X4.heap.size,0,none⟩ 1 1 [.string ⟨xn.toArray⟩,.string ⟨yn.toArray⟩] rfl rfl (c_ (cs:=#[.string ⟨xn.toArray⟩,.string ⟨yn.toArray⟩]) (t:=213) (fr:=(0,0)) (fP X4 _)) (by simp[Value.oneCell']) (by decide) (by unfold maxLen;omega) (by omega) ?_;intro g cap X5 au ao;have y':Below X4.heap.size X4 X5:=⟨ao.os.trans oU.os,ao.tape.trans oU.tape,ao.output.trans oU.output,aN oU.size ao.size,fun b hb=>(ao.block b (bE hb oU.size) (by simp)).trans (oU.block b hb)⟩;have VL:=bR y' uI.o;have Z':=bR y' xP.o;have MY:=kL.o.trans (y'.mono kL.o.size);rw[<-lm (xn,yn) ps]at au;have qE:=PairsV.own au;have z5:X5.cell? ⟨w.heap.size,3,none⟩=some (.slice ub k1 ue):=ai VL 3;clear uI xP kL AE z3;obtain ⟨uI,xP,kL,AE⟩:=eW VL Z' MY qE;clear VL Z' MY qE au ao oU y' hold;refine eN hK ?_;clear hK K;refine bZ 13 rfl fun K hK=>?_;go_simp;refine eN hK ?_;clear hK K;refine kz ?_;go_wp2;go_loopw [80] (fun i wr=>∃k:Nat,k<=k1/\i=.int .i64 k/\Below X5.heap.size X5 wr/\R=dI (ps ++ [(xn,yn)]).reverse (xs.drop k) (ys.drop k)) (fun i _=>k1 - (intOf i).toNat)
   case atStart=>exact ⟨0,bc _,rfl,ak _ _,by simpa using VK.o⟩
   case round=>
    obtain ⟨k,hk,rfl,e8,ht⟩:=hrel
    by_cases hlt:k<k1
    ·have bp:=cF OA.o hlt;have pp87a:=();exact pm87
    ·obtain rfl:k1=k:=by omega
     exact pm104):G:=h
theorem pm3(h:G:=by
 go_loopw [79] (fun i wr=>∃k:Nat,k<=m0/\i=.int .i64 k/\Kp (fun c=>c=J) w wr/\JAt J true (left - 1 - nodesTs a - nodesFs (s.take k)) br wr/\dD true (s.take k)=true/\(nodesFs (s.take k):Int)<=left - 1 - nodesTs a/\ba+1+aY (s.take k)<=br+1) (fun i _=>m0 - (intOf i).toNat)
 case atStart=>exact ⟨0,bc _,rfl,HA.o.1,by simpa[nodesFs] using HA.o.2,by simp[dD],by simp[nodesFs];omega,by simp[aY];omega⟩
 case round=>
  obtain ⟨k,hk,rfl,bh,hj,ha,hb,hc⟩:=hrel
  by_cases hlt:k<m0
  ·have bp:=cF gV.o hlt;have pp145:=();exact pm145
  ·obtain rfl:k=m0:=by omega
   have ht:s.take k=s:=by rw[gV.o];exact cV
   rw[ht]at hj ha hb hc;have jH:(dD true s && (decide ((nodesFs s:Int)<=left - 1 - nodesTs a) && decide (ba+1+aY s<=br+1)))=true:=by rw[ha];simp;omega
   exact pm114):G:=h
theorem pm4(h:G:=by
 go_loopw [79] (fun i wr=>∃k:Nat,k<=m0/\i=.int .i64 k/\Kp (fun c=>c=J) w wr/\JAt J sc (left - 1 - nodesTs a - nodesFs (s.take k)) br wr/\dD sc (s.take k)=true/\(nodesFs (s.take k):Int)<=left - 1 - nodesTs a/\ba+1+aY (s.take k)<=br+1) (fun i _=>m0 - (intOf i).toNat)
 case atStart=>exact ⟨0,bc _,rfl,HA.o.1,by simpa[nodesFs] using HA.o.2,by simp[dD],by simp[nodesFs];omega,by simp[aY];omega⟩
 case round=>
  obtain ⟨k,hk,rfl,bh,hj,ha,hb,hc⟩:=hrel
  by_cases hlt:k<m0
  ·have bp:=cF gV.o hlt;exact pm145
  ·obtain rfl:k=m0:=by omega
   have ht:s.take k=s:=by rw[gV.o];exact cV
   rw[ht]at hj ha hb hc;have jH:(dD sc s && (decide ((nodesFs s:Int)<=left - 1 - nodesTs a) && decide (ba+1+aY s<=br+1)))=true:=by rw[ha];simp;omega
   exact pm114):G:=h
theorem pm5(h:G:=by
 clear hM rS pi AF;have pp63a:=();exact pm63):G:=h
theorem pm6(h:G:=by
 have pp147a:=();exact pm147):G:=h
theorem pm7(h:G:=by
 obtain ⟨j,Bp,kj,hj,rfl,bh,oq,eS,gw⟩:=hrel
 by_cases hlt:j<n1
 ·have lx:=cF HN.o.1 hlt;have AP:=cF HN.o.2 hlt;obtain ⟨b1,o1,⟨xv,xn,xa,xl,xc⟩,rfl,qZ,hx,c0,c1,c2⟩:=HT.o.2.2.1.get lx;obtain ⟨b2,o2,⟨yv,yn,ya,yl,yc⟩,rfl,q_,hy,y0,y1,y2⟩:=HT.o.2.2.2.get AP;have pO:∀ b,¬M b->¬(b=mT):=fun b hb e=>hb (e ▸ HG.o.2.2.2.1);simp only at c0 c1 c2 y0 y1 y2;have d0:=bh.cell (pO _ qZ) c0;have d1:=bh.cell (pO _ qZ) c1;have d2:=bh.cell (pO _ qZ) c2;have g0:=bh.cell (pO _ q_) y0;have g1:=bh.cell (pO _ q_) y1;have g2:=bh.cell (pO _ q_) y2;have QJ:=(bh.same _ (by have:=H3.o.2.1;omega) (by have:=HmT.o;omega)).trans H3.o.2.2.1;have VG:=(bh.same _ (by have:=H3.o.2.1;omega) (by have:=HmT.o;omega)).trans H3.o.2.2.2.2.1;obtain ⟨W6,da⟩:=am (wr.alloc (.cells #[.bool xv,.string xn,.slice xa xl xc] 43));have cR:=cZ da;have x6:=cb da;have uH:=bR cR QJ;have VH:=bR cR VG;obtain ⟨S,hS⟩:∃S:World->Prop,S=fun V=>Below W6.heap.size W6 V:=⟨_,rfl⟩;have pp:∀ V,S V->V.cell? ⟨W.heap.size,0,none⟩=some (.int .u8 so)/\V.cell? ⟨W.heap.size,1,none⟩=some (.string sn)/\V.cell? ⟨W.heap.size,2,none⟩=some (.slice sa sl sc)/\V.cell? ⟨W.heap.size,3,none⟩=some (.slice sb sm se)/\V.cell? ⟨W.heap.size,4,none⟩=some (.int .u8 fo)/\V.cell? ⟨W.heap.size,5,none⟩=some (.string fn)/\V.cell? ⟨W.heap.size,6,none⟩=some (.slice fa fl fc)/\V.cell? ⟨W.heap.size,7,none⟩=some (.slice fb fm fe)/\V.cell? ⟨W.heap.size,8,none⟩=some (.slice ca cl cc):=fun V h=>by rw[hS]at h;exact ⟨aa h (ai uH 0),aa h (ai uH 1),aa h (ai uH 2),aa h (ai uH 3),aa h (ai uH 4),aa h (ai uH 5),aa h (ai uH 6),aa h (ai uH 7),aa h (ai uH 8)⟩
  have tt:∀ V,S V->V.cell? ⟨wr.heap.size,0,none⟩=some (.bool xv)/\V.cell? ⟨wr.heap.size,1,none⟩=some (.string xn)/\V.cell? ⟨wr.heap.size,2,none⟩=some (.slice xa xl xc):=fun V h=>by rw[hS]at h;exact ⟨aa h (ai x6 0),aa h (ai x6 1),aa h (ai x6 2)⟩
  have uu:∀ V,S V->V.cell? ⟨W.heap.size+1+1,2,none⟩=some (.slice (some ⟨b2,o2,none⟩) n1 uc):=fun V h=>by rw[hS]at h;exact aa h (ai VH 2)
  have yy:∀ V,S V->V.cell? ⟨b2,o2+j * 3,none⟩=some (.bool yv)/\V.cell? ⟨b2,o2+j * 3+1,none⟩=some (.string yn)/\V.cell? ⟨b2,o2+j * 3+2,none⟩=some (.slice ya yl yc):=fun V h=>by rw[hS]at h;exact ⟨aa h (aa cR g0),aa h (aa cR g1),aa h (aa cR g2)⟩
  exact pm1
 ·obtain rfl:j=n1:=by omega
  have I7:=ae (show R=some kj by rw[gw,iS (by rw[<-HN.o.1];exact aI _)];simp[b_]);have ct:a.take j=a:=by rw[HN.o.1];exact cV
  rw[ct]at oq;have HK:=bG bh oq eS;clear bh oq eS gw ct;go_wp2;go_ret;exact ⟨(Kp.below H3.o.1).trans HK.o.1,true,rfl,(fun h=>by rw[I7.o]at h;cases h),(fun ts fX=>⟨rfl,Bp,by have:=HK.o.2.1;have:=Ow.o.2;omega,by rw[I7.o]at fX;cases fX;exact HK.o.2.2⟩)⟩):G:=h
theorem pm8(h:G:=by
 obtain ⟨HF,ee,dt⟩:=cG hF ct ar;clear hu ar hF c0 c1 c2 ct;gi_wp2;obtain ⟨W2,bm⟩:=am (wr.alloc (.cells #[.bool u.v,.string u.n,.slice u.a u.l u.c] 43));have pp47a:=();exact pm47):G:=h
theorem pm9(h:G:=by
 obtain ⟨k,hk,rfl,e8,ht⟩:=hrel
 by_cases hlt:k<k0
 ·have bp:=cF dB.o hlt;have mN:=cF gV.o hlt;have ar:=cO.o.trans (e8.mono (by omega));obtain ⟨b,off,u,rfl,_,hu,c0,c1,c2⟩:=Th.o.get bp;obtain ⟨b',mL,u',rfl,_,iF,mg,nd,ne⟩:=X9.o.get mN;have qF:=HF.o.mem (aA bp);have pG:=fS.o xa[k] (aA bp);exact pm273
 ·obtain rfl:k=k0:=by omega
  have HE:=ae (show R=true by rw[ht,iS (by rw[dB.o];exact aI _),di];simp);have dt:=ae (cO.o.trans (e8.mono (by omega)));clear e8 ht;go_wp2;go_ret;exact ⟨aO HE.o.symm,dt.o⟩):G:=h
theorem pm10(h:G:=by
 obtain ⟨k,hk,rfl,hj,bh,⟨n',Ci,oc⟩,kC⟩:=hrel;have pp249:=();exact pm249):G:=h
theorem pm11(h:G:=by
 have sq:=HL.o.1;have xU:=HL.o.2.2.1;have AD:W2.heap[W.heap.size]?=some (.cells #[.int .u8 u0,.string u1,.slice u2 u3 u4,.slice u5 u6 u7,.int .u8 v0,.string v1,.slice v2 v3 v4,.slice v5 v6 v7,.slice ca cl cc] 89 (0,0)):=(gB.same _ (by omega)).trans (aj rfl);have tU:∃r,(W.alloc (.cells #[.int .u8 u0,.string u1,.slice u2 u3 u4,.slice u5 u6 u7,.int .u8 v0,.string v1,.slice v2 v3 v4,.slice v5 v6 v7,.slice ca cl cc] 89)).heap[lR]?=some (.loop r):=by
  obtain ⟨r,hr⟩:=HL.o.2.1;exact ⟨r,(HL.o.2.2.2.1.block _ xU).trans hr⟩
 first
 |clear pp11a;have kK:=(HQ.o.1.later HL.o.2.2.2.1).move (ok':=fun b=>¬M b) (fun b hb hlt=>⟨hb.2,gB.same b (by have:=hb.1;omega)⟩);have Pc:=(HQ.o.2.1.later HL.o.2.2.2.1).move (ok':=fun b=>¬M b) (fun b hb hlt=>⟨hb.2,gB.same b (by have:=hb.1;omega)⟩);have ze:=(HQ.o.2.2.1.kp (Kp.below HL.o.2.2.2.1)).busy gB tU;have gW:x∈bA [] s f:=HL.o.2.2.2.2.2.subset (by simp);have rU:nodesF x.s<=400:=aN (lC s f [] x gW) uE.o.1;have TP:=HL.o.2.2.2.2.2.length_le;have I9:=pP s f [];simp only[dZ,fN,List.length_nil]at TP;have cm:pre.length+1<=400:=by have:=uE.o.1;omega
  have CS:=Yj.o M (K0+1+1+1) (K0+1) (K0+1+1) vR.o.1 vR.o.2.1 vR.o.2.2.2.2 (fun b hb=>aN HV.o.2.2.1.size (AG.o.1 b hb)) x (kh s f [] (uX uE.o.2.2.2) x gW) rU W2 nF2 Bp k2 ⟨⟨u0,u1,u2,u3,u4,u5,u6,u7⟩,⟨v0,v1,v2,v3,v4,v5,v6,v7⟩,ca,cl,cc⟩ ps
   (fun b hb=>by have:=sP.o.2.2.2.2.1 b hb;have:=gM.o;have:=io.size;omega) (Mf.o.kp io (fun b hb=>aN HV.o.2.2.1.size (AG.o.1 b hb))) g2 (by have:=uE.o.2.1;have:=O8.o.2.1;omega) (by have:=uE.o.2.2.1;have:=O8.o.2.2;omega) ⟨kK,Pc,ze,HQ.o.2.2.2.1,HQ.o.2.2.2.2⟩
  obtain ⟨⟨k3,er⟩,KQ⟩:∃p,p=bV k2 x:=⟨_,rfl⟩;rw[<-KQ]at CS;unfold StepPost at CS;simp only[PlQ.val,PlQ.cells]at CS;have Pe:=fun h0:er=0=>(show bL k3=true from ru k2 x k3 (kh s f [] (uX uE.o.2.2.2) x gW) g5 (by rw[<-KQ,h0]))
  have lh:gg bV kj (pre ++ [x])=(k3,er):=by rw[vN pre kj k2 x g1,KQ]
  have hN:∀ b,b≠K0+1->b≠K0+1+1->¬N2 (K0+1) (K0+1+1) b:=fun b h h' hm=>by rcases hm with hm | hm;exact h hm;exact h' hm
  have Yz:=ld.o.2.1;have xp2:=(io.same _ (bz HI.o.2.2.2.2.2) (fun h=>by have:=sP.o.2.2.2.2.1 _ h;have:=gM.o;omega)).trans HI.o.2.2.2.2.2;have xi2:=(io.same _ (bz HI.o.2.2.2.2.1) (fun h=>by have:=sP.o.2.2.2.2.1 _ h;have:=gM.o;omega)).trans HI.o.2.2.2.2.1;have cp:=ai xp2 0;obtain ⟨P0,P1,P2,P3,P4,P5,P6,P7⟩:=AM AD;have P8:=ai AD 8;have rC:=ae CS;have HG:=ae (YP g3 g4 g6 g7 g8 Pe lh hN xi2 cm);clear CS g1 g2 g3 g4 g5 g6 g7 g8 Pe lh hN kK Pc ze gW rU TP I9 cm KQ AD tU xp2 xi2 Yz;have I5:=ae ld.o.2.1;have hKa:=I5.o;have M0:aB+2<=wq.heap.size:=by have:=gM.o;have:=ld.o.1;omega
  have V9:K0+4<=wq.heap.size:=by have:=gM.o;have:=ld.o.1;omega
  have Zw:∀ f,(Fence.wide.inRound lR).fn f:=fun _=>trivial
  by_cases M8:er=0
  ·subst M8;gi_wp2_with (gi_at_call 47;refine CallsIn.inRound lR (aK.2 (rC.o.mono ?_));rintro e w4 ⟨kZ,rfl,uC⟩;have ED:=(kZ.same _ (bz HG.o.2.2.1) (HG.o.2.2.2.2.2.2.2.1 _ (by omega) (by omega))).trans HG.o.2.2.1;have z9:=(kZ.same _ (bz HG.o.2.2.2.1) (HG.o.2.2.2.2.2.2.2.1 _ (by omega) (by omega))).trans HG.o.2.2.2.1;have EE:=(kZ.same _ (bz HG.o.2.2.2.2.2.2.2.2.1) (HG.o.2.2.2.2.2.2.2.1 _ (by omega) (by omega))).trans HG.o.2.2.2.2.2.2.2.2.1;have y0:=ai ED 0;have y1:=af ED 0;have y2:=ai z9 0;have y3:=af z9 0;have y4:=ai EE 0;have H4:=fh kZ uC ED z9 EE;clear kZ uC ED z9 EE);exact pm55
  ·have zcy:(er == 0)=false:=by simp[M8]
   gi_wp2_with (gi_at_call 47;refine CallsIn.inRound lR (aK.2 (rC.o.mono ?_));rintro e w4 ⟨kZ,rfl,uC⟩;have ED:=(kZ.same _ (bz HG.o.2.2.1) (HG.o.2.2.2.2.2.2.2.1 _ (by omega) (by omega))).trans HG.o.2.2.1;have z9:=(kZ.same _ (bz HG.o.2.2.2.1) (HG.o.2.2.2.2.2.2.2.1 _ (by omega) (by omega))).trans HG.o.2.2.2.1;have EE:=(kZ.same _ (bz HG.o.2.2.2.2.2.2.2.2.1) (HG.o.2.2.2.2.2.2.2.1 _ (by omega) (by omega))).trans HG.o.2.2.2.2.2.2.2.2.1;have y0:=ai ED 0;have y1:=af ED 0;have y2:=ai z9 0;have y3:=af z9 0;have y4:=ai EE 0;have Ii:Kp (fun b=>b=aB+1) w4 (w4.setCell ⟨aB+1,0,none⟩ (.int .i64 er)):=iB;have WD:=(Ii.same _ (bz z9) (by omega)).trans z9;have xi6:=(Ii.same _ (bz EE) (by omega)).trans EE;have y5:=ai xi6 0;have y6:=ai WD 0;have y7:=af WD 0;clear Ii WD xi6;have H4:=fh kZ uC ED z9 EE;clear kZ uC ED z9 EE);exact pm48
 |clear pp11b;have kK:=(HQ.o.1.later HL.o.2.2.2.1).move (ok':=fun b=>¬M b) (fun b hb hlt=>⟨hb.2,gB.same b (by have:=hb.1;omega)⟩);have Pc:=(HQ.o.2.1.later HL.o.2.2.2.1).move (ok':=fun b=>¬M b) (fun b hb hlt=>⟨hb.2,gB.same b (by have:=hb.1;omega)⟩);have ze:=(HQ.o.2.2.1.kp (Kp.below HL.o.2.2.2.1)).busy gB tU;have gW:x∈bA [] s f:=HL.o.2.2.2.2.2.subset (by simp);have rU:nodesF x.s<=400:=aN (lC s f [] x gW) uE.o.1;have TP:=HL.o.2.2.2.2.2.length_le;have I9:=pP s f [];simp only[dZ,fN,List.length_nil]at TP;have cm:pre.length+1<=400:=by have:=uE.o.1;omega
  have CS:=Yj.o M (K0+1+1+1) (K0+1) (K0+1+1) vR.o.1 vR.o.2.1 vR.o.2.2.2.2 (fun b hb=>aN HV.o.2.2.1.size (AG.o.1 b hb)) x (kh s f [] (uX uE.o.2.2.2) x gW) rU W2 nF2 Bp k2 ⟨⟨u0,u1,u2,u3,u4,u5,u6,u7⟩,⟨v0,v1,v2,v3,v4,v5,v6,v7⟩,ca,cl,cc⟩ ps
   (fun b hb=>by have:=sP.o.2.2.2.2.1 b hb;have:=gM.o;have:=io.size;omega) (Mf.o.kp io (fun b hb=>aN HV.o.2.2.1.size (AG.o.1 b hb))) g2 (by have:=uE.o.2.1;have:=O8.o.2.1;omega) (by have:=uE.o.2.2.1;have:=O8.o.2.2;omega) ⟨kK,Pc,ze,HQ.o.2.2.2.1,HQ.o.2.2.2.2⟩
  obtain ⟨⟨k3,er⟩,KQ⟩:∃p,p=eF k2 x:=⟨_,rfl⟩;rw[<-KQ]at CS;unfold StepPost at CS;simp only[PlQ.val,PlQ.cells]at CS;have Pe:=fun h0:er=0=>(show bL k3=true from yF k2 x k3 (kh s f [] (uX uE.o.2.2.2) x gW) g5 (by rw[<-KQ,h0]))
  have lh:gg eF kj (pre ++ [x])=(k3,er):=by rw[vN pre kj k2 x g1,KQ]
  have hN:∀ b,b≠K0+1->b≠K0+1+1->¬N2 (K0+1) (K0+1+1) b:=fun b h h' hm=>by rcases hm with hm | hm;exact h hm;exact h' hm
  have Yz:=ld.o.2.1;have xp2:=(io.same _ (bz HI.o.2.2.2.2.2) (fun h=>by have:=sP.o.2.2.2.2.1 _ h;have:=gM.o;omega)).trans HI.o.2.2.2.2.2;have xi2:=(io.same _ (bz HI.o.2.2.2.2.1) (fun h=>by have:=sP.o.2.2.2.2.1 _ h;have:=gM.o;omega)).trans HI.o.2.2.2.2.1;have cp:=ai xp2 0;obtain ⟨P0,P1,P2,P3,P4,P5,P6,P7⟩:=AM AD;have P8:=ai AD 8;have rC:=ae CS;have HG:=ae (YP g3 g4 g6 g7 g8 Pe lh hN xi2 cm);clear CS g1 g2 g3 g4 g5 g6 g7 g8 Pe lh hN kK Pc ze gW rU TP I9 cm KQ AD tU xp2 xi2 Yz;have I5:=ae ld.o.2.1;have hKa:=I5.o;have M0:aB+2<=wq.heap.size:=by have:=gM.o;have:=ld.o.1;omega
  have V9:K0+4<=wq.heap.size:=by have:=gM.o;have:=ld.o.1;omega
  have Zw:∀ f,(Fence.wide.inRound lR).fn f:=fun _=>trivial
  by_cases M8:er=0
  ·subst M8;gi_wp2_with (gi_at_call 48;refine CallsIn.inRound lR (aK.2 (rC.o.mono ?_));rintro e w4 ⟨kZ,rfl,uC⟩;have ED:=(kZ.same _ (bz HG.o.2.2.1) (HG.o.2.2.2.2.2.2.2.1 _ (by omega) (by omega))).trans HG.o.2.2.1;have z9:=(kZ.same _ (bz HG.o.2.2.2.1) (HG.o.2.2.2.2.2.2.2.1 _ (by omega) (by omega))).trans HG.o.2.2.2.1;have EE:=(kZ.same _ (bz HG.o.2.2.2.2.2.2.2.2.1) (HG.o.2.2.2.2.2.2.2.1 _ (by omega) (by omega))).trans HG.o.2.2.2.2.2.2.2.2.1;have y0:=ai ED 0;have y1:=af ED 0;have y2:=ai z9 0;have y3:=af z9 0;have y4:=ai EE 0;have H4:=fh kZ uC ED z9 EE;clear kZ uC ED z9 EE);exact pm55
  ·have zcy:(er == 0)=false:=by simp[M8]
   gi_wp2_with (gi_at_call 48;refine CallsIn.inRound lR (aK.2 (rC.o.mono ?_));rintro e w4 ⟨kZ,rfl,uC⟩;have ED:=(kZ.same _ (bz HG.o.2.2.1) (HG.o.2.2.2.2.2.2.2.1 _ (by omega) (by omega))).trans HG.o.2.2.1;have z9:=(kZ.same _ (bz HG.o.2.2.2.1) (HG.o.2.2.2.2.2.2.2.1 _ (by omega) (by omega))).trans HG.o.2.2.2.1;have EE:=(kZ.same _ (bz HG.o.2.2.2.2.2.2.2.2.1) (HG.o.2.2.2.2.2.2.2.1 _ (by omega) (by omega))).trans HG.o.2.2.2.2.2.2.2.2.1;have y0:=ai ED 0;have y1:=af ED 0;have y2:=ai z9 0;have y3:=af z9 0;have y4:=ai EE 0;have Ii:Kp (fun b=>b=aB+1) w4 (w4.setCell ⟨aB+1,0,none⟩ (.int .i64 er)):=iB;have WD:=(Ii.same _ (bz z9) (by omega)).trans z9;have xi6:=(Ii.same _ (bz EE) (by omega)).trans EE;have y5:=ai xi6 0;have y6:=ai WD 0;have y7:=af WD 0;clear Ii WD xi6;have H4:=fh kZ uC ED z9 EE;clear kZ uC ED z9 EE);exact pm48
 |clear pp11c;have kK:=(HQ.o.1.later HL.o.2.2.2.1).move (ok':=fun b=>¬M1 b) (fun b hb hlt=>⟨hb.2,gB.same b (by have:=hb.1;omega)⟩);have ze:=(HQ.o.2.1.kp (Kp.below HL.o.2.2.2.1)).busy gB tU;have gW:x∈bA [] s s:=HL.o.2.2.2.2.2.subset (by simp);have rU:nodesF x.s<=400:=aN (lC s s [] x gW) HP.o.2.1;have R_:=oD s s [] HP.o.1 x gW;have vK:Below w.heap.size w W2:=aD Iy.o.1 io (fun b hb=>(R9.o b hb).1);have eS:=HP.o.2.2.2.1.later vK;have CS:=L2 mR kb mF mT nF nT kd x.s R_ rU _ W2 eS ⟨⟨u0,u1,u2,u3,u4,u5,u6,u7⟩,⟨v0,v1,v2,v3,v4,v5,v6,v7⟩,ca,cl,cc⟩ kK;simp only[PlQ.val,PlQ.cells]at CS;obtain ⟨bv,vP⟩:=am (R5 x);have Pm:=zas.o x ▸ CS;rw[<-vP]at Pm;have TY:=(io.same _ (bz Iy.o.2.2.1) (fun h=>by have:=HMk.o;rw[Hq.o]at h;omega)).trans Iy.o.2.2.1;have ck:=ai TY 0;obtain ⟨P0,P1,P2,P3,P4,P5,P6,P7⟩:=AM AD;have P8:=ai AD 8;have rC:=ae Pm;have HG:=bG g1 g2 g3;have KN:=ae vP;have Zw:∀ f,(Fence.wide.inRound lR).fn f:=fun _=>trivial;clear CS Pm g1 g2 g3 kK ze gW rU R_ eS AD tU TY vP vK
  cases bv with
  | false=>
   gi_wp2_with (gi_at_call 124;refine CallsIn.inRound lR (aK.2 (rC.o.mono ?_));rintro e w4 ⟨rfl,aP⟩;have H4:=ae aP;clear aP);exact ⟨Kp.below H4.o,by rw[tW HG.o.1];exact KN.o.symm,bR H4.o HG.o.2.1,HG.o.2.2.trans (Kp.below H4.o)⟩
  | true=>
   gi_wp2_with (gi_at_call 124;refine CallsIn.inRound lR (aK.2 (rC.o.mono ?_));rintro e w4 ⟨rfl,aP⟩;have Mn:=bR aP HG.o.2.1;have z0:=ai Mn 0;have z1:=af Mn 0;have H4:=aG aP Mn;clear aP Mn);have iP:Kp (fun b=>b=w.heap.size+1+1) w4 (w4.setCell ⟨w.heap.size+1+1,0,none⟩ (.int .i64 6)):=iB;have AH:Kp M1 w4 (w4.setCell ⟨w.heap.size+1+1,0,none⟩ (.int .i64 6)):=iP.mono (fun b _ h=>by subst h;rw[Hq.o]);exact pm213
 |clear pp11d;have kK:=(HQ.o.1.later HL.o.2.2.2.1).move (ok':=fun b=>¬M2 b) (fun b hb hlt=>⟨hb.2,gB.same b (by have:=hb.1;omega)⟩);have ze:=(HQ.o.2.1.kp (Kp.below HL.o.2.2.2.1)).busy gB tU;have gW:x∈bA [] s s:=HL.o.2.2.2.2.2.subset (by simp);have rU:nodesF x.s<=400:=aN (lC s s [] x gW) HP.o.2.1;have R_:=oD s s [] HP.o.1 x gW;have vK:Below w.heap.size w W2:=aD F0.o.1 io (fun b hb=>(Sb.o b hb).1);have eS:=HP.o.2.2.2.1.later vK;have CS:=OQ mR kb mF mT nF nT kd x ps HQ.o.2.2.1 HQ.o.2.2.2 R_ rU _ W2 eS ⟨⟨u0,u1,u2,u3,u4,u5,u6,u7⟩,⟨v0,v1,v2,v3,v4,v5,v6,v7⟩,ca,cl,cc⟩ kK ze.1;simp only[PlQ.val,PlQ.cells]at CS;obtain ⟨bv,vP⟩:=am (R7 x);have Pm:=zat.o x ▸ CS;rw[<-vP]at Pm;have TY:=(io.same _ (bz F0.o.2.2.1) (fun h=>by have:=HMk.o;rw[YF.o]at h;omega)).trans F0.o.2.2.1;have ck:=ai TY 0;obtain ⟨P0,P1,P2,P3,P4,P5,P6,P7⟩:=AM AD;have P8:=ai AD 8;have rC:=ae Pm;have HG:=bG g1 g2 g3;have KN:=ae vP;have Zw:∀ f,(Fence.wide.inRound lR).fn f:=fun _=>trivial;clear CS Pm g1 g2 g3 kK ze gW rU R_ eS AD tU TY vP vK
  cases bv with
  | false=>
   gi_wp2_with (gi_at_call 125;refine CallsIn.inRound lR (aK.2 (rC.o.mono ?_));rintro e w4 ⟨rfl,aP⟩;have H4:=ae aP;clear aP);exact ⟨Kp.below H4.o,by rw[tW HG.o.1];exact KN.o.symm,bR H4.o HG.o.2.1,HG.o.2.2.trans (Kp.below H4.o)⟩
  | true=>
   gi_wp2_with (gi_at_call 125;refine CallsIn.inRound lR (aK.2 (rC.o.mono ?_));rintro e w4 ⟨rfl,aP⟩;have Mn:=bR aP HG.o.2.1;have z0:=ai Mn 0;have z1:=af Mn 0;have H4:=aG aP Mn;clear aP Mn);have iP:Kp (fun b=>b=w.heap.size+1+1) w4 (w4.setCell ⟨w.heap.size+1+1,0,none⟩ (.int .i64 72)):=iB;have AH:Kp M2 w4 (w4.setCell ⟨w.heap.size+1+1,0,none⟩ (.int .i64 72)):=iP.mono (fun b _ h=>by subst h;rw[YF.o]);exact pm213
 |have kK:=(HQ.o.1.later HL.o.2.2.2.1).move (ok':=fun b=>¬M3 b) (fun b hb hlt=>⟨hb.2,gB.same b (by have:=hb.1;omega)⟩);have ze:=(HQ.o.2.1.kp (Kp.below HL.o.2.2.2.1)).busy gB tU;have gW:x∈bA [] s s:=HL.o.2.2.2.2.2.subset (by simp);have rU:nodesF x.s<=400:=aN (lC s s [] x gW) HP.o.2.1;have R_:=oD s s [] HP.o.1 x gW;have vK:Below w.heap.size w W2:=aD Pp.o.1 io (fun b hb=>(Sd.o b hb).1);have eS:=HP.o.2.2.2.1.later vK;have CS:=L4 mR kb mF mT nF nT kd x.s R_ rU _ W2.drew (eS.later (ak _ _).drew) ⟨⟨u0,u1,u2,u3,u4,u5,u6,u7⟩,⟨v0,v1,v2,v3,v4,v5,v6,v7⟩,ca,cl,cc⟩ (kK.later (ak _ _).drew);simp only[PlQ.val,PlQ.cells]at CS;have hsz:=Pg eS x.s R_ rU;obtain ⟨bv,vP⟩:=am (EF x);have Pm:=TW.o x ▸ CS;rw[<-vP]at Pm;have TY:=(io.same _ (bz Pp.o.2.2.1) (fun h=>by have:=HMk.o;rw[HM3.o]at h;have:=HnB.o;omega)).trans Pp.o.2.2.1;have ck:=ai TY 0;obtain ⟨P0,P1,P2,P3,P4,P5,P6,P7⟩:=AM AD;have P8:=ai AD 8;have rC:=ae Pm;have HG:=cC g1 g2 g3 g4;have KN:=ae vP;have Zw:∀ f,(Fence.wide.inRound lR).fn f:=fun _=>trivial;have HSz:=ae (show bv<=1000000 by rw[vP,<-TW.o];exact hsz);clear hsz;clear CS Pm g1 g2 g3 g4 kK ze gW rU R_ eS AD tU TY vP vK;obtain ⟨S0,bN⟩:=am (pre.map EF).sum;have tX:((pre ++ [x]).map EF).sum=S0+bv:=by rw[bN,KN.o];simp
  have hG:=HG.o;rw[<-bN]at hG;obtain ⟨HGs,zcJ⟩:=a_ hG tX;clear bN tX hG;obtain ⟨S,hS⟩:∃S:World->Prop,S=fun V=>Below W2.heap.size W2 V:=⟨_,rfl⟩;have dO:S W2.drew:=by rw[hS];exact (ak _ _).drew
  have f0:∀ V,S V->V.cell? ⟨nB,0,none⟩=some (.int .i64 S0):=fun V h=>by rw[hS]at h;exact aa h (ai HGs.o.2.1 0)
  have f1:∀ V,S V->V.cell? ⟨w.heap.size,0,none⟩=some (.pointer (some ⟨kb,0,none⟩)):=fun V h=>by rw[hS]at h;exact aa h ck
  have f2:∀ V,S V->V.cell? ⟨W.heap.size,0,none⟩=some (.int .u8 u0)/\V.cell? ⟨W.heap.size,1,none⟩=some (.string u1)/\V.cell? ⟨W.heap.size,2,none⟩=some (.slice u2 u3 u4)/\V.cell? ⟨W.heap.size,3,none⟩=some (.slice u5 u6 u7)/\V.cell? ⟨W.heap.size,4,none⟩=some (.int .u8 v0)/\V.cell? ⟨W.heap.size,5,none⟩=some (.string v1)/\V.cell? ⟨W.heap.size,6,none⟩=some (.slice v2 v3 v4)/\V.cell? ⟨W.heap.size,7,none⟩=some (.slice v5 v6 v7)/\V.cell? ⟨W.heap.size,8,none⟩=some (.slice ca cl cc):=fun V h=>by rw[hS]at h;exact ⟨aa h P0,aa h P1,aa h P2,aa h P3,aa h P4,aa h P5,aa h P6,aa h P7,aa h P8⟩
  have aL:=HSz.o;have uz:=HGs.o.1;obtain ⟨S1,cq⟩:=am (S0+bv);have MW:IntKind.i64.wrap ((S0:Int)+(bv:Int))=(S1:Int):=by rw[fQ _ (by omega)];omega
  have Pq:=ae (cq ▸ zcJ.o:((pre ++ [x]).map EF).sum=S1);have HS:=ae hS;have HWr:=aG MW aL;clear hS cq ck P0 P1 P2 P3 P4 P5 P6 P7 P8 aL uz MW;gi_wp2_with fail;refine lg S 5 dO fun jp bN=>?_;refine c9 0 27 (.int .i64 S0) rfl (fun V hX=>by have g0:=f0 V hX;go_simp) bN fun cq=>?_;simp only[ag];refine c9 1 28 (.pointer (some ⟨kb,0,none⟩)) rfl (fun V hX=>by have g0:=f1 V hX;go_simp) cq fun fI=>?_;simp only[ag];refine c9 2 29 (.agg #[.int .u8 u0,.string u1,.slice u2 u3 u4,.slice u5 u6 u7,.int .u8 v0,.string v1,.slice v2 v3 v4,.slice v5 v6 v7,.slice ca cl cc]) rfl (fun V hX=>by obtain ⟨g0,g1,g2,g3,g4,g5,g6,g7,g8⟩:=f2 V hX;go_simp) fI fun gF=>?_;simp only[ag];refine bZ 3 rfl fun K hK=>?_;go_simp;refine CallsIn.inRound lR (aK.2 (rC.o.mono ?_));rintro _ w4 ⟨rfl,aP⟩;have cv:Below W2.heap.size W2 w4:=((ak W2.heap.size W2).drew).trans aP;refine hK _ _ (fun _=>by rw[HS.o];exact cv) (fun iG=>?_);clear hK K;refine c9 4 31 (.int .i64 (S1:Int)) rfl (fun V hX=>by have MW:=HWr.o.1;go_simp) (iG (by omega)) fun jx=>?_;simp only[ag];have WO:=bR cv HGs.o.2.1;have Mn:=bR cv HGs.o.2.2.1;have n4:=ai WO 0;have z4:=af WO 0;refine bZ 5 rfl fun K hK=>?_;go_simp;refine eN hK ?_;clear hK K;refine kz ?_;have iP:Kp (fun b=>b=nB) w4 (w4.setCell ⟨nB,0,none⟩ (.int .i64 (S1:Int))):=iB;have AH:Kp M3 w4 (w4.setCell ⟨nB,0,none⟩ (.int .i64 (S1:Int))):=iP.mono (fun b _ h=>by subst h;rw[HM3.o];exact .inr rfl);have xn5:=iA WO (v:=.int .i64 (S1:Int));have xr5:=(iP.same _ (bz Mn) (by have:=HnB.o;omega)).trans Mn;obtain ⟨w5,Yt⟩:=am (w4.setCell ⟨nB,0,none⟩ (.int .i64 (S1:Int)));rw[<-Yt]at iP AH xn5 xr5 ⊢;have sE:=(Kp.below (M:=M3) cv).trans AH;have n5:=ai xn5 0;have r5:=ai xr5 0;have z5:=af xr5 0;have H5:=fh sE xn5 xr5 (HGs.o.2.2.2.trans sE) AH;clear cv aP WO Mn n4 z4 iP AH xn5 xr5 Yt sE jx iG gF fI cq bN f0 f1 f2 dO
  by_cases Ht:400<S1
  ·have hd:decide ((400:Int)<(S1:Int))=true:=by simp;omega
   gi_wp2_with fail;have Hp:Kp (fun b=>b=w.heap.size+1+1) w5 (w5.setCell ⟨w.heap.size+1+1,0,none⟩ (.int .i64 3)):=iB;have zav:Kp M3 w5 (w5.setCell ⟨w.heap.size+1+1,0,none⟩ (.int .i64 3)):=Hp.mono (fun b _ h=>by subst h;rw[HM3.o];exact .inl rfl);exact ⟨trivial,(H5.o.1.trans zav).from _,rfl,by rw[Pq.o];exact Ht,iA H5.o.2.2.1,H5.o.2.2.2.1.trans zav⟩
  ·have hd:decide ((400:Int)<(S1:Int))=false:=by simp;omega
   gi_wp2_with fail;exact ⟨H5.o.1,by rw[Pq.o];omega,by rw[Pq.o];exact H5.o.2.1,H5.o.2.2.1,H5.o.2.2.2.1⟩):G:=h
theorem pm12(h:G:=by
 have Y8:Below w.heap.size w (((w.alloc (.cells #[.bool true,.string ⟨n.toArray⟩,.slice qa k0 qc] 43)).alloc (.cells #[.bool false,.string ⟨#[]⟩,.slice none 0 0] 43)).alloc (.cells #[.bool true,.string ⟨n.toArray⟩,.slice none 0 0] 43)):=(cJ.alloc (by simp) _).alloc (by simp;omega) _;have y1:(((w.alloc (.cells #[.bool true,.string ⟨n.toArray⟩,.slice qa k0 qc] 43)).alloc (.cells #[.bool false,.string ⟨#[]⟩,.slice none 0 0] 43)).alloc (.cells #[.bool true,.string ⟨n.toArray⟩,.slice none 0 0] 43)).heap[w.heap.size+1]?=some (.cells #[.bool false,.string ⟨#[]⟩,.slice none 0 0] 43 (0,0)):=(bI _ _ _ (by simp)).trans (aj (by simp));have y2:(((w.alloc (.cells #[.bool true,.string ⟨n.toArray⟩,.slice qa k0 qc] 43)).alloc (.cells #[.bool false,.string ⟨#[]⟩,.slice none 0 0] 43)).alloc (.cells #[.bool true,.string ⟨n.toArray⟩,.slice none 0 0] 43)).heap[w.heap.size+1+1]?=some (.cells #[.bool true,.string ⟨n.toArray⟩,.slice none 0 0] 43 (0,0)):=aj (by simp);have y0:(((w.alloc (.cells #[.bool true,.string ⟨n.toArray⟩,.slice qa k0 qc] 43)).alloc (.cells #[.bool false,.string ⟨#[]⟩,.slice none 0 0] 43)).alloc (.cells #[.bool true,.string ⟨n.toArray⟩,.slice none 0 0] 43)).heap[w.heap.size]?=some (.cells #[.bool true,.string ⟨n.toArray⟩,.slice qa k0 qc] 43 (0,0)):=(bI _ _ _ (by simp;omega)).trans ((bI _ _ _ (by simp)).trans (aj rfl));have HY:=cC Y8 y1 y2 y0;have CP:=ae (fun w=>hh ▸ jE n w (by omega));clear hh Y8 y1 y2 y0;have pp252:=();exact pm252):G:=h
theorem pm13(h:G:=by
 cases S with
 | none=>
  go_wp2_with (go_at_call 229;refine HC.o.mono ?_;rintro e w2 ⟨⟨v2,rfl,jd⟩,bD⟩;obtain ⟨a2,c2,rfl⟩:=jd.slice;simp only[Option.getD,List.length_nil];have cO:=ae (HB.o.trans (bD.mono HB.o.size));clear bD jd);go_roundw
  case rel=>exact ⟨k+1,by omega,by go_num,cO.o,HT.o⟩
  case measure=>simp[intOf];omega
 | some p=>
  obtain ⟨AX,AY⟩:=HLS.o p rfl;obtain ⟨p0,mZ⟩:=am p.length;have nn:0<p0:=by rw[mZ];exact iD.2 AX
  have Zh:p0<=2000000:=by rw[mZ];exact AY
  have NL:(0:Int)<(p0:Int):=by omega
  obtain ⟨E8,U7⟩:=a_ mZ AX;clear mZ AX AY HLS;go_wp2_with (first | (go_at_call 229;refine HC.o.mono ?_;rintro e w2 ⟨⟨v2,rfl,jd⟩,bD⟩;obtain ⟨a2,c2,rfl⟩:=jd.slice;simp only[Option.getD]at jd ⊢;obtain ⟨b2,off2,rfl,B8⟩:=jd.get U7.o;have HO:=ae jd.olds;have cO:=ae (HB.o.trans (bD.mono HB.o.size));rw[<-E8.o];clear bD jd B8) | (at_builtin;refine wpList_append_lies _ rfl _ _ 218 rfl 0 3 i0 (.int .i64 0) 1 8 Tryz.underlying218 hi nM i_ ig rfl (by decide) _ 1 [.int .i64 (k:Int)] rfl (U4 0 (bc _) (aj rfl)) ⟨b2,off2,none⟩ p0 c2 (sh p) rfl (by rw[E8.o];simp[sh]) (fun j u h=>aa cJ (HO.o j u h)) (by simp[sh,Value.oneCell']) nn (by unfold maxLen;omega) (by omega) (bc _) (w2.heap.size+1) (by simp) ?_;intro g ev w4 aR ao hg eq;have HG:=aG aR ao;clear aR ao hg eq));go_ret;refine ⟨⟨_,rfl,?_⟩,?_⟩
  ·rw[HT.o];exact IntsV.own (l:=k :: p) HG.o.1
  ·have aP:Below w2.heap.size w2 w4:=by
    have hg:=HG.o.2;have hs:=hg.size;exact ⟨hg.os,hg.tape,hg.output,by simp at hs;omega,fun b hb=>(hg.block b (by simp;omega) (fun h=>by injection h with h;simp at h;omega)).trans (bI _ _ _ hb)⟩
   exact cO.o.trans (aP.mono cO.o.size)):G:=h
theorem pm14(h:G:=by
 have pp185a:=();exact pm185):G:=h
theorem pm15(h:G:=by
 have hO:Below wq.heap.size wq lq:=by rw[vQ.o];exact (((ak wq.heap.size wq).alloc (aI _) _).alloc (by simp) _).tr (fB _ _ _)
 have EC:((wq.alloc (.cells #[.int .i64 j] 3)).alloc (.cells #[.int .u8 a0,.string a1,.slice a2 a3 a4,.slice a5 a6 a7,.int .u8 b0,.string b1,.slice b2 b3 b4,.slice b5 b6 b7] 50)).heap.size=wq.heap.size+1+1:=by simp
 have O9:lq.heap.size=wq.heap.size+1+1+2:=by rw[vQ.o,jP,EC]
 have xX:lq.heap[wq.heap.size+1+1]?=some (.cells #[.int .u8 a0,.string a1,.slice a2 a3 a4,.slice a5 a6 a7] 36 (0,0)):=by rw[vQ.o,<-EC];exact kG _ _ _
 have xY:lq.heap[wq.heap.size+1+1+1]?=some (.cells #[.int .u8 b0,.string b1,.slice b2 b3 b4,.slice b5 b6 b7] 36 (0,0)):=by rw[vQ.o,<-EC];exact kH _ _ _
 have xi:lq.heap[wq.heap.size]?=some (.cells #[.int .i64 j] 3 (0,0)):=by
  rw[vQ.o];exact ((fB _ _ _).block _ (by simp;omega)).trans ((bI _ _ _ (by simp)).trans (aj rfl))
 have O':mj.heap.size<=wq.heap.size:=bh.size;have R2:∀ b,M b->b<mS.heap.size:=sP.o.2.2.2.2.1;have Fe:=sP.o.2.2.2.1;have rK:=sP.o.2.2.2.2.2;have KC:w.heap.size<=mS.heap.size:=ld.o.2.2.1.size;have QP:∀ b,b<w.heap.size->lq.heap[b]?=w.heap[b]?:=fun b hb=>(hO.block b (bE hb nq.size)).trans (nq.block b hb);have lV:FormV (fun b=>b<lq.heap.size/\¬M b) lq (FQ.val ⟨a0,a1,a2,a3,a4,a5,a6,a7⟩) s:=hs.move (fun b hb hlt=>⟨⟨by omega,fun hm=>by have:=AG.o.1 b hm;omega⟩,QP b hlt⟩);have oh:FormV (fun b=>b<lq.heap.size/\¬M b) lq (FQ.val ⟨b0,b1,b2,b3,b4,b5,b6,b7⟩) f:=hf.move (fun b hb hlt=>⟨⟨by omega,fun hm=>by have:=AG.o.1 b hm;omega⟩,QP b hlt⟩)
 first
 |clear pp15;have z8:=z7;simp only[ah]at z8;have D1:nodesF s<=400:=by have:=z8.1;unfold eL at this;simp only[ah,bx]at this;exact this.2.1
  have Hj:¬M (wq.heap.size+1+1):=fun h=>by have:=R2 _ h;omega
  have Wo:¬M (wq.heap.size+1+1+1):=fun h=>by have:=R2 _ h;omega
  have nH:=lZ s f og.2 (by omega) M lq.heap.size (wq.heap.size+1+1) (wq.heap.size+1+1+1) lq ⟨a0,a1,a2,a3,a4,a5,a6,a7⟩ ⟨b0,b1,b2,b3,b4,b5,b6,b7⟩ xX Hj xY Wo lV oh;have hMr:M (K0+1)/\M (K0+1+1)/\M aB/\M (aB+1)/\¬M (K0+1+1+1):=by rw[HM.o];have:=ld.o.2.1;omega
  have O_:=bR hO Ff;have Pa:=bR hO fL;have Pb:lq.heap[wr.heap.size]?=some (.cells #[(.func (.func 47) #[.pointer (some ⟨K0+1+1+1,0,none⟩)] #[])] 82 (0,0)):=(hO.block _ (by omega)).trans ((bh.same _ (by omega) (fun h=>by have:=R2 _ h;omega)).trans sP.o.1);have GT:Marks mS.heap.size lq WA:=wa.move (fun D hD hd=>(hO.block D (bz hd)).trans hd);have Mf:=ae ((HV.o.2.2.1.next nq).next hO);have Zb:=ae nH;have HI:=qS (dS.later hO) O_ Pa xS xi Pb;have gM:=ae (an8 hO O9 GT bh O' Fe rK KC);have TK:=ae gw;have uE:=cC D1 qY pE z7;have vR:=ae hMr;have uI:=ae ((hO.block _ (by have:=(bz jo.o);omega)).trans ((bh.same _ (bz jo.o) AG.o.2).trans jo.o));clear hs hf hO EC O9 xX xY xi O' Fe rK KC QP lV oh z8 D1 Hj Wo nH hMr O_ Pa Pb GT dS bh Ff fL wa qY pE gw xS z7 og nq d0 d1 d2 d3 d4 d5 d6 d7 WC hu;have eg:∀ args W,(callFunc 102 args).run Tryz.prog W=.ok (.enter 102 args) W:=enters_of Tryz.func102 (by kernel_rfl) rfl;refine gi rfl eg (fun b hb=>by have:=R2 b hb;have:=gM.o;omega) Zb.o (fun _ _ _ h=>by obtain ⟨q,ps,rfl,_⟩:=h;rfl)
   (fun pre X=>∃(k':Bd) (wB tI:Nat),gg bV kj pre=(k',0)/\KnV (fun b=>¬M b) goodF goodT X (K0+1+1+1) (K0+1) (K0+1+1) wB tI k'/\wB<=Mk+pre.length/\tI<=Ml+pre.length * 400/\bL k'=true/\X.heap[aB+1]?=some (.cells #[.int .i64 0] 30 (0,0))/\X.heap[aB]?=some (.cells #[.int .i64 0] 3 (0,0))/\Kp M lq X)
   (fun c pre X=>c=.exit 2/\∃(k':Bd) (er:Int),er≠0/\gg bV kj pre=(k',er)/\X.heap[aB+1]?=some (.cells #[.int .i64 er] 30 (0,0))/\X.heap[aB]?=some (.cells #[.int .i64 j] 3 (0,0))/\Kp M lq X)
   (fun s=>?hI) (fun c s=>?hIx) ⟨kj,Mk,Ml,rfl,HI.o.1,by simp,by simp,HI.o.2.2.2.1,HI.o.2.1,HI.o.2.2.1,Kp.refl _⟩ ?round ?done ?stop
  case hI=>
   exact pm158
  case hIx=>
   rintro X Y hn ⟨h1,k',er,h2,h3,h4,h5,h6⟩;exact ⟨h1,k',er,h2,h3,hn.cells h4,hn.cells h5,mU h6 hn⟩
  case round=>
   rintro lR pre vs x W hl xj ⟨k',wB,tI,h1,h2,h3,h4,h5,h6,h7,h8⟩ ⟨q,ps,rfl,KP,mq,sO,Bl,gU⟩ E5 dn;have pp18d:=();exact pm18
  case done=>
   exact pm38
  case stop=>
   have pp246:=();exact pm246
 |have z8:=z7;simp only[ah]at z8;have D1:nodesF s<=400:=by have:=z8.1;unfold eL at this;simp only[ah,bx]at this;exact this.2.1
  have Hj:¬M (wq.heap.size+1+1):=fun h=>by have:=R2 _ h;omega
  have Wo:¬M (wq.heap.size+1+1+1):=fun h=>by have:=R2 _ h;omega
  have nH:=lZ s f og.2 (by omega) M lq.heap.size (wq.heap.size+1+1) (wq.heap.size+1+1+1) lq ⟨a0,a1,a2,a3,a4,a5,a6,a7⟩ ⟨b0,b1,b2,b3,b4,b5,b6,b7⟩ xX Hj xY Wo lV oh;have hMr:M (K0+1)/\M (K0+1+1)/\M aB/\M (aB+1)/\¬M (K0+1+1+1):=by rw[HM.o];have:=ld.o.2.1;omega
  have O_:=bR hO Ff;have Pa:=bR hO fL;have Pb:lq.heap[wr.heap.size]?=some (.cells #[(.func (.func 48) #[.pointer (some ⟨K0+1+1+1,0,none⟩)] #[])] 82 (0,0)):=(hO.block _ (by omega)).trans ((bh.same _ (by omega) (fun h=>by have:=R2 _ h;omega)).trans sP.o.1);have GT:Marks mS.heap.size lq WA:=wa.move (fun D hD hd=>(hO.block D (bz hd)).trans hd);have Mf:=ae ((HV.o.2.2.1.next nq).next hO);have Zb:=ae nH;have HI:=qS (dS.later hO) O_ Pa xS xi Pb;have gM:=ae (an8 hO O9 GT bh O' Fe rK KC);have TK:=ae gw;have uE:=cC D1 qY pE z7;have vR:=ae hMr;have uI:=ae ((hO.block _ (by have:=(bz jo.o);omega)).trans ((bh.same _ (bz jo.o) AG.o.2).trans jo.o));clear hs hf hO EC O9 xX xY xi O' Fe rK KC QP lV oh z8 D1 Hj Wo nH hMr O_ Pa Pb GT dS bh Ff fL wa qY pE gw xS z7 og nq d0 d1 d2 d3 d4 d5 d6 d7 WC hu;have eg:∀ args W,(callFunc 102 args).run Tryz.prog W=.ok (.enter 102 args) W:=enters_of Tryz.func102 (by kernel_rfl) rfl;refine gi rfl eg (fun b hb=>by have:=R2 b hb;have:=gM.o;omega) Zb.o (fun _ _ _ h=>by obtain ⟨q,ps,rfl,_⟩:=h;rfl)
   (fun pre X=>∃(k':Bd) (wB tI:Nat),gg eF kj pre=(k',0)/\KnV (fun b=>¬M b) goodF goodT X (K0+1+1+1) (K0+1) (K0+1+1) wB tI k'/\wB<=Mk+pre.length/\tI<=Ml+pre.length * 400/\bL k'=true/\X.heap[aB+1]?=some (.cells #[.int .i64 0] 30 (0,0))/\X.heap[aB]?=some (.cells #[.int .i64 0] 3 (0,0))/\Kp M lq X)
   (fun c pre X=>c=.exit 2/\∃(k':Bd) (er:Int),er≠0/\gg eF kj pre=(k',er)/\X.heap[aB+1]?=some (.cells #[.int .i64 er] 30 (0,0))/\X.heap[aB]?=some (.cells #[.int .i64 j] 3 (0,0))/\Kp M lq X)
   (fun s=>?hI) (fun c s=>?hIx) ⟨kj,Mk,Ml,rfl,HI.o.1,by simp,by simp,HI.o.2.2.2.1,HI.o.2.1,HI.o.2.2.1,Kp.refl _⟩ ?round ?done ?stop
  case hI=>
   exact pm158
  case hIx=>
   rintro X Y hn ⟨h1,k',er,h2,h3,h4,h5,h6⟩;exact ⟨h1,k',er,h2,h3,hn.cells h4,hn.cells h5,mU h6 hn⟩
  case round=>
   rintro lR pre vs x W hl xj ⟨k',wB,tI,h1,h2,h3,h4,h5,h6,h7,h8⟩ ⟨q,ps,rfl,KP,mq,sO,Bl,gU⟩ E5 dn;exact pm18
  case done=>
   exact pm38
  case stop=>
   exact pm246):G:=h
theorem pm16(h:G:=by
 have lN:=ae CC;clear CC;gi_wp2_with (gi_at_call 51;refine aK.2 (lN.o.mono ?_);rintro e w5 ⟨p5,rfl,qE,bj⟩;obtain ⟨po,pn,pa,pl,pc,pb,pm,pe⟩:=p5;simp only at qE ⊢;have D3:=ae (F7.o.later bj);have HP:=ae qE;have x1:=D3.o.b1;have f0:=ai x1 0;have f1:=ai x1 1;have f2:=ai x1 2;have f3:=ai x1 3;have z0:=af x1 0;have z1:=af x1 1;have z2:=af x1 2;have z3:=af x1 3;clear bj qE x1);have Vo:=F7.o.lt;have x6:=kP (v0:=.int .u8 po) (v1:=.string pn) (v2:=.slice pa pl pc) (v3:=.slice pb pm pe) D3.o.b1;have k6:=dA (W:=w5) (b:=w.heap.size+1+1) (v0:=.int .u8 po) (v1:=.string pn) (v2:=.slice pa pl pc) (v3:=.slice pb pm pe);obtain ⟨W6,da⟩:=am ((((w5.setCell ⟨w.heap.size+1+1,0,none⟩ (.int .u8 po)).setCell ⟨w.heap.size+1+1,1,none⟩ (.string pn)).setCell ⟨w.heap.size+1+1,2,none⟩ (.slice pa pl pc)).setCell ⟨w.heap.size+1+1,3,none⟩ (.slice pb pm pe));rw[<-da]at x6 k6 ⊢;clear da;have g0:W6.cell? ⟨w.heap.size+1+1,0,none⟩=some (.int .u8 po):=ai x6 0;have g1:W6.cell? ⟨w.heap.size+1+1,1,none⟩=some (.string pn):=ai x6 1;have g2:W6.cell? ⟨w.heap.size+1+1,2,none⟩=some (.slice pa pl pc):=ai x6 2;have g3:W6.cell? ⟨w.heap.size+1+1,3,none⟩=some (.slice pb pm pe):=ai x6 3;refine bJ (v:=FQ.val ⟨po,pn,pa,pl,pc,pb,pm,pe⟩) (by simp[FQ.val,results,Tryz.results101,go_sem,g0,g1,g2,g3]) rfl ⟨⟨⟨po,pn,pa,pl,pc,pb,pm,pe⟩,rfl,vr.o ▸ HP.o.move (fun b hok hlt=>⟨by omega,k6.same b hlt (by omega)⟩)⟩,Below.kp1 D3.o.below k6 (by omega)⟩):G:=h
theorem pm17(h:G:=by
 obtain ⟨uo,un,ua,ul,uc,ub,um,ue⟩:=u;obtain ⟨vo,vn,va,vl,vc,vb,vm,ve⟩:=v;have iL:=lW (c:=xA) vV S2;have wu:=(bh.same _ (bz MZ.o) HWM.o.2).trans MZ.o;have zcd:=bh.size;have zce:k<sm:=by have:=gV.o;omega
 have zcf:k<fm:=by have:=gV.o;omega
 have sX:(pre ++ ([X] ++ aT xA (ss.take k) (fs.take k)) ++ bA xA ss[k] fs[k]) <+: xs:=by
  have h2:=nc.o;rw[lX (c:=xA) (k:=k+1) (l:=ss) (m:=fs),iL]at h2;obtain ⟨r,rfl⟩:=h2;exact ⟨aT xA (ss.drop (k+1)) (fs.drop (k+1)) ++ r,by simp⟩
 obtain ⟨S,hS⟩:∃S:World->Prop,S=fun V=>Below wr.heap.size wr V:=⟨_,rfl⟩;have p3:∀ V,S V->V.cell? ⟨W.heap.size,3,none⟩=some (.slice (some ⟨bs,os,none⟩) sm se):=fun V h=>by rw[hS]at h;exact aa h (ai wu 3)
 have p7:∀ V,S V->V.cell? ⟨W.heap.size,7,none⟩=some (.slice (some ⟨bf,of,none⟩) fm fe):=fun V h=>by rw[hS]at h;exact aa h (ai wu 7)
 have qs:∀ V,S V->V.cell? ⟨bs,os+k * 4,none⟩=some (.int .u8 uo)/\V.cell? ⟨bs,os+k * 4+1,none⟩=some (.string un)/\V.cell? ⟨bs,os+k * 4+2,none⟩=some (.slice ua ul uc)/\V.cell? ⟨bs,os+k * 4+3,none⟩=some (.slice ub um ue):=fun V h=>by rw[hS]at h;exact ⟨aa h d0,aa h d1,aa h d2,aa h d3⟩
 have qf:∀ V,S V->V.cell? ⟨bf,of+k * 4,none⟩=some (.int .u8 vo)/\V.cell? ⟨bf,of+k * 4+1,none⟩=some (.string vn)/\V.cell? ⟨bf,of+k * 4+2,none⟩=some (.slice va vl vc)/\V.cell? ⟨bf,of+k * 4+3,none⟩=some (.slice vb vm ve):=fun V h=>by rw[hS]at h;exact ⟨aa h g0,aa h g1,aa h g2,aa h g3⟩
 have dO:S wr.drew:=by rw[hS];exact (ak _ _).drew
 first
 |clear pp17;have pd:Kp M W3 wr.drew:=bh.trans (Kp.below (ak _ _).drew);have CC:=fS.o ss[k] (aA vV) fs[k] (TC.o.mem (aA S2)) ps (by have:=xg.o.2.1 ss[k] (aA vV);omega) M B l J Jx xs (pre ++ ([X] ++ aT xA (ss.take k) (fs.take k))) wr.drew ⟨⟨uo,un,ua,ul,uc,ub,um,ue⟩,⟨vo,vn,va,vl,vc,vb,vm,ve⟩,ca,cl,cc⟩
   (fun b hb=>by have:=AA.o.1 b hb;show b<wr.heap.size;have:=zi.o.2.size;omega) ⟨by have:=AA.o.2.1;show l<wr.heap.size;have:=zi.o.2.size;omega,AA.o.2.2⟩ (fun t=>(HJ.o.1 t).mono (by show W.heap.size<=wr.heap.size;have:=zi.o.2.size;omega)) (fun t=>(HJ.o.2 t).mono (by show W.heap.size<=wr.heap.size;have:=zi.o.2.size;omega))
   (HY.o.later (zi.o.2.trans pd)) (hu.kp (zi.o.2.trans pd)) (hv.kp (zi.o.2.trans pd)) (HPz.o.kp pd) (by rw[show (ps).reverse=xA from AV.o];exact sX) (HJ.o.1 _ _ _ (Nw.below (ak _ _).drew) hj)
  rw[show (ps).reverse=xA from AV.o]at CC;simp only[PlQ.val,PlQ.cells]at CC;obtain ⟨HC,HSu⟩:=a_ CC iL;have kf:=aG bh pd;clear hu hv sX CC iL hj bh pd wu iO hS c0 c1 c2 c3 e0 e1 e2 e3 d0 d1 d2 d3 g0 g1 g2 g3;gi_wp2;refine lg S 15 dO fun jp bN=>?_;refine bC 0 43 (.pointer (some ⟨W.heap.size,0,none⟩)) rfl bN fun cq=>?_;simp only[ag];refine bC 1 44 (.pointer (some ⟨W.heap.size,3,none⟩)) rfl cq fun fI=>?_;simp only[ag];refine c9 2 45 (.slice (some ⟨bs,os,none⟩) sm se) rfl (fun V hX=>by have h0:=p3 V hX;go_simp) fI fun gF=>?_;simp only[ag];refine bC 3 46 (.int .i64 (k:Int)) rfl gF fun iG=>?_;simp only[ag];refine bC 4 47 (.pointer (some ⟨bs,os+k * 4,none⟩)) rfl iG fun jx=>?_;simp only[ag];refine c9 5 48 (.agg #[.int .u8 uo,.string un,.slice ua ul uc,.slice ub um ue]) rfl (fun V hX=>by obtain ⟨h0,h1,h2,h3⟩:=qs V hX;go_simp) jx fun jM=>?_;simp only[ag];refine bC 6 49 (.pointer (some ⟨W.heap.size,4,none⟩)) rfl jM fun mi=>?_;simp only[ag];refine bC 7 50 (.pointer (some ⟨W.heap.size,7,none⟩)) rfl mi fun rA=>?_;simp only[ag];refine c9 8 51 (.slice (some ⟨bf,of,none⟩) fm fe) rfl (fun V hX=>by have h0:=p7 V hX;go_simp) rA fun I1=>?_;simp only[ag];refine bC 9 52 (.int .i64 (k:Int)) rfl I1 fun Bn=>?_;simp only[ag];refine bC 10 53 (.pointer (some ⟨bf,of+k * 4,none⟩)) rfl Bn fun I2=>?_;simp only[ag];refine c9 11 54 (.agg #[.int .u8 vo,.string vn,.slice va vl vc,.slice vb vm ve]) rfl (fun V hX=>by obtain ⟨h0,h1,h2,h3⟩:=qf V hX;go_simp) I2 fun Oo=>?_;simp only[ag];refine bC 12 55 (.slice ca cl cc) rfl Oo fun Rs=>?_;simp only[ag];refine bC 13 56 (.agg #[.int .u8 uo,.string un,.slice ua ul uc,.slice ub um ue,.int .u8 vo,.string vn,.slice va vl vc,.slice vb vm ve,.slice ca cl cc]) rfl Rs fun VE=>?_;simp only[ag];refine bC 14 57 (.func (.yield l) #[] #[]) rfl VE fun zcg=>?_;simp only[ag];refine bZ 15 rfl fun K hK=>?_;go_simp;refine aK.2 (HC.o.mono ?_);rintro e w3 (⟨rfl,o8,j5⟩ | ⟨rfl,Oq⟩)
  ·refine eN hK ?_;exact pm123
  ·refine eN hK ?_;exact pm139
 |have pd:Kp M X5 wr.drew:=bh.trans (Kp.below (ak _ _).drew);have CC:=fS.o ss[k] (aA vV) fs[k] (TC.o.mem (aA S2)) (ps ++ [(sn,fn)]) (by have:=xg.o.2.1 ss[k] (aA vV);simp;omega) M B l J Jx xs (pre ++ ([X] ++ aT xA (ss.take k) (fs.take k))) wr.drew ⟨⟨uo,un,ua,ul,uc,ub,um,ue⟩,⟨vo,vn,va,vl,vc,vb,vm,ve⟩,(some ⟨g,0,none⟩),(cl+1),cap⟩
   (fun b hb=>by have:=AA.o.1 b hb;show b<wr.heap.size;have:=zi.o.2.size;omega) ⟨by have:=AA.o.2.1;show l<wr.heap.size;have:=zi.o.2.size;omega,AA.o.2.2⟩ (fun t=>(HJ.o.1 t).mono (by show W.heap.size<=wr.heap.size;have:=zi.o.2.size;omega)) (fun t=>(HJ.o.2 t).mono (by show W.heap.size<=wr.heap.size;have:=zi.o.2.size;omega))
   (HY.o.later (zi.o.2.trans pd)) (hu.kp (zi.o.2.trans pd)) (hv.kp (zi.o.2.trans pd)) (HPz.o.kp pd) (by rw[show ((ps ++ [(sn,fn)])).reverse=xA from AV.o];exact sX) (HJ.o.1 _ _ _ (Nw.below (ak _ _).drew) hj)
  rw[show ((ps ++ [(sn,fn)])).reverse=xA from AV.o]at CC;simp only[PlQ.val,PlQ.cells]at CC;obtain ⟨HC,HSu⟩:=a_ CC iL;have kf:=aG bh pd;clear hu hv sX CC iL hj bh pd wu iO hS c0 c1 c2 c3 e0 e1 e2 e3 d0 d1 d2 d3 g0 g1 g2 g3;gi_wp2;refine lg S 15 dO fun jp bN=>?_;refine bC 0 43 (.pointer (some ⟨W.heap.size,0,none⟩)) rfl bN fun cq=>?_;simp only[ag];refine bC 1 44 (.pointer (some ⟨W.heap.size,3,none⟩)) rfl cq fun fI=>?_;simp only[ag];refine c9 2 45 (.slice (some ⟨bs,os,none⟩) sm se) rfl (fun V hX=>by have h0:=p3 V hX;go_simp) fI fun gF=>?_;simp only[ag];refine bC 3 46 (.int .i64 (k:Int)) rfl gF fun iG=>?_;simp only[ag];refine bC 4 47 (.pointer (some ⟨bs,os+k * 4,none⟩)) rfl iG fun jx=>?_;simp only[ag];refine c9 5 48 (.agg #[.int .u8 uo,.string un,.slice ua ul uc,.slice ub um ue]) rfl (fun V hX=>by obtain ⟨h0,h1,h2,h3⟩:=qs V hX;go_simp) jx fun jM=>?_;simp only[ag];refine bC 6 49 (.pointer (some ⟨W.heap.size,4,none⟩)) rfl jM fun mi=>?_;simp only[ag];refine bC 7 50 (.pointer (some ⟨W.heap.size,7,none⟩)) rfl mi fun rA=>?_;simp only[ag];refine c9 8 51 (.slice (some ⟨bf,of,none⟩) fm fe) rfl (fun V hX=>by have h0:=p7 V hX;go_simp) rA fun I1=>?_;simp only[ag];refine bC 9 52 (.int .i64 (k:Int)) rfl I1 fun Bn=>?_;simp only[ag];refine bC 10 53 (.pointer (some ⟨bf,of+k * 4,none⟩)) rfl Bn fun I2=>?_;simp only[ag];refine c9 11 54 (.agg #[.int .u8 vo,.string vn,.slice va vl vc,.slice vb vm ve]) rfl (fun V hX=>by obtain ⟨h0,h1,h2,h3⟩:=qf V hX;go_simp) I2 fun Oo=>?_;simp only[ag];refine bC 12 55 (.slice (some ⟨g,0,none⟩) (cl+1) cap) rfl Oo fun Rs=>?_;simp only[ag];refine bC 13 56 (.agg #[.int .u8 uo,.string un,.slice ua ul uc,.slice ub um ue,.int .u8 vo,.string vn,.slice va vl vc,.slice vb vm ve,.slice (some ⟨g,0,none⟩) (cl+1) cap]) rfl Rs fun VE=>?_;simp only[ag];refine bC 14 57 (.func (.yield l) #[] #[]) rfl VE fun zcg=>?_;simp only[ag];refine bZ 15 rfl fun K hK=>?_;go_simp;refine aK.2 (HC.o.mono ?_);rintro e w3 (⟨rfl,o8,j5⟩ | ⟨rfl,Oq⟩)
  ·refine eN hK ?_;exact pm123
  ·refine eN hK ?_;exact pm139):G:=h
theorem pm18(h:G:=by
 obtain ⟨⟨u0,u1,u2,u3,u4,u5,u6,u7⟩,⟨v0,v1,v2,v3,v4,v5,v6,v7⟩,ca,cl,cc⟩:=q;simp only[PlQ.val,PlQ.cells];simp only at sO Bl gU;have xU:lR<W.heap.size:=by obtain ⟨r,hr⟩:=xj;exact (bz hr)
 have ib:Below W.heap.size W (W.alloc (.cells #[.int .u8 u0,.string u1,.slice u2 u3 u4,.slice u5 u6 u7,.int .u8 v0,.string v1,.slice v2 v3 v4,.slice v5 v6 v7,.slice ca cl cc] 89)):=cJ
 first
 |clear pp18a;have R3:=bG h1 (bR ib h2) (h3.trans (Kp.below ib));have HQ:=cC sO gU KP mq;have HL:=qS hl xj xU ib E5 dn;clear h1 h2 h3 sO Bl gU KP mq hl xj xU ib E5 dn;gi_wp2;refine ⟨Kp.below HL.o.2.2.2.1,R3.o,fun W2 gB uB io=>?_⟩;obtain ⟨g1,g2,g3⟩:=uB;have pp11c:=();exact pm11
 |clear pp18b;have R3:=bG h1 (bR ib h2) (h3.trans (Kp.below ib));have HQ:=cC sO gU KP mq;have HL:=qS hl xj xU ib E5 dn;clear h1 h2 h3 sO Bl gU KP mq hl xj xU ib E5 dn;gi_wp2;refine ⟨Kp.below HL.o.2.2.2.1,R3.o,fun W2 gB uB io=>?_⟩;obtain ⟨g1,g2,g3⟩:=uB;have pp11d:=();exact pm11
 |clear pp18c;have R3:=cC h1 (bR ib h2) (bR ib h3) (h4.trans (Kp.below ib));have HQ:=cC sO gU KP mq;have HL:=qS hl xj xU ib E5 dn;clear h1 h2 h3 h4 sO Bl gU KP mq hl xj xU ib E5 dn;gi_wp2;refine ⟨Kp.below HL.o.2.2.2.1,R3.o,fun W2 gB uB io=>?_⟩;obtain ⟨g1,g2,g3,g4⟩:=uB;exact pm11
 |clear pp18d;have R3:=ae (an8 h1 (h2.later ib) h3 h4 h5 (bR ib h6) (bR ib h7) (h8.trans (Kp.below ib)));have HQ:=fh sO Bl gU KP mq;have HL:=qS hl xj xU ib E5 dn;clear h1 h2 h3 h4 h5 h6 h7 h8 sO Bl gU KP mq hl xj xU ib E5 dn;gi_wp2;refine ⟨Kp.below HL.o.2.2.2.1,⟨k',wB,tI,R3.o⟩,fun W2 gB uB io=>?_⟩;obtain ⟨k2,nF2,Bp,g1,g2,g3,g4,g5,g6,g7,g8⟩:=uB;have pp11a:=();exact pm11
 |have R3:=ae (an8 h1 (h2.later ib) h3 h4 h5 (bR ib h6) (bR ib h7) (h8.trans (Kp.below ib)));have HQ:=fh sO Bl gU KP mq;have HL:=qS hl xj xU ib E5 dn;clear h1 h2 h3 h4 h5 h6 h7 h8 sO Bl gU KP mq hl xj xU ib E5 dn;gi_wp2;refine ⟨Kp.below HL.o.2.2.2.1,⟨k',wB,tI,R3.o⟩,fun W2 gB uB io=>?_⟩;obtain ⟨k2,nF2,Bp,g1,g2,g3,g4,g5,g6,g7,g8⟩:=uB;have pp11b:=();exact pm11):G:=h
theorem pm19(h:G:=by
 obtain ⟨W9,qX,x9,k9,_⟩:=By xR (.slice none 0 0) (.slice none 0 0);have WG:¬(aB=w.heap.size+1):=fun h=>AG.o.2 (h ▸ vR.o.2.2.1);have WH:¬(aB+1=w.heap.size+1):=fun h=>AG.o.2 (h ▸ vR.o.2.2.2.1);have e4:=k9.cell (a:=⟨aB,0,none⟩) WG e2;have e5:=k9.cell (a:=⟨aB+1,0,none⟩) WH e0;rw[qX]at e4 e5;clear qX x9 k9;have z_:Below w.heap.size w X:=aD (aD sP.o.2.2.1 gM.o.2.2.2.1 AG.o.1) ((Kp.below gM.o.1).trans h6) AG.o.1;have jS:Marks mS.heap.size X ({ target:=.collected D,args:=#[] } :: WA):=gM.o.2.2.1.more (w':=X) (fun E hE hx=>(h6.same E (bz hx) (fun hm=>by have:=sP.o.2.2.2.2.1 E hm;omega)).trans hx) hD (by have:=gM.o;omega) hd;have HZ:=bG xR z_ jS;clear hrs WF gU h3 h4 h5 h6 hd z_ jS xR xRd;gi_wp2_with fail;gi_region
 all_goals
  gi_wp2_with fail;obtain ⟨W8,lr,x8,k8,g0,g1⟩:=By HZ.o.1 (.slice none 0 0) (.slice none 0 0);rw[<-lr,Exit.noGoto_ret];have sF:Below w.heap.size w W8.drew:=(Below.kp1 HZ.o.2.1 k8 (by omega)).drew;refine ef (B:=mS.heap.size) (HZ.o.2.2.move (w':=W8.drew) (fun E hE hd=>(k8.same E (bz hd) (by have:=(bz ld.o.2.2.2.2);omega)).trans hd)) (fun w' hn=>?_);have h0:=hn.cell (show W8.drew.cell? _=_ from g0);have h1:=hn.cell (show W8.drew.cell? _=_ from g1);exact ⟨.tuple #[.agg #[.slice none 0 0,.slice none 0 0],.int .i64 j,.int .i64 er],by simp[results,Tryz.results15,go_sem,h0,h1],⟨⟨⟨none,0,0,none,0,0⟩,by (rw[HE.o];try rfl),by rw[HE.o];exact nA⟩,iV sF (hn.mono ld.o.2.2.1.size)⟩⟩):G:=h
theorem pm20(h:G:=by
 have pp260:=();exact pm260):G:=h
theorem pm21(h:G:=by
 obtain ⟨qo,qn,qa,ql,qc,qb,qm,qe⟩:=q;obtain ⟨sa,ss,hs,bK,ej⟩:=aW.1 hq;unfold FQ.val at hs;simp only[cE,Array.mk.injEq,cB,and_true,Value.int.injEq,true_and,Value.string.injEq]at hs;obtain ⟨rfl,rfl,rfl,rfl⟩:=hs;obtain rfl:=bK.len;obtain rfl:=ej.len
 first
 |clear pp21a;have cm:=az.args.len;have em:=az.subs.len;have lK:=az.name;obtain ⟨d9,fT,Fx,yk,fS⟩:=wV bK ej az.args az.subs ih;obtain ⟨k0,cg⟩:=am a.length;obtain ⟨m0,eh⟩:=am s.length;rw[<-cg]at cm;rw[<-eh]at em;obtain ⟨dB,gV⟩:=a_ cg eh;clear hq bK ej az ih;unfold FQ.val;rw[<-cg,<-eh];clear cg eh;refine ml Tryz.func66 ?_;simp only[Tryz.ntmps66,Nat.reduceAdd,Nat.reduceSub,kM];have g_:=eM;gi_wp2;obtain ⟨W1,bX⟩:=am (((w.alloc (.cells #[.int .u8 qo,.string ⟨n.toArray⟩,.slice qa k0 qc,.slice qb m0 qe] 36)).alloc (.cells #[.int .u8 0,.string ⟨#[]⟩,.slice none 0 0,.slice none 0 0] 36)).alloc (.cells #[.int .u8 qo,.string ⟨n.toArray⟩,.slice none 0 0,.slice none 0 0] 36));have il:=wX bX;have x0:=xZ bX;have x1:=rj bX;have x2:=pg bX;rw[<-bX];clear bX;obtain ⟨d_,Ln,jo⟩:=cG il x0 x1;have uT:=ae (Fills.start (R:=w.heap.size+1+1) (mk:=fun rr=>#[.int .u8 qo,.string ⟨n.toArray⟩,rr,.slice none 0 0]) (Row:=fun r W=>RowT W1.heap.size r ((a.map aM).take 0) W) x2 (RowT.nil _ _));clear il x0 x1 x2;gi_loopw [16] (fun i iQ=>∃k1:Nat,k1<=k0/\i=.int .i64 k1/\∃row,Fills 36 (w.heap.size+1+1) W1.heap.size (fun rr=>#[.int .u8 qo,.string ⟨n.toArray⟩,rr,.slice none 0 0]) (fun r W=>RowT W1.heap.size r ((a.map aM).take k1) W) W1 iQ row) (fun i _=>k0 - (intOf i).toNat)
  case atStart=>exact ⟨0,bc _,rfl,_,uT.o⟩
  case round=>
   obtain ⟨k1,hk,rfl,row,hF⟩:=hrel;obtain ⟨iQ,DF⟩:∃x,x=wr:=⟨_,rfl⟩;subst DF;have ar:=hF.below d_.o (Nat.le_add_right _ 2)
   by_cases hlt:k1<k0
   ·have dy:=cF dB.o hlt;have pp54e:=();exact pm54
   ·obtain rfl:k1=k0:=by omega
    have ct:((a.map aM).take k1).length=k1:=by rw[dM];have:=dB.o;simp;omega
    have jG:(a.map aM).take k1=(a.map aM):=f8 (by have:=dB.o;simp;omega);have pp111a:=();exact pm111
 |clear pp21b;have em:=az.subs.len;have ly:kg (.mk qo n a s)=[.mk qo n a s] ++ dK s:=by unfold kg;rfl
  rw[ly]at dn ⊢;obtain ⟨f,hf⟩:=am (Fm.mk qo n a s);rw[<-hf]at dn Lr ⊢;have fS:=ae (fun t ht=>ih t ht (az.subs.mem ht));obtain ⟨k0,cg⟩:=am a.length;obtain ⟨m0,eh⟩:=am s.length;rw[<-cg,<-eh]at Lr;rw[<-eh]at em ej;unfold FQ.val at Lr ⊢;simp only at Lr ⊢;rw[<-cg,<-eh];obtain ⟨gV,nc⟩:=a_ eh dn;have il:Below W.heap.size W (W.alloc (.cells #[.int .u8 qo,.string ⟨n.toArray⟩,.slice qa k0 qc,.slice qb m0 qe] 36)):=cJ;have Hi:J pre (W.alloc (.cells #[.int .u8 qo,.string ⟨n.toArray⟩,.slice qa k0 qc,.slice qb m0 qe] 36)):=hJ pre _ _ (Nw.below il) hj;have sN:=hY pre #[.agg #[.int .u8 qo,.string ⟨n.toArray⟩,.slice qa k0 qc,.slice qb m0 qe]] f _ Hi (Kp.below il) ⟨⟨qo,⟨n.toArray⟩,qa,k0,qc,qb,m0,qe⟩,rfl,Lr.kp (Kp.below il)⟩ (jq dn);have HX:=ae (show (W.alloc (.cells #[.int .u8 qo,.string ⟨n.toArray⟩,.slice qa k0 qc,.slice qb m0 qe] 36)).heap[W.heap.size]?=some (.cells #[.int .u8 qo,.string ⟨n.toArray⟩,.slice qa k0 qc,.slice qb m0 qe] 36 (0,0)) from aj rfl);obtain ⟨d_,fT,HJ,AA,HY,HF⟩:=UC il ej hJ hM hY hf;obtain ⟨fn,tmps,assign,body,hy,FC⟩:=jl 2 sN;clear hq Lr bK ej az ih cg eh hj il Hi sN hJ hM hY dn ly hf;refine ml Tryz.func151 ?_;simp only[Tryz.ntmps151,Nat.reduceAdd,Nat.reduceSub,kM];have g_:=eM;gi_wp2;refine FC.mono ?_;rintro e W2 ⟨rfl,wd,io⟩;have X6:¬M W.heap.size:=fun h=>by have:=AA.o _ h;omega
  have o9:=(io.same W.heap.size (by simp) X6).trans HX.o;have p3:W2.cell? ⟨W.heap.size,3,none⟩=some (.slice qb m0 qe):=ai o9 3;have xI:=aG wd ((Kp.below d_.o).trans io);clear wd io o9 FC hy;gi_wp2;gi_loopw [14] (fun i wr=>∃k:Nat,k<=m0/\i=.int .i64 k/\J (pre ++ ([f] ++ dK (s.take k))) wr/\Kp M W wr) (fun i _=>m0 - (intOf i).toNat)
  case atStart=>exact ⟨0,bc _,rfl,by simpa[dK] using xI.o.1,xI.o.2⟩
  case round=>
   have pp193a:=();exact pm193
 |clear pp21c;have CL:=fun (W:World) (hb:Below w.heap.size w W)=>rB a az.args (fun t ht=>Bk t (az.args.mem ht)) ok W qa _ qc (bK.later hb);have CS:=fun (W:World) (hb:Below w.heap.size w W)=>Bj s az.subs (fun t ht=>ih t ht (az.subs.mem ht)) ok W qb _ qe (ej.later hb);obtain ⟨k0,cg⟩:=am a.length;obtain ⟨m0,eh⟩:=am s.length;rw[<-cg]at CL;rw[<-eh]at CS;obtain ⟨X8,rC,dB,gV⟩:=eW CL CS cg eh;clear hq bK ej az ih CL CS;unfold FQ.val;rw[<-cg,<-eh];clear cg eh;refine ml Tryz.func51 ?_;simp only[Tryz.ntmps51,Nat.reduceAdd,Nat.reduceSub,kM];have g_:=eM;gi_wp2;obtain ⟨W2,bm⟩:=am ((w.alloc (.cells #[.int .u8 qo,.string ⟨n.toArray⟩,.slice qa k0 qc,.slice qb m0 qe] 36)).alloc (.cells #[.int .u8 0,.string ⟨#[]⟩,.slice none 0 0,.slice none 0 0] 36));have fF:=lF bm;have x0:=sQ bm;have x1:=jA bm;rw[<-bm];clear bm;obtain ⟨S,hS⟩:∃S:World->Prop,S=fun V=>Below W2.heap.size W2 V:=⟨_,rfl⟩;have f0:∀ V,S V->V.cell? ⟨w.heap.size,0,none⟩=some (.int .u8 qo)/\V.cell? ⟨w.heap.size,1,none⟩=some (.string ⟨n.toArray⟩)/\V.cell? ⟨w.heap.size,2,none⟩=some (.slice qa k0 qc)/\V.cell? ⟨w.heap.size,3,none⟩=some (.slice qb m0 qe):=fun V h=>by rw[hS]at h;exact ⟨aa h (ai x0 0),aa h (ai x0 1),aa h (ai x0 2),aa h (ai x0 3)⟩
  have dO:S W2.drew:=by rw[hS];exact (ak _ _).drew
  obtain ⟨dh,cO,jo⟩:=cG hS fF x1;clear hS fF x0 x1;refine lg S 11 dO fun jp bN=>?_;refine bC 0 3 (.pointer (some ⟨w.heap.size,0,none⟩)) rfl bN fun cq=>?_;simp only[ag];refine c9 1 4 (.int .u8 qo) rfl (fun V hX=>by obtain ⟨g0,g1,g2,g3⟩:=f0 V hX;go_simp) cq fun fI=>?_;simp only[ag];refine bC 2 5 (.pointer (some ⟨w.heap.size,1,none⟩)) rfl fI fun gF=>?_;simp only[ag];refine c9 3 6 (.string ⟨n.toArray⟩) rfl (fun V hX=>by obtain ⟨g0,g1,g2,g3⟩:=f0 V hX;go_simp) gF fun iG=>?_;simp only[ag];refine bC 4 7 (.pointer (some ⟨w.heap.size,2,none⟩)) rfl iG fun jx=>?_;simp only[ag];refine c9 5 8 (.slice qa k0 qc) rfl (fun V hX=>by obtain ⟨g0,g1,g2,g3⟩:=f0 V hX;go_simp) jx fun jM=>?_;simp only[ag];refine bC 7 10 (.pointer (some ⟨w.heap.size,3,none⟩)) rfl jM fun mi=>?_;simp only[ag];refine c9 8 11 (.slice qb m0 qe) rfl (fun V hX=>by obtain ⟨g0,g1,g2,g3⟩:=f0 V hX;go_simp) mi fun rA=>?_;simp only[ag];refine bZ 6 rfl fun K hK=>?_;go_simp;refine aK.2 ((X8.o W2.drew (cO.o.drew)).mono ?_);rintro _ A ⟨ra,rc,rfl,hp,hA⟩;have cv:Below W2.heap.size W2 A:=((ak W2.heap.size W2).drew).trans hA;refine hK _ _ (fun _=>by rw[dh.o];exact cv) (fun _=>?_);clear hK K hA;refine bZ 9 rfl fun K hK=>?_;go_simp;refine aK.2 ((rC.o A (cO.o.trans (cv.mono cO.o.size))).mono ?_);rintro _ A' ⟨rb,re,rfl,hq,hA'⟩;have Rh:Below W2.heap.size W2 A':=cv.trans (hA'.mono cv.size);have To:=(hp.later hA').move (ok':=(W2.heap.size<=·)) (fun b hok _=>⟨hok,rfl⟩);have mM:=hq.move (ok':=(W2.heap.size<=·)) (fun b hok _=>⟨aN cv.size hok,rfl⟩);have HP:=bG To mM Rh;refine hK _ _ (fun _=>by rw[dh.o];exact Rh) (fun _=>?_);clear hK K hA' cv hp hq To mM Rh;refine bZ 10 rfl fun K hK=>?_;go_simp;refine hK _ _ (fun _=>by rw[dh.o];exact HP.o.2.2) (fun _=>?_);clear hK K;refine bZ 11 rfl fun K hK=>?_;have y1:=bR HP.o.2.2 jo.o;obtain ⟨e0,e1,e2,e3⟩:=mm y1;have z0:=af y1 0;have z1:=af y1 1;have z2:=af y1 2;have z3:=af y1 3;have UQ:=ae y1;clear y1;go_simp;refine eN hK ?_;clear hK K;refine kz ?_;gi_wp2;have x6:=kP (v0:=.int .u8 qo) (v1:=.string ⟨n.toArray⟩) (v2:=.slice ra k0 rc) (v3:=.slice rb m0 re) UQ.o;have k6:=dA (W:=A') (b:=w.heap.size+1) (v0:=.int .u8 qo) (v1:=.string ⟨n.toArray⟩) (v2:=.slice ra k0 rc) (v3:=.slice rb m0 re);obtain ⟨W6,da⟩:=am ((((A'.setCell ⟨w.heap.size+1,0,none⟩ (.int .u8 qo)).setCell ⟨w.heap.size+1,1,none⟩ (.string ⟨n.toArray⟩)).setCell ⟨w.heap.size+1,2,none⟩ (.slice ra k0 rc)).setCell ⟨w.heap.size+1,3,none⟩ (.slice rb m0 re));rw[<-da]at x6 k6 ⊢;clear da;have g0:W6.cell? ⟨w.heap.size+1,0,none⟩=some (.int .u8 qo):=ai x6 0;have g1:W6.cell? ⟨w.heap.size+1,1,none⟩=some (.string ⟨n.toArray⟩):=ai x6 1;have g2:W6.cell? ⟨w.heap.size+1,2,none⟩=some (.slice ra k0 rc):=ai x6 2;have g3:W6.cell? ⟨w.heap.size+1,3,none⟩=some (.slice rb m0 re):=ai x6 3;have hz:=(bz jo.o);obtain ⟨hp,hs,cv⟩:=HP.o;have ze:TermsV (w.heap.size<=·) W6 (.slice ra k0 rc) a:=hp.move (fun b hok hlt=>⟨aN cO.o.size hok,k6.same b hlt (by have:W2.heap.size<=b:=hok;omega)⟩);have kK:FormsV (w.heap.size<=·) W6 (.slice rb m0 re) s:=hs.move (fun b hok hlt=>⟨aN cO.o.size hok,k6.same b hlt (by have:W2.heap.size<=b:=hok;omega)⟩);refine bJ (v:=FQ.val ⟨qo,⟨n.toArray⟩,ra,k0,rc,rb,m0,re⟩) (by simp[FQ.val,results,Tryz.results51,go_sem,g0,g1,g2,g3]) rfl ⟨⟨qo,⟨n.toArray⟩,ra,k0,rc,rb,m0,re⟩,rfl,aW.2 ⟨_,_,rfl,ze,kK⟩,Below.kp1 (cO.o.trans (cv.mono cO.o.size)) k6 (by omega)⟩
 |clear pp21d;have cm:=az.args.len;have em:=az.subs.len;have lK:=az.name;obtain ⟨d9,fT,Fx,yk⟩:=eW bK ej az.args az.subs;obtain ⟨k0,cg⟩:=am a.length;obtain ⟨m0,eh⟩:=am s.length;rw[<-cg]at cm;rw[<-eh]at em;obtain ⟨dB,gV⟩:=a_ cg eh;clear hq bK ej az ih DZ sO IH rU hfz hnz hz hT xJ Tp ZD pi;unfold FQ.val;rw[<-cg,<-eh];clear cg eh;obtain ⟨RS,DW⟩:=am (eQ (kk+1) nx z (.mk qo n a s));rw[<-DW];have Tq:=ae DW;clear DW;refine ml Tryz.func101 ?_;simp only[Tryz.ntmps101,Nat.reduceAdd,Nat.reduceSub,kM];have g_:=eM;gi_wp2;obtain ⟨W1,bX⟩:=am ((((w.alloc (.cells #[.int .u8 qo,.string ⟨n.toArray⟩,.slice qa k0 qc,.slice qb m0 qe] 36)).alloc (.cells #[.bool zv,.string zn,.slice za zl zc] 43)).alloc (.cells #[.int .u8 0,.string ⟨#[]⟩,.slice none 0 0,.slice none 0 0] 36)).alloc (.cells #[.int .u8 qo,.string ⟨n.toArray⟩,.slice none 0 0,.slice none 0 0] 36));have il:=QT bX;have x0:=Nf bX;have xu:=SU bX;have x1:=SV bX;have x2:=Ng bX;rw[<-bX];clear bX;obtain ⟨d_,Ln,HXU,jo⟩:=eW il x0 xu x1;have uT:=ae (Fills.start (R:=w.heap.size+1+1+1) (mk:=fun rr=>#[.int .u8 qo,.string ⟨n.toArray⟩,rr,.slice none 0 0]) (Row:=fun r W=>RowT W1.heap.size r ((a.map (kB nx z)).take 0) W) x2 (RowT.nil _ _));clear il x0 x1 x2 xu;gi_loopw [23] (fun i DX=>∃k1:Nat,k1<=k0/\i=.int .i64 k1/\∃row,Fills 36 (w.heap.size+1+1+1) W1.heap.size (fun rr=>#[.int .u8 qo,.string ⟨n.toArray⟩,rr,.slice none 0 0]) (fun r W=>RowT W1.heap.size r ((a.map (kB nx z)).take k1) W) W1 DX row) (fun i _=>k0 - (intOf i).toNat)
  case atStart=>exact ⟨0,bc _,rfl,_,uT.o⟩
  case round=>
   obtain ⟨k1,hk,rfl,row,hF⟩:=hrel;obtain ⟨DX,NW⟩:∃x,x=wr:=⟨_,rfl⟩;subst NW;have ar:=hF.below d_.o ((by omega))
   by_cases hlt:k1<k0
   ·have dy:=cF dB.o hlt;have pp54f:=();exact pm54
   ·obtain rfl:k1=k0:=by omega
    have ct:((a.map (kB nx z)).take k1).length=k1:=by rw[dM];have:=dB.o;simp;omega
    have jG:(a.map (kB nx z)).take k1=(a.map (kB nx z)):=f8 (by have:=dB.o;simp;omega);have pp111b:=();exact pm111
 |clear pp21e;have em:=az.subs.len;have lM:=az.1;have oP:=ov x (.mk qo n a s);have xx:gY x (.mk qo n a s)=fE x a+jB x s:=rfl;have CT:=ae (fun (W:World) (hb:Below w.heap.size w W)=>rf x a ok W qa _ qc az.args (bK.later hb));have fS:=ae (fun t ht=>ih t ht (az.subs.mem ht));have fT:=ae ej;rw[xx]at oP ⊢;obtain ⟨k0,cg⟩:=am a.length;obtain ⟨m0,eh⟩:=am s.length;obtain ⟨A,hA⟩:=am (fE x a);have gV:=ae eh;unfold FQ.val;rw[<-cg,<-hA]at CT;rw[<-cg,<-eh,<-hA];rw[<-hA]at oP;rw[<-eh]at em;clear hq bK ej az ih cg eh hA xx;have HB:=ae (show Below w.heap.size w (w.alloc (.cells #[.int .u8 qo,.string ⟨n.toArray⟩,.slice qa k0 qc,.slice qb m0 qe] 36)) from cJ);have HX:=ae (show (w.alloc (.cells #[.int .u8 qo,.string ⟨n.toArray⟩,.slice qa k0 qc,.slice qb m0 qe] 36)).heap[w.heap.size]?=some (.cells #[.int .u8 qo,.string ⟨n.toArray⟩,.slice qa k0 qc,.slice qb m0 qe] 36 (0,0)) from aj rfl);go_enter Tryz.func97,Tryz.ntmps97;go_wp2_with (go_at_call 164;refine (CT.o _ HB.o).mono ?_;rintro e w1 ⟨rfl,hb1⟩;have p3:w1.cell? ⟨w.heap.size,3,none⟩=some (.slice qb m0 qe):=ai (bR hb1 HX.o) 3;have d_:=ae (HB.o.trans (hb1.mono HB.o.size));clear hb1);go_loopw [5,15] (fun r i wr=>∃k:Nat,k<=m0/\i=.int .i64 k/\Below w.heap.size w wr/\r=.int .i64 ((A+jB x (s.take k):Nat):Int)) (fun _ i _=>m0 - (intOf i).toNat)
  case atStart=>exact ⟨0,bc _,rfl,d_.o,by simp[jB]⟩
  case round=>
   obtain ⟨k,hk,rfl,ar,rfl⟩:=hrel
   by_cases hlt:k<m0
   ·have bp:=cF gV.o hlt;obtain ⟨b,off,u,rfl,_,hu,c0,c1,c2,c3⟩:=fT.o.get bp;have iL:=xD x bp;have hb1:=tN x (s.take (k+1));have bD:=cD s (k+1);have qY:nodesFs s<=nodesF (.mk qo n a s):=by unfold nodesF;omega
    have pp176:=();exact pm176
   ·obtain rfl:k=m0:=by omega
    have h1:s.take k=s:=by rw[gV.o];exact cV
    rw[h1];have cO:=ae ar;clear h1 ar;go_wp2;go_ret;exact ⟨rfl,cO.o⟩
 |clear pp21f;have cm:=az.args.len;have em:=az.subs.len;have lK:=az.name;have rR:n.length<=1000000000:=by omega
  have o7:=ae hok;have fS:=ae (fun t ht=>ih t ht (az.subs.mem ht));have TG:=ae az.args;have QN:=ae (fun t ht=>Nr t (az.args.mem ht));have rS:1<=nodesF (.mk on n a s):=yd _;have pi:1<=depthF (.mk on n a s):=by unfold depthF;omega
  have lM:nodesF (.mk on n a s)=nodesTs a+nodesFs s+1:=rfl;have D1:ba+(nodesTs a:Int)+(nodesFs s:Int)+1<=100000000:=by omega
  obtain ⟨k0,cg⟩:=am a.length;obtain ⟨m0,eh⟩:=am s.length;have hM:=Q4 sc on n a s left br ba;rw[<-cg,<-eh]at hM;obtain ⟨BX,AF⟩:=am (okF sc (.mk on n a s) && (decide ((nodesF (.mk on n a s):Int)<=left) && decide (ba+depthF (.mk on n a s)<=br+1)));rw[<-AF]at hM ⊢;have HB:=ae (show Below w.heap.size w (w.alloc (.cells #[.int .u8 on,.string ⟨n.toArray⟩,.slice qa k0 qc,.slice qb m0 qe] 36)) from cJ);have Ie:JAt J sc left br (w.alloc (.cells #[.int .u8 on,.string ⟨n.toArray⟩,.slice qa k0 qc,.slice qb m0 qe] 36)):=hJ.later HB.o;have zbH:J<w.heap.size:=(bz hJ);obtain ⟨d9,fT,HJ,HT⟩:=eW bK ej hJ ht;rw[<-cg]at cm;rw[<-eh]at em;clear hq bK ej az ih hok hJ ht;unfold FQ.val;rw[<-cg,<-eh];obtain ⟨dB,gV,HN⟩:=cG cg eh lM;clear cg eh lM
  by_cases Lp:1<=left/\ba<=br
  ·obtain ⟨Ns,S6⟩:=Lp;have C1:=ae (Fy J sc left br ba _ Ie Ns h1 S6);have io:Kp (fun c=>c=J) w ((w.alloc (.cells #[.int .u8 on,.string ⟨n.toArray⟩,.slice qa k0 qc,.slice qb m0 qe] 36)).setCell ⟨J,1,none⟩ (.int .i64 (left - 1))):=(Kp.below HB.o).trans (nP _);have wd:=Ie.set (left - 1);have hx:FBox w.heap.size on n (.slice qa k0 qc) (.slice qb m0 qe) ((w.alloc (.cells #[.int .u8 on,.string ⟨n.toArray⟩,.slice qa k0 qc,.slice qb m0 qe] 36)).setCell ⟨J,1,none⟩ (.int .i64 (left - 1))):=(ei _ _ _ _ (by show w.heap.size≠J;omega)).trans (aj rfl);have nR:=bG io wd hx;obtain ⟨W2,bm⟩:=am ((w.alloc (.cells #[.int .u8 on,.string ⟨n.toArray⟩,.slice qa k0 qc,.slice qb m0 qe] 36)).setCell ⟨J,1,none⟩ (.int .i64 (left - 1)));rw[<-bm]at nR C1;clear io wd hx Ie bm;have g0:=nR.o.2.2.c0;have g1:=nR.o.2.2.c1;have g2:=nR.o.2.2.c2;have g3:=nR.o.2.2.c3;have Jw:Tabs W0 W2:=HT.o.kp nR.o.1 (fun b hb=>by subst hb;exact RX)
   by_cases ho:on<17
   ·have Nj:((on:Int)<17):=by omega
    have zap:¬((17:Int)<=(on:Int)):=by omega
    obtain ⟨q0,q1,q2,q3,q4⟩:=Jw.t0.rows on ho;obtain ⟨QD,hr3,hr4⟩:=Ig on;obtain ⟨⟨r0,r1,r2,r3,r4⟩,ek⟩:∃x,x=rowOp on:=⟨_,rfl⟩;rw[<-ek]at hM q0 q1 q2 q3 q4 QD hr3 hr4;simp only at hM q0 q1 q2 q3 q4 QD hr3 hr4;clear ek Jw;have hX3:FBox w.heap.size on n (.slice qa k0 qc) (.slice qb m0 qe) (W2.alloc (.cells #[.bool r0,.bool r1,.int .u8 r2,.int .i64 r3,.int .i64 r4] 173)):=nR.o.2.2.later cJ;have hR3:RBox W2.heap.size r0 r1 r2 r3 r4 (W2.alloc (.cells #[.bool r0,.bool r1,.int .u8 r2,.int .i64 r3,.int .i64 r4] 173)):=aj rfl;have hK3:Kp (fun c=>c=J) w (W2.alloc (.cells #[.bool r0,.bool r1,.int .u8 r2,.int .i64 r3,.int .i64 r4] 173)):=nR.o.1.trans (Kp.below cJ);have hJ3:JAt J sc (left - 1) br (W2.alloc (.cells #[.bool r0,.bool r1,.int .u8 r2,.int .i64 r3,.int .i64 r4] 173)):=nR.o.2.1.later cJ;obtain ⟨gu,pZ,mo,uG⟩:=eW hX3 hR3 hK3 hJ3;clear hX3 hR3 hK3 hJ3;have y0:=gu.o.c0;have y1:=gu.o.c1;have y2:=gu.o.c2;have y3:=gu.o.c3;have yj:=uG.o.c0;have j0:=nR.o.2.1.c0;have hPn:¬w.heap.size=W2.heap.size:=by have:=(bz nR.o.2.2);omega
    have zen:¬W2.heap.size=w.heap.size:=by omega
    have hJn:¬J=W2.heap.size:=by have:=(bz nR.o.2.1);omega
    have zeo:¬W2.heap.size=J:=by omega
    cases r0 with
    | true=>
     rw[Bool.true_or,dU]at hM
     cases dG:pj r2 n with
     | false=>
      have CN:=ae (fun w=>dG ▸ qB r2 QD n rR w);have HE:Hd (BX=false):=ae (hM.trans (by simp[dG]));exact pm5
     | true=>
      have CN:=ae (fun w=>dG ▸ qB r2 QD n rR w)
      by_cases dy:k0<=r3
      ·have Wp:¬((r3:Int)<(k0:Int)):=by omega
       by_cases RY:m0=r4
       ·have Wq:((m0:Int) == (r4:Int))=true:=by simp;omega
        have pp146:=();exact pm146
       ·have Wq:((m0:Int) == (r4:Int))=false:=by simp;omega
        exact pm285
      ·have Wp:(r3:Int)<(k0:Int):=by omega
       have HE:Hd (BX=false):=ae (hM.trans (by simp[dy]));exact pm5
    | false=>
     rw[Bool.false_or]at hM
     cases sc with
     | false=>
      have HE:Hd (BX=false):=ae (hM.trans (by simp));clear hM rS pi AF;have pp63b:=();exact pm63
     | true=>
      rw[dU]at hM
      cases r1 with
      | false=>
       have HE:Hd (BX=false):=ae (hM.trans (by simp));clear hM rS pi AF;have pp63b:=();exact pm63
      | true=>
       rw[dU]at hM
       cases dG:pj r2 n with
       | false=>
        have CN:=ae (fun w=>dG ▸ qB r2 QD n rR w);have HE:Hd (BX=false):=ae (hM.trans (by simp[dG]));exact pm5
       | true=>
        have CN:=ae (fun w=>dG ▸ qB r2 QD n rR w)
        by_cases dy:k0<=r3
        ·have Wp:¬((r3:Int)<(k0:Int)):=by omega
         by_cases RY:m0=r4
         ·have Wq:((m0:Int) == (r4:Int))=true:=by simp;omega
          exact pm146
         ·have Wq:((m0:Int) == (r4:Int))=false:=by simp;omega
          exact pm285
        ·have Wp:(r3:Int)<(k0:Int):=by omega
         have HE:Hd (BX=false):=ae (hM.trans (by simp[dy]));exact pm5
   ·have Nj:¬((on:Int)<17):=by omega
    have zap:((17:Int)<=(on:Int)):=by omega
    rw[Ls zap]at hM;have HE:Hd (BX=false):=ae (hM.trans (by simp));clear hM rS pi AF Jw;have pp63c:=();exact pm63
  ·have C1:=ae (Kh J sc left br ba _ Ie h0 h1 Lp);have HE:=ae (show BX=false by
    rw[AF,Bool.and_eq_false_iff];right;rw[Bool.and_eq_false_iff]
    by_cases hl:1<=left
    ·right;have UI:¬ba<=br:=fun h=>Lp ⟨hl,h⟩;simp only[decide_eq_false_iff_not];omega
    ·left;simp only[decide_eq_false_iff_not];omega)
   clear Ie rS pi Lp hM AF;have pp63d:=();exact pm63
 |have em:=az.subs.len;have lK:=az.name;have za4:=az.sz;have Qg:QR (.mk qo n a s)=1+n.length / 40+uf a+ug s:=rfl;obtain ⟨R,hR⟩:=am (iZ a left 0);have hRb:=(mc a left 0).2.1;have CT:=fun (W:World) (hb:Below w.heap.size w W)=>Qe a ok W qa _ qc left az.args (bK.later hb) h0 h1;have fS:=ae (fun t ht=>ih t ht (az.subs.mem ht));have fT:=ae ej;obtain ⟨k0,cg⟩:=am a.length;obtain ⟨m0,eh⟩:=am s.length;obtain ⟨q,mM⟩:=am (n.length / 40);have gV:=ae eh;have XB:=gQ n;have htd:=Qd n.length;have hcF:Al (.mk qo n a s) left=eE s left (1+q+R):=by unfold Al;rw[mM,hR]
  unfold FQ.val;rw[<-cg,<-hR]at CT;rw[<-hR]at hRb;rw[<-cg,<-eh];rw[<-mM]at htd Qg;rw[Qg]at za4;rw[<-eh]at em;have xh:IntKind.i64.wrap ((q:Nat):Int)=q:=fQ _ (by omega);have MT:IntKind.i64.wrap (1+((q:Nat):Int))=1+(q:Int):=fQ _ (by omega);have TN:IntKind.i64.wrap (1+(q:Int)+(R:Int))=((1+q+R:Nat):Int):=by rw[fQ _ (by omega)];omega
  have hNb:1+q+R<=100002000000:=by omega
  obtain ⟨Fc,HC⟩:=a_ hcF CT;clear hq bK ej az ih cg eh hR hRb mM hcF Qg CT;have HX:=ae (show (w.alloc (.cells #[.int .u8 qo,.string ⟨n.toArray⟩,.slice qa k0 qc,.slice qb m0 qe] 36)).heap[w.heap.size]?=some (.cells #[.int .u8 qo,.string ⟨n.toArray⟩,.slice qa k0 qc,.slice qb m0 qe] 36 (0,0)) from aj rfl);obtain ⟨W1,bX⟩:=am (w.alloc (.cells #[.int .u8 qo,.string ⟨n.toArray⟩,.slice qa k0 qc,.slice qb m0 qe] 36));have HB:=ae (show Below w.heap.size w W1 by rw[bX];exact cJ);rw[<-bX]at HX;have f0:∀ x:Later W1,x.w.cell? ⟨w.heap.size,1,none⟩=some (.string ⟨n.toArray⟩):=fun x=>x.get (ai HX.o 1);have f1:∀ x:Later W1,x.w.cell? ⟨w.heap.size,2,none⟩=some (.slice qa k0 qc):=fun x=>x.get (ai HX.o 2);have iR:=ae bX;go_enter Tryz.func23,Tryz.ntmps23;clear bX;go_wp2;rw[<-iR.o];refine aS (by kernel_rfl) (by kernel_rfl) ?_
  repeat (go_big_quiet_step ((go_at_call 54;exact cA (HC.o _ (HB.o.trans (Later.below _ |>.mono HB.o.size))))))
  refine wpQuiet_nil ?_;rintro _ ⟨x',rfl⟩;have e3:x'.w.cell? ⟨w.heap.size,3,none⟩=some (.slice qb m0 qe):=x'.get (ai HX.o 3);have d_:=ae (HB.o.trans (x'.below.mono HB.o.size));have jo:=ae (bR x'.below HX.o);obtain ⟨W3,ec⟩:=am x'.w;rw[<-ec]at e3 d_ jo ⊢;clear f0 f1 xh MT TN htd XB ec HX;go_wp2;go_loopw [5,6] (fun r i wr=>∃k m:Nat,k<=m0/\i=.int .i64 k/\r=.int .i64 m/\Below W3.heap.size W3 wr/\eE s left (1+q+R)=eE (s.drop k) left m/\m<=300000000000) (fun _ i _=>m0 - (intOf i).toNat)
  case atStart=>exact ⟨0,1+q+R,bc _,rfl,by go_num,ak _ _,by simp,by omega⟩
  case round=>
   obtain ⟨k,m,hk,rfl,rfl,ar,hcut,AB⟩:=hrel;have e3':=aa ar e3;have dt:=ae (d_.o.trans (ar.mono d_.o.size))
   by_cases hlt:k<m0
   ·by_cases uF:(m:Int)<=left
    ·have bp:=cF gV.o hlt;obtain ⟨b,off,u,rfl,_,hu,c0,c1,c2,c3⟩:=fT.o.get bp;have Uj:s.drop k=s[k] :: s.drop (k+1):=fO bp;rw[Uj]at hcut;obtain ⟨d0,d1,d2,d3⟩:=mG dt.o c0 c1 c2 c3;obtain ⟨M,hM⟩:=am (Al s[k] (left - m));have CC:=fS.o s[k] (aA bp) ok wr u (left - m) (hu.later dt.o) (by omega) (by omega);rw[<-hM]at CC;have rh:eE s left (1+q+R)=eE (s.drop (k+1)) left (m+M):=by
      rw[hcut];simp only[eE,aH uF];rw[hM]
     have Jf:m+M<=300000000000:=by
      have h5:=(ks s left (1+q+R)).2.1;have h6:=(ks (s.drop (k+1)) left (m+M)).1;omega
     exact pm95
    ·have Gx:decide ((m:Int)<=left)=false:=by simp;omega
     have E7:decide ((k:Int)<(m0:Int))=true:=by simp;omega
     have HE:=ae (hcut.trans (wR _ uF));clear hcut ar;go_wp2;go_ret;exact ⟨qA (by rw[Fc.o,HE.o]),dt.o⟩
   ·obtain rfl:k=m0:=by omega
    have hd:s.drop k=[]:=by rw[gV.o];exact List.drop_length
    rw[hd]at hcut;have HE:=ae (show eE s left (1+q+R)=m from hcut);clear hcut ar hd;go_wp2;go_ret;exact ⟨qA (by rw[Fc.o,HE.o]),dt.o⟩):G:=h
theorem pm22(h:G:=by
 have pp271:=();exact pm271):G:=h
theorem pm23(h:G:=by
 go_wp2;go_loopw [5] (fun i wr=>∃k:Nat,1<=k/\k<=s.size/\i=.int .i64 k/\kY kO (s.data.toList.take k).tail=true/\∃n,wr=w.drewN n) (fun i _=>s.size - (intOf i).toNat)
 case atStart=>exact ⟨1,aI _,h1,rfl,by rw[List.take_one];cases s.data.toList <;> simp[kY],⟨_,rfl⟩⟩
 case round=>
  obtain ⟨k,kC,hk,rfl,ha,hw⟩:=hrel;have Hh:wr.cell? ⟨b2,0,none⟩=some (.func (.func 189) #[] #[]):=by obtain ⟨n,rfl⟩:=hw;exact B8
  obtain ⟨HA,HW⟩:=a_ ha hw;clear ha d1 d2 hw UO B8
  by_cases hlt:k<s.size
  ·cases hp:kO s[k].toNat
   ·have HP:=ae hp;have pp238:=();exact pm238
   ·have HP:=ae hp;exact pm238
  ·obtain rfl:k=s.size:=by omega
   exact pm255):G:=h
theorem pm24(h:G:=by
 go_simp;refine hK _ _ (fun _=>by rw[dh.o];exact cv.trans (((ak _ A).alloc (aI _) _).mono cv.size)) (fun _=>?_);clear hK K;obtain ⟨qs,et,au,gp⟩:=eR.o.row;rw[ee.o]at et au;have nN:=cv.size;have rQ:=eR.o.size
 first
 |clear pp24a;refine bZ 7 rfl fun K hK=>?_
  refine bw (.tmp 52) (.tmp 57) 33 rfl W1.heap.size 43 o6 (.agg #[.bool false,.string ByteArray.empty,.slice none 0 0]) 3 48 Tryz.underlying33 hi xH uU yi rfl (by decide) (.slice ra k rc) k _ rfl ((aZ au (fun b _ hlt=>cv.block b hlt)).alloc _) ⟨_,0,none⟩ 1 1 p.cells rfl rfl (c_ (cs:=#[.bool p.v,.string p.n,.slice p.a p.l p.c]) (t:=43) (fr:=(0,0)) (fP A _)) (by simp[TQ.cells,Value.oneCell']) (by decide) (by unfold maxLen;omega) (by omega) (by simp;omega) (A.heap.size+1) (by simp) ?_;intro g ev w4 aR ao hg eq;have h4:=eR.o.at4 (kk:=2) au cv ao;have cH:=eR.o.stepT (F:=2) (t:=(cQ kd.ts sc a[k])) (g:=g) (cap:=ev) (by rw[ee.o];exact au) (by rw[ee.o];exact et) gp cv (hp:TermV (W2.heap.size<=·) A p.val (cQ kd.ts sc a[k])) (by rw[ee.o];exact aR) ao hg rfl;rw[ee.o,cU (cQ kd.ts sc) a dy]at cH;have nO:=ae cH;have d3:=h4.2.2;have z3:=h4.2.1;clear aR ao hg eq cH h4 au et gp hp hA;refine eN hK ?_;clear hK K;refine bZ 8 rfl fun K hK=>?_;go_simp;refine eN hK ?_;clear hK K;refine bZ 9 rfl fun K hK=>?_;go_simp;refine eN hK ?_;clear hK K;refine kz ?_;gi_wp2;go_roundw
  case rel=>exact ⟨k+1,by omega,by go_num,_,nO.o⟩
  case measure=>simp[intOf];omega
 |clear pp24b;refine bZ 7 rfl fun K hK=>?_
  refine bw (.tmp 71) (.tmp 76) 33 rfl W1.heap.size 43 o6 (.agg #[.bool false,.string ByteArray.empty,.slice none 0 0]) 3 48 Tryz.underlying33 hi xH uU yi rfl (by decide) (.slice ra k1 rc) k1 _ rfl ((aZ au (fun b _ hlt=>cv.block b hlt)).alloc _) ⟨_,0,none⟩ 1 1 p.cells rfl rfl (c_ (cs:=#[.bool p.v,.string p.n,.slice p.a p.l p.c]) (t:=43) (fr:=(0,0)) (fP A _)) (by simp[TQ.cells,Value.oneCell']) (by decide) (by unfold maxLen;omega) (by omega) (by simp;omega) (A.heap.size+1) (by simp) ?_;intro g ev w4 aR ao hg eq;have h4:=eR.o.at4 (kk:=2) au cv ao;have cH:=eR.o.stepT (F:=2) (t:=(cQ kd.ts c a[k1])) (g:=g) (cap:=ev) (by rw[ee.o];exact au) (by rw[ee.o];exact et) gp cv (hp:TermV (W2.heap.size<=·) A p.val (cQ kd.ts c a[k1])) (by rw[ee.o];exact aR) ao hg rfl;rw[ee.o,cU (cQ kd.ts c) a dy]at cH;have nO:=ae cH;have d3:=h4.2.2;have z3:=h4.2.1;clear aR ao hg eq cH h4 au et gp hp hA;refine eN hK ?_;clear hK K;refine bZ 8 rfl fun K hK=>?_;go_simp;refine eN hK ?_;clear hK K;refine bZ 9 rfl fun K hK=>?_;go_simp;refine eN hK ?_;clear hK K;refine kz ?_;gi_wp2;go_roundw
  case rel=>exact ⟨k1+1,by omega,by go_num,_,nO.o⟩
  case measure=>simp[intOf];omega
 |clear pp24c;refine bZ 7 rfl fun K hK=>?_
  refine bw (.tmp 126) (.tmp 131) 34 rfl iQ.heap.size 36 Kg (.agg #[.int .u8 0,.string ByteArray.empty,.slice none 0 0,.slice none 0 0]) 4 72 Tryz.underlying34 hj lx AP S4 rfl (by decide) (.slice ra k rc) k _ rfl ((aZ au (fun b _ hlt=>cv.block b hlt)).alloc _) ⟨_,0,none⟩ 1 1 p.cells rfl rfl (c_ (cs:=#[.int .u8 p.o,.string p.n,.slice p.a p.l p.c,.slice p.b p.m p.e]) (t:=36) (fr:=(0,0)) (fP A _)) (by simp[FQ.cells,Value.oneCell']) (by decide) (by unfold maxLen;omega) (by omega) (by simp;omega) (A.heap.size+1) (by simp) ?_;intro g ev w4 aR ao hg eq;have h4:=eR.o.at4 (kk:=3) au cv ao;have cH:=eR.o.stepF (F:=3) (t:=(cM kd c ss[k])) (g:=g) (cap:=ev) (by rw[ee.o];exact au) (by rw[ee.o];exact et) gp cv (hp:FormV (W2.heap.size<=·) A p.val (cM kd c ss[k])) (by rw[ee.o];exact aR) ao hg rfl;rw[ee.o,cU (cM kd c) ss dy]at cH;have nO:=ae cH;have d3:=h4.2.2;have z3:=h4.2.1;clear aR ao hg eq cH h4 au et gp hp hA;refine eN hK ?_;clear hK K;refine bZ 8 rfl fun K hK=>?_;go_simp;refine eN hK ?_;clear hK K;refine bZ 9 rfl fun K hK=>?_;go_simp;refine eN hK ?_;clear hK K;refine kz ?_;gi_wp2;go_roundw
  case rel=>exact ⟨k+1,by omega,by go_num,_,nO.o⟩
  case measure=>simp[intOf];omega
 |clear pp24d;refine bZ 6 rfl fun K hK=>?_
  refine bw (.tmp 35) (.tmp 39) 33 rfl W1.heap.size 43 o6 (.agg #[.bool false,.string ByteArray.empty,.slice none 0 0]) 3 48 Tryz.underlying33 hi xH uU yi rfl (by decide) (.slice ra k rc) k _ rfl ((aZ au (fun b _ hlt=>cv.block b hlt)).alloc _) ⟨_,0,none⟩ 1 1 p.cells rfl rfl (c_ (cs:=#[.bool p.v,.string p.n,.slice p.a p.l p.c]) (t:=43) (fr:=(0,0)) (fP A _)) (by simp[TQ.cells,Value.oneCell']) (by decide) (by unfold maxLen;omega) (by omega) (by simp;omega) (A.heap.size+1) (by simp) ?_;intro g ev w4 aR ao hg eq;have h4:=eR.o.at4 (kk:=2) au cv ao;have cH:=eR.o.stepT (F:=2) (t:=(fR f a[k])) (g:=g) (cap:=ev) (by rw[ee.o];exact au) (by rw[ee.o];exact et) gp cv (hp:TermV (W2.heap.size<=·) A p.val (fR f a[k])) (by rw[ee.o];exact aR) ao hg rfl;rw[ee.o,cU (fR f) a dy]at cH;have nO:=ae cH;have d3:=h4.2.2;have z3:=h4.2.1;clear aR ao hg eq cH h4 au et gp hp hA;refine eN hK ?_;clear hK K;refine bZ 7 rfl fun K hK=>?_;go_simp;refine eN hK ?_;clear hK K;refine bZ 8 rfl fun K hK=>?_;go_simp;refine eN hK ?_;clear hK K;refine kz ?_;gi_wp2;go_roundw
  case rel=>exact ⟨k+1,by omega,by go_num,_,nO.o⟩
  case measure=>simp[intOf];omega
 |clear pp24e;refine bZ 5 rfl fun K hK=>?_
  refine bw (.tmp 21) (.tmp 24) 33 rfl W1.heap.size 43 o6 (.agg #[.bool false,.string ByteArray.empty,.slice none 0 0]) 3 48 Tryz.underlying33 hi xH uU yi rfl (by decide) (.slice fJ k1 fK) k1 _ rfl ((aZ au (fun b _ hlt=>cv.block b hlt)).alloc _) ⟨_,0,none⟩ 1 1 p.cells rfl rfl (c_ (cs:=#[.bool p.v,.string p.n,.slice p.a p.l p.c]) (t:=43) (fr:=(0,0)) (fP A _)) (by simp[TQ.cells,Value.oneCell']) (by decide) (by unfold maxLen;omega) (by omega) (by simp;omega) (A.heap.size+1) (by simp) ?_;intro g ev w4 aR ao hg eq;have h4:=eR.o.at4 (kk:=2) au cv ao;have cH:=eR.o.stepT (F:=2) (t:=(aM a[k1])) (g:=g) (cap:=ev) (by rw[ee.o];exact au) (by rw[ee.o];exact et) gp cv (hp:TermV (W2.heap.size<=·) A p.val (aM a[k1])) (by rw[ee.o];exact aR) ao hg rfl;rw[ee.o,cU aM a dy]at cH;have nO:=ae cH;have d3:=h4.2.2;have z3:=h4.2.1;clear aR ao hg eq cH h4 au et gp hp hA;refine eN hK ?_;clear hK K;refine bZ 6 rfl fun K hK=>?_;go_simp;refine eN hK ?_;clear hK K;refine bZ 7 rfl fun K hK=>?_;go_simp;refine eN hK ?_;clear hK K;refine kz ?_;gi_wp2;go_roundw
  case rel=>exact ⟨k1+1,by omega,by go_num,_,nO.o⟩
  case measure=>simp[intOf];omega
 |clear pp24f;refine bZ 5 rfl fun K hK=>?_
  refine bw (.tmp 36) (.tmp 39) 34 rfl iQ.heap.size 36 Kg (.agg #[.int .u8 0,.string ByteArray.empty,.slice none 0 0,.slice none 0 0]) 4 72 Tryz.underlying34 hj lx AP S4 rfl (by decide) (.slice ra k rc) k _ rfl ((aZ au (fun b _ hlt=>cv.block b hlt)).alloc _) ⟨_,0,none⟩ 1 1 p.cells rfl rfl (c_ (cs:=#[.int .u8 p.o,.string p.n,.slice p.a p.l p.c,.slice p.b p.m p.e]) (t:=36) (fr:=(0,0)) (fP A _)) (by simp[FQ.cells,Value.oneCell']) (by decide) (by unfold maxLen;omega) (by omega) (by simp;omega) (A.heap.size+1) (by simp) ?_;intro g ev w4 aR ao hg eq;have h4:=eR.o.at4 (kk:=3) au cv ao;have cH:=eR.o.stepF (F:=3) (t:=(bB s[k])) (g:=g) (cap:=ev) (by rw[ee.o];exact au) (by rw[ee.o];exact et) gp cv (hp:FormV (W2.heap.size<=·) A p.val (bB s[k])) (by rw[ee.o];exact aR) ao hg rfl;rw[ee.o,cU bB s dy]at cH;have nO:=ae cH;have d3:=h4.2.2;have z3:=h4.2.1;clear aR ao hg eq cH h4 au et gp hp hA;refine eN hK ?_;clear hK K;refine bZ 6 rfl fun K hK=>?_;go_simp;refine eN hK ?_;clear hK K;refine bZ 7 rfl fun K hK=>?_;go_simp;refine eN hK ?_;clear hK K;refine kz ?_;gi_wp2;go_roundw
  case rel=>exact ⟨k+1,by omega,by go_num,_,nO.o⟩
  case measure=>simp[intOf];omega
 |clear pp24g;refine bZ 9 rfl fun K hK=>?_
  refine bw (.tmp 28) (.tmp 35) 33 rfl W1.heap.size 43 o6 (.agg #[.bool false,.string ByteArray.empty,.slice none 0 0]) 3 48 Tryz.underlying33 hi xH uU yi rfl (by decide) (.slice fJ k1 fK) k1 _ rfl ((aZ au (fun b _ hlt=>cv.block b hlt)).alloc _) ⟨_,0,none⟩ 1 1 p.cells rfl rfl (c_ (cs:=#[.bool p.v,.string p.n,.slice p.a p.l p.c]) (t:=43) (fr:=(0,0)) (fP A _)) (by simp[TQ.cells,Value.oneCell']) (by decide) (by unfold maxLen;omega) (by omega) (by simp;omega) (A.heap.size+1) (by simp) ?_;intro g ev w4 aR ao hg eq;have h4:=eR.o.at4 (kk:=2) au cv ao;have cH:=eR.o.stepT (F:=2) (t:=(kB nx z a[k1])) (g:=g) (cap:=ev) (by rw[ee.o];exact au) (by rw[ee.o];exact et) gp cv (hp:TermV (W2.heap.size<=·) A p.val (kB nx z a[k1])) (by rw[ee.o];exact aR) ao hg rfl;rw[ee.o,cU (kB nx z) a dy]at cH;have nO:=ae cH;have d3:=h4.2.2;have z3:=h4.2.1;clear aR ao hg eq cH h4 au et gp hp hA;refine eN hK ?_;clear hK K;refine bZ 10 rfl fun K hK=>?_;go_simp;refine eN hK ?_;clear hK K;refine bZ 11 rfl fun K hK=>?_;go_simp;refine eN hK ?_;clear hK K;refine kz ?_;gi_wp2;go_roundw
  case rel=>exact ⟨k1+1,by omega,by go_num,_,nO.o⟩
  case measure=>simp[intOf];omega
 |refine bZ 7 rfl fun K hK=>?_
  refine bw (.tmp 95) (.tmp 100) 34 rfl iQ.heap.size 36 Kg (.agg #[.int .u8 0,.string ByteArray.empty,.slice none 0 0,.slice none 0 0]) 4 72 Tryz.underlying34 hj lx AP S4 rfl (by decide) (.slice ra k rc) k _ rfl ((aZ au (fun b _ hlt=>cv.block b hlt)).alloc _) ⟨_,0,none⟩ 1 1 p.cells rfl rfl (c_ (cs:=#[.int .u8 p.o,.string p.n,.slice p.a p.l p.c,.slice p.b p.m p.e]) (t:=36) (fr:=(0,0)) (fP A _)) (by simp[FQ.cells,Value.oneCell']) (by decide) (by unfold maxLen;omega) (by omega) (by simp;omega) (A.heap.size+1) (by simp) ?_;intro g ev w4 aR ao hg eq;have h4:=eR.o.at4 (kk:=3) au cv ao;have cH:=eR.o.stepF (F:=3) (t:=(eQ kk nx z s[k])) (g:=g) (cap:=ev) (by rw[ee.o];exact au) (by rw[ee.o];exact et) gp cv (hp:FormV (W2.heap.size<=·) A p.val (eQ kk nx z s[k])) (by rw[ee.o];exact aR) ao hg rfl;rw[ee.o,cU (eQ kk nx z) s dy]at cH;have nO:=ae cH;have d3:=h4.2.2;have z3:=h4.2.1;clear aR ao hg eq cH h4 au et gp hp hA;refine eN hK ?_;clear hK K;refine bZ 8 rfl fun K hK=>?_;go_simp;refine eN hK ?_;clear hK K;refine bZ 9 rfl fun K hK=>?_;go_simp;refine eN hK ?_;clear hK K;refine kz ?_;gi_wp2;go_roundw
  case rel=>exact ⟨k+1,by omega,by go_num,_,nO.o⟩
  case measure=>simp[intOf];omega):G:=h
theorem pm25(h:G:=by
 have eG:=ae (bQ.o.trans (x'.below.mono bQ.o.size));cases e
 ·have HE:=ae (show R=false by rw[HT.o];simp);go_wp2;go_ret;exact ⟨aO HE.o.symm,dt.o.trans (eG.o.mono dt.o.size)⟩
 ·go_wp2;go_roundw
  case rel=>exact ⟨k+1,by omega,by go_num,sj.o.trans (eG.o.mono sj.o.size),by rw[HT.o];simp⟩
  case measure=>simp[intOf];omega):G:=h
theorem pm26(h:G:=by
 obtain ⟨b,off,u,rfl,iK,hu,c0,c1,c2⟩:=fT.o.get bp;have pp275a:=();exact pm275):G:=h
theorem pm27(h:G:=by
 exact pm188):G:=h
theorem pm28(h:G:=by
 have HE:Hd (BX=false):=ae (hM.trans (by simp));clear hM rS pi AF cI;have pp63f:=();exact pm63):G:=h
theorem pm29(h:G:=by
 have c0:wr.cell? ⟨w.heap.size+1+1+1,0,none⟩=some (.int .u8 qo):=ai x2 0;have c1:wr.cell? ⟨w.heap.size+1+1+1,1,none⟩=some (.string ⟨n.toArray⟩):=ai x2 1;have c2:wr.cell? ⟨w.heap.size+1+1+1,2,none⟩=some (.slice fJ k1 fK):=ai x2 2;have c3:wr.cell? ⟨w.heap.size+1+1+1,3,none⟩=some (.slice ra k rc):=ai x2 3;obtain ⟨e0,e1,e2,e3,z0,z1,z2,z3⟩:=dp x1;have E_:=aG x1 ar;clear hF x1 x2 xp yW jG ar;go_wp2;obtain ⟨W6,da,x6,k6,g0,g1,g2,g3⟩:=Be E_.o.1 (.int .u8 qo) (.string ⟨n.toArray⟩) (.slice fJ k1 fK) (.slice ra k rc);rw[<-da];have Zn:=sg.o.kp1 k6 (by have:=d_.o.2;have:=NY.o.2;omega);have ha6:=HRA.o.kp1 k6 (by have:=d_.o.2;omega);have h6:FormV (w.heap.size<=·) W6 (FQ.val ⟨qo,⟨n.toArray⟩,fJ,k1,fK,ra,k,rc⟩) (.mk qo n Q' us):=RowF.form ha6 Zn (by have:=d_.o.2;omega) (by have:=d_.o.2;have:=NY.o.2;omega);refine bJ (v:=.tuple #[FQ.val ⟨qo,⟨n.toArray⟩,fJ,k1,fK,ra,k,rc⟩,.bool true]) (by simp[FQ.val,results,Tryz.results91,go_sem,g0,g1,g2,g3]) rfl ⟨⟨⟨qo,⟨n.toArray⟩,fJ,k1,fK,ra,k,rc⟩,by rw[HE.o];rfl,fun u hu=>by rw[HE.o]at hu;cases hu;exact h6⟩,Below.kp1 E_.o.2 k6 (by omega)⟩):G:=h
theorem pm30(h:G:=by
 obtain ⟨W3,ec⟩:=am (wr.alloc (.cells #[.int .u8 u.o,.string u.n,.slice u.a u.l u.c,.slice u.b u.m u.e] 36));exact pm108):G:=h
theorem pm31(h:G:=by
 exact pm118):G:=h
theorem pm32(h:G:=by
 obtain ⟨e0,e1,e2,e3,z0,z1,z2,z3⟩:=dp RV;obtain ⟨s0,s1,s2,_,_,_⟩:=gt Wm;have CP:=tE W0 f cW t xE.o.1.fit (by have:=xE.o.1.nodes;omega) xE.o.1.wf xE.o.1.qone (by have:=HF.o.2.2.2.1;omega) mh.o.2.2.1.fit (by have:=mh.o.2.2.1.2;omega) _ _ W9 ⟨Ec,Ed,Ee,Ef,Eg,Eh,Ei,Ej⟩ ⟨CX,OI,OJ,OK,OL⟩ (Mf.o.kp (zO.two HG.o.1 HG.o.2.1) HG.o.2.2.2.1) (mh.o.2.2.2.2.1.later lp) (mh.o.2.2.2.2.2.2.later lp);simp only[FQ.val,TQ.val]at CP;have IV:=ae CP;have H9:=cC lp zO RV Wl;obtain ⟨bb,cI⟩:=am (ea [] (iI cW t f) im);rw[<-cI]at Ju;obtain ⟨OP,Kw⟩:=a_ Ju cI;clear lp zO RV Wl Wm CP Ju cI;go_upto_region 21 with (go_at_call 101;refine IV.o.mono ?_;rintro e w10 ⟨⟨⟨r0,r1,r2,r3,r4,r5,r6,r7⟩,rfl,hr⟩,sy⟩;have D5:=bR sy H9.o.2.2.1;obtain ⟨y0,y1,y2,y3,v0,v1,v2,v3⟩:=dp D5;have ld:=bG hr sy D5;clear hr sy D5);clear e0 e1 e2 e3 z0 z1 z2 z3 s0 s1 s2 y0 y1 y2 y3 v0 v1 v2 v3;obtain ⟨mj,pY,RW,Ew,y0,y1,y2,y3⟩:=Be ld.o.2.2 (.int .u8 r0) (.string r1) (.slice r2 r3 r4) (.slice r5 r6 r7);rw[<-pY]
 first
 |clear pp32;have Wn:=(bz H9.o.2.2.1);have zP:Below Bv.heap.size Bv w10:=H9.o.1.tr ld.o.2.1;have O1:=(Ew.same _ (by have:=(bz H9.o.2.2.2);have:=ld.o.2.1.size;omega) (by have:=HT7.o;omega)).trans (bR ld.o.2.1 H9.o.2.2.2);obtain ⟨j0,j1,j2,j3,_,_,_,_⟩:=dp O1;have hrv:FormV (fun b=>W9.heap.size<=b) mj (FQ.val ⟨r0,r1,r2,r3,r4,r5,r6,r7⟩) (iI cW t f):=ld.o.1.move (fun b hb hlt=>⟨hb,Ew.same b hlt (by omega)⟩);have hiv:FormV (fun b=>¬M b/\b≠W1.heap.size) mj (FQ.val ⟨p0,p1,p2,p3,p4,p5,p6,p7⟩) im:=(mh.o.2.2.2.2.2.1.later zP).move (fun b hb hlt=>⟨hb,Ew.same b hlt hb.2⟩);have zQ:=mh.o.2.2.2.1.later zP;have rg:KnV (fun b=>¬M b) goodF goodT mj kb mF mT nF (nT+1) (⟨k.fs,fj y t k.ts⟩):=zQ.move (fun b hb hlt=>⟨hb.1,Ew.same b hlt hb.2⟩) (Ew.same _ zQ.ltb (by have:=w_.o.1;omega)) (Ew.same _ zQ.fs.lt (by have:=w_.o.2.1;omega)) (Ew.same _ zQ.ts.lt (by have:=w_.o.2.2.1;omega));have CA:=tM (iI cW t f) im [] (.slice none 0 0) _ _ mj ⟨r0,r1,r2,r3,r4,r5,r6,r7⟩ ⟨p0,p1,p2,p3,p4,p5,p6,p7⟩ (by have:=(tL (x:=cW) xE.o.1 mh.o.2.2.1).1;simp[gD];omega) (tL xE.o.1 mh.o.2.2.1) hrv hiv (PairsV.nil mj);simp only[FQ.val,List.reverse_nil,<-Kw.o]at CA;have Ek:=ae CA;have Jv:=aG (Jp (H9.o.2.1.trans (Kp.below ld.o.2.1)) Ew (by have:=w_.o.2.2.2.2;omega)) rg;clear Wn zP O1 hrv hiv zQ rg CA RW Ew pY;cases bb
  ·go_wp2_with (go_at_call 92;refine Ek.o.mono ?_;rintro e w12 ⟨rfl,oZ⟩;have M6:=ae oZ;clear oZ);go_ret;exact StepPost.bad OP.o (by decide) (Jv.o.1.trans (Kp.below M6.o))
  ·go_wp2_with (go_at_call 92;refine Ek.o.mono ?_;rintro e w12 ⟨rfl,oZ⟩;have M6:=ae oZ;clear oZ);go_ret;exact StepPost.good nF (nT+1) OP.o (Jv.o.1.trans (Kp.below M6.o)) (by omega) (by omega) (Jv.o.2.later M6.o)
 |have Wn:=(bz H9.o.2.2.1);have zP:Below W8.heap.size W8 w10:=H9.o.1.tr ld.o.2.1;have O1:=(Ew.same _ (by have:=(bz H9.o.2.2.2);have:=ld.o.2.1.size;omega) (by have:=HT7.o;omega)).trans (bR ld.o.2.1 H9.o.2.2.2);obtain ⟨j0,j1,j2,j3,_,_,_,_⟩:=dp O1;have hrv:FormV (fun b=>W9.heap.size<=b) mj (FQ.val ⟨r0,r1,r2,r3,r4,r5,r6,r7⟩) (iI cW t f):=ld.o.1.move (fun b hb hlt=>⟨hb,Ew.same b hlt (by omega)⟩);have hiv:FormV (fun b=>¬M b/\b≠W1.heap.size) mj (FQ.val ⟨p0,p1,p2,p3,p4,p5,p6,p7⟩) im:=(mh.o.2.2.2.2.2.1.later zP).move (fun b hb hlt=>⟨hb,Ew.same b hlt hb.2⟩);have zQ:=mh.o.2.2.2.1.later zP;have rg:KnV (fun b=>¬M b) goodF goodT mj kb mF mT nF (nT) ({ k with ts:=k.ts }):=zQ.move (fun b hb hlt=>⟨hb.1,Ew.same b hlt hb.2⟩) (Ew.same _ zQ.ltb (by have:=w_.o.1;omega)) (Ew.same _ zQ.fs.lt (by have:=w_.o.2.1;omega)) (Ew.same _ zQ.ts.lt (by have:=w_.o.2.2.1;omega));have CA:=tM (iI cW t f) im [] (.slice none 0 0) _ _ mj ⟨r0,r1,r2,r3,r4,r5,r6,r7⟩ ⟨p0,p1,p2,p3,p4,p5,p6,p7⟩ (by have:=(tL (x:=cW) xE.o.1 mh.o.2.2.1).1;simp[gD];omega) (tL xE.o.1 mh.o.2.2.1) hrv hiv (PairsV.nil mj);simp only[FQ.val,List.reverse_nil,<-Kw.o]at CA;have Ek:=ae CA;have Jv:=aG (Jp (H9.o.2.1.trans (Kp.below ld.o.2.1)) Ew (by have:=w_.o.2.2.2.2;omega)) rg;clear Wn zP O1 hrv hiv zQ rg CA RW Ew pY;cases bb
  ·go_wp2_with (go_at_call 92;refine Ek.o.mono ?_;rintro e w12 ⟨rfl,oZ⟩;have M6:=ae oZ;clear oZ);go_ret;exact StepPost.bad OP.o (by decide) (Jv.o.1.trans (Kp.below M6.o))
  ·go_wp2_with (go_at_call 92;refine Ek.o.mono ?_;rintro e w12 ⟨rfl,oZ⟩;have M6:=ae oZ;clear oZ);go_ret;exact StepPost.good nF (nT) OP.o (Jv.o.1.trans (Kp.below M6.o)) (by omega) (by omega) (Jv.o.2.later M6.o)):G:=h
theorem pm33(h:G:=by
 simp only[FQ.val,cE,Array.mk.injEq,cB,and_true,Value.int.injEq,true_and,Value.string.injEq]at h1;obtain ⟨rfl,rfl,rfl,rfl⟩:=h1
 first
 |clear pp33a;obtain rfl:=E9.len;obtain ⟨W2,bm⟩:=am (w.alloc (.cells #[.int .u8 uo,.string ⟨xn.toArray⟩,.slice ua ul uc,.slice ub xs.length ue] 36));have bD:=cZ bm;have hX:=cb bm;have C1:=Kt xa (fun t _=>(NM t)) x ok W2 ua ul uc hf.args (fL.later bD);have em:=hf.subs.len;have Ku:=hf.subs;have Zi:=fun r=>th (x:=x) (.mk uo xn xa xs) r;have rk:=hf.1;obtain ⟨R,hR⟩:=am (kW x (.mk uo xn xa xs));have pN:=hR;rw[kW]at pN;rw[<-hR]at Zi ⊢;obtain ⟨S,hS⟩:=am (eB x xa 0);rw[<-hS]at C1 pN;have Zj:∀ p,S=some p->p≠[]/\p.length<=2000000:=fun p hp=>by
   rw[hS]at hp;exact ⟨vh hp,aN (lT xa 0 p hp) hf.args.1⟩
  obtain ⟨k0,cg⟩:=am xs.length;rw[<-cg]at em hX E9;rw[<-cg]at bm;rw[<-cg];obtain ⟨dB,Ta,fS,HF,HX,cO,gK,HC,HR,HSo⟩:=Nd cg E9 ih Ku hX bD bm C1 pN Zj;clear cg E9 ih Ku hX bD bm C1 pN Zj hR hS hq fL hf Zi;unfold FQ.val;go_enter Tryz.func165,Tryz.ntmps165
  cases S with
  | some p=>
   obtain ⟨AX,AY⟩:=HSo.o p rfl;obtain ⟨p0,mZ⟩:=am p.length;have nn:0<p0:=by rw[mZ];exact iD.2 AX
   have NL:(0:Int)<(p0:Int):=by omega
   have E8:=ae mZ;clear mZ AX AY HSo;go_wp2_with (rw[<-gK.o];go_at_call 229;refine HC.o.mono ?_;rintro e w2 ⟨⟨v2,rfl,jd⟩,bD⟩;obtain ⟨a2,c2,rfl⟩:=jd.slice;simp only[Option.getD]at jd ⊢;have F0:=ae jd;have bQ:=ae (cO.o.trans (bD.mono cO.o.size));rw[<-E8.o];clear bD jd);have HE:=ae (show R=some ([],p) by rw[HR.o]);refine bJ (v:=.tuple #[.slice none 0 0,.slice a2 p0 c2]) (by simp[results,Tryz.results165,go_sem]) rfl ⟨⟨_,_,rfl,?_,?_⟩,bQ.o⟩
   ·rw[HE.o];exact IntsV.nil _
   ·rw[HE.o,E8.o];exact F0.o
  | none=>
   clear HSo;go_wp2_with (rw[<-gK.o];go_at_call 229;refine HC.o.mono ?_;rintro e w2 ⟨⟨v2,rfl,jd⟩,bD⟩;obtain ⟨a2,c2,rfl⟩:=jd.slice;simp only[Option.getD,List.length_nil]at jd ⊢;have x3:w2.cell? ⟨w.heap.size,3,none⟩=some (.slice ub k0 ue):=aa bD (ai HX.o 3);have bQ:=ae (cO.o.trans (bD.mono cO.o.size));clear bD jd);clear x3;go_loopw [22] (fun i wr=>∃k:Nat,k<=k0/\i=.int .i64 k/\Below w.heap.size w wr/\R=lH x (xs.drop k) k) (fun i _=>k0 - (intOf i).toNat)
   case atStart=>exact ⟨0,bc _,rfl,bQ.o,by simpa using HR.o⟩
   case round=>
    have pp283b:=();exact pm283
 |clear pp33b;obtain rfl:=fL.len;obtain rfl:=E9.len;have Zy:=az.args.len;have em:=az.subs.len;have dG:=az.name;obtain ⟨A,hA⟩:=am ((aC a).filter (fun x=>!bs.contains x));obtain ⟨bs',hbs⟩:∃bs':List Str,bs'=(if bU uo then nm :: bs else bs):=⟨_,rfl⟩;have ly:bl bs (.mk uo nm a ss)=A ++ bP bs' ss:=by rw[hA,hbs];unfold bl;rfl
  rw[ly]at dn ⊢;have tk:nodesF (.mk uo nm a ss)=nodesTs a+nodesFs ss+1:=by unfold nodesF;rfl
  obtain ⟨NF,hNF⟩:=am (nodesF (.mk uo nm a ss));rw[<-hNF]at hn Io ⊢;rw[<-hNF]at tk;obtain ⟨k0,cg⟩:=am a.length;obtain ⟨m0,eh⟩:=am ss.length;rw[<-cg]at fL Zy;rw[<-eh]at E9 em;have Fa:=hq;unfold FQ.val;simp only;rw[<-cg,<-eh];obtain ⟨W1,bX⟩:=am (((W.alloc (.cells #[.int .u8 uo,.string ⟨nm.toArray⟩,.slice ua k0 uc,.slice ub m0 ue] 36)).alloc (.cells #[.map (some mb)] 198)).alloc (.cells #[.func (.yield l) #[] #[]] 113));have il:=wX bX;have iP:=Hu bX;have hx0:W1.heap[W.heap.size]?=some (.cells #[.int .u8 uo,.string ⟨nm.toArray⟩,.slice ua k0 uc,.slice ub m0 ue] 36 (0,0)):=by
   rw[bX];exact (bI _ _ _ (by simp;omega)).trans ((bI _ _ _ (by simp)).trans (aj rfl))
  have wg:W1.heap[W.heap.size+1]?=some (.cells #[.map (some mb)] 198 (0,0)):=by
   rw[bX];exact (bI _ _ _ (by simp)).trans (aj (by simp))
  have o9:W1.heap[W.heap.size+2]?=some (.cells #[.func (.yield l) #[] #[]] 113 (0,0)):=by
   rw[bX];exact aj (by simp)
  have Zz:=hb.lt;have hWs:=hk.size;have ZA:∀ b,W0.heap.size<=b->b≠mb->¬(M b\/b=mb):=fun b h1 h2 h=>by
   rcases h with h | h
   ·have:=hM b h;omega
   ·exact h2 h
  have oV:Hd (W.heap.size<W1.heap.size/\¬(M W.heap.size\/W.heap.size=mb)/\W.heap.size+1<W1.heap.size/\¬(M (W.heap.size+1)\/W.heap.size+1=mb)/\W.heap.size+2<W1.heap.size/\¬(M (W.heap.size+2)\/W.heap.size+2=mb)):=
   ae ⟨by omega,ZA _ (by omega) (by omega),by omega,ZA _ (by omega) (by omega),by omega,ZA _ (by omega) (by omega)⟩
  have HMS:=ae ZA;have fS:=ae (fun t ht=>ih t ht (az.subs.mem ht));have Ie:FrJ J pre M W0 mb n bs l W.heap.size [] W1:=⟨by simpa using hJ _ _ _ (Nw.below il) hj,hk.trans (Kp.below il),hb.same (il.block mb Zz),wg,o9⟩;have hpa:(pre ++ (aC a).filter (fun x=>!bs.contains x)) <+: xs:=by rw[<-hA];exact jq dn
  have hG:=Vj (n:=n) (s:=W.heap.size) hM AB (by omega) hY az.args hpa;have Tk:=fun (wr:World) (h:W1.heap.size<=wr.heap.size)=>FrJ.abides (l:=l) (s:=W.heap.size) (mb:=mb) (n:=n) (bs:=bs) (pre:=pre) (M:=M) (B:=wr.heap.size) hJ (by omega) (by omega) (by omega);have HFT:=ae (fun t ht=>az.args.mem (t:=t) ht);have uE:Hd (n+2 * NF<4000000/\bs.length+NF<=4000000/\NF=nodesTs a+nodesFs ss+1/\bs'.length<=bs.length+1):=ae ⟨hn,Io,tk,by rw[hbs];split <;> simp⟩;obtain ⟨Ih,dB,gV,Th,Ta,iR,d_,HS1,Ln,jo⟩:=Nd dG cg eh fL E9 bX il iP hx0 wg;obtain ⟨HX2,AA,Vk⟩:=cG o9 hM AB;have HMW:=aG Zz hWs;obtain ⟨HJ,HY,nc,HJ1,HG,HFA,HA,kL⟩:=UE hJ hY dn Ie hG Tk hA hbs;clear hq Fa fL E9 az ih cg eh bX il iP hx0 wg o9 hM AB Zz hWs hJ hY dn Ie hG Tk hA hbs ly tk hn Io hj hk hb ZA hpa dG hNF;have hmf:∀ (fn:Fn) (first cap:Array Value) (w:World),(Instr.makeFunc fn first cap).run Tryz.prog w=.ok (.func fn first cap) w:=fun _ _ _ _=>rfl;go_enter_defers Tryz.func149,Tryz.ntmps149;have p2:W1.cell? ⟨W.heap.size,2,none⟩=some (.slice ua k0 uc):=ai Ln.o 2;go_wp2;rw[<-iR.o];clear p2;go_loopw [16] (fun i wr=>∃k:Nat,k<=k0/\i=.int .i64 k/\FrJ J pre M W0 mb n bs l W.heap.size (aC (a.take k)) wr/\Kp (fun b=>M b\/b=mb) W1 wr) (fun i _=>k0 - (intOf i).toNat)
  case atStart=>exact ⟨0,bc _,rfl,by simpa[aC] using HJ1.o,Kp.refl _⟩
  case round=>
   obtain ⟨k,hk,rfl,hj,kC⟩:=hrel
   by_cases hlt:k<k0
   ·have bp:=cF dB.o hlt;obtain ⟨b,off,u,rfl,iK,hu,c0,c1,c2⟩:=Th.o.get bp;have d0:=hj.kp.cell iK.2 c0;have d1:=hj.kp.cell iK.2 c1;have d2:=hj.kp.cell iK.2 c2;exact pm253
   ·obtain rfl:k0=k:=by omega
    have ht:a.take k0=a:=by rw[dB.o];exact cV
    rw[ht]at hj;have Kg:=hj.j;rw[<-HA.o]at Kg;exact pm249
 |clear pp33c;obtain rfl:=Ga.len;have em:=VA.subs.len;obtain ⟨m0,eh⟩:=am k_.length;simp only at wu;rw[<-eh]at Ga em wu Vz;obtain ⟨e0,e1,e2,e3,z0,z1,z2,z3⟩:=dp wu;have BP:(k:Int)<(n1:Int):=by omega
  have xz:=(bh.same _ (by have:=HM.o.2.1;have:=H4.o.2.2.size;omega) (by rw[HM.o.1];simp)).trans ((H4.o.2.2.block _ (by have:=HM.o.2.1;omega)).trans HX.o.2.2);have oT:=H4.o.2.2.size;have oR:=HM.o.2.1;have ar:Below w.heap.size w wr:=Below.kp1 (HM.o.2.2.trans (H4.o.2.2.mono (by omega))) (by have h:=bh;rw[HM.o.1]at h;exact h) (by omega)
  by_cases hi:i0<m0
  ·have Ra:i0<k_.length:=by omega
   rw[gx Ra]at Hm;obtain ⟨b2,off2,⟨uo,un,ua,ul,uc,ub,um,ue⟩,rfl,iK,hu,d0,d1,d2,d3⟩:=Ga.get Ra;simp only at Hm d0 d1 d2 d3;have hii:(i0:Int)<(m0:Int):=by omega
   have zca:¬((m0:Int)<=(i0:Int)):=by omega
   have CQ:=eI ⟨c0,⟨cn.toArray⟩,c2,c3,c4,some ⟨b2,off2,none⟩,m0,c7⟩ wr;simp only[FQ.val]at CQ;have Hk:=ae CQ;have Ye:=VA.subs.mem (aA Ra);have cO:=ae (QS wu bh hu Ye au LR iK);have HD:=cC d0 d1 d2 d3;have HZ:=bG oR oT bh.size
   cases o_:bU c0 with
   | false=>
    rw[o_]at Hk;rw[aw (show ¬(bU c0=true) by rw[o_];simp)]at Hm;have HWk:=ae Hm;clear Hm xz bh Vz VA au LR hcs IY Ga wu eh o6 AL i9 uU em oT oR ar CQ hu Ye iK d0 d1 d2 d3 o_;go_wp2_with (go_at_call 93;refine Hk.o.mono ?_;rintro e w8 ⟨rfl,gJ⟩;have x8:=bR gJ cO.o.1;obtain ⟨s0,s1,s2,s3,y0,y1,y2,y3⟩:=dp x8;have d0:=aa gJ HD.o.1;have d1:=aa gJ HD.o.2.1;have d2:=aa gJ HD.o.2.2.1;have d3:=aa gJ HD.o.2.2.2;have H8:=aG gJ x8;clear gJ x8);go_roundw
    case rel=>
     have x9:=kP (v0:=.int .u8 uo) (v1:=.string un) (v2:=.slice ua ul uc) (v3:=.slice ub um ue) H8.o.2;have k9:=dA (W:=w8) (b:=w.heap.size+1) (v0:=.int .u8 uo) (v1:=.string un) (v2:=.slice ua ul uc) (v3:=.slice ub um ue);rw[<-HM.o.1]at k9;have kk:=cO.o.2.1.trans ((Kp.below H8.o.1).trans k9);exact ⟨k+1,k_[i0],ins,⟨uo,un,ua,ul,uc,ub,um,ue⟩,by omega,by go_num,kk,x9,cO.o.2.2.1.kp3 ((Kp.below H8.o.1).trans k9),cO.o.2.2.2.1,cO.o.2.2.2.2.1.held (fun b hb hlt=>((Kp.below H8.o.1).trans k9).same b hlt (by rw[HM.o.1];have:=HZ.o;omega)),by have:=cO.o.2.2.2.2.2.1;omega,by rw[HWk.o]⟩
    case measure=>simp[intOf];omega
   | true=>
    rw[o_]at Hk;rw[aH o_]at Hm;have HWk:=ae Hm;have hrl:ins.reverse.length+1<=4000000:=by simp;omega
    have HRL:=ae hrl;clear Hm xz bh Vz VA au LR hcs IY Ga wu eh o6 AL i9 uU em oT oR ar CQ hu Ye iK d0 d1 d2 d3 o_ hrl;go_wp2_with (first | (go_at_call 93;refine Hk.o.mono ?_;rintro e w8 ⟨rfl,gJ⟩;have x8:=bR gJ cO.o.1;obtain ⟨s0,s1,s2,s3,y0,y1,y2,y3⟩:=dp x8;have H8:=aG gJ x8;clear gJ x8) | (at_builtin;refine dR rfl _ _ rfl w4.heap.size (by have:=HZ.o;have:=H8.o.1.size;simp;omega) u10 ins.reverse rfl ((cO.o.2.2.2.2.1.later H8.o.1).later cJ) (.slice (some ⟨w8.heap.size,0,none⟩) 1 1) [cn] rfl (fun _=>True) (zh (aj rfl)) HRL.o ?_;intro v9 w9 Og Hn;have K9:Kp (fun b=>w4.heap.size<=b) wr w9:=ZO (H8.o.1.tr cJ) Hn (fun g hg=>(World.ownsRow.lt cO.o.2.2.2.2.1 g hg).1);have x9:=(K9.same _ (bz cO.o.1) (by have:=HZ.o;omega)).trans cO.o.1;obtain ⟨s0,s1,s2,s3,y0,y1,y2,y3⟩:=dp x9;have hlo:¬w4.heap.size<=b2:=(by have:=HZ.o;have:=cO.o.2.2.2.2.2.2.1;omega);have d0:=K9.cell hlo HD.o.1;have d1:=K9.cell hlo HD.o.2.1;have d2:=K9.cell hlo HD.o.2.2.1;have d3:=K9.cell hlo HD.o.2.2.2;have HG:=cC Og K9 x9 (nv ((cO.o.2.1.trans (Kp.below H8.o.1)).trans (Kp.below cJ)) Hn (fun g hg=>(World.ownsRow.lt cO.o.2.2.2.2.1 g hg).1));clear Og Hn K9 x9 hlo));go_roundw
    case rel=>
     have D5:=kP (v0:=.int .u8 uo) (v1:=.string un) (v2:=.slice ua ul uc) (v3:=.slice ub um ue) HG.o.2.2.1;have Oh:=dA (W:=w9) (b:=w.heap.size+1) (v0:=.int .u8 uo) (v1:=.string un) (v2:=.slice ua ul uc) (v3:=.slice ub um ue);rw[<-HM.o.1]at Oh;exact ⟨k+1,k_[i0],cn :: ins,⟨uo,un,ua,ul,uc,ub,um,ue⟩,by omega,by go_num,HG.o.2.2.2.trans Oh,D5,(cO.o.2.2.1.move (fun b hb hlt=>⟨hb,HG.o.2.1.same b hlt (by have:=HZ.o;omega)⟩)).kp3 Oh,cO.o.2.2.2.1,by rw[List.reverse_cons];exact HG.o.1.held (fun b hb hlt=>Oh.same b hlt (by rw[HM.o.1];have:=HZ.o;omega)),by have:=cO.o.2.2.2.2.2.1;simp;omega,by rw[HWk.o]⟩
    case measure=>simp[intOf];omega
  ·have hge:(m0:Int)<=(i0:Int):=by omega
   have hng:¬((i0:Int)<(m0:Int)):=by omega
   have HE:=ae (show R=none by rw[HR.o,Hm,List.getElem?_eq_none (by omega)]);obtain ⟨f0,f1,f2,y0,y1,y2⟩:=gt xz;have E_:=aG xz ar;clear Hm xz bh Vz VA au LR hcs IY Ga wu eh o6 AL i9 uU em oT oR ar;go_wp2;obtain ⟨W6,da,x6,k6,g0,g1,g2⟩:=tj E_.o.1 (.bool false) (.string ⟨#[]⟩) (.slice none 0 0);rw[<-da];refine bJ (v:=.tuple #[TQ.val ⟨false,⟨#[]⟩,none,0,0⟩,.bool false]) (by simp[TQ.val,results,Tryz.results98,go_sem,g0,g1,g2]) rfl ⟨⟨⟨false,⟨#[]⟩,none,0,0⟩,by rw[HE.o];rfl,fun u hu=>by rw[HE.o]at hu;cases hu⟩,Below.kp1 E_.o.2 k6 (by omega)⟩
 |clear pp33d;simp only at wu;obtain ⟨wo,IJ⟩:=am wr;subst IJ;have oR:=HM.o.2.1;have oT:=H4.o.2.2.size;have ZQ:=bh.size;have ar:Below w.heap.size w wo:=Below.kp1 (HM.o.2.2.trans (H4.o.2.2.mono (by omega))) (by have h:=bh;rw[HM.o.1]at h;exact h) (by omega);have xz:=(bh.same _ (by omega) (by rw[HM.o.1];simp)).trans ((H4.o.2.2.block _ (by omega)).trans HX.o.2.2);obtain ⟨W6,da⟩:=am (wo.alloc (.cells #[.bool false,.string ⟨#[]⟩,.slice none 0 0] 43));have cR:=cZ da;have Yf:=Fg da;have x6:=cb da;have ZR:=(cR.block _ (by omega)).trans xz;obtain ⟨b3,U9,rfl,VB⟩:=H4.o.2.1.get HN.o.2.2;have ZS:b3≠w.heap.size+1:=H4.o.2.1.apart rfl HN.o.2.2 ((H4.o.2.2.block _ (by omega)).trans HX.o.2.1);have nn:=iD.2 HN.o.2.2;have ZT:b3<w4.heap.size:=nI (VB 0 nn);have ZU:∀ j (h:j<pq.length),W6.cell? ⟨b3,U9+j,none⟩=some (.int .i64 (pq[j]:Nat)):=fun j h=>aa cR (bh.cell (by rw[HM.o.1];exact ZS) (VB j h));obtain ⟨R0,Tx⟩:=am (lI cas pq);have Ro:=HR.o;rw[Hm]at Ro;simp only[m_,Fm.a]at Ro;rw[<-Tx]at Ro;have Ho:=aG Ro Tx;have Ty:=IY.later cR;have ZV:=VA.args;have f2:=ai wu 2;have f26:=aa cR f2;have HZ:=cC oR oT ZQ Yf;have H6:=ae (QS (ar.tr cR) x6 ZR ZU Ty ZV ZT);have ZW:=aG au LR;obtain ⟨Oi,VC⟩:=a_ cR da;obtain rfl:=IY.len;rw[da]at f26;clear Hm hdn Vz IY Ga VA wu oR oT ZQ ar xz cR Yf x6 ZR VB ZS nn ZT ZU Tx Ro Ty ZV au LR bh da;go_wp2_with fail;rw[<-VC.o];clear f2 f26;go_loopw [14,54] (fun v i wr=>∃(j:Nat) (t:Tm) (l:List Tm) (tq:TQ) (la:Option Addr) (lc:Nat),j<=n2/\i=.int .i64 j/\v=.slice la l.length lc/\Kp (fun b=>b=wo.heap.size) W6 wr/\wr.heap[wo.heap.size]?=some (.cells #[.bool tq.v,.string tq.n,.slice tq.a tq.l tq.c] 43 (0,0))/\TermsV (fun b=>b<w.heap.size/\¬M b/\ok b) wr v l/\fitTs l/\(j<n2->R0=lI l (pq.drop j))/\(0<j->TermV (fun b=>b<w.heap.size/\¬M b/\ok b) wr tq.val t/\fitT t/\(j=n2->R0=some t))) (fun _ i _=>n2 - (intOf i).toNat)
  case atStart=>exact ⟨0,.mk false [] [],cas,⟨false,⟨#[]⟩,none,0,0⟩,c2,c4,bc _,rfl,rfl,Kp.refl _,H6.o.2.1,H6.o.2.2.2.2.1,H6.o.2.2.2.2.2.1,fun _=>by simpa using Ho.o.2,fun h=>absurd h (Nat.lt_irrefl _)⟩
  case round=>
   obtain ⟨j,t,l,⟨tv,tn,ta,tl,tc⟩,la,lc,hj,rfl,rfl,bh,D6,IZ,qW,Rp,ct⟩:=hrel
   by_cases eA:j<n2
   ·have hjp:=cF HN.o.2.1 eA;have ci:=bh.cell (a:=⟨b3,U9+j,none⟩) (show ¬(b3=wo.heap.size) by have:=HZ.o;have:=H6.o.2.2.2.2.2.2;omega) (H6.o.2.2.2.1 j hjp);obtain ⟨i0,o6⟩:=am (pq[j]);have hw:=Rp eA;rw[fO hjp,<-o6]at hw;rw[<-o6]at ci;have em:=qW.len;obtain ⟨m0,eh⟩:=am l.length;rw[<-eh]at em IZ;rw[<-eh];have Du:(j:Int)<(n2:Int):=by omega
    simp only at D6;have xz:=(bh.same _ (by have:=HZ.o;omega) (by have:=HZ.o;omega)).trans H6.o.2.2.1;have Yg:Below w.heap.size w wr:=Below.kp1 H6.o.1 bh (by have:=HZ.o;omega)
    by_cases hi:i0<m0
    ·have Ra:i0<l.length:=by omega
     have hii:(i0:Int)<(m0:Int):=by omega
     have zca:¬((m0:Int)<=(i0:Int)):=by omega
     obtain ⟨bt,zeg,⟨uv,un,ua,ul,uc⟩,rfl,iK,hu,d0,d1,d2⟩:=IZ.get Ra;have hf:=qW.mem (aA Ra);obtain ⟨y,hy⟩:=am (l[i0]);rw[<-hy]at hu hf;have hyy:l[i0]?=some y:=by rw[hy];exact gx Ra
     obtain ⟨xv,xn,xa⟩:=y;obtain ⟨s1,h2,fL⟩:=aV.1 hu;exact pm109
    ·have hge:(m0:Int)<=(i0:Int):=by omega
     have hng:¬((i0:Int)<(m0:Int)):=by omega
     have HE:=ae (show R=none by rw[Ho.o.1,hw,IX (List.getElem?_eq_none (by omega))]);obtain ⟨f0,f1,f2,y0,y1,y2⟩:=gt xz;have E_:=aG xz Yg;clear Rp ct xz bh qW IZ D6 eh o6 hjp Yg hw em;go_wp2;obtain ⟨W7,KB,x7,k7,g0,g1,g2⟩:=tj E_.o.1 (.bool false) (.string ⟨#[]⟩) (.slice none 0 0);rw[<-KB];refine bJ (v:=.tuple #[TQ.val ⟨false,⟨#[]⟩,none,0,0⟩,.bool false]) (by simp[TQ.val,results,Tryz.results98,go_sem,g0,g1,g2]) rfl ⟨⟨⟨false,⟨#[]⟩,none,0,0⟩,by rw[HE.o];rfl,fun u hu=>by rw[HE.o]at hu;cases hu⟩,Below.kp1 E_.o.2 k7 (by omega)⟩
   ·obtain rfl:j=n2:=by omega
    have nn:0<j:=by rw[HN.o.2.1];exact iD.2 HN.o.2.2
    obtain ⟨oW,og,Tx⟩:=ct nn;have Tx:=Tx rfl;simp only at D6;obtain ⟨wq,KC⟩:=am wr;subst KC;have hzq:=bh.size;have ZQ:=HZ.o.2.2.1;have Yf:=HZ.o.2.2.2;have Oj:=HZ.o.2.1;have oR:=HZ.o.1;have xz:=(bh.same _ (by omega) (by omega)).trans H6.o.2.2.1;have Yg:Below w.heap.size w wq:=Below.kp1 H6.o.1 bh (by omega);have Tz:=ZW.o.1.held (W':=wq) (fun b _ hlt=>(bh.same b (by omega) (by omega)).trans (Oi.o.block b hlt));have NS:R=if (aQ t).any ins.contains then none else some t:=by rw[Ho.o.1,Tx]
    have CF:=ll t og _ wq ⟨tv,tn,ta,tl,tc⟩ oW;simp only[TQ.val]at CF;obtain ⟨ns,D1⟩:=am (dF (aQ t));rw[<-D1]at CF;have lK:ns.length<=2000000:=by rw[D1];have:=e9 (aQ t);have:=lQ t;have:=og.1;omega
    obtain ⟨n3,hn3⟩:=am ns.length;have zeh:n3<=2000000:=by omega
    obtain ⟨s0,s1,s2,y0,y1,y2⟩:=gt D6;have Fc:=ae CF;have HQ:=fh xz Yg Tz oW D6;have HRf:=aG NS D1;have HN3:=ae hn3;have HZ7:=fh hzq ZQ Yf Oj oR;clear Rp ct bh D6 IZ qW nn oW og Tx xz Yg Tz NS CF D1 lK hn3 hzq ZQ Yf Oj oR;go_wp2_with (go_at_call 166;refine Fc.o.mono ?_;rintro e w7 ⟨⟨v7,rfl,LS⟩,fw⟩;obtain ⟨a7,cc7,rfl⟩:=LS.strs.slice;rw[<-HN3.o]at LS ⊢;have H7:=aG LS fw;clear LS fw);clear s0 s1 s2 y0 y1 y2;go_loopw [73] (fun i wr=>∃j3:Nat,j3<=n3/\i=.int .i64 j3/\wr=w7/\∀ y∈ns.take j3,ins.contains y=false) (fun i _=>n3 - (intOf i).toNat)
    case atStart=>exact ⟨0,bc _,rfl,rfl,by simp⟩
    case round=>
     obtain ⟨j3,o8,rfl,rfl,f_⟩:=hrel
     by_cases Ok:j3<n3
     ·have Yh:=cF HN3.o Ok;obtain ⟨b7,zei,rfl,_,ci⟩:=H7.o.1.strs.get Yh;obtain ⟨nm,dG⟩:=am (ns[j3]);rw[<-dG]at ci;have CT:=e7 ins.reverse (by have:=ZW.o.2;simp;omega) nm _ wr u10 (HQ.o.2.2.1.later H7.o.2).strs;have Yi:ins.reverse.contains nm=ins.contains nm:=by rw[gy,List.contains_iff_mem,List.contains_iff_mem,List.mem_reverse]
      rw[Yi]at CT;have Du:(j3:Int)<(n3:Int):=by omega
      have xz:=bR H7.o.2 HQ.o.1
      cases hc:ins.contains nm with
      | true=>
       rw[hc]at CT;have F2:=ae CT;have HE:=ae (show R=none by rw[HRf.o.1,aH (List.any_eq_true.2 ⟨nm,(dH nm _).1 (by rw[<-HRf.o.2,dG];exact aA Yh),hc⟩)]);obtain ⟨f0,f1,f2,y0,y1,y2⟩:=gt xz;have E_:=aG xz (HQ.o.2.1.tr H7.o.2);have pp235:=();exact pm235
      | false=>
       rw[hc]at CT;have F2:=ae CT;have yX:=ae (show ∀ y∈ns.take (j3+1),ins.contains y=false by
        intro y hy;rw[List.take_add_one,gx Yh,<-dG]at hy;rcases List.mem_append.1 hy with h | h
        ·exact f_ y h
        ·obtain rfl:y=nm:=by simpa using h
         exact hc)
       exact pm235
     ·obtain rfl:j3=n3:=by omega
      rw[HN3.o,cV]at f_;have HE:=ae (show R=some t by
       rw[HRf.o.1,aw];intro h;obtain ⟨y,hy,hc⟩:=List.any_eq_true.1 h;have:=f_ y (by rw[HRf.o.2];exact (dH y _).2 hy);rw[this]at hc;cases hc)
      have xz:=bR H7.o.2 HQ.o.1;have xtw:=bR H7.o.2 HQ.o.2.2.2.2;obtain ⟨f0,f1,f2,y0,y1,y2⟩:=gt xz;obtain ⟨t0,t1,t2,_,_,_⟩:=gt xtw;have oW:=(HQ.o.2.2.2.1.later H7.o.2);have E_:=bG xz (HQ.o.2.1.tr H7.o.2) oW;clear xz xtw f_ oW;go_wp2;obtain ⟨W8,lr,x8,k8,g0,g1,g2⟩:=tj E_.o.1 (.bool tv) (.string tn) (.slice ta tl tc);rw[<-lr];refine bJ (v:=.tuple #[TQ.val ⟨tv,tn,ta,tl,tc⟩,.bool true]) (by simp[TQ.val,results,Tryz.results98,go_sem,g0,g1,g2]) rfl ⟨⟨⟨tv,tn,ta,tl,tc⟩,by rw[HE.o];rfl,fun u hu=>by rw[HE.o]at hu;cases hu;exact E_.o.2.2.move (fun b hb hlt=>⟨⟨hb.1,hb.2.2⟩,k8.same b hlt (by omega)⟩)⟩,Below.kp1 E_.o.2.1 k8 (by omega)⟩
 |clear pp33e;obtain rfl:=h_.len;obtain rfl:=lV.len;have kT:=ia _ hs;simp only[kJ,ah,bx]at kT;obtain ⟨n1,dX⟩:=am a.length;obtain ⟨m1,jz⟩:=am ss.length;rw[<-dX]at hq h_;rw[<-jz]at hq;rw[<-dX,<-jz];obtain ⟨R,hR⟩:=am (iJ k (.mk so n a ss));have hE:=hR;rw[L1]at hE;rw[<-hR];have xJ:nodesTs a<=400:=by simp only[nodesF]at qJ;omega
  have E':∀ t∈a,fitT t:=fun t ht=>⟨by have:=gd ht;omega,jC (by omega) t (eY.1 kT.2.2.1 t ht)⟩
  have lK:=kT.2.1;obtain ⟨W2,bm⟩:=am ((w.alloc (.cells #[.int .u8 so,.string ⟨n.toArray⟩,.slice sa n1 sc,.slice sb m1 se,.int .u8 fo,.string fn,.slice fa fl fc,.slice fb fm fe,.slice ca cl cc] 89)).alloc (.cells #[.int .u8 so,.string ⟨n.toArray⟩,.slice sa n1 sc,.slice sb m1 se] 36));have bD:=lF bm;have x2:=jA bm;have eS:=dS.later bD;have Fa:=hq.later bD;have Gs:=h_.later bD;obtain ⟨HE,gK⟩:=a_ hE bm;have H2:=bG bD x2 eS;have HQ:=fh Fa Gs hs E' kT;have RD:a.length<=2000000:=by have:=g9 a;omega
  have HAl:=ae RD;clear hE hR hq h_ lV hs E' kT bm bD x2 eS dS Fa Gs dX jz xJ RD qJ;simp only[PlQ.val,PlQ.cells]
  by_cases fG:so=16
  ·subst fG;have hE:=HE.o;rw[aw (by decide)]at hE;have pp68:=();exact pm68
  by_cases jW:so=15
  ·subst jW;have hE:=HE.o;rw[aw (by decide)]at hE;exact pm61
  ·have ib:(so == 16)=false:=by simp[fG]
   have Ja:(so == 15)=false:=by simp[jW]
   have UX:(so != 16)=true:=by simp[fG]
   have zck:(so != 15)=true:=by simp[jW]
   have hE:=HE.o;rw[aH (by simp[UX,zck])]at hE;obtain ⟨B,hB⟩:=am (a.any (jf k.ts));rw[<-hB]at hE;have CA:=rE (jf k.ts) a HAl.o kb W2 (fun t ht=>Br W2 _ _ _ kb mF mT nF nT k H2.o.2.2 t (HQ.o.2.2.2.1 t ht)) _ W2 sa n1 sc (ak _ _) HQ.o.2.1;rw[<-hB]at CA;obtain ⟨Ek,qK⟩:=a_ CA hE;clear hE CA hB;go_enter Tryz.func124,Tryz.ntmps124;go_upto_region 2 with fail;rw[<-gK.o];obtain ⟨e0,e1,e2,e3,_,_,_,_⟩:=dp H2.o.2.1;go_wp2_with (go_at_call 192;refine Ek.o.mono ?_;rintro e w4 ⟨rfl,aP⟩;have H4:=ae aP;clear aP);go_ret;exact ⟨by rw[qK.o];rfl,H2.o.1.tr H4.o⟩
 |clear pp33f;obtain rfl:=h_.len;obtain rfl:=lV.len;have kT:=ia _ hs;simp only[kJ,ah,bx]at kT;obtain ⟨n1,dX⟩:=am a.length;obtain ⟨m1,jz⟩:=am ss.length;rw[<-dX]at hq h_;rw[<-jz]at hq;rw[<-dX,<-jz];obtain ⟨R,hR⟩:=am (kX k (.mk so n a ss));have hE:=hR;rw[Gu]at hE;rw[<-hR];have xJ:nodesTs a<=400:=by simp only[nodesF]at qJ;omega
  have E':fitTs a:=⟨by omega,dQ (by omega) a kT.2.2.1⟩;have lK:n.length<=2000000:=by have:=kT.2.1;omega
  obtain ⟨W2,bm⟩:=am ((w.alloc (.cells #[.int .u8 so,.string ⟨n.toArray⟩,.slice sa n1 sc,.slice sb m1 se,.int .u8 fo,.string fn,.slice fa fl fc,.slice fb fm fe,.slice ca cl cc] 89)).alloc (.cells #[.int .u8 so,.string ⟨n.toArray⟩,.slice sa n1 sc,.slice sb m1 se] 36));have bD:=lF bm;have x2:=jA bm;have eS:=dS.later bD;obtain ⟨HE,gK⟩:=a_ hE bm;have H2:=bG bD x2 eS;have HQ:=fh (hq.later bD) (h_.later bD) hs E' kT;have HN:=ae dX;have LQ:n1<=2000000:=by have:=g9 a;omega
  have Ow:=ae xJ;clear hE hR hq h_ lV hs E' kT bm bD x2 eS dS dX jz xJ qJ;simp only[PlQ.val,PlQ.cells];have g_:=eM;obtain ⟨e0,e1,e2,e3,_,_,_,_⟩:=dp H2.o.2.1;obtain ⟨⟨g0,g1,g2,g3,g4,g5,g6,g7⟩,ot,En,D2,_,_,uD⟩:=H2.o.2.2.formOf (x:=n) lK;simp only[FQ.val]at uD;obtain ⟨f,hf⟩:=am (formOf k.fs n);rw[<-hf]at ot En D2;have hE:=HE.o;rw[<-hf]at hE;have uF:=H2.o.2.2.fs.lt;have tO:=bG ot En D2;clear ot hf
  by_cases jW:so=15
  ·subst jW;rw[aH rfl]at hE;obtain ⟨m,hm⟩:=am (nodesF f);rw[<-hm]at hE;have pp66:=();exact pm66
  rw[aw jW]at hE;have Ja:(so == 15)=false:=by simp[jW]
  by_cases fG:so=16
  ·subst fG;rw[aH rfl]at hE;exact pm68
  rw[aw fG]at hE;have ib:(so == 16)=false:=by simp[fG]
  have qK:=ae hE;have Gs:=HQ.o.2.1;have VV:=ae Gs;clear hE En D2 uD uF Gs;go_enter Tryz.func126,Tryz.ntmps126;go_upto_region 2 with fail;rw[<-gK.o];go_wp2_with fail;clear e0 e1 e2 e3;go_loopw [10,64] (fun r i wr=>∃j:Nat,j<=n1/\i=.int .i64 j/\r=.int .i64 ((eb k.ts (a.take j)+1:Nat):Int)/\Below W2.heap.size W2 wr) (fun _ i _=>n1 - (intOf i).toNat)
  case atStart=>exact ⟨0,bc _,rfl,by simp[eb],ak _ _⟩
  case round=>
   obtain ⟨j,hj,rfl,rfl,ar⟩:=hrel
   by_cases hlt:j<n1
   ·have lx:=cF HN.o hlt;have pp192a:=();exact pm192
   ·obtain rfl:n1=j:=by omega
    have ct:a.take n1=a:=by rw[HN.o];exact cV
    rw[ct];have HK:=ae (H2.o.1.tr ar);clear ar ct;go_wp2;go_ret;exact ⟨by rw[qK.o];rfl,HK.o⟩
 |clear pp33g;obtain rfl:=h_.len;obtain rfl:=lV.len;have kT:=ia _ hs;simp only[kJ,ah,bx]at kT;obtain ⟨n1,dX⟩:=am a.length;obtain ⟨m1,jz⟩:=am ss.length;rw[<-dX]at hq h_;rw[<-jz]at hq;rw[<-dX,<-jz];obtain ⟨R,hR⟩:=am (pk k (.mk so n a ss));have hE:=hR;rw[vD]at hE;rw[<-hR];have xJ:nodesTs a<=400:=by simp only[nodesF]at qJ;omega
  have E':fitTs a:=⟨by omega,dQ (by omega) a kT.2.2.1⟩;have lK:n.length<=2000000:=by have:=kT.2.1;omega
  obtain ⟨W2,bm⟩:=am ((w.alloc (.cells #[.int .u8 so,.string ⟨n.toArray⟩,.slice sa n1 sc,.slice sb m1 se,.int .u8 fo,.string fn,.slice fa fl fc,.slice fb fm fe,.slice ca cl cc] 89)).alloc (.cells #[.int .u8 so,.string ⟨n.toArray⟩,.slice sa n1 sc,.slice sb m1 se] 36));have bD:=lF bm;have x2:=jA bm;have eS:=dS.later bD;obtain ⟨HE,gK⟩:=a_ hE bm;have H2:=bG bD x2 eS;have HQ:=fh (hq.later bD) (h_.later bD) hs E' kT;have HN:=ae dX;have LQ:n1<=2000000:=by have:=g9 a;omega
  have Ow:=ae xJ;clear hE hR hq h_ lV hs E' kT bm bD x2 eS dS dX jz xJ qJ;simp only[PlQ.val,PlQ.cells];have g_:=eM;obtain ⟨e0,e1,e2,e3,_,_,_,_⟩:=dp H2.o.2.1;obtain ⟨⟨g0,g1,g2,g3,g4,g5,g6,g7⟩,ot,En,D2,_,_,uD⟩:=H2.o.2.2.formOf (x:=n) lK;simp only[FQ.val]at uD;obtain ⟨f,hf⟩:=am (formOf k.fs n);rw[<-hf]at ot En D2;have hE:=HE.o;rw[<-hf]at hE;have uF:=H2.o.2.2.fs.lt;have tO:=bG ot En D2;clear ot hf
  by_cases jW:so=15
  ·subst jW;rw[aH rfl]at hE;have pp218:=();exact pm218
  rw[aw jW]at hE;have Ja:(so == 15)=false:=by simp[jW]
  by_cases fG:so=16
  ·subst fG;rw[aH rfl]at hE;have pp276:=();exact pm276
  rw[aw fG]at hE;have ib:(so == 16)=false:=by simp[fG]
  have qK:=ae hE;have Gs:=HQ.o.2.1;have VV:=ae Gs;clear hE En D2 uD uF Gs;go_enter Tryz.func195,Tryz.ntmps195;go_upto_region 2 with fail;rw[<-gK.o];go_wp2_with fail;clear e0 e1 e2 e3;go_loopw [9,64] (fun r i wr=>∃j:Nat,j<=n1/\i=.int .i64 j/\OwnS W2.heap.size wr r (dJ k.ts (a.take j))/\Below W2.heap.size W2 wr) (fun _ i _=>n1 - (intOf i).toNat)
  case atStart=>exact ⟨0,bc _,rfl,OwnS.nil _ _,ak _ _⟩
  case round=>
   obtain ⟨j,hj,rfl,ek,ar⟩:=hrel
   by_cases hlt:j<n1
   ·have lx:=cF HN.o hlt;have pp192b:=();exact pm192
   ·obtain rfl:n1=j:=by omega
    have ct:a.take n1=a:=by rw[HN.o];exact cV
    rw[ct]at ek;have HK:=aG (H2.o.1.tr ar) (ek.base H2.o.1.size);clear ar ek ct;go_wp2;go_ret;exact ⟨⟨_,rfl,by rw[qK.o];exact HK.o.2⟩,HK.o.1⟩
 |clear pp33h;obtain rfl:=h_.len;obtain rfl:=lV.len;subst he;obtain ⟨R,hR⟩:=am (eF k ⟨.mk so n a s,F,ps.reverse⟩);rw[<-hR];have pN:=hR;rw[OZ]at pN;obtain ⟨n1,dX⟩:=am a.length;obtain ⟨m1,jz⟩:=am s.length;rw[<-dX]at hs h_;rw[<-jz]at hs lV;rw[<-dX,<-jz];obtain ⟨W1,bX⟩:=am (W.alloc (.cells #[.int .u8 so,.string ⟨n.toArray⟩,.slice sa n1 sc,.slice sb m1 se,.int .u8 fo,.string fn,.slice fa fl fc,.slice fb fm fe,.slice ca cl cc] 89));have hb1:=cZ bX;have i_:=Fg bX;have x1:=cb bX;have kT:=ia _ hp.s;simp only[kJ,ah,bx]at kT;have rk:=ia _ hp.f;have az:fitF F:=⟨by have:=hp.n;simp only at this;omega,gz (by omega) _ rk⟩;obtain ⟨P0,P1,P2,P3,P4,P5,P6,P7⟩:=AM x1;have P8:=ai x1 8
  by_cases fG:so=16
  ·subst fG;obtain ⟨x,y,fL,Hs,Em,aU⟩:=lP hp rfl;simp only[Fm.a]at fL;simp only at aU;obtain ⟨cW,wC⟩:=am (dc x);rw[aU,<-wC]at pN;rw[aw (by decide)]at pN;simp only at pN;have Gt:=fA Em;have M5:cW.length<=17:=by rw[wC];have:=iy Hs;simp[dc];omega
   have sC:=dS.later hb1;have Fd:=fun (V:World) (h:Below W1.heap.size W1 V)=>e_ (.mk 16 n a s) (by simp[Fm.a,fL]) (by simp[Fm.a,fL]) (fun t ht=>by
    have h2:=eY.1 kT.2.2.1 t (by simpa[Fm.a] using ht);obtain ⟨tv,tn,ta⟩:=t;simp only[jw,ah,bx]at h2;have:=h2.1;simp only;omega) _ V ⟨16,⟨n.toArray⟩,sa,n1,sc,sb,m1,se⟩ ((hs.later hb1).later h)
   simp only[FQ.val]at Fd;rw[aU,<-wC]at Fd;obtain ⟨HIN,HR,HP⟩:=cG Fd pN hp;have HG:=fh QG QF QH VM VN;have HV:=cC hf hc sC (zw.next hb1);have HB:=cC qY pE hl gU;have iR:=ae bX;have H1:=bG hb1 i_ x1;have HF:=fh az kT.2.1 Gt M5 Em;have g0:W1.cell? ⟨kb,0,none⟩=some (.map (some mF)):=ai sC.box 0;have g1:W1.drew.cell? ⟨kb,0,none⟩=some (.map (some mF)):=ai sC.box 0;have g3:W1.drew.cell? ⟨W.heap.size,1,none⟩=some (.string ⟨n.toArray⟩):=P1;have oZ:Below W1.heap.size W1 (W1.alloc (.cells #[.int .u8 0,.string ⟨#[]⟩,.slice none 0 0,.slice none 0 0] 36)):=cJ;obtain ⟨g4,g5⟩:=AN oZ g0 P1;rcases sC.fs.look Tryz.underlying9 Tryz.underlying145 lD (x:=n) (by have:=kT.2.1;omega) with ⟨hg,hlk⟩ | ⟨f,vf,hg,hvf,hlk⟩
   ·have l1:=(hlk W1.drew rfl).1;have pp190:=();exact pm190
   ·obtain ⟨⟨Ec,Ed,Ee,Ef,Eg,Eh,Ei,Ej⟩,rfl,ot,Gm⟩:=hvf;simp only[FQ.val]at hlk;have l1:=(hlk W1.drew rfl).1;exact pm190
  ·have HE:=ae (show R=(k,0) by rw[pN,aH (by simp[fG])]);have cI:(so == 16)=false:=by simp[fG]
   have iR:=ae bX;have OA:=aG hb1 (dS.later hb1);clear pN hR hp QG QF QH VM VN hs hf h_ lV hc dS dX jz qY pE hl gU bX hb1 i_ az kT rk zw qJ x1;exact pm141
 |clear pp33i;obtain rfl:=h_.len;obtain rfl:=lV.len;have kT:=zK (ia _ hs);obtain ⟨n1,dX⟩:=am a.length;obtain ⟨m1,jz⟩:=am ss.length;rw[<-dX]at hq h_;rw[<-jz]at hq lV;rw[<-dX,<-jz];have iO:=dS.later cI;have lK:n.length<=2000000:=by have:=kT.2.1;omega
  obtain ⟨W2,bm⟩:=am ((w.alloc (.cells #[.int .u8 15,.string ⟨n.toArray⟩,.slice sa n1 sc,.slice sb m1 se] 36)).alloc (.cells #[.int .u8 0,.string ⟨#[]⟩,.slice none 0 0,.slice none 0 0] 36));have bD:=lF bm;have ig:=wW bm;have x1:=sQ bm;have x2:=jA bm;have eS:=iO.later bD;have g_:=eM;obtain ⟨RS,DW⟩:=am (cM kd c (.mk 15 n a ss));rw[<-DW];obtain ⟨⟨g0,g1,g2,g3,g4,g5,g6,g7⟩,ot,En,D2,Rj,Rk,uD⟩:=eS.formOf (x:=n) lK;simp only[FQ.val]at uD;obtain ⟨f,hf⟩:=am (formOf kd.fs n);rw[<-hf]at ot En D2 Rj Rk;obtain ⟨S,hS⟩:∃S:World->Prop,S=fun V=>Below W2.heap.size W2 V:=⟨_,rfl⟩;have ff:∀ V,S V->V.cell? ⟨kb,0,none⟩=some (.map (some mF))/\V.cell? ⟨w.heap.size,1,none⟩=some (.string ⟨n.toArray⟩)/\(Instr.lookup 145 (.map (some mF)) (.string ⟨n.toArray⟩) false).run Tryz.prog V=.ok (.agg #[.int .u8 g0,.string g1,.slice g2 g3 g4,.slice g5 g6 g7]) V:=fun V h=>by
   rw[hS]at h;exact ⟨aa h (ai eS.box 0),aa h (ai x1 1),uD V (h.block _ eS.fs.lt)⟩
  have dO:S W2.drew:=by rw[hS];exact (ak _ _).drew
  have hR:RS=f:=by rw[DW,hf];simp only[cM,if_true]
  have lN:=ae (fun (V:World) (h:Below W2.heap.size W2 V)=>nu f En _ V ⟨g0,g1,g2,g3,g4,g5,g6,g7⟩ (ot.later h));have HB:=fh bD ig x1 x2 hR;obtain ⟨gK,dh⟩:=a_ bm hS;simp only[FQ.val]at lN ⊢;clear hS bD ig x1 x2 hR bm DW hf ot En D2 Rj Rk uD eS iO hq h_ lV hL RH OM dX jz cI kT lK hs;go_enter Tryz.func72,Tryz.ntmps72;go_upto_region 1 with fail;rw[<-gK.o];have e0:=ai HB.o.2.2.1 0;go_upto_region 3 with fail;clear e0;refine (wpIn_wide (n:=3)).1 ?_;refine lg S 8 dO fun jp bN=>?_;refine bC 0 21 (.pointer (some ⟨kb,0,none⟩)) rfl bN fun Pr=>?_;simp only[ag];refine bC 1 22 (.pointer (some ⟨kb,0,none⟩)) rfl Pr fun Ps=>?_;simp only[ag];refine bC 2 23 (.pointer (some ⟨kb,0,none⟩)) rfl Ps fun Jw=>?_;simp only[ag];refine c9 3 24 (.map (some mF)) rfl (fun V hX=>by obtain ⟨h0,h1,h2⟩:=ff V hX;go_simp) Jw fun Pt=>?_;simp only[ag];refine bC 4 25 (.pointer (some ⟨w.heap.size,1,none⟩)) rfl Pt fun WR=>?_;simp only[ag];refine c9 5 26 (.string ⟨n.toArray⟩) rfl (fun V hX=>by obtain ⟨h0,h1,h2⟩:=ff V hX;go_simp) WR fun hT5=>?_;simp only[ag];refine c9 6 27 (.agg #[.int .u8 g0,.string g1,.slice g2 g3 g4,.slice g5 g6 g7]) rfl (fun V hX=>by obtain ⟨h0,h1,h2⟩:=ff V hX;go_simp) hT5 fun hT6=>?_;simp only[ag];refine bZ 7 rfl fun K hK=>?_;go_simp;refine aK.2 ((lN.o _ (by have h:=bN;rw[dh.o]at h;exact h)).mono ?_);rintro e w7 ⟨⟨p0,p1,p2,p3,p4,p5,p6,p7⟩,rfl,hp,fw⟩;have H7:=ae (((ak W2.heap.size W2).drew).trans fw);have HP7:=ae hp;have x7:=bR H7.o HB.o.2.2.2.1;have Jz:=ae x7;obtain ⟨e0,e1,e2,e3,z0,z1,z2,z3⟩:=dp x7;refine hK _ _ (fun _=>by rw[dh.o];exact H7.o) (fun _=>?_);clear hK K fw x7 hp;refine bZ 8 rfl fun K hK=>?_;go_simp;refine eN hK ?_;clear hK K;refine kz ?_;go_wp2;have x6:=kP (v0:=.int .u8 p0) (v1:=.string p1) (v2:=.slice p2 p3 p4) (v3:=.slice p5 p6 p7) Jz.o;have k6:=dA (W:=w7) (b:=w.heap.size+1) (v0:=.int .u8 p0) (v1:=.string p1) (v2:=.slice p2 p3 p4) (v3:=.slice p5 p6 p7);obtain ⟨W6,da⟩:=am ((((w7.setCell ⟨w.heap.size+1,0,none⟩ (.int .u8 p0)).setCell ⟨w.heap.size+1,1,none⟩ (.string p1)).setCell ⟨w.heap.size+1,2,none⟩ (.slice p2 p3 p4)).setCell ⟨w.heap.size+1,3,none⟩ (.slice p5 p6 p7));rw[<-da]at x6 k6 ⊢;clear da;have g0:W6.cell? ⟨w.heap.size+1,0,none⟩=some (.int .u8 p0):=ai x6 0;have g1:W6.cell? ⟨w.heap.size+1,1,none⟩=some (.string p1):=ai x6 1;have g2:W6.cell? ⟨w.heap.size+1,2,none⟩=some (.slice p2 p3 p4):=ai x6 2;have g3:W6.cell? ⟨w.heap.size+1,3,none⟩=some (.slice p5 p6 p7):=ai x6 3;have tV:=EG (p:=⟨p0,p1,p2,p3,p4,p5,p6,p7⟩) (B:=w.heap.size+1) (HB.o.1.tr H7.o) (by omega) k6 (HP7.o.move (fun b hok _=>⟨by have:=HB.o.2.1;have h:W2.heap.size<=b:=hok;omega,rfl⟩));refine bJ (v:=FQ.val ⟨p0,p1,p2,p3,p4,p5,p6,p7⟩) (by simp[FQ.val,results,Tryz.results72,go_sem,g0,g1,g2,g3]) rfl ⟨⟨⟨p0,p1,p2,p3,p4,p5,p6,p7⟩,rfl,?_⟩,tV.2⟩;rw[HB.o.2.2.2.2];exact tV.1
 |clear pp33j;obtain rfl:=h_.len;obtain rfl:=lV.len;have kT:=zK (ia _ hs);obtain ⟨n1,dX⟩:=am a.length;obtain ⟨m1,jz⟩:=am ss.length;rw[<-dX]at hq h_;rw[<-jz]at hq lV;rw[<-dX,<-jz];have iO:=dS.later cI;have lK:n.length<=2000000:=by have:=kT.2.1;omega
  obtain ⟨W2,bm⟩:=am ((w.alloc (.cells #[.int .u8 16,.string ⟨n.toArray⟩,.slice sa n1 sc,.slice sb m1 se] 36)).alloc (.cells #[.int .u8 0,.string ⟨#[]⟩,.slice none 0 0,.slice none 0 0] 36));have bD:=lF bm;have ig:=wW bm;have x1:=sQ bm;have x2:=jA bm;have eS:=iO.later bD;have g_:=eM;obtain ⟨RS,DW⟩:=am (cM kd c (.mk 16 n a ss));rw[<-DW];obtain ⟨⟨g0,g1,g2,g3,g4,g5,g6,g7⟩,ot,En,D2,Rj,Rk,uD⟩:=eS.formOf (x:=n) lK;simp only[FQ.val]at uD;obtain ⟨f,hf⟩:=am (formOf kd.fs n);rw[<-hf]at ot En D2 Rj Rk;obtain ⟨x,y,fL,Hs,Em,aU⟩:=js hs;obtain ⟨cW,wC⟩:=am (dc x);have hR:RS=if gY cW f=0 then f else iI cW (termOf kd.ts y) f:=by rw[DW,hf,wC,fL,vH];rfl
  rw[<-wC]at aU;have Gt:=fA Em;have M5:cW.length<=17:=by rw[wC];have:=iy Hs;simp[dc];omega
  have Fd:=e_ (.mk 16 n a ss) (by simp[Fm.a,fL]) (by simp[Fm.a,fL]) (fun t ht=>by
   have h2:=eY.1 kT.2.2.1 t (by simpa[Fm.a] using ht);obtain ⟨tv,tn,ta⟩:=t;simp only[jw,ah,bx]at h2;have:=h2.1;simp only;omega) _ W2 ⟨16,⟨n.toArray⟩,sa,n1,sc,sb,m1,se⟩ (hq.later bD)
  simp only[FQ.val,aU]at Fd;obtain ⟨n0,sd⟩:=am (gY cW f);rw[<-sd]at hR;have Hl:n0<=400:=by have:=ov cW f;omega
  have HB:=fh bD ig x1 x2 hR;have tO:=fh ot En D2 Rj Rk;obtain ⟨HGl,Hr,gK,HIN⟩:=eW uD eS bm Fd;have HY:=bG Gt M5 Hl;have HN0:=ae sd;have Oa:=ae (jc.next (cI.tr bD));clear bD ig x1 x2 hR ot En D2 Rj Rk uD eS bm Fd Gt M5 Hl sd DW hf fL Hs Em aU wC iO hq h_ lV hL RH OM dX jz cI kT lK hs;simp only[FQ.val];obtain ⟨c0,c1,c2,c3⟩:=mm HB.o.2.2.1;go_enter Tryz.func72,Tryz.ntmps72;go_upto_region 1 with fail;rw[<-gK.o];go_upto_region 6 with (go_at_call 96;refine HIN.o.mono ?_;rintro e w4 ⟨rfl,aP⟩;have H4:=ae aP;clear aP);clear c0 c1 c2 c3;have aL:Below w4.heap.size w4 (w4.alloc (.cells #[.int .u8 0,.string ⟨#[]⟩,.slice none 0 0,.slice none 0 0] 36)):=cJ;have oo:=Hr.o.later H4.o;have k0:w4.cell? ⟨kb,0,none⟩=some (.map (some mF)):=ai oo.box 0;have k1:w4.drew.cell? ⟨kb,0,none⟩=some (.map (some mF)):=k0;have x14:=bR H4.o HB.o.2.2.1;have e1:=ai x14 1;have k3:w4.drew.cell? ⟨w.heap.size,1,none⟩=some (.string ⟨n.toArray⟩):=e1;obtain ⟨k4,k5⟩:=AN aL k0 e1;have uF:=oo.fs.lt;have l1:=HGl.o w4.drew (H4.o.block _ Hr.o.fs.lt);have l2:=HGl.o (w4.alloc (.cells #[.int .u8 0,.string ⟨#[]⟩,.slice none 0 0,.slice none 0 0] 36)).drew ((bI _ _ _ uF).trans (H4.o.block _ Hr.o.fs.lt));obtain ⟨W3,ec⟩:=am (w4.alloc (.cells #[.int .u8 g0,.string g1,.slice g2 g3 g4,.slice g5 g6 g7] 36)).drew;have WS:Below w4.heap.size w4 W3:=by rw[ec];exact cJ.drew
  have y3:W3.heap[w4.heap.size]?=some (.cells #[.int .u8 g0,.string g1,.slice g2 g3 g4,.slice g5 g6 g7] 36 (0,0)):=by rw[ec];exact aj rfl
  have H3:=bG (H4.o.tr WS) y3 (Hr.o.later (H4.o.tr WS));clear aL oo x14 e1 uF WS y3;go_region
  all_goals
   rw[<-ec];clear ec l1 l2 k0 k1 k3 k4 k5;have L3:=ae (fun (V:World) (h:Below W3.heap.size W3 V)=>jb cW f tO.o.2.1 _ V ⟨g0,g1,g2,g3,g4,g5,g6,g7⟩ ((tO.o.1.later H3.o.1).later h));have lN:=ae (fun (V:World) (h:Below W3.heap.size W3 V)=>nu f tO.o.2.1 _ V ⟨g0,g1,g2,g3,g4,g5,g6,g7⟩ ((tO.o.1.later H3.o.1).later h));simp only[FQ.val,<-HN0.o]at L3 lN;obtain ⟨j0,j1,j2,j3,_,_,_,_⟩:=dp H3.o.2.1;have Yr:=ae (L3.o W3 (ak _ _))
   by_cases h0:n0=0
   ·have nM:((n0:Int) == 0)=true:=by simp;omega
    have pp144:=();exact pm144
   ·have nM:((n0:Int) == 0)=false:=by simp;omega
    have i_:¬((n0:Int)=0):=by omega
    have ig:decide ((n0:Int)=0)=false:=by simp;omega
    exact pm144
 |obtain rfl:=h_.len;obtain rfl:=lV.len;have kT:=zK (ia _ hs);obtain ⟨n1,dX⟩:=am a.length;obtain ⟨m1,jz⟩:=am ss.length;rw[<-dX]at hq h_;rw[<-jz]at hq lV;rw[<-dX,<-jz];have iO:=dS.later cI;have lK:n.length<=2000000:=by have:=kT.2.1;omega
  obtain ⟨Wa,YJ⟩:=am ((w.alloc (.cells #[.int .u8 so,.string ⟨n.toArray⟩,.slice sa n1 sc,.slice sb m1 se] 36)).alloc (.cells #[.int .u8 0,.string ⟨#[]⟩,.slice none 0 0,.slice none 0 0] 36));have bD:=lF YJ;have ig:=wW YJ;have x1:=sQ YJ;have x2:=jA YJ;have eS:=iO.later bD;have g_:=eM;obtain ⟨RS,DW⟩:=am (cM kd c (.mk so n a ss));rw[<-DW];have Ja:(so == 15)=false:=by simp[jW]
  have ib:(so == 16)=false:=by simp[fG]
  have hfT:∀ t∈a,fitT t:=fun t ht=>⟨by have:=gd ht;simp only[nodesF]at qJ;omega,jC (by omega) t (eY.1 kT.2.2.1 t ht)⟩
  have CF:=Eo w mR kb mF mT nF nT kd iO _ vL L c hL.strs (by omega) OM;have sO:bU so=true->a=[]/\∃g,ss=[g]:=fun h=>(qO hs h).2;have zeq:n1<=400:=by rw[dX];have:=g9 a;simp only[nodesF]at qJ;omega
  have zer:m1<=400:=by rw[jz];have:=pw ss;simp only[nodesF]at qJ;omega
  obtain ⟨W1,bX⟩:=am (Wa.alloc (.cells #[.int .u8 so,.string ⟨n.toArray⟩,.slice none 0 0,.slice none 0 0] 36));have Sg:=cZ bX;have y0:=bR Sg x1;have y1:=bR Sg x2;have y2:W1.heap[w.heap.size+1+1]?=some (.cells #[.int .u8 so,.string ⟨n.toArray⟩,.slice none 0 0,.slice none 0 0] 36 (0,0)):=by rw[bX];exact aj (by rw[ig])
  have Wc:=ae (Fills.start (R:=w.heap.size+1+1) (mk:=fun rr=>#[.int .u8 so,.string ⟨n.toArray⟩,rr,.slice none 0 0]) (Row:=fun r W=>RowT W1.heap.size r ((a.map (cQ kd.ts c)).take 0) W) y2 (RowT.nil _ _));have d_:=ae (bD.tr Sg);obtain ⟨Ln,jo⟩:=a_ y0 y1;have HW:=fh YJ bX ig x1 x2;obtain ⟨d9,fT,HFT,zax,oV,Hq,fS,HQs⟩:=UE h_ lV CF hfT dX jz IH sO;have HL:=cC hL RH OM cI;have HP:=qS hs qJ zaw hsz xS fX;obtain ⟨QI,Tq⟩:=a_ kT DW;have Oa:=ae (jc.next cI);have HQ0:=ae hq;have C_:=aG jW fG;clear h_ lV CF hfT dX jz IH sO hL RH OM cI hs qJ zaw hsz xS fX kT DW jc hq bD ig x1 x2 Sg y0 y1 y2 bX YJ eS iO dS lK;simp only[FQ.val];obtain ⟨c0,c1,c2⟩:=li HW.o.2.2.2.1;rw[HW.o.1]at c0 c1 c2;refine ml Tryz.func72 ?_;simp only[Tryz.ntmps72,Nat.reduceAdd,Nat.reduceSub,kM];gi_wp2;rw[<-HW.o.1,<-HW.o.2.1];clear c0 c1 c2;gi_loopw [66] (fun i wr=>∃k1:Nat,k1<=n1/\i=.int .i64 k1/\∃row,Fills 36 (w.heap.size+1+1) W1.heap.size (fun rr=>#[.int .u8 so,.string ⟨n.toArray⟩,rr,.slice none 0 0]) (fun r W=>RowT W1.heap.size r ((a.map (cQ kd.ts c)).take k1) W) W1 wr row) (fun i _=>n1 - (intOf i).toNat)
  case atStart=>exact ⟨0,bc _,rfl,_,Wc.o⟩
  case round=>
   obtain ⟨k1,hk,rfl,row,hF⟩:=hrel;obtain ⟨DX,NW⟩:∃x,x=wr:=⟨_,rfl⟩;subst NW;have ar:=hF.below d_.o (by omega)
   by_cases hlt:k1<n1
   ·have dy:=cF oV.o hlt;have pp54g:=();exact pm54
   ·obtain rfl:k1=n1:=by omega
    have ct:((a.map (cQ kd.ts c)).take k1).length=k1:=by rw[dM];have:=oV.o;simp;omega
    have jG:(a.map (cQ kd.ts c)).take k1=(a.map (cQ kd.ts c)):=f8 (by have:=oV.o;simp;omega);exact pm111):G:=h
theorem pm34(h:G:=by
 go_wp2_with (go_at_call 91;refine lN.o.mono ?_;rintro e w4 ⟨⟨⟨po,pn,pa,pl,pc,pb,pm,pe⟩,rfl,hp⟩,aP⟩;simp only[Option.isSome]at hp ⊢;rw[<-gK.o]at aP;have bj:Below w4.heap.size w4 (w4.alloc (.cells #[.int .u8 po,.string pn,.slice pa pl pc,.slice pb pm pe] 36)):=cJ;have sk:=eR.o.later (aP.tr bj) (fun r=>r.below (aP.tr bj));have x5:=sk.other (by omega) N0.o;obtain ⟨e0,e1,e2,e3,z0,z1,z2,z3⟩:=dp x5;have H5:=aG (aP.tr bj) x5;clear hp aP bj sk x5);have pp254:=();exact pm254):G:=h
theorem pm35(h:G:=by
 exact pm271):G:=h
theorem pm36(h:G:=by
 obtain ⟨S,hS⟩:∃S:World->Prop,S=fun V=>Below w3.heap.size w3 V:=⟨_,rfl⟩;have ff:∀ V,S V->V.cell? ⟨kb,1,none⟩=some (.map (some mT))/\V.cell? ⟨w.heap.size,1,none⟩=some (.string ⟨n.toArray⟩)/\(Instr.lookup 146 (.map (some mT)) (.string ⟨n.toArray⟩) false).run Tryz.prog V=.ok (.agg #[.bool z0,.string z1,.slice z2 z3 z4]) V:=fun V h=>by
  rw[hS]at h;exact ⟨aa h (ai kQ.box 1),aa h (ai x3 1),zx V (h.block _ bp)⟩
 have dO:S w3.drew:=by rw[hS];exact (ak _ _).drew
 first
 |clear pp36a;have HC:=ae (fun (V:World) (h:Below w3.heap.size w3 V)=>kw _ Gq (by omega) _ V ⟨z0,z1,z2,z3,z4⟩ (hz.later h));simp only[TQ.val]at HC;obtain ⟨m,hm⟩:=am (nodesT (termOf k.ts n));rw[<-hm]at HC qK;have dh:=ae hS;clear hS kQ x3 hz Gq KA zx bp hm e0 e1 e2;refine (wpIn_wide (n:=3)).1 ?_;refine lg S 8 dO fun jp bN=>?_;refine bC 0 15 (.pointer (some ⟨kb,0,none⟩)) rfl bN fun cq=>?_;simp only[ag];refine bC 1 16 (.pointer (some ⟨kb,0,none⟩)) rfl cq fun fI=>?_;simp only[ag];refine bC 2 17 (.pointer (some ⟨kb,1,none⟩)) rfl fI fun gF=>?_;simp only[ag];refine c9 3 18 (.map (some mT)) rfl (fun V hX=>by obtain ⟨h0,h1,h2⟩:=ff V hX;go_simp) gF fun iG=>?_;simp only[ag];refine bC 4 19 (.pointer (some ⟨w.heap.size,1,none⟩)) rfl iG fun jx=>?_;simp only[ag];refine c9 5 20 (.string ⟨n.toArray⟩) rfl (fun V hX=>by obtain ⟨h0,h1,h2⟩:=ff V hX;go_simp) jx fun jM=>?_;simp only[ag];refine c9 6 21 (.agg #[.bool z0,.string z1,.slice z2 z3 z4]) rfl (fun V hX=>by obtain ⟨h0,h1,h2⟩:=ff V hX;go_simp) jM fun mi=>?_;simp only[ag];refine bZ 7 rfl fun K hK=>?_;go_simp;refine aK.2 ((HC.o _ (by have h:=bN;rw[dh.o]at h;exact h)).mono ?_);rintro e w7 ⟨rfl,fw⟩;have H7:=ae (((ak w3.heap.size w3).drew).trans fw);refine hK _ _ (fun _=>by rw[dh.o];exact H7.o) (fun _=>?_);clear hK K fw;refine bZ 8 rfl fun K hK=>?_;go_simp;refine eN hK ?_;clear hK K;refine kz ?_;clear ff dO bN cq fI gF iG jx jM mi jp;go_wp2;go_ret;exact ⟨by rw[qK.o];rfl,(H1.o.1.tr H3.o).tr H7.o⟩
 |clear pp36b;have HC:=ae (fun (V:World) (h:Below w3.heap.size w3 V)=>nL _ Gq _ V ⟨z0,z1,z2,z3,z4⟩ (hz.later h));simp only[TQ.val]at HC;rw[<-HU.o]at HC;have dh:=ae hS;clear hS kQ x3 hz Gq KA zx bp;refine (wpIn_wide (n:=3)).1 ?_;refine lg S 8 dO fun jp bN=>?_;refine bC 0 18 (.pointer (some ⟨kb,0,none⟩)) rfl bN fun cq=>?_;simp only[ag];refine bC 1 19 (.pointer (some ⟨kb,0,none⟩)) rfl cq fun fI=>?_;simp only[ag];refine bC 2 20 (.pointer (some ⟨kb,1,none⟩)) rfl fI fun gF=>?_;simp only[ag];refine c9 3 21 (.map (some mT)) rfl (fun V hX=>by obtain ⟨h0,h1,h2⟩:=ff V hX;go_simp) gF fun iG=>?_;simp only[ag];refine bC 4 22 (.pointer (some ⟨w.heap.size,1,none⟩)) rfl iG fun jx=>?_;simp only[ag];refine c9 5 23 (.string ⟨n.toArray⟩) rfl (fun V hX=>by obtain ⟨h0,h1,h2⟩:=ff V hX;go_simp) jx fun jM=>?_;simp only[ag];refine c9 6 24 (.agg #[.bool z0,.string z1,.slice z2 z3 z4]) rfl (fun V hX=>by obtain ⟨h0,h1,h2⟩:=ff V hX;go_simp) jM fun mi=>?_;simp only[ag];refine bZ 7 rfl fun K hK=>?_;go_simp;refine aK.2 ((HC.o _ (by have h:=bN;rw[dh.o]at h;exact h)).mono ?_);rintro e w7 ⟨⟨pv,pn,pa,pl,pc⟩,rfl,Je,fw⟩;simp only at Je ⊢;have gJ:=((ak w3.heap.size w3).drew).trans fw;have x7:=(gJ.block _ (by omega)).trans bQ.o.2.1;obtain ⟨d0,d1,d2,f0,f1,f2⟩:=gt x7;have Tr:=Je.move (ok':=(w.heap.size+2<=·)) (fun b hok hlt=>⟨by have hzd:w3.drew.heap.size=w3.heap.size:=rfl;simp only at hok ⊢;omega,rfl⟩);have H7:=bG gJ x7 Tr;have hz7:=gJ.size;refine hK _ _ (fun _=>by rw[dh.o];exact H7.o.1) (fun _=>?_);clear hK K fw gJ x7 Je Tr;refine bZ 8 rfl fun K hK=>?_;go_simp;refine eN hK ?_;clear hK K;refine kz ?_;clear ff dO bN cq fI gF iG jx jM mi jp;clear d0 d1 d2 f0 f1 f2;have x6:=pC (v0:=.bool pv) (v1:=.string pn) (v2:=.slice pa pl pc) H7.o.2.1;have k6:=eD (W:=w7) (b:=w.heap.size+1) (v0:=.bool pv) (v1:=.string pn) (v2:=.slice pa pl pc);obtain ⟨W6,da⟩:=am (((w7.setCell ⟨w.heap.size+1,0,none⟩ (.bool pv)).setCell ⟨w.heap.size+1,1,none⟩ (.string pn)).setCell ⟨w.heap.size+1,2,none⟩ (.slice pa pl pc));rw[<-da]at x6 k6 ⊢;clear da;obtain ⟨g0,g1,g2,_⟩:=gt x6;go_wp2;refine bJ (v:=TQ.val ⟨pv,pn,pa,pl,pc⟩) (by simp[TQ.val,results,Tryz.results127,go_sem,g0,g1,g2]) rfl ⟨⟨⟨pv,pn,pa,pl,pc⟩,rfl,H7.o.2.2.move (fun b hok hlt=>⟨by omega,k6.same b hlt (by omega)⟩)⟩,Below.kp1 (bQ.o.1.tr H7.o.1) k6 (by omega)⟩
 |have OO:=lS _ ON;have cm:=aN (e9 (aQ (termOf k.ts n))) (lQ (termOf k.ts n));have HC:=ae (fun (V:World) (h:Below w3.heap.size w3 V)=>ll _ Gq _ V ⟨z0,z1,z2,z3,z4⟩ (hz.later h));simp only[TQ.val]at HC;obtain ⟨m,hm⟩:=am (dF (aQ (termOf k.ts n)));have Jf:∀ x∈m,x.length<=2000000:=fun x hx=>by rw[hm,dH]at hx;exact aN (OO x hx) (by decide)
  have uF:m.length<=2000000:=by rw[hm];omega
  rw[<-hm]at HC qK;have HM:=aG Jf uF;clear Jf uF cm OO;have dh:=ae hS;clear hS kQ x3 hz Gq KA ON zx bp hm e0 e1 e2;refine (wpIn_wide (n:=3)).1 ?_;refine lg S 9 dO fun jp bN=>?_;refine bC 0 15 (.pointer (some ⟨kb,0,none⟩)) rfl bN fun cq=>?_;simp only[ag];refine bC 1 16 (.pointer (some ⟨kb,0,none⟩)) rfl cq fun fI=>?_;simp only[ag];refine bC 2 17 (.pointer (some ⟨kb,1,none⟩)) rfl fI fun gF=>?_;simp only[ag];refine c9 3 18 (.map (some mT)) rfl (fun V hX=>by obtain ⟨h0,h1,h2⟩:=ff V hX;go_simp) gF fun iG=>?_;simp only[ag];refine bC 4 19 (.pointer (some ⟨w.heap.size,1,none⟩)) rfl iG fun jx=>?_;simp only[ag];refine c9 5 20 (.string ⟨n.toArray⟩) rfl (fun V hX=>by obtain ⟨h0,h1,h2⟩:=ff V hX;go_simp) jx fun jM=>?_;simp only[ag];refine c9 6 21 (.agg #[.bool z0,.string z1,.slice z2 z3 z4]) rfl (fun V hX=>by obtain ⟨h0,h1,h2⟩:=ff V hX;go_simp) jM fun mi=>?_;simp only[ag];refine bZ 7 rfl fun K hK=>?_;go_simp;refine aK.2 ((HC.o _ (by have h:=bN;rw[dh.o]at h;exact h)).mono ?_);rintro e w7 ⟨⟨v7,rfl,LS⟩,fw⟩;have H7:=ae (((ak w3.heap.size w3).drew).trans fw);have CH:=qN m HM.o.2 HM.o.1 _ w7 v7 LS.1;have Va:=ae CH;refine hK _ _ (fun _=>by rw[dh.o];exact H7.o) (fun _=>?_);clear hK K fw LS CH;refine bZ 8 rfl fun K hK=>?_;go_simp;refine aK.2 (Va.o.mono ?_);rintro e w8 ⟨⟨v8,rfl,F8⟩,RI⟩;have gJ:Below w3.heap.size w3 w8:=kF (w:=w3) H7.o RI;have H8:=aG gJ F8;refine hK _ _ (fun _=>by rw[dh.o];exact H8.o.1) (fun _=>?_);clear hK K RI gJ F8;refine bZ 9 rfl fun K hK=>?_;go_simp;refine eN hK ?_;clear hK K;refine kz ?_;clear ff dO bN cq fI gF iG jx jM mi jp;go_wp2;go_ret;exact ⟨⟨_,rfl,by rw[qK.o];exact H8.o.2.base (((H1.o.1.tr H3.o)).size)⟩,(H1.o.1.tr H3.o).tr H8.o.1⟩):G:=h
theorem pm37(h:G:=by
 unfold TQ.val at hs;simp only[cE,Array.mk.injEq,cB,and_true,Value.bool.injEq,Value.string.injEq]at hs;obtain ⟨rfl,rfl,rfl⟩:=hs;obtain rfl:=bK.len
 first
 |clear pp37a;have cm:=az.args.len;obtain ⟨d9,mK,fS⟩:=cG bK az.args ih;obtain ⟨k0,cg⟩:=am a.length;rw[<-cg]at cm;have dB:=ae cg;clear hq bK az ih;unfold TQ.val;rw[<-cg];clear cg;refine ml Tryz.func53 ?_;simp only[Tryz.ntmps53,Nat.reduceAdd,Nat.reduceSub,kM];have g_:=eM;gi_wp2;obtain ⟨W1,bX⟩:=am (((w.alloc (.cells #[.bool qv,.string ⟨n.toArray⟩,.slice qa k0 qc] 43)).alloc (.cells #[.bool false,.string ⟨#[]⟩,.slice none 0 0] 43)).alloc (.cells #[.bool qv,.string ⟨n.toArray⟩,.slice none 0 0] 43));have il:=wX bX;have x1:W1.heap[w.heap.size+1]?=some (.cells #[.bool false,.string ⟨#[]⟩,.slice none 0 0] 43 (0,0)):=by rw[bX,bI _ _ _ (by simp)];exact aj (by simp)
  have x2:=pg bX;rw[<-bX];clear bX;obtain ⟨d_,jo⟩:=a_ il x1;have uT:=ae (Fills.start (R:=w.heap.size+1+1) (mk:=fun r=>#[.bool qv,.string ⟨n.toArray⟩,r]) (Row:=fun r W=>RowT W1.heap.size r (a.take 0) W) x2 (RowT.nil _ _));clear il x1 x2;gi_loopw [14] (fun i wr=>∃k:Nat,k<=k0/\i=.int .i64 k/\∃row,Fills 43 (w.heap.size+1+1) W1.heap.size (fun r=>#[.bool qv,.string ⟨n.toArray⟩,r]) (fun r W=>RowT W1.heap.size r (a.take k) W) W1 wr row) (fun i _=>k0 - (intOf i).toNat)
  case atStart=>exact ⟨0,bc _,rfl,_,uT.o⟩
  case round=>
   have pp135b:=();exact pm135
 |clear pp37b;have cm:=az.args.len;have lK:=az.name;obtain ⟨d9,mK,fS⟩:=cG bK az.args ih;obtain ⟨k0,cg⟩:=am a.length;rw[<-cg]at cm;have dB:=ae cg;clear hq bK az ih;unfold TQ.val;rw[<-cg];clear cg
  cases qv with
  | false=>
   have hp:aM (.mk false n a)=.mk false n (a.map aM):=by simp[aM,kD]
   rw[hp];clear hp;exact pm252
  | true=>
   cases hh:dV n with
   | false=>
    have hp:aM (.mk true n a)=.mk true n (a.map aM):=by simp[aM,kD,hh]
    rw[hp];clear hp;have pp12:=();exact pm12
   | true=>
    obtain ⟨r,rfl⟩:∃r,n=63 :: r:=rP (by
     cases h2:(n.head? == some 63)
     ·simp[dV,h2]at hh
     ·rfl)
    have hp:aM (.mk true (63 :: r) a)=.mk true r (a.map aM):=by simp[aM,kD,hh]
    rw[hp];clear hp;obtain ⟨n,hn⟩:=am (63 :: r);rw[<-hn]at hh lK ⊢;have hx:=jh 63 r;have hsz:(⟨n.toArray⟩:ByteArray).size=r.length+1:=by rw[hn,gQ];rfl
    have hx':(⟨n.toArray⟩:ByteArray).extract 1 (r.length+1)=⟨r.toArray⟩:=by rw[hn];exact hx
    have hr1:r.length+1<=2000000:=by rw[hn]at lK;simpa using lK
    clear hx hn;exact pm12
 |clear pp37c;have cm:=az.args.len;have lK:=az.name;have rR:n.length<=1000000000:=by omega
  have o7:=ae hok;have fS:=ae (fun t ht=>ih t ht (az.args.mem ht));have rS:1<=nodesT (.mk qv n a):=jg _;have pi:1<=dj (.mk qv n a):=by unfold dj;omega
  obtain ⟨k0,cg⟩:=am a.length;have HB:=ae (show Below w.heap.size w (w.alloc (.cells #[.bool qv,.string ⟨n.toArray⟩,.slice qa k0 qc] 43)) from cJ);have Ie:JAt J sc left br (w.alloc (.cells #[.bool qv,.string ⟨n.toArray⟩,.slice qa k0 qc] 43)):=hJ.later HB.o;have zbH:J<w.heap.size:=(bz hJ);obtain ⟨d9,HJ⟩:=a_ bK hJ;rw[<-cg]at cm;clear hq bK az ih hok hJ;unfold TQ.val;rw[<-cg];have dB:=ae cg;clear cg
  by_cases Lp:1<=left/\ba<=br
  ·obtain ⟨Ns,S6⟩:=Lp;have C1:=ae (Fy J sc left br ba _ Ie Ns h1 S6);have io:Kp (fun c=>c=J) w ((w.alloc (.cells #[.bool qv,.string ⟨n.toArray⟩,.slice qa k0 qc] 43)).setCell ⟨J,1,none⟩ (.int .i64 (left - 1))):=(Kp.below HB.o).trans (nP _);have wd:=Ie.set (left - 1);have hx:((w.alloc (.cells #[.bool qv,.string ⟨n.toArray⟩,.slice qa k0 qc] 43)).setCell ⟨J,1,none⟩ (.int .i64 (left - 1))).heap[w.heap.size]?=some (.cells #[.bool qv,.string ⟨n.toArray⟩,.slice qa k0 qc] 43 (0,0)):=(ei _ _ _ _ (by show w.heap.size≠J;omega)).trans (aj rfl);have nR:=bG io wd hx;have Nt:TermsV ok ((w.alloc (.cells #[.bool qv,.string ⟨n.toArray⟩,.slice qa k0 qc] 43)).setCell ⟨J,1,none⟩ (.int .i64 (left - 1))) (.slice qa k0 qc) a:=by
    have h:=d9.o.move (ok':=ok) (fun b hb hlt=>⟨hb,io.same b hlt (o7.o b hb)⟩)
    rwa [<-dB.o]at h
   have Y9:=ae Nt;obtain ⟨W2,bm⟩:=am ((w.alloc (.cells #[.bool qv,.string ⟨n.toArray⟩,.slice qa k0 qc] 43)).setCell ⟨J,1,none⟩ (.int .i64 (left - 1)));rw[<-bm]at nR C1 Y9;clear io wd hx Ie d9 Nt bm;have g0:W2.cell? ⟨w.heap.size,0,none⟩=some (.bool qv):=ai nR.o.2.2 0;have g1:W2.cell? ⟨w.heap.size,1,none⟩=some (.string ⟨n.toArray⟩):=ai nR.o.2.2 1;have g2:W2.cell? ⟨w.heap.size,2,none⟩=some (.slice qa k0 qc):=ai nR.o.2.2 2
   cases qv with
   | true=>
    by_cases ha:a=[]
    ·subst ha;have zbI:k0=0:=by rw[dB.o];rfl
     subst zbI;have lM:nodesT (.mk true n [])=1:=rfl;have MR:dj (.mk true n [])=1:=rfl;have hb:(jZ sc (.mk true n []) && (decide ((nodesT (.mk true n []):Int)<=left) && decide (ba+dj (.mk true n [])<=br+1)))=(je n || (sc && cP n)):=by
      rw[lM,MR];have e1:decide (((1:Nat):Int)<=left)=true:=by simp;omega
      have e2:decide (ba+((1:Nat):Int)<=br+1)=true:=by simp;omega
      simp only[jZ,if_true,List.isEmpty_nil,dU,e1,e2,Bool.and_true]
     rw[lM]at hn
     cases hv:je n with
     | true=>
      have CV:=ae (fun w=>hv ▸ ik n w rR);have HE:=ae (hb.trans (by rw[hv] <;> rfl));clear hv hb lM MR rS pi;have pp80a:=();exact pm80
     | false=>
      have CV:=ae (fun w=>hv ▸ ik n w rR)
      cases sc with
      | false=>
       have HE:=ae (hb.trans (by rw[hv] <;> rfl));clear hv hb lM MR rS pi;have pp80b:=();exact pm80
      | true=>
       cases ht:cP n with
       | true=>
        have pp58:=();exact pm58
       | false=>
        exact pm58
    ·have bh:0<k0:=by rw[dB.o];exact iD.2 ha
     have kC:((k0:Int) == 0)=false:=by simp;omega
     have HE:=ae (show (jZ sc (.mk true n a) && (decide ((nodesT (.mk true n a):Int)<=left) && decide (ba+dj (.mk true n a)<=br+1)))=false by
      have:a.isEmpty=false:=by cases a with | nil=>exact absurd rfl ha | cons x y=>rfl
      simp[jZ,this])
     have HN:=ae rS;clear rS pi ha;have pp80c:=();exact pm80
   | false=>
    have lM:nodesT (.mk false n a)=nodesTs a+1:=rfl;have MR:dj (.mk false n a)=bH a+1:=rfl;have hb:(jZ sc (.mk false n a) && (decide ((nodesT (.mk false n a):Int)<=left) && decide (ba+dj (.mk false n a)<=br+1)))=(decide (a.length<=4) && (AJ n && (eu sc a && (decide ((nodesTs a:Int)<=left - 1) && decide (ba+1+bH a<=br+1))))):=by
     rw[lM,MR];have e1:decide (((nodesTs a+1:Nat):Int)<=left)=decide ((nodesTs a:Int)<=left - 1):=by rw[gy];simp;omega
     have e2:decide (ba+((bH a+1:Nat):Int)<=br+1)=decide (ba+1+bH a<=br+1):=by rw[gy];simp;omega
     simp only[jZ,dE,if_false,e1,e2,Bool.and_assoc]
    rw[lM]at hn
    by_cases h4:k0<=4
    ·have h4':((k0:Int)<=4):=by omega
     have d4:decide (a.length<=4)=true:=by rw[<-dB.o];simpa using h4
     rw[d4,dU]at hb
     cases hf:AJ n with
     | false=>
      have CF:=ae (fun w=>hf ▸ lj n w rR);have HE:=ae (hb.trans (by rw[hf] <;> rfl));clear hf hb lM MR rS pi d4;have pp80d:=();exact pm80
     | true=>
      have CF:=ae (fun w=>hf ▸ lj n w rR);rw[hf,dU]at hb;have CJ:=ae (fun w3 (aL:Below W2.heap.size W2 w3)=>sV a fS.o ok J sc (left - 1) br (ba+1) w3 _ _ _ (Y9.o.later aL) o7.o (nR.o.2.1.later aL) (by omega) (by omega) MU (by omega) (by omega) (by omega));obtain ⟨bb,cI⟩:=am (eu sc a && (decide ((nodesTs a:Int)<=left - 1) && decide (ba+1+bH a<=br+1)));rw[<-cI]at hb CJ;have HE:=ae hb;clear hf hb MR rS pi d4 lM cI
      cases bb with
      | true=>
       have pp69:=();exact pm69
      | false=>
       exact pm69
    ·have h4':¬((k0:Int)<=4):=by omega
     have d4:decide (a.length<=4)=false:=by rw[<-dB.o];simpa using h4
     have HE:=ae (hb.trans (by rw[d4] <;> rfl));clear hb lM MR rS pi;have pp80c:=();exact pm80
  ·have C1:=ae (Kh J sc left br ba _ Ie h0 h1 Lp);have HE:=ae (show (jZ sc (.mk qv n a) && (decide ((nodesT (.mk qv n a):Int)<=left) && decide (ba+dj (.mk qv n a)<=br+1)))=false by
    rw[Bool.and_eq_false_iff];right;rw[Bool.and_eq_false_iff]
    by_cases hl:1<=left
    ·right;have UI:¬ba<=br:=fun h=>Lp ⟨hl,h⟩;simp only[decide_eq_false_iff_not];omega
    ·left;simp only[decide_eq_false_iff_not];omega)
   have HJ1:=ae Ie;clear Ie rS pi Lp;have pp80e:=();exact pm80
 |clear pp37d;have em:=az.args.len;have fS:=ae (fun t ht=>ih t ht (az.args.mem ht));obtain ⟨m0,eh⟩:=am a.length;rw[<-eh]at em bK;unfold TQ.val;simp only;rw[<-eh];have gV:=ae eh;obtain ⟨W1,bX⟩:=am (W.alloc (.cells #[.bool qv,.string ⟨n.toArray⟩,.slice qa m0 qc] 43));have il:=cZ bX;have Hi:J pre W1:=hJ pre _ _ (Nw.below il) hj;have HX:Hd (W1.heap[W.heap.size]?=some (.cells #[.bool qv,.string ⟨n.toArray⟩,.slice qa m0 qc] 43 (0,0))):=ae (by rw[bX];exact aj rfl);obtain ⟨fT,AA,iR⟩:=cG bK hM bX;have HL:Hd (W.heap.size<W1.heap.size):=ae (by rw[bX];simp);refine ml Tryz.func214 ?_;simp only[Tryz.ntmps214,Nat.reduceAdd,Nat.reduceSub,kM];have g_:=eM;cases qv
  ·have ly:aQ (.mk false n a)=[] ++ aC a:=by unfold aQ;rfl
   rw[ly]at dn ⊢;have xI:=ae (show J (pre ++ []) W1/\Kp M W W1 from ⟨by simpa using Hi,Kp.below il⟩);obtain ⟨nc,HJ,HY⟩:=cG dn hJ hY;clear hq bK az ih eh hj il Hi hJ hM hY dn ly bX;gi_wp2;rw[<-iR.o];gi_loopw [19] (fun i wr=>∃k:Nat,k<=m0/\i=.int .i64 k/\J (pre ++ ([] ++ aC (a.take k))) wr/\Kp M W wr) (fun i _=>m0 - (intOf i).toNat)
   case atStart=>exact ⟨0,bc _,rfl,by simpa[aC] using xI.o.1,xI.o.2⟩
   case round=>
    have pp193b:=();exact pm193
  ·have ly:aQ (.mk true n a)=[n] ++ aC a:=by unfold aQ;rfl
   rw[ly]at dn ⊢;have sN:=hY pre #[.string ⟨n.toArray⟩] n _ Hi (Kp.below il) rfl (jq dn);obtain ⟨nc,HJ,HY,d_⟩:=eW dn hJ hY il;obtain ⟨fn,tmps,assign,body,hy,FC⟩:=jl 2 sN;rw[bX]at hy FC;clear hq bK az ih eh hj il Hi sN hJ hM hY dn ly bX;gi_wp2;refine FC.mono ?_;rintro e W2 ⟨rfl,wd,io⟩;rw[<-iR.o]at io;have X6:¬M W.heap.size:=fun h=>by have:=AA.o _ h;omega
   have o9:=(io.same W.heap.size HL.o X6).trans HX.o;have p2:W2.cell? ⟨W.heap.size,2,none⟩=some (.slice qa m0 qc):=ai o9 2;have xI:=aG wd ((Kp.below d_.o).trans io);clear wd io o9 FC hy;gi_wp2;clear p2;gi_loopw [19] (fun i wr=>∃k:Nat,k<=m0/\i=.int .i64 k/\J (pre ++ ([n] ++ aC (a.take k))) wr/\Kp M W wr) (fun i _=>m0 - (intOf i).toNat)
   case atStart=>exact ⟨0,bc _,rfl,by simpa[aC] using xI.o.1,xI.o.2⟩
   case round=>
    have pp193c:=();exact pm193
 |clear pp37e;have cm:=az.args.len;have lK:=az.name;obtain ⟨d9,mK,fS,Kw⟩:=eW bK az.args ih cI;obtain ⟨k0,cg⟩:=am a.length;rw[<-cg]at cm;have dB:=ae cg;clear hq bK az ih cI;unfold TQ.val;rw[<-cg];clear cg
  cases qv with
  | false=>
   have hp:fR f (.mk false n a)=.mk false n (a.map (fR f)):=by simp[fR,gH]
   rw[hp];clear hp;exact pm260
  | true=>
   cases rk:f n with
   | none=>
    have hp:fR f (.mk true n a)=.mk true n (a.map (fR f)):=by simp[fR,gH,rk]
    rw[hp];clear hp;have pp20:=();exact pm20
   | some u=>
    have hp:fR f (.mk true n a)=u:=by simp[fR,rk]
    rw[hp];clear hp;have hcu:=hC n u rk;exact pm20
 |clear pp37f;have cm:=az.args.len;have lK:=az.name;obtain ⟨d9,mK,fS,IL,nO⟩:=wV bK az.args ih Q9 cH;obtain ⟨k0,cg⟩:=am a.length;obtain ⟨R,hR⟩:=am (j4 ps.reverse ins (.mk qv n a));rw[<-cg]at cm;have dB:=ae cg;obtain ⟨W3,ec⟩:=am (((w.alloc (.cells q.cells 89)).alloc (.cells #[.bool qv,.string ⟨n.toArray⟩,.slice qa k0 qc] 43)).alloc (.cells #[.bool false,.string ⟨#[]⟩,.slice none 0 0] 43));have aL:=wX ec;have xp:=xZ ec;have xt:=rj ec;have x1:=pg ec;have uz:=Hu ec;rw[<-hR];have HR:=ae hR;have bQ:=aG aL uz;obtain ⟨HXP,jo,xq⟩:=cG xp x1 ec;have p0:=hZ xp;obtain ⟨⟨so,sn,sa,sl,sc,sb,sm,se⟩,⟨fo,fn,fa,fl,fc,fb,fm,fe⟩,ca,cl,cc⟩:=q;simp only[PlQ.cells,PlQ.val,TQ.val]at IL xq p0 ⊢;have t0:W3.cell? ⟨w.heap.size+1,0,none⟩=some (.bool qv):=ai xt 0;have t1:W3.cell? ⟨w.heap.size+1,1,none⟩=some (.string ⟨n.toArray⟩):=ai xt 1;have t2:W3.cell? ⟨w.heap.size+1,2,none⟩=some (.slice qa k0 qc):=ai xt 2;rw[<-cg];clear hq bK az ih Q9 cH cg hR aL uz xp x1 ec
  cases qv with
  | true=>
   have xr:Hd (R=if ins.contains n then some (ap n) else (eX ps.reverse n).map ap):=ae (by rw[HR.o];simp[j4]);clear fS;go_enter Tryz.func94,Tryz.ntmps94;go_wp2_with fail;rw[<-xq.o];have CT:=e7 L IK.o.2.2.1 n okL W3 vL (nO.o.later bQ.o.1);rw[IK.o.2.2.2]at CT;have F2:=ae CT;clear CT
   cases hc:ins.contains n with
   | true=>
    rw[hc]at F2 xr;have HE:=ae (show R=some (ap n) by rw[xr.o];rfl);have HV:=ae (gj n W3);clear hc p0;refine F2.o.mono ?_;rintro e w4 ⟨rfl,rfl⟩;go_wp2_with (go_at_call 131;refine HV.o.mono ?_;rintro e w5 ⟨rfl,bj⟩;have x5:=(bj.block _ (by have:=bQ.o.2;omega)).trans jo.o;obtain ⟨e0,e1,e2,z0,z1,z2⟩:=gt x5;have H5:=aG bj x5;clear bj x5);obtain ⟨W6,da,x6,k6,g0,g1,g2⟩:=tj H5.o.2 (.bool true) (.string ⟨n.toArray⟩) (.slice none 0 0);rw[<-da];refine bJ (v:=.tuple #[TQ.val ⟨true,⟨n.toArray⟩,none,0,0⟩,.bool true]) (by simp[TQ.val,results,Tryz.results94,go_sem,g0,g1,g2]) rfl ⟨⟨⟨true,⟨n.toArray⟩,none,0,0⟩,by rw[HE.o];rfl,fun u hu=>?_⟩,Below.kp1 (bQ.o.1.tr H5.o.1) k6 (by omega)⟩;rw[HE.o]at hu;cases hu;exact aV.2 ⟨_,rfl,cf⟩
   | false=>
    rw[hc]at F2 xr;have pN:R=(eX ps.reverse n).map ap:=by rw[xr.o];rfl
    have CN:=A_ ⟨⟨so,sn,sa,sl,sc,sb,sm,se⟩,⟨fo,fn,fa,fl,fc,fb,fm,fe⟩,ca,cl,cc⟩ ps IK.o.1 IK.o.2.1 n W3 (IL.o.later bQ.o.1);simp only[PlQ.cells,PlQ.val]at CN;obtain ⟨nm,dG⟩:=am ((eX ps.reverse n).getD []);obtain ⟨bb,cI⟩:=am (eX ps.reverse n).isSome;rw[<-dG,<-cI]at CN;have hE:R.isSome=bb/\∀ u,R=some u->u=ap nm:=by
     rw[pN,dG,cI]
     cases eX ps.reverse n with
     | none=>exact ⟨rfl,fun u h=>by cases h⟩
     | some y=>exact ⟨rfl,fun u h=>by simp at h;exact h.symm⟩
    have HE:=ae hE;have HV:=ae (fun w=>gj nm w);have HCN:=ae CN;clear hc pN dG cI hE CN;refine F2.o.mono ?_;rintro e w4 ⟨rfl,rfl⟩;obtain ⟨p0,p1,p2,p3,p4,p5,p6,p7,p8⟩:=p0;go_wp2_with (first | (go_at_call 161;refine HCN.o.mono ?_;rintro e w5 ⟨rfl,bj⟩;have wn:=ae bj;clear bj) | (go_at_call 131;refine (HV.o _).mono ?_;rintro e w6 ⟨rfl,cR⟩;have kl:=wn.o.tr cR;have x5:=(kl.block _ (by have:=bQ.o.2;omega)).trans jo.o;obtain ⟨e0,e1,e2,z0,z1,z2⟩:=gt x5;have H5:=aG kl x5;clear cR kl x5));obtain ⟨W6,da,x6,k6,g0,g1,g2⟩:=tj H5.o.2 (.bool true) (.string ⟨nm.toArray⟩) (.slice none 0 0);rw[<-da];refine bJ (v:=.tuple #[TQ.val ⟨true,⟨nm.toArray⟩,none,0,0⟩,.bool bb]) (by simp[TQ.val,results,Tryz.results94,go_sem,g0,g1,g2]) rfl ⟨⟨⟨true,⟨nm.toArray⟩,none,0,0⟩,by rw[HE.o.1];rfl,fun u hu=>?_⟩,Below.kp1 (bQ.o.1.tr H5.o.1) k6 (by omega)⟩;rw[HE.o.2 u hu];exact aV.2 ⟨_,rfl,cf⟩
  | false=>
   have xr:Hd (R=(gP ps.reverse ins a).map (Tm.mk false n)):=ae (by rw[HR.o];simp[j4]);go_enter Tryz.func94,Tryz.ntmps94;obtain ⟨p0,p1,p2,p3,p4,p5,p6,p7,p8⟩:=p0;go_wp2;rw[<-xq.o];obtain ⟨W1,bX⟩:=am (W3.alloc (.cells #[.bool false,.string ⟨n.toArray⟩,.slice none 0 0] 43));have Bb:=cZ bX;have Zm:W1.heap[w.heap.size+1+1+1]?=some (.cells #[.bool false,.string ⟨n.toArray⟩,.slice none 0 0] 43 (0,0)):=by rw[bX];exact aj (by have:=bQ.o.2;omega)
   rw[<-bX];have iP:W1.heap.size=w.heap.size+4:=by rw[bX];have:=bQ.o.2;simp;omega
   have uT:=ae (Fills.start (R:=w.heap.size+1+1+1) (mk:=fun rr=>#[.bool false,.string ⟨n.toArray⟩,rr]) (Row:=fun r W=>RowT W1.heap.size r ([]:List Tm) W) Zm (RowT.nil _ _));have d_:=aG (bQ.o.1.tr Bb) iP;have NV:=ae (bR Bb HXP.o);have LK:=ae (bR Bb jo.o);clear bX Bb Zm iP p0 p1 p2 p3 p4 p5 p6 p7 p8 t0 t1 t2;go_loopw [40] (fun i wr=>∃k:Nat,k<=k0/\i=.int .i64 k/\∃row us,Fills 43 (w.heap.size+1+1+1) W1.heap.size (fun rr=>#[.bool false,.string ⟨n.toArray⟩,rr]) (fun r W=>RowT W1.heap.size r us W) W1 wr row/\gP ps.reverse ins (a.take k)=some us/\us.length=k) (fun i _=>k0 - (intOf i).toNat)
   case atStart=>exact ⟨0,bc _,rfl,_,[],uT.o,by simp[gP],rfl⟩
   case round=>
    obtain ⟨k,hk,rfl,row,us,hF,yW,Bc⟩:=hrel;have ar:=hF.below d_.o.1 (by omega);obtain ⟨ra,rc,rfl⟩:=hF.row.slice;rw[Bc]at hF
    by_cases hlt:k<k0
    ·have dy:=cF dB.o hlt;have pp54i:=();exact pm54
    ·obtain rfl:k=k0:=by omega
     have jG:a.take k=a:=by rw[dB.o];exact cV
     rw[jG]at yW;have HE:=ae (show R=some (.mk false n us) by rw[xr.o,yW];rfl);have sg:=ae hF.row;have x2:=hF.box;have x1:=hF.other (by omega) LK.o;have c0:wr.cell? ⟨w.heap.size+1+1+1,0,none⟩=some (.bool false):=ai x2 0;have c1:wr.cell? ⟨w.heap.size+1+1+1,1,none⟩=some (.string ⟨n.toArray⟩):=ai x2 1;have c2:wr.cell? ⟨w.heap.size+1+1+1,2,none⟩=some (.slice ra k rc):=ai x2 2;obtain ⟨e0,e1,e2,z0,z1,z2⟩:=gt x1;have HX:=aG x1 ar;clear hF x1 x2 yW jG ar;go_wp2;obtain ⟨W6,da,x6,k6,g0,g1,g2⟩:=tj HX.o.1 (.bool false) (.string ⟨n.toArray⟩) (.slice ra k rc);rw[<-da];have Zn:=sg.o.kp1 k6 (by have:=d_.o.2;omega);have h6:TermV (w.heap.size<=·) W6 (TQ.val ⟨false,⟨n.toArray⟩,ra,k,rc⟩) (.mk false n us):=RowT.term (v:=false) (n:=n) (l:=k) Zn (by have:=d_.o.2;omega);refine bJ (v:=.tuple #[TQ.val ⟨false,⟨n.toArray⟩,ra,k,rc⟩,.bool true]) (by simp[TQ.val,results,Tryz.results94,go_sem,g0,g1,g2]) rfl ⟨⟨⟨false,⟨n.toArray⟩,ra,k,rc⟩,by rw[HE.o];rfl,fun u hu=>by rw[HE.o]at hu;cases hu;exact h6⟩,Below.kp1 HX.o.2 k6 (by omega)⟩
 |clear pp37g;have em:=az.args.len;have fS:=ae (fun t ht=>ih t ht (az.args.mem ht));obtain ⟨m0,eh⟩:=am a.length;rw[<-eh]at em bK;unfold TQ.val;simp only;rw[<-eh];have gV:=ae eh;obtain ⟨W1,bX⟩:=am (W.alloc (.cells #[.bool qv,.string ⟨n.toArray⟩,.slice qa m0 qc] 43));have il:=cZ bX;have Hi:J pre W1:=hJ pre _ _ (Nw.below il) hj;have HX:Hd (W1.heap[W.heap.size]?=some (.cells #[.bool qv,.string ⟨n.toArray⟩,.slice qa m0 qc] 43 (0,0))):=ae (by rw[bX];exact aj rfl);obtain ⟨fT,AA,iR⟩:=cG bK hM bX;have HL:Hd (W.heap.size<W1.heap.size):=ae (by rw[bX];simp);obtain ⟨HG,HJ⟩:=a_ hG hJ;obtain ⟨p0,mZ⟩:∃p0:List Str,p0=(if qv then [n] else []):=⟨_,rfl⟩;have ly:aQ (.mk qv n a)=p0 ++ aC a:=by unfold aQ;rw[mZ];cases qv <;> rfl
  rw[ly]at dn ⊢;have nc:=ae dn;go_enter Tryz.func214,Tryz.ntmps214;cases qv
  ·simp only[dE,if_false]at mZ;subst mZ;have xI:=ae (show J (pre ++ []) W1/\Kp M W W1 from ⟨by simpa using Hi,Kp.below il⟩);clear hq bK az ih eh hj il Hi hJ hM hG dn ly bX;go_wp2;rw[<-iR.o];go_loopw [19] (fun i wr=>∃k:Nat,k<=m0/\i=.int .i64 k/\J (pre ++ ([] ++ aC (a.take k))) wr/\Kp M W wr) (fun i _=>m0 - (intOf i).toNat)
   case atStart=>exact ⟨0,bc _,rfl,by simpa[aC] using xI.o.1,xI.o.2⟩
   case round=>
    have pp193d:=();exact pm193
  ·simp only[if_true]at mZ;subst mZ;have C1:=hG pre n _ Hi (jq dn);obtain ⟨B_,d_⟩:=a_ C1 il;clear hq bK az ih eh hj il Hi hJ hM hG dn ly bX C1;go_wp2_with (rw[<-iR.o];go_at_call 213;refine B_.o.mono ?_;rintro e W2 ⟨rfl,wd,io⟩;have X6:¬M W.heap.size:=(fun h=>absurd (AA.o _ h) (Nat.lt_irrefl _));have o9:=(io.same W.heap.size HL.o X6).trans HX.o;have p2:W2.cell? ⟨W.heap.size,2,none⟩=some (.slice qa m0 qc):=ai o9 2;have xI:=aG wd ((Kp.below d_.o).trans io);clear wd io o9 X6);clear p2;go_loopw [19] (fun i wr=>∃k:Nat,k<=m0/\i=.int .i64 k/\J (pre ++ ([n] ++ aC (a.take k))) wr/\Kp M W wr) (fun i _=>m0 - (intOf i).toNat)
   case atStart=>exact ⟨0,bc _,rfl,by simpa[aC] using xI.o.1,xI.o.2⟩
   case round=>
    have pp193e:=();exact pm193
 |clear pp37h;have CL:=fun (W:World) (hb:Below w.heap.size w W)=>rB a az.args (fun t ht=>ih t ht (az.args.mem ht)) ok W qa _ qc (bK.later hb);obtain ⟨k0,cg⟩:=am a.length;rw[<-cg]at CL;obtain ⟨X8,dB⟩:=a_ CL cg;clear hq bK az ih CL;unfold TQ.val;rw[<-cg];clear cg;refine ml Tryz.func107 ?_;simp only[Tryz.ntmps107,Nat.reduceAdd,Nat.reduceSub,kM];have g_:=eM;gi_wp2;obtain ⟨W2,bm⟩:=am ((w.alloc (.cells #[.bool qv,.string ⟨n.toArray⟩,.slice qa k0 qc] 43)).alloc (.cells #[.bool false,.string ⟨#[]⟩,.slice none 0 0] 43));have fF:=lF bm;have x0:=sQ bm;have x1:=jA bm;rw[<-bm];clear bm;obtain ⟨S,hS⟩:∃S:World->Prop,S=fun V=>Below W2.heap.size W2 V:=⟨_,rfl⟩;have f0:∀ V,S V->V.cell? ⟨w.heap.size,0,none⟩=some (.bool qv)/\V.cell? ⟨w.heap.size,1,none⟩=some (.string ⟨n.toArray⟩)/\V.cell? ⟨w.heap.size,2,none⟩=some (.slice qa k0 qc):=fun V h=>by rw[hS]at h;exact ⟨aa h (ai x0 0),aa h (ai x0 1),aa h (ai x0 2)⟩
  have dO:S W2.drew:=by rw[hS];exact (ak _ _).drew
  obtain ⟨dh,cO,jo⟩:=cG hS fF x1;clear hS fF x0 x1;refine lg S 8 dO fun jp bN=>?_;refine bC 0 3 (.pointer (some ⟨w.heap.size,0,none⟩)) rfl bN fun cq=>?_;simp only[ag];refine c9 1 4 (.bool qv) rfl (fun V hX=>by obtain ⟨g0,g1,g2⟩:=f0 V hX;go_simp) cq fun fI=>?_;simp only[ag];refine bC 2 5 (.pointer (some ⟨w.heap.size,1,none⟩)) rfl fI fun gF=>?_;simp only[ag];refine c9 3 6 (.string ⟨n.toArray⟩) rfl (fun V hX=>by obtain ⟨g0,g1,g2⟩:=f0 V hX;go_simp) gF fun iG=>?_;simp only[ag];refine bC 4 7 (.pointer (some ⟨w.heap.size,2,none⟩)) rfl iG fun jx=>?_;simp only[ag];refine c9 5 8 (.slice qa k0 qc) rfl (fun V hX=>by obtain ⟨g0,g1,g2⟩:=f0 V hX;go_simp) jx fun jM=>?_;simp only[ag];refine bZ 6 rfl fun K hK=>?_;go_simp;refine aK.2 ((X8.o W2.drew (cO.o.drew)).mono ?_);rintro _ A ⟨ra,rc,rfl,hp,hA⟩;have cv:Below W2.heap.size W2 A:=((ak W2.heap.size W2).drew).trans hA;have HP:=aG hp cv;refine hK _ _ (fun _=>by rw[dh.o];exact cv) (fun _=>?_);clear hK K hA;refine bZ 7 rfl fun K hK=>?_;go_simp;refine hK _ _ (fun _=>by rw[dh.o];exact HP.o.2) (fun _=>?_);clear hK K;refine bZ 8 rfl fun K hK=>?_;have y1:=bR HP.o.2 jo.o;obtain ⟨e0,e1,e2⟩:=li y1;have z0:=af y1 0;have z1:=af y1 1;have z2:=af y1 2;have UQ:=ae y1;clear y1 hp cv;go_simp;refine eN hK ?_;clear hK K;refine kz ?_;gi_wp2;have x6:=pC (v0:=.bool qv) (v1:=.string ⟨n.toArray⟩) (v2:=.slice ra k0 rc) UQ.o;have k6:=eD (W:=A) (b:=w.heap.size+1) (v0:=.bool qv) (v1:=.string ⟨n.toArray⟩) (v2:=.slice ra k0 rc);obtain ⟨W6,da⟩:=am (((A.setCell ⟨w.heap.size+1,0,none⟩ (.bool qv)).setCell ⟨w.heap.size+1,1,none⟩ (.string ⟨n.toArray⟩)).setCell ⟨w.heap.size+1,2,none⟩ (.slice ra k0 rc));rw[<-da]at x6 k6 ⊢;clear da;have g0:W6.cell? ⟨w.heap.size+1,0,none⟩=some (.bool qv):=ai x6 0;have g1:W6.cell? ⟨w.heap.size+1,1,none⟩=some (.string ⟨n.toArray⟩):=ai x6 1;have g2:W6.cell? ⟨w.heap.size+1,2,none⟩=some (.slice ra k0 rc):=ai x6 2;have hz:=(bz jo.o);obtain ⟨hp,cv⟩:=HP.o;have ze:TermsV (w.heap.size<=·) W6 (.slice ra k0 rc) a:=hp.move (fun b hok hlt=>⟨aN cO.o.size hok,k6.same b hlt (by have:W2.heap.size<=b:=hok;omega)⟩);refine bJ (v:=TQ.val ⟨qv,⟨n.toArray⟩,ra,k0,rc⟩) (by simp[TQ.val,results,Tryz.results107,go_sem,g0,g1,g2]) rfl ⟨⟨qv,⟨n.toArray⟩,ra,k0,rc⟩,rfl,aV.2 ⟨_,rfl,ze⟩,Below.kp1 (cO.o.trans (cv.mono cO.o.size)) k6 (by omega)⟩
 |have cm:=az.args.len;have lK:=az.name;obtain ⟨d9,mK,fS,Kw⟩:=eW bK az.args ih cI;obtain ⟨k0,cg⟩:=am a.length;rw[<-cg]at cm;have dB:=ae cg;clear hq bK az ih cI;unfold TQ.val;rw[<-cg];clear cg
  cases qv with
  | false=>
   have hp:cQ kd.ts sc (.mk false n a)=.mk false n (a.map (cQ kd.ts sc)):=by simp[cQ,ow]
   rw[hp];clear hp;have pp225:=();exact pm225
  | true=>
   obtain ⟨X,hX⟩:=am ((w.alloc (.cells #[.bool true,.string ⟨n.toArray⟩,.slice qa k0 qc] 43)).alloc (.cells #[.bool false,.string ⟨#[]⟩,.slice none 0 0] 43));have NQ:=lF hX;have y1:=jA hX;have y0:=sQ hX;have sN:=wW hX;have sr:=ae (jF n X (by omega));have HY:=fh NQ y1 y0 sN (Kw.o.tr NQ);have HX:=ae hX;clear NQ y1 y0 sN hX
   cases nD:dC n with
   | false=>
    rw[nD]at sr
    cases ws:sc.contains n with
    | false=>
     have hp:cQ kd.ts sc (.mk true n a)=.mk true n (a.map (cQ kd.ts sc)):=by
      have h2:¬n∈sc:=by simpa using ws
      simp[cQ,ow,nD,h2]
     have pp125:=();exact pm125
    | true=>
     have hp:cQ kd.ts sc (.mk true n a)=ap (dc n):=by
      have h2:n∈sc:=by simpa using ws
      simp[cQ,nD,h2]
     exact pm125
   | true=>
    rw[nD]at sr;have hp:cQ kd.ts sc (.mk true n a)=termOf kd.ts n:=by simp[cQ,nD]
    rw[hp];clear hp nD;obtain ⟨u,hu⟩:=am (termOf kd.ts n);rw[<-hu];have HU:=ae hu;clear hu;have g_:=eM;obtain ⟨e0,e1,e2,_⟩:=gt HY.o.2.2.1;rw[HX.o]at e0 e1 e2;go_enter Tryz.func127,Tryz.ntmps127;go_upto_region 1 with fail;go_upto_region 2 with (go_at_call 119;rw[<-HX.o];refine sr.o.mono ?_;rintro e w3 ⟨rfl,aL⟩;have y1:=(aL.block _ (by have:=HY.o.2.2.2.1;omega)).trans HY.o.2.1;have y0:=(aL.block _ (by have:=HY.o.2.2.2.1;omega)).trans HY.o.2.2.1;have oR:=aL.size;have oT:=HY.o.2.2.2.1;have Iz:w.heap.size+2<=w3.heap.size:=(by omega);have bQ:=cC (HY.o.1.tr aL) y1 y0 (HY.o.2.2.2.2.tr aL);clear aL oR oT y1 y0);clear e0 e1 e2;have kQ:=Hr.o.later bQ.o.2.2.2;obtain ⟨⟨z0,z1,z2,z3,z4⟩,hz,Gq,KA,_,_,zx⟩:=kQ.termOf (x:=n) lK;simp only[TQ.val]at zx;have bp:=kQ.ts.lt;have x3:=bQ.o.2.2.1;have pp36b:=();exact pm36):G:=h
theorem pm38(h:G:=by
 rintro D X hD ⟨k',wB,tI,h1,h2,h3,h4,h5,h6,h7,h8⟩ _ hd;have WE:=TK.o;rw[h1,aH rfl]at WE;have I9:=pP s f [];have Jb:Kp M mj X:=gM.o.2.2.2.1.trans ((Kp.below gM.o.1).trans h8);have jS:Marks mS.heap.size X ({ target:=.collected D,args:=#[] } :: WA):=gM.o.2.2.1.more (w':=X) (fun E hE hx=>(h8.same E (bz hx) (fun hm=>by have:=sP.o.2.2.2.2.1 E hm;omega)).trans hx) hD (by have:=gM.o;omega) hd;have HZ:=ae (QS Jb jS h6 h7 h2 h5 WE);have Pf:=ae (show wB<=nF+(j+1) * 400/\tI<=nT+(j+1) * 160000 by have:=uE.o.1;have:=uE.o.2.1;have:=uE.o.2.2.1;omega);clear h1 h2 h3 h4 h5 h6 h7 h8 WE I9 Jb jS hd;gi_wp2;refine RoundEnd.mk ?hT ?hr ?hm
 case hT=>kernel_rfl
 case hr=>
  refine ⟨j+1,by omega,by kernel_rfl,HZ.o.2.1,HZ.o.1,HZ.o.2.2.1,HZ.o.2.2.2.1,k',wB,tI,HZ.o.2.2.2.2.1,Pf.o.1,Pf.o.2,HZ.o.2.2.2.2.2.1,HZ.o.2.2.2.2.2.2⟩
 case hm=>
  refine (show n1 - (intOf (Value.int IntKind.i64 (((j+1:Nat)):Int))).toNat<n1 - (intOf (Value.int IntKind.i64 (j:Int))).toNat from ?_);simp[intOf];omega):G:=h
theorem pm39(h:G:=by
 exact pm94):G:=h
theorem pm40(h:G:=by
 refine c9 1 93 (.agg #[.int .u8 so,.string sn,.slice sa sl sc,.slice sb sm se,.int .u8 fo,.string fn,.slice fa fl fc,.slice fb fm fe,.slice ca cl cc]) rfl (fun V hX=>by obtain ⟨h0,h1,h2,h3,h4,h5,h6,h7,h8⟩:=pp V hX;go_simp) cq fun fI=>?_;simp only[ag];refine c9 2 94 (.agg #[.bool xv,.string xn,.slice xa xl xc]) rfl (fun V hX=>by obtain ⟨h0,h1,h2⟩:=tt V hX;go_simp) fI fun gF=>?_;simp only[ag];refine bC 3 95 (.pointer (some ⟨W.heap.size+1+1,2,none⟩)) rfl gF fun iG=>?_;simp only[ag];refine c9 4 96 (.slice (some ⟨b2,o2,none⟩) n1 uc) rfl (fun V hX=>by have h0:=uu V hX;go_simp) iG fun jx=>?_;simp only[ag];refine bC 5 97 (.int .i64 (j:Int)) rfl jx fun jM=>?_;simp only[ag];refine bC 6 98 (.pointer (some ⟨b2,o2+j * 3,none⟩)) rfl jM fun mi=>?_;simp only[ag];refine c9 7 99 (.agg #[.bool yv,.string yn,.slice ya yl yc]) rfl (fun V hX=>by obtain ⟨h0,h1,h2⟩:=yy V hX;go_simp) mi fun rA=>?_;simp only[ag]
 first
 |clear pp40;refine bZ 8 rfl fun K hK=>?_
  go_simp;refine aK.2 (HC.o.mono ?_);rintro e w7 ⟨nz,r,rfl,f_,_⟩;obtain rfl:=f_ (by simp);have H7:=ae nz;clear nz f_;refine eN hK ?_;clear hK K;refine bZ 9 rfl fun K hK=>?_;go_simp;refine eN hK ?_;clear hK K;refine kz ?_;clear pp tt uu yy dO bN jp;go_wp2;go_ret;exact ⟨((Kp.below H3.o.1).trans HK.o.1).trans H7.o,false,rfl,(fun _=>rfl),(fun ts fX=>by rw[I7.o]at fX;cases fX)⟩
 |refine bZ 8 rfl fun K hK=>?_
  go_simp;refine aK.2 (HC.o.mono ?_);rintro e w7 ⟨nz,r,rfl,_,TE⟩;obtain ⟨rfl,Z6,TF,zm⟩:=TE _ rfl;have H7:=bG nz TF zm;clear nz TE TF zm;refine eN hK ?_;clear hK K;refine bZ 9 rfl fun K hK=>?_;go_simp;refine eN hK ?_;clear hK K;refine kz ?_;clear pp tt uu yy dO bN jp;go_wp2;go_roundw
  case rel=>exact ⟨j+1,Z6,ts0,by omega,by go_num,HK.o.1.trans H7.o.1,by have:=H7.o.2.1;have:=HK.o.2;omega,H7.o.2.2,I7.o⟩
  case measure=>simp[intOf];omega):G:=h
theorem pm41(h:G:=by
 have HE:Hd (BX=false):=ae (hM.trans (by simp));clear hM rS pi AF cI;exact pm63):G:=h
theorem pm42(h:G:=by
 have hs:=hb.size;refine ⟨qs ++ [(x,q)],by simp[hk],by rw[List.flatMap_append];simpa using aR,fun j h1 h2=>?_⟩
 by_cases hj:j<qs.length
 ·rw[List.getElem_append_left hj,List.getElem_append_left (by omega)];refine ⟨(ht j hj (by omega)).1,(ht j hj (by omega)).2.move (fun b hok hlt=>⟨⟨hok.1,fun e=>?_⟩,(hold b hok.1 (by omega) hok.2).trans (hb.block b hlt)⟩)⟩;injection e with e;obtain rfl:g=b:=e;rcases hg with hg | hg
  ·exact hok.2 hg
  ·omega
 ·have qw:j=ts.length:=by simp at h2;omega
  have pp131b:=();exact pm131):G:=h
theorem pm43(h:G:=by
 go_enter Tryz.func239,Tryz.ntmps239;go_wp2
 first
 |clear pp43a;go_quiet ((first | (go_at_call 240;exact fv (CR.o _)) | (go_at_call 190;exact fv (CF.o _))));go_wp2;go_ret;exact ⟨aO (pB (by rw[na h1];exact HF.o)).symm,⟨_,rfl⟩⟩
 |clear pp43b;go_quiet ((first | (go_at_call 240;exact fv (CR.o _)) | (go_at_call 190;exact fv (CF.o _))));exact pm23
 |clear pp43c;go_quiet ((go_at_call 240;exact fv (CR.o _)));go_wp2;go_ret;exact ⟨aO (uQ HR.o).symm,⟨_,rfl⟩⟩
 |clear pp43d;go_quiet (fail);go_wp2;go_ret;exact ⟨aO (lw (by rw[jD];omega)).symm,⟨_,rfl⟩⟩
 |clear pp43e;go_quiet ((first | (go_at_call 240;exact fv (CR.o _)) | (go_at_call 216;exact fv (CF.o _))));go_wp2;go_ret;exact ⟨aO (pB (by rw[na h1];exact HF.o)).symm,⟨_,rfl⟩⟩
 |clear pp43f;go_quiet ((first | (go_at_call 240;exact fv (CR.o _)) | (go_at_call 216;exact fv (CF.o _))));go_wp2;go_loopw [5] (fun i wr=>∃k:Nat,1<=k/\k<=s.size/\i=.int .i64 k/\kY AO (s.data.toList.take k).tail=true/\∃n,wr=w.drewN n) (fun i _=>s.size - (intOf i).toNat)
  case atStart=>exact ⟨1,aI _,h1,rfl,by rw[List.take_one];cases s.data.toList <;> simp[kY],⟨_,rfl⟩⟩
  case round=>
   obtain ⟨k,kC,hk,rfl,ha,hw⟩:=hrel;have Hh:wr.cell? ⟨b2,0,none⟩=some (.func (.func 217) #[] #[]):=by obtain ⟨n,rfl⟩:=hw;exact B8
   obtain ⟨HA,HW⟩:=a_ ha hw;clear ha d1 d2 hw UO B8
   by_cases hlt:k<s.size
   ·cases hp:AO s[k].toNat
    ·have HP:=ae hp;have pp239:=();exact pm239
    ·have HP:=ae hp;exact pm239
   ·obtain rfl:k=s.size:=by omega
    exact pm255
 |clear pp43g;go_quiet ((first | (go_at_call 240;exact fv (CR.o _)) | (go_at_call 188;exact fv (CF.o _))));go_wp2;go_ret;exact ⟨aO (pB (by rw[na h1];exact HF.o)).symm,⟨_,rfl⟩⟩
 |go_quiet ((first | (go_at_call 240;exact fv (CR.o _)) | (go_at_call 188;exact fv (CF.o _))));exact pm23):G:=h
theorem pm44(h:G:=by
 exact pm181):G:=h
theorem pm45(h:G:=by
 have hs:=hb.size;exact pm279):G:=h
theorem pm46(h:G:=by
 obtain ⟨iQ,DF⟩:=am wr;subst DF;have Gf:=ae (kL.o.trans (e8.mono kL.o.size));have Gg:=ae (bR e8 uI.o);have Z7:=ae (bR e8 xP.o);have Z8:=ae (AE.o.later e8);have x0:iQ.cell? ⟨w.heap.size,0,none⟩=some (.int .u8 uo):=ai Gg.o 0;have x1:iQ.cell? ⟨w.heap.size,1,none⟩=some (.string ⟨xn.toArray⟩):=ai Gg.o 1;have x2:iQ.cell? ⟨w.heap.size,2,none⟩=some (.slice ua k0 uc):=ai Gg.o 2;have x3:iQ.cell? ⟨w.heap.size,3,none⟩=some (.slice ub k1 ue):=ai Gg.o 3;clear e8 ht uI xP AE kL;go_wp2_with (go_at_call 93;refine (TH.o _).mono ?_;rintro e X4 ⟨rfl,aP⟩;have uI:=ae (bR aP Gg.o);have xP:=ae (bR aP Z7.o);have AE:=ae (Z8.o.later aP);have kL:=ae (Gf.o.trans (aP.mono Gf.o.size));have z3:X4.cell? ⟨w.heap.size,3,none⟩=some (.slice ub k1 ue):=ai uI.o 3;clear aP)
 first
 |clear pp46;go_loopw [80] (fun i wr=>∃k:Nat,k<=k1/\i=.int .i64 k/\Below X4.heap.size X4 wr/\R=dI ps.reverse (xs.drop k) (ys.drop k)) (fun i _=>k1 - (intOf i).toNat)
  case atStart=>exact ⟨0,bc _,rfl,ak _ _,by simpa using VK.o⟩
  case round=>
   obtain ⟨k,hk,rfl,e8,ht⟩:=hrel
   by_cases hlt:k<k1
   ·have bp:=cF OA.o hlt;have pp87b:=();exact pm87
   ·obtain rfl:k1=k:=by omega
    exact pm104
 |obtain ⟨S,hS⟩:∃S:World->Prop,S=fun V=>Below X4.heap.size X4 V:=⟨_,rfl⟩;have wg:X4.cell? ⟨w.heap.size,1,none⟩=some (.string ⟨xn.toArray⟩):=ai uI.o 1;have sN:X4.cell? ⟨w.heap.size+1,1,none⟩=some (.string ⟨xn.toArray⟩):=ai xP.o 1;have f0:∀ V,S V->V.cell? ⟨w.heap.size,1,none⟩=some (.string ⟨xn.toArray⟩):=fun V h=>by rw[hS]at h;exact aa h wg
  have f1:∀ V,S V->V.cell? ⟨w.heap.size+1,1,none⟩=some (.string ⟨xn.toArray⟩):=fun V h=>by rw[hS]at h;exact aa h sN
  have dO:S X4.drew:=by rw[hS];exact (ak _ _).drew
  have I9:=HP.o.cases;obtain ⟨Z9,dh⟩:=a_ I9 hS;clear hS wg sN I9;refine (wpIn_wide (n:=3)).1 ?_;refine lg S 12 dO fun jp bN=>?_;refine bC 0 64 (.slice pa p0 pc) rfl bN fun cq=>?_;simp only[ag];refine bC 1 65 (.slice pa p0 pc) rfl cq fun fI=>?_;simp only[ag];refine bC 2 66 (.int .i64 (p0:Int)) rfl fI fun gF=>?_;simp only[ag];refine bC 3 67 (.slice pa p0 pc) rfl gF fun iG=>?_;simp only[ag];refine bC 4 68 (.int .i64 (p0:Int)) rfl iG fun jx=>?_;simp only[ag];refine c9 5 69 (.slice pa p0 p0) rfl (fun V hX=>by rcases Z9.o with ⟨rfl,rfl,rfl⟩ | ⟨b,off,rfl⟩ <;> go_simp) jx fun jM=>?_;simp only[ag];refine bC 6 70 (.pointer (some ⟨w.heap.size,1,none⟩)) rfl jM fun mi=>?_;simp only[ag];refine c9 7 71 (.string ⟨xn.toArray⟩) rfl (fun V hX=>by have g0:=f0 V hX;go_simp) mi fun rA=>?_;simp only[ag];refine bC 8 72 (.pointer (some ⟨w.heap.size+1,1,none⟩)) rfl rA fun I1=>?_;simp only[ag];refine c9 9 73 (.string ⟨xn.toArray⟩) rfl (fun V hX=>by have g1:=f1 V hX;go_simp) I1 fun Bn=>?_;simp only[ag];refine bC 10 74 (.agg #[.string ⟨xn.toArray⟩,.string ⟨xn.toArray⟩]) rfl Bn fun I2=>?_;simp only[ag];refine bZ 11 rfl fun K hK=>?_;go_simp;have oU:Below X4.heap.size X4 (X4.alloc (.cells #[.string ⟨xn.toArray⟩,.string ⟨xn.toArray⟩] 213)).drew:=((ak _ X4).alloc (aI _) _).drew;refine hK _ _ (fun _=>by rw[dh.o];exact oU) (fun _=>?_);clear hK K;have hold:((.slice pa p0 p0:Value)=.slice none 0 0/\p0=0/\gS ps=[])\/∃b,(.slice pa p0 p0:Value)=.slice (some b) p0 p0/\(gS ps).length=p0 * 2/\∀ j u,(gS ps)[j]?=some u->(X4.alloc (.cells #[.string ⟨xn.toArray⟩,.string ⟨xn.toArray⟩] 213)).drew.cell? (b.add j)=some u:=by
   exact pm186
  refine bZ 12 rfl fun K hK=>?_;refine iv (.tmp 69) (.tmp 75) 87 rfl 213 i0 (.agg #[.string ByteArray.empty,.string ByteArray.empty]) 2 32 Tryz.underlying87 hi nM i_ ig rfl (by decide) (.slice pa p0 p0) p0 (gS ps) rfl hold ⟨X4.heap.size,0,none⟩ 1 1 [.string ⟨xn.toArray⟩,.string ⟨xn.toArray⟩] rfl rfl (c_ (cs:=#[.string ⟨xn.toArray⟩,.string ⟨xn.toArray⟩]) (t:=213) (fr:=(0,0)) (fP X4 _)) (by simp[Value.oneCell']) (by decide) (by unfold maxLen;omega) (by omega) ?_;intro g cap X5 au ao;have y':Below X4.heap.size X4 X5:=⟨ao.os.trans oU.os,ao.tape.trans oU.tape,ao.output.trans oU.output,aN oU.size ao.size,fun b hb=>(ao.block b (bE hb oU.size) (by simp)).trans (oU.block b hb)⟩;have VL:=bR y' uI.o;have Z':=bR y' xP.o;have MY:=kL.o.trans (y'.mono kL.o.size);rw[<-lm (xn,xn) ps]at au;have qE:=PairsV.own au;have z5:X5.cell? ⟨w.heap.size,3,none⟩=some (.slice ub k1 ue):=ai VL 3;clear uI xP kL AE z3;obtain ⟨uI,xP,kL,AE⟩:=eW VL Z' MY qE;clear VL Z' MY qE au ao oU y' hold;refine eN hK ?_;clear hK K;refine bZ 13 rfl fun K hK=>?_;go_simp;refine eN hK ?_;clear hK K;refine kz ?_;go_wp2;go_loopw [80] (fun i wr=>∃k:Nat,k<=k1/\i=.int .i64 k/\Below X5.heap.size X5 wr/\R=dI (ps ++ [(xn,xn)]).reverse (xs.drop k) (ys.drop k)) (fun i _=>k1 - (intOf i).toNat)
  case atStart=>exact ⟨0,bc _,rfl,ak _ _,by simpa using VK.o⟩
  case round=>
   obtain ⟨k,hk,rfl,e8,ht⟩:=hrel
   by_cases hlt:k<k1
   ·have bp:=cF OA.o hlt;exact pm87
   ·obtain rfl:k1=k:=by omega
    exact pm104):G:=h
theorem pm47(h:G:=by
 have fF:=cZ bm;have xb:=cb bm;rw[<-bm];clear bm d0 d1 d2;have gA:=HF.o.later fF (fun r=>r.below fF);have pp137b:=();exact pm137):G:=h
theorem pm48(h:G:=by
 have z':Kp M W2 w4:=H4.o.1.two vR.o.1 vR.o.2.1;have iP:Kp (fun b=>b=aB+1) w4 (w4.setCell ⟨aB+1,0,none⟩ (.int .i64 er)):=iB;have kK:Kp (fun b=>b=aB) (w4.setCell ⟨aB+1,0,none⟩ (.int .i64 er)) ((w4.setCell ⟨aB+1,0,none⟩ (.int .i64 er)).setCell ⟨aB,0,none⟩ (.int .i64 j)):=iB;have AH:Kp M w4 ((w4.setCell ⟨aB+1,0,none⟩ (.int .i64 er)).setCell ⟨aB,0,none⟩ (.int .i64 j)):=(iP.mono (fun b _ h=>by subst h;exact vR.o.2.2.2.1)).trans (kK.mono (fun b _ h=>by subst h;exact vR.o.2.2.1));have xa5:=(iP.same _ (bz H4.o.2.2.2.1) (by omega)).trans H4.o.2.2.2.1;refine ⟨trivial,(z'.trans AH).from _,rfl,k3,er,M8,HG.o.2.2.2.2.2.2.1,?_,iA xa5,(HG.o.2.2.2.2.1.trans z').trans AH⟩;exact (kK.same _ (bz (iA H4.o.2.2.1 (v:=.int .i64 er))) (by omega)).trans (iA H4.o.2.2.1)):G:=h
theorem pm49(h:G:=by
 have pp164d:=();exact pm164):G:=h
theorem pm50(h:G:=by
 have g_:=eM;gi_wp2;obtain ⟨W1,bX⟩:=am (((w.alloc (.cells #[.bool false,.string ⟨n.toArray⟩,.slice qa k0 qc] 43)).alloc (.cells #[.bool false,.string ⟨#[]⟩,.slice none 0 0] 43)).alloc (.cells #[.bool false,.string ⟨n.toArray⟩,.slice none 0 0] 43));have il:=wX bX;have x1:=rj bX;have x2:=pg bX;rw[<-bX];clear bX;obtain ⟨d_,jo⟩:=a_ il x1
 first
 |clear pp50a;have uT:=ae (Fills.start (R:=w.heap.size+1+1) (mk:=fun rr=>#[.bool false,.string ⟨n.toArray⟩,rr]) (Row:=fun r W=>RowT W1.heap.size r ((a.map aM).take 0) W) x2 (RowT.nil _ _));clear il x1 x2;gi_loopw [25] (fun i wr=>∃k:Nat,k<=k0/\i=.int .i64 k/\∃row,Fills 43 (w.heap.size+1+1) W1.heap.size (fun rr=>#[.bool false,.string ⟨n.toArray⟩,rr]) (fun r W=>RowT W1.heap.size r ((a.map aM).take k) W) W1 wr row) (fun i _=>k0 - (intOf i).toNat)
  case atStart=>exact ⟨0,bc _,rfl,_,uT.o⟩
  case round=>
   have pp0a:=();exact pm0
 |clear pp50b;have uT:=ae (Fills.start (R:=w.heap.size+1+1) (mk:=fun rr=>#[.bool false,.string ⟨n.toArray⟩,rr]) (Row:=fun r W=>RowT W1.heap.size r ((a.map (fR f)).take 0) W) x2 (RowT.nil _ _));clear il x1 x2;gi_loopw [30] (fun i wr=>∃k:Nat,k<=k0/\i=.int .i64 k/\∃row,Fills 43 (w.heap.size+1+1) W1.heap.size (fun rr=>#[.bool false,.string ⟨n.toArray⟩,rr]) (fun r W=>RowT W1.heap.size r ((a.map (fR f)).take k) W) W1 wr row) (fun i _=>k0 - (intOf i).toNat)
  case atStart=>exact ⟨0,bc _,rfl,_,uT.o⟩
  case round=>
   have pp135c:=();exact pm135
 |have uT:=ae (Fills.start (R:=w.heap.size+1+1) (mk:=fun rr=>#[.bool false,.string ⟨n.toArray⟩,rr]) (Row:=fun r W=>RowT W1.heap.size r ((a.map (cQ kd.ts sc)).take 0) W) x2 (RowT.nil _ _));clear il x1 x2;gi_loopw [47] (fun i wr=>∃k:Nat,k<=k0/\i=.int .i64 k/\∃row,Fills 43 (w.heap.size+1+1) W1.heap.size (fun rr=>#[.bool false,.string ⟨n.toArray⟩,rr]) (fun r W=>RowT W1.heap.size r ((a.map (cQ kd.ts sc)).take k) W) W1 wr row) (fun i _=>k0 - (intOf i).toNat)
  case atStart=>exact ⟨0,bc _,rfl,_,uT.o⟩
  case round=>
   exact pm135):G:=h
theorem pm51(h:G:=by
 have og:=HV.o.2.2.2.2 _ (aA le);have z7:=(gq l 0).1 X'.o _ (aA le);obtain ⟨⟨s,f⟩,TT⟩:∃x,x=l[j]:=⟨_,rfl⟩;rw[<-TT]at cH og hs hf z7;simp only at cH og hs hf z7;rw[cH]at gw;obtain ⟨lq,F'⟩:=am (gT ((wq.alloc (.cells #[.int .i64 j] 3)).alloc (.cells #[.int .u8 a0,.string a1,.slice a2 a3 a4,.slice a5 a6 a7,.int .u8 b0,.string b1,.slice b2 b3 b4,.slice b5 b6 b7] 50)) ⟨a0,a1,a2,a3,a4,a5,a6,a7⟩ ⟨b0,b1,b2,b3,b4,b5,b6,b7⟩);have BP:(j:Int)<(n1:Int):=by omega
 have vQ:=ae F';clear TT hok c0 c1 c2 c3 c4 c5 c6 c7 cH F';gi_wp2_with (gi_at_call 49;refine aK.2 ((lY ⟨a0,a1,a2,a3,a4,a5,a6,a7⟩ ⟨b0,b1,b2,b3,b4,b5,b6,b7⟩ _).mono ?_);rintro e w' ⟨rfl,rfl⟩);rw[<-vQ.o]
 first
 |clear pp51;have pp15:=();exact pm15
 |exact pm15):G:=h
theorem pm52(h:G:=by
 refine c9 1 67 (.slice (some ⟨b,off,none⟩) n2 qe) rfl (fun V hX=>by obtain ⟨g0,_⟩:=f0 V hX;go_simp) bN fun cq=>?_;simp only[ag];refine bC 2 68 (.int .i64 j) rfl bN fun cq=>?_;simp only[ag];refine bC 3 69 (.pointer (some ⟨b,off+j * 4,none⟩)) rfl bN fun cq=>?_;simp only[ag];refine bC 4 70 (.pointer (some ⟨b,off+j * 4,none⟩)) rfl bN fun cq=>?_;simp only[ag];refine c9 5 71 (.string ⟨nx.toArray⟩) rfl (fun V hX=>by obtain ⟨g0,_⟩:=f1 V hX;go_simp) bN fun cq=>?_;simp only[ag];refine bC 6 72 (.pointer (some ⟨w.heap.size+1,1,none⟩)) rfl bN fun cq=>?_;simp only[ag];refine c9 7 73 (.slice (some ⟨b2,off2,none⟩) n2 re) rfl (fun V hX=>by obtain ⟨_,g0⟩:=f0 V hX;go_simp) bN fun cq=>?_;simp only[ag]
 first
 |clear pp52;refine bC 8 74 (.int .i64 j) rfl bN fun cq=>?_
  simp only[ag];refine bC 9 75 (.pointer (some ⟨b2,off2+j * 4,none⟩)) rfl bN fun cq=>?_;simp only[ag];refine bC 10 76 (.pointer (some ⟨b2,off2+j * 4,none⟩)) rfl bN fun cq=>?_;simp only[ag];refine c9 11 77 (.string ⟨ny.toArray⟩) rfl (fun V hX=>by obtain ⟨g0,_⟩:=f2 V hX;go_simp) bN fun cq=>?_;simp only[ag];refine bC 12 78 (.bool true) rfl bN fun cq=>?_;simp only[ag];refine bC 13 79 (.bool true) rfl bN fun cq=>?_;simp only[ag];refine JR 14 80 rfl bN fun cq=>?_;simp only[ag];refine JR 15 81 rfl bN fun cq=>?_;simp only[ag];refine JR 16 82 rfl bN fun cq=>?_;simp only[ag];refine JR 17 83 rfl bN fun cq=>?_;simp only[ag];refine JR 18 84 rfl bN fun cq=>?_;simp only[ag];refine JR 19 85 rfl bN fun cq=>?_;simp only[ag];refine JR 20 86 rfl bN fun cq=>?_;simp only[ag];refine JR 21 87 rfl bN fun cq=>?_;simp only[ag];refine JR 22 88 rfl bN fun cq=>?_;simp only[ag];refine JR 23 89 rfl bN fun cq=>?_;simp only[ag];refine JR 24 90 rfl bN fun cq=>?_;simp only[ag];refine JR 25 91 rfl bN fun cq=>?_;simp only[ag];refine JR 26 92 rfl bN fun cq=>?_;simp only[ag];refine JR 27 93 rfl bN fun cq=>?_;simp only[ag];refine nnA 28 94 rfl bN fun cq=>?_;simp only[ag];refine JR 29 95 rfl bN fun cq=>?_;simp only[ag];refine bC 30 96 (.bool true) rfl bN fun cq=>?_;simp only[ag];refine kz ?_;go_wp2;go_ret;exact ⟨by rw[HZ.o];rfl,HE.o.1.tr HB.o.drew⟩
 |refine bC 8 74 (.int .i64 j) rfl bN fun cq=>?_
  simp only[ag];refine bC 9 75 (.pointer (some ⟨b2,off2+j * 4,none⟩)) rfl bN fun cq=>?_;simp only[ag];refine bC 10 76 (.pointer (some ⟨b2,off2+j * 4,none⟩)) rfl bN fun cq=>?_;simp only[ag];refine c9 11 77 (.string ⟨nx.toArray⟩) rfl (fun V hX=>by obtain ⟨g0,_⟩:=f2 V hX;go_simp) bN fun cq=>?_;simp only[ag];refine bC 12 78 (.bool false) rfl bN fun cq=>?_;simp only[ag];refine bC 13 79 (.bool false) rfl bN fun cq=>?_;simp only[ag];refine bC 14 80 (.pointer (some ⟨w.heap.size,1,none⟩)) rfl bN fun cq=>?_;simp only[ag];refine c9 15 81 (.slice (some ⟨b,off,none⟩) n2 qe) rfl (fun V hX=>by obtain ⟨g0,_⟩:=f0 V hX;go_simp) bN fun cq=>?_;simp only[ag];refine bC 16 82 (.int .i64 j) rfl bN fun cq=>?_;simp only[ag];refine bC 17 83 (.pointer (some ⟨b,off+j * 4,none⟩)) rfl bN fun cq=>?_;simp only[ag];refine bC 18 84 (.pointer (some ⟨b,off+j * 4+1,none⟩)) rfl bN fun cq=>?_;simp only[ag];refine c9 19 85 (.agg #[.bool u.v,.string u.n,.slice u.a u.l u.c]) rfl (fun V hX=>by obtain ⟨_,g0,g1,g2⟩:=f1 V hX;go_simp) bN fun cq=>?_;simp only[ag];refine bC 21 87 (.pointer (some ⟨w.heap.size+1,1,none⟩)) rfl bN fun cq=>?_;simp only[ag];refine c9 22 88 (.slice (some ⟨b2,off2,none⟩) n2 re) rfl (fun V hX=>by obtain ⟨_,g0⟩:=f0 V hX;go_simp) bN fun cq=>?_;simp only[ag];refine bC 23 89 (.int .i64 j) rfl bN fun cq=>?_;simp only[ag];refine bC 24 90 (.pointer (some ⟨b2,off2+j * 4,none⟩)) rfl bN fun cq=>?_;simp only[ag];refine bC 25 91 (.pointer (some ⟨b2,off2+j * 4+1,none⟩)) rfl bN fun cq=>?_;simp only[ag];refine c9 26 92 (.agg #[.bool v.v,.string v.n,.slice v.a v.l v.c]) rfl (fun V hX=>by obtain ⟨_,g0,g1,g2⟩:=f2 V hX;go_simp) bN fun cq=>?_;simp only[ag];refine twM 20 27 rfl rfl (fun K hK=>?_) (fun K hK=>?_)
  case _=>
   have hb1:Below W2.heap.size W2 (wz.drew.alloc (.cells #[.bool u.v,.string u.n,.slice u.a u.l u.c] 43)):=HB.o.drew.alloc HB.o.size _;have bD:Below W2.heap.size W2 ((wz.drew.alloc (.cells #[.bool u.v,.string u.n,.slice u.a u.l u.c] 43)).alloc (.cells #[.bool v.v,.string v.n,.slice v.a v.l v.c] 43)):=hb1.alloc hb1.size _;go_simp;refine hK _ _ (fun _=>by rw[dh.o];exact hb1) (fun _=>?_);clear hK K;refine bZ 27 rfl fun K hK=>?_;go_simp;refine hK _ _ (fun _=>by rw[dh.o];exact bD) (fun _=>?_);clear hK K;have nM:((wz.drew.alloc (.cells #[.bool u.v,.string u.n,.slice u.a u.l u.c] 43)).alloc (.cells #[.bool v.v,.string v.n,.slice v.a v.l v.c] 43)).heap[wz.heap.size]?=some (.cells #[.bool u.v,.string u.n,.slice u.a u.l u.c] 43 (0,0)):=(bI _ _ _ (by simp)).trans (aj (by simp));have i_:((wz.drew.alloc (.cells #[.bool u.v,.string u.n,.slice u.a u.l u.c] 43)).alloc (.cells #[.bool v.v,.string v.n,.slice v.a v.l v.c] 43)).heap[wz.heap.size+1]?=some (.cells #[.bool v.v,.string v.n,.slice v.a v.l v.c] 43 (0,0)):=aj (by simp);refine bZ 28 rfl fun K hK=>?_;go_simp;refine aK.2 ((F2.o _ bD _ _ nM i_).mono ?_);clear nM i_;rintro _ A ⟨rfl,hA⟩;have eG:=ae (bD.tr hA);clear hA hb1 bD;exact pm49
  have hb1:Below W2.heap.size W2 (wz.drew.alloc (.cells #[.bool v.v,.string v.n,.slice v.a v.l v.c] 43)):=HB.o.drew.alloc HB.o.size _;have bD:Below W2.heap.size W2 ((wz.drew.alloc (.cells #[.bool v.v,.string v.n,.slice v.a v.l v.c] 43)).alloc (.cells #[.bool u.v,.string u.n,.slice u.a u.l u.c] 43)):=hb1.alloc hb1.size _;go_simp;refine hK _ _ (fun _=>by rw[dh.o];exact hb1) (fun _=>?_);clear hK K;refine bZ 20 rfl fun K hK=>?_;go_simp;refine hK _ _ (fun _=>by rw[dh.o];exact bD) (fun _=>?_);clear hK K;have nM:((wz.drew.alloc (.cells #[.bool v.v,.string v.n,.slice v.a v.l v.c] 43)).alloc (.cells #[.bool u.v,.string u.n,.slice u.a u.l u.c] 43)).heap[wz.heap.size]?=some (.cells #[.bool v.v,.string v.n,.slice v.a v.l v.c] 43 (0,0)):=(bI _ _ _ (by simp)).trans (aj (by simp));have i_:((wz.drew.alloc (.cells #[.bool v.v,.string v.n,.slice v.a v.l v.c] 43)).alloc (.cells #[.bool u.v,.string u.n,.slice u.a u.l u.c] 43)).heap[wz.heap.size+1]?=some (.cells #[.bool u.v,.string u.n,.slice u.a u.l u.c] 43 (0,0)):=aj (by simp);refine bZ 28 rfl fun K hK=>?_;go_simp;refine aK.2 ((F2.o _ bD _ _ i_ nM).mono ?_);clear i_ nM;rintro _ A ⟨rfl,hA⟩;have eG:=ae (bD.tr hA);clear hA hb1 bD;exact pm49):G:=h
theorem pm53(h:G:=by
 have pp134a:=();exact pm134):G:=h
theorem pm54(h:G:=by
 obtain ⟨b,off,u,rfl,_,hu,c0,c1,c2⟩:=d9.o.get dy;obtain ⟨d0,d1,d2⟩:=ke ar c0 c1 c2
 first
 |clear pp54a;obtain ⟨uv,un,ua,ul,uc⟩:=u;obtain ⟨W2,bm⟩:=am (wr.alloc (.cells #[.bool uv,.string un,.slice ua ul uc] 43));have bD:=cZ bm;have xw:=cb bm;have u0:W2.cell? ⟨wr.heap.size,0,none⟩=some (.bool uv):=ai xw 0;have u1:W2.cell? ⟨wr.heap.size,1,none⟩=some (.string un):=ai xw 1;have u2:W2.cell? ⟨wr.heap.size,2,none⟩=some (.slice ua ul uc):=ai xw 2;have gA:=hF.later bD (fun r=>r.below bD);obtain ⟨P0,P1,P2,P3,P4,P5,P6,P7,P8⟩:=hZ (gA.other (by omega) NV.o);have CC:=ry ⟨⟨so,sn,sa,sl,sc,sb,sm,se⟩,⟨fo,fn,fa,fl,fc,fb,fm,fe⟩,ca,cl,cc⟩ ps IK.o.1 IK.o.2 L ins IN.o.2.2 IN.o.1 _ vL a[k1] (Fx.o.mem (aA dy)) ok W2 ⟨uv,un,ua,ul,uc⟩ (IL.o.later (ar.tr bD)) ((nO.o.1.later (ar.tr bD)).strs) ((hu.later ar).later bD);simp only[PlQ.cells,PlQ.val,TQ.val]at CC P0 P1 P2 P3 P4 P5 P6 P7 P8;have fX:=oL (c:=ps.reverse) (ins:=ins) dy;rw[yW]at fX;have f_:=fun (h:j4 ps.reverse ins a[k1]=none)=>yV (c:=ps.reverse) (ins:=ins) (aA dy) h;obtain ⟨U,hU⟩:=am (j4 ps.reverse ins a[k1]);rw[<-hU]at CC fX f_;have lN:=ae CC;have tg:=aG fX Bc;have yX:=ae f_;obtain ⟨qs,et,au,gp⟩:=gA.row;rw[Bc]at et au;have yY:=bG et au gp;have eR:=ae gA;have dt:=aG ar bD;rw[bm]at lN u0 u1 u2 P0 P1 P2 P3 P4 P5 P6 P7 P8;have gK:=ae bm;clear hu c0 c1 c2 xw hF gA et au gp CC fX f_ hU yW Bc ar bD bm
  cases U with
  | none=>
   go_wp2_with (go_at_call 94;refine lN.o.mono ?_;rintro e w4 ⟨⟨⟨pv,pn,pa,pl,pc⟩,rfl,hp⟩,aP⟩;simp only[Option.isSome]at hp ⊢;rw[<-gK.o]at aP;have bj:Below w4.heap.size w4 (w4.alloc (.cells #[.bool pv,.string pn,.slice pa pl pc] 43)):=cJ;have sk:=eR.o.later (aP.tr bj) (fun r=>r.below (aP.tr bj));have x5:=sk.other (by omega) LK.o;obtain ⟨e0,e1,e2,e3,z0,z1,z2,z3⟩:=dp x5;have H5:=aG (aP.tr bj) x5;clear hp aP bj sk x5);exact pm254
  | some u'=>
   go_wp2_with (first | (go_at_call 94;refine lN.o.mono ?_;rintro e w4 ⟨⟨⟨pv,pn,pa,pl,pc⟩,rfl,hp⟩,aP⟩;simp only[Option.isSome]at hp ⊢;rw[<-gK.o]at aP hp;have bj:Below w4.heap.size w4 (w4.alloc (.cells #[.bool pv,.string pn,.slice pa pl pc] 43)):=cJ;have sk:=eR.o.later (aP.tr bj) (fun r=>r.below (aP.tr bj));have r2:(w4.alloc (.cells #[.bool pv,.string pn,.slice pa pl pc] 43)).cell? ⟨w.heap.size+1+1+1,2,none⟩=some (.slice fJ k1 fK):=(sk.cell 2).trans rfl;have HF5:=ae sk;have IM:=aG ((hp u' rfl).later bj) (aP.tr bj);have HO:=ae (aZ yY.o.2.1 (fun b _ hlt=>(aP.tr bj).block b hlt));have oT:((w4.alloc (.cells #[.bool pv,.string pn,.slice pa pl pc] 43)).alloc (.cells #[.bool pv,.string pn,.slice pa pl pc] 43)).heap.size=w4.heap.size+2:=(by simp);have Iz:=sk.size;simp only[World.size_alloc]at Iz;clear hp aP bj sk) | (at_builtin;refine wpList_append_lies _ rfl _ _ 33 rfl W1.heap.size 43 o6 (.agg #[.bool false,.string ByteArray.empty,.slice none 0 0]) 3 48 Tryz.underlying33 hi xH uU yi rfl (by decide) (.slice fJ k1 fK) k1 _ rfl (HO.o.alloc _) ⟨w4.heap.size+1,0,none⟩ 1 1 [.bool pv,.string pn,.slice pa pl pc] rfl rfl (c_ (cs:=#[.bool pv,.string pn,.slice pa pl pc]) (t:=43) (fr:=(0,0)) (aj (by simp))) (by simp[Value.oneCell']) (by decide) (by unfold maxLen;omega) (by omega) (by simp;omega) (w4.heap.size+2) oT ?_;intro g ev w6 aR ao hg eq;have h4:=eR.o.at4 (kk:=2) yY.o.2.1 IM.o.2 ao;have d3:=h4.2.2;have z3:=h4.2.1;have HG:=cC aR ao hg eq;clear aR ao hg eq h4));go_roundw
   case rel=>
    have pp106:=();exact pm106
   case measure=>simp[intOf];omega
 |clear pp54b;have ct:(l.take k).length=k:=by rw[dM];omega
  rw[ct]at hR ⊢;have HU:=ae ((hu.later ar).later (W':=wr.alloc (.cells #[.bool u.v,.string u.n,.slice u.a u.l u.c] 43)) cJ);obtain ⟨dt,HR,ee⟩:=cG ar hR ct;clear hu ar hR ct c0 c1 c2;have CC:=ae (HCp.o l[k] (aA dy) _ _ u HU.o);go_wp2_with fail;refine CC.o.mono ?_;rintro _ A ⟨p,rfl,hp,hA⟩;obtain ⟨qs,et,au,gp⟩:=HR.o;rw[ee.o]at et au;have cv:Below wr.heap.size wr A:=cJ.trans (hA.mono (by simp));have nN:=cv.size;have N':=dt.o.size;have HO:=ae (aZ au (fun b _ hlt=>cv.block b hlt));have HH:=bG et au gp;have Rg:=aG hp cv;clear et au gp hp hA cv;have oT:(A.alloc (.cells #[.bool p.v,.string p.n,.slice p.a p.l p.c] 43)).heap.size=A.heap.size+1:=by simp
  unfold TQ.val;go_wp2_with (at_builtin;refine wpList_append_lies _ rfl _ _ 33 rfl w.heap.size 43 i0 (.agg #[.bool false,.string ByteArray.empty,.slice none 0 0]) 3 48 Tryz.underlying33 hi nM i_ ig rfl (by decide) _ _ _ rfl (HO.o.alloc _) ⟨A.heap.size,0,none⟩ 1 1 p.cells rfl rfl (c_ (cs:=#[.bool p.v,.string p.n,.slice p.a p.l p.c]) (t:=43) (fr:=(0,0)) (fP _ _)) (by simp[TQ.cells,Value.oneCell']) (by decide) (by unfold maxLen;omega) (by omega) (by simp;omega) (A.heap.size+1) oT ?_;intro g ev w4 aR ao hg eq;have HG:=bG aR ao hg;clear aR ao hg eq oT);go_roundw
  case rel=>
   have pp244:=();exact pm244
  case measure=>simp[intOf];omega
 |clear pp54c;have ct:((a.map aM).take k).length=k:=by rw[dM];have:=dB.o;simp;omega
  obtain ⟨ra,rc,rfl⟩:=hF.row.slice;rw[ct]at hF;have HU:=ae (hu.later ar);exact pm8
 |clear pp54d;have ct:((a.map (fR f)).take k).length=k:=by rw[dM];have:=dB.o;simp;omega
  obtain ⟨ra,rc,rfl⟩:=hF.row.slice;rw[ct]at hF;have HU:=ae (hu.later ar);obtain ⟨HF,ee,dt⟩:=cG hF ct ar;clear hu ar hF c0 c1 c2 ct;gi_wp2;obtain ⟨W2,bm⟩:=am (wr.alloc (.cells #[.bool u.v,.string u.n,.slice u.a u.l u.c] 43));have pp47b:=();exact pm47
 |clear pp54e;have ct:((a.map aM).take k1).length=k1:=by rw[dM];have:=dB.o;simp;omega
  obtain ⟨fJ,fK,rfl⟩:=hF.row.slice;rw[ct]at hF;have HU:=ae (hu.later ar);obtain ⟨HF,ee,dt⟩:=cG hF ct ar;clear hu ar hF c0 c1 c2 ct;gi_wp2;obtain ⟨W2,bm⟩:=am (iQ.alloc (.cells #[.bool u.v,.string u.n,.slice u.a u.l u.c] 43));have pp47c:=();exact pm47
 |clear pp54f;have ct:((a.map (kB nx z)).take k1).length=k1:=by rw[dM];have:=dB.o;simp;omega
  obtain ⟨fJ,fK,rfl⟩:=hF.row.slice;rw[ct]at hF;have HU:=ae (hu.later ar);obtain ⟨HF,ee,dt⟩:=cG hF ct ar;clear hu ar hF c0 c1 c2 ct;gi_wp2;obtain ⟨W2,bm⟩:=am (DX.alloc (.cells #[.bool u.v,.string u.n,.slice u.a u.l u.c] 43));have pp47d:=();exact pm47
 |clear pp54g;have ct:((a.map (cQ kd.ts c)).take k1).length=k1:=by rw[dM];have:=oV.o;simp;omega
  obtain ⟨ra,rc,rfl⟩:=hF.row.slice;rw[ct]at hF;have HU:=ae (hu.later ar);obtain ⟨HF,ee,dt⟩:=cG hF ct ar;clear hu ar hF c0 c1 c2 ct;gi_wp2;obtain ⟨W2,bm⟩:=am (DX.alloc (.cells #[.bool u.v,.string u.n,.slice u.a u.l u.c] 43));have pp47e:=();exact pm47
 |clear pp54h;have ct:(a.take k).length=k:=by rw[dM];omega
  obtain ⟨ra,rc,rfl⟩:=hF.row.slice;rw[ct]at hF;have HU:=ae (hu.later ar);have pp8a:=();exact pm8
 |clear pp54i;obtain ⟨uv,un,ua,ul,uc⟩:=u;obtain ⟨W2,bm⟩:=am (wr.alloc (.cells #[.bool uv,.string un,.slice ua ul uc] 43));have bD:=cZ bm;have xw:=cb bm;have u0:W2.cell? ⟨wr.heap.size,0,none⟩=some (.bool uv):=ai xw 0;have u1:W2.cell? ⟨wr.heap.size,1,none⟩=some (.string un):=ai xw 1;have u2:W2.cell? ⟨wr.heap.size,2,none⟩=some (.slice ua ul uc):=ai xw 2;have gA:=hF.later bD (fun r=>r.below bD);obtain ⟨P0,P1,P2,P3,P4,P5,P6,P7,P8⟩:=hZ (gA.other (by omega) NV.o);have CC:=fS.o a[k] (aA dy) (mK.o.mem (aA dy)) ok W2 ⟨uv,un,ua,ul,uc⟩ (IL.o.later (ar.tr bD)) (nO.o.later (ar.tr bD)) ((hu.later ar).later bD);simp only[PlQ.cells,PlQ.val,TQ.val]at CC P0 P1 P2 P3 P4 P5 P6 P7 P8;have fX:=oL (c:=ps.reverse) (ins:=ins) dy;rw[yW]at fX;have f_:=fun (h:j4 ps.reverse ins a[k]=none)=>yV (c:=ps.reverse) (ins:=ins) (aA dy) h;obtain ⟨U,hU⟩:=am (j4 ps.reverse ins a[k]);rw[<-hU]at CC fX f_;have lN:=ae CC;have tg:=aG fX Bc;have yX:=ae f_;obtain ⟨qs,et,au,gp⟩:=gA.row;rw[Bc]at et au;have yY:=bG et au gp;have eR:=ae gA;have dt:=aG ar bD;rw[bm]at lN u0 u1 u2 P0 P1 P2 P3 P4 P5 P6 P7 P8;have gK:=ae bm;clear hu c0 c1 c2 xw hF gA et au gp CC fX f_ hU yW Bc ar bD bm
  cases U with
  | none=>
   go_wp2_with (go_at_call 94;refine lN.o.mono ?_;rintro e w4 ⟨⟨⟨pv,pn,pa,pl,pc⟩,rfl,hp⟩,aP⟩;simp only[Option.isSome]at hp ⊢;rw[<-gK.o]at aP;have bj:Below w4.heap.size w4 (w4.alloc (.cells #[.bool pv,.string pn,.slice pa pl pc] 43)):=cJ;have sk:=eR.o.later (aP.tr bj) (fun r=>r.below (aP.tr bj));have x5:=sk.other (by omega) LK.o;obtain ⟨e0,e1,e2,z0,z1,z2⟩:=gt x5;have H5:=aG (aP.tr bj) x5;clear hp aP bj sk x5);obtain ⟨W6,da,x6,k6,g0,g1,g2⟩:=tj H5.o.2 (.bool false) (.string ⟨#[]⟩) (.slice none 0 0);rw[<-da];have HE:=ae (show R=none by rw[xr.o,yX.o (by simp)];rfl);refine bJ (v:=.tuple #[TQ.val ⟨false,⟨#[]⟩,none,0,0⟩,.bool false]) (by simp[TQ.val,results,Tryz.results94,go_sem,g0,g1,g2]) rfl ⟨⟨⟨false,⟨#[]⟩,none,0,0⟩,by rw[HE.o];rfl,fun u hu=>by rw[HE.o]at hu;cases hu⟩,Below.kp1 ((dt.o.1.tr dt.o.2).tr H5.o.1) k6 (by omega)⟩
  | some u'=>
   go_wp2_with (first | (go_at_call 94;refine lN.o.mono ?_;rintro e w4 ⟨⟨⟨pv,pn,pa,pl,pc⟩,rfl,hp⟩,aP⟩;simp only[Option.isSome]at hp ⊢;rw[<-gK.o]at aP hp;have bj:Below w4.heap.size w4 (w4.alloc (.cells #[.bool pv,.string pn,.slice pa pl pc] 43)):=cJ;have sk:=eR.o.later (aP.tr bj) (fun r=>r.below (aP.tr bj));have r2:(w4.alloc (.cells #[.bool pv,.string pn,.slice pa pl pc] 43)).cell? ⟨w.heap.size+1+1+1,2,none⟩=some (.slice ra k rc):=(sk.cell 2).trans rfl;have HF5:=ae sk;have IM:=aG ((hp u' rfl).later bj) (aP.tr bj);have HO:=ae (aZ yY.o.2.1 (fun b _ hlt=>(aP.tr bj).block b hlt));have oT:((w4.alloc (.cells #[.bool pv,.string pn,.slice pa pl pc] 43)).alloc (.cells #[.bool pv,.string pn,.slice pa pl pc] 43)).heap.size=w4.heap.size+2:=(by simp);have Iz:=sk.size;simp only[World.size_alloc]at Iz;clear hp aP bj sk) | (at_builtin;refine wpList_append_lies _ rfl _ _ 33 rfl W1.heap.size 43 i0 (.agg #[.bool false,.string ByteArray.empty,.slice none 0 0]) 3 48 Tryz.underlying33 hi nM i_ ig rfl (by decide) (.slice ra k rc) k _ rfl (HO.o.alloc _) ⟨w4.heap.size+1,0,none⟩ 1 1 [.bool pv,.string pn,.slice pa pl pc] rfl rfl (c_ (cs:=#[.bool pv,.string pn,.slice pa pl pc]) (t:=43) (fr:=(0,0)) (aj (by simp))) (by simp[Value.oneCell']) (by decide) (by unfold maxLen;omega) (by omega) (by simp;omega) (w4.heap.size+2) oT ?_;intro g ev w6 aR ao hg eq;have h4:=eR.o.at4 (kk:=2) yY.o.2.1 IM.o.2 ao;have d3:=h4.2.2;have z3:=h4.2.1;have HG:=cC aR ao hg eq;clear aR ao hg eq h4));go_roundw
   case rel=>
    exact pm106
   case measure=>simp[intOf];omega
 |clear pp54j;have ct:((a.map (cQ kd.ts sc)).take k).length=k:=by rw[dM];have:=dB.o;simp;omega
  obtain ⟨ra,rc,rfl⟩:=hF.row.slice;rw[ct]at hF;have HU:=ae (hu.later ar);obtain ⟨HF,ee,dt⟩:=cG hF ct ar;clear hu ar hF c0 c1 c2 ct;gi_wp2;obtain ⟨W2,bm⟩:=am (wr.alloc (.cells #[.bool u.v,.string u.n,.slice u.a u.l u.c] 43));exact pm47
 |clear pp54k;have ct:((a.map (fR f)).take k).length=k:=by rw[dM];have:=dB.o;simp;omega
  obtain ⟨ra,rc,rfl⟩:=hF.row.slice;rw[ct]at hF;have HU:=ae (hu.later ar);have pp8b:=();exact pm8
 |have ct:((a.map (cQ kd.ts sc)).take k).length=k:=by rw[dM];have:=dB.o;simp;omega
  obtain ⟨ra,rc,rfl⟩:=hF.row.slice;rw[ct]at hF;have HU:=ae (hu.later ar);have pp8c:=();exact pm8):G:=h
theorem pm55(h:G:=by
 obtain ⟨nF4,nT4,dX,ku,kZ⟩:=H4.o.2.1 (by simp);have z':Kp M W2 w4:=H4.o.1.two vR.o.1 vR.o.2.1;have iP:Kp (fun b=>b=aB+1) w4 (w4.setCell ⟨aB+1,0,none⟩ (.int .i64 0)):=iB;have AH:Kp M w4 (w4.setCell ⟨aB+1,0,none⟩ (.int .i64 0)):=iP.mono (fun b _ h=>by subst h;exact vR.o.2.2.2.1);refine ⟨z'.trans AH,k3,nF4,nT4,HG.o.2.2.2.2.2.2.1,kZ.kpx iP (fun b h=>by subst h;exact vR.o.2.2.2.1) (by omega) (by omega) (by omega),by have:=HG.o.1;simp;omega,by have:=HG.o.2.1;simp;omega,HG.o.2.2.2.2.2.1 (by simp),iA H4.o.2.2.1,?_,(HG.o.2.2.2.2.1.trans z').trans AH⟩;exact (iP.same _ (bz H4.o.2.2.2.1) (by omega)).trans H4.o.2.2.2.1):G:=h
theorem pm56(h:G:=by
 obtain ⟨W7,KB⟩:=am (w6.alloc (.cells #[.int .u8 p0,.string p1,.slice p2 p3 p4,.slice p5 p6 p7] 36));rw[<-KB]at fw ⊢;have y7:=cb KB;have xR:=bR (H6.o.tr fw) GV.o.2.2.1;have xT:=bR (H6.o.tr fw) GV.o.2.1;have hlw:=cR.size;have zcM:=F3.o.2.1;have zcN:=H5.o.size;have Rc:=w_.o;have zcO:=d_.o.size;have hR1:=(bz jo.o);have xR2:=(bq (F:=3) xR (.slice (some ⟨w6.heap.size,0,none⟩) 1 1)).trans rfl;have kR:Kp (fun b=>b=w.heap.size+1+1) W7 (W7.setCell ⟨w.heap.size+1+1,3,none⟩ (.slice (some ⟨w6.heap.size,0,none⟩) 1 1)):=⟨rfl,rfl,rfl,by simp,fun c _ hc=>ei _ _ _ _ (by simpa using hc)⟩;have r3:=ai xR 3
 first
 |clear pp56;have rz:=af xR 3;have Z2:=ae hp;have Pu:=bG (H6.o.tr fw) y7 fw;have Ho:=bG xR2 kR xT;clear hp cR fw y7 xR xT xR2 kR KB;refine bZ 9 rfl fun K hK=>?_;go_simp;refine eN hK ?_;clear hK K;refine bZ 10 rfl fun K hK=>?_;go_simp;refine eN hK ?_;clear hK K r3 rz;refine kz ?_;obtain ⟨W9,qX⟩:=am (W7.setCell ⟨w.heap.size+1+1,3,none⟩ (.slice (some ⟨w6.heap.size,0,none⟩) 1 1));have WU:=Ho.o.1;have Mq:=Ho.o.2.1;rw[<-qX]at WU Mq ⊢;have zcP:=Pu.o.1.size;have WV:=(Mq.same _ (bz Ho.o.2.2) (by omega)).trans Ho.o.2.2;have y9:=(Mq.same _ (bz Pu.o.2.1) (by omega)).trans Pu.o.2.1;have hF9:FormV (W1.heap.size<=·) W9 (FQ.val ⟨p0,p1,p2,p3,p4,p5,p6,p7⟩) (iI (dc n) (ap n) G):=(Z2.o.later Pu.o.2.2).move (fun b hb hlt=>⟨by have h:w5.heap.size<=b:=hb;omega,Mq.same b hlt (by have h:w5.heap.size<=b:=hb;omega)⟩);have zf:FormV (W1.heap.size<=·) W9 (FQ.val ⟨so,⟨n.toArray⟩,fJ,0,fK,some ⟨w6.heap.size,0,none⟩,1,1⟩) (.mk so n [] [iI (dc n) (ap n) G]):=aW.2 ⟨_,_,rfl,cf,qI hF9 (by omega) y9⟩;have Pv:Below w.heap.size w W9:=Below.kp1 (F3.o.1.tr Pu.o.1) Mq (by omega);obtain ⟨c0,c1,c2,c3,_,_,_,_⟩:=dp WU;obtain ⟨e0,e1,e2,e3,z0,z1,z2,z3⟩:=dp WV;have H9:=bG zf Pv WV;clear WU Mq WV y9 hF9 zf Pv qX f0 f1 dO;gi_wp2;have x6:=kP (v0:=.int .u8 so) (v1:=.string ⟨n.toArray⟩) (v2:=.slice fJ 0 fK) (v3:=.slice (some ⟨w6.heap.size,0,none⟩) 1 1) H9.o.2.2;have k6:=dA (W:=W9) (b:=w.heap.size+1) (v0:=.int .u8 so) (v1:=.string ⟨n.toArray⟩) (v2:=.slice fJ 0 fK) (v3:=.slice (some ⟨w6.heap.size,0,none⟩) 1 1);obtain ⟨W6,da⟩:=am ((((W9.setCell ⟨w.heap.size+1,0,none⟩ (.int .u8 so)).setCell ⟨w.heap.size+1,1,none⟩ (.string ⟨n.toArray⟩)).setCell ⟨w.heap.size+1,2,none⟩ (.slice fJ 0 fK)).setCell ⟨w.heap.size+1,3,none⟩ (.slice (some ⟨w6.heap.size,0,none⟩) 1 1));rw[<-da]at x6 k6 ⊢;clear da;have g0:W6.cell? ⟨w.heap.size+1,0,none⟩=some (.int .u8 so):=ai x6 0;have g1:W6.cell? ⟨w.heap.size+1,1,none⟩=some (.string ⟨n.toArray⟩):=ai x6 1;have g2:W6.cell? ⟨w.heap.size+1,2,none⟩=some (.slice fJ 0 fK):=ai x6 2;have g3:W6.cell? ⟨w.heap.size+1,3,none⟩=some (.slice (some ⟨w6.heap.size,0,none⟩) 1 1):=ai x6 3;refine bJ (v:=FQ.val ⟨so,⟨n.toArray⟩,fJ,0,fK,some ⟨w6.heap.size,0,none⟩,1,1⟩) (by simp[FQ.val,results,Tryz.results72,go_sem,g0,g1,g2,g3]) rfl ⟨⟨⟨so,⟨n.toArray⟩,fJ,0,fK,some ⟨w6.heap.size,0,none⟩,1,1⟩,rfl,HRm.o ▸ H9.o.1.move (fun b hok hlt=>⟨by have h:W1.heap.size<=b:=hok;omega,k6.same b hlt (by have h:W1.heap.size<=b:=hok;omega)⟩)⟩,Below.kp1 H9.o.2.1 k6 (by omega)⟩
 |have rz:=af xR 3;have Z2:=ae hp;have Pu:=bG (H6.o.tr fw) y7 fw;have Ho:=bG xR2 kR xT;clear hp cR fw y7 xR xT xR2 kR KB;refine bZ 9 rfl fun K hK=>?_;go_simp;refine eN hK ?_;clear hK K;refine bZ 10 rfl fun K hK=>?_;go_simp;refine eN hK ?_;clear hK K r3 rz;refine kz ?_;obtain ⟨W9,qX⟩:=am (W7.setCell ⟨w.heap.size+1+1,3,none⟩ (.slice (some ⟨w6.heap.size,0,none⟩) 1 1));have WU:=Ho.o.1;have Mq:=Ho.o.2.1;rw[<-qX]at WU Mq ⊢;have zcP:=Pu.o.1.size;have WV:=(Mq.same _ (bz Ho.o.2.2) (by omega)).trans Ho.o.2.2;have y9:=(Mq.same _ (bz Pu.o.2.1) (by omega)).trans Pu.o.2.1;have hF9:FormV (W1.heap.size<=·) W9 (FQ.val ⟨p0,p1,p2,p3,p4,p5,p6,p7⟩) (iI (dc n) (ap m) G):=(Z2.o.later Pu.o.2.2).move (fun b hb hlt=>⟨by have h:w5.heap.size<=b:=hb;omega,Mq.same b hlt (by have h:w5.heap.size<=b:=hb;omega)⟩);have zf:FormV (W1.heap.size<=·) W9 (FQ.val ⟨so,⟨m.toArray⟩,fJ,0,fK,some ⟨w6.heap.size,0,none⟩,1,1⟩) (.mk so m [] [iI (dc n) (ap m) G]):=aW.2 ⟨_,_,rfl,cf,qI hF9 (by omega) y9⟩;have Pv:Below w.heap.size w W9:=Below.kp1 (F3.o.1.tr Pu.o.1) Mq (by omega);obtain ⟨c0,c1,c2,c3,_,_,_,_⟩:=dp WU;obtain ⟨e0,e1,e2,e3,z0,z1,z2,z3⟩:=dp WV;have H9:=bG zf Pv WV;clear WU Mq WV y9 hF9 zf Pv qX f0 f1 dO;gi_wp2;have x6:=kP (v0:=.int .u8 so) (v1:=.string ⟨m.toArray⟩) (v2:=.slice fJ 0 fK) (v3:=.slice (some ⟨w6.heap.size,0,none⟩) 1 1) H9.o.2.2;have k6:=dA (W:=W9) (b:=w.heap.size+1) (v0:=.int .u8 so) (v1:=.string ⟨m.toArray⟩) (v2:=.slice fJ 0 fK) (v3:=.slice (some ⟨w6.heap.size,0,none⟩) 1 1);obtain ⟨W6,da⟩:=am ((((W9.setCell ⟨w.heap.size+1,0,none⟩ (.int .u8 so)).setCell ⟨w.heap.size+1,1,none⟩ (.string ⟨m.toArray⟩)).setCell ⟨w.heap.size+1,2,none⟩ (.slice fJ 0 fK)).setCell ⟨w.heap.size+1,3,none⟩ (.slice (some ⟨w6.heap.size,0,none⟩) 1 1));rw[<-da]at x6 k6 ⊢;clear da;have g0:W6.cell? ⟨w.heap.size+1,0,none⟩=some (.int .u8 so):=ai x6 0;have g1:W6.cell? ⟨w.heap.size+1,1,none⟩=some (.string ⟨m.toArray⟩):=ai x6 1;have g2:W6.cell? ⟨w.heap.size+1,2,none⟩=some (.slice fJ 0 fK):=ai x6 2;have g3:W6.cell? ⟨w.heap.size+1,3,none⟩=some (.slice (some ⟨w6.heap.size,0,none⟩) 1 1):=ai x6 3;refine bJ (v:=FQ.val ⟨so,⟨m.toArray⟩,fJ,0,fK,some ⟨w6.heap.size,0,none⟩,1,1⟩) (by simp[FQ.val,results,Tryz.results72,go_sem,g0,g1,g2,g3]) rfl ⟨⟨⟨so,⟨m.toArray⟩,fJ,0,fK,some ⟨w6.heap.size,0,none⟩,1,1⟩,rfl,HRm.o ▸ H9.o.1.move (fun b hok hlt=>⟨by have h:W1.heap.size<=b:=hok;omega,k6.same b hlt (by have h:W1.heap.size<=b:=hok;omega)⟩)⟩,Below.kp1 H9.o.2.1 k6 (by omega)⟩):G:=h
theorem pm57(h:G:=by
 go_cut [14] from 8 to 14 (fun s14 wx=>s14=.bool false/\Below W1.heap.size W1 wx)
 case first=>
  cases tv with
  | false=>
   go_wp2_with fail;go_meet;exact ⟨rfl,ak _ _⟩
  | true=>
   have nD:dC n=false:=by simpa using Kr
   rw[nD]at sr;go_wp2_with (go_at_call 119;refine sr.o.mono ?_;rintro e w3 ⟨rfl,aL⟩;have H3:=ae aL;clear aL);go_meet;exact ⟨rfl,H3.o⟩
 case rest=>
 obtain ⟨h14,bD⟩:=hcut;rw[h14];clear h14 Kr;obtain ⟨W2,bm⟩:=am wc;rw[<-bm]at bD ⊢;clear bm wc;have x2:=bR bD H1.o.2.1;have c2:=ai x2 2;have H2:=aG bD (H1.o.1.tr bD);clear bD x2 e0 e1 e2;go_wp2_with fail
 first
 |clear pp57;clear c2;go_loopw [5,26] (fun r i wr=>∃j:Nat,j<=n1/\i=.int .i64 j/\r=.int .i64 ((eb k.ts (a.take j)+1:Nat):Int)/\Below W2.heap.size W2 wr) (fun _ i _=>n1 - (intOf i).toNat)
  case atStart=>exact ⟨0,bc _,rfl,by simp[eb],ak _ _⟩
  case round=>
   obtain ⟨j,hj,rfl,rfl,ar⟩:=hrel
   by_cases hlt:j<n1
   ·have lx:=cF HN.o hlt;have pp192c:=();exact pm192
   ·obtain rfl:n1=j:=by omega
    have ct:a.take n1=a:=by rw[HN.o];exact cV
    rw[ct];have HK:=ae (H2.o.2.tr ar);clear ar ct;go_wp2;go_ret;exact ⟨by rw[qK.o];rfl,HK.o⟩
 |clear c2;go_loopw [5,27] (fun r i wr=>∃j:Nat,j<=n1/\i=.int .i64 j/\OwnS W2.heap.size wr r (dJ k.ts (a.take j))/\Below W2.heap.size W2 wr) (fun _ i _=>n1 - (intOf i).toNat)
  case atStart=>exact ⟨0,bc _,rfl,OwnS.nil _ _,ak _ _⟩
  case round=>
   obtain ⟨j,hj,rfl,ek,ar⟩:=hrel
   by_cases hlt:j<n1
   ·have lx:=cF HN.o hlt;exact pm192
   ·obtain rfl:n1=j:=by omega
    have ct:a.take n1=a:=by rw[HN.o];exact cV
    rw[ct]at ek;have HK:=aG (H2.o.2.tr ar) (ek.base H2.o.2.size);clear ar ek ct;go_wp2;go_ret;exact ⟨⟨_,rfl,by rw[qK.o];exact HK.o.2⟩,HK.o.1⟩):G:=h
theorem pm58(h:G:=by
 have CT:=ae (fun w=>ht ▸ kt n w rR);have HE:=ae (hb.trans (by rw[hv,ht] <;> rfl));clear hv ht hb lM MR rS pi;have pp80f:=();exact pm80):G:=h
theorem pm59(h:G:=by
 go_wp2_with (first | (go_at_call 84;refine AV.o.mono ?_;rintro e w3 ⟨rfl,uz,aL⟩;have H3:=aG uz aL;clear uz aL) | (go_at_call 75;refine (FL _ _).mono ?_;rintro e w4 ⟨rfl,rfl⟩) | (go_at_call 74;refine (yI _ _ _ U1.o _ H3.o.1).mono ?_;rintro e w5 ⟨v5,rfl,Lw,bj⟩;have H5:=aG Lw bj;clear Lw bj));go_ret;have aL:RowKit.Below W2.heap.size W2 w3:=by rw[HZ3.o,gK.o];exact H3.o.2
 have hO:=cO.o.trans (aL.mono cO.o.size);exact ⟨⟨v5,rfl,ownsRow_base_a H5.o.1.1 hO.size,H5.o.1.2⟩,hO.trans (H5.o.2.mono hO.size)⟩):G:=h
theorem pm60(h:G:=by
 have x6:=pC (v0:=.bool pv) (v1:=.string pn) (v2:=.slice pa pl pc) H5.o.2.2.1;have k6:=eD (W:=w5) (b:=w.heap.size+1) (v0:=.bool pv) (v1:=.string pn) (v2:=.slice pa pl pc);obtain ⟨W6,da⟩:=am (((w5.setCell ⟨w.heap.size+1,0,none⟩ (.bool pv)).setCell ⟨w.heap.size+1,1,none⟩ (.string pn)).setCell ⟨w.heap.size+1,2,none⟩ (.slice pa pl pc));rw[<-da]at x6 k6 ⊢;clear da;have g0:W6.cell? ⟨w.heap.size+1,0,none⟩=some (.bool pv):=ai x6 0;have g1:W6.cell? ⟨w.heap.size+1,1,none⟩=some (.string pn):=ai x6 1;have g2:W6.cell? ⟨w.heap.size+1,2,none⟩=some (.slice pa pl pc):=ai x6 2
 first
 |clear pp60;have hz:=HY.o.2.2;refine bJ (v:=TQ.val ⟨pv,pn,pa,pl,pc⟩) (by simp[TQ.val,results,Tryz.results218,go_sem,g0,g1,g2]) rfl ⟨⟨⟨pv,pn,pa,pl,pc⟩,rfl,H5.o.1.move (fun b hok hlt=>⟨by omega,k6.same b hlt (by omega)⟩)⟩,Below.kp1 H5.o.2.1 k6 (by omega)⟩
 |refine bJ (v:=TQ.val ⟨pv,pn,pa,pl,pc⟩) (by simp[TQ.val,results,Tryz.results168,go_sem,g0,g1,g2]) rfl ⟨⟨⟨pv,pn,pa,pl,pc⟩,rfl,H5.o.1.move (fun b hok hlt=>⟨by omega,k6.same b hlt (by omega)⟩)⟩,Below.kp1 H5.o.2.1 k6 (by omega)⟩):G:=h
theorem pm61(h:G:=by
 obtain ⟨e0,e1,e2,e3,_,_,_,_⟩:=dp H2.o.2.1;have g0:W2.cell? ⟨kb,0,none⟩=some (.map (some mF)):=ai H2.o.2.2.box 0;have g1:W2.drew.cell? ⟨kb,0,none⟩=some (.map (some mF)):=g0;have g3:W2.drew.cell? ⟨w.heap.size+1,1,none⟩=some (.string ⟨n.toArray⟩):=e1;have aL:Below W2.heap.size W2 (W2.alloc (.cells #[.int .u8 0,.string ⟨#[]⟩,.slice none 0 0,.slice none 0 0] 36)):=cJ;obtain ⟨g4,g5⟩:=AN aL g0 e1;rcases H2.o.2.2.fs.look Tryz.underlying9 Tryz.underlying145 lD (x:=n) (by omega) with ⟨hg,hlk⟩ | ⟨f,vf,hg,hvf,hlk⟩
 first
 |clear pp61
  ·have l1:=(hlk W2.drew rfl).1;have pp107a:=();exact pm107
  ·obtain ⟨⟨Ec,Ed,Ee,Ef,Eg,Eh,Ei,Ej⟩,rfl,ot,Gm⟩:=hvf;simp only[FQ.val]at hlk;have l1:=(hlk W2.drew rfl).1;have pp107b:=();exact pm107
 |·have l1:=(hlk W2.drew rfl).1;have l2:=(hlk (W2.alloc (.cells #[.int .u8 0,.string ⟨#[]⟩,.slice none 0 0,.slice none 0 0] 36)).drew (bI _ _ _ (by have:=H2.o.2.2.fs.lt;omega))).1;have L0:=ae (show R=true by rw[hE,hg]);have bQ:=ae (H2.o.1.tr aL.drew);clear hlk hg aL hE;go_enter Tryz.func124,Tryz.ntmps124;go_upto_region 4 with fail;rw[<-gK.o];go_region
   all_goals
    go_wp2;go_ret;exact ⟨by rw[L0.o];rfl,bQ.o⟩
  ·obtain ⟨⟨Ec,Ed,Ee,Ef,Eg,Eh,Ei,Ej⟩,rfl,ot,Gm⟩:=hvf;simp only[FQ.val]at hlk;have l1:=(hlk W2.drew rfl).1;exact pm107):G:=h
theorem pm62(h:G:=by
 have H5:=ae (((ak wq.heap.size wq).drew).trans bj);refine hK _ _ (fun _=>by rw[dh.o];exact H5.o) (fun _=>?_);clear hK K bj;refine bZ 7 rfl fun K hK=>?_;go_simp;refine aK.2 ((IV.o w5 H5.o).mono ?_);rintro _ w6 ⟨⟨⟨p0,p1,p2,p3,p4,p5,p6,p7⟩,rfl,hp⟩,cR⟩;have H6:=ae (H5.o.tr cR);refine hK _ _ (fun _=>by rw[dh.o];exact H6.o) (fun _=>?_);clear hK K;refine bZ 8 rfl fun K hK=>?_;go_simp;have fw:Below w6.heap.size w6 (w6.alloc (.cells #[.int .u8 p0,.string p1,.slice p2 p3 p4,.slice p5 p6 p7] 36)):=cJ;refine hK _ _ (fun _=>by rw[dh.o];exact H6.o.tr fw) (fun _=>?_)
 first
 |clear pp62;clear hK K;have pp56:=();exact pm56
 |clear hK K;exact pm56):G:=h
theorem pm63(h:G:=by
 go_enter Tryz.func64,Tryz.ntmps64
 first
 |clear pp63a;go_wp2_with (first | (go_at_call 115;refine C1.o.mono ?_;rintro e w' ⟨rfl,mn⟩;obtain rfl:=mn.symm) | (go_at_call 116;refine (CN.o _).mono ?_;rintro e w3 ⟨rfl,aL⟩;have bQ:=ae aL;have p2:=(gu.o.later aL).c2;have p3:=(gu.o.later aL).c3;have p0:=(gu.o.later aL).c0;have s3:=(pZ.o.later aL).c3;have s4:=(pZ.o.later aL).c4;clear aL));go_ret;exact JPost.no (l:=left - 1) HE.o (mo.o.trans (Kp.below bQ.o)) (uG.o.later bQ.o) (by omega) (by omega)
 |clear pp63b;go_wp2_with (first | (go_at_call 115;refine C1.o.mono ?_;rintro e w' ⟨rfl,mn⟩;obtain rfl:=mn.symm));go_ret;exact JPost.no (l:=left - 1) HE.o (mo.o) (uG.o) (by omega) (by omega)
 |clear pp63c;go_wp2_with (first | (go_at_call 115;refine C1.o.mono ?_;rintro e w' ⟨rfl,mn⟩;obtain rfl:=mn.symm));go_ret;exact JPost.no (l:=left - 1) HE.o nR.o.1 nR.o.2.1 (by omega) (by omega)
 |clear pp63d;go_wp2_with (go_at_call 115;refine C1.o.mono ?_;rintro e w' ⟨rfl,rfl⟩);go_ret;exact JPost.no (l:=left - 1) HE.o ((nP _).trans (Kp.below cJ)) ((HJ.o.set _).later cJ) (by omega) (by omega)
 |clear pp63e;go_wp2_with (first | (go_at_call 115;refine C1.o.mono ?_;rintro e w' ⟨rfl,mn⟩;obtain rfl:=mn.symm) | (go_at_call 116;refine (CN.o _).mono ?_;rintro e w3 ⟨rfl,aL⟩;have bQ:=ae aL;have p2:=(gu.o.later aL).c2;have p3:=(gu.o.later aL).c3;have p0:=(gu.o.later aL).c0;have s3:=(pZ.o.later aL).c3;have s4:=(pZ.o.later aL).c4;clear aL) | (go_at_call 117;refine (CI.o _ (mo.o.trans (Kp.below bQ.o))).mono ?_;rintro e w4 ⟨rfl,aP⟩;have eG:=ae aP;have p2:=((gu.o.later bQ.o).later aP).c2;have p3:=((gu.o.later bQ.o).later aP).c3;clear aP) | (go_at_call 118;refine (CT.o _ ((mo.o.trans (Kp.below bQ.o)).trans (Kp.below eG.o)) ((uG.o.later bQ.o).later eG.o)).mono ?_;rintro e w5 ⟨rfl,sE,l5,zS,zT,oB,jQ⟩;have Wu:=jQ rfl;subst Wu;have Mg:Kp (fun c=>c=J) w w5:=((mo.o.trans (Kp.below bQ.o)).trans (Kp.below eG.o)).trans sE;have e3:w5.cell? ⟨w.heap.size,3,none⟩=some (.slice qb m0 qe):=(((gu.o.later bQ.o).later eG.o).kp sE (by omega)).c3;have HA:=aG Mg zS;clear sE zS zT oB jQ Mg))
  first
  |clear pp22;exact pm4
  |exact pm3
 |clear pp63f;go_wp2_with (first | (go_at_call 115;refine C1.o.mono ?_;rintro e w' ⟨rfl,mn⟩;obtain rfl:=mn.symm) | (go_at_call 116;refine (CN.o _).mono ?_;rintro e w3 ⟨rfl,aL⟩;have bQ:=ae aL;have p2:=(gu.o.later aL).c2;have p3:=(gu.o.later aL).c3;have p0:=(gu.o.later aL).c0;have s3:=(pZ.o.later aL).c3;have s4:=(pZ.o.later aL).c4;clear aL) | (go_at_call 117;refine (CI.o _ (mo.o.trans (Kp.below bQ.o))).mono ?_;rintro e w4 ⟨rfl,aP⟩;have eG:=ae aP;have p2:=((gu.o.later bQ.o).later aP).c2;have p3:=((gu.o.later bQ.o).later aP).c3;clear aP) | (go_at_call 118;refine (CT.o _ ((mo.o.trans (Kp.below bQ.o)).trans (Kp.below eG.o)) ((uG.o.later bQ.o).later eG.o)).mono ?_;rintro e w5 ⟨rfl,sE,l5,zS,zT,oB,jQ⟩;have HH:=cC sE zS zT zT;have HL:=ae (show l5<=left - 1 from oB);clear sE zS zT oB jQ));go_ret;exact JPost.no HE.o (((mo.o.trans (Kp.below bQ.o)).trans (Kp.below eG.o)).trans HH.o.1) HH.o.2.1 HH.o.2.2.1 (by have:=HL.o;omega)
 |clear pp63g;go_wp2_with (first | (go_at_call 115;refine C1.o.mono ?_;rintro e w' ⟨rfl,mn⟩;obtain rfl:=mn.symm) | (go_at_call 116;refine (CN.o _).mono ?_;rintro e w3 ⟨rfl,aL⟩;have bQ:=ae aL;have p2:=(gu.o.later aL).c2;have p3:=(gu.o.later aL).c3;have p0:=(gu.o.later aL).c0;have s3:=(pZ.o.later aL).c3;have s4:=(pZ.o.later aL).c4;clear aL) | (go_at_call 117;refine (CI.o _ (mo.o.trans (Kp.below bQ.o))).mono ?_;rintro e w4 ⟨rfl,aP⟩;have eG:=ae aP;have p2:=((gu.o.later bQ.o).later aP).c2;have p3:=((gu.o.later bQ.o).later aP).c3;clear aP));go_ret;exact JPost.no (l:=left - 1) HE.o ((mo.o.trans (Kp.below bQ.o)).trans (Kp.below eG.o)) ((uG.o.later bQ.o).later eG.o) (by omega) (by omega)
 |clear pp63h;go_wp2_with (first | (go_at_call 115;refine C1.o.mono ?_;rintro e w' ⟨rfl,mn⟩;obtain rfl:=mn.symm) | (go_at_call 116;refine (CN.o _).mono ?_;rintro e w3 ⟨rfl,aL⟩;have bQ:=ae aL;have p2:=(gu.o.later aL).c2;have p3:=(gu.o.later aL).c3;have p0:=(gu.o.later aL).c0;have s3:=(pZ.o.later aL).c3;have s4:=(pZ.o.later aL).c4;clear aL) | (go_at_call 118;refine (CT.o _ (mo.o.trans (Kp.below bQ.o)) (uG.o.later bQ.o)).mono ?_;rintro e w5 ⟨rfl,sE,l5,zS,zT,oB,jQ⟩;have Wu:=jQ rfl;subst Wu;have Mg:Kp (fun c=>c=J) w w5:=(mo.o.trans (Kp.below bQ.o)).trans sE;have e3:w5.cell? ⟨w.heap.size,3,none⟩=some (.slice qb m0 qe):=((gu.o.later bQ.o).kp sE (by omega)).c3;have HA:=aG Mg zS;clear sE zS zT oB jQ Mg))
  first
  |clear pp35;exact pm4
  |exact pm3
 |go_wp2_with (first | (go_at_call 115;refine C1.o.mono ?_;rintro e w' ⟨rfl,mn⟩;obtain rfl:=mn.symm) | (go_at_call 116;refine (CN.o _).mono ?_;rintro e w3 ⟨rfl,aL⟩;have bQ:=ae aL;have p2:=(gu.o.later aL).c2;have p3:=(gu.o.later aL).c3;have p0:=(gu.o.later aL).c0;have s3:=(pZ.o.later aL).c3;have s4:=(pZ.o.later aL).c4;clear aL) | (go_at_call 118;refine (CT.o _ (mo.o.trans (Kp.below bQ.o)) (uG.o.later bQ.o)).mono ?_;rintro e w5 ⟨rfl,sE,l5,zS,zT,oB,jQ⟩;have HH:=cC sE zS zT zT;have HL:=ae (show l5<=left - 1 from oB);clear sE zS zT oB jQ));go_ret;exact JPost.no HE.o ((mo.o.trans (Kp.below bQ.o)).trans HH.o.1) HH.o.2.1 HH.o.2.2.1 (by have:=HL.o;omega)):G:=h
theorem pm64(h:G:=by
 have pp278:=();exact pm278):G:=h
theorem pm65(h:G:=by
 simp only[FQ.val,TQ.val]at IV;have dh:=ae hS;clear hS;refine lg S 9 dO fun jp bN=>?_;refine c9 0 107 (.agg #[.int .u8 q.o,.string q.n,.slice q.a q.l q.c,.slice q.b q.m q.e]) rfl (fun V hX=>by obtain ⟨g0,g1,g2,g3⟩:=f0 V hX;go_simp) bN fun Pr=>?_;simp only[ag];refine bC 1 108 (.pointer (some ⟨w.heap.size,1,none⟩)) rfl Pr fun Ps=>?_;simp only[ag];refine c9 2 109 (.string ⟨n.toArray⟩) rfl (fun V hX=>by obtain ⟨g0,g1⟩:=f1 V hX;go_simp) Ps fun Jw=>?_;simp only[ag];refine bC 4 111 (.pointer (some ⟨w.heap.size+1+1,1,none⟩)) rfl Jw fun Pt=>?_;simp only[ag]
 first
 |clear pp65;refine c9 5 112 (.string ⟨n.toArray⟩) rfl (fun V hX=>by obtain ⟨g0,g1⟩:=f1 V hX;go_simp) Pt fun WR=>?_
  simp only[ag];refine bZ 3 rfl fun K hK=>?_;go_simp;refine aK.2 ((eU n _ (by have:=QI.o.2.1;omega)).mono ?_);rintro _ _ ⟨rfl,rfl⟩;refine hK _ _ (fun _=>dO) (fun _=>?_);clear hK K;refine bZ 6 rfl fun K hK=>?_;go_simp;refine aK.2 ((gj n _).mono ?_);rintro _ w5 ⟨rfl,bj⟩;have pp62:=();exact pm62
 |refine c9 5 112 (.string ⟨m.toArray⟩) rfl (fun V hX=>by obtain ⟨g0,g1⟩:=f1 V hX;go_simp) Pt fun WR=>?_
  simp only[ag];refine bZ 3 rfl fun K hK=>?_;go_simp;refine aK.2 ((eU n _ (by have:=QI.o.2.1;omega)).mono ?_);rintro _ _ ⟨rfl,rfl⟩;refine hK _ _ (fun _=>dO) (fun _=>?_);clear hK K;refine bZ 6 rfl fun K hK=>?_;go_simp;refine aK.2 ((gj m _).mono ?_);rintro _ w5 ⟨rfl,bj⟩;exact pm62):G:=h
theorem pm66(h:G:=by
 have qK:=ae hE;have pp137c:=();exact pm137):G:=h
theorem pm67(h:G:=by
 go_wp2_with (first | (go_at_call 187;refine (rO _ _ _).mono ?_;rintro e w' ⟨rfl,rfl⟩) | (go_at_call 239;refine HC.o.mono ?_;rintro e w' ⟨rfl,hw⟩));go_ret;exact ⟨rfl,(cJ.alloc (by simp) _).trans ((pA hw).mono (by simp;omega))⟩):G:=h
theorem pm68(h:G:=by
 exact pm276):G:=h
theorem pm69(h:G:=by
 exact pm80):G:=h
theorem pm70(h:G:=by
 go_wp2;refine aS (by kernel_rfl) (by kernel_rfl) ?_
 repeat (go_big_quiet_step (fail))
 refine wpQuiet_nil ?_;rintro _ ⟨x',rfl⟩
 first
 |clear pp70a;clear f0 f1;have cO:=ae (HB.o.trans (x'.below.mono HB.o.size));obtain ⟨bb,cI⟩:=am (Op.bytesLess x y);rw[<-cI];have HT2:Hd (R=(bb && dz (l.drop (k+1)))):=ae (by rw[cI];exact HT.o);clear cI HT;cases bb
  ·have HE:=ae (show R=false by rw[HT2.o];simp);go_wp2;go_ret;exact ⟨aO HE.o.symm,cO.o⟩
  ·go_wp2;go_roundw
   case rel=>exact ⟨k+1,.inr hlt,by go_num,cO.o,by rw[HT2.o];simp⟩
   case measure=>simp[intOf];omega
 |clear pp70b;clear f0 f1 f2 f3;go_wp2;go_ret;exact ⟨aO HE.o.symm,dt.o.trans (x'.below.mono dt.o.size)⟩
 |clear pp70c;clear f0 f1 f2 f3;go_wp2;go_roundw
  case rel=>exact ⟨j,by omega,by go_num,sj.o.trans (x'.below.mono sj.o.size),HT.o⟩
  case measure=>simp[intOf];try omega
 |clear f0 f1 f2 f3 f4 f5;go_wp2;go_ret;exact ⟨aO (HNe.o (by rw[HX.o.1,HX.o.2];intro h;injection h with _ h _;exact hn h)).symm,HB.o.trans (x'.below.mono HB.o.size)⟩):G:=h
theorem pm71(h:G:=by
 have O6:=bR qg fL;have GS:Marks mS.heap.size mj ds:=wa.move (fun D hD hd=>(qg.block D (bz hd)).trans hd);have rg:Kp M mS mj:=bh.trans (Kp.below qg);have wJ:=dS.later qg;have O7:=Fg pY;have hMl:∀ b,M b->b<mS.heap.size:=fun b hb=>by rw[HM.o]at hb;have:=ld.o.1;have:=ld.o.2.1;omega
 have sP:=qS RW rg (YA.tr qg) O7 hMl bh.size;have EA:=cC O5 O6 GS wJ;have O8:=bG xS qY pE;have AZ:=bG o6 hi1 uB;have Wz:=ae pY;have x1w:=bR qg YB;have jo:=ae x1w;clear Ff fL wa bh dS xS qY pE o6 hi1 uB pY qg RW O5 O6 GS rg wJ O7 hMl YA YB x1w
 first
 |clear pp71;have hix:(Instr.index 83 (.agg #[(.func (.func 47) #[.pointer (some ⟨K0+1+1+1,0,none⟩)] #[]),(.func (.func 48) #[.pointer (some ⟨K0+1+1+1,0,none⟩)] #[])]) (.int .i64 0)).run Tryz.prog wr=.ok (.func (.func 47) #[.pointer (some ⟨K0+1+1+1,0,none⟩)] #[]) wr:=by kernel_rfl
  gi_wp2_with fail;clear e0 hix;rw[<-Wz.o];refine kU [53,54,55,56,57,14,15,58,59,60,61,62,70] 53 (fun us ds wq=>∃j:Nat,j<=n1/\us 53=.int .i64 j/\Marks mS.heap.size wq ds/\Kp M mj wq/\wq.heap[aB+1]?=some (.cells #[.int .i64 0] 30 (0,0))/\wq.heap[aB]?=some (.cells #[.int .i64 0] 3 (0,0)) ∧
   ∃(kj:Bd) (Mk Ml:Nat),KnV (fun b=>¬M b) goodF goodT wq (K0+1+1+1) (K0+1) (K0+1+1) Mk Ml kj/\Mk<=nF+j * 400/\Ml<=nT+j * 160000/\bL kj=true/\d8 bV 0 k l=d8 bV j kj (l.drop j)) (fun v=>n1 - (intOf v).toNat) (by simp) (by decide) ?start3 ?round3
  case start3=>exact ⟨0,bc _,rfl,EA.o.2.2.1,Kp.refl _,EA.o.1,EA.o.2.1,k,nF,nT,EA.o.2.2.2,by omega,by omega,O8.o.1,by simp⟩
  case round3=>
   have pp129:=();exact pm129
 |have hix:(Instr.index 83 (.agg #[(.func (.func 47) #[.pointer (some ⟨K0+1+1+1,0,none⟩)] #[]),(.func (.func 48) #[.pointer (some ⟨K0+1+1+1,0,none⟩)] #[])]) (.int .i64 1)).run Tryz.prog wr=.ok (.func (.func 48) #[.pointer (some ⟨K0+1+1+1,0,none⟩)] #[]) wr:=by kernel_rfl
  gi_wp2_with fail;clear e0 hix;rw[<-Wz.o];refine kU [53,54,55,56,57,14,15,58,59,60,61,62,70] 53 (fun us ds wq=>∃j:Nat,j<=n1/\us 53=.int .i64 j/\Marks mS.heap.size wq ds/\Kp M mj wq/\wq.heap[aB+1]?=some (.cells #[.int .i64 0] 30 (0,0))/\wq.heap[aB]?=some (.cells #[.int .i64 0] 3 (0,0)) ∧
   ∃(kj:Bd) (Mk Ml:Nat),KnV (fun b=>¬M b) goodF goodT wq (K0+1+1+1) (K0+1) (K0+1+1) Mk Ml kj/\Mk<=nF+j * 400/\Ml<=nT+j * 160000/\bL kj=true/\d8 eF 0 k l=d8 eF j kj (l.drop j)) (fun v=>n1 - (intOf v).toNat) (by simp) (by decide) ?start3 ?round3
  case start3=>exact ⟨0,bc _,rfl,EA.o.2.2.1,Kp.refl _,EA.o.1,EA.o.2.1,k,nF,nT,EA.o.2.2.2,by omega,by omega,O8.o.1,by simp⟩
  case round3=>
   exact pm129):G:=h
theorem pm72(h:G:=by
 obtain ⟨⟨so,sn,sa,sl,sc,sb,sm,se⟩,⟨fo,fn,fa,fl,fc,fb,fm,fe⟩,ca,cl,cc⟩:=q
 first
 |clear pp72a;simp only[PlQ.cells,PlQ.val,FQ.val]at IL xq ⊢;have t0:W3.cell? ⟨w.heap.size+1,0,none⟩=some (.int .u8 qo):=ai xt 0;have t1:W3.cell? ⟨w.heap.size+1,1,none⟩=some (.string ⟨n.toArray⟩):=ai xt 1;have t2:W3.cell? ⟨w.heap.size+1,2,none⟩=some (.slice qa k0 qc):=ai xt 2;rw[<-cg,<-eh];have HX:=bG xp xt x1;clear hq bK ej az ih Q9 cH cg eh DW hi' aL uz xp xt x1 ec hL NU tk hLs;go_enter Tryz.func91,Tryz.ntmps91;go_wp2;rw[<-xq.o];obtain ⟨W1,bX⟩:=am (W3.alloc (.cells #[.int .u8 qo,.string ⟨n.toArray⟩,.slice none 0 0,.slice none 0 0] 36));have Bb:=cZ bX;have Zm:W1.heap[w.heap.size+1+1+1]?=some (.cells #[.int .u8 qo,.string ⟨n.toArray⟩,.slice none 0 0,.slice none 0 0] 36 (0,0)):=by rw[bX];exact aj (by have:=bQ.o.2;omega)
  rw[<-bX];have iP:W1.heap.size=w.heap.size+4:=by rw[bX];have:=bQ.o.2;simp;omega
  have uT:=ae (Fills.start (R:=w.heap.size+1+1+1) (mk:=fun rr=>#[.int .u8 qo,.string ⟨n.toArray⟩,rr,.slice none 0 0]) (Row:=fun r W=>RowT W1.heap.size r ([]:List Tm) W) Zm (RowT.nil _ _));have d_:=aG (bQ.o.1.tr Bb) iP;have NV:=ae (bR Bb HX.o.1);have Zo:=ae (bR Bb HX.o.2.1);have LK:=ae (bR Bb HX.o.2.2);clear bX Bb Zm iP t0 t1 t2;go_loopw [25] (fun i wr=>∃k1:Nat,k1<=k0/\i=.int .i64 k1/\∃row Q',Fills 36 (w.heap.size+1+1+1) W1.heap.size (fun rr=>#[.int .u8 qo,.string ⟨n.toArray⟩,rr,.slice none 0 0]) (fun r W=>RowT W1.heap.size r Q' W) W1 wr row/\gP ps.reverse ins (a.take k1)=some Q'/\Q'.length=k1) (fun i _=>k0 - (intOf i).toNat)
  case atStart=>exact ⟨0,bc _,rfl,_,[],uT.o,by simp[gP],rfl⟩
  case round=>
   obtain ⟨k1,hk,rfl,row,Q',hF,yW,Bc⟩:=hrel;have ar:=hF.below d_.o.1 (by omega);obtain ⟨fJ,fK,rfl⟩:=hF.row.slice;rw[Bc]at hF
   by_cases hlt:k1<k0
   ·have dy:=cF dB.o hlt;have pp54a:=();exact pm54
   ·obtain rfl:k1=k0:=by omega
    have jG:a.take k1=a:=by rw[dB.o];exact cV
    rw[jG]at yW;have sg:=ae hF.row;have x2:=hF.box;have x1:=hF.other (by omega) LK.o;have xp:=hF.other (by omega) NV.o;have xt:=hF.other (by omega) Zo.o;obtain ⟨DX,NW⟩:=am wr;subst NW;have CQ:=eI ⟨qo,⟨n.toArray⟩,qa,k1,qc,qb,m0,qe⟩ DX;simp only[FQ.val]at CQ;have e0:DX.cell? ⟨w.heap.size+1,0,none⟩=some (.int .u8 qo):=ai xt 0;have e1:DX.cell? ⟨w.heap.size+1,1,none⟩=some (.string ⟨n.toArray⟩):=ai xt 1;have e2:DX.cell? ⟨w.heap.size+1,2,none⟩=some (.slice qa k1 qc):=ai xt 2;have e3:DX.cell? ⟨w.heap.size+1,3,none⟩=some (.slice qb m0 qe):=ai xt 3;have Hk:=ae CQ;have HAs:=aG yW Bc;have Q_:=ae hF;have HE:=fh xp xt x1 x2 ar;clear CQ yW Bc hF xp xt x1 x2 ar jG;go_wp2_with fail;refine Hk.o.mono ?_;rintro e wq ⟨rfl,nq⟩;clear e0 e1 e2 e3;have Vb:=Q_.o.later nq (fun r=>r.below nq);have F3:=ae (HE.o.2.2.2.2.tr nq);have Zp:=ae (Vb.other (by omega) NV.o);have Vc:=ae (Vb.other (by omega) Zo.o);have Zq:=ae (Vb.other (by omega) LK.o);obtain ⟨Zr,Ti⟩:=a_ Vb.box Vb.row;have NX:=aG Vb.size Q_.o.lt;clear nq Vb Q_ HE sg
    cases o_:bU qo with
    | false=>
     have uB:qV=ins:=by rw[HI'.o,o_];rfl
     have NY:=aG F3.o NX.o.1;have NZ:=Zp;have Vd:=Vc;have N0:=Zq;have Ve:=Zr;have IP:=Ti;have IQ:=aG (nO.o.1.later F3.o) (show ∀ b,vL.ownBlock=some b->b≠w.heap.size+1+1+1/\b<wq.heap.size from fun b hb=>by have:=nO.o.2 b hb;have:=F3.o.size;omega);have IR:=xr.o.2;rw[uB]at IR;have N1:=aG xr.o.1 IR;clear xr IR;have Vf:=ae (Fills.start (R:=w.heap.size+1+1+1) (mk:=fun rr=>#[.int .u8 qo,.string ⟨n.toArray⟩,.slice fJ k1 fK,rr]) (Row:=fun r W=>RowF wq.heap.size r ([]:List Fm) W) Ve.o (RowF.nil _ _));have p3:wq.cell? ⟨w.heap.size+1,3,none⟩=some (.slice qb m0 qe):=ai Vd.o 3;clear uB;go_wp2;clear p3;go_loopw [61] (fun i wr=>∃k:Nat,k<=m0/\i=.int .i64 k/\∃row us,Fills 36 (w.heap.size+1+1+1) wq.heap.size (fun rr=>#[.int .u8 qo,.string ⟨n.toArray⟩,.slice fJ k1 fK,rr]) (fun r W=>RowF wq.heap.size r us W) wq wr row/\iU ps.reverse ins (s.take k)=some us/\us.length=k) (fun i _=>m0 - (intOf i).toNat)
     case atStart=>exact ⟨0,bc _,rfl,_,[],Vf.o,by simp[iU],rfl⟩
     case round=>
      have pp216:=();exact pm216
    | true=>
     obtain ⟨i0s,Ra,zbT,zbU,zbV⟩:=info_parts yQ;have uB:qV=n :: ins:=by rw[HI'.o,o_];rfl
     have zbW:=nO.o.1.later F3.o;obtain ⟨la,lc,LD,hlc,rq⟩:=zbW;obtain ⟨l0,sq⟩:=am L.length;rw[<-sq]at LD hlc;have zeb:l0<=2000000:=by rw[sq];exact IN.o.2.2
     have pp156:=();exact pm156
 |clear pp72b;simp only[PlQ.val,PlQ.cells]at gK HC ⊢;go_enter Tryz.func163,Tryz.ntmps163;go_wp2_with (rw[<-gK.o];go_at_call 227;refine HC.o.mono ?_;rintro e w4 ⟨rfl,aP⟩;have H4:=ae aP;clear aP);go_ret;exact ⟨rfl,HB.o.tr H4.o⟩
 |clear pp72c;simp only[PlQ.val,PlQ.cells,TQ.val]at xq X_ P0 P1 P2 P3 P4 P5 P6 P7 P8 ⊢;clear dS pE gU oW huv h_ D9 hR pN aL oR xp xt xu kQ dX ku og Yl ih ec;have CM:=jF n W3 (by omega);have sr:=ae CM;clear CM
  cases tv with
  | true=>
   cases nD:dC n with
   | true=>
    rw[nD]at sr;have pp147b:=();exact pm147
   | false=>
    rw[nD]at sr;have Yi:(ps.map (·.1)).contains n=(ps.reverse.map (·.1)).contains n:=by rw[gy,List.contains_iff_mem,List.contains_iff_mem];simp
    have Rw:=ae (fun (w:World) (hb:Below W3.heap.size W3 w)=>Cp ⟨⟨so,sn,sa,sl,sc,sb,sm,se⟩,⟨fo,fn,fa,fl,fc,fb,fm,fe⟩,ca,cl,cc⟩ ps HG.o.1 n w (X_.o.1.later hb));simp only[PlQ.val,PlQ.cells]at Rw;rw[Yi]at Rw;clear Yi
    cases I6:(ps.reverse.map (·.1)).contains n with
    | true=>
     rw[I6]at Rw;have HE:=ae (show R=if uL (.mk uv n' a') (ap (dc n)) then some k.ts else none by rw[HR.o,aw (by simp[nD]),aH (by rw[I6];rfl)]);obtain ⟨bb,cI⟩:=am (uL (.mk uv n' a') (ap (dc n)));rw[<-cI]at HE;have Kw:=ae cI;clear I6 cI nD;have pp6a:=();exact pm6
    | false=>
     rw[I6]at Rw;have AB:=I6
     cases uv with
     | false=>
      have HE:=ae (show R=none by rw[HR.o,aw (by simp[nD]),aw (by rw[AB];simp),aH (by simp)]);clear nD I6 AB;have pp6b:=();exact pm6
     | true=>
      by_cases lM:n=n'
      ·subst lM
       by_cases mY:n1=n2
       ·skip;subst mY;have Kx:(n == n)=true:=by simp
        have HE:=ae (show R=b_ (ps.reverse.map (·.1)) k.ts a a' by rw[HR.o,aw (by simp[nD]),aw (by rw[AB];simp),aw (by rw[<-HN.o.1,<-HN.o.2];simp)]);clear nD I6 AB;exact pm6
       ·have HE:=ae (show R=none by rw[HR.o,aw (by simp[nD]),aw (by rw[AB];simp),aH (by rw[<-HN.o.1,<-HN.o.2];simp[mY])]);have pp259:=();exact pm259
      ·have Kx:(n == n')=false:=by simp[lM]
       have HE:=ae (show R=none by rw[HR.o,aw (by simp[nD]),aw (by rw[AB];simp),aH (by simp[lM])]);clear nD I6 AB;have pp6b:=();exact pm6
  | false=>
   cases uv with
   | true=>
    have HE:=ae (show R=none by rw[HR.o,aw (by simp),aw (by simp),aH (by simp)]);exact pm78
   | false=>
    by_cases lM:n=n'
    ·subst lM
     by_cases mY:n1=n2
     ·skip;subst mY;have Kx:(n == n)=true:=by simp
      have HE:=ae (show R=b_ (ps.reverse.map (·.1)) k.ts a a' by rw[HR.o,aw (by simp),aw (by simp),aw (by rw[<-HN.o.1,<-HN.o.2];simp)]);rw[xq.o]at e0 e1 e2 f0 f1 f2;have pp147c:=();exact pm147
     ·have HE:=ae (show R=none by rw[HR.o,aw (by simp),aw (by simp),aH (by rw[<-HN.o.1,<-HN.o.2];simp[mY])]);exact pm259
    ·have Kx:(n == n')=false:=by simp[lM]
     have HE:=ae (show R=none by rw[HR.o,aw (by simp),aw (by simp),aH (by simp[lM])]);exact pm78
 |clear pp72d;obtain ⟨hs,hf,hc,he,hl⟩:=hpv;simp only at hs hf hc he hl qJ;have gU:=hp.ps he;obtain ⟨v1,v2,h1,h_,lV⟩:=aW.1 hs;obtain ⟨v3,v4,h2,D9,VO⟩:=aW.1 hf;simp only[FQ.val,cE,Array.mk.injEq,cB,and_true,Value.int.injEq,true_and,Value.string.injEq]at h1 h2;obtain ⟨rfl,rfl,rfl,rfl⟩:=h1;obtain ⟨rfl,rfl,rfl,rfl⟩:=h2;obtain rfl:=h_.len;obtain rfl:=D9.len;obtain rfl:=lV.len;obtain rfl:=VO.len;subst he;obtain ⟨R,hR⟩:=am (bV k ⟨.mk so n a s,.mk fo n' a' s',ps.reverse⟩);rw[<-hR];have pN:=hR;rw[Gj]at pN;obtain ⟨n1,dX⟩:=am a.length;obtain ⟨n2,ku⟩:=am a'.length;obtain ⟨m1,jz⟩:=am s.length;obtain ⟨m2,rd⟩:=am s'.length;rw[<-dX]at hs h_;rw[<-jz]at hs lV;rw[<-ku]at hf D9;rw[<-rd]at hf VO;rw[<-dX,<-ku,<-jz,<-rd];rw[<-dX,<-ku,<-jz,<-rd]at pN;obtain ⟨W1,bX⟩:=am (W.alloc (.cells #[.int .u8 so,.string ⟨n.toArray⟩,.slice sa n1 sc,.slice sb m1 se,.int .u8 fo,.string ⟨n'.toArray⟩,.slice fa n2 fc,.slice fb m2 fe,.slice ca cl cc] 89));have hb1:=cZ bX;have i_:=Fg bX;have x1:=cb bX;have lK:n.length<=16:=by have h:=ia _ hp.s;simp only[kJ,ah,bx]at h;exact h.2.1
  have kT:=ia _ hp.s;simp only[kJ,ah,bx]at kT;have rk:=ia _ hp.f;have az:fitF (.mk fo n' a' s'):=⟨by have:=hp.n;simp only at this;omega,gz (by omega) _ rk⟩;have xJ:nodesTs a<=400:=by simp only[nodesF]at qJ;omega
  have LQ:n1<=400:=by have:=g9 a;omega
  have Rn:n2<=2000000:=by rw[ku];exact az.args.len
  obtain ⟨HR,HP⟩:=a_ pN hp;have HG:=fh QG QF QH VM VN;have HV:=qS hs hf h_ D9 hc dS;have HN:=cC dX ku jz rd;have HB:=fh qY pE xJ hl gU;have iR:=ae bX;have H1:=bG hb1 i_ x1;have HF:=aG az kT;clear pN hR hp QG QF QH VM VN hs hf h_ D9 lV VO hc dS dX ku jz rd qY pE xJ hl gU bX hb1 i_ az kT rk zw qJ;simp only[PlQ.val,PlQ.cells];go_enter Tryz.func47,Tryz.ntmps47;go_wp2;rw[<-iR.o];go_cut [5,6] from 14 to 17 (fun s5 s6 wx=>∃B5 B6,s5=.pointer (some ⟨B5,0,none⟩)/\s6=.pointer (some ⟨B6,0,none⟩)/\Cmp W W1 B5 B6 #[.int .u8 so,.string ⟨n.toArray⟩,.slice sa n1 sc,.slice sb m1 se] #[.int .u8 fo,.string ⟨n'.toArray⟩,.slice fa n2 fc,.slice fb m2 fe] wx)
  case first=>
   obtain ⟨c0,c1,c2,c3,c4,c5,c6,c7⟩:=AM x1;have M4:Below W1.heap.size W1 (W1.alloc (.cells #[.int .u8 0,.string ⟨#[]⟩,.slice none 0 0,.slice none 0 0] 36)):=cJ;obtain ⟨d00,d01,d02,d03,d04,d05,d06,d07⟩:=H' M4 c0 c1 c2 c3 c4 c5 c6 c7;clear M4;have hb1:Below W1.heap.size W1 ((W1.alloc (.cells #[.int .u8 0,.string ⟨#[]⟩,.slice none 0 0,.slice none 0 0] 36)).alloc (.cells #[.int .u8 0,.string ⟨#[]⟩,.slice none 0 0,.slice none 0 0] 36)):=cJ.alloc (by simp) _;obtain ⟨d10,d11,d12,d13,d14,d15,d16,d17⟩:=H' hb1 c0 c1 c2 c3 c4 c5 c6 c7;clear hb1;have bD:Below W1.heap.size W1 ((W1.alloc (.cells #[.int .u8 so,.string ⟨n.toArray⟩,.slice sa n1 sc,.slice sb m1 se] 36)).alloc (.cells #[.int .u8 0,.string ⟨#[]⟩,.slice none 0 0,.slice none 0 0] 36)):=cJ.alloc (by simp) _;obtain ⟨d20,d21,d22,d23,d24,d25,d26,d27⟩:=H' bD c0 c1 c2 c3 c4 c5 c6 c7;clear bD;have aL:Below W1.heap.size W1 ((W1.alloc (.cells #[.int .u8 0,.string ⟨#[]⟩,.slice none 0 0,.slice none 0 0] 36)).alloc (.cells #[.int .u8 so,.string ⟨n.toArray⟩,.slice sa n1 sc,.slice sb m1 se] 36)):=cJ.alloc (by simp) _;obtain ⟨d30,d31,d32,d33,d34,d35,d36,d37⟩:=H' aL c0 c1 c2 c3 c4 c5 c6 c7;clear aL;go_region
   ·go_wp2_with fail;go_meet;exact ⟨_,_,rfl,rfl,Cmp.one W W1 _ _⟩
   ·go_wp2_with fail;go_meet;exact ⟨_,_,rfl,rfl,Cmp.two W W1 _ _⟩
  case rest=>
  obtain ⟨B5,B6,h5,h6,hcm⟩:=hcut;rw[h5,h6];clear h5 h6;obtain ⟨W3,ec⟩:=am wc;rw[<-ec]at hcm ⊢;clear ec wc;have aL:Below W.heap.size W W3:=H1.o.1.tr hcm.b;have xp:=bR hcm.b H1.o.2.2;have hlb:=hcm.l;obtain ⟨e0,e1,e2,e3,_,_,_,_⟩:=dp hcm.s;obtain ⟨f0,f1,f2,f3,_,_,_,_⟩:=dp hcm.f;obtain ⟨P0,P1,P2,P3,P4,P5,P6,P7⟩:=AM xp;have P8:=ai xp 8;have H3:=cC aL xp hcm hlb;have mo:=ae (HV.o.2.2.2.2.2.later aL);clear aL xp hcm hlb
  by_cases fG:so=16
  ·subst fG;have HE:=ae (show R=(k,0) by rw[HR.o,aH rfl]);go_wp2;go_ret;exact StepPost.good nF nT HE.o (Kp.below (H3.o.1.tr (ak _ _))) (by omega) (by omega) mo.o
  by_cases jW:so=15
  ·subst jW;obtain ⟨I,hI⟩:=am (ii ps.reverse [] (.mk fo n' a' s'));have I_:=HR.o;rw[aw (by decide),aH rfl,<-hI]at I_;have CI:=Cn ⟨⟨15,⟨n.toArray⟩,sa,n1,sc,sb,m1,se⟩,⟨fo,⟨n'.toArray⟩,fa,n2,fc,fb,m2,fe⟩,ca,cl,cc⟩ ps HB.o.2.2.2.1 HB.o.2.2.2.2 (.mk fo n' a' s') HF.o.1 [] [] (by have:=HF.o.1.1;simp;omega) (fun _=>rfl) (.slice none 0 0) (fun b=>¬M b) W3 ⟨fo,⟨n'.toArray⟩,fa,n2,fc,fb,m2,fe⟩ (HV.o.2.2.2.2.1.1.later H3.o.1) (Cz _) (HV.o.2.1.later H3.o.1);rw[<-hI]at CI;simp only[PlQ.val,PlQ.cells,FQ.val]at CI;have HC:=ae CI
   cases I with
   | none=>
    have HE:=ae (show R=(k,70) from I_);clear CI I_ hI;have pp151:=();exact pm151
   | some im=>
    have Yl:goodF im:=zu HP.o hI.symm;have Tw:=ae Yl;clear CI hI Yl;go_wp2_with (go_at_call 91;refine HC.o.mono ?_;rintro e w4 ⟨⟨⟨p0,p1,p2,p3,p4,p5,p6,p7⟩,rfl,hp⟩,aP⟩;have H4:=aG (hp _ rfl) aP;clear hp aP;simp only[Option.isSome]);obtain ⟨W5,eP⟩:=am (w4.alloc (.cells #[.int .u8 p0,.string p1,.slice p2 p3 p4,.slice p5 p6 p7] 36));rw[<-eP];have oX:=cZ eP;have mQ:Below W3.heap.size W3 W5:=H4.o.2.tr oX;have Iz:=Fg eP;have x7:=cb eP;have Gl:FormV (fun b=>¬M b) W5 (FQ.val ⟨p0,p1,p2,p3,p4,p5,p6,p7⟩) im:=H4.o.1.move (fun b hb hlt=>⟨fun hm=>by have:=HG.o.2.2.2.2 b hm;have:=H3.o.1.size;omega,oX.block b hlt⟩);have ji:=mo.o.later mQ;have bp:kb<W5.heap.size:=ji.ltb;have g0:W5.cell? ⟨kb,0,none⟩=some (.map (some mF)):=ai ji.box 0;have g1:W5.drew.cell? ⟨kb,0,none⟩=some (.map (some mF)):=ai ji.box 0;have g2:=aa mQ e1;have g3:=aa mQ.drew e1;have bj:Below W5.heap.size W5 (W5.alloc (.cells #[.int .u8 0,.string ⟨#[]⟩,.slice none 0 0,.slice none 0 0] 36)):=cJ;obtain ⟨g4,g5⟩:=AN bj g0 g2;have H5:=cC mQ Gl x7 ji;rcases ji.fs.look Tryz.underlying9 Tryz.underlying145 lD (x:=n) (by have:=HF.o.2.2.1;omega) with ⟨hg,hlk⟩ | ⟨g,vg,hg,hvg,hlk⟩
    ·have l1:=(hlk W5.drew rfl).1;have pp191:=();exact pm191
    ·obtain ⟨⟨Ec,Ed,Ee,Ef,Eg,Eh,Ei,Ej⟩,rfl,ot,Gm⟩:=hvg;simp only[FQ.val]at hlk;have l1:=(hlk W5.drew rfl).1;exact pm191
  obtain ⟨G,hG⟩:=am (so != fo || (n1 != n2 || (m1 != m2 || (n != n' && !bU so))));have hRg:=HR.o;rw[aw fG,aw jW,<-hG]at hRg;obtain ⟨Ym,Yn⟩:=a_ hRg hG;have ib:(so == 16)=false:=by simp[fG]
  have Ja:(so == 15)=false:=by simp[jW]
  clear hRg hG;go_upto_region 15 with fail;clear ib Ja;go_cut [89] from 55 to 89 (fun s89 wx=>s89=.bool G/\Below W3.heap.size W3 wx)
  case first=>
   by_cases g1:so=fo
   ·subst g1;have a1:(so == so)=true:=by simp
    by_cases g2:n1=n2
    ·subst g2
     by_cases g3:m1=m2
     ·subst g3
      by_cases g4:n=n'
      ·subst g4;have a4:(n == n)=true:=by simp
       go_wp2_with fail;go_meet;exact ⟨by rw[Yn.o];simp,ak _ _⟩
      ·have a4:(n == n')=false:=by simp[g4]
       have a5:(n != n')=true:=by simp[g4]
       obtain ⟨qb,M0⟩:=am (bU so);have HQ:=ae (fun (V:World)=>eI ⟨so,⟨n.toArray⟩,sa,n1,sc,sb,m1,se⟩ V);simp only[FQ.val,<-M0]at HQ;have HGq:=ae (show G=!qb by rw[Yn.o,M0];simp[g4]);clear M0;cases qb
       ·go_wp2_with (go_at_call 93;refine (HQ.o _).mono ?_;rintro e w4 ⟨rfl,aP⟩;have H4:=ae aP;clear aP);go_meet;exact ⟨by rw[HGq.o];rfl,H4.o⟩
       ·go_wp2_with (go_at_call 93;refine (HQ.o _).mono ?_;rintro e w4 ⟨rfl,aP⟩;have H4:=ae aP;clear aP);go_meet;exact ⟨by rw[HGq.o];rfl,H4.o⟩
     ·have a3:((m1:Int) != (m2:Int))=true:=by simp;omega
      have a3b:((m1:Int) == (m2:Int))=false:=by simp;omega
      have a3c:¬((m1:Int)=(m2:Int)):=by omega
      go_wp2_with fail;go_meet;exact ⟨by rw[Yn.o];simp[g3],ak _ _⟩
    ·have a3:((n1:Int) != (n2:Int))=true:=by simp;omega
     have a3b:((n1:Int) == (n2:Int))=false:=by simp;omega
     have a3c:¬((n1:Int)=(n2:Int)):=by omega
     go_wp2_with fail;go_meet;exact ⟨by rw[Yn.o];simp[g2],ak _ _⟩
   ·have a1:(so == fo)=false:=by simp[g1]
    have a2:(so != fo)=true:=by simp[g1]
    go_wp2_with fail;go_meet;exact ⟨by rw[Yn.o];simp[g1],ak _ _⟩
  case rest=>
  obtain ⟨h89,aP⟩:=hcut;rw[h89];clear h89;obtain ⟨W4,vY⟩:=am wc;rw[<-vY]at aP ⊢;clear vY wc
  cases G with
  | true=>
   have HE:=ae (show R=(k,70) by rw[Ym.o];rfl);have eG:=ae (H3.o.1.tr aP);clear aP;go_wp2;go_ret;exact StepPost.bad HE.o (by decide) (Kp.below eG.o)
  | false=>
   have hgg:=Yn.o.symm;simp only[Bool.or_eq_false_iff,bne_eq_false_iff_eq]at hgg;obtain ⟨g1,g2,g3,_⟩:=hgg;subst g1 g2 g3;have zab:=H3.o.1.tr aP;have xp4:=bR aP H3.o.2.1;have x54:=bR aP H3.o.2.2.1.s;have x64:=bR aP H3.o.2.2.1.f;have q2:=ai x54 2;have hsz:W.heap.size<W4.heap.size:=(bz xp4);have H4:=fh zab hsz xp4 x64 (H3.o.2.2.2.2);have Zx:=ae (mo.o.later aP);obtain ⟨E6,HVa⟩:=a_ HN.o.2.1 HV.o.2.2.2.1;have zcj:∀ {V:World},Kp M W V->PairsN M V (.slice ca cl cc) ps:=fun h=>HV.o.2.2.2.2.1.kp h;have QI:=ae (show ∀ u∈a,fitT u/\jw 1999999 u=true from fun u hu=>by
    have h1:=eY.1 HF.o.2.2.2.1 u hu;have h2:=gd hu;have:=HB.o.2.2.1;exact ⟨⟨by omega,jC (by omega) u h1⟩,jC (by omega) u h1⟩)
   have VP:=Ym.o;simp only[dE,↓reduceIte]at VP;have Ym:=ae VP;clear aP zab xp4 x54 x64 hsz e0 e1 e2 e3 f0 f1 f2 f3 P0 P1 P2 P3 P4 P5 P6 P7 P8;go_wp2_with fail;clear VP;go_loopw [93] (fun i wr=>∃(j Bp:Nat) (kj:List (Str×Tm)),j<=n1/\i=.int .i64 j/\Kp (fun b=>b=mT) W4 wr/\Bp<=nT+nodesTs (a.take j)/\KnV (fun b=>¬M b) goodF goodT wr kb mF mT nF Bp ⟨k.fs,kj⟩/\dl ps.reverse k.ts a a'=dl ps.reverse kj (a.drop j) (a'.drop j)) (fun i _=>n1 - (intOf i).toNat)
   case atStart=>exact ⟨0,nT,k.ts,bc _,rfl,Kp.refl _,by omega,Zx.o,by simp⟩
   case round=>
    obtain ⟨j,Bp,kj,hj,rfl,bh,oq,dS,gw⟩:=hrel;have hMm:∀ b,b=mT->M b:=fun b e=>e ▸ HG.o.2.1;have hkN:Kp (N2 mF mT) W wr:=(Kp.below H4.o.1).trans (bh.mono (fun b _ h=>.inr h));have Jb:Kp M W wr:=hkN.two HG.o.1 HG.o.2.1;have zek:mT<W.heap.size:=HG.o.2.2.2.2 mT HG.o.2.1
    by_cases hlt:j<n1
    ·have lx:=cF HN.o.1 hlt;have AP:=cF E6.o hlt;obtain ⟨b1,o1,⟨xv,xn,xa,xl,xc⟩,rfl,qZ,hx,c0,c1,c2⟩:=HV.o.2.2.1.get lx;obtain ⟨b2,o2,⟨yv,yn,ya,yl,yc⟩,rfl,q_,hy,y0,y1,y2⟩:=HVa.o.get AP;simp only at c0 c1 c2 y0 y1 y2;have d0:=Jb.cell qZ c0;have d1:=Jb.cell qZ c1;have d2:=Jb.cell qZ c2;have g0:=Jb.cell q_ y0;have g1:=Jb.cell q_ y1;have g2:=Jb.cell q_ y2;have QJ:=(bh.same _ (by have:=H4.o.2.1;omega) (by omega)).trans H4.o.2.2.1;have x6w:=(bh.same _ (bz H4.o.2.2.2.1) (by have:=H4.o.2.2.2.2;have:=H1.o.2.1;omega)).trans H4.o.2.2.2.1;exact pm96
    ·obtain rfl:j=n1:=by omega
     have HE:=ae (show R=({ k with ts:=kj },0) by
      rw[Ym.o,gw,iS (by rw[<-HN.o.1];exact aI _)];simp[dl])
     have ct:a.take j=a:=by rw[HN.o.1];exact cV
     rw[ct]at oq;have HK:=bG hkN oq dS;clear bh oq dS gw ct Jb hkN;go_wp2;go_ret;exact StepPost.good nF Bp HE.o HK.o.1 (by omega) (by have:=HK.o.2.1;have:=HB.o.2.2.1;omega) HK.o.2.2
 |clear pp72e;simp only at hq;obtain ⟨v1,v2,h1,h_,lV⟩:=aW.1 hq;have pp33e:=();exact pm33
 |clear pp72f;simp only at hq;obtain ⟨v1,v2,h1,h_,lV⟩:=aW.1 hq;have pp33f:=();exact pm33
 |clear pp72g;simp only at hq;obtain ⟨v1,v2,h1,h_,lV⟩:=aW.1 hq;have pp33g:=();exact pm33
 |clear pp72h;simp only[PlQ.val,PlQ.cells]at HC hB;have hs:=gQ (63 :: r);have hx:=jh 63 r;simp at hs hx;have h1:((1:Int)<=((63 :: r).length:Int)):=by simp;omega
  have c0:w.drew.cell? ⟨B,0,none⟩=some (.int .u8 so):=ai hB 0;have c1:w.drew.cell? ⟨B,1,none⟩=some (.string sn):=ai hB 1;have c2:w.drew.cell? ⟨B,2,none⟩=some (.slice sa sl sc):=ai hB 2;have c3:w.drew.cell? ⟨B,3,none⟩=some (.slice sb sm se):=ai hB 3;have c4:w.drew.cell? ⟨B,4,none⟩=some (.int .u8 fo):=ai hB 4;have c5:w.drew.cell? ⟨B,5,none⟩=some (.string fn):=ai hB 5;have c6:w.drew.cell? ⟨B,6,none⟩=some (.slice fa fl fc):=ai hB 6;have c7:w.drew.cell? ⟨B,7,none⟩=some (.slice fb fm fe):=ai hB 7;have c8:w.drew.cell? ⟨B,8,none⟩=some (.slice ca cl cc):=ai hB 8;obtain ⟨G,hG⟩:=am ((ps.map (·.1)).contains r);rw[<-hG]at HC ⊢;clear hv hB hG;go_enter Tryz.func196,Tryz.ntmps196;go_upto_region 1 with fail;go_region_with (go_at_call 163;refine HC.o.mono ?_;rintro e w4 ⟨rfl,aP⟩;have H4:=ae (((ak w.heap.size w).drew).trans aP);clear aP)
  all_goals (go_wp2;go_ret;exact ⟨rfl,H4.o⟩)
 |clear pp72i;simp only[PlQ.val,PlQ.cells]at B_ HX iR ⊢;have c0:W1.cell? ⟨w.heap.size,0,none⟩=some (.int .u8 so):=ai HX.o.2 0;have c1:W1.cell? ⟨w.heap.size,1,none⟩=some (.string sn):=ai HX.o.2 1;have c2:W1.cell? ⟨w.heap.size,2,none⟩=some (.slice sa sl sc):=ai HX.o.2 2;have c3:W1.cell? ⟨w.heap.size,3,none⟩=some (.slice sb sm se):=ai HX.o.2 3;have c4:W1.cell? ⟨w.heap.size,4,none⟩=some (.int .u8 fo):=ai HX.o.2 4;have c5:W1.cell? ⟨w.heap.size,5,none⟩=some (.string fn):=ai HX.o.2 5;have c6:W1.cell? ⟨w.heap.size,6,none⟩=some (.slice fa fl fc):=ai HX.o.2 6;have c7:W1.cell? ⟨w.heap.size,7,none⟩=some (.slice fb fm fe):=ai HX.o.2 7;have c8:W1.cell? ⟨w.heap.size,8,none⟩=some (.slice ca cl cc):=ai HX.o.2 8;clear hv hq dS hop pN hE hR hl wC oc hb1 x1 bX hs qJ TP;go_enter Tryz.func125,Tryz.ntmps125;go_upto_region 1 with fail;rw[<-iR.o];go_wp2_with (first | (go_at_call 195;refine B_.o.mono ?_;rintro e w4 ⟨⟨v4,rfl,hv4⟩,aP⟩;have H4:=aG aP hv4;clear aP hv4) | (go_at_call 194;refine (lN.o w4 v4 H4.o.1 H4.o.2).mono ?_;rintro e w5 ⟨rfl,bj⟩;have H5:=ae bj;clear bj));go_ret;exact ⟨rfl,(HX.o.1.tr H4.o.1).tr H5.o⟩
 |obtain ⟨hs,hf,hc,he,hl⟩:=hpv;simp only at hs hf hc he hl qJ;have gU:=hp.ps he;obtain ⟨v1,v2,h1,h_,lV⟩:=aW.1 hs;have pp33h:=();exact pm33):G:=h
theorem pm73(h:G:=by
 exact pm270):G:=h
theorem pm74(h:G:=by
 obtain ⟨s1,h1,h_⟩:=aV.1 hq;obtain ⟨tv,tn,ta,tl,tc⟩:=q;simp only[TQ.val,cE,Array.mk.injEq,cB,and_true,Value.bool.injEq,Value.string.injEq]at h1;obtain ⟨rfl,rfl,rfl⟩:=h1;obtain rfl:=h_.len;have lK:=og.name;have RD:=og.args.len;obtain ⟨n1,dX⟩:=am a.length
 first
 |clear pp74a;rw[<-dX]at hq h_;rw[<-dX];obtain ⟨W1,bX⟩:=am (w.alloc (.cells #[.bool tv,.string ⟨n.toArray⟩,.slice ta n1 tc] 43));have hb1:=cZ bX;have x1:=cb bX;have hE:jf k.ts (.mk tv n a)=if (tv && dC n)=true then (getB k.ts n).isNone else a.any (jf k.ts):=by rw[jf,pQ]
  obtain ⟨R,hR⟩:=am (jf k.ts (.mk tv n a));rw[<-hR]at hE ⊢;have HE:=ae hE;have CA:=fun (V:World) (h:Below W1.heap.size W1 V)=>rE (jf k.ts) a RD kb W0 (fun t ht=>ih t ht (og.args.mem ht)) ok V ta n1 tc ((hb.tr hb1).tr h) ((h_.later hb1).later h);have Ek:=ae CA;have sr:=ae (jF n W1 (by omega));have H1:=bG hb1 x1 (hb.tr hb1);have iR:=ae bX;clear hq h_ og ih CA hb1 x1 bX hE hR hb dX RD;obtain ⟨e0,e1,e2,_⟩:=gt H1.o.2.1
  cases tv with
  | false=>
   obtain ⟨B,hB⟩:=am (a.any (jf k.ts));have hE:=HE.o;rw[aw (by simp),<-hB]at hE;rw[<-hB]at Ek;have qK:=ae hE;have B_:=ae (Ek.o W1 (ak _ _));clear hE hB;have pp128a:=();exact pm128
  | true=>
   cases nD:dC n with
   | false=>
    rw[nD]at sr;obtain ⟨B,hB⟩:=am (a.any (jf k.ts));have hE:=HE.o;rw[aw (by simp[nD]),<-hB]at hE;rw[<-hB]at Ek;have qK:=ae hE;clear hE hB nD;have pp128b:=();exact pm128
   | true=>
    rw[nD]at sr;have hE:=HE.o;rw[aH (by simp[nD])]at hE;have qK:=ae hE;clear hE nD Ek;exact pm128
 |clear pp74b;rw[<-dX]at hq h_ RD;rw[<-dX];obtain ⟨W1,bX⟩:=am (w.alloc (.cells #[.bool tv,.string ⟨n.toArray⟩,.slice ta n1 tc] 43));have hb1:=cZ bX;have x1:=cb bX;obtain ⟨R,hR⟩:=am (pt k.ts (.mk tv n a));have hE:=hR;rw[pt]at hE;rw[<-hR];have HE:=ae hE;have sr:=ae (jF n W1 (by omega));have H1:=bG hb1 x1 (hb.tr hb1);have iR:=ae bX;have VV:=ae (h_.later hb1);obtain ⟨fS,TL,HN⟩:=cG ih og.args dX;clear hq h_ og ih hb1 x1 bX hE hR hb dX;have g_:=eM
  by_cases Kr:(tv && dC n)=true
  ·obtain ⟨rfl,nD⟩:tv=true/\dC n=true:=by simpa using Kr
   rw[nD]at sr;have hE:=HE.o;rw[aH Kr]at hE;have qK:=ae hE;clear hE Kr nD;have pp204:=();exact pm204
  ·have hE:=HE.o;rw[aw Kr]at hE;have qK:=ae hE;clear hE;exact pm204
 |rw[<-dX]at hq h_ RD;rw[<-dX];obtain ⟨W1,bX⟩:=am (w.alloc (.cells #[.bool tv,.string ⟨n.toArray⟩,.slice ta n1 tc] 43));have hb1:=cZ bX;have x1:=cb bX;obtain ⟨R,hR⟩:=am (j_ k.ts (.mk tv n a));have hE:=hR;rw[j_]at hE;rw[<-hR];have HE:=ae hE;have sr:=ae (jF n W1 (by omega));have H1:=bG hb1 x1 (hb.tr hb1);have iR:=ae bX;have VV:=ae (h_.later hb1);obtain ⟨fS,TL,HSm,HN⟩:=eW ih og.args xy dX;clear hq h_ og xy ih hb1 x1 bX hE hR hb dX;have g_:=eM
  by_cases Kr:(tv && dC n)=true
  ·obtain ⟨rfl,nD⟩:tv=true/\dC n=true:=by simpa using Kr
   rw[nD]at sr;have hE:=HE.o;rw[aH Kr]at hE;have qK:=ae hE;clear hE Kr nD;have pp199:=();exact pm199
  ·have hE:=HE.o;rw[aw Kr]at hE;have qK:=ae hE;clear hE;exact pm199):G:=h
theorem pm75(h:G:=by
 simp only[TQ.val,cE,Array.mk.injEq,cB,and_true,Value.bool.injEq,Value.string.injEq]at h1 h2;obtain ⟨rfl,rfl,rfl⟩:=h1;obtain ⟨rfl,rfl,rfl⟩:=h2
 first
 |clear pp75a;have HV:=ae hv;simp only[Nat.zero_mul,Nat.add_zero,Nat.one_mul]at c0 c1 c2 mg nd ne;have hlt:([Tm.mk uv xn xa,Tm.mk vv yn ya]:List Tm).length=2:=rfl;rw[hlt];clear hv hu iF hf Y_ hfy hl c2 ne hlt;have hb:sT [.mk uv xn xa,.mk vv yn ya]=(uv && (je xn && (vv && cP yn))):=rfl;rw[hb];clear hb;cases uv
  ·go_enter Tryz.func117,Tryz.ntmps117;go_wp2;go_ret;exact ⟨rfl,ak _ _⟩
  ·cases h1:je xn
   ·have C1:=ae (fun w=>h1 ▸ ik xn w o9);clear h1;go_enter Tryz.func117,Tryz.ntmps117;go_wp2_with (go_at_call 152;refine (C1.o _).mono ?_;rintro e w' ⟨rfl,hb⟩);go_ret;exact ⟨rfl,hb⟩
   ·have C1:=ae (fun w=>h1 ▸ ik xn w o9);clear h1;cases vv
    ·go_enter Tryz.func117,Tryz.ntmps117;go_wp2_with (go_at_call 152;refine (C1.o _).mono ?_;rintro e w' ⟨rfl,hb⟩;have g0:=aa hb mg;have HB:=ae hb;clear hb);go_ret;exact ⟨rfl,HB.o⟩
    ·go_enter Tryz.func117,Tryz.ntmps117;go_wp2_with (first | (go_at_call 152;refine (C1.o _).mono ?_;rintro e w' ⟨rfl,hb⟩;have g0:=aa hb mg;have g1:=aa hb nd;have HB:=ae hb;clear hb) | (go_at_call 186;refine (kt yn _ hy2).mono ?_;rintro e w3 ⟨rfl,aL⟩));go_ret;exact ⟨rfl,HB.o.trans (aL.mono HB.o.size)⟩
 |clear pp75b;obtain rfl:=fL.len;obtain rfl:=IC.len;obtain ⟨pa,pl,pc,rfl⟩:∃pa pl pc,v=.slice pa pl pc:=by obtain ⟨a,c,h,_⟩:=hp;exact ⟨_,_,_,h⟩
  obtain rfl:=hp.len;have E':=hf.args;have cm:=E'.len;have hm:=LI ps.reverse uv vv xn yn xa ya;obtain ⟨R,hR⟩:=am (j9 ps.reverse (.mk uv xn xa) (.mk vv yn ya));rw[<-hR]at hm ⊢;obtain ⟨k0,cg⟩:=am xa.length;obtain ⟨m0,eh⟩:=am ya.length;obtain ⟨p0,mZ⟩:=am ps.length;rw[<-cg,<-eh]at hm;rw[<-cg]at cm;rw[<-mZ]at gU;rw[<-cg]at fL;rw[<-eh]at IC;rw[<-mZ]at hp;rw[<-cg,<-eh,<-mZ];obtain ⟨dB,gV,E8,Th,X9,HP,fS,HF⟩:=UE cg eh mZ fL IC hp ih E';clear hR cg eh mZ fL IC hp ih hf E' hq mM;have bD:Below w.heap.size w ((w.alloc (.cells #[.bool uv,.string ⟨xn.toArray⟩,.slice ua k0 uc] 43)).alloc (.cells #[.bool vv,.string ⟨yn.toArray⟩,.slice va m0 vc] 43)):=cJ.alloc (by simp) _;obtain ⟨W2,bm⟩:=am ((w.alloc (.cells #[.bool uv,.string ⟨xn.toArray⟩,.slice ua k0 uc] 43)).alloc (.cells #[.bool vv,.string ⟨yn.toArray⟩,.slice va m0 vc] 43));rw[<-bm]at bD;have HX:Hd (W2.heap[w.heap.size]?=some (.cells #[.bool uv,.string ⟨xn.toArray⟩,.slice ua k0 uc] 43 (0,0))):=ae (by rw[bm];exact (bI _ _ _ (by simp)).trans (aj rfl));have HY:Hd (W2.heap[w.heap.size+1]?=some (.cells #[.bool vv,.string ⟨yn.toArray⟩,.slice va m0 vc] 43 (0,0))):=ae (by rw[bm];exact aj (by simp));have ig:w.heap.size+2=W2.heap.size:=by rw[bm];simp
  obtain ⟨cO,gK⟩:=a_ bD bm;clear bD bm;unfold TQ.val
  by_cases LD:uv=vv/\k0=m0
  ·obtain ⟨rfl,rfl⟩:=LD;simp at hm;have HM:=ae hm;clear hm;have e1:((k0:Int) != (k0:Int))=false:=by simp
   go_enter Tryz.func160,Tryz.ntmps160;cases uv
   ·have yU:Hd (R=(xn == yn && di ps.reverse xa ya)):=ae (by rw[HM.o];simp)
    by_cases dG:xn=yn
    ·subst dG;have pp221:=();exact pm221
    ·have iP:(xn == yn)=false:=by simpa using dG
     have kK:(!(xn == yn))=true:=by simpa using dG
     have HE:=ae (show R=false by rw[yU.o];simp[iP]);go_wp2;rw[<-gK.o];go_ret;exact ⟨aO HE.o.symm,cO.o.trans ((ak _ _).mono (by have:=cO.o.size;omega))⟩
   ·go_wp2;rw[<-gK.o];go_loopw [7] (fun i wr=>∃j:Nat,j<=p0/\i=.int .i64 ((j:Int) - 1)/\Below W2.heap.size W2 wr/\rx ps.reverse xn yn=rx (ps.take j).reverse xn yn) (fun i _=>(intOf i+1).toNat)
    case atStart=>exact ⟨p0,aI _,by go_num,ak _ _,by rw[E8.o,cV]⟩
    case round=>
     obtain ⟨j,hj,rfl,e8,ht⟩:=hrel
     cases j with
     | zero=>
      have yU:Hd (R=(xn == yn && di ps.reverse xa ya)):=ae (by rw[HM.o,ht,List.take_zero];simp[LH]);obtain ⟨iQ,DF⟩:=am wr;subst DF;have X':=ae e8;have zd9:((0:Nat):Int) - 1=-1:=rfl;have x1:iQ.cell? ⟨w.heap.size,1,none⟩=some (.string ⟨xn.toArray⟩):=aa e8 (ai HX.o 1);have x2:iQ.cell? ⟨w.heap.size,2,none⟩=some (.slice ua k0 uc):=aa e8 (ai HX.o 2);have y1:iQ.cell? ⟨w.heap.size+1,1,none⟩=some (.string ⟨yn.toArray⟩):=aa e8 (ai HY.o 1);clear e8 ht
      by_cases dG:xn=yn
      ·subst dG;exact pm221
      ·have iP:(xn == yn)=false:=by simpa using dG
       have kK:(!(xn == yn))=true:=by simpa using dG
       have HE:=ae (show R=false by rw[yU.o];simp[iP]);go_wp2;go_ret;exact ⟨aO HE.o.symm,cO.o.trans (X'.o.mono (by have:=cO.o.size;omega))⟩
     | succ j=>
      have le:j<ps.length:=by rw[<-E8.o];omega
      rw[show (((j+1:Nat):Int) - 1)=(j:Int) by omega];rw[NR le,IB]at ht;obtain ⟨b,off,rfl,g0,g1⟩:=HP.o.get le;obtain ⟨⟨p1,p2⟩,hpj⟩:∃x,ps[j]=x:=⟨_,rfl⟩;rw[hpj]at ht g0 g1;simp only at ht g0 g1;have ar:=cO.o.trans (e8.mono (by omega));have f0:=fun x:Later wr=>x.get (aa ar g0);have f1:=fun x:Later wr=>x.get (aa ar g1);have f2:=fun x:Later wr=>x.get (aa e8 (ai HX.o 1));have f3:=fun x:Later wr=>x.get (aa e8 (ai HY.o 1));have hjj:(j:Int)<(p0:Int):=by omega
      obtain ⟨sj,dt⟩:=a_ e8 ar;clear e8 ar g0 g1 hpj
      by_cases ha:p1=xn <;> by_cases hb:p2=yn
      ·subst ha;subst hb;have iP:(p1 == p1)=true:=by first | (simp;done) | simpa using ha
       have kK:(p2 == p2)=true:=by first | (simp;done) | simpa using hb
       have HE:=ae (show R=true by rw[HM.o,ht];simp);clear ht;have pp70b:=();exact pm70
      ·subst ha;have iP:(p1 == p1)=true:=by first | (simp;done) | simpa using ha
       have kK:(p2 == yn)=false:=by first | (simp;done) | simpa using hb
       have HE:=ae (show R=false by rw[HM.o,ht];simp[kK]);clear ht;have pp70b:=();exact pm70
      ·subst hb;have iP:(p1 == xn)=false:=by first | (simp;done) | simpa using ha
       have kK:(p2 == p2)=true:=by first | (simp;done) | simpa using hb
       have HE:=ae (show R=false by rw[HM.o,ht];simp[iP]);clear ht;have pp70b:=();exact pm70
      ·have iP:(p1 == xn)=false:=by simpa using ha
       have kK:(p2 == yn)=false:=by simpa using hb
       have HT:=ae (show rx ps.reverse xn yn=rx (ps.take j).reverse xn yn by rw[ht];simp[iP,kK]);clear ht;have pp70c:=();exact pm70
  ·have NS:R=false:=by rw[hm];rcases Decidable.not_and_iff_or_not.1 LD with h | h <;> simp[h]
   have HE:=ae NS;clear hm NS;go_enter Tryz.func160,Tryz.ntmps160
   by_cases hv:uv=vv
   ·subst hv;have mN:¬k0=m0:=fun h=>LD ⟨rfl,h⟩;have e1:((k0:Int) == (m0:Int))=false:=by simp;omega
    have e2:((k0:Int) != (m0:Int))=true:=by simp;omega
    cases uv <;> (go_wp2;rw[<-gK.o];go_ret;exact ⟨aO HE.o.symm,cO.o⟩)
   ·cases uv <;> cases vv <;> first | exact absurd rfl hv | (go_wp2;rw[<-gK.o];go_ret;exact ⟨aO HE.o.symm,cO.o⟩)
 |clear pp75c;obtain ⟨W,hW⟩:=am ((w.alloc (.cells #[.bool uv,.string ⟨xn.toArray⟩,.slice ua ul uc] 43)).alloc (.cells #[.bool vv,.string ⟨yn.toArray⟩,.slice va vl vc] 43));have hB:=lF hW;have C1:=ih ya ok ok' W ua ul uc va vl vc hf.args Hz.args (fL.later hB) (IC.later hB);rw[hW]at hB C1;have hm:=KE uv vv xn yn xa ya;obtain ⟨R,hR⟩:=am (tG (.mk uv xn xa) (.mk vv yn ya));rw[<-hR]at hm ⊢;obtain ⟨c,hc⟩:=am (Lib.compareBytes xn yn);rw[<-hc]at hm;obtain ⟨d,hd⟩:=am (Cq xa ya);simp only[Tm.a]at C1;rw[<-hd]at hm C1;have HS:Hd (∀ W,Calls Tryz.prog 272 #[.string ⟨xn.toArray⟩,.string ⟨yn.toArray⟩] W fun e w'=>e=.returned (.int .i64 c)/\w'=W):=ae (fun W=>by rw[hc];exact Tryz.strings_Compare _ _ W);obtain ⟨HC,HB⟩:=a_ C1 hB;clear hR hc hd C1 hB fL IC hW ih hf Hz hq mM;unfold TQ.val;go_enter Tryz.func226,Tryz.ntmps226
  by_cases h0:c=0
  ·subst h0;cases uv <;> cases vv <;> simp at hm <;> subst hm <;>
   (go_wp2_with (first | (go_at_call 272;refine (HS.o _).mono ?_;rintro e w2 ⟨rfl,rfl⟩) | (go_at_call 273;refine HC.o.mono ?_;rintro e w3 ⟨rfl,aL⟩;have bQ:=ae aL;clear aL))
    go_ret
    first | exact ⟨rfl,HB.o⟩ | exact ⟨rfl,HB.o.trans (bQ.o.mono (by simp;omega))⟩)
  ·have d1:(c == 0)=false:=by simpa using h0
   have d2:(c != 0)=true:=by simpa using h0
   cases uv <;> cases vv <;> simp[h0]at hm <;> subst hm <;>
   (go_wp2_with (go_at_call 272;refine (HS.o _).mono ?_;rintro e w2 ⟨rfl,rfl⟩)
    go_ret;exact ⟨rfl,HB.o⟩)
 |clear pp75d;obtain rfl:=h_.len;obtain rfl:=D9.len;obtain ⟨n1,dX⟩:=am a.length;obtain ⟨n2,ku⟩:=am a'.length;have lK:=og.name;have Ov:=dG;unfold jw at Ov;simp only[ah,bx]at Ov;have Ih:=ae Ov.1;have QI:=ae (eY.1 Ov.2);clear dG Ov;have LQ:=og.args.len;have Rn:=(HG.o.2.1 _ Yl).args.len;rw[<-dX]at LQ;rw[<-ku]at Rn;obtain ⟨R,hR⟩:=am (dw (ps.reverse.map (·.1)) k.ts (.mk tv n a) (.mk uv n' a'));have pN:=hR;rw[dw]at pN;rw[<-hR];obtain ⟨W3,ec⟩:=am (((W.alloc (.cells q.cells 89)).alloc (.cells #[.bool tv,.string ⟨n.toArray⟩,.slice ta n1 tc] 43)).alloc (.cells #[.bool uv,.string ⟨n'.toArray⟩,.slice ua n2 uc] 43));have aL:=wX ec;have oR:=Hu ec;have xp:=xZ ec;have xt:=rj ec;have xu:=pg ec;have kQ:=dS.later aL;rw[<-dX]at oW h_;rw[<-ku]at huv D9;rw[<-dX,<-ku];have HR:=ae pN;have H3:=qS aL oR xp xt xu kQ;have HT:=cC (oW.later aL) (huv.later aL) (h_.later aL) (D9.later aL);have HF:=aG og Yl;have HN:=aG dX ku;have X_:=ae (gU.kp (Kp.below aL));obtain ⟨fS,xq⟩:=a_ ih ec;have HmT:=ae (show mT<W.heap.size from dS.ts.lt);have xJ:nodesT (.mk tv n a)=nodesTs a+1:=by unfold nodesT;omega
  have Ow:=aG pE xJ;obtain ⟨e0,e1,e2,_⟩:=gt xt;obtain ⟨f0,f1,f2,_⟩:=gt xu;obtain ⟨P0,P1,P2,P3,P4,P5,P6,P7,P8⟩:=hZ xp;have pp72c:=();exact pm72
 |have f0:=fun x:Later wr=>x.get (aa ar c0);have f1:=fun x:Later wr=>x.get (aa ar c1);have f2:=fun x:Later wr=>x.get (aa ar c2);have f3:=fun x:Later wr=>x.get (aa ar mg);have f4:=fun x:Later wr=>x.get (aa ar nd);have f5:=fun x:Later wr=>x.get (aa ar ne);have E7:(k:Int)<(k0:Int):=by omega
  obtain ⟨HB,HT⟩:=a_ ar ht;have HX:=aG hx hy;have i9:∀ (h:l[k]≠m[k]),iE l m=false:=fun h=>by
   cases he:iE l m with
   | false=>rfl
   | true=>exact absurd (by rw[List.getElem_of_eq ((fV _ _).1 he)]) h
  have HNe:=ae i9;have CC:=ae (fun (x:Later wr)=>pG ya ok ok' x.w ua ul uc va vl vc hf.args ((fL.later ar).later x.below) ((IC.later ar).later x.below));clear hu iF pG hf hx hy fL IC ar ht i9 c0 c1 c2 mg nd ne
  by_cases hv:uv=vv
  ·subst hv;have Kv:(uv != uv)=false:=by simp
   by_cases hn:xn=yn
   ·subst hn;obtain ⟨R,hR⟩:=am (iE xa ya);have CC:=ae (show ∀ x:Later wr,Calls Tryz.prog 19 #[.slice ua ul uc,.slice va vl vc] x.w fun e w'=>e=.returned (.bool R)/\Below x.w.heap.size x.w w' from fun x=>by rw[hR];exact CC.o x);have HR:=ae hR;clear hR;go_wp2;refine aS (by kernel_rfl) (by kernel_rfl) ?_
    repeat (go_big_quiet_step ((go_at_call 19;exact cA (CC.o _))))
    refine wpQuiet_nil ?_;rintro _ ⟨x',rfl⟩;clear f0 f1 f2 f3 f4 f5;have cO:=ae (HB.o.trans (x'.below.mono HB.o.size));cases R
    ·go_wp2;go_ret;exact ⟨aO (HNe.o (by rw[HX.o.1,HX.o.2];intro h;injection h with _ _ h;rw[<-h,nS]at HR;exact absurd HR.o (by simp))).symm,cO.o⟩
    ·go_wp2;go_roundw
     case rel=>exact ⟨k+1,by omega,by go_num,cO.o,tY HT.o bp mN (by rw[HX.o.1,HX.o.2,(fV _ _).1 HR.o.symm])⟩
     case measure=>simp[intOf];omega
   ·have iP:(xn == yn)=false:=by simpa using hn
    have kK:(!(xn == yn))=true:=by simpa using hn
    exact pm70
  ·cases uv <;> cases vv
   all_goals
    first
    | exact absurd rfl hv
    | (go_wp2
       refine aS (by kernel_rfl) (by kernel_rfl) ?_
       repeat (go_big_quiet_step (fail))
       refine wpQuiet_nil ?_;rintro _ ⟨x',rfl⟩;clear f0 f1 f2 f3 f4 f5;go_wp2;go_ret;exact ⟨aO (HNe.o (by rw[HX.o.1,HX.o.2];intro h;injection h with h _ _;exact hv h)).symm,HB.o.trans (x'.below.mono HB.o.size)⟩)):G:=h
theorem pm76(h:G:=by
 have ZF:(w8.alloc (.cells #[.int .u8 po,.string pn,.slice pa pl pc,.slice pb pm pe] 36)).heap[w8.heap.size]?=some (.cells #[.int .u8 po,.string pn,.slice pa pl pc,.slice pb pm pe] 36 (0,0)):=aj rfl;obtain ⟨W9,qX⟩:=am ((w8.alloc (.cells #[.int .u8 po,.string pn,.slice pa pl pc,.slice pb pm pe] 36)).setCell ⟨w.heap.size+1+1+1,3,none⟩ (.slice (some ⟨w8.heap.size,0,none⟩) 1 1));have ms:=tC.setR 3 (.slice (some ⟨w8.heap.size,0,none⟩) 1 1);rw[<-qX]at ms
 first
 |clear pp76;have Ts:W9.heap[w8.heap.size]?=some (.cells #[.int .u8 po,.string pn,.slice pa pl pc,.slice pb pm pe] 36 (0,0)):=by rw[qX];exact (ei _ _ _ _ (by have:=(D4.o.later gJ).lt;simp <;> omega)).trans ZF
  have Tk:FormV (w7.heap.size<=·) W9 (FQ.val ⟨po,pn,pa,pl,pc,pb,pm,pe⟩) (eQ kk nx z g):=by
   rw[qX];exact Tr.move (fun b hok hlt=>⟨hok,(ei _ _ _ _ (by have:=D4.o.lt;simp <;> omega)).trans (lp.block b hlt)⟩)
  have zf:FormV (w7.heap.size<=·) W9 (FQ.val ⟨qo,⟨n.toArray⟩,fJ,0,fK,some ⟨w8.heap.size,0,none⟩,1,1⟩) (.mk qo n [] [eQ kk nx z g]):=aW.2 ⟨_,_,rfl,cf,qI Tk (by omega) Ts⟩;have q3:=ai tC.b2 3;have zq3:=af tC.b2 3;obtain ⟨f0,f1,f2,f3⟩:=mm ms.b2;obtain ⟨r0,r1,r2,r3⟩:=mm ms.b1;have z0:=af ms.b1 0;have z1:=af ms.b1 1;have z2:=af ms.b1 2;have z3:=af ms.b1 3;obtain ⟨Rg,HP⟩:=a_ ms zf;have Vo:=D4.o.lt;rw[qX]at f0 f1 f2 f3 r0 r1 r2 r3 z0 z1 z2 z3;have HW9:=ae qX;clear Tr gJ Vr hwX lp tC ZF qX ms Ts Tk zf;gi_wp2;rw[<-HW9.o];have x6:=kP (v0:=.int .u8 qo) (v1:=.string ⟨n.toArray⟩) (v2:=.slice fJ 0 fK) (v3:=.slice (some ⟨w8.heap.size,0,none⟩) 1 1) Rg.o.b1;have k6:=dA (W:=W9) (b:=w.heap.size+1+1) (v0:=.int .u8 qo) (v1:=.string ⟨n.toArray⟩) (v2:=.slice fJ 0 fK) (v3:=.slice (some ⟨w8.heap.size,0,none⟩) 1 1);obtain ⟨W6,da⟩:=am ((((W9.setCell ⟨w.heap.size+1+1,0,none⟩ (.int .u8 qo)).setCell ⟨w.heap.size+1+1,1,none⟩ (.string ⟨n.toArray⟩)).setCell ⟨w.heap.size+1+1,2,none⟩ (.slice fJ 0 fK)).setCell ⟨w.heap.size+1+1,3,none⟩ (.slice (some ⟨w8.heap.size,0,none⟩) 1 1));rw[<-da]at x6 k6 ⊢;clear da;have g0:W6.cell? ⟨w.heap.size+1+1,0,none⟩=some (.int .u8 qo):=ai x6 0;have g1:W6.cell? ⟨w.heap.size+1+1,1,none⟩=some (.string ⟨n.toArray⟩):=ai x6 1;have g2:W6.cell? ⟨w.heap.size+1+1,2,none⟩=some (.slice fJ 0 fK):=ai x6 2;have g3:W6.cell? ⟨w.heap.size+1+1,3,none⟩=some (.slice (some ⟨w8.heap.size,0,none⟩) 1 1):=ai x6 3;refine bJ (v:=FQ.val ⟨qo,⟨n.toArray⟩,fJ,0,fK,some ⟨w8.heap.size,0,none⟩,1,1⟩) (by simp[FQ.val,results,Tryz.results101,go_sem,g0,g1,g2,g3]) rfl ⟨⟨⟨qo,⟨n.toArray⟩,fJ,0,fK,some ⟨w8.heap.size,0,none⟩,1,1⟩,rfl,vr.o ▸ HP.o.move (fun b hok hlt=>⟨by omega,k6.same b hlt (by omega)⟩)⟩,Below.kp1 Rg.o.below k6 (by omega)⟩
 |have Ts:W9.heap[w8.heap.size]?=some (.cells #[.int .u8 po,.string pn,.slice pa pl pc,.slice pb pm pe] 36 (0,0)):=by rw[qX];exact (ei _ _ _ _ (by have:=(tD.o.later gJ).lt;simp <;> omega)).trans ZF
  have Tk:FormV (lq.heap.size<=·) W9 (FQ.val ⟨po,pn,pa,pl,pc,pb,pm,pe⟩) (eQ kk nx z G2):=by
   rw[qX];exact Tr.move (fun b hok hlt=>⟨hok,(ei _ _ _ _ (by have:=tD.o.lt;simp <;> omega)).trans (lp.block b hlt)⟩)
  have zf:FormV (lq.heap.size<=·) W9 (FQ.val ⟨qo,⟨m.toArray⟩,fJ,0,fK,some ⟨w8.heap.size,0,none⟩,1,1⟩) (.mk qo m [] [eQ kk nx z G2]):=aW.2 ⟨_,_,rfl,cf,qI Tk (by omega) Ts⟩;have q3:=ai tC.b2 3;have zq3:=af tC.b2 3;obtain ⟨f0,f1,f2,f3⟩:=mm ms.b2;obtain ⟨r0,r1,r2,r3⟩:=mm ms.b1;have z0:=af ms.b1 0;have z1:=af ms.b1 1;have z2:=af ms.b1 2;have z3:=af ms.b1 3;obtain ⟨Rg,HP⟩:=a_ ms zf;have Vo:=tD.o.lt;rw[qX]at f0 f1 f2 f3 r0 r1 r2 r3 z0 z1 z2 z3;have HW9:=ae qX;clear Tr gJ Vr hwX lp tC ZF qX ms Ts Tk zf;gi_wp2;rw[<-HW9.o];have x6:=kP (v0:=.int .u8 qo) (v1:=.string ⟨m.toArray⟩) (v2:=.slice fJ 0 fK) (v3:=.slice (some ⟨w8.heap.size,0,none⟩) 1 1) Rg.o.b1;have k6:=dA (W:=W9) (b:=w.heap.size+1+1) (v0:=.int .u8 qo) (v1:=.string ⟨m.toArray⟩) (v2:=.slice fJ 0 fK) (v3:=.slice (some ⟨w8.heap.size,0,none⟩) 1 1);obtain ⟨W6,da⟩:=am ((((W9.setCell ⟨w.heap.size+1+1,0,none⟩ (.int .u8 qo)).setCell ⟨w.heap.size+1+1,1,none⟩ (.string ⟨m.toArray⟩)).setCell ⟨w.heap.size+1+1,2,none⟩ (.slice fJ 0 fK)).setCell ⟨w.heap.size+1+1,3,none⟩ (.slice (some ⟨w8.heap.size,0,none⟩) 1 1));rw[<-da]at x6 k6 ⊢;clear da;have g0:W6.cell? ⟨w.heap.size+1+1,0,none⟩=some (.int .u8 qo):=ai x6 0;have g1:W6.cell? ⟨w.heap.size+1+1,1,none⟩=some (.string ⟨m.toArray⟩):=ai x6 1;have g2:W6.cell? ⟨w.heap.size+1+1,2,none⟩=some (.slice fJ 0 fK):=ai x6 2;have g3:W6.cell? ⟨w.heap.size+1+1,3,none⟩=some (.slice (some ⟨w8.heap.size,0,none⟩) 1 1):=ai x6 3;refine bJ (v:=FQ.val ⟨qo,⟨m.toArray⟩,fJ,0,fK,some ⟨w8.heap.size,0,none⟩,1,1⟩) (by simp[FQ.val,results,Tryz.results101,go_sem,g0,g1,g2,g3]) rfl ⟨⟨⟨qo,⟨m.toArray⟩,fJ,0,fK,some ⟨w8.heap.size,0,none⟩,1,1⟩,rfl,vr.o ▸ HP.o.move (fun b hok hlt=>⟨by omega,k6.same b hlt (by omega)⟩)⟩,Below.kp1 Rg.o.below k6 (by omega)⟩):G:=h
theorem pm77(h:G:=by
 have c0:W.cell? ⟨X,0,none⟩=some (.int .u8 q.o):=ai xf 0;have c1:W.cell? ⟨X,1,none⟩=some (.string q.n):=ai xf 1;have c2:W.cell? ⟨X,2,none⟩=some (.slice q.a q.l q.c):=ai xf 2;have c3:W.cell? ⟨X,3,none⟩=some (.slice q.b q.m q.e):=ai xf 3
 first
 |clear pp77a;have Nx:∀ b,M b->b<W.heap.size:=fun b hb=>bE (hM b hb) hk.size;have CC:=Lq f az M B l J (kg f) [] W q Nx hJ (fun pre vs x W1 h1 h2 h3 h4=>by
   obtain ⟨fn,tmps,assign,body,hy,hR⟩:=hY pre vs x W1 h1 h2 h3 h4;refine ⟨fn,tmps,assign,body,hy,hR.mono ?_⟩;rintro e W' (h | ⟨h,_⟩)
   ·exact h
   ·exact h.elim) (hq.kp hk) (by simp) hj
  have HC:=ae CC;clear CC hY hJ hj hX xf hq Nx;unfold FQ.val at HC;go_enter Tryz.func150,Tryz.ntmps150;go_wp2_with (go_at_call 151;refine HC.o.mono ?_;rintro e W2 ⟨rfl,wd,io⟩);exact ⟨rfl,.tuple #[],by simp[results,Tryz.results150,go_sem],⟨_,rfl⟩,.inl ⟨by simpa using wd,io⟩⟩
 |clear pp77b;have Nx:∀ b,M b->b<W.heap.size:=fun b hb=>bE (hM b hb) hk.size;have hB:Below W.heap.size W (W.alloc (.map #[] 0)):=cJ;have CC:=Bg f az M B l J (bl [] f) [] W (W.alloc (.map #[] 0)) q W.heap.size 0 [] Nx (aI _) hJ (fun pre vs x W1 h1 h2 h3 h4=>by
   obtain ⟨fn,tmps,assign,body,hy,hR⟩:=hY pre vs x W1 h1 h2 h3 h4;refine ⟨fn,tmps,assign,body,hy,hR.mono ?_⟩;rintro e W' (h | ⟨h,_⟩)
   ·exact h
   ·exact h.elim) (hq.kp hk) (Kp.below hB) (BoundW.made W) (by omega) (by simp;omega) (by simp) (hJ _ _ _ (Nw.below hB) hj)
  have HC:=ae CC;clear CC hY hJ hj hX xf hq Nx hB;unfold FQ.val at HC;go_enter Tryz.func148,Tryz.ntmps148;go_wp2_with (go_at_call 149;refine HC.o.mono ?_;rintro e W2 ⟨rfl,wd,io,_,_⟩);exact ⟨rfl,.tuple #[],by simp[results,Tryz.results148,go_sem],⟨_,rfl⟩,.inl ⟨by simpa using wd,io⟩⟩
 |have e0:W.cell? ⟨Y,0,none⟩=some (.int .u8 r.o):=ai hYW 0;have e1:W.cell? ⟨Y,1,none⟩=some (.string r.n):=ai hYW 1;have e2:W.cell? ⟨Y,2,none⟩=some (.slice r.a r.l r.c):=ai hYW 2;have e3:W.cell? ⟨Y,3,none⟩=some (.slice r.b r.m r.e):=ai hYW 3;have Nx:∀ b,M b->b<W.heap.size:=fun b hb=>bE (hM b hb) hk.size;have CC:=I0 s f az [] (by simpa using xy) M B l J Jx (bA [] s f) [] W ⟨q,r,none,0,0⟩ Nx ⟨hl,X7⟩ hJ ZZ (fun pre vs x W1 h1 h2 h3 h4=>by
   obtain ⟨fn,tmps,assign,body,hy,hR⟩:=hY pre vs x W1 h1 h2 h3 h4;refine ⟨fn,tmps,assign,body,hy,hR.mono ?_⟩;rintro e W' (h | ⟨_,h⟩)
   ·exact .inl h
   ·exact .inr h) (hq.kp hk) (hr.kp hk) ⟨⟨none,0,rfl,aI _,.inl ⟨rfl,rfl,rfl⟩⟩,fun b h=>by simp[Value.ownBlock]at h⟩ (by simp) hj
  have HSp:=ae (show ∀ (e:Ending) (W2:World),((e=.returned (.bool true)/\J ([] ++ bA [].reverse s f) W2/\Kp M W W2)\/(e=.returned (.bool false)/\∃D7,D7 <+: bA [] s f/\Jx D7 W2/\KpFrom M (l+1) W W2))->∃bb:Bool,e=.returned (.bool bb)/\((J (bA [] s f) W2/\Kp M W W2)\/(True/\∃pre,pre <+: bA [] s f/\Jx pre W2/\KpFrom M (l+1) W W2)) by
   rintro e W2 (⟨rfl,h,h'⟩ | ⟨rfl,h⟩)
   ·exact ⟨true,rfl,.inl ⟨by simpa using h,h'⟩⟩
   ·exact ⟨false,rfl,.inr ⟨trivial,h⟩⟩)
  have HC:=ae CC;clear CC hY hJ ZZ hj hX xf hY0 hYW hq hr Nx;simp only[PlQ.val,PlQ.cells]at HC;go_enter Tryz.func102,Tryz.ntmps102;go_wp2_with (go_at_call 103;refine HC.o.mono ?_;rintro e W2 h2;obtain ⟨bb,rfl,h3⟩:=HSp.o e W2 h2;have H2:=ae h3;clear h2 h3);exact ⟨rfl,.tuple #[],by simp[results,Tryz.results102,go_sem],⟨_,rfl⟩,H2.o⟩):G:=h
theorem pm78(h:G:=by
 rw[xq.o]at e0 e1 e2 f0 f1 f2;exact pm147):G:=h
theorem pm79(h:G:=by
 obtain ⟨HR,HC,kf⟩:=cG hrel eZ bh;clear hrel eZ cI nQ DG FA iL oP ha hb hc hj bh hu iF c0 c1 c2 c3;go_wp2_with (go_at_call 64;refine HC.o.mono ?_;rintro e w6 ⟨rfl,zV,l6,wM,Ex,oC,jR⟩;have p9:=bG zV wM (jR rfl);clear zV wM Ex oC jR);go_roundw
 case rel=>exact ⟨k+1,by omega,by go_num,kf.o.trans ((Kp.below cJ).trans p9.o.1),by rw[<-HR.o.2.2.2,<-p9.o.2.2];exact p9.o.2.1,HR.o.1,HR.o.2.1,HR.o.2.2.1⟩
 case measure=>simp[intOf];omega):G:=h
