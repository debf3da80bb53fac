/-
Runs of tactics that several proofs share.
-/
import Derived.ArgAppend
import Derived.Below
import Derived.BigQuiet
import Derived.BigRegionIn
import Derived.CallsIn
import Derived.Carry
import Derived.ChangeMaps5
import Derived.ChangeSame
import Derived.ChangeStays
import Derived.ControlIn
import Derived.Deep.AppendLies
import Derived.Deep.Cut
import Derived.Deep.DeepCutAuto
import Derived.Deep.DeepHandedRow
import Derived.Deep.DeepWitnessRowRef
import Derived.Deep.Fields
import Derived.Deep.LoopGhost
import Derived.Deep.QuietTactic
import Derived.Deep.Slices
import Derived.Deep.Upon
import Derived.Defers
import Derived.Ground.GgzProg
import Derived.Ground.SlgmProg
import Derived.JoinedCond
import Derived.Laws.World
import Derived.Lib.Hide
import Derived.Lib.ItoaMem
import Derived.Lib.ItoaNum
import Derived.Lib.LaidTab
import Derived.Lib.LaidU8
import Derived.Lib.SliceRun
import Derived.Lib.SmallJoins
import Derived.LoopIn
import Derived.Maps.OwnIn
import Derived.Maps.OwnSet
import Derived.OpenShut
import Derived.OrdersHeld
import Derived.OrdersIn
import Derived.OwnWalkIn
import Derived.ProofKit
import Derived.RangeFuncBound
import Derived.RangeFuncBox
import Derived.RangeFuncLeaves
import Derived.RangeFuncNested
import Derived.RangeFuncRecord
import Derived.RegionIn
import Derived.Shelf.Abstract
import Derived.Shelf.AbstractIn
import Derived.Shelf.SlIter.Nil
import Derived.Shelf.SortM.Plain
import Derived.Shelf.SortM.SortNone
import Derived.ShutString
import Derived.SizedLaws
import Derived.SliceStrings
import Derived.Sort.KeysCollected
import Derived.Sort.Walk0
import Derived.Stop.RegionWithIn
import Derived.Tactics
import Derived.TacticsIn
import Derived.TacticsInMore
import Derived.WalkKit
import Derived.WalkLawsBesides
import Derived.WalkMore
import Derived.WalkSpells
namespace Go.Proofs.YtokemihbkeddoaaGreatDoor
open Go Go.RowKit Lib
set_option maxRecDepth 100000
variable {G:Prop}
theorem pm218(h:G:=by
 obtain ⟨m,hm⟩:=am (dF (bl [] f));rw[<-hm]at hE;have Jf:∀ x∈m,x.length<=2000000:=fun x hx=>by rw[hm,dH]at hx;exact oe f [] tO.o.2.1.2 x hx
 first
 |clear pp218;have Gx:m.length<=2000000:=by rw[hm];have h1:=e9 (bl [] f);have h2:=gC f [];have h3:=tO.o.2.2;omega
  have HM:=aG Jf Gx;clear Jf Gx;exact pm66
 |have Gx:m.length<=400:=by rw[hm];have h1:=e9 (bl [] f);have h2:=gC f [];have h3:=tO.o.2.2;omega
  have HM:=bG Jf Gx hm;obtain ⟨HYl,HE2,zcl⟩:=cG Gt hE uD;clear Jf Gx hm hE aU wC fL Hs Em Gt uD uF En D2 Ja;go_enter Tryz.func195,Tryz.ntmps195;go_upto_region 2 with fail;rw[<-gK.o];go_upto_region 6 with fail;go_upto_region 7 with (go_at_call 96;refine B_.o.mono ?_;rintro e w4 ⟨rfl,aP⟩;have H4:=ae aP;clear aP);clear e0 e1 e2 e3;obtain ⟨W5,eP⟩:=am (w4.alloc (.cells #[.string ⟨cW.toArray⟩] 9));have Ep:Below W2.heap.size W2 W5:=by rw[eP];exact H4.o.tr cJ
  have y5:=cb eP;rw[<-eP];clear eP;have x5:=bR Ep H2.o.2.1;have ji:=H2.o.2.2.later Ep;have zae:=H2.o.2.2.fs.lt;obtain ⟨S,hS⟩:∃S:World->Prop,S=fun V=>Below W5.heap.size W5 V:=⟨_,rfl⟩;have ff:∀ V,S V->V.cell? ⟨kb,0,none⟩=some (.map (some mF))/\V.cell? ⟨w.heap.size+1,1,none⟩=some (.string ⟨n.toArray⟩)/\(Instr.lookup 145 (.map (some mF)) (.string ⟨n.toArray⟩) false).run Tryz.prog V=.ok (.agg #[.int .u8 g0,.string g1,.slice g2 g3 g4,.slice g5 g6 g7]) V:=fun V h=>by
   rw[hS]at h;exact ⟨aa h (ai ji.box 0),aa h (ai x5 1),zcl.o V (((Ep.tr h).block _ zae))⟩
  have dO:S W5.drew:=by rw[hS];exact (ak _ _).drew
  have HC:=ae (fun (V:World) (h:Below W5.heap.size W5 V)=>tw f tO.o.2.1 (by have:=tO.o.2.2;omega) _ V ⟨g0,g1,g2,g3,g4,g5,g6,g7⟩ ((tO.o.1.later Ep).later h));simp only[FQ.val,<-HM.o.2.2]at HC;have dh:=ae hS;have H5:=bG Ep y5 ji;clear hS x5 ji zae Ep y5;refine (wpIn_wide (n:=3)).1 ?_;refine lg S 9 dO fun jp bN=>?_;refine bC 0 34 (.pointer (some ⟨kb,0,none⟩)) rfl bN fun cq=>?_;simp only[ag];refine bC 1 35 (.pointer (some ⟨kb,0,none⟩)) rfl cq fun fI=>?_;simp only[ag];refine bC 2 36 (.pointer (some ⟨kb,0,none⟩)) rfl fI fun gF=>?_;simp only[ag];refine c9 3 37 (.map (some mF)) rfl (fun V hX=>by obtain ⟨h0,h1,h2⟩:=ff V hX;go_simp) gF fun iG=>?_;simp only[ag];refine bC 4 38 (.pointer (some ⟨w.heap.size+1,1,none⟩)) rfl iG fun jx=>?_;simp only[ag];refine c9 5 39 (.string ⟨n.toArray⟩) rfl (fun V hX=>by obtain ⟨h0,h1,h2⟩:=ff V hX;go_simp) jx fun jM=>?_;simp only[ag];refine c9 6 40 (.agg #[.int .u8 g0,.string g1,.slice g2 g3 g4,.slice g5 g6 g7]) rfl (fun V hX=>by obtain ⟨h0,h1,h2⟩:=ff V hX;go_simp) jM fun mi=>?_;simp only[ag];refine bZ 7 rfl fun K hK=>?_;go_simp;refine aK.2 ((HC.o _ (by have h:=bN;rw[dh.o]at h;exact h)).mono ?_);rintro e w7 ⟨⟨v7,rfl,LS⟩,fw⟩;have H7:=ae (((ak W5.heap.size W5).drew).trans fw);have Va:=ae (qN m (by have:=HM.o.2.1;omega) HM.o.1 _ w7 v7 LS.1);refine hK _ _ (fun _=>by rw[dh.o];exact H7.o) (fun _=>?_);clear hK K fw LS;refine bZ 8 rfl fun K hK=>?_;go_simp;refine aK.2 (Va.o.mono ?_);rintro e w8 ⟨⟨v8,rfl,F8⟩,RI⟩;have gJ:Below W5.heap.size W5 w8:=kF (w:=W5) H7.o RI;have H8:=aG gJ (F8.base (lo':=W5.heap.size) (by exact aI _));refine hK _ _ (fun _=>by rw[dh.o];exact H8.o.1) (fun _=>?_);clear hK K RI gJ F8;refine bZ 9 rfl fun K hK=>?_;go_simp;refine eN hK ?_;clear hK K;refine kz ?_;clear ff dO bN cq fI gF iG jx jM mi jp;have h5s:=H5.o.1.size;have hx8:w8.cell? ⟨w4.heap.size,0,none⟩=some (.string ⟨cW.toArray⟩):=aa H8.o.1 (ai H5.o.2.1 0);obtain ⟨l0,sq⟩:=am (m.filter dV);have zcm:l0.length<=400:=by rw[sq];exact aN (List.length_filter_le _ _) HM.o.2.1
  have hE:=HE2.o;rw[<-sq]at hE;have HV8:=ae (sq ▸ H8.o.2);have lN:=e7 l0 (by omega) cW _ w8 v8 HV8.o.strs
  cases ws:l0.contains cW with
  | false=>
   rw[ws]at lN hE;have lN:=ae lN;have qK:=ae (show R=l0 by rw[hE];simp);clear hE sq ws;go_wp2_with (go_at_call 128;refine lN.o.mono ?_;rintro e w9 ⟨rfl,hw9⟩;cases hw9);go_ret;exact ⟨⟨_,rfl,by rw[qK.o];exact HV8.o.base (aN H2.o.1.size h5s)⟩,(H2.o.1.tr H5.o.1).tr H8.o.1⟩
  | true=>
   rw[ws]at lN hE;have lN:=ae lN;have hE:R=l0.filter (fun x=>!(x == cW)) ++ (dF (aQ (termOf k.ts y))).filter dV:=by rw[hE];simp[bne]
   have qK:=ae hE;have zcn:=ae (wF (fun x=>x == cW) l0 (by omega) 247 #[.pointer (some ⟨w4.heap.size,0,none⟩)] zA W5.heap.size w8 v8 (fun x W _ hC=>Gw x cW w4.heap.size W (hC.cell (by intro h;have h1:W5.heap.size<=w4.heap.size:=h.1;have h2:=(bz H5.o.2.1);omega) hx8)) HV8.o);clear hE sq ws;go_upto_region 11 with (first | (go_at_call 128;refine lN.o.mono ?_;rintro e w9 ⟨rfl,hw9⟩;cases hw9) | (go_at_call 246;refine zcn.o.mono ?_;rintro e w9 ⟨⟨v9,rfl,Og⟩,hk9⟩;have H9:=aG (kF (w:=W5) H8.o.1 hk9) Og;clear Og hk9));have V5:=H5.o.2.2.later H9.o.1;obtain ⟨⟨z0,z1,z2,z3,z4⟩,TM,Gq,KA,ON,_,zx⟩:=V5.termOf (x:=y) (by have:=HYl.o;omega);simp only[TQ.val]at zx;have zx:=zx w9 rfl;have k1:w9.cell? ⟨kb,1,none⟩=some (.map (some mT)):=ai V5.box 1;have Fc:=ae (ll _ Gq _ w9 ⟨z0,z1,z2,z3,z4⟩ TM);obtain ⟨m9,hm9⟩:=am (dF (aQ (termOf k.ts y)));have zaf:∀ x∈m9,x.length<=2000000:=fun x hx=>by rw[hm9,dH]at hx;exact aN (lS _ ON x hx) (by decide)
   have zag:m9.length<=1000:=by rw[hm9];have h1:=e9 (aQ (termOf k.ts y));have h2:=lQ (termOf k.ts y);omega
   have hE:=qK.o;simp only[TQ.val,<-hm9]at Fc;rw[<-hm9]at hE;obtain ⟨l1,Fe⟩:=am (l0.filter (fun x=>!(x == cW)));have zco:l1.length<=400:=by rw[Fe];exact aN (List.length_filter_le _ _) zcm
   have H9v:=ae (Fe ▸ H9.o.2);rw[<-Fe]at hE;have OP:=ae hE;have HM9:=bG zaf zag zco;clear V5 TM Gq KA ON hm9 zaf zag Fe hE hx8;go_upto_region 12 with (first | (go_at_call 166;refine Fc.o.mono ?_;rintro e w10 ⟨⟨v10,rfl,zah⟩,sy⟩;have zcp:=ae (qN m9 (by have:=HM9.o.2.1;omega) HM9.o.1 _ w10 v10 zah.1);have ld:=ae sy;clear sy zah) | (go_at_call 245;refine zcp.o.mono ?_;rintro e Bv ⟨⟨v11,rfl,zai⟩,rg⟩;have sP:=aG (kF (w:=w9) ld.o rg) zai;clear zai rg) | (at_builtin;refine dR rfl _ _ rfl W5.heap.size (H9.o.1.tr sP.o.1).size v9 l1 rfl (H9v.o.later sP.o.1) v11 (m9.filter dV) rfl _ sP.o.2.strs (by have h1:=List.length_filter_le dV m9;have h2:=HM9.o.2.1;have h3:=HM9.o.2.2;omega) ?_;intro v12 w12 zaj zak;have M6:=aG zaj zak;clear zaj zak));go_ret;have oZ:Below W5.heap.size W5 w12:=(nv (M:=fun _=>False) (Kp.below (H9.o.1.tr sP.o.1)) M6.o.2 (fun g hg=>(H9v.o.lt g hg).1)).empty;exact ⟨⟨_,rfl,by rw[OP.o];exact M6.o.1.base (aN H2.o.1.size h5s)⟩,(H2.o.1.tr H5.o.1).tr oZ⟩):G:=h
theorem pm219(h:G:=by
 obtain ⟨ra,rc,rfl⟩:=hF.row.slice;rw[ct]at hF;obtain ⟨S,hS⟩:∃S:World->Prop,S=fun V=>Below wr.heap.size wr V:=⟨_,rfl⟩;have xb:=hF.box
 first
 |clear pp219;have k0:=ai iO.box 0;have r0:=ai xb 0;have mlt:=iO.fs.lt;have ff:∀ V,S V->V.cell? ⟨w.heap.size+1,0,none⟩=some (.slice ra j rc)/\V.cell? ⟨kb,0,none⟩=some (.map (some mF))/\(Instr.lookup 145 (.map (some mF)) (.string ⟨nm.toArray⟩) false).run Tryz.prog V=.ok (.agg #[.int .u8 g0,.string g1,.slice g2 g3 g4,.slice g5 g6 g7]) V:=fun V h=>by
   rw[hS]at h;exact ⟨aa h r0,aa h k0,(hlk V (h.block _ mlt)).2⟩
  have dO:S wr.drew:=by rw[hS];exact (ak _ _).drew
  obtain ⟨dh,HF,ee,dt⟩:=eW hS hF ct ar;have HC:=ae (fun (V:World) (h:Below wr.heap.size wr V)=>nu k.fs[j].2 (HP.o.2.2.1 _ Gm) ok V ⟨g0,g1,g2,g3,g4,g5,g6,g7⟩ (ot.later h));simp only[FQ.val]at HC;have QN:=ae (show k.fs.take j ++ [(nm,k.fs[j].2)]=k.fs.take (j+1) by rw[dG,List.take_add_one,gx dy];rfl);have Du:(j:Int)<(n1:Int):=by omega
  have pp194:=();exact pm194
 |have k0:=ai iO.box 1;have r0:=ai xb 1;have mlt:=iO.ts.lt;have ff:∀ V,S V->V.cell? ⟨w.heap.size+1,1,none⟩=some (.slice ra j rc)/\V.cell? ⟨kb,1,none⟩=some (.map (some mT))/\(Instr.lookup 146 (.map (some mT)) (.string ⟨nm.toArray⟩) false).run Tryz.prog V=.ok (.agg #[.bool g0,.string g1,.slice g2 g3 g4]) V:=fun V h=>by
   rw[hS]at h;exact ⟨aa h r0,aa h k0,(hlk V (h.block _ mlt)).2⟩
  have dO:S wr.drew:=by rw[hS];exact (ak _ _).drew
  obtain ⟨dh,HF,ee,dt⟩:=eW hS hF ct ar;have HC:=ae (fun (V:World) (h:Below wr.heap.size wr V)=>nL k.ts[j].2 (HP.o.2.2.2 _ Gm) ok V ⟨g0,g1,g2,g3,g4⟩ (ot.later h));simp only[TQ.val]at HC;have QN:=ae (show k.ts.take j ++ [(nm,k.ts[j].2)]=k.ts.take (j+1) by rw[dG,List.take_add_one,gx dy];rfl);have Du:(j:Int)<(n2:Int):=by omega
  exact pm194):G:=h
theorem pm220(h:G:=by
 refine ⟨fun h0=>(by rw[hr]at h0;cases h0),fun j hj=>?_⟩;rw[hr]at hj;obtain rfl:=List.mem_singleton.1 hj;refine wpOpIn_step hi (fun K' Dv=>?_)
 first
 |clear pp220;rw[aH hw];exact h K' (fun a w hS hW=>Dv a w ⟨hS,hW hS⟩)
 |rw[aw (by simp[hw])];exact ⟨AI,Dv _ _ ⟨fun _=>hS,by rw[uK];exact h hS⟩⟩):G:=h
theorem pm221(h:G:=by
 have iP:(xn == xn)=true:=by simp
 have kK:(!(xn == xn))=false:=by simp
 have HMt:Hd (R=di ps.reverse xa ya):=ae (by rw[yU.o];simp);clear yU;go_wp2
 first
 |clear pp221;rw[<-gK.o];have pp197:=();exact pm197
 |exact pm197):G:=h
theorem pm222(h:G:=by
 have uV:=o7.o b iK;have d0:=bh.cell uV c0;have d1:=bh.cell uV c1;have d2:=bh.cell uV c2
 first
 |clear pp222a;have oP:=ja l (k+1);have iL:=mv bp;have FA:=sU bp;have DG:=ym (sc:=sc) bp;have iF:TermV ok wr u.val l[k]:=hu.move (fun b hok hlt=>⟨hok,bh.same b hlt (o7.o b hok)⟩);have UT:=pD l[k];have eZ:=HL.o l[k] (aA bp) ok J sc (left - nodesTs (l.take k)) br ba (wr.alloc (.cells #[.bool u.v,.string u.n,.slice u.a u.l u.c] 43)) u (iF.later cJ) o7.o (hj.later cJ) (by omega) (by omega) MU hd (by omega);obtain ⟨bb,cI⟩:=am (jZ sc l[k] && (decide ((nodesT l[k]:Int)<=left - nodesTs (l.take k)) && decide (ba+dj l[k]<=br+1)));rw[<-cI]at eZ
  cases bb with
  | true=>
   have nQ:=cI.symm;simp only[ah,bx]at nQ;have hrel:eu sc (l.take (k+1))=true/\((nodesTs (l.take (k+1)):Int))<=left/\ba+bH (l.take (k+1))<=br+1/\left - nodesTs (l.take k) - nodesT l[k]=left - nodesTs (l.take (k+1)):=⟨by rw[DG,ha,nQ.1];rfl,by omega,by omega,by omega⟩;obtain ⟨HR,HC,kf⟩:=cG hrel eZ bh;clear hrel eZ cI nQ DG FA iL oP UT ha hb hc hj bh hu iF c0 c1 c2;go_wp2_with (go_at_call 122;refine HC.o.mono ?_;rintro e w3 ⟨rfl,j5,l3,o8,Lj,Q0,Fr⟩;have HH:=bG j5 o8 (Fr rfl);clear j5 o8 Lj Q0 Fr);go_roundw
   case rel=>exact ⟨k+1,by omega,by go_num,kf.o.trans ((Kp.below cJ).trans HH.o.1),by rw[<-HR.o.2.2.2,<-HH.o.2.2];exact HH.o.2.1,HR.o.1,HR.o.2.1,HR.o.2.2.1⟩
   case measure=>simp[intOf];omega
  | false=>
   have jH:(eu sc l && (decide ((nodesTs l:Int)<=left) && decide (ba+bH l<=br+1)))=false:=by
    have dG:=ja l (k+1);have hdm:=Fz bp
    cases h1:jZ sc l[k] with
    | false=>rw[Nq bp h1];rfl
    | true=>
     rw[h1,dU]at cI;have cI:=cI.symm;rw[Bool.and_eq_false_iff]at cI;rcases cI with cI | cI
     ·have:decide ((nodesTs l:Int)<=left)=false:=by simp at cI ⊢;omega
      rw[this];simp
     ·have:decide (ba+bH l<=br+1)=false:=by simp at cI ⊢;omega
      rw[this];simp
   obtain ⟨HF,HC,kf⟩:=cG jH eZ bh;clear jH eZ cI DG FA iL oP UT ha hb hc hj bh hu iF c0 c1 c2;go_wp2_with (go_at_call 122;refine HC.o.mono ?_;rintro e w3 ⟨rfl,j5,l3,o8,Lj,Q0,Fr⟩;have HH:=cC j5 o8 Lj Q0;clear j5 o8 Lj Q0 Fr);go_ret;exact ⟨aO HF.o.symm,kf.o.trans ((Kp.below cJ).trans HH.o.1),l3,HH.o.2.1,HH.o.2.2.1,by have:=HH.o.2.2.2;omega,fun h=>by rw[HF.o]at h;cases h⟩
 |clear pp222b;have iL:=mv bp;have oP:=ja l (j+1);have hf:=HF.o.mem (aA bp);have pG:=fS.o l[j] (aA bp);have iF:TermV ok wr u.val l[j]:=hu.move (fun b hok hlt=>⟨hok,bh.same b hlt (o7.o b hok)⟩);obtain ⟨⟨xv,xn,xa⟩,hx⟩:∃x,l[j]=x:=⟨_,rfl⟩;rw[hx]at iF hf pG iL;have rU:nodesT (.mk xv xn xa)=nodesTs xa+1:=rfl;rw[rU]at iL;obtain ⟨s1,h2,fL⟩:=aV.1 iF;obtain ⟨uv,un,ua,ul,uc⟩:=u;have pp109a:=();exact pm109
 |have d3:=bh.cell uV c3;have oP:=cD s (k+1);have iL:=en bp;have FA:=gR bp
  first
  |clear pp145;have DG:dD true (s.take (k+1))=_:=jI bp;have iF:FormV ok wr u.val s[k]:=hu.move (fun b hok hlt=>⟨hok,bh.same b hlt (o7.o b hok)⟩);have eZ:=fS.o s[k] (aA bp) ok J true (left - 1 - nodesTs a - nodesFs (s.take k)) br (ba+1) (wr.alloc (.cells #[.int .u8 u.o,.string u.n,.slice u.a u.l u.c,.slice u.b u.m u.e] 36)) u ((HT.o.kp bh (fun b hb=>by subst hb;exact RX)).next cJ) RX (iF.later cJ) o7.o (hj.later cJ) (by omega) (by omega) MU (by omega) (by omega);obtain ⟨bb,cI⟩:=am (okF true s[k] && (decide ((nodesF s[k]:Int)<=left - 1 - nodesTs a - nodesFs (s.take k)) && decide (ba+1+depthF s[k]<=br+1)));rw[<-cI]at eZ
   cases bb with
   | true=>
    have nQ:=cI.symm;simp only[ah,bx]at nQ;have hrel:dD true (s.take (k+1))=true/\((nodesFs (s.take (k+1)):Int))<=left - 1 - nodesTs a/\ba+1+aY (s.take (k+1))<=br+1/\left - 1 - nodesTs a - nodesFs (s.take k) - nodesF s[k]=left - 1 - nodesTs a - nodesFs (s.take (k+1)):=⟨by rw[DG,ha,nQ.1];rfl,by omega,by omega,by omega⟩;exact pm79
   | false=>
    have jH:(dD true s && (decide ((nodesFs s:Int)<=left - 1 - nodesTs a) && decide (ba+1+aY s<=br+1)))=false:=by
     have dG:=cD s (k+1);have hdm:=mx bp
     cases h1:okF true s[k] with
     | false=>rw[sY bp h1];rfl
     | true=>
      exact pm124
    exact pm89
  |have DG:dD sc (s.take (k+1))=_:=jI bp;have iF:FormV ok wr u.val s[k]:=hu.move (fun b hok hlt=>⟨hok,bh.same b hlt (o7.o b hok)⟩);have eZ:=fS.o s[k] (aA bp) ok J sc (left - 1 - nodesTs a - nodesFs (s.take k)) br (ba+1) (wr.alloc (.cells #[.int .u8 u.o,.string u.n,.slice u.a u.l u.c,.slice u.b u.m u.e] 36)) u ((HT.o.kp bh (fun b hb=>by subst hb;exact RX)).next cJ) RX (iF.later cJ) o7.o (hj.later cJ) (by omega) (by omega) MU (by omega) (by omega);obtain ⟨bb,cI⟩:=am (okF sc s[k] && (decide ((nodesF s[k]:Int)<=left - 1 - nodesTs a - nodesFs (s.take k)) && decide (ba+1+depthF s[k]<=br+1)));rw[<-cI]at eZ
   cases bb with
   | true=>
    have nQ:=cI.symm;simp only[ah,bx]at nQ;have hrel:dD sc (s.take (k+1))=true/\((nodesFs (s.take (k+1)):Int))<=left - 1 - nodesTs a/\ba+1+aY (s.take (k+1))<=br+1/\left - 1 - nodesTs a - nodesFs (s.take k) - nodesF s[k]=left - 1 - nodesTs a - nodesFs (s.take (k+1)):=⟨by rw[DG,ha,nQ.1];rfl,by omega,by omega,by omega⟩;exact pm79
   | false=>
    have jH:(dD sc s && (decide ((nodesFs s:Int)<=left - 1 - nodesTs a) && decide (ba+1+aY s<=br+1)))=false:=by
     have dG:=cD s (k+1);have hdm:=mx bp
     cases h1:okF sc s[k] with
     | false=>rw[sY bp h1];rfl
     | true=>
      exact pm124
    exact pm89):G:=h
theorem pm223(h:G:=by
 unfold Oper.wp execOp;simp only[ho,resolve,invoke,builtin,Sem.run_bind,Sem.run_pure,Result.andThen_ok,List.map_toArray,cK,List.map_nil,hs,hx,hr]
 first
 |clear pp223;exact hK _ _ (h v' w' h2 h3)
 |exact hK _ _ (h v' w' h3 h4)):G:=h
theorem pm224(h:G:=by
 cases e with
 | returned u=>exact ⟨keep a hy u,by rw[<-Act.put_comm a v u h2];exact he⟩
 | panicked c=>exact hQ _ _ _ he
 | outgrown=>exact he):G:=h
theorem pm225(h:G:=by
 refine ml Tryz.func127 ?_;simp only[Tryz.ntmps127,Nat.reduceAdd,Nat.reduceSub,kM]
 first
 |clear pp225;exact pm50
 |have g_:=eM
  first
  |clear pp125;gi_wp2_with (first | (gi_at_call 119;rw[<-HX.o];refine aK.2 (sr.o.mono ?_);rintro e w3 ⟨rfl,aL⟩;have y1:=(aL.block _ (by have:=HY.o.2.2.2.1;omega)).trans HY.o.2.1;have y0:=(aL.block _ (by have:=HY.o.2.2.2.1;omega)).trans HY.o.2.2.1;have oR:=aL.size;have oT:=HY.o.2.2.2.1;have Iz:w.heap.size+2<=w3.heap.size:=(by omega);have bQ:=cC (HY.o.1.tr aL) y1 y0 (HY.o.2.2.2.2.tr aL);obtain ⟨p0,p1,p2,_⟩:=gt y0;clear aL oR oT y1;have cR:Below w3.heap.size w3 (w3.alloc (.cells #[.bool true,.string ⟨n.toArray⟩,.slice none 0 0] 43)):=cJ;have r2:=aa cR p2;clear y0 cR) | (gi_at_call 128;refine aK.2 ((VY.o _ bQ.o.2.2.2).mono ?_);rintro e w4 ⟨rfl,TN⟩;cases TN));clear p0 p1 p2 r2;obtain ⟨W1,bX⟩:=am (w3.alloc (.cells #[.bool true,.string ⟨n.toArray⟩,.slice none 0 0] 43));have il:Below w.heap.size w W1:=by rw[bX];exact bQ.o.1.tr cJ
   have x1:W1.heap[w.heap.size+1]?=some (.cells #[.bool false,.string ⟨#[]⟩,.slice none 0 0] 43 (0,0)):=by rw[bX];exact (bI _ _ _ (by omega)).trans bQ.o.2.1
   have x2:=cb bX;rw[<-bX];clear bX;obtain ⟨d_,jo⟩:=a_ il x1;have uT:=ae (Fills.start (R:=w3.heap.size) (mk:=fun rr=>#[.bool true,.string ⟨n.toArray⟩,rr]) (Row:=fun r W=>RowT W1.heap.size r ((a.map (cQ kd.ts sc)).take 0) W) x2 (RowT.nil _ _));clear il x1 x2;gi_loopw [47] (fun i wr=>∃k:Nat,k<=k0/\i=.int .i64 k/\∃row,Fills 43 (w3.heap.size) W1.heap.size (fun rr=>#[.bool true,.string ⟨n.toArray⟩,rr]) (fun r W=>RowT W1.heap.size r ((a.map (cQ kd.ts sc)).take k) W) W1 wr row) (fun i _=>k0 - (intOf i).toNat)
   case atStart=>exact ⟨0,bc _,rfl,_,uT.o⟩
   case round=>
    obtain ⟨k,hk,rfl,row,hF⟩:=hrel;have ar:=hF.below d_.o ((by omega))
    by_cases hlt:k<k0
    ·have dy:=cF dB.o hlt;have pp54j:=();exact pm54
    ·obtain rfl:k=k0:=by omega
     have pp182:=();exact pm182
  |gi_wp2_with (first | (gi_at_call 119;rw[<-HX.o];refine aK.2 (sr.o.mono ?_);rintro e w3 ⟨rfl,aL⟩;have y1:=(aL.block _ (by have:=HY.o.2.2.2.1;omega)).trans HY.o.2.1;have y0:=(aL.block _ (by have:=HY.o.2.2.2.1;omega)).trans HY.o.2.2.1;have oR:=aL.size;have oT:=HY.o.2.2.2.1;have Iz:w.heap.size+2<=w3.heap.size:=(by omega);have bQ:=cC (HY.o.1.tr aL) y1 y0 (HY.o.2.2.2.2.tr aL);obtain ⟨p0,p1,p2,_⟩:=gt y0;clear aL oR oT y1;clear y0) | (gi_at_call 128;refine aK.2 ((VY.o _ bQ.o.2.2.2).mono ?_);rintro e w4 ⟨rfl,TN⟩;cases TN) | (gi_at_call 130;refine aK.2 ((eU n _ (by omega)).mono ?_);rintro e w5 ⟨rfl,Yt⟩;cases Yt) | (gi_at_call 131;refine aK.2 ((gj (dc n) _).mono ?_);rintro e w5 ⟨rfl,bj⟩;have x1:=(bj.block _ (by omega)).trans bQ.o.2.1;obtain ⟨e0,e1,e2,z0,z1,z2⟩:=gt x1;have H5:=aG (bQ.o.1.tr bj) x1;have Yf:=bj.size;clear bj x1));have x6:=pC (v0:=.bool true) (v1:=.string ⟨(dc n).toArray⟩) (v2:=.slice none 0 0) H5.o.2;have k6:=eD (W:=w5) (b:=w.heap.size+1) (v0:=.bool true) (v1:=.string ⟨(dc n).toArray⟩) (v2:=.slice none 0 0);obtain ⟨W6,da⟩:=am (((w5.setCell ⟨w.heap.size+1,0,none⟩ (.bool true)).setCell ⟨w.heap.size+1,1,none⟩ (.string ⟨(dc n).toArray⟩)).setCell ⟨w.heap.size+1,2,none⟩ (.slice none 0 0));rw[<-da]at x6 k6 ⊢;clear da;obtain ⟨g0,g1,g2,_⟩:=gt x6;refine bJ (v:=TQ.val ⟨true,⟨(dc n).toArray⟩,none,0,0⟩) (by simp[TQ.val,results,Tryz.results127,go_sem,g0,g1,g2]) rfl ⟨⟨⟨true,⟨(dc n).toArray⟩,none,0,0⟩,rfl,aV.2 ⟨_,rfl,none,0,fun _=>.string ByteArray.empty,rfl,.inl rfl,fun j hj=>absurd hj (by simp)⟩⟩,Below.kp1 H5.o.1 k6 (by omega)⟩):G:=h
theorem pm226(h:G:=by
 obtain ⟨a1,a2,a3,a4⟩:=gI k g n m hw.2 hq1.2 (by omega)
 first
 |clear pp226a;have hmx:m≠x:=fun e=>hm.1 (by rw[e];simpa using h1.2);have hmu:(aQ u).contains m=false:=by simpa using hm.2
  have Kr:nodesT (ap m)=1:=by simp[ap,nodesT,nodesTs]
  have hU:1<=nodesT u:=by obtain ⟨_,_,_⟩:=u;simp[nodesT]
  simp only[dbF,hq,if_true,pK,pJ];rw[te k _ x u _ _ a1 a2 (by omega) (by omega),te k g n (ap m) _ _ hw.2 hq1.2 (by omega) (by omega),FO hmu];congr 2;have e1:uA (upd (upd σ m (.lvl d)) x (uA σ u)) (ap m)=.lvl d:=by
   have:(m == x)=false:=by simpa using hmx
   simp[ap,uA,upd,this]
  rw[e1,yO _ hmx,yO (upd σ x (uA σ u)) (x:=m) (y:=n) (fun e=>by subst e;rw[h2]at hmu;cases hmu),NI hm.1]
 |clear pp226b;have b0:=oa k g n (ap m) hw.2 hq1.2 (by omega) (by simp[ap,nodesT,nodesTs]at *;omega) hf.2.2.2 (vp hm);have b1:=oa k _ x u a1 a2 (by omega) (by rw[a4];simp[nodesTs]at hs;omega) b0 hu;simp only[kJ,nmFs,ah,bx,el,List.map_nil,nmTs];exact ⟨hf.1,hm,trivial,b1,trivial⟩
 |clear pp226c;obtain ⟨b1,b2,b3,b4⟩:=gI k _ x y a1 a2 (by omega);simp only[mr,iq,qone,eO,depthF,aY,nodesF,nodesFs,el,List.map_nil,gL,b1,b2,b3,b4,a3,a4,hq];simp
 |clear pp226d;have b1:=tK k _ x u a1 a2 (by omega);rw[a4]at b1;simp only[nodesF,nodesFs,el,List.map_nil,nodesTs,Nat.add_mul];omega
 |obtain ⟨b1,b2⟩:=tR hu k _ x a1 a2 (by omega);simp[mr,iq,qone,eO,el,gL,b1,b2]):G:=h
theorem pm227(h:G:=by
 have Yd:=e9 (bl [] g);have qW:=gC g [];have CT:=e7 (dF (bl [] g)) (by have:=m5.o.1;omega) nx _ wf vf QE.o.strs;rw[ln,ws]at CT;have F2:=ae CT
 first
 |clear pp227;clear Yd qW CT ws;gi_wp2_with (gi_at_call 128;refine aK.2 (F2.o.mono ?_);rintro e w4 ⟨rfl,rfl⟩);have CC:=nu (.mk qo n [] [g]) Yc.o.1 ok w4 ⟨qo,⟨n.toArray⟩,qa,0,qc,some ⟨b,off,none⟩,1,qe⟩ (Yc.o.2.later F7.o.below);simp only[FQ.val]at CC;exact pm16
 |clear Yd qW CT;have CFT:=ll z N_.o.1 (fun _=>True) (wf.alloc (.cells #[.int .u8 go,.string gn,.slice ga gl gc,.slice gb gm ge] 36)) ⟨zv,zn,za,zl,zc⟩ ((HZ.o.later F7.o.below).move (uN cJ));simp only[TQ.val]at CFT;have zb2:=ae CFT;have Vp:=F7.o.later ((ak _ _).alloc (aI _) (.cells #[.int .u8 go,.string gn,.slice ga gl gc,.slice gb gm ge] 36));obtain ⟨d0,d1,d2,d3⟩:=mG F7.o.below HC.o.1 HC.o.2.1 HC.o.2.2.1 HC.o.2.2.2;obtain ⟨u0,u1,u2⟩:=li Vp.bu;obtain ⟨D3,HCn⟩:=a_ Vp ws;clear CFT Vp ws;gi_wp2_with fail;refine aK.2 (F2.o.mono ?_);rintro e w4 ⟨rfl,rfl⟩;gi_wp2_with fail;refine aK.2 (zb2.o.mono ?_);rintro e w6 ⟨⟨vn,rfl,hvn⟩,cR⟩;clear d0 d1 d2 d3 u0 u1 u2 p0 p1 p2 p3;have Vq:=D3.o.later cR;have t6:w6.heap[w4.heap.size]?=some (.cells #[.int .u8 go,.string gn,.slice ga gl gc,.slice gb gm ge] 36 (0,0)):=(cR.block _ (by simp)).trans (aj rfl);have hlz:=e9 (aQ z);have rR:=nl z;have CT2:=e7 (dF (aQ z)) (by have:=N_.o.2;omega) n _ w6 vn hvn.strs;rw[ln]at CT2;obtain ⟨zb3,D4,HT6,HVn⟩:=eW CT2 Vq t6 hvn;have Rl:=ae (show Below w4.heap.size w4 w6 from cJ.tr cR);have n1:=ai Vq.b0 1;clear CT2 Vq t6 hlz rR hvn cR;gi_wp2_with fail;refine aK.2 (zb3.o.mono ?_);rintro e w7 ⟨rfl,rfl⟩
  cases Oe:(aQ z).contains n with
  | false=>
   have vr:Hd (RS=.mk qo n [] [eQ kk nx z g]):=ae (by rw[Tq.o,n8 o_,HCn.o,Oe,aw (by simpa using hn)];rfl);have HGX:=ae ((HG.o.later F7.o.below).later Rl.o);clear n1 Oe;have CP:=fS.o W0 g nx z m5.o.2.2.2.2 m5.o.1 m5.o.2.1 m5.o.2.2.1 m5.o.2.2.2.1 Ky.o N_.o.1 N_.o.2 _ _ w7 ⟨go,gn,ga,gl,gc,gb,gm,ge⟩ ⟨zv,zn,za,zl,zc⟩ (Oa.o.next D4.o.below) HGX.o (HZ.o.later D4.o.below);simp only[FQ.val,TQ.val]at CP;have IV:=ae CP;obtain ⟨tu0,tu1,tu2⟩:=li D4.o.bu;obtain ⟨tt0,tt1,tt2,tt3⟩:=mm HT6.o;clear CP;gi_wp2_with fail;refine aK.2 (IV.o.mono ?_);rintro e w8 ⟨⟨⟨po,pn,pa,pl,pc,pb,pm,pe⟩,rfl,Tr⟩,gJ⟩;clear tu0 tu1 tu2 tt0 tt1 tt2 tt3;have Vr:=gJ.size;have hwX:=D4.o.below.size;have lp:Below w8.heap.size w8 (w8.alloc (.cells #[.int .u8 po,.string pn,.slice pa pl pc,.slice pb pm pe] 36)):=cJ;have tC:=(D4.o.later gJ).later lp;have pp76:=();exact pm76
  | true=>
   have zb4:=e9 (bl [] g);have zb5:=gC g [];have zb6:=e9 (aQ z);have zb7:=nl z;have ZG:=N_.o.2;have ZH:=m5.o.1;have ZI:OwnS iQ.heap.size w7 vf (dF (bl [] g)):=OwnS.later (show OwnS iQ.heap.size w4 vf (dF (bl [] g)) from QE.o.1) Rl.o;have ZJ:∀ b,vf.ownBlock=some b->w.heap.size+3<b/\b<w4.heap.size:=fun b hb=>by
    have h1:=(QE.o.1.lt b hb);have h2:=HPB.o.lt;exact ⟨by omega,by omega⟩
   obtain ⟨m,hm⟩:=am (dL (bl [] g ++ aQ z));have Kz:dL (dF (bl [] g) ++ dF (aQ z))=m:=by rw[hm];exact IT (by omega) (by omega) (by omega) (by omega)
   have uF:m.length<=2000000:=by rw[hm];exact n_ (by simp only[dZ];omega)
   have lM:∀ x∈dF (bl [] g) ++ dF (aQ z),x.length<=2000000:=fun x hx=>by
    rcases List.mem_append.1 hx with hx | hx
    ·exact oe g [] m5.o.2.2.2.2.2 x ((dH x _).1 hx)
    ·exact lS z N_.o.1.2 x ((dH x _).1 hx)
   have mY:(dF (bl [] g) ++ dF (aQ z)).length<=1000000:=by simp only[dZ];omega
   have vr:Hd (RS=.mk qo m [] [eQ kk nx z (eQ kk n (ap m) g)]):=ae (by rw[Tq.o,n8 o_,HCn.o,Oe,aw (by simpa using hn),aH rfl,<-hm];rfl);have HM:=cC Kz uF lM mY;obtain ⟨HVB,HV6⟩:=a_ ZJ ZI;have HL6:=ae (show iQ.heap.size<=w7.heap.size from aN (by have:=F7.o.below.size;have:=HPB.o.lt;exact zb1.o) Rl.o.size);have Vs:=ae (show (dF (bl [] g)).length+(dF (aQ z)).length<=4000000 by omega);clear n1 Oe zb4 zb5 zb6 zb7 ZG ZH ZI ZJ hm Kz uF lM mY;gi_wp2_with (gi_at_builtin;refine oS rfl _ _ rfl iQ.heap.size HL6.o vf _ rfl HV6.o vn _ rfl _ HVn.o.strs Vs.o ?_;intro v8 w8 F8 Tt;have Rm:=aG F8 Tt;clear F8 Tt);have Vt:=D4.o.grown Rm.o.2 (fun b hb=>(HVB.o b hb).1);have t8:w8.heap[w4.heap.size]?=some (.cells #[.int .u8 go,.string gn,.slice ga gl gc,.slice gb gm ge] 36 (0,0)):=(Rm.o.2.block _ (by have:=Rl.o.size;have:=(bz HT6.o);omega) (fun e=>by have:=(HVB.o _ e.symm).2;omega)).trans HT6.o;have Vu:=Ck W0 w8 (Oa.o.next Vt.below) _ HM.o.2.2.2 HM.o.2.2.1 _ v8 Rm.o.1.strs;rw[HM.o.1]at Vu;obtain ⟨Vv,zb8,HT8⟩:=cG Vu Vt t8;clear Vu Vt t8;refine aK.2 (Vv.o.mono ?_);rintro e w9 ⟨rfl,lp⟩;have tC:=zb8.o.later lp;have t9:w9.heap[w4.heap.size]?=some (.cells #[.int .u8 go,.string gn,.slice ga gl gc,.slice gb gm ge] 36 (0,0)):=bR lp HT8.o;have q1:=ai tC.b2 1;have zq1:=af tC.b2 1;have ms:=tC.setR 1 (.string ⟨m.toArray⟩);have tA:(w9.setCell ⟨w.heap.size+1+1+1,1,none⟩ (.string ⟨m.toArray⟩)).heap[w4.heap.size]?=some (.cells #[.int .u8 go,.string gn,.slice ga gl gc,.slice gb gm ge] 36 (0,0)):=(ei _ _ _ _ (by have:=F7.o.lt;simp <;> omega)).trans t9;obtain ⟨LO,Vw⟩:=a_ ms tA;clear lp tC t9 ms tA;gi_wp2;obtain ⟨W2,bm⟩:=am (w9.setCell ⟨w.heap.size+1+1+1,1,none⟩ (.string ⟨m.toArray⟩));rw[<-bm]at LO Vw ⊢;clear bm q1 zq1;exact pm137):G:=h
theorem pm228(h:G:=by
 have ht:l.take k=l:=by rw[dB.o];exact cV
 rw[ht]at hR ⊢;obtain ⟨HR,HB,HT⟩:=cG hR ar ht;clear hR ar ht;rw[<-dB.o]at HR ⊢;go_wp2;go_ret
 first
 |clear pp228;exact ⟨ra,rc,rfl,by have:=HR.o.terms;rw[dB.o]at *;exact this,HB.o⟩
 |exact ⟨ra,rc,rfl,by have:=HR.o.forms;rw[dB.o]at *;exact this,HB.o⟩):G:=h
theorem pm229(h:G:=by
 have l2:=(hl (w3.alloc (.cells #[.bool false,.string ⟨#[]⟩,.slice none 0 0] 43)).drew (bI _ _ _ (by have:=kQ.ts.lt;omega))).1
 first
 |clear pp229;have L0:=ae (show R=true by rw[qK.o,hg];rfl);have wn:=ae (bj.drew);clear kQ x3 bj hl hg;go_region
  all_goals
   go_wp2;go_ret;exact ⟨by rw[L0.o];rfl,(H1.o.1.tr H3.o).tr wn.o⟩
 |have L0:=ae (show R=false by rw[qK.o,hg];rfl);have wn:=ae ((((ak w3.heap.size w3).alloc (aI _) (.cells #[.bool xv,.string xn,.slice xa xl xc] 43))).drew);clear kQ x3 bj hl hg hxv hpu;go_region
  all_goals
   go_wp2;go_ret;exact ⟨by rw[L0.o];rfl,(H1.o.1.tr H3.o).tr wn.o⟩):G:=h
theorem pm230(h:G:=by
 have l2:=(hl (w4.alloc (.cells #[.bool false,.string ⟨#[]⟩,.slice none 0 0] 43)).drew (bI _ _ _ (by have:=oo.ts.lt;omega))).1
 first
 |clear pp230;obtain ⟨W5,eP⟩:=am (w4.alloc (.cells #[.bool false,.string ⟨#[]⟩,.slice none 0 0] 43)).drew;have oX:Below w4.heap.size w4 W5:=by rw[eP];exact bj.drew
  have mQ:Below W3.heap.size W3 W5:=H4.o.tr oX;have D_:Below W5.heap.size W5 W5.drew:=(ak _ _).drew;have Ox:=(oo.later oX).later D_;have Z5:=(HT.o.2.1.later mQ).later D_;obtain ⟨w6,cH,Gc,Gd,Hp⟩:=Ox.storeT (fun h=>h HG.o.2.2.2.1) (by have:=Ow.o.1;omega) (x:=n) (by omega) Z5 HF.o.2 (l':=fj n (.mk uv n' a') k.ts) (fun y=>zk hg y);have r0:=aa oX g0;have r1:=aa D_ r0;have r2:=aa mQ e1;have r3:=aa D_ r2;have r4:=aa mQ f0;have r5:=aa D_ r4;have r6:=aa mQ f1;have r7:=aa D_ r6;have r8:=aa mQ f2;have r9:=aa D_ r8;have HE:=ae (show R=some (fj n (.mk uv n' a') k.ts) by rw[HR.o,aH (by simp[nD]),hg]);have I5:=aG Gc ((Kp.below ((H3.o.1.tr mQ).tr D_)).trans Gd);unfold TQ.val at cH;clear oo hl Ox Z5 Gc Gd Hp hg mQ oX D_;go_region
  all_goals
   rw[<-eP];clear eP;go_wp2;go_region;go_wp2;go_ret;exact ⟨I5.o.2,true,rfl,(fun h=>by rw[HE.o]at h;cases h),(fun ts fX=>⟨rfl,nT+1,by have:=Ow.o.2;omega,by rw[HE.o]at fX;cases fX;exact I5.o.1⟩)⟩
 |obtain ⟨W5,eP⟩:=am (w4.alloc (.cells #[.bool xv,.string xn,.slice xa xl xc] 43)).drew;have oX:Below w4.heap.size w4 W5:=by rw[eP];exact cJ.drew
  have mQ:Below W3.heap.size W3 W5:=H4.o.tr oX;have x5:W5.heap[w4.heap.size]?=some (.cells #[.bool xv,.string xn,.slice xa xl xc] 43 (0,0)):=by rw[eP];exact aj rfl
  obtain ⟨r0,r1,r2⟩:=ke mQ f0 f1 f2;obtain ⟨s0,s1,s2,_⟩:=gt x5;have CS:=tH u (.mk uv n' a') _ _ W5 ⟨xv,xn,xa,xl,xc⟩ ⟨uv,⟨n'.toArray⟩,ua,n2,uc⟩ (HG.o.2.1 _ hpu) (HG.o.2.1 _ HF.o.2) (hxv.later oX) (HT.o.2.1.later mQ);simp only[TQ.val]at CS;have rC:=ae CS;have HE:=ae (show R=if uL u (.mk uv n' a') then some k.ts else none by rw[HR.o,aH (by simp[nD]),hg]);have Rv:=aG (oo.later oX) (H3.o.1.tr mQ);obtain ⟨bb,cI⟩:=am (uL u (.mk uv n' a'));rw[<-cI]at HE rC;clear oo hl hg mQ oX x5 CS cI hxv hpu;go_region
  all_goals
   rw[<-eP];clear eP;go_wp2_with (go_at_call 162;refine rC.o.mono ?_;rintro e w6 ⟨rfl,cR⟩;have H6:=ae cR;clear cR);go_ret;refine ⟨Kp.below (Rv.o.2.tr H6.o),bb,rfl,(fun h=>?_),(fun ts fX=>?_)⟩
   ·rw[HE.o]at h;cases bb;rfl;cases h
   ·rw[HE.o]at fX;cases bb;cases fX;cases fX;exact ⟨rfl,nT,by omega,Rv.o.1.later H6.o⟩):G:=h
theorem pm231(h:G:=by
 obtain ⟨a,cap,hv,hc,h⟩:=h;refine ⟨a,cap,hv,hc,?_⟩
 first
 |clear pp231a;rcases h with h | ⟨b,off,ha,hok,h⟩
  ·exact .inl h
  ·by_cases h0:l=[]
   ·exact .inl h0
   ·have hk:=hb b hok (World.block_lt_of_cell? W _ (h 0 (iD.2 h0)));exact .inr ⟨b,off,ha,hk.1,fun j hj=>cX hk.2 (h j hj)⟩
 |clear pp231b;rcases h with h | ⟨b,off,ha,_,h⟩
  ·exact .inl h
  ·exact .inr ⟨b,off,ha,h⟩
 |clear pp231c;rcases h with ⟨h,_⟩ | ⟨b,off,ha,h⟩
  ·exact .inl h
  ·exact .inr ⟨b,off,ha,trivial,h⟩
 |clear pp231d;rcases h with h | ⟨b,off,ha,h⟩
  ·exact .inl h
  ·subst ha;exact .inr ⟨b,off,rfl,fun j hj=>hk.cell (hf b (by rw[hv];rfl)) (h j hj)⟩
 |rcases h with h | ⟨b,off,ha,h⟩
  ·exact .inl h
  ·exact .inr ⟨b,off,ha,fun j hj=>aa hb (h j hj)⟩):G:=h
theorem pm232(h:G:=by
 have ct:((a.map aM).take k).length=k:=by rw[dM];have:=dB.o;simp;omega
 have jG:(a.map aM).take k=(a.map aM):=f8 (by have:=dB.o;simp;omega)
 first
 |clear pp232;have pp14f:=();exact pm14
 |exact pm14):G:=h
theorem pm233(h:G:=by
 go_enter Tryz.func17,Tryz.ntmps17
 first
 |clear pp233;go_wp2_with (go_at_call 19;refine (CT.o _ HB.o).mono ?_;rintro e w1 ⟨rfl,hb1⟩;have d_:=ae hb1;clear hb1);go_ret;exact ⟨rfl,HB.o.trans (d_.o.mono HB.o.size)⟩
 |go_wp2;go_ret;exact ⟨rfl,HB.o⟩):G:=h
theorem pm234(h:G:=by
 have bh:0<k0:=by rw[cg];exact iD.2 h0
 rw[<-cg]at cm ⊢;obtain ⟨dB,d9,HCp⟩:=cG cg hv ZC;have kC:((k0:Int) == 0)=false:=by simp;omega
 first
 |clear pp234;have wa:∀ W:World,(Instr.makeSlice 33 (.int .i64 0) (.int .i64 (k0:Int))).run Tryz.prog W=.ok (.slice (some ⟨W.heap.size,0,none⟩) 0 k0) (W.alloc (.cells (madeCells (Value.cells (.agg #[.bool false,.string ByteArray.empty,.slice none 0 0])) (k0 * 3)) 43)):=fun W=>by
   have h:=run_makeSlice (P:=Tryz.prog) W 33 43 i0 (.agg #[.bool false,.string ByteArray.empty,.slice none 0 0]) Tryz.underlying33 hi nM .i64 .i64 0 (k0:Int) (by omega) (by omega) (by rw[i_];simp;omega) (by rw[ig];omega) (by omega);simp only[Int.toNat_zero,Int.toNat_natCast,i_]at h;exact h
  have F6:RowT w.heap.size (.slice (some ⟨w.heap.size,0,none⟩) 0 k0) (l.take 0) (w.alloc (.cells (madeCells (Value.cells (.agg #[.bool false,.string ByteArray.empty,.slice none 0 0])) (k0 * 3)) 43)):=RowT.made _ _ (aI _) (by unfold maxLen;omega) (by rw[size_madeCells]);have N9:=ae F6;clear hv ZC cg az F6 h0;go_enter Tryz.func106,Tryz.ntmps106;go_wp2;go_loopw [5,16] (fun r i wr=>∃k:Nat,k<=k0/\i=.int .i64 k/\RowT w.heap.size r (l.take k) wr/\Below w.heap.size w wr) (fun _ i _=>k0 - (intOf i).toNat)
  case atStart=>exact ⟨0,bc _,rfl,N9.o,cJ⟩
  case round=>
   obtain ⟨k,hk,rfl,hR,ar⟩:=hrel;obtain ⟨ra,rc,rfl⟩:=hR.slice
   by_cases hlt:k<k0
   ·have dy:=cF dB.o hlt;have pp54b:=();exact pm54
   ·obtain rfl:k=k0:=by omega
    have pp228:=();exact pm228
 |have wa:∀ W:World,(Instr.makeSlice 34 (.int .i64 0) (.int .i64 (k0:Int))).run Tryz.prog W=.ok (.slice (some ⟨W.heap.size,0,none⟩) 0 k0) (W.alloc (.cells (madeCells (Value.cells (.agg #[.int .u8 0,.string ByteArray.empty,.slice none 0 0,.slice none 0 0])) (k0 * 4)) 36)):=fun W=>by
   have h:=run_makeSlice (P:=Tryz.prog) W 34 36 i0 (.agg #[.int .u8 0,.string ByteArray.empty,.slice none 0 0,.slice none 0 0]) Tryz.underlying34 hi nM .i64 .i64 0 (k0:Int) (by omega) (by omega) (by rw[i_];simp;omega) (by rw[ig];omega) (by omega);simp only[Int.toNat_zero,Int.toNat_natCast,i_]at h;exact h
  have F6:RowF w.heap.size (.slice (some ⟨w.heap.size,0,none⟩) 0 k0) (l.take 0) (w.alloc (.cells (madeCells (Value.cells (.agg #[.int .u8 0,.string ByteArray.empty,.slice none 0 0,.slice none 0 0])) (k0 * 4)) 36)):=RowF.made _ _ (aI _) (by unfold maxLen;omega) (by rw[size_madeCells]);have N9:=ae F6;clear hv ZC cg az F6 h0;go_enter Tryz.func108,Tryz.ntmps108;go_wp2;go_loopw [5,16] (fun r i wr=>∃k:Nat,k<=k0/\i=.int .i64 k/\RowF w.heap.size r (l.take k) wr/\Below w.heap.size w wr) (fun _ i _=>k0 - (intOf i).toNat)
  case atStart=>exact ⟨0,bc _,rfl,N9.o,cJ⟩
  case round=>
   obtain ⟨k,hk,rfl,hR,ar⟩:=hrel;obtain ⟨ra,rc,rfl⟩:=hR.slice
   by_cases hlt:k<k0
   ·have dy:=cF dB.o hlt;obtain ⟨b,off,u,rfl,_,hu,c0,c1,c2,c3⟩:=d9.o.get dy;obtain ⟨d0,d1,d2,d3⟩:=mG ar c0 c1 c2 c3;have ct:(l.take k).length=k:=by rw[dM];omega
    rw[ct]at hR ⊢;have HU:=ae ((hu.later ar).later (W':=wr.alloc (.cells #[.int .u8 u.o,.string u.n,.slice u.a u.l u.c,.slice u.b u.m u.e] 36)) cJ);obtain ⟨dt,HR,ee⟩:=cG ar hR ct;clear hu ar hR ct c0 c1 c2 c3;have CC:=ae (HCp.o l[k] (aA dy) _ _ u HU.o);go_wp2_with fail;refine CC.o.mono ?_;rintro _ A ⟨p,rfl,hp,hA⟩;obtain ⟨qs,et,au,gp⟩:=HR.o;rw[ee.o]at et au;have cv:Below wr.heap.size wr A:=cJ.trans (hA.mono (by simp));have nN:=cv.size;have N':=dt.o.size;have HO:=ae (aZ au (fun b _ hlt=>cv.block b hlt));have HH:=bG et au gp;have Rg:=aG hp cv;clear et au gp hp hA cv;have oT:(A.alloc (.cells #[.int .u8 p.o,.string p.n,.slice p.a p.l p.c,.slice p.b p.m p.e] 36)).heap.size=A.heap.size+1:=by simp
    unfold FQ.val;go_wp2_with (at_builtin;refine wpList_append_lies _ rfl _ _ 34 rfl w.heap.size 36 i0 (.agg #[.int .u8 0,.string ByteArray.empty,.slice none 0 0,.slice none 0 0]) 4 72 Tryz.underlying34 hi nM i_ ig rfl (by decide) _ _ _ rfl (HO.o.alloc _) ⟨A.heap.size,0,none⟩ 1 1 p.cells rfl rfl (c_ (cs:=#[.int .u8 p.o,.string p.n,.slice p.a p.l p.c,.slice p.b p.m p.e]) (t:=36) (fr:=(0,0)) (fP _ _)) (by simp[FQ.cells,Value.oneCell']) (by decide) (by unfold maxLen;omega) (by omega) (by simp;omega) (A.heap.size+1) oT ?_;intro g ev w4 aR ao hg eq;have HG:=bG aR ao hg;clear aR ao hg eq oT);go_roundw
    case rel=>
     exact pm244
    case measure=>simp[intOf];omega
   ·obtain rfl:k=k0:=by omega
    exact pm228):G:=h
theorem pm235(h:G:=by
 clear CT Yi xz f_ dG Yh hc;go_wp2_with (go_at_call 128;refine F2.o.mono ?_;rintro e w8 ⟨rfl,rfl⟩)
 first
 |clear pp235;obtain ⟨W8,lr,x8,k8,g0,g1,g2⟩:=tj E_.o.1 (.bool false) (.string ⟨#[]⟩) (.slice none 0 0);rw[<-lr];refine bJ (v:=.tuple #[TQ.val ⟨false,⟨#[]⟩,none,0,0⟩,.bool false]) (by simp[TQ.val,results,Tryz.results98,go_sem,g0,g1,g2]) rfl ⟨⟨⟨false,⟨#[]⟩,none,0,0⟩,by rw[HE.o];rfl,fun u hu=>by rw[HE.o]at hu;cases hu⟩,Below.kp1 E_.o.2 k8 (by omega)⟩
 |go_roundw
  case rel=>exact ⟨j3+1,by omega,by go_num,by simp,yX.o⟩
  case measure=>simp[intOf];omega):G:=h
theorem pm236(h:G:=by
 have HB:=ae ar;clear CB ar f_ hq c0 hok;go_wp2_with (go_at_fn g;refine HC.o.mono ?_;rintro e w4 ⟨rfl,aP⟩;have H4:=ae aP;clear aP)
 first
 |clear pp236;go_ret;exact ⟨.inr ⟨k,_,HE.o.2.2,rfl,HE.o.1,HE.o.2.1⟩,HB.o.tr H4.o⟩
 |go_roundw
  case rel=>exact ⟨k+1,by omega,by go_num,HB.o.tr H4.o,yX.o⟩
  case measure=>simp[intOf];omega):G:=h
theorem pm237(h:G:=by
 have hB:Below wr.heap.size wr (wr.alloc (.cells #[.int .u8 u.o,.string u.n,.slice u.a u.l u.c,.slice u.b u.m u.e] 36)):=cJ
 first
 |clear pp237;have e1:(wr.alloc (.cells #[.int .u8 u.o,.string u.n,.slice u.a u.l u.c,.slice u.b u.m u.e] 36)).cell? ⟨W.heap.size+1,0,none⟩=some (.map (some mb)):=aa hB (ai b1 0);have e2:(wr.alloc (.cells #[.int .u8 u.o,.string u.n,.slice u.a u.l u.c,.slice u.b u.m u.e] 36)).cell? ⟨W.heap.size+2,0,none⟩=some (.func (.yield l) #[] #[]):=aa hB (ai b2 0);have sX:(pre ++ (A ++ bP bs' (ss.take k)) ++ bl bs' ss[k]) <+: xs:=by
   have h1:bP bs' ss=bP bs' (ss.take (k+1)) ++ bP bs' (ss.drop (k+1)):=by
    conv=>lhs;rw[<-List.take_append_drop (k+1) ss]
    exact mP _ _ _
   have h2:=nc.o;rw[h1,iL]at h2;obtain ⟨r,rfl⟩:=h2;exact ⟨bP bs' (ss.drop (k+1)) ++ r,by simp⟩
  have hNn:=uE.o;have CC:=fS.o ss[k] (aA bp) M B l J xs (pre ++ (A ++ bP bs' (ss.take k))) W0 _ u mb n' bs' AA.o Vk.o HJ.o HY.o hu (bh.trans (Kp.below hB)) (oc.same (hB.block mb oc.lt)) (by omega) (by omega) sX (HJ.o _ _ _ ((Nw.below hB)) hj);unfold FQ.val at CC;have HC:=ae CC;have HS:=bG iL D1 Ci;have kf:=ae (kC.trans (Kp.below hB));clear hu hB sX CC iL D1 lK Ci oc bh kC hj c0 c1 c2 c3 b0 b1 b2 hNn;go_wp2_with (go_at_call 149;refine HC.o.mono ?_;rintro e w3 ⟨rfl,o8,j5,aL,N8⟩;have HH:=cC o8 j5 aL N8;clear o8 j5 aL N8);go_roundw
  case rel=>
   obtain ⟨n'',zbZ,Vl⟩:=HH.o.2.2.1;exact ⟨k+1,by omega,by go_num,by rw[HS.o.1,<-List.append_assoc A];simpa using HH.o.1,HH.o.2.1,⟨n'',by have:=HS.o.2.1;have:=HS.o.2.2;omega,Vl⟩,kf.o.trans HH.o.2.2.2⟩
  case measure=>simp[intOf];omega
 |have vV:=bh.size;have AQ:∀ b,M b->b<(wr.alloc (.cells #[.int .u8 u.o,.string u.n,.slice u.a u.l u.c,.slice u.b u.m u.e] 36)).heap.size:=fun b hb=>by have:=AA.o b hb;simp;omega
  have sX:(pre ++ ([f] ++ dK (s.take k)) ++ kg s[k]) <+: xs:=by
   have h1:dK s=dK (s.take (k+1)) ++ dK (s.drop (k+1)):=by
    conv=>lhs;rw[<-List.take_append_drop (k+1) s]
    exact pF _ _
   have h2:=nc.o;rw[h1,iL]at h2;obtain ⟨r,rfl⟩:=h2;exact ⟨dK (s.drop (k+1)) ++ r,by simp⟩
  have CC:=fS.o s[k] (aA bp) M B l J xs (pre ++ ([f] ++ dK (s.take k))) _ u AQ (fun t=>(HJ.o t).mono (by simp;omega)) (HY.o.later (bh.trans (Kp.below hB))) (hu.kp (bh.trans (Kp.below hB))) sX (HJ.o _ _ _ (Nw.below hB) hj);obtain ⟨HC,HS⟩:=a_ CC iL;have kf:=ae (bh.trans (Kp.below hB));clear hu hB AQ sX CC iL bh hj c0 c1 c2 c3;gi_wp2_with (gi_at_call 151;refine aK.2 (HC.o.mono ?_);rintro e w3 ⟨rfl,o8,j5⟩;have HH:=aG o8 j5;clear o8 j5);go_roundw
  case rel=>exact ⟨k+1,by omega,by go_num,by rw[HS.o];simpa using HH.o.1,kf.o.trans HH.o.2⟩
  case measure=>simp[intOf];omega):G:=h
theorem pm238(h:G:=by
 have CP:=ae (fun w:World=>hp ▸ nJ s[k].toNat w);clear hp;go_wp2;go_quiet ((go_at_call 189;exact fv (CP.o _)))
 first
 |clear pp238;go_wp2;go_ret;exact ⟨aO (rN (rM s k kC hlt _ HP.o)).symm,B7 HW.o _⟩
 |exact pm212):G:=h
theorem pm239(h:G:=by
 have CP:=ae (fun w:World=>hp ▸ yg s[k].toNat w);clear hp;go_wp2;go_quiet ((go_at_call 217;exact fv (CP.o _)))
 first
 |clear pp239;go_wp2;go_ret;exact ⟨aO (rN (rM s k kC hlt _ HP.o)).symm,B7 HW.o _⟩
 |exact pm212):G:=h
theorem pm240(h:G:=by
 obtain ⟨bb,off,⟨a0,a1,a2,a3,a4,a5,a6,a7⟩,⟨b0,b1,b2,b3,b4,b5,b6,b7⟩,rfl,hok,hs,hf,c0,c1,c2,c3,c4,c5,c6,c7⟩:=HV.o.1.get le
 first
 |clear pp240;obtain ⟨d0,d1,d2,d3,d4,d5,d6,d7⟩:=H' mO c0 c1 c2 c3 c4 c5 c6 c7;simp only at d0 d1 d2 d3 d4 d5 d6 d7;have cH:=Ey le;have og:=HV.o.2.2.2.2 _ (aA le);obtain ⟨⟨s,f⟩,TT⟩:∃x,x=l[j]:=⟨_,rfl⟩;rw[<-TT]at cH og hs hf;simp only at cH og hs hf;obtain ⟨W5,eP⟩:=am (wr.alloc (.cells #[.int .u8 a0,.string a1,.slice a2 a3 a4,.slice a5 a6 a7,.int .u8 b0,.string b1,.slice b2 b3 b4,.slice b5 b6 b7] 50));have bj:=cZ eP;have x5:=cb eP;have BP:(j:Int)<(n1:Int):=by omega
  have CS:=zW W0 s og.1 _ W5 ((HV.o.2.2.1.next mO).next bj) ⟨a0,a1,a2,a3,a4,a5,a6,a7⟩ ((hs.move (dm mO)).later bj);have CR:=fun (V:World) (h:Below W5.heap.size W5 V)=>vM W0 f og.2 _ V (((HV.o.2.2.1.next mO).next bj).next h) ⟨b0,b1,b2,b3,b4,b5,b6,b7⟩ (((hf.move (dm mO)).later bj).later h);simp only[FQ.val]at CS CR;obtain ⟨gs,O3⟩:=am (eL s);obtain ⟨gr,RZ⟩:=am (dv f);rw[<-O3]at CS;rw[<-RZ]at CR;rw[<-O3,<-RZ]at cH;obtain ⟨rC,HCR,rD⟩:=cG CS CR eP;have H5:=bG (mO.tr bj) bj x5;have dt:=ae ar;have M7:=((H3.o.2.1 ▸ (ar.block _ (bz H3.o.2.1))):wr.heap[w.heap.size+1]?=_);have jo:=ae (bR bj M7);clear CS CR eP bj x5 mO ar hs hf og TT O3 RZ hok c0 c1 c2 c3 c4 c5 c6 c7 M7 le
  cases gs with
  | false=>
   have HE:=ae (show R=(⟨[],[]⟩,j,2) by rw[HR.o];exact tT KN.o.symm (by rw[gw,cH];rfl));clear gw cH;gi_wp2_with (rw[<-rD.o];gi_at_call 26;refine aK.2 (rC.o.mono ?_);rintro e w6 ⟨rfl,cR⟩;have QO:=bR cR jo.o;obtain ⟨y0,y1,z0,z1⟩:=sB QO;have H6:=aG cR QO;clear cR QO);obtain ⟨W8,lr,x8,k8,g0,g1⟩:=By H6.o.2 (.slice none 0 0) (.slice none 0 0);rw[<-lr,Exit.noGoto_ret];have sF:Below w.heap.size w W8:=Below.kp1 (H5.o.1.tr H6.o.1) k8 (by omega);exact pm98
  | true=>
   cases gr with
   | false=>
    have HE:=ae (show R=(⟨[],[]⟩,j,2) by rw[HR.o];exact tT KN.o.symm (by rw[gw,cH];rfl));clear gw cH;gi_wp2_with (first | (rw[<-rD.o];gi_at_call 26;refine aK.2 (rC.o.mono ?_);rintro e w6 ⟨rfl,cR⟩;have O4:=bR cR H5.o.2.2;have i4:=ai O4 4;have i5:=ai O4 5;have i6:=ai O4 6;have i7:=ai O4 7;have H6:=ae cR;clear cR O4) | (gi_at_call 39;refine aK.2 ((HCR.o _ H6.o).mono ?_);rintro e w7 ⟨rfl,fw⟩;have Wy:=bR (H6.o.tr fw) jo.o;obtain ⟨y0,y1,z0,z1⟩:=sB Wy;have H7:=aG (H6.o.tr fw) Wy;clear fw Wy));obtain ⟨W8,lr,x8,k8,g0,g1⟩:=By H7.o.2 (.slice none 0 0) (.slice none 0 0);rw[<-lr,Exit.noGoto_ret];have sF:Below w.heap.size w W8:=Below.kp1 (H5.o.1.tr H7.o.1) k8 (by omega);exact pm98
   | true=>
    have HG:=ae (show fH 0 l=fH (j+1) (l.drop (j+1)) by rw[gw,cH];rfl);clear gw cH;gi_wp2_with (first | (rw[<-rD.o];gi_at_call 26;refine aK.2 (rC.o.mono ?_);rintro e w6 ⟨rfl,cR⟩;have O4:=bR cR H5.o.2.2;have i4:=ai O4 4;have i5:=ai O4 5;have i6:=ai O4 6;have i7:=ai O4 7;have H6:=ae cR;clear cR O4) | (gi_at_call 39;refine aK.2 ((HCR.o _ H6.o).mono ?_);rintro e w7 ⟨rfl,fw⟩;have H7:=ae (H6.o.tr fw);clear fw));go_roundw
    case rel=>exact ⟨j+1,by omega,by go_num,(dt.o.tr H5.o.2.1).tr H7.o,HG.o⟩
    case measure=>simp[intOf];omega
 |obtain ⟨d0,d1,d2,d3,d4,d5,d6,d7⟩:=H' nq c0 c1 c2 c3 c4 c5 c6 c7;simp only at d0 d1 d2 d3 d4 d5 d6 d7;have cH:=zX (step:=bV) (k:=kj) le;have pp51:=();exact pm51):G:=h
theorem pm241(h:G:=by
 obtain ⟨qs,hk,ho,ht⟩:=h;rcases eH ho with ⟨rfl,h0⟩ | ⟨g,cap,rfl,hg,_⟩
 first
 |clear pp241a
  ·obtain rfl:=jk h0;exact cf
  ·refine ⟨_,cap,fun j=>if h:j<qs.length then qs[j].val else .bool false,rfl,.inr ⟨g,0,rfl,hg,fun j hj=>?_⟩,fun j hj=>?_⟩
   ·have oJ:j<qs.length:=by omega
    simp only[dif_pos oJ,Nat.zero_add];exact Fs ho j oJ
   ·have oJ:j<qs.length:=by omega
    simp only[dif_pos oJ];exact (ht j oJ hj).move (fun b hok _=>⟨hok.1,rfl⟩)
 |clear pp241b
  ·obtain rfl:=jk h0;exact gh
  ·refine ⟨_,cap,fun j=>if h:j<qs.length then qs[j].val else .bool false,rfl,.inr ⟨g,0,rfl,hg,fun j hj=>?_⟩,fun j hj=>?_⟩
   ·have oJ:j<qs.length:=by omega
    simp only[dif_pos oJ,Nat.zero_add];exact vZ ho j oJ
   ·have oJ:j<qs.length:=by omega
    simp only[dif_pos oJ];exact (ht j oJ hj).move (fun b hok _=>⟨hok.1,rfl⟩)
 |·obtain rfl:=jk h0;exact gh
  ·refine ⟨_,cap,fun j=>if h:j<qs.length then qs[j].val else .bool false,rfl,.inr ⟨g,0,rfl,trivial,fun j hj=>?_⟩,fun j hj=>?_⟩
   ·have oJ:j<qs.length:=by omega
    simp only[dif_pos oJ,Nat.zero_add];exact vZ ho j oJ
   ·have oJ:j<qs.length:=by omega
    simp only[dif_pos oJ];exact (ht j oJ hj).move (fun b _ _=>⟨trivial,rfl⟩)):G:=h
theorem pm242(h:G:=by
 go_wp2_with (go_at_call 22;refine rC.o.mono ?_;rintro e w' ⟨rfl,hb⟩;have kL:=ae hb;clear hb);go_ret
 first
 |clear pp242;exact ⟨by rw[HE.o];rfl,HB.o.tr kL.o⟩
 |exact ⟨by rw[HE.o];rfl,(iR.o.1.tr HB.o).tr kL.o⟩):G:=h
theorem pm243(h:G:=by
 obtain ⟨b,off,u,rfl,_,hu,c0,c1,c2⟩:=HL.o.get bp;obtain ⟨b',mL,u',rfl,_,iF,mg,nd,ne⟩:=HM.o.get mN;have hf:=HF.o.mem (aA bp)
 first
 |clear pp243;have Hz:=eR.o.mem (aA mN);have pG:=fS.o l[k] (aA bp);rw[LU bp mN]at ht;obtain ⟨e,he⟩:=am (tG l[k] m[k]);have f0:=fun x:Later wr=>x.get (aa ar c0);have f1:=fun x:Later wr=>x.get (aa ar c1);have f2:=fun x:Later wr=>x.get (aa ar c2);have f3:=fun x:Later wr=>x.get (aa ar mg);have f4:=fun x:Later wr=>x.get (aa ar nd);have f5:=fun x:Later wr=>x.get (aa ar ne);have CC:=ae (fun (x:Later wr)=>oO l[k] pG m[k] ok ok' x.w u u' hf Hz ((hu.later ar).later x.below) ((iF.later ar).later x.below));unfold TQ.val at CC;rw[<-he]at ht CC;obtain ⟨HB,HT⟩:=a_ ar ht;clear hu iF pG hf Hz ar ht c0 c1 c2 mg nd ne he;go_wp2;refine aS (by kernel_rfl) (by kernel_rfl) ?_
  repeat (go_big_quiet_step ((go_at_call 226;exact cA (CC.o _))))
  refine wpQuiet_nil ?_;rintro _ ⟨x',rfl⟩;clear f0 f1 f2 f3 f4 f5;have cO:=ae (HB.o.trans (x'.below.mono HB.o.size))
  by_cases h0:e=0
  ·subst h0;go_wp2;go_roundw
   case rel=>exact ⟨k+1,by omega,by go_num,cO.o,by simpa using HT.o⟩
   case measure=>simp[intOf];omega
  ·have d1:(e == 0)=false:=by simpa using h0
   have d2:(e != 0)=true:=by simpa using h0
   have HE:=ae (show R=e by have:=HT.o;simpa[h0] using this);clear h0;go_wp2;go_ret;exact ⟨qA HE.o.symm,cO.o⟩
 |have pG:=fS.o l[k] (aA bp);obtain ⟨⟨xv,xn,xa⟩,hx⟩:∃x,l[k]=x:=⟨_,rfl⟩;obtain ⟨⟨yv,yn,ya⟩,hy⟩:∃x,m[k]=x:=⟨_,rfl⟩;rw[hx]at hu hf pG;rw[hy]at iF;obtain ⟨s1,h1,fL⟩:=aV.1 hu;obtain ⟨s2,h2,IC⟩:=aV.1 iF;obtain ⟨uv,un,ua,ul,uc⟩:=u;obtain ⟨vv,vn,va,vl,vc⟩:=u';exact pm75):G:=h
theorem pm244(h:G:=by
 obtain ⟨et,au,gp⟩:=HH.o;obtain ⟨hp,cv⟩:=Rg.o;obtain ⟨aR,ao,hg⟩:=HG.o;have DZ:=ao.size;simp only[World.size_alloc]at DZ
 first
 |clear pp244;have h4:=RowT.step (lo:=w.heap.size) (v:=.slice ra k rc) (ts:=l.take k) (t:=l[k]) (W:=wr) (W1:=A) (w4:=w4) (q:=p) (g:=g) (cap:=ev) (by rw[ee.o];exact et) cv N' (fun j h1 h2=>gp j h1 h2) (fun b hb=>(au.lt b hb).2) (hp.move (fun b hok _=>⟨aN (by simp) hok,rfl⟩)) (by rw[ee.o];exact aR)
   (fun c _ hc hn=>(ao.block c (by simp;omega) (fun e=>hn e.symm)).trans (bI _ _ _ (by omega))) (by rcases hg with h | h;exact .inl h;exact .inr (by omega))
  exact pm174
 |have h4:=RowF.step (lo:=w.heap.size) (v:=.slice ra k rc) (ts:=l.take k) (t:=l[k]) (W:=wr) (W1:=A) (w4:=w4) (q:=p) (g:=g) (cap:=ev) (by rw[ee.o];exact et) cv N' (fun j h1 h2=>gp j h1 h2) (fun b hb=>(au.lt b hb).2) (hp.move (fun b hok _=>⟨aN (by simp) hok,rfl⟩)) (by rw[ee.o];exact aR)
   (fun c _ hc hn=>(ao.block c (by simp;omega) (fun e=>hn e.symm)).trans (bI _ _ _ (by omega))) (by rcases hg with h | h;exact .inl h;exact .inr (by omega))
  exact pm174):G:=h
theorem pm245(h:G:=by
 obtain ⟨a',cap,hv,_,h⟩:=h;injection hv with hv _ _;subst hv
 first
 |clear pp245a;rcases h with rfl | ⟨b,off,ha,hc⟩
  ·simp at hj
  ·exact ⟨b,off,ha,hc⟩
 |clear pp245b;rcases h with rfl | ⟨b,off,ha,hok,hc⟩
  ·simp at hj
  ·exact ⟨b,off,ha,hok,hc j hj⟩
 |clear pp245c;rcases h with rfl | ⟨b,off,ha,hc⟩
  ·exact absurd rfl hl
  ·exact ⟨b,off,ha,hc⟩
 |rcases h with ⟨rfl,_⟩ | ⟨b,off,ha,hc⟩
  ·simp at hj
  ·exact ⟨b,off,ha,(hc j hj).1,(hc j hj).2⟩):G:=h
theorem pm246(h:G:=by
 rintro D c pre X _ hD dn ⟨rfl,k',er,h2,h3,h4,h5,h6⟩ hd;obtain ⟨rs,hrs⟩:=dn;have WF:=p_ pre rs kj k' er h2 h3;rw[hrs]at WF
 first
 |clear pp246;have gU:d8 bV 0 k l=(k',j,er):=by rw[TK.o,WF,aw h2]
  have HE:=ae (show R=(⟨[],[]⟩,j,er) by rw[xr.o,<-AZ.o.1 (by simp),gU];exact aH h2);exact pm82
 |have gU:d8 eF 0 k l=(k',j,er):=by rw[TK.o,WF,aw h2]
  have HE:=ae (show R=(⟨[],[]⟩,j,er) by rw[xr.o,AZ.o.2.1 (by simp)];simp only[ne_eq,not_true_eq_false,↓reduceIte];rw[gU];exact aH h2);exact pm82):G:=h
theorem pm247(h:G:=by
 obtain ⟨⟨a,cap,rfl,hc,h⟩,hM⟩:=h;refine ⟨⟨a,cap,rfl,hc,?_⟩,hM⟩;rcases h with h | ⟨b,off,rfl,h⟩
 ·exact .inl h
 first
 |clear pp247
  ·exact .inr ⟨b,off,rfl,fun j hj=>⟨hk.cell (hM b rfl) (h j hj).1,hk.cell (hM b rfl) (h j hj).2⟩⟩
 |·exact .inr ⟨b,off,rfl,fun j hj=>⟨hb.cell hl (h j hj).1,hb.cell hl (h j hj).2⟩⟩):G:=h
theorem pm248(h:G:=by
 go_wp2_with (go_at_call 119;refine (C1.o _).mono ?_;rintro e w' ⟨rfl,hb⟩);go_ret;exact ⟨by simp,hb⟩):G:=h
theorem pm249(h:G:=by
 have b0:=(kC.same W.heap.size oV.o.1 oV.o.2.1).trans Ln.o;have b1:=(kC.same (W.heap.size+1) oV.o.2.2.1 oV.o.2.2.2.1).trans jo.o
 first
 |clear pp249;have b2:=(kC.same (W.heap.size+2) oV.o.2.2.2.2.1 oV.o.2.2.2.2.2).trans HX2.o
  by_cases hlt:k<m0
  ·have bp:=cF gV.o hlt;obtain ⟨b,off,u,rfl,iK,hu,c0,c1,c2,c3⟩:=Ta.o.get bp;exact pm275
  first
  |clear pp10
   ·obtain rfl:m0=k:=by omega
    have ht:ss.take m0=ss:=by rw[gV.o];exact cV
    rw[ht]at hj Ci;have E6:=ae Ci;have HH:=cC hj bh oc kC;clear hj bh oc kC ht b0 b1 b2 Ci;go_wp2;simp only[bodyPostD];refine ⟨.bool true,by simp[results,Tryz.results149,go_sem],rfl,HH.o.1,HH.o.2.1,⟨n',by have:=E6.o;have:=uE.o;omega,by have h:=HH.o.2.2.1;rw[kL.o]at h;exact h⟩,(Kp.below d_.o).trans HH.o.2.2.2⟩
  |·obtain rfl:m0=k:=by omega
    have ht:ss.take m0=ss:=by rw[gV.o];exact cV
    rw[ht]at hj Ci;have E6:=ae Ci;have HH:=cC hj bh oc kC;have f1:wr.cell? ⟨W.heap.size+1,0,none⟩=some (.map (some mb)):=ai b1 0;have f0:wr.cell? ⟨W.heap.size,1,none⟩=some (.string ⟨nm.toArray⟩):=ai b0 1;have CD:=Rf mb n' W.heap.size bs nm Ih.o (by have:=E6.o;have:=uE.o;omega) (by have:=uE.o;omega) .returning wr f1 f0 (kL.o ▸ oc);have HCD:=ae CD;clear hj bh oc kC ht b0 b1 b2 Ci CD f0 f1;go_wp2;refine leaves_cons (f:=215) (args:=#[.pointer (some ⟨W.heap.size+1,0,none⟩),.pointer (some ⟨W.heap.size,0,none⟩)]) (by simp) (by simp[go_sem]) ?_;refine HCD.o.mono ?_;rintro e u' w5 ⟨rfl,rfl,bj,hg5,MY,ZB⟩;have hmS:=HMS.o;refine ⟨.bool true,by simp[results,Tryz.results149,go_sem],rfl,HJ.o _ _ _ (ZB _ Vk.o) HH.o.1,N7 HH.o.2.1 (ZB _ Vk.o) (aI _),⟨n'+1,by have:=E6.o;have:=uE.o;omega,bj⟩,((Kp.below d_.o).trans HH.o.2.2.2).trans ⟨hg5.os,hg5.tape,hg5.output,Nat.le_of_eq MY.symm,fun b hb hm=>hg5.block b hb (fun h=>hm (.inr (by cases h;rfl)))⟩⟩
 |have x0:wr.cell? ⟨W.heap.size,0,none⟩=some (.int .u8 uo):=ai b0 0;have x1:wr.cell? ⟨W.heap.size,1,none⟩=some (.string ⟨nm.toArray⟩):=ai b0 1;have x2:wr.cell? ⟨W.heap.size,2,none⟩=some (.slice ua k0 uc):=ai b0 2;have x3:wr.cell? ⟨W.heap.size,3,none⟩=some (.slice ub m0 ue):=ai b0 3;have x4:wr.cell? ⟨W.heap.size+1,0,none⟩=some (.map (some mb)):=ai b1 0
  cases o_:bU uo with
  | false=>
   have kL:Hd (bs'=bs):=ae (by rw[kL.o,o_];rfl);have pp268:=();exact pm268
  | true=>
   have kL:Hd (bs'=nm :: bs):=ae (by rw[kL.o,o_];rfl);exact pm268):G:=h
theorem pm250(h:G:=by
 have oR:W2.heap.size=w.heap.size+1+1:=by omega
 have HZ3:=ae oR;rw[oR]at C2;obtain ⟨AV,cO,gK,U1⟩:=eW C2 bD bm oP;rw[bm]at AV
 first
 |clear pp250;clear C2 bD bm oP o9 hq az ig oR;obtain ⟨qv,qn,qa,ql,qc⟩:=q;unfold TQ.val;go_enter Tryz.func166,Tryz.ntmps166;go_wp2_with (go_at_call 220;refine (AS ⟨qv,qn,qa,ql,qc⟩ _).mono ?_;rintro e w2 ⟨rfl,rfl⟩);exact pm59
 |clear C2 bD bm oP o9 hq az ig oR xy;obtain ⟨qo,qn,qa,ql,qc,qb,qm,qe⟩:=q;unfold FQ.val;go_enter Tryz.func40,Tryz.ntmps40;go_wp2_with (go_at_call 85;refine (Bh ⟨qo,qn,qa,ql,qc,qb,qm,qe⟩ _).mono ?_;rintro e w2 ⟨rfl,rfl⟩);exact pm59):G:=h
theorem pm251(h:G:=by
 obtain ⟨qs,hk,ho,ht⟩:=h;exact ⟨qs,hk,aZ ho hb,fun j h1 h2=>(ht j h1 h2).move (fun b hok hlt=>⟨hok,hb b hok.1 hlt⟩)⟩):G:=h
theorem pm252(h:G:=by
 refine ml Tryz.func69 ?_;simp only[Tryz.ntmps69,Nat.reduceAdd,Nat.reduceSub,kM]
 first
 |clear pp252;have g_:=eM
  first
  |clear pp12;gi_wp2_with (gi_at_call 123;refine aK.2 ((CP.o _).mono ?_);rintro e w3 ⟨rfl,aL⟩;obtain ⟨b1,b2,b3,b0⟩:=No HY.o aL;have p1:w3.cell? ⟨w.heap.size,1,none⟩=some (.string ⟨n.toArray⟩):=ai b0 1;have p2:w3.cell? ⟨w.heap.size,2,none⟩=some (.slice qa k0 qc):=ai b0 2;have bQ:=ae b1;have UQ:=ae b2;have DE:=ae b3;clear aL b1 b2 b3 b0);obtain ⟨W1,bX⟩:=am w3;have il:Below w.heap.size w W1:=by rw[bX];exact bQ.o
   have x1:W1.heap[w.heap.size+1]?=some (.cells #[.bool false,.string ⟨#[]⟩,.slice none 0 0] 43 (0,0)):=by rw[bX];exact UQ.o
   have x2:W1.heap[w.heap.size+1+1]?=some (.cells #[.bool true,.string ⟨n.toArray⟩,.slice none 0 0] 43 (0,0)):=by rw[bX];exact DE.o
   rw[<-bX];clear bX;obtain ⟨d_,jo⟩:=a_ il x1;have uT:=ae (Fills.start (R:=w.heap.size+1+1) (mk:=fun rr=>#[.bool true,.string ⟨n.toArray⟩,rr]) (Row:=fun r W=>RowT W1.heap.size r ((a.map aM).take 0) W) x2 (RowT.nil _ _));clear il x1 x2;gi_loopw [25] (fun i wr=>∃k:Nat,k<=k0/\i=.int .i64 k/\∃row,Fills 43 (w.heap.size+1+1) W1.heap.size (fun rr=>#[.bool true,.string ⟨n.toArray⟩,rr]) (fun r W=>RowT W1.heap.size r ((a.map aM).take k) W) W1 wr row) (fun i _=>k0 - (intOf i).toNat)
   case atStart=>exact ⟨0,bc _,rfl,_,uT.o⟩
   case round=>
    have pp0b:=();exact pm0
  |gi_wp2_with (gi_at_call 123;refine aK.2 ((CP.o _).mono ?_);rintro e w3 ⟨rfl,aL⟩;obtain ⟨b1,b2,b3,b0⟩:=No HY.o aL;have p1:w3.cell? ⟨w.heap.size,1,none⟩=some (.string ⟨n.toArray⟩):=ai b0 1;have p2:w3.cell? ⟨w.heap.size,2,none⟩=some (.slice qa k0 qc):=ai b0 2;have bQ:=ae b1;have UQ:=ae b2;have DE:=ae b3;have e1:w3.cell? ⟨w.heap.size+1+1,1,none⟩=some (.string ⟨n.toArray⟩):=ai b3 1;have z1:w3.frozen? ⟨w.heap.size+1+1,1,none⟩=false:=af b3 1;clear aL b1 b2 b3 b0);obtain ⟨W1,bX⟩:=am (w3.setCell ⟨w.heap.size+1+1,1,none⟩ (.string ⟨r.toArray⟩));have il:Below w.heap.size w W1:=by rw[bX];exact bQ.o.setCell (by simp;omega) _
   have x1:W1.heap[w.heap.size+1]?=some (.cells #[.bool false,.string ⟨#[]⟩,.slice none 0 0] 43 (0,0)):=by rw[bX];exact (ei _ _ _ _ (by simp)).trans UQ.o
   have x2:W1.heap[w.heap.size+1+1]?=some (.cells #[.bool true,.string ⟨r.toArray⟩,.slice none 0 0] 43 (0,0)):=by rw[bX];exact (bq DE.o _).trans rfl
   rw[<-bX];clear bX;obtain ⟨d_,jo⟩:=a_ il x1;have uT:=ae (Fills.start (R:=w.heap.size+1+1) (mk:=fun rr=>#[.bool true,.string ⟨r.toArray⟩,rr]) (Row:=fun r W=>RowT W1.heap.size r ((a.map aM).take 0) W) x2 (RowT.nil _ _));clear il x1 x2;gi_loopw [25] (fun i wr=>∃k:Nat,k<=k0/\i=.int .i64 k/\∃row,Fills 43 (w.heap.size+1+1) W1.heap.size (fun rr=>#[.bool true,.string ⟨r.toArray⟩,rr]) (fun r W=>RowT W1.heap.size r ((a.map aM).take k) W) W1 wr row) (fun i _=>k0 - (intOf i).toNat)
   case atStart=>exact ⟨0,bc _,rfl,_,uT.o⟩
   case round=>
    exact pm0
 |have pp50a:=();exact pm50):G:=h
theorem pm253(h:G:=by
 have iL:=e6 bp;have hB:Below wr.heap.size wr (wr.alloc (.cells #[.bool u.v,.string u.n,.slice u.a u.l u.c] 43)):=cJ
 first
 |clear pp253;have vV:=bh.size;have AQ:∀ b,M b->b<(wr.alloc (.cells #[.bool u.v,.string u.n,.slice u.a u.l u.c] 43)).heap.size:=fun b hb=>by have:=AA.o b hb;simp;omega
  first
  |clear pp26a;have sX:(pre ++ ([] ++ aC (a.take k)) ++ aQ a[k]) <+: xs:=by
    exact pm64
   have CC:=fS.o a[k] (aA bp) M B l J xs (pre ++ ([] ++ aC (a.take k))) _ u AQ (fun t=>(HJ.o t).mono (by simp;omega)) (HY.o.later (bh.trans (Kp.below hB))) (hu.kp (bh.trans (Kp.below hB))) sX (HJ.o _ _ _ (Nw.below hB) hj);unfold TQ.val at CC;obtain ⟨HC,HS⟩:=a_ CC iL;have kf:=ae (bh.trans (Kp.below hB));clear hu hB AQ sX CC iL bh hj c0 c1 c2;gi_wp2_with (gi_at_call 214;refine aK.2 (HC.o.mono ?_);rintro e w3 ⟨rfl,o8,j5⟩;have HH:=aG o8 j5;clear o8 j5);go_roundw
   case rel=>exact ⟨k+1,by omega,by go_num,by rw[HS.o];simpa using HH.o.1,kf.o.trans HH.o.2⟩
   case measure=>simp[intOf];omega
  |clear pp26b;have sX:(pre ++ ([n] ++ aC (a.take k)) ++ aQ a[k]) <+: xs:=by
    exact pm64
   have CC:=fS.o a[k] (aA bp) M B l J xs (pre ++ ([n] ++ aC (a.take k))) _ u AQ (fun t=>(HJ.o t).mono (by simp;omega)) (HY.o.later (bh.trans (Kp.below hB))) (hu.kp (bh.trans (Kp.below hB))) sX (HJ.o _ _ _ (Nw.below hB) hj);unfold TQ.val at CC;obtain ⟨HC,HS⟩:=a_ CC iL;have kf:=ae (bh.trans (Kp.below hB));clear hu hB AQ sX CC iL bh hj c0 c1 c2;gi_wp2_with (gi_at_call 214;refine aK.2 (HC.o.mono ?_);rintro e w3 ⟨rfl,o8,j5⟩;have HH:=aG o8 j5;clear o8 j5);go_roundw
   case rel=>exact ⟨k+1,by omega,by go_num,by rw[HS.o];simpa using HH.o.1,kf.o.trans HH.o.2⟩
   case measure=>simp[intOf];omega
  |clear pp26c;have sX:(pre ++ ([] ++ aC (a.take k)) ++ aQ a[k]) <+: xs:=by
    exact pm64
   have CC:=fS.o a[k] (aA bp) M B J xs (pre ++ ([] ++ aC (a.take k))) _ u AQ (fun t=>(HJ.o t).mono (by simp;omega)) HG.o (hu.kp (bh.trans (Kp.below hB))) sX (HJ.o _ _ _ ((Nw.below hB)) hj);unfold TQ.val at CC;obtain ⟨HC,HS⟩:=a_ CC iL;have kf:=ae (bh.trans (Kp.below hB));clear hu hB AQ sX CC iL bh hj c0 c1 c2;go_wp2_with (go_at_call 214;refine HC.o.mono ?_;rintro e w3 ⟨rfl,o8,j5⟩;have HH:=aG o8 j5;clear o8 j5);go_roundw
   case rel=>exact ⟨k+1,by omega,by go_num,by rw[HS.o];simpa using HH.o.1,kf.o.trans HH.o.2⟩
   case measure=>simp[intOf];omega
  |have sX:(pre ++ ([n] ++ aC (a.take k)) ++ aQ a[k]) <+: xs:=by
    exact pm64
   have CC:=fS.o a[k] (aA bp) M B J xs (pre ++ ([n] ++ aC (a.take k))) _ u AQ (fun t=>(HJ.o t).mono (by simp;omega)) HG.o (hu.kp (bh.trans (Kp.below hB))) sX (HJ.o _ _ _ ((Nw.below hB)) hj);unfold TQ.val at CC;obtain ⟨HC,HS⟩:=a_ CC iL;have kf:=ae (bh.trans (Kp.below hB));clear hu hB AQ sX CC iL bh hj c0 c1 c2;go_wp2_with (go_at_call 214;refine HC.o.mono ?_;rintro e w3 ⟨rfl,o8,j5⟩;have HH:=aG o8 j5;clear o8 j5);go_roundw
   case rel=>exact ⟨k+1,by omega,by go_num,by rw[HS.o];simpa using HH.o.1,kf.o.trans HH.o.2⟩
   case measure=>simp[intOf];omega
 |have vV:=kC.size;have Zz:=HMW.o.1;have NT:=HS1.o;have AQ:∀ b,(M b\/b=mb)->b<(wr.alloc (.cells #[.bool u.v,.string u.n,.slice u.a u.l u.c] 43)).heap.size:=fun b hb=>by
   rcases hb with hb | hb
   ·have:=AA.o b hb;have:=HMW.o.2;simp;omega
   ·simp;omega
  have sX:(aC (a.take k) ++ aQ a[k]) <+: aC a:=by
   exact pm278
  have CC:=zd (W.heap.size+1) (W.heap.size+2) a[k] (HFT.o _ (aA bp)) (fun b=>M b\/b=mb) wr.heap.size (FrJ J pre M W0 mb n bs l W.heap.size) (aC a) (aC (a.take k)) _ u AQ (fun t=>(HFA.o wr vV t).mono (by simp)) HG.o
   ((hu.move (ok':=fun b=>b<wr.heap.size/\¬(M b\/b=mb)) (fun b hb hlt=>⟨⟨bE hlt hj.kp.size,fun h=>by rcases h with h | h;exact hb.2 h;have:=Vk.o;omega⟩,(Kp.trans hj.kp (Kp.below hB)).same b hlt hb.2⟩))) sX (HFA.o wr vV _ _ _ (Nw.below hB) hj)
  unfold TQ.val frV at CC;obtain ⟨HC,HS⟩:=a_ CC iL;have kf:=ae (kC.trans (Kp.below hB));clear hu hB AQ sX CC iL kC hj c0 c1 c2 Zz NT vV;go_wp2_with (go_at_call 214;refine HC.o.mono ?_;rintro e w3 ⟨rfl,o8,j5⟩;have HH:=aG o8 j5;clear o8 j5);go_roundw
  case rel=>exact ⟨k+1,by omega,by go_num,by rw[HS.o];exact HH.o.1,kf.o.trans HH.o.2⟩
  case measure=>simp[intOf];omega):G:=h
theorem pm254(h:G:=by
 obtain ⟨W6,da,x6,k6,g0,g1,g2,g3⟩:=Be H5.o.2 (.int .u8 0) (.string ⟨#[]⟩) (.slice none 0 0) (.slice none 0 0);rw[<-da]
 first
 |clear pp254;have HE:=ae (show RS=none from N1.o.2.1 (yX.o (by simp)));exact pm101
 |have HE:=ae (show RS=none from xr.o.1 (yX.o (by simp)));exact pm101):G:=h
theorem pm255(h:G:=by
 go_wp2;go_ret;exact ⟨aO (uR (by rw[jD];omega) HR.o (by rw[na h1];exact HF.o) (by have:=HA.o;rwa [ye]at this)).symm,HW.o⟩):G:=h
theorem pm256(h:G:=by
 intro m ok ok' w a n c a' n' c' az hl hm;obtain rfl:=hl.len;obtain rfl:=hm.len;have cm:=az.len
 by_cases mY:l.length=m.length
 first
 |clear pp256
  ·obtain ⟨k0,cg⟩:=am l.length;rw[<-mY,<-cg];rw[<-cg]at cm;obtain ⟨dB,Vs,HL,HM,fS,HF⟩:=UC cg mY hl hm ih az;clear cg mY hl hm ih az;go_enter Tryz.func19,Tryz.ntmps19;have pp157:=();exact pm157
  ·have i9:iE l m=false:=by
    cases he:iE l m with
    | false=>rfl
    | true=>exact absurd (by rw[(fV _ _).1 he]) mY
   have pp138:=();exact pm138
 |·obtain ⟨k0,cg⟩:=am l.length;rw[<-mY,<-cg];rw[<-cg]at cm;obtain ⟨dB,Vs,HL,HM,fS,HF⟩:=UC cg mY hl hm ih az;clear cg mY hl hm ih az;go_enter Tryz.func52,Tryz.ntmps52;exact pm157
  ·have i9:m7 l m=false:=by
    cases he:m7 l m with
    | false=>rfl
    | true=>exact absurd (by rw[(nh _ _).1 he]) mY
   exact pm138):G:=h
theorem pm257(h:G:=by
 obtain ⟨b,rfl,h1,h2,_⟩:=hv;obtain ⟨b',cs,rfl,h3,q,hq,h4⟩:=hf;cases h1
 first
 |clear pp257a;simp only[FQ.val,cE]at hq;exact pm119
 |clear pp257b;simp only[TQ.val,cE]at hq;exact pm119
 |simp only[BQ.val,cE]at hq;exact pm119):G:=h
theorem pm258(h:G:=by
 rw[hb]at C;obtain ⟨HC,HB⟩:=a_ C hB;clear C hB hJ hb hn hq hf;have HW:=ae bm;rw[bm]at HC;clear bm;unfold FQ.val at HC ⊢
 first
 |clear pp258;obtain ⟨bb,cI⟩:=am (dv t);rw[<-cI]at HC ⊢;clear cI;cases bb
  all_goals
   go_enter Tryz.func39,Tryz.ntmps39;go_wp2_with (go_at_call 64;refine HC.o.mono ?_;rintro e w3 ⟨rfl,j5,_⟩;have mo:=ae j5;clear j5);go_ret;refine ⟨rfl,?_⟩;rw[<-HW.o]at mo;exact Below.kp1 HB.o mo.o (by omega)
 |obtain ⟨bb,cI⟩:=am (eL t);rw[<-cI]at HC ⊢;clear cI;cases bb
  all_goals
   go_enter Tryz.func26,Tryz.ntmps26;go_wp2_with (go_at_call 64;refine HC.o.mono ?_;rintro e w3 ⟨rfl,j5,_⟩;have mo:=ae j5;clear j5);go_ret;refine ⟨rfl,?_⟩;rw[<-HW.o]at mo;exact Below.kp1 HB.o mo.o (by omega)):G:=h
theorem pm259(h:G:=by
 have hli:¬((n1:Int)=(n2:Int)):=by omega
 have hlb:((n1:Int) == (n2:Int))=false:=by simp[hli]
 have Kx:(n == n)=true:=by simp
 first
 |clear pp259;clear nD I6 AB;have pp6b:=();exact pm6
 |exact pm78):G:=h
theorem pm260(h:G:=by
 refine ml Tryz.func154 ?_;simp only[Tryz.ntmps154,Nat.reduceAdd,Nat.reduceSub,kM]
 first
 |clear pp260;have g_:=eM;have NQ:Below w.heap.size w ((w.alloc (.cells #[.bool true,.string ⟨n.toArray⟩,.slice qa k0 qc] 43)).alloc (.cells #[.bool false,.string ⟨#[]⟩,.slice none 0 0] 43)):=cJ.alloc (by simp) _;have y1:((w.alloc (.cells #[.bool true,.string ⟨n.toArray⟩,.slice qa k0 qc] 43)).alloc (.cells #[.bool false,.string ⟨#[]⟩,.slice none 0 0] 43)).heap[w.heap.size+1]?=some (.cells #[.bool false,.string ⟨#[]⟩,.slice none 0 0] 43 (0,0)):=aj (by simp);have y0:((w.alloc (.cells #[.bool true,.string ⟨n.toArray⟩,.slice qa k0 qc] 43)).alloc (.cells #[.bool false,.string ⟨#[]⟩,.slice none 0 0] 43)).heap[w.heap.size]?=some (.cells #[.bool true,.string ⟨n.toArray⟩,.slice qa k0 qc] 43 (0,0)):=(bI _ _ _ (by simp)).trans (aj rfl);have sN:((w.alloc (.cells #[.bool true,.string ⟨n.toArray⟩,.slice qa k0 qc] 43)).alloc (.cells #[.bool false,.string ⟨#[]⟩,.slice none 0 0] 43)).heap.size=w.heap.size+2:=by simp
  have CI:=hI n ((w.alloc (.cells #[.bool true,.string ⟨n.toArray⟩,.slice qa k0 qc] 43)).alloc (.cells #[.bool false,.string ⟨#[]⟩,.slice none 0 0] 43)) lK (Kw.o.tr NQ);rw[rk]at CI;have HY:=cC NQ y1 y0 sN;have S':=ae CI
  first
  |clear pp20;clear NQ y1 y0 sN CI rk;gi_wp2_with (gi_at_fn g;refine aK.2 (S'.o.mono ?_);rintro e w3 ⟨⟨q3,rfl,DT⟩,aL⟩;obtain ⟨Tc,Td,Te,Tf,Tg⟩:=q3;simp only[TQ.val,Option.isSome]at DT ⊢;have b1:=HY.o.1.tr aL;have y1:=(aL.block _ (by have:=HY.o.2.2.2;omega)).trans HY.o.2.1;have y0:=(aL.block _ (by have:=HY.o.2.2.2;omega)).trans HY.o.2.2.1;have oR:=aL.size;have oT:=HY.o.2.2.2;have Iz:w.heap.size+2<=w3.heap.size:=(by omega);have bQ:=cC b1 y1 y0 DT;clear aL b1 oR oT DT;have p0:w3.cell? ⟨w.heap.size,0,none⟩=some (.bool true):=ai y0 0;have p1:w3.cell? ⟨w.heap.size,1,none⟩=some (.string ⟨n.toArray⟩):=ai y0 1;have p2:w3.cell? ⟨w.heap.size,2,none⟩=some (.slice qa k0 qc):=ai y0 2;have aP:Below w3.heap.size w3 (w3.alloc (.cells #[.bool Tc,.string Td,.slice Te Tf Tg] 43)):=cJ;have q0:=aa aP p0;have q1:=aa aP p1;have q2:=aa aP p2;have cR:Below (w3.alloc (.cells #[.bool Tc,.string Td,.slice Te Tf Tg] 43)).heap.size (w3.alloc (.cells #[.bool Tc,.string Td,.slice Te Tf Tg] 43)) ((w3.alloc (.cells #[.bool Tc,.string Td,.slice Te Tf Tg] 43)).alloc (.cells #[.bool true,.string ⟨n.toArray⟩,.slice none 0 0] 43)):=cJ;have r2:=aa cR q2;clear y1 y0 aP cR);clear p0 p1 p2 q0 q1 q2 r2;obtain ⟨W1,bX⟩:=am ((w3.alloc (.cells #[.bool Tc,.string Td,.slice Te Tf Tg] 43)).alloc (.cells #[.bool true,.string ⟨n.toArray⟩,.slice none 0 0] 43));have il:Below w.heap.size w W1:=by rw[bX];exact bQ.o.1.tr ((cJ.alloc (by simp) _))
   have x1:W1.heap[w.heap.size+1]?=some (.cells #[.bool false,.string ⟨#[]⟩,.slice none 0 0] 43 (0,0)):=by rw[bX];exact (bI _ _ _ (by simp;omega)).trans ((bI _ _ _ (by omega)).trans bQ.o.2.1)
   have x2:=jA bX;rw[<-bX];clear bX;obtain ⟨d_,jo⟩:=a_ il x1;have uT:=ae (Fills.start (R:=w3.heap.size+1) (mk:=fun rr=>#[.bool true,.string ⟨n.toArray⟩,rr]) (Row:=fun r W=>RowT W1.heap.size r ((a.map (fR f)).take 0) W) x2 (RowT.nil _ _));clear il x1 x2;gi_loopw [30] (fun i wr=>∃k:Nat,k<=k0/\i=.int .i64 k/\∃row,Fills 43 (w3.heap.size+1) W1.heap.size (fun rr=>#[.bool true,.string ⟨n.toArray⟩,rr]) (fun r W=>RowT W1.heap.size r ((a.map (fR f)).take k) W) W1 wr row) (fun i _=>k0 - (intOf i).toNat)
   case atStart=>exact ⟨0,bc _,rfl,_,uT.o⟩
   case round=>
    obtain ⟨k,hk,rfl,row,hF⟩:=hrel;have ar:=hF.below d_.o ((by omega))
    by_cases hlt:k<k0
    ·have dy:=cF dB.o hlt;have pp54d:=();exact pm54
    ·obtain rfl:k=k0:=by omega
     have pp210:=();exact pm210
  |clear NQ y1 y0 sN CI;clear rk;have HCu:=ae hcu;clear hcu;gi_wp2_with (first | (gi_at_fn g;refine aK.2 (S'.o.mono ?_);rintro e w3 ⟨⟨q3,rfl,DT⟩,aL⟩;obtain ⟨Tc,Td,Te,Tf,Tg⟩:=q3;simp only[TQ.val,Option.isSome]at DT ⊢;have b1:=HY.o.1.tr aL;have y1:=(aL.block _ (by have:=HY.o.2.2.2;omega)).trans HY.o.2.1;have y0:=(aL.block _ (by have:=HY.o.2.2.2;omega)).trans HY.o.2.2.1;have oR:=aL.size;have oT:=HY.o.2.2.2;have Iz:w.heap.size+2<=w3.heap.size:=(by omega);have bQ:=cC b1 y1 y0 DT;clear aL b1 oR oT DT;have aP:Below w3.heap.size w3 (w3.alloc (.cells #[.bool Tc,.string Td,.slice Te Tf Tg] 43)):=cJ;have z1:=(aP.block _ (by omega)).trans y1;have HE:=ae (HCu.o _ _ ⟨Tc,Td,Te,Tf,Tg⟩ ((bQ.o.2.2.2 u rfl).later aP));simp only[TQ.val]at HE;have HZ:=aG z1 (bQ.o.1.tr aP);clear y1 y0 aP z1) | (gi_at_call 218;refine aK.2 (HE.o.mono ?_);rintro e w5 ⟨⟨p5,rfl,qE⟩,bj⟩;obtain ⟨pv,pn,pa,pl,pc⟩:=p5;simp only at qE ⊢;have x1:=(bj.block _ (by simp;omega)).trans HZ.o.1;have e0:=ai x1 0;have e1:=ai x1 1;have e2:=ai x1 2;have z0:=af x1 0;have z1:=af x1 1;have z2:=af x1 2;have H5:=cC qE (HZ.o.2.tr bj) x1 bj.size;clear bj qE x1));have x6:=pC (v0:=.bool pv) (v1:=.string pn) (v2:=.slice pa pl pc) H5.o.2.2.1;have k6:=eD (W:=w5) (b:=w.heap.size+1) (v0:=.bool pv) (v1:=.string pn) (v2:=.slice pa pl pc);obtain ⟨W6,da⟩:=am (((w5.setCell ⟨w.heap.size+1,0,none⟩ (.bool pv)).setCell ⟨w.heap.size+1,1,none⟩ (.string pn)).setCell ⟨w.heap.size+1,2,none⟩ (.slice pa pl pc));rw[<-da]at x6 k6 ⊢;clear da;have g0:W6.cell? ⟨w.heap.size+1,0,none⟩=some (.bool pv):=ai x6 0;have g1:W6.cell? ⟨w.heap.size+1,1,none⟩=some (.string pn):=ai x6 1;have g2:W6.cell? ⟨w.heap.size+1,2,none⟩=some (.slice pa pl pc):=ai x6 2;refine bJ (v:=TQ.val ⟨pv,pn,pa,pl,pc⟩) (by simp[TQ.val,results,Tryz.results154,go_sem,g0,g1,g2]) rfl ⟨⟨⟨pv,pn,pa,pl,pc⟩,rfl,H5.o.1.move (fun b hok hlt=>⟨by simp at hok;omega,k6.same b hlt (by simp at hok;omega)⟩)⟩,Below.kp1 H5.o.2.1 k6 (by omega)⟩
 |have pp50b:=();exact pm50):G:=h
theorem pm261(h:G:=by
 refine ⟨fun h=>(by rw[h]at hr;cases hr),fun j hj=>?_⟩
 by_cases Du:j=i
 ·subst Du;exact x_ ph hi hy hS ⟨fun _=>hS,H⟩
 first
 |clear pp261
  ·have:=ready_mono hj Du;rw[H.1]at this;cases this
 |·have h1:=H.2 j (ready_mono hj Du);obtain ⟨YT,oj,XV,ew⟩:=mem_ready.1 hj;have Hw:∀ e∈oj.after,Region.binds md e=true->e.on≠i:=fun e he hb heq=>by
    have h1:=ew e he hb;have h0:=(mem_ready.1 hr).1;rw[heq]at h1;rcases Nat.lt_or_ge i listed.size with h' | h'
    ·simp[h']at h0 h1;rw[h0]at h1;cases h1
    ·simp[Array.getElem?_eq_none h']at h1
   have h2:=Fi ph XV (SX j oj XV Du YT Hw) (fun cs b=>YS i oi cs b hi) (fun cs b=>YS j oj cs b XV) hQ hy h1;have UG:∀ k ok,ops[k]?=some ok->k≠i->(listed.setIfInBounds j true).getD k true=false →
     (∀ e∈ok.after,Region.binds md e=true->e.on≠i)->oi.apart ops ok=true:=fun k ok hk BP MQ f_=>by
    refine SX k ok hk BP ?_ f_
    by_cases qw:j=k
    ·subst qw;exact YT
    ·rw[getD_set_ne true qw]at MQ;exact MQ
   have hje:j<e:=by
    have le:j<ops.size:=(bz XV);have h7:=List.all_eq_true.1 YR j (List.mem_range.2 le);simp only[Bool.or_eq_true,bx]at h7;rcases h7 with h7 | h7
    ·exact h7
    ·have h5:=Lf hcl hj h7;have h6:=(mem_ready.1 hr).1;rcases Nat.lt_or_ge i listed.size with h' | h'
     ·simp[h']at h5 h6;rw[h5]at h6;cases h6
     ·simp[Array.getElem?_eq_none h']at h6
   refine wpOpIn_mono (fun a' w' h3=>⟨h3.2.1,ih (listed.setIfInBounds j true) a' w' (Hv hcl hj) UG (ready_mono hr (Ne.symm Du)) h3.1 (h3.2.1 hje) ?_⟩) h2;rw[Array.setIfInBounds_comm _ _ Du];exact h3.2.2):G:=h
theorem pm262(h:G:=by
 refine ⟨some ⟨b,0,none⟩,c,fun j=>if j=0 then p.val else q.val,rfl,.inr ⟨b,0,rfl,hok,fun j hj=>?_⟩,fun j hj=>?_⟩
 first
 |clear pp262
  ·rcases j with _ | _ | j
   ·exact ⟨_,_,_,rfl,ai hb 0,ai hb 1,ai hb 2⟩
   ·exact ⟨_,_,_,rfl,ai hb 3,ai hb 4,ai hb 5⟩
   ·simp at hj;omega
  ·rcases j with _ | _ | j
   ·exact hx
   ·exact hy
   ·simp at hj;omega
 |·rcases j with _ | _ | j
   ·exact ⟨_,_,_,_,rfl,ai hb 0,ai hb 1,ai hb 2,ai hb 3⟩
   ·exact ⟨_,_,_,_,rfl,ai hb 4,ai hb 5,ai hb 6,ai hb 7⟩
   ·simp at hj;omega
  ·rcases j with _ | _ | j
   ·exact hx
   ·exact hy
   ·simp at hj;omega):G:=h
theorem pm263(h:G:=by
 unfold Act.put;split
 ·rename_i d' UI;have:d'≠d:=fun e=>qw (hok.one j k oj o d hj ho Hg (by rw[UI,e]));simp[this]
 ·rfl):G:=h
theorem pm264(h:G:=by
 unfold dC dx cP;cases decide (n.length<=16) <;> cases (n.head? == some 63) <;> cases vW n.tail <;> cases AJ n.tail <;> rfl):G:=h
theorem pm265(h:G:=by
 rw[hS]at h;exact ⟨aa h (ai ji.box 1),zx V (h.block _ bp),aa h (ai y5 0),aa h (ai y5 1),aa h (ai y5 2),aa h (ai y5 3)⟩):G:=h
theorem pm266(h:G:=by
 exact .inr ⟨b,off,ha,hk.1,fun j hj=>(hc j hj).kept hk.2⟩):G:=h
theorem pm267(h:G:=by
 have C1:=ae (fun w=>h1 ▸ mJ n w hn);clear h1;go_enter Tryz.func119,Tryz.ntmps119
 first
 |clear pp267;go_wp2_with (go_at_call 185;refine (C1.o _).mono ?_;rintro e w' ⟨rfl,hb⟩);go_ret;exact ⟨by simp,hb⟩
 |go_wp2_with (first | (go_at_call 185;refine (C1.o _).mono ?_;rintro e w' ⟨rfl,hb⟩) | (go_at_call 186;refine (kt n _ hn).mono ?_;rintro e Dr ⟨rfl,bD⟩));go_ret;exact ⟨by simp,hb.trans (bD.mono hb.size)⟩):G:=h
theorem pm268(h:G:=by
 have CQ:=oK ⟨uo,⟨nm.toArray⟩,ua,k0,uc,ub,m0,ue⟩ wr;simp only[FQ.val,o_]at CQ;have Hk:=ae CQ;have HE:=bG hj Kg kC
 first
 |clear pp268;have gu:=ae x3;clear hj Kg kC ht b0 b1 CQ o_;go_wp2_with fail;refine Hk.o.mono ?_;rintro e w3 ⟨rfl,aL⟩;have H4:=ae (show J (pre ++ (A ++ [])) w3/\Kp M W0 w3/\BoundW w3 mb (n+0) bs'/\Kp (fun b=>M b\/b=mb) W1 w3 from ⟨by simpa using HJ.o _ _ _ (Nw.below aL) HE.o.2.1,HE.o.1.kp.trans (Kp.below aL),by rw[kL.o];exact HE.o.1.bd.same (aL.block mb HE.o.1.bd.lt),HE.o.2.2.trans (Kp.below aL)⟩);have y3:w3.cell? ⟨W.heap.size,3,none⟩=some (.slice ub m0 ue):=aa aL gu.o;clear x0 x1 x2 x3 x4 aL;go_wp2;clear y3;go_loopw [36] (fun i wr=>∃k:Nat,k<=m0/\i=.int .i64 k/\J (pre ++ (A ++ bP bs' (ss.take k))) wr/\Kp M W0 wr/\(∃n',n'<=n+0+2 * nodesFs (ss.take k)/\BoundW wr mb n' bs')/\Kp (fun b=>M b\/b=mb) W1 wr) (fun i _=>m0 - (intOf i).toNat)
  case atStart=>exact ⟨0,bc _,rfl,by simpa[bP] using H4.o.1,H4.o.2.1,⟨n+0,by omega,H4.o.2.2.1⟩,H4.o.2.2.2⟩
  case round=>
   have pp10:=();exact pm10
 |obtain ⟨gu,HX4,lJ⟩:=cG x3 x4 x1;clear hj Kg kC ht b0 b1 CQ o_;go_wp2_with fail;refine Hk.o.mono ?_;rintro e w3 ⟨rfl,aL⟩;have oc:=HE.o.1.bd.same (aL.block mb HE.o.1.bd.lt);obtain ⟨w4,cH,aP,uy,DZ,Hl⟩:=oc.store (bs':=nm :: bs) (x:=nm) (by have:=uE.o;omega) Ih.o (fun y hy=>by rw[List.count_cons_of_ne];exact fun h=>hy h.symm);have hr:=oc.look Ih.o w3 rfl;have hcl:bs.count nm<=4000000:=by have:=uE.o;have:=List.count_le_length (a:=nm) (l:=bs);omega
  rw[List.count_cons_self]at cH;obtain ⟨cn,ws⟩:=am (bs.count nm);rw[<-ws]at cH hr hcl;have cH:(Instr.mapUpdate 198 (.map (some mb)) (.string ⟨nm.toArray⟩) (.int .i64 ((cn:Int)+1))).run Tryz.prog w3=.ok () w4:=cH;have kZ:Kp (fun b=>M b\/b=mb) w3 w4:=⟨uy.os,uy.tape,uy.output,Nat.le_of_eq DZ.symm,fun b hb hm=>uy.block b hb (fun h=>hm (.inr (by cases h;rfl)))⟩;have H4:=ae (show J (pre ++ (A ++ [])) w4/\Kp M W0 w4/\BoundW w4 mb (n+1) bs'/\Kp (fun b=>M b\/b=mb) W1 w4 from ⟨by simpa using HJ.o _ _ _ (Hl _ Vk.o) (HJ.o _ _ _ (Nw.below aL) HE.o.2.1),N7 (HE.o.1.kp.trans (Kp.below aL)) (Hl _ Vk.o) (aI _),by rw[kL.o];exact aP,(HE.o.2.2.trans (Kp.below aL)).trans kZ⟩);have z1:w3.cell? ⟨W.heap.size,1,none⟩=some (.string ⟨nm.toArray⟩):=aa aL lJ.o;have z4:w3.cell? ⟨W.heap.size+1,0,none⟩=some (.map (some mb)):=aa aL HX4.o;have y3:w4.cell? ⟨W.heap.size,3,none⟩=some (.slice ub m0 ue):=kZ.cell oV.o.2.1 (aa aL gu.o);clear x0 x1 x2 x3 x4 aL oc aP uy DZ Hl kZ ws;go_wp2;clear y3 z1 z4 cH hr;go_loopw [36] (fun i wr=>∃k:Nat,k<=m0/\i=.int .i64 k/\J (pre ++ (A ++ bP bs' (ss.take k))) wr/\Kp M W0 wr/\(∃n',n'<=n+1+2 * nodesFs (ss.take k)/\BoundW wr mb n' bs')/\Kp (fun b=>M b\/b=mb) W1 wr) (fun i _=>m0 - (intOf i).toNat)
  case atStart=>exact ⟨0,bc _,rfl,by simpa[bP] using H4.o.1,H4.o.2.1,⟨n+1,by omega,H4.o.2.2.1⟩,H4.o.2.2.2⟩
  case round=>
   exact pm10):G:=h
theorem pm269(h:G:=by
 have CR:=ae (fun w:World=>hr ▸ eC s w);clear hr;have pp43c:=();exact pm43):G:=h
theorem pm270(h:G:=by
 have HU:=ae (hu.later ar);have AC:=ae (iF.later ar);have AZ:=ae (AE.o.later e8);obtain ⟨ID,IE,dt,sj⟩:=eW qF he ar e8
 first
 |clear pp270;have qG:=bG (aa dt.o mg) (aa dt.o nd) (aa dt.o ne);obtain ⟨DE,HT⟩:=a_ y2 ht;clear hu iF qF he ar e8 ht c0 c1 c2 mg nd ne;go_wp2;obtain ⟨W3,ec⟩:=am (wr.alloc (.cells #[.bool u.v,.string u.n,.slice u.a u.l u.c] 43));have pp108a:=();exact pm108
 |have qG:=cC (aa dt.o mg) (aa dt.o nd) (aa dt.o ne) (aa dt.o Gh);obtain ⟨DE,HT⟩:=a_ y2 ht;clear hu iF qF he ar e8 ht c0 c1 c2 mg nd ne c3 Gh;go_wp2
  first
  |clear pp73a;exact pm30
  |clear pp73b;have pp30a:=();exact pm30
  |have pp30b:=();exact pm30):G:=h
theorem pm271(h:G:=by
 have zU:=cI.symm;simp only[ah,bx]at zU;obtain ⟨hb1,bD,aL⟩:=zU;rw[dU]at hM;have HE:=ae hM;clear hM rS pi AF cI hb1 aL
 first
 |clear pp271;have pp63e:=();exact pm63
 |have pp63h:=();exact pm63):G:=h
theorem pm272(h:G:=by
 obtain ⟨fa,fl,fc,ta,tl,tc⟩:=q;obtain ⟨oh,oW⟩:=hq;simp only at oh oW
 first
 |clear pp272a;obtain rfl:=oh.len;obtain ⟨n1,dX⟩:=am b.fs.length;obtain ⟨R,hR⟩:=am (getB b.fs n);rw[<-dX]at hF oh;rw[<-dX,<-hR];obtain ⟨W2,bm⟩:=am ((w.alloc (.cells #[.slice fa n1 fc,.slice ta tl tc] 26)).alloc (.cells #[.int .u8 0,.string ⟨#[]⟩,.slice none 0 0,.slice none 0 0] 36));have bD:=lF bm;have ig:=wW bm;have x1:=jA bm;obtain ⟨VD,HP,HN⟩:=cG oh az dX;have H2:=bG bD ig x1;obtain ⟨gK,HR⟩:=a_ bm hR;clear oh oW az dX bD ig x1 bm hR;unfold BQ.val;go_enter Tryz.func16,Tryz.ntmps16;go_wp2_with fail;rw[<-gK.o];go_loopw [11] (fun i wr=>∃k:Nat,k<=n1/\i=.int .i64 k/\Below W2.heap.size W2 wr/\R=getB (b.fs.drop k) n) (fun i _=>n1 - (intOf i).toNat)
  case atStart=>exact ⟨0,bc _,rfl,ak _ _,by simpa using HR.o⟩
  case round=>
   obtain ⟨k,hk,rfl,ar,gw⟩:=hrel;have hx:=bR ar H2.o.2.2
   by_cases hlt:k<n1
   ·have bp:k<b.fs.length:=by rw[<-HN.o];exact hlt
    have pp215a:=();exact pm215
   ·obtain rfl:k=n1:=by omega
    have HE:=ae (show R=none by rw[gw,iS (by rw[<-HN.o];exact aI _)];rfl);obtain ⟨e0,e1,e2,e3,y0,y1,y2,y3⟩:=dp hx;have HB:=aG hx (H2.o.1.tr ar);clear ar gw hx;go_wp2;obtain ⟨W8,lr,x8,k8,g0,g1,g2,g3⟩:=Be HB.o.1 (.int .u8 0) (.string ⟨#[]⟩) (.slice none 0 0) (.slice none 0 0);rw[<-lr];refine bJ (v:=.tuple #[FQ.val ⟨0,⟨#[]⟩,none,0,0,none,0,0⟩,.bool false]) (by simp[FQ.val,results,Tryz.results16,go_sem,g0,g1,g2,g3]) rfl ⟨⟨⟨0,⟨#[]⟩,none,0,0,none,0,0⟩,by rw[HE.o];rfl,?_⟩,Below.kp1 HB.o.2 k8 (by omega)⟩;rw[HE.o];exact lE
 |clear pp272b;obtain rfl:=oW.len;obtain ⟨n1,dX⟩:=am b.ts.length;obtain ⟨R,hR⟩:=am (getB b.ts n);rw[<-dX]at hF oW;rw[<-dX,<-hR];obtain ⟨W2,bm⟩:=am ((w.alloc (.cells #[.slice fa fl fc,.slice ta n1 tc] 26)).alloc (.cells #[.bool false,.string ⟨#[]⟩,.slice none 0 0] 43));have bD:=lF bm;have ig:=wW bm;have x1:=jA bm;obtain ⟨VD,HP,HN⟩:=cG oW az dX;have H2:=bG bD ig x1;obtain ⟨gK,HR⟩:=a_ bm hR;clear oh oW az dX bD ig x1 bm hR;unfold BQ.val;go_enter Tryz.func18,Tryz.ntmps18;go_wp2_with fail;rw[<-gK.o];go_loopw [11] (fun i wr=>∃k:Nat,k<=n1/\i=.int .i64 k/\Below W2.heap.size W2 wr/\R=getB (b.ts.drop k) n) (fun i _=>n1 - (intOf i).toNat)
  case atStart=>exact ⟨0,bc _,rfl,ak _ _,by simpa using HR.o⟩
  case round=>
   obtain ⟨k,hk,rfl,ar,gw⟩:=hrel;have hx:=bR ar H2.o.2.2
   by_cases hlt:k<n1
   ·have bp:k<b.ts.length:=by rw[<-HN.o];exact hlt
    obtain ⟨bb,off,⟨qo,qn,qa,ql,qc⟩,rfl,hok,hf,c0,c1,c2,c3⟩:=VD.o.get bp;have mO:=H2.o.1.tr ar;obtain ⟨d0,d1,d2,d3⟩:=mG mO c0 c1 c2 c3;obtain ⟨nm,dG⟩:=am (b.ts[k].1);obtain ⟨g,hg⟩:=am (b.ts[k].2);rw[CG bp,<-dG,<-hg]at gw;rw[<-dG]at d0;have RE:=HP.o _ (aA bp);rw[<-hg]at hf RE;simp only at d1 d2 d3;obtain ⟨W5,eP⟩:=am (wr.alloc (.cells #[.string ⟨nm.toArray⟩,.bool qo,.string qn,.slice qa ql qc] 47));have bj:=cZ eP;have BP:(k:Int)<(n1:Int):=by omega
    have rD:=ae eP
    by_cases lM:nm=n
    ·subst lM;have Kx:(nm == nm)=true:=by simp
     rw[Kx]at gw;have CC:=nL g RE ok W5 ⟨qo,qn,qa,ql,qc⟩ ((hf.later mO).later bj);simp only[TQ.val]at CC;have HC:=ae CC;have HE:=ae (show R=some g from gw);have H5:=aG (mO.tr bj) (bR bj hx);clear CC mO ar gw hf RE bj hx eP hg dG c0 c1 c2 c3 hok;go_wp2_with (rw[<-rD.o];go_at_call 53;refine HC.o.mono ?_;rintro e w6 ⟨⟨p0,p1,p2,p3,p4⟩,rfl,hp,cR⟩;have VS:=bR cR H5.o.2;obtain ⟨e0,e1,e2,y0,y1,y2⟩:=gt VS;have H6:=bG VS hp cR;clear VS hp cR);obtain ⟨W8,lr,x8,k8,g0,g1,g2⟩:=tj H6.o.1 (.bool p0) (.string p1) (.slice p2 p3 p4);rw[<-lr];refine bJ (v:=.tuple #[TQ.val ⟨p0,p1,p2,p3,p4⟩,.bool true]) (by simp[TQ.val,results,Tryz.results18,go_sem,g0,g1,g2]) rfl ⟨⟨⟨p0,p1,p2,p3,p4⟩,by rw[HE.o];rfl,?_⟩,Below.kp1 (H5.o.1.tr H6.o.2.2) k8 (by omega)⟩;exact pm288
    ·have Kx:(nm == n)=false:=by simp[lM]
     rw[Kx]at gw;have HG:=aG (ar.tr bj) (show R=getB (b.ts.drop (k+1)) n from gw);clear mO ar gw hf RE bj hx eP hg dG c0 c1 c2 c3 hok;exact pm274
   ·obtain rfl:k=n1:=by omega
    have HE:=ae (show R=none by rw[gw,iS (by rw[<-HN.o];exact aI _)];rfl);obtain ⟨e0,e1,e2,y0,y1,y2⟩:=gt hx;have HB:=aG hx (H2.o.1.tr ar);clear ar gw hx;go_wp2;obtain ⟨W8,lr,x8,k8,g0,g1,g2⟩:=tj HB.o.1 (.bool false) (.string ⟨#[]⟩) (.slice none 0 0);rw[<-lr];refine bJ (v:=.tuple #[TQ.val ⟨false,⟨#[]⟩,none,0,0⟩,.bool false]) (by simp[TQ.val,results,Tryz.results18,go_sem,g0,g1,g2]) rfl ⟨⟨⟨false,⟨#[]⟩,none,0,0⟩,by rw[HE.o];rfl,?_⟩,Below.kp1 HB.o.2 k8 (by omega)⟩;rw[HE.o];exact CO
 |obtain rfl:=oh.len;obtain rfl:=oW.len;obtain ⟨n1,dX⟩:=am b.fs.length;obtain ⟨n2,ku⟩:=am b.ts.length
  first
  |clear pp162;obtain ⟨M,hM⟩:∃M:Nat->Prop,M=fun b=>b=w.heap.size+1\/b=w.heap.size+1+1:=⟨_,rfl⟩;rw[<-dX]at hF;rw[<-ku]at hT;obtain ⟨W4,vY⟩:=am ((((w.alloc (.cells #[.slice fa n1 fc,.slice ta n2 tc] 26)).alloc (.map #[] 0)).alloc (.map #[] 0)).alloc (.cells #[.map (some (w.heap.size+1)),.map (some (w.heap.size+1+1))] 148));have aP:=QT vY;have oT:=UF vY;have x0:=Nf vY;have kn4:KnV (fun b=>b<w.heap.size) PF PT W4 (w.heap.size+1+1+1) (w.heap.size+1) (w.heap.size+1+1) 0 0 ⟨[],[]⟩:=by
    refine ⟨by rw[vY];exact aj (by simp),?_,?_,by omega,by omega,by omega⟩
    ·have h:=MapV.made (P:=Tryz.prog) (k:=9) (V:=FormK (fun b=>b<w.heap.size) PF W4) (w.alloc (.cells #[.slice fa n1 fc,.slice ta n2 tc] 26));have hz:(w.alloc (.cells #[.slice fa n1 fc,.slice ta n2 tc] 26)).heap.size=w.heap.size+1:=by simp
     rw[hz]at h;exact h.move (by rw[vY];exact (bI _ _ _ (by simp <;> omega)).trans (bI _ _ _ (by simp))) (fun _ _ _ _ h=>h)
    ·have h:=MapV.made (P:=Tryz.prog) (k:=9) (V:=TermK (fun b=>b<w.heap.size) PT W4) ((w.alloc (.cells #[.slice fa n1 fc,.slice ta n2 tc] 26)).alloc (.map #[] 0));have hz:((w.alloc (.cells #[.slice fa n1 fc,.slice ta n2 tc] 26)).alloc (.map #[] 0)).heap.size=w.heap.size+1+1:=by simp
     rw[hz]at h;exact h.move (by rw[vY];exact (bI _ _ _ (by simp))) (fun _ _ _ _ h=>h)
   rw[<-dX]at oh;rw[<-ku]at oW;rw[<-dX,<-ku];obtain ⟨VD,HTv⟩:=a_ oh oW;have HP:=qS qY pE hdF hdT ZX TA;have HN:=aG dX ku;have H4:=cC aP oT x0 kn4;obtain ⟨HM,HW4⟩:=a_ hM vY;clear oh oW qY pE hdF hdT ZX TA dX ku aP oT x0 kn4 vY hM;unfold BQ.val;go_enter Tryz.func46,Tryz.ntmps46;go_wp2_with fail;rw[<-HW4.o];go_loopw [15] (fun i wr=>∃k:Nat,k<=n1/\i=.int .i64 k/\Kp M W4 wr/\KnV (fun b=>b<w.heap.size) PF PT wr (w.heap.size+1+1+1) (w.heap.size+1) (w.heap.size+1+1) k 0 ⟨b.fs.take k,[]⟩) (fun i _=>n1 - (intOf i).toNat)
   case atStart=>exact ⟨0,bc _,rfl,Kp.refl _,by simpa using H4.o.2.2.2⟩
   case round=>
    obtain ⟨k,hk,rfl,bh,dS⟩:=hrel
    by_cases hlt:k<n1
    ·have bp:k<b.fs.length:=by rw[<-HN.o.1];exact hlt
     have pp215b:=();exact pm215
    ·obtain rfl:k=n1:=by omega
     have ct:b.fs.take k=b.fs:=by rw[HN.o.1];exact cV
     rw[ct]at dS;obtain ⟨wo,IJ⟩:=am wr;subst IJ;have x0:=(bh.same _ (by have:=H4.o.2.1;omega) (by rw[HM.o];omega)).trans H4.o.2.2.1;obtain ⟨y0,y1⟩:=QV x0;have HO:=aG bh dS;clear bh dS ct x0;go_wp2_with fail;clear y0 y1;go_loopw [31] (fun i wr=>∃j:Nat,j<=n2/\i=.int .i64 j/\Kp M W4 wr/\KnV (fun b=>b<w.heap.size) PF PT wr (w.heap.size+1+1+1) (w.heap.size+1) (w.heap.size+1+1) k j ⟨b.fs,b.ts.take j⟩) (fun i _=>n2 - (intOf i).toNat)
     case atStart=>exact ⟨0,bc _,rfl,HO.o.1,by simpa using HO.o.2⟩
     case round=>
      obtain ⟨j,hj,rfl,bh,dS⟩:=hrel
      by_cases eA:j<n2
      ·have bp:j<b.ts.length:=by rw[<-HN.o.2];exact eA
       obtain ⟨bb,off,⟨qv,qn,qa,ql,qc⟩,rfl,hok,hf,c0,c1,c2,c3⟩:=HTv.o.get bp;exact pm126
      ·obtain rfl:j=n2:=by omega
       have ct:b.ts.take j=b.ts:=by rw[HN.o.2];exact cV
       rw[ct]at dS;have HE:=aG bh dS;clear bh dS ct;go_wp2;go_ret;refine ⟨rfl,HE.o.2,?_⟩;exact ⟨HE.o.1.os.trans H4.o.1.os,HE.o.1.tape.trans H4.o.1.tape,HE.o.1.output.trans H4.o.1.output,aN H4.o.1.size HE.o.1.size,fun b hb=>(HE.o.1.same b (bE hb H4.o.1.size) (by rw[HM.o];omega)).trans (H4.o.1.block b hb)⟩
  |obtain ⟨R,hR⟩:=am (bL b);rw[<-dX]at hF oh;rw[<-ku]at hT oW;rw[<-dX,<-ku,<-hR];obtain ⟨W1,bX⟩:=am (w.alloc (.cells #[.slice fa n1 fc,.slice ta n2 tc] 26));have hb1:=cZ bX;have i_:=Fg bX;have x1:=cb bX;obtain ⟨VD,HTv⟩:=a_ oh oW;have HP:=aG qY pE;have HN:=aG dX ku;have H1:=bG hb1 i_ x1;obtain ⟨QN,iR,HR⟩:=cG ht bX hR;clear oh oW qY pE dX ku hb1 i_ x1 bX ht hR;unfold BQ.val;go_enter Tryz.func27,Tryz.ntmps27;go_wp2_with fail;rw[<-iR.o];go_loopw [3,12] (fun v i wr=>∃k:Nat,k<=n1/\i=.int .i64 k/\Below W1.heap.size W1 wr/\OwnS W1.heap.size wr v ((b.fs.take k).map (·.1))/\(b.fs.take k).all (fun x=>dx x.1 && dv (bB x.2))=true) (fun _ i _=>n1 - (intOf i).toNat)
   case atStart=>exact ⟨0,bc _,rfl,ak _ _,OwnS.nil _ _,by simp⟩
   case round=>
    obtain ⟨k,hk,rfl,ar,au,ew⟩:=hrel
    by_cases hlt:k<n1
    ·have bp:k<b.fs.length:=by rw[<-HN.o.1];exact hlt
     exact pm215
    ·obtain rfl:k=n1:=by omega
     have ct:b.fs.take k=b.fs:=by rw[HN.o.1];exact cV
     rw[ct]at au ew;obtain ⟨wo,IJ⟩:=am wr;subst IJ;have y1:=aa ar (ai H1.o.2.2 1);have Yx:=cC ar au ew (H1.o.1.tr ar);clear ar au ew ct;go_wp2_with fail;clear y1;go_loopw [4,36] (fun v i wr=>∃j:Nat,j<=n2/\i=.int .i64 j/\Below wo.heap.size wo wr/\OwnS wo.heap.size wr v ((b.ts.take j).map (·.1))/\(b.ts.take j).all (fun x=>cP x.1 && jZ false (aM x.2))=true) (fun _ i _=>n2 - (intOf i).toNat)
     case atStart=>exact ⟨0,bc _,rfl,ak _ _,OwnS.nil _ _,by simp⟩
     case round=>
      obtain ⟨j,hj,rfl,ar,au,ew⟩:=hrel
      by_cases eA:j<n2
      ·have le:j<b.ts.length:=by rw[<-HN.o.2];exact eA
       obtain ⟨bb,off,⟨qv,qn,qa,ql,qc⟩,rfl,hok,hf,c0,c1,c2,c3⟩:=HTv.o.get le;have mO:=Yx.o.2.2.2.tr ar;obtain ⟨d0,d1,d2,d3⟩:=mG mO c0 c1 c2 c3;obtain ⟨nm,dG⟩:=am (b.ts[j].1);obtain ⟨g,hg⟩:=am (b.ts[j].2);have ly:=HP.o.2 _ (aA le);rw[<-dG]at d0;rw[<-dG,<-hg]at ly;rw[<-hg]at hf;simp only at d1 d2 d3;obtain ⟨W5,eP⟩:=am (wr.alloc (.cells #[.string ⟨nm.toArray⟩,.bool qv,.string qn,.slice qa ql qc] 47));have bj:=cZ eP;have x5:=cb eP;have BP:(j:Int)<(n2:Int):=by omega
       have gW:(nm,g)∈b.ts:=by rw[dG,hg];exact aA le
       have CM:=DC nm W5 (by omega);have H5:=cC (mO.tr bj) x5 (hf.later (mO.tr bj)) ly;have HO:=fh ar au ew dG hg;have rD:=ae eP
       cases Bm:cP nm with
       | false=>
        rw[Bm]at CM;have HC:=ae CM;have HE:=ae (show R=false by
         rw[HR.o];unfold bL;rw[Yx.o.2.2.1];rw[show (b.ts.all fun x=>cP x.1 && jZ false (aM x.2))=false from List.all_eq_false.2 ⟨_,gW,by simp[Bm]⟩];simp)
        clear CM mO ar au ew dG hg ly hf bj x5 eP gW Bm c0 c1 c2 c3 hok;go_wp2_with (rw[<-rD.o];go_at_call 67;refine HC.o.mono ?_;rintro e w6 ⟨rfl,cR⟩;have H6:=ae cR;clear cR);go_ret;exact ⟨by rw[HE.o];rfl,H5.o.1.tr H6.o⟩
       | true=>
        rw[Bm]at CM;have HC:=ae CM;have IK:=ae (fun (W:World) (hb:Below W5.heap.size W5 W)=>rp g ly.2.1 ok W ⟨qv,qn,qa,ql,qc⟩ ((hf.later (mO.tr bj)).later hb));have Jr:=ae (fun (W:World) (p:TQ) (ok':Nat->Prop) (hb:Below W5.heap.size W5 W) (hp:TermV ok' W p.val (aM g))=>Ny (aM g) ly.2.2 ok' W p hp);simp only[TQ.val]at IK Jr
        cases Mi:jZ false (aM g) with
        | false=>
         rw[Mi]at Jr;have HE:=ae (show R=false by
          rw[HR.o];unfold bL;rw[Yx.o.2.2.1];rw[show (b.ts.all fun x=>cP x.1 && jZ false (aM x.2))=false from List.all_eq_false.2 ⟨_,gW,by simp[Mi]⟩];simp)
         clear CM mO ar au ew dG hg ly hf bj x5 eP gW Bm Mi c0 c1 c2 c3 hok;go_wp2_with (first | (rw[<-rD.o];go_at_call 67;refine HC.o.mono ?_;rintro e w6 ⟨rfl,cR⟩;have x6:=bR cR H5.o.2.1;have s0:=ai x6 0;have s1:=ai x6 1;have s2:=ai x6 2;have s3:=ai x6 3;have H6:=aG cR x6;clear cR x6) | (go_at_call 69;refine (IK.o w6 H6.o.1).mono ?_;rintro e w7 ⟨⟨p0,p1,p2,p3,p4⟩,rfl,Je,fw⟩;have H7:=aG Je fw;clear Je fw) | (go_at_call 68;refine (Jr.o w7 ⟨p0,p1,p2,p3,p4⟩ _ (H6.o.1.tr H7.o.2) H7.o.1).mono ?_;rintro e w8 ⟨rfl,gJ⟩;have H8:=ae (H6.o.1.tr (H7.o.2.tr gJ));clear gJ));go_ret;exact ⟨by rw[HE.o];rfl,H5.o.1.tr H8.o⟩
        | true=>
         rw[Mi]at Jr;have wn:=ae bj;have VY:=ae (show ((b.ts.take j).map (·.1)).length+1<=4000000 by simp;omega);have Ky:=ae (show (b.ts.take (j+1)).map (·.1)=(b.ts.take j).map (·.1) ++ [nm]/\(b.ts.take (j+1)).all (fun x=>cP x.1 && jZ false (aM x.2))=true by
          rw[List.take_add_one,gx le];refine ⟨by rw[List.map_append,dG];rfl,?_⟩;rw[List.all_append,ew];simp only[Option.toList,List.all_cons,List.all_nil,Bool.and_true,dU];rw[<-dG,<-hg,Bm,Mi];simp)
         clear CM mO ar au ew dG hg ly hf bj x5 eP gW Bm Mi c0 c1 c2 c3 hok;go_wp2_with (first | (rw[<-rD.o];go_at_call 67;refine HC.o.mono ?_;rintro e w6 ⟨rfl,cR⟩;have x6:=bR cR H5.o.2.1;have s0:=ai x6 0;have s1:=ai x6 1;have s2:=ai x6 2;have s3:=ai x6 3;have H6:=aG cR x6;clear cR x6) | (go_at_call 69;refine (IK.o w6 H6.o.1).mono ?_;rintro e w7 ⟨⟨p0,p1,p2,p3,p4⟩,rfl,Je,fw⟩;have H7:=aG Je fw;clear Je fw) | (go_at_call 68;refine (Jr.o w7 ⟨p0,p1,p2,p3,p4⟩ _ (H6.o.1.tr H7.o.2) H7.o.1).mono ?_;rintro e w8 ⟨rfl,gJ⟩;have r0:=aa (H7.o.2.tr gJ) s0;have H8:=ae (H6.o.1.tr (H7.o.2.tr gJ));clear gJ) | (at_builtin;refine dR rfl _ _ rfl wo.heap.size (by have:=HO.o.1.size;have:=wn.o.size;have:=H8.o.size;simp;omega) u4 ((b.ts.take j).map (·.1)) rfl (HO.o.2.1.later ((wn.o.tr H8.o).tr cJ)) (.slice (some ⟨w8.heap.size,0,none⟩) 1 1) [nm] rfl (fun _=>True) (zh (aj rfl)) VY.o ?_;intro v9 w9 Og Hn;have HG:=aG Og (nv ((Kp.below (M:=fun _=>False) ((HO.o.1.tr wn.o).tr H8.o)).trans (Kp.below cJ)) Hn (fun g hg=>(World.ownsRow.lt HO.o.2.1 g hg).1)).empty;clear Og Hn));go_roundw
         case rel=>exact ⟨j+1,by omega,by go_num,HG.o.2,by rw[Ky.o.1];exact HG.o.1,Ky.o.2⟩
         case measure=>simp[intOf];omega
      ·obtain rfl:j=n2:=by omega
       have ct:b.ts.take j=b.ts:=by rw[HN.o.2];exact cV
       rw[ct]at au ew;have hE:R=(dz (b.fs.map (·.1)) && dz (b.ts.map (·.1))):=by rw[HR.o];unfold bL;rw[Yx.o.2.2.1,ew];simp
       have HE:=ae hE;have C1:=tf (b.fs.map (·.1)) (by simp;have:=HN.o.1;omega) wr u3 (GQ (Yx.o.2.1.later ar).strs);have HS2:=ae (fun (W:World) (hb:Below wr.heap.size wr W)=>tf (b.ts.map (·.1)) (by simp;have:=HN.o.2;omega) W u4 (GQ (au.later hb).strs));obtain ⟨B1,il⟩:=am (dz (b.fs.map (·.1)));obtain ⟨B2,fF⟩:=am (dz (b.ts.map (·.1)));rw[<-il,<-fF]at HE;rw[<-il]at C1;rw[<-fF]at HS2;have HS1:=ae C1;have dt:=ae (Yx.o.2.2.2.tr ar);clear hE C1 il fF au ew ar ct
       cases B1 with
       | false=>
        go_wp2_with (go_at_call 70;refine HS1.o.mono ?_;rintro e w6 ⟨rfl,cR⟩;have H6:=ae cR;clear cR);go_ret;exact ⟨by rw[HE.o];rfl,dt.o.tr H6.o⟩
       | true=>
        go_wp2_with fail;refine HS1.o.mono ?_;rintro e w6 ⟨rfl,cR⟩;have H6:=ae cR;clear cR;go_wp2_with fail;refine (HS2.o w6 H6.o).mono ?_;rintro e w7 ⟨rfl,fw⟩;have H7:=ae (H6.o.tr fw);clear fw;go_wp2;go_ret;exact ⟨by rw[HE.o];rfl,dt.o.tr H7.o⟩):G:=h
theorem pm273(h:G:=by
 rw[jL bp mN]at ht;obtain ⟨e,he⟩:=am (j9 ps.reverse xa[k] ya[k]);rw[<-he]at ht;obtain ⟨d0,d1,d2⟩:=ke ar c0 c1 c2
 first
 |clear pp273;have y2:wr.cell? ⟨w.heap.size+1,2,none⟩=some (.slice (some ⟨b',mL,none⟩) k0 vc):=aa e8 (ai xP.o 2);have E7:(k:Int)<(k0:Int):=by omega
  have pp270:=();exact pm270
 |have y2:wr.cell? ⟨w.heap.size+1,2,none⟩=some (.slice (some ⟨b',mL,none⟩) k0 vc):=aa e8 (ai HY.o 2);have E7:(k:Int)<(k0:Int):=by omega
  have HU:=ae (hu.later ar);have AC:=ae (iF.later ar);have AZ:=ae (HP.o.later ar);obtain ⟨U',ID,IE,dt,sj⟩:=wV pG qF he ar e8;have qG:=bG (aa ar mg) (aa ar nd) (aa ar ne);obtain ⟨DE,HT⟩:=a_ y2 ht;clear hu iF pG qF he ar e8 ht c0 c1 c2 mg nd ne;go_wp2;obtain ⟨W3,ec⟩:=am (wr.alloc (.cells #[.bool u.v,.string u.n,.slice u.a u.l u.c] 43));have pp108b:=();exact pm108):G:=h
theorem pm274(h:G:=by
 go_wp2;rw[<-rD.o];go_roundw
 case rel=>exact ⟨k+1,by omega,by go_num,HG.o.1,HG.o.2⟩
 case measure=>simp[intOf];omega):G:=h
theorem pm275(h:G:=by
 have d0:=bh.cell iK.2 c0;have d1:=bh.cell iK.2 c1;have d2:=bh.cell iK.2 c2
 first
 |clear pp275a;have pp253:=();exact pm253
 |clear pp275b;have d3:=bh.cell iK.2 c3;have iL:=sW bp;exact pm237
 |have d3:=bh.cell iK.2 c3;have iL:=nr (b:=bs') bp;have D1:=en bp;have lK:=cD ss (k+1);have pp237:=();exact pm237):G:=h
theorem pm276(h:G:=by
 obtain ⟨x,y,fL,Hs,Em,aU⟩:=js HQ.o.2.2.1;rw[aU]at hE;obtain ⟨cW,wC⟩:=am (dc x);rw[<-wC]at aU hE;have Gt:=fA Em
 first
 |clear pp276;have B_:=e_ (.mk 16 n a ss) (by simp[Fm.a,fL]) (by simp[Fm.a,fL]) (fun t ht=>by
   have h2:=eY.1 HQ.o.2.2.2.2.2.2.1 t (by simpa[Fm.a] using ht);obtain ⟨tv,tn,ta⟩:=t;simp only[jw,ah,bx]at h2;have:=h2.1;simp only;omega) _ W2 ⟨16,⟨n.toArray⟩,sa,n1,sc,sb,m1,se⟩ HQ.o.1
  simp only[FQ.val,aU]at B_;have B_:=ae B_;exact pm218
 |have M5:cW.length<=17:=by rw[wC];have:=iy Hs;simp[dc];omega
  have Fd:=fun (V:World) (h:Below W2.heap.size W2 V)=>e_ (.mk 16 n a ss) (by simp[Fm.a,fL]) (by simp[Fm.a,fL]) (fun t ht=>by
   have h2:=eY.1 HQ.o.2.2.2.2.2.2.1 t (by simpa[Fm.a] using ht);obtain ⟨tv,tn,ta⟩:=t;simp only[jw,ah,bx]at h2;have:=h2.1;simp only;omega) _ V ⟨16,⟨n.toArray⟩,sa,n1,sc,sb,m1,se⟩ (HQ.o.1.later h)
  simp only[FQ.val,aU]at Fd
  first
  |clear pp68;have HIN:=ae Fd;have HY:=aG Gt M5;have pp61:=();exact pm61
  |have k0:W2.cell? ⟨kb,0,none⟩=some (.map (some mF)):=ai H2.o.2.2.box 0;have k1:W2.drew.cell? ⟨kb,0,none⟩=some (.map (some mF)):=k0;have k3:W2.drew.cell? ⟨w.heap.size+1,1,none⟩=some (.string ⟨n.toArray⟩):=e1;have aL:Below W2.heap.size W2 (W2.alloc (.cells #[.int .u8 0,.string ⟨#[]⟩,.slice none 0 0,.slice none 0 0] 36)):=cJ;obtain ⟨k4,k5⟩:=AN aL k0 e1;have l1:=uD W2.drew rfl;have l2:=uD (W2.alloc (.cells #[.int .u8 0,.string ⟨#[]⟩,.slice none 0 0,.slice none 0 0] 36)).drew (bI _ _ _ (by omega));obtain ⟨W3,ec⟩:=am (W2.alloc (.cells #[.int .u8 g0,.string g1,.slice g2 g3 g4,.slice g5 g6 g7] 36)).drew;have oY:Below W2.heap.size W2 W3:=by rw[ec];exact cJ.drew
   have x3:=bR oY H2.o.2.1;have y3:W3.heap[W2.heap.size]?=some (.cells #[.int .u8 g0,.string g1,.slice g2 g3 g4,.slice g5 g6 g7] 36 (0,0)):=by rw[ec];exact aj rfl
   obtain ⟨i0,i1,i2,i3,_,_,_,_⟩:=dp x3;obtain ⟨n0,sd⟩:=am (gY cW f);have Hl:n0<=400:=by have:=ov cW f;have:=tO.o.2.2;omega
   have B_:=ae (Fd W3 oY);have L3:=ae (fun (V:World) (h:Below W3.heap.size W3 V)=>jb cW f tO.o.2.1 _ V ⟨g0,g1,g2,g3,g4,g5,g6,g7⟩ ((tO.o.1.later oY).later h));have Fc:=ae (fun (V:World) (h:Below W3.heap.size W3 V)=>km f tO.o.2.1 _ V ⟨g0,g1,g2,g3,g4,g5,g6,g7⟩ ((tO.o.1.later oY).later h));obtain ⟨nf,tk⟩:=am (nodesF f);have ZB:nf<=400:=by have:=tO.o.2.2;omega
   simp only[FQ.val,<-sd,<-tk]at L3 Fc;rw[<-sd,<-tk]at hE;have H3:=bG oY y3 (H2.o.2.2.later oY);have HE3:=ae hE;have HY:=bG Gt Hl ZB;clear hE x3 y3 Fd aU wC fL Hs Em M5 sd tk oY aL uD uF Gt Hl ZB En D2 Ja;go_enter Tryz.func126,Tryz.ntmps126;go_upto_region 2 with fail;rw[<-gK.o];go_upto_region 6 with fail;go_region
   all_goals
    rw[<-ec];clear ec l1 l2 k0 k1 k3 k4 k5 e0 e1 e2 e3;go_upto_region 8 with (go_at_call 96;refine B_.o.mono ?_;rintro e w4 ⟨rfl,aP⟩;have H4:=ae aP;clear aP);clear i0 i1 i2 i3;have y4:=bR H4.o H3.o.2.1;obtain ⟨j0,j1,j2,j3,_,_,_,_⟩:=dp y4;have Yr:=ae (L3.o w4 H4.o);clear y4;go_upto_region 9 with (go_at_call 97;refine Yr.o.mono ?_;rintro e w5 ⟨rfl,bj⟩;have H5:=ae (H4.o.tr bj);clear bj);clear j0 j1 j2 j3;have y5:=bR H5.o H3.o.2.1
    by_cases h0:n0=0
    ·subst h0;obtain ⟨j0,j1,j2,j3,_,_,_,_⟩:=dp y5;have HC6:=ae (Fc.o w5 H5.o);have qK:=ae (show R=nf by rw[HE3.o];simp);clear y5;go_wp2_with (go_at_call 99;refine HC6.o.mono ?_;rintro e w6 ⟨rfl,cR⟩;have H6:=ae cR;clear cR);go_ret;exact ⟨by rw[qK.o];rfl,(H2.o.1.tr H3.o.1).tr (H5.o.tr H6.o)⟩
    ·have nM:((n0:Int) == 0)=false:=by simp;omega
     have i_:¬((n0:Int)=0):=by omega
     exact pm130):G:=h
theorem pm277(h:G:=by
 go_enter Tryz.func92,Tryz.ntmps92
 first
 |clear pp277a
  by_cases dG:xn=yn
  ·subst dG;have iP:(xn == xn)=true:=by simp
   have kK:(!(xn == xn))=false:=by simp
   have kL:=cO;have uI:=HX;have xP:=HY;have AE:=ae (HP.o.later cO.o);cases qb
   ·have HM:Hd (R=(di ps.reverse xa ya && dI ps.reverse xs ys)):=ae (by rw[hm];simp);clear hm;go_wp2;rw[<-gK.o];go_loopw [47] (fun i wr=>∃k:Nat,k<=k0/\i=.int .i64 k/\Below W2.heap.size W2 wr/\R=(di ps.reverse (xa.drop k) (ya.drop k) && dI ps.reverse xs ys)) (fun i _=>k0 - (intOf i).toNat)
    case atStart=>exact ⟨0,bc _,rfl,ak _ _,by simpa using HM.o⟩
    case round=>
     have pp2a:=();exact pm2
   ·have HM:Hd (R=(di ps.reverse xa ya && dI (ps ++ [(xn,xn)]).reverse xs ys)):=ae (by rw[hm];simp);clear hm;go_wp2;rw[<-gK.o];go_loopw [47] (fun i wr=>∃k:Nat,k<=k0/\i=.int .i64 k/\Below W2.heap.size W2 wr/\R=(di ps.reverse (xa.drop k) (ya.drop k) && dI (ps ++ [(xn,xn)]).reverse xs ys)) (fun i _=>k0 - (intOf i).toNat)
    case atStart=>exact ⟨0,bc _,rfl,ak _ _,by simpa using HM.o⟩
    case round=>
     have pp2b:=();exact pm2
  ·have iP:(xn == yn)=false:=by simpa using dG
   have kK:(!(xn == yn))=true:=by simpa using dG
   rw[iP,Bool.false_or]at VJ;subst VJ;have HM:Hd (R=(di ps.reverse xa ya && dI (ps ++ [(xn,yn)]).reverse xs ys)):=ae (by rw[hm];simp);clear hm;go_wp2_with (go_at_call 93;refine (TH.o _).mono ?_;rintro e X0 ⟨rfl,nq⟩;have OC:Below W2.heap.size W2 X0:=(by rw[gK.o];exact nq);have uI:=ae (bR OC HX.o);have xP:=ae (bR OC HY.o);have AE:=ae ((HP.o.later cO.o).later OC);have kL:=ae (cO.o.trans (OC.mono cO.o.size));have z2:X0.cell? ⟨w.heap.size,2,none⟩=some (.slice ua k0 uc):=ai uI.o 2;clear nq OC);clear z2;go_loopw [47] (fun i wr=>∃k:Nat,k<=k0/\i=.int .i64 k/\Below X0.heap.size X0 wr/\R=(di ps.reverse (xa.drop k) (ya.drop k) && dI (ps ++ [(xn,yn)]).reverse xs ys)) (fun i _=>k0 - (intOf i).toNat)
   case atStart=>exact ⟨0,bc _,rfl,ak _ _,by simpa using HM.o⟩
   case round=>
    exact pm2
 |clear pp277b;go_wp2_with (go_at_call 93;refine (TH.o _).mono ?_;rintro e X0 ⟨rfl,nq⟩;have F3:Hd (Below W2.heap.size W2 X0):=ae (by rw[gK.o];exact nq);clear nq);go_ret;exact ⟨aO HE.o.symm,cO.o.trans (F3.o.mono cO.o.size)⟩
 |by_cases h1:uo=vo
  ·subst h1;have e0:(uo == uo)=true:=by simp
   have e1:(uo != uo)=false:=by simp
   by_cases h2:k0=m0
   ·subst h2;have h3:¬k1=m1:=fun h=>LD ⟨rfl,rfl,h⟩;have e2:((k0:Int) != (k0:Int))=false:=by simp
    have e3:((k1:Int) == (m1:Int))=false:=by simp;omega
    have e4:((k1:Int) != (m1:Int))=true:=by simp;omega
    go_wp2;rw[<-gK.o];go_ret;exact ⟨aO HE.o.symm,cO.o⟩
   ·have e2:((k0:Int) == (m0:Int))=false:=by simp;omega
    have e3:((k0:Int) != (m0:Int))=true:=by simp;omega
    go_wp2;rw[<-gK.o];go_ret;exact ⟨aO HE.o.symm,cO.o⟩
  ·have e0:(uo == vo)=false:=by simpa using h1
   have e1:(uo != vo)=true:=by simpa using h1
   go_wp2;rw[<-gK.o];go_ret;exact ⟨aO HE.o.symm,cO.o⟩):G:=h
theorem pm278(h:G:=by
 have h1:aC a=aC (a.take (k+1)) ++ aC (a.drop (k+1)):=by
  conv=>lhs;rw[<-List.take_append_drop (k+1) a]
  exact fU _ _
 first
 |clear pp278;have h2:=nc.o;rw[h1,iL]at h2;obtain ⟨r,rfl⟩:=h2;exact ⟨aC (a.drop (k+1)) ++ r,by simp⟩
 |rw[h1,iL];exact ⟨_,rfl⟩):G:=h
theorem pm279(h:G:=by
 refine ⟨qs ++ [q],by simp[hk],by rw[List.flatMap_append];simpa using aR,fun j h1 h2=>?_⟩
 by_cases hj:j<qs.length
 first
 |clear pp279
  ·rw[List.getElem_append_left hj,List.getElem_append_left (by omega)];exact ⟨(ht j hj (by omega)).1.move rh,(ht j hj (by omega)).2.move rh⟩
  ·have qw:j=ps.length:=by simp at h2;omega
   have pp131a:=();exact pm131
 |·rw[List.getElem_append_left hj,List.getElem_append_left (by omega)];refine (ht j hj (by omega)).move (fun b hok hlt=>⟨⟨hok.1,fun e=>?_⟩,(hold b hok.1 (by omega) hok.2).trans (hb.block b hlt)⟩)
   injection e with e;obtain rfl:g=b:=e;rcases hg with hg | hg
   ·exact hok.2 hg
   ·omega
  ·have qw:j=ts.length:=by simp at h2;omega
   exact pm131):G:=h
theorem pm280(h:G:=by
 have HE:=ae (show R=(j6,2) by rw[HR.o];rfl);go_enter Tryz.func32,Tryz.ntmps32
 first
 |clear pp280;go_wp2_with (rw[<-gK.o];go_at_call 26;refine rC.o.mono ?_;rintro e w4 ⟨rfl,aP⟩;have x4:=bR aP HB.o.2.2.2.2;obtain ⟨i0,i1,i2,i3,z0,z1,z2,z3⟩:=dp x4;have Jz:=ae x4;have H4:=ae aP;clear aP x4);exact pm44
 |go_wp2_with (first | (rw[<-gK.o];go_at_call 26;refine rC.o.mono ?_;rintro e w3 ⟨rfl,aL⟩;have x3:=bR aL HB.o.2.2.2.1;have j0:=ai x3 0;have j1:=ai x3 1;have H3:=ae aL;clear aL x3) | (go_at_call 27;refine (Wx.o _ H3.o).mono ?_;rintro e w4 ⟨rfl,aP⟩;have x4:=bR (H3.o.tr aP) HB.o.2.2.2.2;obtain ⟨i0,i1,i2,i3,z0,z1,z2,z3⟩:=dp x4;have Jz:=ae x4;have H4:=ae (H3.o.tr aP);clear aP x4));exact pm44):G:=h
theorem pm281(h:G:=by
 obtain ⟨wz,XC⟩:=am wr;subst XC;obtain ⟨S,hS⟩:∃S:World->Prop,S=fun V=>Below W1.heap.size W1 V:=⟨_,rfl⟩
 first
 |clear pp281;have g0:=iR.o.2.1;have f0:∀ V,S V->V.cell? ⟨w.heap.size,0,none⟩=some (.slice (some ⟨b,off,none⟩) n1 qc):=fun V h=>by rw[hS]at h;exact aa h g0
  have ff:∀ V,S V->V.cell? ⟨b,off+k * 5,none⟩=some (.string ⟨nm.toArray⟩)/\V.cell? ⟨b,off+k * 5+1,none⟩=some (.int .u8 x.o)/\V.cell? ⟨b,off+k * 5+2,none⟩=some (.string x.n)/\V.cell? ⟨b,off+k * 5+3,none⟩=some (.slice x.a x.l x.c)/\V.cell? ⟨b,off+k * 5+4,none⟩=some (.slice x.b x.m x.e):=fun V h=>by
   rw[hS]at h;exact ⟨aa (iR.o.1.tr h) c0,aa (iR.o.1.tr h) c1,aa (iR.o.1.tr h) c2,aa (iR.o.1.tr h) c3,aa (iR.o.1.tr h) c4⟩
  have pp183:=();exact pm183
 |have g0:=iR.o.2.2;have f0:∀ V,S V->V.cell? ⟨w.heap.size,1,none⟩=some (.slice (some ⟨b,off,none⟩) n2 qe):=fun V h=>by rw[hS]at h;exact aa h g0
  have ff:∀ V,S V->V.cell? ⟨b,off+j * 4,none⟩=some (.string ⟨nm.toArray⟩)/\V.cell? ⟨b,off+j * 4+1,none⟩=some (.bool x.v)/\V.cell? ⟨b,off+j * 4+2,none⟩=some (.string x.n)/\V.cell? ⟨b,off+j * 4+3,none⟩=some (.slice x.a x.l x.c):=fun V h=>by
   rw[hS]at h;exact ⟨aa (iR.o.1.tr h) c0,aa (iR.o.1.tr h) c1,aa (iR.o.1.tr h) c2,aa (iR.o.1.tr h) c3⟩
  exact pm183):G:=h
theorem pm282(h:G:=by
 exact bJ (v:=.bool true) (by simp[results,Tryz.results3,go_sem,tr]) Qz ⟨rfl,eG⟩):G:=h
theorem pm283(h:G:=by
 obtain ⟨k,hk,rfl,ar,ht⟩:=hrel
 by_cases hlt:k<k0
 first
 |clear pp283a
  ·have bp:=cF dB.o hlt;have pp173a:=();exact pm173
  ·obtain rfl:k0=k:=by omega
   have HE:=ae (show R=none by rw[ht,iS (by rw[dB.o];exact aI _)];simp[eB]);have HB:=ae ar;clear ar ht;go_wp2;go_ret;exact ⟨⟨_,rfl,by rw[HE.o];exact IntsV.nil _⟩,HB.o⟩
 |clear pp283b
  ·have bp:=cF dB.o hlt;obtain ⟨b,off,u,rfl,_,hu,c0,c1,c2,c3⟩:=Ta.o.get bp;have hf:=HF.o.mem (aA bp);have pG:=fS.o xs[k] (aA bp);rw[FZ bp]at ht;exact pm176
  ·obtain rfl:k0=k:=by omega
   have HE:=ae (show R=none by rw[ht,iS (by rw[dB.o];exact aI _)];simp[lH]);have HB:=ae ar;clear ar ht;go_wp2;refine bJ (v:=.tuple #[.slice none 0 0,.slice none 0 0]) (by simp[results,Tryz.results165,go_sem]) rfl ⟨⟨_,_,rfl,?_,?_⟩,HB.o⟩
   ·rw[HE.o];exact IntsV.nil _
   ·rw[HE.o];exact IntsV.nil _
 |clear pp283c
  ·have bp:=cF dB.o hlt;have mN:k<m.length:=by rw[<-gV.o,<-HKM.o];exact hlt
   have VF:k<m0:=by rw[<-HKM.o];exact hlt
   have pp243:=();exact pm243
  ·obtain rfl:k=k0:=by omega
   have he:R=0:=by rw[ht,iS (by rw[dB.o];exact aI _),zj]
   obtain ⟨HE,HB⟩:=a_ he ar;clear he ar ht;go_wp2;go_ret;exact ⟨qA HE.o.symm,HB.o⟩
 |clear pp283d
  ·have bp:=cF dB.o hlt;have mN:=cF Vs.o bp;exact pm243
  ·obtain rfl:k=k0:=by omega
   have pp172:=();exact pm172
 |·have bp:=cF dB.o hlt;have mN:=cF Vs.o bp;obtain ⟨b,off,u,rfl,_,hu,c0,c1,c2,c3⟩:=HL.o.get bp;obtain ⟨b',mL,u',rfl,_,iF,mg,nd,ne,Gh⟩:=HM.o.get mN;have hf:=HF.o.mem (aA bp);have pG:=fS.o l[k] (aA bp);have f0:=fun x:Later wr=>x.get (aa ar c0);have f1:=fun x:Later wr=>x.get (aa ar c1);have f2:=fun x:Later wr=>x.get (aa ar c2);have f3:=fun x:Later wr=>x.get (aa ar c3);have f4:=fun x:Later wr=>x.get (aa ar mg);have f5:=fun x:Later wr=>x.get (aa ar nd);have f6:=fun x:Later wr=>x.get (aa ar ne);have f7:=fun x:Later wr=>x.get (aa ar Gh);have E7:(k:Int)<(k0:Int):=by omega
   obtain ⟨HB,HT⟩:=a_ ar ht;have i9:∀ (h:l[k]≠m[k]),m7 l m=false:=fun h=>by
    cases he:m7 l m with
    | false=>rfl
    | true=>exact absurd (by rw[List.getElem_of_eq ((nh _ _).1 he)]) h
   have HNe:=ae i9;have CC:=fun (x:Later wr)=>pG m[k] ok ok' x.w u u' hf ((hu.later ar).later x.below) ((iF.later ar).later x.below);obtain ⟨R,hR⟩:=am (uM l[k] m[k]);rw[<-hR]at CC;obtain ⟨HC,HR⟩:=a_ CC hR;clear hu iF pG hf ar ht i9 hR CC c0 c1 c2 c3 mg nd ne Gh;have pp100a:=();exact pm100
  ·obtain rfl:k=k0:=by omega
   exact pm172):G:=h
theorem pm284(h:G:=by
 go_enter Tryz.func242,Tryz.ntmps242;go_wp2;go_ret
 first
 |clear pp284;simp
 |refine ⟨aO ?_,rfl⟩;rw[Nn,gy];simp):G:=h
theorem pm285(h:G:=by
 have Wr:((m0:Int) != (r4:Int))=true:=by simp;omega
 have HE:Hd (BX=false):=ae (hM.trans (by simp[RY]));exact pm5):G:=h
theorem pm286(h:G:=by
 intro c L ok w vL q cI hL RH OM hq;obtain ⟨so,sn,sa,sl,sc,sb,sm,se⟩:=q;obtain ⟨v1,v2,h1,h_,lV⟩:=aW.1 hq
 first
 |clear pp286;have pp33i:=();exact pm33
 |have pp33j:=();exact pm33):G:=h
theorem pm287(h:G:=by
 rcases hs with hs | ⟨b,off,ha,hok,hc⟩
 ·exact .inl hs
 first
 |clear pp287a
  ·by_cases h0:al=[]
   ·exact .inl h0
   ·have hk:=hb b hok (B0 (hc 0 (iD.2 h0)));exact pm266
 |clear pp287b
  ·by_cases h0:ss=[]
   ·exact .inl h0
   ·have hk:=hb b hok (B4 (hc 0 (iD.2 h0)));exact pm266
 |clear pp287c
  ·exact .inr ⟨b,off,ha,hok,fun j hj=>(hc j hj).nw hn⟩
 |first
  |clear pp217
   ·by_cases h0:l=[]
    ·exact .inl h0
    ·have hk:=hb b hok (B0 (hc 0 (iD.2 h0)));exact pm266
  |·by_cases h0:l=[]
    ·exact .inl h0
    ·have hk:=hb b hok (B4 (hc 0 (iD.2 h0)));exact pm266):G:=h
theorem pm288(h:G:=by
 rw[HE.o];exact H6.o.2.1.move (fun b hb hlt=>⟨aN H5.o.1.size hb,k8.same b hlt (by have:=(bz H5.o.2);omega)⟩)):G:=h
theorem pm289(h:G:=by
 rintro X Y hn ⟨h1,h2,h3,h4⟩;exact ⟨h1,h2,hn.cells h3,mU h4 hn⟩):G:=h
theorem pm290(h:G:=by
 obtain ⟨k0,cg⟩:=am l.length;rw[<-cg]at cm ⊢;obtain ⟨dB,HL,fS,HF⟩:=eW cg hl ih az;clear cg hl ih az
 first
 |clear pp290;go_enter Tryz.func164,Tryz.ntmps164;go_wp2;go_loopw [5,10] (fun r i wr=>∃k:Nat,k<=k0/\i=.int .i64 k/\Below w.heap.size w wr/\r=.int .i64 (fE x (l.take k))) (fun _ i _=>k0 - (intOf i).toNat)
  case atStart=>exact ⟨0,bc _,rfl,ak _ _,by simp[fE]⟩
  case round=>
   obtain ⟨k,hk,rfl,ar,rfl⟩:=hrel
   by_cases hlt:k<k0
   ·have bp:=cF dB.o hlt;have pp173b:=();exact pm173
   ·obtain rfl:k=k0:=by omega
    have h1:l.take k=l:=by rw[dB.o];exact cV
    rw[h1];have HB:=ae ar;clear h1 ar;go_wp2;go_ret;exact ⟨rfl,HB.o⟩
 |go_enter Tryz.func54,Tryz.ntmps54;go_wp2;go_loopw [5,6] (fun r i wr=>∃k m:Nat,k<=k0/\i=.int .i64 k/\r=.int .i64 m/\Below w.heap.size w wr/\iZ l left 0=iZ (l.drop k) left m/\m<=100002000000) (fun _ i _=>k0 - (intOf i).toNat)
  case atStart=>exact ⟨0,0,bc _,rfl,rfl,ak _ _,by simp,by omega⟩
  case round=>
   obtain ⟨k,m,hk,rfl,rfl,ar,hcut,AB⟩:=hrel
   by_cases hlt:k<k0
   ·by_cases uF:(m:Int)<=left
    ·have bp:=cF dB.o hlt;exact pm173
    ·have Gx:decide ((m:Int)<=left)=false:=by simp;omega
     have E7:decide ((k:Int)<(k0:Int))=true:=by simp;omega
     have he:=hcut.trans (JN _ uF);obtain ⟨HE,HB⟩:=a_ he ar;clear he hcut ar;go_wp2;go_ret;exact ⟨qA (by rw[HE.o]),HB.o⟩
   ·obtain rfl:k=k0:=by omega
    have hd:l.drop k=[]:=by rw[dB.o];exact List.drop_length
    rw[hd]at hcut;have he:iZ l left 0=m:=hcut;obtain ⟨HE,HB⟩:=a_ he ar;clear he hcut ar hd;go_wp2;go_ret;exact ⟨qA (by rw[HE.o]),HB.o⟩):G:=h
theorem pm291(h:G:=by
 have e:cM k c (.mk o n [] [g])=nG o n [] (cM k (n :: c) g):=by
  simp only[cM,aw jW,aw fG,aH hq,fp,fk]
 rw[e]
 first
 |clear pp291;generalize cM k (n :: c) g=r at i1 i2;unfold nG;generalize (if (bl [] r).contains n then dL (bl [] r) else n)=m';obtain ⟨p1,p2,_⟩:=gI (depthF r) r (dc n) m' i1 i2 (aI _);exact ⟨by simp[mr,iq,gL,iI,p1],by simp[qone,eO,iI,p2]⟩
 |generalize cM k (n :: c) g=r at ih iw;have hm:=Jm (n:=n) (r:=r) dG.2.1 (by omega);unfold nG;generalize (if (bl [] r).contains n then dL (bl [] r) else n)=m' at hm;have hp:=tK (depthF r) r (dc n) (ap m') iw.1 iw.2 (aI _);have hv:nodesT (ap m')=1:=by simp[ap,nodesT,nodesTs]
  have I9:=oa (depthF r) r (dc n) (ap m') iw.1 iw.2 (aI _) (by rw[hv];omega) ih.2 (vp hm);rw[hv]at hp;refine ⟨?_,?_⟩
  ·simp only[nodesF,nodesTs,nodesFs,iI];omega
  ·simp only[kJ,nmTs,nmFs,iI,I9,Bool.and_true,ah,bx];exact ⟨dG.1,hm⟩):G:=h
