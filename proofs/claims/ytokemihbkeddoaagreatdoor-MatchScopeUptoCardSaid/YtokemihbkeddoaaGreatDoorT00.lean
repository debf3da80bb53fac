/-
  Runs of tactics that several proofs share.
-/
import Derived.ArgAppend
import Derived.Below
import Derived.BigQuiet
import Derived.BigRegionIn
import Derived.Carry
import Derived.ChangeMaps5
import Derived.ChangeSame
import Derived.ChangeStays
import Derived.ControlIn
import Derived.Deep.AppendLies
import Derived.Deep.Cut
import Derived.Deep.DeepCutAuto
import Derived.Deep.DeepHandedRow
import Derived.Deep.DeepWitnessRowRef
import Derived.Deep.Fields
import Derived.Deep.LoopGhost
import Derived.Deep.QuietTactic
import Derived.Deep.Slices
import Derived.Deep.Upon
import Derived.Defers
import Derived.Ground.GgzProg
import Derived.Ground.SlgmProg
import Derived.JoinedCond
import Derived.Laws.World
import Derived.Lib.Hide
import Derived.Lib.ItoaMem
import Derived.Lib.ItoaNum
import Derived.Lib.LaidTab
import Derived.Lib.LaidU8
import Derived.Lib.SliceRun
import Derived.Lib.SmallJoins
import Derived.LoopIn
import Derived.Maps.OwnIn
import Derived.Maps.OwnSet
import Derived.OpenShut
import Derived.OrdersHeld
import Derived.OrdersIn
import Derived.OwnWalkIn
import Derived.ProofKit
import Derived.RangeFuncBound
import Derived.RangeFuncBox
import Derived.RangeFuncLeaves
import Derived.RangeFuncNested
import Derived.RangeFuncRecord
import Derived.RegionIn
import Derived.Shelf.Abstract
import Derived.Shelf.AbstractIn
import Derived.Shelf.SlIter.Nil
import Derived.Shelf.SortM.Plain
import Derived.Shelf.SortM.SortNone
import Derived.ShutString
import Derived.SizedLaws
import Derived.SliceStrings
import Derived.Sort.KeysCollected
import Derived.Sort.Walk0
import Derived.Stop.RegionWithIn
import Derived.TacticsIn
import Derived.TacticsInMore
import Derived.WalkKit
import Derived.WalkLawsBesides
import Derived.WalkMore
import Derived.WalkSpells
namespace Go.Proofs.YtokemihbkeddoaaGreatDoor
open Go Go.RowKit Lib
set_option maxRecDepth 100000
variable {G:Prop}
theorem pm0(h:G:=by
 have pp154a:=();exact pm154):G:=h
theorem pm1(h:G:=by
 have dB:S W6.drew:=by rw[hS];exact (Below.refl _ _).drew
 have tS:Kp (fun b=>b=mT) W3 W6.drew:=aZ.trans (Kp.below cD.drew)
 have IY:∀ b,b=mT->M b:=fun b e=>e ▸ HG.o.2.2.2.1
 have tU:=nh kN
 have CC:=eM.o a[j] (List.getElem_mem kN) (HF.o.1.args.mem (List.getElem_mem kN)) (OP.o _ (List.getElem_mem kN)) a'[j] (HG.o.2.2.1 _ _ _ HF.o.2 _ (List.getElem_mem zR)) W6.drew nF Aj ⟨k.fs,kj⟩ ⟨xv,xn,xa,xl,xc⟩ ⟨yv,yn,ya,yl,yc⟩ (eu.later cD.drew) (by have:=MQ.o;omega) (Vo.o.kp (tS.mono (fun b _ h=>IY b h))) (hx.kpM tS IY) (hy.kpM tS IY)
 have cw:dE (ps.reverse.map (·.1)) kj (a.drop j) (a'.drop j)=match gT (ps.reverse.map (·.1)) kj a[j] a'[j] with | some k'=>dE (ps.reverse.map (·.1)) k' (a.drop (j+1)) (a'.drop (j+1)) | none=>none:=by
  rw[List.drop_eq_getElem_cons kN,List.drop_eq_getElem_cons zR,dE];rfl
 rw[cw]at fL
 simp only[TQ.val,PlQ.val,PlQ.cells]at CC
 have HK:=bx tS nk tU
 have Tp:=ab cM
 have BI:(j:Int)<(n1:Int):=by omega
 cases PE:gT (ps.reverse.map (·.1)) kj a[j] a'[j] with
 | none=>
  rw[PE]at CC fL
  have HC:=ab CC
  have G6:=ab (show R=none from fL)
  have pp127:=();exact pm127
 | some ts0=>
  rw[PE]at CC fL
  have HC:=ab CC
  have G6:=ab (show R=dE (ps.reverse.map (·.1)) ts0 (a.drop (j+1)) (a'.drop (j+1)) from fL)
  exact pm127):G:=h
theorem pm2(h:G:=by
 obtain ⟨k,hk,rfl,cQ,ht⟩:=hrel
 by_cases hlt:k<k0
 ·have bc:=bR cY.o hlt
  have j6:=bR fN.o hlt
  have az:=f9.o.trans (cQ.mono f9.o.size)
  have pp79:=();exact pm79
 first
 |clear pp2a
  ·obtain rfl:k0=k:=by omega
   have pp297:=();exact pm297
 |clear pp2b
  ·obtain rfl:k0=k:=by omega
   have MV:=ab (show R=cb (ps ++ [(xn,xn)]).reverse xs ys by rw[ht,List.drop_eq_nil_of_le (by rw[cY.o];exact Nat.le_refl _)];simp[bH])
   have pp45b:=();exact pm45
 |·obtain rfl:k0=k:=by omega
   have MV:=ab (show R=cb (ps ++ [(xn,yn)]).reverse xs ys by rw[ht,List.drop_eq_nil_of_le (by rw[cY.o];exact Nat.le_refl _)];simp[bH])
   obtain ⟨fX,tw⟩:=ao wr
   subst tw
   have sk:=ab (f9.o.trans (cQ.mono f9.o.size))
   have sq:=ab (bC cQ kI.o)
   have PJ:=ab (bC cQ lX.o)
   have PK:=ab (nK.o.later cQ)
   have x0:fX.cell? ⟨w.heap.size,0,none⟩=some (.int .u8 uo):=ai sq.o 0
   have x1:fX.cell? ⟨w.heap.size,1,none⟩=some (.string ⟨xn.toArray⟩):=ai sq.o 1
   have x2:fX.cell? ⟨w.heap.size,2,none⟩=some (.slice ua k0 uc):=ai sq.o 2
   have x3:fX.cell? ⟨w.heap.size,3,none⟩=some (.slice ub k1 ue):=ai sq.o 3
   clear cQ ht kI lX nK f9
   go_wp2_with (go_at_call 93;refine (EO.o _).mono ?_;rintro e X4 ⟨rfl,aN⟩;have kI:=ab (bC aN sq.o);have lX:=ab (bC aN PJ.o);have nK:=ab (PK.o.later aN);have f9:=ab (sk.o.trans (aN.mono sk.o.size));have z3:X4.cell? ⟨w.heap.size,3,none⟩=some (.slice ub k1 ue):=ai kI.o 3;clear aN)
   obtain ⟨S,hS⟩:∃S:World->Prop,S=fun V=>Below X4.heap.size X4 V:=⟨_,rfl⟩
   have tC:X4.cell? ⟨w.heap.size,1,none⟩=some (.string ⟨xn.toArray⟩):=ai kI.o 1
   have qD:X4.cell? ⟨w.heap.size+1,1,none⟩=some (.string ⟨yn.toArray⟩):=ai lX.o 1
   have f0:∀ V,S V->V.cell? ⟨w.heap.size,1,none⟩=some (.string ⟨xn.toArray⟩):=fun V h=>by rw[hS]at h;exact aa h tC
   have f1:∀ V,S V->V.cell? ⟨w.heap.size+1,1,none⟩=some (.string ⟨yn.toArray⟩):=fun V h=>by rw[hS]at h;exact aa h qD
   have dB:S X4.drew:=by rw[hS];exact (Below.refl _ _).drew
   have DH:=HP.o.cases
   obtain ⟨RF,dr⟩:=aS DH hS
   clear hS tC qD DH
   refine (wpIn_wide (n:=3)).1 ?_
   refine br S 12 (by kernel_rfl) dB (fun jr dt=>?_)
   refine bS 0 64 (.slice pa p0 pc) rfl dt fun eC=>?_
   simp only[ak]
   refine bS 1 65 (.slice pa p0 pc) rfl eC fun eX=>?_
   simp only[ak]
   refine bS 2 66 (.int .i64 (p0:Int)) rfl eX fun fM=>?_
   simp only[ak]
   refine bS 3 67 (.slice pa p0 pc) rfl fM fun gE=>?_
   simp only[ak]
   refine bS 4 68 (.int .i64 (p0:Int)) rfl gE fun iu=>?_
   simp only[ak]
   refine dc 5 69 (.slice pa p0 p0) rfl (fun V hX=>by rcases RF.o with ⟨rfl,rfl,rfl⟩ | ⟨b,off,rfl⟩ <;> go_simp) iu fun iP=>?_
   simp only[ak]
   refine bS 6 70 (.pointer (some ⟨w.heap.size,1,none⟩)) rfl iP fun kV=>?_
   simp only[ak]
   refine dc 7 71 (.string ⟨xn.toArray⟩) rfl (fun V hX=>by have g0:=f0 V hX;go_simp) kV fun pt=>?_
   simp only[ak]
   refine bS 8 72 (.pointer (some ⟨w.heap.size+1,1,none⟩)) rfl pt fun EJ=>?_
   simp only[ak]
   refine dc 9 73 (.string ⟨yn.toArray⟩) rfl (fun V hX=>by have g1:=f1 V hX;go_simp) EJ fun wd=>?_
   simp only[ak]
   refine bS 10 74 (.agg #[.string ⟨xn.toArray⟩,.string ⟨yn.toArray⟩]) rfl wd fun EK=>?_
   simp only[ak]
   refine b_ 11 rfl fun K hK=>?_
   go_simp
   have ls:Below X4.heap.size X4 (X4.alloc (.cells #[.string ⟨xn.toArray⟩,.string ⟨yn.toArray⟩] 213)).drew:=((Below.refl _ X4).alloc (Nat.le_refl _) _).drew
   refine hK _ _ (fun _=>by rw[dr.o];exact ls) (fun _=>?_)
   clear hK K
   have hold:((.slice pa p0 p0:Value)=.slice none 0 0/\p0=0/\eY ps=[])\/∃b,(.slice pa p0 p0:Value)=.slice (some b) p0 p0/\(eY ps).length=p0 * 2/\∀ j u,(eY ps)[j]?=some u->(X4.alloc (.cells #[.string ⟨xn.toArray⟩,.string ⟨yn.toArray⟩] 213)).drew.cell? (b.add j)=some u:=by
    exact pm115
   refine b_ 12 rfl fun K hK=>?_
   refine fk (.tmp 69) (.tmp 75) 87 rfl 213 i0 (.agg #[.string ByteArray.empty,.string ByteArray.empty]) 2 32 Tryz.underlying87 hi rq jS hO rfl (by decide) (.slice pa p0 p0) p0 (eY ps) rfl hold ⟨X4.heap.size,0,none⟩ 1 1 [.string ⟨xn.toArray⟩,.string ⟨yn.toArray⟩] rfl rfl (cK (cs:=#[.string ⟨xn.toArray⟩,.string ⟨yn.toArray⟩]) (t:=213) (fr:=(0,0)) (World.alloc_heap_new X4 _)) (by simp[Value.oneCell']) (by decide) (by unfold maxLen;omega) (by omega) ?_
   intro g cap X5 aC aq
   have sX:Below X4.heap.size X4 X5:=⟨aq.os.trans ls.os,aq.tape.trans ls.tape,aq.output.trans ls.output,Nat.le_trans ls.size aq.size,fun b hb=>(aq.block b (Nat.lt_of_lt_of_le hb ls.size) (by simp)).trans (ls.block b hb)⟩
   have MW:=bC sX kI.o
   have RG:=bC sX lX.o
   have Lk:=f9.o.trans (sX.mono f9.o.size)
   rw[<-ji (xn,yn) ps]at aC
   have nU:=PairsV.own aC
   have z5:X5.cell? ⟨w.heap.size,3,none⟩=some (.slice ub k1 ue):=ai MW 3
   clear kI lX f9 nK z3
   obtain ⟨kI,lX,f9,nK⟩:=eA MW RG Lk nU
   clear MW RG Lk nU aC aq ls sX hold
   refine ee hK ?_
   clear hK K
   refine b_ 13 rfl fun K hK=>?_
   go_simp
   refine ee hK ?_
   clear hK K
   refine cO (by kernel_rfl) ?_ _
   go_wp2
   go_loopw [80] (fun i wr=>∃k:Nat,k<=k1/\i=.int .i64 k/\Below X5.heap.size X5 wr/\R=cb (ps ++ [(xn,yn)]).reverse (xs.drop k) (ys.drop k)) (fun i _=>k1 - (intOf i).toNat)
   case atStart=>exact ⟨0,Nat.zero_le _,rfl,Below.refl _ _,by simpa using MV.o⟩
   case round=>
    have pp302a:=();exact pm302):G:=h
theorem pm3(h:G:=by
 go_loopw [79] (fun i wr=>∃k:Nat,k<=m0/\i=.int .i64 k/\Kp (fun c=>c=J) w wr/\JAt J true (left - 1 - ac a - ah (s.take k)) bh wr/\cX true (s.take k)=true/\(ah (s.take k):Int)<=left - 1 - ac a/\aX+1+aU (s.take k)<=bh+1) (fun i _=>m0 - (intOf i).toNat)
 case atStart=>exact ⟨0,Nat.zero_le _,rfl,HA.o.1,by simpa[ah] using HA.o.2,by simp[cX],by simp[ah];omega,by simp[aU];omega⟩
 case round=>
  obtain ⟨k,hk,rfl,aZ,hj,ha,hb,hc⟩:=hrel
  by_cases hlt:k<m0
  ·have bc:=bR fN.o hlt
   have pp165:=();exact pm165
  ·obtain rfl:k=m0:=by omega
   have ht:s.take k=s:=by rw[fN.o];exact List.take_length
   rw[ht]at hj ha hb hc
   have jd:(cX true s && (decide ((ah s:Int)<=left - 1 - ac a) && decide (aX+1+aU s<=bh+1)))=true:=by rw[ha];simp;omega
   exact pm142):G:=h
theorem pm4(h:G:=by
 go_loopw [79] (fun i wr=>∃k:Nat,k<=m0/\i=.int .i64 k/\Kp (fun c=>c=J) w wr/\JAt J sc (left - 1 - ac a - ah (s.take k)) bh wr/\cX sc (s.take k)=true/\(ah (s.take k):Int)<=left - 1 - ac a/\aX+1+aU (s.take k)<=bh+1) (fun i _=>m0 - (intOf i).toNat)
 case atStart=>exact ⟨0,Nat.zero_le _,rfl,HA.o.1,by simpa[ah] using HA.o.2,by simp[cX],by simp[ah];omega,by simp[aU];omega⟩
 case round=>
  obtain ⟨k,hk,rfl,aZ,hj,ha,hb,hc⟩:=hrel
  by_cases hlt:k<m0
  ·have bc:=bR fN.o hlt
   exact pm165
  ·obtain rfl:k=m0:=by omega
   have ht:s.take k=s:=by rw[fN.o];exact List.take_length
   rw[ht]at hj ha hb hc
   have jd:(cX sc s && (decide ((ah s:Int)<=left - 1 - ac a) && decide (aX+1+aU s<=bh+1)))=true:=by rw[ha];simp;omega
   exact pm142):G:=h
theorem pm5(h:G:=by
 have em:=ab (bp.o.trans (x'.below.mono bp.o.size))
 cases e
 ·have HE:=ab (show R=false by rw[HT.o];simp)
  go_wp2
  go_ret
  exact ⟨aA HE.o.symm,bW.o.trans (em.o.mono bW.o.size)⟩
 ·go_wp2
  go_roundw
  case rel=>exact ⟨k+1,by omega,by go_num,kF.o.trans (em.o.mono kF.o.size),by rw[HT.o];simp⟩
  case measure=>simp[intOf];omega):G:=h
theorem pm6(h:G:=by
 clear hM qB oc zI
 have pp78a:=();exact pm78):G:=h
theorem pm7(h:G:=by
 refine wpIn_seq_k (fun ZU FM=>?_)
 refine dM [aE (.int .i64 70),
  aE (.bool false),
  aE (.bool false),
  aE (.bool true),
  aE (.bool true),
  aE (.bool false),
  aE (.bool false),
  aE (.int .i64 70),
  aE (.bool true),
  aE (.bool true),
  aE (.bool true),
  aE (.bool true),
  aE (.bool false),
  aE (.bool true),
  aE (.bool true),
  aE undef,
  aE undef,
  aE undef,
  aE undef,
  aE undef,
  aE undef,
  aE undef,
  aE undef,
  aE undef,
  aE undef,
  aE undef,
  aE undef,
  aE undef,
  aE (.bool true),
  aE (.bool true),
  aE (.bool true)]
  31 31 zx (by kernel_rfl) (by kernel_rfl) (fun k hk=>?_) (fun A14 γ K3 h=>?_)
 ·match k,hk with
  | 0,_=>exact au (aE (.int .i64 70)) 12 (old Dx)
  | 1,_=>exact bG rfl 69 (.int .i64 70) (.bool false) (am 0) (fun _ _ _ _=>by go_simp)
  | 2,_=>exact au (aE (.bool false)) 13 (old v_)
  | 3,_=>exact cr rfl 70 71 (.bool false) (.bool false) (.bool true) (am 1) (am 2) (fun _ _ _ _ _ _=>by go_simp)
  | 4,_=>exact au (aE (.bool true)) 72 (am 3)
  | 5,_=>exact au (aE (.bool false)) 13 (old v_) (hw:=aw 4 (am 4))
  | 6,_=>exact au (aE (.bool false)) 74 (am 5) (hw:=aw 4 (am 4))
  | 7,_=>exact au (aE (.int .i64 70)) 12 (old Dx) (hw:=aw 6 (am 6))
  | 8,_=>exact bG rfl 76 (.int .i64 70) (.bool true) (am 7) (fun _ _ _ _=>by go_simp) (hw:=aw 6 (am 6))
  | 9,_=>exact cr rfl 75 77 (.bool false) (.bool true) (.bool true) (am 6) (am 8) (fun _ _ _ _ _ _=>by go_simp) (hw:=aw 4 (am 4))
  | 10,_=>exact cr rfl 73 78 (.bool true) (.bool true) (.bool true) (am 4) (am 9) (fun _ _ _ _ _ _=>by go_simp)
  | 11,_=>exact au (aE (.bool true)) 79 (am 10)
  | 12,_=>exact au (aE (.bool false)) 13 (old v_) (hw:=aw 11 (am 11))
  | 13,_=>exact bG rfl 81 (.bool false) (.bool true) (am 12) (fun _ _ _ _=>by go_simp) (hw:=aw 11 (am 11))
  | 14,_=>exact au (aE (.bool true)) 82 (am 13) (hw:=aw 11 (am 11))
  | 15,_=>exact dN false 14 (am 14)
  | 16,_=>exact dN false 14 (am 14)
  | 17,_=>exact dN false 14 (am 14)
  | 18,_=>exact dN false 14 (am 14)
  | 19,_=>exact dN false 14 (am 14)
  | 20,_=>exact gt true 19 (am 19)
  | 21,_=>exact gt true 19 (am 19)
  | 22,_=>exact gt true 19 (am 19)
  | 23,_=>exact gt true 19 (am 19)
  | 24,_=>exact gt true 19 (am 19)
  | 25,_=>exact gt true 19 (am 19)
  | 26,_=>exact gt true 19 (am 19)
  | 27,_=>exact dN false 14 (am 14)
  | 28,_=>exact bG rfl 83 (.bool true) (.bool true) (am 14) (fun _ _ _ _=>by go_simp) (hw:=aw 11 (am 11))
  | 29,_=>exact cr rfl 80 97 (.bool true) (.bool true) (.bool true) (am 11) (am 28) (fun _ _ _ _ _ _=>by go_simp)
  | 30,_=>exact bF (aE (.bool true)) 98 (am 29)
  | k+31,hk=>exact absurd hk (by simp)
 exact pm300):G:=h
theorem pm8(h:G:=by
 have pp167a:=();exact pm167):G:=h
theorem pm9(h:G:=by
 obtain ⟨j,Aj,kj,hj,rfl,aZ,nk,eu,fL⟩:=hrel
 by_cases hlt:j<n1
 ·have kN:=bR HN.o.1 hlt
  have zR:=bR HN.o.2 hlt
  obtain ⟨b1,o1,⟨xv,xn,xa,xl,xc⟩,rfl,pO,hx,c0,c1,c2⟩:=HT.o.2.2.1.get kN
  obtain ⟨b2,o2,⟨yv,yn,ya,yl,yc⟩,rfl,pP,hy,y0,y1,y2⟩:=HT.o.2.2.2.get zR
  have oL:∀ b,¬M b->¬(b=mT):=fun b hb e=>hb (e ▸ HG.o.2.2.2.1)
  simp only at c0 c1 c2 y0 y1 y2
  have d0:=aZ.cell (oL _ pO) c0
  have d1:=aZ.cell (oL _ pO) c1
  have d2:=aZ.cell (oL _ pO) c2
  have g0:=aZ.cell (oL _ pP) y0
  have g1:=aZ.cell (oL _ pP) y1
  have g2:=aZ.cell (oL _ pP) y2
  have OQ:=(aZ.same _ (by have:=H3.o.2.1;omega) (by have:=HmT.o;omega)).trans H3.o.2.2.1
  have Tt:=(aZ.same _ (by have:=H3.o.2.1;omega) (by have:=HmT.o;omega)).trans H3.o.2.2.2.2.1
  obtain ⟨W6,cM⟩:=ao (wr.alloc (.cells #[.bool xv,.string xn,.slice xa xl xc] 43))
  have cD:=cB cM
  have x6:=bN cM
  have s_:=bC cD OQ
  have Tu:=bC cD Tt
  obtain ⟨S,hS⟩:∃S:World->Prop,S=fun V=>Below W6.heap.size W6 V:=⟨_,rfl⟩
  have pp:∀ V,S V->V.cell? ⟨W.heap.size,0,none⟩=some (.int .u8 so)/\V.cell? ⟨W.heap.size,1,none⟩=some (.string sn)/\V.cell? ⟨W.heap.size,2,none⟩=some (.slice sa sl sc)/\V.cell? ⟨W.heap.size,3,none⟩=some (.slice sb sm se)/\V.cell? ⟨W.heap.size,4,none⟩=some (.int .u8 fo)/\V.cell? ⟨W.heap.size,5,none⟩=some (.string fn)/\V.cell? ⟨W.heap.size,6,none⟩=some (.slice fa fl fc)/\V.cell? ⟨W.heap.size,7,none⟩=some (.slice fb fm fe)/\V.cell? ⟨W.heap.size,8,none⟩=some (.slice ca cl cc):=fun V h=>by rw[hS]at h;exact ⟨aa h (ai s_ 0),aa h (ai s_ 1),aa h (ai s_ 2),aa h (ai s_ 3),aa h (ai s_ 4),aa h (ai s_ 5),aa h (ai s_ 6),aa h (ai s_ 7),aa h (ai s_ 8)⟩
  have tt:∀ V,S V->V.cell? ⟨wr.heap.size,0,none⟩=some (.bool xv)/\V.cell? ⟨wr.heap.size,1,none⟩=some (.string xn)/\V.cell? ⟨wr.heap.size,2,none⟩=some (.slice xa xl xc):=fun V h=>by rw[hS]at h;exact ⟨aa h (ai x6 0),aa h (ai x6 1),aa h (ai x6 2)⟩
  have uu:∀ V,S V->V.cell? ⟨W.heap.size+1+1,2,none⟩=some (.slice (some ⟨b2,o2,none⟩) n1 uc):=fun V h=>by rw[hS]at h;exact aa h (ai Tu 2)
  have yy:∀ V,S V->V.cell? ⟨b2,o2+j * 3,none⟩=some (.bool yv)/\V.cell? ⟨b2,o2+j * 3+1,none⟩=some (.string yn)/\V.cell? ⟨b2,o2+j * 3+2,none⟩=some (.slice ya yl yc):=fun V h=>by rw[hS]at h;exact ⟨aa h (aa cD g0),aa h (aa cD g1),aa h (aa cD g2)⟩
  exact pm1
 ·obtain rfl:j=n1:=by omega
  have G6:=ab (show R=some kj by rw[fL,List.drop_eq_nil_of_le (by rw[<-HN.o.1];exact Nat.le_refl _)];simp[dE])
  have cA:a.take j=a:=by rw[HN.o.1];exact List.take_length
  rw[cA]at nk
  have HK:=bx aZ nk eu
  clear aZ nk eu fL cA
  go_wp2
  go_ret
  exact ⟨(Kp.below H3.o.1).trans HK.o.1,true,rfl,(fun h=>by rw[G6.o]at h;cases h),(fun ts fB=>⟨rfl,Aj,by have:=HK.o.2.1;have:=MQ.o.2;omega,by rw[G6.o]at fB;cases fB;exact HK.o.2.2⟩)⟩):G:=h
theorem pm10(h:G:=by
 obtain ⟨HF,dH,bW⟩:=cf hF cA az
 clear hu az hF c0 c1 c2 cA
 gi_wp2
 obtain ⟨W2,aY⟩:=ao (wr.alloc (.cells #[.bool u.v,.string u.n,.slice u.a u.l u.c] 43))
 have pp56a:=();exact pm56):G:=h
theorem pm11(h:G:=by
 obtain ⟨W3,cZ⟩:=ao (wr.alloc (.cells #[.int .u8 u.o,.string u.n,.slice u.a u.l u.c,.slice u.b u.m u.e] 36))
 have pp214:=();exact pm214):G:=h
theorem pm12(h:G:=by
 obtain ⟨k,hk,rfl,hj,aZ,⟨n',AO,pw⟩,iT⟩:=hrel
 have pp267:=();exact pm267):G:=h
theorem pm13(h:G:=by
 have sW:=HL.o.1
 have wF:=HL.o.2.2.1
 have zH:W2.heap[W.heap.size]?=some (.cells #[.int .u8 u0,.string u1,.slice u2 u3 u4,.slice u5 u6 u7,.int .u8 v0,.string v1,.slice v2 v3 v4,.slice v5 v6 v7,.slice ca cl cc] 89 (0,0)):=(fT.same _ (by omega)).trans (aj rfl)
 have sH:∃r,(W.alloc (.cells #[.int .u8 u0,.string u1,.slice u2 u3 u4,.slice u5 u6 u7,.int .u8 v0,.string v1,.slice v2 v3 v4,.slice v5 v6 v7,.slice ca cl cc] 89)).heap[lR]?=some (.loop r):=by
  obtain ⟨r,hr⟩:=HL.o.2.1
  exact ⟨r,(HL.o.2.2.2.1.block _ wF).trans hr⟩
 first
 |clear pp13a
  have iD:=(HQ.o.1.later HL.o.2.2.2.1).move (ok':=fun b=>¬M b) (fun b hb hlt=>⟨hb.2,fT.same b (by have:=hb.1;omega)⟩)
  have Qi:=(HQ.o.2.1.later HL.o.2.2.2.1).move (ok':=fun b=>¬M b) (fun b hb hlt=>⟨hb.2,fT.same b (by have:=hb.1;omega)⟩)
  have ye:=(HQ.o.2.2.1.kp (Kp.below HL.o.2.2.2.1)).busy fT sH
  have g9:x∈bE [] s f:=HL.o.2.2.2.2.2.subset (by simp)
  have wW:nodesF x.s<=400:=Nat.le_trans (kW s f [] x g9) sZ.o.1
  have RR:=HL.o.2.2.2.2.2.length_le
  have DH:=oM s f []
  simp only[List.length_append,List.length_cons,List.length_nil]at RR
  have cq:pre.length+1<=400:=by have:=sZ.o.1;omega
  have CS:=Vw.o M (K0+1+1+1) (K0+1) (K0+1+1) uj.o.1 uj.o.2.1 uj.o.2.2.2.2 (fun b hb=>Nat.le_trans HV.o.2.2.1.size (zJ.o.1 b hb)) x (my s f [] (BY sZ.o.2.2.2) x g9) wW W2 nF2 Aj k2 ⟨⟨u0,u1,u2,u3,u4,u5,u6,u7⟩,⟨v0,v1,v2,v3,v4,v5,v6,v7⟩,ca,cl,cc⟩ ps
   (fun b hb=>by have:=rl.o.2.2.2.2.1 b hb;have:=eJ.o;have:=gX.size;omega) (KI.o.kp gX (fun b hb=>Nat.le_trans HV.o.2.2.1.size (zJ.o.1 b hb))) g2 (by have:=sZ.o.2.1;have:=NA.o.2.1;omega) (by have:=sZ.o.2.2.1;have:=NA.o.2.2;omega) ⟨iD,Qi,ye,HQ.o.2.2.2.1,HQ.o.2.2.2.2⟩
  obtain ⟨⟨k3,er⟩,Qj⟩:∃p,p=cm k2 x:=⟨_,rfl⟩
  rw[<-Qj]at CS
  unfold StepPost at CS
  simp only[PlQ.val,PlQ.cells]at CS
  have NH:=fun h0:er=0=>(show bU k3=true from zW k2 x k3 (my s f [] (BY sZ.o.2.2.2) x g9) g5 (by rw[<-Qj,h0]))
  have ob:j9 cm kj (pre ++ [x])=(k3,er):=by rw[ug pre kj k2 x g1,Qj]
  have hN:∀ b,b≠K0+1->b≠K0+1+1->¬N2 (K0+1) (K0+1+1) b:=fun b h h' hm=>by rcases hm with hm | hm;exact h hm;exact h' hm
  have VN:=kz.o.2.1
  have Yp:=(gX.same _ (bl HI.o.2.2.2.2.2) (fun h=>by have:=rl.o.2.2.2.2.1 _ h;have:=eJ.o;omega)).trans HI.o.2.2.2.2.2
  have Yq:=(gX.same _ (bl HI.o.2.2.2.2.1) (fun h=>by have:=rl.o.2.2.2.2.1 _ h;have:=eJ.o;omega)).trans HI.o.2.2.2.2.1
  have cp:=ai Yp 0
  obtain ⟨P0,P1,P2,P3,P4,P5,P6,P7⟩:=zP zH
  have P8:=ai zH 8
  have s7:=ab CS
  have HG:=ab (V7 g3 g4 g6 g7 g8 NH ob hN Yq cq)
  clear CS g1 g2 g3 g4 g5 g6 g7 g8 NH ob hN iD Qi ye g9 wW RR DH cq Qj zH sH Yp Yq VN
  have G4:=ab kz.o.2.1
  have hKa:=G4.o
  have FY:aB+2<=wq.heap.size:=by have:=eJ.o;have:=kz.o.1;omega
  have hqa:K0+4<=wq.heap.size:=by have:=eJ.o;have:=kz.o.1;omega
  have WV:∀ f,(Fence.wide.inRound lR).fn f:=fun _=>trivial
  by_cases Lr:er=0
  ·subst Lr
   gi_wp2_with (gi_at_call 47;refine CallsIn.inRound lR (callsIn_wide.2 (s7.o.mono ?_));rintro e w4 ⟨ku,rfl,sV⟩;have De:=(ku.same _ (bl HG.o.2.2.1) (HG.o.2.2.2.2.2.2.2.1 _ (by omega) (by omega))).trans HG.o.2.2.1;have zh:=(ku.same _ (bl HG.o.2.2.2.1) (HG.o.2.2.2.2.2.2.2.1 _ (by omega) (by omega))).trans HG.o.2.2.2.1;have Dg:=(ku.same _ (bl HG.o.2.2.2.2.2.2.2.2.1) (HG.o.2.2.2.2.2.2.2.1 _ (by omega) (by omega))).trans HG.o.2.2.2.2.2.2.2.2.1;have y0:=ai De 0;have y1:=ae De 0;have y2:=ai zh 0;have y3:=ae zh 0;have y4:=ai Dg 0;have H4:=eO ku sV De zh Dg;clear ku sV De zh Dg)
   exact pm68
  ·have zbe:(er == 0)=false:=by simp[Lr]
   gi_wp2_with (gi_at_call 47;refine CallsIn.inRound lR (callsIn_wide.2 (s7.o.mono ?_));rintro e w4 ⟨ku,rfl,sV⟩;have De:=(ku.same _ (bl HG.o.2.2.1) (HG.o.2.2.2.2.2.2.2.1 _ (by omega) (by omega))).trans HG.o.2.2.1;have zh:=(ku.same _ (bl HG.o.2.2.2.1) (HG.o.2.2.2.2.2.2.2.1 _ (by omega) (by omega))).trans HG.o.2.2.2.1;have Dg:=(ku.same _ (bl HG.o.2.2.2.2.2.2.2.2.1) (HG.o.2.2.2.2.2.2.2.1 _ (by omega) (by omega))).trans HG.o.2.2.2.2.2.2.2.2.1;have y0:=ai De 0;have y1:=ae De 0;have y2:=ai zh 0;have y3:=ae zh 0;have y4:=ai Dg 0;have Gq:Kp (fun b=>b=aB+1) w4 (w4.setCell ⟨aB+1,0,none⟩ (.int .i64 er)):=gO;have Uf:=(Gq.same _ (bl zh) (by omega)).trans zh;have Yr:=(Gq.same _ (bl Dg) (by omega)).trans Dg;have y5:=ai Yr 0;have y6:=ai Uf 0;have y7:=ae Uf 0;clear Gq Uf Yr;have H4:=eO ku sV De zh Dg;clear ku sV De zh Dg)
   exact pm57
 |clear pp13b
  have iD:=(HQ.o.1.later HL.o.2.2.2.1).move (ok':=fun b=>¬M b) (fun b hb hlt=>⟨hb.2,fT.same b (by have:=hb.1;omega)⟩)
  have Qi:=(HQ.o.2.1.later HL.o.2.2.2.1).move (ok':=fun b=>¬M b) (fun b hb hlt=>⟨hb.2,fT.same b (by have:=hb.1;omega)⟩)
  have ye:=(HQ.o.2.2.1.kp (Kp.below HL.o.2.2.2.1)).busy fT sH
  have g9:x∈bE [] s f:=HL.o.2.2.2.2.2.subset (by simp)
  have wW:nodesF x.s<=400:=Nat.le_trans (kW s f [] x g9) sZ.o.1
  have RR:=HL.o.2.2.2.2.2.length_le
  have DH:=oM s f []
  simp only[List.length_append,List.length_cons,List.length_nil]at RR
  have cq:pre.length+1<=400:=by have:=sZ.o.1;omega
  have CS:=Vw.o M (K0+1+1+1) (K0+1) (K0+1+1) uj.o.1 uj.o.2.1 uj.o.2.2.2.2 (fun b hb=>Nat.le_trans HV.o.2.2.1.size (zJ.o.1 b hb)) x (my s f [] (BY sZ.o.2.2.2) x g9) wW W2 nF2 Aj k2 ⟨⟨u0,u1,u2,u3,u4,u5,u6,u7⟩,⟨v0,v1,v2,v3,v4,v5,v6,v7⟩,ca,cl,cc⟩ ps
   (fun b hb=>by have:=rl.o.2.2.2.2.1 b hb;have:=eJ.o;have:=gX.size;omega) (KI.o.kp gX (fun b hb=>Nat.le_trans HV.o.2.2.1.size (zJ.o.1 b hb))) g2 (by have:=sZ.o.2.1;have:=NA.o.2.1;omega) (by have:=sZ.o.2.2.1;have:=NA.o.2.2;omega) ⟨iD,Qi,ye,HQ.o.2.2.2.1,HQ.o.2.2.2.2⟩
  obtain ⟨⟨k3,er⟩,Qj⟩:∃p,p=gP k2 x:=⟨_,rfl⟩
  rw[<-Qj]at CS
  unfold StepPost at CS
  simp only[PlQ.val,PlQ.cells]at CS
  have NH:=fun h0:er=0=>(show bU k3=true from Gu k2 x k3 (my s f [] (BY sZ.o.2.2.2) x g9) g5 (by rw[<-Qj,h0]))
  have ob:j9 gP kj (pre ++ [x])=(k3,er):=by rw[ug pre kj k2 x g1,Qj]
  have hN:∀ b,b≠K0+1->b≠K0+1+1->¬N2 (K0+1) (K0+1+1) b:=fun b h h' hm=>by rcases hm with hm | hm;exact h hm;exact h' hm
  have VN:=kz.o.2.1
  have Yp:=(gX.same _ (bl HI.o.2.2.2.2.2) (fun h=>by have:=rl.o.2.2.2.2.1 _ h;have:=eJ.o;omega)).trans HI.o.2.2.2.2.2
  have Yq:=(gX.same _ (bl HI.o.2.2.2.2.1) (fun h=>by have:=rl.o.2.2.2.2.1 _ h;have:=eJ.o;omega)).trans HI.o.2.2.2.2.1
  have cp:=ai Yp 0
  obtain ⟨P0,P1,P2,P3,P4,P5,P6,P7⟩:=zP zH
  have P8:=ai zH 8
  have s7:=ab CS
  have HG:=ab (V7 g3 g4 g6 g7 g8 NH ob hN Yq cq)
  clear CS g1 g2 g3 g4 g5 g6 g7 g8 NH ob hN iD Qi ye g9 wW RR DH cq Qj zH sH Yp Yq VN
  have G4:=ab kz.o.2.1
  have hKa:=G4.o
  have FY:aB+2<=wq.heap.size:=by have:=eJ.o;have:=kz.o.1;omega
  have hqa:K0+4<=wq.heap.size:=by have:=eJ.o;have:=kz.o.1;omega
  have WV:∀ f,(Fence.wide.inRound lR).fn f:=fun _=>trivial
  by_cases Lr:er=0
  ·subst Lr
   gi_wp2_with (gi_at_call 48;refine CallsIn.inRound lR (callsIn_wide.2 (s7.o.mono ?_));rintro e w4 ⟨ku,rfl,sV⟩;have De:=(ku.same _ (bl HG.o.2.2.1) (HG.o.2.2.2.2.2.2.2.1 _ (by omega) (by omega))).trans HG.o.2.2.1;have zh:=(ku.same _ (bl HG.o.2.2.2.1) (HG.o.2.2.2.2.2.2.2.1 _ (by omega) (by omega))).trans HG.o.2.2.2.1;have Dg:=(ku.same _ (bl HG.o.2.2.2.2.2.2.2.2.1) (HG.o.2.2.2.2.2.2.2.1 _ (by omega) (by omega))).trans HG.o.2.2.2.2.2.2.2.2.1;have y0:=ai De 0;have y1:=ae De 0;have y2:=ai zh 0;have y3:=ae zh 0;have y4:=ai Dg 0;have H4:=eO ku sV De zh Dg;clear ku sV De zh Dg)
   exact pm68
  ·have zbe:(er == 0)=false:=by simp[Lr]
   gi_wp2_with (gi_at_call 48;refine CallsIn.inRound lR (callsIn_wide.2 (s7.o.mono ?_));rintro e w4 ⟨ku,rfl,sV⟩;have De:=(ku.same _ (bl HG.o.2.2.1) (HG.o.2.2.2.2.2.2.2.1 _ (by omega) (by omega))).trans HG.o.2.2.1;have zh:=(ku.same _ (bl HG.o.2.2.2.1) (HG.o.2.2.2.2.2.2.2.1 _ (by omega) (by omega))).trans HG.o.2.2.2.1;have Dg:=(ku.same _ (bl HG.o.2.2.2.2.2.2.2.2.1) (HG.o.2.2.2.2.2.2.2.1 _ (by omega) (by omega))).trans HG.o.2.2.2.2.2.2.2.2.1;have y0:=ai De 0;have y1:=ae De 0;have y2:=ai zh 0;have y3:=ae zh 0;have y4:=ai Dg 0;have Gq:Kp (fun b=>b=aB+1) w4 (w4.setCell ⟨aB+1,0,none⟩ (.int .i64 er)):=gO;have Uf:=(Gq.same _ (bl zh) (by omega)).trans zh;have Yr:=(Gq.same _ (bl Dg) (by omega)).trans Dg;have y5:=ai Yr 0;have y6:=ai Uf 0;have y7:=ae Uf 0;clear Gq Uf Yr;have H4:=eO ku sV De zh Dg;clear ku sV De zh Dg)
   exact pm57
 |clear pp13c
  have iD:=(HQ.o.1.later HL.o.2.2.2.1).move (ok':=fun b=>¬M1 b) (fun b hb hlt=>⟨hb.2,fT.same b (by have:=hb.1;omega)⟩)
  have ye:=(HQ.o.2.1.kp (Kp.below HL.o.2.2.2.1)).busy fT sH
  have g9:x∈bE [] s s:=HL.o.2.2.2.2.2.subset (by simp)
  have wW:nodesF x.s<=400:=Nat.le_trans (kW s s [] x g9) HP.o.2.1
  have Qq:=nC s s [] HP.o.1 x g9
  have ud:Below w.heap.size w W2:=aG GG.o.1 gX (fun b hb=>(Qp.o b hb).1)
  have eu:=HP.o.2.2.2.1.later ud
  have CS:=Kq lN kb mF mT nF nT kd x.s Qq wW _ W2 eu ⟨⟨u0,u1,u2,u3,u4,u5,u6,u7⟩,⟨v0,v1,v2,v3,v4,v5,v6,v7⟩,ca,cl,cc⟩ iD
  simp only[PlQ.val,PlQ.cells]at CS
  obtain ⟨bv,wm⟩:=ao (Ql x)
  have NO:=Yw.o x ▸ CS
  rw[<-wm]at NO
  have R1:=(gX.same _ (bl GG.o.2.2.1) (fun h=>by have:=Yv.o;rw[Cq.o]at h;omega)).trans GG.o.2.2.1
  have ck:=ai R1 0
  obtain ⟨P0,P1,P2,P3,P4,P5,P6,P7⟩:=zP zH
  have P8:=ai zH 8
  have s7:=ab NO
  have HG:=bx g1 g2 g3
  have Jg:=ab wm
  have WV:∀ f,(Fence.wide.inRound lR).fn f:=fun _=>trivial
  clear CS NO g1 g2 g3 iD ye g9 wW Qq eu zH sH R1 wm ud
  cases bv with
  | false=>
   gi_wp2_with (gi_at_call 124;refine CallsIn.inRound lR (callsIn_wide.2 (s7.o.mono ?_));rintro e w4 ⟨rfl,aN⟩;have H4:=ab aN;clear aN)
   exact ⟨Kp.below H4.o,by rw[sJ HG.o.1];exact Jg.o.symm,bC H4.o HG.o.2.1,HG.o.2.2.trans (Kp.below H4.o)⟩
  | true=>
   gi_wp2_with (gi_at_call 124;refine CallsIn.inRound lR (callsIn_wide.2 (s7.o.mono ?_));rintro e w4 ⟨rfl,aN⟩;have KP:=bC aN HG.o.2.1;have z0:=ai KP 0;have z1:=ae KP 0;have H4:=aF aN KP;clear aN KP)
   have gu:Kp (fun b=>b=w.heap.size+1+1) w4 (w4.setCell ⟨w.heap.size+1+1,0,none⟩ (.int .i64 6)):=gO
   have zK:Kp M1 w4 (w4.setCell ⟨w.heap.size+1+1,0,none⟩ (.int .i64 6)):=gu.mono (fun b _ h=>by subst h;rw[Cq.o])
   exact pm238
 |clear pp13d
  have iD:=(HQ.o.1.later HL.o.2.2.2.1).move (ok':=fun b=>¬M2 b) (fun b hb hlt=>⟨hb.2,fT.same b (by have:=hb.1;omega)⟩)
  have ye:=(HQ.o.2.1.kp (Kp.below HL.o.2.2.2.1)).busy fT sH
  have g9:x∈bE [] s s:=HL.o.2.2.2.2.2.subset (by simp)
  have wW:nodesF x.s<=400:=Nat.le_trans (kW s s [] x g9) HP.o.2.1
  have Qq:=nC s s [] HP.o.1 x g9
  have ud:Below w.heap.size w W2:=aG Et.o.1 gX (fun b hb=>(Qs.o b hb).1)
  have eu:=HP.o.2.2.2.1.later ud
  have CS:=Nd lN kb mF mT nF nT kd x ps HQ.o.2.2.1 HQ.o.2.2.2 Qq wW _ W2 eu ⟨⟨u0,u1,u2,u3,u4,u5,u6,u7⟩,⟨v0,v1,v2,v3,v4,v5,v6,v7⟩,ca,cl,cc⟩ iD ye.1
  simp only[PlQ.val,PlQ.cells]at CS
  obtain ⟨bv,wm⟩:=ao (Qn x)
  have NO:=Yx.o x ▸ CS
  rw[<-wm]at NO
  have R1:=(gX.same _ (bl Et.o.2.2.1) (fun h=>by have:=Yv.o;rw[VT.o]at h;omega)).trans Et.o.2.2.1
  have ck:=ai R1 0
  obtain ⟨P0,P1,P2,P3,P4,P5,P6,P7⟩:=zP zH
  have P8:=ai zH 8
  have s7:=ab NO
  have HG:=bx g1 g2 g3
  have Jg:=ab wm
  have WV:∀ f,(Fence.wide.inRound lR).fn f:=fun _=>trivial
  clear CS NO g1 g2 g3 iD ye g9 wW Qq eu zH sH R1 wm ud
  cases bv with
  | false=>
   gi_wp2_with (gi_at_call 125;refine CallsIn.inRound lR (callsIn_wide.2 (s7.o.mono ?_));rintro e w4 ⟨rfl,aN⟩;have H4:=ab aN;clear aN)
   exact ⟨Kp.below H4.o,by rw[sJ HG.o.1];exact Jg.o.symm,bC H4.o HG.o.2.1,HG.o.2.2.trans (Kp.below H4.o)⟩
  | true=>
   gi_wp2_with (gi_at_call 125;refine CallsIn.inRound lR (callsIn_wide.2 (s7.o.mono ?_));rintro e w4 ⟨rfl,aN⟩;have KP:=bC aN HG.o.2.1;have z0:=ai KP 0;have z1:=ae KP 0;have H4:=aF aN KP;clear aN KP)
   have gu:Kp (fun b=>b=w.heap.size+1+1) w4 (w4.setCell ⟨w.heap.size+1+1,0,none⟩ (.int .i64 72)):=gO
   have zK:Kp M2 w4 (w4.setCell ⟨w.heap.size+1+1,0,none⟩ (.int .i64 72)):=gu.mono (fun b _ h=>by subst h;rw[VT.o])
   exact pm238
 |have iD:=(HQ.o.1.later HL.o.2.2.2.1).move (ok':=fun b=>¬M3 b) (fun b hb hlt=>⟨hb.2,fT.same b (by have:=hb.1;omega)⟩)
  have ye:=(HQ.o.2.1.kp (Kp.below HL.o.2.2.2.1)).busy fT sH
  have g9:x∈bE [] s s:=HL.o.2.2.2.2.2.subset (by simp)
  have wW:nodesF x.s<=400:=Nat.le_trans (kW s s [] x g9) HP.o.2.1
  have Qq:=nC s s [] HP.o.1 x g9
  have ud:Below w.heap.size w W2:=aG NS.o.1 gX (fun b hb=>(Qu.o b hb).1)
  have eu:=HP.o.2.2.2.1.later ud
  have CS:=Ks lN kb mF mT nF nT kd x.s Qq wW _ W2.drew (eu.later (Below.refl _ _).drew) ⟨⟨u0,u1,u2,u3,u4,u5,u6,u7⟩,⟨v0,v1,v2,v3,v4,v5,v6,v7⟩,ca,cl,cc⟩ (iD.later (Below.refl _ _).drew)
  simp only[PlQ.val,PlQ.cells]at CS
  have hsz:=NJ eu x.s Qq wW
  obtain ⟨bv,wm⟩:=ao (Dh x)
  have NO:=RY.o x ▸ CS
  rw[<-wm]at NO
  have R1:=(gX.same _ (bl NS.o.2.2.1) (fun h=>by have:=Yv.o;rw[YC.o]at h;have:=HnB.o;omega)).trans NS.o.2.2.1
  have ck:=ai R1 0
  obtain ⟨P0,P1,P2,P3,P4,P5,P6,P7⟩:=zP zH
  have P8:=ai zH 8
  have s7:=ab NO
  have HG:=ce g1 g2 g3 g4
  have Jg:=ab wm
  have WV:∀ f,(Fence.wide.inRound lR).fn f:=fun _=>trivial
  have HSz:=ab (show bv<=1000000 by rw[wm,<-RY.o];exact hsz)
  clear hsz
  clear CS NO g1 g2 g3 g4 iD ye g9 wW Qq eu zH sH R1 wm ud
  obtain ⟨S0,dt⟩:=ao (pre.map Dh).sum
  have KQ:((pre ++ [x]).map Dh).sum=S0+bv:=by rw[dt,Jg.o];simp
  have hG:=HG.o
  rw[<-dt]at hG
  obtain ⟨YD,zbp⟩:=aS hG KQ
  clear dt KQ hG
  obtain ⟨S,hS⟩:∃S:World->Prop,S=fun V=>Below W2.heap.size W2 V:=⟨_,rfl⟩
  have dB:S W2.drew:=by rw[hS];exact (Below.refl _ _).drew
  have f0:∀ V,S V->V.cell? ⟨nB,0,none⟩=some (.int .i64 S0):=fun V h=>by rw[hS]at h;exact aa h (ai YD.o.2.1 0)
  have f1:∀ V,S V->V.cell? ⟨w.heap.size,0,none⟩=some (.pointer (some ⟨kb,0,none⟩)):=fun V h=>by rw[hS]at h;exact aa h ck
  have f2:∀ V,S V->V.cell? ⟨W.heap.size,0,none⟩=some (.int .u8 u0)/\V.cell? ⟨W.heap.size,1,none⟩=some (.string u1)/\V.cell? ⟨W.heap.size,2,none⟩=some (.slice u2 u3 u4)/\V.cell? ⟨W.heap.size,3,none⟩=some (.slice u5 u6 u7)/\V.cell? ⟨W.heap.size,4,none⟩=some (.int .u8 v0)/\V.cell? ⟨W.heap.size,5,none⟩=some (.string v1)/\V.cell? ⟨W.heap.size,6,none⟩=some (.slice v2 v3 v4)/\V.cell? ⟨W.heap.size,7,none⟩=some (.slice v5 v6 v7)/\V.cell? ⟨W.heap.size,8,none⟩=some (.slice ca cl cc):=fun V h=>by rw[hS]at h;exact ⟨aa h P0,aa h P1,aa h P2,aa h P3,aa h P4,aa h P5,aa h P6,aa h P7,aa h P8⟩
  have aJ:=HSz.o
  have uG:=YD.o.1
  obtain ⟨S1,eC⟩:=ao (S0+bv)
  have Vp:IntKind.i64.wrap ((S0:Int)+(bv:Int))=(S1:Int):=by rw[IntWalk.i64_in _ (by omega)];omega
  have NT:=ab (eC ▸ zbp.o:((pre ++ [x]).map Dh).sum=S1)
  have HS:=ab hS
  have HWr:=aF Vp aJ
  clear hS eC ck P0 P1 P2 P3 P4 P5 P6 P7 P8 aJ uG Vp
  gi_wp2_with fail
  refine br S 5 (by kernel_rfl) dB (fun jr dt=>?_)
  refine dc 0 27 (.int .i64 S0) rfl (fun V hX=>by have g0:=f0 V hX;go_simp) dt fun eC=>?_
  simp only[ak]
  refine dc 1 28 (.pointer (some ⟨kb,0,none⟩)) rfl (fun V hX=>by have g0:=f1 V hX;go_simp) eC fun eX=>?_
  simp only[ak]
  refine dc 2 29 (.agg #[.int .u8 u0,.string u1,.slice u2 u3 u4,.slice u5 u6 u7,.int .u8 v0,.string v1,.slice v2 v3 v4,.slice v5 v6 v7,.slice ca cl cc]) rfl (fun V hX=>by obtain ⟨g0,g1,g2,g3,g4,g5,g6,g7,g8⟩:=f2 V hX;go_simp) eX fun fM=>?_
  simp only[ak]
  refine b_ 3 rfl fun K hK=>?_
  go_simp
  refine CallsIn.inRound lR (callsIn_wide.2 (s7.o.mono ?_))
  rintro _ w4 ⟨rfl,aN⟩
  have bY:Below W2.heap.size W2 w4:=((Below.refl W2.heap.size W2).drew).trans aN
  refine hK _ _ (fun _=>by rw[HS.o];exact bY) (fun gE=>?_)
  clear hK K
  refine dc 4 31 (.int .i64 (S1:Int)) rfl (fun V hX=>by have Vp:=HWr.o.1;go_simp) (gE (by omega)) fun iu=>?_
  simp only[ak]
  have Ur:=bC bY YD.o.2.1
  have KP:=bC bY YD.o.2.2.1
  have n4:=ai Ur 0
  have z4:=ae Ur 0
  refine b_ 5 rfl fun K hK=>?_
  go_simp
  refine ee hK ?_
  clear hK K
  refine cO (by kernel_rfl) ?_ _
  have gu:Kp (fun b=>b=nB) w4 (w4.setCell ⟨nB,0,none⟩ (.int .i64 (S1:Int))):=gO
  have zK:Kp M3 w4 (w4.setCell ⟨nB,0,none⟩ (.int .i64 (S1:Int))):=gu.mono (fun b _ h=>by subst h;rw[YC.o];exact .inr rfl)
  have xn5:=gN Ur (v:=.int .i64 (S1:Int))
  have YE:=(gu.same _ (bl KP) (by have:=HnB.o;omega)).trans KP
  obtain ⟨w5,VG⟩:=ao (w4.setCell ⟨nB,0,none⟩ (.int .i64 (S1:Int)))
  rw[<-VG]at gu zK xn5 YE ⊢
  have rd:=(Kp.below (M:=M3) bY).trans zK
  have n5:=ai xn5 0
  have r5:=ai YE 0
  have z5:=ae YE 0
  have H5:=eO rd xn5 YE (YD.o.2.2.2.trans rd) zK
  clear bY aN Ur KP n4 z4 gu zK xn5 YE VG rd iu gE fM eX eC dt f0 f1 f2 dB
  by_cases Jf:400<S1
  ·have hd:decide ((400:Int)<(S1:Int))=true:=by simp;omega
   gi_wp2_with fail
   have Kc:Kp (fun b=>b=w.heap.size+1+1) w5 (w5.setCell ⟨w.heap.size+1+1,0,none⟩ (.int .i64 3)):=gO
   have YF:Kp M3 w5 (w5.setCell ⟨w.heap.size+1+1,0,none⟩ (.int .i64 3)):=Kc.mono (fun b _ h=>by subst h;rw[YC.o];exact .inl rfl)
   exact ⟨trivial,(H5.o.1.trans YF).from _,rfl,by rw[NT.o];exact Jf,gN H5.o.2.2.1,H5.o.2.2.2.1.trans YF⟩
  ·have hd:decide ((400:Int)<(S1:Int))=false:=by simp;omega
   gi_wp2_with fail
   exact ⟨H5.o.1,by rw[NT.o];omega,by rw[NT.o];exact H5.o.2.1,H5.o.2.2.1,H5.o.2.2.2.1⟩):G:=h
theorem pm14(h:G:=by
 have Wr:Below w.heap.size w (((w.alloc (.cells #[.bool true,.string ⟨n.toArray⟩,.slice qa k0 qc] 43)).alloc (.cells #[.bool false,.string ⟨#[]⟩,.slice none 0 0] 43)).alloc (.cells #[.bool true,.string ⟨n.toArray⟩,.slice none 0 0] 43)):=(ct.alloc (by simp) _).alloc (by simp;omega) _
 have y1:(((w.alloc (.cells #[.bool true,.string ⟨n.toArray⟩,.slice qa k0 qc] 43)).alloc (.cells #[.bool false,.string ⟨#[]⟩,.slice none 0 0] 43)).alloc (.cells #[.bool true,.string ⟨n.toArray⟩,.slice none 0 0] 43)).heap[w.heap.size+1]?=some (.cells #[.bool false,.string ⟨#[]⟩,.slice none 0 0] 43 (0,0)):=(Below.heap_alloc _ _ _ (by simp)).trans (aj (by simp))
 have y2:(((w.alloc (.cells #[.bool true,.string ⟨n.toArray⟩,.slice qa k0 qc] 43)).alloc (.cells #[.bool false,.string ⟨#[]⟩,.slice none 0 0] 43)).alloc (.cells #[.bool true,.string ⟨n.toArray⟩,.slice none 0 0] 43)).heap[w.heap.size+1+1]?=some (.cells #[.bool true,.string ⟨n.toArray⟩,.slice none 0 0] 43 (0,0)):=aj (by simp)
 have y0:(((w.alloc (.cells #[.bool true,.string ⟨n.toArray⟩,.slice qa k0 qc] 43)).alloc (.cells #[.bool false,.string ⟨#[]⟩,.slice none 0 0] 43)).alloc (.cells #[.bool true,.string ⟨n.toArray⟩,.slice none 0 0] 43)).heap[w.heap.size]?=some (.cells #[.bool true,.string ⟨n.toArray⟩,.slice qa k0 qc] 43 (0,0)):=(Below.heap_alloc _ _ _ (by simp;omega)).trans ((Below.heap_alloc _ _ _ (by simp)).trans (aj rfl))
 have HY:=ce Wr y1 y2 y0
 have CP:=ab (fun w=>hh ▸ i_ n w (by omega))
 clear hh Wr y1 y2 y0
 have pp118:=();exact pm118):G:=h
theorem pm15(h:G:=by
 obtain ⟨k,hk,rfl,cQ,ht⟩:=hrel
 by_cases hlt:k<k0
 ·have bc:=bR cY.o hlt
  have j6:=bR fN.o hlt
  have az:=bZ.o.trans (cQ.mono (by omega))
  have pp80:=();exact pm80
 ·obtain rfl:k=k0:=by omega
  exact pm175):G:=h
theorem pm16(h:G:=by
 refine dM [aH X0 (ec [63,65]),
  dL X0 [ec [63,65]],
  aH X0 (Fm.mk 8 [120] [] [ec [63,65]]),
  aH X0 (ec [63,65]),
  dL X0 [Fm.mk 8 [120] [] [ec [63,65]],ec [63,65]],
  aH X0 (Fm.mk 6 [] [] [Fm.mk 8 [120] [] [ec [63,65]],ec [63,65]]),
  aH X0 (.mk 6 [] [] [.mk 8 y [] [f],g]),
  bi X0 (⟨[],[]⟩),
  d9 (bi X0 (⟨[],[]⟩)) [.int .i64 70],
  d9 (bi X0 (⟨[],[]⟩)) [.int .i64 70],
  bi X0 (⟨[],[]⟩),
  aE (.int .i64 70),
  lO #[.slice none 0 0,.slice none 0 0] 26,
  jv (bi X0 (⟨[],[]⟩)) 26,
  aE (.int .i64 70)]
  12 13 F1 (by kernel_rfl) (by kernel_rfl) (fun k hk=>?_) (fun A12 γ Sl h=>?_)
 ·match k,hk with
  | 0,_=>exact sM [63,65]
  | 1,_=>exact eL hL _ 51 (am 0)
  | 2,_=>exact gQ 8 [120] [ec [63,65]] 52 (am 1)
  | 3,_=>exact sM [63,65]
  | 4,_=>exact fU hL _ _ 53 54 (am 2) (am 3)
  | 5,_=>exact gQ 6 [] [Fm.mk 8 [120] [] [ec [63,65]],ec [63,65]] 55 (am 4)
  | 6,_=>exact cd _ _ 7 F7.box (fun h=>h) (F7.at bB) (old F7.slot)
  | 7,_=>exact wH
  | 8,_=>exact o9 _ _ _ _ _ _ hM ⟨by decide,by decide⟩ aD iL 56 57 58 hT js hL (am 5) (am 6) (am 7)
  | 9,_=>exact au (d9 (bi X0 (⟨[],[]⟩)) [.int .i64 70]) 59 (am 8)
  | 10,_=>exact gq (bi X0 (⟨[],[]⟩)) [.int .i64 70] 50 (am 9)
  | 11,_=>exact gD (bi X0 (⟨[],[]⟩)) [.int .i64 70] 0 (.int .i64 70) rfl 50 (am 9)
  | 12,_=>exact jI rfl
  | 13,_=>exact jJ _ 11 60 rfl (am 12) (am 10)
  | 14,_=>exact bF (aE (.int .i64 70)) 61 (am 11)
  | k+15,hk=>exact absurd hk (by simp)
 have FK:=h.sz.trans F1
 have OB:=h.df.trans QF
 have FL:Below w.heap.size w Sl:=aG F2.drew h.inv.1 (fun _ h=>h.elim)
 have pp76c:=();exact pm76):G:=h
theorem pm17(h:G:=by
 obtain ⟨k,hk,rfl,cQ,ht⟩:=hrel
 by_cases hlt:k<k0
 ·have bc:=bR cY.o hlt
  have j6:=bR fN.o hlt
  have az:=f9.o.trans (cQ.mono f9.o.size)
  exact pm79
 first
 |clear pp17
  ·obtain rfl:k0=k:=by omega
   exact pm297
 |·obtain rfl:k0=k:=by omega
   have MV:=ab (show R=cb (ps ++ [(xn,yn)]).reverse xs ys by rw[ht,List.drop_eq_nil_of_le (by rw[cY.o];exact Nat.le_refl _)];simp[bH])
   obtain ⟨fX,tw⟩:=ao wr
   subst tw
   have sk:=ab (f9.o.trans (cQ.mono f9.o.size))
   have sq:=ab (bC cQ kI.o)
   have PJ:=ab (bC cQ lX.o)
   have PK:=ab (nK.o.later cQ)
   have x0:fX.cell? ⟨w.heap.size,0,none⟩=some (.int .u8 uo):=ai sq.o 0
   have x1:fX.cell? ⟨w.heap.size,1,none⟩=some (.string ⟨xn.toArray⟩):=ai sq.o 1
   have x2:fX.cell? ⟨w.heap.size,2,none⟩=some (.slice ua k0 uc):=ai sq.o 2
   have x3:fX.cell? ⟨w.heap.size,3,none⟩=some (.slice ub k1 ue):=ai sq.o 3
   clear cQ ht kI lX nK f9
   go_wp2_with (go_at_call 146;refine (EO.o _).mono ?_;rintro e X4 ⟨rfl,aN⟩;have kI:=ab (bC aN sq.o);have lX:=ab (bC aN PJ.o);have nK:=ab (PK.o.later aN);have f9:=ab (sk.o.trans (aN.mono sk.o.size));have z3:X4.cell? ⟨w.heap.size,3,none⟩=some (.slice ub k1 ue):=ai kI.o 3;clear aN)
   obtain ⟨S,hS⟩:∃S:World->Prop,S=fun V=>Below X4.heap.size X4 V:=⟨_,rfl⟩
   have tC:X4.cell? ⟨w.heap.size,1,none⟩=some (.string ⟨xn.toArray⟩):=ai kI.o 1
   have qD:X4.cell? ⟨w.heap.size+1,1,none⟩=some (.string ⟨yn.toArray⟩):=ai lX.o 1
   have f0:∀ V,S V->V.cell? ⟨w.heap.size,1,none⟩=some (.string ⟨xn.toArray⟩):=fun V h=>by rw[hS]at h;exact aa h tC
   have f1:∀ V,S V->V.cell? ⟨w.heap.size+1,1,none⟩=some (.string ⟨yn.toArray⟩):=fun V h=>by rw[hS]at h;exact aa h qD
   have dB:S X4.drew:=by rw[hS];exact (Below.refl _ _).drew
   have DH:=HP.o.cases
   obtain ⟨RF,dr⟩:=aS DH hS
   clear hS tC qD DH
   refine (wpIn_wide (n:=3)).1 ?_
   refine br S 12 (by kernel_rfl) dB (fun jr dt=>?_)
   refine bS 0 64 (.slice pa p0 pc) rfl dt fun eC=>?_
   simp only[ak]
   refine bS 1 65 (.slice pa p0 pc) rfl eC fun eX=>?_
   simp only[ak]
   refine bS 2 66 (.int .i64 (p0:Int)) rfl eX fun fM=>?_
   simp only[ak]
   refine bS 3 67 (.slice pa p0 pc) rfl fM fun gE=>?_
   simp only[ak]
   refine bS 4 68 (.int .i64 (p0:Int)) rfl gE fun iu=>?_
   simp only[ak]
   refine dc 5 69 (.slice pa p0 p0) rfl (fun V hX=>by rcases RF.o with ⟨rfl,rfl,rfl⟩ | ⟨b,off,rfl⟩ <;> go_simp) iu fun iP=>?_
   simp only[ak]
   refine bS 6 70 (.pointer (some ⟨w.heap.size,1,none⟩)) rfl iP fun kV=>?_
   simp only[ak]
   refine dc 7 71 (.string ⟨xn.toArray⟩) rfl (fun V hX=>by have g0:=f0 V hX;go_simp) kV fun pt=>?_
   simp only[ak]
   refine bS 8 72 (.pointer (some ⟨w.heap.size+1,1,none⟩)) rfl pt fun EJ=>?_
   simp only[ak]
   refine dc 9 73 (.string ⟨yn.toArray⟩) rfl (fun V hX=>by have g1:=f1 V hX;go_simp) EJ fun wd=>?_
   simp only[ak]
   refine bS 10 74 (.agg #[.string ⟨xn.toArray⟩,.string ⟨yn.toArray⟩]) rfl wd fun EK=>?_
   simp only[ak]
   refine b_ 11 rfl fun K hK=>?_
   go_simp
   have ls:Below X4.heap.size X4 (X4.alloc (.cells #[.string ⟨xn.toArray⟩,.string ⟨yn.toArray⟩] 196)).drew:=((Below.refl _ X4).alloc (Nat.le_refl _) _).drew
   refine hK _ _ (fun _=>by rw[dr.o];exact ls) (fun _=>?_)
   clear hK K
   have hold:((.slice pa p0 p0:Value)=.slice none 0 0/\p0=0/\eY ps=[])\/∃b,(.slice pa p0 p0:Value)=.slice (some b) p0 p0/\(eY ps).length=p0 * 2/\∀ j u,(eY ps)[j]?=some u->(X4.alloc (.cells #[.string ⟨xn.toArray⟩,.string ⟨yn.toArray⟩] 196)).drew.cell? (b.add j)=some u:=by
    exact pm115
   refine b_ 12 rfl fun K hK=>?_
   refine fk (.tmp 69) (.tmp 75) 193 rfl 196 i0 (.agg #[.string ByteArray.empty,.string ByteArray.empty]) 2 32 Tryz.underlying193 hi rq jS hO rfl (by decide) (.slice pa p0 p0) p0 (eY ps) rfl hold ⟨X4.heap.size,0,none⟩ 1 1 [.string ⟨xn.toArray⟩,.string ⟨yn.toArray⟩] rfl rfl (cK (cs:=#[.string ⟨xn.toArray⟩,.string ⟨yn.toArray⟩]) (t:=196) (fr:=(0,0)) (World.alloc_heap_new X4 _)) (by simp[Value.oneCell']) (by decide) (by unfold maxLen;omega) (by omega) ?_
   intro g cap X5 aC aq
   have sX:Below X4.heap.size X4 X5:=⟨aq.os.trans ls.os,aq.tape.trans ls.tape,aq.output.trans ls.output,Nat.le_trans ls.size aq.size,fun b hb=>(aq.block b (Nat.lt_of_lt_of_le hb ls.size) (by simp)).trans (ls.block b hb)⟩
   have MW:=bC sX kI.o
   have RG:=bC sX lX.o
   have Lk:=f9.o.trans (sX.mono f9.o.size)
   rw[<-ji (xn,yn) ps]at aC
   have nU:=PairsV.own aC
   have z5:X5.cell? ⟨w.heap.size,3,none⟩=some (.slice ub k1 ue):=ai MW 3
   clear kI lX f9 nK z3
   obtain ⟨kI,lX,f9,nK⟩:=eA MW RG Lk nU
   clear MW RG Lk nU aC aq ls sX hold
   refine ee hK ?_
   clear hK K
   refine b_ 13 rfl fun K hK=>?_
   go_simp
   refine ee hK ?_
   clear hK K
   refine cO (by kernel_rfl) ?_ _
   go_wp2
   go_loopw [80] (fun i wr=>∃k:Nat,k<=k1/\i=.int .i64 k/\Below X5.heap.size X5 wr/\R=cb (ps ++ [(xn,yn)]).reverse (xs.drop k) (ys.drop k)) (fun i _=>k1 - (intOf i).toNat)
   case atStart=>exact ⟨0,Nat.zero_le _,rfl,Below.refl _ _,by simpa using MV.o⟩
   case round=>
    have pp302b:=();exact pm302):G:=h
theorem pm18(h:G:=by
 cases S with
 | none=>
  go_wp2_with (go_at_call 229;refine HC.o.mono ?_;rintro e w2 ⟨⟨v2,rfl,iW⟩,bA⟩;obtain ⟨a2,c2,rfl⟩:=iW.slice;simp only[Option.getD,List.length_nil];have bZ:=ab (HB.o.trans (bA.mono HB.o.size));clear bA iW)
  go_roundw
  case rel=>exact ⟨k+1,by omega,by go_num,bZ.o,HT.o⟩
  case measure=>simp[intOf];omega
 | some p=>
  obtain ⟨z6,z7⟩:=Vm.o p rfl
  obtain ⟨p0,jM⟩:=ao p.length
  have nQ:0<p0:=by rw[jM];exact List.length_pos_iff.2 z6
  have WD:p0<=2000000:=by rw[jM];exact z7
  have L7:(0:Int)<(p0:Int):=by omega
  obtain ⟨vR,SQ⟩:=aS jM z6
  clear jM z6 z7 Vm
  go_wp2_with (first | (go_at_call 229;refine HC.o.mono ?_;rintro e w2 ⟨⟨v2,rfl,iW⟩,bA⟩;obtain ⟨a2,c2,rfl⟩:=iW.slice;simp only[Option.getD]at iW ⊢;obtain ⟨b2,off2,rfl,AI⟩:=iW.get SQ.o;have HO:=ab iW.olds;have bZ:=ab (HB.o.trans (bA.mono HB.o.size));rw[<-vR.o];clear bA iW AI) | (at_builtin;refine wpList_append_lies _ rfl _ _ 218 rfl 0 3 i0 (.int .i64 0) 1 8 Tryz.underlying218 hi rq jS hO rfl (by decide) _ 1 [.int .i64 (k:Int)] rfl (SN 0 (Nat.zero_le _) (aj rfl)) ⟨b2,off2,none⟩ p0 c2 (qL p) rfl (by rw[vR.o];simp[qL]) (fun j u h=>aa ct (HO.o j u h)) (by simp[qL,Value.oneCell']) nQ (by unfold maxLen;omega) (by omega) (Nat.zero_le _) (w2.heap.size+1) (by simp) ?_;intro g et w4 aR aq hg dS;have HG:=aF aR aq;clear aR aq hg dS))
  go_ret
  refine ⟨⟨_,rfl,?_⟩,?_⟩
  ·rw[HT.o]
   exact IntsV.own (l:=k :: p) HG.o.1
  ·have aN:Below w2.heap.size w2 w4:=by
    have hg:=HG.o.2
    have hs:=hg.size
    exact ⟨hg.os,hg.tape,hg.output,by simp at hs;omega,fun b hb=>(hg.block b (by simp;omega) (fun h=>by injection h with h;simp at h;omega)).trans (Below.heap_alloc _ _ _ hb)⟩
   exact bZ.o.trans (aN.mono bZ.o.size)):G:=h
theorem pm19(h:G:=by
 have pp121:=();exact pm121):G:=h
theorem pm20(h:G:=by
 have gz:Below wq.heap.size wq fv:=by rw[ui.o];exact (((Below.refl wq.heap.size wq).alloc (Nat.le_refl _) _).alloc (by simp) _).tr (eU _ _ _)
 have Dd:((wq.alloc (.cells #[.int .i64 j] 3)).alloc (.cells #[.int .u8 a0,.string a1,.slice a2 a3 a4,.slice a5 a6 a7,.int .u8 b0,.string b1,.slice b2 b3 b4,.slice b5 b6 b7] 50)).heap.size=wq.heap.size+1+1:=by simp
 have NB:fv.heap.size=wq.heap.size+1+1+2:=by rw[ui.o,jn,Dd]
 have xX:fv.heap[wq.heap.size+1+1]?=some (.cells #[.int .u8 a0,.string a1,.slice a2 a3 a4,.slice a5 a6 a7] 36 (0,0)):=by rw[ui.o,<-Dd];exact jX _ _ _
 have xY:fv.heap[wq.heap.size+1+1+1]?=some (.cells #[.int .u8 b0,.string b1,.slice b2 b3 b4,.slice b5 b6 b7] 36 (0,0)):=by rw[ui.o,<-Dd];exact jY _ _ _
 have xi:fv.heap[wq.heap.size]?=some (.cells #[.int .i64 j] 3 (0,0)):=by
  rw[ui.o]
  exact ((eU _ _ _).block _ (by simp;omega)).trans ((Below.heap_alloc _ _ _ (by simp)).trans (aj rfl))
 have NC:ny.heap.size<=wq.heap.size:=aZ.size
 have Qg:∀ b,M b->b<kJ.heap.size:=rl.o.2.2.2.2.1
 have CX:=rl.o.2.2.2.1
 have pT:=rl.o.2.2.2.2.2
 have I1:w.heap.size<=kJ.heap.size:=kz.o.2.2.1.size
 have Ue:∀ b,b<w.heap.size->fv.heap[b]?=w.heap[b]?:=fun b hb=>(gz.block b (Nat.lt_of_lt_of_le hb ky.size)).trans (ky.block b hb)
 have lu:FormV (fun b=>b<fv.heap.size/\¬M b) fv (FQ.val ⟨a0,a1,a2,a3,a4,a5,a6,a7⟩) s:=hs.move (fun b hb hlt=>⟨⟨by omega,fun hm=>by have:=zJ.o.1 b hm;omega⟩,Ue b hlt⟩)
 have rk:FormV (fun b=>b<fv.heap.size/\¬M b) fv (FQ.val ⟨b0,b1,b2,b3,b4,b5,b6,b7⟩) f:=hf.move (fun b hb hlt=>⟨⟨by omega,fun hm=>by have:=zJ.o.1 b hm;omega⟩,Ue b hlt⟩)
 first
 |clear pp20
  have zg:=zf
  simp only[Bool.and_eq_true]at zg
  have Ce:nodesF s<=400:=by have:=zg.1;unfold fC at this;simp only[Bool.and_eq_true,decide_eq_true_eq]at this;exact this.2.1
  have FP:¬M (wq.heap.size+1+1):=fun h=>by have:=Qg _ h;omega
  have T2:¬M (wq.heap.size+1+1+1):=fun h=>by have:=Qg _ h;omega
  have mR:=lA s f ne.2 (by omega) M fv.heap.size (wq.heap.size+1+1) (wq.heap.size+1+1+1) fv ⟨a0,a1,a2,a3,a4,a5,a6,a7⟩ ⟨b0,b1,b2,b3,b4,b5,b6,b7⟩ xX FP xY T2 lu rk
  have Yo:M (K0+1)/\M (K0+1+1)/\M aB/\M (aB+1)/\¬M (K0+1+1+1):=by rw[HM.o];have:=kz.o.2.1;omega
  have ND:=bC gz DJ
  have NE:=bC gz ej
  have NG:fv.heap[wr.heap.size]?=some (.cells #[(.func (.func 47) #[.pointer (some ⟨K0+1+1+1,0,none⟩)] #[])] 82 (0,0)):=(gz.block _ (by omega)).trans ((aZ.same _ (by omega) (fun h=>by have:=Qg _ h;omega)).trans rl.o.1)
  have Fq:Marks kJ.heap.size fv Uc:=uA.move (fun D hD hd=>(gz.block D (bl hd)).trans hd)
  have KI:=ab ((HV.o.2.2.1.next ky).next gz)
  have Ww:=ab mR
  have HI:=pI (dw.later gz) ND NE Bw xi NG
  have eJ:=ab (Z2 gz NB Fq aZ NC CX pT I1)
  have RJ:=ab fL
  have sZ:=ce Ce pN oA zf
  have uj:=ab Yo
  have kI:=ab ((gz.block _ (by have:=(bl iB.o);omega)).trans ((aZ.same _ (bl iB.o) zJ.o.2).trans iB.o))
  clear hs hf gz Dd NB xX xY xi NC CX pT I1 Ue lu rk zg Ce FP T2 mR Yo ND NE NG Fq dw aZ DJ ej uA pN oA fL Bw zf ne ky d0 d1 d2 d3 d4 d5 d6 d7 Ud hu
  have eg:∀ args W,(callFunc 102 args).run Tryz.prog W=.ok (.enter 102 args) W:=enters_of Tryz.func102 (by kernel_rfl) rfl
  refine fE rfl eg (fun b hb=>by have:=Qg b hb;have:=eJ.o;omega) Ww.o (fun _ _ _ h=>by obtain ⟨q,ps,rfl,_⟩:=h;rfl)
   (fun pre X=>∃(k':Bd) (uT r':Nat),j9 cm kj pre=(k',0)/\KnV (fun b=>¬M b) goodF goodT X (K0+1+1+1) (K0+1) (K0+1+1) uT r' k'/\uT<=KM+pre.length/\r'<=KN+pre.length * 400/\bU k'=true/\X.heap[aB+1]?=some (.cells #[.int .i64 0] 30 (0,0))/\X.heap[aB]?=some (.cells #[.int .i64 0] 3 (0,0))/\Kp M fv X)
   (fun c pre X=>c=.exit 2/\∃(k':Bd) (er:Int),er≠0/\j9 cm kj pre=(k',er)/\X.heap[aB+1]?=some (.cells #[.int .i64 er] 30 (0,0))/\X.heap[aB]?=some (.cells #[.int .i64 j] 3 (0,0))/\Kp M fv X)
   (fun s=>?hI) (fun c s=>?hIx) ⟨kj,KM,KN,rfl,HI.o.1,by simp,by simp,HI.o.2.2.2.1,HI.o.2.1,HI.o.2.2.1,Kp.refl _⟩ ?round ?done ?stop
  case hI=>
   exact pm186
  case hIx=>
   rintro X Y hn ⟨h1,k',er,h2,h3,h4,h5,h6⟩
   exact ⟨h1,k',er,h2,h3,hn.cells h4,hn.cells h5,mg h6 hn⟩
  case round=>
   rintro lR pre vs x W hl vQ ⟨k',uT,r',h1,h2,h3,h4,h5,h6,h7,h8⟩ ⟨q,ps,rfl,Ji,kP,rj,Ag,gh⟩ DD cV
   have pp26d:=();exact pm26
  case done=>
   exact pm44
  case stop=>
   have pp270:=();exact pm270
 |have zg:=zf
  simp only[Bool.and_eq_true]at zg
  have Ce:nodesF s<=400:=by have:=zg.1;unfold fC at this;simp only[Bool.and_eq_true,decide_eq_true_eq]at this;exact this.2.1
  have FP:¬M (wq.heap.size+1+1):=fun h=>by have:=Qg _ h;omega
  have T2:¬M (wq.heap.size+1+1+1):=fun h=>by have:=Qg _ h;omega
  have mR:=lA s f ne.2 (by omega) M fv.heap.size (wq.heap.size+1+1) (wq.heap.size+1+1+1) fv ⟨a0,a1,a2,a3,a4,a5,a6,a7⟩ ⟨b0,b1,b2,b3,b4,b5,b6,b7⟩ xX FP xY T2 lu rk
  have Yo:M (K0+1)/\M (K0+1+1)/\M aB/\M (aB+1)/\¬M (K0+1+1+1):=by rw[HM.o];have:=kz.o.2.1;omega
  have ND:=bC gz DJ
  have NE:=bC gz ej
  have NG:fv.heap[wr.heap.size]?=some (.cells #[(.func (.func 48) #[.pointer (some ⟨K0+1+1+1,0,none⟩)] #[])] 82 (0,0)):=(gz.block _ (by omega)).trans ((aZ.same _ (by omega) (fun h=>by have:=Qg _ h;omega)).trans rl.o.1)
  have Fq:Marks kJ.heap.size fv Uc:=uA.move (fun D hD hd=>(gz.block D (bl hd)).trans hd)
  have KI:=ab ((HV.o.2.2.1.next ky).next gz)
  have Ww:=ab mR
  have HI:=pI (dw.later gz) ND NE Bw xi NG
  have eJ:=ab (Z2 gz NB Fq aZ NC CX pT I1)
  have RJ:=ab fL
  have sZ:=ce Ce pN oA zf
  have uj:=ab Yo
  have kI:=ab ((gz.block _ (by have:=(bl iB.o);omega)).trans ((aZ.same _ (bl iB.o) zJ.o.2).trans iB.o))
  clear hs hf gz Dd NB xX xY xi NC CX pT I1 Ue lu rk zg Ce FP T2 mR Yo ND NE NG Fq dw aZ DJ ej uA pN oA fL Bw zf ne ky d0 d1 d2 d3 d4 d5 d6 d7 Ud hu
  have eg:∀ args W,(callFunc 102 args).run Tryz.prog W=.ok (.enter 102 args) W:=enters_of Tryz.func102 (by kernel_rfl) rfl
  refine fE rfl eg (fun b hb=>by have:=Qg b hb;have:=eJ.o;omega) Ww.o (fun _ _ _ h=>by obtain ⟨q,ps,rfl,_⟩:=h;rfl)
   (fun pre X=>∃(k':Bd) (uT r':Nat),j9 gP kj pre=(k',0)/\KnV (fun b=>¬M b) goodF goodT X (K0+1+1+1) (K0+1) (K0+1+1) uT r' k'/\uT<=KM+pre.length/\r'<=KN+pre.length * 400/\bU k'=true/\X.heap[aB+1]?=some (.cells #[.int .i64 0] 30 (0,0))/\X.heap[aB]?=some (.cells #[.int .i64 0] 3 (0,0))/\Kp M fv X)
   (fun c pre X=>c=.exit 2/\∃(k':Bd) (er:Int),er≠0/\j9 gP kj pre=(k',er)/\X.heap[aB+1]?=some (.cells #[.int .i64 er] 30 (0,0))/\X.heap[aB]?=some (.cells #[.int .i64 j] 3 (0,0))/\Kp M fv X)
   (fun s=>?hI) (fun c s=>?hIx) ⟨kj,KM,KN,rfl,HI.o.1,by simp,by simp,HI.o.2.2.2.1,HI.o.2.1,HI.o.2.2.1,Kp.refl _⟩ ?round ?done ?stop
  case hI=>
   exact pm186
  case hIx=>
   rintro X Y hn ⟨h1,k',er,h2,h3,h4,h5,h6⟩
   exact ⟨h1,k',er,h2,h3,hn.cells h4,hn.cells h5,mg h6 hn⟩
  case round=>
   rintro lR pre vs x W hl vQ ⟨k',uT,r',h1,h2,h3,h4,h5,h6,h7,h8⟩ ⟨q,ps,rfl,Ji,kP,rj,Ag,gh⟩ DD cV
   exact pm26
  case done=>
   exact pm44
  case stop=>
   exact pm270):G:=h
theorem pm21(h:G:=by
 have pp212a:=();exact pm212):G:=h
theorem pm22(h:G:=by
 refine bX [aE (.int .i64 i),
  aE (.int .i64 ((i+1:Nat):Int)),
  aE (.int .i64 ((i+1:Nat):Int))]
  3 3 uf (by kernel_rfl) (fun k hk=>?_) (fun A10 γ kJ h=>?_)
 ·match k,hk with
  | 0,_=>exact au (aE (.int .i64 i)) 10 (VZ 2 t10)
  | 1,_=>exact bG rfl 39 (.int .i64 i) (.int .i64 ((i+1:Nat):Int)) (am 0) (fun _ _ _ _=>by go_simp)
  | 2,_=>exact bF (aE (.int .i64 ((i+1:Nat):Int))) 40 (am 1)
  | k+3,hk=>exact absurd hk (by simp)
 have FA:=h.sz.trans uf
 have Ic:=h.df.trans If
 have FB:Below w.heap.size w kJ:=aG zw h.inv.1 (fun _ h=>h.elim)
 have pp76d:=();exact pm76):G:=h
theorem pm23(h:G:=by
 obtain ⟨qo,qn,qa,ql,qc,qb,qm,qe⟩:=q
 obtain ⟨sa,ss,hs,bD,dJ⟩:=aQ.1 hq
 exact pm170):G:=h
theorem pm24(h:G:=by
 have ll:=ab CC
 clear CC
 gi_wp2_with (gi_at_call 51;refine callsIn_wide.2 (ll.o.mono ?_);rintro e w5 ⟨p5,rfl,nU,a_⟩;obtain ⟨po,pn,pa,pl,pc,pb,pm,pe⟩:=p5;simp only at nU ⊢;have Cg:=ab (EA.o.later a_);have HP:=ab nU;have x1:=Cg.o.b1;have f0:=ai x1 0;have f1:=ai x1 1;have f2:=ai x1 2;have f3:=ai x1 3;have z0:=ae x1 0;have z1:=ae x1 1;have z2:=ae x1 2;have z3:=ae x1 3;clear a_ nU x1)
 have Ta:=EA.o.lt
 have x6:=kf (v0:=.int .u8 po) (v1:=.string pn) (v2:=.slice pa pl pc) (v3:=.slice pb pm pe) Cg.o.b1
 have k6:=di (W:=w5) (b:=w.heap.size+1+1) (v0:=.int .u8 po) (v1:=.string pn) (v2:=.slice pa pl pc) (v3:=.slice pb pm pe)
 obtain ⟨W6,cM⟩:=ao ((((w5.setCell ⟨w.heap.size+1+1,0,none⟩ (.int .u8 po)).setCell ⟨w.heap.size+1+1,1,none⟩ (.string pn)).setCell ⟨w.heap.size+1+1,2,none⟩ (.slice pa pl pc)).setCell ⟨w.heap.size+1+1,3,none⟩ (.slice pb pm pe))
 rw[<-cM]at x6 k6 ⊢
 clear cM
 have g0:W6.cell? ⟨w.heap.size+1+1,0,none⟩=some (.int .u8 po):=ai x6 0
 have g1:W6.cell? ⟨w.heap.size+1+1,1,none⟩=some (.string pn):=ai x6 1
 have g2:W6.cell? ⟨w.heap.size+1+1,2,none⟩=some (.slice pa pl pc):=ai x6 2
 have g3:W6.cell? ⟨w.heap.size+1+1,3,none⟩=some (.slice pb pm pe):=ai x6 3
 refine bodyPost_ret (v:=FQ.val ⟨po,pn,pa,pl,pc,pb,pm,pe⟩) (by simp[FQ.val,results,Tryz.results101,go_sem,g0,g1,g2,g3]) rfl ⟨⟨⟨po,pn,pa,pl,pc,pb,pm,pe⟩,rfl,tP.o ▸ HP.o.move (fun b hok hlt=>⟨by omega,k6.same b hlt (by omega)⟩)⟩,Below.kp1 Cg.o.below k6 (by omega)⟩):G:=h
theorem pm25(h:G:=by
 obtain ⟨uo,un,ua,ul,uc,ub,um,ue⟩:=u
 obtain ⟨vo,vn,va,vl,vc,vb,vm,ve⟩:=v
 have gW:=lv (c:=wb) ut Q5
 have uO:=(aZ.same _ (bl Ll.o) HWM.o.2).trans Ll.o
 have zaT:=aZ.size
 have zaU:k<sm:=by have:=fN.o;omega
 have zaV:k<fm:=by have:=fN.o;omega
 have ry:(pre ++ ([X] ++ aT wb (ss.take k) (fs.take k)) ++ bE wb ss[k] fs[k]) <+: xs:=by
  have h2:=mw.o
  rw[lw (c:=wb) (k:=k+1) (l:=ss) (m:=fs),gW]at h2
  obtain ⟨r,rfl⟩:=h2
  exact ⟨aT wb (ss.drop (k+1)) (fs.drop (k+1)) ++ r,by simp⟩
 obtain ⟨S,hS⟩:∃S:World->Prop,S=fun V=>Below wr.heap.size wr V:=⟨_,rfl⟩
 have p3:∀ V,S V->V.cell? ⟨W.heap.size,3,none⟩=some (.slice (some ⟨bs,os,none⟩) sm se):=fun V h=>by rw[hS]at h;exact aa h (ai uO 3)
 have p7:∀ V,S V->V.cell? ⟨W.heap.size,7,none⟩=some (.slice (some ⟨bf,of,none⟩) fm fe):=fun V h=>by rw[hS]at h;exact aa h (ai uO 7)
 have qs:∀ V,S V->V.cell? ⟨bs,os+k * 4,none⟩=some (.int .u8 uo)/\V.cell? ⟨bs,os+k * 4+1,none⟩=some (.string un)/\V.cell? ⟨bs,os+k * 4+2,none⟩=some (.slice ua ul uc)/\V.cell? ⟨bs,os+k * 4+3,none⟩=some (.slice ub um ue):=fun V h=>by rw[hS]at h;exact ⟨aa h d0,aa h d1,aa h d2,aa h d3⟩
 have qf:∀ V,S V->V.cell? ⟨bf,of+k * 4,none⟩=some (.int .u8 vo)/\V.cell? ⟨bf,of+k * 4+1,none⟩=some (.string vn)/\V.cell? ⟨bf,of+k * 4+2,none⟩=some (.slice va vl vc)/\V.cell? ⟨bf,of+k * 4+3,none⟩=some (.slice vb vm ve):=fun V h=>by rw[hS]at h;exact ⟨aa h g0,aa h g1,aa h g2,aa h g3⟩
 have dB:S wr.drew:=by rw[hS];exact (Below.refl _ _).drew
 first
 |clear pp25
  have tS:Kp M W3 wr.drew:=aZ.trans (Kp.below (Below.refl _ _).drew)
  have CC:=eM.o ss[k] (List.getElem_mem ut) fs[k] (RB.o.mem (List.getElem_mem Q5)) ps (by have:=vO.o.2.1 ss[k] (List.getElem_mem ut);omega) M B l J Jx xs (pre ++ ([X] ++ aT wb (ss.take k) (fs.take k))) wr.drew ⟨⟨uo,un,ua,ul,uc,ub,um,ue⟩,⟨vo,vn,va,vl,vc,vb,vm,ve⟩,ca,cl,cc⟩
   (fun b hb=>by have:=zF.o.1 b hb;show b<wr.heap.size;have:=yi.o.2.size;omega) ⟨by have:=zF.o.2.1;show l<wr.heap.size;have:=yi.o.2.size;omega,zF.o.2.2⟩ (fun t=>(HJ.o.1 t).mono (by show W.heap.size<=wr.heap.size;have:=yi.o.2.size;omega)) (fun t=>(HJ.o.2 t).mono (by show W.heap.size<=wr.heap.size;have:=yi.o.2.size;omega))
   (HY.o.later (yi.o.2.trans tS)) (hu.kp (yi.o.2.trans tS)) (hv.kp (yi.o.2.trans tS)) (HPz.o.kp tS) (by rw[show (ps).reverse=wb from wD.o];exact ry) (HJ.o.1 _ _ _ (Nw.below (Below.refl _ _).drew) hj)
  rw[show (ps).reverse=wb from wD.o]at CC
  simp only[PlQ.val,PlQ.cells]at CC
  obtain ⟨HC,HSu⟩:=aS CC gW
  have jA:=aF aZ tS
  clear hu hv ry CC gW hj aZ tS uO g_ hS c0 c1 c2 c3 e0 e1 e2 e3 d0 d1 d2 d3 g0 g1 g2 g3
  gi_wp2
  refine br S 15 (by kernel_rfl) dB (fun jr dt=>?_)
  refine bS 0 43 (.pointer (some ⟨W.heap.size,0,none⟩)) rfl dt fun eC=>?_
  simp only[ak]
  refine bS 1 44 (.pointer (some ⟨W.heap.size,3,none⟩)) rfl eC fun eX=>?_
  simp only[ak]
  refine dc 2 45 (.slice (some ⟨bs,os,none⟩) sm se) rfl (fun V hX=>by have h0:=p3 V hX;go_simp) eX fun fM=>?_
  simp only[ak]
  refine bS 3 46 (.int .i64 (k:Int)) rfl fM fun gE=>?_
  simp only[ak]
  refine bS 4 47 (.pointer (some ⟨bs,os+k * 4,none⟩)) rfl gE fun iu=>?_
  simp only[ak]
  refine dc 5 48 (.agg #[.int .u8 uo,.string un,.slice ua ul uc,.slice ub um ue]) rfl (fun V hX=>by obtain ⟨h0,h1,h2,h3⟩:=qs V hX;go_simp) iu fun iP=>?_
  simp only[ak]
  refine bS 6 49 (.pointer (some ⟨W.heap.size,4,none⟩)) rfl iP fun kV=>?_
  simp only[ak]
  refine bS 7 50 (.pointer (some ⟨W.heap.size,7,none⟩)) rfl kV fun pt=>?_
  simp only[ak]
  refine dc 8 51 (.slice (some ⟨bf,of,none⟩) fm fe) rfl (fun V hX=>by have h0:=p7 V hX;go_simp) pt fun EJ=>?_
  simp only[ak]
  refine bS 9 52 (.int .i64 (k:Int)) rfl EJ fun wd=>?_
  simp only[ak]
  refine bS 10 53 (.pointer (some ⟨bf,of+k * 4,none⟩)) rfl wd fun EK=>?_
  simp only[ak]
  refine dc 11 54 (.agg #[.int .u8 vo,.string vn,.slice va vl vc,.slice vb vm ve]) rfl (fun V hX=>by obtain ⟨h0,h1,h2,h3⟩:=qf V hX;go_simp) EK fun ML=>?_
  simp only[ak]
  refine bS 12 55 (.slice ca cl cc) rfl ML fun Pz=>?_
  simp only[ak]
  refine bS 13 56 (.agg #[.int .u8 uo,.string un,.slice ua ul uc,.slice ub um ue,.int .u8 vo,.string vn,.slice va vl vc,.slice vb vm ve,.slice ca cl cc]) rfl Pz fun Tr=>?_
  simp only[ak]
  refine bS 14 57 (.func (.yield l) #[] #[]) rfl Tr fun zaW=>?_
  simp only[ak]
  refine b_ 15 rfl fun K hK=>?_
  go_simp
  refine callsIn_wide.2 (HC.o.mono ?_)
  rintro e w3 (⟨rfl,n9,ju⟩ | ⟨rfl,MM⟩)
  ·refine ee hK ?_
   clear hK K
   have HH:=aF n9 ju
   clear n9 ju
   refine b_ 16 rfl fun K hK=>?_
   have pp86g:=();exact pm86
  ·refine ee hK ?_
   clear hK K
   have HH:=ab MM
   clear MM
   refine b_ 16 rfl fun K hK=>?_
   have pp86h:=();exact pm86
 |have tS:Kp M X5 wr.drew:=aZ.trans (Kp.below (Below.refl _ _).drew)
  have CC:=eM.o ss[k] (List.getElem_mem ut) fs[k] (RB.o.mem (List.getElem_mem Q5)) (ps ++ [(sn,fn)]) (by have:=vO.o.2.1 ss[k] (List.getElem_mem ut);simp;omega) M B l J Jx xs (pre ++ ([X] ++ aT wb (ss.take k) (fs.take k))) wr.drew ⟨⟨uo,un,ua,ul,uc,ub,um,ue⟩,⟨vo,vn,va,vl,vc,vb,vm,ve⟩,(some ⟨g,0,none⟩),(cl+1),cap⟩
   (fun b hb=>by have:=zF.o.1 b hb;show b<wr.heap.size;have:=yi.o.2.size;omega) ⟨by have:=zF.o.2.1;show l<wr.heap.size;have:=yi.o.2.size;omega,zF.o.2.2⟩ (fun t=>(HJ.o.1 t).mono (by show W.heap.size<=wr.heap.size;have:=yi.o.2.size;omega)) (fun t=>(HJ.o.2 t).mono (by show W.heap.size<=wr.heap.size;have:=yi.o.2.size;omega))
   (HY.o.later (yi.o.2.trans tS)) (hu.kp (yi.o.2.trans tS)) (hv.kp (yi.o.2.trans tS)) (HPz.o.kp tS) (by rw[show ((ps ++ [(sn,fn)])).reverse=wb from wD.o];exact ry) (HJ.o.1 _ _ _ (Nw.below (Below.refl _ _).drew) hj)
  rw[show ((ps ++ [(sn,fn)])).reverse=wb from wD.o]at CC
  simp only[PlQ.val,PlQ.cells]at CC
  obtain ⟨HC,HSu⟩:=aS CC gW
  have jA:=aF aZ tS
  clear hu hv ry CC gW hj aZ tS uO g_ hS c0 c1 c2 c3 e0 e1 e2 e3 d0 d1 d2 d3 g0 g1 g2 g3
  gi_wp2
  refine br S 15 (by kernel_rfl) dB (fun jr dt=>?_)
  refine bS 0 43 (.pointer (some ⟨W.heap.size,0,none⟩)) rfl dt fun eC=>?_
  simp only[ak]
  refine bS 1 44 (.pointer (some ⟨W.heap.size,3,none⟩)) rfl eC fun eX=>?_
  simp only[ak]
  refine dc 2 45 (.slice (some ⟨bs,os,none⟩) sm se) rfl (fun V hX=>by have h0:=p3 V hX;go_simp) eX fun fM=>?_
  simp only[ak]
  refine bS 3 46 (.int .i64 (k:Int)) rfl fM fun gE=>?_
  simp only[ak]
  refine bS 4 47 (.pointer (some ⟨bs,os+k * 4,none⟩)) rfl gE fun iu=>?_
  simp only[ak]
  refine dc 5 48 (.agg #[.int .u8 uo,.string un,.slice ua ul uc,.slice ub um ue]) rfl (fun V hX=>by obtain ⟨h0,h1,h2,h3⟩:=qs V hX;go_simp) iu fun iP=>?_
  simp only[ak]
  refine bS 6 49 (.pointer (some ⟨W.heap.size,4,none⟩)) rfl iP fun kV=>?_
  simp only[ak]
  refine bS 7 50 (.pointer (some ⟨W.heap.size,7,none⟩)) rfl kV fun pt=>?_
  simp only[ak]
  refine dc 8 51 (.slice (some ⟨bf,of,none⟩) fm fe) rfl (fun V hX=>by have h0:=p7 V hX;go_simp) pt fun EJ=>?_
  simp only[ak]
  refine bS 9 52 (.int .i64 (k:Int)) rfl EJ fun wd=>?_
  simp only[ak]
  refine bS 10 53 (.pointer (some ⟨bf,of+k * 4,none⟩)) rfl wd fun EK=>?_
  simp only[ak]
  refine dc 11 54 (.agg #[.int .u8 vo,.string vn,.slice va vl vc,.slice vb vm ve]) rfl (fun V hX=>by obtain ⟨h0,h1,h2,h3⟩:=qf V hX;go_simp) EK fun ML=>?_
  simp only[ak]
  refine bS 12 55 (.slice (some ⟨g,0,none⟩) (cl+1) cap) rfl ML fun Pz=>?_
  simp only[ak]
  refine bS 13 56 (.agg #[.int .u8 uo,.string un,.slice ua ul uc,.slice ub um ue,.int .u8 vo,.string vn,.slice va vl vc,.slice vb vm ve,.slice (some ⟨g,0,none⟩) (cl+1) cap]) rfl Pz fun Tr=>?_
  simp only[ak]
  refine bS 14 57 (.func (.yield l) #[] #[]) rfl Tr fun zaW=>?_
  simp only[ak]
  refine b_ 15 rfl fun K hK=>?_
  go_simp
  refine callsIn_wide.2 (HC.o.mono ?_)
  rintro e w3 (⟨rfl,n9,ju⟩ | ⟨rfl,MM⟩)
  ·refine ee hK ?_
   clear hK K
   have HH:=aF n9 ju
   clear n9 ju
   refine b_ 16 rfl fun K hK=>?_
   have pp86g:=();exact pm86
  ·refine ee hK ?_
   clear hK K
   have HH:=ab MM
   clear MM
   refine b_ 16 rfl fun K hK=>?_
   have pp86h:=();exact pm86):G:=h
theorem pm26(h:G:=by
 obtain ⟨⟨u0,u1,u2,u3,u4,u5,u6,u7⟩,⟨v0,v1,v2,v3,v4,v5,v6,v7⟩,ca,cl,cc⟩:=q
 simp only[PlQ.val,PlQ.cells]
 simp only at rj Ag gh
 have wF:lR<W.heap.size:=by obtain ⟨r,hr⟩:=vQ;exact (bl hr)
 have gC:Below W.heap.size W (W.alloc (.cells #[.int .u8 u0,.string u1,.slice u2 u3 u4,.slice u5 u6 u7,.int .u8 v0,.string v1,.slice v2 v3 v4,.slice v5 v6 v7,.slice ca cl cc] 89)):=ct
 first
 |clear pp26a
  have Qh:=bx h1 (bC gC h2) (h3.trans (Kp.below gC))
  have HQ:=ce rj gh Ji kP
  have HL:=pI hl vQ wF gC DD cV
  clear h1 h2 h3 rj Ag gh Ji kP hl vQ wF gC DD cV
  gi_wp2
  refine ⟨Kp.below HL.o.2.2.2.1,Qh.o,fun W2 fT sU gX=>?_⟩
  obtain ⟨g1,g2,g3⟩:=sU
  have pp13c:=();exact pm13
 |clear pp26b
  have Qh:=bx h1 (bC gC h2) (h3.trans (Kp.below gC))
  have HQ:=ce rj gh Ji kP
  have HL:=pI hl vQ wF gC DD cV
  clear h1 h2 h3 rj Ag gh Ji kP hl vQ wF gC DD cV
  gi_wp2
  refine ⟨Kp.below HL.o.2.2.2.1,Qh.o,fun W2 fT sU gX=>?_⟩
  obtain ⟨g1,g2,g3⟩:=sU
  have pp13d:=();exact pm13
 |clear pp26c
  have Qh:=ce h1 (bC gC h2) (bC gC h3) (h4.trans (Kp.below gC))
  have HQ:=ce rj gh Ji kP
  have HL:=pI hl vQ wF gC DD cV
  clear h1 h2 h3 h4 rj Ag gh Ji kP hl vQ wF gC DD cV
  gi_wp2
  refine ⟨Kp.below HL.o.2.2.2.1,Qh.o,fun W2 fT sU gX=>?_⟩
  obtain ⟨g1,g2,g3,g4⟩:=sU
  exact pm13
 |clear pp26d
  have Qh:=ab (Z2 h1 (h2.later gC) h3 h4 h5 (bC gC h6) (bC gC h7) (h8.trans (Kp.below gC)))
  have HQ:=eO rj Ag gh Ji kP
  have HL:=pI hl vQ wF gC DD cV
  clear h1 h2 h3 h4 h5 h6 h7 h8 rj Ag gh Ji kP hl vQ wF gC DD cV
  gi_wp2
  refine ⟨Kp.below HL.o.2.2.2.1,⟨k',uT,r',Qh.o⟩,fun W2 fT sU gX=>?_⟩
  obtain ⟨k2,nF2,Aj,g1,g2,g3,g4,g5,g6,g7,g8⟩:=sU
  have pp13a:=();exact pm13
 |have Qh:=ab (Z2 h1 (h2.later gC) h3 h4 h5 (bC gC h6) (bC gC h7) (h8.trans (Kp.below gC)))
  have HQ:=eO rj Ag gh Ji kP
  have HL:=pI hl vQ wF gC DD cV
  clear h1 h2 h3 h4 h5 h6 h7 h8 rj Ag gh Ji kP hl vQ wF gC DD cV
  gi_wp2
  refine ⟨Kp.below HL.o.2.2.2.1,⟨k',uT,r',Qh.o⟩,fun W2 fT sU gX=>?_⟩
  obtain ⟨k2,nF2,Aj,g1,g2,g3,g4,g5,g6,g7,g8⟩:=sU
  have pp13b:=();exact pm13):G:=h
theorem pm27(h:G:=by
 obtain ⟨W9,pM,x9,k9,_⟩:=Au xR (.slice none 0 0) (.slice none 0 0)
 have Ui:¬(aB=w.heap.size+1):=fun h=>zJ.o.2 (h ▸ uj.o.2.2.1)
 have Uj:¬(aB+1=w.heap.size+1):=fun h=>zJ.o.2 (h ▸ uj.o.2.2.2.1)
 have e4:=k9.cell (a:=⟨aB,0,none⟩) Ui e2
 have e5:=k9.cell (a:=⟨aB+1,0,none⟩) Uj e0
 rw[pM]at e4 e5
 clear pM x9 k9
 have zj:Below w.heap.size w X:=aG (aG rl.o.2.2.1 eJ.o.2.2.2.1 zJ.o.1) ((Kp.below eJ.o.1).trans h6) zJ.o.1
 have jq:Marks kJ.heap.size X ({ target:=.collected D,args:=#[] } :: Uc):=eJ.o.2.2.1.more (w':=X) (fun E hE hx=>(h6.same E (bl hx) (fun hm=>by have:=rl.o.2.2.2.2.1 E hm;omega)).trans hx) hD (by have:=eJ.o;omega) hd
 have HZ:=bx xR zj jq
 clear Ys Uh gh h3 h4 h5 h6 hd zj jq xR Yt
 gi_wp2_with fail
 gi_region
 all_goals
  gi_wp2_with fail
  obtain ⟨W8,kH,x8,k8,g0,g1⟩:=Au HZ.o.1 (.slice none 0 0) (.slice none 0 0)
  rw[<-kH,Exit.noGoto_ret]
  have rf:Below w.heap.size w W8.drew:=(Below.kp1 HZ.o.2.1 k8 (by omega)).drew
  refine dI (B:=kJ.heap.size) (HZ.o.2.2.move (w':=W8.drew) (fun E hE hd=>(k8.same E (bl hd) (by have:=(bl kz.o.2.2.2.2);omega)).trans hd)) (fun w' hn=>?_)
  have h0:=hn.cell (show W8.drew.cell? _=_ from g0)
  have h1:=hn.cell (show W8.drew.cell? _=_ from g1)
  exact ⟨.tuple #[.agg #[.slice none 0 0,.slice none 0 0],.int .i64 j,.int .i64 er],by simp[results,Tryz.results15,go_sem,h0,h1],⟨⟨⟨none,0,0,none,0,0⟩,by (rw[HE.o];try rfl),by rw[HE.o];exact mN⟩,ic rf (hn.mono kz.o.2.2.1.size)⟩⟩):G:=h
theorem pm28(h:G:=by
 go_simp
 refine hK _ _ (fun _=>by rw[dr.o];exact bY.trans (((Below.refl _ A).alloc (Nat.le_refl _) _).mono bY.size)) (fun _=>?_)
 clear hK K
 obtain ⟨qs,dZ,aC,fR⟩:=eq.o.row
 rw[dH.o]at dZ aC
 have mX:=bY.size
 have qw:=eq.o.size
 first
 |clear pp28a
  refine b_ 7 rfl fun K hK=>?_
  refine bq (.tmp 52) (.tmp 57) 33 rfl W1.heap.size 43 nZ (.agg #[.bool false,.string ByteArray.empty,.slice none 0 0]) 3 48 Tryz.underlying33 hi wy tu wT rfl (by decide) (.slice ra k rc) k _ rfl ((ba aC (fun b _ hlt=>bY.block b hlt)).alloc _) ⟨_,0,none⟩ 1 1 p.cells rfl rfl (cK (cs:=#[.bool p.v,.string p.n,.slice p.a p.l p.c]) (t:=43) (fr:=(0,0)) (World.alloc_heap_new A _)) (by simp[TQ.cells,Value.oneCell']) (by decide) (by unfold maxLen;omega) (by omega) (by simp;omega) (A.heap.size+1) (by simp) ?_
  intro g et w4 aR aq hg dS
  have h4:=eq.o.at4 (kk:=2) aC bY aq
  have cw:=eq.o.stepT (F:=2) (t:=(cC kd.ts sc a[k])) (g:=g) (cap:=et) (by rw[dH.o];exact aC) (by rw[dH.o];exact dZ) fR bY (hp:TermV (W2.heap.size<=·) A p.val (cC kd.ts sc a[k])) (by rw[dH.o];exact aR) aq hg rfl
  rw[dH.o,cE (cC kd.ts sc) a da]at cw
  have mY:=ab cw
  have d3:=h4.2.2
  have z3:=h4.2.1
  clear aR aq hg dS cw h4 aC dZ fR hp hA
  refine ee hK ?_
  clear hK K
  refine b_ 8 rfl fun K hK=>?_
  go_simp
  refine ee hK ?_
  clear hK K
  refine b_ 9 rfl fun K hK=>?_
  go_simp
  refine ee hK ?_
  clear hK K
  refine cO (by kernel_rfl) ?_ _
  gi_wp2
  go_roundw
  case rel=>exact ⟨k+1,by omega,by go_num,_,mY.o⟩
  case measure=>simp[intOf];omega
 |clear pp28b
  refine b_ 7 rfl fun K hK=>?_
  refine bq (.tmp 71) (.tmp 76) 33 rfl W1.heap.size 43 nZ (.agg #[.bool false,.string ByteArray.empty,.slice none 0 0]) 3 48 Tryz.underlying33 hi wy tu wT rfl (by decide) (.slice ra k1 rc) k1 _ rfl ((ba aC (fun b _ hlt=>bY.block b hlt)).alloc _) ⟨_,0,none⟩ 1 1 p.cells rfl rfl (cK (cs:=#[.bool p.v,.string p.n,.slice p.a p.l p.c]) (t:=43) (fr:=(0,0)) (World.alloc_heap_new A _)) (by simp[TQ.cells,Value.oneCell']) (by decide) (by unfold maxLen;omega) (by omega) (by simp;omega) (A.heap.size+1) (by simp) ?_
  intro g et w4 aR aq hg dS
  have h4:=eq.o.at4 (kk:=2) aC bY aq
  have cw:=eq.o.stepT (F:=2) (t:=(cC kd.ts c a[k1])) (g:=g) (cap:=et) (by rw[dH.o];exact aC) (by rw[dH.o];exact dZ) fR bY (hp:TermV (W2.heap.size<=·) A p.val (cC kd.ts c a[k1])) (by rw[dH.o];exact aR) aq hg rfl
  rw[dH.o,cE (cC kd.ts c) a da]at cw
  have mY:=ab cw
  have d3:=h4.2.2
  have z3:=h4.2.1
  clear aR aq hg dS cw h4 aC dZ fR hp hA
  refine ee hK ?_
  clear hK K
  refine b_ 8 rfl fun K hK=>?_
  go_simp
  refine ee hK ?_
  clear hK K
  refine b_ 9 rfl fun K hK=>?_
  go_simp
  refine ee hK ?_
  clear hK K
  refine cO (by kernel_rfl) ?_ _
  gi_wp2
  go_roundw
  case rel=>exact ⟨k1+1,by omega,by go_num,_,mY.o⟩
  case measure=>simp[intOf];omega
 |clear pp28c
  refine b_ 7 rfl fun K hK=>?_
  refine bq (.tmp 126) (.tmp 131) 34 rfl fX.heap.size 36 ID (.agg #[.int .u8 0,.string ByteArray.empty,.slice none 0 0,.slice none 0 0]) 4 72 Tryz.underlying34 hj kN zR Q7 rfl (by decide) (.slice ra k rc) k _ rfl ((ba aC (fun b _ hlt=>bY.block b hlt)).alloc _) ⟨_,0,none⟩ 1 1 p.cells rfl rfl (cK (cs:=#[.int .u8 p.o,.string p.n,.slice p.a p.l p.c,.slice p.b p.m p.e]) (t:=36) (fr:=(0,0)) (World.alloc_heap_new A _)) (by simp[FQ.cells,Value.oneCell']) (by decide) (by unfold maxLen;omega) (by omega) (by simp;omega) (A.heap.size+1) (by simp) ?_
  intro g et w4 aR aq hg dS
  have h4:=eq.o.at4 (kk:=3) aC bY aq
  have cw:=eq.o.stepF (F:=3) (t:=(cz kd c ss[k])) (g:=g) (cap:=et) (by rw[dH.o];exact aC) (by rw[dH.o];exact dZ) fR bY (hp:FormV (W2.heap.size<=·) A p.val (cz kd c ss[k])) (by rw[dH.o];exact aR) aq hg rfl
  rw[dH.o,cE (cz kd c) ss da]at cw
  have mY:=ab cw
  have d3:=h4.2.2
  have z3:=h4.2.1
  clear aR aq hg dS cw h4 aC dZ fR hp hA
  refine ee hK ?_
  clear hK K
  refine b_ 8 rfl fun K hK=>?_
  go_simp
  refine ee hK ?_
  clear hK K
  refine b_ 9 rfl fun K hK=>?_
  go_simp
  refine ee hK ?_
  clear hK K
  refine cO (by kernel_rfl) ?_ _
  gi_wp2
  go_roundw
  case rel=>exact ⟨k+1,by omega,by go_num,_,mY.o⟩
  case measure=>simp[intOf];omega
 |clear pp28d
  refine b_ 6 rfl fun K hK=>?_
  refine bq (.tmp 35) (.tmp 39) 33 rfl W1.heap.size 43 nZ (.agg #[.bool false,.string ByteArray.empty,.slice none 0 0]) 3 48 Tryz.underlying33 hi wy tu wT rfl (by decide) (.slice ra k rc) k _ rfl ((ba aC (fun b _ hlt=>bY.block b hlt)).alloc _) ⟨_,0,none⟩ 1 1 p.cells rfl rfl (cK (cs:=#[.bool p.v,.string p.n,.slice p.a p.l p.c]) (t:=43) (fr:=(0,0)) (World.alloc_heap_new A _)) (by simp[TQ.cells,Value.oneCell']) (by decide) (by unfold maxLen;omega) (by omega) (by simp;omega) (A.heap.size+1) (by simp) ?_
  intro g et w4 aR aq hg dS
  have h4:=eq.o.at4 (kk:=2) aC bY aq
  have cw:=eq.o.stepT (F:=2) (t:=(e_ f a[k])) (g:=g) (cap:=et) (by rw[dH.o];exact aC) (by rw[dH.o];exact dZ) fR bY (hp:TermV (W2.heap.size<=·) A p.val (e_ f a[k])) (by rw[dH.o];exact aR) aq hg rfl
  rw[dH.o,cE (e_ f) a da]at cw
  have mY:=ab cw
  have d3:=h4.2.2
  have z3:=h4.2.1
  clear aR aq hg dS cw h4 aC dZ fR hp hA
  refine ee hK ?_
  clear hK K
  refine b_ 7 rfl fun K hK=>?_
  go_simp
  refine ee hK ?_
  clear hK K
  refine b_ 8 rfl fun K hK=>?_
  go_simp
  refine ee hK ?_
  clear hK K
  refine cO (by kernel_rfl) ?_ _
  gi_wp2
  go_roundw
  case rel=>exact ⟨k+1,by omega,by go_num,_,mY.o⟩
  case measure=>simp[intOf];omega
 |clear pp28e
  refine b_ 5 rfl fun K hK=>?_
  refine bq (.tmp 21) (.tmp 24) 33 rfl W1.heap.size 43 nZ (.agg #[.bool false,.string ByteArray.empty,.slice none 0 0]) 3 48 Tryz.underlying33 hi wy tu wT rfl (by decide) (.slice e6 k1 e7) k1 _ rfl ((ba aC (fun b _ hlt=>bY.block b hlt)).alloc _) ⟨_,0,none⟩ 1 1 p.cells rfl rfl (cK (cs:=#[.bool p.v,.string p.n,.slice p.a p.l p.c]) (t:=43) (fr:=(0,0)) (World.alloc_heap_new A _)) (by simp[TQ.cells,Value.oneCell']) (by decide) (by unfold maxLen;omega) (by omega) (by simp;omega) (A.heap.size+1) (by simp) ?_
  intro g et w4 aR aq hg dS
  have h4:=eq.o.at4 (kk:=2) aC bY aq
  have cw:=eq.o.stepT (F:=2) (t:=(aK a[k1])) (g:=g) (cap:=et) (by rw[dH.o];exact aC) (by rw[dH.o];exact dZ) fR bY (hp:TermV (W2.heap.size<=·) A p.val (aK a[k1])) (by rw[dH.o];exact aR) aq hg rfl
  rw[dH.o,cE aK a da]at cw
  have mY:=ab cw
  have d3:=h4.2.2
  have z3:=h4.2.1
  clear aR aq hg dS cw h4 aC dZ fR hp hA
  refine ee hK ?_
  clear hK K
  refine b_ 6 rfl fun K hK=>?_
  go_simp
  refine ee hK ?_
  clear hK K
  refine b_ 7 rfl fun K hK=>?_
  go_simp
  refine ee hK ?_
  clear hK K
  refine cO (by kernel_rfl) ?_ _
  gi_wp2
  go_roundw
  case rel=>exact ⟨k1+1,by omega,by go_num,_,mY.o⟩
  case measure=>simp[intOf];omega
 |clear pp28f
  refine b_ 5 rfl fun K hK=>?_
  refine bq (.tmp 36) (.tmp 39) 34 rfl fX.heap.size 36 ID (.agg #[.int .u8 0,.string ByteArray.empty,.slice none 0 0,.slice none 0 0]) 4 72 Tryz.underlying34 hj kN zR Q7 rfl (by decide) (.slice ra k rc) k _ rfl ((ba aC (fun b _ hlt=>bY.block b hlt)).alloc _) ⟨_,0,none⟩ 1 1 p.cells rfl rfl (cK (cs:=#[.int .u8 p.o,.string p.n,.slice p.a p.l p.c,.slice p.b p.m p.e]) (t:=36) (fr:=(0,0)) (World.alloc_heap_new A _)) (by simp[FQ.cells,Value.oneCell']) (by decide) (by unfold maxLen;omega) (by omega) (by simp;omega) (A.heap.size+1) (by simp) ?_
  intro g et w4 aR aq hg dS
  have h4:=eq.o.at4 (kk:=3) aC bY aq
  have cw:=eq.o.stepF (F:=3) (t:=(bm s[k])) (g:=g) (cap:=et) (by rw[dH.o];exact aC) (by rw[dH.o];exact dZ) fR bY (hp:FormV (W2.heap.size<=·) A p.val (bm s[k])) (by rw[dH.o];exact aR) aq hg rfl
  rw[dH.o,cE bm s da]at cw
  have mY:=ab cw
  have d3:=h4.2.2
  have z3:=h4.2.1
  clear aR aq hg dS cw h4 aC dZ fR hp hA
  refine ee hK ?_
  clear hK K
  refine b_ 6 rfl fun K hK=>?_
  go_simp
  refine ee hK ?_
  clear hK K
  refine b_ 7 rfl fun K hK=>?_
  go_simp
  refine ee hK ?_
  clear hK K
  refine cO (by kernel_rfl) ?_ _
  gi_wp2
  go_roundw
  case rel=>exact ⟨k+1,by omega,by go_num,_,mY.o⟩
  case measure=>simp[intOf];omega
 |clear pp28g
  refine b_ 9 rfl fun K hK=>?_
  refine bq (.tmp 28) (.tmp 35) 33 rfl W1.heap.size 43 nZ (.agg #[.bool false,.string ByteArray.empty,.slice none 0 0]) 3 48 Tryz.underlying33 hi wy tu wT rfl (by decide) (.slice e6 k1 e7) k1 _ rfl ((ba aC (fun b _ hlt=>bY.block b hlt)).alloc _) ⟨_,0,none⟩ 1 1 p.cells rfl rfl (cK (cs:=#[.bool p.v,.string p.n,.slice p.a p.l p.c]) (t:=43) (fr:=(0,0)) (World.alloc_heap_new A _)) (by simp[TQ.cells,Value.oneCell']) (by decide) (by unfold maxLen;omega) (by omega) (by simp;omega) (A.heap.size+1) (by simp) ?_
  intro g et w4 aR aq hg dS
  have h4:=eq.o.at4 (kk:=2) aC bY aq
  have cw:=eq.o.stepT (F:=2) (t:=(jQ nx z a[k1])) (g:=g) (cap:=et) (by rw[dH.o];exact aC) (by rw[dH.o];exact dZ) fR bY (hp:TermV (W2.heap.size<=·) A p.val (jQ nx z a[k1])) (by rw[dH.o];exact aR) aq hg rfl
  rw[dH.o,cE (jQ nx z) a da]at cw
  have mY:=ab cw
  have d3:=h4.2.2
  have z3:=h4.2.1
  clear aR aq hg dS cw h4 aC dZ fR hp hA
  refine ee hK ?_
  clear hK K
  refine b_ 10 rfl fun K hK=>?_
  go_simp
  refine ee hK ?_
  clear hK K
  refine b_ 11 rfl fun K hK=>?_
  go_simp
  refine ee hK ?_
  clear hK K
  refine cO (by kernel_rfl) ?_ _
  gi_wp2
  go_roundw
  case rel=>exact ⟨k1+1,by omega,by go_num,_,mY.o⟩
  case measure=>simp[intOf];omega
 |refine b_ 7 rfl fun K hK=>?_
  refine bq (.tmp 95) (.tmp 100) 34 rfl fX.heap.size 36 ID (.agg #[.int .u8 0,.string ByteArray.empty,.slice none 0 0,.slice none 0 0]) 4 72 Tryz.underlying34 hj kN zR Q7 rfl (by decide) (.slice ra k rc) k _ rfl ((ba aC (fun b _ hlt=>bY.block b hlt)).alloc _) ⟨_,0,none⟩ 1 1 p.cells rfl rfl (cK (cs:=#[.int .u8 p.o,.string p.n,.slice p.a p.l p.c,.slice p.b p.m p.e]) (t:=36) (fr:=(0,0)) (World.alloc_heap_new A _)) (by simp[FQ.cells,Value.oneCell']) (by decide) (by unfold maxLen;omega) (by omega) (by simp;omega) (A.heap.size+1) (by simp) ?_
  intro g et w4 aR aq hg dS
  have h4:=eq.o.at4 (kk:=3) aC bY aq
  have cw:=eq.o.stepF (F:=3) (t:=(ep kk nx z s[k])) (g:=g) (cap:=et) (by rw[dH.o];exact aC) (by rw[dH.o];exact dZ) fR bY (hp:FormV (W2.heap.size<=·) A p.val (ep kk nx z s[k])) (by rw[dH.o];exact aR) aq hg rfl
  rw[dH.o,cE (ep kk nx z) s da]at cw
  have mY:=ab cw
  have d3:=h4.2.2
  have z3:=h4.2.1
  clear aR aq hg dS cw h4 aC dZ fR hp hA
  refine ee hK ?_
  clear hK K
  refine b_ 8 rfl fun K hK=>?_
  go_simp
  refine ee hK ?_
  clear hK K
  refine b_ 9 rfl fun K hK=>?_
  go_simp
  refine ee hK ?_
  clear hK K
  refine cO (by kernel_rfl) ?_ _
  gi_wp2
  go_roundw
  case rel=>exact ⟨k+1,by omega,by go_num,_,mY.o⟩
  case measure=>simp[intOf];omega):G:=h
theorem pm29(h:G:=by
 have pp215:=();exact pm215):G:=h
theorem pm30(h:G:=by
 go_wp2
 go_loopw [5] (fun i wr=>∃k:Nat,1<=k/\k<=s.size/\i=.int .i64 k/\kt j_ (s.data.toList.take k).tail=true/\∃n,wr=w.drewN n) (fun i _=>s.size - (intOf i).toNat)
 case atStart=>exact ⟨1,Nat.le_refl _,h1,rfl,by rw[List.take_one];cases s.data.toList <;> simp[kt],⟨_,rfl⟩⟩
 case round=>
  obtain ⟨k,iT,hk,rfl,ha,hw⟩:=hrel
  have Z4:wr.cell? ⟨b2,0,none⟩=some (.func (.func 189) #[] #[]):=by obtain ⟨n,rfl⟩:=hw;exact AI
  obtain ⟨HA,HW⟩:=aS ha hw
  clear ha d1 d2 hw Sy AI
  by_cases hlt:k<s.size
  ·cases hp:j_ s[k].toNat
   ·have HP:=ab hp
    have pp257:=();exact pm257
   ·have HP:=ab hp
    exact pm257
  ·obtain rfl:k=s.size:=by omega
   exact pm273):G:=h
theorem pm31(h:G:=by
 exact pm213):G:=h
theorem pm32(h:G:=by
 simp only[FQ.val,Value.agg.injEq,Array.mk.injEq,List.cons.injEq,and_true,Value.int.injEq,true_and,Value.string.injEq]at h1
 obtain ⟨rfl,rfl,rfl,rfl⟩:=h1
 first
 |clear pp32a
  obtain rfl:=xG.len
  obtain ⟨W2,aY⟩:=ao (w.alloc (.cells #[.int .u8 uo,.string ⟨xn.toArray⟩,.slice ua ul uc,.slice ub xs.length ue] 36))
  have bA:=cB aY
  have hX:=bN aY
  have C1:=IR xa (fun t _=>(L8 t)) x ok W2 ua ul uc hf.args (ej.later bA)
  have dD:=hf.subs.len
  have GF:=hf.subs
  have WE:=fun r=>rP (x:=x) (.mk uo xn xa xs) r
  have pU:=hf.1
  obtain ⟨R,hR⟩:=ao (ko x (.mk uo xn xa xs))
  have oI:=hR
  rw[ko]at oI
  rw[<-hR]at WE ⊢
  obtain ⟨S,hS⟩:=ao (dX x xa 0)
  rw[<-hS]at C1 oI
  have WF:∀ p,S=some p->p≠[]/\p.length<=2000000:=fun p hp=>by
   rw[hS]at hp
   exact ⟨tJ hp,Nat.le_trans (lr xa 0 p hp) hf.args.1⟩
  obtain ⟨k0,bO⟩:=ao xs.length
  rw[<-bO]at dD hX xG
  rw[<-bO]at aY
  rw[<-bO]
  obtain ⟨cY,L_,eM,HF,HX,bZ,eN,HC,HR,HSo⟩:=In bO xG ih GF hX bA aY C1 oI WF
  clear bO xG ih GF hX bA aY C1 oI WF hR hS hq ej hf WE
  unfold FQ.val
  go_enter Tryz.func165,Tryz.ntmps165
  cases S with
  | some p=>
   obtain ⟨z6,z7⟩:=HSo.o p rfl
   obtain ⟨p0,jM⟩:=ao p.length
   have nQ:0<p0:=by rw[jM];exact List.length_pos_iff.2 z6
   have L7:(0:Int)<(p0:Int):=by omega
   have vR:=ab jM
   clear jM z6 z7 HSo
   go_wp2_with (rw[<-eN.o];go_at_call 229;refine HC.o.mono ?_;rintro e w2 ⟨⟨v2,rfl,iW⟩,bA⟩;obtain ⟨a2,c2,rfl⟩:=iW.slice;simp only[Option.getD]at iW ⊢;have Et:=ab iW;have bp:=ab (bZ.o.trans (bA.mono bZ.o.size));rw[<-vR.o];clear bA iW)
   have HE:=ab (show R=some ([],p) by rw[HR.o])
   refine bodyPost_ret (v:=.tuple #[.slice none 0 0,.slice a2 p0 c2]) (by simp[results,Tryz.results165,go_sem]) rfl ⟨⟨_,_,rfl,?_,?_⟩,bp.o⟩
   ·rw[HE.o];exact IntsV.nil _
   ·rw[HE.o,vR.o];exact Et.o
  | none=>
   clear HSo
   go_wp2_with (rw[<-eN.o];go_at_call 229;refine HC.o.mono ?_;rintro e w2 ⟨⟨v2,rfl,iW⟩,bA⟩;obtain ⟨a2,c2,rfl⟩:=iW.slice;simp only[Option.getD,List.length_nil]at iW ⊢;have x3:w2.cell? ⟨w.heap.size,3,none⟩=some (.slice ub k0 ue):=aa bA (ai HX.o 3);have bp:=ab (bZ.o.trans (bA.mono bZ.o.size));clear bA iW)
   clear x3
   go_loopw [22] (fun i wr=>∃k:Nat,k<=k0/\i=.int .i64 k/\Below w.heap.size w wr/\R=ld x (xs.drop k) k) (fun i _=>k0 - (intOf i).toNat)
   case atStart=>exact ⟨0,Nat.zero_le _,rfl,bp.o,by simpa using HR.o⟩
   case round=>
    have pp301b:=();exact pm301
 |clear pp32b
  obtain rfl:=ej.len
  obtain rfl:=xG.len
  have WX:=aD.args.len
  have dD:=aD.subs.len
  have c9:=aD.name
  obtain ⟨A,hA⟩:=ao ((ar a).filter (fun x=>!bs.contains x))
  obtain ⟨bs',hbs⟩:∃bs':List Str,bs'=(if bn uo then nm :: bs else bs):=⟨_,rfl⟩
  have kO:aO bs (.mk uo nm a ss)=A ++ bj bs' ss:=by rw[hA,hbs];unfold aO;rfl
  rw[kO]at cV ⊢
  have wE:nodesF (.mk uo nm a ss)=ac a+ah ss+1:=by unfold nodesF;rfl
  obtain ⟨NF,hNF⟩:=ao (nodesF (.mk uo nm a ss))
  rw[<-hNF]at hn Vk ⊢
  rw[<-hNF]at wE
  obtain ⟨k0,bO⟩:=ao a.length
  obtain ⟨m0,du⟩:=ao ss.length
  rw[<-bO]at ej WX
  rw[<-du]at xG dD
  have OJ:=hq
  unfold FQ.val
  simp only
  rw[<-bO,<-du]
  obtain ⟨W1,bQ⟩:=ao (((W.alloc (.cells #[.int .u8 uo,.string ⟨nm.toArray⟩,.slice ua k0 uc,.slice ub m0 ue] 36)).alloc (.cells #[.map (some mb)] 198)).alloc (.cells #[.func (.yield l) #[] #[]] 113))
  have hZ:=vF bQ
  have gu:=F6 bQ
  have hx0:W1.heap[W.heap.size]?=some (.cells #[.int .u8 uo,.string ⟨nm.toArray⟩,.slice ua k0 uc,.slice ub m0 ue] 36 (0,0)):=by
   rw[bQ];exact (Below.heap_alloc _ _ _ (by simp;omega)).trans ((Below.heap_alloc _ _ _ (by simp)).trans (aj rfl))
  have tC:W1.heap[W.heap.size+1]?=some (.cells #[.map (some mb)] 198 (0,0)):=by
   rw[bQ];exact (Below.heap_alloc _ _ _ (by simp)).trans (aj (by simp))
  have pi:W1.heap[W.heap.size+2]?=some (.cells #[.func (.yield l) #[] #[]] 113 (0,0)):=by
   rw[bQ];exact aj (by simp)
  have WY:=hb.lt
  have hWs:=hk.size
  have WZ:∀ b,W0.heap.size<=b->b≠mb->¬(M b\/b=mb):=fun b h1 h2 h=>by
   rcases h with h | h
   ·have:=hM b h;omega
   ·exact h2 h
  have tN:Hd (W.heap.size<W1.heap.size/\¬(M W.heap.size\/W.heap.size=mb)/\W.heap.size+1<W1.heap.size/\¬(M (W.heap.size+1)\/W.heap.size+1=mb)/\W.heap.size+2<W1.heap.size/\¬(M (W.heap.size+2)\/W.heap.size+2=mb)):=
   ab ⟨by omega,WZ _ (by omega) (by omega),by omega,WZ _ (by omega) (by omega),by omega,WZ _ (by omega) (by omega)⟩
  have HMS:=ab WZ
  have eM:=ab (fun t ht=>ih t ht (aD.subs.mem ht))
  have Gk:FrJ J pre M W0 mb n bs l W.heap.size [] W1:=⟨by simpa using hJ _ _ _ (Nw.below hZ) hj,hk.trans (Kp.below hZ),hb.same (hZ.block mb WY),tC,pi⟩
  have hpa:(pre ++ (ar a).filter (fun x=>!bs.contains x)) <+: xs:=by rw[<-hA];exact iC cV
  have hG:=S6 (n:=n) (s:=W.heap.size) hM zG (by omega) hY aD.args hpa
  have Rl:=fun (wr:World) (h:W1.heap.size<=wr.heap.size)=>FrJ.abides (l:=l) (s:=W.heap.size) (mb:=mb) (n:=n) (bs:=bs) (pre:=pre) (M:=M) (B:=wr.heap.size) hJ (by omega) (by omega) (by omega)
  have HFT:=ab (fun t ht=>aD.args.mem (t:=t) ht)
  have sZ:Hd (n+2 * NF<4000000/\bs.length+NF<=4000000/\NF=ac a+ah ss+1/\bs'.length<=bs.length+1):=ab ⟨hn,Vk,wE,by rw[hbs];split <;> simp⟩
  obtain ⟨Gp,cY,fN,J2,L_,lI,dG,HS1,JL,iB⟩:=In c9 bO du ej xG bQ hZ gu hx0 tC
  obtain ⟨HX2,zF,S7⟩:=cf pi hM zG
  have HMW:=aF WY hWs
  obtain ⟨HJ,HY,mw,HJ1,HG,HFA,HA,f9⟩:=OY hJ hY cV Gk hG Rl hA hbs
  clear hq OJ ej xG aD ih bO du bQ hZ gu hx0 tC pi hM zG WY hWs hJ hY cV Gk hG Rl hA hbs kO wE hn Vk hj hk hb WZ hpa c9 hNF
  have hmf:∀ (fn:Fn) (first cap:Array Value) (w:World),(Instr.makeFunc fn first cap).run Tryz.prog w=.ok (.func fn first cap) w:=fun _ _ _ _=>rfl
  go_enter_defers Tryz.func149,Tryz.ntmps149
  have p2:W1.cell? ⟨W.heap.size,2,none⟩=some (.slice ua k0 uc):=ai JL.o 2
  go_wp2
  rw[<-lI.o]
  clear p2
  go_loopw [16] (fun i wr=>∃k:Nat,k<=k0/\i=.int .i64 k/\FrJ J pre M W0 mb n bs l W.heap.size (ar (a.take k)) wr/\Kp (fun b=>M b\/b=mb) W1 wr) (fun i _=>k0 - (intOf i).toNat)
  case atStart=>exact ⟨0,Nat.zero_le _,rfl,by simpa[ar] using HJ1.o,Kp.refl _⟩
  case round=>
   obtain ⟨k,hk,rfl,hj,iT⟩:=hrel
   by_cases hlt:k<k0
   ·have bc:=bR cY.o hlt
    obtain ⟨b,off,u,rfl,gV,hu,c0,c1,c2⟩:=J2.o.get bc
    have d0:=hj.kp.cell gV.2 c0
    have d1:=hj.kp.cell gV.2 c1
    have d2:=hj.kp.cell gV.2 c2
    have pp271:=();exact pm271
   ·obtain rfl:k0=k:=by omega
    have ht:a.take k0=a:=by rw[cY.o];exact List.take_length
    rw[ht]at hj
    have ID:=hj.j
    rw[<-HA.o]at ID
    exact pm267
 |clear pp32c
  obtain rfl:=EF.len
  have dD:=Tn.subs.len
  obtain ⟨m0,du⟩:=ao rW.length
  simp only at uO
  rw[<-du]at EF dD uO Tl
  obtain ⟨e0,e1,e2,e3,z0,z1,z2,z3⟩:=cW uO
  have Ip:(k:Int)<(n1:Int):=by omega
  have wa:=(aZ.same _ (by have:=HM.o.2.1;have:=H4.o.2.2.size;omega) (by rw[HM.o.1];simp)).trans ((H4.o.2.2.block _ (by have:=HM.o.2.1;omega)).trans HX.o.2.2)
  have nS:=H4.o.2.2.size
  have nP:=HM.o.2.1
  have az:Below w.heap.size w wr:=Below.kp1 (HM.o.2.2.trans (H4.o.2.2.mono (by omega))) (by have h:=aZ;rw[HM.o.1]at h;exact h) (by omega)
  by_cases hi:i0<m0
  ·have Pf:i0<rW.length:=by omega
   rw[List.getElem?_eq_getElem Pf]at FU
   obtain ⟨b2,off2,⟨uo,un,ua,ul,uc,ub,um,ue⟩,rfl,gV,hu,d0,d1,d2,d3⟩:=EF.get Pf
   simp only at FU d0 d1 d2 d3
   have hii:(i0:Int)<(m0:Int):=by omega
   have zaQ:¬((m0:Int)<=(i0:Int)):=by omega
   have CQ:=ef ⟨c0,⟨cn.toArray⟩,c2,c3,c4,some ⟨b2,off2,none⟩,m0,c7⟩ wr
   simp only[FQ.val]at CQ
   have FR:=ab CQ
   have Rt:=Tn.subs.mem (List.getElem_mem Pf)
   have bZ:=ab (OX uO aZ hu Rt aC Ka gV)
   have HD:=ce d0 d1 d2 d3
   have HZ:=bx nP nS aZ.size
   cases n_:bn c0 with
   | false=>
    rw[n_]at FR
    rw[if_neg (show ¬(bn c0=true) by rw[n_];simp)]at FU
    have HWk:=ab FU
    clear FU wa aZ Tl Tn aC Ka hcs GZ EF uO du nZ zO jt tu dD nS nP az CQ hu Rt gV d0 d1 d2 d3 n_
    go_wp2_with (go_at_call 93;refine FR.o.mono ?_;rintro e w8 ⟨rfl,f_⟩;have x8:=bC f_ bZ.o.1;obtain ⟨s0,s1,s2,s3,y0,y1,y2,y3⟩:=cW x8;have d0:=aa f_ HD.o.1;have d1:=aa f_ HD.o.2.1;have d2:=aa f_ HD.o.2.2.1;have d3:=aa f_ HD.o.2.2.2;have H8:=aF f_ x8;clear f_ x8)
    go_roundw
    case rel=>
     have x9:=kf (v0:=.int .u8 uo) (v1:=.string un) (v2:=.slice ua ul uc) (v3:=.slice ub um ue) H8.o.2
     have k9:=di (W:=w8) (b:=w.heap.size+1) (v0:=.int .u8 uo) (v1:=.string un) (v2:=.slice ua ul uc) (v3:=.slice ub um ue)
     rw[<-HM.o.1]at k9
     have kk:=bZ.o.2.1.trans ((Kp.below H8.o.1).trans k9)
     exact ⟨k+1,rW[i0],ins,⟨uo,un,ua,ul,uc,ub,um,ue⟩,by omega,by go_num,kk,x9,bZ.o.2.2.1.kp3 ((Kp.below H8.o.1).trans k9),bZ.o.2.2.2.1,bZ.o.2.2.2.2.1.held (fun b hb hlt=>((Kp.below H8.o.1).trans k9).same b hlt (by rw[HM.o.1];have:=HZ.o;omega)),by have:=bZ.o.2.2.2.2.2.1;omega,by rw[HWk.o]⟩
    case measure=>simp[intOf];omega
   | true=>
    rw[n_]at FR
    rw[if_pos n_]at FU
    have HWk:=ab FU
    have hrl:ins.reverse.length+1<=4000000:=by simp;omega
    have HRL:=ab hrl
    clear FU wa aZ Tl Tn aC Ka hcs GZ EF uO du nZ zO jt tu dD nS nP az CQ hu Rt gV d0 d1 d2 d3 n_ hrl
    go_wp2_with (first | (go_at_call 93;refine FR.o.mono ?_;rintro e w8 ⟨rfl,f_⟩;have x8:=bC f_ bZ.o.1;obtain ⟨s0,s1,s2,s3,y0,y1,y2,y3⟩:=cW x8;have H8:=aF f_ x8;clear f_ x8) | (at_builtin;refine dv rfl _ _ rfl w4.heap.size (by have:=HZ.o;have:=H8.o.1.size;simp;omega) u10 ins.reverse rfl ((bZ.o.2.2.2.2.1.later H8.o.1).later ct) (.slice (some ⟨w8.heap.size,0,none⟩) 1 1) [cn] rfl (fun _=>True) (yh (aj rfl)) HRL.o ?_;intro v9 w9 MD FV;have K9:Kp (fun b=>w4.heap.size<=b) wr w9:=Xn (H8.o.1.tr ct) FV (fun g hg=>(World.ownsRow.lt bZ.o.2.2.2.2.1 g hg).1);have x9:=(K9.same _ (bl bZ.o.1) (by have:=HZ.o;omega)).trans bZ.o.1;obtain ⟨s0,s1,s2,s3,y0,y1,y2,y3⟩:=cW x9;have hlo:¬w4.heap.size<=b2:=(by have:=HZ.o;have:=bZ.o.2.2.2.2.2.2.1;omega);have d0:=K9.cell hlo HD.o.1;have d1:=K9.cell hlo HD.o.2.1;have d2:=K9.cell hlo HD.o.2.2.1;have d3:=K9.cell hlo HD.o.2.2.2;have HG:=ce MD K9 x9 (mJ ((bZ.o.2.1.trans (Kp.below H8.o.1)).trans (Kp.below ct)) FV (fun g hg=>(World.ownsRow.lt bZ.o.2.2.2.2.1 g hg).1));clear MD FV K9 x9 hlo))
    go_roundw
    case rel=>
     have Ci:=kf (v0:=.int .u8 uo) (v1:=.string un) (v2:=.slice ua ul uc) (v3:=.slice ub um ue) HG.o.2.2.1
     have ME:=di (W:=w9) (b:=w.heap.size+1) (v0:=.int .u8 uo) (v1:=.string un) (v2:=.slice ua ul uc) (v3:=.slice ub um ue)
     rw[<-HM.o.1]at ME
     exact ⟨k+1,rW[i0],cn :: ins,⟨uo,un,ua,ul,uc,ub,um,ue⟩,by omega,by go_num,HG.o.2.2.2.trans ME,Ci,(bZ.o.2.2.1.move (fun b hb hlt=>⟨hb,HG.o.2.1.same b hlt (by have:=HZ.o;omega)⟩)).kp3 ME,bZ.o.2.2.2.1,by rw[List.reverse_cons];exact HG.o.1.held (fun b hb hlt=>ME.same b hlt (by rw[HM.o.1];have:=HZ.o;omega)),by have:=bZ.o.2.2.2.2.2.1;simp;omega,by rw[HWk.o]⟩
    case measure=>simp[intOf];omega
  ·have hge:(m0:Int)<=(i0:Int):=by omega
   have hng:¬((i0:Int)<(m0:Int)):=by omega
   have HE:=ab (show R=none by rw[HR.o,FU,List.getElem?_eq_none (by omega)])
   obtain ⟨f0,f1,f2,y0,y1,y2⟩:=fI wa
   have DE:=aF wa az
   clear FU wa aZ Tl Tn aC Ka hcs GZ EF uO du nZ zO jt tu dD nS nP az
   go_wp2
   obtain ⟨W6,cM,x6,k6,g0,g1,g2⟩:=rQ DE.o.1 (.bool false) (.string ⟨#[]⟩) (.slice none 0 0)
   rw[<-cM]
   refine bodyPost_ret (v:=.tuple #[TQ.val ⟨false,⟨#[]⟩,none,0,0⟩,.bool false]) (by simp[TQ.val,results,Tryz.results98,go_sem,g0,g1,g2]) rfl ⟨⟨⟨false,⟨#[]⟩,none,0,0⟩,by rw[HE.o];rfl,fun u hu=>by rw[HE.o]at hu;cases hu⟩,Below.kp1 DE.o.2 k6 (by omega)⟩
 |clear pp32d
  simp only at uO
  obtain ⟨wo,Me⟩:=ao wr
  subst Me
  have nP:=HM.o.2.1
  have nS:=H4.o.2.2.size
  have Xp:=aZ.size
  have az:Below w.heap.size w wo:=Below.kp1 (HM.o.2.2.trans (H4.o.2.2.mono (by omega))) (by have h:=aZ;rw[HM.o.1]at h;exact h) (by omega)
  have wa:=(aZ.same _ (by omega) (by rw[HM.o.1];simp)).trans ((H4.o.2.2.block _ (by omega)).trans HX.o.2.2)
  obtain ⟨W6,cM⟩:=ao (wo.alloc (.cells #[.bool false,.string ⟨#[]⟩,.slice none 0 0] 43))
  have cD:=cB cM
  have Vs:=DL cM
  have x6:=bN cM
  have Xq:=(cD.block _ (by omega)).trans wa
  obtain ⟨b3,SS,rfl,To⟩:=H4.o.2.1.get HN.o.2.2
  have Xr:b3≠w.heap.size+1:=H4.o.2.1.apart rfl HN.o.2.2 ((H4.o.2.2.block _ (by omega)).trans HX.o.2.1)
  have nQ:=List.length_pos_iff.2 HN.o.2.2
  have Xs:b3<w4.heap.size:=jK (To 0 nQ)
  have Xt:∀ j (h:j<pq.length),W6.cell? ⟨b3,SS+j,none⟩=some (.int .i64 (pq[j]:Nat)):=fun j h=>aa cD (aZ.cell (by rw[HM.o.1];exact Xr) (To j h))
  obtain ⟨R0,Rv⟩:=ao (le cas pq)
  have Pu:=HR.o
  rw[FU]at Pu
  simp only[mo,Fm.a]at Pu
  rw[<-Rv]at Pu
  have FW:=aF Pu Rv
  have Rw:=GZ.later cD
  have Xu:=Tn.args
  have f2:=ai uO 2
  have f26:=aa cD f2
  have HZ:=ce nP nS Xp Vs
  have H6:=ab (OX (az.tr cD) x6 Xq Xt Rw Xu Xs)
  have Xv:=aF aC Ka
  obtain ⟨Rx,Tp⟩:=aS cD cM
  obtain rfl:=GZ.len
  rw[cM]at f26
  clear FU Z9 Tl GZ EF Tn uO nP nS Xp az wa cD Vs x6 Xq To Xr nQ Xs Xt Rv Pu Rw Xu aC Ka aZ cM
  go_wp2_with fail
  rw[<-Tp.o]
  clear f2 f26
  go_loopw [14,54] (fun v i wr=>∃(j:Nat) (t:Tm) (l:List Tm) (tq:TQ) (la:Option Addr) (lc:Nat),j<=n2/\i=.int .i64 j/\v=.slice la l.length lc/\Kp (fun b=>b=wo.heap.size) W6 wr/\wr.heap[wo.heap.size]?=some (.cells #[.bool tq.v,.string tq.n,.slice tq.a tq.l tq.c] 43 (0,0))/\TermsV (fun b=>b<w.heap.size/\¬M b/\ok b) wr v l/\fitTs l/\(j<n2->R0=le l (pq.drop j))/\(0<j->TermV (fun b=>b<w.heap.size/\¬M b/\ok b) wr tq.val t/\fitT t/\(j=n2->R0=some t))) (fun _ i _=>n2 - (intOf i).toNat)
  case atStart=>exact ⟨0,.mk false [] [],cas,⟨false,⟨#[]⟩,none,0,0⟩,c2,c4,Nat.zero_le _,rfl,rfl,Kp.refl _,H6.o.2.1,H6.o.2.2.2.2.1,H6.o.2.2.2.2.2.1,fun _=>by simpa using FW.o.2,fun h=>absurd h (Nat.lt_irrefl _)⟩
  case round=>
   obtain ⟨j,t,l,⟨tv,tn,ta,tl,tc⟩,la,lc,hj,rfl,rfl,aZ,Cj,MF,uJ,Pv,cA⟩:=hrel
   by_cases e9:j<n2
   ·have hjp:=bR HN.o.2.1 e9
    have ci:=aZ.cell (a:=⟨b3,SS+j,none⟩) (show ¬(b3=wo.heap.size) by have:=HZ.o;have:=H6.o.2.2.2.2.2.2;omega) (H6.o.2.2.2.1 j hjp)
    obtain ⟨i0,nZ⟩:=ao (pq[j])
    have hw:=Pv e9
    rw[List.drop_eq_getElem_cons hjp,<-nZ]at hw
    rw[<-nZ]at ci
    have dD:=uJ.len
    obtain ⟨m0,du⟩:=ao l.length
    rw[<-du]at dD MF
    rw[<-du]
    have BI:(j:Int)<(n2:Int):=by omega
    simp only at Cj
    have wa:=(aZ.same _ (by have:=HZ.o;omega) (by have:=HZ.o;omega)).trans H6.o.2.2.1
    have Vt:Below w.heap.size w wr:=Below.kp1 H6.o.1 aZ (by have:=HZ.o;omega)
    by_cases hi:i0<m0
    ·have Pf:i0<l.length:=by omega
     have hii:(i0:Int)<(m0:Int):=by omega
     have zaQ:¬((m0:Int)<=(i0:Int)):=by omega
     obtain ⟨bt,zcF,⟨uv,un,ua,ul,uc⟩,rfl,gV,hu,d0,d1,d2⟩:=MF.get Pf
     have hf:=uJ.mem (List.getElem_mem Pf)
     obtain ⟨y,hy⟩:=ao (l[i0])
     rw[<-hy]at hu hf
     have hyy:l[i0]?=some y:=by rw[hy];exact List.getElem?_eq_getElem Pf
     obtain ⟨xv,xn,xa⟩:=y
     obtain ⟨s1,h2,ej⟩:=aP.1 hu
     exact pm111
    ·have hge:(m0:Int)<=(i0:Int):=by omega
     have hng:¬((i0:Int)<(m0:Int)):=by omega
     have HE:=ab (show R=none by rw[FW.o.1,hw,GY (List.getElem?_eq_none (by omega))])
     obtain ⟨f0,f1,f2,y0,y1,y2⟩:=fI wa
     have DE:=aF wa Vt
     clear Pv cA wa aZ uJ MF Cj du nZ hjp Vt hw dD
     go_wp2
     obtain ⟨W7,I0,x7,k7,g0,g1,g2⟩:=rQ DE.o.1 (.bool false) (.string ⟨#[]⟩) (.slice none 0 0)
     rw[<-I0]
     refine bodyPost_ret (v:=.tuple #[TQ.val ⟨false,⟨#[]⟩,none,0,0⟩,.bool false]) (by simp[TQ.val,results,Tryz.results98,go_sem,g0,g1,g2]) rfl ⟨⟨⟨false,⟨#[]⟩,none,0,0⟩,by rw[HE.o];rfl,fun u hu=>by rw[HE.o]at hu;cases hu⟩,Below.kp1 DE.o.2 k7 (by omega)⟩
   ·obtain rfl:j=n2:=by omega
    have nQ:0<j:=by rw[HN.o.2.1];exact List.length_pos_iff.2 HN.o.2.2
    obtain ⟨nV,ne,Rv⟩:=cA nQ
    have Rv:=Rv rfl
    simp only at Cj
    obtain ⟨wq,I1⟩:=ao wr
    subst I1
    have hzq:=aZ.size
    have Xp:=HZ.o.2.2.1
    have Vs:=HZ.o.2.2.2
    have MG:=HZ.o.2.1
    have nP:=HZ.o.1
    have wa:=(aZ.same _ (by omega) (by omega)).trans H6.o.2.2.1
    have Vt:Below w.heap.size w wq:=Below.kp1 H6.o.1 aZ (by omega)
    have Ry:=Xv.o.1.held (W':=wq) (fun b _ hlt=>(aZ.same b (by omega) (by omega)).trans (Rx.o.block b hlt))
    have AV:R=if (aI t).any ins.contains then none else some t:=by rw[FW.o.1,Rv]
    have CF:=kE t ne _ wq ⟨tv,tn,ta,tl,tc⟩ nV
    simp only[TQ.val]at CF
    obtain ⟨ns,Ce⟩:=ao (de (aI t))
    rw[<-Ce]at CF
    have lj:ns.length<=2000000:=by rw[Ce];have:=ei (aI t);have:=lm t;have:=ne.1;omega
    obtain ⟨n3,hn3⟩:=ao ns.length
    have zcG:n3<=2000000:=by omega
    obtain ⟨s0,s1,s2,y0,y1,y2⟩:=fI Cj
    have DG:=ab CF
    have HQ:=eO wa Vt Ry nV Cj
    have HRf:=aF AV Ce
    have HN3:=ab hn3
    have HZ7:=eO hzq Xp Vs MG nP
    clear Pv cA aZ Cj MF uJ nQ nV ne Rv wa Vt Ry AV CF Ce lj hn3 hzq Xp Vs MG nP
    go_wp2_with (go_at_call 166;refine DG.o.mono ?_;rintro e w7 ⟨⟨v7,rfl,Kb⟩,eT⟩;obtain ⟨a7,cc7,rfl⟩:=Kb.strs.slice;rw[<-HN3.o]at Kb ⊢;have H7:=aF Kb eT;clear Kb eT)
    clear s0 s1 s2 y0 y1 y2
    go_loopw [73] (fun i wr=>∃j3:Nat,j3<=n3/\i=.int .i64 j3/\wr=w7/\∀ y∈ns.take j3,ins.contains y=false) (fun i _=>n3 - (intOf i).toNat)
    case atStart=>exact ⟨0,Nat.zero_le _,rfl,rfl,by simp⟩
    case round=>
     obtain ⟨j3,n9,rfl,rfl,fP⟩:=hrel
     by_cases MH:j3<n3
     ·have Vu:=bR HN3.o MH
      obtain ⟨b7,zcH,rfl,_,ci⟩:=H7.o.1.strs.get Vu
      obtain ⟨nm,c9⟩:=ao (ns[j3])
      rw[<-c9]at ci
      have CT:=eG ins.reverse (by have:=Xv.o.2;simp;omega) nm _ wr u10 (HQ.o.2.2.1.later H7.o.2).strs
      have Vv:ins.reverse.contains nm=ins.contains nm:=by rw[Bool.eq_iff_iff,List.contains_iff_mem,List.contains_iff_mem,List.mem_reverse]
      rw[Vv]at CT
      have BI:(j3:Int)<(n3:Int):=by omega
      have wa:=bC H7.o.2 HQ.o.1
      cases hc:ins.contains nm with
      | true=>
       rw[hc]at CT
       have IV:=ab CT
       have HE:=ab (show R=none by rw[HRf.o.1,if_pos (List.any_eq_true.2 ⟨nm,(dj nm _).1 (by rw[<-HRf.o.2,c9];exact List.getElem_mem Vu),hc⟩)])
       obtain ⟨f0,f1,f2,y0,y1,y2⟩:=fI wa
       have DE:=aF wa (HQ.o.2.1.tr H7.o.2)
       have pp253:=();exact pm253
      | false=>
       rw[hc]at CT
       have IV:=ab CT
       have GN:=ab (show ∀ y∈ns.take (j3+1),ins.contains y=false by
        intro y hy
        rw[List.take_add_one,List.getElem?_eq_getElem Vu,<-c9]at hy
        rcases List.mem_append.1 hy with h | h
        ·exact fP y h
        ·obtain rfl:y=nm:=by simpa using h
         exact hc)
       exact pm253
     ·obtain rfl:j3=n3:=by omega
      rw[HN3.o,List.take_length]at fP
      have HE:=ab (show R=some t by
       rw[HRf.o.1,if_neg]
       intro h
       obtain ⟨y,hy,hc⟩:=List.any_eq_true.1 h
       have:=fP y (by rw[HRf.o.2];exact (dj y _).2 hy)
       rw[this]at hc
       cases hc)
      have wa:=bC H7.o.2 HQ.o.1
      have xtw:=bC H7.o.2 HQ.o.2.2.2.2
      obtain ⟨f0,f1,f2,y0,y1,y2⟩:=fI wa
      obtain ⟨t0,t1,t2,_,_,_⟩:=fI xtw
      have nV:=(HQ.o.2.2.2.1.later H7.o.2)
      have DE:=bx wa (HQ.o.2.1.tr H7.o.2) nV
      clear wa xtw fP nV
      go_wp2
      obtain ⟨W8,kH,x8,k8,g0,g1,g2⟩:=rQ DE.o.1 (.bool tv) (.string tn) (.slice ta tl tc)
      rw[<-kH]
      refine bodyPost_ret (v:=.tuple #[TQ.val ⟨tv,tn,ta,tl,tc⟩,.bool true]) (by simp[TQ.val,results,Tryz.results98,go_sem,g0,g1,g2]) rfl ⟨⟨⟨tv,tn,ta,tl,tc⟩,by rw[HE.o];rfl,fun u hu=>by rw[HE.o]at hu;cases hu;exact DE.o.2.2.move (fun b hb hlt=>⟨⟨hb.1,hb.2.2⟩,k8.same b hlt (by omega)⟩)⟩,Below.kp1 DE.o.2.1 k8 (by omega)⟩
 |clear pp32e
  obtain rfl:=ib.len
  obtain rfl:=lu.len
  have ki:=gB _ hs
  simp only[ks,Bool.and_eq_true,decide_eq_true_eq]at ki
  obtain ⟨n1,dT⟩:=ao a.length
  obtain ⟨m1,iR⟩:=ao ss.length
  rw[<-dT]at hq ib
  rw[<-iR]at hq
  rw[<-dT,<-iR]
  obtain ⟨R,hR⟩:=ao (gU k (.mk so n a ss))
  have hE:=hR
  rw[Ko]at hE
  rw[<-hR]
  have zX:ac a<=400:=by simp only[nodesF]at pA;omega
  have uK:∀ t∈a,fitT t:=fun t ht=>⟨by have:=fA ht;omega,lh (by omega) t (eB.1 ki.2.2.1 t ht)⟩
  have lj:=ki.2.1
  obtain ⟨W2,aY⟩:=ao ((w.alloc (.cells #[.int .u8 so,.string ⟨n.toArray⟩,.slice sa n1 sc,.slice sb m1 se,.int .u8 fo,.string fn,.slice fa fl fc,.slice fb fm fe,.slice ca cl cc] 89)).alloc (.cells #[.int .u8 so,.string ⟨n.toArray⟩,.slice sa n1 sc,.slice sb m1 se] 36))
  have bA:=j7 aY
  have x2:=iV aY
  have eu:=dw.later bA
  have OJ:=hq.later bA
  have EX:=ib.later bA
  obtain ⟨HE,eN⟩:=aS hE aY
  have H2:=bx bA x2 eu
  have HQ:=eO OJ EX hs uK ki
  have Kk:a.length<=2000000:=by have:=gy a;omega
  have HAl:=ab Kk
  clear hE hR hq ib lu hs uK ki aY bA x2 eu dw OJ EX dT iR zX Kk pA
  simp only[PlQ.val,PlQ.cells]
  by_cases iE:so=16
  ·subst iE
   have hE:=HE.o
   rw[if_neg (by decide)]at hE
   have pp83:=();exact pm83
  by_cases lK:so=15
  ·subst lK
   have hE:=HE.o
   rw[if_neg (by decide)]at hE
   exact pm77
  ·have gC:(so == 16)=false:=by simp[iE]
   have G9:(so == 15)=false:=by simp[lK]
   have SG:(so != 16)=true:=by simp[iE]
   have za0:(so != 15)=true:=by simp[lK]
   have hE:=HE.o
   rw[if_pos (by simp[SG,za0])]at hE
   obtain ⟨B,hB⟩:=ao (a.any (ip k.ts))
   rw[<-hB]at hE
   have CA:=qg (ip k.ts) a HAl.o kb W2 (fun t ht=>Al W2 _ _ _ kb mF mT nF nT k H2.o.2.2 t (HQ.o.2.2.2.1 t ht)) _ W2 sa n1 sc (Below.refl _ _) HQ.o.2.1
   rw[<-hB]at CA
   obtain ⟨CG,pB⟩:=aS CA hE
   clear hE CA hB
   go_enter Tryz.func124,Tryz.ntmps124
   go_upto_region 2 with fail
   rw[<-eN.o]
   obtain ⟨e0,e1,e2,e3,_,_,_,_⟩:=cW H2.o.2.1
   go_wp2_with (go_at_call 192;refine CG.o.mono ?_;rintro e w4 ⟨rfl,aN⟩;have H4:=ab aN;clear aN)
   go_ret
   exact ⟨by rw[pB.o];rfl,H2.o.1.tr H4.o⟩
 |clear pp32f
  obtain rfl:=ib.len
  obtain rfl:=lu.len
  have ki:=gB _ hs
  simp only[ks,Bool.and_eq_true,decide_eq_true_eq]at ki
  obtain ⟨n1,dT⟩:=ao a.length
  obtain ⟨m1,iR⟩:=ao ss.length
  rw[<-dT]at hq ib
  rw[<-iR]at hq
  rw[<-dT,<-iR]
  obtain ⟨R,hR⟩:=ao (kr k (.mk so n a ss))
  have hE:=hR
  rw[EZ]at hE
  rw[<-hR]
  have zX:ac a<=400:=by simp only[nodesF]at pA;omega
  have uK:fitTs a:=⟨by omega,ev (by omega) a ki.2.2.1⟩
  have lj:n.length<=2000000:=by have:=ki.2.1;omega
  obtain ⟨W2,aY⟩:=ao ((w.alloc (.cells #[.int .u8 so,.string ⟨n.toArray⟩,.slice sa n1 sc,.slice sb m1 se,.int .u8 fo,.string fn,.slice fa fl fc,.slice fb fm fe,.slice ca cl cc] 89)).alloc (.cells #[.int .u8 so,.string ⟨n.toArray⟩,.slice sa n1 sc,.slice sb m1 se] 36))
  have bA:=j7 aY
  have x2:=iV aY
  have eu:=dw.later bA
  obtain ⟨HE,eN⟩:=aS hE aY
  have H2:=bx bA x2 eu
  have HQ:=eO (hq.later bA) (ib.later bA) hs uK ki
  have HN:=ab dT
  have J_:n1<=2000000:=by have:=gy a;omega
  have MQ:=ab zX
  clear hE hR hq ib lu hs uK ki aY bA x2 eu dw dT iR zX pA
  simp only[PlQ.val,PlQ.cells]
  have jb:∀ f,Fence.wide.fn f:=fun _=>trivial
  obtain ⟨e0,e1,e2,e3,_,_,_,_⟩:=cW H2.o.2.1
  obtain ⟨⟨g0,g1,g2,g3,g4,g5,g6,g7⟩,nl,E0,Cf,_,_,sY⟩:=H2.o.2.2.formOf (x:=n) lj
  simp only[FQ.val]at sY
  obtain ⟨f,hf⟩:=ao (formOf k.fs n)
  rw[<-hf]at nl E0 Cf
  have hE:=HE.o
  rw[<-hf]at hE
  have tQ:=H2.o.2.2.fs.lt
  have su:=bx nl E0 Cf
  clear nl hf
  by_cases lK:so=15
  ·subst lK
   rw[if_pos rfl]at hE
   obtain ⟨m,hm⟩:=ao (nodesF f)
   rw[<-hm]at hE
   have pp88:=();exact pm88
  rw[if_neg lK]at hE
  have G9:(so == 15)=false:=by simp[lK]
  by_cases iE:so=16
  ·subst iE
   rw[if_pos rfl]at hE
   exact pm83
  rw[if_neg iE]at hE
  have gC:(so == 16)=false:=by simp[iE]
  have pB:=ab hE
  have EX:=HQ.o.2.1
  have TE:=ab EX
  clear hE E0 Cf sY tQ EX
  go_enter Tryz.func126,Tryz.ntmps126
  go_upto_region 2 with fail
  rw[<-eN.o]
  go_wp2_with fail
  clear e0 e1 e2 e3
  go_loopw [10,64] (fun r i wr=>∃j:Nat,j<=n1/\i=.int .i64 j/\r=.int .i64 ((dC k.ts (a.take j)+1:Nat):Int)/\Below W2.heap.size W2 wr) (fun _ i _=>n1 - (intOf i).toNat)
  case atStart=>exact ⟨0,Nat.zero_le _,rfl,by simp[dC],Below.refl _ _⟩
  case round=>
   obtain ⟨j,hj,rfl,rfl,az⟩:=hrel
   by_cases hlt:j<n1
   ·have kN:=bR HN.o hlt
    have pp219a:=();exact pm219
   ·obtain rfl:n1=j:=by omega
    have cA:a.take n1=a:=by rw[HN.o];exact List.take_length
    rw[cA]
    have HK:=ab (H2.o.1.tr az)
    clear az cA
    go_wp2
    go_ret
    exact ⟨by rw[pB.o];rfl,HK.o⟩
 |clear pp32g
  obtain rfl:=ib.len
  obtain rfl:=lu.len
  have ki:=gB _ hs
  simp only[ks,Bool.and_eq_true,decide_eq_true_eq]at ki
  obtain ⟨n1,dT⟩:=ao a.length
  obtain ⟨m1,iR⟩:=ao ss.length
  rw[<-dT]at hq ib
  rw[<-iR]at hq
  rw[<-dT,<-iR]
  obtain ⟨R,hR⟩:=ao (om k (.mk so n a ss))
  have hE:=hR
  rw[tW]at hE
  rw[<-hR]
  have zX:ac a<=400:=by simp only[nodesF]at pA;omega
  have uK:fitTs a:=⟨by omega,ev (by omega) a ki.2.2.1⟩
  have lj:n.length<=2000000:=by have:=ki.2.1;omega
  obtain ⟨W2,aY⟩:=ao ((w.alloc (.cells #[.int .u8 so,.string ⟨n.toArray⟩,.slice sa n1 sc,.slice sb m1 se,.int .u8 fo,.string fn,.slice fa fl fc,.slice fb fm fe,.slice ca cl cc] 89)).alloc (.cells #[.int .u8 so,.string ⟨n.toArray⟩,.slice sa n1 sc,.slice sb m1 se] 36))
  have bA:=j7 aY
  have x2:=iV aY
  have eu:=dw.later bA
  obtain ⟨HE,eN⟩:=aS hE aY
  have H2:=bx bA x2 eu
  have HQ:=eO (hq.later bA) (ib.later bA) hs uK ki
  have HN:=ab dT
  have J_:n1<=2000000:=by have:=gy a;omega
  have MQ:=ab zX
  clear hE hR hq ib lu hs uK ki aY bA x2 eu dw dT iR zX pA
  simp only[PlQ.val,PlQ.cells]
  have jb:∀ f,Fence.wide.fn f:=fun _=>trivial
  obtain ⟨e0,e1,e2,e3,_,_,_,_⟩:=cW H2.o.2.1
  obtain ⟨⟨g0,g1,g2,g3,g4,g5,g6,g7⟩,nl,E0,Cf,_,_,sY⟩:=H2.o.2.2.formOf (x:=n) lj
  simp only[FQ.val]at sY
  obtain ⟨f,hf⟩:=ao (formOf k.fs n)
  rw[<-hf]at nl E0 Cf
  have hE:=HE.o
  rw[<-hf]at hE
  have tQ:=H2.o.2.2.fs.lt
  have su:=bx nl E0 Cf
  clear nl hf
  by_cases lK:so=15
  ·subst lK
   rw[if_pos rfl]at hE
   have pp242:=();exact pm242
  rw[if_neg lK]at hE
  have G9:(so == 15)=false:=by simp[lK]
  by_cases iE:so=16
  ·subst iE
   rw[if_pos rfl]at hE
   have pp296:=();exact pm296
  rw[if_neg iE]at hE
  have gC:(so == 16)=false:=by simp[iE]
  have pB:=ab hE
  have EX:=HQ.o.2.1
  have TE:=ab EX
  clear hE E0 Cf sY tQ EX
  go_enter Tryz.func195,Tryz.ntmps195
  go_upto_region 2 with fail
  rw[<-eN.o]
  go_wp2_with fail
  clear e0 e1 e2 e3
  go_loopw [9,64] (fun r i wr=>∃j:Nat,j<=n1/\i=.int .i64 j/\OwnS W2.heap.size wr r (dm k.ts (a.take j))/\Below W2.heap.size W2 wr) (fun _ i _=>n1 - (intOf i).toNat)
  case atStart=>exact ⟨0,Nat.zero_le _,rfl,OwnS.nil _ _,Below.refl _ _⟩
  case round=>
   obtain ⟨j,hj,rfl,gJ,az⟩:=hrel
   by_cases hlt:j<n1
   ·have kN:=bR HN.o hlt
    have pp219b:=();exact pm219
   ·obtain rfl:n1=j:=by omega
    have cA:a.take n1=a:=by rw[HN.o];exact List.take_length
    rw[cA]at gJ
    have HK:=aF (H2.o.1.tr az) (gJ.base H2.o.1.size)
    clear az gJ cA
    go_wp2
    go_ret
    exact ⟨⟨_,rfl,by rw[pB.o];exact HK.o.2⟩,HK.o.1⟩
 |clear pp32h
  obtain rfl:=ib.len
  obtain rfl:=lu.len
  subst he
  obtain ⟨R,hR⟩:=ao (gP k ⟨.mk so n a s,F,ps.reverse⟩)
  rw[<-hR]
  have oI:=hR
  rw[Np]at oI
  obtain ⟨n1,dT⟩:=ao a.length
  obtain ⟨m1,iR⟩:=ao s.length
  rw[<-dT]at hs ib
  rw[<-iR]at hs lu
  rw[<-dT,<-iR]
  obtain ⟨W1,bQ⟩:=ao (W.alloc (.cells #[.int .u8 so,.string ⟨n.toArray⟩,.slice sa n1 sc,.slice sb m1 se,.int .u8 fo,.string fn,.slice fa fl fc,.slice fb fm fe,.slice ca cl cc] 89))
  have hb1:=cB bQ
  have jS:=DL bQ
  have x1:=bN bQ
  have ki:=gB _ hp.s
  simp only[ks,Bool.and_eq_true,decide_eq_true_eq]at ki
  have pU:=gB _ hp.f
  have aD:fitF F:=⟨by have:=hp.n;simp only at this;omega,jR (by omega) _ pU⟩
  obtain ⟨P0,P1,P2,P3,P4,P5,P6,P7⟩:=zP x1
  have P8:=ai x1 8
  by_cases iE:so=16
  ·subst iE
   obtain ⟨x,y,ej,F0,CU,aW⟩:=m8 hp rfl
   simp only[Fm.a]at ej
   simp only at aW
   obtain ⟨cF,uU⟩:=ao (cH x)
   rw[aW,<-uU]at oI
   rw[if_neg (by decide)]at oI
   simp only at oI
   have EY:=fK CU
   have Lo:cF.length<=17:=by rw[uU];have:=gM F0;simp[cH];omega
   have qZ:=dw.later hb1
   have DI:=fun (V:World) (h:Below W1.heap.size W1 V)=>eI (.mk 16 n a s) (by simp[Fm.a,ej]) (by simp[Fm.a,ej]) (fun t ht=>by
    have h2:=eB.1 ki.2.2.1 t (by simpa[Fm.a] using ht)
    obtain ⟨tv,tn,ta⟩:=t
    simp only[iS,Bool.and_eq_true,decide_eq_true_eq]at h2
    have:=h2.1
    simp only
    omega) _ V ⟨16,⟨n.toArray⟩,sa,n1,sc,sb,m1,se⟩ ((hs.later hb1).later h)
   simp only[FQ.val]at DI
   rw[aW,<-uU]at DI
   obtain ⟨XO,HR,HP⟩:=cf DI oI hp
   have HG:=eO ON OM OO Tv Tw
   have HV:=ce hf hc qZ (yw.next hb1)
   have HB:=ce pN oA hl gh
   have lI:=ab bQ
   have H1:=bx hb1 jS x1
   have HF:=eO aD ki.2.1 EY Lo CU
   have g0:W1.cell? ⟨kb,0,none⟩=some (.map (some mF)):=ai qZ.box 0
   have g1:W1.drew.cell? ⟨kb,0,none⟩=some (.map (some mF)):=ai qZ.box 0
   have g3:W1.drew.cell? ⟨W.heap.size,1,none⟩=some (.string ⟨n.toArray⟩):=P1
   have nY:Below W1.heap.size W1 (W1.alloc (.cells #[.int .u8 0,.string ⟨#[]⟩,.slice none 0 0,.slice none 0 0] 36)):=ct
   obtain ⟨g4,g5⟩:=wN nY g0 P1
   rcases qZ.fs.look Tryz.underlying9 Tryz.underlying145 kX (x:=n) (by have:=ki.2.1;omega) with ⟨hg,hlk⟩ | ⟨f,vf,hg,hvf,hlk⟩
   ·have l1:=(hlk W1.drew rfl).1
    have pp209:=();exact pm209
   ·obtain ⟨⟨Cs,Ct,Cu,Cv,Cw,Cx,Cy,Cz⟩,rfl,nl,EV⟩:=hvf
    simp only[FQ.val]at hlk
    have l1:=(hlk W1.drew rfl).1
    exact pm209
  ·have HE:=ab (show R=(k,0) by rw[oI,if_pos (by simp[iE])])
   have cv:(so == 16)=false:=by simp[iE]
   have lI:=ab bQ
   have FX:=aF hb1 (dw.later hb1)
   clear oI hR hp ON OM OO Tv Tw hs hf ib lu hc dw dT iR pN oA hl gh bQ hb1 jS aD ki pU yw pA x1
   exact pm161
 |clear pp32i
  obtain rfl:=ib.len
  obtain rfl:=lu.len
  have ki:=yO (gB _ hs)
  obtain ⟨n1,dT⟩:=ao a.length
  obtain ⟨m1,iR⟩:=ao ss.length
  rw[<-dT]at hq ib
  rw[<-iR]at hq lu
  rw[<-dT,<-iR]
  have g_:=dw.later cv
  have lj:n.length<=2000000:=by have:=ki.2.1;omega
  obtain ⟨W2,aY⟩:=ao ((w.alloc (.cells #[.int .u8 15,.string ⟨n.toArray⟩,.slice sa n1 sc,.slice sb m1 se] 36)).alloc (.cells #[.int .u8 0,.string ⟨#[]⟩,.slice none 0 0,.slice none 0 0] 36))
  have bA:=j7 aY
  have hO:=vE aY
  have x1:=rm aY
  have x2:=iV aY
  have eu:=g_.later bA
  have jb:∀ f,Fence.wide.fn f:=fun _=>trivial
  obtain ⟨RS,Cc⟩:=ao (cz kd c (.mk 15 n a ss))
  rw[<-Cc]
  obtain ⟨⟨g0,g1,g2,g3,g4,g5,g6,g7⟩,nl,E0,Cf,Pp,Pq,sY⟩:=eu.formOf (x:=n) lj
  simp only[FQ.val]at sY
  obtain ⟨f,hf⟩:=ao (formOf kd.fs n)
  rw[<-hf]at nl E0 Cf Pp Pq
  obtain ⟨S,hS⟩:∃S:World->Prop,S=fun V=>Below W2.heap.size W2 V:=⟨_,rfl⟩
  have ff:∀ V,S V->V.cell? ⟨kb,0,none⟩=some (.map (some mF))/\V.cell? ⟨w.heap.size,1,none⟩=some (.string ⟨n.toArray⟩)/\(Instr.lookup 145 (.map (some mF)) (.string ⟨n.toArray⟩) false).run Tryz.prog V=.ok (.agg #[.int .u8 g0,.string g1,.slice g2 g3 g4,.slice g5 g6 g7]) V:=fun V h=>by
   rw[hS]at h
   exact ⟨aa h (ai eu.box 0),aa h (ai x1 1),sY V (h.block _ eu.fs.lt)⟩
  have dB:S W2.drew:=by rw[hS];exact (Below.refl _ _).drew
  have hR:RS=f:=by rw[Cc,hf];simp only[cz,if_true]
  have ll:=ab (fun (V:World) (h:Below W2.heap.size W2 V)=>mI f E0 _ V ⟨g0,g1,g2,g3,g4,g5,g6,g7⟩ (nl.later h))
  have HB:=eO bA hO x1 x2 hR
  obtain ⟨eN,dr⟩:=aS aY hS
  simp only[FQ.val]at ll ⊢
  clear hS bA hO x1 x2 hR aY Cc hf nl E0 Cf Pp Pq sY eu g_ hq ib lu hL PP M_ dT iR cv ki lj hs
  go_enter Tryz.func72,Tryz.ntmps72
  go_upto_region 1 with fail
  rw[<-eN.o]
  have e0:=ai HB.o.2.2.1 0
  go_upto_region 3 with fail
  clear e0
  refine (wpIn_wide (n:=3)).1 ?_
  refine br S 8 (by kernel_rfl) dB (fun jr dt=>?_)
  refine bS 0 21 (.pointer (some ⟨kb,0,none⟩)) rfl dt fun NU=>?_
  simp only[ak]
  refine bS 1 22 (.pointer (some ⟨kb,0,none⟩)) rfl NU fun NV=>?_
  simp only[ak]
  refine bS 2 23 (.pointer (some ⟨kb,0,none⟩)) rfl NV fun Hu=>?_
  simp only[ak]
  refine dc 3 24 (.map (some mF)) rfl (fun V hX=>by obtain ⟨h0,h1,h2⟩:=ff V hX;go_simp) Hu fun NW=>?_
  simp only[ak]
  refine bS 4 25 (.pointer (some ⟨w.heap.size,1,none⟩)) rfl NW fun Uu=>?_
  simp only[ak]
  refine dc 5 26 (.string ⟨n.toArray⟩) rfl (fun V hX=>by obtain ⟨h0,h1,h2⟩:=ff V hX;go_simp) Uu fun hT5=>?_
  simp only[ak]
  refine dc 6 27 (.agg #[.int .u8 g0,.string g1,.slice g2 g3 g4,.slice g5 g6 g7]) rfl (fun V hX=>by obtain ⟨h0,h1,h2⟩:=ff V hX;go_simp) hT5 fun hT6=>?_
  simp only[ak]
  refine b_ 7 rfl fun K hK=>?_
  go_simp
  refine callsIn_wide.2 ((ll.o _ (by have h:=dt;rw[dr.o]at h;exact h)).mono ?_)
  rintro e w7 ⟨⟨p0,p1,p2,p3,p4,p5,p6,p7⟩,rfl,hp,eT⟩
  have H7:=ab (((Below.refl W2.heap.size W2).drew).trans eT)
  have HP7:=ab hp
  have x7:=bC H7.o HB.o.2.2.2.1
  have Hw:=ab x7
  obtain ⟨e0,e1,e2,e3,z0,z1,z2,z3⟩:=cW x7
  refine hK _ _ (fun _=>by rw[dr.o];exact H7.o) (fun _=>?_)
  clear hK K eT x7 hp
  refine b_ 8 rfl fun K hK=>?_
  go_simp
  refine ee hK ?_
  clear hK K
  refine cO (by kernel_rfl) ?_ _
  go_wp2
  have x6:=kf (v0:=.int .u8 p0) (v1:=.string p1) (v2:=.slice p2 p3 p4) (v3:=.slice p5 p6 p7) Hw.o
  have k6:=di (W:=w7) (b:=w.heap.size+1) (v0:=.int .u8 p0) (v1:=.string p1) (v2:=.slice p2 p3 p4) (v3:=.slice p5 p6 p7)
  obtain ⟨W6,cM⟩:=ao ((((w7.setCell ⟨w.heap.size+1,0,none⟩ (.int .u8 p0)).setCell ⟨w.heap.size+1,1,none⟩ (.string p1)).setCell ⟨w.heap.size+1,2,none⟩ (.slice p2 p3 p4)).setCell ⟨w.heap.size+1,3,none⟩ (.slice p5 p6 p7))
  rw[<-cM]at x6 k6 ⊢
  clear cM
  have g0:W6.cell? ⟨w.heap.size+1,0,none⟩=some (.int .u8 p0):=ai x6 0
  have g1:W6.cell? ⟨w.heap.size+1,1,none⟩=some (.string p1):=ai x6 1
  have g2:W6.cell? ⟨w.heap.size+1,2,none⟩=some (.slice p2 p3 p4):=ai x6 2
  have g3:W6.cell? ⟨w.heap.size+1,3,none⟩=some (.slice p5 p6 p7):=ai x6 3
  have sI:=Di (p:=⟨p0,p1,p2,p3,p4,p5,p6,p7⟩) (B:=w.heap.size+1) (HB.o.1.tr H7.o) (by omega) k6 (HP7.o.move (fun b hok _=>⟨by have:=HB.o.2.1;have h:W2.heap.size<=b:=hok;omega,rfl⟩))
  refine bodyPost_ret (v:=FQ.val ⟨p0,p1,p2,p3,p4,p5,p6,p7⟩) (by simp[FQ.val,results,Tryz.results72,go_sem,g0,g1,g2,g3]) rfl ⟨⟨⟨p0,p1,p2,p3,p4,p5,p6,p7⟩,rfl,?_⟩,sI.2⟩
  rw[HB.o.2.2.2.2]
  exact sI.1
 |clear pp32j
  obtain rfl:=ib.len
  obtain rfl:=lu.len
  have ki:=yO (gB _ hs)
  obtain ⟨n1,dT⟩:=ao a.length
  obtain ⟨m1,iR⟩:=ao ss.length
  rw[<-dT]at hq ib
  rw[<-iR]at hq lu
  rw[<-dT,<-iR]
  have g_:=dw.later cv
  have lj:n.length<=2000000:=by have:=ki.2.1;omega
  obtain ⟨W2,aY⟩:=ao ((w.alloc (.cells #[.int .u8 16,.string ⟨n.toArray⟩,.slice sa n1 sc,.slice sb m1 se] 36)).alloc (.cells #[.int .u8 0,.string ⟨#[]⟩,.slice none 0 0,.slice none 0 0] 36))
  have bA:=j7 aY
  have hO:=vE aY
  have x1:=rm aY
  have x2:=iV aY
  have eu:=g_.later bA
  have jb:∀ f,Fence.wide.fn f:=fun _=>trivial
  obtain ⟨RS,Cc⟩:=ao (cz kd c (.mk 16 n a ss))
  rw[<-Cc]
  obtain ⟨⟨g0,g1,g2,g3,g4,g5,g6,g7⟩,nl,E0,Cf,Pp,Pq,sY⟩:=eu.formOf (x:=n) lj
  simp only[FQ.val]at sY
  obtain ⟨f,hf⟩:=ao (formOf kd.fs n)
  rw[<-hf]at nl E0 Cf Pp Pq
  obtain ⟨x,y,ej,F0,CU,aW⟩:=iH hs
  obtain ⟨cF,uU⟩:=ao (cH x)
  have hR:RS=if gF cF f=0 then f else gS cF (termOf kd.ts y) f:=by rw[Cc,hf,uU,ej,t5];rfl
  rw[<-uU]at aW
  have EY:=fK CU
  have Lo:cF.length<=17:=by rw[uU];have:=gM F0;simp[cH];omega
  have DI:=eI (.mk 16 n a ss) (by simp[Fm.a,ej]) (by simp[Fm.a,ej]) (fun t ht=>by
   have h2:=eB.1 ki.2.2.1 t (by simpa[Fm.a] using ht)
   obtain ⟨tv,tn,ta⟩:=t
   simp only[iS,Bool.and_eq_true,decide_eq_true_eq]at h2
   have:=h2.1
   simp only
   omega) _ W2 ⟨16,⟨n.toArray⟩,sa,n1,sc,sb,m1,se⟩ (hq.later bA)
  simp only[FQ.val,aW]at DI
  obtain ⟨n0,rN⟩:=ao (gF cF f)
  rw[<-rN]at hR
  have FT:n0<=400:=by have:=nn cF f;omega
  have HB:=eO bA hO x1 x2 hR
  have su:=eO nl E0 Cf Pp Pq
  obtain ⟨HGl,FZ,eN,XO⟩:=eA sY eu aY DI
  have HY:=bx EY Lo FT
  have HN0:=ab rN
  have Mz:=ab (iU.next (cv.tr bA))
  clear bA hO x1 x2 hR nl E0 Cf Pp Pq sY eu aY DI EY Lo FT rN Cc hf ej F0 CU aW uU g_ hq ib lu hL PP M_ dT iR cv ki lj hs
  simp only[FQ.val]
  obtain ⟨c0,c1,c2,c3⟩:=lF HB.o.2.2.1
  go_enter Tryz.func72,Tryz.ntmps72
  go_upto_region 1 with fail
  rw[<-eN.o]
  go_upto_region 6 with (go_at_call 96;refine XO.o.mono ?_;rintro e w4 ⟨rfl,aN⟩;have H4:=ab aN;clear aN)
  clear c0 c1 c2 c3
  have aJ:Below w4.heap.size w4 (w4.alloc (.cells #[.int .u8 0,.string ⟨#[]⟩,.slice none 0 0,.slice none 0 0] 36)):=ct
  have nj:=FZ.o.later H4.o
  have k0:w4.cell? ⟨kb,0,none⟩=some (.map (some mF)):=ai nj.box 0
  have k1:w4.drew.cell? ⟨kb,0,none⟩=some (.map (some mF)):=k0
  have x14:=bC H4.o HB.o.2.2.1
  have e1:=ai x14 1
  have k3:w4.drew.cell? ⟨w.heap.size,1,none⟩=some (.string ⟨n.toArray⟩):=e1
  obtain ⟨k4,k5⟩:=wN aJ k0 e1
  have tQ:=nj.fs.lt
  have l1:=HGl.o w4.drew (H4.o.block _ FZ.o.fs.lt)
  have l2:=HGl.o (w4.alloc (.cells #[.int .u8 0,.string ⟨#[]⟩,.slice none 0 0,.slice none 0 0] 36)).drew ((Below.heap_alloc _ _ _ tQ).trans (H4.o.block _ FZ.o.fs.lt))
  obtain ⟨W3,cZ⟩:=ao (w4.alloc (.cells #[.int .u8 g0,.string g1,.slice g2 g3 g4,.slice g5 g6 g7] 36)).drew
  have Uv:Below w4.heap.size w4 W3:=by rw[cZ];exact ct.drew
  have y3:W3.heap[w4.heap.size]?=some (.cells #[.int .u8 g0,.string g1,.slice g2 g3 g4,.slice g5 g6 g7] 36 (0,0)):=by rw[cZ];exact aj rfl
  have H3:=bx (H4.o.tr Uv) y3 (FZ.o.later (H4.o.tr Uv))
  clear aJ nj x14 e1 tQ Uv y3
  go_region
  all_goals
   rw[<-cZ]
   clear cZ l1 l2 k0 k1 k3 k4 k5
   have Kr:=ab (fun (V:World) (h:Below W3.heap.size W3 V)=>ik cF f su.o.2.1 _ V ⟨g0,g1,g2,g3,g4,g5,g6,g7⟩ ((su.o.1.later H3.o.1).later h))
   have ll:=ab (fun (V:World) (h:Below W3.heap.size W3 V)=>mI f su.o.2.1 _ V ⟨g0,g1,g2,g3,g4,g5,g6,g7⟩ ((su.o.1.later H3.o.1).later h))
   simp only[FQ.val,<-HN0.o]at Kr ll
   obtain ⟨j0,j1,j2,j3,_,_,_,_⟩:=cW H3.o.2.1
   have VE:=ab (Kr.o W3 (Below.refl _ _))
   by_cases h0:n0=0
   ·have rq:((n0:Int) == 0)=true:=by simp;omega
    have pp164:=();exact pm164
   ·have rq:((n0:Int) == 0)=false:=by simp;omega
    have jS:¬((n0:Int)=0):=by omega
    have hO:decide ((n0:Int)=0)=false:=by simp;omega
    exact pm164
 |obtain rfl:=ib.len
  obtain rfl:=lu.len
  have ki:=yO (gB _ hs)
  obtain ⟨n1,dT⟩:=ao a.length
  obtain ⟨m1,iR⟩:=ao ss.length
  rw[<-dT]at hq ib
  rw[<-iR]at hq lu
  rw[<-dT,<-iR]
  have g_:=dw.later cv
  have lj:n.length<=2000000:=by have:=ki.2.1;omega
  obtain ⟨Wa,VX⟩:=ao ((w.alloc (.cells #[.int .u8 so,.string ⟨n.toArray⟩,.slice sa n1 sc,.slice sb m1 se] 36)).alloc (.cells #[.int .u8 0,.string ⟨#[]⟩,.slice none 0 0,.slice none 0 0] 36))
  have bA:=j7 VX
  have hO:=vE VX
  have x1:=rm VX
  have x2:=iV VX
  have eu:=g_.later bA
  have jb:∀ f,Fence.wide.fn f:=fun _=>trivial
  obtain ⟨RS,Cc⟩:=ao (cz kd c (.mk so n a ss))
  rw[<-Cc]
  have G9:(so == 15)=false:=by simp[lK]
  have gC:(so == 16)=false:=by simp[iE]
  have hfT:∀ t∈a,fitT t:=fun t ht=>⟨by have:=fA ht;simp only[nodesF]at pA;omega,lh (by omega) t (eB.1 ki.2.2.1 t ht)⟩
  have CF:=CW w lN kb mF mT nF nT kd g_ _ vL L c hL.strs (by omega) M_
  have rj:bn so=true->a=[]/\∃g,ss=[g]:=fun h=>(mL hs h).2
  have zcP:n1<=400:=by rw[dT];have:=gy a;simp only[nodesF]at pA;omega
  have zcQ:m1<=400:=by rw[iR];have:=ot ss;simp only[nodesF]at pA;omega
  obtain ⟨W1,bQ⟩:=ao (Wa.alloc (.cells #[.int .u8 so,.string ⟨n.toArray⟩,.slice none 0 0,.slice none 0 0] 36))
  have Qx:=cB bQ
  have y0:=bC Qx x1
  have y1:=bC Qx x2
  have y2:W1.heap[w.heap.size+1+1]?=some (.cells #[.int .u8 so,.string ⟨n.toArray⟩,.slice none 0 0,.slice none 0 0] 36 (0,0)):=by rw[bQ];exact aj (by rw[hO])
  have TP:=ab (Fills.start (R:=w.heap.size+1+1) (mk:=fun rr=>#[.int .u8 so,.string ⟨n.toArray⟩,rr,.slice none 0 0]) (Row:=fun r W=>RowT W1.heap.size r ((a.map (cC kd.ts c)).take 0) W) y2 (RowT.nil _ _))
  have dG:=ab (bA.tr Qx)
  obtain ⟨JL,iB⟩:=aS y0 y1
  have HW:=eO VX bQ hO x1 x2
  obtain ⟨dA,fg,HFT,YI,tN,Cq,eM,HQs⟩:=OY ib lu CF hfT dT iR IH rj
  have HL:=ce hL PP M_ cv
  have HP:=pI hs pA YH hsz Bw fB
  obtain ⟨OP,Ro⟩:=aS ki Cc
  have Mz:=ab (iU.next cv)
  have HQ0:=ab hq
  have By:=aF lK iE
  clear ib lu CF hfT dT iR IH rj hL PP M_ cv hs pA YH hsz Bw fB ki Cc iU hq bA hO x1 x2 Qx y0 y1 y2 bQ VX eu g_ dw lj
  simp only[FQ.val]
  obtain ⟨c0,c1,c2⟩:=lE HW.o.2.2.2.1
  rw[HW.o.1]at c0 c1 c2
  refine (callsIn_wide (n:=3)).1 ?_
  refine callsIn_of_wp Tryz.func72 rfl trivial ?_ rfl
  simp only[Tryz.ntmps72,List.size_toArray,List.length_cons,List.length_nil,Nat.reduceAdd,Nat.reduceSub,Array.replicate_succ,Array.replicate_zero,List.push_toArray,List.append_toArray,List.nil_append,List.cons_append]
  gi_wp2
  rw[<-HW.o.1,<-HW.o.2.1]
  clear c0 c1 c2
  gi_loopw [66] (fun i wr=>∃k1:Nat,k1<=n1/\i=.int .i64 k1/\∃row,Fills 36 (w.heap.size+1+1) W1.heap.size (fun rr=>#[.int .u8 so,.string ⟨n.toArray⟩,rr,.slice none 0 0]) (fun r W=>RowT W1.heap.size r ((a.map (cC kd.ts c)).take k1) W) W1 wr row) (fun i _=>n1 - (intOf i).toNat)
  case atStart=>exact ⟨0,Nat.zero_le _,rfl,_,TP.o⟩
  case round=>
   obtain ⟨k1,hk,rfl,row,hF⟩:=hrel;obtain ⟨Cd,Mj⟩:∃x,x=wr:=⟨_,rfl⟩;subst Mj
   have az:=hF.below dG.o (by omega)
   by_cases hlt:k1<n1
   ·have da:=bR tN.o hlt
    have pp66g:=();exact pm66
   ·obtain rfl:k1=n1:=by omega
    have cA:((a.map (cC kd.ts c)).take k1).length=k1:=by rw[List.length_take];have:=tN.o;simp;omega
    have jc:(a.map (cC kd.ts c)).take k1=(a.map (cC kd.ts c)):=List.take_of_length_le (by have:=tN.o;simp;omega)
    exact pm132):G:=h
theorem pm33(h:G:=by
 obtain ⟨b,off,u,rfl,gV,hu,c0,c1,c2⟩:=fg.o.get bc
 have pp294a:=();exact pm294):G:=h
theorem pm34(h:G:=by
 have HE:Hd (BX=false):=ab (hM.trans (by simp))
 clear hM qB oc zI cv
 have pp78f:=();exact pm78):G:=h
theorem pm35(h:G:=by
 unfold TQ.val at hs
 simp only[Value.agg.injEq,Array.mk.injEq,List.cons.injEq,and_true,Value.bool.injEq,Value.string.injEq]at hs
 obtain ⟨rfl,rfl,rfl⟩:=hs
 obtain rfl:=bD.len
 first
 |clear pp35a
  have cq:=aD.args.len
  obtain ⟨dA,mW,eM⟩:=cf bD aD.args ih
  obtain ⟨k0,bO⟩:=ao a.length
  rw[<-bO]at cq
  have cY:=ab bO
  clear hq bD aD ih
  unfold TQ.val
  rw[<-bO]
  clear bO
  refine (callsIn_wide (n:=3)).1 ?_
  refine callsIn_of_wp Tryz.func53 rfl trivial ?_ rfl
  simp only[Tryz.ntmps53,List.size_toArray,List.length_cons,List.length_nil,Nat.reduceAdd,Nat.reduceSub,Array.replicate_succ,Array.replicate_zero,List.push_toArray,List.append_toArray,List.nil_append,List.cons_append]
  have jb:∀ f,Fence.wide.fn f:=fun _=>trivial
  gi_wp2
  obtain ⟨W1,bQ⟩:=ao (((w.alloc (.cells #[.bool qv,.string ⟨n.toArray⟩,.slice qa k0 qc] 43)).alloc (.cells #[.bool false,.string ⟨#[]⟩,.slice none 0 0] 43)).alloc (.cells #[.bool qv,.string ⟨n.toArray⟩,.slice none 0 0] 43))
  have hZ:=vF bQ
  have x1:W1.heap[w.heap.size+1]?=some (.cells #[.bool false,.string ⟨#[]⟩,.slice none 0 0] 43 (0,0)):=by rw[bQ,Below.heap_alloc _ _ _ (by simp)];exact aj (by simp)
  have x2:=oa bQ
  rw[<-bQ]
  clear bQ
  obtain ⟨dG,iB⟩:=aS hZ x1
  have tp:=ab (Fills.start (R:=w.heap.size+1+1) (mk:=fun r=>#[.bool qv,.string ⟨n.toArray⟩,r]) (Row:=fun r W=>RowT W1.heap.size r (a.take 0) W) x2 (RowT.nil _ _))
  clear hZ x1 x2
  gi_loopw [14] (fun i wr=>∃k:Nat,k<=k0/\i=.int .i64 k/\∃row,Fills 43 (w.heap.size+1+1) W1.heap.size (fun r=>#[.bool qv,.string ⟨n.toArray⟩,r]) (fun r W=>RowT W1.heap.size r (a.take k) W) W1 wr row) (fun i _=>k0 - (intOf i).toNat)
  case atStart=>exact ⟨0,Nat.zero_le _,rfl,_,tp.o⟩
  case round=>
   have pp154b:=();exact pm154
 |clear pp35b
  have cq:=aD.args.len
  have lj:=aD.name
  obtain ⟨dA,mW,eM⟩:=cf bD aD.args ih
  obtain ⟨k0,bO⟩:=ao a.length
  rw[<-bO]at cq
  have cY:=ab bO
  clear hq bD aD ih
  unfold TQ.val
  rw[<-bO]
  clear bO
  cases qv with
  | false=>
   have hp:aK (.mk false n a)=.mk false n (a.map aK):=by simp[aK,jT]
   rw[hp]
   clear hp
   exact pm118
  | true=>
   cases hh:dy n with
   | false=>
    have hp:aK (.mk true n a)=.mk true n (a.map aK):=by simp[aK,jT,hh]
    rw[hp]
    clear hp
    have pp14:=();exact pm14
   | true=>
    obtain ⟨r,rfl⟩:∃r,n=63 :: r:=qu (by
     cases h2:(n.head? == some 63)
     ·simp[dy,h2]at hh
     ·rfl)
    have hp:aK (.mk true (63 :: r) a)=.mk true r (a.map aK):=by simp[aK,jT,hh]
    rw[hp]
    clear hp
    obtain ⟨n,hn⟩:=ao (63 :: r)
    rw[<-hn]at hh lj ⊢
    have hx:=ir 63 r
    have hsz:(⟨n.toArray⟩:ByteArray).size=r.length+1:=by rw[hn,gi];rfl
    have hx':(⟨n.toArray⟩:ByteArray).extract 1 (r.length+1)=⟨r.toArray⟩:=by rw[hn];exact hx
    have hr1:r.length+1<=2000000:=by rw[hn]at lj;simpa using lj
    clear hx hn
    exact pm14
 |clear pp35c
  have cq:=aD.args.len
  have lj:=aD.name
  have qA:n.length<=1000000000:=by omega
  have n8:=ab hok
  have eM:=ab (fun t ht=>ih t ht (aD.args.mem ht))
  have qB:1<=nodesT (.mk qv n a):=iq _
  have oc:1<=cR (.mk qv n a):=by unfold cR;omega
  obtain ⟨k0,bO⟩:=ao a.length
  have HB:=ab (show Below w.heap.size w (w.alloc (.cells #[.bool qv,.string ⟨n.toArray⟩,.slice qa k0 qc] 43)) from ct)
  have Gk:JAt J sc left bh (w.alloc (.cells #[.bool qv,.string ⟨n.toArray⟩,.slice qa k0 qc] 43)):=hJ.later HB.o
  have zam:J<w.heap.size:=(bl hJ)
  obtain ⟨dA,HJ⟩:=aS bD hJ
  rw[<-bO]at cq
  clear hq bD aD ih hok hJ
  unfold TQ.val
  rw[<-bO]
  have cY:=ab bO
  clear bO
  by_cases JN:1<=left/\aX<=bh
  ·obtain ⟨O6,SE⟩:=JN
   have C1:=ab (D1 J sc left bh aX _ Gk O6 h1 SE)
   have gX:Kp (fun c=>c=J) w ((w.alloc (.cells #[.bool qv,.string ⟨n.toArray⟩,.slice qa k0 qc] 43)).setCell ⟨J,1,none⟩ (.int .i64 (left - 1))):=(Kp.below HB.o).trans (mZ _)
   have uC:=Gk.set (left - 1)
   have hx:((w.alloc (.cells #[.bool qv,.string ⟨n.toArray⟩,.slice qa k0 qc] 43)).setCell ⟨J,1,none⟩ (.int .i64 (left - 1))).heap[w.heap.size]?=some (.cells #[.bool qv,.string ⟨n.toArray⟩,.slice qa k0 qc] 43 (0,0)):=(Below.heap_setCell _ _ _ _ (by show w.heap.size≠J;omega)).trans (aj rfl)
   have m5:=bx gX uC hx
   have LQ:TermsV ok ((w.alloc (.cells #[.bool qv,.string ⟨n.toArray⟩,.slice qa k0 qc] 43)).setCell ⟨J,1,none⟩ (.int .i64 (left - 1))) (.slice qa k0 qc) a:=by
    have h:=dA.o.move (ok':=ok) (fun b hb hlt=>⟨hb,gX.same b hlt (n8.o b hb)⟩)
    rwa [<-cY.o]at h
   have Ws:=ab LQ
   obtain ⟨W2,aY⟩:=ao ((w.alloc (.cells #[.bool qv,.string ⟨n.toArray⟩,.slice qa k0 qc] 43)).setCell ⟨J,1,none⟩ (.int .i64 (left - 1)))
   rw[<-aY]at m5 C1 Ws
   clear gX uC hx Gk dA LQ aY
   have g0:W2.cell? ⟨w.heap.size,0,none⟩=some (.bool qv):=ai m5.o.2.2 0
   have g1:W2.cell? ⟨w.heap.size,1,none⟩=some (.string ⟨n.toArray⟩):=ai m5.o.2.2 1
   have g2:W2.cell? ⟨w.heap.size,2,none⟩=some (.slice qa k0 qc):=ai m5.o.2.2 2
   cases qv with
   | true=>
    by_cases ha:a=[]
    ·subst ha
     have zan:k0=0:=by rw[cY.o];rfl
     subst zan
     have nN:nodesT (.mk true n [])=1:=rfl
     have Lg:cR (.mk true n [])=1:=rfl
     have hb:(iX sc (.mk true n []) && (decide ((nodesT (.mk true n []):Int)<=left) && decide (aX+cR (.mk true n [])<=bh+1)))=(fQ n || (sc && cG n)):=by
      rw[nN,Lg]
      have e1:decide (((1:Nat):Int)<=left)=true:=by simp;omega
      have e2:decide (aX+((1:Nat):Int)<=bh+1)=true:=by simp;omega
      simp only[iX,if_true,List.isEmpty_nil,Bool.true_and,e1,e2,Bool.and_true]
     rw[nN]at hn
     cases hv:fQ n with
     | true=>
      have CV:=ab (fun w=>hv ▸ gH n w qA)
      have HE:=ab (hb.trans (by rw[hv] <;> rfl))
      clear hv hb nN Lg qB oc
      have pp99a:=();exact pm99
     | false=>
      have CV:=ab (fun w=>hv ▸ gH n w qA)
      cases sc with
      | false=>
       have HE:=ab (hb.trans (by rw[hv] <;> rfl))
       clear hv hb nN Lg qB oc
       have pp99b:=();exact pm99
      | true=>
       cases ht:cG n with
       | true=>
        have pp70:=();exact pm70
       | false=>
        exact pm70
    ·have aZ:0<k0:=by rw[cY.o];exact List.length_pos_iff.2 ha
     have iT:((k0:Int) == 0)=false:=by simp;omega
     have HE:=ab (show (iX sc (.mk true n a) && (decide ((nodesT (.mk true n a):Int)<=left) && decide (aX+cR (.mk true n a)<=bh+1)))=false by
      have:a.isEmpty=false:=by cases a with | nil=>exact absurd rfl ha | cons x y=>rfl
      simp[iX,this])
     have HN:=ab qB
     clear qB oc ha
     have pp99c:=();exact pm99
   | false=>
    have nN:nodesT (.mk false n a)=ac a+1:=rfl
    have Lg:cR (.mk false n a)=bz a+1:=rfl
    have hb:(iX sc (.mk false n a) && (decide ((nodesT (.mk false n a):Int)<=left) && decide (aX+cR (.mk false n a)<=bh+1)))=(decide (a.length<=4) && (zL n && (dO sc a && (decide ((ac a:Int)<=left - 1) && decide (aX+1+bz a<=bh+1))))):=by
     rw[nN,Lg]
     have e1:decide (((ac a+1:Nat):Int)<=left)=decide ((ac a:Int)<=left - 1):=by rw[Bool.eq_iff_iff];simp;omega
     have e2:decide (aX+((bz a+1:Nat):Int)<=bh+1)=decide (aX+1+bz a<=bh+1):=by rw[Bool.eq_iff_iff];simp;omega
     simp only[iX,Bool.false_eq_true,if_false,e1,e2,Bool.and_assoc]
    rw[nN]at hn
    by_cases h4:k0<=4
    ·have h4':((k0:Int)<=4):=by omega
     have d4:decide (a.length<=4)=true:=by rw[<-cY.o];simpa using h4
     rw[d4,Bool.true_and]at hb
     cases hf:zL n with
     | false=>
      have CF:=ab (fun w=>hf ▸ kB n w qA)
      have HE:=ab (hb.trans (by rw[hf] <;> rfl))
      clear hf hb nN Lg qB oc d4
      have pp99d:=();exact pm99
     | true=>
      have CF:=ab (fun w=>hf ▸ kB n w qA)
      rw[hf,Bool.true_and]at hb
      have CJ:=ab (fun w3 (aJ:Below W2.heap.size W2 w3)=>rv a eM.o ok J sc (left - 1) bh (aX+1) w3 _ _ _ (Ws.o.later aJ) n8.o (m5.o.2.1.later aJ) (by omega) (by omega) Li (by omega) (by omega) (by omega))
      obtain ⟨bb,cv⟩:=ao (dO sc a && (decide ((ac a:Int)<=left - 1) && decide (aX+1+bz a<=bh+1)))
      rw[<-cv]at hb CJ
      have HE:=ab hb
      clear hf hb Lg qB oc d4 nN cv
      cases bb with
      | true=>
       have pp90:=();exact pm90
      | false=>
       exact pm90
    ·have h4':¬((k0:Int)<=4):=by omega
     have d4:decide (a.length<=4)=false:=by rw[<-cY.o];simpa using h4
     have HE:=ab (hb.trans (by rw[d4] <;> rfl))
     clear hb nN Lg qB oc
     have pp99c:=();exact pm99
  ·have C1:=ab (IE J sc left bh aX _ Gk h0 h1 JN)
   have HE:=ab (show (iX sc (.mk qv n a) && (decide ((nodesT (.mk qv n a):Int)<=left) && decide (aX+cR (.mk qv n a)<=bh+1)))=false by
    rw[Bool.and_eq_false_iff];right
    rw[Bool.and_eq_false_iff]
    by_cases hl:1<=left
    ·right
     have St:¬aX<=bh:=fun h=>JN ⟨hl,h⟩
     simp only[decide_eq_false_iff_not]
     omega
    ·left
     simp only[decide_eq_false_iff_not]
     omega)
   have HJ1:=ab Gk
   clear Gk qB oc JN
   have pp99e:=();exact pm99
 |clear pp35d
  have dD:=aD.args.len
  have eM:=ab (fun t ht=>ih t ht (aD.args.mem ht))
  obtain ⟨m0,du⟩:=ao a.length
  rw[<-du]at dD bD
  unfold TQ.val
  simp only
  rw[<-du]
  have fN:=ab du
  obtain ⟨W1,bQ⟩:=ao (W.alloc (.cells #[.bool qv,.string ⟨n.toArray⟩,.slice qa m0 qc] 43))
  have hZ:=cB bQ
  have FO:J pre W1:=hJ pre _ _ (Nw.below hZ) hj
  have HX:Hd (W1.heap[W.heap.size]?=some (.cells #[.bool qv,.string ⟨n.toArray⟩,.slice qa m0 qc] 43 (0,0))):=ab (by rw[bQ];exact aj rfl)
  obtain ⟨fg,zF,lI⟩:=cf bD hM bQ
  have HL:Hd (W.heap.size<W1.heap.size):=ab (by rw[bQ];simp)
  refine (callsIn_wide (n:=3)).1 ?_
  refine callsIn_of_wp Tryz.func214 rfl trivial ?_ rfl
  simp only[Tryz.ntmps214,List.size_toArray,List.length_cons,List.length_nil,Nat.reduceAdd,Nat.reduceSub,Array.replicate_succ,Array.replicate_zero,List.push_toArray,List.append_toArray,List.nil_append,List.cons_append]
  have jb:∀ f,Fence.wide.fn f:=fun _=>trivial
  cases qv
  ·have kO:aI (.mk false n a)=[] ++ ar a:=by unfold aI;rfl
   rw[kO]at cV ⊢
   have wA:=ab (show J (pre ++ []) W1/\Kp M W W1 from ⟨by simpa using FO,Kp.below hZ⟩)
   obtain ⟨mw,HJ,HY⟩:=cf cV hJ hY
   clear hq bD aD ih du hj hZ FO hJ hM hY cV kO bQ
   gi_wp2
   rw[<-lI.o]
   gi_loopw [19] (fun i wr=>∃k:Nat,k<=m0/\i=.int .i64 k/\J (pre ++ ([] ++ ar (a.take k))) wr/\Kp M W wr) (fun i _=>m0 - (intOf i).toNat)
   case atStart=>exact ⟨0,Nat.zero_le _,rfl,by simpa[ar] using wA.o.1,wA.o.2⟩
   case round=>
    have pp220a:=();exact pm220
  ·have kO:aI (.mk true n a)=[n] ++ ar a:=by unfold aI;rfl
   rw[kO]at cV ⊢
   have qD:=hY pre #[.string ⟨n.toArray⟩] n _ FO (Kp.below hZ) rfl (iC cV)
   obtain ⟨mw,HJ,HY,dG⟩:=eA cV hJ hY hZ
   obtain ⟨fn,tmps,assign,body,hy,D5⟩:=iz 2 qD
   rw[bQ]at hy D5
   clear hq bD aD ih du hj hZ FO qD hJ hM hY cV kO bQ
   gi_wp2
   refine D5.mono ?_
   rintro e W2 ⟨rfl,uC,gX⟩
   rw[<-lI.o]at gX
   have Vi:¬M W.heap.size:=fun h=>by have:=zF.o _ h;omega
   have pi:=(gX.same W.heap.size HL.o Vi).trans HX.o
   have p2:W2.cell? ⟨W.heap.size,2,none⟩=some (.slice qa m0 qc):=ai pi 2
   have wA:=aF uC ((Kp.below dG.o).trans gX)
   clear uC gX pi D5 hy
   gi_wp2
   clear p2
   gi_loopw [19] (fun i wr=>∃k:Nat,k<=m0/\i=.int .i64 k/\J (pre ++ ([n] ++ ar (a.take k))) wr/\Kp M W wr) (fun i _=>m0 - (intOf i).toNat)
   case atStart=>exact ⟨0,Nat.zero_le _,rfl,by simpa[ar] using wA.o.1,wA.o.2⟩
   case round=>
    have pp220b:=();exact pm220
 |clear pp35e
  have cq:=aD.args.len
  have lj:=aD.name
  obtain ⟨dA,mW,eM,IT⟩:=eA bD aD.args ih cv
  obtain ⟨k0,bO⟩:=ao a.length
  rw[<-bO]at cq
  have cY:=ab bO
  clear hq bD aD ih cv
  unfold TQ.val
  rw[<-bO]
  clear bO
  cases qv with
  | false=>
   have hp:e_ f (.mk false n a)=.mk false n (a.map (e_ f)):=by simp[e_,fZ]
   rw[hp]
   clear hp
   exact pm121
  | true=>
   cases pU:f n with
   | none=>
    have hp:e_ f (.mk true n a)=.mk true n (a.map (e_ f)):=by simp[e_,fZ,pU]
    rw[hp]
    clear hp
    have pp19:=();exact pm19
   | some u=>
    have hp:e_ f (.mk true n a)=u:=by simp[e_,pU]
    rw[hp]
    clear hp
    have hcu:=hC n u pU
    exact pm19
 |clear pp35f
  have cq:=aD.args.len
  have lj:=aD.name
  obtain ⟨dA,mW,eM,GM,mY⟩:=vD bD aD.args ih Mh cw
  obtain ⟨k0,bO⟩:=ao a.length
  obtain ⟨R,hR⟩:=ao (io ps.reverse ins (.mk qv n a))
  rw[<-bO]at cq
  have cY:=ab bO
  obtain ⟨W3,cZ⟩:=ao (((w.alloc (.cells q.cells 89)).alloc (.cells #[.bool qv,.string ⟨n.toArray⟩,.slice qa k0 qc] 43)).alloc (.cells #[.bool false,.string ⟨#[]⟩,.slice none 0 0] 43))
  have aJ:=vF cZ
  have xp:=wK cZ
  have xt:=pR cZ
  have x1:=oa cZ
  have uG:=F6 cZ
  rw[<-hR]
  have HR:=ab hR
  have bp:=aF aJ uG
  obtain ⟨HXP,iB,vW⟩:=cf xp x1 cZ
  have p0:=gA xp
  obtain ⟨⟨so,sn,sa,sl,sc,sb,sm,se⟩,⟨fo,fn,fa,fl,fc,fb,fm,fe⟩,ca,cl,cc⟩:=q
  simp only[PlQ.cells,PlQ.val,TQ.val]at GM vW p0 ⊢
  have t0:W3.cell? ⟨w.heap.size+1,0,none⟩=some (.bool qv):=ai xt 0
  have t1:W3.cell? ⟨w.heap.size+1,1,none⟩=some (.string ⟨n.toArray⟩):=ai xt 1
  have t2:W3.cell? ⟨w.heap.size+1,2,none⟩=some (.slice qa k0 qc):=ai xt 2
  rw[<-bO]
  clear hq bD aD ih Mh cw bO hR aJ uG xp x1 cZ
  cases qv with
  | true=>
   have Cb:Hd (R=if ins.contains n then some (ap n) else (cP ps.reverse n).map ap):=ab (by rw[HR.o];simp[io])
   clear eM
   go_enter Tryz.func94,Tryz.ntmps94
   go_wp2_with fail
   rw[<-vW.o]
   have CT:=eG L GL.o.2.2.1 n okL W3 vL (mY.o.later bp.o.1)
   rw[GL.o.2.2.2]at CT
   have IV:=ab CT
   clear CT
   cases hc:ins.contains n with
   | true=>
    rw[hc]at IV Cb
    have HE:=ab (show R=some (ap n) by rw[Cb.o];rfl)
    have HV:=ab (fF n W3)
    clear hc p0
    refine IV.o.mono ?_
    rintro e w4 ⟨rfl,rfl⟩
    go_wp2_with (go_at_call 131;refine HV.o.mono ?_;rintro e w5 ⟨rfl,a_⟩;have x5:=(a_.block _ (by have:=bp.o.2;omega)).trans iB.o;obtain ⟨e0,e1,e2,z0,z1,z2⟩:=fI x5;have H5:=aF a_ x5;clear a_ x5)
    obtain ⟨W6,cM,x6,k6,g0,g1,g2⟩:=rQ H5.o.2 (.bool true) (.string ⟨n.toArray⟩) (.slice none 0 0)
    rw[<-cM]
    refine bodyPost_ret (v:=.tuple #[TQ.val ⟨true,⟨n.toArray⟩,none,0,0⟩,.bool true]) (by simp[TQ.val,results,Tryz.results94,go_sem,g0,g1,g2]) rfl ⟨⟨⟨true,⟨n.toArray⟩,none,0,0⟩,by rw[HE.o];rfl,fun u hu=>?_⟩,Below.kp1 (bp.o.1.tr H5.o.1) k6 (by omega)⟩
    rw[HE.o]at hu
    cases hu
    exact aP.2 ⟨_,rfl,bV⟩
   | false=>
    rw[hc]at IV Cb
    have oI:R=(cP ps.reverse n).map ap:=by rw[Cb.o];rfl
    have CN:=z8 ⟨⟨so,sn,sa,sl,sc,sb,sm,se⟩,⟨fo,fn,fa,fl,fc,fb,fm,fe⟩,ca,cl,cc⟩ ps GL.o.1 GL.o.2.1 n W3 (GM.o.later bp.o.1)
    simp only[PlQ.cells,PlQ.val]at CN
    obtain ⟨nm,c9⟩:=ao ((cP ps.reverse n).getD [])
    obtain ⟨bb,cv⟩:=ao (cP ps.reverse n).isSome
    rw[<-c9,<-cv]at CN
    have hE:R.isSome=bb/\∀ u,R=some u->u=ap nm:=by
     rw[oI,c9,cv]
     cases cP ps.reverse n with
     | none=>exact ⟨rfl,fun u h=>by cases h⟩
     | some y=>exact ⟨rfl,fun u h=>by simp at h;exact h.symm⟩
    have HE:=ab hE
    have HV:=ab (fun w=>fF nm w)
    have HCN:=ab CN
    clear hc oI c9 cv hE CN
    refine IV.o.mono ?_
    rintro e w4 ⟨rfl,rfl⟩
    obtain ⟨p0,p1,p2,p3,p4,p5,p6,p7,p8⟩:=p0
    go_wp2_with (first | (go_at_call 161;refine HCN.o.mono ?_;rintro e w5 ⟨rfl,a_⟩;have vX:=ab a_;clear a_) | (go_at_call 131;refine (HV.o _).mono ?_;rintro e w6 ⟨rfl,cD⟩;have jE:=vX.o.tr cD;have x5:=(jE.block _ (by have:=bp.o.2;omega)).trans iB.o;obtain ⟨e0,e1,e2,z0,z1,z2⟩:=fI x5;have H5:=aF jE x5;clear cD jE x5))
    obtain ⟨W6,cM,x6,k6,g0,g1,g2⟩:=rQ H5.o.2 (.bool true) (.string ⟨nm.toArray⟩) (.slice none 0 0)
    rw[<-cM]
    refine bodyPost_ret (v:=.tuple #[TQ.val ⟨true,⟨nm.toArray⟩,none,0,0⟩,.bool bb]) (by simp[TQ.val,results,Tryz.results94,go_sem,g0,g1,g2]) rfl ⟨⟨⟨true,⟨nm.toArray⟩,none,0,0⟩,by rw[HE.o.1];rfl,fun u hu=>?_⟩,Below.kp1 (bp.o.1.tr H5.o.1) k6 (by omega)⟩
    rw[HE.o.2 u hu]
    exact aP.2 ⟨_,rfl,bV⟩
  | false=>
   have Cb:Hd (R=(dU ps.reverse ins a).map (Tm.mk false n)):=ab (by rw[HR.o];simp[io])
   go_enter Tryz.func94,Tryz.ntmps94
   obtain ⟨p0,p1,p2,p3,p4,p5,p6,p7,p8⟩:=p0
   go_wp2
   rw[<-vW.o]
   obtain ⟨W1,bQ⟩:=ao (W3.alloc (.cells #[.bool false,.string ⟨n.toArray⟩,.slice none 0 0] 43))
   have z':=cB bQ
   have WK:W1.heap[w.heap.size+1+1+1]?=some (.cells #[.bool false,.string ⟨n.toArray⟩,.slice none 0 0] 43 (0,0)):=by rw[bQ];exact aj (by have:=bp.o.2;omega)
   rw[<-bQ]
   have gu:W1.heap.size=w.heap.size+4:=by rw[bQ];have:=bp.o.2;simp;omega
   have tp:=ab (Fills.start (R:=w.heap.size+1+1+1) (mk:=fun rr=>#[.bool false,.string ⟨n.toArray⟩,rr]) (Row:=fun r W=>RowT W1.heap.size r ([]:List Tm) W) WK (RowT.nil _ _))
   have dG:=aF (bp.o.1.tr z') gu
   have Mi:=ab (bC z' HXP.o)
   have J4:=ab (bC z' iB.o)
   clear bQ z' WK gu p0 p1 p2 p3 p4 p5 p6 p7 p8 t0 t1 t2
   go_loopw [40] (fun i wr=>∃k:Nat,k<=k0/\i=.int .i64 k/\∃row us,Fills 43 (w.heap.size+1+1+1) W1.heap.size (fun rr=>#[.bool false,.string ⟨n.toArray⟩,rr]) (fun r W=>RowT W1.heap.size r us W) W1 wr row/\dU ps.reverse ins (a.take k)=some us/\us.length=k) (fun i _=>k0 - (intOf i).toNat)
   case atStart=>exact ⟨0,Nat.zero_le _,rfl,_,[],tp.o,by simp[dU],rfl⟩
   case round=>
    obtain ⟨k,hk,rfl,row,us,hF,xS,z_⟩:=hrel
    have az:=hF.below dG.o.1 (by omega)
    obtain ⟨ra,rc,rfl⟩:=hF.row.slice
    rw[z_]at hF
    by_cases hlt:k<k0
    ·have da:=bR cY.o hlt
     have pp66i:=();exact pm66
    ·obtain rfl:k=k0:=by omega
     have jc:a.take k=a:=by rw[cY.o];exact List.take_length
     rw[jc]at xS
     have HE:=ab (show R=some (.mk false n us) by rw[Cb.o,xS];rfl)
     have B9:=ab hF.row
     have x2:=hF.box
     have x1:=hF.other (by omega) J4.o
     have c0:wr.cell? ⟨w.heap.size+1+1+1,0,none⟩=some (.bool false):=ai x2 0
     have c1:wr.cell? ⟨w.heap.size+1+1+1,1,none⟩=some (.string ⟨n.toArray⟩):=ai x2 1
     have c2:wr.cell? ⟨w.heap.size+1+1+1,2,none⟩=some (.slice ra k rc):=ai x2 2
     obtain ⟨e0,e1,e2,z0,z1,z2⟩:=fI x1
     have HX:=aF x1 az
     clear hF x1 x2 xS jc az
     go_wp2
     obtain ⟨W6,cM,x6,k6,g0,g1,g2⟩:=rQ HX.o.1 (.bool false) (.string ⟨n.toArray⟩) (.slice ra k rc)
     rw[<-cM]
     have WL:=B9.o.kp1 k6 (by have:=dG.o.2;omega)
     have h6:TermV (w.heap.size<=·) W6 (TQ.val ⟨false,⟨n.toArray⟩,ra,k,rc⟩) (.mk false n us):=RowT.term (v:=false) (n:=n) (l:=k) WL (by have:=dG.o.2;omega)
     refine bodyPost_ret (v:=.tuple #[TQ.val ⟨false,⟨n.toArray⟩,ra,k,rc⟩,.bool true]) (by simp[TQ.val,results,Tryz.results94,go_sem,g0,g1,g2]) rfl ⟨⟨⟨false,⟨n.toArray⟩,ra,k,rc⟩,by rw[HE.o];rfl,fun u hu=>by rw[HE.o]at hu;cases hu;exact h6⟩,Below.kp1 HX.o.2 k6 (by omega)⟩
 |clear pp35g
  have dD:=aD.args.len
  have eM:=ab (fun t ht=>ih t ht (aD.args.mem ht))
  obtain ⟨m0,du⟩:=ao a.length
  rw[<-du]at dD bD
  unfold TQ.val
  simp only
  rw[<-du]
  have fN:=ab du
  obtain ⟨W1,bQ⟩:=ao (W.alloc (.cells #[.bool qv,.string ⟨n.toArray⟩,.slice qa m0 qc] 43))
  have hZ:=cB bQ
  have FO:J pre W1:=hJ pre _ _ (Nw.below hZ) hj
  have HX:Hd (W1.heap[W.heap.size]?=some (.cells #[.bool qv,.string ⟨n.toArray⟩,.slice qa m0 qc] 43 (0,0))):=ab (by rw[bQ];exact aj rfl)
  obtain ⟨fg,zF,lI⟩:=cf bD hM bQ
  have HL:Hd (W.heap.size<W1.heap.size):=ab (by rw[bQ];simp)
  obtain ⟨HG,HJ⟩:=aS hG hJ
  obtain ⟨p0,jM⟩:∃p0:List Str,p0=(if qv then [n] else []):=⟨_,rfl⟩
  have kO:aI (.mk qv n a)=p0 ++ ar a:=by unfold aI;rw[jM];cases qv <;> rfl
  rw[kO]at cV ⊢
  have mw:=ab cV
  go_enter Tryz.func214,Tryz.ntmps214
  cases qv
  ·simp only[Bool.false_eq_true,if_false]at jM
   subst jM
   have wA:=ab (show J (pre ++ []) W1/\Kp M W W1 from ⟨by simpa using FO,Kp.below hZ⟩)
   clear hq bD aD ih du hj hZ FO hJ hM hG cV kO bQ
   go_wp2
   rw[<-lI.o]
   go_loopw [19] (fun i wr=>∃k:Nat,k<=m0/\i=.int .i64 k/\J (pre ++ ([] ++ ar (a.take k))) wr/\Kp M W wr) (fun i _=>m0 - (intOf i).toNat)
   case atStart=>exact ⟨0,Nat.zero_le _,rfl,by simpa[ar] using wA.o.1,wA.o.2⟩
   case round=>
    have pp220c:=();exact pm220
  ·simp only[if_true]at jM
   subst jM
   have C1:=hG pre n _ FO (iC cV)
   obtain ⟨wB,dG⟩:=aS C1 hZ
   clear hq bD aD ih du hj hZ FO hJ hM hG cV kO bQ C1
   go_wp2_with (rw[<-lI.o];go_at_call 213;refine wB.o.mono ?_;rintro e W2 ⟨rfl,uC,gX⟩;have Vi:¬M W.heap.size:=(fun h=>absurd (zF.o _ h) (Nat.lt_irrefl _));have pi:=(gX.same W.heap.size HL.o Vi).trans HX.o;have p2:W2.cell? ⟨W.heap.size,2,none⟩=some (.slice qa m0 qc):=ai pi 2;have wA:=aF uC ((Kp.below dG.o).trans gX);clear uC gX pi Vi)
   clear p2
   go_loopw [19] (fun i wr=>∃k:Nat,k<=m0/\i=.int .i64 k/\J (pre ++ ([n] ++ ar (a.take k))) wr/\Kp M W wr) (fun i _=>m0 - (intOf i).toNat)
   case atStart=>exact ⟨0,Nat.zero_le _,rfl,by simpa[ar] using wA.o.1,wA.o.2⟩
   case round=>
    have pp220d:=();exact pm220
 |clear pp35h
  have CL:=fun (W:World) (hb:Below w.heap.size w W)=>p_ a aD.args (fun t ht=>ih t ht (aD.args.mem ht)) ok W qa _ qc (bD.later hb)
  obtain ⟨k0,bO⟩:=ao a.length
  rw[<-bO]at CL
  obtain ⟨Vl,cY⟩:=aS CL bO
  clear hq bD aD ih CL
  unfold TQ.val
  rw[<-bO]
  clear bO
  refine (callsIn_wide (n:=3)).1 ?_
  refine callsIn_of_wp Tryz.func107 rfl trivial ?_ rfl
  simp only[Tryz.ntmps107,List.size_toArray,List.length_cons,List.length_nil,Nat.reduceAdd,Nat.reduceSub,Array.replicate_succ,Array.replicate_zero,List.push_toArray,List.append_toArray,List.nil_append,List.cons_append]
  have jb:∀ f,Fence.wide.fn f:=fun _=>trivial
  gi_wp2
  obtain ⟨W2,aY⟩:=ao ((w.alloc (.cells #[.bool qv,.string ⟨n.toArray⟩,.slice qa k0 qc] 43)).alloc (.cells #[.bool false,.string ⟨#[]⟩,.slice none 0 0] 43))
  have fG:=j7 aY
  have x0:=rm aY
  have x1:=iV aY
  rw[<-aY]
  clear aY
  obtain ⟨S,hS⟩:∃S:World->Prop,S=fun V=>Below W2.heap.size W2 V:=⟨_,rfl⟩
  have f0:∀ V,S V->V.cell? ⟨w.heap.size,0,none⟩=some (.bool qv)/\V.cell? ⟨w.heap.size,1,none⟩=some (.string ⟨n.toArray⟩)/\V.cell? ⟨w.heap.size,2,none⟩=some (.slice qa k0 qc):=fun V h=>by rw[hS]at h;exact ⟨aa h (ai x0 0),aa h (ai x0 1),aa h (ai x0 2)⟩
  have dB:S W2.drew:=by rw[hS];exact (Below.refl _ _).drew
  obtain ⟨dr,bZ,iB⟩:=cf hS fG x1
  clear hS fG x0 x1
  refine br S 8 (by kernel_rfl) dB (fun jr dt=>?_)
  refine bS 0 3 (.pointer (some ⟨w.heap.size,0,none⟩)) rfl dt fun eC=>?_
  simp only[ak]
  refine dc 1 4 (.bool qv) rfl (fun V hX=>by obtain ⟨g0,g1,g2⟩:=f0 V hX;go_simp) eC fun eX=>?_
  simp only[ak]
  refine bS 2 5 (.pointer (some ⟨w.heap.size,1,none⟩)) rfl eX fun fM=>?_
  simp only[ak]
  refine dc 3 6 (.string ⟨n.toArray⟩) rfl (fun V hX=>by obtain ⟨g0,g1,g2⟩:=f0 V hX;go_simp) fM fun gE=>?_
  simp only[ak]
  refine bS 4 7 (.pointer (some ⟨w.heap.size,2,none⟩)) rfl gE fun iu=>?_
  simp only[ak]
  refine dc 5 8 (.slice qa k0 qc) rfl (fun V hX=>by obtain ⟨g0,g1,g2⟩:=f0 V hX;go_simp) iu fun iP=>?_
  simp only[ak]
  refine b_ 6 rfl fun K hK=>?_
  go_simp
  refine callsIn_wide.2 ((Vl.o W2.drew (bZ.o.drew)).mono ?_)
  rintro _ A ⟨ra,rc,rfl,hp,hA⟩
  have bY:Below W2.heap.size W2 A:=((Below.refl W2.heap.size W2).drew).trans hA
  have HP:=aF hp bY
  refine hK _ _ (fun _=>by rw[dr.o];exact bY) (fun _=>?_)
  clear hK K hA
  refine b_ 7 rfl fun K hK=>?_
  go_simp
  refine hK _ _ (fun _=>by rw[dr.o];exact HP.o.2) (fun _=>?_)
  clear hK K
  refine b_ 8 rfl fun K hK=>?_
  have y1:=bC HP.o.2 iB.o
  obtain ⟨e0,e1,e2⟩:=lE y1
  have z0:=ae y1 0
  have z1:=ae y1 1
  have z2:=ae y1 2
  have SA:=ab y1
  clear y1 hp bY
  go_simp
  refine ee hK ?_
  clear hK K
  refine cO (by kernel_rfl) ?_ _
  gi_wp2
  have x6:=oy (v0:=.bool qv) (v1:=.string ⟨n.toArray⟩) (v2:=.slice ra k0 rc) SA.o
  have k6:=d8 (W:=A) (b:=w.heap.size+1) (v0:=.bool qv) (v1:=.string ⟨n.toArray⟩) (v2:=.slice ra k0 rc)
  obtain ⟨W6,cM⟩:=ao (((A.setCell ⟨w.heap.size+1,0,none⟩ (.bool qv)).setCell ⟨w.heap.size+1,1,none⟩ (.string ⟨n.toArray⟩)).setCell ⟨w.heap.size+1,2,none⟩ (.slice ra k0 rc))
  rw[<-cM]at x6 k6 ⊢
  clear cM
  have g0:W6.cell? ⟨w.heap.size+1,0,none⟩=some (.bool qv):=ai x6 0
  have g1:W6.cell? ⟨w.heap.size+1,1,none⟩=some (.string ⟨n.toArray⟩):=ai x6 1
  have g2:W6.cell? ⟨w.heap.size+1,2,none⟩=some (.slice ra k0 rc):=ai x6 2
  have hz:=(bl iB.o)
  obtain ⟨hp,bY⟩:=HP.o
  have ye:TermsV (w.heap.size<=·) W6 (.slice ra k0 rc) a:=hp.move (fun b hok hlt=>⟨Nat.le_trans bZ.o.size hok,k6.same b hlt (by have:W2.heap.size<=b:=hok;omega)⟩)
  refine bodyPost_ret (v:=TQ.val ⟨qv,⟨n.toArray⟩,ra,k0,rc⟩) (by simp[TQ.val,results,Tryz.results107,go_sem,g0,g1,g2]) rfl ⟨⟨qv,⟨n.toArray⟩,ra,k0,rc⟩,rfl,aP.2 ⟨_,rfl,ye⟩,Below.kp1 (bZ.o.trans (bY.mono bZ.o.size)) k6 (by omega)⟩
 |have cq:=aD.args.len
  have lj:=aD.name
  obtain ⟨dA,mW,eM,IT⟩:=eA bD aD.args ih cv
  obtain ⟨k0,bO⟩:=ao a.length
  rw[<-bO]at cq
  have cY:=ab bO
  clear hq bD aD ih cv
  unfold TQ.val
  rw[<-bO]
  clear bO
  cases qv with
  | false=>
   have hp:cC kd.ts sc (.mk false n a)=.mk false n (a.map (cC kd.ts sc)):=by simp[cC,np]
   rw[hp]
   clear hp
   have pp64a:=();exact pm64
  | true=>
   obtain ⟨X,hX⟩:=ao ((w.alloc (.cells #[.bool true,.string ⟨n.toArray⟩,.slice qa k0 qc] 43)).alloc (.cells #[.bool false,.string ⟨#[]⟩,.slice none 0 0] 43))
   have Mb:=j7 hX
   have y1:=iV hX
   have y0:=rm hX
   have qD:=vE hX
   have qP:=ab (ja n X (by omega))
   have HY:=eO Mb y1 y0 qD (IT.o.tr Mb)
   have HX:=ab hX
   clear Mb y1 y0 qD hX
   cases mO:ea n with
   | false=>
    rw[mO]at qP
    cases uN:sc.contains n with
    | false=>
     have hp:cC kd.ts sc (.mk true n a)=.mk true n (a.map (cC kd.ts sc)):=by
      have h2:¬n∈sc:=by simpa using uN
      simp[cC,np,mO,h2]
     rw[hp]
     clear hp
     have TH:=ab (fun (W:World) (h:Below W0.heap.size W0 W)=>uN ▸ HLk.o W h n)
     clear uN mO
     have pp64b:=();exact pm64
    | true=>
     have hp:cC kd.ts sc (.mk true n a)=ap (cH n):=by
      have h2:n∈sc:=by simpa using uN
      simp[cC,mO,h2]
     rw[hp]
     clear hp
     have TH:=ab (fun (W:World) (h:Below W0.heap.size W0 W)=>uN ▸ HLk.o W h n)
     clear uN mO
     exact pm64
   | true=>
    rw[mO]at qP
    have hp:cC kd.ts sc (.mk true n a)=termOf kd.ts n:=by simp[cC,mO]
    rw[hp]
    clear hp mO
    obtain ⟨u,hu⟩:=ao (termOf kd.ts n)
    rw[<-hu]
    have HU:=ab hu
    clear hu
    have jb:∀ f,Fence.wide.fn f:=fun _=>trivial
    obtain ⟨e0,e1,e2,_⟩:=fI HY.o.2.2.1
    rw[HX.o]at e0 e1 e2
    go_enter Tryz.func127,Tryz.ntmps127
    go_upto_region 1 with fail
    go_upto_region 2 with (go_at_call 119;rw[<-HX.o];refine qP.o.mono ?_;rintro e w3 ⟨rfl,aJ⟩;have y1:=(aJ.block _ (by have:=HY.o.2.2.2.1;omega)).trans HY.o.2.1;have y0:=(aJ.block _ (by have:=HY.o.2.2.2.1;omega)).trans HY.o.2.2.1;have nP:=aJ.size;have nS:=HY.o.2.2.2.1;have GH:w.heap.size+2<=w3.heap.size:=(by omega);have bp:=ce (HY.o.1.tr aJ) y1 y0 (HY.o.2.2.2.2.tr aJ);clear aJ nP nS y1 y0)
    clear e0 e1 e2
    have kh:=FZ.o.later bp.o.2.2.2
    obtain ⟨⟨z0,z1,z2,z3,z4⟩,hz,EW,IZ,_,_,yx⟩:=kh.termOf (x:=n) lj
    simp only[TQ.val]at yx
    have bc:=kh.ts.lt
    have x3:=bp.o.2.2.1
    exact pm42):G:=h
theorem pm36(h:G:=by
 have c0:wr.cell? ⟨w.heap.size+1+1+1,0,none⟩=some (.int .u8 qo):=ai x2 0
 have c1:wr.cell? ⟨w.heap.size+1+1+1,1,none⟩=some (.string ⟨n.toArray⟩):=ai x2 1
 have c2:wr.cell? ⟨w.heap.size+1+1+1,2,none⟩=some (.slice e6 k1 e7):=ai x2 2
 have c3:wr.cell? ⟨w.heap.size+1+1+1,3,none⟩=some (.slice ra k rc):=ai x2 3
 obtain ⟨e0,e1,e2,e3,z0,z1,z2,z3⟩:=cW x1
 have DE:=aF x1 az
 clear hF x1 x2 xp xS jc az
 go_wp2
 obtain ⟨W6,cM,x6,k6,g0,g1,g2,g3⟩:=xW DE.o.1 (.int .u8 qo) (.string ⟨n.toArray⟩) (.slice e6 k1 e7) (.slice ra k rc)
 rw[<-cM]
 have WL:=B9.o.kp1 k6 (by have:=dG.o.2;have:=Ml.o.2;omega)
 have ha6:=HRA.o.kp1 k6 (by have:=dG.o.2;omega)
 have h6:FormV (w.heap.size<=·) W6 (FQ.val ⟨qo,⟨n.toArray⟩,e6,k1,e7,ra,k,rc⟩) (.mk qo n Pe us):=RowF.form ha6 WL (by have:=dG.o.2;omega) (by have:=dG.o.2;have:=Ml.o.2;omega)
 refine bodyPost_ret (v:=.tuple #[FQ.val ⟨qo,⟨n.toArray⟩,e6,k1,e7,ra,k,rc⟩,.bool true]) (by simp[FQ.val,results,Tryz.results91,go_sem,g0,g1,g2,g3]) rfl ⟨⟨⟨qo,⟨n.toArray⟩,e6,k1,e7,ra,k,rc⟩,by rw[HE.o];rfl,fun u hu=>by rw[HE.o]at hu;cases hu;exact h6⟩,Below.kp1 DE.o.2 k6 (by omega)⟩):G:=h
theorem pm37(h:G:=by
 exact pm136):G:=h
theorem pm38(h:G:=by
 rw[<-jM]at hp
 rw[<-bO,<-du,<-jM]
 obtain ⟨cY,fN,vR,J2,Mc,HP,eM,HF⟩:=OY bO du jM ej vT hp ih uK
 clear hR bO du jM ej vT hp ih hf uK hq jC
 have bA:Below w.heap.size w ((w.alloc (.cells #[.bool uv,.string ⟨xn.toArray⟩,.slice ua k0 uc] 43)).alloc (.cells #[.bool vv,.string ⟨yn.toArray⟩,.slice va m0 vc] 43)):=ct.alloc (by simp) _
 obtain ⟨W2,aY⟩:=ao ((w.alloc (.cells #[.bool uv,.string ⟨xn.toArray⟩,.slice ua k0 uc] 43)).alloc (.cells #[.bool vv,.string ⟨yn.toArray⟩,.slice va m0 vc] 43))
 rw[<-aY]at bA
 have HX:Hd (W2.heap[w.heap.size]?=some (.cells #[.bool uv,.string ⟨xn.toArray⟩,.slice ua k0 uc] 43 (0,0))):=ab (by rw[aY];exact (Below.heap_alloc _ _ _ (by simp)).trans (aj rfl))
 have HY:Hd (W2.heap[w.heap.size+1]?=some (.cells #[.bool vv,.string ⟨yn.toArray⟩,.slice va m0 vc] 43 (0,0))):=ab (by rw[aY];exact aj (by simp))
 have hO:w.heap.size+2=W2.heap.size:=by rw[aY];simp
 obtain ⟨bZ,eN⟩:=aS bA aY
 clear bA aY
 unfold TQ.val
 by_cases zY:uv=vv/\k0=m0
 first
 |clear pp38
  ·obtain ⟨rfl,rfl⟩:=zY
   simp at hm
   have HM:=ab hm
   clear hm
   have e1:((k0:Int) != (k0:Int))=false:=by simp
   go_enter Tryz.func160,Tryz.ntmps160
   cases uv
   ·have oJ:Hd (R=(xn == yn && bH ps.reverse xa ya)):=ab (by rw[HM.o];simp)
    by_cases c9:xn=yn
    ·subst c9
     have pp143a:=();exact pm143
    ·have gu:(xn == yn)=false:=by simpa using c9
     exact pm173
   ·go_wp2
    rw[<-eN.o]
    go_loopw [7] (fun i wr=>∃j:Nat,j<=p0/\i=.int .i64 ((j:Int) - 1)/\Below W2.heap.size W2 wr/\kx ps.reverse xn yn=kx (ps.take j).reverse xn yn) (fun i _=>(intOf i+1).toNat)
    case atStart=>exact ⟨p0,Nat.le_refl _,by go_num,Below.refl _ _,by rw[vR.o,List.take_length]⟩
    case round=>
     obtain ⟨j,hj,rfl,cQ,ht⟩:=hrel
     cases j with
     | zero=>
      have oJ:Hd (R=(xn == yn && bH ps.reverse xa ya)):=ab (by rw[HM.o,ht,List.take_zero];simp[AT])
      obtain ⟨fX,tw⟩:=ao wr
      subst tw
      have Vn:=ab cQ
      have zay:((0:Nat):Int) - 1=-1:=rfl
      have x1:fX.cell? ⟨w.heap.size,1,none⟩=some (.string ⟨xn.toArray⟩):=aa cQ (ai HX.o 1)
      have x2:fX.cell? ⟨w.heap.size,2,none⟩=some (.slice ua k0 uc):=aa cQ (ai HX.o 2)
      have y1:fX.cell? ⟨w.heap.size+1,1,none⟩=some (.string ⟨yn.toArray⟩):=aa cQ (ai HY.o 1)
      clear cQ ht
      by_cases c9:xn=yn
      ·subst c9
       have pp143b:=();exact pm143
      ·have gu:(xn == yn)=false:=by simpa using c9
       have iD:(!(xn == yn))=true:=by simpa using c9
       have HE:=ab (show R=false by rw[oJ.o];simp[gu])
       go_wp2
       go_ret
       exact ⟨aA HE.o.symm,bZ.o.trans (Vn.o.mono (by have:=bZ.o.size;omega))⟩
     | succ j=>
      have pp148:=();exact pm148
  ·have AV:R=false:=by rw[hm];rcases Decidable.not_and_iff_or_not.1 zY with h | h <;> simp[h]
   have HE:=ab AV
   clear hm AV
   go_enter Tryz.func160,Tryz.ntmps160
   exact pm113
 |·obtain ⟨rfl,rfl⟩:=zY
   simp at hm
   have HM:=ab hm
   clear hm
   have e1:((k0:Int) != (k0:Int))=false:=by simp
   go_enter Tryz.func147,Tryz.ntmps147
   cases uv
   ·have oJ:Hd (R=(xn == yn && bH ps.reverse xa ya)):=ab (by rw[HM.o];simp)
    by_cases c9:xn=yn
    ·subst c9
     exact pm143
    ·have gu:(xn == yn)=false:=by simpa using c9
     exact pm173
   ·have ZI:xa=[]:=by simpa using zb6
    have HMn:Hd (R=(match kx ps.reverse xn yn with | some b=>b | none=>xn == yn)):=ab (by rw[HM.o,ZI];cases kx ps.reverse xn yn <;> simp[bH])
    clear HM ZI
    have HM:=HMn
    clear HMn
    go_wp2
    rw[<-eN.o]
    go_loopw [9] (fun i wr=>∃j:Nat,j<=p0/\i=.int .i64 ((j:Int) - 1)/\Below W2.heap.size W2 wr/\kx ps.reverse xn yn=kx (ps.take j).reverse xn yn) (fun i _=>(intOf i+1).toNat)
    case atStart=>exact ⟨p0,Nat.le_refl _,by go_num,Below.refl _ _,by rw[vR.o,List.take_length]⟩
    case round=>
     obtain ⟨j,hj,rfl,cQ,ht⟩:=hrel
     cases j with
     | zero=>
      have HE:Hd (R=(xn == yn)):=ab (by rw[HM.o,ht,List.take_zero];simp[AT])
      have bW:=ab (bZ.o.trans (cQ.mono bZ.o.size))
      have zay:((0:Nat):Int) - 1=-1:=rfl
      have x1:wr.cell? ⟨w.heap.size,1,none⟩=some (.string ⟨xn.toArray⟩):=aa cQ (ai HX.o 1)
      have y1:wr.cell? ⟨w.heap.size+1,1,none⟩=some (.string ⟨yn.toArray⟩):=aa cQ (ai HY.o 1)
      clear cQ ht
      go_wp2
      go_ret
      exact ⟨aA HE.o.symm,bW.o⟩
     | succ j=>
      exact pm148
  ·have AV:R=false:=by rw[hm];rcases Decidable.not_and_iff_or_not.1 zY with h | h <;> simp[h]
   have HE:=ab AV
   clear hm AV
   go_enter Tryz.func147,Tryz.ntmps147
   exact pm113):G:=h
theorem pm39(h:G:=by
 exact pm215):G:=h
theorem pm40(h:G:=by
 go_wp2_with (go_at_call 91;refine ll.o.mono ?_;rintro e w4 ⟨⟨⟨po,pn,pa,pl,pc,pb,pm,pe⟩,rfl,hp⟩,aN⟩;simp only[Option.isSome]at hp ⊢;rw[<-eN.o]at aN;have a_:Below w4.heap.size w4 (w4.alloc (.cells #[.int .u8 po,.string pn,.slice pa pl pc,.slice pb pm pe] 36)):=ct;have qO:=eq.o.later (aN.tr a_) (fun r=>r.below (aN.tr a_));have x5:=qO.other (by omega) Mn.o;obtain ⟨e0,e1,e2,e3,z0,z1,z2,z3⟩:=cW x5;have H5:=aF (aN.tr a_) x5;clear hp aN a_ qO x5)
 have pp272:=();exact pm272):G:=h
theorem pm41(h:G:=by
 obtain ⟨e0,e1,e2,e3,z0,z1,z2,z3⟩:=cW Qb
 obtain ⟨s0,s1,s2,_,_,_⟩:=fI T0
 have CP:=rV W0 f cF t wk.o.1.fit (by have:=wk.o.1.nodes;omega) wk.o.1.wf wk.o.1.qone (by have:=HF.o.2.2.2.1;omega) lD.o.2.2.1.fit (by have:=lD.o.2.2.1.2;omega) _ _ W9 ⟨Cs,Ct,Cu,Cv,Cw,Cx,Cy,Cz⟩ ⟨M5,M6,M7,M8,M9⟩ (KI.o.kp (yR.two HG.o.1 HG.o.2.1) HG.o.2.2.2.1) (lD.o.2.2.2.2.1.later kG) (lD.o.2.2.2.2.2.2.later kG)
 simp only[FQ.val,TQ.val]at CP
 have GW:=ab CP
 have H9:=ce kG yR Qb TZ
 obtain ⟨bb,cv⟩:=ao (bT [] (gS cF t f) im)
 rw[<-cv]at Hs
 obtain ⟨Nc,IT⟩:=aS Hs cv
 clear kG yR Qb TZ T0 CP Hs cv
 go_upto_region 21 with (go_at_call 101;refine GW.o.mono ?_;rintro e XW ⟨⟨⟨r0,r1,r2,r3,r4,r5,r6,r7⟩,rfl,hr⟩,Ap⟩;have Ci:=bC Ap H9.o.2.2.1;obtain ⟨y0,y1,y2,y3,v0,v1,v2,v3⟩:=cW Ci;have kz:=bx hr Ap Ci;clear hr Ap Ci)
 clear e0 e1 e2 e3 z0 z1 z2 z3 s0 s1 s2 y0 y1 y2 y3 v0 v1 v2 v3
 obtain ⟨ny,oV,Qc,C9,y0,y1,y2,y3⟩:=xW kz.o.2.2 (.int .u8 r0) (.string r1) (.slice r2 r3 r4) (.slice r5 r6 r7)
 rw[<-oV]
 first
 |clear pp41
  have T1:=(bl H9.o.2.2.1)
  have yS:Below Aq.heap.size Aq XW:=H9.o.1.tr kz.o.2.1
  have Nr:=(C9.same _ (by have:=(bl H9.o.2.2.2);have:=kz.o.2.1.size;omega) (by have:=HT7.o;omega)).trans (bC kz.o.2.1 H9.o.2.2.2)
  obtain ⟨j0,j1,j2,j3,_,_,_,_⟩:=cW Nr
  have Yf:FormV (fun b=>W9.heap.size<=b) ny (FQ.val ⟨r0,r1,r2,r3,r4,r5,r6,r7⟩) (gS cF t f):=kz.o.1.move (fun b hb hlt=>⟨hb,C9.same b hlt (by omega)⟩)
  have Yg:FormV (fun b=>¬M b/\b≠W1.heap.size) ny (FQ.val ⟨p0,p1,p2,p3,p4,p5,p6,p7⟩) im:=(lD.o.2.2.2.2.2.1.later yS).move (fun b hb hlt=>⟨hb,C9.same b hlt hb.2⟩)
  have yT:=lD.o.2.2.2.1.later yS
  have sx:KnV (fun b=>¬M b) goodF goodT ny kb mF mT nF (nT+1) (⟨k.fs,gw y t k.ts⟩):=yT.move (fun b hb hlt=>⟨hb.1,C9.same b hlt hb.2⟩) (C9.same _ yT.ltb (by have:=vK.o.1;omega)) (C9.same _ yT.fs.lt (by have:=vK.o.2.1;omega)) (C9.same _ yT.ts.lt (by have:=vK.o.2.2.1;omega))
  have CA:=sj (gS cF t f) im [] (.slice none 0 0) _ _ ny ⟨r0,r1,r2,r3,r4,r5,r6,r7⟩ ⟨p0,p1,p2,p3,p4,p5,p6,p7⟩ (by have:=(sh (x:=cF) wk.o.1 lD.o.2.2.1).1;simp[dK];omega) (sh wk.o.1 lD.o.2.2.1) Yf Yg (PairsV.nil ny)
  simp only[FQ.val,List.reverse_nil,<-IT.o]at CA
  have CG:=ab CA
  have Ht:=aF (Ho (H9.o.2.1.trans (Kp.below kz.o.2.1)) C9 (by have:=vK.o.2.2.2.2;omega)) sx
  clear T1 yS Nr Yf Yg yT sx CA Qc C9 oV
  cases bb
  ·go_wp2_with (go_at_call 92;refine CG.o.mono ?_;rintro e XZ ⟨rfl,nY⟩;have Lp:=ab nY;clear nY)
   go_ret
   exact StepPost.bad Nc.o (by decide) (Ht.o.1.trans (Kp.below Lp.o))
  ·go_wp2_with (go_at_call 92;refine CG.o.mono ?_;rintro e XZ ⟨rfl,nY⟩;have Lp:=ab nY;clear nY)
   go_ret
   exact StepPost.good nF (nT+1) Nc.o (Ht.o.1.trans (Kp.below Lp.o)) (by omega) (by omega) (Ht.o.2.later Lp.o)
 |have T1:=(bl H9.o.2.2.1)
  have yS:Below W8.heap.size W8 XW:=H9.o.1.tr kz.o.2.1
  have Nr:=(C9.same _ (by have:=(bl H9.o.2.2.2);have:=kz.o.2.1.size;omega) (by have:=HT7.o;omega)).trans (bC kz.o.2.1 H9.o.2.2.2)
  obtain ⟨j0,j1,j2,j3,_,_,_,_⟩:=cW Nr
  have Yf:FormV (fun b=>W9.heap.size<=b) ny (FQ.val ⟨r0,r1,r2,r3,r4,r5,r6,r7⟩) (gS cF t f):=kz.o.1.move (fun b hb hlt=>⟨hb,C9.same b hlt (by omega)⟩)
  have Yg:FormV (fun b=>¬M b/\b≠W1.heap.size) ny (FQ.val ⟨p0,p1,p2,p3,p4,p5,p6,p7⟩) im:=(lD.o.2.2.2.2.2.1.later yS).move (fun b hb hlt=>⟨hb,C9.same b hlt hb.2⟩)
  have yT:=lD.o.2.2.2.1.later yS
  have sx:KnV (fun b=>¬M b) goodF goodT ny kb mF mT nF (nT) ({ k with ts:=k.ts }):=yT.move (fun b hb hlt=>⟨hb.1,C9.same b hlt hb.2⟩) (C9.same _ yT.ltb (by have:=vK.o.1;omega)) (C9.same _ yT.fs.lt (by have:=vK.o.2.1;omega)) (C9.same _ yT.ts.lt (by have:=vK.o.2.2.1;omega))
  have CA:=sj (gS cF t f) im [] (.slice none 0 0) _ _ ny ⟨r0,r1,r2,r3,r4,r5,r6,r7⟩ ⟨p0,p1,p2,p3,p4,p5,p6,p7⟩ (by have:=(sh (x:=cF) wk.o.1 lD.o.2.2.1).1;simp[dK];omega) (sh wk.o.1 lD.o.2.2.1) Yf Yg (PairsV.nil ny)
  simp only[FQ.val,List.reverse_nil,<-IT.o]at CA
  have CG:=ab CA
  have Ht:=aF (Ho (H9.o.2.1.trans (Kp.below kz.o.2.1)) C9 (by have:=vK.o.2.2.2.2;omega)) sx
  clear T1 yS Nr Yf Yg yT sx CA Qc C9 oV
  cases bb
  ·go_wp2_with (go_at_call 92;refine CG.o.mono ?_;rintro e XZ ⟨rfl,nY⟩;have Lp:=ab nY;clear nY)
   go_ret
   exact StepPost.bad Nc.o (by decide) (Ht.o.1.trans (Kp.below Lp.o))
  ·go_wp2_with (go_at_call 92;refine CG.o.mono ?_;rintro e XZ ⟨rfl,nY⟩;have Lp:=ab nY;clear nY)
   go_ret
   exact StepPost.good nF (nT) Nc.o (Ht.o.1.trans (Kp.below Lp.o)) (by omega) (by omega) (Ht.o.2.later Lp.o)):G:=h
theorem pm42(h:G:=by
 obtain ⟨S,hS⟩:∃S:World->Prop,S=fun V=>Below w3.heap.size w3 V:=⟨_,rfl⟩
 have ff:∀ V,S V->V.cell? ⟨kb,1,none⟩=some (.map (some mT))/\V.cell? ⟨w.heap.size,1,none⟩=some (.string ⟨n.toArray⟩)/\(Instr.lookup 146 (.map (some mT)) (.string ⟨n.toArray⟩) false).run Tryz.prog V=.ok (.agg #[.bool z0,.string z1,.slice z2 z3 z4]) V:=fun V h=>by
  rw[hS]at h
  exact ⟨aa h (ai kh.box 1),aa h (ai x3 1),yx V (h.block _ bc)⟩
 have dB:S w3.drew:=by rw[hS];exact (Below.refl _ _).drew
 first
 |clear pp42a
  have HC:=ab (fun (V:World) (h:Below w3.heap.size w3 V)=>jO _ EW (by omega) _ V ⟨z0,z1,z2,z3,z4⟩ (hz.later h))
  simp only[TQ.val]at HC
  obtain ⟨m,hm⟩:=ao (nodesT (termOf k.ts n))
  rw[<-hm]at HC pB
  have dr:=ab hS
  clear hS kh x3 hz EW IZ yx bc hm e0 e1 e2
  refine (wpIn_wide (n:=3)).1 ?_
  refine br S 8 (by kernel_rfl) dB (fun jr dt=>?_)
  refine bS 0 15 (.pointer (some ⟨kb,0,none⟩)) rfl dt fun eC=>?_
  simp only[ak]
  refine bS 1 16 (.pointer (some ⟨kb,0,none⟩)) rfl eC fun eX=>?_
  simp only[ak]
  refine bS 2 17 (.pointer (some ⟨kb,1,none⟩)) rfl eX fun fM=>?_
  simp only[ak]
  refine dc 3 18 (.map (some mT)) rfl (fun V hX=>by obtain ⟨h0,h1,h2⟩:=ff V hX;go_simp) fM fun gE=>?_
  simp only[ak]
  refine bS 4 19 (.pointer (some ⟨w.heap.size,1,none⟩)) rfl gE fun iu=>?_
  simp only[ak]
  refine dc 5 20 (.string ⟨n.toArray⟩) rfl (fun V hX=>by obtain ⟨h0,h1,h2⟩:=ff V hX;go_simp) iu fun iP=>?_
  simp only[ak]
  refine dc 6 21 (.agg #[.bool z0,.string z1,.slice z2 z3 z4]) rfl (fun V hX=>by obtain ⟨h0,h1,h2⟩:=ff V hX;go_simp) iP fun kV=>?_
  simp only[ak]
  refine b_ 7 rfl fun K hK=>?_
  go_simp
  refine callsIn_wide.2 ((HC.o _ (by have h:=dt;rw[dr.o]at h;exact h)).mono ?_)
  rintro e w7 ⟨rfl,eT⟩
  have H7:=ab (((Below.refl w3.heap.size w3).drew).trans eT)
  refine hK _ _ (fun _=>by rw[dr.o];exact H7.o) (fun _=>?_)
  clear hK K eT
  refine b_ 8 rfl fun K hK=>?_
  go_simp
  refine ee hK ?_
  clear hK K
  refine cO (by kernel_rfl) ?_ _
  clear ff dB dt eC eX fM gE iu iP kV jr
  go_wp2
  go_ret
  exact ⟨by rw[pB.o];rfl,(H1.o.1.tr H3.o).tr H7.o⟩
 |clear pp42b
  have Nb:=ln _ Na
  have cq:=Nat.le_trans (ei (aI (termOf k.ts n))) (lm (termOf k.ts n))
  have HC:=ab (fun (V:World) (h:Below w3.heap.size w3 V)=>kE _ EW _ V ⟨z0,z1,z2,z3,z4⟩ (hz.later h))
  simp only[TQ.val]at HC
  obtain ⟨m,hm⟩:=ao (de (aI (termOf k.ts n)))
  have Hc:∀ x∈m,x.length<=2000000:=fun x hx=>by rw[hm,dj]at hx;exact Nat.le_trans (Nb x hx) (by decide)
  have tQ:m.length<=2000000:=by rw[hm];omega
  rw[<-hm]at HC pB
  have HM:=aF Hc tQ
  clear Hc tQ cq Nb
  have dr:=ab hS
  clear hS kh x3 hz EW IZ Na yx bc hm e0 e1 e2
  refine (wpIn_wide (n:=3)).1 ?_
  refine br S 9 (by kernel_rfl) dB (fun jr dt=>?_)
  refine bS 0 15 (.pointer (some ⟨kb,0,none⟩)) rfl dt fun eC=>?_
  simp only[ak]
  refine bS 1 16 (.pointer (some ⟨kb,0,none⟩)) rfl eC fun eX=>?_
  simp only[ak]
  refine bS 2 17 (.pointer (some ⟨kb,1,none⟩)) rfl eX fun fM=>?_
  simp only[ak]
  refine dc 3 18 (.map (some mT)) rfl (fun V hX=>by obtain ⟨h0,h1,h2⟩:=ff V hX;go_simp) fM fun gE=>?_
  simp only[ak]
  refine bS 4 19 (.pointer (some ⟨w.heap.size,1,none⟩)) rfl gE fun iu=>?_
  simp only[ak]
  refine dc 5 20 (.string ⟨n.toArray⟩) rfl (fun V hX=>by obtain ⟨h0,h1,h2⟩:=ff V hX;go_simp) iu fun iP=>?_
  simp only[ak]
  refine dc 6 21 (.agg #[.bool z0,.string z1,.slice z2 z3 z4]) rfl (fun V hX=>by obtain ⟨h0,h1,h2⟩:=ff V hX;go_simp) iP fun kV=>?_
  simp only[ak]
  refine b_ 7 rfl fun K hK=>?_
  go_simp
  refine callsIn_wide.2 ((HC.o _ (by have h:=dt;rw[dr.o]at h;exact h)).mono ?_)
  rintro e w7 ⟨⟨v7,rfl,Kb⟩,eT⟩
  have H7:=ab (((Below.refl w3.heap.size w3).drew).trans eT)
  have CH:=pE m HM.o.2 HM.o.1 _ w7 v7 Kb.1
  have SV:=ab CH
  refine hK _ _ (fun _=>by rw[dr.o];exact H7.o) (fun _=>?_)
  clear hK K eT Kb CH
  refine b_ 8 rfl fun K hK=>?_
  go_simp
  refine callsIn_wide.2 (SV.o.mono ?_)
  rintro e w8 ⟨⟨v8,rfl,EC⟩,RQ⟩
  have f_:Below w3.heap.size w3 w8:=jW (w:=w3) H7.o RQ
  have H8:=aF f_ EC
  refine hK _ _ (fun _=>by rw[dr.o];exact H8.o.1) (fun _=>?_)
  clear hK K RQ f_ EC
  refine b_ 9 rfl fun K hK=>?_
  go_simp
  refine ee hK ?_
  clear hK K
  refine cO (by kernel_rfl) ?_ _
  clear ff dB dt eC eX fM gE iu iP kV jr
  go_wp2
  go_ret
  exact ⟨⟨_,rfl,by rw[pB.o];exact H8.o.2.base (((H1.o.1.tr H3.o)).size)⟩,(H1.o.1.tr H3.o).tr H8.o.1⟩
 |have HC:=ab (fun (V:World) (h:Below w3.heap.size w3 V)=>mV _ EW _ V ⟨z0,z1,z2,z3,z4⟩ (hz.later h))
  simp only[TQ.val]at HC
  rw[<-HU.o]at HC
  have dr:=ab hS
  clear hS kh x3 hz EW IZ yx bc
  refine (wpIn_wide (n:=3)).1 ?_
  refine br S 8 (by kernel_rfl) dB (fun jr dt=>?_)
  refine bS 0 18 (.pointer (some ⟨kb,0,none⟩)) rfl dt fun eC=>?_
  simp only[ak]
  refine bS 1 19 (.pointer (some ⟨kb,0,none⟩)) rfl eC fun eX=>?_
  simp only[ak]
  refine bS 2 20 (.pointer (some ⟨kb,1,none⟩)) rfl eX fun fM=>?_
  simp only[ak]
  refine dc 3 21 (.map (some mT)) rfl (fun V hX=>by obtain ⟨h0,h1,h2⟩:=ff V hX;go_simp) fM fun gE=>?_
  simp only[ak]
  refine bS 4 22 (.pointer (some ⟨w.heap.size,1,none⟩)) rfl gE fun iu=>?_
  simp only[ak]
  refine dc 5 23 (.string ⟨n.toArray⟩) rfl (fun V hX=>by obtain ⟨h0,h1,h2⟩:=ff V hX;go_simp) iu fun iP=>?_
  simp only[ak]
  refine dc 6 24 (.agg #[.bool z0,.string z1,.slice z2 z3 z4]) rfl (fun V hX=>by obtain ⟨h0,h1,h2⟩:=ff V hX;go_simp) iP fun kV=>?_
  simp only[ak]
  refine b_ 7 rfl fun K hK=>?_
  go_simp
  refine callsIn_wide.2 ((HC.o _ (by have h:=dt;rw[dr.o]at h;exact h)).mono ?_)
  rintro e w7 ⟨⟨pv,pn,pa,pl,pc⟩,rfl,Hb,eT⟩
  simp only at Hb ⊢
  have f_:=((Below.refl w3.heap.size w3).drew).trans eT
  have x7:=(f_.block _ (by omega)).trans bp.o.2.1
  obtain ⟨d0,d1,d2,f0,f1,f2⟩:=fI x7
  have Rp:=Hb.move (ok':=(w.heap.size+2<=·)) (fun b hok hlt=>⟨by have hzd:w3.drew.heap.size=w3.heap.size:=rfl;simp only at hok ⊢;omega,rfl⟩)
  have H7:=bx f_ x7 Rp
  have hz7:=f_.size
  refine hK _ _ (fun _=>by rw[dr.o];exact H7.o.1) (fun _=>?_)
  clear hK K eT f_ x7 Hb Rp
  refine b_ 8 rfl fun K hK=>?_
  go_simp
  refine ee hK ?_
  clear hK K
  refine cO (by kernel_rfl) ?_ _
  clear ff dB dt eC eX fM gE iu iP kV jr
  clear d0 d1 d2 f0 f1 f2
  have x6:=oy (v0:=.bool pv) (v1:=.string pn) (v2:=.slice pa pl pc) H7.o.2.1
  have k6:=d8 (W:=w7) (b:=w.heap.size+1) (v0:=.bool pv) (v1:=.string pn) (v2:=.slice pa pl pc)
  obtain ⟨W6,cM⟩:=ao (((w7.setCell ⟨w.heap.size+1,0,none⟩ (.bool pv)).setCell ⟨w.heap.size+1,1,none⟩ (.string pn)).setCell ⟨w.heap.size+1,2,none⟩ (.slice pa pl pc))
  rw[<-cM]at x6 k6 ⊢
  clear cM
  obtain ⟨g0,g1,g2,_⟩:=fI x6
  go_wp2
  refine bodyPost_ret (v:=TQ.val ⟨pv,pn,pa,pl,pc⟩) (by simp[TQ.val,results,Tryz.results127,go_sem,g0,g1,g2]) rfl ⟨⟨⟨pv,pn,pa,pl,pc⟩,rfl,H7.o.2.2.move (fun b hok hlt=>⟨by omega,k6.same b hlt (by omega)⟩)⟩,Below.kp1 (bp.o.1.tr H7.o.1) k6 (by omega)⟩):G:=h
theorem pm43(h:G:=by
 have pp289:=();exact pm289):G:=h
theorem pm44(h:G:=by
 rintro D X hD ⟨k',uT,r',h1,h2,h3,h4,h5,h6,h7,h8⟩ _ hd
 have Ug:=RJ.o
 rw[h1,if_pos rfl]at Ug
 have DH:=oM s f []
 have G':Kp M ny X:=eJ.o.2.2.2.1.trans ((Kp.below eJ.o.1).trans h8)
 have jq:Marks kJ.heap.size X ({ target:=.collected D,args:=#[] } :: Uc):=eJ.o.2.2.1.more (w':=X) (fun E hE hx=>(h8.same E (bl hx) (fun hm=>by have:=rl.o.2.2.2.2.1 E hm;omega)).trans hx) hD (by have:=eJ.o;omega) hd
 have HZ:=ab (OX G' jq h6 h7 h2 h5 Ug)
 have NI:=ab (show uT<=nF+(j+1) * 400/\r'<=nT+(j+1) * 160000 by have:=sZ.o.1;have:=sZ.o.2.1;have:=sZ.o.2.2.1;omega)
 clear h1 h2 h3 h4 h5 h6 h7 h8 Ug DH G' jq hd
 gi_wp2
 refine RoundEnd.mk ?hT ?hr ?hm
 case hT=>kernel_rfl
 case hr=>
  refine ⟨j+1,by omega,by kernel_rfl,HZ.o.2.1,HZ.o.1,HZ.o.2.2.1,HZ.o.2.2.2.1,k',uT,r',HZ.o.2.2.2.2.1,NI.o.1,NI.o.2,HZ.o.2.2.2.2.2.1,HZ.o.2.2.2.2.2.2⟩
 case hm=>
  refine (show n1 - (intOf (Value.int IntKind.i64 (((j+1:Nat)):Int))).toNat<n1 - (intOf (Value.int IntKind.i64 (j:Int))).toNat from ?_)
  simp[intOf]
  omega):G:=h
theorem pm45(h:G:=by
 obtain ⟨fX,tw⟩:=ao wr
 subst tw
 have sk:=ab (f9.o.trans (cQ.mono f9.o.size))
 have sq:=ab (bC cQ kI.o)
 have PJ:=ab (bC cQ lX.o)
 have PK:=ab (nK.o.later cQ)
 have x0:fX.cell? ⟨w.heap.size,0,none⟩=some (.int .u8 uo):=ai sq.o 0
 have x1:fX.cell? ⟨w.heap.size,1,none⟩=some (.string ⟨xn.toArray⟩):=ai sq.o 1
 have x2:fX.cell? ⟨w.heap.size,2,none⟩=some (.slice ua k0 uc):=ai sq.o 2
 have x3:fX.cell? ⟨w.heap.size,3,none⟩=some (.slice ub k1 ue):=ai sq.o 3
 clear cQ ht kI lX nK f9
 first
 |clear pp45a
  go_wp2_with (go_at_call 93;refine (EO.o _).mono ?_;rintro e X4 ⟨rfl,aN⟩;have kI:=ab (bC aN sq.o);have lX:=ab (bC aN PJ.o);have nK:=ab (PK.o.later aN);have f9:=ab (sk.o.trans (aN.mono sk.o.size));have z3:X4.cell? ⟨w.heap.size,3,none⟩=some (.slice ub k1 ue):=ai kI.o 3;clear aN)
  go_loopw [80] (fun i wr=>∃k:Nat,k<=k1/\i=.int .i64 k/\Below X4.heap.size X4 wr/\R=cb ps.reverse (xs.drop k) (ys.drop k)) (fun i _=>k1 - (intOf i).toNat)
  case atStart=>exact ⟨0,Nat.zero_le _,rfl,Below.refl _ _,by simpa using MV.o⟩
  case round=>
   have pp302c:=();exact pm302
 |clear pp45b
  go_wp2_with (go_at_call 93;refine (EO.o _).mono ?_;rintro e X4 ⟨rfl,aN⟩;have kI:=ab (bC aN sq.o);have lX:=ab (bC aN PJ.o);have nK:=ab (PK.o.later aN);have f9:=ab (sk.o.trans (aN.mono sk.o.size));have z3:X4.cell? ⟨w.heap.size,3,none⟩=some (.slice ub k1 ue):=ai kI.o 3;clear aN)
  obtain ⟨S,hS⟩:∃S:World->Prop,S=fun V=>Below X4.heap.size X4 V:=⟨_,rfl⟩
  have tC:X4.cell? ⟨w.heap.size,1,none⟩=some (.string ⟨xn.toArray⟩):=ai kI.o 1
  have qD:X4.cell? ⟨w.heap.size+1,1,none⟩=some (.string ⟨xn.toArray⟩):=ai lX.o 1
  have f0:∀ V,S V->V.cell? ⟨w.heap.size,1,none⟩=some (.string ⟨xn.toArray⟩):=fun V h=>by rw[hS]at h;exact aa h tC
  have f1:∀ V,S V->V.cell? ⟨w.heap.size+1,1,none⟩=some (.string ⟨xn.toArray⟩):=fun V h=>by rw[hS]at h;exact aa h qD
  have dB:S X4.drew:=by rw[hS];exact (Below.refl _ _).drew
  have DH:=HP.o.cases
  obtain ⟨RF,dr⟩:=aS DH hS
  clear hS tC qD DH
  refine (wpIn_wide (n:=3)).1 ?_
  refine br S 12 (by kernel_rfl) dB (fun jr dt=>?_)
  refine bS 0 64 (.slice pa p0 pc) rfl dt fun eC=>?_
  simp only[ak]
  refine bS 1 65 (.slice pa p0 pc) rfl eC fun eX=>?_
  simp only[ak]
  refine bS 2 66 (.int .i64 (p0:Int)) rfl eX fun fM=>?_
  simp only[ak]
  refine bS 3 67 (.slice pa p0 pc) rfl fM fun gE=>?_
  simp only[ak]
  refine bS 4 68 (.int .i64 (p0:Int)) rfl gE fun iu=>?_
  simp only[ak]
  refine dc 5 69 (.slice pa p0 p0) rfl (fun V hX=>by rcases RF.o with ⟨rfl,rfl,rfl⟩ | ⟨b,off,rfl⟩ <;> go_simp) iu fun iP=>?_
  simp only[ak]
  refine bS 6 70 (.pointer (some ⟨w.heap.size,1,none⟩)) rfl iP fun kV=>?_
  simp only[ak]
  refine dc 7 71 (.string ⟨xn.toArray⟩) rfl (fun V hX=>by have g0:=f0 V hX;go_simp) kV fun pt=>?_
  simp only[ak]
  refine bS 8 72 (.pointer (some ⟨w.heap.size+1,1,none⟩)) rfl pt fun EJ=>?_
  simp only[ak]
  refine dc 9 73 (.string ⟨xn.toArray⟩) rfl (fun V hX=>by have g1:=f1 V hX;go_simp) EJ fun wd=>?_
  simp only[ak]
  refine bS 10 74 (.agg #[.string ⟨xn.toArray⟩,.string ⟨xn.toArray⟩]) rfl wd fun EK=>?_
  simp only[ak]
  refine b_ 11 rfl fun K hK=>?_
  go_simp
  have ls:Below X4.heap.size X4 (X4.alloc (.cells #[.string ⟨xn.toArray⟩,.string ⟨xn.toArray⟩] 213)).drew:=((Below.refl _ X4).alloc (Nat.le_refl _) _).drew
  refine hK _ _ (fun _=>by rw[dr.o];exact ls) (fun _=>?_)
  clear hK K
  have hold:((.slice pa p0 p0:Value)=.slice none 0 0/\p0=0/\eY ps=[])\/∃b,(.slice pa p0 p0:Value)=.slice (some b) p0 p0/\(eY ps).length=p0 * 2/\∀ j u,(eY ps)[j]?=some u->(X4.alloc (.cells #[.string ⟨xn.toArray⟩,.string ⟨xn.toArray⟩] 213)).drew.cell? (b.add j)=some u:=by
   exact pm115
  refine b_ 12 rfl fun K hK=>?_
  refine fk (.tmp 69) (.tmp 75) 87 rfl 213 i0 (.agg #[.string ByteArray.empty,.string ByteArray.empty]) 2 32 Tryz.underlying87 hi rq jS hO rfl (by decide) (.slice pa p0 p0) p0 (eY ps) rfl hold ⟨X4.heap.size,0,none⟩ 1 1 [.string ⟨xn.toArray⟩,.string ⟨xn.toArray⟩] rfl rfl (cK (cs:=#[.string ⟨xn.toArray⟩,.string ⟨xn.toArray⟩]) (t:=213) (fr:=(0,0)) (World.alloc_heap_new X4 _)) (by simp[Value.oneCell']) (by decide) (by unfold maxLen;omega) (by omega) ?_
  intro g cap X5 aC aq
  have sX:Below X4.heap.size X4 X5:=⟨aq.os.trans ls.os,aq.tape.trans ls.tape,aq.output.trans ls.output,Nat.le_trans ls.size aq.size,fun b hb=>(aq.block b (Nat.lt_of_lt_of_le hb ls.size) (by simp)).trans (ls.block b hb)⟩
  have MW:=bC sX kI.o
  have RG:=bC sX lX.o
  have Lk:=f9.o.trans (sX.mono f9.o.size)
  rw[<-ji (xn,xn) ps]at aC
  have nU:=PairsV.own aC
  have z5:X5.cell? ⟨w.heap.size,3,none⟩=some (.slice ub k1 ue):=ai MW 3
  clear kI lX f9 nK z3
  obtain ⟨kI,lX,f9,nK⟩:=eA MW RG Lk nU
  clear MW RG Lk nU aC aq ls sX hold
  refine ee hK ?_
  clear hK K
  refine b_ 13 rfl fun K hK=>?_
  go_simp
  refine ee hK ?_
  clear hK K
  refine cO (by kernel_rfl) ?_ _
  go_wp2
  go_loopw [80] (fun i wr=>∃k:Nat,k<=k1/\i=.int .i64 k/\Below X5.heap.size X5 wr/\R=cb (ps ++ [(xn,xn)]).reverse (xs.drop k) (ys.drop k)) (fun i _=>k1 - (intOf i).toNat)
  case atStart=>exact ⟨0,Nat.zero_le _,rfl,Below.refl _ _,by simpa using MV.o⟩
  case round=>
   have pp302d:=();exact pm302
 |go_wp2_with (go_at_call 146;refine (EO.o _).mono ?_;rintro e X4 ⟨rfl,aN⟩;have kI:=ab (bC aN sq.o);have lX:=ab (bC aN PJ.o);have nK:=ab (PK.o.later aN);have f9:=ab (sk.o.trans (aN.mono sk.o.size));have z3:X4.cell? ⟨w.heap.size,3,none⟩=some (.slice ub k1 ue):=ai kI.o 3;clear aN)
  go_loopw [80] (fun i wr=>∃k:Nat,k<=k1/\i=.int .i64 k/\Below X4.heap.size X4 wr/\R=cb ps.reverse (xs.drop k) (ys.drop k)) (fun i _=>k1 - (intOf i).toNat)
  case atStart=>exact ⟨0,Nat.zero_le _,rfl,Below.refl _ _,by simpa using MV.o⟩
  case round=>
   exact pm302):G:=h
theorem pm46(h:G:=by
 exact pm110):G:=h
theorem pm47(h:G:=by
 rw[<-bO]at ej
 rw[<-du]at vT
 rw[<-iT]at xG
 rw[<-iR]at PI
 rw[<-jM]at hp
 rw[<-bO,<-du,<-iT,<-iR,<-jM]
 obtain ⟨cY,fN,FX,Cq,vR,J2,Mc,L_,Vx,HP⟩:=In bO du iT iR jM ej vT xG PI hp
 obtain ⟨eM,MU,Py⟩:=cf ih uK GF
 clear hR bO du iT iR jM ej vT xG PI hp ih hf uK GF hq jC hD
 obtain ⟨W2,aY⟩:=ao ((w.alloc (.cells #[.int .u8 uo,.string ⟨xn.toArray⟩,.slice ua k0 uc,.slice ub k1 ue] 36)).alloc (.cells #[.int .u8 vo,.string ⟨yn.toArray⟩,.slice va m0 vc,.slice vb m1 ve] 36))
 have bA:=j7 aY
 have HX:Hd (W2.heap[w.heap.size]?=some (.cells #[.int .u8 uo,.string ⟨xn.toArray⟩,.slice ua k0 uc,.slice ub k1 ue] 36 (0,0))):=ab (by rw[aY];exact (Below.heap_alloc _ _ _ (by simp)).trans (aj rfl))
 have HY:Hd (W2.heap[w.heap.size+1]?=some (.cells #[.int .u8 vo,.string ⟨yn.toArray⟩,.slice va m0 vc,.slice vb m1 ve] 36 (0,0))):=ab (by rw[aY];exact aj (by simp))
 obtain ⟨bZ,eN⟩:=aS bA aY
 first
 |clear pp47
  have EO:=ab (fun (W:World)=>ef ⟨uo,⟨xn.toArray⟩,ua,k0,uc,ub,k1,ue⟩ W)
  unfold FQ.val at EO
  simp only at EO
  clear bA aY
  unfold FQ.val
  by_cases zY:uo=vo/\k0=m0/\k1=m1
  ·obtain ⟨rfl,rfl,rfl⟩:=zY
   have pp129:=();exact pm129
  ·have AV:R=false:=by
    exact pm281
   have HE:=ab AV
   clear hm AV
   go_enter Tryz.func92,Tryz.ntmps92
   exact pm63
 |have EO:=ab (fun (W:World)=>ke ⟨uo,⟨xn.toArray⟩,ua,k0,uc,ub,k1,ue⟩ W)
  unfold FQ.val at EO
  simp only at EO
  clear bA aY
  unfold FQ.val
  by_cases zY:uo=vo/\k0=m0/\k1=m1
  ·obtain ⟨rfl,rfl,rfl⟩:=zY
   exact pm129
  ·have AV:R=false:=by
    exact pm281
   have HE:=ab AV
   clear hm AV
   go_enter Tryz.func83,Tryz.ntmps83
   exact pm63):G:=h
theorem pm48(h:G:=by
 refine dc 1 93 (.agg #[.int .u8 so,.string sn,.slice sa sl sc,.slice sb sm se,.int .u8 fo,.string fn,.slice fa fl fc,.slice fb fm fe,.slice ca cl cc]) rfl (fun V hX=>by obtain ⟨h0,h1,h2,h3,h4,h5,h6,h7,h8⟩:=pp V hX;go_simp) eC fun eX=>?_
 simp only[ak]
 refine dc 2 94 (.agg #[.bool xv,.string xn,.slice xa xl xc]) rfl (fun V hX=>by obtain ⟨h0,h1,h2⟩:=tt V hX;go_simp) eX fun fM=>?_
 simp only[ak]
 refine bS 3 95 (.pointer (some ⟨W.heap.size+1+1,2,none⟩)) rfl fM fun gE=>?_
 simp only[ak]
 refine dc 4 96 (.slice (some ⟨b2,o2,none⟩) n1 uc) rfl (fun V hX=>by have h0:=uu V hX;go_simp) gE fun iu=>?_
 simp only[ak]
 refine bS 5 97 (.int .i64 (j:Int)) rfl iu fun iP=>?_
 simp only[ak]
 refine bS 6 98 (.pointer (some ⟨b2,o2+j * 3,none⟩)) rfl iP fun kV=>?_
 simp only[ak]
 refine dc 7 99 (.agg #[.bool yv,.string yn,.slice ya yl yc]) rfl (fun V hX=>by obtain ⟨h0,h1,h2⟩:=yy V hX;go_simp) kV fun pt=>?_
 simp only[ak]
 first
 |clear pp48
  refine b_ 8 rfl fun K hK=>?_
  go_simp
  refine callsIn_wide.2 (HC.o.mono ?_)
  rintro e w7 ⟨mK,r,rfl,fP,_⟩;obtain rfl:=fP (by simp);have H7:=ab mK;clear mK fP
  refine ee hK ?_
  clear hK K
  refine b_ 9 rfl fun K hK=>?_
  go_simp
  refine ee hK ?_
  clear hK K
  refine cO (by kernel_rfl) ?_ _
  clear pp tt uu yy dB dt jr
  go_wp2
  go_ret
  exact ⟨((Kp.below H3.o.1).trans HK.o.1).trans H7.o,false,rfl,(fun _=>rfl),(fun ts fB=>by rw[G6.o]at fB;cases fB)⟩
 |refine b_ 8 rfl fun K hK=>?_
  go_simp
  refine callsIn_wide.2 (HC.o.mono ?_)
  rintro e w7 ⟨mK,r,rfl,_,RD⟩;obtain ⟨rfl,XF,RE,yo⟩:=RD _ rfl;have H7:=bx mK RE yo;clear mK RD RE yo
  refine ee hK ?_
  clear hK K
  refine b_ 9 rfl fun K hK=>?_
  go_simp
  refine ee hK ?_
  clear hK K
  refine cO (by kernel_rfl) ?_ _
  clear pp tt uu yy dB dt jr
  go_wp2
  go_roundw
  case rel=>exact ⟨j+1,XF,ts0,by omega,by go_num,HK.o.1.trans H7.o.1,by have:=H7.o.2.1;have:=HK.o.2;omega,H7.o.2.2,G6.o⟩
  case measure=>simp[intOf];omega):G:=h
theorem pm49(h:G:=by
 have HE:Hd (BX=false):=ab (hM.trans (by simp))
 clear hM qB oc zI cv
 exact pm78):G:=h
theorem pm50(h:G:=by
 have hs:=hb.size
 refine ⟨qs ++ [(x,q)],by simp[hk],by rw[List.flatMap_append];simpa using aR,fun j h1 h2=>?_⟩
 by_cases hj:j<qs.length
 ·rw[List.getElem_append_left hj,List.getElem_append_left (by omega)]
  refine ⟨(ht j hj (by omega)).1,(ht j hj (by omega)).2.move (fun b hok hlt=>⟨⟨hok.1,fun e=>?_⟩,(hold b hok.1 (by omega) hok.2).trans (hb.block b hlt)⟩)⟩
  injection e with e
  obtain rfl:g=b:=e
  rcases hg with hg | hg
  ·exact hok.2 hg
  ·omega
 ·have pS:j=ts.length:=by simp at h2;omega
  have pp252:=();exact pm252):G:=h
theorem pm51(h:G:=by
 go_enter Tryz.func239,Tryz.ntmps239
 go_wp2
 first
 |clear pp51a
  go_quiet ((first | (go_at_call 240;exact eS (CR.o _)) | (go_at_call 190;exact eS (CF.o _))))
  go_wp2
  go_ret
  exact ⟨aA (ox (by rw[mt h1];exact HF.o)).symm,⟨_,rfl⟩⟩
 |clear pp51b
  go_quiet ((first | (go_at_call 240;exact eS (CR.o _)) | (go_at_call 190;exact eS (CF.o _))))
  exact pm30
 |clear pp51c
  go_quiet ((go_at_call 240;exact eS (CR.o _)))
  go_wp2
  go_ret
  exact ⟨aA (ti HR.o).symm,⟨_,rfl⟩⟩
 |clear pp51d
  go_quiet (fail)
  go_wp2
  go_ret
  exact ⟨aA (kM (by rw[i9];omega)).symm,⟨_,rfl⟩⟩
 |clear pp51e
  go_quiet ((first | (go_at_call 240;exact eS (CR.o _)) | (go_at_call 216;exact eS (CF.o _))))
  go_wp2
  go_ret
  exact ⟨aA (ox (by rw[mt h1];exact HF.o)).symm,⟨_,rfl⟩⟩
 |clear pp51f
  go_quiet ((first | (go_at_call 240;exact eS (CR.o _)) | (go_at_call 216;exact eS (CF.o _))))
  go_wp2
  go_loopw [5] (fun i wr=>∃k:Nat,1<=k/\k<=s.size/\i=.int .i64 k/\kt zQ (s.data.toList.take k).tail=true/\∃n,wr=w.drewN n) (fun i _=>s.size - (intOf i).toNat)
  case atStart=>exact ⟨1,Nat.le_refl _,h1,rfl,by rw[List.take_one];cases s.data.toList <;> simp[kt],⟨_,rfl⟩⟩
  case round=>
   obtain ⟨k,iT,hk,rfl,ha,hw⟩:=hrel
   have Z4:wr.cell? ⟨b2,0,none⟩=some (.func (.func 217) #[] #[]):=by obtain ⟨n,rfl⟩:=hw;exact AI
   obtain ⟨HA,HW⟩:=aS ha hw
   clear ha d1 d2 hw Sy AI
   by_cases hlt:k<s.size
   ·cases hp:zQ s[k].toNat
    ·have HP:=ab hp
     have pp258:=();exact pm258
    ·have HP:=ab hp
     exact pm258
   ·obtain rfl:k=s.size:=by omega
    exact pm273
 |clear pp51g
  go_quiet ((first | (go_at_call 240;exact eS (CR.o _)) | (go_at_call 188;exact eS (CF.o _))))
  go_wp2
  go_ret
  exact ⟨aA (ox (by rw[mt h1];exact HF.o)).symm,⟨_,rfl⟩⟩
 |go_quiet ((first | (go_at_call 240;exact eS (CR.o _)) | (go_at_call 188;exact eS (CF.o _))))
  exact pm30):G:=h
theorem pm52(h:G:=by
 exact pm206):G:=h
theorem pm53(h:G:=by
 have j6:=bR Cq.o hlt
 have az:=f9.o.trans (cQ.mono f9.o.size)
 obtain ⟨b,off,u,rfl,_,hu,c0,c1,c2,c3⟩:=L_.o.get bc
 obtain ⟨b',iN,u',rfl,_,fO,kg,kv,kw,EP⟩:=Vx.o.get j6
 have nE:=Py.o.mem (List.getElem_mem bc)
 rw[jj bc j6]at ht
 first
 |clear pp53a
  obtain ⟨e,he⟩:=ao (bT (ps ++ [(xn,yn)]).reverse xs[k] ys[k])
  rw[<-he]at ht
  obtain ⟨d0,d1,d2,d3⟩:=lg az c0 c1 c2 c3
  have y2:wr.cell? ⟨w.heap.size+1,3,none⟩=some (.slice (some ⟨b',iN,none⟩) k1 ve):=aa cQ (ai lX.o 3)
  have xF:(k:Int)<(k1:Int):=by omega
  have Cr:(ps ++ [(xn,yn)]).length+dK xs[k]<=1000000000:=by have:=EN xs[k] (List.getElem_mem bc);first | omega | (simp only[List.length_append,List.length_cons,List.length_nil];omega)
  have pp43c:=();exact pm43
 |clear pp53b
  obtain ⟨e,he⟩:=ao (bT (ps ++ [(xn,yn)]).reverse xs[k] ys[k])
  rw[<-he]at ht
  obtain ⟨d0,d1,d2,d3⟩:=lg az c0 c1 c2 c3
  have y2:wr.cell? ⟨w.heap.size+1,3,none⟩=some (.slice (some ⟨b',iN,none⟩) k1 ve):=aa cQ (ai lX.o 3)
  have xF:(k:Int)<(k1:Int):=by omega
  have Cr:(ps ++ [(xn,yn)]).length+dK xs[k]<=1000000000:=by have:=EN xs[k] (List.getElem_mem bc);first | omega | (simp only[List.length_append,List.length_cons,List.length_nil];omega)
  exact pm43
 |clear pp53c
  obtain ⟨e,he⟩:=ao (bT ps.reverse xs[k] ys[k])
  rw[<-he]at ht
  obtain ⟨d0,d1,d2,d3⟩:=lg az c0 c1 c2 c3
  have y2:wr.cell? ⟨w.heap.size+1,3,none⟩=some (.slice (some ⟨b',iN,none⟩) k1 ve):=aa cQ (ai lX.o 3)
  have xF:(k:Int)<(k1:Int):=by omega
  have Cr:ps.length+dK xs[k]<=1000000000:=by have:=EN xs[k] (List.getElem_mem bc);first | omega | (simp only[List.length_append,List.length_cons,List.length_nil];omega)
  have pp43a:=();exact pm43
 |clear pp53d
  obtain ⟨e,he⟩:=ao (bT (ps ++ [(xn,xn)]).reverse xs[k] ys[k])
  rw[<-he]at ht
  obtain ⟨d0,d1,d2,d3⟩:=lg az c0 c1 c2 c3
  have y2:wr.cell? ⟨w.heap.size+1,3,none⟩=some (.slice (some ⟨b',iN,none⟩) k1 ve):=aa cQ (ai lX.o 3)
  have xF:(k:Int)<(k1:Int):=by omega
  have Cr:(ps ++ [(xn,xn)]).length+dK xs[k]<=1000000000:=by have:=EN xs[k] (List.getElem_mem bc);first | omega | (simp only[List.length_append,List.length_cons,List.length_nil];omega)
  have pp43b:=();exact pm43
 |obtain ⟨e,he⟩:=ao (bT ps.reverse xs[k] ys[k])
  rw[<-he]at ht
  obtain ⟨d0,d1,d2,d3⟩:=lg az c0 c1 c2 c3
  have y2:wr.cell? ⟨w.heap.size+1,3,none⟩=some (.slice (some ⟨b',iN,none⟩) k1 ve):=aa cQ (ai lX.o 3)
  have xF:(k:Int)<(k1:Int):=by omega
  have Cr:ps.length+dK xs[k]<=1000000000:=by have:=EN xs[k] (List.getElem_mem bc);first | omega | (simp only[List.length_append,List.length_cons,List.length_nil];omega)
  have pp43d:=();exact pm43):G:=h
theorem pm54(h:G:=by
 have hs:=hb.size
 refine ⟨qs ++ [q],by simp[hk],by rw[List.flatMap_append];simpa using aR,fun j h1 h2=>?_⟩
 by_cases hj:j<qs.length
 ·rw[List.getElem_append_left hj,List.getElem_append_left (by omega)]
  refine (ht j hj (by omega)).move (fun b hok hlt=>⟨⟨hok.1,fun e=>?_⟩,(hold b hok.1 (by omega) hok.2).trans (hb.block b hlt)⟩)
  injection e with e
  obtain rfl:g=b:=e
  rcases hg with hg | hg
  ·exact hok.2 hg
  ·omega
 ·have pS:j=ts.length:=by simp at h2;omega
  exact pm252):G:=h
theorem pm55(h:G:=by
 have jb:∀ f,Fence.wide.fn f:=fun _=>trivial
 gi_wp2
 obtain ⟨W1,bQ⟩:=ao (((w.alloc (.cells #[.bool false,.string ⟨n.toArray⟩,.slice qa k0 qc] 43)).alloc (.cells #[.bool false,.string ⟨#[]⟩,.slice none 0 0] 43)).alloc (.cells #[.bool false,.string ⟨n.toArray⟩,.slice none 0 0] 43))
 have hZ:=vF bQ
 have x1:=pR bQ
 have x2:=oa bQ
 rw[<-bQ]
 clear bQ
 obtain ⟨dG,iB⟩:=aS hZ x1
 first
 |clear pp55a
  have tp:=ab (Fills.start (R:=w.heap.size+1+1) (mk:=fun rr=>#[.bool false,.string ⟨n.toArray⟩,rr]) (Row:=fun r W=>RowT W1.heap.size r ((a.map aK).take 0) W) x2 (RowT.nil _ _))
  clear hZ x1 x2
  gi_loopw [25] (fun i wr=>∃k:Nat,k<=k0/\i=.int .i64 k/\∃row,Fills 43 (w.heap.size+1+1) W1.heap.size (fun rr=>#[.bool false,.string ⟨n.toArray⟩,rr]) (fun r W=>RowT W1.heap.size r ((a.map aK).take k) W) W1 wr row) (fun i _=>k0 - (intOf i).toNat)
  case atStart=>exact ⟨0,Nat.zero_le _,rfl,_,tp.o⟩
  case round=>
   have pp0a:=();exact pm0
 |clear pp55b
  have tp:=ab (Fills.start (R:=w.heap.size+1+1) (mk:=fun rr=>#[.bool false,.string ⟨n.toArray⟩,rr]) (Row:=fun r W=>RowT W1.heap.size r ((a.map (e_ f)).take 0) W) x2 (RowT.nil _ _))
  clear hZ x1 x2
  gi_loopw [30] (fun i wr=>∃k:Nat,k<=k0/\i=.int .i64 k/\∃row,Fills 43 (w.heap.size+1+1) W1.heap.size (fun rr=>#[.bool false,.string ⟨n.toArray⟩,rr]) (fun r W=>RowT W1.heap.size r ((a.map (e_ f)).take k) W) W1 wr row) (fun i _=>k0 - (intOf i).toNat)
  case atStart=>exact ⟨0,Nat.zero_le _,rfl,_,tp.o⟩
  case round=>
   have pp154c:=();exact pm154
 |have tp:=ab (Fills.start (R:=w.heap.size+1+1) (mk:=fun rr=>#[.bool false,.string ⟨n.toArray⟩,rr]) (Row:=fun r W=>RowT W1.heap.size r ((a.map (cC kd.ts sc)).take 0) W) x2 (RowT.nil _ _))
  clear hZ x1 x2
  gi_loopw [47] (fun i wr=>∃k:Nat,k<=k0/\i=.int .i64 k/\∃row,Fills 43 (w.heap.size+1+1) W1.heap.size (fun rr=>#[.bool false,.string ⟨n.toArray⟩,rr]) (fun r W=>RowT W1.heap.size r ((a.map (cC kd.ts sc)).take k) W) W1 wr row) (fun i _=>k0 - (intOf i).toNat)
  case atStart=>exact ⟨0,Nat.zero_le _,rfl,_,tp.o⟩
  case round=>
   exact pm154):G:=h
theorem pm56(h:G:=by
 have fG:=cB aY
 have xb:=bN aY
 rw[<-aY]
 clear aY d0 d1 d2
 have fS:=HF.o.later fG (fun r=>r.below fG)
 have pp156b:=();exact pm156):G:=h
theorem pm57(h:G:=by
 have zi:Kp M W2 w4:=H4.o.1.two uj.o.1 uj.o.2.1
 have gu:Kp (fun b=>b=aB+1) w4 (w4.setCell ⟨aB+1,0,none⟩ (.int .i64 er)):=gO
 have iD:Kp (fun b=>b=aB) (w4.setCell ⟨aB+1,0,none⟩ (.int .i64 er)) ((w4.setCell ⟨aB+1,0,none⟩ (.int .i64 er)).setCell ⟨aB,0,none⟩ (.int .i64 j)):=gO
 have zK:Kp M w4 ((w4.setCell ⟨aB+1,0,none⟩ (.int .i64 er)).setCell ⟨aB,0,none⟩ (.int .i64 j)):=(gu.mono (fun b _ h=>by subst h;exact uj.o.2.2.2.1)).trans (iD.mono (fun b _ h=>by subst h;exact uj.o.2.2.1))
 have xa5:=(gu.same _ (bl H4.o.2.2.2.1) (by omega)).trans H4.o.2.2.2.1
 refine ⟨trivial,(zi.trans zK).from _,rfl,k3,er,Lr,HG.o.2.2.2.2.2.2.1,?_,gN xa5,(HG.o.2.2.2.2.1.trans zi).trans zK⟩
 exact (iD.same _ (bl (gN H4.o.2.2.1 (v:=.int .i64 er))) (by omega)).trans (gN H4.o.2.2.1)):G:=h
theorem pm58(h:G:=by
 have ne:=HV.o.2.2.2.2 _ (List.getElem_mem j5)
 have zf:=(kD l 0).1 Vn.o _ (List.getElem_mem j5)
 obtain ⟨⟨s,f⟩,RV⟩:∃x,x=l[j]:=⟨_,rfl⟩
 rw[<-RV]at cw ne hs hf zf
 simp only at cw ne hs hf zf
 rw[cw]at fL
 obtain ⟨fv,ED⟩:=ao (gp ((wq.alloc (.cells #[.int .i64 j] 3)).alloc (.cells #[.int .u8 a0,.string a1,.slice a2 a3 a4,.slice a5 a6 a7,.int .u8 b0,.string b1,.slice b2 b3 b4,.slice b5 b6 b7] 50)) ⟨a0,a1,a2,a3,a4,a5,a6,a7⟩ ⟨b0,b1,b2,b3,b4,b5,b6,b7⟩)
 have Ip:(j:Int)<(n1:Int):=by omega
 have ui:=ab ED
 clear RV hok c0 c1 c2 c3 c4 c5 c6 c7 cw ED
 gi_wp2_with (gi_at_call 49;refine callsIn_wide.2 ((ly ⟨a0,a1,a2,a3,a4,a5,a6,a7⟩ ⟨b0,b1,b2,b3,b4,b5,b6,b7⟩ _).mono ?_);rintro e w' ⟨rfl,rfl⟩)
 rw[<-ui.o]
 first
 |clear pp58
  have pp20:=();exact pm20
 |exact pm20):G:=h
theorem pm59(h:G:=by
 simp only[TQ.val,Value.agg.injEq,Array.mk.injEq,List.cons.injEq,and_true,Value.bool.injEq,Value.string.injEq]at h1 h2
 obtain ⟨rfl,rfl,rfl⟩:=h1
 obtain ⟨rfl,rfl,rfl⟩:=h2
 first
 |clear pp59a
  have HV:=ab hv
  simp only[Nat.zero_mul,Nat.add_zero,Nat.one_mul]at c0 c1 c2 kg kv kw
  have hlt:([Tm.mk uv xn xa,Tm.mk vv yn ya]:List Tm).length=2:=rfl
  rw[hlt]
  clear hv hu fO hf hfx hfy hl c2 kw hlt
  have hb:rp [.mk uv xn xa,.mk vv yn ya]=(uv && (fQ xn && (vv && cG yn))):=rfl
  rw[hb]
  clear hb
  cases uv
  ·go_enter Tryz.func117,Tryz.ntmps117
   go_wp2
   go_ret
   exact ⟨rfl,Below.refl _ _⟩
  ·cases h1:fQ xn
   ·have C1:=ab (fun w=>h1 ▸ gH xn w pi)
    clear h1
    go_enter Tryz.func117,Tryz.ntmps117
    go_wp2_with (go_at_call 152;refine (C1.o _).mono ?_;rintro e w' ⟨rfl,hb⟩)
    go_ret
    exact ⟨rfl,hb⟩
   ·have C1:=ab (fun w=>h1 ▸ gH xn w pi)
    clear h1
    cases vv
    ·go_enter Tryz.func117,Tryz.ntmps117
     go_wp2_with (go_at_call 152;refine (C1.o _).mono ?_;rintro e w' ⟨rfl,hb⟩;have g0:=aa hb kg;have HB:=ab hb;clear hb)
     go_ret
     exact ⟨rfl,HB.o⟩
    ·go_enter Tryz.func117,Tryz.ntmps117
     go_wp2_with (first | (go_at_call 152;refine (C1.o _).mono ?_;rintro e w' ⟨rfl,hb⟩;have g0:=aa hb kg;have g1:=aa hb kv;have HB:=ab hb;clear hb) | (go_at_call 186;refine (jL yn _ hy2).mono ?_;rintro e w3 ⟨rfl,aJ⟩))
     go_ret
     exact ⟨rfl,HB.o.trans (aJ.mono HB.o.size)⟩
 |clear pp59b
  obtain rfl:=ej.len
  obtain rfl:=vT.len
  obtain ⟨pa,pl,pc,rfl⟩:∃pa pl pc,v=.slice pa pl pc:=by obtain ⟨a,c,h,_⟩:=hp;exact ⟨_,_,_,h⟩
  obtain rfl:=hp.len
  have uK:=hf.args
  have cq:=uK.len
  have hm:=AU ps.reverse uv vv xn yn xa ya
  obtain ⟨R,hR⟩:=ao (eP ps.reverse (.mk uv xn xa) (.mk vv yn ya))
  rw[<-hR]at hm ⊢
  obtain ⟨k0,bO⟩:=ao xa.length
  obtain ⟨m0,du⟩:=ao ya.length
  obtain ⟨p0,jM⟩:=ao ps.length
  rw[<-bO,<-du]at hm
  rw[<-bO]at cq
  rw[<-jM]at gh
  rw[<-bO]at ej
  rw[<-du]at vT
  have pp38:=();exact pm38
 |clear pp59c
  obtain ⟨W,hW⟩:=ao ((w.alloc (.cells #[.bool uv,.string ⟨xn.toArray⟩,.slice ua ul uc] 43)).alloc (.cells #[.bool vv,.string ⟨yn.toArray⟩,.slice va vl vc] 43))
  have hB:=j7 hW
  have C1:=ih ya ok ok' W ua ul uc va vl vc hf.args Ge.args (ej.later hB) (vT.later hB)
  rw[hW]at hB C1
  have hm:=I3 uv vv xn yn xa ya
  obtain ⟨R,hR⟩:=ao (rY (.mk uv xn xa) (.mk vv yn ya))
  rw[<-hR]at hm ⊢
  obtain ⟨c,hc⟩:=ao (Lib.compareBytes xn yn)
  rw[<-hc]at hm
  obtain ⟨d,hd⟩:=ao (AZ xa ya)
  simp only[Tm.a]at C1
  rw[<-hd]at hm C1
  have HS:Hd (∀ W,Calls Tryz.prog 272 #[.string ⟨xn.toArray⟩,.string ⟨yn.toArray⟩] W fun e w'=>e=.returned (.int .i64 c)/\w'=W):=ab (fun W=>by rw[hc];exact Tryz.strings_Compare _ _ W)
  obtain ⟨HC,HB⟩:=aS C1 hB
  clear hR hc hd C1 hB ej vT hW ih hf Ge hq jC
  unfold TQ.val
  go_enter Tryz.func226,Tryz.ntmps226
  by_cases h0:c=0
  ·subst h0
   cases uv <;> cases vv <;> simp at hm <;> subst hm <;>
   (go_wp2_with (first | (go_at_call 272;refine (HS.o _).mono ?_;rintro e w2 ⟨rfl,rfl⟩) | (go_at_call 273;refine HC.o.mono ?_;rintro e w3 ⟨rfl,aJ⟩;have bp:=ab aJ;clear aJ))
    go_ret
    first | exact ⟨rfl,HB.o⟩ | exact ⟨rfl,HB.o.trans (bp.o.mono (by simp;omega))⟩)
  ·have d1:(c == 0)=false:=by simpa using h0
   have d2:(c != 0)=true:=by simpa using h0
   cases uv <;> cases vv <;> simp[h0]at hm <;> subst hm <;>
   (go_wp2_with (go_at_call 272;refine (HS.o _).mono ?_;rintro e w2 ⟨rfl,rfl⟩)
    go_ret
    exact ⟨rfl,HB.o⟩)
 |clear pp59d
  obtain rfl:=ib.len
  obtain rfl:=Cm.len
  obtain ⟨n1,dT⟩:=ao a.length
  obtain ⟨n2,lH⟩:=ao a'.length
  have lj:=ne.name
  have MP:=c9
  unfold iS at MP
  simp only[Bool.and_eq_true,decide_eq_true_eq]at MP
  have Gp:=ab MP.1
  have OP:=ab (eB.1 MP.2)
  clear c9 MP
  have J_:=ne.args.len
  have Pt:=(HG.o.2.1 _ I5).args.len
  rw[<-dT]at J_
  rw[<-lH]at Pt
  obtain ⟨R,hR⟩:=ao (gT (ps.reverse.map (·.1)) k.ts (.mk tv n a) (.mk uv n' a'))
  have oI:=hR
  rw[gT]at oI
  rw[<-hR]
  obtain ⟨W3,cZ⟩:=ao (((W.alloc (.cells q.cells 89)).alloc (.cells #[.bool tv,.string ⟨n.toArray⟩,.slice ta n1 tc] 43)).alloc (.cells #[.bool uv,.string ⟨n'.toArray⟩,.slice ua n2 uc] 43))
  have aJ:=vF cZ
  have nP:=F6 cZ
  have xp:=wK cZ
  have xt:=pR cZ
  have xu:=oa cZ
  have kh:=dw.later aJ
  rw[<-dT]at nV ib
  rw[<-lH]at huv Cm
  rw[<-dT,<-lH]
  have HR:=ab oI
  have H3:=pI aJ nP xp xt xu kh
  have HT:=ce (nV.later aJ) (huv.later aJ) (ib.later aJ) (Cm.later aJ)
  have HF:=aF ne I5
  have HN:=aF dT lH
  have Vo:=ab (gh.kp (Kp.below aJ))
  obtain ⟨eM,vW⟩:=aS ih cZ
  have HmT:=ab (show mT<W.heap.size from dw.ts.lt)
  have zX:nodesT (.mk tv n a)=ac a+1:=by unfold nodesT;omega
  have MQ:=aF oA zX
  obtain ⟨e0,e1,e2,_⟩:=fI xt
  obtain ⟨f0,f1,f2,_⟩:=fI xu
  obtain ⟨P0,P1,P2,P3,P4,P5,P6,P7,P8⟩:=gA xp
  obtain ⟨⟨so,sn,sa,sl,sc,sb,sm,se⟩,⟨fo,fn,fa,fl,fc,fb,fm,fe⟩,ca,cl,cc⟩:=q
  simp only[PlQ.val,PlQ.cells,TQ.val]at vW Vo P0 P1 P2 P3 P4 P5 P6 P7 P8 ⊢
  clear dw oA gh nV huv ib Cm hR oI aJ nP xp xt xu kh dT lH ne I5 ih cZ
  have CM:=ja n W3 (by omega)
  have qP:=ab CM
  clear CM
  cases tv with
  | true=>
   cases mO:ea n with
   | true=>
    rw[mO]at qP
    have pp167b:=();exact pm167
   | false=>
    rw[mO]at qP
    have Vv:(ps.map (·.1)).contains n=(ps.reverse.map (·.1)).contains n:=by rw[Bool.eq_iff_iff,List.contains_iff_mem,List.contains_iff_mem];simp
    have PD:=ab (fun (w:World) (hb:Below W3.heap.size W3 w)=>AY ⟨⟨so,sn,sa,sl,sc,sb,sm,se⟩,⟨fo,fn,fa,fl,fc,fb,fm,fe⟩,ca,cl,cc⟩ ps HG.o.1 n w (Vo.o.1.later hb))
    simp only[PlQ.val,PlQ.cells]at PD
    rw[Vv]at PD
    clear Vv
    cases G5:(ps.reverse.map (·.1)).contains n with
    | true=>
     rw[G5]at PD
     have HE:=ab (show R=if te (.mk uv n' a') (ap (cH n)) then some k.ts else none by rw[HR.o,if_neg (by simp[mO]),if_pos (by rw[G5];rfl)])
     obtain ⟨bb,cv⟩:=ao (te (.mk uv n' a') (ap (cH n)))
     rw[<-cv]at HE
     have IT:=ab cv
     clear G5 cv mO
     have pp8a:=();exact pm8
    | false=>
     rw[G5]at PD
     have zG:=G5
     cases uv with
     | false=>
      have HE:=ab (show R=none by rw[HR.o,if_neg (by simp[mO]),if_neg (by rw[zG];simp),if_pos (by simp)])
      clear mO G5 zG
      have pp8b:=();exact pm8
     | true=>
      by_cases nN:n=n'
      ·subst nN
       by_cases mv:n1=n2
       ·skip
        subst mv
        have IU:(n == n)=true:=by simp
        have HE:=ab (show R=dE (ps.reverse.map (·.1)) k.ts a a' by rw[HR.o,if_neg (by simp[mO]),if_neg (by rw[zG];simp),if_neg (by rw[<-HN.o.1,<-HN.o.2];simp)])
        clear mO G5 zG
        exact pm8
       ·have HE:=ab (show R=none by rw[HR.o,if_neg (by simp[mO]),if_neg (by rw[zG];simp),if_pos (by rw[<-HN.o.1,<-HN.o.2];simp[mv])])
        have pp277:=();exact pm277
      ·have IU:(n == n')=false:=by simp[nN]
       have HE:=ab (show R=none by rw[HR.o,if_neg (by simp[mO]),if_neg (by rw[zG];simp),if_pos (by simp[nN])])
       clear mO G5 zG
       have pp8b:=();exact pm8
  | false=>
   cases uv with
   | true=>
    have HE:=ab (show R=none by rw[HR.o,if_neg (by simp),if_neg (by simp),if_pos (by simp)])
    exact pm93
   | false=>
    by_cases nN:n=n'
    ·subst nN
     by_cases mv:n1=n2
     ·skip
      subst mv
      have IU:(n == n)=true:=by simp
      have HE:=ab (show R=dE (ps.reverse.map (·.1)) k.ts a a' by rw[HR.o,if_neg (by simp),if_neg (by simp),if_neg (by rw[<-HN.o.1,<-HN.o.2];simp)])
      rw[vW.o]at e0 e1 e2 f0 f1 f2
      have pp167c:=();exact pm167
     ·have HE:=ab (show R=none by rw[HR.o,if_neg (by simp),if_neg (by simp),if_pos (by rw[<-HN.o.1,<-HN.o.2];simp[mv])])
      exact pm277
    ·have IU:(n == n')=false:=by simp[nN]
     have HE:=ab (show R=none by rw[HR.o,if_neg (by simp),if_neg (by simp),if_pos (by simp[nN])])
     exact pm93
 |clear pp59e
  have f0:=fun x:Later wr=>x.get (aa az c0)
  have f1:=fun x:Later wr=>x.get (aa az c1)
  have f2:=fun x:Later wr=>x.get (aa az c2)
  have f3:=fun x:Later wr=>x.get (aa az kg)
  have f4:=fun x:Later wr=>x.get (aa az kv)
  have f5:=fun x:Later wr=>x.get (aa az kw)
  have xF:(k:Int)<(k0:Int):=by omega
  obtain ⟨HB,HT⟩:=aS az ht
  have HX:=aF hx hy
  have jt:∀ (h:l[k]≠m[k]),iy l m=false:=fun h=>by
   cases he:iy l m with
   | false=>rfl
   | true=>exact absurd (by rw[List.getElem_of_eq ((kQ _ _).1 he)]) h
  have Y3:=ab jt
  have CC:=ab (fun (x:Later wr)=>nD ya ok ok' x.w ua ul uc va vl vc hf.args ((ej.later az).later x.below) ((vT.later az).later x.below))
  clear hu fO nD hf hx hy ej vT az ht jt c0 c1 c2 kg kv kw
  by_cases hv:uv=vv
  ·subst hv
   have IS:(uv != uv)=false:=by simp
   by_cases hn:xn=yn
   ·subst hn
    obtain ⟨R,hR⟩:=ao (iy xa ya)
    have CC:=ab (show ∀ x:Later wr,Calls Tryz.prog 19 #[.slice ua ul uc,.slice va vl vc] x.w fun e w'=>e=.returned (.bool R)/\Below x.w.heap.size x.w w' from fun x=>by rw[hR];exact CC.o x)
    have HR:=ab hR
    clear hR
    go_wp2
    refine aM (by kernel_rfl) (by kernel_rfl) ?_
    repeat (go_big_quiet_step ((go_at_call 19;exact bM (CC.o _))))
    refine wpQuiet_nil ?_
    rintro _ ⟨x',rfl⟩
    clear f0 f1 f2 f3 f4 f5
    have bZ:=ab (HB.o.trans (x'.below.mono HB.o.size))
    cases R
    ·go_wp2
     go_ret
     exact ⟨aA (Y3.o (by rw[HX.o.1,HX.o.2];intro h;injection h with _ _ h;rw[<-h,m6]at HR;exact absurd HR.o (by simp))).symm,bZ.o⟩
    ·go_wp2
     go_roundw
     case rel=>exact ⟨k+1,by omega,by go_num,bZ.o,sK HT.o bc j6 (by rw[HX.o.1,HX.o.2,(kQ _ _).1 HR.o.symm])⟩
     case measure=>simp[intOf];omega
   ·have gu:(xn == yn)=false:=by simpa using hn
    have iD:(!(xn == yn))=true:=by simpa using hn
    exact pm91
  ·cases uv <;> cases vv
   all_goals
    first
    | exact absurd rfl hv
    | (go_wp2
       refine aM (by kernel_rfl) (by kernel_rfl) ?_
       repeat (go_big_quiet_step (fail))
       refine wpQuiet_nil ?_
       rintro _ ⟨x',rfl⟩
       clear f0 f1 f2 f3 f4 f5
       go_wp2
       go_ret
       exact ⟨aA (Y3.o (by rw[HX.o.1,HX.o.2];intro h;injection h with h _ _;exact hv h)).symm,HB.o.trans (x'.below.mono HB.o.size)⟩)
 |obtain rfl:=ej.len
  obtain rfl:=vT.len
  obtain ⟨pa,pl,pc,rfl⟩:∃pa pl pc,v=.slice pa pl pc:=by obtain ⟨a,c,h,_⟩:=hp;exact ⟨_,_,_,h⟩
  obtain rfl:=hp.len
  have uK:=hf.args
  have cq:=uK.len
  have zb6:(!uv || xa.isEmpty)=true:=by unfold lL at s8;simp only[Bool.and_eq_true]at s8;exact s8.1
  have HWf:Hd (eb xa=true):=ab (by unfold lL at s8;simp only[Bool.and_eq_true]at s8;exact s8.2)
  clear s8
  have hm:=AU ps.reverse uv vv xn yn xa ya
  obtain ⟨R,hR⟩:=ao (eP ps.reverse (.mk uv xn xa) (.mk vv yn ya))
  rw[<-hR]at hm ⊢
  obtain ⟨k0,bO⟩:=ao xa.length
  obtain ⟨m0,du⟩:=ao ya.length
  obtain ⟨p0,jM⟩:=ao ps.length
  rw[<-bO,<-du]at hm
  rw[<-bO]at cq
  rw[<-jM]at gh
  rw[<-bO]at ej
  rw[<-du]at vT
  exact pm38):G:=h
theorem pm60(h:G:=by
 have uf:=h.sz.trans F1
 have If:=h.df.trans QF
 have zw:Below w.heap.size w ny:=aG F2 h.inv.1 (fun _ h=>h.elim)
 have pp76e:=();exact pm76):G:=h
theorem pm61(h:G:=by
 go_wp2
 obtain ⟨W3,cZ⟩:=ao (wr.alloc (.cells #[.bool u.v,.string u.n,.slice u.a u.l u.c] 43))
 exact pm214):G:=h
theorem pm62(h:G:=by
 have HE:=ab (show R=true by rw[ht,List.drop_eq_nil_of_le (by rw[FX.o];exact Nat.le_refl _)];simp[cb])
 have bW:=ab (f9.o.trans (cQ.mono f9.o.size))
 clear cQ ht
 go_wp2
 go_ret
 exact ⟨aA HE.o.symm,bW.o⟩):G:=h
theorem pm63(h:G:=by
 by_cases h1:uo=vo
 ·subst h1
  have e0:(uo == uo)=true:=by simp
  have e1:(uo != uo)=false:=by simp
  by_cases h2:k0=m0
  ·subst h2
   have h3:¬k1=m1:=fun h=>zY ⟨rfl,rfl,h⟩
   have e2:((k0:Int) != (k0:Int))=false:=by simp
   have e3:((k1:Int) == (m1:Int))=false:=by simp;omega
   have e4:((k1:Int) != (m1:Int))=true:=by simp;omega
   go_wp2
   rw[<-eN.o]
   go_ret
   exact ⟨aA HE.o.symm,bZ.o⟩
  ·have e2:((k0:Int) == (m0:Int))=false:=by simp;omega
   have e3:((k0:Int) != (m0:Int))=true:=by simp;omega
   go_wp2
   rw[<-eN.o]
   go_ret
   exact ⟨aA HE.o.symm,bZ.o⟩
 ·have e0:(uo == vo)=false:=by simpa using h1
  have e1:(uo != vo)=true:=by simpa using h1
  go_wp2
  rw[<-eN.o]
  go_ret
  exact ⟨aA HE.o.symm,bZ.o⟩):G:=h
theorem pm64(h:G:=by
 refine (callsIn_wide (n:=3)).1 ?_
 refine callsIn_of_wp Tryz.func127 rfl trivial ?_ rfl
 simp only[Tryz.ntmps127,List.size_toArray,List.length_cons,List.length_nil,Nat.reduceAdd,Nat.reduceSub,Array.replicate_succ,Array.replicate_zero,List.push_toArray,List.append_toArray,List.nil_append,List.cons_append]
 first
 |clear pp64a
  exact pm55
 |clear pp64b
  have jb:∀ f,Fence.wide.fn f:=fun _=>trivial
  gi_wp2_with (first | (gi_at_call 119;rw[<-HX.o];refine callsIn_wide.2 (qP.o.mono ?_);rintro e w3 ⟨rfl,aJ⟩;have y1:=(aJ.block _ (by have:=HY.o.2.2.2.1;omega)).trans HY.o.2.1;have y0:=(aJ.block _ (by have:=HY.o.2.2.2.1;omega)).trans HY.o.2.2.1;have nP:=aJ.size;have nS:=HY.o.2.2.2.1;have GH:w.heap.size+2<=w3.heap.size:=(by omega);have bp:=ce (HY.o.1.tr aJ) y1 y0 (HY.o.2.2.2.2.tr aJ);obtain ⟨p0,p1,p2,_⟩:=fI y0;clear aJ nP nS y1;have cD:Below w3.heap.size w3 (w3.alloc (.cells #[.bool true,.string ⟨n.toArray⟩,.slice none 0 0] 43)):=ct;have r2:=aa cD p2;clear y0 cD) | (gi_at_call 128;refine callsIn_wide.2 ((TH.o _ bp.o.2.2.2).mono ?_);rintro e w4 ⟨rfl,RN⟩;cases RN))
  clear p0 p1 p2 r2
  obtain ⟨W1,bQ⟩:=ao (w3.alloc (.cells #[.bool true,.string ⟨n.toArray⟩,.slice none 0 0] 43))
  have hZ:Below w.heap.size w W1:=by rw[bQ];exact bp.o.1.tr ct
  have x1:W1.heap[w.heap.size+1]?=some (.cells #[.bool false,.string ⟨#[]⟩,.slice none 0 0] 43 (0,0)):=by rw[bQ];exact (Below.heap_alloc _ _ _ (by omega)).trans bp.o.2.1
  have x2:=bN bQ
  rw[<-bQ]
  clear bQ
  obtain ⟨dG,iB⟩:=aS hZ x1
  have tp:=ab (Fills.start (R:=w3.heap.size) (mk:=fun rr=>#[.bool true,.string ⟨n.toArray⟩,rr]) (Row:=fun r W=>RowT W1.heap.size r ((a.map (cC kd.ts sc)).take 0) W) x2 (RowT.nil _ _))
  clear hZ x1 x2
  gi_loopw [47] (fun i wr=>∃k:Nat,k<=k0/\i=.int .i64 k/\∃row,Fills 43 (w3.heap.size) W1.heap.size (fun rr=>#[.bool true,.string ⟨n.toArray⟩,rr]) (fun r W=>RowT W1.heap.size r ((a.map (cC kd.ts sc)).take k) W) W1 wr row) (fun i _=>k0 - (intOf i).toNat)
  case atStart=>exact ⟨0,Nat.zero_le _,rfl,_,tp.o⟩
  case round=>
   obtain ⟨k,hk,rfl,row,hF⟩:=hrel
   have az:=hF.below dG.o ((by omega))
   by_cases hlt:k<k0
   ·have da:=bR cY.o hlt
    exact pm66
   ·obtain rfl:k=k0:=by omega
    have pp174:=();exact pm174
 |have jb:∀ f,Fence.wide.fn f:=fun _=>trivial
  gi_wp2_with (first | (gi_at_call 119;rw[<-HX.o];refine callsIn_wide.2 (qP.o.mono ?_);rintro e w3 ⟨rfl,aJ⟩;have y1:=(aJ.block _ (by have:=HY.o.2.2.2.1;omega)).trans HY.o.2.1;have y0:=(aJ.block _ (by have:=HY.o.2.2.2.1;omega)).trans HY.o.2.2.1;have nP:=aJ.size;have nS:=HY.o.2.2.2.1;have GH:w.heap.size+2<=w3.heap.size:=(by omega);have bp:=ce (HY.o.1.tr aJ) y1 y0 (HY.o.2.2.2.2.tr aJ);obtain ⟨p0,p1,p2,_⟩:=fI y0;clear aJ nP nS y1;clear y0) | (gi_at_call 128;refine callsIn_wide.2 ((TH.o _ bp.o.2.2.2).mono ?_);rintro e w4 ⟨rfl,RN⟩;cases RN) | (gi_at_call 130;refine callsIn_wide.2 ((ew n _ (by omega)).mono ?_);rintro e w5 ⟨rfl,VG⟩;cases VG) | (gi_at_call 131;refine callsIn_wide.2 ((fF (cH n) _).mono ?_);rintro e w5 ⟨rfl,a_⟩;have x1:=(a_.block _ (by omega)).trans bp.o.2.1;obtain ⟨e0,e1,e2,z0,z1,z2⟩:=fI x1;have H5:=aF (bp.o.1.tr a_) x1;have Vs:=a_.size;clear a_ x1))
  have x6:=oy (v0:=.bool true) (v1:=.string ⟨(cH n).toArray⟩) (v2:=.slice none 0 0) H5.o.2
  have k6:=d8 (W:=w5) (b:=w.heap.size+1) (v0:=.bool true) (v1:=.string ⟨(cH n).toArray⟩) (v2:=.slice none 0 0)
  obtain ⟨W6,cM⟩:=ao (((w5.setCell ⟨w.heap.size+1,0,none⟩ (.bool true)).setCell ⟨w.heap.size+1,1,none⟩ (.string ⟨(cH n).toArray⟩)).setCell ⟨w.heap.size+1,2,none⟩ (.slice none 0 0))
  rw[<-cM]at x6 k6 ⊢
  clear cM
  obtain ⟨g0,g1,g2,_⟩:=fI x6
  refine bodyPost_ret (v:=TQ.val ⟨true,⟨(cH n).toArray⟩,none,0,0⟩) (by simp[TQ.val,results,Tryz.results127,go_sem,g0,g1,g2]) rfl ⟨⟨⟨true,⟨(cH n).toArray⟩,none,0,0⟩,rfl,aP.2 ⟨_,rfl,none,0,fun _=>.string ByteArray.empty,rfl,.inl rfl,fun j hj=>absurd hj (by simp)⟩⟩,Below.kp1 H5.o.1 k6 (by omega)⟩):G:=h
theorem pm65(h:G:=by
 have pp152a:=();exact pm152):G:=h
theorem pm66(h:G:=by
 obtain ⟨b,off,u,rfl,_,hu,c0,c1,c2⟩:=dA.o.get da
 obtain ⟨d0,d1,d2⟩:=iM az c0 c1 c2
 first
 |clear pp66a
  obtain ⟨uv,un,ua,ul,uc⟩:=u
  obtain ⟨W2,aY⟩:=ao (wr.alloc (.cells #[.bool uv,.string un,.slice ua ul uc] 43))
  have bA:=cB aY
  have vY:=bN aY
  have u0:W2.cell? ⟨wr.heap.size,0,none⟩=some (.bool uv):=ai vY 0
  have u1:W2.cell? ⟨wr.heap.size,1,none⟩=some (.string un):=ai vY 1
  have u2:W2.cell? ⟨wr.heap.size,2,none⟩=some (.slice ua ul uc):=ai vY 2
  have fS:=hF.later bA (fun r=>r.below bA)
  obtain ⟨P0,P1,P2,P3,P4,P5,P6,P7,P8⟩:=gA (fS.other (by omega) Mi.o)
  have CC:=p9 ⟨⟨so,sn,sa,sl,sc,sb,sm,se⟩,⟨fo,fn,fa,fl,fc,fb,fm,fe⟩,ca,cl,cc⟩ ps GL.o.1 GL.o.2 L ins GP.o.2.2 GP.o.1 _ vL a[k1] (DZ.o.mem (List.getElem_mem da)) ok W2 ⟨uv,un,ua,ul,uc⟩ (GM.o.later (az.tr bA)) ((mY.o.1.later (az.tr bA)).strs) ((hu.later az).later bA)
  simp only[PlQ.cells,PlQ.val,TQ.val]at CC P0 P1 P2 P3 P4 P5 P6 P7 P8
  have fB:=nG (c:=ps.reverse) (ins:=ins) da
  rw[xS]at fB
  have fP:=fun (h:io ps.reverse ins a[k1]=none)=>xQ (c:=ps.reverse) (ins:=ins) (List.getElem_mem da) h
  obtain ⟨U,hU⟩:=ao (io ps.reverse ins a[k1])
  rw[<-hU]at CC fB fP
  have ll:=ab CC
  have rO:=aF fB z_
  have GN:=ab fP
  obtain ⟨qs,dZ,aC,fR⟩:=fS.row
  rw[z_]at dZ aC
  have xU:=bx dZ aC fR
  have eq:=ab fS
  have bW:=aF az bA
  rw[aY]at ll u0 u1 u2 P0 P1 P2 P3 P4 P5 P6 P7 P8
  have eN:=ab aY
  clear hu c0 c1 c2 vY hF fS dZ aC fR CC fB fP hU xS z_ az bA aY
  cases U with
  | none=>
   go_wp2_with (go_at_call 94;refine ll.o.mono ?_;rintro e w4 ⟨⟨⟨pv,pn,pa,pl,pc⟩,rfl,hp⟩,aN⟩;simp only[Option.isSome]at hp ⊢;rw[<-eN.o]at aN;have a_:Below w4.heap.size w4 (w4.alloc (.cells #[.bool pv,.string pn,.slice pa pl pc] 43)):=ct;have qO:=eq.o.later (aN.tr a_) (fun r=>r.below (aN.tr a_));have x5:=qO.other (by omega) J4.o;obtain ⟨e0,e1,e2,e3,z0,z1,z2,z3⟩:=cW x5;have H5:=aF (aN.tr a_) x5;clear hp aN a_ qO x5)
   exact pm272
  | some u'=>
   go_wp2_with (first | (go_at_call 94;refine ll.o.mono ?_;rintro e w4 ⟨⟨⟨pv,pn,pa,pl,pc⟩,rfl,hp⟩,aN⟩;simp only[Option.isSome]at hp ⊢;rw[<-eN.o]at aN hp;have a_:Below w4.heap.size w4 (w4.alloc (.cells #[.bool pv,.string pn,.slice pa pl pc] 43)):=ct;have qO:=eq.o.later (aN.tr a_) (fun r=>r.below (aN.tr a_));have r2:(w4.alloc (.cells #[.bool pv,.string pn,.slice pa pl pc] 43)).cell? ⟨w.heap.size+1+1+1,2,none⟩=some (.slice e6 k1 e7):=(qO.cell 2).trans rfl;have HF5:=ab qO;have GO:=aF ((hp u' rfl).later a_) (aN.tr a_);have HO:=ab (ba xU.o.2.1 (fun b _ hlt=>(aN.tr a_).block b hlt));have nS:((w4.alloc (.cells #[.bool pv,.string pn,.slice pa pl pc] 43)).alloc (.cells #[.bool pv,.string pn,.slice pa pl pc] 43)).heap.size=w4.heap.size+2:=(by simp);have GH:=qO.size;simp only[World.size_alloc]at GH;clear hp aN a_ qO) | (at_builtin;refine wpList_append_lies _ rfl _ _ 33 rfl W1.heap.size 43 nZ (.agg #[.bool false,.string ByteArray.empty,.slice none 0 0]) 3 48 Tryz.underlying33 hi wy tu wT rfl (by decide) (.slice e6 k1 e7) k1 _ rfl (HO.o.alloc _) ⟨w4.heap.size+1,0,none⟩ 1 1 [.bool pv,.string pn,.slice pa pl pc] rfl rfl (cK (cs:=#[.bool pv,.string pn,.slice pa pl pc]) (t:=43) (fr:=(0,0)) (aj (by simp))) (by simp[Value.oneCell']) (by decide) (by unfold maxLen;omega) (by omega) (by simp;omega) (w4.heap.size+2) nS ?_;intro g et w6 aR aq hg dS;have h4:=eq.o.at4 (kk:=2) xU.o.2.1 GO.o.2 aq;have d3:=h4.2.2;have z3:=h4.2.1;have HG:=ce aR aq hg dS;clear aR aq hg dS h4))
   go_roundw
   case rel=>
    have pp128:=();exact pm128
   case measure=>simp[intOf];omega
 |clear pp66b
  have cA:(l.take k).length=k:=by rw[List.length_take];omega
  rw[cA]at hR ⊢
  have HU:=ab ((hu.later az).later (W':=wr.alloc (.cells #[.bool u.v,.string u.n,.slice u.a u.l u.c] 43)) ct)
  obtain ⟨bW,HR,dH⟩:=cf az hR cA
  clear hu az hR cA c0 c1 c2
  have CC:=ab (HCp.o l[k] (List.getElem_mem da) _ _ u HU.o)
  go_wp2_with fail
  refine CC.o.mono ?_
  rintro _ A ⟨p,rfl,hp,hA⟩
  obtain ⟨qs,dZ,aC,fR⟩:=HR.o
  rw[dH.o]at dZ aC
  have bY:Below wr.heap.size wr A:=ct.trans (hA.mono (by simp))
  have mX:=bY.size
  have Mx:=bW.o.size
  have HO:=ab (ba aC (fun b _ hlt=>bY.block b hlt))
  have HH:=bx dZ aC fR
  have Pm:=aF hp bY
  clear dZ aC fR hp hA bY
  have nS:(A.alloc (.cells #[.bool p.v,.string p.n,.slice p.a p.l p.c] 43)).heap.size=A.heap.size+1:=by simp
  unfold TQ.val
  go_wp2_with (at_builtin;refine wpList_append_lies _ rfl _ _ 33 rfl w.heap.size 43 i0 (.agg #[.bool false,.string ByteArray.empty,.slice none 0 0]) 3 48 Tryz.underlying33 hi rq jS hO rfl (by decide) _ _ _ rfl (HO.o.alloc _) ⟨A.heap.size,0,none⟩ 1 1 p.cells rfl rfl (cK (cs:=#[.bool p.v,.string p.n,.slice p.a p.l p.c]) (t:=43) (fr:=(0,0)) (World.alloc_heap_new _ _)) (by simp[TQ.cells,Value.oneCell']) (by decide) (by unfold maxLen;omega) (by omega) (by simp;omega) (A.heap.size+1) nS ?_;intro g et w4 aR aq hg dS;have HG:=bx aR aq hg;clear aR aq hg dS nS)
  go_roundw
  case rel=>
   have pp261:=();exact pm261
  case measure=>simp[intOf];omega
 |clear pp66c
  have cA:((a.map aK).take k).length=k:=by rw[List.length_take];have:=cY.o;simp;omega
  obtain ⟨ra,rc,rfl⟩:=hF.row.slice
  rw[cA]at hF
  have HU:=ab (hu.later az)
  exact pm10
 |clear pp66d
  have cA:((a.map (e_ f)).take k).length=k:=by rw[List.length_take];have:=cY.o;simp;omega
  obtain ⟨ra,rc,rfl⟩:=hF.row.slice
  rw[cA]at hF
  have HU:=ab (hu.later az)
  obtain ⟨HF,dH,bW⟩:=cf hF cA az
  clear hu az hF c0 c1 c2 cA
  gi_wp2
  obtain ⟨W2,aY⟩:=ao (wr.alloc (.cells #[.bool u.v,.string u.n,.slice u.a u.l u.c] 43))
  have pp56b:=();exact pm56
 |clear pp66e
  have cA:((a.map aK).take k1).length=k1:=by rw[List.length_take];have:=cY.o;simp;omega
  obtain ⟨e6,e7,rfl⟩:=hF.row.slice
  rw[cA]at hF
  have HU:=ab (hu.later az)
  obtain ⟨HF,dH,bW⟩:=cf hF cA az
  clear hu az hF c0 c1 c2 cA
  gi_wp2
  obtain ⟨W2,aY⟩:=ao (fX.alloc (.cells #[.bool u.v,.string u.n,.slice u.a u.l u.c] 43))
  have pp56c:=();exact pm56
 |clear pp66f
  have cA:((a.map (jQ nx z)).take k1).length=k1:=by rw[List.length_take];have:=cY.o;simp;omega
  obtain ⟨e6,e7,rfl⟩:=hF.row.slice
  rw[cA]at hF
  have HU:=ab (hu.later az)
  obtain ⟨HF,dH,bW⟩:=cf hF cA az
  clear hu az hF c0 c1 c2 cA
  gi_wp2
  obtain ⟨W2,aY⟩:=ao (Cd.alloc (.cells #[.bool u.v,.string u.n,.slice u.a u.l u.c] 43))
  have pp56d:=();exact pm56
 |clear pp66g
  have cA:((a.map (cC kd.ts c)).take k1).length=k1:=by rw[List.length_take];have:=tN.o;simp;omega
  obtain ⟨ra,rc,rfl⟩:=hF.row.slice
  rw[cA]at hF
  have HU:=ab (hu.later az)
  obtain ⟨HF,dH,bW⟩:=cf hF cA az
  clear hu az hF c0 c1 c2 cA
  gi_wp2
  obtain ⟨W2,aY⟩:=ao (Cd.alloc (.cells #[.bool u.v,.string u.n,.slice u.a u.l u.c] 43))
  have pp56e:=();exact pm56
 |clear pp66h
  have cA:(a.take k).length=k:=by rw[List.length_take];omega
  obtain ⟨ra,rc,rfl⟩:=hF.row.slice
  rw[cA]at hF
  have HU:=ab (hu.later az)
  have pp10a:=();exact pm10
 |clear pp66i
  obtain ⟨uv,un,ua,ul,uc⟩:=u
  obtain ⟨W2,aY⟩:=ao (wr.alloc (.cells #[.bool uv,.string un,.slice ua ul uc] 43))
  have bA:=cB aY
  have vY:=bN aY
  have u0:W2.cell? ⟨wr.heap.size,0,none⟩=some (.bool uv):=ai vY 0
  have u1:W2.cell? ⟨wr.heap.size,1,none⟩=some (.string un):=ai vY 1
  have u2:W2.cell? ⟨wr.heap.size,2,none⟩=some (.slice ua ul uc):=ai vY 2
  have fS:=hF.later bA (fun r=>r.below bA)
  obtain ⟨P0,P1,P2,P3,P4,P5,P6,P7,P8⟩:=gA (fS.other (by omega) Mi.o)
  have CC:=eM.o a[k] (List.getElem_mem da) (mW.o.mem (List.getElem_mem da)) ok W2 ⟨uv,un,ua,ul,uc⟩ (GM.o.later (az.tr bA)) (mY.o.later (az.tr bA)) ((hu.later az).later bA)
  simp only[PlQ.cells,PlQ.val,TQ.val]at CC P0 P1 P2 P3 P4 P5 P6 P7 P8
  have fB:=nG (c:=ps.reverse) (ins:=ins) da
  rw[xS]at fB
  have fP:=fun (h:io ps.reverse ins a[k]=none)=>xQ (c:=ps.reverse) (ins:=ins) (List.getElem_mem da) h
  obtain ⟨U,hU⟩:=ao (io ps.reverse ins a[k])
  rw[<-hU]at CC fB fP
  have ll:=ab CC
  have rO:=aF fB z_
  have GN:=ab fP
  obtain ⟨qs,dZ,aC,fR⟩:=fS.row
  rw[z_]at dZ aC
  have xU:=bx dZ aC fR
  have eq:=ab fS
  have bW:=aF az bA
  rw[aY]at ll u0 u1 u2 P0 P1 P2 P3 P4 P5 P6 P7 P8
  have eN:=ab aY
  clear hu c0 c1 c2 vY hF fS dZ aC fR CC fB fP hU xS z_ az bA aY
  cases U with
  | none=>
   go_wp2_with (go_at_call 94;refine ll.o.mono ?_;rintro e w4 ⟨⟨⟨pv,pn,pa,pl,pc⟩,rfl,hp⟩,aN⟩;simp only[Option.isSome]at hp ⊢;rw[<-eN.o]at aN;have a_:Below w4.heap.size w4 (w4.alloc (.cells #[.bool pv,.string pn,.slice pa pl pc] 43)):=ct;have qO:=eq.o.later (aN.tr a_) (fun r=>r.below (aN.tr a_));have x5:=qO.other (by omega) J4.o;obtain ⟨e0,e1,e2,z0,z1,z2⟩:=fI x5;have H5:=aF (aN.tr a_) x5;clear hp aN a_ qO x5)
   obtain ⟨W6,cM,x6,k6,g0,g1,g2⟩:=rQ H5.o.2 (.bool false) (.string ⟨#[]⟩) (.slice none 0 0)
   rw[<-cM]
   have HE:=ab (show R=none by rw[Cb.o,GN.o (by simp)];rfl)
   refine bodyPost_ret (v:=.tuple #[TQ.val ⟨false,⟨#[]⟩,none,0,0⟩,.bool false]) (by simp[TQ.val,results,Tryz.results94,go_sem,g0,g1,g2]) rfl ⟨⟨⟨false,⟨#[]⟩,none,0,0⟩,by rw[HE.o];rfl,fun u hu=>by rw[HE.o]at hu;cases hu⟩,Below.kp1 ((bW.o.1.tr bW.o.2).tr H5.o.1) k6 (by omega)⟩
  | some u'=>
   go_wp2_with (first | (go_at_call 94;refine ll.o.mono ?_;rintro e w4 ⟨⟨⟨pv,pn,pa,pl,pc⟩,rfl,hp⟩,aN⟩;simp only[Option.isSome]at hp ⊢;rw[<-eN.o]at aN hp;have a_:Below w4.heap.size w4 (w4.alloc (.cells #[.bool pv,.string pn,.slice pa pl pc] 43)):=ct;have qO:=eq.o.later (aN.tr a_) (fun r=>r.below (aN.tr a_));have r2:(w4.alloc (.cells #[.bool pv,.string pn,.slice pa pl pc] 43)).cell? ⟨w.heap.size+1+1+1,2,none⟩=some (.slice ra k rc):=(qO.cell 2).trans rfl;have HF5:=ab qO;have GO:=aF ((hp u' rfl).later a_) (aN.tr a_);have HO:=ab (ba xU.o.2.1 (fun b _ hlt=>(aN.tr a_).block b hlt));have nS:((w4.alloc (.cells #[.bool pv,.string pn,.slice pa pl pc] 43)).alloc (.cells #[.bool pv,.string pn,.slice pa pl pc] 43)).heap.size=w4.heap.size+2:=(by simp);have GH:=qO.size;simp only[World.size_alloc]at GH;clear hp aN a_ qO) | (at_builtin;refine wpList_append_lies _ rfl _ _ 33 rfl W1.heap.size 43 i0 (.agg #[.bool false,.string ByteArray.empty,.slice none 0 0]) 3 48 Tryz.underlying33 hi rq jS hO rfl (by decide) (.slice ra k rc) k _ rfl (HO.o.alloc _) ⟨w4.heap.size+1,0,none⟩ 1 1 [.bool pv,.string pn,.slice pa pl pc] rfl rfl (cK (cs:=#[.bool pv,.string pn,.slice pa pl pc]) (t:=43) (fr:=(0,0)) (aj (by simp))) (by simp[Value.oneCell']) (by decide) (by unfold maxLen;omega) (by omega) (by simp;omega) (w4.heap.size+2) nS ?_;intro g et w6 aR aq hg dS;have h4:=eq.o.at4 (kk:=2) xU.o.2.1 GO.o.2 aq;have d3:=h4.2.2;have z3:=h4.2.1;have HG:=ce aR aq hg dS;clear aR aq hg dS h4))
   go_roundw
   case rel=>
    exact pm128
   case measure=>simp[intOf];omega
 |clear pp66j
  have cA:((a.map (e_ f)).take k).length=k:=by rw[List.length_take];have:=cY.o;simp;omega
  obtain ⟨ra,rc,rfl⟩:=hF.row.slice
  rw[cA]at hF
  have HU:=ab (hu.later az)
  have pp10b:=();exact pm10
 |clear pp66k
  have cA:((a.map (cC kd.ts sc)).take k).length=k:=by rw[List.length_take];have:=cY.o;simp;omega
  obtain ⟨ra,rc,rfl⟩:=hF.row.slice
  rw[cA]at hF
  have HU:=ab (hu.later az)
  have pp10c:=();exact pm10
 |have cA:((a.map (cC kd.ts sc)).take k).length=k:=by rw[List.length_take];have:=cY.o;simp;omega
  obtain ⟨ra,rc,rfl⟩:=hF.row.slice
  rw[cA]at hF
  have HU:=ab (hu.later az)
  obtain ⟨HF,dH,bW⟩:=cf hF cA az
  clear hu az hF c0 c1 c2 cA
  gi_wp2
  obtain ⟨W2,aY⟩:=ao (wr.alloc (.cells #[.bool u.v,.string u.n,.slice u.a u.l u.c] 43))
  exact pm56):G:=h
theorem pm67(h:G:=by
 obtain ⟨W7,I0⟩:=ao (w6.alloc (.cells #[.int .u8 p0,.string p1,.slice p2 p3 p4,.slice p5 p6 p7] 36))
 rw[<-I0]at eT ⊢
 have y7:=bN I0
 have xR:=bC (H6.o.tr eT) Fs.o.2.2.1
 have xT:=bC (H6.o.tr eT) Fs.o.2.1
 have hlw:=cD.size
 have zbs:=Ew.o.2.1
 have zbt:=H5.o.size
 have Pg:=vK.o
 have zbu:=dG.o.size
 have hR1:=(bl iB.o)
 have Y1:=(aV (F:=3) xR (.slice (some ⟨w6.heap.size,0,none⟩) 1 1)).trans rfl
 have kR:Kp (fun b=>b=w.heap.size+1+1) W7 (W7.setCell ⟨w.heap.size+1+1,3,none⟩ (.slice (some ⟨w6.heap.size,0,none⟩) 1 1)):=⟨rfl,rfl,rfl,by simp,fun c _ hc=>Below.heap_setCell _ _ _ _ (by simpa using hc)⟩
 have r3:=ai xR 3
 first
 |clear pp67
  have rz:=ae xR 3
  have XB:=ab hp
  have NY:=bx (H6.o.tr eT) y7 eT
  have FW:=bx Y1 kR xT
  clear hp cD eT y7 xR xT Y1 kR I0
  refine b_ 9 rfl fun K hK=>?_
  go_simp
  refine ee hK ?_
  clear hK K
  refine b_ 10 rfl fun K hK=>?_
  go_simp
  refine ee hK ?_
  clear hK K r3 rz
  refine cO (by kernel_rfl) ?_ _
  obtain ⟨W9,pM⟩:=ao (W7.setCell ⟨w.heap.size+1+1,3,none⟩ (.slice (some ⟨w6.heap.size,0,none⟩) 1 1))
  have Ux:=FW.o.1
  have KS:=FW.o.2.1
  rw[<-pM]at Ux KS ⊢
  have zbv:=NY.o.1.size
  have Uy:=(KS.same _ (bl FW.o.2.2) (by omega)).trans FW.o.2.2
  have y9:=(KS.same _ (bl NY.o.2.1) (by omega)).trans NY.o.2.1
  have Y2:FormV (W1.heap.size<=·) W9 (FQ.val ⟨p0,p1,p2,p3,p4,p5,p6,p7⟩) (gS (cH n) (ap n) G):=(XB.o.later NY.o.2.2).move (fun b hb hlt=>⟨by have h:w5.heap.size<=b:=hb;omega,KS.same b hlt (by have h:w5.heap.size<=b:=hb;omega)⟩)
  have yf:FormV (W1.heap.size<=·) W9 (FQ.val ⟨so,⟨n.toArray⟩,e6,0,e7,some ⟨w6.heap.size,0,none⟩,1,1⟩) (.mk so n [] [gS (cH n) (ap n) G]):=aQ.2 ⟨_,_,rfl,bV,pz Y2 (by omega) y9⟩
  have NZ:Below w.heap.size w W9:=Below.kp1 (Ew.o.1.tr NY.o.1) KS (by omega)
  obtain ⟨c0,c1,c2,c3,_,_,_,_⟩:=cW Ux
  obtain ⟨e0,e1,e2,e3,z0,z1,z2,z3⟩:=cW Uy
  have H9:=bx yf NZ Uy
  clear Ux KS Uy y9 Y2 yf NZ pM f0 f1 dB
  gi_wp2
  have x6:=kf (v0:=.int .u8 so) (v1:=.string ⟨n.toArray⟩) (v2:=.slice e6 0 e7) (v3:=.slice (some ⟨w6.heap.size,0,none⟩) 1 1) H9.o.2.2
  have k6:=di (W:=W9) (b:=w.heap.size+1) (v0:=.int .u8 so) (v1:=.string ⟨n.toArray⟩) (v2:=.slice e6 0 e7) (v3:=.slice (some ⟨w6.heap.size,0,none⟩) 1 1)
  obtain ⟨W6,cM⟩:=ao ((((W9.setCell ⟨w.heap.size+1,0,none⟩ (.int .u8 so)).setCell ⟨w.heap.size+1,1,none⟩ (.string ⟨n.toArray⟩)).setCell ⟨w.heap.size+1,2,none⟩ (.slice e6 0 e7)).setCell ⟨w.heap.size+1,3,none⟩ (.slice (some ⟨w6.heap.size,0,none⟩) 1 1))
  rw[<-cM]at x6 k6 ⊢
  clear cM
  have g0:W6.cell? ⟨w.heap.size+1,0,none⟩=some (.int .u8 so):=ai x6 0
  have g1:W6.cell? ⟨w.heap.size+1,1,none⟩=some (.string ⟨n.toArray⟩):=ai x6 1
  have g2:W6.cell? ⟨w.heap.size+1,2,none⟩=some (.slice e6 0 e7):=ai x6 2
  have g3:W6.cell? ⟨w.heap.size+1,3,none⟩=some (.slice (some ⟨w6.heap.size,0,none⟩) 1 1):=ai x6 3
  refine bodyPost_ret (v:=FQ.val ⟨so,⟨n.toArray⟩,e6,0,e7,some ⟨w6.heap.size,0,none⟩,1,1⟩) (by simp[FQ.val,results,Tryz.results72,go_sem,g0,g1,g2,g3]) rfl ⟨⟨⟨so,⟨n.toArray⟩,e6,0,e7,some ⟨w6.heap.size,0,none⟩,1,1⟩,rfl,HRm.o ▸ H9.o.1.move (fun b hok hlt=>⟨by have h:W1.heap.size<=b:=hok;omega,k6.same b hlt (by have h:W1.heap.size<=b:=hok;omega)⟩)⟩,Below.kp1 H9.o.2.1 k6 (by omega)⟩
 |have rz:=ae xR 3
  have XB:=ab hp
  have NY:=bx (H6.o.tr eT) y7 eT
  have FW:=bx Y1 kR xT
  clear hp cD eT y7 xR xT Y1 kR I0
  refine b_ 9 rfl fun K hK=>?_
  go_simp
  refine ee hK ?_
  clear hK K
  refine b_ 10 rfl fun K hK=>?_
  go_simp
  refine ee hK ?_
  clear hK K r3 rz
  refine cO (by kernel_rfl) ?_ _
  obtain ⟨W9,pM⟩:=ao (W7.setCell ⟨w.heap.size+1+1,3,none⟩ (.slice (some ⟨w6.heap.size,0,none⟩) 1 1))
  have Ux:=FW.o.1
  have KS:=FW.o.2.1
  rw[<-pM]at Ux KS ⊢
  have zbv:=NY.o.1.size
  have Uy:=(KS.same _ (bl FW.o.2.2) (by omega)).trans FW.o.2.2
  have y9:=(KS.same _ (bl NY.o.2.1) (by omega)).trans NY.o.2.1
  have Y2:FormV (W1.heap.size<=·) W9 (FQ.val ⟨p0,p1,p2,p3,p4,p5,p6,p7⟩) (gS (cH n) (ap m) G):=(XB.o.later NY.o.2.2).move (fun b hb hlt=>⟨by have h:w5.heap.size<=b:=hb;omega,KS.same b hlt (by have h:w5.heap.size<=b:=hb;omega)⟩)
  have yf:FormV (W1.heap.size<=·) W9 (FQ.val ⟨so,⟨m.toArray⟩,e6,0,e7,some ⟨w6.heap.size,0,none⟩,1,1⟩) (.mk so m [] [gS (cH n) (ap m) G]):=aQ.2 ⟨_,_,rfl,bV,pz Y2 (by omega) y9⟩
  have NZ:Below w.heap.size w W9:=Below.kp1 (Ew.o.1.tr NY.o.1) KS (by omega)
  obtain ⟨c0,c1,c2,c3,_,_,_,_⟩:=cW Ux
  obtain ⟨e0,e1,e2,e3,z0,z1,z2,z3⟩:=cW Uy
  have H9:=bx yf NZ Uy
  clear Ux KS Uy y9 Y2 yf NZ pM f0 f1 dB
  gi_wp2
  have x6:=kf (v0:=.int .u8 so) (v1:=.string ⟨m.toArray⟩) (v2:=.slice e6 0 e7) (v3:=.slice (some ⟨w6.heap.size,0,none⟩) 1 1) H9.o.2.2
  have k6:=di (W:=W9) (b:=w.heap.size+1) (v0:=.int .u8 so) (v1:=.string ⟨m.toArray⟩) (v2:=.slice e6 0 e7) (v3:=.slice (some ⟨w6.heap.size,0,none⟩) 1 1)
  obtain ⟨W6,cM⟩:=ao ((((W9.setCell ⟨w.heap.size+1,0,none⟩ (.int .u8 so)).setCell ⟨w.heap.size+1,1,none⟩ (.string ⟨m.toArray⟩)).setCell ⟨w.heap.size+1,2,none⟩ (.slice e6 0 e7)).setCell ⟨w.heap.size+1,3,none⟩ (.slice (some ⟨w6.heap.size,0,none⟩) 1 1))
  rw[<-cM]at x6 k6 ⊢
  clear cM
  have g0:W6.cell? ⟨w.heap.size+1,0,none⟩=some (.int .u8 so):=ai x6 0
  have g1:W6.cell? ⟨w.heap.size+1,1,none⟩=some (.string ⟨m.toArray⟩):=ai x6 1
  have g2:W6.cell? ⟨w.heap.size+1,2,none⟩=some (.slice e6 0 e7):=ai x6 2
  have g3:W6.cell? ⟨w.heap.size+1,3,none⟩=some (.slice (some ⟨w6.heap.size,0,none⟩) 1 1):=ai x6 3
  refine bodyPost_ret (v:=FQ.val ⟨so,⟨m.toArray⟩,e6,0,e7,some ⟨w6.heap.size,0,none⟩,1,1⟩) (by simp[FQ.val,results,Tryz.results72,go_sem,g0,g1,g2,g3]) rfl ⟨⟨⟨so,⟨m.toArray⟩,e6,0,e7,some ⟨w6.heap.size,0,none⟩,1,1⟩,rfl,HRm.o ▸ H9.o.1.move (fun b hok hlt=>⟨by have h:W1.heap.size<=b:=hok;omega,k6.same b hlt (by have h:W1.heap.size<=b:=hok;omega)⟩)⟩,Below.kp1 H9.o.2.1 k6 (by omega)⟩):G:=h
theorem pm68(h:G:=by
 obtain ⟨nF4,nT4,dT,lH,ku⟩:=H4.o.2.1 (by simp)
 have zi:Kp M W2 w4:=H4.o.1.two uj.o.1 uj.o.2.1
 have gu:Kp (fun b=>b=aB+1) w4 (w4.setCell ⟨aB+1,0,none⟩ (.int .i64 0)):=gO
 have zK:Kp M w4 (w4.setCell ⟨aB+1,0,none⟩ (.int .i64 0)):=gu.mono (fun b _ h=>by subst h;exact uj.o.2.2.2.1)
 refine ⟨zi.trans zK,k3,nF4,nT4,HG.o.2.2.2.2.2.2.1,ku.kpx gu (fun b h=>by subst h;exact uj.o.2.2.2.1) (by omega) (by omega) (by omega),by have:=HG.o.1;simp;omega,by have:=HG.o.2.1;simp;omega,HG.o.2.2.2.2.2.1 (by simp),gN H4.o.2.2.1,?_,(HG.o.2.2.2.2.1.trans zi).trans zK⟩
 exact (gu.same _ (bl H4.o.2.2.2.1) (by omega)).trans H4.o.2.2.2.1):G:=h
theorem pm69(h:G:=by
 go_cut [14] from 8 to 14 (fun s14 wx=>s14=.bool false/\Below W1.heap.size W1 wx)
 case first=>
  cases tv with
  | false=>
   go_wp2_with fail
   go_meet
   exact ⟨rfl,Below.refl _ _⟩
  | true=>
   have mO:ea n=false:=by simpa using IP
   rw[mO]at qP
   go_wp2_with (go_at_call 119;refine qP.o.mono ?_;rintro e w3 ⟨rfl,aJ⟩;have H3:=ab aJ;clear aJ)
   go_meet
   exact ⟨rfl,H3.o⟩
 case rest=>
 obtain ⟨XN,bA⟩:=hcut
 rw[XN]
 clear XN IP
 obtain ⟨W2,aY⟩:=ao wc
 rw[<-aY]at bA ⊢
 clear aY wc
 have x2:=bC bA H1.o.2.1
 have c2:=ai x2 2
 have H2:=aF bA (H1.o.1.tr bA)
 clear bA x2 e0 e1 e2
 go_wp2_with fail
 first
 |clear pp69
  clear c2
  go_loopw [5,26] (fun r i wr=>∃j:Nat,j<=n1/\i=.int .i64 j/\r=.int .i64 ((dC k.ts (a.take j)+1:Nat):Int)/\Below W2.heap.size W2 wr) (fun _ i _=>n1 - (intOf i).toNat)
  case atStart=>exact ⟨0,Nat.zero_le _,rfl,by simp[dC],Below.refl _ _⟩
  case round=>
   obtain ⟨j,hj,rfl,rfl,az⟩:=hrel
   by_cases hlt:j<n1
   ·have kN:=bR HN.o hlt
    have pp219c:=();exact pm219
   ·obtain rfl:n1=j:=by omega
    have cA:a.take n1=a:=by rw[HN.o];exact List.take_length
    rw[cA]
    have HK:=ab (H2.o.2.tr az)
    clear az cA
    go_wp2
    go_ret
    exact ⟨by rw[pB.o];rfl,HK.o⟩
 |clear c2
  go_loopw [5,27] (fun r i wr=>∃j:Nat,j<=n1/\i=.int .i64 j/\OwnS W2.heap.size wr r (dm k.ts (a.take j))/\Below W2.heap.size W2 wr) (fun _ i _=>n1 - (intOf i).toNat)
  case atStart=>exact ⟨0,Nat.zero_le _,rfl,OwnS.nil _ _,Below.refl _ _⟩
  case round=>
   obtain ⟨j,hj,rfl,gJ,az⟩:=hrel
   by_cases hlt:j<n1
   ·have kN:=bR HN.o hlt
    exact pm219
   ·obtain rfl:n1=j:=by omega
    have cA:a.take n1=a:=by rw[HN.o];exact List.take_length
    rw[cA]at gJ
    have HK:=aF (H2.o.2.tr az) (gJ.base H2.o.2.size)
    clear az gJ cA
    go_wp2
    go_ret
    exact ⟨⟨_,rfl,by rw[pB.o];exact HK.o.2⟩,HK.o.1⟩):G:=h
theorem pm70(h:G:=by
 have CT:=ab (fun w=>ht ▸ jL n w qA)
 have HE:=ab (hb.trans (by rw[hv,ht] <;> rfl))
 clear hv ht hb nN Lg qB oc
 have pp99f:=();exact pm99):G:=h
theorem pm71(h:G:=by
 go_wp2_with (first | (go_at_call 84;refine wD.o.mono ?_;rintro e w3 ⟨rfl,uG,aJ⟩;have H3:=aF uG aJ;clear uG aJ) | (go_at_call 75;refine (Ee _ _).mono ?_;rintro e w4 ⟨rfl,rfl⟩) | (go_at_call 74;refine (xr _ _ _ SK.o _ H3.o.1).mono ?_;rintro e w5 ⟨v5,rfl,JT,a_⟩;have H5:=aF JT a_;clear JT a_))
 go_ret
 have aJ:RowKit.Below W2.heap.size W2 w3:=by rw[HZ3.o,eN.o];exact H3.o.2
 have gz:=bZ.o.trans (aJ.mono bZ.o.size)
 exact ⟨⟨v5,rfl,ownsRow_base_a H5.o.1.1 gz.size,H5.o.1.2⟩,gz.trans (H5.o.2.mono gz.size)⟩):G:=h
theorem pm72(h:G:=by
 have H5:=ab (((Below.refl wq.heap.size wq).drew).trans a_)
 refine hK _ _ (fun _=>by rw[dr.o];exact H5.o) (fun _=>?_)
 clear hK K a_
 refine b_ 7 rfl fun K hK=>?_
 go_simp
 refine callsIn_wide.2 ((GW.o w5 H5.o).mono ?_)
 rintro _ w6 ⟨⟨⟨p0,p1,p2,p3,p4,p5,p6,p7⟩,rfl,hp⟩,cD⟩
 have H6:=ab (H5.o.tr cD)
 refine hK _ _ (fun _=>by rw[dr.o];exact H6.o) (fun _=>?_)
 clear hK K
 refine b_ 8 rfl fun K hK=>?_
 go_simp
 have eT:Below w6.heap.size w6 (w6.alloc (.cells #[.int .u8 p0,.string p1,.slice p2 p3 p4,.slice p5 p6 p7] 36)):=ct
 refine hK _ _ (fun _=>by rw[dr.o];exact H6.o.tr eT) (fun _=>?_)
 first
 |clear pp72
  clear hK K
  have pp67:=();exact pm67
 |clear hK K
  exact pm67):G:=h
theorem pm73(h:G:=by
 have x6:=oy (v0:=.bool pv) (v1:=.string pn) (v2:=.slice pa pl pc) H5.o.2.2.1
 have k6:=d8 (W:=w5) (b:=w.heap.size+1) (v0:=.bool pv) (v1:=.string pn) (v2:=.slice pa pl pc)
 obtain ⟨W6,cM⟩:=ao (((w5.setCell ⟨w.heap.size+1,0,none⟩ (.bool pv)).setCell ⟨w.heap.size+1,1,none⟩ (.string pn)).setCell ⟨w.heap.size+1,2,none⟩ (.slice pa pl pc))
 rw[<-cM]at x6 k6 ⊢
 clear cM
 have g0:W6.cell? ⟨w.heap.size+1,0,none⟩=some (.bool pv):=ai x6 0
 have g1:W6.cell? ⟨w.heap.size+1,1,none⟩=some (.string pn):=ai x6 1
 have g2:W6.cell? ⟨w.heap.size+1,2,none⟩=some (.slice pa pl pc):=ai x6 2
 first
 |clear pp73
  have hz:=HY.o.2.2
  refine bodyPost_ret (v:=TQ.val ⟨pv,pn,pa,pl,pc⟩) (by simp[TQ.val,results,Tryz.results218,go_sem,g0,g1,g2]) rfl ⟨⟨⟨pv,pn,pa,pl,pc⟩,rfl,H5.o.1.move (fun b hok hlt=>⟨by omega,k6.same b hlt (by omega)⟩)⟩,Below.kp1 H5.o.2.1 k6 (by omega)⟩
 |refine bodyPost_ret (v:=TQ.val ⟨pv,pn,pa,pl,pc⟩) (by simp[TQ.val,results,Tryz.results168,go_sem,g0,g1,g2]) rfl ⟨⟨⟨pv,pn,pa,pl,pc⟩,rfl,H5.o.1.move (fun b hok hlt=>⟨by omega,k6.same b hlt (by omega)⟩)⟩,Below.kp1 H5.o.2.1 k6 (by omega)⟩):G:=h
theorem pm74(h:G:=by
 simp only[FQ.val,TQ.val]at GW
 have dr:=ab hS
 clear hS
 refine br S 9 (by kernel_rfl) dB (fun jr dt=>?_)
 refine dc 0 107 (.agg #[.int .u8 q.o,.string q.n,.slice q.a q.l q.c,.slice q.b q.m q.e]) rfl (fun V hX=>by obtain ⟨g0,g1,g2,g3⟩:=f0 V hX;go_simp) dt fun NU=>?_
 simp only[ak]
 refine bS 1 108 (.pointer (some ⟨w.heap.size,1,none⟩)) rfl NU fun NV=>?_
 simp only[ak]
 refine dc 2 109 (.string ⟨n.toArray⟩) rfl (fun V hX=>by obtain ⟨g0,g1⟩:=f1 V hX;go_simp) NV fun Hu=>?_
 simp only[ak]
 refine bS 4 111 (.pointer (some ⟨w.heap.size+1+1,1,none⟩)) rfl Hu fun NW=>?_
 simp only[ak]
 first
 |clear pp74
  refine dc 5 112 (.string ⟨n.toArray⟩) rfl (fun V hX=>by obtain ⟨g0,g1⟩:=f1 V hX;go_simp) NW fun Uu=>?_
  simp only[ak]
  refine b_ 3 rfl fun K hK=>?_
  go_simp
  refine callsIn_wide.2 ((ew n _ (by have:=OP.o.2.1;omega)).mono ?_)
  rintro _ _ ⟨rfl,rfl⟩
  refine hK _ _ (fun _=>dB) (fun _=>?_)
  clear hK K
  refine b_ 6 rfl fun K hK=>?_
  go_simp
  refine callsIn_wide.2 ((fF n _).mono ?_)
  rintro _ w5 ⟨rfl,a_⟩
  have pp72:=();exact pm72
 |refine dc 5 112 (.string ⟨m.toArray⟩) rfl (fun V hX=>by obtain ⟨g0,g1⟩:=f1 V hX;go_simp) NW fun Uu=>?_
  simp only[ak]
  refine b_ 3 rfl fun K hK=>?_
  go_simp
  refine callsIn_wide.2 ((ew n _ (by have:=OP.o.2.1;omega)).mono ?_)
  rintro _ _ ⟨rfl,rfl⟩
  refine hK _ _ (fun _=>dB) (fun _=>?_)
  clear hK K
  refine b_ 6 rfl fun K hK=>?_
  go_simp
  refine callsIn_wide.2 ((fF m _).mono ?_)
  rintro _ w5 ⟨rfl,a_⟩
  exact pm72):G:=h
theorem pm75(h:G:=by
 refine wpIn_cond_true (bw tc) ?_
 have hT:Tabs WB W4:=iU.next (em)
 refine wpIn_seq_k (fun K5a U6=>?_)
 refine bX [aE (.bool true)]
  1 1 uM (by kernel_rfl) (fun k hk=>?_) (fun A5 γ W5 h=>?_)
 ·match k,hk with
  | 0,_=>exact zs rfl (.bool true) (fun _ _=>by go_simp)
  | k+1,hk=>exact absurd hk (by simp)
 have Lk:=h.sz.trans uM
 have hd5:=h.df.trans LJ
 have vX:Below w.heap.size w W5:=aG em h.inv.1 (fun _ h=>h.elim)
 exact pm76):G:=h
theorem pm76(h:G:=by
 have F3:=F3.nx (h.od 3) h.inv.1 bB
 have F4:=F4.nx (h.od 4) h.inv.1 bB
 have F7:=F7.nx (h.od 7) h.inv.1 bB
 have t2:=h.ol 2 t2
 first
 |clear pp76a
  clear hT
  obtain ⟨vz,tc,fz⟩:=h.get 9 _ 32 rfl rfl
  obtain rfl:vz=.bool true:=fz
  clear h
  refine Lb _ _ ?_
  exact pm75
 |clear pp76b
  clear hT
  obtain ⟨vz,tc,fz⟩:=h.get 9 _ 32 rfl rfl
  obtain rfl:vz=.bool false:=fz
  clear h
  refine Lb _ _ ?_
  refine wpIn_cond_false (bw tc) (wpIn_skip ?_)
  refine QS _ _ ?_
  clear QS Lb K4a K4b tc
  obtain ⟨l,hl⟩:=ao (de (aO [] f))
  have wE:nodesF f<=1000000:=by
   have h1:=Ls
   simp only[bP,Bool.and_eq_true,decide_eq_true_eq]at h1
   have h2:=h1.2.1
   simp only[nodesF,ah,ac]at h2
   omega
  have hT:Tabs WB W4:=iU.next (em)
  refine wpIn_seq_k (fun K6a ZP=>?_)
  refine bX [aH X0 f,
   JA X0 l,
   JA X0 l]
   3 3 uM (by kernel_rfl) (fun k hk=>?_) (fun A6 γ W6 h=>?_)
  ·match k,hk with
   | 0,_=>exact cd _ _ 3 F3.box (fun h=>h) (F3.at bB) (old F3.slot)
   | 1,_=>exact QR f J8 wE 33 hL (am 0) (hp:=by rw[<-hl];rfl)
   | 2,_=>exact bF (JA X0 l) 34 (am 1)
   | k+3,hk=>exact absurd hk (by simp)
  have Kc:=h.sz.trans uM
  have hd6:=h.df.trans LJ
  have Rx:Below w.heap.size w W6:=aG em h.inv.1 (fun _ h=>h.elim)
  have F3:=F3.nx (h.od 3) h.inv.1 bB
  have F4:=F4.nx (h.od 4) h.inv.1 bB
  have F7:=F7.nx (h.od 7) h.inv.1 bB
  have t2:=h.ol 2 t2
  clear hT
  obtain ⟨v8,t8,fz⟩:=h.get 2 _ 8 rfl rfl
  have S8:StrsO (okS X0 W6) W6 v8 l:=StrsO.move (ok:=okB X0 γ W6) fz (fun c h _=>⟨⟨trivial,h.2.1⟩,rfl⟩)
  clear h fz
  refine ZP _ _ ?_
  clear ZP K6a
  have hT:Tabs WB W6:=iU.next (Rx)
  refine wpIn_seq_k (fun K7a ZQ=>?_)
  refine bX [aE (.bool false)]
   1 1 Kc (by kernel_rfl) (fun k hk=>?_) (fun A7 γ W7 h=>?_)
  ·match k,hk with
   | 0,_=>exact zs rfl (.bool false) (fun _ _=>by go_simp)
   | k+1,hk=>exact absurd hk (by simp)
  have Ty:=h.sz.trans Kc
  have hd7:=h.df.trans hd6
  have Zi:Below w.heap.size w W7:=aG Rx h.inv.1 (fun _ h=>h.elim)
  have F3:=F3.nx (h.od 3) h.inv.1 bB
  have F4:=F4.nx (h.od 4) h.inv.1 bB
  have F7:=F7.nx (h.od 7) h.inv.1 bB
  have t2:=h.ol 2 t2
  have t8:=h.ol 8 t8
  have S8:=S8.move (okS.next (L':=X0) h.inv.1 bB (fun _ h _=>h))
  clear hT
  obtain ⟨vz,t9,fz⟩:=h.get 0 _ 9 rfl rfl
  obtain rfl:vz=.bool false:=fz
  clear h
  refine ZQ _ _ ?_
  clear ZQ K7a
  have hT:Tabs WB W7:=iU.next (Zi)
  refine wpIn_seq_k (fun K8a ZR=>?_)
  refine wpIn_seq_k (fun K8b ZS=>?_)
  refine bX [aE (.int .i64 0)]
   1 1 Ty (by kernel_rfl) (fun k hk=>?_) (fun A8 γ W8 h=>?_)
  ·match k,hk with
   | 0,_=>exact zs rfl (.int .i64 0) (fun _ _=>by go_simp)
   | k+1,hk=>exact absurd hk (by simp)
  have R4:=h.sz.trans Ty
  have hd8:=h.df.trans hd7
  have V4:Below w.heap.size w W8:=aG Zi h.inv.1 (fun _ h=>h.elim)
  have F3:=F3.nx (h.od 3) h.inv.1 bB
  have F4:=F4.nx (h.od 4) h.inv.1 bB
  have F7:=F7.nx (h.od 7) h.inv.1 bB
  have t2:=h.ol 2 t2
  have t8:=h.ol 8 t8
  have t9:=h.ol 9 t9
  have S8:=S8.move (okS.next (L':=X0) h.inv.1 bB (fun _ h _=>h))
  clear hT
  obtain ⟨vz,t10,fz⟩:=h.get 0 _ 10 rfl rfl
  obtain rfl:vz=.int .i64 0:=fz
  clear h
  refine ZS _ _ ?_
  clear ZS K8b
  refine wpIn_block ?_
  obtain ⟨a8,c8,rfl⟩:∃a c,v8=.slice a l.length c:=by
   obtain ⟨a,c,h,_⟩:=S8
   exact ⟨a,c,h⟩
  have mv:l.length<=1000000:=by rw[hl];exact Nat.le_trans (ei _) (Nat.le_trans (fj f []) wE)
  have Vm:=ab hl
  clear hl
  refine wpIn_loop (fun a W=>∃i,i<=l.length/\ScopeI w f g (.mk 6 [] [] [.mk 8 y [] [f],g]) y l (.slice a8 l.length c8) w.heap.size (w.heap.size+1) b7 q q' q7 i a W) (fun a _=>l.length - (intOf (a.tmps.getD 10 undef)).toNat) ⟨0,Nat.zero_le _,⟨R4,hd8,V4,t10,t9,t2,t8,F3,F4,F7,S8⟩⟩ ?_
  clear R4 hd8 V4 t10 t9 t2 t8 F3 F4 F7 S8
  rintro a W ⟨i,hi,⟨hs,hd,HB,t10,t9,t2,t8,F3,F4,F7,S8⟩⟩
  rw[bw t10]
  by_cases hlt:i<l.length
  case pos=>
   have V0:decide ((i:Int)<(l.length:Int))=true:=by simp;omega
   have hd0:decide ((i:Int)<0)=false:=by simp
   have hT:Tabs WB W:=iU.next (HB)
   refine wpIn_seq_k (fun K9a QT=>?_)
   refine wpIn_seq_k (fun K9b Oz=>?_)
   refine bX [aE (.int .i64 i),
    aE (.slice a8 l.length c8),
    aE (.int .i64 l.length),
    aE (.bool true)]
    4 4 hs (by kernel_rfl) (fun k hk=>?_) (fun A9 γ W9 h=>?_)
   ·match k,hk with
    | 0,_=>exact au (aE (.int .i64 i)) 10 (old t10)
    | 1,_=>exact au (aE (.slice a8 l.length c8)) 8 (old t8)
    | 2,_=>exact bG rfl 36 (.slice a8 l.length c8) (.int .i64 l.length) (am 1) (fun _ _ _ _=>by go_simp)
    | 3,_=>exact cr rfl 35 37 (.int .i64 i) (.int .i64 l.length) (.bool true) (am 0) (am 2) (fun _ _ _ _ _ _=>by go_simp)
    | k+4,hk=>exact absurd hk (by simp)
   have F1:=h.sz.trans hs
   have QF:=h.df.trans hd
   have F2:Below w.heap.size w W9:=aG HB h.inv.1 (fun _ h=>h.elim)
   have F3:=F3.nx (h.od 3) h.inv.1 bB
   have F4:=F4.nx (h.od 4) h.inv.1 bB
   have F7:=F7.nx (h.od 7) h.inv.1 bB
   have t2:=h.ol 2 t2
   have t8:=h.ol 8 t8
   have t9:=h.ol 9 t9
   have t10:=h.ol 10 t10
   have S8:=S8.move (okS.next (L':=X0) h.inv.1 bB (fun _ h _=>h))
   clear hT
   obtain ⟨vz,tc,fz⟩:=h.get 3 _ 38 rfl rfl
   obtain rfl:vz=.bool true:=fz
   clear h
   refine Oz _ _ ?_
   refine wpIn_cond_true (bw tc) (wpIn_skip ?_)
   refine QT _ _ ?_
   clear QT Oz K9a K9b tc
   refine wpIn_seq_k (fun K10 U7=>?_)
   refine wpIn_block ?_
   have Vp:IntKind.i64.wrap ((i:Int)+1)=((i+1:Nat):Int):=by rw[IntWalk.i64_in _ (by omega)];simp
   by_cases ho:(l.take i).contains y=true
   case pos=>
    rw[ho]at t9
    have VK:(l.take (i+1)).contains y=true:=by rw[mh hlt,ho];rfl
    have hT:Tabs WB W9:=iU.next (F2)
    refine bX [aE (.bool true),
     aE (.bool true),
     aE undef,
     aE undef,
     aE undef,
     aE undef,
     aE undef,
     aE undef,
     aE (.bool true),
     aE (.bool true)]
     10 10 F1 (by kernel_rfl) (fun k hk=>?_) (fun A11 γ ny h=>?_)
    ·match k,hk with
     | 0,_=>exact au (aE (.bool true)) 9 (VZ 9 t9)
     | 1,_=>exact au (aE (.bool true)) 41 (am 0)
     | 2,_=>exact dN false 1 (am 1)
     | 3,_=>exact dN false 1 (am 1)
     | 4,_=>exact dN false 1 (am 1)
     | 5,_=>exact dN false 1 (am 1)
     | 6,_=>exact dN false 1 (am 1)
     | 7,_=>exact dN false 1 (am 1)
     | 8,_=>exact bG rfl 42 (.bool true) (.bool true) (am 1) (fun _ _ _ _=>by go_simp)
     | 9,_=>exact bF (aE (.bool true)) 49 (am 8)
     | k+10,hk=>exact absurd hk (by simp)
    have pp60:=();exact pm60
   have ho:(l.take i).contains y=false:=by simpa using ho
   rw[ho]at t9
   obtain ⟨b8,o8,rfl,_,hc8⟩:=S8.get hlt
   by_cases Z3:l[i]=y
   case pos=>
    have VK:(l.take (i+1)).contains y=true:=by rw[mh hlt,Z3];simp
    have hT:Tabs WB W9:=iU.next (F2)
    refine bX [aE (.bool false),
     aE (.bool false),
     aE (.slice (some ⟨b8,o8,none⟩) l.length c8),
     aE (.int .i64 i),
     aE (.pointer (some ⟨b8,o8+i,none⟩)),
     aE (.string ⟨l[i].toArray⟩),
     aE (.string ⟨y.toArray⟩),
     aE (.bool true),
     aE (.bool true),
     aE (.bool true)]
     10 10 F1 (by kernel_rfl) (fun k hk=>?_) (fun A11 γ ny h=>?_)
    ·match k,hk with
     | 0,_=>exact au (aE (.bool false)) 9 (VZ 9 t9)
     | 1,_=>exact au (aE (.bool false)) 41 (am 0)
     | 2,_=>exact au (aE (.slice (some ⟨b8,o8,none⟩) l.length c8)) 8 (old t8) (hw:=aw 1 (am 1))
     | 3,_=>exact au (aE (.int .i64 i)) 10 (old t10) (hw:=aw 1 (am 1))
     | 4,_=>exact cr rfl 43 44 (.slice (some ⟨b8,o8,none⟩) l.length c8) (.int .i64 i) (.pointer (some ⟨b8,o8+i,none⟩)) (am 2) (am 3) (fun _ _ _ _ _ _=>by go_simp) (hw:=aw 1 (am 1))
     | 5,_=>exact eV (by exact aw 1 (am 1)) rfl rfl (fun a γ wz aW=>by
       obtain ⟨v,e,rfl⟩:=aW.val 4 _ _ rfl rfl (by kernel_rfl)
       have e2:=bw e
       have c:=aW.inv.1.cell (a:=⟨b8,o8+i,none⟩) (fun h=>h) hc8
       exact ⟨.string ⟨l[i].toArray⟩,by go_simp,rfl⟩)
     | 6,_=>exact au (aE (.string ⟨y.toArray⟩)) 2 (old t2) (hw:=aw 1 (am 1))
     | 7,_=>exact cr rfl 46 47 (.string ⟨l[i].toArray⟩) (.string ⟨y.toArray⟩) (.bool true) (am 5) (am 6) (fun _ _ _ _ _ _=>by go_simp) (hw:=aw 1 (am 1))
     | 8,_=>exact cr rfl 42 48 (.bool false) (.bool true) (.bool true) (am 1) (am 7) (fun _ _ _ _ _ _=>by go_simp)
     | 9,_=>exact bF (aE (.bool true)) 49 (am 8)
     | k+10,hk=>exact absurd hk (by simp)
    have pp60:=();exact pm60
   have VK:(l.take (i+1)).contains y=false:=by rw[mh hlt,ho];simp[Z3]
   have hT:Tabs WB W9:=iU.next (F2)
   refine bX [aE (.bool false),
    aE (.bool false),
    aE (.slice (some ⟨b8,o8,none⟩) l.length c8),
    aE (.int .i64 i),
    aE (.pointer (some ⟨b8,o8+i,none⟩)),
    aE (.string ⟨l[i].toArray⟩),
    aE (.string ⟨y.toArray⟩),
    aE (.bool false),
    aE (.bool false),
    aE (.bool false)]
    10 10 F1 (by kernel_rfl) (fun k hk=>?_) (fun A11 γ ny h=>?_)
   ·match k,hk with
    | 0,_=>exact au (aE (.bool false)) 9 (VZ 9 t9)
    | 1,_=>exact au (aE (.bool false)) 41 (am 0)
    | 2,_=>exact au (aE (.slice (some ⟨b8,o8,none⟩) l.length c8)) 8 (old t8) (hw:=aw 1 (am 1))
    | 3,_=>exact au (aE (.int .i64 i)) 10 (old t10) (hw:=aw 1 (am 1))
    | 4,_=>exact cr rfl 43 44 (.slice (some ⟨b8,o8,none⟩) l.length c8) (.int .i64 i) (.pointer (some ⟨b8,o8+i,none⟩)) (am 2) (am 3) (fun _ _ _ _ _ _=>by go_simp) (hw:=aw 1 (am 1))
    | 5,_=>exact eV (by exact aw 1 (am 1)) rfl rfl (fun a γ wz aW=>by
      obtain ⟨v,e,rfl⟩:=aW.val 4 _ _ rfl rfl (by kernel_rfl)
      have e2:=bw e
      have c:=aW.inv.1.cell (a:=⟨b8,o8+i,none⟩) (fun h=>h) hc8
      exact ⟨.string ⟨l[i].toArray⟩,by go_simp,rfl⟩)
    | 6,_=>exact au (aE (.string ⟨y.toArray⟩)) 2 (old t2) (hw:=aw 1 (am 1))
    | 7,_=>exact cr rfl 46 47 (.string ⟨l[i].toArray⟩) (.string ⟨y.toArray⟩) (.bool false) (am 5) (am 6) (fun _ _ _ _ _ _=>by go_simp) (hw:=aw 1 (am 1))
    | 8,_=>exact cr rfl 42 48 (.bool false) (.bool false) (.bool false) (am 1) (am 7) (fun _ _ _ _ _ _=>by go_simp)
    | 9,_=>exact bF (aE (.bool false)) 49 (am 8)
    | k+10,hk=>exact absurd hk (by simp)
   exact pm60
  have V0:decide ((i:Int)<(l.length:Int))=false:=by simp;omega
  rw[show l.take i=l from List.take_of_length_le (by omega)]at t9
  have hT:Tabs WB W:=iU.next (HB)
  refine wpIn_seq_k (fun K9a QT=>?_)
  refine wpIn_seq_k (fun K9b Oz=>?_)
  refine bX [aE (.int .i64 i),
   aE (.slice a8 l.length c8),
   aE (.int .i64 l.length),
   aE (.bool false)]
   4 4 hs (by kernel_rfl) (fun k hk=>?_) (fun A9 γ W9 h=>?_)
  ·match k,hk with
   | 0,_=>exact au (aE (.int .i64 i)) 10 (old t10)
   | 1,_=>exact au (aE (.slice a8 l.length c8)) 8 (old t8)
   | 2,_=>exact bG rfl 36 (.slice a8 l.length c8) (.int .i64 l.length) (am 1) (fun _ _ _ _=>by go_simp)
   | 3,_=>exact cr rfl 35 37 (.int .i64 i) (.int .i64 l.length) (.bool false) (am 0) (am 2) (fun _ _ _ _ _ _=>by go_simp)
   | k+4,hk=>exact absurd hk (by simp)
  have F1:=h.sz.trans hs
  have QF:=h.df.trans hd
  have F2:Below w.heap.size w W9:=aG HB h.inv.1 (fun _ h=>h.elim)
  have F3:=F3.nx (h.od 3) h.inv.1 bB
  have F4:=F4.nx (h.od 4) h.inv.1 bB
  have F7:=F7.nx (h.od 7) h.inv.1 bB
  have t2:=h.ol 2 t2
  have t8:=h.ol 8 t8
  have t9:=h.ol 9 t9
  have t10:=h.ol 10 t10
  have S8:=S8.move (okS.next (L':=X0) h.inv.1 bB (fun _ h _=>h))
  clear hT
  obtain ⟨vz,tc,fz⟩:=h.get 3 _ 38 rfl rfl
  obtain rfl:vz=.bool false:=fz
  clear h
  refine Oz _ _ ?_
  refine wpIn_cond_false (bw tc) (wpIn_exit ?_)
  simp only[Exit.then,Exit.inBlock,↓reduceIte]
  refine ZR _ _ ?_
  clear QT Oz K9a K9b tc ZR K8a t10
  rw[Vm.o,jk]at t9
  clear V0 hlt hi
  have hSL:=KA Ls
  cases ZT:(aO [] f).contains y
  case true=>
   rw[ZT]at t9
   have hM:cJ [(Fm.mk 6 [] [] [Fm.mk 8 [120] [] [ec [63,65]],ec [63,65]],.mk 6 [] [] [.mk 8 y [] [f],g])] ⟨[],[]⟩=(⟨[],[]⟩,0,70):=hSL.trans (by rw[ZT];rfl)
   have pp160a:=();exact pm160
  case false=>
   rw[ZT]at t9
   have ZV:pf f g=bT [] f g:=FJ Ls
   cases hak:bT [] f g
   case false=>
    have Kk:pf f g=false:=ZV.trans hak
    have hM:cJ [(Fm.mk 6 [] [] [Fm.mk 8 [120] [] [ec [63,65]],ec [63,65]],.mk 6 [] [] [.mk 8 y [] [f],g])] ⟨[],[]⟩=(⟨[],[]⟩,0,70):=hSL.trans (by rw[ZT,hak];rfl)
    have pp160b:=();exact pm160
   case true=>
    have Kk:pf f g=true:=ZV.trans hak
    have hM:cJ [(Fm.mk 6 [] [] [Fm.mk 8 [120] [] [ec [63,65]],ec [63,65]],.mk 6 [] [] [.mk 8 y [] [f],g])] ⟨[],[]⟩=(⟨[([63,65],f)],[]⟩,0,0):=hSL.trans (by rw[ZT,hak];rfl)
    exact pm160
 |clear pp76c
  have t8:=h.ol 8 t8
  have t9:=h.ol 9 t9
  have S8:=(S8.move (show el (okS X0 W9) (okS X0 W9.drew) W9 W9.drew from fun _ h _=>⟨h,rfl⟩)).move (okS.next (L':=X0) h.inv.1 bB (fun _ h _=>h))
  obtain ⟨vz,tz,fz⟩:=h.get 12 _ 11 rfl rfl
  obtain ⟨DK,Om,lz,_⟩:=ri tz fz (h.did 13 _ rfl rfl) h.inv
  first
  |clear pp16
   have wJ:=lz.next (L':=X0) rfl (Kp.refl (M:=bL) _) (fun h=>h) (fun _ _ h=>h) (fun _ h _=>h.1)
   clear vz tz fz lz
   clear hT
   obtain ⟨vz,Dx,fz⟩:=h.get 14 _ 12 rfl rfl
   obtain rfl:vz=.int .i64 70:=fz
   clear h
   refine vA _ _ ?_
   clear vA OA
   have hT:Tabs WB Sl:=iU.next (FL)
   refine wpIn_seq_k (fun OC vB=>?_)
   refine bX [aE (.bool true),
    aE (.bool false),
    aE (.bool false),
    aE undef,
    aE undef,
    aE undef,
    aE (.bool false),
    aE (.bool false)]
    8 8 FK (by kernel_rfl) (fun k hk=>?_) (fun A13 γ fv h=>?_)
   ·match k,hk with
    | 0,_=>exact au (aE (.bool true)) 9 (old t9)
    | 1,_=>exact bG rfl 62 (.bool true) (.bool false) (am 0) (fun _ _ _ _=>by go_simp)
    | 2,_=>exact au (aE (.bool false)) 63 (am 1)
    | 3,_=>exact dN true 2 (am 2)
    | 4,_=>exact dN true 2 (am 2)
    | 5,_=>exact dN true 2 (am 2)
    | 6,_=>exact bG rfl 64 (.bool false) (.bool false) (am 2) (fun _ _ _ _=>by go_simp)
    | 7,_=>exact bF (aE (.bool false)) 68 (am 6)
    | k+8,hk=>exact absurd hk (by simp)
   have zx:=h.sz.trans FK
   have Ii:=h.df.trans OB
   have eJ:Below w.heap.size w fv:=aG FL h.inv.1 (fun _ h=>h.elim)
   have F3:=F3.nx (h.od 3) h.inv.1 bB
   have F4:=F4.nx (h.od 4) h.inv.1 bB
   have F7:=F7.nx (h.od 7) h.inv.1 bB
   have wJ:=wJ.nx (h.od 11) h.inv.1 bB
   have t2:=h.ol 2 t2
   have t8:=h.ol 8 t8
   have t9:=h.ol 9 t9
   have Dx:=h.ol 12 Dx
   have S8:=S8.move (okS.next (L':=X0) h.inv.1 bB (fun _ h _=>h))
   clear hT
   obtain ⟨vz,v_,fz⟩:=h.get 7 _ 13 rfl rfl
   obtain rfl:vz=.bool false:=fz
   clear h
   refine vB _ _ ?_
   clear vB OC
   have hT:Tabs WB fv.drew:=iU.next (eJ.drew)
   have F3:=F3.drew
   have F4:=F4.drew
   have F7:=F7.drew
   have wJ:=wJ.drew
   exact pm7
  |have wJ:=lz.next (L':=X0) rfl (Kp.refl (M:=bL) _) (fun h=>h) (fun _ _ h=>h) (fun _ h _=>h.1)
   clear vz tz fz lz
   clear hT
   obtain ⟨vz,Dx,fz⟩:=h.get 14 _ 12 rfl rfl
   obtain rfl:vz=.int .i64 70:=fz
   clear h
   refine vA _ _ ?_
   clear vA OA
   have hT:Tabs WB Sl:=iU.next (FL)
   refine wpIn_seq_k (fun OC vB=>?_)
   refine bX [aE (.bool false),
    aE (.bool true),
    aE (.bool true),
    aH X0 f,
    aH X0 g,
    aE (.bool false),
    aE (.bool false),
    aE (.bool false)]
    8 8 FK (by kernel_rfl) (fun k hk=>?_) (fun A13 γ fv h=>?_)
   ·match k,hk with
    | 0,_=>exact au (aE (.bool false)) 9 (old t9)
    | 1,_=>exact bG rfl 62 (.bool false) (.bool true) (am 0) (fun _ _ _ _=>by go_simp)
    | 2,_=>exact au (aE (.bool true)) 63 (am 1)
    | 3,_=>exact cd _ _ 3 F3.box (fun h=>h) (F3.at bB) (old F3.slot) (hw:=aw 2 (am 2))
    | 4,_=>exact cd _ _ 4 F4.box (fun h=>h) (F4.at bB) (old F4.slot) (hw:=aw 2 (am 2))
    | 5,_=>exact FI f g J8 Ln 65 66 hT js (am 3) (am 4) (hw:=aw 2 (am 2)) (hp:=vw Kk)
    | 6,_=>exact cr rfl 64 67 (.bool true) (.bool false) (.bool false) (am 2) (am 5) (fun _ _ _ _ _ _=>by go_simp)
    | 7,_=>exact bF (aE (.bool false)) 68 (am 6)
    | k+8,hk=>exact absurd hk (by simp)
   have zx:=h.sz.trans FK
   have Ii:=h.df.trans OB
   have eJ:Below w.heap.size w fv:=aG FL h.inv.1 (fun _ h=>h.elim)
   have F3:=F3.nx (h.od 3) h.inv.1 bB
   have F4:=F4.nx (h.od 4) h.inv.1 bB
   have F7:=F7.nx (h.od 7) h.inv.1 bB
   have wJ:=wJ.nx (h.od 11) h.inv.1 bB
   have t2:=h.ol 2 t2
   have t8:=h.ol 8 t8
   have t9:=h.ol 9 t9
   have Dx:=h.ol 12 Dx
   have S8:=S8.move (okS.next (L':=X0) h.inv.1 bB (fun _ h _=>h))
   clear hT
   obtain ⟨vz,v_,fz⟩:=h.get 7 _ 13 rfl rfl
   obtain rfl:vz=.bool false:=fz
   clear h
   refine vB _ _ ?_
   clear vB OC
   have hT:Tabs WB fv.drew:=iU.next (eJ.drew)
   have F3:=F3.drew
   have F4:=F4.drew
   have F7:=F7.drew
   have wJ:=wJ.drew
   exact pm7
 |clear pp76d
  have t8:=h.ol 8 t8
  have t9:=h.ol 9 t9
  have S8:=S8.move (okS.next (L':=X0) h.inv.1 bB (fun _ h _=>h))
  clear hT
  obtain ⟨vz,t10,fz⟩:=h.get 2 _ 10 rfl rfl
  obtain rfl:vz=.int .i64 ((i+1:Nat):Int):=fz
  simp only[Exit.then]
  refine ⟨⟨i+1,hlt,⟨FA,Ic,FB,t10,t9.trans (by rw[VK]),t2,t8,F3,F4,F7,S8⟩⟩,?_⟩
  rw[bw t10]
  simp only[intOf,Int.toNat_natCast]
  omega
 |clear pp76e
  have t8:=h.ol 8 t8
  have t10:=h.ol 10 t10
  have S8:=S8.move (okS.next (L':=X0) h.inv.1 bB (fun _ h _=>h))
  clear hT
  obtain ⟨vz,t9,fz⟩:=h.get 9 _ 9 rfl rfl
  first
  |clear pp60
   obtain rfl:vz=.bool true:=fz
   clear h
   simp only[Exit.inBlock,Exit.then]
   refine U7 _ _ ?_
   have hT:Tabs WB ny:=iU.next (zw)
   exact pm22
  |obtain rfl:vz=.bool false:=fz
   clear h
   simp only[Exit.inBlock,Exit.then]
   refine U7 _ _ ?_
   have hT:Tabs WB ny:=iU.next (zw)
   exact pm22
 |clear hT
  obtain ⟨vz,tr,fz⟩:=h.get 0 _ 6 rfl rfl
  obtain rfl:vz=.bool true:=fz
  refine U6 _ _ ?_
  refine wpIn_ret ?_
  simp only[Exit.then]
  exact bodyPost_ret (v:=.bool true) (by simp[results,Tryz.results8,go_sem,tr]) hd5 ⟨rfl,vX⟩):G:=h
theorem pm77(h:G:=by
 obtain ⟨e0,e1,e2,e3,_,_,_,_⟩:=cW H2.o.2.1
 have g0:W2.cell? ⟨kb,0,none⟩=some (.map (some mF)):=ai H2.o.2.2.box 0
 have g1:W2.drew.cell? ⟨kb,0,none⟩=some (.map (some mF)):=g0
 have g3:W2.drew.cell? ⟨w.heap.size+1,1,none⟩=some (.string ⟨n.toArray⟩):=e1
 have aJ:Below W2.heap.size W2 (W2.alloc (.cells #[.int .u8 0,.string ⟨#[]⟩,.slice none 0 0,.slice none 0 0] 36)):=ct
 obtain ⟨g4,g5⟩:=wN aJ g0 e1
 rcases H2.o.2.2.fs.look Tryz.underlying9 Tryz.underlying145 kX (x:=n) (by omega) with ⟨hg,hlk⟩ | ⟨f,vf,hg,hvf,hlk⟩
 first
 |clear pp77
  ·have l1:=(hlk W2.drew rfl).1
   have pp125a:=();exact pm125
  ·obtain ⟨⟨Cs,Ct,Cu,Cv,Cw,Cx,Cy,Cz⟩,rfl,nl,EV⟩:=hvf
   simp only[FQ.val]at hlk
   have l1:=(hlk W2.drew rfl).1
   have pp125b:=();exact pm125
 |·have l1:=(hlk W2.drew rfl).1
   have l2:=(hlk (W2.alloc (.cells #[.int .u8 0,.string ⟨#[]⟩,.slice none 0 0,.slice none 0 0] 36)).drew (Below.heap_alloc _ _ _ (by have:=H2.o.2.2.fs.lt;omega))).1
   have Kl:=ab (show R=true by rw[hE,hg])
   have bp:=ab (H2.o.1.tr aJ.drew)
   clear hlk hg aJ hE
   go_enter Tryz.func124,Tryz.ntmps124
   go_upto_region 4 with fail
   rw[<-eN.o]
   go_region
   all_goals
    go_wp2
    go_ret
    exact ⟨by rw[Kl.o];rfl,bp.o⟩
  ·obtain ⟨⟨Cs,Ct,Cu,Cv,Cw,Cx,Cy,Cz⟩,rfl,nl,EV⟩:=hvf
   simp only[FQ.val]at hlk
   have l1:=(hlk W2.drew rfl).1
   exact pm125):G:=h
theorem pm78(h:G:=by
 go_enter Tryz.func64,Tryz.ntmps64
 first
 |clear pp78a
  go_wp2_with (first | (go_at_call 115;refine C1.o.mono ?_;rintro e w' ⟨rfl,lG⟩;obtain rfl:=lG.symm) | (go_at_call 116;refine (CN.o _).mono ?_;rintro e w3 ⟨rfl,aJ⟩;have bp:=ab aJ;have p2:=(fJ.o.later aJ).c2;have p3:=(fJ.o.later aJ).c3;have p0:=(fJ.o.later aJ).c0;have s3:=(oW.o.later aJ).c3;have s4:=(oW.o.later aJ).c4;clear aJ))
  go_ret
  exact JPost.no (l:=left - 1) HE.o (lJ.o.trans (Kp.below bp.o)) (s9.o.later bp.o) (by omega) (by omega)
 |clear pp78b
  go_wp2_with (first | (go_at_call 115;refine C1.o.mono ?_;rintro e w' ⟨rfl,lG⟩;obtain rfl:=lG.symm))
  go_ret
  exact JPost.no (l:=left - 1) HE.o (lJ.o) (s9.o) (by omega) (by omega)
 |clear pp78c
  go_wp2_with (first | (go_at_call 115;refine C1.o.mono ?_;rintro e w' ⟨rfl,lG⟩;obtain rfl:=lG.symm))
  go_ret
  exact JPost.no (l:=left - 1) HE.o m5.o.1 m5.o.2.1 (by omega) (by omega)
 |clear pp78d
  go_wp2_with (go_at_call 115;refine C1.o.mono ?_;rintro e w' ⟨rfl,rfl⟩)
  go_ret
  exact JPost.no (l:=left - 1) HE.o ((mZ _).trans (Kp.below ct)) ((HJ.o.set _).later ct) (by omega) (by omega)
 |clear pp78e
  go_wp2_with (first | (go_at_call 115;refine C1.o.mono ?_;rintro e w' ⟨rfl,lG⟩;obtain rfl:=lG.symm) | (go_at_call 116;refine (CN.o _).mono ?_;rintro e w3 ⟨rfl,aJ⟩;have bp:=ab aJ;have p2:=(fJ.o.later aJ).c2;have p3:=(fJ.o.later aJ).c3;have p0:=(fJ.o.later aJ).c0;have s3:=(oW.o.later aJ).c3;have s4:=(oW.o.later aJ).c4;clear aJ) | (go_at_call 117;refine (CI.o _ (lJ.o.trans (Kp.below bp.o))).mono ?_;rintro e w4 ⟨rfl,aN⟩;have em:=ab aN;have p2:=((fJ.o.later bp.o).later aN).c2;have p3:=((fJ.o.later bp.o).later aN).c3;clear aN) | (go_at_call 118;refine (CT.o _ ((lJ.o.trans (Kp.below bp.o)).trans (Kp.below em.o)) ((s9.o.later bp.o).later em.o)).mono ?_;rintro e w5 ⟨rfl,rd,l5,yV,yW,nz,jo⟩;have T7:=jo rfl;subst T7;have Nt:Kp (fun c=>c=J) w w5:=((lJ.o.trans (Kp.below bp.o)).trans (Kp.below em.o)).trans rd;have e3:w5.cell? ⟨w.heap.size,3,none⟩=some (.slice qb m0 qe):=(((fJ.o.later bp.o).later em.o).kp rd (by omega)).c3;have HA:=aF Nt yV;clear rd yV yW nz jo Nt))
  first
  |clear pp29
   exact pm4
  |exact pm3
 |clear pp78f
  go_wp2_with (first | (go_at_call 115;refine C1.o.mono ?_;rintro e w' ⟨rfl,lG⟩;obtain rfl:=lG.symm) | (go_at_call 116;refine (CN.o _).mono ?_;rintro e w3 ⟨rfl,aJ⟩;have bp:=ab aJ;have p2:=(fJ.o.later aJ).c2;have p3:=(fJ.o.later aJ).c3;have p0:=(fJ.o.later aJ).c0;have s3:=(oW.o.later aJ).c3;have s4:=(oW.o.later aJ).c4;clear aJ) | (go_at_call 117;refine (CI.o _ (lJ.o.trans (Kp.below bp.o))).mono ?_;rintro e w4 ⟨rfl,aN⟩;have em:=ab aN;have p2:=((fJ.o.later bp.o).later aN).c2;have p3:=((fJ.o.later bp.o).later aN).c3;clear aN) | (go_at_call 118;refine (CT.o _ ((lJ.o.trans (Kp.below bp.o)).trans (Kp.below em.o)) ((s9.o.later bp.o).later em.o)).mono ?_;rintro e w5 ⟨rfl,rd,l5,yV,yW,nz,jo⟩;have HH:=ce rd yV yW yW;have HL:=ab (show l5<=left - 1 from nz);clear rd yV yW nz jo))
  go_ret
  exact JPost.no HE.o (((lJ.o.trans (Kp.below bp.o)).trans (Kp.below em.o)).trans HH.o.1) HH.o.2.1 HH.o.2.2.1 (by have:=HL.o;omega)
 |clear pp78g
  go_wp2_with (first | (go_at_call 115;refine C1.o.mono ?_;rintro e w' ⟨rfl,lG⟩;obtain rfl:=lG.symm) | (go_at_call 116;refine (CN.o _).mono ?_;rintro e w3 ⟨rfl,aJ⟩;have bp:=ab aJ;have p2:=(fJ.o.later aJ).c2;have p3:=(fJ.o.later aJ).c3;have p0:=(fJ.o.later aJ).c0;have s3:=(oW.o.later aJ).c3;have s4:=(oW.o.later aJ).c4;clear aJ) | (go_at_call 117;refine (CI.o _ (lJ.o.trans (Kp.below bp.o))).mono ?_;rintro e w4 ⟨rfl,aN⟩;have em:=ab aN;have p2:=((fJ.o.later bp.o).later aN).c2;have p3:=((fJ.o.later bp.o).later aN).c3;clear aN))
  go_ret
  exact JPost.no (l:=left - 1) HE.o ((lJ.o.trans (Kp.below bp.o)).trans (Kp.below em.o)) ((s9.o.later bp.o).later em.o) (by omega) (by omega)
 |clear pp78h
  go_wp2_with (first | (go_at_call 115;refine C1.o.mono ?_;rintro e w' ⟨rfl,lG⟩;obtain rfl:=lG.symm) | (go_at_call 116;refine (CN.o _).mono ?_;rintro e w3 ⟨rfl,aJ⟩;have bp:=ab aJ;have p2:=(fJ.o.later aJ).c2;have p3:=(fJ.o.later aJ).c3;have p0:=(fJ.o.later aJ).c0;have s3:=(oW.o.later aJ).c3;have s4:=(oW.o.later aJ).c4;clear aJ) | (go_at_call 118;refine (CT.o _ (lJ.o.trans (Kp.below bp.o)) (s9.o.later bp.o)).mono ?_;rintro e w5 ⟨rfl,rd,l5,yV,yW,nz,jo⟩;have T7:=jo rfl;subst T7;have Nt:Kp (fun c=>c=J) w w5:=(lJ.o.trans (Kp.below bp.o)).trans rd;have e3:w5.cell? ⟨w.heap.size,3,none⟩=some (.slice qb m0 qe):=((fJ.o.later bp.o).kp rd (by omega)).c3;have HA:=aF Nt yV;clear rd yV yW nz jo Nt))
  first
  |clear pp39
   exact pm4
  |exact pm3
 |go_wp2_with (first | (go_at_call 115;refine C1.o.mono ?_;rintro e w' ⟨rfl,lG⟩;obtain rfl:=lG.symm) | (go_at_call 116;refine (CN.o _).mono ?_;rintro e w3 ⟨rfl,aJ⟩;have bp:=ab aJ;have p2:=(fJ.o.later aJ).c2;have p3:=(fJ.o.later aJ).c3;have p0:=(fJ.o.later aJ).c0;have s3:=(oW.o.later aJ).c3;have s4:=(oW.o.later aJ).c4;clear aJ) | (go_at_call 118;refine (CT.o _ (lJ.o.trans (Kp.below bp.o)) (s9.o.later bp.o)).mono ?_;rintro e w5 ⟨rfl,rd,l5,yV,yW,nz,jo⟩;have HH:=ce rd yV yW yW;have HL:=ab (show l5<=left - 1 from nz);clear rd yV yW nz jo))
  go_ret
  exact JPost.no HE.o ((lJ.o.trans (Kp.below bp.o)).trans HH.o.1) HH.o.2.1 HH.o.2.2.1 (by have:=HL.o;omega)):G:=h
theorem pm79(h:G:=by
 obtain ⟨b,off,u,rfl,_,hu,c0,c1,c2⟩:=J2.o.get bc
 obtain ⟨b',iN,u',rfl,_,fO,kg,kv,kw⟩:=Mc.o.get j6
 have nE:=MU.o.mem (List.getElem_mem bc)
 have pp292:=();exact pm292):G:=h
theorem pm80(h:G:=by
 obtain ⟨b,off,u,rfl,_,hu,c0,c1,c2⟩:=J2.o.get bc
 obtain ⟨b',iN,u',rfl,_,fO,kg,kv,kw⟩:=Mc.o.get j6
 have nE:=HF.o.mem (List.getElem_mem bc)
 have nD:=eM.o xa[k] (List.getElem_mem bc)
 exact pm292):G:=h
theorem pm81(h:G:=by
 obtain ⟨vo,yn,ya,ys⟩:=u
 obtain ⟨s1,s2,h1,ej,xG⟩:=aQ.1 hq
 obtain ⟨s3,s4,h2,vT,PI⟩:=aQ.1 jC
 obtain ⟨uo,un,ua,ul,uc,ub,um,ue⟩:=q
 obtain ⟨vo,vn,va,vl,vc,vb,vm,ve⟩:=q'
 exact pm181):G:=h
theorem pm82(h:G:=by
 have pp298:=();exact pm298):G:=h
theorem pm83(h:G:=by
 exact pm296):G:=h
theorem pm84(h:G:=by
 have F7:=F7.nx (h.od 7) h.inv.1 bB
 have wJ:=wJ.nx (h.od 11) h.inv.1 bB
 have t2:=h.ol 2 t2
 have t8:=h.ol 8 t8
 have t9:=h.ol 9 t9
 have Dx:=h.ol 12 Dx
 have v_:=h.ol 13 v_
 have S8:=(S8.move (show el (okS X0 fv) (okS X0 fv.drew) fv fv.drew from fun _ h _=>⟨h,rfl⟩)).move (okS.next (L':=X0) h.inv.1 bB (fun _ h _=>h))
 clear hT
 obtain ⟨vz,tr,fz⟩:=h.get 30 _ 6 rfl rfl
 obtain rfl:vz=.bool true:=fz
 refine FM _ _ ?_
 refine wpIn_ret ?_
 exact bodyPost_ret (v:=.bool true) (by simp[results,Tryz.results8,go_sem,tr]) Ij ⟨rfl,FC⟩):G:=h
theorem pm85(h:G:=by
 obtain ⟨s1,h1,ib⟩:=aP.1 hq
 obtain ⟨tv,tn,ta,tl,tc⟩:=q
 simp only[TQ.val,Value.agg.injEq,Array.mk.injEq,List.cons.injEq,and_true,Value.bool.injEq,Value.string.injEq]at h1
 obtain ⟨rfl,rfl,rfl⟩:=h1
 obtain rfl:=ib.len
 have lj:=ne.name
 have Kk:=ne.args.len
 obtain ⟨n1,dT⟩:=ao a.length
 first
 |clear pp85a
  rw[<-dT]at hq ib
  rw[<-dT]
  obtain ⟨W1,bQ⟩:=ao (w.alloc (.cells #[.bool tv,.string ⟨n.toArray⟩,.slice ta n1 tc] 43))
  have hb1:=cB bQ
  have x1:=bN bQ
  have hE:ip k.ts (.mk tv n a)=if (tv && ea n)=true then (getB k.ts n).isNone else a.any (ip k.ts):=by rw[ip,oN]
  obtain ⟨R,hR⟩:=ao (ip k.ts (.mk tv n a))
  rw[<-hR]at hE ⊢
  have HE:=ab hE
  have CA:=fun (V:World) (h:Below W1.heap.size W1 V)=>qg (ip k.ts) a Kk kb W0 (fun t ht=>ih t ht (ne.args.mem ht)) ok V ta n1 tc ((hb.tr hb1).tr h) ((ib.later hb1).later h)
  have CG:=ab CA
  have qP:=ab (ja n W1 (by omega))
  have H1:=bx hb1 x1 (hb.tr hb1)
  have lI:=ab bQ
  clear hq ib ne ih CA hb1 x1 bQ hE hR hb dT Kk
  obtain ⟨e0,e1,e2,_⟩:=fI H1.o.2.1
  cases tv with
  | false=>
   obtain ⟨B,hB⟩:=ao (a.any (ip k.ts))
   have hE:=HE.o
   rw[if_neg (by simp),<-hB]at hE
   rw[<-hB]at CG
   have pB:=ab hE
   have wB:=ab (CG.o W1 (Below.refl _ _))
   clear hE hB
   have pp145a:=();exact pm145
  | true=>
   cases mO:ea n with
   | false=>
    rw[mO]at qP
    obtain ⟨B,hB⟩:=ao (a.any (ip k.ts))
    have hE:=HE.o
    rw[if_neg (by simp[mO]),<-hB]at hE
    rw[<-hB]at CG
    have pB:=ab hE
    clear hE hB mO
    have pp145b:=();exact pm145
   | true=>
    rw[mO]at qP
    have hE:=HE.o
    rw[if_pos (by simp[mO])]at hE
    have pB:=ab hE
    clear hE mO CG
    exact pm145
 |clear pp85b
  rw[<-dT]at hq ib Kk
  rw[<-dT]
  obtain ⟨W1,bQ⟩:=ao (w.alloc (.cells #[.bool tv,.string ⟨n.toArray⟩,.slice ta n1 tc] 43))
  have hb1:=cB bQ
  have x1:=bN bQ
  obtain ⟨R,hR⟩:=ao (oo k.ts (.mk tv n a))
  have hE:=hR
  rw[oo]at hE
  rw[<-hR]
  have HE:=ab hE
  have qP:=ab (ja n W1 (by omega))
  have H1:=bx hb1 x1 (hb.tr hb1)
  have lI:=ab bQ
  have TE:=ab (ib.later hb1)
  obtain ⟨eM,VD,HN⟩:=cf ih ne.args dT
  clear hq ib ne ih hb1 x1 bQ hE hR hb dT
  have jb:∀ f,Fence.wide.fn f:=fun _=>trivial
  by_cases IP:(tv && ea n)=true
  ·obtain ⟨rfl,mO⟩:tv=true/\ea n=true:=by simpa using IP
   rw[mO]at qP
   have hE:=HE.o
   rw[if_pos IP]at hE
   have pB:=ab hE
   clear hE IP mO
   have pp231:=();exact pm231
  ·have hE:=HE.o
   rw[if_neg IP]at hE
   have pB:=ab hE
   clear hE
   exact pm231
 |rw[<-dT]at hq ib Kk
  rw[<-dT]
  obtain ⟨W1,bQ⟩:=ao (w.alloc (.cells #[.bool tv,.string ⟨n.toArray⟩,.slice ta n1 tc] 43))
  have hb1:=cB bQ
  have x1:=bN bQ
  obtain ⟨R,hR⟩:=ao (jy k.ts (.mk tv n a))
  have hE:=hR
  rw[jy]at hE
  rw[<-hR]
  have HE:=ab hE
  have qP:=ab (ja n W1 (by omega))
  have H1:=bx hb1 x1 (hb.tr hb1)
  have lI:=ab bQ
  have TE:=ab (ib.later hb1)
  obtain ⟨eM,VD,HSm,HN⟩:=eA ih ne.args yd dT
  clear hq ib ne yd ih hb1 x1 bQ hE hR hb dT
  have jb:∀ f,Fence.wide.fn f:=fun _=>trivial
  by_cases IP:(tv && ea n)=true
  ·obtain ⟨rfl,mO⟩:tv=true/\ea n=true:=by simpa using IP
   rw[mO]at qP
   have hE:=HE.o
   rw[if_pos IP]at hE
   have pB:=ab hE
   clear hE IP mO
   have pp227:=();exact pm227
  ·have hE:=HE.o
   rw[if_neg IP]at hE
   have pB:=ab hE
   clear hE
   exact pm227):G:=h
theorem pm86(h:G:=by
 go_simp
 refine ee hK ?_
 clear hK K
 refine cO (by kernel_rfl) ?_ _
 first
 |clear pp86a
  have sU:=zaD.o
  have GS:=Cb.o.2
  rw[sU]at GS
  have Mo:=aF Cb.o.1 GS
  clear Cb GS
  have S2:=ab (Fills.start (R:=w.heap.size+1+1+1) (mk:=fun rr=>#[.int .u8 qo,.string ⟨n.toArray⟩,.slice e6 k1 e7,rr]) (Row:=fun r W=>RowF X5.heap.size r ([]:List Fm) W) SZ.o (RowF.nil _ _))
  have p3:X5.cell? ⟨w.heap.size+1,3,none⟩=some (.slice qb m0 qe):=ai SY.o 3
  clear sU
  go_wp2
  clear p3
  go_loopw [61] (fun i wr=>∃k:Nat,k<=m0/\i=.int .i64 k/\∃row us,Fills 36 (w.heap.size+1+1+1) X5.heap.size (fun rr=>#[.int .u8 qo,.string ⟨n.toArray⟩,.slice e6 k1 e7,rr]) (fun r W=>RowF X5.heap.size r us W) X5 wr row/\ek ps.reverse (n :: ins) (s.take k)=some us/\us.length=k) (fun i _=>m0 - (intOf i).toNat)
  case atStart=>exact ⟨0,Nat.zero_le _,rfl,_,[],S2.o,by simp[ek],rfl⟩
  case round=>
   have pp240:=();exact pm240
 |clear pp86b
  have p3:=ai Ll.o 3
  have p7:=ai Ll.o 7
  clear f1 f5 dB dr dt jr
  gi_wp2
  clear p3 p7
  gi_loopw [40] (fun i wr=>∃k:Nat,k<=m0/\i=.int .i64 k/\J (pre ++ ([X] ++ aT wb (ss.take k) (fs.take k))) wr/\Kp M X5 wr) (fun i _=>m0 - (intOf i).toNat)
  case atStart=>exact ⟨0,Nat.zero_le _,rfl,by simpa[aT] using yi.o.1,Kp.refl _⟩
  case round=>
   have pp220e:=();exact pm220
 |clear pp86c
  clear pp tt yy z0 z1 z2 y0' y1' y2'
  go_wp2_with fail
  go_meet
  obtain ⟨W8,kH,x8,k8,_⟩:=rQ HA.o.2.2.1 (.bool u0) (.string u1) (.slice u2 u3 u4)
  rw[<-kH]
  have hl:=H6.o.1.size
  refine ⟨EB,rfl,rfl,⟨u0,u1,u2,u3,u4⟩,x8,Below.kp1 HA.o.1 k8 (by have:=HA.o.2.2.2;omega),by have:=HA.o.2.2.2;omega,fun u h=>(H6.o.2 u h).move (fun b hb hlt=>⟨hb,(k8.same b (Nat.lt_of_lt_of_le hlt HA.o.2.1.size) (by have:=HA.o.2.2.2;omega)).trans (HA.o.2.1.block b hlt)⟩)⟩
 |clear pp86d
  clear pp tt yy z0 z1 z2 y0' y1' y2'
  go_wp2_with fail
  go_meet
  obtain ⟨W8,kH,x8,k8,_⟩:=rQ H6.o.2.2.1 (.bool u0) (.string u1) (.slice u2 u3 u4)
  rw[<-kH]
  refine ⟨EB,rfl,rfl,⟨u0,u1,u2,u3,u4⟩,x8,Below.kp1 H6.o.1 k8 (by have:=HA.o.2.2;omega),by have:=HA.o.2.2;omega,fun u h=>?_⟩
  exact (H6.o.2.1 u h).move (fun b hb hlt=>⟨by have:=H6.o.2.2.2.2;omega,k8.same b hlt (by have:=H6.o.2.2.2.1;omega)⟩)
 |clear pp86e
  clear ff dB
  go_wp2
  go_roundw
  case rel=>exact ⟨j+1,by omega,by go_num,_,mY.o⟩
  case measure=>simp[intOf];omega
 |clear pp86f
  obtain ⟨fv,ED⟩:=ao ((((A.setCell ⟨w4.heap.size,0,none⟩ (.int .u8 ho)).setCell ⟨w4.heap.size,1,none⟩ (.string rN)).setCell ⟨w4.heap.size,2,none⟩ (.slice ha hl hc)).setCell ⟨w4.heap.size,3,none⟩ (.slice hb hm he))
  rw[<-ED]at rU Xl Xm ⊢
  clear ED s0 s1 s2 s3 zs0 zs1 zs2 zs3 ft fn0 fm dB dr dt eC eX fM gE iu jr
  have CP:=eM.o W0 G2 nx z Xj.o.1 Xj.o.2.1 Xj.o.2.2.1 Xj.o.2.2.2.1 Xj.o.2.2.2.2 IX.o My.o.1 My.o.2 _ _ fv ⟨ho,rN,ha,hl,hc,hb,hm,he⟩ ⟨zv,zn,za,zl,zc⟩ (Mz.o.next rU.o.below) Xm.o (HZ.o.later rU.o.below)
  simp only[FQ.val,TQ.val]at CP
  have GW:=ab CP
  obtain ⟨tu0,tu1,tu2⟩:=lE rU.o.bu
  obtain ⟨tt0,tt1,tt2,tt3⟩:=lF Xl.o
  clear CP
  gi_wp2_with fail
  refine callsIn_wide.2 (GW.o.mono ?_)
  rintro e w8 ⟨⟨⟨po,pn,pa,pl,pc,pb,pm,pe⟩,rfl,Rp⟩,f_⟩
  clear tu0 tu1 tu2 tt0 tt1 tt2 tt3
  have Td:=f_.size
  have hwX:=rU.o.below.size
  have kG:Below w8.heap.size w8 (w8.alloc (.cells #[.int .u8 po,.string pn,.slice pa pl pc,.slice pb pm pe] 36)):=ct
  have rT:=(rU.o.later f_).later kG
  have Xd:(w8.alloc (.cells #[.int .u8 po,.string pn,.slice pa pl pc,.slice pb pm pe] 36)).heap[w8.heap.size]?=some (.cells #[.int .u8 po,.string pn,.slice pa pl pc,.slice pb pm pe] 36 (0,0)):=aj rfl
  obtain ⟨W9,pM⟩:=ao ((w8.alloc (.cells #[.int .u8 po,.string pn,.slice pa pl pc,.slice pb pm pe] 36)).setCell ⟨w.heap.size+1+1+1,3,none⟩ (.slice (some ⟨w8.heap.size,0,none⟩) 1 1))
  have lM:=rT.setR 3 (.slice (some ⟨w8.heap.size,0,none⟩) 1 1)
  rw[<-pM]at lM
  have Xe:W9.heap[w8.heap.size]?=some (.cells #[.int .u8 po,.string pn,.slice pa pl pc,.slice pb pm pe] 36 (0,0)):=by rw[pM];exact (Below.heap_setCell _ _ _ _ (by have:=(rU.o.later f_).lt;simp <;> omega)).trans Xd
  have Rl:FormV (fv.heap.size<=·) W9 (FQ.val ⟨po,pn,pa,pl,pc,pb,pm,pe⟩) (ep kk nx z G2):=by
   rw[pM]
   exact Rp.move (fun b hok hlt=>⟨hok,(Below.heap_setCell _ _ _ _ (by have:=rU.o.lt;simp <;> omega)).trans (kG.block b hlt)⟩)
  have yf:FormV (fv.heap.size<=·) W9 (FQ.val ⟨qo,⟨m.toArray⟩,e6,0,e7,some ⟨w8.heap.size,0,none⟩,1,1⟩) (.mk qo m [] [ep kk nx z G2]):=aQ.2 ⟨_,_,rfl,bV,pz Rl (by omega) Xe⟩
  have q3:=ai rT.b2 3
  have zq3:=ae rT.b2 3
  obtain ⟨f0,f1,f2,f3⟩:=lF lM.b2
  obtain ⟨r0,r1,r2,r3⟩:=lF lM.b1
  have z0:=ae lM.b1 0
  have z1:=ae lM.b1 1
  have z2:=ae lM.b1 2
  have z3:=ae lM.b1 3
  obtain ⟨Pm,HP⟩:=aS lM yf
  have Ta:=rU.o.lt
  rw[pM]at f0 f1 f2 f3 r0 r1 r2 r3 z0 z1 z2 z3
  have HW9:=ab pM
  clear Rp f_ Td hwX kG rT Xd pM lM Xe Rl yf
  gi_wp2
  rw[<-HW9.o]
  have x6:=kf (v0:=.int .u8 qo) (v1:=.string ⟨m.toArray⟩) (v2:=.slice e6 0 e7) (v3:=.slice (some ⟨w8.heap.size,0,none⟩) 1 1) Pm.o.b1
  have k6:=di (W:=W9) (b:=w.heap.size+1+1) (v0:=.int .u8 qo) (v1:=.string ⟨m.toArray⟩) (v2:=.slice e6 0 e7) (v3:=.slice (some ⟨w8.heap.size,0,none⟩) 1 1)
  obtain ⟨W6,cM⟩:=ao ((((W9.setCell ⟨w.heap.size+1+1,0,none⟩ (.int .u8 qo)).setCell ⟨w.heap.size+1+1,1,none⟩ (.string ⟨m.toArray⟩)).setCell ⟨w.heap.size+1+1,2,none⟩ (.slice e6 0 e7)).setCell ⟨w.heap.size+1+1,3,none⟩ (.slice (some ⟨w8.heap.size,0,none⟩) 1 1))
  rw[<-cM]at x6 k6 ⊢
  clear cM
  have g0:W6.cell? ⟨w.heap.size+1+1,0,none⟩=some (.int .u8 qo):=ai x6 0
  have g1:W6.cell? ⟨w.heap.size+1+1,1,none⟩=some (.string ⟨m.toArray⟩):=ai x6 1
  have g2:W6.cell? ⟨w.heap.size+1+1,2,none⟩=some (.slice e6 0 e7):=ai x6 2
  have g3:W6.cell? ⟨w.heap.size+1+1,3,none⟩=some (.slice (some ⟨w8.heap.size,0,none⟩) 1 1):=ai x6 3
  refine bodyPost_ret (v:=FQ.val ⟨qo,⟨m.toArray⟩,e6,0,e7,some ⟨w8.heap.size,0,none⟩,1,1⟩) (by simp[FQ.val,results,Tryz.results101,go_sem,g0,g1,g2,g3]) rfl ⟨⟨⟨qo,⟨m.toArray⟩,e6,0,e7,some ⟨w8.heap.size,0,none⟩,1,1⟩,rfl,tP.o ▸ HP.o.move (fun b hok hlt=>⟨by omega,k6.same b hlt (by omega)⟩)⟩,Below.kp1 Pm.o.below k6 (by omega)⟩
 |clear pp86g
  gi_wp2
  go_roundw
  case rel=>exact ⟨k+1,by omega,by go_num,by rw[HSu.o];simpa using HH.o.1,jA.o.2.trans HH.o.2⟩
  case measure=>simp[intOf];omega
 |clear pp86h
  gi_wp2
  go_ret
  obtain ⟨Ck,h1,h2,h3⟩:=HH.o
  exact .inr ⟨rfl,Ck,h1,h2,((yi.o.2.trans jA.o.2).from _).trans h3⟩
 |clear pp86i
  clear ff dB dt eC eX fM gE iu iP kV jr
  go_wp2
  go_ret
  exact ⟨by rw[pB.o];rfl,H2.o.1.tr H7.o⟩
 |clear pp86j
  clear ff dB dt eC eX fM gE iu iP kV jr
  go_wp2
  go_ret
  exact ⟨⟨_,rfl,by rw[pB.o];exact H8.o.2.base H2.o.1.size⟩,H2.o.1.tr H8.o.1⟩
 |clear pp86k
  clear ff dB dt eC eX fM gE iu iP kV jr
  have h5s:=H5.o.1.size
  have hx8:w8.cell? ⟨w4.heap.size,0,none⟩=some (.string ⟨cF.toArray⟩):=aa H8.o.1 (ai H5.o.2.1 0)
  obtain ⟨l0,sW⟩:=ao (m.filter dy)
  have za2:l0.length<=400:=by rw[sW];exact Nat.le_trans (List.length_filter_le _ _) HM.o.2.1
  have hE:=HE2.o
  rw[<-sW]at hE
  have HV8:=ab (sW ▸ H8.o.2)
  have ll:=eG l0 (by omega) cF _ w8 v8 HV8.o.strs
  cases uN:l0.contains cF with
  | false=>
   rw[uN]at ll hE
   have ll:=ab ll
   have pB:=ab (show R=l0 by rw[hE];simp)
   clear hE sW uN
   go_wp2_with (go_at_call 128;refine ll.o.mono ?_;rintro e w9 ⟨rfl,hw9⟩;cases hw9)
   go_ret
   exact ⟨⟨_,rfl,by rw[pB.o];exact HV8.o.base (Nat.le_trans H2.o.1.size h5s)⟩,(H2.o.1.tr H5.o.1).tr H8.o.1⟩
  | true=>
   rw[uN]at ll hE
   have ll:=ab ll
   have hE:R=l0.filter (fun x=>!(x == cF)) ++ (de (aI (termOf k.ts y))).filter dy:=by rw[hE];simp[bne]
   have pB:=ab hE
   have za3:=ab (uX (fun x=>x == cF) l0 (by omega) 247 #[.pointer (some ⟨w4.heap.size,0,none⟩)] yB W5.heap.size w8 v8 (fun x W _ hC=>E2 x cF w4.heap.size W (hC.cell (by intro h;have h1:W5.heap.size<=w4.heap.size:=h.1;have h2:=(bl H5.o.2.1);omega) hx8)) HV8.o)
   clear hE sW uN
   go_upto_region 11 with (first | (go_at_call 128;refine ll.o.mono ?_;rintro e w9 ⟨rfl,hw9⟩;cases hw9) | (go_at_call 246;refine za3.o.mono ?_;rintro e w9 ⟨⟨v9,rfl,MD⟩,hk9⟩;have H9:=aF (jW (w:=W5) H8.o.1 hk9) MD;clear MD hk9))
   have TL:=H5.o.2.2.later H9.o.1
   obtain ⟨⟨z0,z1,z2,z3,z4⟩,RL,EW,IZ,Na,_,yx⟩:=TL.termOf (x:=y) (by have:=HYl.o;omega)
   simp only[TQ.val]at yx
   have yx:=yx w9 rfl
   have k1:w9.cell? ⟨kb,1,none⟩=some (.map (some mT)):=ai TL.box 1
   have DG:=ab (kE _ EW _ w9 ⟨z0,z1,z2,z3,z4⟩ RL)
   obtain ⟨m9,XT⟩:=ao (de (aI (termOf k.ts y)))
   have XU:∀ x∈m9,x.length<=2000000:=fun x hx=>by rw[XT,dj]at hx;exact Nat.le_trans (ln _ Na x hx) (by decide)
   have XV:m9.length<=1000:=by rw[XT];have h1:=ei (aI (termOf k.ts y));have h2:=lm (termOf k.ts y);omega
   have hE:=pB.o
   simp only[TQ.val,<-XT]at DG
   rw[<-XT]at hE
   obtain ⟨l1,CX⟩:=ao (l0.filter (fun x=>!(x == cF)))
   have za4:l1.length<=400:=by rw[CX];exact Nat.le_trans (List.length_filter_le _ _) za2
   have H9v:=ab (CX ▸ H9.o.2)
   rw[<-CX]at hE
   have Nc:=ab hE
   have HM9:=bx XU XV za4
   clear TL RL EW IZ Na XT XU XV CX hE hx8
   go_upto_region 12 with (first | (go_at_call 166;refine DG.o.mono ?_;rintro e XW ⟨⟨v10,rfl,XX⟩,Ap⟩;have za5:=ab (pE m9 (by have:=HM9.o.2.1;omega) HM9.o.1 _ XW v10 XX.1);have kz:=ab Ap;clear Ap XX) | (go_at_call 245;refine za5.o.mono ?_;rintro e Aq ⟨⟨v11,rfl,XY⟩,sx⟩;have rl:=aF (jW (w:=w9) kz.o sx) XY;clear XY sx) | (at_builtin;refine dv rfl _ _ rfl W5.heap.size (H9.o.1.tr rl.o.1).size v9 l1 rfl (H9v.o.later rl.o.1) v11 (m9.filter dy) rfl _ rl.o.2.strs (by have h1:=List.length_filter_le dy m9;have h2:=HM9.o.2.1;have h3:=HM9.o.2.2;omega) ?_;intro v12 XZ X6 X7;have Lp:=aF X6 X7;clear X6 X7))
   go_ret
   have nY:Below W5.heap.size W5 XZ:=(mJ (M:=fun _=>False) (Kp.below (H9.o.1.tr rl.o.1)) Lp.o.2 (fun g hg=>(H9v.o.lt g hg).1)).empty
   exact ⟨⟨_,rfl,by rw[Nc.o];exact Lp.o.1.base (Nat.le_trans H2.o.1.size h5s)⟩,(H2.o.1.tr H5.o.1).tr nY⟩
 |clear pp86l
  go_wp2
  have x6:=kf (v0:=.int .u8 p0) (v1:=.string p1) (v2:=.slice p2 p3 p4) (v3:=.slice p5 p6 p7) Hw.o
  have k6:=di (W:=w7) (b:=w.heap.size+1) (v0:=.int .u8 p0) (v1:=.string p1) (v2:=.slice p2 p3 p4) (v3:=.slice p5 p6 p7)
  obtain ⟨W6,cM⟩:=ao ((((w7.setCell ⟨w.heap.size+1,0,none⟩ (.int .u8 p0)).setCell ⟨w.heap.size+1,1,none⟩ (.string p1)).setCell ⟨w.heap.size+1,2,none⟩ (.slice p2 p3 p4)).setCell ⟨w.heap.size+1,3,none⟩ (.slice p5 p6 p7))
  rw[<-cM]at x6 k6 ⊢
  clear cM
  have g0:W6.cell? ⟨w.heap.size+1,0,none⟩=some (.int .u8 p0):=ai x6 0
  have g1:W6.cell? ⟨w.heap.size+1,1,none⟩=some (.string p1):=ai x6 1
  have g2:W6.cell? ⟨w.heap.size+1,2,none⟩=some (.slice p2 p3 p4):=ai x6 2
  have g3:W6.cell? ⟨w.heap.size+1,3,none⟩=some (.slice p5 p6 p7):=ai x6 3
  have sI:=Di (p:=⟨p0,p1,p2,p3,p4,p5,p6,p7⟩) (B:=w.heap.size+1) (HB.o.1.tr (H3.o.1.tr (H5.o.tr H7.o))) (by omega) k6 (HP7.o.move (fun b hok _=>⟨by have h1:=HB.o.2.1;have h2:=H3.o.1.size;have h3:=H5.o.size;have h:w5.heap.size<=b:=hok;omega,rfl⟩))
  refine bodyPost_ret (v:=FQ.val ⟨p0,p1,p2,p3,p4,p5,p6,p7⟩) (by simp[FQ.val,results,Tryz.results72,go_sem,g0,g1,g2,g3]) rfl ⟨⟨⟨p0,p1,p2,p3,p4,p5,p6,p7⟩,rfl,?_⟩,sI.2⟩
  rw[HR5.o]
  exact sI.1
 |clear ff dB dt eC eX fM gE iu iP kV pt jr vP Lh TG
  go_wp2
  go_ret
  exact ⟨by rw[pB.o];simp,(H2.o.1.tr H3.o.1).tr (H5.o.tr H8.o)⟩):G:=h
theorem pm87(h:G:=by
 go_wp2_with (go_at_call 146;refine (EO.o _).mono ?_;rintro e X0 ⟨rfl,ky⟩;have lx:Below W2.heap.size W2 X0:=(by rw[eN.o];exact ky);have kI:=ab (bC lx HX.o);have lX:=ab (bC lx HY.o);have nK:=ab ((HP.o.later bZ.o).later lx);have f9:=ab (bZ.o.trans (lx.mono bZ.o.size));have z1:X0.cell? ⟨w.heap.size,1,none⟩=some (.string ⟨xn.toArray⟩):=ai kI.o 1;have z3:X0.cell? ⟨w.heap.size+1,1,none⟩=some (.string ⟨yn.toArray⟩):=ai lX.o 1;have z2:X0.cell? ⟨w.heap.size,2,none⟩=some (.slice ua k0 uc):=ai kI.o 2;clear ky lx)
 first
 |clear pp87
  clear z1 z2 z3
  go_loopw [47] (fun i wr=>∃k:Nat,k<=k0/\i=.int .i64 k/\Below X0.heap.size X0 wr/\R=(bH ps.reverse (xa.drop k) (ya.drop k) && cb (ps ++ [(xn,yn)]).reverse xs ys)) (fun i _=>k0 - (intOf i).toNat)
  case atStart=>exact ⟨0,Nat.zero_le _,rfl,Below.refl _ _,by simpa using HM.o⟩
  case round=>
   exact pm17
 |go_ret
  exact ⟨aA HE.o.symm,f9.o⟩):G:=h
theorem pm88(h:G:=by
 have pB:=ab hE
 have pp156c:=();exact pm156):G:=h
theorem pm89(h:G:=by
 go_wp2_with (first | (go_at_call 187;refine (qt _ _ _).mono ?_;rintro e w' ⟨rfl,rfl⟩) | (go_at_call 239;refine HC.o.mono ?_;rintro e w' ⟨rfl,hw⟩))
 go_ret
 exact ⟨rfl,(ct.alloc (by simp) _).trans ((ow hw).mono (by simp;omega))⟩):G:=h
theorem pm90(h:G:=by
 exact pm99):G:=h
theorem pm91(h:G:=by
 go_wp2
 refine aM (by kernel_rfl) (by kernel_rfl) ?_
 repeat (go_big_quiet_step (fail))
 refine wpQuiet_nil ?_
 rintro _ ⟨x',rfl⟩
 first
 |clear pp91a
  clear f0 f1
  have bZ:=ab (HB.o.trans (x'.below.mono HB.o.size))
  obtain ⟨bb,cv⟩:=ao (Op.bytesLess x y)
  rw[<-cv]
  have HT2:Hd (R=(bb && dh (l.drop (k+1)))):=ab (by rw[cv];exact HT.o)
  clear cv HT
  cases bb
  ·have HE:=ab (show R=false by rw[HT2.o];simp)
   go_wp2
   go_ret
   exact ⟨aA HE.o.symm,bZ.o⟩
  ·go_wp2
   go_roundw
   case rel=>exact ⟨k+1,.inr hlt,by go_num,bZ.o,by rw[HT2.o];simp⟩
   case measure=>simp[intOf];omega
 |clear pp91b
  clear f0 f1 f2 f3
  go_wp2
  go_ret
  exact ⟨aA HE.o.symm,bW.o.trans (x'.below.mono bW.o.size)⟩
 |clear pp91c
  clear f0 f1 f2 f3
  go_wp2
  go_roundw
  case rel=>exact ⟨j,by omega,by go_num,kF.o.trans (x'.below.mono kF.o.size),HT.o⟩
  case measure=>simp[intOf];try omega
 |clear f0 f1 f2 f3 f4 f5
  go_wp2
  go_ret
  exact ⟨aA (Y3.o (by rw[HX.o.1,HX.o.2];intro h;injection h with _ h _;exact hn h)).symm,HB.o.trans (x'.below.mono HB.o.size)⟩):G:=h
theorem pm92(h:G:=by
 have Ny:=bC o6 ej
 have Fp:Marks kJ.heap.size ny ds:=uA.move (fun D hD hd=>(o6.block D (bl hd)).trans hd)
 have sx:Kp M kJ ny:=aZ.trans (Kp.below o6)
 have vh:=dw.later o6
 have Nz:=DL oV
 have Ym:∀ b,M b->b<kJ.heap.size:=fun b hb=>by rw[HM.o]at hb;have:=kz.o.1;have:=kz.o.2.1;omega
 have rl:=pI Qc sx (VO.tr o6) Nz Ym aZ.size
 have Dc:=ce Nx Ny Fp vh
 have NA:=bx Bw pN oA
 have qN:=bx nZ Yl sU
 have Ub:=ab oV
 have Yn:=bC o6 VP
 have iB:=ab Yn
 clear DJ ej uA aZ dw Bw pN oA nZ Yl sU oV o6 Qc Nx Ny Fp sx vh Nz Ym VO VP Yn
 first
 |clear pp92
  have hix:(Instr.index 83 (.agg #[(.func (.func 47) #[.pointer (some ⟨K0+1+1+1,0,none⟩)] #[]),(.func (.func 48) #[.pointer (some ⟨K0+1+1+1,0,none⟩)] #[])]) (.int .i64 0)).run Tryz.prog wr=.ok (.func (.func 47) #[.pointer (some ⟨K0+1+1+1,0,none⟩)] #[]) wr:=by kernel_rfl
  gi_wp2_with fail
  clear e0 hix
  rw[<-Ub.o]
  refine kl [53,54,55,56,57,14,15,58,59,60,61,62,70] 53 (fun us ds wq=>∃j:Nat,j<=n1/\us 53=.int .i64 j/\Marks kJ.heap.size wq ds/\Kp M ny wq/\wq.heap[aB+1]?=some (.cells #[.int .i64 0] 30 (0,0))/\wq.heap[aB]?=some (.cells #[.int .i64 0] 3 (0,0)) ∧
   ∃(kj:Bd) (KM KN:Nat),KnV (fun b=>¬M b) goodF goodT wq (K0+1+1+1) (K0+1) (K0+1+1) KM KN kj/\KM<=nF+j * 400/\KN<=nT+j * 160000/\bU kj=true/\fw cm 0 k l=fw cm j kj (l.drop j)) (fun v=>n1 - (intOf v).toNat) (by simp) (by decide) ?start3 ?round3
  case start3=>exact ⟨0,Nat.zero_le _,rfl,Dc.o.2.2.1,Kp.refl _,Dc.o.1,Dc.o.2.1,k,nF,nT,Dc.o.2.2.2,by omega,by omega,NA.o.1,by simp⟩
  case round3=>
   have pp146:=();exact pm146
 |have hix:(Instr.index 83 (.agg #[(.func (.func 47) #[.pointer (some ⟨K0+1+1+1,0,none⟩)] #[]),(.func (.func 48) #[.pointer (some ⟨K0+1+1+1,0,none⟩)] #[])]) (.int .i64 1)).run Tryz.prog wr=.ok (.func (.func 48) #[.pointer (some ⟨K0+1+1+1,0,none⟩)] #[]) wr:=by kernel_rfl
  gi_wp2_with fail
  clear e0 hix
  rw[<-Ub.o]
  refine kl [53,54,55,56,57,14,15,58,59,60,61,62,70] 53 (fun us ds wq=>∃j:Nat,j<=n1/\us 53=.int .i64 j/\Marks kJ.heap.size wq ds/\Kp M ny wq/\wq.heap[aB+1]?=some (.cells #[.int .i64 0] 30 (0,0))/\wq.heap[aB]?=some (.cells #[.int .i64 0] 3 (0,0)) ∧
   ∃(kj:Bd) (KM KN:Nat),KnV (fun b=>¬M b) goodF goodT wq (K0+1+1+1) (K0+1) (K0+1+1) KM KN kj/\KM<=nF+j * 400/\KN<=nT+j * 160000/\bU kj=true/\fw gP 0 k l=fw gP j kj (l.drop j)) (fun v=>n1 - (intOf v).toNat) (by simp) (by decide) ?start3 ?round3
  case start3=>exact ⟨0,Nat.zero_le _,rfl,Dc.o.2.2.1,Kp.refl _,Dc.o.1,Dc.o.2.1,k,nF,nT,Dc.o.2.2.2,by omega,by omega,NA.o.1,by simp⟩
  case round3=>
   exact pm146):G:=h
theorem pm93(h:G:=by
 rw[vW.o]at e0 e1 e2 f0 f1 f2
 exact pm167):G:=h
theorem pm94(h:G:=by
 have c0:W.cell? ⟨X,0,none⟩=some (.int .u8 q.o):=ai vN 0
 have c1:W.cell? ⟨X,1,none⟩=some (.string q.n):=ai vN 1
 have c2:W.cell? ⟨X,2,none⟩=some (.slice q.a q.l q.c):=ai vN 2
 have c3:W.cell? ⟨X,3,none⟩=some (.slice q.b q.m q.e):=ai vN 3
 first
 |clear pp94a
  have LU:∀ b,M b->b<W.heap.size:=fun b hb=>Nat.lt_of_lt_of_le (hM b hb) hk.size
  have CC:=JO f aD M B l J (jB f) [] W q LU hJ (fun pre vs x W1 h1 h2 h3 h4=>by
   obtain ⟨fn,tmps,assign,body,hy,hR⟩:=hY pre vs x W1 h1 h2 h3 h4
   refine ⟨fn,tmps,assign,body,hy,hR.mono ?_⟩
   rintro e W' (h | ⟨h,_⟩)
   ·exact h
   ·exact h.elim) (hq.kp hk) (by simp) hj
  have HC:=ab CC
  clear CC hY hJ hj hX vN hq LU
  unfold FQ.val at HC
  go_enter Tryz.func150,Tryz.ntmps150
  go_wp2_with (go_at_call 151;refine HC.o.mono ?_;rintro e W2 ⟨rfl,uC,gX⟩)
  exact ⟨rfl,.tuple #[],by simp[results,Tryz.results150,go_sem],⟨_,rfl⟩,.inl ⟨by simpa using uC,gX⟩⟩
 |clear pp94b
  have LU:∀ b,M b->b<W.heap.size:=fun b hb=>Nat.lt_of_lt_of_le (hM b hb) hk.size
  have hB:Below W.heap.size W (W.alloc (.map #[] 0)):=ct
  have CC:=Ab f aD M B l J (aO [] f) [] W (W.alloc (.map #[] 0)) q W.heap.size 0 [] LU (Nat.le_refl _) hJ (fun pre vs x W1 h1 h2 h3 h4=>by
   obtain ⟨fn,tmps,assign,body,hy,hR⟩:=hY pre vs x W1 h1 h2 h3 h4
   refine ⟨fn,tmps,assign,body,hy,hR.mono ?_⟩
   rintro e W' (h | ⟨h,_⟩)
   ·exact h
   ·exact h.elim) (hq.kp hk) (Kp.below hB) (BoundW.made W) (by omega) (by simp;omega) (by simp) (hJ _ _ _ (Nw.below hB) hj)
  have HC:=ab CC
  clear CC hY hJ hj hX vN hq LU hB
  unfold FQ.val at HC
  go_enter Tryz.func148,Tryz.ntmps148
  go_wp2_with (go_at_call 149;refine HC.o.mono ?_;rintro e W2 ⟨rfl,uC,gX,_,_⟩)
  exact ⟨rfl,.tuple #[],by simp[results,Tryz.results148,go_sem],⟨_,rfl⟩,.inl ⟨by simpa using uC,gX⟩⟩
 |have e0:W.cell? ⟨Y,0,none⟩=some (.int .u8 r.o):=ai Yh 0
  have e1:W.cell? ⟨Y,1,none⟩=some (.string r.n):=ai Yh 1
  have e2:W.cell? ⟨Y,2,none⟩=some (.slice r.a r.l r.c):=ai Yh 2
  have e3:W.cell? ⟨Y,3,none⟩=some (.slice r.b r.m r.e):=ai Yh 3
  have LU:∀ b,M b->b<W.heap.size:=fun b hb=>Nat.lt_of_lt_of_le (hM b hb) hk.size
  have CC:=G0 s f aD [] (by simpa using yd) M B l J Jx (bE [] s f) [] W ⟨q,r,none,0,0⟩ LU ⟨hl,Vj⟩ hJ Xy (fun pre vs x W1 h1 h2 h3 h4=>by
   obtain ⟨fn,tmps,assign,body,hy,hR⟩:=hY pre vs x W1 h1 h2 h3 h4
   refine ⟨fn,tmps,assign,body,hy,hR.mono ?_⟩
   rintro e W' (h | ⟨_,h⟩)
   ·exact .inl h
   ·exact .inr h) (hq.kp hk) (hr.kp hk) ⟨⟨none,0,rfl,Nat.le_refl _,.inl ⟨rfl,rfl,rfl⟩⟩,fun b h=>by simp[Value.ownBlock]at h⟩ (by simp) hj
  have HSp:=ab (show ∀ (e:Ending) (W2:World),((e=.returned (.bool true)/\J ([] ++ bE [].reverse s f) W2/\Kp M W W2)\/(e=.returned (.bool false)/\∃Ck,Ck <+: bE [] s f/\Jx Ck W2/\KpFrom M (l+1) W W2))->∃bb:Bool,e=.returned (.bool bb)/\((J (bE [] s f) W2/\Kp M W W2)\/(True/\∃pre,pre <+: bE [] s f/\Jx pre W2/\KpFrom M (l+1) W W2)) by
   rintro e W2 (⟨rfl,h,h'⟩ | ⟨rfl,h⟩)
   ·exact ⟨true,rfl,.inl ⟨by simpa using h,h'⟩⟩
   ·exact ⟨false,rfl,.inr ⟨trivial,h⟩⟩)
  have HC:=ab CC
  clear CC hY hJ Xy hj hX vN hY0 Yh hq hr LU
  simp only[PlQ.val,PlQ.cells]at HC
  go_enter Tryz.func102,Tryz.ntmps102
  go_wp2_with (go_at_call 103;refine HC.o.mono ?_;rintro e W2 h2;obtain ⟨bb,rfl,h3⟩:=HSp.o e W2 h2;have H2:=ab h3;clear h2 h3)
  exact ⟨rfl,.tuple #[],by simp[results,Tryz.results102,go_sem],⟨_,rfl⟩,H2.o⟩):G:=h
end Go.Proofs.YtokemihbkeddoaaGreatDoor
