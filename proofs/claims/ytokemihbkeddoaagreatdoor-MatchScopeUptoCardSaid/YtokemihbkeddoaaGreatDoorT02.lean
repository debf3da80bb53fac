/-
  Runs of tactics that several proofs share.
-/
import Derived.ArgAppend
import Derived.Below
import Derived.BigQuiet
import Derived.BigRegionIn
import Derived.Carry
import Derived.ChangeMaps5
import Derived.ChangeSame
import Derived.ChangeStays
import Derived.ControlIn
import Derived.Deep.AppendLies
import Derived.Deep.Cut
import Derived.Deep.DeepCutAuto
import Derived.Deep.DeepHandedRow
import Derived.Deep.DeepWitnessRowRef
import Derived.Deep.Fields
import Derived.Deep.LoopGhost
import Derived.Deep.QuietTactic
import Derived.Deep.Slices
import Derived.Deep.Upon
import Derived.Defers
import Derived.Ground.GgzProg
import Derived.Ground.SlgmProg
import Derived.JoinedCond
import Derived.Laws.World
import Derived.Lib.Hide
import Derived.Lib.ItoaMem
import Derived.Lib.ItoaNum
import Derived.Lib.LaidTab
import Derived.Lib.LaidU8
import Derived.Lib.SliceRun
import Derived.Lib.SmallJoins
import Derived.LoopIn
import Derived.Maps.OwnIn
import Derived.Maps.OwnSet
import Derived.OpenShut
import Derived.OrdersHeld
import Derived.OrdersIn
import Derived.OwnWalkIn
import Derived.ProofKit
import Derived.RangeFuncBound
import Derived.RangeFuncBox
import Derived.RangeFuncLeaves
import Derived.RangeFuncNested
import Derived.RangeFuncRecord
import Derived.RegionIn
import Derived.Shelf.Abstract
import Derived.Shelf.AbstractIn
import Derived.Shelf.SlIter.Nil
import Derived.Shelf.SortM.Plain
import Derived.Shelf.SortM.SortNone
import Derived.ShutString
import Derived.SizedLaws
import Derived.SliceStrings
import Derived.Sort.KeysCollected
import Derived.Sort.Walk0
import Derived.Stop.RegionWithIn
import Derived.TacticsIn
import Derived.TacticsInMore
import Derived.WalkKit
import Derived.WalkLawsBesides
import Derived.WalkMore
import Derived.WalkSpells
namespace Go.Proofs.YtokemihbkeddoaaGreatDoor
open Go Go.RowKit Lib
set_option maxRecDepth 100000
variable {G:Prop}
theorem pm190(h:G:=by
 intro t
 induction t using Tm.ind with
 | h v n a ih=>
 first
 |clear pp190a
  intro aD ok w tq Mh cw hq
  obtain ⟨qv,qn,qa,ql,qc⟩:=tq
  obtain ⟨s,hs,bD⟩:=aP.1 hq
  have pp35f:=();exact pm35
 |clear pp190b
  intro ne c9 im I5 W nF nT k tq uq dw oA gh nV huv
  obtain ⟨v',n',a'⟩:=im
  obtain ⟨s1,h1,ib⟩:=aP.1 nV
  obtain ⟨s2,h2,Cm⟩:=aP.1 huv
  obtain ⟨tv,tn,ta,tl,tc⟩:=tq
  obtain ⟨uv,un,ua,ul,uc⟩:=uq
  have pp59d:=();exact pm59
 |clear pp190c
  intro ne ok w q hb hq
  have pp85a:=();exact pm85
 |clear pp190d
  intro hn
  simp only[iS,Bool.and_eq_true,decide_eq_true_eq]at hn
  unfold oo
  simp only[nodesT]
  split
  ·have:=hk n hn.1;omega
  ·have h2:dC k a<=ac a * 1000:=by
    have ki:=eB.1 hn.2
    clear hn
    induction a with
    | nil=>simp[dC]
    | cons u a L2=>
     have pp208:=();exact pm208
   omega
 |clear pp190e
  intro ne ok w q hb hq
  have pp85b:=();exact pm85
 |clear pp190f
  intro hn
  simp only[iS,Bool.and_eq_true,decide_eq_true_eq]at hn
  unfold jy
  simp only[nodesT]
  split
  ·have h1:=hk n hn.1
   have h2:=lm (termOf k n)
   have h3:=ei (aI (termOf k n))
   have h4:=List.length_filter_le dy (de (aI (termOf k n)))
   omega
  ·have h2:(dm k a).length<=ac a * 1000:=by
    have ki:=eB.1 hn.2
    clear hn
    induction a with
    | nil=>simp[dm]
    | cons u a L2=>
     exact pm208
   omega
 |clear pp190g
  intro ne yd ok w q hb hq
  simp only[nodesT]at yd
  exact pm85
 |intro h
  unfold mn
  by_cases hv:(v && n == x)=true
  ·rw[if_pos hv];rfl
  ·rw[if_neg hv]
   simp only[BJ,hv,Bool.false_eq_true,↓reduceIte,Nat.zero_add]at h
   clear hv
   generalize 0=i
   induction a generalizing i with
   | nil=>simp[eW]at h
   | cons u a L2=>
    simp only[eW]at h
    unfold dX
    cases hp:mn x u with
    | some p=>rfl
    | none=>
     simp only
     refine L2 (fun t ht=>ih t (List.mem_cons_of_mem _ ht)) ?_ _
     intro h0
     have:=ih u (List.mem_cons_self ..) (by omega)
     rw[hp]at this;cases this):G:=h
theorem pm191(h:G:=by
 refine wpOpIn_step ho (fun K' JF=>?_)
 rw[if_pos hw]
 refine ⟨fun f _=>pU f,?_⟩
 rw[hr,Oper.semAt_none,ob]
 first
 |clear pp191a
  exact JF _ _ (hK v dx w' (fun h0=>by rw[hd]at h0;cases h0) hG JH gR)
 |clear pp191b
  exact JF _ _ (hK undef dx w' (fun _=>rfl) hG JH gR)
 |refine ⟨fun h0=>(by rw[oc]at h0;cases h0),hc.mono ?_⟩
  rintro e w' ⟨v,rfl,dx,hG,JH,gR⟩
  exact JF _ _ (hK v dx w' (fun h0=>by rw[hd]at h0;cases h0) hG JH gR)):G:=h
theorem pm192(h:G:=by
 have cA:((a.map (e_ f)).take k).length=k:=by rw[List.length_take];have:=cY.o;simp;omega
 have jc:(a.map (e_ f)).take k=(a.map (e_ f)):=List.take_of_length_le (by have:=cY.o;simp;omega)
 first
 |clear pp192
  exact pm21
 |have pp21b:=();exact pm21):G:=h
theorem pm193(h:G:=by
 exact pm290):G:=h
theorem pm194(h:G:=by
 obtain ⟨hl,h | ⟨g',cap,cur,hv,_,hg,hn,_,_,hx⟩⟩:=h
 ·obtain ⟨h,_⟩:=h;injection h with h;cases h
 first
 |clear pp194a
  ·have lH:n=l.length:=by simp[qL]at hl;omega
   have pp236:=();exact pm236
 |clear pp194b
  ·have lH:n=ps.length:=by rw[fH]at hl;omega
   exact pm236
 |·injection hv with _ _ hc
   omega):G:=h
theorem pm195(h:G:=by
 simp only[eF,en,Bool.and_true,aU]at hw hq1 hd
 rw[na hq]
 by_cases h1:(n == x || !(aO [] g).contains x)=true
 first
 |clear pp195a
  ·rw[if_pos h1];exact ⟨lG,jC,rfl,rfl⟩
  ·rw[if_neg h1]
   by_cases h2:(aI (ap y)).contains n=true
   ·rw[if_pos h2]
    generalize dq (aO [] g ++ aI (ap y))=m
    have pp248c:=();exact pm248
   ·rw[if_neg h2]
    obtain ⟨b1,b2,b3,b4⟩:=f8 k g x y hw.2 hq1.2 (by omega)
    simp only[iF,eF,qone,en,depthF,aU,nodesF,ah,dP,List.map_nil,eb,b1,b2,b3,b4,hq]
    simp
 |clear pp195b
  ·rw[if_pos h1];exact Nat.le_mul_of_pos_right _ hu
  ·rw[if_neg h1]
   by_cases h2:(aI u).contains n=true
   ·rw[if_pos h2]
    generalize dq (aO [] g ++ aI u)=m
    have pp248d:=();exact pm248
   ·rw[if_neg h2]
    have b1:=sd k g x u hw.2 hq1.2 (by omega)
    simp only[nodesF,ah,dP,List.map_nil,ac,Nat.add_mul]
    omega
 |·rw[if_pos h1];exact ⟨lG,jC⟩
  ·rw[if_neg h1]
   by_cases h2:(aI u).contains n=true
   ·rw[if_pos h2]
    generalize dq (aO [] g ++ aI u)=m
    exact pm248
   ·rw[if_neg h2]
    obtain ⟨b1,b2⟩:=sB hu k g x hw.2 hq1.2 (by omega)
    simp[iF,eF,qone,en,dP,eb,b1,b2]):G:=h
theorem pm196(h:G:=by
 go_enter Tryz.func246,Tryz.ntmps246
 first
 |clear pp196a
  go_wp2_with (go_at_call 244;refine HC.o.mono ?_;rintro e w4 ⟨⟨rfl,_⟩ | ⟨k,x,hk,_⟩,aN⟩;rotate_left;(exact absurd hk (by simp));have H4:=ab aN;clear aN)
  go_ret
  exact ⟨⟨_,rfl,OwnS.nil _ _⟩,Kp.below H4.o⟩
 |clear pp196b
  go_wp2_with (go_at_call 244;refine HC.o.mono ?_;rintro e w4 ⟨rfl,aN⟩;have H4:=ab aN;clear aN)
  go_ret
  exact ⟨⟨_,rfl,by rw[HE.o];exact HR.o.later H4.o⟩,Kp.below H4.o⟩
 |go_upto_region 2 with (go_at_call 244;refine HC.o.mono ?_;rintro e w4 ⟨⟨k,x,hk,rfl,hkx,fP⟩,aN⟩;have dw:k<n:=(by rw[HN.o];exact (List.getElem?_eq_some_iff.1 hk).1);have H4:=ce aN hk hkx fP;have O8:((k:Int) == -1)=false:=beq_eq_false_iff_ne.2 (by omega);have FU:IntKind.i64.wrap ((k:Int)+1)=((k+1:Nat):Int):=(by rw[IntWalk.i64_in _ (by omega)];simp);clear aN hkx fP hk)
  have cw:=(((DelR.start (keep:=fun x=>!pr x) HB.o.1 HB.o.2.1 HB.o.2.2 (by rw[<-HN.o];exact dw) (fun x hx=>by rw[H4.o.2.2.2 x hx];rfl)).drop (by rw[<-HN.o];exact dw) (by
   obtain ⟨bc,he⟩:=List.getElem?_eq_some_iff.1 H4.o.2.1
   rw[he,H4.o.2.2.1];rfl)).later H4.o.1)
  have Vw:=ab cw
  clear cw
  go_wp2
  clear O8 FU
  go_loopw [5,6,7] (fun s5 s6 _ wr=>∃i j:Nat,s5=.int .i64 i/\s6=.int .i64 j/\i<j/\j<=n/\DelR (fun x=>!pr x) l b cap i j wr/\Kp (fun c=>lo<=c/\some b=some c) w wr) (fun _ s6 _ _=>n - (intOf s6).toNat)
  case atStart=>exact ⟨k,k+1,rfl,by go_num,by omega,by omega,Vw.o,Kp.below H4.o.1⟩
  case round=>
   obtain ⟨i,j,rfl,rfl,Ve,Vu,hD,hK⟩:=hrel
   by_cases hlt:j<n
   ·have j5:=bR HN.o hlt
    have CB:=HP.o l[j] wr (List.getElem_mem j5) hK
    have RO:=fun W h=>DelR.keep (W:=W) (keep:=fun x=>!pr x) (l:=l) (b:=b) (cap:=cap) (i:=i) h j5 (by rw[<-HN.o];exact hc) (by omega)
    have RP:=fun W=>DelR.drop (W:=W) (keep:=fun x=>!pr x) (l:=l) (b:=b) (cap:=cap) (i:=i) (j:=j)
    obtain ⟨cu,g1,g2,g3,g4,g5⟩:=hD
    have cj:wr.cell? ⟨b,j,none⟩=some (.string ⟨l[j].toArray⟩):=(aL g1 j).trans (g5 j j5 (Nat.le_refl _))
    have HD:=ab (show DelR (fun x=>!pr x) l b cap i j wr from ⟨cu,g1,g2,g3,g4,g5⟩)
    have hlz:(j:Int)<(n:Int):=by omega
    have hwj:IntKind.i64.wrap ((j:Int)+1)=((j+1:Nat):Int):=(by rw[IntWalk.i64_in _ (by omega)];simp)
    have hwi:IntKind.i64.wrap ((i:Int)+1)=((i+1:Nat):Int):=(by rw[IntWalk.i64_in _ (by omega)];simp)
    have HK:=ab hK
    have HKD:=aF RO RP
    obtain ⟨u,hu⟩:=ao (l[j])
    rw[<-hu]at CB cj
    have HU:=ab hu
    clear RO RP g1 g2 g3 g4 g5 hK hu
    cases hq:pr u with
    | true=>
     rw[hq]at CB
     obtain ⟨wD,HQ⟩:=aS CB hq
     clear CB hq
     go_wp2_with (go_at_fn g;refine wD.o.mono ?_;rintro e w5 ⟨rfl,a_⟩;have H5:=ab a_;clear a_)
     go_roundw
     case rel=>exact ⟨i,j+1,rfl,by go_num,by omega,by omega,(HKD.o.2 wr HD.o j5 (by rw[<-HU.o,HQ.o];rfl)).later H5.o,HK.o.trans (Kp.below H5.o)⟩
     case measure=>simp[intOf];omega
    | false=>
     rw[hq]at CB
     obtain ⟨wD,HQ⟩:=aS CB hq
     clear CB hq
     go_wp2_with (go_at_fn g;refine wD.o.mono ?_;rintro e w5 ⟨rfl,a_⟩;have hD5:=HD.o.later a_;have H5:=aF a_ hD5;obtain ⟨cu,g1,g2,g3,g4,g5⟩:=hD5;have ci:w5.cell? ⟨b,i,none⟩=some cu[i]!:=((aL g1 i).trans (by rw[getElem!_pos cu i (by omega)];exact Array.getElem?_eq_getElem (by omega)));have fi:=ae g1 i;clear a_ g1 g2 g3 g4 g5)
     go_roundw
     case rel=>
      refine ⟨i+1,j+1,by go_num,by go_num,by omega,by omega,?_,(HK.o.trans (Kp.below H5.o.1)).trans ⟨rfl,rfl,rfl,by simp,fun c _ hc=>Below.heap_setCell _ _ _ _ (by intro e;obtain rfl:c=b:=e;exact hc ⟨hlo,rfl⟩)⟩⟩
      have:=HKD.o.1 w5 H5.o.2 (by rw[<-HU.o,HQ.o];rfl)
      rw[<-HU.o]at this
      exact this
     case measure=>simp[intOf];omega
   ·obtain rfl:j=n:=by omega
    have hcl:∀ ty,(Builtin.clear_ #[66] ty #[.slice (some ⟨b,i,none⟩) (j - i) (cap - i)]).run Tryz.prog wr=.ok (.tuple #[]) (wr.setCells b i (List.replicate (j - i) (.string ⟨#[]⟩))):=fun ty=>by
     obtain ⟨cu,g1,g2,_⟩:=hD
     refine Lib.run_clear_slice wr _ _ ty _ Tryz.underlying66 (fun W=>Tryz.zeroValue9 W) rfl rfl b i _ _ (by omega) (fun t ht=>?_) (fun t ht=>ae g1 _)
     rw[(aL g1 (i+t)).trans (Array.getElem?_eq_getElem (by omega))];rfl
    obtain ⟨HD,HK⟩:=aS hD hK
    have wT:i<=j:=by omega
    clear hD hK
    go_upto_region 11 with fail
    go_wp2_with fail
    go_ret
    have hD:=HD.o
    rw[HN.o]at hD
    refine ⟨⟨_,rfl,hD.done hlo (by rw[<-HN.o];exact hc) (by rw[<-HN.o];omega) qP.o.1 _⟩,?_⟩
    exact HK.o.trans ((uV b _ i wr).mono fun c _ e=>⟨by rw[e];exact hlo,by rw[e]⟩)):G:=h
theorem pm197(h:G:=by
 obtain ⟨qv,qn,qa,ql,qc⟩:=q
 obtain ⟨s,hs,bD⟩:=aP.1 hq
 first
 |clear pp197a
  have pp35a:=();exact pm35
 |clear pp197b
  have pp35b:=();exact pm35
 |clear pp197c
  have pp35c:=();exact pm35
 |clear pp197d
  have pp35e:=();exact pm35
 |clear pp197e
  have pp35h:=();exact pm35
 |exact pm35):G:=h
theorem pm198(h:G:=by
 have HB:=ab az
 clear CB az fP hp hq c0 c1 hcs gh bc
 go_wp2_with (go_at_call 228;refine HC.o.mono ?_;rintro e w4 ⟨rfl,aN⟩;have H4:=ab aN;clear aN)
 first
 |clear pp198
  go_ret
  exact ⟨⟨_,rfl,by rw[HE.o];simp,by omega,by omega⟩,HB.o.tr H4.o⟩
 |go_roundw
  case rel=>exact ⟨k+1,by omega,by go_num,HB.o.tr H4.o,GN.o⟩
  case measure=>simp[intOf];omega):G:=h
theorem pm199(h:G:=by
 have HB:=ab az
 clear CB az fP hq c0 c1 c2 hx hok
 go_wp2_with (go_at_call 193;refine HC.o.mono ?_;rintro e w4 ⟨rfl,aN⟩;have H4:=ab aN;clear aN)
 first
 |clear pp199
  go_ret
  exact ⟨⟨_,rfl,by rw[HE.o];simp⟩,HB.o.tr H4.o⟩
 |go_roundw
  case rel=>exact ⟨k+1,by omega,by go_num,HB.o.tr H4.o,GN.o⟩
  case measure=>simp[intOf];omega):G:=h
theorem pm200(h:G:=by
 rw[dH.o,List.take_append_getElem da]at h4
 exact ⟨k+1,by omega,by go_num,h4,((bW.o.trans (bY.mono Mx)).alloc (by omega) _).grown aq (by simp;omega) (fun c hc=>(aC.lt c hc).1)⟩):G:=h
theorem pm201(h:G:=by
 simp only[dif_pos vJ,Nat.zero_add]
 have d0:=ho.cells (g:=g) rfl _ _ c0
 have d1:=ho.cells (g:=g) rfl _ _ c1
 have d2:=ho.cells (g:=g) rfl _ _ c2
 have d3:=ho.cells (g:=g) rfl _ _ c3
 first
 |clear pp201
  have d4:=ho.cells (g:=g) rfl _ _ c4
  rw[mq]at d0 d1 d2 d3 d4
  rw[(ht j vJ hj).1]at d0
  exact ⟨d0,d1,d2,d3,d4⟩
 |rw[mq]at d0 d1 d2 d3
  rw[(ht j vJ hj).1]at d0
  exact ⟨d0,d1,d2,d3⟩):G:=h
theorem pm202(h:G:=by
 obtain ⟨d0,d1,d2,d3⟩:=lg az c0 c1 c2 c3
 have hW:Below wr.heap.size wr (wr.alloc (.cells #[.int .u8 u.o,.string u.n,.slice u.a u.l u.c,.slice u.b u.m u.e] 36)):=ct
 first
 |clear pp202
  have xF:(k:Int)<(k0:Int):=by omega
  have C2:=nD x ok _ u hf ((hu.later az).later hW)
  unfold FQ.val at C2
  have SR:=fun r=>rP (x:=x) xs[k] r
  have pU:=hf.1
  obtain ⟨T,hT⟩:=ao (ko x xs[k])
  rw[<-hT]at ht C2 SR
  obtain ⟨wD,HT⟩:=aS C2 ht
  have HB:=ab (az.trans (hW.mono az.size))
  have dH:=aF SR pU
  clear az hW hu hf nD ht c0 c1 c2 c3 C2 SR pU hT
  cases T with
  | none=>
   go_wp2_with (go_at_call 165;refine wD.o.mono ?_;rintro e w4 ⟨⟨v1,v2,rfl,IS,iW⟩,aN⟩;obtain ⟨a3,c3,rfl⟩:=iW.slice;simp only[Option.map,Option.getD,List.length_nil]at IS iW ⊢;have em:=ab (HB.o.trans (aN.mono HB.o.size));clear aN IS iW)
   go_roundw
   case rel=>exact ⟨k+1,by omega,by go_num,em.o,HT.o⟩
   case measure=>simp[intOf];omega
  | some r=>
   obtain ⟨p,q⟩:=r
   have hok:=dH.o.1 (p,q) rfl
   have pU:=dH.o.2
   obtain ⟨q0,Gm⟩:=ao q.length
   have nQ:0<q0:=by rw[Gm];exact List.length_pos_iff.2 hok.1
   have L7:(0:Int)<(q0:Int):=by omega
   have z7:p.length<=2000000:=by have:=hok.2.1;simp only at this;omega
   obtain ⟨zau,HQ0⟩:=aS z7 Gm
   clear Gm hok dH z7 pU
   go_wp2_with (first | (go_at_call 165;refine wD.o.mono ?_;rintro e w4 ⟨⟨v1,v2,rfl,IS,iW⟩,aN⟩;obtain ⟨a3,c3,rfl⟩:=iW.slice;simp only[Option.map,Option.getD]at IS iW ⊢;rw[<-HQ0.o];have GG:=ab IS;have Et:=ab iW;have em:=ab (HB.o.trans (aN.mono HB.o.size));clear aN IS iW) | (at_builtin;refine qM rfl _ _ rfl w4.heap.size k (aj rfl) p _ rfl rfl (GG.o.later ct) zau.o ?_;intro v5 w5 hv5 aq;have HG:=aF hv5 aq;clear hv5 aq))
   have HE:=ab (show R=some (k :: p,q) by rw[HT.o])
   have a_:Below w4.heap.size w4 w5:=by
    have hg:=HG.o.2
    have hs:=hg.size
    exact ⟨hg.os,hg.tape,hg.output,by simp at hs;omega,fun b hb=>(hg.block b (by simp;omega) (fun h=>by injection h with h;omega)).trans (Below.heap_alloc _ _ _ hb)⟩
   refine bodyPost_ret (v:=.tuple #[v5,.slice a3 q0 c3]) (by simp[results,Tryz.results165,go_sem]) rfl ⟨⟨_,_,rfl,?_,?_⟩,em.o.trans (a_.mono em.o.size)⟩
   ·rw[HE.o];exact HG.o.1
   ·rw[HE.o,HQ0.o];exact Et.o.later a_
 |have CC:=ab (eM.o s[k] (List.getElem_mem bc) ok _ u ((hu.later az).later hW))
  obtain ⟨N,hN⟩:=ao (A+iY x (s.take k))
  obtain ⟨M,hM⟩:=ao (gF x s[k])
  have zcK:M<=ah s:=by rw[hM];exact Nat.le_trans (nn x _) (iA (List.getElem_mem bc))
  have zcL:N<=10000000:=by have:=sr x (s.take k);have:=cg s k;omega
  rw[<-hM]at CC gW
  rw[<-hN]
  have HS:=ab (show A+iY x (s.take (k+1))=N+M by omega)
  obtain ⟨bZ,HW⟩:=aS az hW
  clear hu az hW gW hN hM c0 c1 c2 c3 hb1 bA
  go_wp2_with (go_at_call 97;refine CC.o.mono ?_;rintro e w2 ⟨rfl,bA⟩;have bp:=ab bA;clear bA)
  go_roundw
  case rel=>exact ⟨k+1,by omega,by go_num,bZ.o.trans ((HW.o.trans (bp.o.mono HW.o.size)).mono bZ.o.size),by rw[HS.o];simp⟩
  case measure=>simp[intOf];omega):G:=h
theorem pm203(h:G:=by
 have e:(ar a).filter (fun x=>!([]:List Str).contains x)=ar a:=List.filter_eq_self.2 (fun x _=>by simp)
 first
 |clear pp203a
  simp only[dbF,aO,e,List.flatMap_append]
  by_cases hq:bn o=true
  ·rw[if_pos hq,if_pos hq]
   simp only[Nj,sD σ a h.1,yG s _ _ h.2]
   rw[Fb,lp]
  ·rw[if_neg hq,if_neg hq]
   simp only[Nj,sD σ a h.1,yG s _ _ h.2]
 |clear pp203b
  simp only[gF,aO,e,List.count_append,oS,ih]
  by_cases hq:bn o=true
  ·rw[if_pos hq,lp]
   have hn:fQ n=true:=by have:=hb.1;rw[hq]at this;simpa using this
   have:(x == n)=false:=by
    rw[Bool.eq_false_iff];intro h;rw[beq_iff_eq]at h;rw[h,hn]at hx;cases hx
   rw[List.count_filter (by simp[this])]
  ·rw[if_neg hq]
 |have h1:=yJ σ a h.1
  simp only[dbF,aO,e,nodesF,List.length_append,List.map_append,List.sum_append]
  by_cases hq:bn o=true
  ·rw[if_pos hq,if_pos hq,lp]
   have h2:=yK s (upd σ n (.lvl d)) (d+1) h.2
   have h3:=Jb σ n d (bj [] s)
   simp only[Hg]
   omega
  ·rw[if_neg hq,if_neg hq]
   have h2:=yK s σ d h.2
   simp only[Hg]
   omega):G:=h
theorem pm204(h:G:=by
 intro o' LG a γ w aW K hK
 obtain rfl:o'=o:=Option.some.inj (LG.symm.trans ho)
 first
 |clear pp204a
  obtain ⟨hw,v,dx,w',ob,hG,JH,gR⟩:=h a γ w aW
  have pp191a:=();exact pm191
 |clear pp204b
  obtain ⟨hw,dx,w',ob,hG,JH,gR⟩:=h a γ w aW
  have pp191b:=();exact pm191
 |clear pp204c
  obtain ⟨hw,f,args,ob,hc⟩:=h a γ w aW
  exact pm191
 |obtain ⟨v,h1,rfl⟩:=hd a γ w aW
  have hw:Region.wanted o' (yielded ops a.tmps)=false:=by simp[Region.wanted,hg,yielded,hj,DC,h1];exact K8 hx
  refine wpOpIn_step ho (fun K' JF=>?_)
  rw[if_neg (by rw[hw];exact Bool.false_ne_true)]
  exact ⟨fun _ _=>trivial,JF _ _ (hK undef γ w (fun _=>rfl) Gr.refl (fun _ _ h=>h) (by rcases hp with h | h <;> rw[h] <;> trivial))⟩):G:=h
theorem pm205(h:G:=by
 obtain ⟨b,off,⟨go,gn,ga,gl,gc,gb,gm,ge⟩,rfl,_,hg,c0,c1,c2,c3⟩:=fg.o.get (j:=0) (by simp)
 simp only[Nat.zero_mul,Nat.add_zero,List.getElem_cons_zero]at hg c0 c1 c2 c3
 first
 |clear pp205
  obtain ⟨Cf,Pp,Pq,sV⟩:=Xc.o g (by simp)
  have MB:=wU.o.mem (List.mem_singleton.2 rfl)
  have hpb:PutB w (.cells #[.int .u8 qo,.string ⟨n.toArray⟩,.slice qa 0 qc,.slice (some ⟨b,off,none⟩) 1 qe] 36 (0,0)) (.cells #[.bool zv,.string zn,.slice za zl zc] 43 (0,0)) (.cells #[.int .u8 0,.string ⟨#[]⟩,.slice none 0 0,.slice none 0 0] 36 (0,0)) (.cells #[.int .u8 qo,.string ⟨n.toArray⟩,.slice e6 0 e7,.slice none 0 0] 36 (0,0)) fX:=⟨pK.o,x0,xu,x1,x2⟩
  have CF:=oK g MB (by omega) ok fX ⟨go,gn,ga,gl,gc,gb,gm,ge⟩ (hg.later pK.o)
  simp only[FQ.val]at CF
  obtain ⟨DG,HG⟩:=aS CF hg
  have mi:=eO Cf Pp Pq sV MB
  have HC:=ce c0 c1 c2 c3
  obtain ⟨d0,d1,d2,d3⟩:=lg pK.o c0 c1 c2 c3
  have p3:=ai x0 3
  have HPB:=ab hpb
  clear CF hg Cf Pp Pq sV MB c0 c1 c2 c3 x0 x1 xu x2 hpb
  gi_wp2_with fail
  refine callsIn_wide.2 (DG.o.mono ?_)
  rintro e wf ⟨⟨vf,rfl,hvf⟩,xM⟩
  clear d0 d1 d2 d3 p3
  have EA:=ab (HPB.o.later xM)
  obtain ⟨zaH,OL⟩:=aS xM.size hvf
  clear xM hvf
  have p0:wf.cell? ⟨w.heap.size,0,none⟩=some (.int .u8 qo):=ai EA.o.b0 0
  have p1:wf.cell? ⟨w.heap.size,1,none⟩=some (.string ⟨n.toArray⟩):=ai EA.o.b0 1
  have p2:wf.cell? ⟨w.heap.size,2,none⟩=some (.slice qa 0 qc):=ai EA.o.b0 2
  have p3:wf.cell? ⟨w.heap.size,3,none⟩=some (.slice (some ⟨b,off,none⟩) 1 qe):=ai EA.o.b0 3
  by_cases hn:n=nx
  ·subst hn
   have tP:Hd (RS=.mk qo n [] [g]):=ab (by rw[Ro.o,na n_,if_pos (by simp)])
   have CC:=mI (.mk qo n [] [g]) Vq.o.1 ok wf ⟨qo,⟨n.toArray⟩,qa,0,qc,some ⟨b,off,none⟩,1,qe⟩ (Vq.o.2.later EA.o.below)
   simp only[FQ.val]at CC
   exact pm24
  ·have hnb:(n == nx)=false:=by simpa using hn
   cases uN:(aO [] g).contains nx with
   | false=>
    have tP:Hd (RS=.mk qo n [] [g]):=ab (by rw[Ro.o,na n_,uN];simp)
    have pp249:=();exact pm249
   | true=>
    exact pm249
 |obtain ⟨la,lc,hLv,M_,pX⟩:=HL.o.1
  obtain ⟨l0,sW⟩:=ao L.length
  rw[<-sW]at hLv
  subst hLv
  exact pm183):G:=h
theorem pm206(h:G:=by
 have x6:=kf (v0:=.int .u8 0) (v1:=.string ⟨#[]⟩) (v2:=.slice none 0 0) (v3:=.slice none 0 0) Hw.o
 first
 |clear pp206a
  have k6:=di (W:=w9) (b:=w.heap.size+1+1) (v0:=.int .u8 0) (v1:=.string ⟨#[]⟩) (v2:=.slice none 0 0) (v3:=.slice none 0 0)
  obtain ⟨W6,cM⟩:=ao ((((w9.setCell ⟨w.heap.size+1+1,0,none⟩ (.int .u8 0)).setCell ⟨w.heap.size+1+1,1,none⟩ (.string ⟨#[]⟩)).setCell ⟨w.heap.size+1+1,2,none⟩ (.slice none 0 0)).setCell ⟨w.heap.size+1+1,3,none⟩ (.slice none 0 0))
  rw[<-cM]at x6 k6 ⊢
  clear cM
  obtain ⟨g0,g1,g2,g3,_,_,_,_⟩:=cW x6
  refine bodyPost_ret (v:=.tuple #[FQ.val ⟨0,⟨#[]⟩,none,0,0,none,0,0⟩,.int .i64 3]) (by simp[FQ.val,results,Tryz.results32,go_sem,g0,g1,g2,g3]) rfl ⟨⟨⟨0,⟨#[]⟩,none,0,0,none,0,0⟩,(by rw[HE.o];try rfl),?_⟩,Below.kp1 (H8.o.1.tr H9.o) k6 (by omega)⟩
  rw[HE.o]
  exact kY
 |clear pp206b
  have k6:=di (W:=w6) (b:=w.heap.size+1+1) (v0:=.int .u8 0) (v1:=.string ⟨#[]⟩) (v2:=.slice none 0 0) (v3:=.slice none 0 0)
  obtain ⟨W6,cM⟩:=ao ((((w6.setCell ⟨w.heap.size+1+1,0,none⟩ (.int .u8 0)).setCell ⟨w.heap.size+1+1,1,none⟩ (.string ⟨#[]⟩)).setCell ⟨w.heap.size+1+1,2,none⟩ (.slice none 0 0)).setCell ⟨w.heap.size+1+1,3,none⟩ (.slice none 0 0))
  rw[<-cM]at x6 k6 ⊢
  clear cM
  obtain ⟨g0,g1,g2,g3,_,_,_,_⟩:=cW x6
  refine bodyPost_ret (v:=.tuple #[FQ.val ⟨0,⟨#[]⟩,none,0,0,none,0,0⟩,.int .i64 er]) (by simp[FQ.val,results,Tryz.results32,go_sem,g0,g1,g2,g3]) rfl ⟨⟨⟨0,⟨#[]⟩,none,0,0,none,0,0⟩,(by rw[HE.o];try rfl),?_⟩,Below.kp1 (HB.o.1.tr (H5.o.1.tr H6.o)) k6 (by omega)⟩
  rw[HE.o]
  exact kY
 |have k6:=di (W:=w4) (b:=w.heap.size+1+1) (v0:=.int .u8 0) (v1:=.string ⟨#[]⟩) (v2:=.slice none 0 0) (v3:=.slice none 0 0)
  obtain ⟨W6,cM⟩:=ao ((((w4.setCell ⟨w.heap.size+1+1,0,none⟩ (.int .u8 0)).setCell ⟨w.heap.size+1+1,1,none⟩ (.string ⟨#[]⟩)).setCell ⟨w.heap.size+1+1,2,none⟩ (.slice none 0 0)).setCell ⟨w.heap.size+1+1,3,none⟩ (.slice none 0 0))
  rw[<-cM]at x6 k6 ⊢
  clear cM
  obtain ⟨g0,g1,g2,g3,_,_,_,_⟩:=cW x6
  refine bodyPost_ret (v:=.tuple #[FQ.val ⟨0,⟨#[]⟩,none,0,0,none,0,0⟩,.int .i64 2]) (by simp[FQ.val,results,Tryz.results32,go_sem,g0,g1,g2,g3]) rfl ⟨⟨⟨0,⟨#[]⟩,none,0,0,none,0,0⟩,(by rw[HE.o];try rfl),?_⟩,Below.kp1 (HB.o.1.tr H4.o) k6 (by omega)⟩
  rw[HE.o]
  exact kY):G:=h
theorem pm207(h:G:=by
 have cA:((a.map aK).take k).length=k:=by rw[List.length_take];have:=cY.o;simp;omega
 have jc:(a.map aK).take k=(a.map aK):=List.take_of_length_le (by have:=cY.o;simp;omega)
 first
 |clear pp207
  have pp21e:=();exact pm21
 |have pp21f:=();exact pm21):G:=h
theorem pm208(h:G:=by
 have h1:=ih u (List.mem_cons_self ..) (ki u (List.mem_cons_self ..))
 have h3:=L2 (fun t ht=>ih t (List.mem_cons_of_mem _ ht)) (fun t ht=>ki t (List.mem_cons_of_mem _ ht))
 first
 |clear pp208
  simp only[dC,ac];omega
 |simp only[dm,ac,List.length_append];omega):G:=h
theorem pm209(h:G:=by
 have l2:=(hlk (W1.alloc (.cells #[.int .u8 0,.string ⟨#[]⟩,.slice none 0 0,.slice none 0 0] 36)).drew (Below.heap_alloc _ _ _ (by have:=qZ.fs.lt;omega))).1
 first
 |clear pp209
  obtain ⟨W2,aY⟩:=ao (W1.alloc (.cells #[.int .u8 0,.string ⟨#[]⟩,.slice none 0 0,.slice none 0 0] 36)).drew
  have HE:=ab (show R=(k,71) by rw[HR.o];simp only[hg])
  have bZ:=ab (show Below W.heap.size W W2 by rw[aY];exact hb1.tr nY.drew)
  clear oI hR hp ON OM OO Tv Tw hs hf ib lu hc dw dT iR pN oA hl gh bQ hb1 jS aD ki pU yw pA DI qZ hlk hg nY ej F0 CU aW uU EY Lo x1
  have pp161a:=();exact pm161
 |obtain ⟨W2,aY⟩:=ao (W1.alloc (.cells #[.int .u8 Cs,.string Ct,.slice Cu Cv Cw,.slice Cx Cy Cz] 36)).drew
  have bA:Below W1.heap.size W1 W2:=by rw[aY];exact ct.drew
  have ud:=hb1.tr bA
  have x2:W2.heap[W1.heap.size]?=some (.cells #[.int .u8 Cs,.string Ct,.slice Cu Cv Cw,.slice Cx Cy Cz] 36 (0,0)):=by rw[aY];exact aj rfl
  have xp:=bC bA x1
  obtain ⟨I,hI⟩:=ao (fD ps.reverse [] F)
  have Lm:=HR.o
  rw[hg,<-hI]at Lm
  simp only at Lm
  have CI:=AW ⟨⟨16,⟨n.toArray⟩,sa,n1,sc,sb,m1,se⟩,⟨fo,fn,fa,fl,fc,fb,fm,fe⟩,ca,cl,cc⟩ ps hl gh F aD [] [] (by have:=aD.1;simp;omega) (fun _=>rfl) (.slice none 0 0) (fun b=>¬M b) W2 ⟨fo,fn,fa,fl,fc,fb,fm,fe⟩ (hc.1.later ud) (Bi _) (hf.later ud)
  rw[<-hI]at CI
  simp only[PlQ.val,PlQ.cells,FQ.val]at CI
  have HC:=ab CI
  have hO:W1.heap.size<W2.heap.size:=(bl x2)
  have Pw:el (fun b=>¬M b) (fun b=>¬M b/\b≠W1.heap.size) W1 W2:=fun b hb hlt=>⟨⟨hb,by omega⟩,bA.block b hlt⟩
  have wk:=aF EV (nl.move Pw)
  have vK:=eO qZ.ltb qZ.fs.lt qZ.ts.lt hO jS
  have KI:=ab yw
  have H2:=ce bA ud x2 xp
  have Wy:=ab (qZ.move Pw (bA.block _ qZ.ltb) (bA.block _ qZ.fs.lt) (bA.block _ qZ.ts.lt))
  have Ru:=ab (show ∀ im,I=some im->goodF im from fun im h=>EM HP.o (by rw[<-hI];exact h))
  have Hq:=ab Lm
  clear oI hR hp ON OM OO Tv Tw hs hf ib lu hc dw dT iR pN oA hl gh bQ hb1 jS aD ki pU yw pA DI qZ hlk hg nY ej F0 CU aW uU EY Lo x1 CI Lm hI nl EV bA ud x2 xp hO Pw
  have pp161b:=();exact pm161):G:=h
theorem pm210(h:G:=by
 have l2:=(hlk (W5.alloc (.cells #[.int .u8 0,.string ⟨#[]⟩,.slice none 0 0,.slice none 0 0] 36)).drew (Below.heap_alloc _ _ _ (by have:=iv.fs.lt;omega))).1
 first
 |clear pp210
  obtain ⟨W6,cM⟩:=ao (W5.alloc (.cells #[.int .u8 0,.string ⟨#[]⟩,.slice none 0 0,.slice none 0 0] 36)).drew
  have jE:Below W5.heap.size W5 W6:=by rw[cM];exact a_.drew
  have Ak:Below W6.heap.size W6 W6.drew:=(Below.refl _ _).drew
  have MR:=(iv.later jE).later Ak
  obtain ⟨w7,cw,yo,mK,Ty⟩:=MR.storeF (fun h=>h HG.o.1) (by have:=HB.o.1;omega) (x:=n) (by have:=HF.o.2.2.1;omega) ((EU.later jE).later Ak) Ru.o (l':=gw n im k.fs) (fun y=>ym hg y)
  have XG:Kp (N2 mF mT) W6.drew w7:=mK.mono (fun b _ h=>.inl h)
  have r0:=aa jE g0
  have r1:=aa Ak r0
  have r2:=aa jE g2
  have r3:=aa Ak r2
  obtain ⟨q0,q1,q2,q3,_,_,_,_⟩:=cW x7
  have r4:=aa jE q0
  have r5:=aa Ak r4
  have r6:=aa jE q1
  have r7:=aa Ak r6
  have r8:=aa jE q2
  have r9:=aa Ak r8
  have r10:=aa jE q3
  have r11:=aa Ak r10
  have HE:=ab (show R=({ k with fs:=gw n im k.fs },0) by rw[Lm];simp only[hg])
  have RI:=aF yo ((Kp.below (((H3.o.1.tr me).tr jE).tr Ak)).trans XG)
  unfold FQ.val at cw
  clear iv hlk MR yo mK XG Ty hg me nW a_ jE Ak x7 EU Lm eo GH
  go_region
  all_goals
   rw[<-cM]
   clear cM
   go_wp2
   go_region
   go_wp2
   go_ret
   exact StepPost.good (nF+1) nT HE.o RI.o.2 (by omega) (by omega) RI.o.1
 |obtain ⟨W6,cM⟩:=ao (W5.alloc (.cells #[.int .u8 Cs,.string Ct,.slice Cu Cv Cw,.slice Cx Cy Cz] 36)).drew
  have jE:Below W5.heap.size W5 W6:=by rw[cM];exact ct.drew
  have x6:W6.heap[W5.heap.size]?=some (.cells #[.int .u8 Cs,.string Ct,.slice Cu Cv Cw,.slice Cx Cy Cz] 36 (0,0)):=by rw[cM];exact aj rfl
  obtain ⟨q0,q1,q2,q3,_,_,_,_⟩:=cW x7
  obtain ⟨r0,r1,r2,r3⟩:=lg jE q0 q1 q2 q3
  obtain ⟨r4,r5,r6,r7,_,_,_,_⟩:=cW x6
  have CA:=sj g im [] (.slice none 0 0) _ _ W6 ⟨Cs,Ct,Cu,Cv,Cw,Cx,Cy,Cz⟩ ⟨p0,p1,p2,p3,p4,p5,p6,p7⟩ (by have:=EV.nodes;simp[dK];omega) EV.fit (nl.later jE) (EU.later jE) (PairsV.nil W6)
  simp only[FQ.val,List.reverse_nil]at CA
  have HE:=ab (show R=if bT [] g im then (k,0) else (k,70) by rw[Lm];simp only[hg])
  obtain ⟨bb,cv⟩:=ao (bT [] g im)
  rw[<-cv]at HE CA
  have CG:=ab CA
  have G4:=aF (iv.later jE) ((H3.o.1.tr me).tr jE)
  clear iv hlk hg me nW a_ jE x7 x6 EU Lm eo GH CA cv nl EV
  go_region
  all_goals
   rw[<-cM]
   clear cM
   cases bb
   ·go_wp2_with (go_at_call 92;refine CG.o.mono ?_;rintro e w7 ⟨rfl,eT⟩;have H7:=ab eT;clear eT)
    go_ret
    exact StepPost.bad HE.o (by decide) (Kp.below (G4.o.2.tr H7.o))
   ·go_wp2_with (go_at_call 92;refine CG.o.mono ?_;rintro e w7 ⟨rfl,eT⟩;have H7:=ab eT;clear eT)
    go_ret
    exact StepPost.good nF nT HE.o (Kp.below (G4.o.2.tr H7.o)) (by omega) (by omega) (G4.o.1.later H7.o)):G:=h
theorem pm211(h:G:=by
 have h1:DataW.trod enc Tryz.prog W 0 j4 held n 9 [c1]=some x1:=hf 1 _ rfl
 have h2:DataW.trod enc Tryz.prog W 0 j4 held n 33 [c2]=some x2:=hf 2 _ rfl
 first
 |clear pp211
  obtain ⟨v,hv,rfl⟩:=DataW.trod_bool Tryz.underlying4 h0
  simp only[List.cons.injEq,and_true]at hv
  subst hv
  obtain ⟨s,rfl,hs,_⟩:=vC h1
  obtain ⟨l,hl,hln,WG⟩:=qj h2 (fun m hm=>ih m (by omega))
  refine ⟨.mk v s l,aP.2 ⟨_,rfl,hl⟩,?_,?_⟩
  ·simp only[nodesT,List.map_cons,List.map_nil,Rows.uptoBulk,Rows.uptoBulkAll]
   omega
  ·simp only[iS,List.map_cons,List.map_nil,Rows.uptoBulk,Rows.uptoBulkAll,Bool.and_eq_true,decide_eq_true_eq]
   exact ⟨by omega,ev (by omega) _ WG⟩
 |have h3:DataW.trod enc Tryz.prog W 0 j4 held n 34 [c3]=some x3:=hf 3 _ rfl
  obtain ⟨o,hv,rfl,ho⟩:=DataW.trod_int Tryz.underlying5 h0
  simp only[List.cons.injEq,and_true]at hv
  subst hv
  have ho:0<=o/\o<=255:=by
   simp[Lit.wf,IntKind.min,IntKind.max,IntKind.signed,IntKind.bits]at ho
   omega
  obtain ⟨s,rfl,hs,_⟩:=vC h1
  obtain ⟨l,hl,hln,WG⟩:=qj h2 (fun m _=>Dz m)
  obtain ⟨k,hk,dw,j6⟩:=Az h3 (fun m hm=>ih m (by omega))
  refine ⟨.mk o s l k,aQ.2 ⟨_,_,rfl,hl,hk⟩,?_,?_⟩
  ·simp only[nodesF,List.map_cons,List.map_nil,Rows.uptoBulk,Rows.uptoBulkAll]
   omega
  ·simp only[ks,List.map_cons,List.map_nil,Rows.uptoBulk,Rows.uptoBulkAll,Bool.and_eq_true,decide_eq_true_eq]
   exact ⟨ho,by omega,ev (by omega) _ WG,ms (by omega) _ j6⟩):G:=h
theorem pm212(h:G:=by
 obtain ⟨ra,rc,rfl⟩:=hF.row.slice
 rw[cA]at hF
 have HR:=ab (jc ▸ hF.row)
 first
 |clear pp212a
  have x2:=hF.box
  have x1:=hF.other (by omega) iB.o
  obtain ⟨c0,c1,c2⟩:=lE x2
  obtain ⟨e0,e1,e2⟩:=lE x1
  have z0:=ae x1 0
  have z1:=ae x1 1
  have z2:=ae x1 2
  obtain ⟨li,bW⟩:=aS x1 az
  clear jc cA hF x1 x2 az
  gi_wp2
  first
  |clear pp21a
   have x6:=oy (v0:=.bool qv) (v1:=.string ⟨n.toArray⟩) (v2:=.slice ra k rc) li.o
   have k6:=d8 (W:=wr) (b:=w.heap.size+1) (v0:=.bool qv) (v1:=.string ⟨n.toArray⟩) (v2:=.slice ra k rc)
   obtain ⟨W6,cM⟩:=ao (((wr.setCell ⟨w.heap.size+1,0,none⟩ (.bool qv)).setCell ⟨w.heap.size+1,1,none⟩ (.string ⟨n.toArray⟩)).setCell ⟨w.heap.size+1,2,none⟩ (.slice ra k rc))
   rw[<-cM]at x6 k6 ⊢
   clear cM
   have g0:W6.cell? ⟨w.heap.size+1,0,none⟩=some (.bool qv):=ai x6 0
   have g1:W6.cell? ⟨w.heap.size+1,1,none⟩=some (.string ⟨n.toArray⟩):=ai x6 1
   have g2:W6.cell? ⟨w.heap.size+1,2,none⟩=some (.slice ra k rc):=ai x6 2
   have hz:=(bl iB.o)
   have h6:TermV (w.heap.size<=·) W6 (TQ.val ⟨qv,⟨n.toArray⟩,ra,k,rc⟩) (.mk qv n a):=(HR.o.kp1 k6 (by omega)).term dG.o.size
   refine bodyPost_ret (v:=TQ.val ⟨qv,⟨n.toArray⟩,ra,k,rc⟩) (by simp[TQ.val,results,Tryz.results53,go_sem,g0,g1,g2]) rfl ⟨⟨qv,⟨n.toArray⟩,ra,k,rc⟩,rfl,h6,Below.kp1 bW.o k6 (by omega)⟩
  |clear pp21b
   have x6:=oy (v0:=.bool false) (v1:=.string ⟨n.toArray⟩) (v2:=.slice ra k rc) li.o
   have k6:=d8 (W:=wr) (b:=w.heap.size+1) (v0:=.bool false) (v1:=.string ⟨n.toArray⟩) (v2:=.slice ra k rc)
   obtain ⟨W6,cM⟩:=ao (((wr.setCell ⟨w.heap.size+1,0,none⟩ (.bool false)).setCell ⟨w.heap.size+1,1,none⟩ (.string ⟨n.toArray⟩)).setCell ⟨w.heap.size+1,2,none⟩ (.slice ra k rc))
   rw[<-cM]at x6 k6 ⊢
   clear cM
   have g0:W6.cell? ⟨w.heap.size+1,0,none⟩=some (.bool false):=ai x6 0
   have g1:W6.cell? ⟨w.heap.size+1,1,none⟩=some (.string ⟨n.toArray⟩):=ai x6 1
   have g2:W6.cell? ⟨w.heap.size+1,2,none⟩=some (.slice ra k rc):=ai x6 2
   have hz:=(bl iB.o)
   have h6:TermV (w.heap.size<=·) W6 (TQ.val ⟨false,⟨n.toArray⟩,ra,k,rc⟩) (.mk false n (a.map (e_ f))):=(HR.o.kp1 k6 (by omega)).term dG.o.size
   refine bodyPost_ret (v:=TQ.val ⟨false,⟨n.toArray⟩,ra,k,rc⟩) (by simp[TQ.val,results,Tryz.results154,go_sem,g0,g1,g2]) rfl (⟨⟨⟨false,⟨n.toArray⟩,ra,k,rc⟩,rfl,h6⟩,Below.kp1 bW.o k6 (by omega)⟩)
  |clear pp21c
   have x6:=oy (v0:=.bool false) (v1:=.string ⟨n.toArray⟩) (v2:=.slice ra k rc) li.o
   have k6:=d8 (W:=wr) (b:=w.heap.size+1) (v0:=.bool false) (v1:=.string ⟨n.toArray⟩) (v2:=.slice ra k rc)
   obtain ⟨W6,cM⟩:=ao (((wr.setCell ⟨w.heap.size+1,0,none⟩ (.bool false)).setCell ⟨w.heap.size+1,1,none⟩ (.string ⟨n.toArray⟩)).setCell ⟨w.heap.size+1,2,none⟩ (.slice ra k rc))
   rw[<-cM]at x6 k6 ⊢
   clear cM
   have g0:W6.cell? ⟨w.heap.size+1,0,none⟩=some (.bool false):=ai x6 0
   have g1:W6.cell? ⟨w.heap.size+1,1,none⟩=some (.string ⟨n.toArray⟩):=ai x6 1
   have g2:W6.cell? ⟨w.heap.size+1,2,none⟩=some (.slice ra k rc):=ai x6 2
   have hz:=(bl iB.o)
   have h6:TermV (w.heap.size<=·) W6 (TQ.val ⟨false,⟨n.toArray⟩,ra,k,rc⟩) (.mk false n (a.map (cC kd.ts sc))):=(HR.o.kp1 k6 (by omega)).term dG.o.size
   refine bodyPost_ret (v:=TQ.val ⟨false,⟨n.toArray⟩,ra,k,rc⟩) (by simp[TQ.val,results,Tryz.results127,go_sem,g0,g1,g2]) rfl (⟨⟨⟨false,⟨n.toArray⟩,ra,k,rc⟩,rfl,h6⟩,Below.kp1 bW.o k6 (by omega)⟩)
  |clear pp21d
   have x6:=oy (v0:=.bool true) (v1:=.string ⟨n.toArray⟩) (v2:=.slice ra k rc) li.o
   have k6:=d8 (W:=wr) (b:=w.heap.size+1) (v0:=.bool true) (v1:=.string ⟨n.toArray⟩) (v2:=.slice ra k rc)
   obtain ⟨W6,cM⟩:=ao (((wr.setCell ⟨w.heap.size+1,0,none⟩ (.bool true)).setCell ⟨w.heap.size+1,1,none⟩ (.string ⟨n.toArray⟩)).setCell ⟨w.heap.size+1,2,none⟩ (.slice ra k rc))
   rw[<-cM]at x6 k6 ⊢
   clear cM
   have g0:W6.cell? ⟨w.heap.size+1,0,none⟩=some (.bool true):=ai x6 0
   have g1:W6.cell? ⟨w.heap.size+1,1,none⟩=some (.string ⟨n.toArray⟩):=ai x6 1
   have g2:W6.cell? ⟨w.heap.size+1,2,none⟩=some (.slice ra k rc):=ai x6 2
   have hz:=(bl iB.o)
   have h6:TermV (w.heap.size<=·) W6 (TQ.val ⟨true,⟨n.toArray⟩,ra,k,rc⟩) (.mk true n (a.map (cC kd.ts sc))):=(HR.o.kp1 k6 (by omega)).term dG.o.size
   refine bodyPost_ret (v:=TQ.val ⟨true,⟨n.toArray⟩,ra,k,rc⟩) (by simp[TQ.val,results,Tryz.results127,go_sem,g0,g1,g2]) rfl (⟨⟨⟨true,⟨n.toArray⟩,ra,k,rc⟩,rfl,h6⟩,Below.kp1 bW.o k6 (by omega)⟩)
  |clear pp21e
   have x6:=oy (v0:=.bool false) (v1:=.string ⟨n.toArray⟩) (v2:=.slice ra k rc) li.o
   have k6:=d8 (W:=wr) (b:=w.heap.size+1) (v0:=.bool false) (v1:=.string ⟨n.toArray⟩) (v2:=.slice ra k rc)
   obtain ⟨W6,cM⟩:=ao (((wr.setCell ⟨w.heap.size+1,0,none⟩ (.bool false)).setCell ⟨w.heap.size+1,1,none⟩ (.string ⟨n.toArray⟩)).setCell ⟨w.heap.size+1,2,none⟩ (.slice ra k rc))
   rw[<-cM]at x6 k6 ⊢
   clear cM
   have g0:W6.cell? ⟨w.heap.size+1,0,none⟩=some (.bool false):=ai x6 0
   have g1:W6.cell? ⟨w.heap.size+1,1,none⟩=some (.string ⟨n.toArray⟩):=ai x6 1
   have g2:W6.cell? ⟨w.heap.size+1,2,none⟩=some (.slice ra k rc):=ai x6 2
   have hz:=(bl iB.o)
   have h6:TermV (w.heap.size<=·) W6 (TQ.val ⟨false,⟨n.toArray⟩,ra,k,rc⟩) (.mk false n (a.map aK)):=(HR.o.kp1 k6 (by omega)).term dG.o.size
   refine bodyPost_ret (v:=TQ.val ⟨false,⟨n.toArray⟩,ra,k,rc⟩) (by simp[TQ.val,results,Tryz.results69,go_sem,g0,g1,g2]) rfl (⟨⟨false,⟨n.toArray⟩,ra,k,rc⟩,rfl,h6,Below.kp1 bW.o k6 (by omega)⟩)
  |clear pp21f
   have x6:=oy (v0:=.bool true) (v1:=.string ⟨n.toArray⟩) (v2:=.slice ra k rc) li.o
   have k6:=d8 (W:=wr) (b:=w.heap.size+1) (v0:=.bool true) (v1:=.string ⟨n.toArray⟩) (v2:=.slice ra k rc)
   obtain ⟨W6,cM⟩:=ao (((wr.setCell ⟨w.heap.size+1,0,none⟩ (.bool true)).setCell ⟨w.heap.size+1,1,none⟩ (.string ⟨n.toArray⟩)).setCell ⟨w.heap.size+1,2,none⟩ (.slice ra k rc))
   rw[<-cM]at x6 k6 ⊢
   clear cM
   have g0:W6.cell? ⟨w.heap.size+1,0,none⟩=some (.bool true):=ai x6 0
   have g1:W6.cell? ⟨w.heap.size+1,1,none⟩=some (.string ⟨n.toArray⟩):=ai x6 1
   have g2:W6.cell? ⟨w.heap.size+1,2,none⟩=some (.slice ra k rc):=ai x6 2
   have hz:=(bl iB.o)
   have h6:TermV (w.heap.size<=·) W6 (TQ.val ⟨true,⟨n.toArray⟩,ra,k,rc⟩) (.mk true n (a.map aK)):=(HR.o.kp1 k6 (by omega)).term dG.o.size
   refine bodyPost_ret (v:=TQ.val ⟨true,⟨n.toArray⟩,ra,k,rc⟩) (by simp[TQ.val,results,Tryz.results69,go_sem,g0,g1,g2]) rfl (⟨⟨true,⟨n.toArray⟩,ra,k,rc⟩,rfl,h6,Below.kp1 bW.o k6 (by omega)⟩)
  |have x6:=oy (v0:=.bool true) (v1:=.string ⟨n.toArray⟩) (v2:=.slice ra k rc) li.o
   have k6:=d8 (W:=wr) (b:=w.heap.size+1) (v0:=.bool true) (v1:=.string ⟨n.toArray⟩) (v2:=.slice ra k rc)
   obtain ⟨W6,cM⟩:=ao (((wr.setCell ⟨w.heap.size+1,0,none⟩ (.bool true)).setCell ⟨w.heap.size+1,1,none⟩ (.string ⟨n.toArray⟩)).setCell ⟨w.heap.size+1,2,none⟩ (.slice ra k rc))
   rw[<-cM]at x6 k6 ⊢
   clear cM
   have g0:W6.cell? ⟨w.heap.size+1,0,none⟩=some (.bool true):=ai x6 0
   have g1:W6.cell? ⟨w.heap.size+1,1,none⟩=some (.string ⟨n.toArray⟩):=ai x6 1
   have g2:W6.cell? ⟨w.heap.size+1,2,none⟩=some (.slice ra k rc):=ai x6 2
   have hz:=(bl iB.o)
   have h6:TermV (w.heap.size<=·) W6 (TQ.val ⟨true,⟨n.toArray⟩,ra,k,rc⟩) (.mk true n (a.map (e_ f))):=(HR.o.kp1 k6 (by omega)).term dG.o.size
   refine bodyPost_ret (v:=TQ.val ⟨true,⟨n.toArray⟩,ra,k,rc⟩) (by simp[TQ.val,results,Tryz.results154,go_sem,g0,g1,g2]) rfl (⟨⟨⟨true,⟨n.toArray⟩,ra,k,rc⟩,rfl,h6⟩,Below.kp1 bW.o k6 (by omega)⟩)
 |clear pp212b
  have pp103:=();exact pm103
 |clear pp212c
  exact pm103
 |have x2:=hF.box
  have x1:=hF.other (by omega) JM.o
  obtain ⟨c0,c1,c2,c3⟩:=lF x2
  obtain ⟨e0,e1,e2,e3,z0,z1,z2,z3⟩:=cW x1
  have li:=ab x1
  have LN:=ab (SB.o.kp1 hF.kp (by have:=vK.o;omega))
  have bW:=ab az
  clear jc cA hF x1 x2 az
  gi_wp2
  have x6:=kf (v0:=.int .u8 so) (v1:=.string ⟨n.toArray⟩) (v2:=.slice e6 k1 e7) (v3:=.slice ra k rc) li.o
  have k6:=di (W:=wr) (b:=w.heap.size+1) (v0:=.int .u8 so) (v1:=.string ⟨n.toArray⟩) (v2:=.slice e6 k1 e7) (v3:=.slice ra k rc)
  obtain ⟨W6,cM⟩:=ao ((((wr.setCell ⟨w.heap.size+1,0,none⟩ (.int .u8 so)).setCell ⟨w.heap.size+1,1,none⟩ (.string ⟨n.toArray⟩)).setCell ⟨w.heap.size+1,2,none⟩ (.slice e6 k1 e7)).setCell ⟨w.heap.size+1,3,none⟩ (.slice ra k rc))
  rw[<-cM]at x6 k6 ⊢
  clear cM
  have g0:W6.cell? ⟨w.heap.size+1,0,none⟩=some (.int .u8 so):=ai x6 0
  have g1:W6.cell? ⟨w.heap.size+1,1,none⟩=some (.string ⟨n.toArray⟩):=ai x6 1
  have g2:W6.cell? ⟨w.heap.size+1,2,none⟩=some (.slice e6 k1 e7):=ai x6 2
  have g3:W6.cell? ⟨w.heap.size+1,3,none⟩=some (.slice ra k rc):=ai x6 3
  have hz:=vK.o
  have h6:FormV (w.heap.size<=·) W6 (FQ.val ⟨so,⟨n.toArray⟩,e6,k1,e7,ra,k,rc⟩) (.mk so n (a.map (cC kd.ts c)) (ss.map (cz kd c))):=RowF.form (LN.o.kp1 k6 (by omega)) (HR.o.kp1 k6 (by have:=vM.o;omega)) dG.o.size (by have:=vM.o;have:=dG.o.size;omega)
  refine bodyPost_ret (v:=FQ.val ⟨so,⟨n.toArray⟩,e6,k1,e7,ra,k,rc⟩) (by simp[FQ.val,results,Tryz.results72,go_sem,g0,g1,g2,g3]) rfl (⟨⟨⟨so,⟨n.toArray⟩,e6,k1,e7,ra,k,rc⟩,rfl,tP.o ▸ h6⟩,Below.kp1 bW.o k6 (by omega)⟩)):G:=h
theorem pm213(h:G:=by
 obtain ⟨es,hD,SI,_⟩:=aC.entries (Maps.string_keyed Tryz.underlying9)
 obtain ⟨Pa,L0,SJ⟩:=aC.keysOf
 obtain rfl:es=Pa:=by rw[hD]at L0;simpa using L0
 first
 |clear pp213
  have jM:(de xs).Perm (strKeys D0):=by
   rw[hD]
   refine perm_strKeys SI (fun p hp=>by obtain ⟨v,hv⟩:=SJ p hp;obtain ⟨x,_,hx,_⟩:=Maps.keyOf_str Tryz.underlying9 hv;exact ⟨x,hx⟩) (jf (qF xs)) (fun x=>?_)
   rw[dj,<-hD,w_]
  refine (callsIn_wide.1 cS).mono ?_
  rintro e w' ⟨v,ss,rfl,hS,gJ,L1,hb⟩
  have kO:ss.Perm (de xs):=hS.trans jM.symm
  have jg:ss.length=(de xs).length:=kO.length_eq
  refine ⟨v,rfl,⟨?_,?_⟩,((Below.refl _ W).alloc (Nat.le_refl _) _).trans (hb.mono (by simp))⟩
  ·rw[xq kO,jg]at gJ
   exact ownsRow_base_a gJ (by simp)
  ·rw[L1]
   constructor
   ·intro h;rw[h]at jg;exact List.eq_nil_of_length_eq_zero jg.symm
   ·intro h;rw[h]at jg;exact List.eq_nil_of_length_eq_zero jg
 |have w_:∀ x:Str,Maps.has D0 (.string x)=true ↔ x∈l.map (·.1):=fun x=>by
   cases hg:getB l x with
   | none=>rw[(hx x).1 hg];simp only[Bool.false_eq_true,false_iff];exact (fY l x).1 hg
   | some a=>
    have h1:x∈l.map (·.1):=by
     by_cases h:x∈l.map (·.1)
     ·exact h
     ·rw[(fY l x).2 h]at hg;cases hg
    exact ⟨fun _=>h1,fun _=>((hx x).2 a hg).1⟩
  have jM:(de (l.map (·.1))).Perm (strKeys D0):=by
   rw[hD]
   refine perm_strKeys SI (fun p hp=>by obtain ⟨v,hv⟩:=SJ p hp;obtain ⟨x,_,hx,_⟩:=Maps.keyOf_str Tryz.underlying9 hv;exact ⟨x,hx⟩) (jf (qF _)) (fun x=>?_)
   rw[dj,<-hD,w_]
  refine (callsIn_wide.1 cS).mono ?_
  rintro e w' ⟨v,ss,rfl,hS,gJ,L1,hb⟩
  have kO:ss.Perm (de (l.map (·.1))):=hS.trans jM.symm
  have jg:ss.length=(de (l.map (·.1))).length:=kO.length_eq
  have hu:=C8 X8
  refine ⟨v,rfl,⟨?_,?_⟩,((Below.refl _ W).alloc (Nat.le_refl _) _).trans (hb.mono (by simp))⟩
  ·rw[xq kO,jg,hu]at gJ
   exact ownsRow_base_a gJ (by simp)
  ·rw[L1]
   rw[hu]at jg
   constructor
   ·intro h;rw[h]at jg;exact List.eq_nil_of_length_eq_zero jg.symm
   ·intro h;rw[h]at jg;exact List.eq_nil_of_length_eq_zero jg):G:=h
theorem pm214(h:G:=by
 have eh:=cB cZ
 have gL:=bN cZ
 rw[<-cZ]
 have f0:=fun x:Later W3=>x.get (ai gL 0)
 have f1:=fun x:Later W3=>x.get (ai gL 1)
 have f2:=fun x:Later W3=>x.get (ai gL 2)
 first
 |clear pp214
  have f3:=fun x:Later W3=>x.get (ai gL 3)
  have g0:=fun x:Later W3=>x.get (aa eh rt.o)
  have g1:=fun x:Later W3=>x.get (aa eh jx.o.1)
  have g2:=fun x:Later W3=>x.get (aa eh jx.o.2.1)
  have g3:=fun x:Later W3=>x.get (aa eh jx.o.2.2.1)
  have g4:=fun x:Later W3=>x.get (aa eh jx.o.2.2.2)
  have bp:=ab eh
  first
  |clear pp11a
   have CC:=ab (fun (x:Later W3)=>eM.o xs[k] (List.getElem_mem bc) ys[k] ps (.slice pa p0 pc) ok ok' x.w u u' Cr vU.o (FD HWs.o (List.getElem_mem bc)) ((HU.o.later bp.o).later x.below) ((pZ.o.later bp.o).later x.below) ((qN.o.later bp.o).later x.below))
   rw[<-vV.o]at CC
   unfold FQ.val at CC
   clear cZ eh gL d0 d1 d2 d3 y2
   refine aM (by kernel_rfl) (by kernel_rfl) ?_
   repeat (go_big_quiet_step ((go_at_call 83;exact bM (CC.o _))))
   refine wpQuiet_nil ?_
   rintro _ ⟨x',rfl⟩
   clear f0 f1 f2 f3 g0 g1 g2 g3 g4
   exact pm5
  |clear pp11b
   have CC:=ab (fun (x:Later W3)=>eM.o xs[k] (List.getElem_mem bc) ys[k] (ps ++ [(xn,yn)]) (.slice (some ⟨g,0,none⟩) (p0+1) cap) ok ok' x.w u u' Cr vU.o (FD HWs.o (List.getElem_mem bc)) ((HU.o.later bp.o).later x.below) ((pZ.o.later bp.o).later x.below) ((qN.o.later bp.o).later x.below))
   rw[<-vV.o]at CC
   unfold FQ.val at CC
   clear cZ eh gL d0 d1 d2 d3 y2
   refine aM (by kernel_rfl) (by kernel_rfl) ?_
   repeat (go_big_quiet_step ((go_at_call 83;exact bM (CC.o _))))
   refine wpQuiet_nil ?_
   rintro _ ⟨x',rfl⟩
   clear f0 f1 f2 f3 g0 g1 g2 g3 g4
   exact pm5
  |clear pp11c
   have CC:=ab (fun (x:Later W3)=>eM.o xs[k] (List.getElem_mem bc) ys[k] ps (.slice pa p0 pc) ok ok' x.w u u' Cr vU.o ((HU.o.later bp.o).later x.below) ((pZ.o.later bp.o).later x.below) ((qN.o.later bp.o).later x.below))
   rw[<-vV.o]at CC
   unfold FQ.val at CC
   clear cZ eh gL d0 d1 d2 d3 y2
   refine aM (by kernel_rfl) (by kernel_rfl) ?_
   repeat (go_big_quiet_step ((go_at_call 92;exact bM (CC.o _))))
   refine wpQuiet_nil ?_
   rintro _ ⟨x',rfl⟩
   clear f0 f1 f2 f3 g0 g1 g2 g3 g4
   exact pm5
  |clear pp11d
   have CC:=ab (fun (x:Later W3)=>eM.o xs[k] (List.getElem_mem bc) ys[k] (ps ++ [(xn,xn)]) (.slice (some ⟨g,0,none⟩) (p0+1) cap) ok ok' x.w u u' Cr vU.o ((HU.o.later bp.o).later x.below) ((pZ.o.later bp.o).later x.below) ((qN.o.later bp.o).later x.below))
   rw[<-vV.o]at CC
   unfold FQ.val at CC
   clear cZ eh gL d0 d1 d2 d3 y2
   refine aM (by kernel_rfl) (by kernel_rfl) ?_
   repeat (go_big_quiet_step ((go_at_call 92;exact bM (CC.o _))))
   refine wpQuiet_nil ?_
   rintro _ ⟨x',rfl⟩
   clear f0 f1 f2 f3 g0 g1 g2 g3 g4
   exact pm5
  |have CC:=ab (fun (x:Later W3)=>eM.o xs[k] (List.getElem_mem bc) ys[k] (ps ++ [(xn,yn)]) (.slice (some ⟨g,0,none⟩) (p0+1) cap) ok ok' x.w u u' Cr vU.o ((HU.o.later bp.o).later x.below) ((pZ.o.later bp.o).later x.below) ((qN.o.later bp.o).later x.below))
   rw[<-vV.o]at CC
   unfold FQ.val at CC
   clear cZ eh gL d0 d1 d2 d3 y2
   refine aM (by kernel_rfl) (by kernel_rfl) ?_
   repeat (go_big_quiet_step ((go_at_call 92;exact bM (CC.o _))))
   refine wpQuiet_nil ?_
   rintro _ ⟨x',rfl⟩
   clear f0 f1 f2 f3 g0 g1 g2 g3 g4
   exact pm5
 |first
  |clear pp61a
   have g0:=fun x:Later W3=>x.get (aa eh rt.o)
   have g1:=fun x:Later W3=>x.get (aa eh jx.o.1)
   have g2:=fun x:Later W3=>x.get (aa eh jx.o.2.1)
   have g3:=fun x:Later W3=>x.get (aa eh jx.o.2.2)
   have bp:=ab eh
   have CC:=ab (fun (x:Later W3)=>xP xa[k] ya[k] ps (.slice pa p0 pc) ok ok' x.w u u' Kj vU.o ((HU.o.later bp.o).later x.below) ((pZ.o.later bp.o).later x.below) ((qN.o.later bp.o).later x.below))
   rw[<-vV.o]at CC
   unfold TQ.val at CC
   clear cZ eh gL d0 d1 d2 y2
   refine aM (by kernel_rfl) (by kernel_rfl) ?_
   repeat (go_big_quiet_step ((go_at_call 160;exact bM (CC.o _))))
   refine wpQuiet_nil ?_
   rintro _ ⟨x',rfl⟩
   clear f0 f1 f2 g0 g1 g2 g3
   exact pm5
  |clear pp61b
   have f3:=fun x:Later W3=>x.get (aa eh rt.o)
   have f4:=fun x:Later W3=>x.get (aa eh jx.o.1)
   have f5:=fun x:Later W3=>x.get (aa eh jx.o.2.1)
   have f6:=fun x:Later W3=>x.get (aa eh jx.o.2.2)
   have bp:=ab eh
   have CC:=ab (fun (x:Later W3)=>Md.o ya[k] ps (.slice pa p0 pc) ok ok' x.w u u' (by rw[<-vR.o];exact gh) vU.o ((HU.o.later bp.o).later x.below) ((pZ.o.later bp.o).later x.below) ((qN.o.later bp.o).later x.below))
   rw[<-vV.o]at CC
   unfold TQ.val at CC
   clear cZ eh gL d0 d1 d2 y2
   refine aM (by kernel_rfl) (by kernel_rfl) ?_
   repeat (go_big_quiet_step ((go_at_call 160;exact bM (CC.o _))))
   refine wpQuiet_nil ?_
   rintro _ ⟨x',rfl⟩
   clear f0 f1 f2 f3 f4 f5 f6
   exact pm5
  |clear pp61c
   have g0:=fun x:Later W3=>x.get (aa eh rt.o)
   have g1:=fun x:Later W3=>x.get (aa eh jx.o.1)
   have g2:=fun x:Later W3=>x.get (aa eh jx.o.2.1)
   have g3:=fun x:Later W3=>x.get (aa eh jx.o.2.2)
   have bp:=ab eh
   have CC:=ab (fun (x:Later W3)=>FE xa[k] ya[k] ps (.slice pa p0 pc) ok ok' x.w u u' Kj vU.o (zz HWf.o (List.getElem_mem bc)) ((HU.o.later bp.o).later x.below) ((pZ.o.later bp.o).later x.below) ((qN.o.later bp.o).later x.below))
   rw[<-vV.o]at CC
   unfold TQ.val at CC
   clear cZ eh gL d0 d1 d2 y2
   refine aM (by kernel_rfl) (by kernel_rfl) ?_
   repeat (go_big_quiet_step ((go_at_call 147;exact bM (CC.o _))))
   refine wpQuiet_nil ?_
   rintro _ ⟨x',rfl⟩
   clear f0 f1 f2 g0 g1 g2 g3
   exact pm5
  |have f3:=fun x:Later W3=>x.get (aa eh rt.o)
   have f4:=fun x:Later W3=>x.get (aa eh jx.o.1)
   have f5:=fun x:Later W3=>x.get (aa eh jx.o.2.1)
   have f6:=fun x:Later W3=>x.get (aa eh jx.o.2.2)
   have bp:=ab eh
   have CC:=ab (fun (x:Later W3)=>Md.o ya[k] ps (.slice pa p0 pc) ok ok' x.w u u' (by rw[<-vR.o];exact gh) vU.o (zz HWf.o (List.getElem_mem bc)) ((HU.o.later bp.o).later x.below) ((pZ.o.later bp.o).later x.below) ((qN.o.later bp.o).later x.below))
   rw[<-vV.o]at CC
   unfold TQ.val at CC
   clear cZ eh gL d0 d1 d2 y2
   refine aM (by kernel_rfl) (by kernel_rfl) ?_
   repeat (go_big_quiet_step ((go_at_call 147;exact bM (CC.o _))))
   refine wpQuiet_nil ?_
   rintro _ ⟨x',rfl⟩
   clear f0 f1 f2 f3 f4 f5 f6
   exact pm5):G:=h
theorem pm215(h:G:=by
 have yX:=cv.symm
 simp only[Bool.and_eq_true,decide_eq_true_eq]at yX
 obtain ⟨hb1,bA,aJ⟩:=yX
 rw[Bool.true_and]at hM
 have HE:=ab hM
 clear hM qB oc zI cv hb1 aJ
 first
 |clear pp215
  have pp78e:=();exact pm78
 |have pp78h:=();exact pm78):G:=h
theorem pm216(h:G:=by
 have hr:r.length<=1000000000:=by simp at hn;omega
 have hs:=gi (63 :: r)
 have hx:=ir 63 r
 simp at hs hx
 have h1:((1:Int)<=((63 :: r).length:Int)):=by simp;omega
 first
 |clear pp216
  clear h hp
  go_enter Tryz.func123,Tryz.ntmps123
  go_wp2_with (first | (go_at_call 191;refine (CP.o _).mono ?_;rintro e w' ⟨rfl,rfl⟩) | (go_at_call 152;refine (gH r _ hr).mono ?_;rintro e w' ⟨rfl,hb⟩))
  go_ret
  exact ⟨rfl,hb⟩
 |clear h
  first
  |clear pp126
   go_enter Tryz.func65,Tryz.ntmps65
   go_wp2_with (first | (go_at_call 119;refine (C1.o _).mono ?_;rintro e w' ⟨rfl,hb⟩) | (go_at_call 120;refine (l7 r _ hr).mono ?_;rintro e LC ⟨rfl,bA⟩))
   go_ret
   exact ⟨by simp,hb.trans (bA.mono hb.size)⟩
  |go_enter Tryz.func67,Tryz.ntmps67
   go_wp2_with (first | (go_at_call 119;refine (C1.o _).mono ?_;rintro e w' ⟨rfl,hb⟩) | (go_at_call 121;refine (kB r _ hr).mono ?_;rintro e LC ⟨rfl,bA⟩))
   go_ret
   exact ⟨by simp,hb.trans (bA.mono hb.size)⟩):G:=h
theorem pm217(h:G:=by
 have l1:a.length=a'.length:=by have:=congrArg List.length h2;rwa [lq,lq]at this
 have l2:s.length=s'.length:=by have:=congrArg List.length h3;rwa [oD,oD]at this
 first
 |clear pp217
  refine ⟨⟨rfl,l1,l2⟩,.inr hq,(L2 l1).2 h2,?_⟩
  rw[if_pos hq]
  refine (jV s s' ((n,n') :: c) ht.2 hu.2 l2).2 ?_
  simp only[List.map_cons,Eg,List.length_map,List.length_cons]
  exact h3
 |refine ⟨⟨rfl,l1,l2⟩,.inl h1,(L2 l1).2 h2,?_⟩
  rw[if_neg hq]
  exact (jV s s' c ht.2 hu.2 l2).2 h3):G:=h
theorem pm218(h:G:=by
 simp at I7
 obtain ⟨c9,rfl⟩:=I7
 have gu:(xn == yn)=false:=by simpa using c9
 have iD:(!(xn == yn))=true:=by simpa using c9
 have HE:=ab AV
 clear hm AV c9 FY
 first
 |clear pp218
  go_enter Tryz.func92,Tryz.ntmps92
  go_wp2_with (go_at_call 93;refine (EO.o _).mono ?_;rintro e X0 ⟨rfl,ky⟩;have Ew:Hd (Below W2.heap.size W2 X0):=ab (by rw[eN.o];exact ky);clear ky)
  go_ret
  exact ⟨aA HE.o.symm,bZ.o.trans (Ew.o.mono bZ.o.size)⟩
 |go_enter Tryz.func83,Tryz.ntmps83
  exact pm87):G:=h
theorem pm219(h:G:=by
 obtain ⟨b1,o1,⟨xv,xn,xa,xl,xc⟩,rfl,hok,hx,c0,c1,c2⟩:=TE.o.get kN
 first
 |clear pp219a
  simp only at c0 c1 c2
  obtain ⟨d0,d1,d2⟩:=iM az c0 c1 c2
  have pp117a:=();exact pm117
 |clear pp219b
  have tV:=az
  simp only at c0 c1 c2
  obtain ⟨d0,d1,d2⟩:=iM tV c0 c1 c2
  have pp117b:=();exact pm117
 |clear pp219c
  have tV:=H2.o.1.tr az
  simp only at c0 c1 c2
  obtain ⟨d0,d1,d2⟩:=iM tV c0 c1 c2
  have pp117c:=();exact pm117
 |have tV:=H2.o.1.tr az
  simp only at c0 c1 c2
  obtain ⟨d0,d1,d2⟩:=iM tV c0 c1 c2
  have pp117d:=();exact pm117):G:=h
theorem pm220(h:G:=by
 obtain ⟨k,hk,rfl,hj,aZ⟩:=hrel
 by_cases hlt:k<m0
 first
 |clear pp220a
  ·have bc:=bR fN.o hlt
   have pp33a:=();exact pm33
  ·obtain rfl:m0=k:=by omega
   have pp150:=();exact pm150
 |clear pp220b
  ·have bc:=bR fN.o hlt
   have pp33b:=();exact pm33
  ·obtain rfl:m0=k:=by omega
   have pp150:=();exact pm150
 |clear pp220c
  ·have bc:=bR fN.o hlt
   have pp33c:=();exact pm33
  ·obtain rfl:m0=k:=by omega
   exact pm150
 |clear pp220d
  ·have bc:=bR fN.o hlt
   exact pm33
  ·obtain rfl:m0=k:=by omega
   exact pm150
 |clear pp220e
  ·have ut:k<ss.length:=by have:=fN.o;omega
   exact pm109
  ·obtain rfl:k=m0:=by omega
   exact pm135
 |clear pp220f
  ·have bc:=bR fN.o hlt
   obtain ⟨b,off,u,rfl,gV,hu,c0,c1,c2,c3⟩:=fg.o.get bc
   have pp294b:=();exact pm294
  ·obtain rfl:k=m0:=by omega
   have ht:s.take k=s:=by rw[fN.o];exact List.take_length
   rw[ht]at hj
   have HH:=aF hj aZ
   clear hj aZ ht
   gi_wp2
   go_ret
   exact ⟨rfl,HH.o.1,HH.o.2⟩
 |·have ut:k<ss.length:=by have:=fN.o;omega
   have pp109:=();exact pm109
  ·obtain rfl:k=m0:=by omega
   exact pm135):G:=h
theorem pm221(h:G:=by
 have HF:=ab hf
 have CR:=ab (fun w:World=>hr ▸ dY s w)
 first
 |clear pp221a
  have CF:=ab (fun w:World=>hf ▸ Iy s[0].toNat w)
  clear hr hf
  have pp51a:=();exact pm51
 |clear pp221b
  have CF:=ab (fun w:World=>hf ▸ Iy s[0].toNat w)
  clear hr hf
  have pp51b:=();exact pm51
 |clear pp221c
  have CF:=ab (fun w:World=>hf ▸ DW s[0].toNat w)
  clear hr hf
  have pp51e:=();exact pm51
 |clear pp221d
  have CF:=ab (fun w:World=>hf ▸ DW s[0].toNat w)
  clear hr hf
  have pp51f:=();exact pm51
 |clear pp221e
  have CF:=ab (fun w:World=>hf ▸ wQ s[0].toNat w)
  clear hr hf
  have pp51g:=();exact pm51
 |have CF:=ab (fun w:World=>hf ▸ wQ s[0].toNat w)
  clear hr hf
  exact pm51):G:=h
theorem pm222(h:G:=by
 unfold Oper.wp execOp
 simp only[ho,resolve,invoke,builtin,Sem.run_bind,Sem.run_pure,Result.andThen_ok,List.map_toArray,List.map_cons,List.map_nil,hs,hx,hr]
 first
 |clear pp222
  exact hK _ _ (h v' w' h2 h3)
 |exact hK _ _ (h v' w' h3 h4)):G:=h
theorem pm223(h:G:=by
 have ht:l.take k=l:=by rw[cY.o];exact List.take_length
 rw[ht]at hR ⊢
 obtain ⟨HR,HB,HT⟩:=cf hR az ht
 clear hR az ht
 rw[<-cY.o]at HR ⊢
 go_wp2
 go_ret
 first
 |clear pp223
  exact ⟨ra,rc,rfl,by have:=HR.o.terms;rw[cY.o]at *;exact this,HB.o⟩
 |exact ⟨ra,rc,rfl,by have:=HR.o.forms;rw[cY.o]at *;exact this,HB.o⟩):G:=h
theorem pm224(h:G:=by
 have l2:=(hl (w3.alloc (.cells #[.bool false,.string ⟨#[]⟩,.slice none 0 0] 43)).drew (Below.heap_alloc _ _ _ (by have:=kh.ts.lt;omega))).1
 first
 |clear pp224
  have Kl:=ab (show R=true by rw[pB.o,hg];rfl)
  have vX:=ab (a_.drew)
  clear kh x3 a_ hl hg
  go_region
  all_goals
   go_wp2
   go_ret
   exact ⟨by rw[Kl.o];rfl,(H1.o.1.tr H3.o).tr vX.o⟩
 |have Kl:=ab (show R=false by rw[pB.o,hg];rfl)
  have vX:=ab ((((Below.refl w3.heap.size w3).alloc (Nat.le_refl _) (.cells #[.bool xv,.string xn,.slice xa xl xc] 43))).drew)
  clear kh x3 a_ hl hg hxv hpu
  go_region
  all_goals
   go_wp2
   go_ret
   exact ⟨by rw[Kl.o];rfl,(H1.o.1.tr H3.o).tr vX.o⟩):G:=h
theorem pm225(h:G:=by
 have l2:=(hl (w4.alloc (.cells #[.bool false,.string ⟨#[]⟩,.slice none 0 0] 43)).drew (Below.heap_alloc _ _ _ (by have:=nj.ts.lt;omega))).1
 first
 |clear pp225
  obtain ⟨W5,eo⟩:=ao (w4.alloc (.cells #[.bool false,.string ⟨#[]⟩,.slice none 0 0] 43)).drew
  have nW:Below w4.heap.size w4 W5:=by rw[eo];exact a_.drew
  have me:Below W3.heap.size W3 W5:=H4.o.tr nW
  have Cn:Below W5.heap.size W5 W5.drew:=(Below.refl _ _).drew
  have MR:=(nj.later nW).later Cn
  have XE:=(HT.o.2.1.later me).later Cn
  obtain ⟨w6,cw,EH,EI,Kc⟩:=MR.storeT (fun h=>h HG.o.2.2.2.1) (by have:=MQ.o.1;omega) (x:=n) (by omega) XE HF.o.2 (l':=gw n (.mk uv n' a') k.ts) (fun y=>ym hg y)
  have r0:=aa nW g0
  have r1:=aa Cn r0
  have r2:=aa me e1
  have r3:=aa Cn r2
  have r4:=aa me f0
  have r5:=aa Cn r4
  have r6:=aa me f1
  have r7:=aa Cn r6
  have r8:=aa me f2
  have r9:=aa Cn r8
  have HE:=ab (show R=some (gw n (.mk uv n' a') k.ts) by rw[HR.o,if_pos (by simp[mO]),hg])
  have G4:=aF EH ((Kp.below ((H3.o.1.tr me).tr Cn)).trans EI)
  unfold TQ.val at cw
  clear nj hl MR XE EH EI Kc hg me nW Cn
  go_region
  all_goals
   rw[<-eo]
   clear eo
   go_wp2
   go_region
   go_wp2
   go_ret
   exact ⟨G4.o.2,true,rfl,(fun h=>by rw[HE.o]at h;cases h),(fun ts fB=>⟨rfl,nT+1,by have:=MQ.o.2;omega,by rw[HE.o]at fB;cases fB;exact G4.o.1⟩)⟩
 |obtain ⟨W5,eo⟩:=ao (w4.alloc (.cells #[.bool xv,.string xn,.slice xa xl xc] 43)).drew
  have nW:Below w4.heap.size w4 W5:=by rw[eo];exact ct.drew
  have me:Below W3.heap.size W3 W5:=H4.o.tr nW
  have x5:W5.heap[w4.heap.size]?=some (.cells #[.bool xv,.string xn,.slice xa xl xc] 43 (0,0)):=by rw[eo];exact aj rfl
  obtain ⟨r0,r1,r2⟩:=iM me f0 f1 f2
  obtain ⟨s0,s1,s2,_⟩:=fI x5
  have CS:=rZ u (.mk uv n' a') _ _ W5 ⟨xv,xn,xa,xl,xc⟩ ⟨uv,⟨n'.toArray⟩,ua,n2,uc⟩ (HG.o.2.1 _ hpu) (HG.o.2.1 _ HF.o.2) (hxv.later nW) (HT.o.2.1.later me)
  simp only[TQ.val]at CS
  have s7:=ab CS
  have HE:=ab (show R=if te u (.mk uv n' a') then some k.ts else none by rw[HR.o,if_pos (by simp[mO]),hg])
  have PC:=aF (nj.later nW) (H3.o.1.tr me)
  obtain ⟨bb,cv⟩:=ao (te u (.mk uv n' a'))
  rw[<-cv]at HE s7
  clear nj hl hg me nW x5 CS cv hxv hpu
  go_region
  all_goals
   rw[<-eo]
   clear eo
   go_wp2_with (go_at_call 162;refine s7.o.mono ?_;rintro e w6 ⟨rfl,cD⟩;have H6:=ab cD;clear cD)
   go_ret
   refine ⟨Kp.below (PC.o.2.tr H6.o),bb,rfl,(fun h=>?_),(fun ts fB=>?_)⟩
   ·rw[HE.o]at h;cases bb;rfl;cases h
   ·rw[HE.o]at fB;cases bb;cases fB;cases fB;exact ⟨rfl,nT,by omega,PC.o.1.later H6.o⟩):G:=h
theorem pm226(h:G:=by
 obtain ⟨a,cap,qs,hv,hc,hs,hf⟩:=h
 refine ⟨a,cap,qs,hv,hc,?_,fun j hj=>(hf j hj).move hb⟩
 rcases hs with hs | ⟨b,off,ha,hok,hcl⟩
 ·exact .inl hs
 first
 |clear pp226
  ·by_cases h0:l=[]
   ·exact .inl h0
   ·have hk:=hb b hok (World.block_lt_of_cell? W _ (hcl 0 (List.length_pos_iff.2 h0)).1)
    refine .inr ⟨b,off,ha,hk.1,fun j hj=>?_⟩
    obtain ⟨h0,h1,h2,h3,h4⟩:=hcl j hj
    exact ⟨cI hk.2 h0,cI hk.2 h1,cI hk.2 h2,cI hk.2 h3,cI hk.2 h4⟩
 |·by_cases h0:l=[]
   ·exact .inl h0
   ·have hk:=hb b hok (World.block_lt_of_cell? W _ (hcl 0 (List.length_pos_iff.2 h0)).1)
    refine .inr ⟨b,off,ha,hk.1,fun j hj=>?_⟩
    obtain ⟨h0,h1,h2,h3⟩:=hcl j hj
    exact ⟨cI hk.2 h0,cI hk.2 h1,cI hk.2 h2,cI hk.2 h3⟩):G:=h
theorem pm227(h:G:=by
 obtain ⟨e0,e1,e2,_⟩:=fI H1.o.2.1
 simp only[TQ.val]
 go_enter Tryz.func248,Tryz.ntmps248
 first
 |clear pp227
  exact pm155
 |go_upto_region 1 with fail
  rw[<-lI.o]
  exact pm69):G:=h
theorem pm228(h:G:=by
 have aZ:0<k0:=by rw[bO];exact List.length_pos_iff.2 h0
 rw[<-bO]at cq ⊢
 obtain ⟨cY,dA,HCp⟩:=cf bO hv Xa
 have iT:((k0:Int) == 0)=false:=by simp;omega
 first
 |clear pp228
  have uA:∀ W:World,(Instr.makeSlice 33 (.int .i64 0) (.int .i64 (k0:Int))).run Tryz.prog W=.ok (.slice (some ⟨W.heap.size,0,none⟩) 0 k0) (W.alloc (.cells (madeCells (Value.cells (.agg #[.bool false,.string ByteArray.empty,.slice none 0 0])) (k0 * 3)) 43)):=fun W=>by
   have h:=run_makeSlice (P:=Tryz.prog) W 33 43 i0 (.agg #[.bool false,.string ByteArray.empty,.slice none 0 0]) Tryz.underlying33 hi rq .i64 .i64 0 (k0:Int) (by omega) (by omega) (by rw[jS];simp;omega) (by rw[hO];omega) (by omega)
   simp only[Int.toNat_zero,Int.toNat_natCast,jS]at h
   exact h
  have Ez:RowT w.heap.size (.slice (some ⟨w.heap.size,0,none⟩) 0 k0) (l.take 0) (w.alloc (.cells (madeCells (Value.cells (.agg #[.bool false,.string ByteArray.empty,.slice none 0 0])) (k0 * 3)) 43)):=RowT.made _ _ (Nat.le_refl _) (by unfold maxLen;omega) (by rw[size_madeCells])
  have Mw:=ab Ez
  clear hv Xa bO aD Ez h0
  go_enter Tryz.func106,Tryz.ntmps106
  go_wp2
  go_loopw [5,16] (fun r i wr=>∃k:Nat,k<=k0/\i=.int .i64 k/\RowT w.heap.size r (l.take k) wr/\Below w.heap.size w wr) (fun _ i _=>k0 - (intOf i).toNat)
  case atStart=>exact ⟨0,Nat.zero_le _,rfl,Mw.o,ct⟩
  case round=>
   obtain ⟨k,hk,rfl,hR,az⟩:=hrel
   obtain ⟨ra,rc,rfl⟩:=hR.slice
   by_cases hlt:k<k0
   ·have da:=bR cY.o hlt
    have pp66b:=();exact pm66
   ·obtain rfl:k=k0:=by omega
    have pp223:=();exact pm223
 |have uA:∀ W:World,(Instr.makeSlice 34 (.int .i64 0) (.int .i64 (k0:Int))).run Tryz.prog W=.ok (.slice (some ⟨W.heap.size,0,none⟩) 0 k0) (W.alloc (.cells (madeCells (Value.cells (.agg #[.int .u8 0,.string ByteArray.empty,.slice none 0 0,.slice none 0 0])) (k0 * 4)) 36)):=fun W=>by
   have h:=run_makeSlice (P:=Tryz.prog) W 34 36 i0 (.agg #[.int .u8 0,.string ByteArray.empty,.slice none 0 0,.slice none 0 0]) Tryz.underlying34 hi rq .i64 .i64 0 (k0:Int) (by omega) (by omega) (by rw[jS];simp;omega) (by rw[hO];omega) (by omega)
   simp only[Int.toNat_zero,Int.toNat_natCast,jS]at h
   exact h
  have Ez:RowF w.heap.size (.slice (some ⟨w.heap.size,0,none⟩) 0 k0) (l.take 0) (w.alloc (.cells (madeCells (Value.cells (.agg #[.int .u8 0,.string ByteArray.empty,.slice none 0 0,.slice none 0 0])) (k0 * 4)) 36)):=RowF.made _ _ (Nat.le_refl _) (by unfold maxLen;omega) (by rw[size_madeCells])
  have Mw:=ab Ez
  clear hv Xa bO aD Ez h0
  go_enter Tryz.func108,Tryz.ntmps108
  go_wp2
  go_loopw [5,16] (fun r i wr=>∃k:Nat,k<=k0/\i=.int .i64 k/\RowF w.heap.size r (l.take k) wr/\Below w.heap.size w wr) (fun _ i _=>k0 - (intOf i).toNat)
  case atStart=>exact ⟨0,Nat.zero_le _,rfl,Mw.o,ct⟩
  case round=>
   obtain ⟨k,hk,rfl,hR,az⟩:=hrel
   obtain ⟨ra,rc,rfl⟩:=hR.slice
   by_cases hlt:k<k0
   ·have da:=bR cY.o hlt
    obtain ⟨b,off,u,rfl,_,hu,c0,c1,c2,c3⟩:=dA.o.get da
    obtain ⟨d0,d1,d2,d3⟩:=lg az c0 c1 c2 c3
    have cA:(l.take k).length=k:=by rw[List.length_take];omega
    rw[cA]at hR ⊢
    have HU:=ab ((hu.later az).later (W':=wr.alloc (.cells #[.int .u8 u.o,.string u.n,.slice u.a u.l u.c,.slice u.b u.m u.e] 36)) ct)
    obtain ⟨bW,HR,dH⟩:=cf az hR cA
    clear hu az hR cA c0 c1 c2 c3
    have CC:=ab (HCp.o l[k] (List.getElem_mem da) _ _ u HU.o)
    go_wp2_with fail
    refine CC.o.mono ?_
    rintro _ A ⟨p,rfl,hp,hA⟩
    obtain ⟨qs,dZ,aC,fR⟩:=HR.o
    rw[dH.o]at dZ aC
    have bY:Below wr.heap.size wr A:=ct.trans (hA.mono (by simp))
    have mX:=bY.size
    have Mx:=bW.o.size
    have HO:=ab (ba aC (fun b _ hlt=>bY.block b hlt))
    have HH:=bx dZ aC fR
    have Pm:=aF hp bY
    clear dZ aC fR hp hA bY
    have nS:(A.alloc (.cells #[.int .u8 p.o,.string p.n,.slice p.a p.l p.c,.slice p.b p.m p.e] 36)).heap.size=A.heap.size+1:=by simp
    unfold FQ.val
    go_wp2_with (at_builtin;refine wpList_append_lies _ rfl _ _ 34 rfl w.heap.size 36 i0 (.agg #[.int .u8 0,.string ByteArray.empty,.slice none 0 0,.slice none 0 0]) 4 72 Tryz.underlying34 hi rq jS hO rfl (by decide) _ _ _ rfl (HO.o.alloc _) ⟨A.heap.size,0,none⟩ 1 1 p.cells rfl rfl (cK (cs:=#[.int .u8 p.o,.string p.n,.slice p.a p.l p.c,.slice p.b p.m p.e]) (t:=36) (fr:=(0,0)) (World.alloc_heap_new _ _)) (by simp[FQ.cells,Value.oneCell']) (by decide) (by unfold maxLen;omega) (by omega) (by simp;omega) (A.heap.size+1) nS ?_;intro g et w4 aR aq hg dS;have HG:=bx aR aq hg;clear aR aq hg dS nS)
    go_roundw
    case rel=>
     exact pm261
    case measure=>simp[intOf];omega
   ·obtain rfl:k=k0:=by omega
    exact pm223):G:=h
theorem pm229(h:G:=by
 have HX:=bx zj jq h3
 clear h2 h3 h4 hd cV zj jq hD
 gi_wp2_with fail
 refine dI (B:=w.heap.size) HX.o.2.1 (fun w' hn=>?_)
 have h0:=hn.cell (ai HX.o.2.2 0)
 first
 |clear pp229
  exact ⟨.int .i64 72,by simp[results,Tryz.results71,go_sem,h0],by rw[HE.o],ic HX.o.1 hn⟩
 |exact ⟨.int .i64 6,by simp[results,Tryz.results71,go_sem,h0],by rw[HE.o],ic HX.o.1 hn⟩):G:=h
theorem pm230(h:G:=by
 obtain ⟨a,cap,qs,hv,hc,hs,hf⟩:=h
 refine ⟨a,cap,qs,hv,hc,?_,fun j hj=>(hf j hj).nw hn⟩
 rcases hs with hs | ⟨b,off,ha,hok,hcl⟩
 ·exact .inl hs
 first
 |clear pp230
  ·refine .inr ⟨b,off,ha,hok,fun j hj=>?_⟩
   obtain ⟨h0,h1,h2,h3,h4⟩:=hcl j hj
   exact ⟨hn.cell h0,hn.cell h1,hn.cell h2,hn.cell h3,hn.cell h4⟩
 |·refine .inr ⟨b,off,ha,hok,fun j hj=>?_⟩
   obtain ⟨h0,h1,h2,h3⟩:=hcl j hj
   exact ⟨hn.cell h0,hn.cell h1,hn.cell h2,hn.cell h3⟩):G:=h
theorem pm231(h:G:=by
 obtain ⟨e0,e1,e2,_⟩:=fI H1.o.2.1
 simp only[TQ.val]
 go_enter Tryz.func197,Tryz.ntmps197
 first
 |clear pp231
  have pp155:=();exact pm155
 |go_upto_region 1 with fail
  rw[<-lI.o]
  have pp69:=();exact pm69):G:=h
theorem pm232(h:G:=by
 intro l J Jx W hk hM hl Vj hJ _ hY hj
 have OH:=(bl hX)
 have vN:=(hk.same X OH FP).trans hX
 first
 |clear pp232a
  have c0:W.cell? ⟨X,0,none⟩=some (.bool q.v):=ai vN 0
  have c1:W.cell? ⟨X,1,none⟩=some (.string q.n):=ai vN 1
  have c2:W.cell? ⟨X,2,none⟩=some (.slice q.a q.l q.c):=ai vN 2
  have LU:∀ b,M b->b<W.heap.size:=fun b hb=>Nat.lt_of_lt_of_le (hM b hb) hk.size
  have CC:=zT t aD M B l J (aI t) [] W q LU hJ (fun pre vs x W1 h1 h2 h3 h4=>by
   obtain ⟨fn,tmps,assign,body,hy,hR⟩:=hY pre vs x W1 h1 h2 h3 h4
   refine ⟨fn,tmps,assign,body,hy,hR.mono ?_⟩
   rintro e W' (h | ⟨h,_⟩)
   ·exact h
   ·exact h.elim) (hq.kp hk) (by simp) hj
  have HC:=ab CC
  clear CC hY hJ hj hX vN hq LU
  unfold TQ.val at HC
  go_enter Tryz.func270,Tryz.ntmps270
  go_wp2_with (go_at_call 214;refine HC.o.mono ?_;rintro e W2 ⟨rfl,uC,gX⟩)
  exact ⟨rfl,.tuple #[],by simp[results,Tryz.results270,go_sem],⟨_,rfl⟩,.inl ⟨by simpa using uC,gX⟩⟩
 |clear pp232b
  have pp94a:=();exact pm94
 |have pp94b:=();exact pm94):G:=h
theorem pm233(h:G:=by
 obtain ⟨es,hk,ho,ht⟩:=h
 exact ⟨es,hk,ba ho hb,fun j h1 h2=>⟨(ht j h1 h2).1,(ht j h1 h2).2.move (fun b hok hlt=>⟨hok,hb b hok.1 hlt⟩)⟩⟩):G:=h
theorem pm234(h:G:=by
 obtain ⟨h1,h2⟩:=aD
 simp only[nodesF,ah,ac]at h1
 simp only[ks,fd,Bool.and_eq_true]at h2
 first
 |clear pp234
  exact ⟨by omega,by simp[h2]⟩
 |exact ⟨by simp only[ah];omega,by simp[fd,h2]⟩):G:=h
theorem pm235(h:G:=by
 rw[h1,h2]at h
 simp only[Option.some.injEq]at h
 subst h
 first
 |clear pp235a
  simp only[dO,Bool.and_eq_true]at hok
  obtain ⟨a1,a2,a3⟩:=BW hc ins t x hok.1 h1
  obtain ⟨b1,b2,b3,b4,b5⟩:=xg hc ins l m hok.2 h2
  simp[dO,bI,a1,b1,ac,bz,a2,a3,b2,b3,b4,b5]
 |clear pp235b
  simp only[okF,Bool.and_eq_true,Bool.false_and,Bool.or_false]at hok
  obtain ⟨k1,⟨k2,k3,k4⟩,k5,k6,k7⟩:=hok
  obtain ⟨a1,a2,a3,a4,a5⟩:=xg hc ins a a' k6 h1
  obtain ⟨b1,b2,b3,b4,b5⟩:=D_ hc s s' _ k7 h2
  have SG:(o != 16)=true:=by
   cases iE:o != 16 with
   | true=>rfl
   | false=>
    have:o=16:=by simpa using iE
    subst this
    exact absurd k1 (by decide)
  simp only[bm,okF,Bool.and_eq_true,Bool.false_and,Bool.or_false,nodesF,depthF,a2,a3,b2,b3,a1,b1,a5,a4,b5,b4,SG,Bool.true_or,k1,k2,k3,k4,and_self]
 |clear pp235c
  simp only[cX,Bool.and_eq_true]at hok
  obtain ⟨a1,a2,a3⟩:=wC hc t x ins hok.1 h1
  obtain ⟨b1,b2,b3,b4,b5⟩:=D_ hc l m ins hok.2 h2
  simp[cX,bJ,a1,b1,ah,aU,a2,a3,b2,b3,b4,b5]
 |clear pp235d
  simp[ia,PQ σ ins t x h1,yC σ ins l m h2]
 |clear pp235e
  simp only[dbF,yC σ ins a a' h1]
  by_cases hq:bn o=true
  ·rw[if_pos hq]at h2
   rw[if_pos hq,if_pos hq,yD s s' _ (upd σ n (.lvl d)) (d+1) hok.2.2.2.2 h2,Kx (mL Nf hq).1]
  ·rw[if_neg hq]at h2
   rw[if_neg hq,if_neg hq,yD s s' _ σ d hok.2.2.2.2 h2]
 |simp only[cX,Bool.and_eq_true]at hok
  simp[iO,I_ t x ins σ d hok.1 h1,yD l m ins σ d hok.2 h2]):G:=h
theorem pm236(h:G:=by
 subst lH
 injection hv with hv _ hc
 injection hv with hv
 injection hv with hv
 subst hv;subst hc
 refine ⟨_,_,rfl,hn,.inr ⟨g,0,rfl,fun j hj=>?_⟩⟩
 first
 |clear pp236
  have hf:(qL l)[j]?=some (.int .i64 (l[j]:Nat)):=by simp[qL,hj]
  rw[<-hx]at hf
  have k0:(cur.toList.take (l.length * 1))[j]?=cur[j]?:=by rw[List.getElem?_take,if_pos (by omega)];simp
  rw[k0]at hf
  rw[Nat.zero_add]
  exact (aL hg _).trans hf
 |have hf:=tL ps j hj
  rw[<-hx]at hf
  have k0:(cur.toList.take (ps.length * 2))[j * 2]?=cur[j * 2]?:=by rw[List.getElem?_take,if_pos (by omega)];simp
  have k1:(cur.toList.take (ps.length * 2))[j * 2+1]?=cur[j * 2+1]?:=by rw[List.getElem?_take,if_pos (by omega)];simp
  rw[k0,k1]at hf
  exact ⟨by rw[Nat.zero_add];exact (aL hg _).trans hf.1,by rw[Nat.zero_add];exact (aL hg _).trans hf.2⟩):G:=h
theorem pm237(h:G:=by
 go_wp2
 go_roundw
 case rel=>exact ⟨k+1,by omega,by omega,by go_num,by rw[th s k iT hlt,HA.o,HP.o];rfl,AH HW.o _⟩
 case measure=>simp[intOf];omega):G:=h
theorem pm238(h:G:=by
 exact ⟨trivial,((Kp.below H4.o.1).trans zK).from _,rfl,by rw[sJ HG.o.1];exact Jg.o.symm,gN H4.o.2,(HG.o.2.2.trans (Kp.below H4.o.1)).trans zK⟩):G:=h
theorem pm239(h:G:=by
 obtain ⟨bb,off,⟨qo,qn,qa,ql,qc,qb,qm,qe⟩,rfl,hok,hf,c0,c1,c2,c3,c4⟩:=Tq.o.get bc
 first
 |clear pp239a
  have ma:=H2.o.1.tr az
  obtain ⟨d0,d1,d2,d3,d4⟩:=Wm ma c0 c1 c2 c3 c4
  obtain ⟨nm,c9⟩:=ao (b.fs[k].1)
  obtain ⟨g,hg⟩:=ao (b.fs[k].2)
  rw[Bj bc,<-c9,<-hg]at fL
  rw[<-c9]at d0
  have Ln:=HP.o _ (List.getElem_mem bc)
  rw[<-hg]at hf Ln
  have pp122b:=();exact pm122
 |clear pp239b
  have pp144:=();exact pm144
 |have ma:=H1.o.1.tr az
  obtain ⟨d0,d1,d2,d3,d4⟩:=Wm ma c0 c1 c2 c3 c4
  obtain ⟨nm,c9⟩:=ao (b.fs[k].1)
  obtain ⟨g,hg⟩:=ao (b.fs[k].2)
  have kO:=HP.o.1 _ (List.getElem_mem bc)
  rw[<-c9]at d0
  rw[<-c9,<-hg]at kO
  rw[<-hg]at hf
  exact pm122):G:=h
theorem pm240(h:G:=by
 obtain ⟨k,hk,rfl,row,us,hF,xS,z_⟩:=hrel
 have az:=hF.below Ml.o.1 (by omega)
 obtain ⟨ra,rc,rfl⟩:=hF.row.slice
 rw[z_]at hF
 by_cases hlt:k<m0
 first
 |clear pp240
  ·have da:=bR fN.o hlt
   exact pm65
  ·obtain rfl:k=m0:=by omega
   exact pm130
 |·have da:=bR fN.o hlt
   have pp65:=();exact pm65
  ·obtain rfl:k=m0:=by omega
   exact pm130):G:=h
theorem pm241(h:G:=by
 obtain ⟨a,cap,vs,hv,hs,h⟩:=h
 refine ⟨a,cap,vs,hv,?_,fun j hj=>(h j hj).move hb⟩
 exact pm306):G:=h
theorem pm242(h:G:=by
 obtain ⟨m,hm⟩:=ao (de (aO [] f))
 rw[<-hm]at hE
 have Hc:∀ x∈m,x.length<=2000000:=fun x hx=>by rw[hm,dj]at hx;exact nd f [] su.o.2.1.2 x hx
 first
 |clear pp242
  have E3:m.length<=2000000:=by rw[hm];have h1:=ei (aO [] f);have h2:=fj f [];have h3:=su.o.2.2;omega
  have HM:=aF Hc E3
  clear Hc E3
  exact pm88
 |have E3:m.length<=400:=by rw[hm];have h1:=ei (aO [] f);have h2:=fj f [];have h3:=su.o.2.2;omega
  have HM:=bx Hc E3 hm
  obtain ⟨HYl,HE2,za1⟩:=cf EY hE sY
  clear Hc E3 hm hE aW uU ej F0 CU EY sY tQ E0 Cf G9
  go_enter Tryz.func195,Tryz.ntmps195
  go_upto_region 2 with fail
  rw[<-eN.o]
  go_upto_region 6 with fail
  go_upto_region 7 with (go_at_call 96;refine wB.o.mono ?_;rintro e w4 ⟨rfl,aN⟩;have H4:=ab aN;clear aN)
  clear e0 e1 e2 e3
  obtain ⟨W5,eo⟩:=ao (w4.alloc (.cells #[.string ⟨cF.toArray⟩] 9))
  have CY:Below W2.heap.size W2 W5:=by rw[eo];exact H4.o.tr ct
  have y5:=bN eo
  rw[<-eo]
  clear eo
  have x5:=bC CY H2.o.2.1
  have iv:=H2.o.2.2.later CY
  have XS:=H2.o.2.2.fs.lt
  obtain ⟨S,hS⟩:∃S:World->Prop,S=fun V=>Below W5.heap.size W5 V:=⟨_,rfl⟩
  have ff:∀ V,S V->V.cell? ⟨kb,0,none⟩=some (.map (some mF))/\V.cell? ⟨w.heap.size+1,1,none⟩=some (.string ⟨n.toArray⟩)/\(Instr.lookup 145 (.map (some mF)) (.string ⟨n.toArray⟩) false).run Tryz.prog V=.ok (.agg #[.int .u8 g0,.string g1,.slice g2 g3 g4,.slice g5 g6 g7]) V:=fun V h=>by
   rw[hS]at h
   exact ⟨aa h (ai iv.box 0),aa h (ai x5 1),za1.o V (((CY.tr h).block _ XS))⟩
  have dB:S W5.drew:=by rw[hS];exact (Below.refl _ _).drew
  have HC:=ab (fun (V:World) (h:Below W5.heap.size W5 V)=>oK f su.o.2.1 (by have:=su.o.2.2;omega) _ V ⟨g0,g1,g2,g3,g4,g5,g6,g7⟩ ((su.o.1.later CY).later h))
  simp only[FQ.val,<-HM.o.2.2]at HC
  have dr:=ab hS
  have H5:=bx CY y5 iv
  clear hS x5 iv XS CY y5
  refine (wpIn_wide (n:=3)).1 ?_
  refine br S 9 (by kernel_rfl) dB (fun jr dt=>?_)
  refine bS 0 34 (.pointer (some ⟨kb,0,none⟩)) rfl dt fun eC=>?_
  simp only[ak]
  refine bS 1 35 (.pointer (some ⟨kb,0,none⟩)) rfl eC fun eX=>?_
  simp only[ak]
  refine bS 2 36 (.pointer (some ⟨kb,0,none⟩)) rfl eX fun fM=>?_
  simp only[ak]
  refine dc 3 37 (.map (some mF)) rfl (fun V hX=>by obtain ⟨h0,h1,h2⟩:=ff V hX;go_simp) fM fun gE=>?_
  simp only[ak]
  refine bS 4 38 (.pointer (some ⟨w.heap.size+1,1,none⟩)) rfl gE fun iu=>?_
  simp only[ak]
  refine dc 5 39 (.string ⟨n.toArray⟩) rfl (fun V hX=>by obtain ⟨h0,h1,h2⟩:=ff V hX;go_simp) iu fun iP=>?_
  simp only[ak]
  refine dc 6 40 (.agg #[.int .u8 g0,.string g1,.slice g2 g3 g4,.slice g5 g6 g7]) rfl (fun V hX=>by obtain ⟨h0,h1,h2⟩:=ff V hX;go_simp) iP fun kV=>?_
  simp only[ak]
  refine b_ 7 rfl fun K hK=>?_
  go_simp
  refine callsIn_wide.2 ((HC.o _ (by have h:=dt;rw[dr.o]at h;exact h)).mono ?_)
  rintro e w7 ⟨⟨v7,rfl,Kb⟩,eT⟩
  have H7:=ab (((Below.refl W5.heap.size W5).drew).trans eT)
  have SV:=ab (pE m (by have:=HM.o.2.1;omega) HM.o.1 _ w7 v7 Kb.1)
  refine hK _ _ (fun _=>by rw[dr.o];exact H7.o) (fun _=>?_)
  clear hK K eT Kb
  refine b_ 8 rfl fun K hK=>?_
  go_simp
  refine callsIn_wide.2 (SV.o.mono ?_)
  rintro e w8 ⟨⟨v8,rfl,EC⟩,RQ⟩
  have f_:Below W5.heap.size W5 w8:=jW (w:=W5) H7.o RQ
  have H8:=aF f_ (EC.base (lo':=W5.heap.size) (by exact Nat.le_refl _))
  refine hK _ _ (fun _=>by rw[dr.o];exact H8.o.1) (fun _=>?_)
  clear hK K RQ f_ EC
  refine b_ 9 rfl fun K hK=>?_
  have pp86k:=();exact pm86):G:=h
theorem pm243(h:G:=by
 obtain ⟨ra,rc,rfl⟩:=hF.row.slice
 rw[cA]at hF
 obtain ⟨S,hS⟩:∃S:World->Prop,S=fun V=>Below wr.heap.size wr V:=⟨_,rfl⟩
 have xb:=hF.box
 first
 |clear pp243
  have k0:=ai g_.box 0
  have r0:=ai xb 0
  have X_:=g_.fs.lt
  have ff:∀ V,S V->V.cell? ⟨w.heap.size+1,0,none⟩=some (.slice ra j rc)/\V.cell? ⟨kb,0,none⟩=some (.map (some mF))/\(Instr.lookup 145 (.map (some mF)) (.string ⟨nm.toArray⟩) false).run Tryz.prog V=.ok (.agg #[.int .u8 g0,.string g1,.slice g2 g3 g4,.slice g5 g6 g7]) V:=fun V h=>by
   rw[hS]at h
   exact ⟨aa h r0,aa h k0,(hlk V (h.block _ X_)).2⟩
  have dB:S wr.drew:=by rw[hS];exact (Below.refl _ _).drew
  obtain ⟨dr,HF,dH,bW⟩:=eA hS hF cA az
  have HC:=ab (fun (V:World) (h:Below wr.heap.size wr V)=>mI k.fs[j].2 (HP.o.2.2.1 _ EV) ok V ⟨g0,g1,g2,g3,g4,g5,g6,g7⟩ (nl.later h))
  simp only[FQ.val]at HC
  have OT:=ab (show k.fs.take j ++ [(nm,k.fs[j].2)]=k.fs.take (j+1) by rw[c9,List.take_add_one,List.getElem?_eq_getElem da];rfl)
  have BI:(j:Int)<(n1:Int):=by omega
  have pp168:=();exact pm168
 |have k0:=ai g_.box 1
  have r0:=ai xb 1
  have X_:=g_.ts.lt
  have ff:∀ V,S V->V.cell? ⟨w.heap.size+1,1,none⟩=some (.slice ra j rc)/\V.cell? ⟨kb,1,none⟩=some (.map (some mT))/\(Instr.lookup 146 (.map (some mT)) (.string ⟨nm.toArray⟩) false).run Tryz.prog V=.ok (.agg #[.bool g0,.string g1,.slice g2 g3 g4]) V:=fun V h=>by
   rw[hS]at h
   exact ⟨aa h r0,aa h k0,(hlk V (h.block _ X_)).2⟩
  have dB:S wr.drew:=by rw[hS];exact (Below.refl _ _).drew
  obtain ⟨dr,HF,dH,bW⟩:=eA hS hF cA az
  have HC:=ab (fun (V:World) (h:Below wr.heap.size wr V)=>mV k.ts[j].2 (HP.o.2.2.2 _ EV) ok V ⟨g0,g1,g2,g3,g4⟩ (nl.later h))
  simp only[TQ.val]at HC
  have OT:=ab (show k.ts.take j ++ [(nm,k.ts[j].2)]=k.ts.take (j+1) by rw[c9,List.take_add_one,List.getElem?_eq_getElem da];rfl)
  have BI:(j:Int)<(n2:Int):=by omega
  exact pm168):G:=h
theorem pm244(h:G:=by
 have tx:=n8.o b gV
 have d0:=aZ.cell tx c0
 have d1:=aZ.cell tx c1
 have d2:=aZ.cell tx c2
 first
 |clear pp244a
  have nM:=ii l (k+1)
  have gW:=lQ bc
  have D3:=ru bc
  have BS:=wV (sc:=sc) bc
  have fO:TermV ok wr u.val l[k]:=hu.move (fun b hok hlt=>⟨hok,aZ.same b hlt (n8.o b hok)⟩)
  have SD:=oz l[k]
  have eD:=HL.o l[k] (List.getElem_mem bc) ok J sc (left - ac (l.take k)) bh aX (wr.alloc (.cells #[.bool u.v,.string u.n,.slice u.a u.l u.c] 43)) u (fO.later ct) n8.o (hj.later ct) (by omega) (by omega) Li hd (by omega)
  obtain ⟨bb,cv⟩:=ao (iX sc l[k] && (decide ((nodesT l[k]:Int)<=left - ac (l.take k)) && decide (aX+cR l[k]<=bh+1)))
  rw[<-cv]at eD
  cases bb with
  | true=>
   have m4:=cv.symm
   simp only[Bool.and_eq_true,decide_eq_true_eq]at m4
   have hrel:dO sc (l.take (k+1))=true/\((ac (l.take (k+1)):Int))<=left/\aX+bz (l.take (k+1))<=bh+1/\left - ac (l.take k) - nodesT l[k]=left - ac (l.take (k+1)):=⟨by rw[BS,ha,m4.1];rfl,by omega,by omega,by omega⟩
   obtain ⟨HR,HC,jA⟩:=cf hrel eD aZ
   clear hrel eD cv m4 BS D3 gW nM SD ha hb hc hj aZ hu fO c0 c1 c2
   go_wp2_with (go_at_call 122;refine HC.o.mono ?_;rintro e w3 ⟨rfl,ju,l3,n9,Iw,O5,Gd⟩;have HH:=bx ju n9 (Gd rfl);clear ju n9 Iw O5 Gd)
   go_roundw
   case rel=>exact ⟨k+1,by omega,by go_num,jA.o.trans ((Kp.below ct).trans HH.o.1),by rw[<-HR.o.2.2.2,<-HH.o.2.2];exact HH.o.2.1,HR.o.1,HR.o.2.1,HR.o.2.2.1⟩
   case measure=>simp[intOf];omega
  | false=>
   have jd:(dO sc l && (decide ((ac l:Int)<=left) && decide (aX+bz l<=bh+1)))=false:=by
    have c9:=ii l (k+1)
    have Z8:=D2 bc
    cases h1:iX sc l[k] with
    | false=>rw[LO bc h1];rfl
    | true=>
     rw[h1,Bool.true_and]at cv
     have cv:=cv.symm
     rw[Bool.and_eq_false_iff]at cv
     rcases cv with cv | cv
     ·have:decide ((ac l:Int)<=left)=false:=by simp at cv ⊢;omega
      rw[this];simp
     ·have:decide (aX+bz l<=bh+1)=false:=by simp at cv ⊢;omega
      rw[this];simp
   obtain ⟨HF,HC,jA⟩:=cf jd eD aZ
   clear jd eD cv BS D3 gW nM SD ha hb hc hj aZ hu fO c0 c1 c2
   go_wp2_with (go_at_call 122;refine HC.o.mono ?_;rintro e w3 ⟨rfl,ju,l3,n9,Iw,O5,Gd⟩;have HH:=ce ju n9 Iw O5;clear ju n9 Iw O5 Gd)
   go_ret
   exact ⟨aA HF.o.symm,jA.o.trans ((Kp.below ct).trans HH.o.1),l3,HH.o.2.1,HH.o.2.2.1,by have:=HH.o.2.2.2;omega,fun h=>by rw[HF.o]at h;cases h⟩
 |clear pp244b
  have gW:=lQ bc
  have nM:=ii l (j+1)
  have hf:=HF.o.mem (List.getElem_mem bc)
  have nD:=eM.o l[j] (List.getElem_mem bc)
  have fO:TermV ok wr u.val l[j]:=hu.move (fun b hok hlt=>⟨hok,aZ.same b hlt (n8.o b hok)⟩)
  obtain ⟨⟨xv,xn,xa⟩,hx⟩:∃x,l[j]=x:=⟨_,rfl⟩
  rw[hx]at fO hf nD gW
  have wW:nodesT (.mk xv xn xa)=ac xa+1:=rfl
  rw[wW]at gW
  obtain ⟨s1,h2,ej⟩:=aP.1 fO
  obtain ⟨uv,un,ua,ul,uc⟩:=u
  have pp111a:=();exact pm111
 |have d3:=aZ.cell tx c3
  have nM:=cg s (k+1)
  have gW:=dQ bc
  have D3:=gj bc
  first
  |clear pp165
   have BS:cX true (s.take (k+1))=_:=je bc
   have fO:FormV ok wr u.val s[k]:=hu.move (fun b hok hlt=>⟨hok,aZ.same b hlt (n8.o b hok)⟩)
   have eD:=eM.o s[k] (List.getElem_mem bc) ok J true (left - 1 - ac a - ah (s.take k)) bh (aX+1) (wr.alloc (.cells #[.int .u8 u.o,.string u.n,.slice u.a u.l u.c,.slice u.b u.m u.e] 36)) u ((HT.o.kp aZ (fun b hb=>by subst hb;exact Qd)).next ct) Qd (fO.later ct) n8.o (hj.later ct) (by omega) (by omega) Li (by omega) (by omega)
   obtain ⟨bb,cv⟩:=ao (okF true s[k] && (decide ((nodesF s[k]:Int)<=left - 1 - ac a - ah (s.take k)) && decide (aX+1+depthF s[k]<=bh+1)))
   rw[<-cv]at eD
   cases bb with
   | true=>
    have m4:=cv.symm
    simp only[Bool.and_eq_true,decide_eq_true_eq]at m4
    have hrel:cX true (s.take (k+1))=true/\((ah (s.take (k+1)):Int))<=left - 1 - ac a/\aX+1+aU (s.take (k+1))<=bh+1/\left - 1 - ac a - ah (s.take k) - nodesF s[k]=left - 1 - ac a - ah (s.take (k+1)):=⟨by rw[BS,ha,m4.1];rfl,by omega,by omega,by omega⟩
    exact pm95
   | false=>
    have jd:(cX true s && (decide ((ah s:Int)<=left - 1 - ac a) && decide (aX+1+aU s<=bh+1)))=false:=by
     have c9:=cg s (k+1)
     have Z8:=lT bc
     cases h1:okF true s[k] with
     | false=>rw[rA bc h1];rfl
     | true=>
      exact pm141
    exact pm105
  |have BS:cX sc (s.take (k+1))=_:=je bc
   have fO:FormV ok wr u.val s[k]:=hu.move (fun b hok hlt=>⟨hok,aZ.same b hlt (n8.o b hok)⟩)
   have eD:=eM.o s[k] (List.getElem_mem bc) ok J sc (left - 1 - ac a - ah (s.take k)) bh (aX+1) (wr.alloc (.cells #[.int .u8 u.o,.string u.n,.slice u.a u.l u.c,.slice u.b u.m u.e] 36)) u ((HT.o.kp aZ (fun b hb=>by subst hb;exact Qd)).next ct) Qd (fO.later ct) n8.o (hj.later ct) (by omega) (by omega) Li (by omega) (by omega)
   obtain ⟨bb,cv⟩:=ao (okF sc s[k] && (decide ((nodesF s[k]:Int)<=left - 1 - ac a - ah (s.take k)) && decide (aX+1+depthF s[k]<=bh+1)))
   rw[<-cv]at eD
   cases bb with
   | true=>
    have m4:=cv.symm
    simp only[Bool.and_eq_true,decide_eq_true_eq]at m4
    have hrel:cX sc (s.take (k+1))=true/\((ah (s.take (k+1)):Int))<=left - 1 - ac a/\aX+1+aU (s.take (k+1))<=bh+1/\left - 1 - ac a - ah (s.take k) - nodesF s[k]=left - 1 - ac a - ah (s.take (k+1)):=⟨by rw[BS,ha,m4.1];rfl,by omega,by omega,by omega⟩
    exact pm95
   | false=>
    have jd:(cX sc s && (decide ((ah s:Int)<=left - 1 - ac a) && decide (aX+1+aU s<=bh+1)))=false:=by
     have c9:=cg s (k+1)
     have Z8:=lT bc
     cases h1:okF sc s[k] with
     | false=>rw[rA bc h1];rfl
     | true=>
      exact pm141
    exact pm105):G:=h
theorem pm245(h:G:=by
 obtain ⟨b,off,u,rfl,_,hu,c0,c1,c2⟩:=HL.o.get bc
 obtain ⟨b',iN,u',rfl,_,fO,kg,kv,kw⟩:=HM.o.get j6
 have hf:=HF.o.mem (List.getElem_mem bc)
 first
 |clear pp245
  have Ge:=eq.o.mem (List.getElem_mem j6)
  have nD:=eM.o l[k] (List.getElem_mem bc)
  rw[Kd bc j6]at ht
  obtain ⟨e,he⟩:=ao (rY l[k] m[k])
  have f0:=fun x:Later wr=>x.get (aa az c0)
  have f1:=fun x:Later wr=>x.get (aa az c1)
  have f2:=fun x:Later wr=>x.get (aa az c2)
  have f3:=fun x:Later wr=>x.get (aa az kg)
  have f4:=fun x:Later wr=>x.get (aa az kv)
  have f5:=fun x:Later wr=>x.get (aa az kw)
  have CC:=ab (fun (x:Later wr)=>nJ l[k] nD m[k] ok ok' x.w u u' hf Ge ((hu.later az).later x.below) ((fO.later az).later x.below))
  unfold TQ.val at CC
  rw[<-he]at ht CC
  obtain ⟨HB,HT⟩:=aS az ht
  clear hu fO nD hf Ge az ht c0 c1 c2 kg kv kw he
  go_wp2
  refine aM (by kernel_rfl) (by kernel_rfl) ?_
  repeat (go_big_quiet_step ((go_at_call 226;exact bM (CC.o _))))
  refine wpQuiet_nil ?_
  rintro _ ⟨x',rfl⟩
  clear f0 f1 f2 f3 f4 f5
  have bZ:=ab (HB.o.trans (x'.below.mono HB.o.size))
  by_cases h0:e=0
  ·subst h0
   go_wp2
   go_roundw
   case rel=>exact ⟨k+1,by omega,by go_num,bZ.o,by simpa using HT.o⟩
   case measure=>simp[intOf];omega
  ·have d1:(e == 0)=false:=by simpa using h0
   have d2:(e != 0)=true:=by simpa using h0
   have HE:=ab (show R=e by have:=HT.o;simpa[h0] using this)
   clear h0
   go_wp2
   go_ret
   exact ⟨ph HE.o.symm,bZ.o⟩
 |have nD:=eM.o l[k] (List.getElem_mem bc)
  obtain ⟨⟨xv,xn,xa⟩,hx⟩:∃x,l[k]=x:=⟨_,rfl⟩
  obtain ⟨⟨yv,yn,ya⟩,hy⟩:∃x,m[k]=x:=⟨_,rfl⟩
  rw[hx]at hu hf nD
  rw[hy]at fO
  obtain ⟨s1,h1,ej⟩:=aP.1 hu
  obtain ⟨s2,h2,vT⟩:=aP.1 fO
  obtain ⟨uv,un,ua,ul,uc⟩:=u
  obtain ⟨vv,vn,va,vl,vc⟩:=u'
  have pp59e:=();exact pm59):G:=h
theorem pm246(h:G:=by
 cases e with
 | returned u=>exact ⟨keep a hy u,by rw[<-Act.put_comm a v u h2];exact he⟩
 | panicked c=>exact hQ _ _ _ he
 | outgrown=>exact he):G:=h
theorem pm247(h:G:=by
 have iD:(p2 == yn)=false:=by simpa using hb
 have HT:=ab (show kx ps.reverse xn yn=kx (ps.take j).reverse xn yn by rw[ht];simp[gu,iD])
 clear ht
 first
 |clear pp247
  have pp91c:=();exact pm91
 |go_wp2
  go_roundw
  case rel=>exact ⟨j,by omega,by go_num,kF.o.trans (ct.mono kF.o.size),HT.o⟩
  case measure=>simp[intOf];try omega):G:=h
theorem pm248(h:G:=by
 obtain ⟨a1,a2,a3,a4⟩:=f8 k g n m hw.2 hq1.2 (by omega)
 first
 |clear pp248a
  have hmx:m≠x:=fun e=>hm.1 (by rw[e];simpa using h1.2)
  have hmu:(aI u).contains m=false:=by simpa using hm.2
  have IP:nodesT (ap m)=1:=by simp[ap,nodesT,ac]
  have hU:1<=nodesT u:=by obtain ⟨_,_,_⟩:=u;simp[nodesT]
  simp only[dbF,hq,if_true,oF,iO]
  rw[rL k _ x u _ _ a1 a2 (by omega) (by omega),rL k g n (ap m) _ _ hw.2 hq1.2 (by omega) (by omega),Ei hmu]
  congr 2
  have e1:l_ (upd (upd σ m (.lvl d)) x (l_ σ u)) (ap m)=.lvl d:=by
   have:(m == x)=false:=by simpa using hmx
   simp[ap,l_,upd,this]
  rw[e1,xE _ hmx,xE (upd σ x (l_ σ u)) (x:=m) (y:=n) (fun e=>by subst e;rw[h2]at hmu;cases hmu),L4 hm.1]
 |clear pp248b
  have b0:=nc k g n (ap m) hw.2 hq1.2 (by omega) (by simp[ap,nodesT,ac]at *;omega) hf.2.2.2 (tM hm)
  have b1:=nc k _ x u a1 a2 (by omega) (by rw[a4];simp[ac]at hs;omega) b0 hu
  simp only[ks,fd,Bool.and_eq_true,decide_eq_true_eq,dP,List.map_nil,dF]
  exact ⟨hf.1,hm,trivial,b1,trivial⟩
 |clear pp248c
  obtain ⟨b1,b2,b3,b4⟩:=f8 k _ x y a1 a2 (by omega)
  simp only[iF,eF,qone,en,depthF,aU,nodesF,ah,dP,List.map_nil,eb,b1,b2,b3,b4,a3,a4,hq]
  simp
 |clear pp248d
  have b1:=sd k _ x u a1 a2 (by omega)
  rw[a4]at b1
  simp only[nodesF,ah,dP,List.map_nil,ac,Nat.add_mul]
  omega
 |obtain ⟨b1,b2⟩:=sB hu k _ x a1 a2 (by omega)
  simp[iF,eF,qone,en,dP,eb,b1,b2]):G:=h
theorem pm249(h:G:=by
 have Vr:=ei (aO [] g)
 have uJ:=fj g []
 have CT:=eG (de (aO [] g)) (by have:=mi.o.1;omega) nx _ wf vf OL.o.strs
 rw[jk,uN]at CT
 have IV:=ab CT
 first
 |clear pp249
  clear Vr uJ CT uN
  gi_wp2_with (gi_at_call 128;refine callsIn_wide.2 (IV.o.mono ?_);rintro e w4 ⟨rfl,rfl⟩)
  have CC:=mI (.mk qo n [] [g]) Vq.o.1 ok w4 ⟨qo,⟨n.toArray⟩,qa,0,qc,some ⟨b,off,none⟩,1,qe⟩ (Vq.o.2.later EA.o.below)
  simp only[FQ.val]at CC
  exact pm24
 |clear Vr uJ CT
  have CFT:=kE z My.o.1 (fun _=>True) (wf.alloc (.cells #[.int .u8 go,.string gn,.slice ga gl gc,.slice gb gm ge] 36)) ⟨zv,zn,za,zl,zc⟩ ((HZ.o.later EA.o.below).move (tf ct))
  simp only[TQ.val]at CFT
  have zaI:=ab CFT
  have Tb:=EA.o.later ((Below.refl _ _).alloc (Nat.le_refl _) (.cells #[.int .u8 go,.string gn,.slice ga gl gc,.slice gb gm ge] 36))
  obtain ⟨d0,d1,d2,d3⟩:=lg EA.o.below HC.o.1 HC.o.2.1 HC.o.2.2.1 HC.o.2.2.2
  obtain ⟨u0,u1,u2⟩:=lE Tb.bu
  obtain ⟨Cg,HCn⟩:=aS Tb uN
  clear CFT Tb uN
  gi_wp2_with fail
  refine callsIn_wide.2 (IV.o.mono ?_)
  rintro e w4 ⟨rfl,rfl⟩
  gi_wp2_with fail
  refine callsIn_wide.2 (zaI.o.mono ?_)
  rintro e w6 ⟨⟨vn,rfl,hvn⟩,cD⟩
  clear d0 d1 d2 d3 u0 u1 u2 p0 p1 p2 p3
  have Tc:=Cg.o.later cD
  have t6:w6.heap[w4.heap.size]?=some (.cells #[.int .u8 go,.string gn,.slice ga gl gc,.slice gb gm ge] 36 (0,0)):=(cD.block _ (by simp)).trans (aj rfl)
  have hlz:=ei (aI z)
  have qA:=mD z
  have CT2:=eG (de (aI z)) (by have:=My.o.2;omega) n _ w6 vn hvn.strs
  rw[jk]at CT2
  obtain ⟨zaJ,Ch,HT6,HVn⟩:=eA CT2 Tc t6 hvn
  have Pr:=ab (show Below w4.heap.size w4 w6 from ct.tr cD)
  have n1:=ai Tc.b0 1
  clear CT2 Tc t6 hlz qA hvn cD
  gi_wp2_with fail
  refine callsIn_wide.2 (zaJ.o.mono ?_)
  rintro e w7 ⟨rfl,rfl⟩
  cases MC:(aI z).contains n with
  | false=>
   have tP:Hd (RS=.mk qo n [] [ep kk nx z g]):=ab (by rw[Ro.o,na n_,HCn.o,MC,if_neg (by simpa using hn)];rfl)
   have HGX:=ab ((HG.o.later EA.o.below).later Pr.o)
   clear n1 MC
   have CP:=eM.o W0 g nx z mi.o.2.2.2.2 mi.o.1 mi.o.2.1 mi.o.2.2.1 mi.o.2.2.2.1 IX.o My.o.1 My.o.2 _ _ w7 ⟨go,gn,ga,gl,gc,gb,gm,ge⟩ ⟨zv,zn,za,zl,zc⟩ (Mz.o.next Ch.o.below) HGX.o (HZ.o.later Ch.o.below)
   simp only[FQ.val,TQ.val]at CP
   have GW:=ab CP
   obtain ⟨tu0,tu1,tu2⟩:=lE Ch.o.bu
   obtain ⟨tt0,tt1,tt2,tt3⟩:=lF HT6.o
   clear CP
   gi_wp2_with fail
   refine callsIn_wide.2 (GW.o.mono ?_)
   rintro e w8 ⟨⟨⟨po,pn,pa,pl,pc,pb,pm,pe⟩,rfl,Rp⟩,f_⟩
   clear tu0 tu1 tu2 tt0 tt1 tt2 tt3
   have Td:=f_.size
   have hwX:=Ch.o.below.size
   have kG:Below w8.heap.size w8 (w8.alloc (.cells #[.int .u8 po,.string pn,.slice pa pl pc,.slice pb pm pe] 36)):=ct
   have rT:=(Ch.o.later f_).later kG
   have Xd:(w8.alloc (.cells #[.int .u8 po,.string pn,.slice pa pl pc,.slice pb pm pe] 36)).heap[w8.heap.size]?=some (.cells #[.int .u8 po,.string pn,.slice pa pl pc,.slice pb pm pe] 36 (0,0)):=aj rfl
   obtain ⟨W9,pM⟩:=ao ((w8.alloc (.cells #[.int .u8 po,.string pn,.slice pa pl pc,.slice pb pm pe] 36)).setCell ⟨w.heap.size+1+1+1,3,none⟩ (.slice (some ⟨w8.heap.size,0,none⟩) 1 1))
   have lM:=rT.setR 3 (.slice (some ⟨w8.heap.size,0,none⟩) 1 1)
   rw[<-pM]at lM
   have Xe:W9.heap[w8.heap.size]?=some (.cells #[.int .u8 po,.string pn,.slice pa pl pc,.slice pb pm pe] 36 (0,0)):=by rw[pM];exact (Below.heap_setCell _ _ _ _ (by have:=(Ch.o.later f_).lt;simp <;> omega)).trans Xd
   have Rl:FormV (w7.heap.size<=·) W9 (FQ.val ⟨po,pn,pa,pl,pc,pb,pm,pe⟩) (ep kk nx z g):=by
    rw[pM]
    exact Rp.move (fun b hok hlt=>⟨hok,(Below.heap_setCell _ _ _ _ (by have:=Ch.o.lt;simp <;> omega)).trans (kG.block b hlt)⟩)
   have yf:FormV (w7.heap.size<=·) W9 (FQ.val ⟨qo,⟨n.toArray⟩,e6,0,e7,some ⟨w8.heap.size,0,none⟩,1,1⟩) (.mk qo n [] [ep kk nx z g]):=aQ.2 ⟨_,_,rfl,bV,pz Rl (by omega) Xe⟩
   have q3:=ai rT.b2 3
   have zq3:=ae rT.b2 3
   obtain ⟨f0,f1,f2,f3⟩:=lF lM.b2
   obtain ⟨r0,r1,r2,r3⟩:=lF lM.b1
   have z0:=ae lM.b1 0
   have z1:=ae lM.b1 1
   have z2:=ae lM.b1 2
   have z3:=ae lM.b1 3
   obtain ⟨Pm,HP⟩:=aS lM yf
   have Ta:=Ch.o.lt
   rw[pM]at f0 f1 f2 f3 r0 r1 r2 r3 z0 z1 z2 z3
   have HW9:=ab pM
   clear Rp f_ Td hwX kG rT Xd pM lM Xe Rl yf
   gi_wp2
   rw[<-HW9.o]
   have x6:=kf (v0:=.int .u8 qo) (v1:=.string ⟨n.toArray⟩) (v2:=.slice e6 0 e7) (v3:=.slice (some ⟨w8.heap.size,0,none⟩) 1 1) Pm.o.b1
   have k6:=di (W:=W9) (b:=w.heap.size+1+1) (v0:=.int .u8 qo) (v1:=.string ⟨n.toArray⟩) (v2:=.slice e6 0 e7) (v3:=.slice (some ⟨w8.heap.size,0,none⟩) 1 1)
   obtain ⟨W6,cM⟩:=ao ((((W9.setCell ⟨w.heap.size+1+1,0,none⟩ (.int .u8 qo)).setCell ⟨w.heap.size+1+1,1,none⟩ (.string ⟨n.toArray⟩)).setCell ⟨w.heap.size+1+1,2,none⟩ (.slice e6 0 e7)).setCell ⟨w.heap.size+1+1,3,none⟩ (.slice (some ⟨w8.heap.size,0,none⟩) 1 1))
   rw[<-cM]at x6 k6 ⊢
   clear cM
   have g0:W6.cell? ⟨w.heap.size+1+1,0,none⟩=some (.int .u8 qo):=ai x6 0
   have g1:W6.cell? ⟨w.heap.size+1+1,1,none⟩=some (.string ⟨n.toArray⟩):=ai x6 1
   have g2:W6.cell? ⟨w.heap.size+1+1,2,none⟩=some (.slice e6 0 e7):=ai x6 2
   have g3:W6.cell? ⟨w.heap.size+1+1,3,none⟩=some (.slice (some ⟨w8.heap.size,0,none⟩) 1 1):=ai x6 3
   refine bodyPost_ret (v:=FQ.val ⟨qo,⟨n.toArray⟩,e6,0,e7,some ⟨w8.heap.size,0,none⟩,1,1⟩) (by simp[FQ.val,results,Tryz.results101,go_sem,g0,g1,g2,g3]) rfl ⟨⟨⟨qo,⟨n.toArray⟩,e6,0,e7,some ⟨w8.heap.size,0,none⟩,1,1⟩,rfl,tP.o ▸ HP.o.move (fun b hok hlt=>⟨by omega,k6.same b hlt (by omega)⟩)⟩,Below.kp1 Pm.o.below k6 (by omega)⟩
  | true=>
   have zaK:=ei (aO [] g)
   have zaL:=fj g []
   have zaM:=ei (aI z)
   have zaN:=mD z
   have Xf:=My.o.2
   have Xg:=mi.o.1
   have Xh:OwnS fX.heap.size w7 vf (de (aO [] g)):=OwnS.later (show OwnS fX.heap.size w4 vf (de (aO [] g)) from OL.o.1) Pr.o
   have Xi:∀ b,vf.ownBlock=some b->w.heap.size+3<b/\b<w4.heap.size:=fun b hb=>by
    have h1:=(OL.o.1.lt b hb)
    have h2:=HPB.o.lt
    exact ⟨by omega,by omega⟩
   obtain ⟨m,hm⟩:=ao (dq (aO [] g ++ aI z))
   have IY:dq (de (aO [] g) ++ de (aI z))=m:=by rw[hm];exact GU (by omega) (by omega) (by omega) (by omega)
   have tQ:m.length<=2000000:=by rw[hm];exact nb (by simp only[List.length_append];omega)
   have nN:∀ x∈de (aO [] g) ++ de (aI z),x.length<=2000000:=fun x hx=>by
    rcases List.mem_append.1 hx with hx | hx
    ·exact nd g [] mi.o.2.2.2.2.2 x ((dj x _).1 hx)
    ·exact ln z My.o.1.2 x ((dj x _).1 hx)
   have mv:(de (aO [] g) ++ de (aI z)).length<=1000000:=by simp only[List.length_append];omega
   have tP:Hd (RS=.mk qo m [] [ep kk nx z (ep kk n (ap m) g)]):=ab (by rw[Ro.o,na n_,HCn.o,MC,if_neg (by simpa using hn),if_pos rfl,<-hm];rfl)
   have HM:=ce IY tQ nN mv
   obtain ⟨HVB,HV6⟩:=aS Xi Xh
   have HL6:=ab (show fX.heap.size<=w7.heap.size from Nat.le_trans (by have:=EA.o.below.size;have:=HPB.o.lt;exact zaH.o) Pr.o.size)
   have Te:=ab (show (de (aO [] g)).length+(de (aI z)).length<=4000000 by omega)
   clear n1 MC zaK zaL zaM zaN Xf Xg Xh Xi hm IY tQ nN mv
   gi_wp2_with (gi_at_builtin;refine nR rfl _ _ rfl fX.heap.size HL6.o vf _ rfl HV6.o vn _ rfl _ HVn.o.strs Te.o ?_;intro v8 w8 EC Rq;have Ps:=aF EC Rq;clear EC Rq)
   have Tf:=Ch.o.grown Ps.o.2 (fun b hb=>(HVB.o b hb).1)
   have t8:w8.heap[w4.heap.size]?=some (.cells #[.int .u8 go,.string gn,.slice ga gl gc,.slice gb gm ge] 36 (0,0)):=(Ps.o.2.block _ (by have:=Pr.o.size;have:=(bl HT6.o);omega) (fun e=>by have:=(HVB.o _ e.symm).2;omega)).trans HT6.o
   have Tg:=AQ W0 w8 (Mz.o.next Tf.below) _ HM.o.2.2.2 HM.o.2.2.1 _ v8 Ps.o.1.strs
   rw[HM.o.1]at Tg
   obtain ⟨Th,zaO,HT8⟩:=cf Tg Tf t8
   clear Tg Tf t8
   refine callsIn_wide.2 (Th.o.mono ?_)
   rintro e w9 ⟨rfl,kG⟩
   have rT:=zaO.o.later kG
   have t9:w9.heap[w4.heap.size]?=some (.cells #[.int .u8 go,.string gn,.slice ga gl gc,.slice gb gm ge] 36 (0,0)):=bC kG HT8.o
   have q1:=ai rT.b2 1
   have zq1:=ae rT.b2 1
   have lM:=rT.setR 1 (.string ⟨m.toArray⟩)
   have tA:(w9.setCell ⟨w.heap.size+1+1+1,1,none⟩ (.string ⟨m.toArray⟩)).heap[w4.heap.size]?=some (.cells #[.int .u8 go,.string gn,.slice ga gl gc,.slice gb gm ge] 36 (0,0)):=(Below.heap_setCell _ _ _ _ (by have:=EA.o.lt;simp <;> omega)).trans t9
   obtain ⟨J9,Ti⟩:=aS lM tA
   clear kG rT t9 lM tA
   gi_wp2
   obtain ⟨W2,aY⟩:=ao (w9.setCell ⟨w.heap.size+1+1+1,1,none⟩ (.string ⟨m.toArray⟩))
   rw[<-aY]at J9 Ti ⊢
   clear aY q1 zq1
   exact pm156):G:=h
theorem pm250(h:G:=by
 obtain ⟨a,cap,hv,hc,h⟩:=h
 refine ⟨a,cap,hv,hc,?_⟩
 first
 |clear pp250a
  rcases h with h | ⟨b,off,ha,hok,h⟩
  ·exact .inl h
  ·by_cases h0:l=[]
   ·exact .inl h0
   ·have hk:=hb b hok (World.block_lt_of_cell? W _ (h 0 (List.length_pos_iff.2 h0)))
    exact .inr ⟨b,off,ha,hk.1,fun j hj=>cI hk.2 (h j hj)⟩
 |clear pp250b
  rcases h with h | ⟨b,off,ha,_,h⟩
  ·exact .inl h
  ·exact .inr ⟨b,off,ha,h⟩
 |clear pp250c
  rcases h with ⟨h,_⟩ | ⟨b,off,ha,h⟩
  ·exact .inl h
  ·exact .inr ⟨b,off,ha,trivial,h⟩
 |clear pp250d
  rcases h with h | ⟨b,off,ha,h⟩
  ·exact .inl h
  ·subst ha
   exact .inr ⟨b,off,rfl,fun j hj=>hk.cell (hf b (by rw[hv];rfl)) (h j hj)⟩
 |rcases h with h | ⟨b,off,ha,h⟩
  ·exact .inl h
  ·exact .inr ⟨b,off,ha,fun j hj=>aa hb (h j hj)⟩):G:=h
theorem pm251(h:G:=by
 go_enter Tryz.func17,Tryz.ntmps17
 first
 |clear pp251
  go_wp2_with (go_at_call 19;refine (CT.o _ HB.o).mono ?_;rintro e w1 ⟨rfl,hb1⟩;have dG:=ab hb1;clear hb1)
  go_ret
  exact ⟨rfl,HB.o.trans (dG.o.mono HB.o.size)⟩
 |go_wp2
  go_ret
  exact ⟨rfl,HB.o⟩):G:=h
theorem pm252(h:G:=by
 subst pS
 rw[List.getElem_append_right (by omega),List.getElem_append_right (by omega)]
 simp only[hk,Nat.sub_self,List.getElem_cons_zero]
 first
 |clear pp252
  refine ⟨trivial,hq.move (fun b hok hlt=>⟨⟨by omega,fun e=>?_⟩,hold b (by omega) hlt (fun e=>by have:=hv b e;omega)⟩)⟩
  injection e with e
  obtain rfl:g=b:=e
  rcases hg with hg | hg
  ·have:=hv g hg;omega
  ·omega
 |refine hq.move (fun b hok hlt=>⟨⟨by omega,fun e=>?_⟩,hold b (by omega) hlt (fun e=>by have:=hv b e;omega)⟩)
  injection e with e
  obtain rfl:g=b:=e
  rcases hg with hg | hg
  ·have:=hv g hg;omega
  ·omega):G:=h
theorem pm253(h:G:=by
 clear CT Vv wa fP c9 Vu hc
 go_wp2_with (go_at_call 128;refine IV.o.mono ?_;rintro e w8 ⟨rfl,rfl⟩)
 first
 |clear pp253
  obtain ⟨W8,kH,x8,k8,g0,g1,g2⟩:=rQ DE.o.1 (.bool false) (.string ⟨#[]⟩) (.slice none 0 0)
  rw[<-kH]
  refine bodyPost_ret (v:=.tuple #[TQ.val ⟨false,⟨#[]⟩,none,0,0⟩,.bool false]) (by simp[TQ.val,results,Tryz.results98,go_sem,g0,g1,g2]) rfl ⟨⟨⟨false,⟨#[]⟩,none,0,0⟩,by rw[HE.o];rfl,fun u hu=>by rw[HE.o]at hu;cases hu⟩,Below.kp1 DE.o.2 k8 (by omega)⟩
 |go_roundw
  case rel=>exact ⟨j3+1,by omega,by go_num,by simp,GN.o⟩
  case measure=>simp[intOf];omega):G:=h
theorem pm254(h:G:=by
 have uM:=h.sz.trans uG
 have LJ:=h.df.trans Sw
 have em:Below w.heap.size w W4:=aG bp h.inv.1 (fun _ h=>h.elim)
 have pp76a:=();exact pm76):G:=h
theorem pm255(h:G:=by
 have HB:=ab az
 clear CB az fP hq c0 hok
 go_wp2_with (go_at_fn g;refine HC.o.mono ?_;rintro e w4 ⟨rfl,aN⟩;have H4:=ab aN;clear aN)
 first
 |clear pp255
  go_ret
  exact ⟨.inr ⟨k,_,HE.o.2.2,rfl,HE.o.1,HE.o.2.1⟩,HB.o.tr H4.o⟩
 |go_roundw
  case rel=>exact ⟨k+1,by omega,by go_num,HB.o.tr H4.o,GN.o⟩
  case measure=>simp[intOf];omega):G:=h
theorem pm256(h:G:=by
 have hB:Below wr.heap.size wr (wr.alloc (.cells #[.int .u8 u.o,.string u.n,.slice u.a u.l u.c,.slice u.b u.m u.e] 36)):=ct
 first
 |clear pp256
  have e1:(wr.alloc (.cells #[.int .u8 u.o,.string u.n,.slice u.a u.l u.c,.slice u.b u.m u.e] 36)).cell? ⟨W.heap.size+1,0,none⟩=some (.map (some mb)):=aa hB (ai b1 0)
  have e2:(wr.alloc (.cells #[.int .u8 u.o,.string u.n,.slice u.a u.l u.c,.slice u.b u.m u.e] 36)).cell? ⟨W.heap.size+2,0,none⟩=some (.func (.yield l) #[] #[]):=aa hB (ai b2 0)
  have ry:(pre ++ (A ++ bj bs' (ss.take k)) ++ aO bs' ss[k]) <+: xs:=by
   have h1:bj bs' ss=bj bs' (ss.take (k+1)) ++ bj bs' (ss.drop (k+1)):=by
    conv=>lhs;rw[<-List.take_append_drop (k+1) ss]
    exact mc _ _ _
   have h2:=mw.o
   rw[h1,gW]at h2
   obtain ⟨r,rfl⟩:=h2
   exact ⟨bj bs' (ss.drop (k+1)) ++ r,by simp⟩
  have hNn:=sZ.o
  have CC:=eM.o ss[k] (List.getElem_mem bc) M B l J xs (pre ++ (A ++ bj bs' (ss.take k))) W0 _ u mb n' bs' zF.o S7.o HJ.o HY.o hu (aZ.trans (Kp.below hB)) (pw.same (hB.block mb pw.lt)) (by omega) (by omega) ry (HJ.o _ _ _ ((Nw.below hB)) hj)
  unfold FQ.val at CC
  have HC:=ab CC
  have HS:=bx gW Ce AO
  have jA:=ab (iT.trans (Kp.below hB))
  clear hu hB ry CC gW Ce lj AO pw aZ iT hj c0 c1 c2 c3 b0 b1 b2 hNn
  go_wp2_with (go_at_call 149;refine HC.o.mono ?_;rintro e w3 ⟨rfl,n9,ju,aJ,Mv⟩;have HH:=ce n9 ju aJ Mv;clear n9 ju aJ Mv)
  go_roundw
  case rel=>
   obtain ⟨n'',zaF,S9⟩:=HH.o.2.2.1
   exact ⟨k+1,by omega,by go_num,by rw[HS.o.1,<-List.append_assoc A];simpa using HH.o.1,HH.o.2.1,⟨n'',by have:=HS.o.2.1;have:=HS.o.2.2;omega,S9⟩,jA.o.trans HH.o.2.2.2⟩
  case measure=>simp[intOf];omega
 |have ut:=aZ.size
  have zS:∀ b,M b->b<(wr.alloc (.cells #[.int .u8 u.o,.string u.n,.slice u.a u.l u.c,.slice u.b u.m u.e] 36)).heap.size:=fun b hb=>by have:=zF.o b hb;simp;omega
  have ry:(pre ++ ([f] ++ dn (s.take k)) ++ jB s[k]) <+: xs:=by
   have h1:dn s=dn (s.take (k+1)) ++ dn (s.drop (k+1)):=by
    conv=>lhs;rw[<-List.take_append_drop (k+1) s]
    exact oB _ _
   have h2:=mw.o
   rw[h1,gW]at h2
   obtain ⟨r,rfl⟩:=h2
   exact ⟨dn (s.drop (k+1)) ++ r,by simp⟩
  have CC:=eM.o s[k] (List.getElem_mem bc) M B l J xs (pre ++ ([f] ++ dn (s.take k))) _ u zS (fun t=>(HJ.o t).mono (by simp;omega)) (HY.o.later (aZ.trans (Kp.below hB))) (hu.kp (aZ.trans (Kp.below hB))) ry (HJ.o _ _ _ (Nw.below hB) hj)
  obtain ⟨HC,HS⟩:=aS CC gW
  have jA:=ab (aZ.trans (Kp.below hB))
  clear hu hB zS ry CC gW aZ hj c0 c1 c2 c3
  gi_wp2_with (gi_at_call 151;refine callsIn_wide.2 (HC.o.mono ?_);rintro e w3 ⟨rfl,n9,ju⟩;have HH:=aF n9 ju;clear n9 ju)
  go_roundw
  case rel=>exact ⟨k+1,by omega,by go_num,by rw[HS.o];simpa using HH.o.1,jA.o.trans HH.o.2⟩
  case measure=>simp[intOf];omega):G:=h
theorem pm257(h:G:=by
 have CP:=ab (fun w:World=>hp ▸ mS s[k].toNat w)
 clear hp
 go_wp2
 go_quiet ((go_at_call 189;exact eS (CP.o _)))
 first
 |clear pp257
  go_wp2
  go_ret
  exact ⟨aA (qq (qp s k iT hlt _ HP.o)).symm,AH HW.o _⟩
 |exact pm237):G:=h
theorem pm258(h:G:=by
 have CP:=ab (fun w:World=>hp ▸ wR s[k].toNat w)
 clear hp
 go_wp2
 go_quiet ((go_at_call 217;exact eS (CP.o _)))
 first
 |clear pp258
  go_wp2
  go_ret
  exact ⟨aA (qq (qp s k iT hlt _ HP.o)).symm,AH HW.o _⟩
 |exact pm237):G:=h
theorem pm259(h:G:=by
 obtain ⟨bb,off,⟨a0,a1,a2,a3,a4,a5,a6,a7⟩,⟨b0,b1,b2,b3,b4,b5,b6,b7⟩,rfl,hok,hs,hf,c0,c1,c2,c3,c4,c5,c6,c7⟩:=HV.o.1.get j5
 first
 |clear pp259
  obtain ⟨d0,d1,d2,d3,d4,d5,d6,d7⟩:=Gf ma c0 c1 c2 c3 c4 c5 c6 c7
  simp only at d0 d1 d2 d3 d4 d5 d6 d7
  have cw:=Da j5
  have ne:=HV.o.2.2.2.2 _ (List.getElem_mem j5)
  obtain ⟨⟨s,f⟩,RV⟩:∃x,x=l[j]:=⟨_,rfl⟩
  rw[<-RV]at cw ne hs hf
  simp only at cw ne hs hf
  obtain ⟨W5,eo⟩:=ao (wr.alloc (.cells #[.int .u8 a0,.string a1,.slice a2 a3 a4,.slice a5 a6 a7,.int .u8 b0,.string b1,.slice b2 b3 b4,.slice b5 b6 b7] 50))
  have a_:=cB eo
  have x5:=bN eo
  have Ip:(j:Int)<(n1:Int):=by omega
  have CS:=y' W0 s ne.1 _ W5 ((HV.o.2.2.1.next ma).next a_) ⟨a0,a1,a2,a3,a4,a5,a6,a7⟩ ((hs.move (cU ma)).later a_)
  have CR:=fun (V:World) (h:Below W5.heap.size W5 V)=>kZ W0 f ne.2 _ V (((HV.o.2.2.1.next ma).next a_).next h) ⟨b0,b1,b2,b3,b4,b5,b6,b7⟩ (((hf.move (cU ma)).later a_).later h)
  simp only[FQ.val]at CS CR
  obtain ⟨gs,Nu⟩:=ao (fC s)
  obtain ⟨gr,Qf⟩:=ao (bP f)
  rw[<-Nu]at CS
  rw[<-Qf]at CR
  rw[<-Nu,<-Qf]at cw
  obtain ⟨s7,HCR,qd⟩:=cf CS CR eo
  have H5:=bx (ma.tr a_) a_ x5
  have bW:=ab az
  have Lq:=((H3.o.2.1 ▸ (az.block _ (bl H3.o.2.1))):wr.heap[w.heap.size+1]?=_)
  have iB:=ab (bC a_ Lq)
  clear CS CR eo a_ x5 ma az hs hf ne RV Nu Qf hok c0 c1 c2 c3 c4 c5 c6 c7 Lq j5
  cases gs with
  | false=>
   have HE:=ab (show R=(⟨[],[]⟩,j,2) by rw[HR.o];exact sG Jg.o.symm (by rw[fL,cw];rfl))
   clear fL cw
   gi_wp2_with (rw[<-qd.o];gi_at_call 26;refine callsIn_wide.2 (s7.o.mono ?_);rintro e w6 ⟨rfl,cD⟩;have OU:=bC cD iB.o;obtain ⟨y0,y1,z0,z1⟩:=qY OU;have H6:=aF cD OU;clear cD OU)
   obtain ⟨W8,kH,x8,k8,g0,g1⟩:=Au H6.o.2 (.slice none 0 0) (.slice none 0 0)
   rw[<-kH,Exit.noGoto_ret]
   have rf:Below w.heap.size w W8:=Below.kp1 (H5.o.1.tr H6.o.1) k8 (by omega)
   exact pm119
  | true=>
   cases gr with
   | false=>
    have HE:=ab (show R=(⟨[],[]⟩,j,2) by rw[HR.o];exact sG Jg.o.symm (by rw[fL,cw];rfl))
    clear fL cw
    gi_wp2_with (first | (rw[<-qd.o];gi_at_call 26;refine callsIn_wide.2 (s7.o.mono ?_);rintro e w6 ⟨rfl,cD⟩;have Nv:=bC cD H5.o.2.2;have i4:=ai Nv 4;have i5:=ai Nv 5;have i6:=ai Nv 6;have i7:=ai Nv 7;have H6:=ab cD;clear cD Nv) | (gi_at_call 39;refine callsIn_wide.2 ((HCR.o _ H6.o).mono ?_);rintro e w7 ⟨rfl,eT⟩;have T_:=bC (H6.o.tr eT) iB.o;obtain ⟨y0,y1,z0,z1⟩:=qY T_;have H7:=aF (H6.o.tr eT) T_;clear eT T_))
    obtain ⟨W8,kH,x8,k8,g0,g1⟩:=Au H7.o.2 (.slice none 0 0) (.slice none 0 0)
    rw[<-kH,Exit.noGoto_ret]
    have rf:Below w.heap.size w W8:=Below.kp1 (H5.o.1.tr H7.o.1) k8 (by omega)
    exact pm119
   | true=>
    have HG:=ab (show eZ 0 l=eZ (j+1) (l.drop (j+1)) by rw[fL,cw];rfl)
    clear fL cw
    gi_wp2_with (first | (rw[<-qd.o];gi_at_call 26;refine callsIn_wide.2 (s7.o.mono ?_);rintro e w6 ⟨rfl,cD⟩;have Nv:=bC cD H5.o.2.2;have i4:=ai Nv 4;have i5:=ai Nv 5;have i6:=ai Nv 6;have i7:=ai Nv 7;have H6:=ab cD;clear cD Nv) | (gi_at_call 39;refine callsIn_wide.2 ((HCR.o _ H6.o).mono ?_);rintro e w7 ⟨rfl,eT⟩;have H7:=ab (H6.o.tr eT);clear eT))
    go_roundw
    case rel=>exact ⟨j+1,by omega,by go_num,(bW.o.tr H5.o.2.1).tr H7.o,HG.o⟩
    case measure=>simp[intOf];omega
 |obtain ⟨d0,d1,d2,d3,d4,d5,d6,d7⟩:=Gf ky c0 c1 c2 c3 c4 c5 c6 c7
  simp only at d0 d1 d2 d3 d4 d5 d6 d7
  have cw:=y_ (step:=cm) (k:=kj) j5
  have pp58:=();exact pm58):G:=h
theorem pm260(h:G:=by
 rcases List.mem_cons.1 h with rfl | h
 ·omega
 ·have:=ih h;omega):G:=h
theorem pm261(h:G:=by
 obtain ⟨dZ,aC,fR⟩:=HH.o
 obtain ⟨hp,bY⟩:=Pm.o
 obtain ⟨aR,aq,hg⟩:=HG.o
 have uM:=aq.size
 simp only[World.size_alloc]at uM
 first
 |clear pp261
  have h4:=RowT.step (lo:=w.heap.size) (v:=.slice ra k rc) (ts:=l.take k) (t:=l[k]) (W:=wr) (W1:=A) (w4:=w4) (q:=p) (g:=g) (cap:=et) (by rw[dH.o];exact dZ) bY Mx (fun j h1 h2=>fR j h1 h2) (fun b hb=>(aC.lt b hb).2) (hp.move (fun b hok _=>⟨Nat.le_trans (by simp) hok,rfl⟩)) (by rw[dH.o];exact aR)
   (fun c _ hc hn=>(aq.block c (by simp;omega) (fun e=>hn e.symm)).trans (Below.heap_alloc _ _ _ (by omega))) (by rcases hg with h | h;exact .inl h;exact .inr (by omega))
  exact pm200
 |have h4:=RowF.step (lo:=w.heap.size) (v:=.slice ra k rc) (ts:=l.take k) (t:=l[k]) (W:=wr) (W1:=A) (w4:=w4) (q:=p) (g:=g) (cap:=et) (by rw[dH.o];exact dZ) bY Mx (fun j h1 h2=>fR j h1 h2) (fun b hb=>(aC.lt b hb).2) (hp.move (fun b hok _=>⟨Nat.le_trans (by simp) hok,rfl⟩)) (by rw[dH.o];exact aR)
   (fun c _ hc hn=>(aq.block c (by simp;omega) (fun e=>hn e.symm)).trans (Below.heap_alloc _ _ _ (by omega))) (by rcases hg with h | h;exact .inl h;exact .inr (by omega))
  exact pm200):G:=h
theorem pm262(h:G:=by
 obtain ⟨a',cap,hv,_,h⟩:=h
 injection hv with hv _ _
 subst hv
 first
 |clear pp262a
  rcases h with rfl | ⟨b,off,ha,hc⟩
  ·simp at hj
  ·exact ⟨b,off,ha,hc⟩
 |clear pp262b
  rcases h with rfl | ⟨b,off,ha,hok,hc⟩
  ·simp at hj
  ·exact ⟨b,off,ha,hok,hc j hj⟩
 |clear pp262c
  rcases h with rfl | ⟨b,off,ha,hc⟩
  ·exact absurd rfl hl
  ·exact ⟨b,off,ha,hc⟩
 |rcases h with ⟨rfl,_⟩ | ⟨b,off,ha,hc⟩
  ·simp at hj
  ·exact ⟨b,off,ha,(hc j hj).1,(hc j hj).2⟩):G:=h
theorem pm263(h:G:=by
 obtain ⟨es,_,ho,_⟩:=h
 rcases gx ho with ⟨rfl,h0⟩ | ⟨g,cap,rfl,_⟩
 ·exact ⟨none,0,by rw[h0]⟩
 ·exact ⟨_,_,rfl⟩):G:=h
theorem pm264(h:G:=by
 simp only[Bool.false_eq_true,↓reduceIte,Bool.and_eq_true]at h
 first
 |clear pp264a
  exact h.2.2
 |clear pp264b
  simp[lL,B0 a h.2.2]
 |clear pp264c
  simp only[iS,Bool.and_eq_true,decide_eq_true_eq]
  exact ⟨gM h.2.1,Co a h.2.2⟩
 |exact mf a h.2.2 z (by simpa[aI] using hz)):G:=h
theorem pm265(h:G:=by
 obtain ⟨⟨a,cap,rfl,hc,h⟩,hM⟩:=h
 refine ⟨⟨a,cap,rfl,hc,?_⟩,hM⟩
 rcases h with h | ⟨b,off,rfl,h⟩
 ·exact .inl h
 first
 |clear pp265
  ·exact .inr ⟨b,off,rfl,fun j hj=>⟨hk.cell (hM b rfl) (h j hj).1,hk.cell (hM b rfl) (h j hj).2⟩⟩
 |·exact .inr ⟨b,off,rfl,fun j hj=>⟨hb.cell hl (h j hj).1,hb.cell hl (h j hj).2⟩⟩):G:=h
theorem pm266(h:G:=by
 go_wp2_with (go_at_call 119;refine (C1.o _).mono ?_;rintro e w' ⟨rfl,hb⟩)
 go_ret
 exact ⟨by simp,hb⟩):G:=h
theorem pm267(h:G:=by
 have b0:=(iT.same W.heap.size tN.o.1 tN.o.2.1).trans JL.o
 have b1:=(iT.same (W.heap.size+1) tN.o.2.2.1 tN.o.2.2.2.1).trans iB.o
 first
 |clear pp267
  have b2:=(iT.same (W.heap.size+2) tN.o.2.2.2.2.1 tN.o.2.2.2.2.2).trans HX2.o
  by_cases hlt:k<m0
  ·have bc:=bR fN.o hlt
   obtain ⟨b,off,u,rfl,gV,hu,c0,c1,c2,c3⟩:=L_.o.get bc
   exact pm294
  first
  |clear pp12
   ·obtain rfl:m0=k:=by omega
    have ht:ss.take m0=ss:=by rw[fN.o];exact List.take_length
    rw[ht]at hj AO
    have OG:=ab AO
    have HH:=ce hj aZ pw iT
    clear hj aZ pw iT ht b0 b1 b2 AO
    go_wp2
    simp only[bodyPostD]
    refine ⟨.bool true,by simp[results,Tryz.results149,go_sem],rfl,HH.o.1,HH.o.2.1,⟨n',by have:=OG.o;have:=sZ.o;omega,by have h:=HH.o.2.2.1;rw[f9.o]at h;exact h⟩,(Kp.below dG.o).trans HH.o.2.2.2⟩
  |·obtain rfl:m0=k:=by omega
    have ht:ss.take m0=ss:=by rw[fN.o];exact List.take_length
    rw[ht]at hj AO
    have OG:=ab AO
    have HH:=ce hj aZ pw iT
    have f1:wr.cell? ⟨W.heap.size+1,0,none⟩=some (.map (some mb)):=ai b1 0
    have f0:wr.cell? ⟨W.heap.size,1,none⟩=some (.string ⟨nm.toArray⟩):=ai b0 1
    have CD:=Pk mb n' W.heap.size bs nm Gp.o (by have:=OG.o;have:=sZ.o;omega) (by have:=sZ.o;omega) .returning wr f1 f0 (f9.o ▸ pw)
    have HCD:=ab CD
    clear hj aZ pw iT ht b0 b1 b2 AO CD f0 f1
    go_wp2
    refine leaves_cons (f:=215) (args:=#[.pointer (some ⟨W.heap.size+1,0,none⟩),.pointer (some ⟨W.heap.size,0,none⟩)]) (by simp) (by simp[go_sem]) ?_
    refine HCD.o.mono ?_
    rintro e u' w5 ⟨rfl,rfl,a_,hg5,Lk,W_⟩
    have hmS:=HMS.o
    refine ⟨.bool true,by simp[results,Tryz.results149,go_sem],rfl,HJ.o _ _ _ (W_ _ S7.o) HH.o.1,Mu HH.o.2.1 (W_ _ S7.o) (Nat.le_refl _),⟨n'+1,by have:=OG.o;have:=sZ.o;omega,a_⟩,((Kp.below dG.o).trans HH.o.2.2.2).trans ⟨hg5.os,hg5.tape,hg5.output,Nat.le_of_eq Lk.symm,fun b hb hm=>hg5.block b hb (fun h=>hm (.inr (by cases h;rfl)))⟩⟩
 |have x0:wr.cell? ⟨W.heap.size,0,none⟩=some (.int .u8 uo):=ai b0 0
  have x1:wr.cell? ⟨W.heap.size,1,none⟩=some (.string ⟨nm.toArray⟩):=ai b0 1
  have x2:wr.cell? ⟨W.heap.size,2,none⟩=some (.slice ua k0 uc):=ai b0 2
  have x3:wr.cell? ⟨W.heap.size,3,none⟩=some (.slice ub m0 ue):=ai b0 3
  have x4:wr.cell? ⟨W.heap.size+1,0,none⟩=some (.map (some mb)):=ai b1 0
  cases n_:bn uo with
  | false=>
   have f9:Hd (bs'=bs):=ab (by rw[f9.o,n_];rfl)
   have pp287:=();exact pm287
  | true=>
   have f9:Hd (bs'=nm :: bs):=ab (by rw[f9.o,n_];rfl)
   exact pm287):G:=h
theorem pm268(h:G:=by
 have nP:W2.heap.size=w.heap.size+1+1:=by omega
 have HZ3:=ab nP
 rw[nP]at C2
 obtain ⟨wD,bZ,eN,SK⟩:=eA C2 bA aY nM
 rw[aY]at wD
 first
 |clear pp268
  clear C2 bA aY nM pi hq aD hO nP
  obtain ⟨qv,qn,qa,ql,qc⟩:=q
  unfold TQ.val
  go_enter Tryz.func166,Tryz.ntmps166
  go_wp2_with (go_at_call 220;refine (zU ⟨qv,qn,qa,ql,qc⟩ _).mono ?_;rintro e w2 ⟨rfl,rfl⟩)
  exact pm71
 |clear C2 bA aY nM pi hq aD hO nP yd
  obtain ⟨qo,qn,qa,ql,qc,qb,qm,qe⟩:=q
  unfold FQ.val
  go_enter Tryz.func40,Tryz.ntmps40
  go_wp2_with (go_at_call 85;refine (Ac ⟨qo,qn,qa,ql,qc,qb,qm,qe⟩ _).mono ?_;rintro e w2 ⟨rfl,rfl⟩)
  exact pm71):G:=h
theorem pm269(h:G:=by
 obtain ⟨qs,hk,ho,ht⟩:=h
 exact ⟨qs,hk,ba ho hb,fun j h1 h2=>(ht j h1 h2).move (fun b hok hlt=>⟨hok,hb b hok.1 hlt⟩)⟩):G:=h
theorem pm270(h:G:=by
 rintro D c pre X _ hD cV ⟨rfl,k',er,h2,h3,h4,h5,h6⟩ hd
 obtain ⟨rs,Ys⟩:=cV
 have Uh:=oY pre rs kj k' er h2 h3
 rw[Ys]at Uh
 first
 |clear pp270
  have gh:fw cm 0 k l=(k',j,er):=by rw[RJ.o,Uh,if_neg h2]
  have HE:=ab (show R=(⟨[],[]⟩,j,er) by rw[Cb.o,<-qN.o.1 (by simp),gh];exact if_pos h2)
  exact pm100
 |have gh:fw gP 0 k l=(k',j,er):=by rw[RJ.o,Uh,if_neg h2]
  have HE:=ab (show R=(⟨[],[]⟩,j,er) by rw[Cb.o,qN.o.2.1 (by simp)];simp only[ne_eq,not_true_eq_false,↓reduceIte];rw[gh];exact if_pos h2)
  exact pm100):G:=h
theorem pm271(h:G:=by
 have gW:=eE bc
 have hB:Below wr.heap.size wr (wr.alloc (.cells #[.bool u.v,.string u.n,.slice u.a u.l u.c] 43)):=ct
 first
 |clear pp271
  have ut:=iT.size
  have WY:=HMW.o.1
  have Mf:=HS1.o
  have zS:∀ b,(M b\/b=mb)->b<(wr.alloc (.cells #[.bool u.v,.string u.n,.slice u.a u.l u.c] 43)).heap.size:=fun b hb=>by
   rcases hb with hb | hb
   ·have:=zF.o b hb;have:=HMW.o.2;simp;omega
   ·simp;omega
  have ry:(ar (a.take k) ++ aI a[k]) <+: ar a:=by
   exact pm298
  have CC:=yb (W.heap.size+1) (W.heap.size+2) a[k] (HFT.o _ (List.getElem_mem bc)) (fun b=>M b\/b=mb) wr.heap.size (FrJ J pre M W0 mb n bs l W.heap.size) (ar a) (ar (a.take k)) _ u zS (fun t=>(HFA.o wr ut t).mono (by simp)) HG.o
   ((hu.move (ok':=fun b=>b<wr.heap.size/\¬(M b\/b=mb)) (fun b hb hlt=>⟨⟨Nat.lt_of_lt_of_le hlt hj.kp.size,fun h=>by rcases h with h | h;exact hb.2 h;have:=S7.o;omega⟩,(Kp.trans hj.kp (Kp.below hB)).same b hlt hb.2⟩))) ry (HFA.o wr ut _ _ _ (Nw.below hB) hj)
  unfold TQ.val frV at CC
  obtain ⟨HC,HS⟩:=aS CC gW
  have jA:=ab (iT.trans (Kp.below hB))
  clear hu hB zS ry CC gW iT hj c0 c1 c2 WY Mf ut
  go_wp2_with (go_at_call 214;refine HC.o.mono ?_;rintro e w3 ⟨rfl,n9,ju⟩;have HH:=aF n9 ju;clear n9 ju)
  go_roundw
  case rel=>exact ⟨k+1,by omega,by go_num,by rw[HS.o];exact HH.o.1,jA.o.trans HH.o.2⟩
  case measure=>simp[intOf];omega
 |have ut:=aZ.size
  have zS:∀ b,M b->b<(wr.alloc (.cells #[.bool u.v,.string u.n,.slice u.a u.l u.c] 43)).heap.size:=fun b hb=>by have:=zF.o b hb;simp;omega
  first
  |clear pp33a
   have ry:(pre ++ ([] ++ ar (a.take k)) ++ aI a[k]) <+: xs:=by
    exact pm82
   have CC:=eM.o a[k] (List.getElem_mem bc) M B l J xs (pre ++ ([] ++ ar (a.take k))) _ u zS (fun t=>(HJ.o t).mono (by simp;omega)) (HY.o.later (aZ.trans (Kp.below hB))) (hu.kp (aZ.trans (Kp.below hB))) ry (HJ.o _ _ _ (Nw.below hB) hj)
   unfold TQ.val at CC
   obtain ⟨HC,HS⟩:=aS CC gW
   have jA:=ab (aZ.trans (Kp.below hB))
   clear hu hB zS ry CC gW aZ hj c0 c1 c2
   gi_wp2_with (gi_at_call 214;refine callsIn_wide.2 (HC.o.mono ?_);rintro e w3 ⟨rfl,n9,ju⟩;have HH:=aF n9 ju;clear n9 ju)
   go_roundw
   case rel=>exact ⟨k+1,by omega,by go_num,by rw[HS.o];simpa using HH.o.1,jA.o.trans HH.o.2⟩
   case measure=>simp[intOf];omega
  |clear pp33b
   have ry:(pre ++ ([n] ++ ar (a.take k)) ++ aI a[k]) <+: xs:=by
    exact pm82
   have CC:=eM.o a[k] (List.getElem_mem bc) M B l J xs (pre ++ ([n] ++ ar (a.take k))) _ u zS (fun t=>(HJ.o t).mono (by simp;omega)) (HY.o.later (aZ.trans (Kp.below hB))) (hu.kp (aZ.trans (Kp.below hB))) ry (HJ.o _ _ _ (Nw.below hB) hj)
   unfold TQ.val at CC
   obtain ⟨HC,HS⟩:=aS CC gW
   have jA:=ab (aZ.trans (Kp.below hB))
   clear hu hB zS ry CC gW aZ hj c0 c1 c2
   gi_wp2_with (gi_at_call 214;refine callsIn_wide.2 (HC.o.mono ?_);rintro e w3 ⟨rfl,n9,ju⟩;have HH:=aF n9 ju;clear n9 ju)
   go_roundw
   case rel=>exact ⟨k+1,by omega,by go_num,by rw[HS.o];simpa using HH.o.1,jA.o.trans HH.o.2⟩
   case measure=>simp[intOf];omega
  |clear pp33c
   have ry:(pre ++ ([] ++ ar (a.take k)) ++ aI a[k]) <+: xs:=by
    exact pm82
   have CC:=eM.o a[k] (List.getElem_mem bc) M B J xs (pre ++ ([] ++ ar (a.take k))) _ u zS (fun t=>(HJ.o t).mono (by simp;omega)) HG.o (hu.kp (aZ.trans (Kp.below hB))) ry (HJ.o _ _ _ ((Nw.below hB)) hj)
   unfold TQ.val at CC
   obtain ⟨HC,HS⟩:=aS CC gW
   have jA:=ab (aZ.trans (Kp.below hB))
   clear hu hB zS ry CC gW aZ hj c0 c1 c2
   go_wp2_with (go_at_call 214;refine HC.o.mono ?_;rintro e w3 ⟨rfl,n9,ju⟩;have HH:=aF n9 ju;clear n9 ju)
   go_roundw
   case rel=>exact ⟨k+1,by omega,by go_num,by rw[HS.o];simpa using HH.o.1,jA.o.trans HH.o.2⟩
   case measure=>simp[intOf];omega
  |have ry:(pre ++ ([n] ++ ar (a.take k)) ++ aI a[k]) <+: xs:=by
    exact pm82
   have CC:=eM.o a[k] (List.getElem_mem bc) M B J xs (pre ++ ([n] ++ ar (a.take k))) _ u zS (fun t=>(HJ.o t).mono (by simp;omega)) HG.o (hu.kp (aZ.trans (Kp.below hB))) ry (HJ.o _ _ _ ((Nw.below hB)) hj)
   unfold TQ.val at CC
   obtain ⟨HC,HS⟩:=aS CC gW
   have jA:=ab (aZ.trans (Kp.below hB))
   clear hu hB zS ry CC gW aZ hj c0 c1 c2
   go_wp2_with (go_at_call 214;refine HC.o.mono ?_;rintro e w3 ⟨rfl,n9,ju⟩;have HH:=aF n9 ju;clear n9 ju)
   go_roundw
   case rel=>exact ⟨k+1,by omega,by go_num,by rw[HS.o];simpa using HH.o.1,jA.o.trans HH.o.2⟩
   case measure=>simp[intOf];omega):G:=h
theorem pm272(h:G:=by
 obtain ⟨W6,cM,x6,k6,g0,g1,g2,g3⟩:=xW H5.o.2 (.int .u8 0) (.string ⟨#[]⟩) (.slice none 0 0) (.slice none 0 0)
 rw[<-cM]
 first
 |clear pp272
  have HE:=ab (show RS=none from Mo.o.2.1 (GN.o (by simp)))
  exact pm123
 |have HE:=ab (show RS=none from Cb.o.1 (GN.o (by simp)))
  exact pm123):G:=h
theorem pm273(h:G:=by
 go_wp2
 go_ret
 exact ⟨aA (tj (by rw[i9];omega) HR.o (by rw[mt h1];exact HF.o) (by have:=HA.o;rwa [wP]at this)).symm,HW.o⟩):G:=h
theorem pm274(h:G:=by
 intro m ok ok' w a n c a' n' c' aD hl hm
 obtain rfl:=hl.len
 obtain rfl:=hm.len
 have cq:=aD.len
 by_cases mv:l.length=m.length
 first
 |clear pp274
  ·obtain ⟨k0,bO⟩:=ao l.length
   rw[<-mv,<-bO]
   rw[<-bO]at cq
   obtain ⟨cY,Te,HL,HM,eM,HF⟩:=So bO mv hl hm ih aD
   clear bO mv hl hm ih aD
   go_enter Tryz.func19,Tryz.ntmps19
   have pp171:=();exact pm171
  ·have jt:iy l m=false:=by
    cases he:iy l m with
    | false=>rfl
    | true=>exact absurd (by rw[(kQ _ _).1 he]) mv
   have pp157:=();exact pm157
 |·obtain ⟨k0,bO⟩:=ao l.length
   rw[<-mv,<-bO]
   rw[<-bO]at cq
   obtain ⟨cY,Te,HL,HM,eM,HF⟩:=So bO mv hl hm ih aD
   clear bO mv hl hm ih aD
   go_enter Tryz.func52,Tryz.ntmps52
   exact pm171
  ·have jt:mm l m=false:=by
    cases he:mm l m with
    | false=>rfl
    | true=>exact absurd (by rw[(mx _ _).1 he]) mv
   exact pm157):G:=h
theorem pm275(h:G:=by
 obtain ⟨b,rfl,h1,h2,_⟩:=hv
 obtain ⟨b',cs,rfl,h3,q,hq,h4⟩:=hf
 cases h1
 first
 |clear pp275a
  simp only[FQ.val,Value.agg.injEq]at hq
  exact pm137
 |clear pp275b
  simp only[TQ.val,Value.agg.injEq]at hq
  exact pm137
 |simp only[BQ.val,Value.agg.injEq]at hq
  exact pm137):G:=h
theorem pm276(h:G:=by
 rw[hb]at C
 obtain ⟨HC,HB⟩:=aS C hB
 clear C hB hJ hb hn hq hf
 have HW:=ab aY
 rw[aY]at HC
 clear aY
 unfold FQ.val at HC ⊢
 first
 |clear pp276
  obtain ⟨bb,cv⟩:=ao (bP t)
  rw[<-cv]at HC ⊢
  clear cv
  cases bb
  all_goals
   go_enter Tryz.func39,Tryz.ntmps39
   go_wp2_with (go_at_call 64;refine HC.o.mono ?_;rintro e w3 ⟨rfl,ju,_⟩;have lJ:=ab ju;clear ju)
   go_ret
   refine ⟨rfl,?_⟩
   rw[<-HW.o]at lJ
   exact Below.kp1 HB.o lJ.o (by omega)
 |obtain ⟨bb,cv⟩:=ao (fC t)
  rw[<-cv]at HC ⊢
  clear cv
  cases bb
  all_goals
   go_enter Tryz.func26,Tryz.ntmps26
   go_wp2_with (go_at_call 64;refine HC.o.mono ?_;rintro e w3 ⟨rfl,ju,_⟩;have lJ:=ab ju;clear ju)
   go_ret
   refine ⟨rfl,?_⟩
   rw[<-HW.o]at lJ
   exact Below.kp1 HB.o lJ.o (by omega)):G:=h
theorem pm277(h:G:=by
 have hli:¬((n1:Int)=(n2:Int)):=by omega
 have hlb:((n1:Int) == (n2:Int))=false:=by simp[hli]
 have IU:(n == n)=true:=by simp
 first
 |clear pp277
  clear mO G5 zG
  have pp8b:=();exact pm8
 |exact pm93):G:=h
theorem pm278(h:G:=by
 refine ⟨fun h=>(by rw[h]at hr;cases hr),fun j hj=>?_⟩
 by_cases BI:j=i
 ·subst BI;exact wL tb hi hy hS ⟨fun _=>hS,H⟩
 first
 |clear pp278
  ·have:=ready_mono hj BI
   rw[H.1]at this
   cases this
 |·have h1:=H.2 j (ready_mono hj BI)
   obtain ⟨Wc,oj,Vd,dW⟩:=mem_ready.1 hj
   have F':∀ e∈oj.after,Region.binds md e=true->e.on≠i:=fun e he hb Z3=>by
    have h1:=dW e he hb
    have h0:=(mem_ready.1 hr).1
    rw[Z3]at h1
    rcases Nat.lt_or_ge i listed.size with h' | h'
    ·simp[h']at h0 h1;rw[h0]at h1;cases h1
    ·simp[Array.getElem?_eq_none h']at h1
   have h2:=DN tb Vd (Q1 j oj Vd BI Wc F') (fun cs b=>V_ i oi cs b hi) (fun cs b=>V_ j oj cs b Vd) hQ hy h1
   have Sr:∀ k ok,ops[k]?=some ok->k≠i->(listed.setIfInBounds j true).getD k true=false →
     (∀ e∈ok.after,Region.binds md e=true->e.on≠i)->oi.apart ops ok=true:=fun k ok hk Ip Lf fP=>by
    refine Q1 k ok hk Ip ?_ fP
    by_cases pS:j=k
    ·subst pS;exact Wc
    ·rw[getD_set_ne true pS]at Lf;exact Lf
   have hje:j<e:=by
    have j5:j<ops.size:=(bl Vd)
    have h7:=List.all_eq_true.1 V9 j (List.mem_range.2 j5)
    simp only[Bool.or_eq_true,decide_eq_true_eq]at h7
    rcases h7 with h7 | h7
    ·exact h7
    ·have h5:=JE hcl hj h7
     have h6:=(mem_ready.1 hr).1
     rcases Nat.lt_or_ge i listed.size with h' | h'
     ·simp[h']at h5 h6;rw[h5]at h6;cases h6
     ·simp[Array.getElem?_eq_none h']at h6
   refine wpOpIn_mono (fun a' w' h3=>⟨h3.2.1,ih (listed.setIfInBounds j true) a' w' (F9 hcl hj) Sr (ready_mono hr (Ne.symm BI)) h3.1 (h3.2.1 hje) ?_⟩) h2
   rw[Array.setIfInBounds_comm _ _ BI]
   exact h3.2.2):G:=h
theorem pm279(h:G:=by
 refine ⟨some ⟨b,0,none⟩,c,fun j=>if j=0 then p.val else q.val,rfl,.inr ⟨b,0,rfl,hok,fun j hj=>?_⟩,fun j hj=>?_⟩
 first
 |clear pp279
  ·rcases j with _ | _ | j
   ·exact ⟨_,_,_,rfl,ai hb 0,ai hb 1,ai hb 2⟩
   ·exact ⟨_,_,_,rfl,ai hb 3,ai hb 4,ai hb 5⟩
   ·simp at hj
    omega
  ·rcases j with _ | _ | j
   ·exact hx
   ·exact hy
   ·simp at hj
    omega
 |·rcases j with _ | _ | j
   ·exact ⟨_,_,_,_,rfl,ai hb 0,ai hb 1,ai hb 2,ai hb 3⟩
   ·exact ⟨_,_,_,_,rfl,ai hb 4,ai hb 5,ai hb 6,ai hb 7⟩
   ·simp at hj
    omega
  ·rcases j with _ | _ | j
   ·exact hx
   ·exact hy
   ·simp at hj
    omega):G:=h
theorem pm280(h:G:=by
 unfold Act.put
 split
 ·rename_i d' St
  have:d'≠d:=fun e=>pS (hok.one j k oj o d hj ho DC (by rw[St,e]))
  simp[this]
 ·rfl):G:=h
theorem pm281(h:G:=by
 rw[hm]
 by_cases h1:uo=vo
 ·by_cases h2:k0=m0
  ·have h3:¬k1=m1:=fun h=>zY ⟨h1,h2,h⟩
   simp[h3]
  ·simp[h2]
 ·simp[h1]):G:=h
theorem pm282(h:G:=by
 unfold ea dp cG
 cases decide (n.length<=16) <;> cases (n.head? == some 63) <;> cases uw n.tail <;> cases zL n.tail <;> rfl):G:=h
theorem pm283(h:G:=by
 rw[HE.o]
 exact H6.o.2.1.move (fun b hb hlt=>⟨Nat.le_trans H5.o.1.size hb,k8.same b hlt (by have:=(bl H5.o.2);omega)⟩)):G:=h
theorem pm284(h:G:=by
 rw[hS]at h
 exact ⟨aa h (ai iv.box 1),yx V (h.block _ bc),aa h (ai y5 0),aa h (ai y5 1),aa h (ai y5 2),aa h (ai y5 3)⟩):G:=h
theorem pm285(h:G:=by
 exact .inr ⟨b,off,ha,hk.1,fun j hj=>(hc j hj).kept hk.2⟩):G:=h
theorem pm286(h:G:=by
 have C1:=ab (fun w=>h1 ▸ l9 n w hn)
 clear h1
 go_enter Tryz.func119,Tryz.ntmps119
 first
 |clear pp286
  go_wp2_with (go_at_call 185;refine (C1.o _).mono ?_;rintro e w' ⟨rfl,hb⟩)
  go_ret
  exact ⟨by simp,hb⟩
 |go_wp2_with (first | (go_at_call 185;refine (C1.o _).mono ?_;rintro e w' ⟨rfl,hb⟩) | (go_at_call 186;refine (jL n _ hn).mono ?_;rintro e LC ⟨rfl,bA⟩))
  go_ret
  exact ⟨by simp,hb.trans (bA.mono hb.size)⟩):G:=h
theorem pm287(h:G:=by
 have CQ:=ke ⟨uo,⟨nm.toArray⟩,ua,k0,uc,ub,m0,ue⟩ wr
 simp only[FQ.val,n_]at CQ
 have FR:=ab CQ
 have HE:=bx hj ID iT
 first
 |clear pp287
  have fJ:=ab x3
  clear hj ID iT ht b0 b1 CQ n_
  go_wp2_with fail
  refine FR.o.mono ?_
  rintro e w3 ⟨rfl,aJ⟩
  have H4:=ab (show J (pre ++ (A ++ [])) w3/\Kp M W0 w3/\BoundW w3 mb (n+0) bs'/\Kp (fun b=>M b\/b=mb) W1 w3 from ⟨by simpa using HJ.o _ _ _ (Nw.below aJ) HE.o.2.1,HE.o.1.kp.trans (Kp.below aJ),by rw[f9.o];exact HE.o.1.bd.same (aJ.block mb HE.o.1.bd.lt),HE.o.2.2.trans (Kp.below aJ)⟩)
  have y3:w3.cell? ⟨W.heap.size,3,none⟩=some (.slice ub m0 ue):=aa aJ fJ.o
  clear x0 x1 x2 x3 x4 aJ
  go_wp2
  clear y3
  go_loopw [36] (fun i wr=>∃k:Nat,k<=m0/\i=.int .i64 k/\J (pre ++ (A ++ bj bs' (ss.take k))) wr/\Kp M W0 wr/\(∃n',n'<=n+0+2 * ah (ss.take k)/\BoundW wr mb n' bs')/\Kp (fun b=>M b\/b=mb) W1 wr) (fun i _=>m0 - (intOf i).toNat)
  case atStart=>exact ⟨0,Nat.zero_le _,rfl,by simpa[bj] using H4.o.1,H4.o.2.1,⟨n+0,by omega,H4.o.2.2.1⟩,H4.o.2.2.2⟩
  case round=>
   have pp12:=();exact pm12
 |obtain ⟨fJ,HX4,li⟩:=cf x3 x4 x1
  clear hj ID iT ht b0 b1 CQ n_
  go_wp2_with fail
  refine FR.o.mono ?_
  rintro e w3 ⟨rfl,aJ⟩
  have pw:=HE.o.1.bd.same (aJ.block mb HE.o.1.bd.lt)
  obtain ⟨w4,cw,aN,sT,uM,FT⟩:=pw.store (bs':=nm :: bs) (x:=nm) (by have:=sZ.o;omega) Gp.o (fun y hy=>by rw[List.count_cons_of_ne];exact fun h=>hy h.symm)
  have hr:=pw.look Gp.o w3 rfl
  have hcl:bs.count nm<=4000000:=by have:=sZ.o;have:=List.count_le_length (a:=nm) (l:=bs);omega
  rw[List.count_cons_self]at cw
  obtain ⟨cn,uN⟩:=ao (bs.count nm)
  rw[<-uN]at cw hr hcl
  have cw:(Instr.mapUpdate 198 (.map (some mb)) (.string ⟨nm.toArray⟩) (.int .i64 ((cn:Int)+1))).run Tryz.prog w3=.ok () w4:=cw
  have ku:Kp (fun b=>M b\/b=mb) w3 w4:=⟨sT.os,sT.tape,sT.output,Nat.le_of_eq uM.symm,fun b hb hm=>sT.block b hb (fun h=>hm (.inr (by cases h;rfl)))⟩
  have H4:=ab (show J (pre ++ (A ++ [])) w4/\Kp M W0 w4/\BoundW w4 mb (n+1) bs'/\Kp (fun b=>M b\/b=mb) W1 w4 from ⟨by simpa using HJ.o _ _ _ (FT _ S7.o) (HJ.o _ _ _ (Nw.below aJ) HE.o.2.1),Mu (HE.o.1.kp.trans (Kp.below aJ)) (FT _ S7.o) (Nat.le_refl _),by rw[f9.o];exact aN,(HE.o.2.2.trans (Kp.below aJ)).trans ku⟩)
  have z1:w3.cell? ⟨W.heap.size,1,none⟩=some (.string ⟨nm.toArray⟩):=aa aJ li.o
  have z4:w3.cell? ⟨W.heap.size+1,0,none⟩=some (.map (some mb)):=aa aJ HX4.o
  have y3:w4.cell? ⟨W.heap.size,3,none⟩=some (.slice ub m0 ue):=ku.cell tN.o.2.1 (aa aJ fJ.o)
  clear x0 x1 x2 x3 x4 aJ pw aN sT uM FT ku uN
  go_wp2
  clear y3 z1 z4 cw hr
  go_loopw [36] (fun i wr=>∃k:Nat,k<=m0/\i=.int .i64 k/\J (pre ++ (A ++ bj bs' (ss.take k))) wr/\Kp M W0 wr/\(∃n',n'<=n+1+2 * ah (ss.take k)/\BoundW wr mb n' bs')/\Kp (fun b=>M b\/b=mb) W1 wr) (fun i _=>m0 - (intOf i).toNat)
  case atStart=>exact ⟨0,Nat.zero_le _,rfl,by simpa[bj] using H4.o.1,H4.o.2.1,⟨n+1,by omega,H4.o.2.2.1⟩,H4.o.2.2.2⟩
  case round=>
   exact pm12):G:=h
theorem pm288(h:G:=by
 have CR:=ab (fun w:World=>hr ▸ dY s w)
 clear hr
 have pp51c:=();exact pm51):G:=h
theorem pm289(h:G:=by
 have HU:=ab (hu.later az)
 have pZ:=ab (fO.later az)
 have qN:=ab (nK.o.later cQ)
 obtain ⟨vU,vV,bW,kF⟩:=eA nE he az cQ
 first
 |clear pp289
  have jx:=ce (aa bW.o kg) (aa bW.o kv) (aa bW.o kw) (aa bW.o EP)
  obtain ⟨rt,HT⟩:=aS y2 ht
  clear hu fO nE he az cQ ht c0 c1 c2 kg kv kw c3 EP
  go_wp2
  first
  |clear pp43a
   have pp11c:=();exact pm11
  |clear pp43b
   have pp11d:=();exact pm11
  |clear pp43c
   exact pm11
  |clear pp43d
   have pp11a:=();exact pm11
  |have pp11b:=();exact pm11
 |have jx:=bx (aa bW.o kg) (aa bW.o kv) (aa bW.o kw)
  first
  |clear pp79
   obtain ⟨rt,HT⟩:=aS y2 ht
   clear hu fO nE he az cQ ht c0 c1 c2 kg kv kw
   have pp61a:=();exact pm61
  |obtain ⟨rt,HT⟩:=aS y2 ht
   clear hu fO nE he az cQ ht c0 c1 c2 kg kv kw
   have pp61c:=();exact pm61):G:=h
theorem pm290(h:G:=by
 obtain ⟨fa,fl,fc,ta,tl,tc⟩:=q
 obtain ⟨rk,nV⟩:=hq
 simp only at rk nV
 first
 |clear pp290a
  obtain rfl:=rk.len
  obtain ⟨n1,dT⟩:=ao b.fs.length
  obtain ⟨R,hR⟩:=ao (getB b.fs n)
  rw[<-dT]at hF rk
  rw[<-dT,<-hR]
  obtain ⟨W2,aY⟩:=ao ((w.alloc (.cells #[.slice fa n1 fc,.slice ta tl tc] 26)).alloc (.cells #[.int .u8 0,.string ⟨#[]⟩,.slice none 0 0,.slice none 0 0] 36))
  have bA:=j7 aY
  have hO:=vE aY
  have x1:=iV aY
  obtain ⟨Tq,HP,HN⟩:=cf rk aD dT
  have H2:=bx bA hO x1
  obtain ⟨eN,HR⟩:=aS aY hR
  clear rk nV aD dT bA hO x1 aY hR
  unfold BQ.val
  go_enter Tryz.func16,Tryz.ntmps16
  go_wp2_with fail
  rw[<-eN.o]
  go_loopw [11] (fun i wr=>∃k:Nat,k<=n1/\i=.int .i64 k/\Below W2.heap.size W2 wr/\R=getB (b.fs.drop k) n) (fun i _=>n1 - (intOf i).toNat)
  case atStart=>exact ⟨0,Nat.zero_le _,rfl,Below.refl _ _,by simpa using HR.o⟩
  case round=>
   obtain ⟨k,hk,rfl,az,fL⟩:=hrel
   have hx:=bC az H2.o.2.2
   by_cases hlt:k<n1
   ·have bc:k<b.fs.length:=by rw[<-HN.o];exact hlt
    have pp239a:=();exact pm239
   ·obtain rfl:k=n1:=by omega
    have HE:=ab (show R=none by rw[fL,List.drop_eq_nil_of_le (by rw[<-HN.o];exact Nat.le_refl _)];rfl)
    obtain ⟨e0,e1,e2,e3,y0,y1,y2,y3⟩:=cW hx
    have HB:=aF hx (H2.o.1.tr az)
    clear az fL hx
    go_wp2
    obtain ⟨W8,kH,x8,k8,g0,g1,g2,g3⟩:=xW HB.o.1 (.int .u8 0) (.string ⟨#[]⟩) (.slice none 0 0) (.slice none 0 0)
    rw[<-kH]
    refine bodyPost_ret (v:=.tuple #[FQ.val ⟨0,⟨#[]⟩,none,0,0,none,0,0⟩,.bool false]) (by simp[FQ.val,results,Tryz.results16,go_sem,g0,g1,g2,g3]) rfl ⟨⟨⟨0,⟨#[]⟩,none,0,0,none,0,0⟩,by rw[HE.o];rfl,?_⟩,Below.kp1 HB.o.2 k8 (by omega)⟩
    rw[HE.o]
    exact kY
 |clear pp290b
  obtain rfl:=nV.len
  obtain ⟨n1,dT⟩:=ao b.ts.length
  obtain ⟨R,hR⟩:=ao (getB b.ts n)
  rw[<-dT]at hF nV
  rw[<-dT,<-hR]
  obtain ⟨W2,aY⟩:=ao ((w.alloc (.cells #[.slice fa fl fc,.slice ta n1 tc] 26)).alloc (.cells #[.bool false,.string ⟨#[]⟩,.slice none 0 0] 43))
  have bA:=j7 aY
  have hO:=vE aY
  have x1:=iV aY
  obtain ⟨Tq,HP,HN⟩:=cf nV aD dT
  have H2:=bx bA hO x1
  obtain ⟨eN,HR⟩:=aS aY hR
  clear rk nV aD dT bA hO x1 aY hR
  unfold BQ.val
  go_enter Tryz.func18,Tryz.ntmps18
  go_wp2_with fail
  rw[<-eN.o]
  go_loopw [11] (fun i wr=>∃k:Nat,k<=n1/\i=.int .i64 k/\Below W2.heap.size W2 wr/\R=getB (b.ts.drop k) n) (fun i _=>n1 - (intOf i).toNat)
  case atStart=>exact ⟨0,Nat.zero_le _,rfl,Below.refl _ _,by simpa using HR.o⟩
  case round=>
   obtain ⟨k,hk,rfl,az,fL⟩:=hrel
   have hx:=bC az H2.o.2.2
   by_cases hlt:k<n1
   ·have bc:k<b.ts.length:=by rw[<-HN.o];exact hlt
    obtain ⟨bb,off,⟨qo,qn,qa,ql,qc⟩,rfl,hok,hf,c0,c1,c2,c3⟩:=Tq.o.get bc
    have ma:=H2.o.1.tr az
    obtain ⟨d0,d1,d2,d3⟩:=lg ma c0 c1 c2 c3
    obtain ⟨nm,c9⟩:=ao (b.ts[k].1)
    obtain ⟨g,hg⟩:=ao (b.ts[k].2)
    rw[Bj bc,<-c9,<-hg]at fL
    rw[<-c9]at d0
    have Ln:=HP.o _ (List.getElem_mem bc)
    rw[<-hg]at hf Ln
    simp only at d1 d2 d3
    obtain ⟨W5,eo⟩:=ao (wr.alloc (.cells #[.string ⟨nm.toArray⟩,.bool qo,.string qn,.slice qa ql qc] 47))
    have a_:=cB eo
    have Ip:(k:Int)<(n1:Int):=by omega
    have qd:=ab eo
    by_cases nN:nm=n
    ·subst nN
     have IU:(nm == nm)=true:=by simp
     rw[IU]at fL
     have CC:=mV g Ln ok W5 ⟨qo,qn,qa,ql,qc⟩ ((hf.later ma).later a_)
     simp only[TQ.val]at CC
     have HC:=ab CC
     have HE:=ab (show R=some g from fL)
     have H5:=aF (ma.tr a_) (bC a_ hx)
     clear CC ma az fL hf Ln a_ hx eo hg c9 c0 c1 c2 c3 hok
     go_wp2_with (rw[<-qd.o];go_at_call 53;refine HC.o.mono ?_;rintro e w6 ⟨⟨p0,p1,p2,p3,p4⟩,rfl,hp,cD⟩;have TC:=bC cD H5.o.2;obtain ⟨e0,e1,e2,y0,y1,y2⟩:=fI TC;have H6:=bx TC hp cD;clear TC hp cD)
     obtain ⟨W8,kH,x8,k8,g0,g1,g2⟩:=rQ H6.o.1 (.bool p0) (.string p1) (.slice p2 p3 p4)
     rw[<-kH]
     refine bodyPost_ret (v:=.tuple #[TQ.val ⟨p0,p1,p2,p3,p4⟩,.bool true]) (by simp[TQ.val,results,Tryz.results18,go_sem,g0,g1,g2]) rfl ⟨⟨⟨p0,p1,p2,p3,p4⟩,by rw[HE.o];rfl,?_⟩,Below.kp1 (H5.o.1.tr H6.o.2.2) k8 (by omega)⟩
     exact pm283
    ·have IU:(nm == n)=false:=by simp[nN]
     rw[IU]at fL
     have HG:=aF (az.tr a_) (show R=getB (b.ts.drop (k+1)) n from fL)
     clear ma az fL hf Ln a_ hx eo hg c9 c0 c1 c2 c3 hok
     exact pm293
   ·obtain rfl:k=n1:=by omega
    have HE:=ab (show R=none by rw[fL,List.drop_eq_nil_of_le (by rw[<-HN.o];exact Nat.le_refl _)];rfl)
    obtain ⟨e0,e1,e2,y0,y1,y2⟩:=fI hx
    have HB:=aF hx (H2.o.1.tr az)
    clear az fL hx
    go_wp2
    obtain ⟨W8,kH,x8,k8,g0,g1,g2⟩:=rQ HB.o.1 (.bool false) (.string ⟨#[]⟩) (.slice none 0 0)
    rw[<-kH]
    refine bodyPost_ret (v:=.tuple #[TQ.val ⟨false,⟨#[]⟩,none,0,0⟩,.bool false]) (by simp[TQ.val,results,Tryz.results18,go_sem,g0,g1,g2]) rfl ⟨⟨⟨false,⟨#[]⟩,none,0,0⟩,by rw[HE.o];rfl,?_⟩,Below.kp1 HB.o.2 k8 (by omega)⟩
    rw[HE.o]
    exact Bk
 |obtain rfl:=rk.len
  obtain rfl:=nV.len
  obtain ⟨n1,dT⟩:=ao b.fs.length
  obtain ⟨n2,lH⟩:=ao b.ts.length
  first
  |clear pp193
   obtain ⟨M,hM⟩:∃M:Nat->Prop,M=fun b=>b=w.heap.size+1\/b=w.heap.size+1+1:=⟨_,rfl⟩
   rw[<-dT]at hF
   rw[<-lH]at hT
   obtain ⟨W4,uy⟩:=ao ((((w.alloc (.cells #[.slice fa n1 fc,.slice ta n2 tc] 26)).alloc (.map #[] 0)).alloc (.map #[] 0)).alloc (.cells #[.map (some (w.heap.size+1)),.map (some (w.heap.size+1+1))] 148))
   have aN:=OZ uy
   have nS:=Sq uy
   have x0:=Lz uy
   have kn4:KnV (fun b=>b<w.heap.size) PF PT W4 (w.heap.size+1+1+1) (w.heap.size+1) (w.heap.size+1+1) 0 0 ⟨[],[]⟩:=by
    refine ⟨by rw[uy];exact aj (by simp),?_,?_,by omega,by omega,by omega⟩
    ·have h:=MapV.made (P:=Tryz.prog) (k:=9) (V:=FormK (fun b=>b<w.heap.size) PF W4) (w.alloc (.cells #[.slice fa n1 fc,.slice ta n2 tc] 26))
     have hz:(w.alloc (.cells #[.slice fa n1 fc,.slice ta n2 tc] 26)).heap.size=w.heap.size+1:=by simp
     rw[hz]at h
     exact h.move (by rw[uy];exact (Below.heap_alloc _ _ _ (by simp <;> omega)).trans (Below.heap_alloc _ _ _ (by simp))) (fun _ _ _ _ h=>h)
    ·have h:=MapV.made (P:=Tryz.prog) (k:=9) (V:=TermK (fun b=>b<w.heap.size) PT W4) ((w.alloc (.cells #[.slice fa n1 fc,.slice ta n2 tc] 26)).alloc (.map #[] 0))
     have hz:((w.alloc (.cells #[.slice fa n1 fc,.slice ta n2 tc] 26)).alloc (.map #[] 0)).heap.size=w.heap.size+1+1:=by simp
     rw[hz]at h
     exact h.move (by rw[uy];exact (Below.heap_alloc _ _ _ (by simp))) (fun _ _ _ _ h=>h)
   rw[<-dT]at rk
   rw[<-lH]at nV
   rw[<-dT,<-lH]
   obtain ⟨Tq,HTv⟩:=aS rk nV
   have HP:=pI pN oA hdF hdT Xw Rz
   have HN:=aF dT lH
   have H4:=ce aN nS x0 kn4
   obtain ⟨HM,HW4⟩:=aS hM uy
   clear rk nV pN oA hdF hdT Xw Rz dT lH aN nS x0 kn4 uy hM
   unfold BQ.val
   go_enter Tryz.func46,Tryz.ntmps46
   go_wp2_with fail
   rw[<-HW4.o]
   go_loopw [15] (fun i wr=>∃k:Nat,k<=n1/\i=.int .i64 k/\Kp M W4 wr/\KnV (fun b=>b<w.heap.size) PF PT wr (w.heap.size+1+1+1) (w.heap.size+1) (w.heap.size+1+1) k 0 ⟨b.fs.take k,[]⟩) (fun i _=>n1 - (intOf i).toNat)
   case atStart=>exact ⟨0,Nat.zero_le _,rfl,Kp.refl _,by simpa using H4.o.2.2.2⟩
   case round=>
    obtain ⟨k,hk,rfl,aZ,dw⟩:=hrel
    by_cases hlt:k<n1
    ·have bc:k<b.fs.length:=by rw[<-HN.o.1];exact hlt
     have pp239b:=();exact pm239
    ·obtain rfl:k=n1:=by omega
     have cA:b.fs.take k=b.fs:=by rw[HN.o.1];exact List.take_length
     rw[cA]at dw
     obtain ⟨wo,Me⟩:=ao wr
     subst Me
     have x0:=(aZ.same _ (by have:=H4.o.2.1;omega) (by rw[HM.o];omega)).trans H4.o.2.2.1
     obtain ⟨y0,y1⟩:=Wl x0
     have HO:=aF aZ dw
     clear aZ dw cA x0
     go_wp2_with fail
     clear y0 y1
     go_loopw [31] (fun i wr=>∃j:Nat,j<=n2/\i=.int .i64 j/\Kp M W4 wr/\KnV (fun b=>b<w.heap.size) PF PT wr (w.heap.size+1+1+1) (w.heap.size+1) (w.heap.size+1+1) k j ⟨b.fs,b.ts.take j⟩) (fun i _=>n2 - (intOf i).toNat)
     case atStart=>exact ⟨0,Nat.zero_le _,rfl,HO.o.1,by simpa using HO.o.2⟩
     case round=>
      obtain ⟨j,hj,rfl,aZ,dw⟩:=hrel
      by_cases e9:j<n2
      ·have bc:j<b.ts.length:=by rw[<-HN.o.2];exact e9
       obtain ⟨bb,off,⟨qv,qn,qa,ql,qc⟩,rfl,hok,hf,c0,c1,c2,c3⟩:=HTv.o.get bc
       exact pm144
      ·obtain rfl:j=n2:=by omega
       have cA:b.ts.take j=b.ts:=by rw[HN.o.2];exact List.take_length
       rw[cA]at dw
       have HE:=aF aZ dw
       clear aZ dw cA
       go_wp2
       go_ret
       refine ⟨rfl,HE.o.2,?_⟩
       exact ⟨HE.o.1.os.trans H4.o.1.os,HE.o.1.tape.trans H4.o.1.tape,HE.o.1.output.trans H4.o.1.output,Nat.le_trans H4.o.1.size HE.o.1.size,fun b hb=>(HE.o.1.same b (Nat.lt_of_lt_of_le hb H4.o.1.size) (by rw[HM.o];omega)).trans (H4.o.1.block b hb)⟩
  |obtain ⟨R,hR⟩:=ao (bU b)
   rw[<-dT]at hF rk
   rw[<-lH]at hT nV
   rw[<-dT,<-lH,<-hR]
   obtain ⟨W1,bQ⟩:=ao (w.alloc (.cells #[.slice fa n1 fc,.slice ta n2 tc] 26))
   have hb1:=cB bQ
   have jS:=DL bQ
   have x1:=bN bQ
   obtain ⟨Tq,HTv⟩:=aS rk nV
   have HP:=aF pN oA
   have HN:=aF dT lH
   have H1:=bx hb1 jS x1
   obtain ⟨OT,lI,HR⟩:=cf ht bQ hR
   clear rk nV pN oA dT lH hb1 jS x1 bQ ht hR
   unfold BQ.val
   go_enter Tryz.func27,Tryz.ntmps27
   go_wp2_with fail
   rw[<-lI.o]
   go_loopw [3,12] (fun v i wr=>∃k:Nat,k<=n1/\i=.int .i64 k/\Below W1.heap.size W1 wr/\OwnS W1.heap.size wr v ((b.fs.take k).map (·.1))/\(b.fs.take k).all (fun x=>dp x.1 && bP (bm x.2))=true) (fun _ i _=>n1 - (intOf i).toNat)
   case atStart=>exact ⟨0,Nat.zero_le _,rfl,Below.refl _ _,OwnS.nil _ _,by simp⟩
   case round=>
    obtain ⟨k,hk,rfl,az,aC,dW⟩:=hrel
    by_cases hlt:k<n1
    ·have bc:k<b.fs.length:=by rw[<-HN.o.1];exact hlt
     exact pm239
    ·obtain rfl:k=n1:=by omega
     have cA:b.fs.take k=b.fs:=by rw[HN.o.1];exact List.take_length
     rw[cA]at aC dW
     obtain ⟨wo,Me⟩:=ao wr
     subst Me
     have y1:=aa az (ai H1.o.2.2 1)
     have VL:=ce az aC dW (H1.o.1.tr az)
     clear az aC dW cA
     go_wp2_with fail
     clear y1
     go_loopw [4,36] (fun v i wr=>∃j:Nat,j<=n2/\i=.int .i64 j/\Below wo.heap.size wo wr/\OwnS wo.heap.size wr v ((b.ts.take j).map (·.1))/\(b.ts.take j).all (fun x=>cG x.1 && iX false (aK x.2))=true) (fun _ i _=>n2 - (intOf i).toNat)
     case atStart=>exact ⟨0,Nat.zero_le _,rfl,Below.refl _ _,OwnS.nil _ _,by simp⟩
     case round=>
      obtain ⟨j,hj,rfl,az,aC,dW⟩:=hrel
      by_cases e9:j<n2
      ·have j5:j<b.ts.length:=by rw[<-HN.o.2];exact e9
       obtain ⟨bb,off,⟨qv,qn,qa,ql,qc⟩,rfl,hok,hf,c0,c1,c2,c3⟩:=HTv.o.get j5
       have ma:=VL.o.2.2.2.tr az
       obtain ⟨d0,d1,d2,d3⟩:=lg ma c0 c1 c2 c3
       obtain ⟨nm,c9⟩:=ao (b.ts[j].1)
       obtain ⟨g,hg⟩:=ao (b.ts[j].2)
       have kO:=HP.o.2 _ (List.getElem_mem j5)
       rw[<-c9]at d0
       rw[<-c9,<-hg]at kO
       rw[<-hg]at hf
       simp only at d1 d2 d3
       obtain ⟨W5,eo⟩:=ao (wr.alloc (.cells #[.string ⟨nm.toArray⟩,.bool qv,.string qn,.slice qa ql qc] 47))
       have a_:=cB eo
       have x5:=bN eo
       have Ip:(j:Int)<(n2:Int):=by omega
       have g9:(nm,g)∈b.ts:=by rw[c9,hg];exact List.getElem_mem j5
       have CM:=BP nm W5 (by omega)
       have H5:=ce (ma.tr a_) x5 (hf.later (ma.tr a_)) kO
       have HO:=eO az aC dW c9 hg
       have qd:=ab eo
       cases Ah:cG nm with
       | false=>
        rw[Ah]at CM
        have HC:=ab CM
        have HE:=ab (show R=false by
         rw[HR.o];unfold bU;rw[VL.o.2.2.1]
         rw[show (b.ts.all fun x=>cG x.1 && iX false (aK x.2))=false from List.all_eq_false.2 ⟨_,g9,by simp[Ah]⟩];simp)
        clear CM ma az aC dW c9 hg kO hf a_ x5 eo g9 Ah c0 c1 c2 c3 hok
        go_wp2_with (rw[<-qd.o];go_at_call 67;refine HC.o.mono ?_;rintro e w6 ⟨rfl,cD⟩;have H6:=ab cD;clear cD)
        go_ret
        exact ⟨by rw[HE.o];rfl,H5.o.1.tr H6.o⟩
       | true=>
        rw[Ah]at CM
        have HC:=ab CM
        have GL:=ab (fun (W:World) (hb:Below W5.heap.size W5 W)=>pW g kO.2.1 ok W ⟨qv,qn,qa,ql,qc⟩ ((hf.later (ma.tr a_)).later hb))
        have Hq:=ab (fun (W:World) (p:TQ) (ok':Nat->Prop) (hb:Below W5.heap.size W5 W) (hp:TermV ok' W p.val (aK g))=>LV (aK g) kO.2.2 ok' W p hp)
        simp only[TQ.val]at GL Hq
        cases KK:iX false (aK g) with
        | false=>
         rw[KK]at Hq
         have HE:=ab (show R=false by
          rw[HR.o];unfold bU;rw[VL.o.2.2.1]
          rw[show (b.ts.all fun x=>cG x.1 && iX false (aK x.2))=false from List.all_eq_false.2 ⟨_,g9,by simp[KK]⟩];simp)
         clear CM ma az aC dW c9 hg kO hf a_ x5 eo g9 Ah KK c0 c1 c2 c3 hok
         go_wp2_with (first | (rw[<-qd.o];go_at_call 67;refine HC.o.mono ?_;rintro e w6 ⟨rfl,cD⟩;have x6:=bC cD H5.o.2.1;have s0:=ai x6 0;have s1:=ai x6 1;have s2:=ai x6 2;have s3:=ai x6 3;have H6:=aF cD x6;clear cD x6) | (go_at_call 69;refine (GL.o w6 H6.o.1).mono ?_;rintro e w7 ⟨⟨p0,p1,p2,p3,p4⟩,rfl,Hb,eT⟩;have H7:=aF Hb eT;clear Hb eT) | (go_at_call 68;refine (Hq.o w7 ⟨p0,p1,p2,p3,p4⟩ _ (H6.o.1.tr H7.o.2) H7.o.1).mono ?_;rintro e w8 ⟨rfl,f_⟩;have H8:=ab (H6.o.1.tr (H7.o.2.tr f_));clear f_))
         go_ret
         exact ⟨by rw[HE.o];rfl,H5.o.1.tr H8.o⟩
        | true=>
         rw[KK]at Hq
         have vX:=ab a_
         have TH:=ab (show ((b.ts.take j).map (·.1)).length+1<=4000000 by simp;omega)
         have IX:=ab (show (b.ts.take (j+1)).map (·.1)=(b.ts.take j).map (·.1) ++ [nm]/\(b.ts.take (j+1)).all (fun x=>cG x.1 && iX false (aK x.2))=true by
          rw[List.take_add_one,List.getElem?_eq_getElem j5]
          refine ⟨by rw[List.map_append,c9];rfl,?_⟩
          rw[List.all_append,dW]
          simp only[Option.toList,List.all_cons,List.all_nil,Bool.and_true,Bool.true_and]
          rw[<-c9,<-hg,Ah,KK];simp)
         clear CM ma az aC dW c9 hg kO hf a_ x5 eo g9 Ah KK c0 c1 c2 c3 hok
         go_wp2_with (first | (rw[<-qd.o];go_at_call 67;refine HC.o.mono ?_;rintro e w6 ⟨rfl,cD⟩;have x6:=bC cD H5.o.2.1;have s0:=ai x6 0;have s1:=ai x6 1;have s2:=ai x6 2;have s3:=ai x6 3;have H6:=aF cD x6;clear cD x6) | (go_at_call 69;refine (GL.o w6 H6.o.1).mono ?_;rintro e w7 ⟨⟨p0,p1,p2,p3,p4⟩,rfl,Hb,eT⟩;have H7:=aF Hb eT;clear Hb eT) | (go_at_call 68;refine (Hq.o w7 ⟨p0,p1,p2,p3,p4⟩ _ (H6.o.1.tr H7.o.2) H7.o.1).mono ?_;rintro e w8 ⟨rfl,f_⟩;have r0:=aa (H7.o.2.tr f_) s0;have H8:=ab (H6.o.1.tr (H7.o.2.tr f_));clear f_) | (at_builtin;refine dv rfl _ _ rfl wo.heap.size (by have:=HO.o.1.size;have:=vX.o.size;have:=H8.o.size;simp;omega) u4 ((b.ts.take j).map (·.1)) rfl (HO.o.2.1.later ((vX.o.tr H8.o).tr ct)) (.slice (some ⟨w8.heap.size,0,none⟩) 1 1) [nm] rfl (fun _=>True) (yh (aj rfl)) TH.o ?_;intro v9 w9 MD FV;have HG:=aF MD (mJ ((Kp.below (M:=fun _=>False) ((HO.o.1.tr vX.o).tr H8.o)).trans (Kp.below ct)) FV (fun g hg=>(World.ownsRow.lt HO.o.2.1 g hg).1)).empty;clear MD FV))
         go_roundw
         case rel=>exact ⟨j+1,by omega,by go_num,HG.o.2,by rw[IX.o.1];exact HG.o.1,IX.o.2⟩
         case measure=>simp[intOf];omega
      ·obtain rfl:j=n2:=by omega
       have cA:b.ts.take j=b.ts:=by rw[HN.o.2];exact List.take_length
       rw[cA]at aC dW
       have hE:R=(dh (b.fs.map (·.1)) && dh (b.ts.map (·.1))):=by rw[HR.o];unfold bU;rw[VL.o.2.2.1,dW];simp
       have HE:=ab hE
       have C1:=rM (b.fs.map (·.1)) (by simp;have:=HN.o.1;omega) wr u3 (Fl (VL.o.2.1.later az).strs)
       have HS2:=ab (fun (W:World) (hb:Below wr.heap.size wr W)=>rM (b.ts.map (·.1)) (by simp;have:=HN.o.2;omega) W u4 (Fl (aC.later hb).strs))
       obtain ⟨B1,hZ⟩:=ao (dh (b.fs.map (·.1)))
       obtain ⟨B2,fG⟩:=ao (dh (b.ts.map (·.1)))
       rw[<-hZ,<-fG]at HE
       rw[<-hZ]at C1
       rw[<-fG]at HS2
       have HS1:=ab C1
       have bW:=ab (VL.o.2.2.2.tr az)
       clear hE C1 hZ fG aC dW az cA
       cases B1 with
       | false=>
        go_wp2_with (go_at_call 70;refine HS1.o.mono ?_;rintro e w6 ⟨rfl,cD⟩;have H6:=ab cD;clear cD)
        go_ret
        exact ⟨by rw[HE.o];rfl,bW.o.tr H6.o⟩
       | true=>
        go_wp2_with fail
        refine HS1.o.mono ?_
        rintro e w6 ⟨rfl,cD⟩
        have H6:=ab cD
        clear cD
        go_wp2_with fail
        refine (HS2.o w6 H6.o).mono ?_
        rintro e w7 ⟨rfl,eT⟩
        have H7:=ab (H6.o.tr eT)
        clear eT
        go_wp2
        go_ret
        exact ⟨by rw[HE.o];rfl,bW.o.tr H7.o⟩):G:=h
theorem pm291(h:G:=by
 have e:cz k c (.mk o n [] [g])=mQ o n [] (cz k (n :: c) g):=by
  simp only[cz,if_neg lK,if_neg iE,if_pos hq,eR,eQ]
 rw[e]
 first
 |clear pp291
  generalize cz k (n :: c) g=r at i1 i2
  unfold mQ
  generalize (if (aO [] r).contains n then dq (aO [] r) else n)=m'
  obtain ⟨p1,p2,_⟩:=f8 (depthF r) r (cH n) m' i1 i2 (Nat.le_refl _)
  exact ⟨by simp[iF,eF,eb,gS,p1],by simp[qone,en,gS,p2]⟩
 |generalize cz k (n :: c) g=r at ih iw
  have hm:=Hl (n:=n) (r:=r) c9.2.1 (by omega)
  unfold mQ
  generalize (if (aO [] r).contains n then dq (aO [] r) else n)=m' at hm
  have hp:=sd (depthF r) r (cH n) (ap m') iw.1 iw.2 (Nat.le_refl _)
  have hv:nodesT (ap m')=1:=by simp[ap,nodesT,ac]
  have DH:=nc (depthF r) r (cH n) (ap m') iw.1 iw.2 (Nat.le_refl _) (by rw[hv];omega) ih.2 (tM hm)
  rw[hv]at hp
  refine ⟨?_,?_⟩
  ·simp only[nodesF,ac,ah,gS]
   omega
  ·simp only[ks,dF,fd,gS,DH,Bool.and_true,Bool.and_eq_true,decide_eq_true_eq]
   exact ⟨c9.1,hm⟩):G:=h
theorem pm292(h:G:=by
 rw[eH bc j6]at ht
 obtain ⟨e,he⟩:=ao (eP ps.reverse xa[k] ya[k])
 rw[<-he]at ht
 obtain ⟨d0,d1,d2⟩:=iM az c0 c1 c2
 first
 |clear pp292
  have y2:wr.cell? ⟨w.heap.size+1,2,none⟩=some (.slice (some ⟨b',iN,none⟩) k0 vc):=aa cQ (ai lX.o 2)
  have xF:(k:Int)<(k0:Int):=by omega
  exact pm289
 |have y2:wr.cell? ⟨w.heap.size+1,2,none⟩=some (.slice (some ⟨b',iN,none⟩) k0 vc):=aa cQ (ai HY.o 2)
  have xF:(k:Int)<(k0:Int):=by omega
  have HU:=ab (hu.later az)
  have pZ:=ab (fO.later az)
  have qN:=ab (HP.o.later az)
  obtain ⟨Md,vU,vV,bW,kF⟩:=vD nD nE he az cQ
  first
  |clear pp80
   have jx:=bx (aa az kg) (aa az kv) (aa az kw)
   obtain ⟨rt,HT⟩:=aS y2 ht
   clear hu fO nD nE he az cQ ht c0 c1 c2 kg kv kw
   have pp61b:=();exact pm61
  |have jx:=bx (aa az kg) (aa az kv) (aa az kw)
   obtain ⟨rt,HT⟩:=aS y2 ht
   clear hu fO nD nE he az cQ ht c0 c1 c2 kg kv kw
   exact pm61):G:=h
theorem pm293(h:G:=by
 go_wp2
 rw[<-qd.o]
 go_roundw
 case rel=>exact ⟨k+1,by omega,by go_num,HG.o.1,HG.o.2⟩
 case measure=>simp[intOf];omega):G:=h
theorem pm294(h:G:=by
 have d0:=aZ.cell gV.2 c0
 have d1:=aZ.cell gV.2 c1
 have d2:=aZ.cell gV.2 c2
 first
 |clear pp294a
  exact pm271
 |clear pp294b
  have d3:=aZ.cell gV.2 c3
  have gW:=rx bc
  exact pm256
 |have d3:=aZ.cell gV.2 c3
  have gW:=mH (b:=bs') bc
  have Ce:=dQ bc
  have lj:=cg ss (k+1)
  have pp256:=();exact pm256):G:=h
theorem pm295(h:G:=by
 simp only[iS,Bool.and_eq_true,decide_eq_true_eq]at h
 first
 |clear pp295a
  unfold aI at hx
  cases v with
  | false=>exact mC a h.2 x (by simpa using hx)
  | true=>
   rcases List.mem_cons.1 (by simpa using hx) with rfl | hx
   ·exact h.1
   ·exact mC a h.2 x hx
 |clear pp295b
  have ih:=x_ (x:=x) hu a h.2
  unfold dP at ih
  unfold jQ at ih ⊢
  rw[e_]
  cases v with
  | false=>
   simp only[Bool.false_eq_true,if_false,iS,Bool.and_eq_true,decide_eq_true_eq]
   exact ⟨h.1,by rw[fZ];exact ih⟩
  | true=>
   simp only[if_true]
   by_cases hx:(n == x)=true
   ·simp only[hx,if_true];exact hu
   ·have hx:(n == x)=false:=by simpa using hx
    simp only[hx,Bool.false_eq_true,if_false,iS,Bool.and_eq_true,decide_eq_true_eq]
    exact ⟨h.1,by rw[fZ];exact ih⟩
 |clear pp295c
  unfold jy at hx
  split at hx
  ·exact Nat.le_trans (ln _ (hk n h.1) x ((dj x _).1 (List.mem_filter.1 hx).1)) (by decide)
  ·exact qS hk a h.2 x hx
 |clear pp295d
  unfold cC
  split
  ·exact hk n
  ·split
   ·simp[ap,iS,dF,cH];exact h.1
   ·simp only[iS,Bool.and_eq_true,decide_eq_true_eq]
    exact ⟨by omega,t_ hk a h.2⟩
 |have h1:=wI p a h.2
  have h2:n.length / 40<=p / 40:=Nat.div_le_div_right h.1
  have e:(ac a+1) * (1+p / 40)=ac a * (1+p / 40)+(1+p / 40):=by rw[Nat.add_mul,Nat.one_mul]
  unfold V6 nodesT
  omega):G:=h
theorem pm296(h:G:=by
 obtain ⟨x,y,ej,F0,CU,aW⟩:=iH HQ.o.2.2.1
 rw[aW]at hE
 obtain ⟨cF,uU⟩:=ao (cH x)
 rw[<-uU]at aW hE
 have EY:=fK CU
 first
 |clear pp296
  have wB:=eI (.mk 16 n a ss) (by simp[Fm.a,ej]) (by simp[Fm.a,ej]) (fun t ht=>by
   have h2:=eB.1 HQ.o.2.2.2.2.2.2.1 t (by simpa[Fm.a] using ht)
   obtain ⟨tv,tn,ta⟩:=t
   simp only[iS,Bool.and_eq_true,decide_eq_true_eq]at h2
   have:=h2.1
   simp only
   omega) _ W2 ⟨16,⟨n.toArray⟩,sa,n1,sc,sb,m1,se⟩ HQ.o.1
  simp only[FQ.val,aW]at wB
  have wB:=ab wB
  exact pm242
 |have Lo:cF.length<=17:=by rw[uU];have:=gM F0;simp[cH];omega
  have DI:=fun (V:World) (h:Below W2.heap.size W2 V)=>eI (.mk 16 n a ss) (by simp[Fm.a,ej]) (by simp[Fm.a,ej]) (fun t ht=>by
   have h2:=eB.1 HQ.o.2.2.2.2.2.2.1 t (by simpa[Fm.a] using ht)
   obtain ⟨tv,tn,ta⟩:=t
   simp only[iS,Bool.and_eq_true,decide_eq_true_eq]at h2
   have:=h2.1
   simp only
   omega) _ V ⟨16,⟨n.toArray⟩,sa,n1,sc,sb,m1,se⟩ (HQ.o.1.later h)
  simp only[FQ.val,aW]at DI
  first
  |clear pp83
   have XO:=ab DI
   have HY:=aF EY Lo
   have pp77:=();exact pm77
  |have k0:W2.cell? ⟨kb,0,none⟩=some (.map (some mF)):=ai H2.o.2.2.box 0
   have k1:W2.drew.cell? ⟨kb,0,none⟩=some (.map (some mF)):=k0
   have k3:W2.drew.cell? ⟨w.heap.size+1,1,none⟩=some (.string ⟨n.toArray⟩):=e1
   have aJ:Below W2.heap.size W2 (W2.alloc (.cells #[.int .u8 0,.string ⟨#[]⟩,.slice none 0 0,.slice none 0 0] 36)):=ct
   obtain ⟨k4,k5⟩:=wN aJ k0 e1
   have l1:=sY W2.drew rfl
   have l2:=sY (W2.alloc (.cells #[.int .u8 0,.string ⟨#[]⟩,.slice none 0 0,.slice none 0 0] 36)).drew (Below.heap_alloc _ _ _ (by omega))
   obtain ⟨W3,cZ⟩:=ao (W2.alloc (.cells #[.int .u8 g0,.string g1,.slice g2 g3 g4,.slice g5 g6 g7] 36)).drew
   have nX:Below W2.heap.size W2 W3:=by rw[cZ];exact ct.drew
   have x3:=bC nX H2.o.2.1
   have y3:W3.heap[W2.heap.size]?=some (.cells #[.int .u8 g0,.string g1,.slice g2 g3 g4,.slice g5 g6 g7] 36 (0,0)):=by rw[cZ];exact aj rfl
   obtain ⟨i0,i1,i2,i3,_,_,_,_⟩:=cW x3
   obtain ⟨n0,rN⟩:=ao (gF cF f)
   have FT:n0<=400:=by have:=nn cF f;have:=su.o.2.2;omega
   have wB:=ab (DI W3 nX)
   have Kr:=ab (fun (V:World) (h:Below W3.heap.size W3 V)=>ik cF f su.o.2.1 _ V ⟨g0,g1,g2,g3,g4,g5,g6,g7⟩ ((su.o.1.later nX).later h))
   have DG:=ab (fun (V:World) (h:Below W3.heap.size W3 V)=>jF f su.o.2.1 _ V ⟨g0,g1,g2,g3,g4,g5,g6,g7⟩ ((su.o.1.later nX).later h))
   obtain ⟨nf,wE⟩:=ao (nodesF f)
   have W_:nf<=400:=by have:=su.o.2.2;omega
   simp only[FQ.val,<-rN,<-wE]at Kr DG
   rw[<-rN,<-wE]at hE
   have H3:=bx nX y3 (H2.o.2.2.later nX)
   have XP:=ab hE
   have HY:=bx EY FT W_
   clear hE x3 y3 DI aW uU ej F0 CU Lo rN wE nX aJ sY tQ EY FT W_ E0 Cf G9
   go_enter Tryz.func126,Tryz.ntmps126
   go_upto_region 2 with fail
   rw[<-eN.o]
   go_upto_region 6 with fail
   go_region
   all_goals
    rw[<-cZ]
    clear cZ l1 l2 k0 k1 k3 k4 k5 e0 e1 e2 e3
    go_upto_region 8 with (go_at_call 96;refine wB.o.mono ?_;rintro e w4 ⟨rfl,aN⟩;have H4:=ab aN;clear aN)
    clear i0 i1 i2 i3
    have y4:=bC H4.o H3.o.2.1
    obtain ⟨j0,j1,j2,j3,_,_,_,_⟩:=cW y4
    have VE:=ab (Kr.o w4 H4.o)
    clear y4
    go_upto_region 9 with (go_at_call 97;refine VE.o.mono ?_;rintro e w5 ⟨rfl,a_⟩;have H5:=ab (H4.o.tr a_);clear a_)
    clear j0 j1 j2 j3
    have y5:=bC H5.o H3.o.2.1
    by_cases h0:n0=0
    ·subst h0
     obtain ⟨j0,j1,j2,j3,_,_,_,_⟩:=cW y5
     have HC6:=ab (DG.o w5 H5.o)
     have pB:=ab (show R=nf by rw[XP.o];simp)
     clear y5
     go_wp2_with (go_at_call 99;refine HC6.o.mono ?_;rintro e w6 ⟨rfl,cD⟩;have H6:=ab cD;clear cD)
     go_ret
     exact ⟨by rw[pB.o];rfl,(H2.o.1.tr H3.o.1).tr (H5.o.tr H6.o)⟩
    ·have rq:((n0:Int) == 0)=false:=by simp;omega
     have jS:¬((n0:Int)=0):=by omega
     exact pm147):G:=h
theorem pm297(h:G:=by
 have MV:=ab (show R=cb ps.reverse xs ys by rw[ht,List.drop_eq_nil_of_le (by rw[cY.o];exact Nat.le_refl _)];simp[bH])
 first
 |clear pp297
  have pp45a:=();exact pm45
 |exact pm45):G:=h
theorem pm298(h:G:=by
 have h1:ar a=ar (a.take (k+1)) ++ ar (a.drop (k+1)):=by
  conv=>lhs;rw[<-List.take_append_drop (k+1) a]
  exact fh _ _
 first
 |clear pp298
  have h2:=mw.o
  rw[h1,gW]at h2
  obtain ⟨r,rfl⟩:=h2
  exact ⟨ar (a.drop (k+1)) ++ r,by simp⟩
 |rw[h1,gW]
  exact ⟨_,rfl⟩):G:=h
theorem pm299(h:G:=by
 have HE:=ab (show R=(i8,2) by rw[HR.o];rfl)
 go_enter Tryz.func32,Tryz.ntmps32
 first
 |clear pp299
  go_wp2_with (rw[<-eN.o];go_at_call 26;refine s7.o.mono ?_;rintro e w4 ⟨rfl,aN⟩;have x4:=bC aN HB.o.2.2.2.2;obtain ⟨i0,i1,i2,i3,z0,z1,z2,z3⟩:=cW x4;have Hw:=ab x4;have H4:=ab aN;clear aN x4)
  exact pm52
 |go_wp2_with (first | (rw[<-eN.o];go_at_call 26;refine s7.o.mono ?_;rintro e w3 ⟨rfl,aJ⟩;have x3:=bC aJ HB.o.2.2.2.1;have j0:=ai x3 0;have j1:=ai x3 1;have H3:=ab aJ;clear aJ x3) | (go_at_call 27;refine (T'.o _ H3.o).mono ?_;rintro e w4 ⟨rfl,aN⟩;have x4:=bC (H3.o.tr aN) HB.o.2.2.2.2;obtain ⟨i0,i1,i2,i3,z0,z1,z2,z3⟩:=cW x4;have Hw:=ab x4;have H4:=ab (H3.o.tr aN);clear aN x4))
  exact pm52):G:=h
theorem pm300(h:G:=by
 have Ol:=h.sz.trans zx
 have Ij:=h.df.trans Ii
 have FC:Below w.heap.size w K3:=aG eJ.drew h.inv.1 (fun _ h=>h.elim)
 first
 |clear pp300
  obtain ⟨vz,tz,fz⟩:=h.get 9 _ 11 rfl rfl
  obtain ⟨DK,Om,lz,Zw⟩:=ri tz fz (h.did 10 _ rfl rfl) h.inv
  have UQ:=zy.drew.nx (h.od 1) h.inv.1 bB
  have UR:DK≠b1:=by have:=(bl zy.drew.box);have h:fv.heap.size<=DK:=Zw;have h2:b1<fv.heap.size:=this;omega
  have zbJ:b1≠DK:=fun e=>UR e.symm
  have zcR:w.heap.size<=DK:=by have h1:fv.heap.size<=DK:=Zw;have h2:=eJ.size;omega
  have zaa:LB (X2 b2 b4) A14 K3 11 DK Om _:=lz.next rfl (Kp.refl (M:=bL) _) (fun h=>h) (fun _ _ h=>h) (fun _ h _=>h.1)
  have e9:b2<K3.heap.size:=Nat.lt_of_lt_of_le e9 h.inv.1.size
  have iQ:b4<K3.heap.size:=Nat.lt_of_lt_of_le iQ h.inv.1.size
  have pd:=h.ol 3 pd
  have wu:=h.ol 8 wu
  obtain ⟨zbK,zbL,zbM⟩:=h.get 11 _ 12 rfl rfl
  obtain rfl:zbK=.int .i64 71:=zbM
  clear h
  refine hK _ _ ?_
  clear hT hL js bB
  have hT:Tabs WB K3:=iU.next (FC)
  have hL:∀ c,K3.heap.size<=c->(X2 b2 b4) c:=fun c hc=>by have h:K3.heap.size<=c:=hc;exact ⟨⟨trivial,by omega⟩,by omega⟩
  have js:∀ c,bL c->WB.heap.size<=c:=fun _ h=>h.elim
  have bB:∀ c,(X2 b2 b4) c->¬bL c:=fun _ _ h=>h
  refine wpIn_seq_k (fun K hK=>?_)
  refine wpIn_seq_k (fun K2 Zg=>?_)
  refine bX  [aE (.int .i64 1),
   aE (.bool false),
   aE (.bool false),
   aE (.int .i64 70),
   aE (.bool false),
   aE (.bool false),
   aE (.bool false),
   aE (.int .i64 71),
   aE (.bool false),
   aE (.bool false)]
   10 10 Ol (by kernel_rfl) (fun k hk=>?_) (fun A15 γ QG h=>?_)
  ·match k,hk with
   | 0,_=>exact au (aE (.int .i64 1)) 8 (old wu)
   | 1,_=>exact bG rfl 160 (.int .i64 1) (.bool false) (am 0) (fun _ _ _ _=>by go_simp)
   | 2,_=>exact au (aE (.bool false)) 161 (am 1)
   | 3,_=>exact au (aE (.int .i64 70)) 3 (old pd) (hw:=aw 2 (am 2))
   | 4,_=>exact bG rfl 163 (.int .i64 70) (.bool false) (am 3) (fun _ _ _ _=>by go_simp) (hw:=aw 2 (am 2))
   | 5,_=>exact cr rfl 162 164 (.bool false) (.bool false) (.bool false) (am 2) (am 4) (fun _ _ _ _ _ _=>by go_simp)
   | 6,_=>exact au (aE (.bool false)) 165 (am 5)
   | 7,_=>exact au (aE (.int .i64 71)) 12 (old zbL) (hw:=aw 6 (am 6))
   | 8,_=>exact bG rfl 167 (.int .i64 71) (.bool false) (am 7) (fun _ _ _ _=>by go_simp) (hw:=aw 6 (am 6))
   | 9,_=>exact cr rfl 166 168 (.bool false) (.bool false) (.bool false) (am 6) (am 8) (fun _ _ _ _ _ _=>by go_simp)
   | k+10,hk=>exact absurd hk (by simp)
  have Zx:=h.sz.trans Ol
  have zbN:=h.df.trans Ij
  have US:Below w.heap.size w QG:=aG FC h.inv.1 (fun _ h=>h.elim)
  have On:=UQ.nx (h.od 1) h.inv.1 bB
  have e9:b2<QG.heap.size:=Nat.lt_of_lt_of_le e9 h.inv.1.size
  have iQ:b4<QG.heap.size:=Nat.lt_of_lt_of_le iQ h.inv.1.size
  have pd:=h.ol 3 pd
  have wu:=h.ol 8 wu
  obtain ⟨vc,tc,fc⟩:=h.get 9 _ 169 rfl rfl
  obtain rfl:vc=.bool false:=fc
  clear h
  refine Zg _ _ ?_
  refine wpIn_cond_false (bw tc) (wpIn_skip ?_)
  refine hK _ _ ?_
  clear hT hL js bB
  have hT:Tabs WB QG:=iU.next (US)
  have hL:∀ c,QG.heap.size<=c->(X2 b2 b4) c:=fun c hc=>by have h:QG.heap.size<=c:=hc;exact ⟨⟨trivial,by omega⟩,by omega⟩
  have js:∀ c,bL c->WB.heap.size<=c:=fun _ h=>h.elim
  have bB:∀ c,(X2 b2 b4) c->¬bL c:=fun _ _ h=>h
  refine wpIn_seq_k (fun K hK=>?_)
  refine bX  [aH (X2 b2 b4) (ec [63,65]),
   aH (X2 b2 b4) (ec [63,66]),
   dL (X2 b2 b4) [ec [63,65],ec [63,66]],
   aH (X2 b2 b4) (Fm.mk 5 [] [] [ec [63,65],ec [63,66]]),
   dL (X2 b2 b4) [Fm.mk 5 [] [] [ec [63,65],ec [63,66]]],
   aH (X2 b2 b4) (Fm.mk 8 [120] [] [Fm.mk 5 [] [] [ec [63,65],ec [63,66]]]),
   lO #[.int .u8 0,.string ⟨#[]⟩,.slice none 0 0,.slice none 0 0] 36,
   jv (aH (X2 b2 b4) (Fm.mk 8 [120] [] [Fm.mk 5 [] [] [ec [63,65],ec [63,66]]])) 36]
   6 7 Zx (by kernel_rfl) (fun k hk=>?_) (fun A17 γ UT h=>?_)
  ·match k,hk with
   | 0,_=>exact sM [63,65]
   | 1,_=>exact sM [63,66]
   | 2,_=>exact fU hL _ _ 170 171 (am 0) (am 1)
   | 3,_=>exact gQ 5 [] [ec [63,65],ec [63,66]] 172 (am 2)
   | 4,_=>exact eL hL _ 173 (am 3)
   | 5,_=>exact gQ 8 [120] [Fm.mk 5 [] [] [ec [63,65],ec [63,66]]] 174 (am 4)
   | 6,_=>exact iJ rfl
   | 7,_=>exact iK _ 13 175 rfl (am 6) (am 5)
   | k+8,hk=>exact absurd hk (by simp)
  have Zy:=h.sz.trans Zx
  have zbO:=h.df.trans zbN
  have Zz:Below w.heap.size w UT:=aG US h.inv.1 (fun _ h=>h.elim)
  obtain ⟨vz,tz,fz⟩:=h.get 6 _ 13 rfl rfl
  obtain ⟨V5,q13,lz,ZA⟩:=o_ tz fz (h.did 7 _ rfl rfl) h.inv
  have Ik:=On.nx (h.od 1) h.inv.1 bB
  have UU:V5≠b1:=by have:=(bl On.box);have h:QG.heap.size<=V5:=ZA;have h2:b1<QG.heap.size:=this;omega
  have zbP:b1≠V5:=fun e=>UU e.symm
  have zcS:w.heap.size<=V5:=by have h1:QG.heap.size<=V5:=ZA;have h2:=US.size;omega
  have Dq:LF (X2 b2 b4) A17 UT 13 V5 q13 _:=lz.next rfl (Kp.refl (M:=bL) _) (fun h=>h) (fun _ _ h=>h) (fun _ h _=>h.1)
  have e9:b2<UT.heap.size:=Nat.lt_of_lt_of_le e9 h.inv.1.size
  have iQ:b4<UT.heap.size:=Nat.lt_of_lt_of_le iQ h.inv.1.size
  have pd:=h.ol 3 pd
  have wu:=h.ol 8 wu
  clear h
  refine hK _ _ ?_
  clear hT hL js bB
  have hT:Tabs WB UT.drew:=iU.next (Zz.drew)
  have hL:∀ c,UT.drew.heap.size<=c->(X2 b2 b4) c:=fun c hc=>by have h:UT.heap.size<=c:=hc;exact ⟨⟨trivial,by omega⟩,by omega⟩
  have js:∀ c,bL c->WB.heap.size<=c:=fun _ h=>h.elim
  have bB:∀ c,(X2 b2 b4) c->¬bL c:=fun _ _ h=>h
  refine wpIn_seq_k (fun K hK=>?_)
  refine dM  [aH (X2 b2 b4) (Fm.mk 8 [120] [] [Fm.mk 5 [] [] [ec [63,65],ec [63,66]]]),
   dV (X2 b2 b4) (ap [121]),
   ix (X2 b2 b4) [ap [121]],
   aH (X2 b2 b4) (dR [80] [ap [121]]),
   dV (X2 b2 b4) (ap [121]),
   ix (X2 b2 b4) [ap [121]],
   aH (X2 b2 b4) (dR [80] [ap [121]]),
   dL (X2 b2 b4) [dR [80] [ap [121]],dR [80] [ap [121]]],
   aH (X2 b2 b4) (Fm.mk 5 [] [] [dR [80] [ap [121]],dR [80] [ap [121]]]),
   dL (X2 b2 b4) [Fm.mk 5 [] [] [dR [80] [ap [121]],dR [80] [ap [121]]]],
   aH (X2 b2 b4) (Fm.mk 8 [121] [] [Fm.mk 5 [] [] [dR [80] [ap [121]],dR [80] [ap [121]]]]),
   Bz (X2 b2 b4) (Fm.mk 8 [120] [] [Fm.mk 5 [] [] [ec [63,65],ec [63,66]]]) (Fm.mk 8 [121] [] [Fm.mk 5 [] [] [dR [80] [ap [121]],dR [80] [ap [121]]]]),
   aH (X2 b2 b4) (ec [63,65]),
   dV (X2 b2 b4) (ap [121]),
   ix (X2 b2 b4) [ap [121]],
   aH (X2 b2 b4) (dR [80] [ap [121]]),
   Bz (X2 b2 b4) (ec [63,65]) (dR [80] [ap [121]]),
   H' (X2 b2 b4) [(Fm.mk 8 [120] [] [Fm.mk 5 [] [] [ec [63,65],ec [63,66]]],Fm.mk 8 [121] [] [Fm.mk 5 [] [] [dR [80] [ap [121]],dR [80] [ap [121]]]]),(ec [63,65],dR [80] [ap [121]])],
   bi (X2 b2 b4) (⟨[],[]⟩),
   d9 (bi (X2 b2 b4) (⟨[],[]⟩)) [.int .i64 1,.int .i64 70],
   d9 (bi (X2 b2 b4) (⟨[],[]⟩)) [.int .i64 1,.int .i64 70],
   bi (X2 b2 b4) (⟨[],[]⟩),
   aE (.int .i64 1),
   aE (.int .i64 70),
   aE (.int .i64 1),
   aE (.int .i64 70)]
   26 26 Zy (by kernel_rfl) (by kernel_rfl) (fun k hk=>?_) (fun A18 γ UV h=>?_)
  ·match k,hk with
   | 0,_=>exact cd _ _ 13 Dq.drew.box (fun h=>h) (Dq.drew.at bB) (old Dq.drew.slot)
   | 1,_=>exact o7 [121]
   | 2,_=>exact jZ hL _ 178 (am 1)
   | 3,_=>exact zp [80] [ap [121]] 179 (am 2)
   | 4,_=>exact o7 [121]
   | 5,_=>exact jZ hL _ 181 (am 4)
   | 6,_=>exact zp [80] [ap [121]] 182 (am 5)
   | 7,_=>exact fU hL _ _ 180 183 (am 3) (am 6)
   | 8,_=>exact gQ 5 [] [dR [80] [ap [121]],dR [80] [ap [121]]] 184 (am 7)
   | 9,_=>exact eL hL _ 185 (am 8)
   | 10,_=>exact gQ 8 [121] [Fm.mk 5 [] [] [dR [80] [ap [121]],dR [80] [ap [121]]]] 186 (am 9)
   | 11,_=>exact pG _ _ 177 187 (am 0) (am 10)
   | 12,_=>exact sM [63,65]
   | 13,_=>exact o7 [121]
   | 14,_=>exact jZ hL _ 190 (am 13)
   | 15,_=>exact zp [80] [ap [121]] 191 (am 14)
   | 16,_=>exact pG _ _ 189 192 (am 12) (am 15)
   | 17,_=>exact zr hL _ _ _ _ 188 193 (am 11) (am 16)
   | 18,_=>exact fV _ _ 1 Ik.drew.box (fun h=>h) (Ik.drew.at bB) (old Ik.drew.slot)
   | 19,_=>exact rg _ _ _ _ _ aw5 (by decide) Dn iL 194 195 hT js hL (am 17) (am 18)
   | 20,_=>exact au (d9 (bi (X2 b2 b4) (⟨[],[]⟩)) [.int .i64 1,.int .i64 70]) 196 (am 19)
   | 21,_=>exact gq (bi (X2 b2 b4) (⟨[],[]⟩)) [.int .i64 1,.int .i64 70] 176 (am 20)
   | 22,_=>exact gD (bi (X2 b2 b4) (⟨[],[]⟩)) [.int .i64 1,.int .i64 70] 0 (.int .i64 1) rfl 176 (am 20)
   | 23,_=>exact gD (bi (X2 b2 b4) (⟨[],[]⟩)) [.int .i64 1,.int .i64 70] 1 (.int .i64 70) rfl 176 (am 20)
   | 24,_=>exact bF (aE (.int .i64 1)) 198 (am 22)
   | 25,_=>exact bF (aE (.int .i64 70)) 199 (am 23)
   | k+26,hk=>exact absurd hk (by simp)
  have ZB:=h.sz.trans Zy
  have zbQ:=h.df.trans zbO
  have UW:Below w.heap.size w UV:=aG Zz.drew h.inv.1 (fun _ h=>h.elim)
  have e9:b2<UV.heap.size:=Nat.lt_of_lt_of_le e9 h.inv.1.size
  have iQ:b4<UV.heap.size:=Nat.lt_of_lt_of_le iQ h.inv.1.size
  obtain ⟨UK,pd,UL⟩:=h.get 25 _ 3 rfl rfl
  obtain rfl:UK=.int .i64 70:=UL
  obtain ⟨Zm,wu,Zn⟩:=h.get 24 _ 8 rfl rfl
  obtain rfl:Zm=.int .i64 1:=Zn
  clear h
  refine hK _ _ ?_
  clear hT hL js bB
  have hT:Tabs WB UV:=iU.next (UW)
  have hL:∀ c,UV.heap.size<=c->(X2 b2 b4) c:=fun c hc=>by have h:UV.heap.size<=c:=hc;exact ⟨⟨trivial,by omega⟩,by omega⟩
  have js:∀ c,bL c->WB.heap.size<=c:=fun _ h=>h.elim
  have bB:∀ c,(X2 b2 b4) c->¬bL c:=fun _ _ h=>h
  refine wpIn_seq_k (fun K hK=>?_)
  refine bX  [dV (X2 b2 b4) (ap [63,120]),
   dV (X2 b2 b4) (ap [120]),
   ix (X2 b2 b4) [ap [63,120],ap [120]],
   aH (X2 b2 b4) (dR [80] [ap [63,120],ap [120]]),
   fFB (X2 b2 b4) [63,65] (dR [80] [ap [63,120],ap [120]]),
   zbx (X2 b2 b4) [([63,65],dR [80] [ap [63,120],ap [120]])],
   dV (X2 b2 b4) (ap [120]),
   fTB (X2 b2 b4) [63,116] (ap [120]),
   zby (X2 b2 b4) [([63,116],ap [120])],
   bi (X2 b2 b4) (⟨[([63,65],dR [80] [ap [63,120],ap [120]])],[([63,116],ap [120])]⟩),
   lO #[.slice none 0 0,.slice none 0 0] 26,
   jv (bi (X2 b2 b4) (⟨[([63,65],dR [80] [ap [63,120],ap [120]])],[([63,116],ap [120])]⟩)) 26]
   10 11 ZB (by kernel_rfl) (fun k hk=>?_) (fun A19 γ OW h=>?_)
  ·match k,hk with
   | 0,_=>exact o7 [63,120]
   | 1,_=>exact o7 [120]
   | 2,_=>exact lB hL _ _ 200 201 (am 0) (am 1)
   | 3,_=>exact zp [80] [ap [63,120],ap [120]] 202 (am 2)
   | 4,_=>exact Y9 [63,65] _ 203 (am 3)
   | 5,_=>exact N_ _ _ 204 hL (am 4)
   | 6,_=>exact o7 [120]
   | 7,_=>exact Y' [63,116] _ 206 (am 6)
   | 8,_=>exact Oa _ _ 207 hL (am 7)
   | 9,_=>exact QC _ _ 205 208 (am 5) (am 8)
   | 10,_=>exact jI rfl
   | 11,_=>exact jJ _ 14 209 rfl (am 10) (am 9)
   | k+12,hk=>exact absurd hk (by simp)
  have ZC:=h.sz.trans ZB
  have zbR:=h.df.trans zbQ
  have UX:Below w.heap.size w OW:=aG UW h.inv.1 (fun _ h=>h.elim)
  obtain ⟨vz,tz,fz⟩:=h.get 10 _ 14 rfl rfl
  obtain ⟨Lu,q14,lz,zbS⟩:=ri tz fz (h.did 11 _ rfl rfl) h.inv
  have zcT:w.heap.size<=Lu:=by have h1:UV.heap.size<=Lu:=zbS;have h2:=UW.size;omega
  have sP:LB (X2 b2 b4) A19 OW 14 Lu q14 _:=lz.next rfl (Kp.refl (M:=bL) _) (fun h=>h) (fun _ _ h=>h) (fun _ h _=>h.1)
  have e9:b2<OW.heap.size:=Nat.lt_of_lt_of_le e9 h.inv.1.size
  have iQ:b4<OW.heap.size:=Nat.lt_of_lt_of_le iQ h.inv.1.size
  have pd:=h.ol 3 pd
  have wu:=h.ol 8 wu
  clear h
  refine hK _ _ ?_
  clear hT hL js bB
  have hT:Tabs WB OW.drew:=iU.next (UX.drew)
  have hL:∀ c,OW.drew.heap.size<=c->(X2 b2 b4) c:=fun c hc=>by have h:OW.heap.size<=c:=hc;exact ⟨⟨trivial,by omega⟩,by omega⟩
  have js:∀ c,bL c->WB.heap.size<=c:=fun _ h=>h.elim
  have bB:∀ c,(X2 b2 b4) c->¬bL c:=fun _ _ h=>h
  refine wpIn_seq_k (fun K hK=>?_)
  refine dM  [aH (X2 b2 b4) (ec [63,65]),
   dL (X2 b2 b4) [ec [63,65]],
   aH (X2 b2 b4) (Fm.mk 9 [120] [] [ec [63,65]]),
   bi (X2 b2 b4) (⟨[([63,65],dR [80] [ap [63,120],ap [120]])],[([63,116],ap [120])]⟩),
   d9 (aH (X2 b2 b4) (wn)) [.int .i64 0],
   d9 (aH (X2 b2 b4) (wn)) [.int .i64 0],
   aH (X2 b2 b4) (wn),
   aE (.int .i64 0),
   lO #[.int .u8 0,.string ⟨#[]⟩,.slice none 0 0,.slice none 0 0] 36,
   jv (aH (X2 b2 b4) (wn)) 36,
   aE (.int .i64 0)]
   8 9 ZC (by kernel_rfl) (by kernel_rfl) (fun k hk=>?_) (fun A20 γ Lv h=>?_)
  ·match k,hk with
   | 0,_=>exact sM [63,65]
   | 1,_=>exact eL hL _ 211 (am 0)
   | 2,_=>exact gQ 9 [120] [ec [63,65]] 212 (am 1)
   | 3,_=>exact fV _ _ 14 sP.drew.box (fun h=>h) (sP.drew.at bB) (old sP.drew.slot)
   | 4,_=>exact Dj _ _ _ _ aw6 ⟨by decide,by decide⟩ sO 213 214 hT js hL (am 2) (am 3)
   | 5,_=>exact au (d9 (aH (X2 b2 b4) (wn)) [.int .i64 0]) 215 (am 4)
   | 6,_=>exact gq (aH (X2 b2 b4) (wn)) [.int .i64 0] 210 (am 5)
   | 7,_=>exact gD (aH (X2 b2 b4) (wn)) [.int .i64 0] 0 (.int .i64 0) rfl 210 (am 5)
   | 8,_=>exact iJ rfl
   | 9,_=>exact iK _ 15 216 rfl (am 8) (am 6)
   | 10,_=>exact bF (aE (.int .i64 0)) 217 (am 7)
   | k+11,hk=>exact absurd hk (by simp)
  have ZD:=h.sz.trans ZC
  have zbT:=h.df.trans zbR
  have UY:Below w.heap.size w Lv:=aG UX.drew h.inv.1 (fun _ h=>h.elim)
  obtain ⟨vz,tz,fz⟩:=h.get 8 _ 15 rfl rfl
  obtain ⟨Lw,q15,lz,ZE⟩:=o_ tz fz (h.did 9 _ rfl rfl) h.inv
  have sQ:=sP.drew.nx (h.od 14) h.inv.1 bB
  have QH:Lw≠Lu:=by have:=(bl sP.drew.box);have h:OW.heap.size<=Lw:=ZE;have h2:Lu<OW.heap.size:=this;omega
  have zab:Lu≠Lw:=fun e=>QH e.symm
  have zcU:w.heap.size<=Lw:=by have h1:OW.heap.size<=Lw:=ZE;have h2:=UX.size;omega
  have Ju:LF (X2 b2 b4) A20 Lv 15 Lw q15 _:=lz.next rfl (Kp.refl (M:=bL) _) (fun h=>h) (fun _ _ h=>h) (fun _ h _=>h.1)
  have e9:b2<Lv.heap.size:=Nat.lt_of_lt_of_le e9 h.inv.1.size
  have iQ:b4<Lv.heap.size:=Nat.lt_of_lt_of_le iQ h.inv.1.size
  have pd:=h.ol 3 pd
  have wu:=h.ol 8 wu
  obtain ⟨zbU,Oo,zbV⟩:=h.get 10 _ 16 rfl rfl
  obtain rfl:zbU=.int .i64 0:=zbV
  clear h
  refine hK _ _ ?_
  clear hT hL js bB
  have hT:Tabs WB Lv.drew:=iU.next (UY.drew)
  have hL:∀ c,Lv.drew.heap.size<=c->(X2 b2 b4) c:=fun c hc=>by have h:Lv.heap.size<=c:=hc;exact ⟨⟨trivial,by omega⟩,by omega⟩
  have js:∀ c,bL c->WB.heap.size<=c:=fun _ h=>h.elim
  have bB:∀ c,(X2 b2 b4) c->¬bL c:=fun _ _ h=>h
  refine wpIn_seq_k (fun K hK=>?_)
  refine dM  [aH (X2 b2 b4) (Ax [63,65] [120] [63,116]),
   bi (X2 b2 b4) (⟨[([63,65],dR [80] [ap [63,120],ap [120]])],[([63,116],ap [120])]⟩),
   d9 (aH (X2 b2 b4) (ws)) [.int .i64 0],
   d9 (aH (X2 b2 b4) (ws)) [.int .i64 0],
   aH (X2 b2 b4) (ws),
   aE (.int .i64 0),
   lO #[.int .u8 0,.string ⟨#[]⟩,.slice none 0 0,.slice none 0 0] 36,
   jv (aH (X2 b2 b4) (ws)) 36,
   aE (.int .i64 0)]
   6 7 ZD (by kernel_rfl) (by kernel_rfl) (fun k hk=>?_) (fun A21 γ Jv h=>?_)
  ·match k,hk with
   | 0,_=>exact wG [63,65] [120] [63,116] hL
   | 1,_=>exact fV _ _ 14 sQ.drew.box (fun h=>h) (sQ.drew.at bB) (old sQ.drew.slot)
   | 2,_=>exact Dj _ _ _ _ aw7 ⟨by decide,by decide⟩ sO 219 220 hT js hL (am 0) (am 1)
   | 3,_=>exact au (d9 (aH (X2 b2 b4) (ws)) [.int .i64 0]) 221 (am 2)
   | 4,_=>exact gq (aH (X2 b2 b4) (ws)) [.int .i64 0] 218 (am 3)
   | 5,_=>exact gD (aH (X2 b2 b4) (ws)) [.int .i64 0] 0 (.int .i64 0) rfl 218 (am 3)
   | 6,_=>exact iJ rfl
   | 7,_=>exact iK _ 17 222 rfl (am 6) (am 4)
   | 8,_=>exact bF (aE (.int .i64 0)) 223 (am 5)
   | k+9,hk=>exact absurd hk (by simp)
  have ZF:=h.sz.trans ZD
  have zbW:=h.df.trans zbT
  have UZ:Below w.heap.size w Jv:=aG UY.drew h.inv.1 (fun _ h=>h.elim)
  obtain ⟨vz,tz,fz⟩:=h.get 6 _ 17 rfl rfl
  obtain ⟨Lx,q17,lz,U0⟩:=o_ tz fz (h.did 7 _ rfl rfl) h.inv
  have sR:=sQ.drew.nx (h.od 14) h.inv.1 bB
  have Jw:=Ju.drew.nx (h.od 15) h.inv.1 bB
  have QI:Lx≠Lu:=by have:=(bl sQ.drew.box);have h:Lv.heap.size<=Lx:=U0;have h2:Lu<Lv.heap.size:=this;omega
  have zac:Lu≠Lx:=fun e=>QI e.symm
  have QJ:Lx≠Lw:=by have:=(bl Ju.drew.box);have h:Lv.heap.size<=Lx:=U0;have h2:Lw<Lv.heap.size:=this;omega
  have zad:Lw≠Lx:=fun e=>QJ e.symm
  have zcV:w.heap.size<=Lx:=by have h1:Lv.heap.size<=Lx:=U0;have h2:=UY.size;omega
  have Jy:LF (X2 b2 b4) A21 Jv 17 Lx q17 _:=lz.next rfl (Kp.refl (M:=bL) _) (fun h=>h) (fun _ _ h=>h) (fun _ h _=>h.1)
  have e9:b2<Jv.heap.size:=Nat.lt_of_lt_of_le e9 h.inv.1.size
  have iQ:b4<Jv.heap.size:=Nat.lt_of_lt_of_le iQ h.inv.1.size
  have pd:=h.ol 3 pd
  have wu:=h.ol 8 wu
  have Oo:=h.ol 16 Oo
  obtain ⟨zbX,U1,zbY⟩:=h.get 8 _ 18 rfl rfl
  obtain rfl:zbX=.int .i64 0:=zbY
  clear h
  refine hK _ _ ?_
  clear hT hL js bB
  have hT:Tabs WB Jv.drew:=iU.next (UZ.drew)
  have hL:∀ c,Jv.drew.heap.size<=c->(X2 b2 b4) c:=fun c hc=>by have h:Jv.heap.size<=c:=hc;exact ⟨⟨trivial,by omega⟩,by omega⟩
  have js:∀ c,bL c->WB.heap.size<=c:=fun _ h=>h.elim
  have bB:∀ c,(X2 b2 b4) c->¬bL c:=fun _ _ h=>h
  refine wpIn_seq_k (fun K hK=>?_)
  refine dM  [aH (X2 b2 b4) (ec [63,65]),
   bi (X2 b2 b4) (⟨[([63,65],dR [80] [ap [63,120],ap [120]])],[([63,116],ap [120])]⟩),
   d9 (aH (X2 b2 b4) (i8)) [.int .i64 72],
   d9 (aH (X2 b2 b4) (i8)) [.int .i64 72],
   aH (X2 b2 b4) (i8),
   aE (.int .i64 72),
   lO #[.int .u8 0,.string ⟨#[]⟩,.slice none 0 0,.slice none 0 0] 36,
   jv (aH (X2 b2 b4) (i8)) 36,
   aE (.int .i64 72)]
   6 7 ZF (by kernel_rfl) (by kernel_rfl) (fun k hk=>?_) (fun A22 γ U2 h=>?_)
  ·match k,hk with
   | 0,_=>exact sM [63,65]
   | 1,_=>exact fV _ _ 14 sR.drew.box (fun h=>h) (sR.drew.at bB) (old sR.drew.slot)
   | 2,_=>exact Dj _ _ _ _ aw8 ⟨by decide,by decide⟩ sO 225 226 hT js hL (am 0) (am 1)
   | 3,_=>exact au (d9 (aH (X2 b2 b4) (i8)) [.int .i64 72]) 227 (am 2)
   | 4,_=>exact gq (aH (X2 b2 b4) (i8)) [.int .i64 72] 224 (am 3)
   | 5,_=>exact gD (aH (X2 b2 b4) (i8)) [.int .i64 72] 0 (.int .i64 72) rfl 224 (am 3)
   | 6,_=>exact iJ rfl
   | 7,_=>exact iK _ 19 228 rfl (am 6) (am 4)
   | 8,_=>exact bF (aE (.int .i64 72)) 229 (am 5)
   | k+9,hk=>exact absurd hk (by simp)
  have ZG:=h.sz.trans ZF
  have zbZ:=h.df.trans zbW
  have ZH:Below w.heap.size w U2:=aG UZ.drew h.inv.1 (fun _ h=>h.elim)
  obtain ⟨vz,tz,fz⟩:=h.get 6 _ 19 rfl rfl
  obtain ⟨Ly,q19,lz,QK⟩:=o_ tz fz (h.did 7 _ rfl rfl) h.inv
  have Dr:=sR.drew.nx (h.od 14) h.inv.1 bB
  have Du:=Jw.drew.nx (h.od 15) h.inv.1 bB
  have Dv:=Jy.drew.nx (h.od 17) h.inv.1 bB
  have QL:Ly≠Lu:=by have:=(bl sR.drew.box);have h:Jv.heap.size<=Ly:=QK;have h2:Lu<Jv.heap.size:=this;omega
  have zae:Lu≠Ly:=fun e=>QL e.symm
  have QM:Ly≠Lw:=by have:=(bl Jw.drew.box);have h:Jv.heap.size<=Ly:=QK;have h2:Lw<Jv.heap.size:=this;omega
  have zaf:Lw≠Ly:=fun e=>QM e.symm
  have QN:Ly≠Lx:=by have:=(bl Jy.drew.box);have h:Jv.heap.size<=Ly:=QK;have h2:Lx<Jv.heap.size:=this;omega
  have zag:Lx≠Ly:=fun e=>QN e.symm
  have zcW:w.heap.size<=Ly:=by have h1:Jv.heap.size<=Ly:=QK;have h2:=UZ.size;omega
  have zah:LF (X2 b2 b4) A22 U2 19 Ly q19 _:=lz.next rfl (Kp.refl (M:=bL) _) (fun h=>h) (fun _ _ h=>h) (fun _ h _=>h.1)
  have e9:b2<U2.heap.size:=Nat.lt_of_lt_of_le e9 h.inv.1.size
  have iQ:b4<U2.heap.size:=Nat.lt_of_lt_of_le iQ h.inv.1.size
  have pd:=h.ol 3 pd
  have wu:=h.ol 8 wu
  have Oo:=h.ol 16 Oo
  have U1:=h.ol 18 U1
  obtain ⟨zb0,zb1,zb2⟩:=h.get 8 _ 20 rfl rfl
  obtain rfl:zb0=.int .i64 72:=zb2
  clear h
  refine hK _ _ ?_
  clear hT hL js bB
  have hT:Tabs WB U2.drew:=iU.next (ZH.drew)
  have hL:∀ c,U2.drew.heap.size<=c->(X2 b2 b4) c:=fun c hc=>by have h:U2.heap.size<=c:=hc;exact ⟨⟨trivial,by omega⟩,by omega⟩
  have js:∀ c,bL c->WB.heap.size<=c:=fun _ h=>h.elim
  have bB:∀ c,(X2 b2 b4) c->¬bL c:=fun _ _ h=>h
  refine wpIn_seq_k (fun K hK=>?_)
  refine dM  [aE (.int .i64 1),
   aE (.bool true),
   aE (.bool true),
   aE (.int .i64 70),
   aE (.bool true),
   aE (.bool true),
   aE (.bool true),
   aE (.int .i64 0),
   aE (.bool true),
   aE (.bool true),
   aE (.bool true),
   aE (.int .i64 0),
   aE (.bool true),
   aE (.bool true),
   aE (.bool true),
   aH (X2 b2 b4) (wn),
   dV (X2 b2 b4) (ap [120,49]),
   dV (X2 b2 b4) (ap [120]),
   ix (X2 b2 b4) [ap [120,49],ap [120]],
   aH (X2 b2 b4) (dR [80] [ap [120,49],ap [120]]),
   dL (X2 b2 b4) [dR [80] [ap [120,49],ap [120]]],
   aH (X2 b2 b4) (Fm.mk 9 [120,49] [] [dR [80] [ap [120,49],ap [120]]]),
   aE (.bool true),
   aE (.bool true),
   aE (.bool true),
   aH (X2 b2 b4) (ws),
   dV (X2 b2 b4) (ap [120]),
   dV (X2 b2 b4) (ap [120]),
   ix (X2 b2 b4) [ap [120],ap [120]],
   aH (X2 b2 b4) (dR [80] [ap [120],ap [120]]),
   aE (.bool true),
   aE (.bool true),
   aE (.bool true),
   aE (.int .i64 72),
   aE (.bool true),
   aE (.bool true),
   aE (.bool true),
   bi (X2 b2 b4) (⟨[([63,65],dR [80] [ap [63,120],ap [120]])],[([63,116],ap [120])]⟩),
   aE (.bool true),
   aE (.bool true),
   aE (.bool true)]
   41 41 ZG (by kernel_rfl) (by kernel_rfl) (fun k hk=>?_) (fun A23 γ W23 h=>?_)
  ·match k,hk with
   | 0,_=>exact au (aE (.int .i64 1)) 8 (old wu)
   | 1,_=>exact bG rfl 230 (.int .i64 1) (.bool true) (am 0) (fun _ _ _ _=>by go_simp)
   | 2,_=>exact au (aE (.bool true)) 231 (am 1)
   | 3,_=>exact au (aE (.int .i64 70)) 3 (old pd) (hw:=aw 2 (am 2))
   | 4,_=>exact bG rfl 233 (.int .i64 70) (.bool true) (am 3) (fun _ _ _ _=>by go_simp) (hw:=aw 2 (am 2))
   | 5,_=>exact cr rfl 232 234 (.bool true) (.bool true) (.bool true) (am 2) (am 4) (fun _ _ _ _ _ _=>by go_simp)
   | 6,_=>exact au (aE (.bool true)) 235 (am 5)
   | 7,_=>exact au (aE (.int .i64 0)) 16 (old Oo) (hw:=aw 6 (am 6))
   | 8,_=>exact bG rfl 237 (.int .i64 0) (.bool true) (am 7) (fun _ _ _ _=>by go_simp) (hw:=aw 6 (am 6))
   | 9,_=>exact cr rfl 236 238 (.bool true) (.bool true) (.bool true) (am 6) (am 8) (fun _ _ _ _ _ _=>by go_simp)
   | 10,_=>exact au (aE (.bool true)) 239 (am 9)
   | 11,_=>exact au (aE (.int .i64 0)) 18 (old U1) (hw:=aw 10 (am 10))
   | 12,_=>exact bG rfl 241 (.int .i64 0) (.bool true) (am 11) (fun _ _ _ _=>by go_simp) (hw:=aw 10 (am 10))
   | 13,_=>exact cr rfl 240 242 (.bool true) (.bool true) (.bool true) (am 10) (am 12) (fun _ _ _ _ _ _=>by go_simp)
   | 14,_=>exact au (aE (.bool true)) 243 (am 13)
   | 15,_=>exact cd _ _ 15 Du.drew.box (fun h=>h) (Du.drew.at bB) (old Du.drew.slot) (hw:=aw 14 (am 14))
   | 16,_=>exact o7 [120,49] (hw:=aw 14 (am 14))
   | 17,_=>exact o7 [120] (hw:=aw 14 (am 14))
   | 18,_=>exact lB hL _ _ 246 247 (am 16) (am 17) (hw:=aw 14 (am 14))
   | 19,_=>exact zp [80] [ap [120,49],ap [120]] 248 (am 18) (hw:=aw 14 (am 14))
   | 20,_=>exact eL hL _ 249 (am 19) (hw:=aw 14 (am 14))
   | 21,_=>exact gQ 9 [120,49] [dR [80] [ap [120,49],ap [120]]] 250 (am 20) (hw:=aw 14 (am 14))
   | 22,_=>exact sN (wn) (Fm.mk 9 [120,49] [] [dR [80] [ap [120,49],ap [120]]]) ⟨by decide,by decide⟩ 245 251 (am 15) (am 21) (hw:=aw 14 (am 14)) (hp:=(pH zbF))
   | 23,_=>exact cr rfl 244 252 (.bool true) (.bool true) (.bool true) (am 14) (am 22) (fun _ _ _ _ _ _=>by go_simp)
   | 24,_=>exact au (aE (.bool true)) 253 (am 23)
   | 25,_=>exact cd _ _ 17 Dv.drew.box (fun h=>h) (Dv.drew.at bB) (old Dv.drew.slot) (hw:=aw 24 (am 24))
   | 26,_=>exact o7 [120] (hw:=aw 24 (am 24))
   | 27,_=>exact o7 [120] (hw:=aw 24 (am 24))
   | 28,_=>exact lB hL _ _ 256 257 (am 26) (am 27) (hw:=aw 24 (am 24))
   | 29,_=>exact zp [80] [ap [120],ap [120]] 258 (am 28) (hw:=aw 24 (am 24))
   | 30,_=>exact sN (ws) (dR [80] [ap [120],ap [120]]) ⟨by decide,by decide⟩ 255 259 (am 25) (am 29) (hw:=aw 24 (am 24)) (hp:=(pH zbG))
   | 31,_=>exact cr rfl 254 260 (.bool true) (.bool true) (.bool true) (am 24) (am 30) (fun _ _ _ _ _ _=>by go_simp)
   | 32,_=>exact au (aE (.bool true)) 261 (am 31)
   | 33,_=>exact au (aE (.int .i64 72)) 20 (old zb1) (hw:=aw 32 (am 32))
   | 34,_=>exact bG rfl 263 (.int .i64 72) (.bool true) (am 33) (fun _ _ _ _=>by go_simp) (hw:=aw 32 (am 32))
   | 35,_=>exact cr rfl 262 264 (.bool true) (.bool true) (.bool true) (am 32) (am 34) (fun _ _ _ _ _ _=>by go_simp)
   | 36,_=>exact au (aE (.bool true)) 265 (am 35)
   | 37,_=>exact fV _ _ 14 Dr.drew.box (fun h=>h) (Dr.drew.at bB) (old Dr.drew.slot) (hw:=aw 36 (am 36))
   | 38,_=>exact N' _ sO 267 hT js (am 37) (hw:=aw 36 (am 36)) (hp:=(pH aw9))
   | 39,_=>exact cr rfl 266 268 (.bool true) (.bool true) (.bool true) (am 36) (am 38) (fun _ _ _ _ _ _=>by go_simp)
   | 40,_=>exact bF (aE (.bool true)) 269 (am 39)
   | k+41,hk=>exact absurd hk (by simp)
  have zcX:=h.sz.trans ZG
  have zb3:=h.df.trans zbZ
  have zb4:Below w.heap.size w W23:=aG ZH.drew h.inv.1 (fun _ h=>h.elim)
  have e9:b2<W23.heap.size:=Nat.lt_of_lt_of_le e9 h.inv.1.size
  have iQ:b4<W23.heap.size:=Nat.lt_of_lt_of_le iQ h.inv.1.size
  obtain ⟨vc,tc,fc⟩:=h.get 40 _ 0 rfl rfl
  obtain rfl:vc=.bool true:=fc
  refine hK _ _ ?_
  refine wpIn_ret ?_
  refine bodyPost_ret (v:=.bool true) (by simp[results,Tryz.results12,go_sem,tc]) zb3 ⟨rfl,zb4⟩
 |have F3:=F3.nx (h.od 3) h.inv.1 bB
  have F4:=F4.nx (h.od 4) h.inv.1 bB
  exact pm84):G:=h
theorem pm301(h:G:=by
 obtain ⟨k,hk,rfl,az,ht⟩:=hrel
 by_cases hlt:k<k0
 first
 |clear pp301a
  ·have bc:=bR cY.o hlt
   have pp153a:=();exact pm153
  ·obtain rfl:k0=k:=by omega
   have HE:=ab (show R=none by rw[ht,List.drop_eq_nil_of_le (by rw[cY.o];exact Nat.le_refl _)];simp[dX])
   have HB:=ab az
   clear az ht
   go_wp2
   go_ret
   exact ⟨⟨_,rfl,by rw[HE.o];exact IntsV.nil _⟩,HB.o⟩
 |clear pp301b
  ·have bc:=bR cY.o hlt
   obtain ⟨b,off,u,rfl,_,hu,c0,c1,c2,c3⟩:=L_.o.get bc
   have hf:=HF.o.mem (List.getElem_mem bc)
   have nD:=eM.o xs[k] (List.getElem_mem bc)
   rw[Es bc]at ht
   have pp202:=();exact pm202
  ·obtain rfl:k0=k:=by omega
   have HE:=ab (show R=none by rw[ht,List.drop_eq_nil_of_le (by rw[cY.o];exact Nat.le_refl _)];simp[ld])
   have HB:=ab az
   clear az ht
   go_wp2
   refine bodyPost_ret (v:=.tuple #[.slice none 0 0,.slice none 0 0]) (by simp[results,Tryz.results165,go_sem]) rfl ⟨⟨_,_,rfl,?_,?_⟩,HB.o⟩
   ·rw[HE.o];exact IntsV.nil _
   ·rw[HE.o];exact IntsV.nil _
 |clear pp301c
  ·have bc:=bR cY.o hlt
   have j6:k<m.length:=by rw[<-fN.o,<-HKM.o];exact hlt
   have Ts:k<m0:=by rw[<-HKM.o];exact hlt
   have pp245:=();exact pm245
  ·obtain rfl:k=k0:=by omega
   have he:R=0:=by rw[ht,List.drop_eq_nil_of_le (by rw[cY.o];exact Nat.le_refl _),yk]
   obtain ⟨HE,HB⟩:=aS he az
   clear he az ht
   go_wp2
   go_ret
   exact ⟨ph HE.o.symm,HB.o⟩
 |clear pp301d
  ·have bc:=bR cY.o hlt
   have j6:=bR Te.o bc
   exact pm245
  ·obtain rfl:k=k0:=by omega
   have pp169:=();exact pm169
 |·have bc:=bR cY.o hlt
   have j6:=bR Te.o bc
   obtain ⟨b,off,u,rfl,_,hu,c0,c1,c2,c3⟩:=HL.o.get bc
   obtain ⟨b',iN,u',rfl,_,fO,kg,kv,kw,EP⟩:=HM.o.get j6
   have hf:=HF.o.mem (List.getElem_mem bc)
   have nD:=eM.o l[k] (List.getElem_mem bc)
   have f0:=fun x:Later wr=>x.get (aa az c0)
   have f1:=fun x:Later wr=>x.get (aa az c1)
   have f2:=fun x:Later wr=>x.get (aa az c2)
   have f3:=fun x:Later wr=>x.get (aa az c3)
   have f4:=fun x:Later wr=>x.get (aa az kg)
   have f5:=fun x:Later wr=>x.get (aa az kv)
   have f6:=fun x:Later wr=>x.get (aa az kw)
   have f7:=fun x:Later wr=>x.get (aa az EP)
   have xF:(k:Int)<(k0:Int):=by omega
   obtain ⟨HB,HT⟩:=aS az ht
   have jt:∀ (h:l[k]≠m[k]),mm l m=false:=fun h=>by
    cases he:mm l m with
    | false=>rfl
    | true=>exact absurd (by rw[List.getElem_of_eq ((mx _ _).1 he)]) h
   have Y3:=ab jt
   have CC:=fun (x:Later wr)=>nD m[k] ok ok' x.w u u' hf ((hu.later az).later x.below) ((fO.later az).later x.below)
   obtain ⟨R,hR⟩:=ao (vG l[k] m[k])
   rw[<-hR]at CC
   obtain ⟨HC,HR⟩:=aS CC hR
   clear hu fO nD hf az ht jt hR CC c0 c1 c2 c3 kg kv kw EP
   go_wp2
   refine aM (by kernel_rfl) (by kernel_rfl) ?_
   repeat (go_big_quiet_step ((go_at_call 17;exact bM (HC.o _))))
   refine wpQuiet_nil ?_
   rintro _ ⟨x',rfl⟩
   clear f0 f1 f2 f3 f4 f5 f6 f7
   have bZ:=ab (HB.o.trans (x'.below.mono HB.o.size))
   cases R
   ·go_wp2
    go_ret
    exact ⟨aA (Y3.o (fun h=>by have:=HR.o;rw[(rB _ _).2 h]at this;cases this)).symm,bZ.o⟩
   ·go_wp2
    go_roundw
    case rel=>exact ⟨k+1,by omega,by go_num,bZ.o,sK HT.o bc j6 ((rB _ _).1 HR.o.symm)⟩
    case measure=>simp[intOf];omega
  ·obtain rfl:k=k0:=by omega
   exact pm169):G:=h
theorem pm302(h:G:=by
 obtain ⟨k,hk,rfl,cQ,ht⟩:=hrel
 by_cases hlt:k<k1
 first
 |clear pp302a
  ·have bc:=bR FX.o hlt
   have pp53a:=();exact pm53
  ·obtain rfl:k1=k:=by omega
   exact pm62
 |clear pp302b
  ·have bc:=bR FX.o hlt
   have pp53b:=();exact pm53
  ·obtain rfl:k1=k:=by omega
   exact pm62
 |clear pp302c
  ·have bc:=bR FX.o hlt
   have pp53c:=();exact pm53
  ·obtain rfl:k1=k:=by omega
   exact pm62
 |clear pp302d
  ·have bc:=bR FX.o hlt
   have pp53d:=();exact pm53
  ·obtain rfl:k1=k:=by omega
   exact pm62
 |·have bc:=bR FX.o hlt
   exact pm53
  ·obtain rfl:k1=k:=by omega
   exact pm62):G:=h
theorem pm303(h:G:=by
 go_enter Tryz.func242,Tryz.ntmps242
 go_wp2
 go_ret
 first
 |clear pp303
  simp
 |refine ⟨aA ?_,rfl⟩
  rw[LL,Bool.eq_iff_iff]
  simp):G:=h
theorem pm304(h:G:=by
 have T5:((m0:Int) != (r4:Int))=true:=by simp;omega
 have HE:Hd (BX=false):=ab (hM.trans (by simp[Qe]))
 exact pm6):G:=h
theorem pm305(h:G:=by
 intro c L ok w vL q cv hL PP M_ hq
 obtain ⟨so,sn,sa,sl,sc,sb,sm,se⟩:=q
 obtain ⟨v1,v2,h1,ib,lu⟩:=aQ.1 hq
 first
 |clear pp305
  have pp32i:=();exact pm32
 |have pp32j:=();exact pm32):G:=h
theorem pm306(h:G:=by
 rcases hs with hs | ⟨b,off,ha,hok,hc⟩
 ·exact .inl hs
 first
 |clear pp306a
  ·by_cases h0:al=[]
   ·exact .inl h0
   ·have hk:=hb b hok (AF (hc 0 (List.length_pos_iff.2 h0)))
    exact pm285
 |clear pp306b
  ·by_cases h0:ss=[]
   ·exact .inl h0
   ·have hk:=hb b hok (AG (hc 0 (List.length_pos_iff.2 h0)))
    exact pm285
 |clear pp306c
  ·exact .inr ⟨b,off,ha,hok,fun j hj=>(hc j hj).nw hn⟩
 |first
  |clear pp241
   ·by_cases h0:l=[]
    ·exact .inl h0
    ·have hk:=hb b hok (AF (hc 0 (List.length_pos_iff.2 h0)))
     exact pm285
  |·by_cases h0:l=[]
    ·exact .inl h0
    ·have hk:=hb b hok (AG (hc 0 (List.length_pos_iff.2 h0)))
     exact pm285):G:=h
theorem pm307(h:G:=by
 rintro X Y hn ⟨h1,h2,h3,h4⟩
 exact ⟨h1,h2,hn.cells h3,mg h4 hn⟩):G:=h
theorem pm308(h:G:=by
 have e:cz k c (.mk o n a s)=.mk o n (eQ k.ts c a) (eR k c s):=by
  simp only[cz,if_neg lK,if_neg iE,if_neg hq]
 first
 |clear pp308
  have jC:bn o=false:=by simpa using hq
  rw[e]
  exact ⟨by simp[iF,i1,t7 k2 (c:=c) a hok.2.2.2.1 h1],by simp[qone,jC,i2]⟩
 |rw[e]
  have ha:=oR (k:=k.ts) (c:=c) a hok.2.2.2.1
  refine ⟨?_,?_⟩
  ·simp only[nodesF];omega
  ·simp only[ks,Bool.and_eq_true,decide_eq_true_eq]
   exact ⟨c9.1,by have:=c9.2.1;omega,ev (by omega) _ (t_ (KD hk fB) a c9.2.2.1),ih.2⟩):G:=h
theorem pm309(h:G:=by
 have gu:(xn == xn)=true:=by simp
 have iD:(!(xn == xn))=false:=by simp
 first
 |clear pp309a
  have f9:=bZ
  have kI:=HX
  have lX:=HY
  have nK:=ab (HP.o.later bZ.o)
  cases qb
  ·have HM:Hd (R=(bH ps.reverse xa ya && cb ps.reverse xs ys)):=ab (by rw[hm];simp)
   clear hm
   go_wp2
   rw[<-eN.o]
   go_loopw [47] (fun i wr=>∃k:Nat,k<=k0/\i=.int .i64 k/\Below W2.heap.size W2 wr/\R=(bH ps.reverse (xa.drop k) (ya.drop k) && cb ps.reverse xs ys)) (fun i _=>k0 - (intOf i).toNat)
   case atStart=>exact ⟨0,Nat.zero_le _,rfl,Below.refl _ _,by simpa using HM.o⟩
   case round=>
    have pp2a:=();exact pm2
  ·have HM:Hd (R=(bH ps.reverse xa ya && cb (ps ++ [(xn,xn)]).reverse xs ys)):=ab (by rw[hm];simp)
   clear hm
   go_wp2
   rw[<-eN.o]
   go_loopw [47] (fun i wr=>∃k:Nat,k<=k0/\i=.int .i64 k/\Below W2.heap.size W2 wr/\R=(bH ps.reverse (xa.drop k) (ya.drop k) && cb (ps ++ [(xn,xn)]).reverse xs ys)) (fun i _=>k0 - (intOf i).toNat)
   case atStart=>exact ⟨0,Nat.zero_le _,rfl,Below.refl _ _,by simpa using HM.o⟩
   case round=>
    have pp2b:=();exact pm2
 |clear pp309b
  have HM:Hd (R=(bH ps.reverse xa ya && cb ps.reverse xs ys)):=ab (by rw[hm];simp)
  clear hm
  go_wp2_with (go_at_call 146;refine (EO.o _).mono ?_;rintro e X0 ⟨rfl,ky⟩;have lx:Below W2.heap.size W2 X0:=(by rw[eN.o];exact ky);have kI:=ab (bC lx HX.o);have lX:=ab (bC lx HY.o);have nK:=ab ((HP.o.later bZ.o).later lx);have f9:=ab (bZ.o.trans (lx.mono bZ.o.size));have z1:X0.cell? ⟨w.heap.size,1,none⟩=some (.string ⟨xn.toArray⟩):=ai kI.o 1;have z3:X0.cell? ⟨w.heap.size+1,1,none⟩=some (.string ⟨xn.toArray⟩):=ai lX.o 1;have z2:X0.cell? ⟨w.heap.size,2,none⟩=some (.slice ua k0 uc):=ai kI.o 2;clear ky lx)
  clear z1 z2 z3
  go_loopw [47] (fun i wr=>∃k:Nat,k<=k0/\i=.int .i64 k/\Below X0.heap.size X0 wr/\R=(bH ps.reverse (xa.drop k) (ya.drop k) && cb ps.reverse xs ys)) (fun i _=>k0 - (intOf i).toNat)
  case atStart=>exact ⟨0,Nat.zero_le _,rfl,Below.refl _ _,by simpa using HM.o⟩
  case round=>
   have pp17:=();exact pm17
 |have WI:Hd (R=bH ps.reverse xa ya):=ab (by rw[oJ.o];simp)
  clear oJ
  go_wp2
  first
  |clear pp143a
   rw[<-eN.o]
   go_loopw [67] (fun i wr=>∃k:Nat,k<=k0/\i=.int .i64 k/\Below W2.heap.size W2 wr/\R=bH ps.reverse (xa.drop k) (ya.drop k)) (fun i _=>k0 - (intOf i).toNat)
   case atStart=>exact ⟨0,Nat.zero_le _,rfl,(Below.refl _ _),by simpa using WI.o⟩
   case round=>
    exact pm15
  |clear pp143b
   go_loopw [67] (fun i wr=>∃k:Nat,k<=k0/\i=.int .i64 k/\Below W2.heap.size W2 wr/\R=bH ps.reverse (xa.drop k) (ya.drop k)) (fun i _=>k0 - (intOf i).toNat)
   case atStart=>exact ⟨0,Nat.zero_le _,rfl,Vn.o,by simpa using WI.o⟩
   case round=>
    exact pm15
  |rw[<-eN.o]
   go_loopw [36] (fun i wr=>∃k:Nat,k<=k0/\i=.int .i64 k/\Below W2.heap.size W2 wr/\R=bH ps.reverse (xa.drop k) (ya.drop k)) (fun i _=>k0 - (intOf i).toNat)
   case atStart=>exact ⟨0,Nat.zero_le _,rfl,(Below.refl _ _),by simpa using WI.o⟩
   case round=>
    obtain ⟨k,hk,rfl,cQ,ht⟩:=hrel
    by_cases hlt:k<k0
    ·have bc:=bR cY.o hlt
     have j6:=bR fN.o hlt
     have az:=bZ.o.trans (cQ.mono (by omega))
     exact pm80
    ·obtain rfl:k=k0:=by omega
     exact pm175):G:=h
theorem pm310(h:G:=by
 obtain ⟨k0,bO⟩:=ao l.length
 rw[<-bO]at cq ⊢
 obtain ⟨cY,HL,eM,HF⟩:=eA bO hl ih aD
 clear bO hl ih aD
 first
 |clear pp310
  go_enter Tryz.func164,Tryz.ntmps164
  go_wp2
  go_loopw [5,10] (fun r i wr=>∃k:Nat,k<=k0/\i=.int .i64 k/\Below w.heap.size w wr/\r=.int .i64 (eW x (l.take k))) (fun _ i _=>k0 - (intOf i).toNat)
  case atStart=>exact ⟨0,Nat.zero_le _,rfl,Below.refl _ _,by simp[eW]⟩
  case round=>
   obtain ⟨k,hk,rfl,az,rfl⟩:=hrel
   by_cases hlt:k<k0
   ·have bc:=bR cY.o hlt
    have pp153b:=();exact pm153
   ·obtain rfl:k=k0:=by omega
    have h1:l.take k=l:=by rw[cY.o];exact List.take_length
    rw[h1]
    have HB:=ab az
    clear h1 az
    go_wp2
    go_ret
    exact ⟨rfl,HB.o⟩
 |go_enter Tryz.func54,Tryz.ntmps54
  go_wp2
  go_loopw [5,6] (fun r i wr=>∃k m:Nat,k<=k0/\i=.int .i64 k/\r=.int .i64 m/\Below w.heap.size w wr/\ig l left 0=ig (l.drop k) left m/\m<=100002000000) (fun _ i _=>k0 - (intOf i).toNat)
  case atStart=>exact ⟨0,0,Nat.zero_le _,rfl,rfl,Below.refl _ _,by simp,by omega⟩
  case round=>
   obtain ⟨k,m,hk,rfl,rfl,az,hcut,zG⟩:=hrel
   by_cases hlt:k<k0
   ·by_cases tQ:(m:Int)<=left
    ·have bc:=bR cY.o hlt
     exact pm153
    ·have E3:decide ((m:Int)<=left)=false:=by simp;omega
     have xF:decide ((k:Int)<(k0:Int))=true:=by simp;omega
     have he:=hcut.trans (Im _ tQ)
     obtain ⟨HE,HB⟩:=aS he az
     clear he hcut az
     go_wp2
     go_ret
     exact ⟨ph (by rw[HE.o]),HB.o⟩
   ·obtain rfl:k=k0:=by omega
    have hd:l.drop k=[]:=by rw[cY.o];exact List.drop_length
    rw[hd]at hcut
    have he:ig l left 0=m:=hcut
    obtain ⟨HE,HB⟩:=aS he az
    clear he hcut az hd
    go_wp2
    go_ret
    exact ⟨ph (by rw[HE.o]),HB.o⟩):G:=h
theorem pm311(h:G:=by
 rw[BZ]
 exact ⟨by simp only[Bool.and_eq_true];exact ⟨⟨hn,ht⟩,hk.1⟩,qE n t k ((fY _ _).1 hg) hk.2⟩):G:=h
end Go.Proofs.YtokemihbkeddoaaGreatDoor
