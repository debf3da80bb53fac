/-
  Runs of tactics that several proofs share.
-/
import Derived.ArgAppend
import Derived.Below
import Derived.BigQuiet
import Derived.BigRegionIn
import Derived.Carry
import Derived.ChangeMaps5
import Derived.ChangeSame
import Derived.ChangeStays
import Derived.ControlIn
import Derived.Deep.AppendLies
import Derived.Deep.Cut
import Derived.Deep.DeepCutAuto
import Derived.Deep.DeepHandedRow
import Derived.Deep.DeepWitnessRowRef
import Derived.Deep.Fields
import Derived.Deep.LoopGhost
import Derived.Deep.QuietTactic
import Derived.Deep.Slices
import Derived.Deep.Upon
import Derived.Defers
import Derived.Ground.GgzProg
import Derived.Ground.SlgmProg
import Derived.JoinedCond
import Derived.Laws.World
import Derived.Lib.Hide
import Derived.Lib.ItoaMem
import Derived.Lib.ItoaNum
import Derived.Lib.LaidTab
import Derived.Lib.LaidU8
import Derived.Lib.SliceRun
import Derived.Lib.SmallJoins
import Derived.LoopIn
import Derived.Maps.OwnIn
import Derived.Maps.OwnSet
import Derived.OpenShut
import Derived.OrdersHeld
import Derived.OrdersIn
import Derived.OwnWalkIn
import Derived.ProofKit
import Derived.RangeFuncBound
import Derived.RangeFuncBox
import Derived.RangeFuncLeaves
import Derived.RangeFuncNested
import Derived.RangeFuncRecord
import Derived.RegionIn
import Derived.Shelf.Abstract
import Derived.Shelf.AbstractIn
import Derived.Shelf.SlIter.Nil
import Derived.Shelf.SortM.Plain
import Derived.Shelf.SortM.SortNone
import Derived.ShutString
import Derived.SizedLaws
import Derived.SliceStrings
import Derived.Sort.KeysCollected
import Derived.Sort.Walk0
import Derived.Stop.RegionWithIn
import Derived.TacticsIn
import Derived.TacticsInMore
import Derived.WalkKit
import Derived.WalkLawsBesides
import Derived.WalkMore
import Derived.WalkSpells
namespace Go.Proofs.YtokemihbkeddoaaGreatDoor
open Go Go.RowKit Lib
set_option maxRecDepth 100000
variable {G:Prop}
theorem pm95(h:G:=by
 obtain ⟨HR,HC,jA⟩:=cf hrel eD aZ
 clear hrel eD cv m4 BS D3 gW nM ha hb hc hj aZ hu fO c0 c1 c2 c3
 go_wp2_with (go_at_call 64;refine HC.o.mono ?_;rintro e w6 ⟨rfl,yY,l6,yZ,C_,nA,jp⟩;have oX:=bx yY yZ (jp rfl);clear yY yZ C_ nA jp)
 go_roundw
 case rel=>exact ⟨k+1,by omega,by go_num,jA.o.trans ((Kp.below ct).trans oX.o.1),by rw[<-HR.o.2.2.2,<-oX.o.2.2];exact oX.o.2.1,HR.o.1,HR.o.2.1,HR.o.2.2.1⟩
 case measure=>simp[intOf];omega):G:=h
theorem pm96(h:G:=by
 go_roundw
 case rel=>
  obtain ⟨aR,aq,hg,_⟩:=HG.o
  have cw:=eq.o.stepF (F:=3) (t:=u') (p:=⟨po,pn,pa,pl,pc,pb,pm,pe⟩) (g:=g) (cap:=et) (by rw[rO.o.2];exact xU.o.2.1) (by rw[rO.o.2];exact xU.o.1) xU.o.2.2 GO.o.2 GO.o.1 (by rw[rO.o.2];exact aR) aq (by rcases hg with h | h;exact .inl h;exact .inr (by simp;omega)) rfl
  rw[rO.o.2]at cw
  exact ⟨k+1,by omega,by go_num,_,us ++ [u'],cw,rO.o.1,by rw[List.length_append,rO.o.2];rfl⟩
 case measure=>simp[intOf];omega):G:=h
theorem pm97(h:G:=by
 obtain ⟨⟨so,sn,sa,sl,sc,sb,sm,se⟩,⟨fo,fn,fa,fl,fc,fb,fm,fe⟩,ca,cl,cc⟩:=q
 first
 |clear pp97a
  simp only[PlQ.cells,PlQ.val,FQ.val]at GM vW ⊢
  have t0:W3.cell? ⟨w.heap.size+1,0,none⟩=some (.int .u8 qo):=ai xt 0
  have t1:W3.cell? ⟨w.heap.size+1,1,none⟩=some (.string ⟨n.toArray⟩):=ai xt 1
  have t2:W3.cell? ⟨w.heap.size+1,2,none⟩=some (.slice qa k0 qc):=ai xt 2
  rw[<-bO,<-du]
  have HX:=bx xp xt x1
  clear hq bD dJ aD ih Mh cw bO du Cc hi' aJ uG xp xt x1 cZ hL Mg wE hLs
  go_enter Tryz.func91,Tryz.ntmps91
  go_wp2
  rw[<-vW.o]
  obtain ⟨W1,bQ⟩:=ao (W3.alloc (.cells #[.int .u8 qo,.string ⟨n.toArray⟩,.slice none 0 0,.slice none 0 0] 36))
  have z':=cB bQ
  have WK:W1.heap[w.heap.size+1+1+1]?=some (.cells #[.int .u8 qo,.string ⟨n.toArray⟩,.slice none 0 0,.slice none 0 0] 36 (0,0)):=by rw[bQ];exact aj (by have:=bp.o.2;omega)
  rw[<-bQ]
  have gu:W1.heap.size=w.heap.size+4:=by rw[bQ];have:=bp.o.2;simp;omega
  have tp:=ab (Fills.start (R:=w.heap.size+1+1+1) (mk:=fun rr=>#[.int .u8 qo,.string ⟨n.toArray⟩,rr,.slice none 0 0]) (Row:=fun r W=>RowT W1.heap.size r ([]:List Tm) W) WK (RowT.nil _ _))
  have dG:=aF (bp.o.1.tr z') gu
  have Mi:=ab (bC z' HX.o.1)
  have WM:=ab (bC z' HX.o.2.1)
  have J4:=ab (bC z' HX.o.2.2)
  clear bQ z' WK gu t0 t1 t2
  go_loopw [25] (fun i wr=>∃k1:Nat,k1<=k0/\i=.int .i64 k1/\∃row Pe,Fills 36 (w.heap.size+1+1+1) W1.heap.size (fun rr=>#[.int .u8 qo,.string ⟨n.toArray⟩,rr,.slice none 0 0]) (fun r W=>RowT W1.heap.size r Pe W) W1 wr row/\dU ps.reverse ins (a.take k1)=some Pe/\Pe.length=k1) (fun i _=>k0 - (intOf i).toNat)
  case atStart=>exact ⟨0,Nat.zero_le _,rfl,_,[],tp.o,by simp[dU],rfl⟩
  case round=>
   obtain ⟨k1,hk,rfl,row,Pe,hF,xS,z_⟩:=hrel
   have az:=hF.below dG.o.1 (by omega)
   obtain ⟨e6,e7,rfl⟩:=hF.row.slice
   rw[z_]at hF
   by_cases hlt:k1<k0
   ·have da:=bR cY.o hlt
    have pp66a:=();exact pm66
   ·obtain rfl:k1=k0:=by omega
    have jc:a.take k1=a:=by rw[cY.o];exact List.take_length
    rw[jc]at xS
    have B9:=ab hF.row
    have x2:=hF.box
    have x1:=hF.other (by omega) J4.o
    have xp:=hF.other (by omega) Mi.o
    have xt:=hF.other (by omega) WM.o
    obtain ⟨Cd,Mj⟩:=ao wr
    subst Mj
    have CQ:=ef ⟨qo,⟨n.toArray⟩,qa,k1,qc,qb,m0,qe⟩ Cd
    simp only[FQ.val]at CQ
    have e0:Cd.cell? ⟨w.heap.size+1,0,none⟩=some (.int .u8 qo):=ai xt 0
    have e1:Cd.cell? ⟨w.heap.size+1,1,none⟩=some (.string ⟨n.toArray⟩):=ai xt 1
    have e2:Cd.cell? ⟨w.heap.size+1,2,none⟩=some (.slice qa k1 qc):=ai xt 2
    have e3:Cd.cell? ⟨w.heap.size+1,3,none⟩=some (.slice qb m0 qe):=ai xt 3
    have FR:=ab CQ
    have HAs:=aF xS z_
    have WN:=ab hF
    have HE:=eO xp xt x1 x2 az
    clear CQ xS z_ hF xp xt x1 x2 az jc
    go_wp2_with fail
    refine FR.o.mono ?_
    rintro e wq ⟨rfl,ky⟩
    clear e0 e1 e2 e3
    have SW:=WN.o.later ky (fun r=>r.below ky)
    have Ew:=ab (HE.o.2.2.2.2.tr ky)
    have WO:=ab (SW.other (by omega) Mi.o)
    have SX:=ab (SW.other (by omega) WM.o)
    have WP:=ab (SW.other (by omega) J4.o)
    obtain ⟨WQ,Rj⟩:=aS SW.box SW.row
    have Mk:=aF SW.size WN.o.lt
    clear ky SW WN HE B9
    cases n_:bn qo with
    | false=>
     have sU:pL=ins:=by rw[HI'.o,n_];rfl
     have Ml:=aF Ew.o Mk.o.1
     have Mm:=WO
     have SY:=SX
     have Mn:=WP
     have SZ:=WQ
     have GQ:=Rj
     have GR:=aF (mY.o.1.later Ew.o) (show ∀ b,vL.ownBlock=some b->b≠w.heap.size+1+1+1/\b<wq.heap.size from fun b hb=>by have:=mY.o.2 b hb;have:=Ew.o.size;omega)
     have GS:=Cb.o.2
     rw[sU]at GS
     have Mo:=aF Cb.o.1 GS
     clear Cb GS
     have S2:=ab (Fills.start (R:=w.heap.size+1+1+1) (mk:=fun rr=>#[.int .u8 qo,.string ⟨n.toArray⟩,.slice e6 k1 e7,rr]) (Row:=fun r W=>RowF wq.heap.size r ([]:List Fm) W) SZ.o (RowF.nil _ _))
     have p3:wq.cell? ⟨w.heap.size+1,3,none⟩=some (.slice qb m0 qe):=ai SY.o 3
     clear sU
     go_wp2
     clear p3
     go_loopw [61] (fun i wr=>∃k:Nat,k<=m0/\i=.int .i64 k/\∃row us,Fills 36 (w.heap.size+1+1+1) wq.heap.size (fun rr=>#[.int .u8 qo,.string ⟨n.toArray⟩,.slice e6 k1 e7,rr]) (fun r W=>RowF wq.heap.size r us W) wq wr row/\ek ps.reverse ins (s.take k)=some us/\us.length=k) (fun i _=>m0 - (intOf i).toNat)
     case atStart=>exact ⟨0,Nat.zero_le _,rfl,_,[],S2.o,by simp[ek],rfl⟩
     case round=>
      exact pm240
    | true=>
     obtain ⟨i0s,Pf,zaz,zaA,zaB⟩:=info_parts xI
     have sU:pL=n :: ins:=by rw[HI'.o,n_];rfl
     have zaC:=mY.o.1.later Ew.o
     obtain ⟨la,lc,zY,hlc,pX⟩:=zaC
     obtain ⟨l0,sW⟩:=ao L.length
     rw[<-sW]at zY hlc
     have zcA:l0<=2000000:=by rw[sW];exact GP.o.2.2
     have pp183:=();exact pm183
 |clear pp97b
  simp only[PlQ.val,PlQ.cells]at eN HC ⊢
  go_enter Tryz.func163,Tryz.ntmps163
  go_wp2_with (rw[<-eN.o];go_at_call 227;refine HC.o.mono ?_;rintro e w4 ⟨rfl,aN⟩;have H4:=ab aN;clear aN)
  go_ret
  exact ⟨rfl,HB.o.tr H4.o⟩
 |clear pp97c
  obtain ⟨hs,hf,hc,he,hl⟩:=hpv
  simp only at hs hf hc he hl pA
  have gh:=hp.ps he
  obtain ⟨v1,v2,h1,ib,lu⟩:=aQ.1 hs
  obtain ⟨v3,v4,h2,Cm,Tx⟩:=aQ.1 hf
  simp only[FQ.val,Value.agg.injEq,Array.mk.injEq,List.cons.injEq,and_true,Value.int.injEq,true_and,Value.string.injEq]at h1 h2
  obtain ⟨rfl,rfl,rfl,rfl⟩:=h1
  obtain ⟨rfl,rfl,rfl,rfl⟩:=h2
  obtain rfl:=ib.len
  obtain rfl:=Cm.len
  obtain rfl:=lu.len
  obtain rfl:=Tx.len
  subst he
  obtain ⟨R,hR⟩:=ao (cm k ⟨.mk so n a s,.mk fo n' a' s',ps.reverse⟩)
  rw[<-hR]
  have oI:=hR
  rw[ES]at oI
  obtain ⟨n1,dT⟩:=ao a.length
  obtain ⟨n2,lH⟩:=ao a'.length
  obtain ⟨m1,iR⟩:=ao s.length
  obtain ⟨m2,we⟩:=ao s'.length
  rw[<-dT]at hs ib
  rw[<-iR]at hs lu
  rw[<-lH]at hf Cm
  rw[<-we]at hf Tx
  rw[<-dT,<-lH,<-iR,<-we]
  rw[<-dT,<-lH,<-iR,<-we]at oI
  obtain ⟨W1,bQ⟩:=ao (W.alloc (.cells #[.int .u8 so,.string ⟨n.toArray⟩,.slice sa n1 sc,.slice sb m1 se,.int .u8 fo,.string ⟨n'.toArray⟩,.slice fa n2 fc,.slice fb m2 fe,.slice ca cl cc] 89))
  have hb1:=cB bQ
  have jS:=DL bQ
  have x1:=bN bQ
  have lj:n.length<=16:=by have h:=gB _ hp.s;simp only[ks,Bool.and_eq_true,decide_eq_true_eq]at h;exact h.2.1
  have ki:=gB _ hp.s
  simp only[ks,Bool.and_eq_true,decide_eq_true_eq]at ki
  have pU:=gB _ hp.f
  have aD:fitF (.mk fo n' a' s'):=⟨by have:=hp.n;simp only at this;omega,jR (by omega) _ pU⟩
  have zX:ac a<=400:=by simp only[nodesF]at pA;omega
  have J_:n1<=400:=by have:=gy a;omega
  have Pt:n2<=2000000:=by rw[lH];exact aD.args.len
  obtain ⟨HR,HP⟩:=aS oI hp
  have HG:=eO ON OM OO Tv Tw
  have HV:=pI hs hf ib Cm hc dw
  have HN:=ce dT lH iR we
  have HB:=eO pN oA zX hl gh
  have lI:=ab bQ
  have H1:=bx hb1 jS x1
  have HF:=aF aD ki
  clear oI hR hp ON OM OO Tv Tw hs hf ib Cm lu Tx hc dw dT lH iR we pN oA zX hl gh bQ hb1 jS aD ki pU yw pA
  simp only[PlQ.val,PlQ.cells]
  go_enter Tryz.func47,Tryz.ntmps47
  go_wp2
  rw[<-lI.o]
  go_cut [5,6] from 14 to 17 (fun s5 s6 wx=>∃B5 B6,s5=.pointer (some ⟨B5,0,none⟩)/\s6=.pointer (some ⟨B6,0,none⟩)/\Cmp W W1 B5 B6 #[.int .u8 so,.string ⟨n.toArray⟩,.slice sa n1 sc,.slice sb m1 se] #[.int .u8 fo,.string ⟨n'.toArray⟩,.slice fa n2 fc,.slice fb m2 fe] wx)
  case first=>
   obtain ⟨c0,c1,c2,c3,c4,c5,c6,c7⟩:=zP x1
   have Vy:Below W1.heap.size W1 (W1.alloc (.cells #[.int .u8 0,.string ⟨#[]⟩,.slice none 0 0,.slice none 0 0] 36)):=ct
   obtain ⟨d00,d01,d02,d03,d04,d05,d06,d07⟩:=Gf Vy c0 c1 c2 c3 c4 c5 c6 c7
   clear Vy
   have hb1:Below W1.heap.size W1 ((W1.alloc (.cells #[.int .u8 0,.string ⟨#[]⟩,.slice none 0 0,.slice none 0 0] 36)).alloc (.cells #[.int .u8 0,.string ⟨#[]⟩,.slice none 0 0,.slice none 0 0] 36)):=ct.alloc (by simp) _
   obtain ⟨d10,d11,d12,d13,d14,d15,d16,d17⟩:=Gf hb1 c0 c1 c2 c3 c4 c5 c6 c7
   clear hb1
   have bA:Below W1.heap.size W1 ((W1.alloc (.cells #[.int .u8 so,.string ⟨n.toArray⟩,.slice sa n1 sc,.slice sb m1 se] 36)).alloc (.cells #[.int .u8 0,.string ⟨#[]⟩,.slice none 0 0,.slice none 0 0] 36)):=ct.alloc (by simp) _
   obtain ⟨d20,d21,d22,d23,d24,d25,d26,d27⟩:=Gf bA c0 c1 c2 c3 c4 c5 c6 c7
   clear bA
   have aJ:Below W1.heap.size W1 ((W1.alloc (.cells #[.int .u8 0,.string ⟨#[]⟩,.slice none 0 0,.slice none 0 0] 36)).alloc (.cells #[.int .u8 so,.string ⟨n.toArray⟩,.slice sa n1 sc,.slice sb m1 se] 36)):=ct.alloc (by simp) _
   obtain ⟨d30,d31,d32,d33,d34,d35,d36,d37⟩:=Gf aJ c0 c1 c2 c3 c4 c5 c6 c7
   clear aJ
   go_region
   ·go_wp2_with fail
    go_meet
    exact ⟨_,_,rfl,rfl,Cmp.one W W1 _ _⟩
   ·go_wp2_with fail
    go_meet
    exact ⟨_,_,rfl,rfl,Cmp.two W W1 _ _⟩
  case rest=>
  obtain ⟨B5,B6,h5,h6,hcm⟩:=hcut
  rw[h5,h6]
  clear h5 h6
  obtain ⟨W3,cZ⟩:=ao wc
  rw[<-cZ]at hcm ⊢
  clear cZ wc
  have aJ:Below W.heap.size W W3:=H1.o.1.tr hcm.b
  have xp:=bC hcm.b H1.o.2.2
  have hlb:=hcm.l
  obtain ⟨e0,e1,e2,e3,_,_,_,_⟩:=cW hcm.s
  obtain ⟨f0,f1,f2,f3,_,_,_,_⟩:=cW hcm.f
  obtain ⟨P0,P1,P2,P3,P4,P5,P6,P7⟩:=zP xp
  have P8:=ai xp 8
  have H3:=ce aJ xp hcm hlb
  have lJ:=ab (HV.o.2.2.2.2.2.later aJ)
  clear aJ xp hcm hlb
  by_cases iE:so=16
  ·subst iE
   have HE:=ab (show R=(k,0) by rw[HR.o,if_pos rfl])
   go_wp2
   go_ret
   exact StepPost.good nF nT HE.o (Kp.below (H3.o.1.tr (Below.refl _ _))) (by omega) (by omega) lJ.o
  by_cases lK:so=15
  ·subst lK
   obtain ⟨I,hI⟩:=ao (fD ps.reverse [] (.mk fo n' a' s'))
   have Lm:=HR.o
   rw[if_neg (by decide),if_pos rfl,<-hI]at Lm
   have CI:=AW ⟨⟨15,⟨n.toArray⟩,sa,n1,sc,sb,m1,se⟩,⟨fo,⟨n'.toArray⟩,fa,n2,fc,fb,m2,fe⟩,ca,cl,cc⟩ ps HB.o.2.2.2.1 HB.o.2.2.2.2 (.mk fo n' a' s') HF.o.1 [] [] (by have:=HF.o.1.1;simp;omega) (fun _=>rfl) (.slice none 0 0) (fun b=>¬M b) W3 ⟨fo,⟨n'.toArray⟩,fa,n2,fc,fb,m2,fe⟩ (HV.o.2.2.2.2.1.1.later H3.o.1) (Bi _) (HV.o.2.1.later H3.o.1)
   rw[<-hI]at CI
   simp only[PlQ.val,PlQ.cells,FQ.val]at CI
   have HC:=ab CI
   cases I with
   | none=>
    have HE:=ab (show R=(k,70) from Lm)
    clear CI Lm hI
    have pp178:=();exact pm178
   | some im=>
    have I5:goodF im:=EM HP.o hI.symm
    have Ru:=ab I5
    clear CI hI I5
    go_wp2_with (go_at_call 91;refine HC.o.mono ?_;rintro e w4 ⟨⟨⟨p0,p1,p2,p3,p4,p5,p6,p7⟩,rfl,hp⟩,aN⟩;have H4:=aF (hp _ rfl) aN;clear hp aN;simp only[Option.isSome])
    obtain ⟨W5,eo⟩:=ao (w4.alloc (.cells #[.int .u8 p0,.string p1,.slice p2 p3 p4,.slice p5 p6 p7] 36))
    rw[<-eo]
    have nW:=cB eo
    have me:Below W3.heap.size W3 W5:=H4.o.2.tr nW
    have GH:=DL eo
    have x7:=bN eo
    have EU:FormV (fun b=>¬M b) W5 (FQ.val ⟨p0,p1,p2,p3,p4,p5,p6,p7⟩) im:=H4.o.1.move (fun b hb hlt=>⟨fun hm=>by have:=HG.o.2.2.2.2 b hm;have:=H3.o.1.size;omega,nW.block b hlt⟩)
    have iv:=lJ.o.later me
    have bc:kb<W5.heap.size:=iv.ltb
    have g0:W5.cell? ⟨kb,0,none⟩=some (.map (some mF)):=ai iv.box 0
    have g1:W5.drew.cell? ⟨kb,0,none⟩=some (.map (some mF)):=ai iv.box 0
    have g2:=aa me e1
    have g3:=aa me.drew e1
    have a_:Below W5.heap.size W5 (W5.alloc (.cells #[.int .u8 0,.string ⟨#[]⟩,.slice none 0 0,.slice none 0 0] 36)):=ct
    obtain ⟨g4,g5⟩:=wN a_ g0 g2
    have H5:=ce me EU x7 iv
    rcases iv.fs.look Tryz.underlying9 Tryz.underlying145 kX (x:=n) (by have:=HF.o.2.2.1;omega) with ⟨hg,hlk⟩ | ⟨g,vg,hg,hvg,hlk⟩
    ·have l1:=(hlk W5.drew rfl).1
     have pp210:=();exact pm210
    ·obtain ⟨⟨Cs,Ct,Cu,Cv,Cw,Cx,Cy,Cz⟩,rfl,nl,EV⟩:=hvg
     simp only[FQ.val]at hlk
     have l1:=(hlk W5.drew rfl).1
     exact pm210
  obtain ⟨G,hG⟩:=ao (so != fo || (n1 != n2 || (m1 != m2 || (n != n' && !bn so))))
  have hRg:=HR.o
  rw[if_neg iE,if_neg lK,<-hG]at hRg
  obtain ⟨Vz,VA⟩:=aS hRg hG
  have gC:(so == 16)=false:=by simp[iE]
  have G9:(so == 15)=false:=by simp[lK]
  clear hRg hG
  go_upto_region 15 with fail
  clear gC G9
  go_cut [89] from 55 to 89 (fun s89 wx=>s89=.bool G/\Below W3.heap.size W3 wx)
  case first=>
   by_cases g1:so=fo
   ·subst g1
    have a1:(so == so)=true:=by simp
    by_cases g2:n1=n2
    ·subst g2
     by_cases g3:m1=m2
     ·subst g3
      by_cases g4:n=n'
      ·subst g4
       have a4:(n == n)=true:=by simp
       go_wp2_with fail
       go_meet
       exact ⟨by rw[VA.o];simp,Below.refl _ _⟩
      ·have a4:(n == n')=false:=by simp[g4]
       have a5:(n != n')=true:=by simp[g4]
       obtain ⟨qb,FY⟩:=ao (bn so)
       have HQ:=ab (fun (V:World)=>ef ⟨so,⟨n.toArray⟩,sa,n1,sc,sb,m1,se⟩ V)
       simp only[FQ.val,<-FY]at HQ
       have HGq:=ab (show G=!qb by rw[VA.o,FY];simp[g4])
       clear FY
       cases qb
       ·go_wp2_with (go_at_call 93;refine (HQ.o _).mono ?_;rintro e w4 ⟨rfl,aN⟩;have H4:=ab aN;clear aN)
        go_meet
        exact ⟨by rw[HGq.o];rfl,H4.o⟩
       ·go_wp2_with (go_at_call 93;refine (HQ.o _).mono ?_;rintro e w4 ⟨rfl,aN⟩;have H4:=ab aN;clear aN)
        go_meet
        exact ⟨by rw[HGq.o];rfl,H4.o⟩
     ·have a3:((m1:Int) != (m2:Int))=true:=by simp;omega
      have a3b:((m1:Int) == (m2:Int))=false:=by simp;omega
      have a3c:¬((m1:Int)=(m2:Int)):=by omega
      go_wp2_with fail
      go_meet
      exact ⟨by rw[VA.o];simp[g3],Below.refl _ _⟩
    ·have a3:((n1:Int) != (n2:Int))=true:=by simp;omega
     have a3b:((n1:Int) == (n2:Int))=false:=by simp;omega
     have a3c:¬((n1:Int)=(n2:Int)):=by omega
     go_wp2_with fail
     go_meet
     exact ⟨by rw[VA.o];simp[g2],Below.refl _ _⟩
   ·have a1:(so == fo)=false:=by simp[g1]
    have a2:(so != fo)=true:=by simp[g1]
    go_wp2_with fail
    go_meet
    exact ⟨by rw[VA.o];simp[g1],Below.refl _ _⟩
  case rest=>
  obtain ⟨h89,aN⟩:=hcut
  rw[h89]
  clear h89
  obtain ⟨W4,uy⟩:=ao wc
  rw[<-uy]at aN ⊢
  clear uy wc
  cases G with
  | true=>
   have HE:=ab (show R=(k,70) by rw[Vz.o];rfl)
   have em:=ab (H3.o.1.tr aN)
   clear aN
   go_wp2
   go_ret
   exact StepPost.bad HE.o (by decide) (Kp.below em.o)
  | false=>
   have hgg:=VA.o.symm
   simp only[Bool.or_eq_false_iff,bne_eq_false_iff_eq]at hgg
   obtain ⟨g1,g2,g3,_⟩:=hgg
   subst g1 g2 g3
   have XH:=H3.o.1.tr aN
   have xp4:=bC aN H3.o.2.1
   have x54:=bC aN H3.o.2.2.1.s
   have x64:=bC aN H3.o.2.2.1.f
   have q2:=ai x54 2
   have hsz:W.heap.size<W4.heap.size:=(bl xp4)
   have H4:=eO XH hsz xp4 x64 (H3.o.2.2.2.2)
   have WW:=ab (lJ.o.later aN)
   obtain ⟨OG,HVa⟩:=aS HN.o.2.1 HV.o.2.2.2.1
   have zaZ:∀ {V:World},Kp M W V->PairsN M V (.slice ca cl cc) ps:=fun h=>HV.o.2.2.2.2.1.kp h
   have OP:=ab (show ∀ u∈a,fitT u/\iS 1999999 u=true from fun u hu=>by
    have h1:=eB.1 HF.o.2.2.2.1 u hu
    have h2:=fA hu
    have:=HB.o.2.2.1
    exact ⟨⟨by omega,lh (by omega) u h1⟩,lh (by omega) u h1⟩)
   have Tz:=Vz.o
   simp only[Bool.false_eq_true,↓reduceIte]at Tz
   have Vz:=ab Tz
   clear aN XH xp4 x54 x64 hsz e0 e1 e2 e3 f0 f1 f2 f3 P0 P1 P2 P3 P4 P5 P6 P7 P8
   go_wp2_with fail
   clear Tz
   go_loopw [93] (fun i wr=>∃(j Aj:Nat) (kj:List (Str×Tm)),j<=n1/\i=.int .i64 j/\Kp (fun b=>b=mT) W4 wr/\Aj<=nT+ac (a.take j)/\KnV (fun b=>¬M b) goodF goodT wr kb mF mT nF Aj ⟨k.fs,kj⟩/\gd ps.reverse k.ts a a'=gd ps.reverse kj (a.drop j) (a'.drop j)) (fun i _=>n1 - (intOf i).toNat)
   case atStart=>exact ⟨0,nT,k.ts,Nat.zero_le _,rfl,Kp.refl _,by omega,WW.o,by simp⟩
   case round=>
    obtain ⟨j,Aj,kj,hj,rfl,aZ,nk,dw,fL⟩:=hrel
    have hMm:∀ b,b=mT->M b:=fun b e=>e ▸ HG.o.2.1
    have XI:Kp (N2 mF mT) W wr:=(Kp.below H4.o.1).trans (aZ.mono (fun b _ h=>.inr h))
    have G':Kp M W wr:=XI.two HG.o.1 HG.o.2.1
    have zcJ:mT<W.heap.size:=HG.o.2.2.2.2 mT HG.o.2.1
    by_cases hlt:j<n1
    ·have kN:=bR HN.o.1 hlt
     have zR:=bR OG.o hlt
     obtain ⟨b1,o1,⟨xv,xn,xa,xl,xc⟩,rfl,pO,hx,c0,c1,c2⟩:=HV.o.2.2.1.get kN
     obtain ⟨b2,o2,⟨yv,yn,ya,yl,yc⟩,rfl,pP,hy,y0,y1,y2⟩:=HVa.o.get zR
     simp only at c0 c1 c2 y0 y1 y2
     have d0:=G'.cell pO c0
     have d1:=G'.cell pO c1
     have d2:=G'.cell pO c2
     have g0:=G'.cell pP y0
     have g1:=G'.cell pP y1
     have g2:=G'.cell pP y2
     have OQ:=(aZ.same _ (by have:=H4.o.2.1;omega) (by omega)).trans H4.o.2.2.1
     have x6w:=(aZ.same _ (bl H4.o.2.2.2.1) (by have:=H4.o.2.2.2.2;have:=H1.o.2.1;omega)).trans H4.o.2.2.2.1
     exact pm117
    ·obtain rfl:j=n1:=by omega
     have HE:=ab (show R=({ k with ts:=kj },0) by
      rw[Vz.o,fL,List.drop_eq_nil_of_le (by rw[<-HN.o.1];exact Nat.le_refl _)];simp[gd])
     have cA:a.take j=a:=by rw[HN.o.1];exact List.take_length
     rw[cA]at nk
     have HK:=bx XI nk dw
     clear aZ nk dw fL cA G' XI
     go_wp2
     go_ret
     exact StepPost.good nF Aj HE.o HK.o.1 (by omega) (by have:=HK.o.2.1;have:=HB.o.2.2.1;omega) HK.o.2.2
 |clear pp97d
  simp only at hq
  obtain ⟨v1,v2,h1,ib,lu⟩:=aQ.1 hq
  have pp32e:=();exact pm32
 |clear pp97e
  simp only at hq
  obtain ⟨v1,v2,h1,ib,lu⟩:=aQ.1 hq
  have pp32f:=();exact pm32
 |clear pp97f
  simp only at hq
  obtain ⟨v1,v2,h1,ib,lu⟩:=aQ.1 hq
  have pp32g:=();exact pm32
 |clear pp97g
  simp only[PlQ.val,PlQ.cells]at HC hB
  have hs:=gi (63 :: r)
  have hx:=ir 63 r
  simp at hs hx
  have h1:((1:Int)<=((63 :: r).length:Int)):=by simp;omega
  have c0:w.drew.cell? ⟨B,0,none⟩=some (.int .u8 so):=ai hB 0
  have c1:w.drew.cell? ⟨B,1,none⟩=some (.string sn):=ai hB 1
  have c2:w.drew.cell? ⟨B,2,none⟩=some (.slice sa sl sc):=ai hB 2
  have c3:w.drew.cell? ⟨B,3,none⟩=some (.slice sb sm se):=ai hB 3
  have c4:w.drew.cell? ⟨B,4,none⟩=some (.int .u8 fo):=ai hB 4
  have c5:w.drew.cell? ⟨B,5,none⟩=some (.string fn):=ai hB 5
  have c6:w.drew.cell? ⟨B,6,none⟩=some (.slice fa fl fc):=ai hB 6
  have c7:w.drew.cell? ⟨B,7,none⟩=some (.slice fb fm fe):=ai hB 7
  have c8:w.drew.cell? ⟨B,8,none⟩=some (.slice ca cl cc):=ai hB 8
  obtain ⟨G,hG⟩:=ao ((ps.map (·.1)).contains r)
  rw[<-hG]at HC ⊢
  clear hv hB hG
  go_enter Tryz.func196,Tryz.ntmps196
  go_upto_region 1 with fail
  go_region_with (go_at_call 163;refine HC.o.mono ?_;rintro e w4 ⟨rfl,aN⟩;have H4:=ab (((Below.refl w.heap.size w).drew).trans aN);clear aN)
  all_goals (go_wp2;go_ret;exact ⟨rfl,H4.o⟩)
 |clear pp97h
  simp only[PlQ.val,PlQ.cells]at wB HX lI ⊢
  have c0:W1.cell? ⟨w.heap.size,0,none⟩=some (.int .u8 so):=ai HX.o.2 0
  have c1:W1.cell? ⟨w.heap.size,1,none⟩=some (.string sn):=ai HX.o.2 1
  have c2:W1.cell? ⟨w.heap.size,2,none⟩=some (.slice sa sl sc):=ai HX.o.2 2
  have c3:W1.cell? ⟨w.heap.size,3,none⟩=some (.slice sb sm se):=ai HX.o.2 3
  have c4:W1.cell? ⟨w.heap.size,4,none⟩=some (.int .u8 fo):=ai HX.o.2 4
  have c5:W1.cell? ⟨w.heap.size,5,none⟩=some (.string fn):=ai HX.o.2 5
  have c6:W1.cell? ⟨w.heap.size,6,none⟩=some (.slice fa fl fc):=ai HX.o.2 6
  have c7:W1.cell? ⟨w.heap.size,7,none⟩=some (.slice fb fm fe):=ai HX.o.2 7
  have c8:W1.cell? ⟨w.heap.size,8,none⟩=some (.slice ca cl cc):=ai HX.o.2 8
  clear hv hq dw hop oI hE hR hl uU pw hb1 x1 bQ hs pA RR
  go_enter Tryz.func125,Tryz.ntmps125
  go_upto_region 1 with fail
  rw[<-lI.o]
  go_wp2_with (first | (go_at_call 195;refine wB.o.mono ?_;rintro e w4 ⟨⟨v4,rfl,hv4⟩,aN⟩;have H4:=aF aN hv4;clear aN hv4) | (go_at_call 194;refine (ll.o w4 v4 H4.o.1 H4.o.2).mono ?_;rintro e w5 ⟨rfl,a_⟩;have H5:=ab a_;clear a_))
  go_ret
  exact ⟨rfl,(HX.o.1.tr H4.o.1).tr H5.o⟩
 |obtain ⟨hs,hf,hc,he,hl⟩:=hpv
  simp only at hs hf hc he hl pA
  have gh:=hp.ps he
  obtain ⟨v1,v2,h1,ib,lu⟩:=aQ.1 hs
  have pp32h:=();exact pm32):G:=h
theorem pm98(h:G:=by
 rcases h1 with ⟨rfl,h0⟩ | ⟨g,cap,cur,rfl,hlo,hb,hc,_,_,ht⟩
 ·obtain rfl:l=[]:=List.eq_nil_of_length_eq_zero h0
  exact ⟨none,0,rfl,Nat.le_refl _,.inl rfl⟩
 ·refine ⟨_,cap,rfl,hc,.inr ⟨g,0,rfl,hlo,fun j hj=>?_⟩⟩
  rw[Nat.zero_add,aL hb]
  have h2:(cur.toList.take (l.length * 1))[j]?=(l.map encStr)[j]?:=by rw[ht]
  rw[List.getElem?_take_of_lt (by omega),List.getElem?_map,List.getElem?_eq_getElem hj]at h2
  rw[<-Array.getElem?_toList,h2]
  rfl):G:=h
theorem pm99(h:G:=by
 go_enter Tryz.func122,Tryz.ntmps122
 first
 |clear pp99a
  go_wp2_with (first | (go_at_call 115;refine C1.o.mono ?_;rintro e w' ⟨rfl,rfl⟩) | (go_at_call 152;refine (CV.o _).mono ?_;rintro e w3 ⟨rfl,aJ⟩))
  go_ret
  exact JPost.yes HE.o (m5.o.1.trans (Kp.below aJ)) (m5.o.2.1.later aJ) (by show ((1:Nat):Int)<=left;omega)
 |clear pp99b
  go_wp2_with (first | (go_at_call 115;refine C1.o.mono ?_;rintro e w' ⟨rfl,rfl⟩) | (go_at_call 152;refine (CV.o _).mono ?_;rintro e w3 ⟨rfl,aJ⟩;have j0:=(m5.o.2.1.later aJ).c0;have bp:=ab aJ;clear aJ))
  go_ret
  exact JPost.no HE.o (m5.o.1.trans (Kp.below bp.o)) (m5.o.2.1.later bp.o) (by omega) (by omega)
 |clear pp99c
  go_wp2_with (go_at_call 115;refine C1.o.mono ?_;rintro e w' ⟨rfl,rfl⟩)
  go_ret
  exact JPost.no HE.o m5.o.1 m5.o.2.1 (by omega) (by omega)
 |clear pp99d
  go_wp2_with (first | (go_at_call 115;refine C1.o.mono ?_;rintro e w' ⟨rfl,rfl⟩) | (go_at_call 121;refine (CF.o _).mono ?_;rintro e w3 ⟨rfl,aJ⟩;have bp:=ab aJ;clear aJ))
  go_ret
  exact JPost.no HE.o (m5.o.1.trans (Kp.below bp.o)) (m5.o.2.1.later bp.o) (by omega) (by omega)
 |clear pp99e
  go_wp2_with (go_at_call 115;refine C1.o.mono ?_;rintro e w' ⟨rfl,rfl⟩)
  go_ret
  exact JPost.no (l:=left - 1) HE.o ((mZ _).trans (Kp.below ct)) ((HJ.o.set _).later ct) (by omega) (by omega)
 |clear pp99f
  go_wp2_with (first | (go_at_call 115;refine C1.o.mono ?_;rintro e w' ⟨rfl,rfl⟩) | (go_at_call 152;refine (CV.o _).mono ?_;rintro e w3 ⟨rfl,aJ⟩;have j0:=(m5.o.2.1.later aJ).c0;have j1:=aa aJ g1;have bp:=ab aJ;clear aJ) | (go_at_call 186;refine (CT.o _).mono ?_;rintro e w4 ⟨rfl,aN⟩;have em:=ab aN;clear aN))
  go_ret
  first
  |clear pp70
   exact JPost.yes HE.o ((m5.o.1.trans (Kp.below bp.o)).trans (Kp.below em.o)) ((m5.o.2.1.later bp.o).later em.o) (by show ((1:Nat):Int)<=left;omega)
  |exact JPost.no HE.o ((m5.o.1.trans (Kp.below bp.o)).trans (Kp.below em.o)) ((m5.o.2.1.later bp.o).later em.o) (by omega) (by omega)
 |go_wp2_with (first | (go_at_call 115;refine C1.o.mono ?_;rintro e w' ⟨rfl,lG⟩;obtain rfl:=lG.symm) | (go_at_call 121;refine (CF.o _).mono ?_;rintro e w3 ⟨rfl,aJ⟩;have j2:=aa aJ g2;have bp:=ab aJ;clear aJ) | (go_at_call 118;refine (CJ.o _ bp.o).mono ?_;rintro e w4 ⟨rfl,ku,l4,Wu,Gd,LR,D4⟩;have HH:=eO ku Wu Gd LR D4;clear ku Wu Gd LR D4))
  go_ret
  first
  |clear pp90
   have h7:=HH.o.2.2.2.2 trivial
   have oA:(ac a:Int)<=left - 1:=by have:=HH.o.2.2.1;have h8:=HE.o;rw[Bool.and_eq_true,Bool.and_eq_true,decide_eq_true_eq]at h8;have:nodesT (.mk false n a)=ac a+1:=rfl;omega
   refine JPost.yes HE.o ((m5.o.1.trans (Kp.below bp.o)).trans HH.o.1) ?_ (by show ((ac a+1:Nat):Int)<=left;omega)
   have h9:=HH.o.2.1
   have:l4=left - (nodesT (.mk false n a):Nat):=by show l4=left - ((ac a+1:Nat):Int);omega
   rw[<-this]
   exact h9
  |exact JPost.no HE.o ((m5.o.1.trans (Kp.below bp.o)).trans HH.o.1) HH.o.2.1 HH.o.2.2.1 (by have:=HH.o.2.2.2.1;omega)):G:=h
theorem pm100(h:G:=by
 have e0:=ai h4 0
 have e1:X.drew.cell? ⟨aB+1,0,none⟩=some (.int .i64 er):=ai h4 0
 have e2:=ai h5 0
 have e3:X.drew.cell? ⟨aB,0,none⟩=some (.int .i64 j):=ai h5 0
 have jt:(er == 0)=false:=by simp[h2]
 have xR:=(h6.same _ (bl kI.o) zJ.o.2).trans kI.o
 obtain ⟨y0,y1,z0,z1⟩:=qY xR
 have Yt:X.drew.heap[w.heap.size+1]?=some (.cells #[.slice none 0 0,.slice none 0 0] 26 (0,0)):=xR
 obtain ⟨y2,y3,z2,z3⟩:=qY Yt
 exact pm27):G:=h
theorem pm101(h:G:=by
 have bY:Below wr.heap.size wr A:=((Below.refl wr.heap.size wr).drew).trans hA
 refine hK _ _ (fun _=>by rw[dr.o];exact bY) (fun _=>?_)
 clear hK K
 refine b_ 10 rfl fun K hK=>?_
 go_simp
 refine hK _ _ (fun _=>by rw[dr.o];exact bY) (fun _=>?_)
 clear hK K
 refine b_ 11 rfl fun K hK=>?_
 go_simp
 refine hK _ _ (fun _=>by rw[dr.o];exact bY.alloc bY.size _) (fun _=>?_)
 clear hK K
 obtain ⟨qs,dZ,aC,fR⟩:=HF.o.row
 rw[dH.o]at dZ aC
 have mX:=bY.size
 first
 |clear pp101
  have qw:=HF.o.size
  refine b_ 12 rfl fun K hK=>?_
  refine bq (.tmp 20) (.tmp 30) 23 rfl W3.heap.size 40 nZ (.agg #[.string ByteArray.empty,.int .u8 0,.string ByteArray.empty,.slice none 0 0,.slice none 0 0]) 5 88 Tryz.underlying23 hi wy tu wT rfl (by decide) (.slice ra j rc) j _ rfl ((ba aC (fun b _ hlt=>bY.block b hlt)).alloc _) ⟨_,0,none⟩ 1 1 (BF (nm,⟨p0,p1,p2,p3,p4,p5,p6,p7⟩)) rfl rfl (cK (cs:=#[.string ⟨nm.toArray⟩,.int .u8 p0,.string p1,.slice p2 p3 p4,.slice p5 p6 p7]) (t:=40) (fr:=(0,0)) (World.alloc_heap_new A _)) (by simp[BF,FQ.cells,Value.oneCell']) (by decide) (by unfold maxLen;omega) (by omega) (by simp;omega) (A.heap.size+1) (by simp) ?_
  intro g et w4 aR aq hg dS
  have h4:=HF.o.at4 (kk:=0) aC bY aq
  have cw:=HF.o.stepFB (F:=0) (x:=nm) (t:=k.fs[j].2) (g:=g) (cap:=et) (by rw[dH.o];exact aC) (by rw[dH.o];exact dZ) fR bY (show FormV (wr.heap.size<=·) A (FQ.val ⟨p0,p1,p2,p3,p4,p5,p6,p7⟩) k.fs[j].2 from hp) (by rw[dH.o];exact aR) aq hg rfl
  rw[dH.o,OT.o]at cw
  have mY:=ab cw
  have d3:=h4.2.2
  have z3:=h4.2.1
  clear aR aq hg dS cw h4 aC dZ fR hp hA
  refine ee hK ?_
  clear hK K
  refine b_ 13 rfl fun K hK=>?_
  go_simp
  refine ee hK ?_
  clear hK K
  refine b_ 14 rfl fun K hK=>?_
  have pp86e:=();exact pm86
 |have qw:=HF.o.size
  refine b_ 12 rfl fun K hK=>?_
  refine bq (.tmp 46) (.tmp 56) 24 rfl W6.heap.size 47 Gm (.agg #[.string ByteArray.empty,.bool false,.string ByteArray.empty,.slice none 0 0]) 4 64 Tryz.underlying24 hq hqa FY hqc rfl (by decide) (.slice ra j rc) j _ rfl ((ba aC (fun b _ hlt=>bY.block b hlt)).alloc _) ⟨_,0,none⟩ 1 1 (BT (nm,⟨p0,p1,p2,p3,p4⟩)) rfl rfl (cK (cs:=#[.string ⟨nm.toArray⟩,.bool p0,.string p1,.slice p2 p3 p4]) (t:=47) (fr:=(0,0)) (World.alloc_heap_new A _)) (by simp[BT,TQ.cells,Value.oneCell']) (by decide) (by unfold maxLen;omega) (by omega) (by simp;omega) (A.heap.size+1) (by simp) ?_
  intro g et w4 aR aq hg dS
  have h4:=HF.o.at4 (kk:=1) aC bY aq
  have cw:=HF.o.stepTB (F:=1) (x:=nm) (t:=k.ts[j].2) (g:=g) (cap:=et) (by rw[dH.o];exact aC) (by rw[dH.o];exact dZ) fR bY (show TermV (wr.heap.size<=·) A (TQ.val ⟨p0,p1,p2,p3,p4⟩) k.ts[j].2 from hp) (by rw[dH.o];exact aR) aq hg rfl
  rw[dH.o,OT.o]at cw
  have mY:=ab cw
  have d3:=h4.2.2
  have z3:=h4.2.1
  clear aR aq hg dS cw h4 aC dZ fR hp hA
  refine ee hK ?_
  clear hK K
  refine b_ 13 rfl fun K hK=>?_
  go_simp
  refine ee hK ?_
  clear hK K
  refine b_ 14 rfl fun K hK=>?_
  have pp86e:=();exact pm86):G:=h
theorem pm102(h:G:=by
 have hs:=hA.size
 have sT:=aq.size
 simp only[World.size_alloc]at sT
 have hx:=(h.at4 (kk:=F) aC hA aq).1
 refine ⟨by rw[aV hx,uA],?_,h.kp5 aC hA aq,h.lt,h.base⟩
 first
 |clear pp102a
  have h4:RowT lo (.slice (some ⟨g,0,none⟩) (ts.length+1) cap) (ts ++ [t]) w4:=RowT.step dZ hA h.size fR (fun b hb=>(aC.lt b hb).2) hp aR
   (fun c _ hc hn=>(aq.block c (by simp;omega) (fun e=>hn e.symm)).trans (Below.heap_alloc _ _ _ (by omega))) (by rcases hg with h | h;exact .inl h;exact .inr (by omega))
  exact h4.held (fun b hb _=>Below.heap_setCell _ _ _ _ (by have:=h.lt;simp;omega))
 |clear pp102b
  have h4:RowF lo (.slice (some ⟨g,0,none⟩) (ts.length+1) cap) (ts ++ [t]) w4:=RowF.step dZ hA h.size fR (fun b hb=>(aC.lt b hb).2) hp aR
   (fun c _ hc hn=>(aq.block c (by simp;omega) (fun e=>hn e.symm)).trans (Below.heap_alloc _ _ _ (by omega))) (by rcases hg with h | h;exact .inl h;exact .inr (by omega))
  exact h4.held (fun b hb _=>Below.heap_setCell _ _ _ _ (by have:=h.lt;simp;omega))
 |clear pp102c
  have h4:RowFB lo (.slice (some ⟨g,0,none⟩) (ts.length+1) cap) (ts ++ [(x,t)]) w4:=RowFB.step dZ hA h.size fR (fun b hb=>(aC.lt b hb).2) hp aR
   (fun c _ hc hn=>(aq.block c (by simp;omega) (fun e=>hn e.symm)).trans (Below.heap_alloc _ _ _ (by omega))) (by rcases hg with h | h;exact .inl h;exact .inr (by omega))
  exact h4.held (fun b hb _=>Below.heap_setCell _ _ _ _ (by have:=h.lt;simp;omega))
 |have h4:RowTB lo (.slice (some ⟨g,0,none⟩) (ts.length+1) cap) (ts ++ [(x,t)]) w4:=RowTB.step dZ hA h.size fR (fun b hb=>(aC.lt b hb).2) hp aR
   (fun c _ hc hn=>(aq.block c (by simp;omega) (fun e=>hn e.symm)).trans (Below.heap_alloc _ _ _ (by omega))) (by rcases hg with h | h;exact .inl h;exact .inr (by omega))
  exact h4.held (fun b hb _=>Below.heap_setCell _ _ _ _ (by have:=h.lt;simp;omega))):G:=h
theorem pm103(h:G:=by
 have x2:=hF.box
 have x1:=hF.other (by omega) JM.o
 obtain ⟨c0,c1,c2,c3⟩:=lF x2
 obtain ⟨e0,e1,e2,e3⟩:=lF x1
 have z0:=ae x1 0
 have z1:=ae x1 1
 have z2:=ae x1 2
 have z3:=ae x1 3
 have li:=ab x1
 have LN:=ab (SB.o.kp1 hF.kp (by have:=vK.o;omega))
 obtain ⟨bW,HSz⟩:=aS az hF.size
 clear jc cA hF x1 x2 az
 gi_wp2
 have x6:=kf (v0:=.int .u8 qo) (v1:=.string ⟨n.toArray⟩) (v2:=.slice e6 k1 e7) (v3:=.slice ra k rc) li.o
 first
 |clear pp103
  have k6:=di (W:=wr) (b:=w.heap.size+1) (v0:=.int .u8 qo) (v1:=.string ⟨n.toArray⟩) (v2:=.slice e6 k1 e7) (v3:=.slice ra k rc)
  obtain ⟨W6,cM⟩:=ao ((((wr.setCell ⟨w.heap.size+1,0,none⟩ (.int .u8 qo)).setCell ⟨w.heap.size+1,1,none⟩ (.string ⟨n.toArray⟩)).setCell ⟨w.heap.size+1,2,none⟩ (.slice e6 k1 e7)).setCell ⟨w.heap.size+1,3,none⟩ (.slice ra k rc))
  rw[<-cM]at x6 k6 ⊢
  clear cM
  have g0:W6.cell? ⟨w.heap.size+1,0,none⟩=some (.int .u8 qo):=ai x6 0
  have g1:W6.cell? ⟨w.heap.size+1,1,none⟩=some (.string ⟨n.toArray⟩):=ai x6 1
  have g2:W6.cell? ⟨w.heap.size+1,2,none⟩=some (.slice e6 k1 e7):=ai x6 2
  have g3:W6.cell? ⟨w.heap.size+1,3,none⟩=some (.slice ra k rc):=ai x6 3
  have hz:=vK.o
  have h6:FormV (w.heap.size<=·) W6 (FQ.val ⟨qo,⟨n.toArray⟩,e6,k1,e7,ra,k,rc⟩) (.mk qo n (a.map aK) (s.map bm)):=RowF.form (LN.o.kp1 k6 (by omega)) (HR.o.kp1 k6 (by have:=vM.o;omega)) dG.o.size (by have:=vM.o;have:=dG.o.size;omega)
  refine bodyPost_ret (v:=FQ.val ⟨qo,⟨n.toArray⟩,e6,k1,e7,ra,k,rc⟩) (by simp[FQ.val,results,Tryz.results66,go_sem,g0,g1,g2,g3]) rfl (⟨⟨qo,⟨n.toArray⟩,e6,k1,e7,ra,k,rc⟩,rfl,h6,Below.kp1 bW.o k6 (by omega)⟩)
 |have k6:=di (W:=wr) (b:=w.heap.size+1+1) (v0:=.int .u8 qo) (v1:=.string ⟨n.toArray⟩) (v2:=.slice e6 k1 e7) (v3:=.slice ra k rc)
  obtain ⟨W6,cM⟩:=ao ((((wr.setCell ⟨w.heap.size+1+1,0,none⟩ (.int .u8 qo)).setCell ⟨w.heap.size+1+1,1,none⟩ (.string ⟨n.toArray⟩)).setCell ⟨w.heap.size+1+1,2,none⟩ (.slice e6 k1 e7)).setCell ⟨w.heap.size+1+1,3,none⟩ (.slice ra k rc))
  rw[<-cM]at x6 k6 ⊢
  clear cM
  have g0:W6.cell? ⟨w.heap.size+1+1,0,none⟩=some (.int .u8 qo):=ai x6 0
  have g1:W6.cell? ⟨w.heap.size+1+1,1,none⟩=some (.string ⟨n.toArray⟩):=ai x6 1
  have g2:W6.cell? ⟨w.heap.size+1+1,2,none⟩=some (.slice e6 k1 e7):=ai x6 2
  have g3:W6.cell? ⟨w.heap.size+1+1,3,none⟩=some (.slice ra k rc):=ai x6 3
  have hz:=vK.o
  have h6:FormV (w.heap.size<=·) W6 (FQ.val ⟨qo,⟨n.toArray⟩,e6,k1,e7,ra,k,rc⟩) (.mk qo n (a.map (jQ nx z)) (s.map (ep kk nx z))):=RowF.form (LN.o.kp1 k6 (by omega)) (HR.o.kp1 k6 (by have:=vM.o;omega)) dG.o.size (by have:=vM.o;have:=dG.o.size;omega)
  refine bodyPost_ret (v:=FQ.val ⟨qo,⟨n.toArray⟩,e6,k1,e7,ra,k,rc⟩) (by simp[FQ.val,results,Tryz.results101,go_sem,g0,g1,g2,g3]) rfl (⟨⟨⟨qo,⟨n.toArray⟩,e6,k1,e7,ra,k,rc⟩,rfl,tP.o ▸ h6⟩,Below.kp1 bW.o k6 (by omega)⟩)):G:=h
theorem pm104(h:G:=by
 obtain ⟨S,hS⟩:∃S:World->Prop,S=fun V=>Below wq.heap.size wq V:=⟨_,rfl⟩
 have f0:∀ V,S V->V.cell? ⟨bb,0,none⟩=some (.int .u8 q.o)/\V.cell? ⟨bb,1,none⟩=some (.string q.n)/\V.cell? ⟨bb,2,none⟩=some (.slice q.a q.l q.c)/\V.cell? ⟨bb,3,none⟩=some (.slice q.b q.m q.e):=fun V h=>by rw[hS]at h;exact ⟨aa h (ai Fs.o.2.2.2 0),aa h (ai Fs.o.2.2.2 1),aa h (ai Fs.o.2.2.2 2),aa h (ai Fs.o.2.2.2 3)⟩
 first
 |clear pp104
  have f1:∀ V,S V->V.cell? ⟨w.heap.size,1,none⟩=some (.string ⟨n.toArray⟩)/\V.cell? ⟨w.heap.size+1+1,1,none⟩=some (.string ⟨n.toArray⟩):=fun V h=>by rw[hS]at h;exact ⟨aa h (ai Fs.o.1 1),aa h (ai Fs.o.2.2.1 1)⟩
  have dB:S wq.drew:=by rw[hS];exact (Below.refl _ _).drew
  have GW:=ab (fun (V:World) (h:Below wq.heap.size wq V)=>rV WB G (cH n) (ap n) ⟨by have:=mi.o.1;omega,mi.o.2.1⟩ (by have:=mi.o.1;omega) mi.o.2.2.1 mi.o.2.2.2 (by have:=OP.o.2.1;simp[cH];omega) ⟨by simp[ap,nodesT,ac],tM HM.o⟩ (by simp[ap,nodesT,ac]) _ (fun _=>True) V q ⟨true,⟨n.toArray⟩,none,0,0⟩ (Mz.o.next (Ew.o.1.tr h)) (Ew.o.2.2.later h) (aP.2 ⟨_,rfl,bV⟩))
  have pp74:=();exact pm74
 |have f1:∀ V,S V->V.cell? ⟨w.heap.size,1,none⟩=some (.string ⟨n.toArray⟩)/\V.cell? ⟨w.heap.size+1+1,1,none⟩=some (.string ⟨m.toArray⟩):=fun V h=>by rw[hS]at h;exact ⟨aa h (ai Fs.o.1 1),aa h (ai Fs.o.2.2.1 1)⟩
  have dB:S wq.drew:=by rw[hS];exact (Below.refl _ _).drew
  have GW:=ab (fun (V:World) (h:Below wq.heap.size wq V)=>rV WB G (cH n) (ap m) ⟨by have:=mi.o.1;omega,mi.o.2.1⟩ (by have:=mi.o.1;omega) mi.o.2.2.1 mi.o.2.2.2 (by have:=OP.o.2.1;simp[cH];omega) ⟨by simp[ap,nodesT,ac],tM HM.o⟩ (by simp[ap,nodesT,ac]) _ (fun _=>True) V q ⟨true,⟨m.toArray⟩,none,0,0⟩ (Mz.o.next (Ew.o.1.tr h)) (Ew.o.2.2.later h) (aP.2 ⟨_,rfl,bV⟩))
  exact pm74):G:=h
theorem pm105(h:G:=by
 have HF:=ab (HE.o.trans jd)
 obtain ⟨HC,jA⟩:=aS eD aZ
 clear jd eD cv BS D3 gW nM ha hb hc hj aZ hu fO c0 c1 c2 c3
 go_wp2_with (go_at_call 64;refine HC.o.mono ?_;rintro e w6 ⟨rfl,yY,l6,yZ,C_,nA,jp⟩;have oX:=ce yY yZ C_ nA;clear yY yZ C_ nA jp)
 go_ret
 exact JPost.no HF.o (jA.o.trans ((Kp.below ct).trans oX.o.1)) oX.o.2.1 oX.o.2.2.1 (by have:=oX.o.2.2.2;omega)):G:=h
theorem pm106(h:G:=by
 have CT:=ab (fun w3 (h3:Kp (fun c=>c=J) w w3) (j3:JAt J true (left - 1) bh w3)=>cY.o ▸ rv a OT.o ok J true (left - 1) bh (aX+1) w3 qa _ qc (dA.o.move (fun b hb hlt=>⟨hb,h3.same b hlt (n8.o b hb)⟩)) n8.o j3 (by omega) (by omega) Li (by omega) (by omega) (by omega))
 obtain ⟨bb,cv⟩:=ao (dO true a && (decide ((ac a:Int)<=left - 1) && decide (aX+1+bz a<=bh+1)))
 rw[<-cv]at CT hM
 first
 |clear pp106
  cases bb with
  | false=>
   exact pm34
  | true=>
   exact pm29
 |cases bb with
  | false=>
   exact pm49
  | true=>
   exact pm39):G:=h
theorem pm107(h:G:=by
 refine c_ rfl rfl jb rfl (fun a γ wz aW=>⟨rfl,.slice la l0 lc,γ,wz,?_,Gr.refl,fun _ _ h=>h,?_⟩)
 ·have e2:a.tmps.getD 2 undef=.slice la l0 lc:=bw ((aW.ou 2 rfl).trans rfl)
  go_simp
 ·rw[gR]
  exact rfl):G:=h
theorem pm108(h:G:=by
 have CT:=ab (fun w3 (h3:Kp (fun c=>c=J) w w3) (j3:JAt J sc (left - 1) bh w3)=>cY.o ▸ rv a OT.o ok J sc (left - 1) bh (aX+1) w3 qa _ qc (dA.o.move (fun b hb hlt=>⟨hb,h3.same b hlt (n8.o b hb)⟩)) n8.o j3 (by omega) (by omega) Li (by omega) (by omega) (by omega))
 obtain ⟨bb,cv⟩:=ao (dO sc a && (decide ((ac a:Int)<=left - 1) && decide (aX+1+bz a<=bh+1)))
 rw[<-cv]at CT hM
 first
 |clear pp108
  cases bb with
  | false=>
   exact pm34
  | true=>
   have pp29:=();exact pm29
 |cases bb with
  | false=>
   exact pm49
  | true=>
   have pp39:=();exact pm39):G:=h
theorem pm109(h:G:=by
 have Q5:k<fs.length:=by have:=fN.o;omega
 obtain ⟨bs,os,u,rfl,gV,hu,c0,c1,c2,c3⟩:=HSs.o.get ut
 obtain ⟨bf,of,v,rfl,Cl,hv,e0,e1,e2,e3⟩:=Py.o.get Q5
 have g_:=yi.o.2.trans aZ
 have d0:=g_.cell gV.2 c0
 have g0:=g_.cell Cl.2 e0
 have d1:=g_.cell gV.2 c1
 have g1:=g_.cell Cl.2 e1
 have d2:=g_.cell gV.2 c2
 have g2:=g_.cell Cl.2 e2
 have d3:=g_.cell gV.2 c3
 have g3:=g_.cell Cl.2 e3
 first
 |clear pp109
  have pp25:=();exact pm25
 |exact pm25):G:=h
theorem pm110(h:G:=by
 obtain ⟨HF,dH,bW⟩:=cf hF cA az
 clear hu az hF c0 c1 c2 c3 cA
 gi_wp2
 obtain ⟨W2,aY⟩:=ao (wr.alloc (.cells #[.int .u8 u.o,.string u.n,.slice u.a u.l u.c,.slice u.b u.m u.e] 36))
 have fG:=cB aY
 have xb:=bN aY
 rw[<-aY]
 clear aY d0 d1 d2 d3
 have fS:=HF.o.later fG (fun r=>r.below fG)
 have pp156d:=();exact pm156):G:=h
theorem pm111(h:G:=by
 simp only[TQ.val,Value.agg.injEq,Array.mk.injEq,List.cons.injEq,and_true,Value.bool.injEq,Value.string.injEq]at h2
 obtain ⟨rfl,rfl,rfl⟩:=h2
 first
 |clear pp111a
  have hW:Below wr.heap.size wr (wr.alloc (.cells #[.bool uv,.string ⟨xn.toArray⟩,.slice ua ul uc] 43)):=ct
  have pi:(wr.alloc (.cells #[.bool uv,.string ⟨xn.toArray⟩,.slice ua ul uc] 43)).heap[wr.heap.size]?=some (.cells #[.bool uv,.string ⟨xn.toArray⟩,.slice ua ul uc] 43 (0,0)):=aj rfl
  have Wk:NAt L 9223372036854775807 wr:=HL.o.kp aZ (fun h=>Vh h.symm)
  have zcy:N<wr.heap.size:=(bl hn)
  have C1:=Gl N L Vh (k+ac (l.take j)) _ ⟨uv,⟨xn.toArray⟩,ua,ul,uc⟩ (hn.later hW) (Wk.later hW) (by omega) (by omega)
  unfold TQ.val at C1
  have CC:=fun (W:World) (h:Kp (fun c=>c=N) wr W) (hN:NAt N (k+ac (l.take j)+1) W)=>nD N L ok (k+ac (l.take j)+1) W ua ul uc Vh hf.args (ej.move (fun b hb hlt=>⟨hb,h.same b hlt (n8.o b hb)⟩)) n8.o hN (Wk.kp h (fun h=>Vh h.symm)) (by omega) (by simp only[Tm.a];omega)
  simp only[Tm.a]at CC
  obtain ⟨P,hP⟩:=ao (ac (l.take j))
  obtain ⟨M,hM⟩:=ao (ac xa)
  rw[<-hP,<-hM]at gW
  rw[<-hP]at C1
  rw[<-hP,<-hM]at CC
  obtain ⟨wB,ll,HS,jA⟩:=eA C1 CC gW aZ
  have HW:=aF hW pi
  clear hu fO nD hf hx ej hn C1 CC gW aZ hW pi Wk hP hM wW c0 c1 c2
  go_wp2_with (first | (go_at_call 231;refine wB.o.mono ?_;rintro e w1 ⟨rfl,iT,dT⟩;have e2:w1.cell? ⟨wr.heap.size,2,none⟩=some (.slice ua ul uc):=ai ((iT.same _ (by simp) (by omega)).trans HW.o.2) 2;have HH1:=aF ((Kp.below HW.o.1).trans iT) dT;clear iT dT) | (go_at_call 230;refine (ll.o _ HH1.o.1 HH1.o.2).mono ?_;rintro e w2 ⟨rfl,gX,lH⟩;have HH2:=aF gX lH;clear gX lH))
  go_roundw
  case rel=>exact ⟨j+1,by omega,by go_num,jA.o.trans (HH1.o.1.trans HH2.o.1),by have h:=HH2.o.2;rw[HS.o];rw[show k+((P+(M+1):Nat):Int)=k+(P:Int)+1+(M:Int) by omega];exact h⟩
  case measure=>simp[intOf];omega
 |clear pp111b
  obtain ⟨d0,d1,d2⟩:=iM az c0 c1 c2
  have hW:Below wr.heap.size wr (wr.alloc (.cells #[.bool uv,.string ⟨xn.toArray⟩,.slice ua ul uc] 43)):=ct
  have xF:(k:Int)<(k0:Int):=by omega
  by_cases hc:uv=true/\xn=x
  ·obtain ⟨rfl,rfl⟩:=hc
   have gu:(xn == xn)=true:=by simp
   have HE:=ab (show R=some [k] by rw[ht];simp[mn])
   have HB:=ab (az.trans (hW.mono az.size))
   clear az hW hu ej hf nD hx ht c0 c1 c2
   go_wp2
   go_ret
   refine ⟨⟨_,rfl,?_⟩,?_⟩
   ·rw[HE.o];exact IntsV.one 1 (Nat.le_refl _) (aj (by simp))
   ·exact HB.o.trans (ct.mono HB.o.size)
  ·have SP:mn x (.mk uv xn xa)=dX x xa 0:=by
    rw[mn,if_neg]
    simpa using hc
   rw[SP]at ht
   have C1:=nD x ok _ ua ul uc hf.args ((ej.later az).later hW)
   simp only[Tm.a]at C1
   obtain ⟨S,hS⟩:=ao (dX x xa 0)
   have Rc:∀ p,S=some p->p≠[]/\p.length<=2000000:=fun p hp=>by
    rw[hS]at hp
    exact ⟨tJ hp,Nat.le_trans (lr xa 0 p hp) hf.args.1⟩
   rw[<-hS]at ht C1
   obtain ⟨HC,HT⟩:=aS C1 ht
   have HB:=ab (az.trans (hW.mono az.size))
   have Vm:=ab Rc
   have O6:uv=true->(xn == x)=false:=fun h=>by simpa using fun h'=>hc ⟨h,h'⟩
   clear az hW hu ej hf nD hx ht c0 c1 c2 hS Rc C1 SP hc
   cases uv
   ·clear O6
    exact pm18
   ·have gu:(xn == x)=false:=O6 rfl
    clear O6
    exact pm18
 |clear pp111c
  have f0:=fun x:Later wr=>x.get (aa az c0)
  have f1:=fun x:Later wr=>x.get (aa az c1)
  have f2:=fun x:Later wr=>x.get (aa az c2)
  have xF:(k:Int)<(k0:Int):=by omega
  have lj:=hf.name
  have U4:=gi xn
  have ZJ:=Ou xn.length
  obtain ⟨q,hq⟩:=ao (xn.length / 40)
  have FY:q<=50000:=by omega
  obtain ⟨R,hR⟩:=ao (ig xa (left - m) 0)
  have ZK:=(lC xa (left - m) 0).2.1
  have xG:=hf.args.sz
  have CC:=fun (x:Later wr)=>nD ok x.w ua ul uc (left - m) hf.args ((ej.later az).later x.below) (by omega) (by omega)
  simp only[Tm.a]at CC
  rw[<-hR]at CC ZK
  have FG:ig l left 0=ig (l.drop (k+1)) left (m+(1+q+R)):=by
   rw[hcut]
   simp only[ig,if_pos tQ,Il]
   rw[hq,hR]
  have Hc:m+(1+q+R)<=100002000000:=by
   have h5:=(lC l left 0).2.1
   have h6:=(lC (l.drop (k+1)) left (m+(1+q+R))).1
   omega
  rw[<-hq]at ZJ
  have vP:IntKind.i64.wrap ((q:Nat):Int)=q:=IntWalk.i64_in _ (by omega)
  have Lh:IntKind.i64.wrap (1+((q:Nat):Int))=1+(q:Int):=IntWalk.i64_in _ (by omega)
  have TG:IntKind.i64.wrap (left - (m:Int))=left - (m:Int):=IntWalk.i64_in _ (by omega)
  have RN:IntKind.i64.wrap (1+(q:Int)+(R:Int))=1+(q:Int)+(R:Int):=IntWalk.i64_in _ (by omega)
  have VG:IntKind.i64.wrap ((m:Int)+(1+(q:Int)+(R:Int)))=((m+(1+q+R):Nat):Int):=by rw[IntWalk.i64_in _ (by omega)];omega
  obtain ⟨HC,HB⟩:=aS CC az
  have HS:=aF FG Hc
  clear hu nD hf hx ej az hcut CC hq Sk FG Hc hR ZK xG c0 c1 c2
  go_wp2
  refine aM (by kernel_rfl) (by kernel_rfl) ?_
  repeat (go_big_quiet_step ((go_at_call 54;exact bM (HC.o _))))
  refine wpQuiet_nil ?_
  rintro _ ⟨x',rfl⟩
  clear f0 f1 f2 vP Lh TG RN VG ZJ U4
  have bZ:=ab (HB.o.trans (x'.below.mono HB.o.size))
  go_wp2
  go_roundw
  case rel=>exact ⟨k+1,_,by omega,by go_num,rfl,bZ.o,HS.o.1,HS.o.2⟩
  case measure=>simp[intOf];omega
 |simp only at d0 d1 d2
  obtain rfl:=ej.len
  obtain ⟨z0,z1,z2,y0,y1,y2⟩:=fI Cj
  have HW:=aF hw hyy
  have HB:=pI Cj aZ hu ej hf gV
  have SD:(pq.drop (j+1)).length=j+1 - (j+1)+(n2 - (j+1)):=by rw[HN.o.2.1];simp
  have Wx:=ab SD
  clear Pv cA wa aZ uJ MF Cj du nZ hjp Vt hw dD hu ej hf gV hy hyy SD
  go_wp2
  go_roundw
  case rel=>
   have x9:=oy (v0:=.bool uv) (v1:=.string ⟨xn.toArray⟩) (v2:=.slice ua xa.length uc) HB.o.1
   have k9:=d8 (W:=wr) (b:=wo.heap.size) (v0:=.bool uv) (v1:=.string ⟨xn.toArray⟩) (v2:=.slice ua xa.length uc)
   refine ⟨j+1,.mk uv xn xa,xa,⟨uv,⟨xn.toArray⟩,ua,xa.length,uc⟩,ua,uc,by omega,by go_num,rfl,HB.o.2.1.trans k9,x9,HB.o.2.2.2.1.move (fun b hb hlt=>⟨hb,k9.same b hlt (by have:=HZ.o;omega)⟩),HB.o.2.2.2.2.1.args,fun h=>?_,fun _=>⟨HB.o.2.2.1.move (fun b hb hlt=>⟨hb,k9.same b hlt (by have:=HZ.o;omega)⟩),HB.o.2.2.2.2.1,fun h=>?_⟩⟩
   ·rw[HW.o.1,yg (fun hd=>by have:=Wx.o;rw[hd]at this;simp at this;omega),HW.o.2]
    rfl
   ·have hd:pq.drop (j+1)=[]:=List.eq_nil_of_length_eq_zero (by have:=Wx.o;omega)
    rw[HW.o.1,hd]
    exact HW.o.2
  case measure=>simp[intOf];omega):G:=h
theorem pm112(h:G:=by
 obtain ⟨l1,CX⟩:=ao (dm k.ts (a.take j))
 obtain ⟨l2,pT⟩:=ao (jy k.ts a[j])
 rw[<-pT]at CC
 rw[<-CX,<-pT]at sw
 rw[<-CX]at gJ
 have cq:l1.length+l2.length<=4000000:=by rw[sw,List.length_append]at z9;omega
 obtain ⟨ll,HT,vO,qd⟩:=eA CC sw cq eo
 have HB:=bx az a_ gJ
 have BI:(j:Int)<(n1:Int):=by omega
 clear CC CX pT sw cq z9 vZ Ha eo a_ az tV hx hok c0 c1 c2 gJ
 first
 |clear pp112
  go_wp2_with (first | (rw[<-qd.o];go_at_call 248;refine ll.o.mono ?_;rintro e w6 ⟨⟨v6,rfl,XR⟩,cD⟩;have H6:=aF (HB.o.2.1.tr cD) XR;clear cD XR) | (at_builtin;refine dv rfl _ _ rfl W2.heap.size (HB.o.1.tr H6.o.1).size u9 l1 rfl (HB.o.2.2.later H6.o.1) v6 l2 rfl _ H6.o.2.strs vO.o ?_;intro v8 w8 EC Rq;have Ps:=aF EC Rq;clear EC Rq))
  go_roundw
  case rel=>exact ⟨j+1,by omega,by go_num,by rw[HT.o];exact Ps.o.1,(mJ (M:=fun _=>False) (Kp.below (HB.o.1.tr H6.o.1)) Ps.o.2 (fun g hg=>(HB.o.2.2.lt g hg).1)).empty⟩
  case measure=>simp[intOf];omega
 |go_wp2_with (first | (rw[<-qd.o];go_at_call 248;refine ll.o.mono ?_;rintro e w6 ⟨⟨v6,rfl,XR⟩,cD⟩;have H6:=aF (HB.o.2.1.tr cD) XR;clear cD XR) | (at_builtin;refine dv rfl _ _ rfl W2.heap.size (HB.o.1.tr H6.o.1).size u5 l1 rfl (HB.o.2.2.later H6.o.1) v6 l2 rfl _ H6.o.2.strs vO.o ?_;intro v8 w8 EC Rq;have Ps:=aF EC Rq;clear EC Rq))
  go_roundw
  case rel=>exact ⟨j+1,by omega,by go_num,by rw[HT.o];exact Ps.o.1,(mJ (M:=fun _=>False) (Kp.below (HB.o.1.tr H6.o.1)) Ps.o.2 (fun g hg=>(HB.o.2.2.lt g hg).1)).empty⟩
  case measure=>simp[intOf];omega):G:=h
theorem pm113(h:G:=by
 by_cases hv:uv=vv
 ·subst hv
  have j6:¬k0=m0:=fun h=>zY ⟨rfl,h⟩
  have e1:((k0:Int) == (m0:Int))=false:=by simp;omega
  have e2:((k0:Int) != (m0:Int))=true:=by simp;omega
  cases uv <;> (go_wp2;rw[<-eN.o];go_ret;exact ⟨aA HE.o.symm,bZ.o⟩)
 ·cases uv <;> cases vv <;> first | exact absurd rfl hv | (go_wp2;rw[<-eN.o];go_ret;exact ⟨aA HE.o.symm,bZ.o⟩)):G:=h
theorem pm114(h:G:=by
 obtain ⟨HC,QQ⟩:=aS CC az
 have HS:=aF FG Hc
 clear hu hcut CC Sk FG hM az c0 c1 c2 c3
 go_wp2_with (go_at_call 23;refine HC.o.mono ?_;rintro e w4 ⟨rfl,aN⟩;have em:=ab aN;clear aN)
 go_roundw
 case rel=>exact ⟨k+1,m+M,by omega,by go_num,by go_num,QQ.o.trans (em.o.mono QQ.o.size),HS.o.1,HS.o.2⟩
 case measure=>simp[intOf];omega):G:=h
theorem pm115(h:G:=by
 rcases RF.o with ⟨rfl,rfl,rfl⟩ | ⟨b,off,rfl⟩
 ·exact .inl ⟨rfl,rfl,by rw[List.eq_nil_of_length_eq_zero vR.o.symm];rfl⟩
 ·exact .inr ⟨_,rfl,by rw[fH,<-vR.o],(nK.o.later ls).olds⟩):G:=h
theorem pm116(h:G:=by
 have jC:=hq1
 simp only[iF,Bool.and_eq_true]at hw
 simp only[qone,Bool.and_eq_true]at hq1
 simp only[depthF]at hd
 first
 |clear pp116a
  by_cases hq:bn o=true
  ·obtain ⟨rfl,g,rfl⟩:=m_ hq jC
   have pp195a:=();exact pm195
  ·have hq:bn o=false:=by simpa using hq
   rw[tH hq]
   have ih:∀ g∈s,_:=fun g hg=>f8 k g x y ((jh s).1 hw.2 g hg) ((gK s).1 hq1.2 g hg) (by have:=jD s g hg;omega)
   refine ⟨?_,?_,?_,?_⟩
   ·simp only[iF,Bool.and_eq_true]
    refine ⟨rK (IN y) a hw.1,(jh _).2 fun g hg=>?_⟩
    obtain ⟨g',JX,rfl⟩:=List.mem_map.1 hg
    exact (ih g' JX).1
   ·simp only[qone,hq,Bool.not_false,Bool.true_or,Bool.true_and]
    refine (gK _).2 fun g hg=>?_
    obtain ⟨g',JX,rfl⟩:=List.mem_map.1 hg
    exact (ih g' JX).2.1
   ·simp only[depthF]
    rw[oG a hw.1,xD s (fun g hg=>(ih g hg).2.2.1)]
   ·simp only[nodesF]
    rw[oH a hw.1,xC s (fun g hg=>(ih g hg).2.2.2)]
 |clear pp116b
  simp only[nodesF]at hn
  by_cases hq:bn o=true
  ·obtain ⟨rfl,g,rfl⟩:=m_ hq jC
   simp only[eF,en,Bool.and_true,aU,ah]at hw hq1 hd hn
   rw[na hq]
   by_cases h1:(n == x || !(aO [] g).contains x)=true
   ·rw[if_pos h1]
    refine xx _ _ _ _ (fun z hz=>?_)
    unfold upd
    split
    ·rename_i hzx
     rw[beq_iff_eq]at hzx
     subst hzx
     exfalso
     simp only[aO,ar,List.filter_nil,List.nil_append,hq,if_true,bj,List.append_nil]at hz
     have h3:=lp n [g]
     simp only[bj,List.append_nil]at h3
     rw[h3,List.mem_filter]at hz
     simp only[Bool.or_eq_true,Bool.not_eq_true']at h1
     rcases h1 with h1 | h1
     ·have:=hz.2
      rw[beq_iff_eq]at h1
      subst h1
      simp at this
     ·have:(aO [] g).contains z=true:=by simpa using hz.1
      rw[h1]at this;cases this
    ·rfl
   ·rw[if_neg h1]
    simp only[Bool.or_eq_true,Bool.not_eq_true',not_or,Bool.not_eq_true,Bool.not_eq_false]at h1
    have wW:n≠x:=by simpa using h1.1
    by_cases h2:(aI u).contains n=true
    ·rw[if_pos h2]
     have hm:=pk (aO [] g ++ aI u) (by rw[List.length_append];have:=fj g [];have:=mD u;omega)
     generalize dq (aO [] g ++ aI u)=m at hm
     rw[List.mem_append,not_or]at hm
     have pp248a:=();exact pm248
    ·rw[if_neg h2]
     simp only[dbF,hq,if_true,oF,iO]
     rw[rL k g x u _ _ hw.2 hq1.2 (by omega) (by omega),Ei (by simpa using h2),xE _ wW]
  ·have hq:bn o=false:=by simpa using hq
   rw[tH hq]
   simp only[dbF,hq,Bool.false_eq_true,↓reduceIte,oF]
   rw[Ej _ _ _ d s (fun g hg=>rL k g x u σ d ((jh s).1 hw.2 g hg) ((gK s).1 hq1.2 g hg) (by have:=jD s g hg;omega) (by have:=kT s g hg;omega))]
 |clear pp116c
  simp only[nodesF]at hs
  simp only[ks,Bool.and_eq_true,decide_eq_true_eq]at hf
  by_cases hq:bn o=true
  ·obtain ⟨rfl,g,rfl⟩:=m_ hq jC
   simp only[eF,en,Bool.and_true,aU,ah,fd]at hw hq1 hd hs hf
   rw[na hq]
   by_cases h1:(n == x || !(aO [] g).contains x)=true
   ·rw[if_pos h1];exact Ge
   ·rw[if_neg h1]
    by_cases h2:(aI u).contains n=true
    ·rw[if_pos h2]
     have hm:(dq (aO [] g ++ aI u)).length<=2000000:=nb (by
      have h3:=fj g []
      have h4:=mD u
      simp only[List.length_append];omega)
     generalize Pi:dq (aO [] g ++ aI u)=m
     rw[Pi]at hm
     have pp248b:=();exact pm248
    ·rw[if_neg h2]
     have b1:=nc k g x u hw.2 hq1.2 (by omega) (by simp[ac]at hs;omega) hf.2.2.2 hu
     simp only[ks,fd,Bool.and_eq_true,decide_eq_true_eq,dP,List.map_nil,dF]
     exact ⟨hf.1,hf.2.1,trivial,b1,trivial⟩
  ·have hq:bn o=false:=by simpa using hq
   rw[tH hq]
   simp only[ks,Bool.and_eq_true,decide_eq_true_eq]
   refine ⟨hf.1,hf.2.1,x_ hu a hf.2.2.1,ov.2 fun g hg=>?_⟩
   obtain ⟨g',JX,rfl⟩:=List.mem_map.1 hg
   exact nc k g' x u ((jh s).1 hw.2 g' JX) ((gK s).1 hq1.2 g' JX) (by have:=jD s g' JX;omega) (by have:=kT s g' JX;omega) (ov.1 hf.2.2.2 g' JX) hu
 |clear pp116d
  by_cases hq:bn o=true
  ·obtain ⟨rfl,g,rfl⟩:=m_ hq jC
   have pp195b:=();exact pm195
  ·have hq:bn o=false:=by simpa using hq
   rw[tH hq]
   have h1:=yu (x:=x) (u:=u) a
   have h2:=MT (φ:=ep k x u) (U:=nodesT u) s (fun g hg=>sd k g x u ((jh s).1 hw.2 g hg) ((gK s).1 hq1.2 g hg) (by have:=jD s g hg;omega))
   simp only[nodesF,Nat.add_mul]
   omega
 |by_cases hq:bn o=true
  ·obtain ⟨rfl,g,rfl⟩:=m_ hq jC
   exact pm195
  ·have hq:bn o=false:=by simpa using hq
   rw[tH hq]
   have ih:∀ g∈s,_:=fun g hg=>sB hu k g x ((jh s).1 hw.2 g hg) ((gK s).1 hq1.2 g hg) (by have:=jD s g hg;omega)
   refine ⟨?_,?_⟩
   ·simp only[iF,Bool.and_eq_true]
    refine ⟨rK hu a hw.1,(jh _).2 fun g hg=>?_⟩
    obtain ⟨g',JX,rfl⟩:=List.mem_map.1 hg
    exact (ih g' JX).1
   ·simp only[qone,hq,Bool.not_false,Bool.true_or,Bool.true_and]
    refine (gK _).2 fun g hg=>?_
    obtain ⟨g',JX,rfl⟩:=List.mem_map.1 hg
    exact (ih g' JX).2):G:=h
theorem pm117(h:G:=by
 obtain ⟨W5,eo⟩:=ao (wr.alloc (.cells #[.bool xv,.string xn,.slice xa xl xc] 43))
 have a_:=cB eo
 first
 |clear pp117a
  have CC:=CO W2 _ kb mF mT nF nT k H2.o.2.2 a[j] (HQ.o.2.2.2.1.mem (List.getElem_mem kN)) _ W5 ⟨xv,xn,xa,xl,xc⟩ (az.tr a_) ((hx.later az).later a_)
  simp only[TQ.val]at CC
  obtain ⟨m0,du⟩:=ao (dC k.ts (a.take j)+1)
  obtain ⟨m2,we⟩:=ao (oo k.ts a[j])
  have cw:=oO (k:=k.ts) kN
  have z9:=pC (fun x hx=>jG H2.o.2.2 (x:=x) hx) (a.take (j+1)) (pD HQ.o.2.2.2.1.2 _)
  have vZ:=jl (a:=a) (j:=j+1)
  have Ha:=MQ.o
  rw[<-we]at CC
  rw[<-du]
  have hw:IntKind.i64.wrap ((m0:Int)+(m2:Int))=((m0+m2:Nat):Int):=by rw[IntWalk.i64_in _ (by omega)];simp
  have ll:=ab CC
  have IX:=ab (show m0+m2=dC k.ts (a.take (j+1))+1 by omega)
  have qd:=ab eo
  have HB:=aF az a_
  have BI:(j:Int)<(n1:Int):=by omega
  clear CC du we cw z9 vZ Ha eo a_ az hx hok c0 c1 c2
  go_wp2_with (rw[<-qd.o];go_at_call 197;refine ll.o.mono ?_;rintro e w6 ⟨rfl,cD⟩;have H6:=ab cD;clear cD)
  go_roundw
  case rel=>exact ⟨j+1,by omega,by go_num,by rw[<-IX.o];simp,(HB.o.1.tr HB.o.2).tr H6.o⟩
  case measure=>simp[intOf];omega
 |clear pp117b
  have CC:=Ao W2 _ kb mF mT nF nT k H2.o.2.2 a[j] (HQ.o.2.2.2.1.mem (List.getElem_mem kN)) (by have:=yA (List.getElem_mem kN);have:=MQ.o;omega) _ W5 ⟨xv,xn,xa,xl,xc⟩ (az.tr a_) ((hx.later tV).later a_)
  simp only[TQ.val]at CC
  have sw:=nq (k:=k.ts) kN
  have z9:=nr (fun x hx=>jG H2.o.2.2 (x:=x) hx) (a.take (j+1)) (pD HQ.o.2.2.2.1.2 _)
  have vZ:=jl (a:=a) (j:=j+1)
  have Ha:=MQ.o
  have pp112:=();exact pm112
 |clear pp117c
  have CC:=eM.o a[j] (List.getElem_mem kN) (VD.o.mem (List.getElem_mem kN)) _ W5 ⟨xv,xn,xa,xl,xc⟩ (((H1.o.2.2.tr tV)).tr a_) ((hx.later tV).later a_)
  simp only[TQ.val]at CC
  obtain ⟨m0,du⟩:=ao (dC k.ts (a.take j)+1)
  obtain ⟨m1,iR⟩:=ao (oo k.ts a[j])
  have cw:=oO (k:=k.ts) kN
  have z9:=pC SK.o (a.take (j+1)) (pD VD.o.2 _)
  have vZ:=jl (a:=a) (j:=j+1)
  have Ha:=VD.o.1
  rw[<-iR]at CC
  rw[<-du]
  have hw:IntKind.i64.wrap ((m0:Int)+(m1:Int))=((m0+m1:Nat):Int):=by rw[IntWalk.i64_in _ (by omega)];simp
  have ll:=ab CC
  have IX:=ab (show m0+m1=dC k.ts (a.take (j+1))+1 by omega)
  have qd:=ab eo
  have HB:=aF az a_
  have BI:(j:Int)<(n1:Int):=by omega
  clear CC du iR cw z9 vZ Ha eo a_ az tV hx hok c0 c1 c2
  go_wp2_with (rw[<-qd.o];go_at_call 197;refine ll.o.mono ?_;rintro e w6 ⟨rfl,cD⟩;have H6:=ab cD;clear cD)
  go_roundw
  case rel=>exact ⟨j+1,by omega,by go_num,by rw[<-IX.o];simp,(HB.o.1.tr HB.o.2).tr H6.o⟩
  case measure=>simp[intOf];omega
 |clear pp117d
  have CC:=eM.o a[j] (List.getElem_mem kN) (VD.o.mem (List.getElem_mem kN)) (by have:=yA (List.getElem_mem kN);have:=HSm.o;omega) _ W5 ⟨xv,xn,xa,xl,xc⟩ (((H1.o.2.2.tr tV)).tr a_) ((hx.later tV).later a_)
  simp only[TQ.val]at CC
  have sw:=nq (k:=k.ts) kN
  have z9:=nr SK.o (a.take (j+1)) (pD VD.o.2 _)
  have vZ:=jl (a:=a) (j:=j+1)
  have Ha:=HSm.o
  exact pm112
 |have x5:=bN eo
  have MX:=bC a_ OQ
  have x65:=bC a_ x6w
  obtain ⟨S,hS⟩:∃S:World->Prop,S=fun V=>Below W5.heap.size W5 V:=⟨_,rfl⟩
  have pp:∀ V,S V->V.cell? ⟨W.heap.size,0,none⟩=some (.int .u8 so)/\V.cell? ⟨W.heap.size,1,none⟩=some (.string ⟨n.toArray⟩)/\V.cell? ⟨W.heap.size,2,none⟩=some (.slice (some ⟨b1,o1,none⟩) n1 sc)/\V.cell? ⟨W.heap.size,3,none⟩=some (.slice sb m1 se)/\V.cell? ⟨W.heap.size,4,none⟩=some (.int .u8 so)/\V.cell? ⟨W.heap.size,5,none⟩=some (.string ⟨n'.toArray⟩)/\V.cell? ⟨W.heap.size,6,none⟩=some (.slice (some ⟨b2,o2,none⟩) n1 fc)/\V.cell? ⟨W.heap.size,7,none⟩=some (.slice fb m1 fe)/\V.cell? ⟨W.heap.size,8,none⟩=some (.slice ca cl cc):=fun V h=>by rw[hS]at h;exact ⟨aa h (ai MX 0),aa h (ai MX 1),aa h (ai MX 2),aa h (ai MX 3),aa h (ai MX 4),aa h (ai MX 5),aa h (ai MX 6),aa h (ai MX 7),aa h (ai MX 8)⟩
  have tt:∀ V,S V->V.cell? ⟨B6,2,none⟩=some (.slice (some ⟨b2,o2,none⟩) n1 fc):=fun V h=>by rw[hS]at h;exact aa h (ai x65 2)
  have yy:∀ V,S V->V.cell? ⟨b2,o2+j * 3,none⟩=some (.bool yv)/\V.cell? ⟨b2,o2+j * 3+1,none⟩=some (.string yn)/\V.cell? ⟨b2,o2+j * 3+2,none⟩=some (.slice ya yl yc):=fun V h=>by rw[hS]at h;exact ⟨aa h (aa a_ g0),aa h (aa a_ g1),aa h (aa a_ g2)⟩
  have dB:S W5.drew:=by rw[hS];exact (Below.refl _ _).drew
  have MY:Kp M W W5:=G'.trans (Kp.below a_)
  have HKN:=ab (XI.trans (Kp.below a_))
  have tU:=nh kN
  have TA:=HV.o.2.2.2.2.1.kp MY
  have hx5:=hx.kpM MY (fun _ h=>h)
  have hy5:=hy.kpM MY (fun _ h=>h)
  obtain ⟨I,hI⟩:=ao (io ps.reverse [] a'[j])
  have CI:=fun (V:World) (h:Below W5.heap.size W5 V)=>p9 ⟨⟨so,⟨n.toArray⟩,some ⟨b1,o1,none⟩,n1,sc,sb,m1,se⟩,⟨so,⟨n'.toArray⟩,some ⟨b2,o2,none⟩,n1,fc,fb,m1,fe⟩,ca,cl,cc⟩ ps HB.o.2.2.2.1 HB.o.2.2.2.2 [] [] (by simp) (fun _=>rfl) (fun _=>True) (.slice none 0 0) a'[j] (HF.o.1.args.mem (List.getElem_mem zR)) _ V ⟨yv,yn,ya,yl,yc⟩ (TA.1.later h) ⟨none,0,rfl,Nat.le_refl _,.inl rfl⟩ (hy5.later h)
  rw[<-hI]at CI
  simp only[PlQ.val,PlQ.cells,TQ.val]at CI
  obtain ⟨Rb,dr⟩:=aS CI hS
  have cw:=ER (c:=ps.reverse) (k:=kj) kN zR
  rw[<-hI]at cw
  rw[cw]at fL
  have H5:=pI MY a_ x5 MX TA hx5
  have PC:=ce aZ nk (dw.later a_) tU
  have XJ:=bx (show ∀ u,I=some u->goodT u from fun u h=>Kh HP.o (List.getElem_mem zR) (by rw[<-hI];exact h)) (OP.o _ (List.getElem_mem kN)) kN
  have RJ:=ab fL
  have BI:(j:Int)<(n1:Int):=by omega
  clear CI cw fL hS hI hy5 hx5 TA tU MY hy hx pO pP c0 c1 c2 y0 y1 y2 dw nk aZ G' XI OQ x6w a_ x5 MX x65
  go_wp2
  rw[<-eo]
  clear eo d0 d1 d2 g0 g1 g2
  go_cut [12,13] from 98 to 107 (fun s12 s13 wx=>∃B12,s12=.pointer (some ⟨B12,0,none⟩)/\s13=.bool I.isSome/\∃uq:TQ,wx.heap[B12]?=some (.cells #[.bool uq.v,.string uq.n,.slice uq.a uq.l uq.c] 43 (0,0))/\Below W5.heap.size W5 wx/\W5.heap.size<=B12/\∀ u,I=some u->TermV (W5.heap.size<=·) wx uq.val u)
  case first=>
   have jb:∀ f,Fence.wide.fn f:=fun _=>trivial
   refine (wpIn_wide (n:=3)).1 ?_
   refine br S 12 (by kernel_rfl) dB (fun jr dt=>?_)
   refine dc 0 99 (.agg #[.int .u8 so,.string ⟨n.toArray⟩,.slice (some ⟨b1,o1,none⟩) n1 sc,.slice sb m1 se,.int .u8 so,.string ⟨n'.toArray⟩,.slice (some ⟨b2,o2,none⟩) n1 fc,.slice fb m1 fe,.slice ca cl cc]) rfl (fun V hX=>by obtain ⟨h0,h1,h2,h3,h4,h5,h6,h7,h8⟩:=pp V hX;go_simp) dt fun eC=>?_
   simp only[ak]
   refine bS 1 100 (.pointer (some ⟨B6,2,none⟩)) rfl eC fun eX=>?_
   simp only[ak]
   refine dc 2 101 (.slice (some ⟨b2,o2,none⟩) n1 fc) rfl (fun V hX=>by have h0:=tt V hX;go_simp) eX fun fM=>?_
   simp only[ak]
   refine bS 3 102 (.int .i64 (j:Int)) rfl fM fun gE=>?_
   simp only[ak]
   refine bS 4 103 (.pointer (some ⟨b2,o2+j * 3,none⟩)) rfl gE fun iu=>?_
   simp only[ak]
   refine dc 5 104 (.agg #[.bool yv,.string yn,.slice ya yl yc]) rfl (fun V hX=>by obtain ⟨h0,h1,h2⟩:=yy V hX;go_simp) iu fun iP=>?_
   simp only[ak]
   refine zaY (i:=6) (j:=10) rfl rfl (by kernel_rfl) (by rfl) (by rfl) (fun K hK=>?_) (fun K hK=>?_)
   ·go_simp
    refine callsIn_wide.2 ((Rb.o _ (by have h:=dt;rw[dr.o]at h;exact h)).mono ?_)
    rintro e w6 ⟨⟨⟨u0,u1,u2,u3,u4⟩,rfl,hu⟩,cD⟩
    have jE:Below W5.heap.size W5 w6:=((Below.refl W5.heap.size W5).drew).trans cD
    have H6:=aF jE hu
    refine hK _ _ (fun _=>by rw[dr.o];exact H6.o.1) (fun iP=>?_)
    replace iP:=iP (by decide)
    clear hK K hu cD jE
    have pp134:=();exact pm134
   ·go_simp
    obtain ⟨EB,PL⟩:=ao W5.heap.size
    obtain ⟨A1,DF⟩:=ao (W5.alloc (.cells #[.bool false,.string ⟨#[]⟩,.slice none 0 0] 43)).drew
    have XK:Below W5.heap.size W5 A1:=by rw[DF];exact ct.drew
    have VB:A1.heap[EB]?=some (.cells #[.bool false,.string ⟨#[]⟩,.slice none 0 0] 43 (0,0)):=by rw[DF,PL];exact aj rfl
    have hEz:EB=W5.heap.size:=PL
    rw[<-DF,<-PL]
    have HA:=bx XK VB hEz
    refine hK _ _ (fun _=>by rw[dr.o];exact HA.o.1) (fun _=>?_)
    clear hK K DF PL XK VB hEz
    refine b_ 6 rfl fun K hK=>?_
    go_simp
    refine callsIn_wide.2 ((Rb.o _ HA.o.1).mono ?_)
    rintro e w6 ⟨⟨⟨u0,u1,u2,u3,u4⟩,rfl,hu⟩,cD⟩
    have jE:Below W5.heap.size W5 w6:=HA.o.1.tr cD
    have hn6:=bC cD HA.o.2.1
    have H6:=eO jE hu hn6 (bl HA.o.2.1) HA.o.1.size
    refine hK _ _ (fun _=>by rw[dr.o];exact H6.o.1) (fun iP=>?_)
    replace iP:=iP (by decide)
    obtain ⟨z0,z1,z2,y0',y1',y2'⟩:=fI hn6
    clear hK K hu cD jE hn6
    exact pm134
  case rest=>
  obtain ⟨B12,h12,h13,⟨u0,u1,u2,u3,u4⟩,VC,cD,TB,hu⟩:=hcut
  rw[h12,h13]
  clear h12 h13 pp tt yy
  obtain ⟨W6,cM⟩:=ao wc
  rw[<-cM]at VC cD hu ⊢
  clear cM wc
  simp only at VC
  have PM:Kp M W W6:=H5.o.1.trans (Kp.below cD)
  cases I with
  | none=>
   have HE:=ab (show R=(k,70) by rw[Vz.o,RJ.o])
   have G4:=ab (HKN.o.trans (Kp.below cD))
   clear VC cD TB hu PM
   go_wp2
   go_ret
   exact StepPost.bad HE.o (by decide) G4.o
  | some im=>
   have hu:=hu im rfl
   have RK:=XJ.o.1 im rfl
   have hum:TermV (fun b=>¬M b) W6 (TQ.val ⟨u0,u1,u2,u3,u4⟩) im:=hu.move (fun b hb hlt=>⟨fun hm=>by have:=HG.o.2.2.2.2 b hm;have:=H5.o.1.size;omega,rfl⟩)
   have s_:=bC cD H5.o.2.2.2.1
   have x56:=bC cD H5.o.2.2.1
   obtain ⟨P0,P1,P2,P3,P4,P5,P6,P7⟩:=zP s_
   have P8:=ai s_ 8
   obtain ⟨s0,s1,s2,_,_,_⟩:=fI x56
   obtain ⟨t0,t1,t2,_,_,_⟩:=fI VC
   have CE:=Ke ⟨⟨so,⟨n.toArray⟩,some ⟨b1,o1,none⟩,n1,sc,sb,m1,se⟩,⟨so,⟨n'.toArray⟩,some ⟨b2,o2,none⟩,n1,fc,fb,m1,fe⟩,ca,cl,cc⟩ ps HB.o.2.2.2.1 goodF goodT (fun _ h=>h.fit) (fun _ _ _ h=>h.args) M kb mF mT HG.o.2.1 HG.o.1 HG.o.2.2.1 (a[j]'XJ.o.2.2) XJ.o.2.1.1 XJ.o.2.1.2 im RK W6 nF Aj ⟨k.fs,kj⟩ ⟨xv,xn,xa,xl,xc⟩ ⟨u0,u1,u2,u3,u4⟩ (PC.o.2.2.1.later cD) (by have:=PC.o.2.1;have:=PC.o.2.2.2;have:=HB.o.2.1;have:=HB.o.2.2.1;omega) (zaZ PM) (H5.o.2.2.2.2.2.later cD) hum
   have fL:=RJ.o
   simp only at fL
   obtain ⟨EQ,hEQ⟩:=ao (gT (ps.reverse.map (·.1)) kj (a[j]'XJ.o.2.2) im)
   simp only[<-hEQ]at fL CE
   simp only[PlQ.val,PlQ.cells,TQ.val]at CE
   have HCE:=ab CE
   have G4:=aF (HKN.o.trans (Kp.below cD)) (PC.o.1.trans (Kp.below (H5.o.2.1.tr cD)))
   cases EQ with
   | none=>
    have HE:=ab (show R=(k,70) by rw[Vz.o,fL])
    clear VC cD TB hu PM hum s_ x56 CE fL hEQ RK
    go_wp2_with (go_at_call 95;refine HCE.o.mono ?_;rintro e w7 ⟨mK,r,rfl,fP,_⟩;obtain rfl:=fP (by simp);have H7:=ab mK;clear mK fP)
    go_ret
    exact StepPost.bad HE.o (by decide) (G4.o.1.trans (H7.o.mono (fun b _ h=>.inr h)))
   | some ts0=>
    have G6:=ab (show gd ps.reverse k.ts a a'=gd ps.reverse ts0 (a.drop (j+1)) (a'.drop (j+1)) from fL)
    clear VC cD TB hu PM hum s_ x56 CE fL hEQ RK
    go_wp2_with (go_at_call 95;refine HCE.o.mono ?_;rintro e w7 ⟨mK,r,rfl,_,RD⟩;obtain ⟨rfl,XF,RE,yo⟩:=RD _ rfl;have H7:=bx mK RE yo;clear mK RD RE yo)
    go_roundw
    case rel=>exact ⟨j+1,XF,ts0,by omega,by go_num,G4.o.2.trans H7.o.1,by have:=H7.o.2.1;have:=PC.o.2.1;have:=PC.o.2.2.2;omega,H7.o.2.2,G6.o⟩
    case measure=>simp[intOf];omega):G:=h
theorem pm118(h:G:=by
 refine (callsIn_wide (n:=3)).1 ?_
 refine callsIn_of_wp Tryz.func69 rfl trivial ?_ rfl
 simp only[Tryz.ntmps69,List.size_toArray,List.length_cons,List.length_nil,Nat.reduceAdd,Nat.reduceSub,Array.replicate_succ,Array.replicate_zero,List.push_toArray,List.append_toArray,List.nil_append,List.cons_append]
 first
 |clear pp118
  have jb:∀ f,Fence.wide.fn f:=fun _=>trivial
  first
  |clear pp14
   gi_wp2_with (gi_at_call 123;refine callsIn_wide.2 ((CP.o _).mono ?_);rintro e w3 ⟨rfl,aJ⟩;obtain ⟨b1,b2,b3,b0⟩:=LM HY.o aJ;have p1:w3.cell? ⟨w.heap.size,1,none⟩=some (.string ⟨n.toArray⟩):=ai b0 1;have p2:w3.cell? ⟨w.heap.size,2,none⟩=some (.slice qa k0 qc):=ai b0 2;have bp:=ab b1;have SA:=ab b2;have rt:=ab b3;clear aJ b1 b2 b3 b0)
   obtain ⟨W1,bQ⟩:=ao w3
   have hZ:Below w.heap.size w W1:=by rw[bQ];exact bp.o
   have x1:W1.heap[w.heap.size+1]?=some (.cells #[.bool false,.string ⟨#[]⟩,.slice none 0 0] 43 (0,0)):=by rw[bQ];exact SA.o
   have x2:W1.heap[w.heap.size+1+1]?=some (.cells #[.bool true,.string ⟨n.toArray⟩,.slice none 0 0] 43 (0,0)):=by rw[bQ];exact rt.o
   rw[<-bQ]
   clear bQ
   obtain ⟨dG,iB⟩:=aS hZ x1
   have tp:=ab (Fills.start (R:=w.heap.size+1+1) (mk:=fun rr=>#[.bool true,.string ⟨n.toArray⟩,rr]) (Row:=fun r W=>RowT W1.heap.size r ((a.map aK).take 0) W) x2 (RowT.nil _ _))
   clear hZ x1 x2
   gi_loopw [25] (fun i wr=>∃k:Nat,k<=k0/\i=.int .i64 k/\∃row,Fills 43 (w.heap.size+1+1) W1.heap.size (fun rr=>#[.bool true,.string ⟨n.toArray⟩,rr]) (fun r W=>RowT W1.heap.size r ((a.map aK).take k) W) W1 wr row) (fun i _=>k0 - (intOf i).toNat)
   case atStart=>exact ⟨0,Nat.zero_le _,rfl,_,tp.o⟩
   case round=>
    have pp0b:=();exact pm0
  |gi_wp2_with (gi_at_call 123;refine callsIn_wide.2 ((CP.o _).mono ?_);rintro e w3 ⟨rfl,aJ⟩;obtain ⟨b1,b2,b3,b0⟩:=LM HY.o aJ;have p1:w3.cell? ⟨w.heap.size,1,none⟩=some (.string ⟨n.toArray⟩):=ai b0 1;have p2:w3.cell? ⟨w.heap.size,2,none⟩=some (.slice qa k0 qc):=ai b0 2;have bp:=ab b1;have SA:=ab b2;have rt:=ab b3;have e1:w3.cell? ⟨w.heap.size+1+1,1,none⟩=some (.string ⟨n.toArray⟩):=ai b3 1;have z1:w3.frozen? ⟨w.heap.size+1+1,1,none⟩=false:=ae b3 1;clear aJ b1 b2 b3 b0)
   obtain ⟨W1,bQ⟩:=ao (w3.setCell ⟨w.heap.size+1+1,1,none⟩ (.string ⟨r.toArray⟩))
   have hZ:Below w.heap.size w W1:=by rw[bQ];exact bp.o.setCell (by simp;omega) _
   have x1:W1.heap[w.heap.size+1]?=some (.cells #[.bool false,.string ⟨#[]⟩,.slice none 0 0] 43 (0,0)):=by rw[bQ];exact (Below.heap_setCell _ _ _ _ (by simp)).trans SA.o
   have x2:W1.heap[w.heap.size+1+1]?=some (.cells #[.bool true,.string ⟨r.toArray⟩,.slice none 0 0] 43 (0,0)):=by rw[bQ];exact (aV rt.o _).trans rfl
   rw[<-bQ]
   clear bQ
   obtain ⟨dG,iB⟩:=aS hZ x1
   have tp:=ab (Fills.start (R:=w.heap.size+1+1) (mk:=fun rr=>#[.bool true,.string ⟨r.toArray⟩,rr]) (Row:=fun r W=>RowT W1.heap.size r ((a.map aK).take 0) W) x2 (RowT.nil _ _))
   clear hZ x1 x2
   gi_loopw [25] (fun i wr=>∃k:Nat,k<=k0/\i=.int .i64 k/\∃row,Fills 43 (w.heap.size+1+1) W1.heap.size (fun rr=>#[.bool true,.string ⟨r.toArray⟩,rr]) (fun r W=>RowT W1.heap.size r ((a.map aK).take k) W) W1 wr row) (fun i _=>k0 - (intOf i).toNat)
   case atStart=>exact ⟨0,Nat.zero_le _,rfl,_,tp.o⟩
   case round=>
    exact pm0
 |have pp55a:=();exact pm55):G:=h
theorem pm119(h:G:=by
 refine dI (B:=w.heap.size) (Marks.nil _ _) (fun w' hn=>?_)
 have h0:=hn.cell g0
 have h1:=hn.cell g1
 refine ⟨.tuple #[.agg #[.slice none 0 0,.slice none 0 0],.int .i64 (j:Int),.int .i64 2],by simp[results,Tryz.results15,go_sem,h0,h1],⟨⟨⟨none,0,0,none,0,0⟩,by (rw[HE.o];try rfl),by rw[HE.o];exact mN⟩,ic rf hn⟩⟩):G:=h
theorem pm120(h:G:=by
 have:(n,g)∈l:=by
  clear h
  induction l with
  | nil=>simp[getB]at hg
  | cons x l ih=>
   obtain ⟨y,v⟩:=x
   unfold getB at hg
   split at hg
   ·rename_i e
    simp only[Option.some.injEq]at hg
    rw[beq_iff_eq]at e
    subst e hg
    exact List.mem_cons_self ..
   ·exact List.mem_cons_of_mem _ (ih hg)
 have:=h.1 _ this
 exact ⟨this.2,this.1⟩):G:=h
theorem pm121(h:G:=by
 refine (callsIn_wide (n:=3)).1 ?_
 refine callsIn_of_wp Tryz.func154 rfl trivial ?_ rfl
 simp only[Tryz.ntmps154,List.size_toArray,List.length_cons,List.length_nil,Nat.reduceAdd,Nat.reduceSub,Array.replicate_succ,Array.replicate_zero,List.push_toArray,List.append_toArray,List.nil_append,List.cons_append]
 first
 |clear pp121
  have jb:∀ f,Fence.wide.fn f:=fun _=>trivial
  have Mb:Below w.heap.size w ((w.alloc (.cells #[.bool true,.string ⟨n.toArray⟩,.slice qa k0 qc] 43)).alloc (.cells #[.bool false,.string ⟨#[]⟩,.slice none 0 0] 43)):=ct.alloc (by simp) _
  have y1:((w.alloc (.cells #[.bool true,.string ⟨n.toArray⟩,.slice qa k0 qc] 43)).alloc (.cells #[.bool false,.string ⟨#[]⟩,.slice none 0 0] 43)).heap[w.heap.size+1]?=some (.cells #[.bool false,.string ⟨#[]⟩,.slice none 0 0] 43 (0,0)):=aj (by simp)
  have y0:((w.alloc (.cells #[.bool true,.string ⟨n.toArray⟩,.slice qa k0 qc] 43)).alloc (.cells #[.bool false,.string ⟨#[]⟩,.slice none 0 0] 43)).heap[w.heap.size]?=some (.cells #[.bool true,.string ⟨n.toArray⟩,.slice qa k0 qc] 43 (0,0)):=(Below.heap_alloc _ _ _ (by simp)).trans (aj rfl)
  have qD:((w.alloc (.cells #[.bool true,.string ⟨n.toArray⟩,.slice qa k0 qc] 43)).alloc (.cells #[.bool false,.string ⟨#[]⟩,.slice none 0 0] 43)).heap.size=w.heap.size+2:=by simp
  have CI:=hI n ((w.alloc (.cells #[.bool true,.string ⟨n.toArray⟩,.slice qa k0 qc] 43)).alloc (.cells #[.bool false,.string ⟨#[]⟩,.slice none 0 0] 43)) lj (IT.o.tr Mb)
  rw[pU]at CI
  have HY:=ce Mb y1 y0 qD
  have Rb:=ab CI
  first
  |clear pp19
   clear Mb y1 y0 qD CI pU
   gi_wp2_with (gi_at_fn g;refine callsIn_wide.2 (Rb.o.mono ?_);rintro e w3 ⟨⟨q3,rfl,ST⟩,aJ⟩;obtain ⟨Re,Rf,Rg,Rh,Ri⟩:=q3;simp only[TQ.val,Option.isSome]at ST ⊢;have b1:=HY.o.1.tr aJ;have y1:=(aJ.block _ (by have:=HY.o.2.2.2;omega)).trans HY.o.2.1;have y0:=(aJ.block _ (by have:=HY.o.2.2.2;omega)).trans HY.o.2.2.1;have nP:=aJ.size;have nS:=HY.o.2.2.2;have GH:w.heap.size+2<=w3.heap.size:=(by omega);have bp:=ce b1 y1 y0 ST;clear aJ b1 nP nS ST;have p0:w3.cell? ⟨w.heap.size,0,none⟩=some (.bool true):=ai y0 0;have p1:w3.cell? ⟨w.heap.size,1,none⟩=some (.string ⟨n.toArray⟩):=ai y0 1;have p2:w3.cell? ⟨w.heap.size,2,none⟩=some (.slice qa k0 qc):=ai y0 2;have aN:Below w3.heap.size w3 (w3.alloc (.cells #[.bool Re,.string Rf,.slice Rg Rh Ri] 43)):=ct;have q0:=aa aN p0;have q1:=aa aN p1;have q2:=aa aN p2;have cD:Below (w3.alloc (.cells #[.bool Re,.string Rf,.slice Rg Rh Ri] 43)).heap.size (w3.alloc (.cells #[.bool Re,.string Rf,.slice Rg Rh Ri] 43)) ((w3.alloc (.cells #[.bool Re,.string Rf,.slice Rg Rh Ri] 43)).alloc (.cells #[.bool true,.string ⟨n.toArray⟩,.slice none 0 0] 43)):=ct;have r2:=aa cD q2;clear y1 y0 aN cD)
   clear p0 p1 p2 q0 q1 q2 r2
   obtain ⟨W1,bQ⟩:=ao ((w3.alloc (.cells #[.bool Re,.string Rf,.slice Rg Rh Ri] 43)).alloc (.cells #[.bool true,.string ⟨n.toArray⟩,.slice none 0 0] 43))
   have hZ:Below w.heap.size w W1:=by rw[bQ];exact bp.o.1.tr ((ct.alloc (by simp) _))
   have x1:W1.heap[w.heap.size+1]?=some (.cells #[.bool false,.string ⟨#[]⟩,.slice none 0 0] 43 (0,0)):=by rw[bQ];exact (Below.heap_alloc _ _ _ (by simp;omega)).trans ((Below.heap_alloc _ _ _ (by omega)).trans bp.o.2.1)
   have x2:=iV bQ
   rw[<-bQ]
   clear bQ
   obtain ⟨dG,iB⟩:=aS hZ x1
   have tp:=ab (Fills.start (R:=w3.heap.size+1) (mk:=fun rr=>#[.bool true,.string ⟨n.toArray⟩,rr]) (Row:=fun r W=>RowT W1.heap.size r ((a.map (e_ f)).take 0) W) x2 (RowT.nil _ _))
   clear hZ x1 x2
   gi_loopw [30] (fun i wr=>∃k:Nat,k<=k0/\i=.int .i64 k/\∃row,Fills 43 (w3.heap.size+1) W1.heap.size (fun rr=>#[.bool true,.string ⟨n.toArray⟩,rr]) (fun r W=>RowT W1.heap.size r ((a.map (e_ f)).take k) W) W1 wr row) (fun i _=>k0 - (intOf i).toNat)
   case atStart=>exact ⟨0,Nat.zero_le _,rfl,_,tp.o⟩
   case round=>
    obtain ⟨k,hk,rfl,row,hF⟩:=hrel
    have az:=hF.below dG.o ((by omega))
    by_cases hlt:k<k0
    ·have da:=bR cY.o hlt
     have pp66d:=();exact pm66
    ·obtain rfl:k=k0:=by omega
     have pp192:=();exact pm192
  |clear Mb y1 y0 qD CI
   clear pU
   have HCu:=ab hcu
   clear hcu
   gi_wp2_with (first | (gi_at_fn g;refine callsIn_wide.2 (Rb.o.mono ?_);rintro e w3 ⟨⟨q3,rfl,ST⟩,aJ⟩;obtain ⟨Re,Rf,Rg,Rh,Ri⟩:=q3;simp only[TQ.val,Option.isSome]at ST ⊢;have b1:=HY.o.1.tr aJ;have y1:=(aJ.block _ (by have:=HY.o.2.2.2;omega)).trans HY.o.2.1;have y0:=(aJ.block _ (by have:=HY.o.2.2.2;omega)).trans HY.o.2.2.1;have nP:=aJ.size;have nS:=HY.o.2.2.2;have GH:w.heap.size+2<=w3.heap.size:=(by omega);have bp:=ce b1 y1 y0 ST;clear aJ b1 nP nS ST;have aN:Below w3.heap.size w3 (w3.alloc (.cells #[.bool Re,.string Rf,.slice Rg Rh Ri] 43)):=ct;have z1:=(aN.block _ (by omega)).trans y1;have HE:=ab (HCu.o _ _ ⟨Re,Rf,Rg,Rh,Ri⟩ ((bp.o.2.2.2 u rfl).later aN));simp only[TQ.val]at HE;have HZ:=aF z1 (bp.o.1.tr aN);clear y1 y0 aN z1) | (gi_at_call 218;refine callsIn_wide.2 (HE.o.mono ?_);rintro e w5 ⟨⟨p5,rfl,nU⟩,a_⟩;obtain ⟨pv,pn,pa,pl,pc⟩:=p5;simp only at nU ⊢;have x1:=(a_.block _ (by simp;omega)).trans HZ.o.1;have e0:=ai x1 0;have e1:=ai x1 1;have e2:=ai x1 2;have z0:=ae x1 0;have z1:=ae x1 1;have z2:=ae x1 2;have H5:=ce nU (HZ.o.2.tr a_) x1 a_.size;clear a_ nU x1))
   have x6:=oy (v0:=.bool pv) (v1:=.string pn) (v2:=.slice pa pl pc) H5.o.2.2.1
   have k6:=d8 (W:=w5) (b:=w.heap.size+1) (v0:=.bool pv) (v1:=.string pn) (v2:=.slice pa pl pc)
   obtain ⟨W6,cM⟩:=ao (((w5.setCell ⟨w.heap.size+1,0,none⟩ (.bool pv)).setCell ⟨w.heap.size+1,1,none⟩ (.string pn)).setCell ⟨w.heap.size+1,2,none⟩ (.slice pa pl pc))
   rw[<-cM]at x6 k6 ⊢
   clear cM
   have g0:W6.cell? ⟨w.heap.size+1,0,none⟩=some (.bool pv):=ai x6 0
   have g1:W6.cell? ⟨w.heap.size+1,1,none⟩=some (.string pn):=ai x6 1
   have g2:W6.cell? ⟨w.heap.size+1,2,none⟩=some (.slice pa pl pc):=ai x6 2
   refine bodyPost_ret (v:=TQ.val ⟨pv,pn,pa,pl,pc⟩) (by simp[TQ.val,results,Tryz.results154,go_sem,g0,g1,g2]) rfl ⟨⟨⟨pv,pn,pa,pl,pc⟩,rfl,H5.o.1.move (fun b hok hlt=>⟨by simp at hok;omega,k6.same b hlt (by simp at hok;omega)⟩)⟩,Below.kp1 H5.o.2.1 k6 (by omega)⟩
 |have pp55b:=();exact pm55):G:=h
theorem pm122(h:G:=by
 simp only at d1 d2 d3 d4
 obtain ⟨W5,eo⟩:=ao (wr.alloc (.cells #[.string ⟨nm.toArray⟩,.int .u8 qo,.string qn,.slice qa ql qc,.slice qb qm qe] 40))
 have a_:=cB eo
 first
 |clear pp122a
  have iv:=dw.later a_.drew
  have Xx:FormV (fun b=>b<w.heap.size) W5.drew (FQ.val ⟨qo,qn,qa,ql,qc,qb,qm,qe⟩) b.fs[k].2:=hf.move (fun b hb hlt=>⟨hb,((g_.trans (Kp.below a_.drew)).same b hlt (fP b hb))⟩)
  obtain ⟨w6,cw,EH,EI,Kc⟩:=iv.storeF (by simp) (by omega) (x:=nm) (by rw[c9];exact HP.o.1 _ (List.getElem_mem bc)) Xx (HP.o.2.2.2.2.1 _ (List.getElem_mem bc)) (l':=b.fs.take (k+1)) (fun y=>by rw[tR HP.o.2.2.1 bc,<-c9])
  have x8:=ai dw.box 0
  have x9:=aa a_ x8
  have Ci:=aa a_.drew x8
  have HK:=aF EH ((aZ.trans (Kp.below a_.drew)).trans (EI.mono (fun b _ h=>by rw[HM.o];exact .inl h)))
  obtain ⟨Vw,qd⟩:=aS cw eo
  rw[eo]at x9 Ci
  have Ip:(k:Int)<(n1:Int):=by omega
  clear dw iv EH aZ EI Kc hf Xx a_ g_ fP hok c9 eo bc c0 c1 c2 c3 c4
  rw[qd.o]at cw
  unfold FQ.val at cw
  go_wp2
  go_region
  go_wp2
  go_roundw
  case rel=>exact ⟨k+1,by omega,by go_num,HK.o.2,HK.o.1⟩
  case measure=>simp[intOf];omega
 |clear pp122b
  have Ip:(k:Int)<(n1:Int):=by omega
  have qd:=ab eo
  by_cases nN:nm=n
  ·subst nN
   have IU:(nm == nm)=true:=by simp
   rw[IU]at fL
   have CC:=mI g Ln ok W5 ⟨qo,qn,qa,ql,qc,qb,qm,qe⟩ ((hf.later ma).later a_)
   simp only[FQ.val]at CC
   have HC:=ab CC
   have HE:=ab (show R=some g from fL)
   have H5:=aF (ma.tr a_) (bC a_ hx)
   clear CC ma az fL hf Ln a_ hx eo hg c9 c0 c1 c2 c3 c4 hok
   go_wp2_with (rw[<-qd.o];go_at_call 51;refine HC.o.mono ?_;rintro e w6 ⟨⟨p0,p1,p2,p3,p4,p5,p6,p7⟩,rfl,hp,cD⟩;have TC:=bC cD H5.o.2;obtain ⟨e0,e1,e2,e3,y0,y1,y2,y3⟩:=cW TC;have H6:=bx TC hp cD;clear TC hp cD)
   obtain ⟨W8,kH,x8,k8,g0,g1,g2,g3⟩:=xW H6.o.1 (.int .u8 p0) (.string p1) (.slice p2 p3 p4) (.slice p5 p6 p7)
   rw[<-kH]
   refine bodyPost_ret (v:=.tuple #[FQ.val ⟨p0,p1,p2,p3,p4,p5,p6,p7⟩,.bool true]) (by simp[FQ.val,results,Tryz.results16,go_sem,g0,g1,g2,g3]) rfl ⟨⟨⟨p0,p1,p2,p3,p4,p5,p6,p7⟩,by rw[HE.o];rfl,?_⟩,Below.kp1 (H5.o.1.tr H6.o.2.2) k8 (by omega)⟩
   exact pm283
  ·have IU:(nm == n)=false:=by simp[nN]
   rw[IU]at fL
   have HG:=aF (az.tr a_) (show R=getB (b.fs.drop (k+1)) n from fL)
   clear ma az fL hf Ln a_ hx eo hg c9 c0 c1 c2 c3 c4 hok
   exact pm293
 |have x5:=bN eo
  have Ip:(k:Int)<(n1:Int):=by omega
  have g9:(nm,g)∈b.fs:=by rw[c9,hg];exact List.getElem_mem bc
  have CM:=BO nm W5 (by omega)
  have H5:=ce (ma.tr a_) x5 (hf.later (ma.tr a_)) kO
  have HO:=eO az aC dW c9 hg
  have qd:=ab eo
  cases Ah:dp nm with
  | false=>
   rw[Ah]at CM
   have HC:=ab CM
   have HE:=ab (show R=false by
    rw[HR.o];unfold bU
    rw[show (b.fs.all fun x=>dp x.1 && bP (bm x.2))=false from List.all_eq_false.2 ⟨_,g9,by simp[Ah]⟩];rfl)
   clear CM ma az aC dW c9 hg kO hf a_ x5 eo g9 Ah c0 c1 c2 c3 c4 hok
   go_wp2_with (rw[<-qd.o];go_at_call 65;refine HC.o.mono ?_;rintro e w6 ⟨rfl,cD⟩;have H6:=ab cD;clear cD)
   go_ret
   exact ⟨by rw[HE.o];rfl,H5.o.1.tr H6.o⟩
  | true=>
   rw[Ah]at CM
   have HC:=ab CM
   have GL:=ab (fun (W:World) (hb:Below W5.heap.size W5 W)=>JK g kO.2.1 ok W ⟨qo,qn,qa,ql,qc,qb,qm,qe⟩ ((hf.later (ma.tr a_)).later hb))
   have Hq:=ab (fun (W:World) (p:FQ) (ok':Nat->Prop) (hb:Below W5.heap.size W5 W) (hp:FormV ok' W p.val (bm g))=>kZ W0 (bm g) kO.2.2 ok' W (OT.o.next ((ma.tr a_).tr hb)) p hp)
   simp only[FQ.val]at GL Hq
   cases KK:bP (bm g) with
   | false=>
    rw[KK]at Hq
    have HE:=ab (show R=false by
     rw[HR.o];unfold bU
     rw[show (b.fs.all fun x=>dp x.1 && bP (bm x.2))=false from List.all_eq_false.2 ⟨_,g9,by simp[KK]⟩];rfl)
    clear CM ma az aC dW c9 hg kO hf a_ x5 eo g9 Ah KK c0 c1 c2 c3 c4 hok
    go_wp2_with (first | (rw[<-qd.o];go_at_call 65;refine HC.o.mono ?_;rintro e w6 ⟨rfl,cD⟩;have x6:=bC cD H5.o.2.1;have s0:=ai x6 0;have s1:=ai x6 1;have s2:=ai x6 2;have s3:=ai x6 3;have s4:=ai x6 4;have H6:=aF cD x6;clear cD x6) | (go_at_call 66;refine (GL.o w6 H6.o.1).mono ?_;rintro e w7 ⟨⟨p0,p1,p2,p3,p4,p5,p6,p7⟩,rfl,Hb,eT⟩;have H7:=aF Hb eT;clear Hb eT) | (go_at_call 39;refine (Hq.o w7 ⟨p0,p1,p2,p3,p4,p5,p6,p7⟩ _ (H6.o.1.tr H7.o.2) H7.o.1).mono ?_;rintro e w8 ⟨rfl,f_⟩;have H8:=ab (H6.o.1.tr (H7.o.2.tr f_));clear f_))
    go_ret
    exact ⟨by rw[HE.o];rfl,H5.o.1.tr H8.o⟩
   | true=>
    rw[KK]at Hq
    have vX:=ab a_
    have TH:=ab (show ((b.fs.take k).map (·.1)).length+1<=4000000 by simp;omega)
    have IX:=ab (show (b.fs.take (k+1)).map (·.1)=(b.fs.take k).map (·.1) ++ [nm]/\(b.fs.take (k+1)).all (fun x=>dp x.1 && bP (bm x.2))=true by
     rw[List.take_add_one,List.getElem?_eq_getElem bc]
     refine ⟨by rw[List.map_append,c9];rfl,?_⟩
     rw[List.all_append,dW]
     simp only[Option.toList,List.all_cons,List.all_nil,Bool.and_true,Bool.true_and]
     rw[<-c9,<-hg,Ah,KK];rfl)
    clear CM ma az aC dW c9 hg kO hf a_ x5 eo g9 Ah KK c0 c1 c2 c3 c4 hok
    go_wp2_with (first | (rw[<-qd.o];go_at_call 65;refine HC.o.mono ?_;rintro e w6 ⟨rfl,cD⟩;have x6:=bC cD H5.o.2.1;have s0:=ai x6 0;have s1:=ai x6 1;have s2:=ai x6 2;have s3:=ai x6 3;have s4:=ai x6 4;have H6:=aF cD x6;clear cD x6) | (go_at_call 66;refine (GL.o w6 H6.o.1).mono ?_;rintro e w7 ⟨⟨p0,p1,p2,p3,p4,p5,p6,p7⟩,rfl,Hb,eT⟩;have H7:=aF Hb eT;clear Hb eT) | (go_at_call 39;refine (Hq.o w7 ⟨p0,p1,p2,p3,p4,p5,p6,p7⟩ _ (H6.o.1.tr H7.o.2) H7.o.1).mono ?_;rintro e w8 ⟨rfl,f_⟩;have r0:=aa (H7.o.2.tr f_) s0;have H8:=ab (H6.o.1.tr (H7.o.2.tr f_));clear f_) | (at_builtin;refine dv rfl _ _ rfl W1.heap.size (by have:=HO.o.1.size;have:=vX.o.size;have:=H8.o.size;simp;omega) u3 ((b.fs.take k).map (·.1)) rfl (HO.o.2.1.later ((vX.o.tr H8.o).tr ct)) (.slice (some ⟨w8.heap.size,0,none⟩) 1 1) [nm] rfl (fun _=>True) (yh (aj rfl)) TH.o ?_;intro v9 w9 MD FV;have HG:=aF MD (mJ ((Kp.below (M:=fun _=>False) ((HO.o.1.tr vX.o).tr H8.o)).trans (Kp.below ct)) FV (fun g hg=>(World.ownsRow.lt HO.o.2.1 g hg).1)).empty;clear MD FV))
    go_roundw
    case rel=>exact ⟨k+1,by omega,by go_num,HG.o.2,by rw[IX.o.1];exact HG.o.1,IX.o.2⟩
    case measure=>simp[intOf];omega):G:=h
theorem pm123(h:G:=by
 refine bodyPost_ret (v:=.tuple #[FQ.val ⟨0,⟨#[]⟩,none,0,0,none,0,0⟩,.bool false]) (by simp[FQ.val,results,Tryz.results91,go_sem,g0,g1,g2,g3]) rfl ⟨⟨⟨0,⟨#[]⟩,none,0,0,none,0,0⟩,by rw[HE.o];rfl,fun u hu=>by rw[HE.o]at hu;cases hu⟩,Below.kp1 ((bW.o.1.tr bW.o.2).tr H5.o.1) k6 (by omega)⟩):G:=h
theorem pm124(h:G:=by
 have zj:Below w.heap.size w X:=aG NS.o.1 h4 (fun b hb=>(Qu.o b hb).1)
 have jq:Marks w.heap.size X _:=Hv3.o.2.more (w':=X) (fun E hE hx=>(h4.same E (bl hx) (fun hm=>by rw[YC.o]at hm;rcases hm with rfl | rfl <;> first | (rw[NS.o.2.2.2]at hx;cases hx) | (rw[HnV.o]at hx;cases hx))).trans hx) hD (Nat.le_trans NS.o.1.size hD) hd
 first
 |clear pp124
  have r0:=ai h3 0
  have z0:=ae h3 0
  have HX:=bx zj jq h3
  clear h1 h2 h3 h4 Um hd zj jq hD
  gi_wp2_with fail
  obtain ⟨W8,kH⟩:=ao (X.setCell ⟨w.heap.size+1+1,0,none⟩ (.int .i64 0))
  have k8:Kp (fun b=>b=w.heap.size+1+1) X W8:=by rw[kH];exact gO
  have x8:=gN HX.o.2.2 (v:=.int .i64 0)
  rw[<-kH]at x8 ⊢
  refine dI (B:=w.heap.size) (HX.o.2.1.move (fun D _ hd=>(k8.same D (bl hd) (fun h=>by subst h;rw[HX.o.2.2]at hd;cases hd)).trans hd)) (fun w' hn=>?_)
  have h0:=hn.cell (ai x8 0)
  exact ⟨.int .i64 0,by simp[results,Tryz.results71,go_sem,h0],by rw[HE.o],ic (aG HX.o.1 k8 (fun b hb=>by omega)) hn⟩
 |have HE:=ab (show R=3 by rw[HR.o,if_neg (by rw[<-Qm.o,HA1.o];simp),if_neg (by have h:=Ws.o;rw[Uk.o]at h;rw[h];simp),if_pos (by have:=Qk (cV.map Dh);rw[Yy.o]at this h2;omega)])
  have HX:=bx zj jq h3
  clear h2 h3 h4 hd cV zj jq hD
  gi_wp2_with fail
  refine dI (B:=w.heap.size) HX.o.2.1 (fun w' hn=>?_)
  have h0:=hn.cell (ai HX.o.2.2 0)
  exact ⟨.int .i64 3,by simp[results,Tryz.results71,go_sem,h0],by rw[HE.o],ic HX.o.1 hn⟩):G:=h
theorem pm125(h:G:=by
 have l2:=(hlk (W2.alloc (.cells #[.int .u8 0,.string ⟨#[]⟩,.slice none 0 0,.slice none 0 0] 36)).drew (Below.heap_alloc _ _ _ (by have:=H2.o.2.2.fs.lt;omega))).1
 first
 |clear pp125a
  have Kl:=ab (show R=true by rw[hE,hg])
  obtain ⟨W3,cZ⟩:=ao (W2.alloc (.cells #[.int .u8 0,.string ⟨#[]⟩,.slice none 0 0,.slice none 0 0] 36)).drew
  have x3:W3.heap[w.heap.size+1]?=some (.cells #[.int .u8 16,.string ⟨n.toArray⟩,.slice sa n1 sc,.slice sb m1 se] 36 (0,0)):=by rw[cZ];exact (aJ.block _ (bl H2.o.2.1)).trans H2.o.2.1
  have i0:=ai x3 0
  have bp:=ab (show Below w.heap.size w W3 by rw[cZ];exact H2.o.1.tr aJ.drew)
  clear hlk hg aJ hE x3 DI aW uU ej F0 CU EY Lo
  go_enter Tryz.func124,Tryz.ntmps124
  go_upto_region 4 with fail
  rw[<-eN.o]
  go_region
  all_goals
   rw[<-cZ]
   clear cZ
   go_wp2
   go_ret
   exact ⟨by rw[Kl.o];rfl,bp.o⟩
 |clear pp125b
  rw[hg]at hE
  simp only[show ¬((16:Int)=15) by decide,↓reduceIte]at hE
  obtain ⟨W3,cZ⟩:=ao (W2.alloc (.cells #[.int .u8 Cs,.string Ct,.slice Cu Cv Cw,.slice Cx Cy Cz] 36)).drew
  have nX:Below W2.heap.size W2 W3:=by rw[cZ];exact ct.drew
  have x3:=bC nX H2.o.2.1
  have y3:W3.heap[W2.heap.size]?=some (.cells #[.int .u8 Cs,.string Ct,.slice Cu Cv Cw,.slice Cx Cy Cz] 36 (0,0)):=by rw[cZ];exact aj rfl
  obtain ⟨i0,i1,i2,i3,_,_,_,_⟩:=cW x3
  have wB:=ab (XO.o W3 nX)
  have Kr:=ab (fun (V:World) (h:Below W3.heap.size W3 V)=>ik cF f EV.fit _ V ⟨Cs,Ct,Cu,Cv,Cw,Cx,Cy,Cz⟩ ((nl.later nX).later h))
  simp only[FQ.val]at Kr
  obtain ⟨n0,rN⟩:=ao (gF cF f)
  rw[<-rN]at hE Kr
  have H3:=bx nX y3 (H2.o.2.2.later nX)
  have XP:=ab hE
  clear hlk hg aJ hE x3 y3 DI aW uU ej F0 CU EY Lo nl EV rN nX
  go_enter Tryz.func124,Tryz.ntmps124
  go_upto_region 4 with fail
  rw[<-eN.o]
  go_region
  all_goals
   rw[<-cZ]
   clear cZ l1 l2 g0 g1 g3 g4 g5 e0 e1 e2 e3
   go_upto_region 8 with (go_at_call 96;refine wB.o.mono ?_;rintro e w4 ⟨rfl,aN⟩;have H4:=ab aN;clear aN)
   clear i0 i1 i2 i3
   have nj:=H3.o.2.2.later H4.o
   have k1:w4.cell? ⟨kb,1,none⟩=some (.map (some mT)):=ai nj.box 1
   have y4:=bC H4.o H3.o.2.1
   obtain ⟨j0,j1,j2,j3,_,_,_,_⟩:=cW y4
   have VE:=ab (Kr.o w4 H4.o)
   rcases nj.ts.look Tryz.underlying9 Tryz.underlying146 iG (x:=y) (by have:=HY.o.1;omega) with ⟨hg,hlk⟩ | ⟨t,vt,hg,hvt,hlk⟩
   ·have l1:=(hlk w4 rfl).1
    have Kl:=ab (show R=decide (n0 > 0) by rw[XP.o,hg];rfl)
    clear hlk hg nj y4
    go_wp2_with (go_at_call 97;refine VE.o.mono ?_;rintro e w5 ⟨rfl,a_⟩;have H5:=ab a_;clear a_)
    go_ret
    exact ⟨by rw[Kl.o];simp,(H2.o.1.tr H3.o.1).tr (H4.o.tr H5.o)⟩
   ·obtain ⟨⟨M5,M6,M7,M8,M9⟩,rfl,nV,SP⟩:=hvt
    simp only[TQ.val]at hlk
    have l1:=(hlk w4 rfl).1
    have Kl:=ab (show R=false by rw[XP.o,hg];rfl)
    clear hlk hg nj y4 nV SP
    go_wp2
    go_ret
    exact ⟨by rw[Kl.o];rfl,(H2.o.1.tr H3.o.1).tr H4.o⟩
 |have Kl:=ab (show R=false by rw[hE,hg];rfl)
  obtain ⟨W3,cZ⟩:=ao (W2.alloc (.cells #[.int .u8 Cs,.string Ct,.slice Cu Cv Cw,.slice Cx Cy Cz] 36)).drew
  have nX:Below W2.heap.size W2 W3:=by rw[cZ];exact ct.drew
  have i0:=ai (bC nX H2.o.2.1) 0
  have bp:=ab (H2.o.1.tr nX)
  clear hlk hg aJ hE nl EV nX
  go_enter Tryz.func124,Tryz.ntmps124
  go_upto_region 4 with fail
  rw[<-eN.o]
  go_region
  all_goals
   rw[<-cZ]
   clear cZ
   go_wp2
   go_ret
   exact ⟨by rw[Kl.o];rfl,bp.o⟩):G:=h
theorem pm126(h:G:=by
 obtain ⟨r,rfl⟩:∃r,n=63 :: r:=qu (by
  cases h2:(n.head? == some 63)
  ·simp[ea,dp,cG,h2]at h
  ·rfl)
 have C1:=ab (fun w=>h ▸ ja (63 :: r) w hn)
 exact pm216):G:=h
theorem pm127(h:G:=by
 clear CC fL cw PE hx hy eu aZ nk tS IY tU cD x6 s_ Tu OQ Tt oL c0 c1 c2 y0 y1 y2 pO pP hS cM
 go_wp2
 rw[<-Tp.o]
 have jb:∀ f,Fence.wide.fn f:=fun _=>trivial
 refine (wpIn_wide (n:=3)).1 ?_
 refine br S 8 (by kernel_rfl) dB (fun jr dt=>?_)
 refine bS 0 92 (.pointer (some ⟨kb,0,none⟩)) rfl dt fun eC=>?_
 simp only[ak]
 first
 |clear pp127
  have pp48:=();exact pm48
 |exact pm48):G:=h
theorem pm128(h:G:=by
 obtain ⟨aR,aq,hg,_⟩:=HG.o
 have cw:=eq.o.stepT (F:=2) (t:=u') (p:=⟨pv,pn,pa,pl,pc⟩) (g:=g) (cap:=et) (by rw[rO.o.2];exact xU.o.2.1) (by rw[rO.o.2];exact xU.o.1) xU.o.2.2 GO.o.2 GO.o.1 (by rw[rO.o.2];exact aR) aq (by rcases hg with h | h;exact .inl h;exact .inr (by simp;omega)) rfl
 rw[rO.o.2]at cw
 first
 |clear pp128
  exact ⟨k1+1,by omega,by go_num,_,Pe ++ [u'],cw,rO.o.1,by rw[List.length_append,rO.o.2];rfl⟩
 |exact ⟨k+1,by omega,by go_num,_,us ++ [u'],cw,rO.o.1,by rw[List.length_append,rO.o.2];rfl⟩):G:=h
theorem pm129(h:G:=by
 simp only[beq_self_eq_true,Bool.and_self,Bool.true_and]at hm
 have e0:(uo == uo)=true:=by simp
 have e1:(uo != uo)=false:=by simp
 have e2:((k0:Int) != (k0:Int))=false:=by simp
 have e3:((k1:Int) != (k1:Int))=false:=by simp
 obtain ⟨qb,FY⟩:=ao (bn uo)
 rw[<-FY]at hm EO
 by_cases I7:((xn == yn) || qb)=true
 first
 |clear pp129
  ·simp only[I7,Bool.true_and]at hm
   clear FY
   go_enter Tryz.func92,Tryz.ntmps92
   by_cases c9:xn=yn
   ·subst c9
    have pp309a:=();exact pm309
   ·have gu:(xn == yn)=false:=by simpa using c9
    have iD:(!(xn == yn))=true:=by simpa using c9
    rw[gu,Bool.false_or]at I7
    subst I7
    have HM:Hd (R=(bH ps.reverse xa ya && cb (ps ++ [(xn,yn)]).reverse xs ys)):=ab (by rw[hm];simp)
    clear hm
    go_wp2_with (go_at_call 93;refine (EO.o _).mono ?_;rintro e X0 ⟨rfl,ky⟩;have lx:Below W2.heap.size W2 X0:=(by rw[eN.o];exact ky);have kI:=ab (bC lx HX.o);have lX:=ab (bC lx HY.o);have nK:=ab ((HP.o.later bZ.o).later lx);have f9:=ab (bZ.o.trans (lx.mono bZ.o.size));have z2:X0.cell? ⟨w.heap.size,2,none⟩=some (.slice ua k0 uc):=ai kI.o 2;clear ky lx)
    clear z2
    go_loopw [47] (fun i wr=>∃k:Nat,k<=k0/\i=.int .i64 k/\Below X0.heap.size X0 wr/\R=(bH ps.reverse (xa.drop k) (ya.drop k) && cb (ps ++ [(xn,yn)]).reverse xs ys)) (fun i _=>k0 - (intOf i).toNat)
    case atStart=>exact ⟨0,Nat.zero_le _,rfl,Below.refl _ _,by simpa using HM.o⟩
    case round=>
     exact pm2
  ·have AV:R=false:=by rw[hm];rw[Bool.not_eq_true]at I7;rw[I7];simp
   have pp218:=();exact pm218
 |·simp only[I7,Bool.true_and]at hm
   clear FY
   go_enter Tryz.func83,Tryz.ntmps83
   cases qb
   ·have c9:xn=yn:=by simpa using I7
    subst c9
    have pp309b:=();exact pm309
   ·have HM:Hd (R=(bH ps.reverse xa ya && cb (ps ++ [(xn,yn)]).reverse xs ys)):=ab (by rw[hm];simp)
    clear hm
    have pp87:=();exact pm87
  ·have AV:R=false:=by rw[hm];rw[Bool.not_eq_true]at I7;rw[I7];simp
   exact pm218):G:=h
theorem pm130(h:G:=by
 have jc:s.take k=s:=by rw[fN.o];exact List.take_length
 rw[jc]at xS
 have B9:=ab hF.row
 have x2:=hF.box
 have x1:=hF.other (by omega) Mn.o
 have xp:=hF.other (by omega) Mm.o
 have HE:=ab (show RS=some (.mk qo n Pe us) from Mo.o.2.2 _ _ HAs.o.1 xS)
 have HRA:=ab (GQ.o.kp1 hF.kp Mk.o.2)
 exact pm36):G:=h
theorem pm131(h:G:=by
 exact pm250):G:=h
theorem pm132(h:G:=by
 obtain ⟨e6,e7,rfl⟩:=hF.row.slice
 rw[cA]at hF
 have HR:=ab (jc ▸ hF.row)
 have x2:=hF.box
 have x1:=hF.other (by omega) iB.o
 have x0:=hF.other (by omega) JL.o
 first
 |clear pp132a
  have p2:fX.cell? ⟨w.heap.size,2,none⟩=some (.slice qa k1 qc):=ai x0 2
  have p3:fX.cell? ⟨w.heap.size,3,none⟩=some (.slice qb m0 qe):=ai x0 3
  have JM:=ab x1
  have SB:=HR
  obtain ⟨pK,vK,vM⟩:=cf az hF.lt hF.size
  have tp:=ab (Fills.start (R:=w.heap.size+1+1) (mk:=fun rr=>#[.int .u8 qo,.string ⟨n.toArray⟩,.slice e6 k1 e7,rr]) (Row:=fun r W=>RowF fX.heap.size r ((s.map bm).take 0) W) x2 (RowF.nil _ _))
  clear jc cA hF x0 x1 x2 az HR
  gi_wp2
  gi_loopw [31] (fun i wr=>∃k:Nat,k<=m0/\i=.int .i64 k/\∃row,Fills 36 (w.heap.size+1+1) fX.heap.size (fun rr=>#[.int .u8 qo,.string ⟨n.toArray⟩,.slice e6 k1 e7,rr]) (fun r W=>RowF fX.heap.size r ((s.map bm).take k) W) fX wr row) (fun i _=>m0 - (intOf i).toNat)
  case atStart=>exact ⟨0,Nat.zero_le _,rfl,_,tp.o⟩
  case round=>
   obtain ⟨k,hk,rfl,row,hF⟩:=hrel
   have az:=hF.below pK.o (Nat.le_add_right _ 2)
   by_cases hlt:k<m0
   ·have da:=bR fN.o hlt
    have pp152b:=();exact pm152
   ·obtain rfl:k=m0:=by omega
    have cA:((s.map bm).take k).length=k:=by rw[List.length_take];have:=fN.o;simp;omega
    have jc:(s.map bm).take k=(s.map bm):=List.take_of_length_le (by have:=fN.o;simp;omega)
    have pp212b:=();exact pm212
 |clear pp132b
  have xu:=hF.other (by omega) HXU.o
  have CQ:=ef ⟨qo,⟨n.toArray⟩,qa,k1,qc,qb,m0,qe⟩ Cd
  simp only[FQ.val]at CQ
  obtain ⟨e0,e1,e2,e3⟩:=lF x0
  have FR:=ab CQ
  have HE:=eO x0 x1 xu x2 az
  have vK:=ab hF.lt
  have MA:=hF.size
  clear CQ hF x0 x1 xu x2 az jc cA
  gi_wp2_with fail
  refine callsIn_wide.2 (FR.o.mono ?_)
  rintro e fX ⟨rfl,ky⟩
  clear e0 e1 e2 e3
  have vM:=ab (show W1.heap.size<=fX.heap.size from Nat.le_trans MA ky.size)
  have x0:=bC ky HE.o.1
  have x1:=bC ky HE.o.2.1
  have xu:=bC ky HE.o.2.2.1
  have x2:=bC ky HE.o.2.2.2.1
  have pK:=ab (HE.o.2.2.2.2.tr ky)
  have SB:=ab (HR.o.below ky)
  obtain ⟨JM,zaG,Po⟩:=cf x1 xu x0
  clear HE HR ky MA
  cases n_:bn qo with
  | false=>
   have tP:Hd (RS=.mk qo n (a.map (jQ nx z)) (s.map (ep kk nx z))):=ab (by rw[Ro.o,tH n_];rfl)
   have p3:fX.cell? ⟨w.heap.size,3,none⟩=some (.slice qb m0 qe):=ai x0 3
   have tp:=ab (Fills.start (R:=w.heap.size+1+1+1) (mk:=fun rr=>#[.int .u8 qo,.string ⟨n.toArray⟩,.slice e6 k1 e7,rr]) (Row:=fun r W=>RowF fX.heap.size r ((s.map (ep kk nx z)).take 0) W) x2 (RowF.nil _ _))
   clear x0 x1 xu x2 n_
   gi_wp2
   gi_loopw [90] (fun i wr=>∃k:Nat,k<=m0/\i=.int .i64 k/\∃row,Fills 36 (w.heap.size+1+1+1) fX.heap.size (fun rr=>#[.int .u8 qo,.string ⟨n.toArray⟩,.slice e6 k1 e7,rr]) (fun r W=>RowF fX.heap.size r ((s.map (ep kk nx z)).take k) W) fX wr row) (fun i _=>m0 - (intOf i).toNat)
   case atStart=>exact ⟨0,Nat.zero_le _,rfl,_,tp.o⟩
   case round=>
    obtain ⟨k,hk,rfl,row,hF⟩:=hrel
    have az:=hF.below pK.o ((by omega))
    by_cases hlt:k<m0
    ·have da:=bR fN.o hlt
     have pp152c:=();exact pm152
    ·obtain rfl:k=m0:=by omega
     have cA:((s.map (ep kk nx z)).take k).length=k:=by rw[List.length_take];have:=fN.o;simp;omega
     have jc:(s.map (ep kk nx z)).take k=(s.map (ep kk nx z)):=List.take_of_length_le (by have:=fN.o;simp;omega)
     have pp212c:=();exact pm212
  | true=>
   obtain ⟨rfl,g,rfl⟩:=HQs.o n_
   obtain rfl:m0=1:=fN.o
   obtain rfl:k1=0:=cY.o
   have pp205:=();exact pm205
 |have CQ:=ef ⟨so,⟨n.toArray⟩,sa,k1,sc,sb,m1,se⟩ Cd
  simp only[FQ.val]at CQ
  obtain ⟨e0,e1,e2,e3⟩:=lF x0
  have FR:=ab CQ
  have HE:=ce x0 x1 x2 az
  have vK:=ab hF.lt
  have MA:=hF.size
  clear CQ hF x0 x1 x2 az jc cA
  gi_wp2_with fail
  refine callsIn_wide.2 (FR.o.mono ?_)
  rintro e fX ⟨rfl,ky⟩
  clear e0 e1 e2 e3
  have vM:=ab (show W1.heap.size<=fX.heap.size from Nat.le_trans MA ky.size)
  have x0:=bC ky HE.o.1
  have x1:=bC ky HE.o.2.1
  have x2:=bC ky HE.o.2.2.1
  have pK:=ab (HE.o.2.2.2.tr ky)
  have SB:=ab (HR.o.below ky)
  obtain ⟨JM,Po,zbq⟩:=cf x1 x0 x2
  clear HE HR ky MA
  cases n_:bn so with
  | false=>
   have tP:Hd (RS=.mk so n (a.map (cC kd.ts c)) (ss.map (cz kd c))):=ab (by rw[Ro.o,Qv By.o.1 By.o.2 n_])
   have p3:fX.cell? ⟨w.heap.size,3,none⟩=some (.slice sb m1 se):=ai x0 3
   have TO:=ab (Fills.start (R:=w.heap.size+1+1) (mk:=fun rr=>#[.int .u8 so,.string ⟨n.toArray⟩,.slice e6 k1 e7,rr]) (Row:=fun r W=>RowF fX.heap.size r ((ss.map (cz kd c)).take 0) W) x2 (RowF.nil _ _))
   clear x0 x1 x2 n_
   gi_wp2
   gi_loopw [121] (fun i wr=>∃k:Nat,k<=m1/\i=.int .i64 k/\∃row,Fills 36 (w.heap.size+1+1) fX.heap.size (fun rr=>#[.int .u8 so,.string ⟨n.toArray⟩,.slice e6 k1 e7,rr]) (fun r W=>RowF fX.heap.size r ((ss.map (cz kd c)).take k) W) fX wr row) (fun i _=>m1 - (intOf i).toNat)
   case atStart=>exact ⟨0,Nat.zero_le _,rfl,_,TO.o⟩
   case round=>
    obtain ⟨k,hk,rfl,row,hF⟩:=hrel
    have az:=hF.below pK.o (by omega)
    by_cases hlt:k<m1
    ·have da:=bR Cq.o hlt
     exact pm152
    ·obtain rfl:k=m1:=by omega
     have cA:((ss.map (cz kd c)).take k).length=k:=by rw[List.length_take];have:=Cq.o;simp;omega
     have jc:(ss.map (cz kd c)).take k=(ss.map (cz kd c)):=List.take_of_length_le (by have:=Cq.o;simp;omega)
     exact pm212
  | true=>
   obtain ⟨rfl,g,rfl⟩:=HQs.o n_
   obtain rfl:m1=1:=Cq.o
   obtain rfl:k1=0:=tN.o
   exact pm205):G:=h
theorem pm133(h:G:=by
 refine hQ a γ w ⟨h.df,h.sz,h.ou,fun k o ho hd _=>h.nod k o ho hd (dW k (bl ho)),fun k o d ho hd _=>h.val k o d ho hd (dW k (bl ho)),fun k hk hl=>by simp[Array.getD,hk]at hl,h.inv,fun k o d ho _ hl=>by simp[Array.getD,(bl ho)]at hl,fun _ _ _ _ e _ _ hlt=>by simp[Array.getD,hlt]⟩):G:=h
theorem pm134(h:G:=by
 refine bS 7 98 (.tuple #[.agg #[.bool u0,.string u1,.slice u2 u3 u4],.bool I.isSome]) rfl iP fun kV=>?_
 simp only[ak]
 refine bS 8 106 (.agg #[.bool u0,.string u1,.slice u2 u3 u4]) rfl kV fun pt=>?_
 simp only[ak]
 refine bS 9 107 (.bool I.isSome) rfl pt fun EJ=>?_
 simp only[ak]
 first
 |clear pp134
  refine b_ 10 rfl fun K hK=>?_
  go_simp
  obtain ⟨EB,PL⟩:=ao w6.heap.size
  obtain ⟨A1,DF⟩:=ao (w6.alloc (.cells #[.bool false,.string ⟨#[]⟩,.slice none 0 0] 43))
  have XK:Below W5.heap.size W5 A1:=by rw[DF];exact H6.o.1.alloc H6.o.1.size _
  have XL:=cB DF
  have VB:A1.heap[EB]?=some (.cells #[.bool false,.string ⟨#[]⟩,.slice none 0 0] 43 (0,0)):=by rw[DF,PL];exact aj rfl
  rw[<-DF,<-PL]
  have HA:=ce XK XL VB PL
  refine hK _ _ (fun _=>by rw[dr.o];exact HA.o.1) (fun _=>?_)
  obtain ⟨z0,z1,z2,y0',y1',y2'⟩:=fI VB
  clear hK K DF PL XK XL VB
  refine b_ 11 rfl fun K hK=>?_
  go_simp
  refine hK _ _ (fun _=>by rw[dr.o];exact Below.kp1 HA.o.1 d8 (by have:=HA.o.2.2.2;have:=H6.o.1.size;omega)) (fun _=>?_)
  clear hK K
  refine b_ 12 rfl fun K hK=>?_
  have pp86c:=();exact pm86
 |refine b_ 11 rfl fun K hK=>?_
  go_simp
  refine hK _ _ (fun _=>by rw[dr.o];exact Below.kp1 H6.o.1 d8 (by have:=HA.o.2.2;omega)) (fun _=>?_)
  clear hK K
  refine b_ 12 rfl fun K hK=>?_
  have pp86d:=();exact pm86):G:=h
theorem pm135(h:G:=by
 have HH:=aF hj aZ
 have lj:¬((k:Int)<min (sm:Int) (fm:Int)):=by have:=fN.o;omega
 have qA:min (sm:Int) (fm:Int)<=(k:Int):=by have:=fN.o;omega
 clear hj aZ
 gi_wp2
 go_ret
 refine .inl ⟨rfl,?_,yi.o.2.trans HH.o.2⟩
 have h:=HH.o.1
 rw[rX (c:=wb) (by have:=fN.o;omega)]at h
 exact h):G:=h
theorem pm136(h:G:=by
 have CI:=ab (fun w3 (h3:Kp (fun c=>c=J) w w3)=>aW ▸ (cY.o ▸ kC a MU.o ok qa _ qc w3 (dA.o.move (fun b hb hlt=>⟨hb,h3.same b hlt (n8.o b hb)⟩))))
 first
 |clear pp136a
  rw[aW]at hM
  simp only[Bool.or_true,Bool.true_and]at hM
  have pp108:=();exact pm108
 |clear pp136b
  rw[aW]at hM
  simp only[Bool.or_true,Bool.true_and]at hM
  have pp106:=();exact pm106
 |have HE:Hd (BX=false):=ab (hM.trans (by simp[aW]))
  clear hM qB oc zI
  have pp78g:=();exact pm78):G:=h
theorem pm137(h:G:=by
 subst hq
 exact ⟨b,q,⟨hs,h3,h4.move (fun c hc _=>⟨⟨⟨hc.1,fun e=>hc.2.2 (by rw[e])⟩,hc.2.1⟩,rfl⟩)⟩,(hI.2.1 b rfl).1.resolve_right id⟩):G:=h
theorem pm138(h:G:=by
 injection hv with hv _ _
 subst hv
 rcases hs with rfl | ⟨b,off,rfl,hok,hc⟩
 ·simp at hj
 first
 |clear pp138a
  ·obtain ⟨q,hq,_⟩:=(ht j hj).form
   obtain ⟨x0,x1,x2,hx,c0,c1,c2⟩:=hc j hj
   rw[hq]at hx
   unfold TQ.val at hx
   simp only[Value.agg.injEq,Array.mk.injEq,List.cons.injEq,and_true]at hx
   obtain ⟨rfl,rfl,rfl⟩:=hx
   exact ⟨b,off,q,rfl,hok,hq ▸ ht j hj,c0,c1,c2⟩
 |clear pp138b
  ·obtain ⟨q,hq,_⟩:=(ht j hj).form
   obtain ⟨x0,x1,x2,x3,hx,c0,c1,c2,c3⟩:=hc j hj
   rw[hq]at hx
   unfold FQ.val at hx
   simp only[Value.agg.injEq,Array.mk.injEq,List.cons.injEq,and_true]at hx
   obtain ⟨rfl,rfl,rfl,rfl⟩:=hx
   exact ⟨b,off,q,rfl,hok,hq ▸ ht j hj,c0,c1,c2,c3⟩
 |clear pp138c
  ·exact ⟨b,off,qs j,rfl,hok,hf j hj,hc j hj⟩
 |·exact ⟨b,off,ps j,qs j,rfl,hok,(hf j hj).1,(hf j hj).2,hc j hj⟩):G:=h
theorem pm139(h:G:=by
 go_wp2_with (go_at_call 164;refine (CC.o _ HW.o).mono ?_;rintro e w1 ⟨rfl,hb1⟩;have dG:=ab hb1;clear hb1)
 go_roundw
 first
 |clear pp139a
  case rel=>exact ⟨k+1,by omega,by go_num,HB.o.trans ((HW.o.trans (dG.o.mono HW.o.size)).mono HB.o.size),by rw[HS.o];simp⟩
  case measure=>simp[intOf];omega
 |clear pp139b
  case rel=>exact ⟨k+1,by omega,by go_num,HB.o.trans ((HW.o.trans (dG.o.mono HW.o.size)).mono HB.o.size),by rw[HS.o];simp;omega⟩
  case measure=>simp[intOf];omega
 |case rel=>exact ⟨k+1,by omega,by go_num,HB.o.trans ((HW.o.trans (dG.o.mono HW.o.size)).mono HB.o.size),by rw[HS.o,dT];simp⟩
  case measure=>simp[intOf];omega):G:=h
theorem pm140(h:G:=by
 obtain ⟨yv,yn,ya⟩:=u
 obtain ⟨s1,h1,ej⟩:=aP.1 hq
 obtain ⟨s2,h2,vT⟩:=aP.1 jC
 obtain ⟨uv,un,ua,ul,uc⟩:=q
 obtain ⟨vv,vn,va,vl,vc⟩:=q'
 first
 |clear pp140a
  have pp59b:=();exact pm59
 |clear pp140b
  have pp59c:=();exact pm59
 |exact pm59):G:=h
theorem pm141(h:G:=by
 rw[h1,Bool.true_and]at cv
 have cv:=cv.symm
 rw[Bool.and_eq_false_iff]at cv
 rcases cv with cv | cv
 ·have:decide ((ah s:Int)<=left - 1 - ac a)=false:=by simp at cv ⊢;omega
  rw[this];simp
 ·have:decide (aX+1+aU s<=bh+1)=false:=by simp at cv ⊢;omega
  rw[this];simp):G:=h
theorem pm142(h:G:=by
 have HF:=ab (HE.o.trans jd)
 obtain ⟨wA,jA⟩:=aS hj aZ
 clear jd hj aZ ha hc ht
 go_wp2
 go_ret
 have T8:=HN.o
 have h8:=wA.o
 rw[show left - 1 - (ac a:Int) - (ah s:Int)=left - ((ac a+ah s+1:Nat):Int) by omega,<-T8]at h8
 exact JPost.yes HF.o jA.o h8 (by omega)):G:=h
theorem pm143(h:G:=by
 exact pm309):G:=h
theorem pm144(h:G:=by
 have g_:Kp M w wr:=(Kp.below H4.o.1).trans aZ
 have fP:∀ b,b<w.heap.size->¬M b:=fun b hb=>by rw[HM.o];rintro (h | h) <;> omega
 have d0:=g_.cell (fP _ hok) c0
 have d1:=g_.cell (fP _ hok) c1
 have d2:=g_.cell (fP _ hok) c2
 have d3:=g_.cell (fP _ hok) c3
 first
 |clear pp144
  have d4:=g_.cell (fP _ hok) c4
  obtain ⟨nm,c9⟩:=ao (b.fs[k].1)
  rw[<-c9]at d0
  have pp122a:=();exact pm122
 |obtain ⟨nm,c9⟩:=ao (b.ts[j].1)
  rw[<-c9]at d0
  simp only at d1 d2 d3
  obtain ⟨W5,eo⟩:=ao (wr.alloc (.cells #[.string ⟨nm.toArray⟩,.bool qv,.string qn,.slice qa ql qc] 47))
  have a_:=cB eo
  have iv:=dw.later a_.drew
  have Xx:TermV (fun b=>b<w.heap.size) W5.drew (TQ.val ⟨qv,qn,qa,ql,qc⟩) b.ts[j].2:=hf.move (fun b hb hlt=>⟨hb,((g_.trans (Kp.below a_.drew)).same b hlt (fP b hb))⟩)
  obtain ⟨w6,cw,EH,EI,Kc⟩:=iv.storeT (by simp <;> omega) (by omega) (x:=nm) (by rw[c9];exact HP.o.2.1 _ (List.getElem_mem bc)) Xx (HP.o.2.2.2.2.2 _ (List.getElem_mem bc)) (l':=b.ts.take (j+1)) (fun y=>by rw[tR HP.o.2.2.2.1 bc,<-c9])
  have x8:=ai dw.box 1
  have x9:=aa a_ x8
  have Ci:=aa a_.drew x8
  have HK:=aF EH ((aZ.trans (Kp.below a_.drew)).trans (EI.mono (fun b _ h=>by rw[HM.o];exact .inr h)))
  have qd:=ab eo
  rw[eo]at x9 Ci
  have Ip:(j:Int)<(n2:Int):=by omega
  clear dw iv EH aZ EI Kc hf Xx a_ g_ fP hok c9 eo bc c0 c1 c2 c3
  rw[qd.o]at cw
  unfold TQ.val at cw
  go_wp2
  go_region
  go_wp2
  go_roundw
  case rel=>exact ⟨j+1,by omega,by go_num,HK.o.2,HK.o.1⟩
  case measure=>simp[intOf];omega):G:=h
theorem pm145(h:G:=by
 rw[lI.o]at e0 e1 e2
 simp only[TQ.val]
 go_enter Tryz.func193,Tryz.ntmps193
 first
 |clear pp145a
  go_wp2_with (rw[<-lI.o];go_at_call 192;refine wB.o.mono ?_;rintro e w4 ⟨rfl,aN⟩;have H4:=ab aN;clear aN)
  go_ret
  exact ⟨by rw[pB.o];rfl,H1.o.1.tr H4.o⟩
 |clear pp145b
  go_wp2_with (first | (rw[<-lI.o];go_at_call 119;refine qP.o.mono ?_;rintro e w3 ⟨rfl,aJ⟩;have x3:=bC aJ H1.o.2.1;obtain ⟨q0,q1,q2,_⟩:=fI x3;have H3:=ab aJ;clear aJ x3) | (go_at_call 192;refine (CG.o w3 H3.o).mono ?_;rintro e w4 ⟨rfl,aN⟩;have H4:=ab aN;clear aN))
  go_ret
  exact ⟨by rw[pB.o];rfl,H1.o.1.tr (H3.o.tr H4.o)⟩
 |go_wp2_with (rw[<-lI.o];go_at_call 119;refine qP.o.mono ?_;rintro e w3 ⟨rfl,aJ⟩;have H3:=ab aJ;clear aJ)
  clear e0 e1 e2
  have kh:=(FZ.o.later H1.o.2.2).later H3.o
  have x3:=bC H3.o H1.o.2.1
  have g0:w3.cell? ⟨kb,1,none⟩=some (.map (some mT)):=ai kh.box 1
  have g1:w3.drew.cell? ⟨kb,1,none⟩=some (.map (some mT)):=ai kh.box 1
  have g2:w3.cell? ⟨w.heap.size,1,none⟩=some (.string ⟨n.toArray⟩):=ai x3 1
  have g3:w3.drew.cell? ⟨w.heap.size,1,none⟩=some (.string ⟨n.toArray⟩):=g2
  have a_:Below w3.heap.size w3 (w3.alloc (.cells #[.bool false,.string ⟨#[]⟩,.slice none 0 0] 43)):=ct
  obtain ⟨g4,g5⟩:=wN a_ g0 g2
  rcases kh.ts.look Tryz.underlying9 Tryz.underlying146 iG (x:=n) (by omega) with ⟨hg,hl⟩ | ⟨u,vu,hg,hvu,hl⟩
  ·have l1:=(hl w3.drew rfl).1
   have pp224:=();exact pm224
  ·obtain ⟨⟨xv,xn,xa,xl,xc⟩,rfl,hxv,hpu⟩:=hvu
   simp only[TQ.val]at hl
   have l1:=(hl w3.drew rfl).1
   exact pm224):G:=h
theorem pm146(h:G:=by
 intro us3 Uc wq hrel
 obtain ⟨j,hj,Ud,uA,aZ,DJ,ej,kj,KM,KN,dw,pN,oA,Bw,fL⟩:=hrel
 simp only[gZ,List.setIfInBounds_toArray,List.set_cons_zero,List.set_cons_succ]
 rw[Ud]
 have ky:Below w.heap.size w wq:=aG rl.o.2.2.1 aZ zJ.o.1
 by_cases hlt:j<n1
 first
 |clear pp146
  ·have j5:=bR HN.o hlt
   exact pm259
  ·obtain rfl:n1=j:=by omega
   have sI:fw cm 0 k l=(kj,0,0):=by rw[fL,List.drop_eq_nil_of_le (by rw[<-HN.o];exact Nat.le_refl _)];rfl
   have pp182:=();exact pm182
 |·have j5:=bR HN.o hlt
   obtain ⟨bb,off,⟨a0,a1,a2,a3,a4,a5,a6,a7⟩,⟨b0,b1,b2,b3,b4,b5,b6,b7⟩,rfl,hok,hs,hf,c0,c1,c2,c3,c4,c5,c6,c7⟩:=HV.o.1.get j5
   obtain ⟨d0,d1,d2,d3,d4,d5,d6,d7⟩:=Gf ky c0 c1 c2 c3 c4 c5 c6 c7
   simp only at d0 d1 d2 d3 d4 d5 d6 d7
   have cw:=y_ (step:=gP) (k:=kj) j5
   exact pm58
  ·obtain rfl:n1=j:=by omega
   have sI:fw gP 0 k l=(kj,0,0):=by rw[fL,List.drop_eq_nil_of_le (by rw[<-HN.o];exact Nat.le_refl _)];rfl
   exact pm182):G:=h
theorem pm147(h:G:=by
 have iv:=H3.o.2.2.later H5.o
 obtain ⟨⟨z0,z1,z2,z3,z4⟩,RL,EW,IZ,_,_,yx⟩:=iv.termOf (x:=y) (by have:=HY.o.1;omega)
 simp only[TQ.val]at yx
 have bc:=iv.ts.lt
 obtain ⟨S,hS⟩:∃S:World->Prop,S=fun V=>Below w5.heap.size w5 V:=⟨_,rfl⟩
 first
 |clear pp147
  have ff:∀ V,S V->V.cell? ⟨kb,1,none⟩=some (.map (some mT))/\(Instr.lookup 146 (.map (some mT)) (.string ⟨y.toArray⟩) false).run Tryz.prog V=.ok (.agg #[.bool z0,.string z1,.slice z2 z3 z4]) V/\V.cell? ⟨w4.heap.size,0,none⟩=some (.int .u8 g0)/\V.cell? ⟨w4.heap.size,1,none⟩=some (.string g1)/\V.cell? ⟨w4.heap.size,2,none⟩=some (.slice g2 g3 g4)/\V.cell? ⟨w4.heap.size,3,none⟩=some (.slice g5 g6 g7):=fun V h=>by
   exact pm284
  have dB:S w5.drew:=by rw[hS];exact (Below.refl _ _).drew
  have HR5:=ab (show RS=gS cF (termOf kd.ts y) f by rw[HB.o.2.2.2.2,if_neg h0])
  have pw:=((H3.o.1.tr H5.o).tr (Below.refl w5.heap.size w5).drew)
  have CP:=rV WB f cF (termOf kd.ts y) su.o.2.1 (by have:=su.o.2.2.1;omega) su.o.2.2.2.1 su.o.2.2.2.2 (by have:=HY.o.2.1;omega) EW (by omega) _ _ w5.drew ⟨g0,g1,g2,g3,g4,g5,g6,g7⟩ ⟨z0,z1,z2,z3,z4⟩ (Mz.o.next pw) (su.o.1.later pw) (RL.later ((Below.refl w5.heap.size w5).drew))
  simp only[FQ.val,TQ.val]at CP
  obtain ⟨GW,HX5,dr⟩:=cf CP YG hS
  clear hS iv RL EW IZ yx bc pw CP y5 YG h0
  go_upto_region 9 with fail
  clear rq jS hO
  refine (wpIn_wide (n:=3)).1 ?_
  refine br S 9 (by kernel_rfl) dB (fun jr dt=>?_)
  refine dc 0 49 (.agg #[.int .u8 g0,.string g1,.slice g2 g3 g4,.slice g5 g6 g7]) rfl (fun V hX=>by obtain ⟨h0,h1,h2,h3,h4,h5⟩:=ff V hX;go_simp) dt fun NU=>?_
  simp only[ak]
  refine bS 1 50 (.string ⟨cF.toArray⟩) rfl NU fun NV=>?_
  simp only[ak]
  refine bS 2 51 (.pointer (some ⟨kb,0,none⟩)) rfl NV fun Hu=>?_
  simp only[ak]
  refine bS 3 52 (.pointer (some ⟨kb,0,none⟩)) rfl Hu fun NW=>?_
  simp only[ak]
  refine bS 4 53 (.pointer (some ⟨kb,1,none⟩)) rfl NW fun Uu=>?_
  simp only[ak]
  refine dc 5 54 (.map (some mT)) rfl (fun V hX=>by obtain ⟨h0,h1,h2,h3,h4,h5⟩:=ff V hX;go_simp) Uu fun hT5=>?_
  simp only[ak]
  refine bS 6 55 (.string ⟨y.toArray⟩) rfl hT5 fun hT6=>?_
  simp only[ak]
  refine dc 7 56 (.agg #[.bool z0,.string z1,.slice z2 z3 z4]) rfl (fun V hX=>by obtain ⟨h0,h1,h2,h3,h4,h5⟩:=ff V hX;go_simp) hT6 fun hT7=>?_
  simp only[ak]
  refine b_ 8 rfl fun K hK=>?_
  go_simp
  refine callsIn_wide.2 (GW.o.mono ?_)
  rintro e w7 ⟨⟨⟨p0,p1,p2,p3,p4,p5,p6,p7⟩,rfl,hp⟩,eT⟩
  have H7:=ab (((Below.refl w5.heap.size w5).drew).trans eT)
  have HP7:=ab hp
  have x7:=bC H7.o HX5.o
  have Hw:=ab x7
  obtain ⟨i0,i1,i2,i3,q0,q1,q2,q3⟩:=cW x7
  refine hK _ _ (fun _=>by rw[dr.o];exact H7.o) (fun _=>?_)
  clear hK K eT x7 hp
  refine b_ 9 rfl fun K hK=>?_
  have pp86l:=();exact pm86
 |have ff:∀ V,S V->V.cell? ⟨kb,1,none⟩=some (.map (some mT))/\(Instr.lookup 146 (.map (some mT)) (.string ⟨y.toArray⟩) false).run Tryz.prog V=.ok (.agg #[.bool z0,.string z1,.slice z2 z3 z4]) V/\V.cell? ⟨W2.heap.size,0,none⟩=some (.int .u8 g0)/\V.cell? ⟨W2.heap.size,1,none⟩=some (.string g1)/\V.cell? ⟨W2.heap.size,2,none⟩=some (.slice g2 g3 g4)/\V.cell? ⟨W2.heap.size,3,none⟩=some (.slice g5 g6 g7):=fun V h=>by
   exact pm284
  have dB:S w5.drew:=by rw[hS];exact (Below.refl _ _).drew
  have VF:=ab (fun (V:World) (h:Below w5.heap.size w5 V)=>jO _ EW (by omega) _ V ⟨z0,z1,z2,z3,z4⟩ (RL.later h))
  obtain ⟨nt,tU⟩:=ao (nodesT (termOf k.ts y))
  have RM:1<=nt:=by rw[tU];exact iq _
  have hE:=XP.o
  simp only[TQ.val,<-tU]at VF
  rw[<-tU]at IZ hE
  obtain ⟨m2,we⟩:=ao (nt - 1)
  obtain ⟨m3,OR⟩:=ao (n0 * m2)
  have nU:m3<=400 * 1000:=by rw[OR];exact Nat.mul_le_mul HY.o.2.1 (by omega)
  rw[<-we,<-OR]at hE
  have vP:IntKind.i64.wrap ((nt:Int) - 1)=(m2:Int):=by rw[IntWalk.i64_in _ (by omega)];omega
  have Lh:IntKind.i64.wrap ((n0:Int) * (m2:Int))=(m3:Int):=by rw[show (n0:Int) * (m2:Int)=(m3:Int) by rw[OR];simp];exact IntWalk.i64_in _ (by omega)
  have TG:IntKind.i64.wrap ((nf:Int)+(m3:Int))=((nf+m3:Nat):Int):=by rw[IntWalk.i64_in _ (by have:=HY.o.2.2;omega)];simp
  obtain ⟨pB,dr⟩:=aS hE hS
  clear hS iv RL EW IZ yx bc tU RM hE we OR nU y5 h0
  go_upto_region 11 with fail
  clear rq jS
  refine (wpIn_wide (n:=3)).1 ?_
  refine br S 13 (by kernel_rfl) dB (fun jr dt=>?_)
  refine dc 0 48 (.agg #[.int .u8 g0,.string g1,.slice g2 g3 g4,.slice g5 g6 g7]) rfl (fun V hX=>by obtain ⟨h0,h1,h2,h3,h4,h5⟩:=ff V hX;go_simp) dt fun eC=>?_
  simp only[ak]
  refine bS 2 50 (.int .i64 (n0:Int)) rfl eC fun eX=>?_
  simp only[ak]
  refine bS 3 51 (.pointer (some ⟨kb,0,none⟩)) rfl eX fun fM=>?_
  simp only[ak]
  refine bS 4 52 (.pointer (some ⟨kb,0,none⟩)) rfl fM fun gE=>?_
  simp only[ak]
  refine bS 5 53 (.pointer (some ⟨kb,1,none⟩)) rfl gE fun iu=>?_
  simp only[ak]
  refine dc 6 54 (.map (some mT)) rfl (fun V hX=>by obtain ⟨h0,h1,h2,h3,h4,h5⟩:=ff V hX;go_simp) iu fun iP=>?_
  simp only[ak]
  refine bS 7 55 (.string ⟨y.toArray⟩) rfl iP fun kV=>?_
  simp only[ak]
  refine dc 8 56 (.agg #[.bool z0,.string z1,.slice z2 z3 z4]) rfl (fun V hX=>by obtain ⟨h0,h1,h2,h3,h4,h5⟩:=ff V hX;go_simp) kV fun pt=>?_
  simp only[ak]
  refine b_ 1 rfl fun K hK=>?_
  go_simp
  refine callsIn_wide.2 ((DG.o _ (H5.o.tr (by have h:=dt;rw[dr.o]at h;exact h))).mono ?_)
  rintro e w7 ⟨rfl,eT⟩
  have H7:=ab (((Below.refl w5.heap.size w5).drew).trans eT)
  refine hK _ _ (fun _=>by rw[dr.o];exact H7.o) (fun _=>?_)
  clear hK K eT
  refine b_ 9 rfl fun K hK=>?_
  go_simp
  refine callsIn_wide.2 ((VF.o _ H7.o).mono ?_)
  rintro e w8 ⟨rfl,f_⟩
  have H8:=ab (H7.o.tr f_)
  have pt:S w8:=by rw[dr.o];exact H8.o
  refine hK _ _ (fun _=>pt) (fun _=>?_)
  clear hK K f_
  refine b_ 10 rfl fun K hK=>?_
  go_simp
  refine hK _ _ (fun _=>pt) (fun _=>?_)
  clear hK K
  refine b_ 11 rfl fun K hK=>?_
  go_simp
  refine hK _ _ (fun _=>pt) (fun _=>?_)
  clear hK K
  refine b_ 12 rfl fun K hK=>?_
  go_simp
  refine hK _ _ (fun _=>pt) (fun _=>?_)
  clear hK K
  refine b_ 13 rfl fun K hK=>?_
  exact pm86):G:=h
theorem pm148(h:G:=by
 have j5:j<ps.length:=by rw[<-vR.o];omega
 rw[show (((j+1:Nat):Int) - 1)=(j:Int) by omega]
 rw[Ev j5,xO]at ht
 obtain ⟨b,off,rfl,g0,g1⟩:=HP.o.get j5
 obtain ⟨⟨p1,p2⟩,WJ⟩:∃x,ps[j]=x:=⟨_,rfl⟩
 rw[WJ]at ht g0 g1
 simp only at ht g0 g1
 first
 |clear pp148
  have az:=bZ.o.trans (cQ.mono (by omega))
  have f0:=fun x:Later wr=>x.get (aa az g0)
  have f1:=fun x:Later wr=>x.get (aa az g1)
  have f2:=fun x:Later wr=>x.get (aa cQ (ai HX.o 1))
  have f3:=fun x:Later wr=>x.get (aa cQ (ai HY.o 1))
  have hjj:(j:Int)<(p0:Int):=by omega
  obtain ⟨kF,bW⟩:=aS cQ az
  clear cQ az g0 g1 WJ
  by_cases ha:p1=xn <;> by_cases hb:p2=yn
  ·subst ha;subst hb
   have pp189:=();exact pm189
  ·subst ha
   have pp184:=();exact pm184
  ·subst hb
   have pp185:=();exact pm185
  ·have gu:(p1 == xn)=false:=by simpa using ha
   have pp247:=();exact pm247
 |have az:=bZ.o.trans (cQ.mono bZ.o.size)
  obtain ⟨f0,f1⟩:=wN az g0 g1
  have x1:wr.cell? ⟨w.heap.size,1,none⟩=some (.string ⟨xn.toArray⟩):=aa cQ (ai HX.o 1)
  have y1:wr.cell? ⟨w.heap.size+1,1,none⟩=some (.string ⟨yn.toArray⟩):=aa cQ (ai HY.o 1)
  have hjj:(j:Int)<(p0:Int):=by omega
  obtain ⟨kF,bW⟩:=aS cQ az
  have CX:w.heap.size<wr.heap.size:=jK x1
  have pT:w.heap.size+1<wr.heap.size:=jK y1
  have Iw:b<wr.heap.size:=jK f0
  clear cQ az g0 g1 WJ
  by_cases ha:p1=xn <;> by_cases hb:p2=yn
  ·subst ha;subst hb
   exact pm189
  ·subst ha
   exact pm184
  ·subst hb
   exact pm185
  ·have gu:(p1 == xn)=false:=by simpa using ha
   exact pm247):G:=h
theorem pm149(h:G:=by
 go_wp2_with (go_at_call 191;refine (CP.o _).mono ?_;rintro e w' ⟨rfl,rfl⟩)
 go_ret
 exact ⟨rfl,Below.refl _ _⟩):G:=h
theorem pm150(h:G:=by
 have ht:a.take m0=a:=by rw[fN.o];exact List.take_length
 rw[ht]at hj
 have HH:=aF hj aZ
 clear hj aZ ht
 first
 |clear pp150
  gi_wp2
  go_ret
  exact ⟨rfl,HH.o.1,HH.o.2⟩
 |go_wp2
  go_ret
  exact ⟨rfl,HH.o.1,HH.o.2⟩):G:=h
theorem pm151(h:G:=by
 rw[hp]
 have CP:=ab (fun w=>l8 r w hn)
 have hr:r.length<=1000000000:=by simp at hn;omega
 have hx:=ir 63 r
 simp at hs hx
 have h1:((1:Int)<=((63 :: r).length:Int)):=by simp;omega
 have pT:((r.length:Int)+1)<=16:=by simp at hl;omega
 clear h hp
 first
 |clear pp151
  go_enter Tryz.func185,Tryz.ntmps185
  go_wp2_with (first | (go_at_call 191;refine (CP.o _).mono ?_;rintro e w' ⟨rfl,rfl⟩) | (go_at_call 120;refine (l7 r _ hr).mono ?_;rintro e w' ⟨rfl,hb⟩))
  go_ret
  exact ⟨rfl,hb⟩
 |go_enter Tryz.func186,Tryz.ntmps186
  go_wp2_with (first | (go_at_call 191;refine (CP.o _).mono ?_;rintro e w' ⟨rfl,rfl⟩) | (go_at_call 121;refine (kB r _ hr).mono ?_;rintro e w' ⟨rfl,hb⟩))
  go_ret
  exact ⟨rfl,hb⟩):G:=h
theorem pm152(h:G:=by
 obtain ⟨b,off,u,rfl,_,hu,c0,c1,c2,c3⟩:=fg.o.get da
 obtain ⟨d0,d1,d2,d3⟩:=lg az c0 c1 c2 c3
 first
 |clear pp152a
  obtain ⟨uo,un,ua,ul,uc,ub,um,ue⟩:=u
  obtain ⟨W2,aY⟩:=ao (wr.alloc (.cells #[.int .u8 uo,.string un,.slice ua ul uc,.slice ub um ue] 36))
  have bA:=cB aY
  have vY:=bN aY
  have u0:W2.cell? ⟨wr.heap.size,0,none⟩=some (.int .u8 uo):=ai vY 0
  have u1:W2.cell? ⟨wr.heap.size,1,none⟩=some (.string un):=ai vY 1
  have u2:W2.cell? ⟨wr.heap.size,2,none⟩=some (.slice ua ul uc):=ai vY 2
  have u3:W2.cell? ⟨wr.heap.size,3,none⟩=some (.slice ub um ue):=ai vY 3
  have fS:=hF.later bA (fun r=>r.below bA)
  obtain ⟨P0,P1,P2,P3,P4,P5,P6,P7,P8⟩:=gA (fS.other (by omega) Mm.o)
  first
  |clear pp65
   have CC:=eM.o s[k] (List.getElem_mem da) (wU.o.mem (List.getElem_mem da)) (L) (ins) (by have:=GP.o.2.1 s[k] (List.getElem_mem da);omega) GP.o.1 (vL) ok W2 ⟨uo,un,ua,ul,uc,ub,um,ue⟩ (GM.o.later (az.tr bA)) ⟨(GR.o.1.kp hF.kp (fun b hb h=>(GR.o.2 b hb).1 h)).later bA,fun b hb=>by have:=(GR.o.2 b hb).2;have:=hF.size;have:=bA.size;omega⟩ ((hu.later az).later bA)
   simp only[PlQ.cells,PlQ.val,FQ.val]at CC P0 P1 P2 P3 P4 P5 P6 P7 P8
   have fB:=nH (c:=ps.reverse) (ins:=ins) da
   rw[xS]at fB
   have fP:=fun (h:fD ps.reverse ins s[k]=none)=>xV (c:=ps.reverse) (ins:=ins) (List.getElem_mem da) h
   obtain ⟨U,hU⟩:=ao (fD ps.reverse ins s[k])
   rw[<-hU]at CC fB fP
   have ll:=ab CC
   have rO:=aF fB z_
   have GN:=ab fP
   obtain ⟨qs,dZ,aC,fR⟩:=fS.row
   rw[z_]at dZ aC
   have xU:=bx dZ aC fR
   have eq:=ab fS
   have bW:=aF az bA
   rw[aY]at ll u0 u1 u2 u3 P0 P1 P2 P3 P4 P5 P6 P7 P8
   have eN:=ab aY
   clear hu c0 c1 c2 c3 vY hF fS dZ aC fR CC fB fP hU xS z_ az bA aY
   cases U with
   | none=>
    exact pm40
   | some u'=>
    go_wp2_with (first | (go_at_call 91;refine ll.o.mono ?_;rintro e w4 ⟨⟨⟨po,pn,pa,pl,pc,pb,pm,pe⟩,rfl,hp⟩,aN⟩;simp only[Option.isSome]at hp ⊢;rw[<-eN.o]at aN hp;have a_:Below w4.heap.size w4 (w4.alloc (.cells #[.int .u8 po,.string pn,.slice pa pl pc,.slice pb pm pe] 36)):=ct;have qO:=eq.o.later (aN.tr a_) (fun r=>r.below (aN.tr a_));have r2:(w4.alloc (.cells #[.int .u8 po,.string pn,.slice pa pl pc,.slice pb pm pe] 36)).cell? ⟨w.heap.size+1+1+1,3,none⟩=some (.slice ra k rc):=(qO.cell 3).trans rfl;have HF5:=ab qO;have GO:=aF ((hp u' rfl).later a_) (aN.tr a_);have HO:=ab (ba xU.o.2.1 (fun b _ hlt=>(aN.tr a_).block b hlt));have nS:((w4.alloc (.cells #[.int .u8 po,.string pn,.slice pa pl pc,.slice pb pm pe] 36)).alloc (.cells #[.int .u8 po,.string pn,.slice pa pl pc,.slice pb pm pe] 36)).heap.size=w4.heap.size+2:=(by simp);have GH:=qO.size;simp only[World.size_alloc]at GH;clear hp aN a_ qO) | (at_builtin;refine wpList_append_lies _ rfl _ _ 34 rfl wq.heap.size 36 ID (.agg #[.int .u8 0,.string ByteArray.empty,.slice none 0 0,.slice none 0 0]) 4 72 Tryz.underlying34 hj kN zR Q7 rfl (by decide) (.slice ra k rc) k _ rfl (HO.o.alloc _) ⟨w4.heap.size+1,0,none⟩ 1 1 [.int .u8 po,.string pn,.slice pa pl pc,.slice pb pm pe] rfl rfl (cK (cs:=#[.int .u8 po,.string pn,.slice pa pl pc,.slice pb pm pe]) (t:=36) (fr:=(0,0)) (aj (by simp))) (by simp[Value.oneCell']) (by decide) (by unfold maxLen;omega) (by omega) (by simp;omega) (w4.heap.size+2) nS ?_;intro g et w6 aR aq hg dS;have h4:=eq.o.at4 (kk:=3) xU.o.2.1 GO.o.2 aq;have d3:=h4.2.2;have z3:=h4.2.1;have HG:=ce aR aq hg dS;clear aR aq hg dS h4))
    exact pm96
  |have CC:=eM.o s[k] (List.getElem_mem da) (wU.o.mem (List.getElem_mem da)) (L ++ [n]) ((n :: ins)) (by have:=GP.o.2.1 s[k] (List.getElem_mem da);simp;omega) WS.o (.slice (some ⟨g,0,none⟩) (l0+1) cap) ok W2 ⟨uo,un,ua,ul,uc,ub,um,ue⟩ (GM.o.later (az.tr bA)) ⟨(GR.o.1.kp hF.kp (fun b hb h=>(GR.o.2 b hb).1 h)).later bA,fun b hb=>by have:=(GR.o.2 b hb).2;have:=hF.size;have:=bA.size;omega⟩ ((hu.later az).later bA)
   simp only[PlQ.cells,PlQ.val,FQ.val]at CC P0 P1 P2 P3 P4 P5 P6 P7 P8
   have fB:=nH (c:=ps.reverse) (ins:=(n :: ins)) da
   rw[xS]at fB
   have fP:=fun (h:fD ps.reverse (n :: ins) s[k]=none)=>xV (c:=ps.reverse) (ins:=(n :: ins)) (List.getElem_mem da) h
   obtain ⟨U,hU⟩:=ao (fD ps.reverse (n :: ins) s[k])
   rw[<-hU]at CC fB fP
   have ll:=ab CC
   have rO:=aF fB z_
   have GN:=ab fP
   obtain ⟨qs,dZ,aC,fR⟩:=fS.row
   rw[z_]at dZ aC
   have xU:=bx dZ aC fR
   have eq:=ab fS
   have bW:=aF az bA
   rw[aY]at ll u0 u1 u2 u3 P0 P1 P2 P3 P4 P5 P6 P7 P8
   have eN:=ab aY
   clear hu c0 c1 c2 c3 vY hF fS dZ aC fR CC fB fP hU xS z_ az bA aY
   cases U with
   | none=>
    exact pm40
   | some u'=>
    go_wp2_with (first | (go_at_call 91;refine ll.o.mono ?_;rintro e w4 ⟨⟨⟨po,pn,pa,pl,pc,pb,pm,pe⟩,rfl,hp⟩,aN⟩;simp only[Option.isSome]at hp ⊢;rw[<-eN.o]at aN hp;have a_:Below w4.heap.size w4 (w4.alloc (.cells #[.int .u8 po,.string pn,.slice pa pl pc,.slice pb pm pe] 36)):=ct;have qO:=eq.o.later (aN.tr a_) (fun r=>r.below (aN.tr a_));have r2:(w4.alloc (.cells #[.int .u8 po,.string pn,.slice pa pl pc,.slice pb pm pe] 36)).cell? ⟨w.heap.size+1+1+1,3,none⟩=some (.slice ra k rc):=(qO.cell 3).trans rfl;have HF5:=ab qO;have GO:=aF ((hp u' rfl).later a_) (aN.tr a_);have HO:=ab (ba xU.o.2.1 (fun b _ hlt=>(aN.tr a_).block b hlt));have nS:((w4.alloc (.cells #[.int .u8 po,.string pn,.slice pa pl pc,.slice pb pm pe] 36)).alloc (.cells #[.int .u8 po,.string pn,.slice pa pl pc,.slice pb pm pe] 36)).heap.size=w4.heap.size+2:=(by simp);have GH:=qO.size;simp only[World.size_alloc]at GH;clear hp aN a_ qO) | (at_builtin;refine wpList_append_lies _ rfl _ _ 34 rfl X5.heap.size 36 ID (.agg #[.int .u8 0,.string ByteArray.empty,.slice none 0 0,.slice none 0 0]) 4 72 Tryz.underlying34 hj kN zR Q7 rfl (by decide) (.slice ra k rc) k _ rfl (HO.o.alloc _) ⟨w4.heap.size+1,0,none⟩ 1 1 [.int .u8 po,.string pn,.slice pa pl pc,.slice pb pm pe] rfl rfl (cK (cs:=#[.int .u8 po,.string pn,.slice pa pl pc,.slice pb pm pe]) (t:=36) (fr:=(0,0)) (aj (by simp))) (by simp[Value.oneCell']) (by decide) (by unfold maxLen;omega) (by omega) (by simp;omega) (w4.heap.size+2) nS ?_;intro g et w6 aR aq hg dS;have h4:=eq.o.at4 (kk:=3) xU.o.2.1 GO.o.2 aq;have d3:=h4.2.2;have z3:=h4.2.1;have HG:=ce aR aq hg dS;clear aR aq hg dS h4))
    exact pm96
 |clear pp152b
  have cA:((s.map bm).take k).length=k:=by rw[List.length_take];have:=fN.o;simp;omega
  obtain ⟨ra,rc,rfl⟩:=hF.row.slice
  rw[cA]at hF
  have HU:=ab (hu.later az)
  have pp46:=();exact pm46
 |clear pp152c
  have cA:((s.map (ep kk nx z)).take k).length=k:=by rw[List.length_take];have:=fN.o;simp;omega
  obtain ⟨ra,rc,rfl⟩:=hF.row.slice
  rw[cA]at hF
  have HU:=ab (hu.later az)
  have pp110:=();exact pm110
 |have cA:((ss.map (cz kd c)).take k).length=k:=by rw[List.length_take];have:=Cq.o;simp;omega
  obtain ⟨ra,rc,rfl⟩:=hF.row.slice
  rw[cA]at hF
  have HU:=ab (hu.later az)
  exact pm46):G:=h
theorem pm153(h:G:=by
 obtain ⟨b,off,u,rfl,_,hu,c0,c1,c2⟩:=HL.o.get bc
 have hf:=HF.o.mem (List.getElem_mem bc)
 have nD:=eM.o l[k] (List.getElem_mem bc)
 first
 |clear pp153a
  rw[Er bc]at ht
  obtain ⟨⟨xv,xn,xa⟩,hx⟩:∃y,l[k]=y:=⟨_,rfl⟩
  rw[hx]at hu hf nD ht
  obtain ⟨s1,h2,ej⟩:=aP.1 hu
  obtain ⟨uv,un,ua,ul,uc⟩:=u
  have pp111b:=();exact pm111
 |clear pp153b
  have gW:=wg x bc
  have hb1:=oP x (l.take (k+1))
  have bA:=ii l (k+1)
  obtain ⟨⟨xv,xn,xa⟩,hx⟩:∃x,l[k]=x:=⟨_,rfl⟩
  rw[hx]at hu hf nD gW
  obtain ⟨s1,h1,ej⟩:=aP.1 hu
  obtain ⟨uv,un,ua,ul,uc⟩:=u
  simp only[TQ.val,Value.agg.injEq,Array.mk.injEq,List.cons.injEq,and_true,Value.bool.injEq,Value.string.injEq]at h1
  obtain ⟨rfl,rfl,rfl⟩:=h1
  obtain ⟨d0,d1,d2⟩:=iM az c0 c1 c2
  have CC:=ab (fun (W:World) (hb:Below wr.heap.size wr W)=>nD ok W ua ul uc hf.args ((ej.later az).later hb))
  have HB:=ab az
  obtain ⟨N,hN⟩:=ao (eW x (l.take k))
  obtain ⟨M,hM⟩:=ao (eW x xa)
  have TF:eW x (l.take (k+1))=N+((if uv && xn == x then 1 else 0)+M):=by rw[gW,hN,hM];rfl
  simp only[Tm.a]at CC
  rw[<-hN]
  rw[<-hM]at CC
  rw[TF]at hb1
  have HS:=ab TF
  clear hu nD hf hx ej az gW hN hM TF c0 c1 c2
  have HW:=ab (show Below wr.heap.size wr (wr.alloc (.cells #[.bool uv,.string ⟨xn.toArray⟩,.slice ua ul uc] 43)) from ct)
  have e2:(wr.alloc (.cells #[.bool uv,.string ⟨xn.toArray⟩,.slice ua ul uc] 43)).cell? ⟨wr.heap.size,2,none⟩=some (.slice ua ul uc):=ai (aj rfl) 2
  cases uv with
  | false=>
   simp only[Bool.false_and,Bool.false_eq_true,if_false]at hb1
   have pp139a:=();exact pm139
  | true=>
   by_cases hn:xn=x
   ·subst hn
    simp only[Bool.true_and,beq_self_eq_true,if_true]at hb1
    have pp139b:=();exact pm139
   ·have dT:(xn == x)=false:=by simpa using hn
    rw[dT]at hb1
    simp only[Bool.and_false,Bool.false_eq_true,if_false]at hb1
    exact pm139
 |have Sk:l.drop k=l[k] :: l.drop (k+1):=List.drop_eq_getElem_cons bc
  rw[Sk]at hcut
  obtain ⟨⟨xv,xn,xa⟩,hx⟩:∃x,l[k]=x:=⟨_,rfl⟩
  rw[hx]at hu hf nD hcut
  obtain ⟨s1,h2,ej⟩:=aP.1 hu
  obtain ⟨uv,un,ua,ul,uc⟩:=u
  have pp111c:=();exact pm111):G:=h
theorem pm154(h:G:=by
 obtain ⟨k,hk,rfl,row,hF⟩:=hrel
 have az:=hF.below dG.o (Nat.le_add_right _ 2)
 by_cases hlt:k<k0
 first
 |clear pp154a
  ·have da:=bR cY.o hlt
   have pp66c:=();exact pm66
  first
  |clear pp0a
   ·obtain rfl:k=k0:=by omega
    have pp207:=();exact pm207
  |clear pp0b
   ·obtain rfl:k=k0:=by omega
    exact pm207
  |·obtain rfl:k=k0:=by omega
    have cA:((a.map aK).take k).length=k:=by rw[List.length_take];have:=cY.o;simp;omega
    have jc:(a.map aK).take k=(a.map aK):=List.take_of_length_le (by have:=cY.o;simp;omega)
    obtain ⟨ra,rc,rfl⟩:=hF.row.slice
    rw[cA]at hF
    have HR:=ab (jc ▸ hF.row)
    have x2:=hF.box
    have x1:=hF.other (by omega) iB.o
    obtain ⟨c0,c1,c2⟩:=lE x2
    obtain ⟨e0,e1,e2⟩:=lE x1
    have z0:=ae x1 0
    have z1:=ae x1 1
    have z2:=ae x1 2
    obtain ⟨li,bW⟩:=aS x1 az
    clear jc cA hF x1 x2 az
    gi_wp2
    have x6:=oy (v0:=.bool true) (v1:=.string ⟨r.toArray⟩) (v2:=.slice ra k rc) li.o
    have k6:=d8 (W:=wr) (b:=w.heap.size+1) (v0:=.bool true) (v1:=.string ⟨r.toArray⟩) (v2:=.slice ra k rc)
    obtain ⟨W6,cM⟩:=ao (((wr.setCell ⟨w.heap.size+1,0,none⟩ (.bool true)).setCell ⟨w.heap.size+1,1,none⟩ (.string ⟨r.toArray⟩)).setCell ⟨w.heap.size+1,2,none⟩ (.slice ra k rc))
    rw[<-cM]at x6 k6 ⊢
    clear cM
    have g0:W6.cell? ⟨w.heap.size+1,0,none⟩=some (.bool true):=ai x6 0
    have g1:W6.cell? ⟨w.heap.size+1,1,none⟩=some (.string ⟨r.toArray⟩):=ai x6 1
    have g2:W6.cell? ⟨w.heap.size+1,2,none⟩=some (.slice ra k rc):=ai x6 2
    have hz:=(bl iB.o)
    have h6:TermV (w.heap.size<=·) W6 (TQ.val ⟨true,⟨r.toArray⟩,ra,k,rc⟩) (.mk true r (a.map aK)):=(HR.o.kp1 k6 (by omega)).term dG.o.size
    refine bodyPost_ret (v:=TQ.val ⟨true,⟨r.toArray⟩,ra,k,rc⟩) (by simp[TQ.val,results,Tryz.results69,go_sem,g0,g1,g2]) rfl (⟨⟨true,⟨r.toArray⟩,ra,k,rc⟩,rfl,h6,Below.kp1 bW.o k6 (by omega)⟩)
 |clear pp154b
  ·have da:=bR cY.o hlt
   have pp66h:=();exact pm66
  ·obtain rfl:k=k0:=by omega
   have cA:(a.take k).length=k:=by rw[List.length_take,<-cY.o];omega
   have jc:a.take k=a:=by rw[cY.o];exact List.take_length
   have pp21a:=();exact pm21
 |clear pp154c
  ·have da:=bR cY.o hlt
   have pp66j:=();exact pm66
  ·obtain rfl:k=k0:=by omega
   exact pm192
 |·have da:=bR cY.o hlt
   have pp66k:=();exact pm66
  ·obtain rfl:k=k0:=by omega
   exact pm174):G:=h
theorem pm155(h:G:=by
 go_upto_region 1 with fail
 rw[<-lI.o]
 go_upto_region 2 with (go_at_call 119;refine qP.o.mono ?_;rintro e w3 ⟨rfl,aJ⟩;have H3:=ab aJ;clear aJ)
 have kh:=(FZ.o.later H1.o.2.2).later H3.o
 have x3:=bC H3.o H1.o.2.1
 first
 |clear pp155
  obtain ⟨⟨z0,z1,z2,z3,z4⟩,hz,EW,IZ,_,_,yx⟩:=kh.termOf (x:=n) lj
  simp only[TQ.val]at yx
  have bc:=kh.ts.lt
  have pp42a:=();exact pm42
 |obtain ⟨⟨z0,z1,z2,z3,z4⟩,hz,EW,IZ,Na,_,yx⟩:=kh.termOf (x:=n) lj
  simp only[TQ.val]at yx
  have bc:=kh.ts.lt
  have pp42b:=();exact pm42):G:=h
theorem pm156(h:G:=by
 obtain ⟨S,hS⟩:∃S:World->Prop,S=fun V=>Below W2.heap.size W2 V:=⟨_,rfl⟩
 first
 |clear pp156a
  have pp:∀ V,S V->V.cell? ⟨w.heap.size,2,none⟩=some (.slice (some ⟨b1,o1,none⟩) ql qc)/\V.cell? ⟨b1,o1+0 * 3+1,none⟩=some (.string ⟨x.toArray⟩)/\V.cell? ⟨b1,o1+1 * 3+1,none⟩=some (.string ⟨y.toArray⟩):=fun V h=>by rw[hS]at h;exact ⟨aa h (ai x2 2),aa h (aa bA c1),aa h (aa bA d1)⟩
  have dB:S W2.drew:=by rw[hS];exact (Below.refl _ _).drew
  obtain ⟨HB,eN⟩:=aS bA aY
  have jb:∀ f,Fence.wide.fn f:=fun _=>trivial
  have hq1:(1:Int)<(ql:Int):=by omega
  have hqn:¬ql=0:=by omega
  have Gm:(0:Int)<(ql:Int):=by omega
  clear hq ib lu hu hz c0 c1 c2 d0 d1 d2 hx cq pT hI bA x2 hS aY hok hql
  unfold FQ.val
  go_enter Tryz.func96,Tryz.ntmps96
  go_wp2
  rw[<-eN.o]
  refine (wpIn_wide (n:=3)).1 ?_
  refine br S 13 (by kernel_rfl) dB (fun jr dt=>?_)
  refine bS 0 4 (.pointer (some ⟨w.heap.size,2,none⟩)) rfl dt fun eC=>?_
  simp only[ak]
  refine dc 1 5 (.slice (some ⟨b1,o1,none⟩) ql qc) rfl (fun V hX=>by obtain ⟨h0,h1,h2⟩:=pp V hX;go_simp) eC fun eX=>?_
  simp only[ak]
  refine bS 2 6 (.pointer (some ⟨b1,o1+0 * 3,none⟩)) rfl eX fun fM=>?_
  simp only[ak]
  refine bS 3 7 (.pointer (some ⟨b1,o1+0 * 3+1,none⟩)) rfl fM fun gE=>?_
  simp only[ak]
  refine dc 4 8 (.string ⟨x.toArray⟩) rfl (fun V hX=>by obtain ⟨h0,h1,h2⟩:=pp V hX;go_simp) gE fun iu=>?_
  simp only[ak]
  refine bS 6 10 (.pointer (some ⟨w.heap.size,2,none⟩)) rfl iu fun iP=>?_
  simp only[ak]
  refine dc 7 11 (.slice (some ⟨b1,o1,none⟩) ql qc) rfl (fun V hX=>by obtain ⟨h0,h1,h2⟩:=pp V hX;go_simp) iP fun kV=>?_
  simp only[ak]
  refine bS 8 12 (.pointer (some ⟨b1,o1+1 * 3,none⟩)) rfl kV fun pt=>?_
  simp only[ak]
  refine bS 9 13 (.pointer (some ⟨b1,o1+1 * 3+1,none⟩)) rfl pt fun EJ=>?_
  simp only[ak]
  refine dc 10 14 (.string ⟨y.toArray⟩) rfl (fun V hX=>by obtain ⟨h0,h1,h2⟩:=pp V hX;go_simp) EJ fun wd=>?_
  simp only[ak]
  refine b_ 5 rfl fun K hK=>?_
  go_simp
  refine callsIn_wide.2 ((ew x W2.drew BV).mono ?_)
  rintro e w6 ⟨rfl,rfl⟩
  refine hK _ _ (fun _=>dB) (fun _=>?_)
  clear hK K
  refine b_ 11 rfl fun K hK=>?_
  go_simp
  refine hK _ _ (fun _=>dB) (fun _=>?_)
  clear hK K
  refine b_ 12 rfl fun K hK=>?_
  go_simp
  refine hK _ _ (fun _=>dB) (fun _=>?_)
  clear hK K
  refine cO (by kernel_rfl) ?_ _
  go_wp2
  refine bodyPost_ret (v:=.tuple #[.string ⟨(cH x).toArray⟩,.string ⟨y.toArray⟩]) (by simp[results,Tryz.results96,go_sem]) rfl ⟨rfl,HB.o.drew⟩
 |clear pp156b
  first
  |clear pp56a
   have f0:∀ V,S V->V.cell? ⟨w.heap.size+1+1,2,none⟩=some (.slice ra k rc):=fun V h=>by rw[hS]at h;exact aa h (fS.cell 2)
   have f1:∀ V,S V->V.cell? ⟨wr.heap.size,0,none⟩=some (.bool u.v)/\V.cell? ⟨wr.heap.size,1,none⟩=some (.string u.n)/\V.cell? ⟨wr.heap.size,2,none⟩=some (.slice u.a u.l u.c):=fun V h=>by rw[hS]at h;exact ⟨aa h (ai xb 0),aa h (ai xb 1),aa h (ai xb 2)⟩
   have dB:S W2.drew:=by rw[hS];exact (Below.refl _ _).drew
   obtain ⟨dr,bZ,eq⟩:=cf hS fG fS
   first
   |clear pp10a
    clear hS fG fS xb
    refine br S 5 (by kernel_rfl) dB (fun jr dt=>?_)
    refine bS 0 18 (.pointer (some ⟨w.heap.size+1+1,2,none⟩)) rfl dt fun eC=>?_
    simp only[ak]
    refine dc 1 19 (.slice ra k rc) rfl (fun V hX=>by have g0:=f0 V hX;go_simp) eC fun eX=>?_
    simp only[ak]
    refine dc 2 20 (.agg #[.bool u.v,.string u.n,.slice u.a u.l u.c]) rfl (fun V hX=>by obtain ⟨g0,g1,g2⟩:=f1 V hX;go_simp) eX fun fM=>?_
    simp only[ak]
    refine b_ 3 rfl fun K hK=>?_
    go_simp
    refine callsIn_wide.2 ((eM.o a[k] (List.getElem_mem da) (mW.o.mem (List.getElem_mem da)) _ W2.drew u (HU.o.later (bZ.o.drew))).mono ?_)
    rintro _ A ⟨p,rfl,hp,hA⟩
    have bY:Below W2.heap.size W2 A:=((Below.refl W2.heap.size W2).drew).trans hA
    refine hK _ _ (fun _=>by rw[dr.o];exact bY) (fun _=>?_)
    clear hK K
    refine b_ 4 rfl fun K hK=>?_
    simp only[TQ.val]
    go_simp
    refine hK _ _ (fun _=>by rw[dr.o];exact bY.trans (((Below.refl _ A).alloc (Nat.le_refl _) _).mono bY.size)) (fun _=>?_)
    clear hK K
    obtain ⟨qs,dZ,aC,fR⟩:=eq.o.row
    rw[dH.o]at dZ aC
    have mX:=bY.size
    have qw:=eq.o.size
    refine b_ 5 rfl fun K hK=>?_
    refine bq (.tmp 19) (.tmp 22) 33 rfl W1.heap.size 43 i0 (.agg #[.bool false,.string ByteArray.empty,.slice none 0 0]) 3 48 Tryz.underlying33 hi rq jS hO rfl (by decide) (.slice ra k rc) k _ rfl ((ba aC (fun b _ hlt=>bY.block b hlt)).alloc _) ⟨_,0,none⟩ 1 1 p.cells rfl rfl (cK (cs:=#[.bool p.v,.string p.n,.slice p.a p.l p.c]) (t:=43) (fr:=(0,0)) (World.alloc_heap_new A _)) (by simp[TQ.cells,Value.oneCell']) (by decide) (by unfold maxLen;omega) (by omega) (by simp;omega) (A.heap.size+1) (by simp) ?_
    intro g et w4 aR aq hg dS
    have h4:=eq.o.at4 (kk:=2) aC bY aq
    have cw:=eq.o.stepT (F:=2) (t:=a[k]) (g:=g) (cap:=et) (by rw[dH.o];exact aC) (by rw[dH.o];exact dZ) fR bY (hp:TermV (W2.heap.size<=·) A p.val a[k]) (by rw[dH.o];exact aR) aq hg rfl
    rw[dH.o,List.take_append_getElem da]at cw
    have mY:=ab cw
    have d3:=h4.2.2
    have z3:=h4.2.1
    clear aR aq hg dS cw h4 aC dZ fR hp hA
    refine ee hK ?_
    clear hK K
    refine b_ 6 rfl fun K hK=>?_
    go_simp
    refine ee hK ?_
    clear hK K
    refine b_ 7 rfl fun K hK=>?_
    go_simp
    refine ee hK ?_
    clear hK K
    refine cO (by kernel_rfl) ?_ _
    gi_wp2
    go_roundw
    case rel=>exact ⟨k+1,by omega,by go_num,_,mY.o⟩
    case measure=>simp[intOf];omega
   |clear pp10b
    clear hS fG fS xb
    refine br S 6 (by kernel_rfl) dB (fun jr dt=>?_)
    refine bS 0 34 (.pointer (some ⟨w.heap.size+1+1,2,none⟩)) rfl dt fun eC=>?_
    simp only[ak]
    refine dc 1 35 (.slice ra k rc) rfl (fun V hX=>by have g0:=f0 V hX;go_simp) eC fun eX=>?_
    simp only[ak]
    refine dc 2 36 (.agg #[.bool u.v,.string u.n,.slice u.a u.l u.c]) rfl (fun V hX=>by obtain ⟨g0,g1,g2⟩:=f1 V hX;go_simp) eX fun fM=>?_
    simp only[ak]
    refine bS 3 37 (.func (.func g) #[] lb) rfl fM fun gE=>?_
    simp only[ak]
    refine b_ 4 rfl fun K hK=>?_
    go_simp
    refine callsIn_wide.2 ((eM.o a[k] (List.getElem_mem da) (mW.o.mem (List.getElem_mem da)) _ W2.drew u (((IT.o.tr bW.o).tr bZ.o).tr (Below.refl _ _).drew) (HU.o.later (bZ.o.drew))).mono ?_)
    rintro _ A ⟨⟨p,rfl,hp⟩,hA⟩
    have bY:Below W2.heap.size W2 A:=((Below.refl W2.heap.size W2).drew).trans hA
    refine hK _ _ (fun _=>by rw[dr.o];exact bY) (fun _=>?_)
    clear hK K
    refine b_ 5 rfl fun K hK=>?_
    simp only[TQ.val]
    go_simp
    refine hK _ _ (fun _=>by rw[dr.o];exact bY.trans (((Below.refl _ A).alloc (Nat.le_refl _) _).mono bY.size)) (fun _=>?_)
    clear hK K
    obtain ⟨qs,dZ,aC,fR⟩:=eq.o.row
    rw[dH.o]at dZ aC
    have mX:=bY.size
    have qw:=eq.o.size
    refine b_ 6 rfl fun K hK=>?_
    refine bq (.tmp 35) (.tmp 39) 33 rfl W1.heap.size 43 nZ (.agg #[.bool false,.string ByteArray.empty,.slice none 0 0]) 3 48 Tryz.underlying33 hi wy tu wT rfl (by decide) (.slice ra k rc) k _ rfl ((ba aC (fun b _ hlt=>bY.block b hlt)).alloc _) ⟨_,0,none⟩ 1 1 p.cells rfl rfl (cK (cs:=#[.bool p.v,.string p.n,.slice p.a p.l p.c]) (t:=43) (fr:=(0,0)) (World.alloc_heap_new A _)) (by simp[TQ.cells,Value.oneCell']) (by decide) (by unfold maxLen;omega) (by omega) (by simp;omega) (A.heap.size+1) (by simp) ?_
    intro g et w4 aR aq hg dS
    have h4:=eq.o.at4 (kk:=2) aC bY aq
    have cw:=eq.o.stepT (F:=2) (t:=(e_ f a[k])) (g:=g) (cap:=et) (by rw[dH.o];exact aC) (by rw[dH.o];exact dZ) fR bY (hp:TermV (W2.heap.size<=·) A p.val (e_ f a[k])) (by rw[dH.o];exact aR) aq hg rfl
    rw[dH.o,cE (e_ f) a da]at cw
    have mY:=ab cw
    have d3:=h4.2.2
    have z3:=h4.2.1
    clear aR aq hg dS cw h4 aC dZ fR hp hA
    refine ee hK ?_
    clear hK K
    refine b_ 7 rfl fun K hK=>?_
    go_simp
    refine ee hK ?_
    clear hK K
    refine b_ 8 rfl fun K hK=>?_
    go_simp
    refine ee hK ?_
    clear hK K
    refine cO (by kernel_rfl) ?_ _
    gi_wp2
    go_roundw
    case rel=>exact ⟨k+1,by omega,by go_num,_,mY.o⟩
    case measure=>simp[intOf];omega
   |clear pp10c
    clear hS fG fS xb
    refine br S 7 (by kernel_rfl) dB (fun jr dt=>?_)
    refine bS 0 51 (.pointer (some ⟨w.heap.size+1+1,2,none⟩)) rfl dt fun eC=>?_
    simp only[ak]
    refine dc 1 52 (.slice ra k rc) rfl (fun V hX=>by have g0:=f0 V hX;go_simp) eC fun eX=>?_
    simp only[ak]
    refine bS 2 53 (.pointer (some ⟨kb,0,none⟩)) rfl eX fun fM=>?_
    simp only[ak]
    refine dc 3 54 (.agg #[.bool u.v,.string u.n,.slice u.a u.l u.c]) rfl (fun V hX=>by obtain ⟨g0,g1,g2⟩:=f1 V hX;go_simp) fM fun gE=>?_
    simp only[ak]
    refine bS 4 55 vL rfl gE fun iu=>?_
    simp only[ak]
    refine b_ 5 rfl fun K hK=>?_
    go_simp
    refine callsIn_wide.2 ((eM.o a[k] (List.getElem_mem da) (mW.o.mem (List.getElem_mem da)) _ W2.drew u (((IT.o.tr bW.o).tr bZ.o).tr (Below.refl _ _).drew) (HU.o.later (bZ.o.drew))).mono ?_)
    rintro _ A ⟨⟨p,rfl,hp⟩,hA⟩
    have bY:Below W2.heap.size W2 A:=((Below.refl W2.heap.size W2).drew).trans hA
    refine hK _ _ (fun _=>by rw[dr.o];exact bY) (fun _=>?_)
    clear hK K
    refine b_ 6 rfl fun K hK=>?_
    simp only[TQ.val]
    go_simp
    refine hK _ _ (fun _=>by rw[dr.o];exact bY.trans (((Below.refl _ A).alloc (Nat.le_refl _) _).mono bY.size)) (fun _=>?_)
    clear hK K
    obtain ⟨qs,dZ,aC,fR⟩:=eq.o.row
    rw[dH.o]at dZ aC
    have mX:=bY.size
    have qw:=eq.o.size
    refine b_ 7 rfl fun K hK=>?_
    refine bq (.tmp 52) (.tmp 57) 33 rfl W1.heap.size 43 nZ (.agg #[.bool false,.string ByteArray.empty,.slice none 0 0]) 3 48 Tryz.underlying33 hi wy tu wT rfl (by decide) (.slice ra k rc) k _ rfl ((ba aC (fun b _ hlt=>bY.block b hlt)).alloc _) ⟨_,0,none⟩ 1 1 p.cells rfl rfl (cK (cs:=#[.bool p.v,.string p.n,.slice p.a p.l p.c]) (t:=43) (fr:=(0,0)) (World.alloc_heap_new A _)) (by simp[TQ.cells,Value.oneCell']) (by decide) (by unfold maxLen;omega) (by omega) (by simp;omega) (A.heap.size+1) (by simp) ?_
    intro g et w4 aR aq hg dS
    have h4:=eq.o.at4 (kk:=2) aC bY aq
    have cw:=eq.o.stepT (F:=2) (t:=(cC kd.ts sc a[k])) (g:=g) (cap:=et) (by rw[dH.o];exact aC) (by rw[dH.o];exact dZ) fR bY (hp:TermV (W2.heap.size<=·) A p.val (cC kd.ts sc a[k])) (by rw[dH.o];exact aR) aq hg rfl
    rw[dH.o,cE (cC kd.ts sc) a da]at cw
    have mY:=ab cw
    have d3:=h4.2.2
    have z3:=h4.2.1
    clear aR aq hg dS cw h4 aC dZ fR hp hA
    refine ee hK ?_
    clear hK K
    refine b_ 8 rfl fun K hK=>?_
    go_simp
    refine ee hK ?_
    clear hK K
    refine b_ 9 rfl fun K hK=>?_
    go_simp
    refine ee hK ?_
    clear hK K
    refine cO (by kernel_rfl) ?_ _
    gi_wp2
    go_roundw
    case rel=>exact ⟨k+1,by omega,by go_num,_,mY.o⟩
    case measure=>simp[intOf];omega
   |clear hS fG fS xb
    refine br S 5 (by kernel_rfl) dB (fun jr dt=>?_)
    refine bS 0 29 (.pointer (some ⟨w.heap.size+1+1,2,none⟩)) rfl dt fun eC=>?_
    simp only[ak]
    refine dc 1 30 (.slice ra k rc) rfl (fun V hX=>by have g0:=f0 V hX;go_simp) eC fun eX=>?_
    simp only[ak]
    refine dc 2 31 (.agg #[.bool u.v,.string u.n,.slice u.a u.l u.c]) rfl (fun V hX=>by obtain ⟨g0,g1,g2⟩:=f1 V hX;go_simp) eX fun fM=>?_
    simp only[ak]
    refine b_ 3 rfl fun K hK=>?_
    go_simp
    refine callsIn_wide.2 ((eM.o a[k] (List.getElem_mem da) (mW.o.mem (List.getElem_mem da)) _ W2.drew u (HU.o.later (bZ.o.drew))).mono ?_)
    rintro _ A ⟨p,rfl,hp,hA⟩
    have bY:Below W2.heap.size W2 A:=((Below.refl W2.heap.size W2).drew).trans hA
    refine hK _ _ (fun _=>by rw[dr.o];exact bY) (fun _=>?_)
    clear hK K
    refine b_ 4 rfl fun K hK=>?_
    simp only[TQ.val]
    go_simp
    refine hK _ _ (fun _=>by rw[dr.o];exact bY.trans (((Below.refl _ A).alloc (Nat.le_refl _) _).mono bY.size)) (fun _=>?_)
    clear hK K
    obtain ⟨qs,dZ,aC,fR⟩:=eq.o.row
    rw[dH.o]at dZ aC
    have mX:=bY.size
    have qw:=eq.o.size
    refine b_ 5 rfl fun K hK=>?_
    refine bq (.tmp 30) (.tmp 33) 33 rfl W1.heap.size 43 nZ (.agg #[.bool false,.string ByteArray.empty,.slice none 0 0]) 3 48 Tryz.underlying33 hi wy tu wT rfl (by decide) (.slice ra k rc) k _ rfl ((ba aC (fun b _ hlt=>bY.block b hlt)).alloc _) ⟨_,0,none⟩ 1 1 p.cells rfl rfl (cK (cs:=#[.bool p.v,.string p.n,.slice p.a p.l p.c]) (t:=43) (fr:=(0,0)) (World.alloc_heap_new A _)) (by simp[TQ.cells,Value.oneCell']) (by decide) (by unfold maxLen;omega) (by omega) (by simp;omega) (A.heap.size+1) (by simp) ?_
    intro g et w4 aR aq hg dS
    have h4:=eq.o.at4 (kk:=2) aC bY aq
    have cw:=eq.o.stepT (F:=2) (t:=(aK a[k])) (g:=g) (cap:=et) (by rw[dH.o];exact aC) (by rw[dH.o];exact dZ) fR bY (hp:TermV (W2.heap.size<=·) A p.val (aK a[k])) (by rw[dH.o];exact aR) aq hg rfl
    rw[dH.o,cE aK a da]at cw
    have mY:=ab cw
    have d3:=h4.2.2
    have z3:=h4.2.1
    clear aR aq hg dS cw h4 aC dZ fR hp hA
    refine ee hK ?_
    clear hK K
    refine b_ 6 rfl fun K hK=>?_
    go_simp
    refine ee hK ?_
    clear hK K
    refine b_ 7 rfl fun K hK=>?_
    go_simp
    refine ee hK ?_
    clear hK K
    refine cO (by kernel_rfl) ?_ _
    gi_wp2
    go_roundw
    case rel=>exact ⟨k+1,by omega,by go_num,_,mY.o⟩
    case measure=>simp[intOf];omega
  |clear pp56b
   have f0:∀ V,S V->V.cell? ⟨w3.heap.size+1,2,none⟩=some (.slice ra k rc):=fun V h=>by rw[hS]at h;exact aa h (fS.cell 2)
   have f1:∀ V,S V->V.cell? ⟨wr.heap.size,0,none⟩=some (.bool u.v)/\V.cell? ⟨wr.heap.size,1,none⟩=some (.string u.n)/\V.cell? ⟨wr.heap.size,2,none⟩=some (.slice u.a u.l u.c):=fun V h=>by rw[hS]at h;exact ⟨aa h (ai xb 0),aa h (ai xb 1),aa h (ai xb 2)⟩
   have dB:S W2.drew:=by rw[hS];exact (Below.refl _ _).drew
   obtain ⟨dr,bZ,eq⟩:=cf hS fG fS
   clear hS fG fS xb
   refine br S 6 (by kernel_rfl) dB (fun jr dt=>?_)
   refine bS 0 34 (.pointer (some ⟨w3.heap.size+1,2,none⟩)) rfl dt fun eC=>?_
   simp only[ak]
   refine dc 1 35 (.slice ra k rc) rfl (fun V hX=>by have g0:=f0 V hX;go_simp) eC fun eX=>?_
   simp only[ak]
   refine dc 2 36 (.agg #[.bool u.v,.string u.n,.slice u.a u.l u.c]) rfl (fun V hX=>by obtain ⟨g0,g1,g2⟩:=f1 V hX;go_simp) eX fun fM=>?_
   simp only[ak]
   refine bS 3 37 (.func (.func g) #[] lb) rfl fM fun gE=>?_
   simp only[ak]
   refine b_ 4 rfl fun K hK=>?_
   go_simp
   refine callsIn_wide.2 ((eM.o a[k] (List.getElem_mem da) (mW.o.mem (List.getElem_mem da)) _ W2.drew u (((IT.o.tr bW.o).tr bZ.o).tr (Below.refl _ _).drew) (HU.o.later (bZ.o.drew))).mono ?_)
   rintro _ A ⟨⟨p,rfl,hp⟩,hA⟩
   have bY:Below W2.heap.size W2 A:=((Below.refl W2.heap.size W2).drew).trans hA
   refine hK _ _ (fun _=>by rw[dr.o];exact bY) (fun _=>?_)
   clear hK K
   refine b_ 5 rfl fun K hK=>?_
   simp only[TQ.val]
   have pp28d:=();exact pm28
  |clear pp56c
   have f0:∀ V,S V->V.cell? ⟨w.heap.size+1+1,2,none⟩=some (.slice e6 k1 e7):=fun V h=>by rw[hS]at h;exact aa h (fS.cell 2)
   have f1:∀ V,S V->V.cell? ⟨fX.heap.size,0,none⟩=some (.bool u.v)/\V.cell? ⟨fX.heap.size,1,none⟩=some (.string u.n)/\V.cell? ⟨fX.heap.size,2,none⟩=some (.slice u.a u.l u.c):=fun V h=>by rw[hS]at h;exact ⟨aa h (ai xb 0),aa h (ai xb 1),aa h (ai xb 2)⟩
   have dB:S W2.drew:=by rw[hS];exact (Below.refl _ _).drew
   obtain ⟨dr,bZ,eq⟩:=cf hS fG fS
   clear hS fG fS xb
   refine br S 5 (by kernel_rfl) dB (fun jr dt=>?_)
   refine bS 0 20 (.pointer (some ⟨w.heap.size+1+1,2,none⟩)) rfl dt fun eC=>?_
   simp only[ak]
   refine dc 1 21 (.slice e6 k1 e7) rfl (fun V hX=>by have g0:=f0 V hX;go_simp) eC fun eX=>?_
   simp only[ak]
   refine dc 2 22 (.agg #[.bool u.v,.string u.n,.slice u.a u.l u.c]) rfl (fun V hX=>by obtain ⟨g0,g1,g2⟩:=f1 V hX;go_simp) eX fun fM=>?_
   simp only[ak]
   refine b_ 3 rfl fun K hK=>?_
   go_simp
   refine callsIn_wide.2 ((pW a[k1] (DZ.o.mem (List.getElem_mem da)) _ W2.drew u (HU.o.later (bZ.o.drew))).mono ?_)
   rintro _ A ⟨p,rfl,hp,hA⟩
   have bY:Below W2.heap.size W2 A:=((Below.refl W2.heap.size W2).drew).trans hA
   refine hK _ _ (fun _=>by rw[dr.o];exact bY) (fun _=>?_)
   clear hK K
   refine b_ 4 rfl fun K hK=>?_
   simp only[TQ.val]
   have pp28e:=();exact pm28
  |clear pp56d
   have f0:∀ V,S V->V.cell? ⟨w.heap.size+1+1+1,2,none⟩=some (.slice e6 k1 e7):=fun V h=>by rw[hS]at h;exact aa h (fS.cell 2)
   have f1:∀ V,S V->V.cell? ⟨Cd.heap.size,0,none⟩=some (.bool u.v)/\V.cell? ⟨Cd.heap.size,1,none⟩=some (.string u.n)/\V.cell? ⟨Cd.heap.size,2,none⟩=some (.slice u.a u.l u.c):=fun V h=>by rw[hS]at h;exact ⟨aa h (ai xb 0),aa h (ai xb 1),aa h (ai xb 2)⟩
   have xu:=fS.other (by omega) HXU.o
   have fu:∀ V,S V->V.cell? ⟨w.heap.size+1,0,none⟩=some (.bool zv)/\V.cell? ⟨w.heap.size+1,1,none⟩=some (.string zn)/\V.cell? ⟨w.heap.size+1,2,none⟩=some (.slice za zl zc):=fun V h=>by rw[hS]at h;exact ⟨aa h (ai xu 0),aa h (ai xu 1),aa h (ai xu 2)⟩
   clear xu
   have dB:S W2.drew:=by rw[hS];exact (Below.refl _ _).drew
   obtain ⟨dr,bZ,eq⟩:=cf hS fG fS
   clear hS fG fS xb
   refine br S 9 (by kernel_rfl) dB (fun jr dt=>?_)
   refine bS 0 27 (.pointer (some ⟨w.heap.size+1+1+1,2,none⟩)) rfl dt fun eC=>?_
   simp only[ak]
   refine dc 1 28 (.slice e6 k1 e7) rfl (fun V hX=>by have g0:=f0 V hX;go_simp) eC fun eX=>?_
   simp only[ak]
   refine dc 2 29 (.agg #[.bool u.v,.string u.n,.slice u.a u.l u.c]) rfl (fun V hX=>by obtain ⟨g0,g1,g2⟩:=f1 V hX;go_simp) eX fun fM=>?_
   simp only[ak]
   refine bS 3 30 (.string ⟨nx.toArray⟩) rfl fM fun gE=>?_
   simp only[ak]
   refine dc 4 31 (.agg #[.bool zv,.string zn,.slice za zl zc]) rfl (fun V hX=>by obtain ⟨h0,h1,h2⟩:=fu V hX;go_simp) gE fun iu=>?_
   simp only[ak]
   refine bS 5 32 (.agg #[.string ⟨nx.toArray⟩,.bool zv,.string zn,.slice za zl zc]) rfl iu fun iP=>?_
   simp only[ak]
   refine b_ 6 rfl fun K hK=>?_
   go_simp
   refine hK _ _ (fun _=>by rw[dr.o];exact ((Below.refl W2.heap.size W2).drew).alloc (Nat.le_refl _) _) (fun _=>?_)
   clear hK K
   refine b_ 7 rfl fun K hK=>?_
   go_simp
   refine callsIn_wide.2 ((Ex a[k1] (DZ.o.mem (List.getElem_mem da)) nx IX.o z My.o.1 _ _ _ u ⟨zv,zn,za,zl,zc⟩ W2.heap.size 0 1 ((HU.o.later bZ.o.drew).later ct) ((((HZ.o.later bW.o).later bZ.o).later ((Below.refl _ _).drew)).later ct) (ai (aj rfl) 0) (ai (aj rfl) 1) (ai (aj rfl) 2) (ai (aj rfl) 3)).mono ?_)
   rintro _ A ⟨⟨p,rfl,jM⟩,hA⟩
   have hp:TermV (W2.heap.size<=·) A p.val (jQ nx z a[k1]):=jM.move (fun b hok _=>⟨by simp at hok;omega,rfl⟩)
   clear jM
   have bY:Below W2.heap.size W2 A:=(((Below.refl W2.heap.size W2).drew).alloc (Nat.le_refl _) _).trans (hA.mono (by simp))
   refine hK _ _ (fun _=>by rw[dr.o];exact bY) (fun _=>?_)
   clear hK K
   refine b_ 8 rfl fun K hK=>?_
   simp only[TQ.val]
   have pp28g:=();exact pm28
  |clear pp56e
   have f0:∀ V,S V->V.cell? ⟨w.heap.size+1+1,2,none⟩=some (.slice ra k1 rc):=fun V h=>by rw[hS]at h;exact aa h (fS.cell 2)
   have f1:∀ V,S V->V.cell? ⟨Cd.heap.size,0,none⟩=some (.bool u.v)/\V.cell? ⟨Cd.heap.size,1,none⟩=some (.string u.n)/\V.cell? ⟨Cd.heap.size,2,none⟩=some (.slice u.a u.l u.c):=fun V h=>by rw[hS]at h;exact ⟨aa h (ai xb 0),aa h (ai xb 1),aa h (ai xb 2)⟩
   have dB:S W2.drew:=by rw[hS];exact (Below.refl _ _).drew
   obtain ⟨dr,bZ,eq⟩:=cf hS fG fS
   clear hS fG fS xb
   refine br S 7 (by kernel_rfl) dB (fun jr dt=>?_)
   refine bS 0 70 (.pointer (some ⟨w.heap.size+1+1,2,none⟩)) rfl dt fun NU=>?_
   simp only[ak]
   refine dc 1 71 (.slice ra k1 rc) rfl (fun V hX=>by have g0:=f0 V hX;go_simp) NU fun NV=>?_
   simp only[ak]
   refine bS 2 72 (.pointer (some ⟨kb,0,none⟩)) rfl NV fun Hu=>?_
   simp only[ak]
   refine dc 3 73 (.agg #[.bool u.v,.string u.n,.slice u.a u.l u.c]) rfl (fun V hX=>by obtain ⟨g0,g1,g2⟩:=f1 V hX;go_simp) Hu fun NW=>?_
   simp only[ak]
   refine bS 4 74 (vL) rfl NW fun Uu=>?_
   simp only[ak]
   refine b_ 5 rfl fun K hK=>?_
   go_simp
   refine callsIn_wide.2 ((HFT.o a[k1] (YI.o _ (List.getElem_mem da)) _ W2.drew u ((bW.o.tr bZ.o).tr (Below.refl _ _).drew) (HU.o.later (bZ.o.drew))).mono ?_)
   rintro _ A ⟨⟨p,rfl,hp⟩,hA⟩
   have bY:Below W2.heap.size W2 A:=((Below.refl W2.heap.size W2).drew).trans hA
   refine hK _ _ (fun _=>by rw[dr.o];exact bY) (fun _=>?_)
   clear hK K
   refine b_ 6 rfl fun K hK=>?_
   simp only[TQ.val]
   have pp28b:=();exact pm28
  |have f0:∀ V,S V->V.cell? ⟨w3.heap.size,2,none⟩=some (.slice ra k rc):=fun V h=>by rw[hS]at h;exact aa h (fS.cell 2)
   have f1:∀ V,S V->V.cell? ⟨wr.heap.size,0,none⟩=some (.bool u.v)/\V.cell? ⟨wr.heap.size,1,none⟩=some (.string u.n)/\V.cell? ⟨wr.heap.size,2,none⟩=some (.slice u.a u.l u.c):=fun V h=>by rw[hS]at h;exact ⟨aa h (ai xb 0),aa h (ai xb 1),aa h (ai xb 2)⟩
   have dB:S W2.drew:=by rw[hS];exact (Below.refl _ _).drew
   obtain ⟨dr,bZ,eq⟩:=cf hS fG fS
   clear hS fG fS xb
   refine br S 7 (by kernel_rfl) dB (fun jr dt=>?_)
   refine bS 0 51 (.pointer (some ⟨w3.heap.size,2,none⟩)) rfl dt fun eC=>?_
   simp only[ak]
   refine dc 1 52 (.slice ra k rc) rfl (fun V hX=>by have g0:=f0 V hX;go_simp) eC fun eX=>?_
   simp only[ak]
   refine bS 2 53 (.pointer (some ⟨kb,0,none⟩)) rfl eX fun fM=>?_
   simp only[ak]
   refine dc 3 54 (.agg #[.bool u.v,.string u.n,.slice u.a u.l u.c]) rfl (fun V hX=>by obtain ⟨g0,g1,g2⟩:=f1 V hX;go_simp) fM fun gE=>?_
   simp only[ak]
   refine bS 4 55 vL rfl gE fun iu=>?_
   simp only[ak]
   refine b_ 5 rfl fun K hK=>?_
   go_simp
   refine callsIn_wide.2 ((eM.o a[k] (List.getElem_mem da) (mW.o.mem (List.getElem_mem da)) _ W2.drew u (((IT.o.tr bW.o).tr bZ.o).tr (Below.refl _ _).drew) (HU.o.later (bZ.o.drew))).mono ?_)
   rintro _ A ⟨⟨p,rfl,hp⟩,hA⟩
   have bY:Below W2.heap.size W2 A:=((Below.refl W2.heap.size W2).drew).trans hA
   refine hK _ _ (fun _=>by rw[dr.o];exact bY) (fun _=>?_)
   clear hK K
   refine b_ 6 rfl fun K hK=>?_
   simp only[TQ.val]
   have pp28a:=();exact pm28
 |clear pp156c
  have ff:∀ V,S V->V.cell? ⟨kb,0,none⟩=some (.map (some mF))/\V.cell? ⟨w.heap.size+1,1,none⟩=some (.string ⟨n.toArray⟩)/\(Instr.lookup 145 (.map (some mF)) (.string ⟨n.toArray⟩) false).run Tryz.prog V=.ok (.agg #[.int .u8 g0,.string g1,.slice g2 g3 g4,.slice g5 g6 g7]) V:=fun V h=>by
   rw[hS]at h
   exact ⟨aa h (ai H2.o.2.2.box 0),aa h e1,sY V (h.block _ tQ)⟩
  have dB:S W2.drew:=by rw[hS];exact (Below.refl _ _).drew
  first
  |clear pp88
   have HC:=ab (fun (V:World) (h:Below W2.heap.size W2 V)=>jF f su.o.2.1 _ V ⟨g0,g1,g2,g3,g4,g5,g6,g7⟩ (su.o.1.later h))
   simp only[FQ.val,<-hm]at HC
   have dr:=ab hS
   clear hS hm hE sY tQ e0 e1 e2 e3
   go_enter Tryz.func126,Tryz.ntmps126
   go_upto_region 2 with fail
   rw[<-eN.o]
   have e0:=ai H2.o.2.1 0
   go_upto_region 4 with fail
   clear e0
   refine (wpIn_wide (n:=3)).1 ?_
   refine br S 8 (by kernel_rfl) dB (fun jr dt=>?_)
   refine bS 0 19 (.pointer (some ⟨kb,0,none⟩)) rfl dt fun eC=>?_
   simp only[ak]
   refine bS 1 20 (.pointer (some ⟨kb,0,none⟩)) rfl eC fun eX=>?_
   simp only[ak]
   refine bS 2 21 (.pointer (some ⟨kb,0,none⟩)) rfl eX fun fM=>?_
   simp only[ak]
   refine dc 3 22 (.map (some mF)) rfl (fun V hX=>by obtain ⟨h0,h1,h2⟩:=ff V hX;go_simp) fM fun gE=>?_
   simp only[ak]
   refine bS 4 23 (.pointer (some ⟨w.heap.size+1,1,none⟩)) rfl gE fun iu=>?_
   simp only[ak]
   refine dc 5 24 (.string ⟨n.toArray⟩) rfl (fun V hX=>by obtain ⟨h0,h1,h2⟩:=ff V hX;go_simp) iu fun iP=>?_
   simp only[ak]
   refine dc 6 25 (.agg #[.int .u8 g0,.string g1,.slice g2 g3 g4,.slice g5 g6 g7]) rfl (fun V hX=>by obtain ⟨h0,h1,h2⟩:=ff V hX;go_simp) iP fun kV=>?_
   simp only[ak]
   refine b_ 7 rfl fun K hK=>?_
   go_simp
   refine callsIn_wide.2 ((HC.o _ (by have h:=dt;rw[dr.o]at h;exact h)).mono ?_)
   rintro e w7 ⟨rfl,eT⟩
   have H7:=ab (((Below.refl W2.heap.size W2).drew).trans eT)
   refine hK _ _ (fun _=>by rw[dr.o];exact H7.o) (fun _=>?_)
   clear hK K eT
   refine b_ 8 rfl fun K hK=>?_
   have pp86i:=();exact pm86
  |have HC:=ab (fun (V:World) (h:Below W2.heap.size W2 V)=>oK f su.o.2.1 (by have:=su.o.2.2;omega) _ V ⟨g0,g1,g2,g3,g4,g5,g6,g7⟩ (su.o.1.later h))
   simp only[FQ.val,<-hm]at HC
   have dr:=ab hS
   clear hS hm hE sY tQ e0 e1 e2 e3
   go_enter Tryz.func195,Tryz.ntmps195
   go_upto_region 2 with fail
   rw[<-eN.o]
   have e0:=ai H2.o.2.1 0
   go_upto_region 4 with fail
   clear e0
   refine (wpIn_wide (n:=3)).1 ?_
   refine br S 9 (by kernel_rfl) dB (fun jr dt=>?_)
   refine bS 0 18 (.pointer (some ⟨kb,0,none⟩)) rfl dt fun eC=>?_
   simp only[ak]
   refine bS 1 19 (.pointer (some ⟨kb,0,none⟩)) rfl eC fun eX=>?_
   simp only[ak]
   refine bS 2 20 (.pointer (some ⟨kb,0,none⟩)) rfl eX fun fM=>?_
   simp only[ak]
   refine dc 3 21 (.map (some mF)) rfl (fun V hX=>by obtain ⟨h0,h1,h2⟩:=ff V hX;go_simp) fM fun gE=>?_
   simp only[ak]
   refine bS 4 22 (.pointer (some ⟨w.heap.size+1,1,none⟩)) rfl gE fun iu=>?_
   simp only[ak]
   refine dc 5 23 (.string ⟨n.toArray⟩) rfl (fun V hX=>by obtain ⟨h0,h1,h2⟩:=ff V hX;go_simp) iu fun iP=>?_
   simp only[ak]
   refine dc 6 24 (.agg #[.int .u8 g0,.string g1,.slice g2 g3 g4,.slice g5 g6 g7]) rfl (fun V hX=>by obtain ⟨h0,h1,h2⟩:=ff V hX;go_simp) iP fun kV=>?_
   simp only[ak]
   refine b_ 7 rfl fun K hK=>?_
   go_simp
   refine callsIn_wide.2 ((HC.o _ (by have h:=dt;rw[dr.o]at h;exact h)).mono ?_)
   rintro e w7 ⟨⟨v7,rfl,Kb⟩,eT⟩
   have H7:=ab (((Below.refl W2.heap.size W2).drew).trans eT)
   have SV:=ab (pE m HM.o.2 HM.o.1 _ w7 v7 Kb.1)
   refine hK _ _ (fun _=>by rw[dr.o];exact H7.o) (fun _=>?_)
   clear hK K eT Kb
   refine b_ 8 rfl fun K hK=>?_
   go_simp
   refine callsIn_wide.2 (SV.o.mono ?_)
   rintro e w8 ⟨⟨v8,rfl,EC⟩,RQ⟩
   have f_:Below W2.heap.size W2 w8:=jW (w:=W2) H7.o RQ
   have H8:=aF f_ EC
   refine hK _ _ (fun _=>by rw[dr.o];exact H8.o.1) (fun _=>?_)
   clear hK K RQ f_ EC
   refine b_ 9 rfl fun K hK=>?_
   have pp86j:=();exact pm86
 |clear pp156d
  first
  |clear pp110
   have f0:∀ V,S V->V.cell? ⟨w.heap.size+1+1+1,3,none⟩=some (.slice ra k rc):=fun V h=>by rw[hS]at h;exact aa h (fS.cell 3)
   have f1:∀ V,S V->V.cell? ⟨wr.heap.size,0,none⟩=some (.int .u8 u.o)/\V.cell? ⟨wr.heap.size,1,none⟩=some (.string u.n)/\V.cell? ⟨wr.heap.size,2,none⟩=some (.slice u.a u.l u.c)/\V.cell? ⟨wr.heap.size,3,none⟩=some (.slice u.b u.m u.e):=fun V h=>by rw[hS]at h;exact ⟨aa h (ai xb 0),aa h (ai xb 1),aa h (ai xb 2),aa h (ai xb 3)⟩
   have xu:=fS.other (by omega) zaG.o
   have fu:∀ V,S V->V.cell? ⟨w.heap.size+1,0,none⟩=some (.bool zv)/\V.cell? ⟨w.heap.size+1,1,none⟩=some (.string zn)/\V.cell? ⟨w.heap.size+1,2,none⟩=some (.slice za zl zc):=fun V h=>by rw[hS]at h;exact ⟨aa h (ai xu 0),aa h (ai xu 1),aa h (ai xu 2)⟩
   clear xu
   have dB:S W2.drew:=by rw[hS];exact (Below.refl _ _).drew
   obtain ⟨dr,bZ,eq⟩:=cf hS fG fS
   clear hS fG fS xb
   refine br S 7 (by kernel_rfl) dB (fun jr dt=>?_)
   refine bS 0 94 (.pointer (some ⟨w.heap.size+1+1+1,3,none⟩)) rfl dt fun eC=>?_
   simp only[ak]
   refine dc 1 95 (.slice ra k rc) rfl (fun V hX=>by have g0:=f0 V hX;go_simp) eC fun eX=>?_
   simp only[ak]
   refine dc 2 96 (.agg #[.int .u8 u.o,.string u.n,.slice u.a u.l u.c,.slice u.b u.m u.e]) rfl (fun V hX=>by obtain ⟨g0,g1,g2,g3⟩:=f1 V hX;go_simp) eX fun fM=>?_
   simp only[ak]
   refine bS 3 97 (.string ⟨nx.toArray⟩) rfl fM fun gE=>?_
   simp only[ak]
   refine dc 4 98 (.agg #[.bool zv,.string zn,.slice za zl zc]) rfl (fun V hX=>by obtain ⟨h0,h1,h2⟩:=fu V hX;go_simp) gE fun iu=>?_
   simp only[ak]
   refine b_ 5 rfl fun K hK=>?_
   go_simp
   refine callsIn_wide.2 ((eM.o W0 s[k] nx z (wU.o.mem (List.getElem_mem da)) (Xc.o _ (List.getElem_mem da)).1 (Xc.o _ (List.getElem_mem da)).2.1 (Xc.o _ (List.getElem_mem da)).2.2.1 (Xc.o _ (List.getElem_mem da)).2.2.2 IX.o My.o.1 My.o.2 _ _ W2.drew u ⟨zv,zn,za,zl,zc⟩ (Mz.o.next ((bW.o.tr bZ.o).tr ((Below.refl _ _).drew))) (HU.o.later (bZ.o.drew)) (((HZ.o.later bW.o).later bZ.o).later ((Below.refl _ _).drew))).mono ?_)
   rintro _ A ⟨⟨p,rfl,hp⟩,hA⟩
   have bY:Below W2.heap.size W2 A:=((Below.refl W2.heap.size W2).drew).trans hA
   refine hK _ _ (fun _=>by rw[dr.o];exact bY) (fun _=>?_)
   clear hK K
   refine b_ 6 rfl fun K hK=>?_
   simp only[FQ.val]
   exact pm28
  |have f0:∀ V,S V->V.cell? ⟨w.heap.size+1+1,3,none⟩=some (.slice ra k rc):=fun V h=>by rw[hS]at h;exact aa h (fS.cell 3)
   have f1:∀ V,S V->V.cell? ⟨wr.heap.size,0,none⟩=some (.int .u8 u.o)/\V.cell? ⟨wr.heap.size,1,none⟩=some (.string u.n)/\V.cell? ⟨wr.heap.size,2,none⟩=some (.slice u.a u.l u.c)/\V.cell? ⟨wr.heap.size,3,none⟩=some (.slice u.b u.m u.e):=fun V h=>by rw[hS]at h;exact ⟨aa h (ai xb 0),aa h (ai xb 1),aa h (ai xb 2),aa h (ai xb 3)⟩
   have dB:S W2.drew:=by rw[hS];exact (Below.refl _ _).drew
   obtain ⟨dr,bZ,eq⟩:=cf hS fG fS
   first
   |clear pp46
    clear hS fG fS xb
    refine br S 5 (by kernel_rfl) dB (fun jr dt=>?_)
    refine bS 0 35 (.pointer (some ⟨w.heap.size+1+1,3,none⟩)) rfl dt fun eC=>?_
    simp only[ak]
    refine dc 1 36 (.slice ra k rc) rfl (fun V hX=>by have g0:=f0 V hX;go_simp) eC fun eX=>?_
    simp only[ak]
    refine dc 2 37 (.agg #[.int .u8 u.o,.string u.n,.slice u.a u.l u.c,.slice u.b u.m u.e]) rfl (fun V hX=>by obtain ⟨g0,g1,g2,g3⟩:=f1 V hX;go_simp) eX fun fM=>?_
    simp only[ak]
    refine b_ 3 rfl fun K hK=>?_
    go_simp
    refine callsIn_wide.2 ((eM.o s[k] (List.getElem_mem da) (wU.o.mem (List.getElem_mem da)) _ W2.drew u (HU.o.later (bZ.o.drew))).mono ?_)
    rintro _ A ⟨p,rfl,hp,hA⟩
    have bY:Below W2.heap.size W2 A:=((Below.refl W2.heap.size W2).drew).trans hA
    refine hK _ _ (fun _=>by rw[dr.o];exact bY) (fun _=>?_)
    clear hK K
    refine b_ 4 rfl fun K hK=>?_
    simp only[FQ.val]
    have pp28f:=();exact pm28
   |clear hS fG fS xb
    refine br S 7 (by kernel_rfl) dB (fun jr dt=>?_)
    refine bS 0 125 (.pointer (some ⟨w.heap.size+1+1,3,none⟩)) rfl dt fun NU=>?_
    simp only[ak]
    refine dc 1 126 (.slice ra k rc) rfl (fun V hX=>by have g0:=f0 V hX;go_simp) NU fun NV=>?_
    simp only[ak]
    refine bS 2 127 (.pointer (some ⟨kb,0,none⟩)) rfl NV fun Hu=>?_
    simp only[ak]
    refine dc 3 128 (.agg #[.int .u8 u.o,.string u.n,.slice u.a u.l u.c,.slice u.b u.m u.e]) rfl (fun V hX=>by obtain ⟨g0,g1,g2,g3⟩:=f1 V hX;go_simp) Hu fun NW=>?_
    simp only[ak]
    refine bS 4 129 (vL) rfl NW fun Uu=>?_
    simp only[ak]
    refine b_ 5 rfl fun K hK=>?_
    go_simp
    refine callsIn_wide.2 ((eM.o ss[k] (List.getElem_mem da) c L _ W2.drew vL u (HL.o.2.2.2.tr ((bW.o.tr bZ.o).tr (Below.refl _ _).drew)) (HL.o.1.later ((bW.o.tr bZ.o).tr (Below.refl _ _).drew)) (by have:=iA (List.getElem_mem da);have:=HL.o.2.1;simp only[nodesF]at this;omega) HL.o.2.2.1 (HU.o.later (bZ.o.drew))).mono ?_)
    rintro _ A ⟨⟨p,rfl,hp⟩,hA⟩
    have bY:Below W2.heap.size W2 A:=((Below.refl W2.heap.size W2).drew).trans hA
    refine hK _ _ (fun _=>by rw[dr.o];exact bY) (fun _=>?_)
    clear hK K
    refine b_ 6 rfl fun K hK=>?_
    simp only[FQ.val]
    have pp28c:=();exact pm28
 |have ft:∀ V,S V->V.cell? ⟨w4.heap.size,0,none⟩=some (.int .u8 go)/\V.cell? ⟨w4.heap.size,1,none⟩=some (.string gn)/\V.cell? ⟨w4.heap.size,2,none⟩=some (.slice ga gl gc)/\V.cell? ⟨w4.heap.size,3,none⟩=some (.slice gb gm ge):=fun V h=>by rw[hS]at h;exact ⟨aa h (ai Ti.o 0),aa h (ai Ti.o 1),aa h (ai Ti.o 2),aa h (ai Ti.o 3)⟩
  have fn0:∀ V,S V->V.cell? ⟨w.heap.size,1,none⟩=some (.string ⟨n.toArray⟩):=fun V h=>by rw[hS]at h;exact aa h (ai J9.o.b0 1)
  have fm:∀ V,S V->V.cell? ⟨w.heap.size+1+1+1,1,none⟩=some (.string ⟨m.toArray⟩):=fun V h=>by rw[hS]at h;exact aa h (ai J9.o.b2 1)
  have dB:S W2.drew:=by rw[hS];exact (Below.refl _ _).drew
  have dr:=ab hS
  clear hS
  refine br S 7 (by kernel_rfl) dB (fun jr dt=>?_)
  refine dc 0 73 (.agg #[.int .u8 go,.string gn,.slice ga gl gc,.slice gb gm ge]) rfl (fun V hX=>by obtain ⟨g0,g1,g2,g3⟩:=ft V hX;go_simp) dt fun eC=>?_
  simp only[ak]
  refine bS 1 74 (.pointer (some ⟨w.heap.size,1,none⟩)) rfl eC fun eX=>?_
  simp only[ak]
  refine dc 2 75 (.string ⟨n.toArray⟩) rfl (fun V hX=>by have g0:=fn0 V hX;go_simp) eX fun fM=>?_
  simp only[ak]
  refine bS 3 76 (.pointer (some ⟨w.heap.size+1+1+1,1,none⟩)) rfl fM fun gE=>?_
  simp only[ak]
  refine dc 4 77 (.string ⟨m.toArray⟩) rfl (fun V hX=>by have g0:=fm V hX;go_simp) gE fun iu=>?_
  simp only[ak]
  refine b_ 5 rfl fun K hK=>?_
  go_simp
  refine callsIn_wide.2 ((fF m _).mono ?_)
  rintro _ A1 ⟨rfl,DF⟩
  have bY:Below W2.heap.size W2 A1:=((Below.refl W2.heap.size W2).drew).trans DF
  refine hK _ _ (fun _=>by rw[dr.o];exact bY) (fun _=>?_)
  clear hK K
  refine b_ 6 rfl fun K hK=>?_
  go_simp
  have Tj:=J9.o.later bY
  refine callsIn_wide.2 ((eM.o W0 g n (ap m) mi.o.2.2.2.2 mi.o.1 mi.o.2.1 mi.o.2.2.1 mi.o.2.2.2.1 lj ⟨by simp[ap,nodesT,ac],tM HM.o.2.1⟩ (by simp[ap,nodesT,ac]) _ (fun _=>True) A1 ⟨go,gn,ga,gl,gc,gb,gm,ge⟩ ⟨true,⟨m.toArray⟩,none,0,0⟩ (Mz.o.next Tj.below) (HG.o.later Tj.below) (aP.2 ⟨_,rfl,bV⟩)).mono ?_)
  rintro _ A ⟨⟨⟨ho,rN,ha,hl,hc,hb,hm,he⟩,rfl,hp⟩,hA⟩
  have Pn:=bY.tr hA
  refine hK _ _ (fun _=>by rw[dr.o];exact Pn) (fun _=>?_)
  clear hK K
  have tB:A.heap[w4.heap.size]?=some (.cells #[.int .u8 go,.string gn,.slice ga gl gc,.slice gb gm ge] 36 (0,0)):=bC Pn Ti.o
  have lu:=f8 kk g n m mi.o.2.1 mi.o.2.2.1 mi.o.2.2.2.1
  obtain ⟨G2,hG2⟩:=ao (ep kk n (ap m) g)
  have Rr:ks 2000000 G2=true:=by rw[hG2];exact nc kk g n (ap m) mi.o.2.1 mi.o.2.2.1 mi.o.2.2.2.1 (by have:=mi.o.1;simp[ap,nodesT,ac];omega) mi.o.2.2.2.2.2 (tM HM.o.2.1)
  rw[<-hG2]at lu hp
  have Xj:Hd (fitF G2/\nodesF G2<=100000/\iF G2=true/\qone G2=true/\depthF G2<=kk):=ab ⟨⟨by have:=mi.o.1;omega,Rr⟩,by have:=mi.o.1;omega,lu.1,lu.2.1,by have:=mi.o.2.2.2.1;omega⟩
  have tP:Hd (RS=.mk qo m [] [ep kk nx z G2]):=ab (by rw[tP.o,hG2])
  have iQ:w.heap.size+3<w4.heap.size:=EA.o.lt
  have mX:=bY.size
  have zaP:=(bl Ti.o)
  have Tk:=di (W:=A) (b:=w4.heap.size) (v0:=.int .u8 ho) (v1:=.string rN) (v2:=.slice ha hl hc) (v3:=.slice hb hm he)
  have v_:=kf (v0:=.int .u8 ho) (v1:=.string rN) (v2:=.slice ha hl hc) (v3:=.slice hb hm he) tB
  obtain ⟨s0,s1,s2,s3⟩:=lF tB
  have zs0:=ae tB 0
  have zs1:=ae tB 1
  have zs2:=ae tB 2
  have zs3:=ae tB 3
  have Rs:=(J9.o.later Pn).keep Tk.os Tk.tape Tk.output Tk.size (fun b bA=>Tk.same b (by have:=(J9.o.later Pn).lt;omega) (by omega))
  have Xk:=hp.move (ok':=fun _=>True) (fun b hok hlt=>⟨trivial,Tk.same b hlt (by omega)⟩)
  obtain ⟨rU,Xl,Xm⟩:=cf Rs v_ Xk
  clear lu hG2 Rr iQ mX zaP Tk v_ tB Rs Xk hp hA DF bY Pn Tj
  refine b_ 7 rfl fun K hK=>?_
  simp only[FQ.val]
  have pp86f:=();exact pm86):G:=h
theorem pm157(h:G:=by
 obtain ⟨k0,bO⟩:=ao l.length
 obtain ⟨m0,du⟩:=ao m.length
 rw[jt,<-bO,<-du]
 rw[<-bO,<-du]at mv
 have d1:((k0:Int) == (m0:Int))=false:=by simp;omega
 have d2:((k0:Int) != (m0:Int))=true:=by simp;omega
 clear jt hl hm aD bO du ih
 first
 |clear pp157
  go_enter Tryz.func19,Tryz.ntmps19
  go_wp2
  go_ret
  exact ⟨rfl,Below.refl _ _⟩
 |go_enter Tryz.func52,Tryz.ntmps52
  go_wp2
  go_ret
  exact ⟨rfl,Below.refl _ _⟩):G:=h
theorem pm158(h:G:=by
 obtain ⟨W2,aY⟩:=ao ((w.alloc (.cells #[.int .u8 q.o,.string q.n,.slice q.a q.l q.c,.slice q.b q.m q.e] 36)).alloc (.cells #[.int .u8 q'.o,.string q'.n,.slice q'.a q'.l q'.c,.slice q'.b q'.m q'.e] 36))
 first
 |clear pp158
  have hB:=j7 aY
  have HX:Hd (W2.heap[w.heap.size]?=some (.cells #[.int .u8 q.o,.string q.n,.slice q.a q.l q.c,.slice q.b q.m q.e] 36 (0,0))):=ab (by rw[aY];exact (Below.heap_alloc _ _ _ (by simp)).trans (aj rfl))
  have HY:Hd (W2.heap[w.heap.size+1]?=some (.cells #[.int .u8 q'.o,.string q'.n,.slice q'.a q'.l q'.c,.slice q'.b q'.m q'.e] 36 (0,0))):=ab (by rw[aY];exact aj (by simp))
  have C1:=kZ W0 f hf _ W2 (ht.next hB) q (hq.later hB)
  have C2:=fun (W:World) (h:Below W2.heap.size W2 W)=>kZ W0 g hg _ W ((ht.next hB).next h) q' ((jC.later hB).later h)
  have C3:=fun (hr:bP f=true) (W:World) (h:Below W2.heap.size W2 W)=>Oq f g [] (.slice none 0 0) _ _ W q q' (by have:=hf.1;simp[dK];omega) hf (qG f (by simp only[bP,Bool.and_eq_true]at hr;exact hr.1)) ((hq.later hB).later h) ((jC.later hB).later h) (PairsV.nil W)
  obtain ⟨b1,hb1⟩:=ao (bP f)
  obtain ⟨b2,bA⟩:=ao (bP g)
  obtain ⟨b3,aJ⟩:=ao (bT [] f g)
  unfold pf
  simp only[List.reverse_nil]at C3
  rw[<-hb1]at C1 C3 ⊢
  rw[<-bA]at C2 ⊢
  rw[<-aJ]at C3 ⊢
  clear hb1 bA aJ hq jC hf hg ht
  obtain ⟨uo,un,ua,ul,uc,ub,um,ue⟩:=q
  obtain ⟨vo,vn,va,vl,vc,vb,vm,ve⟩:=q'
  unfold FQ.val at C1 C2 C3 ⊢
  simp only at C1 C2 C3 HX HY aY ⊢
  have x0:=fun (X:World) (h:Below W2.heap.size W2 X)=>(aa h (ai HX.o 0):X.cell? ⟨w.heap.size,0,none⟩=some (.int .u8 uo))
  have x1:=fun (X:World) (h:Below W2.heap.size W2 X)=>(aa h (ai HX.o 1):X.cell? ⟨w.heap.size,1,none⟩=some (.string un))
  have x2:=fun (X:World) (h:Below W2.heap.size W2 X)=>(aa h (ai HX.o 2):X.cell? ⟨w.heap.size,2,none⟩=some (.slice ua ul uc))
  have x3:=fun (X:World) (h:Below W2.heap.size W2 X)=>(aa h (ai HX.o 3):X.cell? ⟨w.heap.size,3,none⟩=some (.slice ub um ue))
  have y0:=fun (X:World) (h:Below W2.heap.size W2 X)=>(aa h (ai HY.o 0):X.cell? ⟨w.heap.size+1,0,none⟩=some (.int .u8 vo))
  have y1:=fun (X:World) (h:Below W2.heap.size W2 X)=>(aa h (ai HY.o 1):X.cell? ⟨w.heap.size+1,1,none⟩=some (.string vn))
  have y2:=fun (X:World) (h:Below W2.heap.size W2 X)=>(aa h (ai HY.o 2):X.cell? ⟨w.heap.size+1,2,none⟩=some (.slice va vl vc))
  have y3:=fun (X:World) (h:Below W2.heap.size W2 X)=>(aa h (ai HY.o 3):X.cell? ⟨w.heap.size+1,3,none⟩=some (.slice vb vm ve))
  have F5:=eO (an4 x0 x1 x2 x3) y0 y1 y2 y3
  obtain ⟨HB,wB,wD,HC3,eN⟩:=vD hB C1 C2 C3 aY
  clear C1 C2 C3 hB aY x0 x1 x2 x3 y0 y1 y2 y3
  go_enter Tryz.func38,Tryz.ntmps38
  cases b1
  ·go_wp2_with (rw[<-eN.o];go_at_call 39;refine wB.o.mono ?_;rintro e X1 ⟨rfl,h1⟩;have H1:=ab h1;clear h1)
   go_ret
   exact ⟨rfl,HB.o.trans (H1.o.mono HB.o.size)⟩
  ·cases b2
   ·go_wp2_with (first | (rw[<-eN.o];go_at_call 39;refine wB.o.mono ?_;rintro e X1 ⟨rfl,h1⟩;have H1:=ab h1;clear h1;have a0:=F5.o.2.1 X1 H1.o;have a1:=F5.o.2.2.1 X1 H1.o;have a2:=F5.o.2.2.2.1 X1 H1.o;have a3:=F5.o.2.2.2.2 X1 H1.o) | (go_at_call 39;refine (wD.o _ H1.o).mono ?_;rintro e X2 ⟨rfl,h2⟩;have H2:=ab h2;clear h2))
    go_ret
    exact ⟨rfl,HB.o.trans ((H1.o.trans (H2.o.mono H1.o.size)).mono HB.o.size)⟩
   ·cases b3 <;>
    (go_wp2_with (first | (rw[<-eN.o];go_at_call 39;refine wB.o.mono ?_;rintro e X1 ⟨rfl,h1⟩;have H1:=ab h1;clear h1;have a0:=F5.o.2.1 X1 H1.o;have a1:=F5.o.2.2.1 X1 H1.o;have a2:=F5.o.2.2.2.1 X1 H1.o;have a3:=F5.o.2.2.2.2 X1 H1.o) | (go_at_call 39;refine (wD.o _ H1.o).mono ?_;rintro e X2 ⟨rfl,h2⟩;have H2:=ab (H1.o.trans (h2.mono H1.o.size));clear h2;have c0:=F5.o.1.1 X2 H2.o;have c1:=F5.o.1.2.1 X2 H2.o;have c2:=F5.o.1.2.2.1 X2 H2.o;have c3:=F5.o.1.2.2.2 X2 H2.o;have d0:=F5.o.2.1 X2 H2.o;have d1:=F5.o.2.2.1 X2 H2.o;have d2:=F5.o.2.2.2.1 X2 H2.o;have d3:=F5.o.2.2.2.2 X2 H2.o) | (go_at_call 83;refine (HC3.o (by simp) _ H2.o).mono ?_;rintro e X3 ⟨rfl,h3⟩;have H3:=ab h3;clear h3))
     go_ret
     exact ⟨rfl,HB.o.trans ((H2.o.trans (H3.o.mono H2.o.size)).mono HB.o.size)⟩)
 |have HB:=j7 aY
  have hx:=rm aY
  have hy:=iV aY
  have hvf:FormV (okS X0 W2) W2 q.val f:=((hq.later HB).lt).move (fun _ h _=>⟨⟨trivial,h⟩,rfl⟩)
  have hvg:FormV (okS X0 W2) W2 q'.val g:=((jC.later HB).lt).move (fun _ h _=>⟨⟨trivial,h⟩,rfl⟩)
  clear hq jC
  simp only[FQ.val]
  refine (callsIn_wide (n:=3)).1 ?_
  refine callsIn_of_wp Tryz.func8 rfl trivial ?_ rfl
  simp only[Tryz.ntmps8,List.size_toArray,List.length_cons,List.length_nil,Nat.reduceAdd,Nat.reduceSub,Array.replicate_succ,Array.replicate_zero,List.push_toArray,List.append_toArray,List.nil_append,List.cons_append]
  refine wpIn_seq_k (fun K hK=>?_)
  refine wpIn_region_lit ?_
  iterate 10 gi_step
  refine hK _ _ ?_
  rw[<-aY]
  refine (fun (A:Act) (hs:A.tmps.size=99) (hd:A.defers=[]) (t2:A.tmps[2]?=some (.string ⟨y.toArray⟩)) (t3:A.tmps[3]?=some (ptr w.heap.size)) (t4:A.tmps[4]?=some (ptr (w.heap.size+1)))=>?_:∀ A:Act,A.tmps.size=99->A.defers=[]->A.tmps[2]?=some (.string ⟨y.toArray⟩)->A.tmps[3]?=some (ptr w.heap.size)->A.tmps[4]?=some (ptr (w.heap.size+1))->Code.wpIn Fence.wide 3 _ _ _ A W2) _ rfl rfl rfl rfl rfl
  clear hK K
  have F3:LF X0 A W2 3 w.heap.size q f:=⟨t3,hx,hvf⟩
  have F4:LF X0 A W2 4 (w.heap.size+1) q' g:=⟨t4,hy,hvg⟩
  clear t3 t4 hx hy hvf hvg aY
  have js:∀ c,bL c->WB.heap.size<=c:=fun _ h=>h.elim
  have bB:∀ c,X0 c->¬bL c:=fun _ _ h=>h
  have hL:∀ {u:World} (c),u.heap.size<=c->X0 c:=fun _ _=>trivial
  have J8:fitF f:=by
   have pp234:=();exact pm234
  have Ln:fitF g:=by
   have pp234:=();exact pm234
  have uJ:fitFs [f,g]:=by
   exact pm234
  have hT:Tabs WB W2:=iU.next (HB)
  refine wpIn_seq_k (fun K1a ZM=>?_)
  refine wpIn_seq_k (fun K1b ZN=>?_)
  refine bX [aE (.bool true),
   aE (.bool false)]
   2 2 hs (by kernel_rfl) (fun k hk=>?_) (fun A1 γ W1 h=>?_)
  ·match k,hk with
   | 0,_=>exact Oy hT js
   | 1,_=>exact bG rfl 14 (.bool true) (.bool false) (am 0) (fun _ _ _ _=>by go_simp)
   | k+2,hk=>exact absurd hk (by simp)
  have gu:=h.sz.trans hs
  have V0:=h.df.trans hd
  have dG:Below w.heap.size w W1:=aG HB h.inv.1 (fun _ h=>h.elim)
  have F3:=F3.nx (h.od 3) h.inv.1 bB
  have F4:=F4.nx (h.od 4) h.inv.1 bB
  have t2:=h.ol 2 t2
  clear hT
  obtain ⟨vz,tc,fz⟩:=h.get 1 _ 15 rfl rfl
  obtain rfl:vz=.bool false:=fz
  clear h
  refine ZN _ _ ?_
  refine wpIn_cond_false (bw tc) (wpIn_skip ?_)
  refine ZM _ _ ?_
  clear ZM ZN K1a K1b tc
  have hT:Tabs WB W1.drew:=iU.next (dG.drew)
  have F3:=F3.drew
  have F4:=F4.drew
  refine wpIn_seq_k (fun K3a ZO=>?_)
  refine dM [aE (.string ⟨y.toArray⟩),
   aH X0 f,
   dL X0 [f],
   aH X0 (.mk 8 y [] [f]),
   aH X0 g,
   dL X0 [.mk 8 y [] [f],g],
   aH X0 (.mk 6 [] [] [.mk 8 y [] [f],g]),
   lO #[.int .u8 0,.string ⟨#[]⟩,.slice none 0 0,.slice none 0 0] 36,
   jv (aH X0 (.mk 6 [] [] [.mk 8 y [] [f],g])) 36]
   7 8 gu (by kernel_rfl) (by kernel_rfl) (fun k hk=>?_) (fun A3 γ W3 h=>?_)
  ·match k,hk with
   | 0,_=>exact au (aE (.string ⟨y.toArray⟩)) 2 (old t2)
   | 1,_=>exact cd _ _ 3 F3.box (fun h=>h) (F3.at bB) (old F3.slot)
   | 2,_=>exact eL hL _ 17 (am 1)
   | 3,_=>exact U5 8 y [f] 18 16 (am 2) (am 0)
   | 4,_=>exact cd _ _ 4 F4.box (fun h=>h) (F4.at bB) (old F4.slot)
   | 5,_=>exact fU hL _ _ 19 20 (am 3) (am 4)
   | 6,_=>exact gQ 6 [] [.mk 8 y [] [f],g] 21 (am 5)
   | 7,_=>exact iJ rfl
   | 8,_=>exact iK _ 7 22 rfl (am 7) (am 6)
   | k+9,hk=>exact absurd hk (by simp)
  have uG:=h.sz.trans gu
  have Sw:=h.df.trans V0
  have bp:Below w.heap.size w W3:=aG dG.drew h.inv.1 (fun _ h=>h.elim)
  have F3:=F3.nx (h.od 3) h.inv.1 bB
  have F4:=F4.nx (h.od 4) h.inv.1 bB
  have t2:=h.ol 2 t2
  obtain ⟨vz,tz,fz⟩:=h.get 7 _ 7 rfl rfl
  obtain ⟨b7,q7,lz,_⟩:=o_ tz fz (h.did 8 _ rfl rfl) h.inv
  have F7:=lz.next (L':=X0) rfl (Kp.refl (M:=bL) _) (fun h=>h) (fun _ _ h=>h) (fun _ h _=>h.1)
  clear vz tz fz lz
  clear hT
  clear h
  refine ZO _ _ ?_
  clear ZO K3a
  by_cases yd:pg [f,g]=true
  case neg=>
   have yd:pg [f,g]=false:=by simpa using yd
   have hT:Tabs WB W3:=iU.next (bp)
   refine wpIn_seq_k (fun K4a QS=>?_)
   refine wpIn_seq_k (fun K4b Lb=>?_)
   refine bX [aH X0 f,
    aH X0 g,
    dL X0 [f,g],
    aE (.bool false),
    aE (.bool true),
    aE (.bool true),
    aE undef,
    aE undef,
    aE undef,
    aE (.bool true)]
    10 10 uG (by kernel_rfl) (fun k hk=>?_) (fun A4 γ W4 h=>?_)
   ·match k,hk with
    | 0,_=>exact cd _ _ 3 F3.box (fun h=>h) (F3.at bB) (old F3.slot)
    | 1,_=>exact cd _ _ 4 F4.box (fun h=>h) (F4.at bB) (old F4.slot)
    | 2,_=>exact fU hL _ _ 23 24 (am 0) (am 1)
    | 3,_=>exact zC [f,g] uJ 25 (am 2) (hp:=vw yd)
    | 4,_=>exact bG rfl 26 (.bool false) (.bool true) (am 3) (fun _ _ _ _=>by go_simp)
    | 5,_=>exact au (aE (.bool true)) 27 (am 4)
    | 6,_=>exact dN false 5 (am 5)
    | 7,_=>exact dN false 5 (am 5)
    | 8,_=>exact dN false 5 (am 5)
    | 9,_=>exact bG rfl 28 (.bool true) (.bool true) (am 5) (fun _ _ _ _=>by go_simp)
    | k+10,hk=>exact absurd hk (by simp)
   exact pm254
  by_cases Ls:bP (.mk 6 [] [] [.mk 8 y [] [f],g])=true
  case neg=>
   have Ls:bP (.mk 6 [] [] [.mk 8 y [] [f],g])=false:=by simpa using Ls
   have hT:Tabs WB W3:=iU.next (bp)
   refine wpIn_seq_k (fun K4a QS=>?_)
   refine wpIn_seq_k (fun K4b Lb=>?_)
   refine bX [aH X0 f,
    aH X0 g,
    dL X0 [f,g],
    aE (.bool true),
    aE (.bool false),
    aE (.bool false),
    aH X0 (.mk 6 [] [] [.mk 8 y [] [f],g]),
    aE (.bool false),
    aE (.bool true),
    aE (.bool true)]
    10 10 uG (by kernel_rfl) (fun k hk=>?_) (fun A4 γ W4 h=>?_)
   ·match k,hk with
    | 0,_=>exact cd _ _ 3 F3.box (fun h=>h) (F3.at bB) (old F3.slot)
    | 1,_=>exact cd _ _ 4 F4.box (fun h=>h) (F4.at bB) (old F4.slot)
    | 2,_=>exact fU hL _ _ 23 24 (am 0) (am 1)
    | 3,_=>exact zC [f,g] uJ 25 (am 2) (hp:=vw yd)
    | 4,_=>exact bG rfl 26 (.bool true) (.bool false) (am 3) (fun _ _ _ _=>by go_simp)
    | 5,_=>exact au (aE (.bool false)) 27 (am 4)
    | 6,_=>exact cd _ _ 7 F7.box (fun h=>h) (F7.at bB) (old F7.slot) (hw:=aw 5 (am 5))
    | 7,_=>exact FH (.mk 6 [] [] [.mk 8 y [] [f],g]) aD 29 hT js (am 6) (hw:=aw 5 (am 5)) (hp:=vw Ls)
    | 8,_=>exact bG rfl 30 (.bool false) (.bool true) (am 7) (fun _ _ _ _=>by go_simp) (hw:=aw 5 (am 5))
    | 9,_=>exact cr rfl 28 31 (.bool false) (.bool true) (.bool true) (am 5) (am 8) (fun _ _ _ _ _ _=>by go_simp)
    | k+10,hk=>exact absurd hk (by simp)
   exact pm254
  have hT:Tabs WB W3:=iU.next (bp)
  refine wpIn_seq_k (fun K4a QS=>?_)
  refine wpIn_seq_k (fun K4b Lb=>?_)
  refine bX [aH X0 f,
   aH X0 g,
   dL X0 [f,g],
   aE (.bool true),
   aE (.bool false),
   aE (.bool false),
   aH X0 (.mk 6 [] [] [.mk 8 y [] [f],g]),
   aE (.bool true),
   aE (.bool false),
   aE (.bool false)]
   10 10 uG (by kernel_rfl) (fun k hk=>?_) (fun A4 γ W4 h=>?_)
  ·match k,hk with
   | 0,_=>exact cd _ _ 3 F3.box (fun h=>h) (F3.at bB) (old F3.slot)
   | 1,_=>exact cd _ _ 4 F4.box (fun h=>h) (F4.at bB) (old F4.slot)
   | 2,_=>exact fU hL _ _ 23 24 (am 0) (am 1)
   | 3,_=>exact zC [f,g] uJ 25 (am 2) (hp:=vw yd)
   | 4,_=>exact bG rfl 26 (.bool true) (.bool false) (am 3) (fun _ _ _ _=>by go_simp)
   | 5,_=>exact au (aE (.bool false)) 27 (am 4)
   | 6,_=>exact cd _ _ 7 F7.box (fun h=>h) (F7.at bB) (old F7.slot) (hw:=aw 5 (am 5))
   | 7,_=>exact FH (.mk 6 [] [] [.mk 8 y [] [f],g]) aD 29 hT js (am 6) (hw:=aw 5 (am 5)) (hp:=vw Ls)
   | 8,_=>exact bG rfl 30 (.bool true) (.bool false) (am 7) (fun _ _ _ _=>by go_simp) (hw:=aw 5 (am 5))
   | 9,_=>exact cr rfl 28 31 (.bool false) (.bool false) (.bool false) (am 5) (am 8) (fun _ _ _ _ _ _=>by go_simp)
   | k+10,hk=>exact absurd hk (by simp)
  have uM:=h.sz.trans uG
  have LJ:=h.df.trans Sw
  have em:Below w.heap.size w W4:=aG bp h.inv.1 (fun _ h=>h.elim)
  have pp76b:=();exact pm76):G:=h
theorem pm159(h:G:=by
 have T5:((m0:Int) != (r4:Int))=false:=by simp;omega
 have T6:(m0 == r4)=true:=by simpa using Qe
 have MV:=ab Qe
 clear Qe
 rw[c9,show decide (k0<=r3)=true by simpa using da,T6]at hM
 simp only[Bool.true_and]at hM
 by_cases iE:on=16
 first
 |clear pp159
  ·subst iE
   cases aW:rp a with
   | false=>
    exact pm37
   | true=>
    have pp136a:=();exact pm136
  ·have zbd:((on:Int) == 16)=false:=by simp;omega
   rw[show ((on:Int) != 16)=true by simp;omega,Bool.true_or,Bool.true_and]at hM
   exact pm108
 |·subst iE
   cases aW:rp a with
   | false=>
    exact pm37
   | true=>
    have pp136b:=();exact pm136
  ·have zbd:((on:Int) == 16)=false:=by simp;omega
   rw[show ((on:Int) != 16)=true by simp;omega,Bool.true_or,Bool.true_and]at hM
   exact pm106):G:=h
theorem pm160(h:G:=by
 have hT:Tabs WB W9.drew:=iU.next (F2.drew)
 have F3:=F3.drew
 have F4:=F4.drew
 have F7:=F7.drew
 refine wpIn_seq_k (fun OA vA=>?_)
 first
 |clear pp160a
  have pp16:=();exact pm16
 |clear pp160b
  exact pm16
 |refine dM [aH X0 (ec [63,65]),
   dL X0 [ec [63,65]],
   aH X0 (Fm.mk 8 [120] [] [ec [63,65]]),
   aH X0 (ec [63,65]),
   dL X0 [Fm.mk 8 [120] [] [ec [63,65]],ec [63,65]],
   aH X0 (Fm.mk 6 [] [] [Fm.mk 8 [120] [] [ec [63,65]],ec [63,65]]),
   aH X0 (.mk 6 [] [] [.mk 8 y [] [f],g]),
   bi X0 (⟨[],[]⟩),
   d9 (bi X0 (⟨[([63,65],f)],[]⟩)) [.int .i64 0],
   d9 (bi X0 (⟨[([63,65],f)],[]⟩)) [.int .i64 0],
   bi X0 (⟨[([63,65],f)],[]⟩),
   aE (.int .i64 0),
   lO #[.slice none 0 0,.slice none 0 0] 26,
   jv (bi X0 (⟨[([63,65],f)],[]⟩)) 26,
   aE (.int .i64 0)]
   12 13 F1 (by kernel_rfl) (by kernel_rfl) (fun k hk=>?_) (fun A12 γ Sl h=>?_)
  ·match k,hk with
   | 0,_=>exact sM [63,65]
   | 1,_=>exact eL hL _ 51 (am 0)
   | 2,_=>exact gQ 8 [120] [ec [63,65]] 52 (am 1)
   | 3,_=>exact sM [63,65]
   | 4,_=>exact fU hL _ _ 53 54 (am 2) (am 3)
   | 5,_=>exact gQ 6 [] [Fm.mk 8 [120] [] [ec [63,65]],ec [63,65]] 55 (am 4)
   | 6,_=>exact cd _ _ 7 F7.box (fun h=>h) (F7.at bB) (old F7.slot)
   | 7,_=>exact wH
   | 8,_=>exact o9 _ _ _ _ _ _ hM ⟨by decide,by decide⟩ aD iL 56 57 58 hT js hL (am 5) (am 6) (am 7)
   | 9,_=>exact au (d9 (bi X0 (⟨[([63,65],f)],[]⟩)) [.int .i64 0]) 59 (am 8)
   | 10,_=>exact gq (bi X0 (⟨[([63,65],f)],[]⟩)) [.int .i64 0] 50 (am 9)
   | 11,_=>exact gD (bi X0 (⟨[([63,65],f)],[]⟩)) [.int .i64 0] 0 (.int .i64 0) rfl 50 (am 9)
   | 12,_=>exact jI rfl
   | 13,_=>exact jJ _ 11 60 rfl (am 12) (am 10)
   | 14,_=>exact bF (aE (.int .i64 0)) 61 (am 11)
   | k+15,hk=>exact absurd hk (by simp)
  have FK:=h.sz.trans F1
  have OB:=h.df.trans QF
  have FL:Below w.heap.size w Sl:=aG F2.drew h.inv.1 (fun _ h=>h.elim)
  have F3:=F3.nx (h.od 3) h.inv.1 bB
  have F4:=F4.nx (h.od 4) h.inv.1 bB
  have F7:=F7.nx (h.od 7) h.inv.1 bB
  have t2:=h.ol 2 t2
  have t8:=h.ol 8 t8
  have t9:=h.ol 9 t9
  have S8:=(S8.move (show el (okS X0 W9) (okS X0 W9.drew) W9 W9.drew from fun _ h _=>⟨h,rfl⟩)).move (okS.next (L':=X0) h.inv.1 bB (fun _ h _=>h))
  obtain ⟨vz,tz,fz⟩:=h.get 12 _ 11 rfl rfl
  obtain ⟨DK,Om,lz,_⟩:=ri tz fz (h.did 13 _ rfl rfl) h.inv
  have wJ:=lz.next (L':=X0) rfl (Kp.refl (M:=bL) _) (fun h=>h) (fun _ _ h=>h) (fun _ h _=>h.1)
  clear vz tz fz lz
  clear hT
  obtain ⟨vz,Dx,fz⟩:=h.get 14 _ 12 rfl rfl
  obtain rfl:vz=.int .i64 0:=fz
  clear h
  refine vA _ _ ?_
  clear vA OA
  have hT:Tabs WB Sl:=iU.next (FL)
  refine wpIn_seq_k (fun OC vB=>?_)
  refine bX [aE (.bool false),
   aE (.bool true),
   aE (.bool true),
   aH X0 f,
   aH X0 g,
   aE (.bool true),
   aE (.bool true),
   aE (.bool true)]
   8 8 FK (by kernel_rfl) (fun k hk=>?_) (fun A13 γ fv h=>?_)
  ·match k,hk with
   | 0,_=>exact au (aE (.bool false)) 9 (old t9)
   | 1,_=>exact bG rfl 62 (.bool false) (.bool true) (am 0) (fun _ _ _ _=>by go_simp)
   | 2,_=>exact au (aE (.bool true)) 63 (am 1)
   | 3,_=>exact cd _ _ 3 F3.box (fun h=>h) (F3.at bB) (old F3.slot) (hw:=aw 2 (am 2))
   | 4,_=>exact cd _ _ 4 F4.box (fun h=>h) (F4.at bB) (old F4.slot) (hw:=aw 2 (am 2))
   | 5,_=>exact FI f g J8 Ln 65 66 hT js (am 3) (am 4) (hw:=aw 2 (am 2)) (hp:=vw Kk)
   | 6,_=>exact cr rfl 64 67 (.bool true) (.bool true) (.bool true) (am 2) (am 5) (fun _ _ _ _ _ _=>by go_simp)
   | 7,_=>exact bF (aE (.bool true)) 68 (am 6)
   | k+8,hk=>exact absurd hk (by simp)
  have zx:=h.sz.trans FK
  have Ii:=h.df.trans OB
  have eJ:Below w.heap.size w fv:=aG FL h.inv.1 (fun _ h=>h.elim)
  have F3:=F3.nx (h.od 3) h.inv.1 bB
  have F4:=F4.nx (h.od 4) h.inv.1 bB
  have F7:=F7.nx (h.od 7) h.inv.1 bB
  have wJ:=wJ.nx (h.od 11) h.inv.1 bB
  have t2:=h.ol 2 t2
  have t8:=h.ol 8 t8
  have t9:=h.ol 9 t9
  have Dx:=h.ol 12 Dx
  have S8:=S8.move (okS.next (L':=X0) h.inv.1 bB (fun _ h _=>h))
  clear hT
  obtain ⟨vz,v_,fz⟩:=h.get 7 _ 13 rfl rfl
  obtain rfl:vz=.bool true:=fz
  clear h
  refine vB _ _ ?_
  clear vB OC
  obtain ⟨rb,ro,qr,ZW,hf0,hf1,Qi,hf3,rk⟩:∃rb ro,∃qr:FQ,fv.cell? ⟨DK,0,none⟩=some (.slice (some ⟨rb,ro,none⟩) 1 Om.c)/\fv.cell? ⟨rb,ro+1,none⟩=some (.int .u8 qr.o)/\fv.cell? ⟨rb,ro+1+1,none⟩=some (.string qr.n)/\fv.cell? ⟨rb,ro+1+2,none⟩=some (.slice qr.a qr.l qr.c)/\fv.cell? ⟨rb,ro+1+3,none⟩=some (.slice qr.b qr.m qr.e)/\FormV (Lt X0 bL fv) fv qr.val f:=by
   obtain ⟨⟨fa,fc,fp,he,_,gJ,tD⟩,_⟩:=wJ.val
   injection he with e1 e2 e3
   rcases gJ with h | ⟨rb,ro,hra,_,hrc⟩
   ·cases h
   ·have h0:=hrc 0 (by simp)
    have hx:=ai wJ.box 0
    rw[e1,e2,hra]at hx
    exact ⟨rb,ro,fp 0,hx,by simpa using h0.2.1,by simpa[Nat.add_assoc] using h0.2.2.1,by simpa[Nat.add_assoc] using h0.2.2.2.1,by simpa[Nat.add_assoc] using h0.2.2.2.2,(tD 0 (by simp)).move (okS.at bB)⟩
  have rk:FormV (Lt X0 bL fv.drew) fv.drew qr.val f:=rk.move (show el (Lt X0 bL fv) (Lt X0 bL fv.drew) fv fv.drew from fun c h _=>⟨h,rfl⟩)
  have hT:Tabs WB fv.drew:=iU.next (eJ.drew)
  have F3:=F3.drew
  have F4:=F4.drew
  have F7:=F7.drew
  have wJ:=wJ.drew
  refine wpIn_seq_k (fun ZU FM=>?_)
  refine dM [aE (.int .i64 0),
   aE (.bool true),
   aE (.bool true),
   aE (.bool true),
   aE (.bool true),
   aE (.bool true),
   aE (.bool true),
   aE undef,
   aE undef,
   aE (.bool true),
   aE (.bool true),
   aE (.bool true),
   aE (.bool true),
   aE (.bool false),
   aE (.bool false),
   aE (.pointer (some ⟨DK,0,none⟩)),
   aE (.slice (some ⟨rb,ro,none⟩) 1 Om.c),
   aE (.int .i64 1),
   aE (.bool true),
   aE (.bool true),
   aE (.pointer (some ⟨DK,0,none⟩)),
   aE (.slice (some ⟨rb,ro,none⟩) 1 Om.c),
   aE (.pointer (some ⟨rb,ro,none⟩)),
   aE (.pointer (some ⟨rb,ro+1,none⟩)),
   aH X0 f,
   aH X0 f,
   aE (.bool true),
   aE (.bool true),
   aE (.bool true),
   aE (.bool true),
   aE (.bool true)]
   31 31 zx (by kernel_rfl) (by kernel_rfl) (fun k hk=>?_) (fun A14 γ K3 h=>?_)
  ·match k,hk with
   | 0,_=>exact au (aE (.int .i64 0)) 12 (old Dx)
   | 1,_=>exact bG rfl 69 (.int .i64 0) (.bool true) (am 0) (fun _ _ _ _=>by go_simp)
   | 2,_=>exact au (aE (.bool true)) 13 (old v_)
   | 3,_=>exact cr rfl 70 71 (.bool true) (.bool true) (.bool true) (am 1) (am 2) (fun _ _ _ _ _ _=>by go_simp)
   | 4,_=>exact au (aE (.bool true)) 72 (am 3)
   | 5,_=>exact au (aE (.bool true)) 13 (old v_) (hw:=aw 4 (am 4))
   | 6,_=>exact au (aE (.bool true)) 74 (am 5) (hw:=aw 4 (am 4))
   | 7,_=>exact dN false 6 (am 6)
   | 8,_=>exact dN false 6 (am 6)
   | 9,_=>exact bG rfl 75 (.bool true) (.bool true) (am 6) (fun _ _ _ _=>by go_simp) (hw:=aw 4 (am 4))
   | 10,_=>exact cr rfl 73 78 (.bool true) (.bool true) (.bool true) (am 4) (am 9) (fun _ _ _ _ _ _=>by go_simp)
   | 11,_=>exact au (aE (.bool true)) 79 (am 10)
   | 12,_=>exact au (aE (.bool true)) 13 (old v_) (hw:=aw 11 (am 11))
   | 13,_=>exact bG rfl 81 (.bool true) (.bool false) (am 12) (fun _ _ _ _=>by go_simp) (hw:=aw 11 (am 11))
   | 14,_=>exact au (aE (.bool false)) 82 (am 13) (hw:=aw 11 (am 11))
   | 15,_=>exact bG rfl 11 (ptr DK) (.pointer (some ⟨DK,0,none⟩)) (old wJ.slot) (fun _ _ _ _=>by go_simp) (hw:=aw 14 (am 14))
   | 16,_=>exact eV (by exact aw 14 (am 14)) rfl rfl (fun a γ wz aW=>by
     obtain ⟨v,e,rfl⟩:=aW.val 15 _ _ rfl rfl (by kernel_rfl)
     have e2:=bw e
     have c:=aW.inv.1.cell (a:=⟨DK,0,none⟩) (fun h=>h) ZW
     exact ⟨.slice (some ⟨rb,ro,none⟩) 1 Om.c,by go_simp,rfl⟩)
   | 17,_=>exact bG rfl 85 (.slice (some ⟨rb,ro,none⟩) 1 Om.c) (.int .i64 1) (am 16) (fun _ _ _ _=>by go_simp) (hw:=aw 14 (am 14))
   | 18,_=>exact bG rfl 86 (.int .i64 1) (.bool true) (am 17) (fun _ _ _ _=>by go_simp) (hw:=aw 14 (am 14))
   | 19,_=>exact au (aE (.bool true)) 87 (am 18) (hw:=aw 14 (am 14))
   | 20,_=>exact bG rfl 11 (ptr DK) (.pointer (some ⟨DK,0,none⟩)) (old wJ.slot) (fun _ _ _ _=>by go_simp) (hw:=aw 19 (am 19))
   | 21,_=>exact eV (by exact aw 19 (am 19)) rfl rfl (fun a γ wz aW=>by
     obtain ⟨v,e,rfl⟩:=aW.val 20 _ _ rfl rfl (by kernel_rfl)
     have e2:=bw e
     have c:=aW.inv.1.cell (a:=⟨DK,0,none⟩) (fun h=>h) ZW
     exact ⟨.slice (some ⟨rb,ro,none⟩) 1 Om.c,by go_simp,rfl⟩)
   | 22,_=>exact bG rfl 90 (.slice (some ⟨rb,ro,none⟩) 1 Om.c) (.pointer (some ⟨rb,ro,none⟩)) (am 21) (fun _ _ _ _=>by go_simp) (hw:=aw 19 (am 19))
   | 23,_=>exact bG rfl 91 (.pointer (some ⟨rb,ro,none⟩)) (.pointer (some ⟨rb,ro+1,none⟩)) (am 22) (fun _ _ _ _=>by go_simp) (hw:=aw 19 (am 19))
   | 24,_=>exact eV (by exact aw 19 (am 19)) rfl rfl (fun a γ wz aW=>by
     obtain ⟨v,e,rfl⟩:=aW.val 23 _ _ rfl rfl (by kernel_rfl)
     have e2:=bw e
     have C:=fun i v (h:fv.drew.cell? ⟨rb,i,none⟩=some v)=>aW.inv.1.cell (a:=⟨rb,i,none⟩) (fun h=>h) h
     have c0:=C _ _ hf0
     have c1:=C _ _ hf1
     have c2:=C _ _ Qi
     have c3:=C _ _ hf3
     exact ⟨FQ.val qr,by simp only[FQ.val];go_simp,⟨qr,rfl,rk.move (okB.old aW.inv)⟩⟩)
   | 25,_=>exact cd _ _ 3 F3.box (fun h=>h) (F3.at bB) (old F3.slot) (hw:=aw 19 (am 19))
   | 26,_=>exact sN f f J8 93 94 (am 24) (am 25) (hw:=aw 19 (am 19)) (hp:=vw (K_ f))
   | 27,_=>exact cr rfl 88 95 (.bool true) (.bool true) (.bool true) (am 19) (am 26) (fun _ _ _ _ _ _=>by go_simp) (hw:=aw 14 (am 14))
   | 28,_=>exact cr rfl 83 96 (.bool false) (.bool true) (.bool true) (am 14) (am 27) (fun _ _ _ _ _ _=>by go_simp) (hw:=aw 11 (am 11))
   | 29,_=>exact cr rfl 80 97 (.bool true) (.bool true) (.bool true) (am 11) (am 28) (fun _ _ _ _ _ _=>by go_simp)
   | 30,_=>exact bF (aE (.bool true)) 98 (am 29)
   | k+31,hk=>exact absurd hk (by simp)
  have Ol:=h.sz.trans zx
  have Ij:=h.df.trans Ii
  have FC:Below w.heap.size w K3:=aG eJ.drew h.inv.1 (fun _ h=>h.elim)
  have F3:=F3.nx (h.od 3) h.inv.1 bB
  have F4:=F4.nx (h.od 4) h.inv.1 bB
  exact pm84):G:=h
theorem pm161(h:G:=by
 simp only[PlQ.val,PlQ.cells]
 go_enter Tryz.func48,Tryz.ntmps48
 first
 |clear pp161a
  go_wp2
  rw[<-lI.o]
  go_region
  all_goals
   rw[<-aY]
   clear aY
   go_wp2
   go_ret
   exact StepPost.bad HE.o (by decide) (Kp.below bZ.o)
 |clear pp161b
  go_wp2
  rw[<-lI.o]
  go_cut [5,6] from 17 to 27 (fun s5 s6 wx=>s5=.pointer (some ⟨W1.heap.size,0,none⟩)/\s6=.bool true/\wx=W2)
  case first=>
   go_region
   all_goals
    rw[<-aY]
    go_wp2_with fail
    go_meet
    exact ⟨rfl,rfl,rfl⟩
  case rest=>
  obtain ⟨h5,h6,hw⟩:=hcut
  rw[h5,h6,hw]
  clear h5 h6 hw wc aY l1 l2 g0 g1 g3 g4 g5 P0 P1 P2 P3 P4 P5 P6 P7 P8
  obtain ⟨P0,P1,P2,P3,P4,P5,P6,P7⟩:=zP H2.o.2.2.2
  have P8:=ai H2.o.2.2.2 8
  obtain ⟨e0,e1,e2,e3,_,_,_,_⟩:=cW H2.o.2.2.1
  cases I with
  | none=>
   have HE:=ab (show R=(k,70) from Hq.o)
   exact pm178
  | some im=>
  have TR:=ab (show R=if gF cF f=0 then (if bT [] f im=true then (k,0) else (k,70))
   else match (match getB k.ts y with | some t=>some (t,k.ts) | none=>(iZ f im cF).map fun t=>(t,gw y t k.ts)) with
    | none=>(k,70)
    | some (t,ts)=>if (nodesF f+gF cF f * (nodesT t - 1) != nodesF im)=true then ({ k with ts:=ts },70)
     else if bT [] (gS cF t f) im=true then ({ k with ts:=ts },0) else ({ k with ts:=ts },70) from Hq.o)
  have Kr:=ab (fun (V:World) (h:Below W2.heap.size W2 V)=>ik cF f wk.o.1.fit _ V ⟨Cs,Ct,Cu,Cv,Cw,Cx,Cy,Cz⟩ (wk.o.2.later h))
  simp only[FQ.val]at Kr
  obtain ⟨n0,rN⟩:=ao (gF cF f)
  rw[<-rN]at TR Kr
  have HN0:=ab rN
  clear rN Hq
  have d16:(16:Int)=16:=rfl
  clear d16
  go_upto_region 9 with (go_at_call 91;refine HC.o.mono ?_;rintro e w4 ⟨⟨⟨p0,p1,p2,p3,p4,p5,p6,p7⟩,rfl,hp⟩,aN⟩;have H4:=aF (hp _ rfl) aN;clear hp aN;simp only[Option.isSome])
  obtain ⟨W5,eo⟩:=ao (w4.alloc (.cells #[.int .u8 p0,.string p1,.slice p2 p3 p4,.slice p5 p6 p7] 36))
  rw[<-eo]
  have nW:=cB eo
  have CY:Below W2.heap.size W2 W5:=H4.o.2.tr nW
  have x5:=bN eo
  have EU:FormV (fun b=>¬M b/\b≠W1.heap.size) W5 (FQ.val ⟨p0,p1,p2,p3,p4,p5,p6,p7⟩) im:=H4.o.1.move (fun b hb hlt=>⟨⟨fun hm=>by have:=HG.o.2.2.2.2 b hm;have:=H2.o.2.1.size;omega,by have:=vK.o.2.2.2.1;omega⟩,nW.block b hlt⟩)
  have RK:=Ru.o im rfl
  have H5:=ce CY x5 EU RK
  have HT7:=ab (show W1.heap.size≠w4.heap.size by have:=vK.o.2.2.2.1;have:=H4.o.2.size;omega)
  have qd:=ab eo
  clear P0 P1 P2 P3 P4 P5 P6 P7 P8 e0 e1 e2 e3 nW CY x5 EU RK eo
  have Ye:=bC H5.o.1 H2.o.2.2.2
  obtain ⟨P0,P1,P2,P3⟩:=lF Ye
  have za8:=ab (XO.o W5 (H2.o.1.tr H5.o.1))
  go_upto_region 10 with (go_at_call 96;refine za8.o.mono ?_;rintro e w6 ⟨rfl,cD⟩;have H6:=ab cD;clear cD)
  clear P0 P1 P2 P3 Ye
  have TS:Below W2.heap.size W2 w6:=H5.o.1.tr H6.o
  have Xq:=bC TS H2.o.2.2.1
  obtain ⟨e0,e1,e2,e3,_,_,_,_⟩:=cW Xq
  have za9:=ab (Kr.o w6 TS)
  clear TS Xq
  go_upto_region 11 with (go_at_call 97;refine za9.o.mono ?_;rintro e w7 ⟨rfl,eT⟩;have H7:=ab eT;clear eT)
  clear e0 e1 e2 e3
  have Nq:Below W2.heap.size W2 w7:=(H5.o.1.tr H6.o).tr H7.o
  have Hr:Below W5.heap.size W5 w7:=H6.o.tr H7.o
  have x27:=bC Nq H2.o.2.2.1
  have x57:=bC Hr H5.o.2.1
  obtain ⟨e0,e1,e2,e3,z0,z1,z2,z3⟩:=cW x27
  obtain ⟨f0,f1,f2,f3,_,_,_,_⟩:=cW x57
  have Fk:=ce Nq x27 x57 (H5.o.2.2.1.later Hr)
  have RI:=ab (Wy.o.later Nq)
  have P':=ab (wk.o.2.later Nq)
  clear Nq Hr x27 x57
  by_cases h0:n0=0
  ·subst h0
   obtain ⟨bb,cv⟩:=ao (bT [] f im)
   have hE:=TR.o
   rw[if_pos rfl,<-cv]at hE
   have HE:=ab hE
   have CA:=sj f im [] (.slice none 0 0) _ _ w7 ⟨Cs,Ct,Cu,Cv,Cw,Cx,Cy,Cz⟩ ⟨p0,p1,p2,p3,p4,p5,p6,p7⟩ (by have:=wk.o.1.nodes;simp[dK];omega) wk.o.1.fit P'.o Fk.o.2.2.2 (PairsV.nil w7)
   simp only[FQ.val,List.reverse_nil,<-cv]at CA
   have CG:=ab CA
   clear hE CA cv
   cases bb
   ·go_wp2_with (go_at_call 92;refine CG.o.mono ?_;rintro e w8 ⟨rfl,f_⟩;have H8:=ab f_;clear f_)
    go_ret
    exact StepPost.bad HE.o (by decide) (Kp.below (H2.o.2.1.tr (Fk.o.1.tr H8.o)))
   ·go_wp2_with (go_at_call 92;refine CG.o.mono ?_;rintro e w8 ⟨rfl,f_⟩;have H8:=ab f_;clear f_)
    go_ret
    exact StepPost.good nF nT HE.o (Kp.below (H2.o.2.1.tr (Fk.o.1.tr H8.o))) (by omega) (by omega) ((RI.o.later H8.o).move (fun b hb _=>⟨hb.1,rfl⟩) rfl rfl rfl)
  have P_:=TR.o
  rw[if_neg h0]at P_
  have tN:=ab (show n0<=400/\0<n0 by have:=wk.o.1.nodes;have:=nn cF f;have:=HN0.o;omega)
  have nQ:(0:Int)<(n0:Int):=by omega
  have zb9:=HF.o.2.2.1
  have k0:w7.cell? ⟨kb,1,none⟩=some (.map (some mT)):=ai RI.o.box 1
  clear h0
  rcases RI.o.ts.look Tryz.underlying9 Tryz.underlying146 iG (x:=y) (by omega) with ⟨hg,hlk⟩ | ⟨t,vt,hg,hvt,hlk⟩
  ·have l1:=(hlk w7 rfl).1
   clear hlk
   go_upto_region 14 with fail
   clear k0 l1 nQ e0 e1 e2 e3 z0 z1 z2 z3 f0 f1 f2 f3
   obtain ⟨W8,kH⟩:=ao (w7.alloc (.cells #[.bool false,.string ⟨#[]⟩,.slice none 0 0] 43))
   rw[<-kH]
   have q_:=cB kH
   have x8:=bN kH
   have VI:=bC q_ Fk.o.2.1
   have VJ:=bC q_ Fk.o.2.2.1
   obtain ⟨e0,e1,e2,e3,_,_,_,_⟩:=cW VI
   obtain ⟨f0,f1,f2,f3,_,_,_,_⟩:=cW VJ
   have CF:=J' f im cF wk.o.1.fit H5.o.2.2.2.fit (KG f (by have:=HN0.o;have:=tN.o;omega)) (fun b=>(¬M b/\b≠W1.heap.size)/\b<w7.heap.size) W8 ⟨Cs,Ct,Cu,Cv,Cw,Cx,Cy,Cz⟩ ⟨p0,p1,p2,p3,p4,p5,p6,p7⟩ (P'.o.move (fun b hb hlt=>⟨⟨hb,hlt⟩,q_.block b hlt⟩)) (Fk.o.2.2.2.move (fun b hb hlt=>⟨⟨hb,hlt⟩,q_.block b hlt⟩))
   obtain ⟨FS,hFS⟩:=ao (iZ f im cF)
   rw[hg,<-hFS]at P_
   rw[<-hFS]at CF
   simp only[FQ.val]at CF
   have DG:=ab CF
   have H8:=ce q_ x8 VI VJ
   obtain ⟨HG0,HFS⟩:=aS hg hFS
   clear CF kH q_ x8 VI VJ hg hFS
   cases FS with
   | none=>
    have HE:=ab (show R=(k,70) from P_)
    clear P_
    go_wp2_with (go_at_call 98;refine DG.o.mono ?_;rintro e w9 ⟨⟨⟨M5,M6,M7,M8,M9⟩,rfl,ht⟩,kG⟩;have x9:=bC kG H8.o.2.1;obtain ⟨s0,s1,s2,v0,v1,v2⟩:=fI x9;have H9:=aF kG x9;clear ht kG x9;simp only[TQ.val,Option.isSome])
    obtain ⟨kJ,wl,Ci,ME,_⟩:=rQ H9.o.2 (.bool M5) (.string M6) (.slice M7 M8 M9)
    rw[<-wl]
    have zba:=ab (Ho (M:=N2 mF mT) (Kp.below ((H2.o.2.1.tr (Fk.o.1.tr H8.o.1)).tr H9.o.1)) ME (by have:=H2.o.2.1.size;have:=Fk.o.1.size;omega))
    clear wl Ci ME
    go_ret
    exact StepPost.bad HE.o (by decide) zba.o
   | some t=>
    have Jf:goodT t:=G8 H5.o.2.2.2.ok H5.o.2.2.2.nodes HFS.o.symm
    have HE8:=ab (show R=if (nodesF f+n0 * (nodesT t - 1) != nodesF im)=true then ({ k with ts:=gw y t k.ts },70) else if bT [] (gS cF t f) im=true then ({ k with ts:=gw y t k.ts },0) else ({ k with ts:=gw y t k.ts },70) from P_)
    have HGt:=ab Jf
    clear P_ Jf
    go_upto_region 17 with (go_at_call 98;refine DG.o.mono ?_;rintro e w9 ⟨⟨⟨M5,M6,M7,M8,M9⟩,rfl,ht⟩,kG⟩;have x9:=bC kG H8.o.2.1;obtain ⟨s0,s1,s2,v0,v1,v2⟩:=fI x9;have H9:=bx kG x9 (ht t rfl);clear ht kG x9;simp only[TQ.val,Option.isSome])
    clear s0 s1 s2 v0 v1 v2 e0 e1 e2 e3 f0 f1 f2 f3
    obtain ⟨kJ,wl,Ci,ME,y0,y1,y2⟩:=rQ H9.o.2.1 (.bool M5) (.string M6) (.slice M7 M8 M9)
    rw[<-wl]
    have zbb:w7.heap.size<W8.heap.size:=(bl H8.o.2.1)
    have TT:Below w7.heap.size w7 kJ:=Below.kp1 (H8.o.1.tr H9.o.1) ME (Nat.le_refl _)
    have RU:Below kJ.heap.size kJ kJ.drew:=(Below.refl _ _).drew
    have TU:TermV (fun b=>¬M b/\b≠W1.heap.size) kJ (TQ.val ⟨M5,M6,M7,M8,M9⟩) t:=H9.o.2.2.move (fun b hb hlt=>⟨hb.2.1,ME.same b hlt (by have:=hb.2.2;omega)⟩)
    have Bt:=RI.o.later TT
    obtain ⟨Aq,cw,vh,yQ,uf⟩:=(Bt.later RU).storeT (fun h=>h.1 HG.o.2.1) (by have:=HB.o.2.1;omega) (x:=y) (by omega) (TU.later RU) HGt.o (l':=gw y t k.ts) (fun z=>ym HG0.o z)
    have k0:kJ.cell? ⟨kb,1,none⟩=some (.map (some mT)):=ai Bt.box 1
    obtain ⟨k1,y3,y4,y5⟩:=lg RU k0 y0 y1 y2
    have Bu:Below w7.heap.size w7 kJ.drew:=TT.tr RU
    have c9:∀ b,¬M b->b≠mT:=fun b hb e=>hb (e ▸ HG.o.2.1)
    have uO:∀ b o,w7.heap[b]?=some o->b≠mT->Aq.heap[b]?=some o:=fun b o h jt=>(yQ.same b (by have:=(bl h);have:=Bu.size;omega) jt).trans ((Bu.block b (bl h)).trans h)
    have zbc:=vK.o.2.2.1
    have x5':=uO _ _ Fk.o.2.1 (by omega)
    have x7':=uO _ _ Fk.o.2.2.1 (by have:=HT7.o;have:=H4.o.2.size;have:=vK.o.2.2.2.1;omega)
    have xt':=(yQ.same _ (by have:=(bl Ci);have:=RU.size;omega) (by have:=Fk.o.1.size;have:=vK.o.2.2.2.1;omega)).trans (bC RU Ci)
    have DD:Kp (N2 mF mT) W Aq:=(Kp.below (H2.o.2.1.tr (Fk.o.1.tr Bu))).trans (yQ.mono (fun b _ h=>.inr h))
    have lD:=ab (OX (an3 x5' x7' xt') DD HGt.o vh ((P'.o.later Bu).move (fun b hb hlt=>⟨hb,yQ.same b hlt (c9 b hb.1)⟩)) ((Fk.o.2.2.2.later Bu).move (fun b hb hlt=>⟨hb,yQ.same b hlt (c9 b hb.1)⟩)) ((TU.later RU).move (fun b hb hlt=>⟨hb,yQ.same b hlt (c9 b hb.1)⟩)))
    unfold TQ.val at cw
    clear zbb TT RU TU Bt vh yQ uf Bu c9 uO zbc x5' x7' xt' DD Ci ME wl
    go_region
    all_goals
     go_upto_region 18 with fail
     clear k0 k1 y0 y1 y2 y3 y4 y5 cw
     obtain ⟨nt,tU⟩:=ao (nodesT t)
     obtain ⟨nf,wE⟩:=ao (nodesF f)
     obtain ⟨ni,Qa⟩:=ao (nodesF im)
     obtain ⟨m1,iR⟩:=ao (nt - 1)
     obtain ⟨m2,we⟩:=ao (n0 * m1)
     obtain ⟨m3,OR⟩:=ao (nf+m2)
     have RM:1<=nt:=by rw[tU];exact iq t
     have ye:nt<=1000:=by rw[tU];exact lD.o.2.2.1.2
     have hp3:nf<=400:=by rw[wE];exact wk.o.1.nodes
     have hp4:ni<=400:=by rw[Qa];exact H5.o.2.2.2.nodes
     have nU:m2<=400 * 1000:=by rw[we];exact Nat.mul_le_mul tN.o.1 (by omega)
     have vP:IntKind.i64.wrap ((nt:Int) - 1)=(m1:Int):=by rw[IntWalk.i64_in _ (by omega)];omega
     have Lh:IntKind.i64.wrap ((n0:Int) * (m1:Int))=(m2:Int):=by rw[show (n0:Int) * (m1:Int)=(m2:Int) by rw[we];simp];exact IntWalk.i64_in _ (by omega)
     have TG:IntKind.i64.wrap ((nf:Int)+(m2:Int))=(m3:Int):=by rw[IntWalk.i64_in _ (by omega)];omega
     have TV:=fun (x:Later Aq)=>jF f wk.o.1.fit _ x.w ⟨Cs,Ct,Cu,Cv,Cw,Cx,Cy,Cz⟩ (lD.o.2.2.2.2.1.later x.below)
     have TW:=fun (x:Later Aq)=>jF im H5.o.2.2.2.fit _ x.w ⟨p0,p1,p2,p3,p4,p5,p6,p7⟩ (lD.o.2.2.2.2.2.1.later x.below)
     have TX:=fun (x:Later Aq)=>jO t lD.o.2.2.1.fit (by have:=lD.o.2.2.1.2;omega) _ x.w ⟨M5,M6,M7,M8,M9⟩ (lD.o.2.2.2.2.2.2.later x.below)
     simp only[FQ.val,TQ.val,<-wE,<-Qa,<-tU]at TV TW TX
     obtain ⟨HCf,HCi,VF⟩:=cf TV TW TX
     have TY:=HE8.o
     rw[<-wE,<-Qa,<-tU,<-iR,<-we,<-OR]at TY
     have HE1:=ab TY
     obtain ⟨f0,f1,f2,f3,_,_,_,_⟩:=cW lD.o.1.1
     obtain ⟨i0,i1,i2,i3,_,_,_,_⟩:=cW lD.o.1.2.1
     obtain ⟨s0,s1,s2,_,_,_⟩:=fI lD.o.1.2.2
     have q0:=fun x:Later Aq=>x.get f0
     have q1:=fun x:Later Aq=>x.get f1
     have q2:=fun x:Later Aq=>x.get f2
     have q3:=fun x:Later Aq=>x.get f3
     have q4:=fun x:Later Aq=>x.get i0
     have q5:=fun x:Later Aq=>x.get i1
     have q6:=fun x:Later Aq=>x.get i2
     have q7:=fun x:Later Aq=>x.get i3
     have q8:=fun x:Later Aq=>x.get s0
     have q9:=fun x:Later Aq=>x.get s1
     have q10:=fun x:Later Aq=>x.get s2
     clear TV TW TX TY tU wE Qa iR we OR RM ye hp3 hp4 nU f0 f1 f2 f3 i0 i1 i2 i3 s0 s1 s2
     refine aM (by kernel_rfl) (by kernel_rfl) ?_
     iterate 2 (go_big_quiet_step ((go_at_call 99;exact bM (HCf.o _))))
     iterate 7 (go_big_quiet_step ((go_at_call 100;exact bM (VF.o _))))
     iterate 2 (go_big_quiet_step ((go_at_call 99;exact bM (HCi.o _))))
     refine wpQuiet_nil ?_
     rintro _ ⟨x',rfl⟩
     obtain ⟨W9,pM⟩:=ao x'.w
     have kG:Below Aq.heap.size Aq W9:=by rw[pM];exact x'.below
     rw[<-pM]
     clear pM q0 q1 q2 q3 q4 q5 q6 q7 q8 q9 q10 vP Lh TG x'
     have yR:Kp (N2 mF mT) W W9:=lD.o.2.1.trans (Kp.below kG)
     have Qb:=bC kG lD.o.1.1
     have TZ:=bC kG lD.o.1.2.1
     have T0:=bC kG lD.o.1.2.2
     have Hs:=HE1.o
     by_cases jt:m3=ni
     ·rw[if_neg (by simp[jt])]at Hs
      subst jt
      have pp41:=();exact pm41
     ·rw[if_pos (by simp[jt])]at Hs
      exact pm176
  ·obtain ⟨⟨M5,M6,M7,M8,M9⟩,rfl,nV,SP⟩:=hvt
   simp only[TQ.val]at hlk
   have l1:=(hlk w7 rfl).1
   clear hlk
   go_upto_region 18 with fail
   clear k0 l1 nQ
   obtain ⟨W8,kH⟩:=ao (w7.alloc (.cells #[.bool M5,.string M6,.slice M7 M8 M9] 43))
   rw[<-kH]
   have q_:=cB kH
   have x8:=bN kH
   have VI:=bC q_ Fk.o.2.1
   have VJ:=bC q_ Fk.o.2.2.1
   rw[hg]at P_
   have HE8:=ab (show R=if (nodesF f+n0 * (nodesT t - 1) != nodesF im)=true then ({ k with ts:=k.ts },70) else if bT [] (gS cF t f) im=true then ({ k with ts:=k.ts },0) else ({ k with ts:=k.ts },70) from P_)
   have lD:=ab (OX (an3 VI VJ x8) (Kp.below (M:=N2 mF mT) (H2.o.2.1.tr (Fk.o.1.tr q_))) SP (RI.o.later q_) (P'.o.later q_) (Fk.o.2.2.2.later q_) (nV.later q_))
   clear kH q_ x8 VI VJ P_ SP nV e0 e1 e2 e3 z0 z1 z2 z3 f0 f1 f2 f3 hg
   obtain ⟨nt,tU⟩:=ao (nodesT t)
   obtain ⟨nf,wE⟩:=ao (nodesF f)
   obtain ⟨ni,Qa⟩:=ao (nodesF im)
   obtain ⟨m1,iR⟩:=ao (nt - 1)
   obtain ⟨m2,we⟩:=ao (n0 * m1)
   obtain ⟨m3,OR⟩:=ao (nf+m2)
   have RM:1<=nt:=by rw[tU];exact iq t
   have ye:nt<=1000:=by rw[tU];exact lD.o.2.2.1.2
   have hp3:nf<=400:=by rw[wE];exact wk.o.1.nodes
   have hp4:ni<=400:=by rw[Qa];exact H5.o.2.2.2.nodes
   have nU:m2<=400 * 1000:=by rw[we];exact Nat.mul_le_mul tN.o.1 (by omega)
   have vP:IntKind.i64.wrap ((nt:Int) - 1)=(m1:Int):=by rw[IntWalk.i64_in _ (by omega)];omega
   have Lh:IntKind.i64.wrap ((n0:Int) * (m1:Int))=(m2:Int):=by rw[show (n0:Int) * (m1:Int)=(m2:Int) by rw[we];simp];exact IntWalk.i64_in _ (by omega)
   have TG:IntKind.i64.wrap ((nf:Int)+(m2:Int))=(m3:Int):=by rw[IntWalk.i64_in _ (by omega)];omega
   have TV:=fun (x:Later W8)=>jF f wk.o.1.fit _ x.w ⟨Cs,Ct,Cu,Cv,Cw,Cx,Cy,Cz⟩ (lD.o.2.2.2.2.1.later x.below)
   have TW:=fun (x:Later W8)=>jF im H5.o.2.2.2.fit _ x.w ⟨p0,p1,p2,p3,p4,p5,p6,p7⟩ (lD.o.2.2.2.2.2.1.later x.below)
   have TX:=fun (x:Later W8)=>jO t lD.o.2.2.1.fit (by have:=lD.o.2.2.1.2;omega) _ x.w ⟨M5,M6,M7,M8,M9⟩ (lD.o.2.2.2.2.2.2.later x.below)
   simp only[FQ.val,TQ.val,<-wE,<-Qa,<-tU]at TV TW TX
   obtain ⟨HCf,HCi,VF⟩:=cf TV TW TX
   have TY:=HE8.o
   rw[<-wE,<-Qa,<-tU,<-iR,<-we,<-OR]at TY
   have HE1:=ab TY
   obtain ⟨f0,f1,f2,f3,_,_,_,_⟩:=cW lD.o.1.1
   obtain ⟨i0,i1,i2,i3,_,_,_,_⟩:=cW lD.o.1.2.1
   obtain ⟨s0,s1,s2,_,_,_⟩:=fI lD.o.1.2.2
   have q0:=fun x:Later W8=>x.get f0
   have q1:=fun x:Later W8=>x.get f1
   have q2:=fun x:Later W8=>x.get f2
   have q3:=fun x:Later W8=>x.get f3
   have q4:=fun x:Later W8=>x.get i0
   have q5:=fun x:Later W8=>x.get i1
   have q6:=fun x:Later W8=>x.get i2
   have q7:=fun x:Later W8=>x.get i3
   have q8:=fun x:Later W8=>x.get s0
   have q9:=fun x:Later W8=>x.get s1
   have q10:=fun x:Later W8=>x.get s2
   clear TV TW TX TY tU wE Qa iR we OR RM ye hp3 hp4 nU f0 f1 f2 f3 i0 i1 i2 i3 s0 s1 s2
   refine aM (by kernel_rfl) (by kernel_rfl) ?_
   iterate 2 (go_big_quiet_step ((go_at_call 99;exact bM (HCf.o _))))
   iterate 7 (go_big_quiet_step ((go_at_call 100;exact bM (VF.o _))))
   iterate 2 (go_big_quiet_step ((go_at_call 99;exact bM (HCi.o _))))
   refine wpQuiet_nil ?_
   rintro _ ⟨x',rfl⟩
   obtain ⟨W9,pM⟩:=ao x'.w
   have kG:Below W8.heap.size W8 W9:=by rw[pM];exact x'.below
   rw[<-pM]
   clear pM q0 q1 q2 q3 q4 q5 q6 q7 q8 q9 q10 vP Lh TG x'
   have yR:Kp (N2 mF mT) W W9:=lD.o.2.1.trans (Kp.below kG)
   have Qb:=bC kG lD.o.1.1
   have TZ:=bC kG lD.o.1.2.1
   have T0:=bC kG lD.o.1.2.2
   have Hs:=HE1.o
   by_cases jt:m3=ni
   ·rw[if_neg (by simp[jt])]at Hs
    subst jt
    exact pm41
   ·rw[if_pos (by simp[jt])]at Hs
    exact pm176
 |rw[lI.o]at P0 P1 P2 P3 P4 P5 P6 P7 P8
  go_wp2
  rw[<-lI.o]
  go_ret
  exact StepPost.good nF nT HE.o (Kp.below FX.o.1) (by omega) (by omega) FX.o.2):G:=h
theorem pm162(h:G:=by
 go_enter Tryz.func273,Tryz.ntmps273
 go_wp2_with (go_at_call 287;refine (HC0.o _).mono ?_;rintro e w2 ⟨rfl,rfl⟩)
 first
 |clear pp162
  go_loopw [20] (fun i wr=>∃k:Nat,k<=k0/\i=.int .i64 k/\Below w2.heap.size w2 wr/\R=yk (l.drop k) (m.drop k)) (fun i _=>k0 - (intOf i).toNat)
  case atStart=>exact ⟨0,Nat.zero_le _,rfl,Below.refl _ _,by simpa using HR.o⟩
  case round=>
   have pp301c:=();exact pm301
 |go_ret
  exact ⟨rfl,Below.refl _ _⟩):G:=h
theorem pm163(h:G:=by
 go_enter Tryz.func115,Tryz.ntmps115
 go_wp2
 go_ret
 exact ⟨rfl,rfl⟩):G:=h
theorem pm164(h:G:=by
 go_upto_region 8 with (go_at_call 97;refine VE.o.mono ?_;rintro e w5 ⟨rfl,a_⟩;have H5:=ab a_;clear a_)
 clear j0 j1 j2 j3
 have y5:=bC H5.o H3.o.2.1
 have YG:=bC (H3.o.1.tr H5.o) HB.o.2.2.2.1
 first
 |clear pp164
  subst h0
  clear rq
  obtain ⟨j0,j1,j2,j3,_,_,_,_⟩:=cW y5
  have HC6:=ab (ll.o w5 H5.o)
  have HX5:=ab YG
  have HR5:=ab (show RS=f by rw[HB.o.2.2.2.2,if_pos rfl])
  clear y5 YG
  go_wp2_with (go_at_call 51;refine HC6.o.mono ?_;rintro e w6 ⟨⟨p0,p1,p2,p3,p4,p5,p6,p7⟩,rfl,hp,cD⟩;have OU:=bC cD HX5.o;have Hw:=ab OU;obtain ⟨i0,i1,i2,i3,q0,q1,q2,q3⟩:=cW OU;have H6:=aF cD hp;clear cD hp OU)
  have x6:=kf (v0:=.int .u8 p0) (v1:=.string p1) (v2:=.slice p2 p3 p4) (v3:=.slice p5 p6 p7) Hw.o
  have k6:=di (W:=w6) (b:=w.heap.size+1) (v0:=.int .u8 p0) (v1:=.string p1) (v2:=.slice p2 p3 p4) (v3:=.slice p5 p6 p7)
  obtain ⟨W6,cM⟩:=ao ((((w6.setCell ⟨w.heap.size+1,0,none⟩ (.int .u8 p0)).setCell ⟨w.heap.size+1,1,none⟩ (.string p1)).setCell ⟨w.heap.size+1,2,none⟩ (.slice p2 p3 p4)).setCell ⟨w.heap.size+1,3,none⟩ (.slice p5 p6 p7))
  rw[<-cM]at x6 k6 ⊢
  clear cM
  have g0:W6.cell? ⟨w.heap.size+1,0,none⟩=some (.int .u8 p0):=ai x6 0
  have g1:W6.cell? ⟨w.heap.size+1,1,none⟩=some (.string p1):=ai x6 1
  have g2:W6.cell? ⟨w.heap.size+1,2,none⟩=some (.slice p2 p3 p4):=ai x6 2
  have g3:W6.cell? ⟨w.heap.size+1,3,none⟩=some (.slice p5 p6 p7):=ai x6 3
  have sI:=Di (p:=⟨p0,p1,p2,p3,p4,p5,p6,p7⟩) (B:=w.heap.size+1) (HB.o.1.tr (H3.o.1.tr (H5.o.tr H6.o.1))) (by omega) k6 (H6.o.2.move (fun b hok _=>⟨by have h1:=HB.o.2.1;have h2:=H3.o.1.size;have h3:=H5.o.size;have h:w5.heap.size<=b:=hok;omega,rfl⟩))
  refine bodyPost_ret (v:=FQ.val ⟨p0,p1,p2,p3,p4,p5,p6,p7⟩) (by simp[FQ.val,results,Tryz.results72,go_sem,g0,g1,g2,g3]) rfl ⟨⟨⟨p0,p1,p2,p3,p4,p5,p6,p7⟩,rfl,?_⟩,sI.2⟩
  rw[HR5.o]
  exact sI.1
 |have pp147:=();exact pm147):G:=h
theorem pm165(h:G:=by
 obtain ⟨b,off,u,rfl,gV,hu,c0,c1,c2,c3⟩:=fg.o.get bc
 exact pm244):G:=h
theorem pm166(h:G:=by
 go_wp2
 go_loopw [8] (fun i wr=>∃k:Nat,k<=k0/\i=.int .i64 k/\Below w.heap.size w wr/\∀ t∈l.take k,pr t=false) (fun i _=>k0 - (intOf i).toNat)
 case atStart=>exact ⟨0,Nat.zero_le _,rfl,Below.refl _ _,by simp⟩
 first
 |clear pp166
  case round=>
   obtain ⟨k,hk,rfl,az,fP⟩:=hrel
   by_cases hlt:k<k0
   ·have bc:=bR HK.o hlt
    obtain ⟨b,off,⟨xv,xn,xa,xl,xc⟩,rfl,hok,hx,c0,c1,c2⟩:=HV.o.get bc
    simp only at c0 c1 c2
    obtain ⟨d0,d1,d2⟩:=iM az c0 c1 c2
    have CB:=HP.o l[k] (List.getElem_mem bc) _ wr ⟨xv,xn,xa,xl,xc⟩ (XM.o.tr az) (hx.later az)
    simp only[TQ.val]at CB
    have Ip:(k:Int)<(k0:Int):=by omega
    cases hq:pr l[k] with
    | true=>
     rw[hq]at CB
     have HC:=ab CB
     have HE:=ab (show l.any pr=true from List.any_eq_true.2 ⟨_,List.getElem_mem bc,hq⟩)
     have pp199:=();exact pm199
    | false=>
     rw[hq]at CB
     have HC:=ab CB
     have GN:=ab (show ∀ t∈l.take (k+1),pr t=false by
      intro t hm
      rw[List.take_add_one,List.getElem?_eq_getElem bc]at hm
      rcases List.mem_append.1 hm with h | h
      ·exact fP t h
      ·obtain rfl:t=l[k]:=by simpa using h
       exact hq)
     exact pm199
   ·obtain rfl:k=k0:=by omega
    have HE:=ab (show l.any pr=false by
     rw[HK.o,List.take_length]at fP
     rw[List.any_eq_false]
     intro t ht
     rw[fP t ht];simp)
    have HB:=ab az
    clear az fP
    go_wp2
    go_ret
    exact ⟨⟨_,rfl,by rw[HE.o];simp⟩,HB.o⟩
 |case round=>
   obtain ⟨k,hk,rfl,az,fP⟩:=hrel
   by_cases hlt:k<k0
   ·have bc:=bR HK.o hlt
    obtain ⟨b,off,rfl,hok,c0⟩:=HV.o.get bc
    have d0:=aa az c0
    have CB:=HP.o l[k] wr (List.getElem_mem bc) az
    have Ip:(k:Int)<(k0:Int):=by omega
    cases hq:pr l[k] with
    | true=>
     rw[hq]at CB
     have HC:=ab CB
     have HE:=bx hq fP (List.getElem?_eq_getElem bc)
     have pp255:=();exact pm255
    | false=>
     rw[hq]at CB
     have HC:=ab CB
     have GN:=ab (TI bc fP hq)
     exact pm255
   ·obtain rfl:k=k0:=by omega
    have HE:=ab (show ∀ x∈l,pr x=false by
     rw[HK.o,List.take_length]at fP
     exact fP)
    have HB:=ab az
    clear az fP
    go_wp2
    go_ret
    exact ⟨.inl ⟨rfl,HE.o⟩,HB.o⟩):G:=h
theorem pm167(h:G:=by
 go_enter Tryz.func95,Tryz.ntmps95
 first
 |clear pp167a
  go_wp2_with (first | (rw[<-vW.o];go_at_call 119;refine qP.o.mono ?_;rintro e w4 ⟨rfl,aN⟩;have p0:=aa aN P0;have p1:=aa aN P1;have p2:=aa aN P2;have p3:=aa aN P3;have p4:=aa aN P4;have p5:=aa aN P5;have p6:=aa aN P6;have p7:=aa aN P7;have p8:=aa aN P8;have q1:=aa aN e1;have q0:=aa aN e0;have H4:=ab aN;clear aN) | (go_at_call 163;refine (PD.o w4 H4.o).mono ?_;rintro e w5 ⟨rfl,a_⟩;have H5:=ab (H4.o.tr a_);have t0:=aa (H4.o.tr a_) e0;have u0:=aa (H4.o.tr a_) f0;have t1:=aa (H4.o.tr a_) e1;have u1:=aa (H4.o.tr a_) f1;have t2:=aa (H4.o.tr a_) e2;have u2:=aa (H4.o.tr a_) f2;clear a_))
  first
  |clear pp8a
   clear p0 p1 p2 p3 p4 p5 p6 p7 p8 q0 q1
   obtain ⟨S,hS⟩:∃S:World->Prop,S=fun V=>Below w5.heap.size w5 V:=⟨_,rfl⟩
   have s1:∀ V,S V->V.cell? ⟨W.heap.size+1,1,none⟩=some (.string ⟨n.toArray⟩):=fun V h=>by rw[hS]at h;exact aa h t1
   have v0:∀ V,S V->V.cell? ⟨W.heap.size+1+1,0,none⟩=some (.bool uv)/\V.cell? ⟨W.heap.size+1+1,1,none⟩=some (.string ⟨n'.toArray⟩)/\V.cell? ⟨W.heap.size+1+1,2,none⟩=some (.slice ua n2 uc):=fun V h=>by rw[hS]at h;exact ⟨aa h u0,aa h u1,aa h u2⟩
   have dB:S w5.drew:=by rw[hS];exact (Below.refl _ _).drew
   have dr:=ab hS
   clear hS t0 t1 t2 u0 u1 u2
   have jb:∀ f,Fence.wide.fn f:=fun _=>trivial
   refine (wpIn_wide (n:=3)).1 ?_
   refine br S 5 (by kernel_rfl) dB (fun jr dt=>?_)
   refine dc 0 56 (.agg #[.bool uv,.string ⟨n'.toArray⟩,.slice ua n2 uc]) rfl (fun V hX=>by obtain ⟨h0,h1,h2⟩:=v0 V hX;go_simp) dt fun eC=>?_
   simp only[ak]
   refine bS 1 57 (.pointer (some ⟨W.heap.size+1,1,none⟩)) rfl eC fun eX=>?_
   simp only[ak]
   refine dc 2 58 (.string ⟨n.toArray⟩) rfl (fun V hX=>by have h0:=s1 V hX;go_simp) eX fun fM=>?_
   simp only[ak]
   refine b_ 3 rfl fun K hK=>?_
   go_simp
   refine callsIn_wide.2 ((ew n w5.drew (by have:=Gp.o;omega)).mono ?_)
   rintro e w6 ⟨rfl,rfl⟩
   refine hK _ _ (fun _=>dB) (fun _=>?_)
   clear hK K
   refine b_ 4 rfl fun K hK=>?_
   go_simp
   refine callsIn_wide.2 ((fF (cH n) w5.drew).mono ?_)
   rintro e w7 ⟨rfl,eT⟩
   refine hK _ _ (fun _=>by rw[dr.o];exact (Below.refl _ _).drew.tr eT) (fun _=>?_)
   clear hK K
   have h37:Below W3.heap.size W3 w7:=(H5.o.drew).tr eT
   have CS:=rZ (.mk uv n' a') (ap (cH n)) (fun b=>¬M b) (fun b=>¬M b) w7 ⟨uv,⟨n'.toArray⟩,ua,n2,uc⟩ ⟨true,⟨(cH n).toArray⟩,none,0,0⟩ (HG.o.2.1 _ HF.o.2) (MO Gp.o) (HT.o.2.1.later h37) (aP.2 ⟨_,rfl,bV⟩)
   simp only[TQ.val]at CS
   rw[<-IT.o]at CS
   refine b_ 5 rfl fun K hK=>?_
   go_simp
   refine callsIn_wide.2 (CS.mono ?_)
   rintro e w8 ⟨rfl,f_⟩
   refine ee hK ?_
   clear hK K
   have H8:=ab (h37.tr f_)
   clear CS eT h37 f_
   refine b_ 6 rfl fun K hK=>?_
   go_simp
   refine ee hK ?_
   clear hK K
   refine cO (by kernel_rfl) ?_ _
   clear dB s1 v0 dt jr
   go_wp2
   go_ret
   refine ⟨Kp.below (H3.o.1.tr H8.o),bb,rfl,(fun h=>?_),(fun ts fB=>?_)⟩
   ·rw[HE.o]at h;cases bb;rfl;cases h
   ·rw[HE.o]at fB;cases bb;cases fB;cases fB;exact ⟨rfl,nT,by omega,H3.o.2.2.2.2.2.later H8.o⟩
  |clear pp8b
   go_ret
   exact ⟨Kp.below (H3.o.1.tr H5.o),false,rfl,(fun _=>rfl),(fun ts fB=>by rw[HE.o]at fB;cases fB)⟩
  |go_loopw [87] (fun i wr=>∃(j Aj:Nat) (kj:List (Str×Tm)),j<=n1/\i=.int .i64 j/\Kp (fun b=>b=mT) W3 wr/\Aj<=nT+ac (a.take j)/\KnV (fun b=>¬M b) PF PT wr kb mF mT nF Aj ⟨k.fs,kj⟩/\R=dE (ps.reverse.map (·.1)) kj (a.drop j) (a'.drop j)) (fun i _=>n1 - (intOf i).toNat)
   case atStart=>exact ⟨0,nT,k.ts,Nat.zero_le _,rfl,Kp.below H5.o,by omega,H3.o.2.2.2.2.2.later H5.o,by simpa using HE.o⟩
   case round=>
    exact pm9
 |clear pp167b
  go_wp2_with (first | (rw[<-vW.o];go_at_call 119;refine qP.o.mono ?_;rintro e w4 ⟨rfl,aN⟩;have H4:=ab aN;clear aN))
  have nj:=H3.o.2.2.2.2.2.later H4.o
  have g0:w4.cell? ⟨kb,1,none⟩=some (.map (some mT)):=ai nj.box 1
  have g1:w4.drew.cell? ⟨kb,1,none⟩=some (.map (some mT)):=ai nj.box 1
  have g2:=aa H4.o e1
  have g3:=aa H4.o.drew e1
  have WW:=ab nj
  have a_:Below w4.heap.size w4 (w4.alloc (.cells #[.bool false,.string ⟨#[]⟩,.slice none 0 0] 43)):=ct
  obtain ⟨g4,g5⟩:=wN a_ g0 g2
  rcases nj.ts.look Tryz.underlying9 Tryz.underlying146 iG (x:=n) (by omega) with ⟨hg,hl⟩ | ⟨u,vu,hg,hvu,hl⟩
  ·have l1:=(hl w4.drew rfl).1
   have pp225:=();exact pm225
  ·obtain ⟨⟨xv,xn,xa,xl,xc⟩,rfl,hxv,hpu⟩:=hvu
   simp only[TQ.val]at hl
   have l1:=(hl w4.drew rfl).1
   exact pm225
 |clear pp167c
  go_wp2
  rw[<-vW.o]
  go_loopw [87] (fun i wr=>∃(j Aj:Nat) (kj:List (Str×Tm)),j<=n1/\i=.int .i64 j/\Kp (fun b=>b=mT) W3 wr/\Aj<=nT+ac (a.take j)/\KnV (fun b=>¬M b) PF PT wr kb mF mT nF Aj ⟨k.fs,kj⟩/\R=dE (ps.reverse.map (·.1)) kj (a.drop j) (a'.drop j)) (fun i _=>n1 - (intOf i).toNat)
  case atStart=>exact ⟨0,nT,k.ts,Nat.zero_le _,rfl,Kp.below (Below.refl _ _),by omega,H3.o.2.2.2.2.2.later (Below.refl _ _),by simpa using HE.o⟩
  case round=>
   exact pm9
 |go_wp2
  rw[<-vW.o]
  go_ret
  exact ⟨Kp.below (H3.o.1.tr (Below.refl _ _)),false,rfl,(fun _=>rfl),(fun ts fB=>by rw[HE.o]at fB;cases fB)⟩):G:=h
theorem pm168(h:G:=by
 clear hS xb k0 r0 X_ hlk nl EV hg Jf c9 g_ hF cA az Nn ck No hbk
 have jb:∀ f,Fence.wide.fn f:=fun _=>trivial
 go_wp2
 clear dk
 refine (wpIn_wide (n:=3)).1 ?_
 refine br S 12 (by kernel_rfl) dB (fun jr dt=>?_)
 first
 |clear pp168
  refine bS 0 19 (.pointer (some ⟨w.heap.size+1,0,none⟩)) rfl dt fun eC=>?_
  simp only[ak]
  refine dc 1 20 (.slice ra j rc) rfl (fun V hX=>by obtain ⟨h0,h1,h2⟩:=ff V hX;go_simp) eC fun eX=>?_
  simp only[ak]
  refine bS 2 21 (.string ⟨nm.toArray⟩) rfl eX fun fM=>?_
  simp only[ak]
  refine bS 3 22 (.pointer (some ⟨kb,0,none⟩)) rfl fM fun gE=>?_
  simp only[ak]
  refine bS 4 23 (.pointer (some ⟨kb,0,none⟩)) rfl gE fun iu=>?_
  simp only[ak]
  refine bS 5 24 (.pointer (some ⟨kb,0,none⟩)) rfl iu fun iP=>?_
  simp only[ak]
  refine dc 6 25 (.map (some mF)) rfl (fun V hX=>by obtain ⟨h0,h1,h2⟩:=ff V hX;go_simp) iP fun kV=>?_
  simp only[ak]
  refine bS 7 26 (.string ⟨nm.toArray⟩) rfl kV fun pt=>?_
  simp only[ak]
  refine dc 8 27 (.agg #[.int .u8 g0,.string g1,.slice g2 g3 g4,.slice g5 g6 g7]) rfl (fun V hX=>by obtain ⟨h0,h1,h2⟩:=ff V hX;go_simp) pt fun EJ=>?_
  simp only[ak]
  refine b_ 9 rfl fun K hK=>?_
  go_simp
  refine callsIn_wide.2 ((HC.o _ (by have h:=dt;rw[dr.o]at h;exact h)).mono ?_)
  rintro _ A ⟨⟨p0,p1,p2,p3,p4,p5,p6,p7⟩,rfl,hp,hA⟩
  have pp101:=();exact pm101
 |refine bS 0 45 (.pointer (some ⟨w.heap.size+1,1,none⟩)) rfl dt fun eC=>?_
  simp only[ak]
  refine dc 1 46 (.slice ra j rc) rfl (fun V hX=>by obtain ⟨h0,h1,h2⟩:=ff V hX;go_simp) eC fun eX=>?_
  simp only[ak]
  refine bS 2 47 (.string ⟨nm.toArray⟩) rfl eX fun fM=>?_
  simp only[ak]
  refine bS 3 48 (.pointer (some ⟨kb,0,none⟩)) rfl fM fun gE=>?_
  simp only[ak]
  refine bS 4 49 (.pointer (some ⟨kb,0,none⟩)) rfl gE fun iu=>?_
  simp only[ak]
  refine bS 5 50 (.pointer (some ⟨kb,1,none⟩)) rfl iu fun iP=>?_
  simp only[ak]
  refine dc 6 51 (.map (some mT)) rfl (fun V hX=>by obtain ⟨h0,h1,h2⟩:=ff V hX;go_simp) iP fun kV=>?_
  simp only[ak]
  refine bS 7 52 (.string ⟨nm.toArray⟩) rfl kV fun pt=>?_
  simp only[ak]
  refine dc 8 53 (.agg #[.bool g0,.string g1,.slice g2 g3 g4]) rfl (fun V hX=>by obtain ⟨h0,h1,h2⟩:=ff V hX;go_simp) pt fun EJ=>?_
  simp only[ak]
  refine b_ 9 rfl fun K hK=>?_
  go_simp
  refine callsIn_wide.2 ((HC.o _ (by have h:=dt;rw[dr.o]at h;exact h)).mono ?_)
  rintro _ A ⟨⟨p0,p1,p2,p3,p4⟩,rfl,hp,hA⟩
  exact pm101):G:=h
theorem pm169(h:G:=by
 have he:l=m:=by
  have h1:l.take k=l:=by rw[cY.o];exact List.take_length
  have h2:m.take k=m:=by rw[cY.o,Te.o];exact List.take_length
  rw[<-h1,ht,h2]
 obtain ⟨HE,HB⟩:=aS he az
 clear he az ht
 go_wp2
 go_ret
 first
 |clear pp169
  exact ⟨aA (by rw[HE.o,m6]),HB.o⟩
 |exact ⟨aA (by rw[HE.o];exact ((mx _ _).2 rfl).symm),HB.o⟩):G:=h
theorem pm170(h:G:=by
 unfold FQ.val at hs
 simp only[Value.agg.injEq,Array.mk.injEq,List.cons.injEq,and_true,Value.int.injEq,true_and,Value.string.injEq]at hs
 obtain ⟨rfl,rfl,rfl,rfl⟩:=hs
 obtain rfl:=bD.len
 obtain rfl:=dJ.len
 first
 |clear pp170
  have cq:=aD.args.len
  have dD:=aD.subs.len
  have lj:=aD.name
  have wE:nodesF (.mk qo n a s)=ac a+ah s+1:=by unfold nodesF;rfl
  have hLs:∀ t∈s,L.length+1+nodesF t<=2000000:=fun t ht=>by have:=kT s t ht;omega
  obtain ⟨dA,fg,DZ,wU,eM,GM,mY⟩:=Sp bD dJ aD.args aD.subs ih Mh cw
  have GP:=bx Mg hLs (show L.length<=2000000 by omega)
  obtain ⟨k0,bO⟩:=ao a.length
  obtain ⟨m0,du⟩:=ao s.length
  obtain ⟨RS,Cc⟩:=ao (fD ps.reverse ins (.mk qo n a s))
  rw[<-bO]at cq
  rw[<-du]at dD
  obtain ⟨cY,fN⟩:=aS bO du
  obtain ⟨pL,hi'⟩:∃pL:List Str,pL=(if bn qo then n :: ins else ins):=⟨_,rfl⟩
  have Cb:Hd ((dU ps.reverse ins a=none->RS=none)/\(ek ps.reverse pL s=none->RS=none)/\∀ a' s',dU ps.reverse ins a=some a'->ek ps.reverse pL s=some s'->RS=some (.mk qo n a' s')):=ab (by
   rw[Cc,hi']
   unfold fD
   refine ⟨fun h=>by rw[h],fun h=>by rw[h];cases dU ps.reverse ins a <;> rfl,fun a' s' h1 h2=>by rw[h1,h2]⟩)
  have HI':=ab hi'
  obtain ⟨W3,cZ⟩:=ao (((w.alloc (.cells q.cells 89)).alloc (.cells #[.int .u8 qo,.string ⟨n.toArray⟩,.slice qa k0 qc,.slice qb m0 qe] 36)).alloc (.cells #[.int .u8 0,.string ⟨#[]⟩,.slice none 0 0,.slice none 0 0] 36))
  have aJ:=vF cZ
  have xp:=wK cZ
  have xt:=pR cZ
  have x1:=oa cZ
  have uG:=F6 cZ
  rw[<-Cc]
  have bp:=aF aJ uG
  have vW:=ab cZ
  have pp97a:=();exact pm97
 |first
  |clear pp23a
   have cq:=aD.args.len
   have dD:=aD.subs.len
   have lj:=aD.name
   obtain ⟨dA,fg,DZ,wU,eM⟩:=vD bD dJ aD.args aD.subs ih
   obtain ⟨k0,bO⟩:=ao a.length
   obtain ⟨m0,du⟩:=ao s.length
   rw[<-bO]at cq
   rw[<-du]at dD
   obtain ⟨cY,fN⟩:=aS bO du
   clear hq bD dJ aD ih
   unfold FQ.val
   rw[<-bO,<-du]
   clear bO du
   refine (callsIn_wide (n:=3)).1 ?_
   refine callsIn_of_wp Tryz.func66 rfl trivial ?_ rfl
   simp only[Tryz.ntmps66,List.size_toArray,List.length_cons,List.length_nil,Nat.reduceAdd,Nat.reduceSub,Array.replicate_succ,Array.replicate_zero,List.push_toArray,List.append_toArray,List.nil_append,List.cons_append]
   have jb:∀ f,Fence.wide.fn f:=fun _=>trivial
   gi_wp2
   obtain ⟨W1,bQ⟩:=ao (((w.alloc (.cells #[.int .u8 qo,.string ⟨n.toArray⟩,.slice qa k0 qc,.slice qb m0 qe] 36)).alloc (.cells #[.int .u8 0,.string ⟨#[]⟩,.slice none 0 0,.slice none 0 0] 36)).alloc (.cells #[.int .u8 qo,.string ⟨n.toArray⟩,.slice none 0 0,.slice none 0 0] 36))
   have hZ:=vF bQ
   have x0:=wK bQ
   have x1:=pR bQ
   have x2:=oa bQ
   rw[<-bQ]
   clear bQ
   obtain ⟨dG,JL,iB⟩:=cf hZ x0 x1
   have tp:=ab (Fills.start (R:=w.heap.size+1+1) (mk:=fun rr=>#[.int .u8 qo,.string ⟨n.toArray⟩,rr,.slice none 0 0]) (Row:=fun r W=>RowT W1.heap.size r ((a.map aK).take 0) W) x2 (RowT.nil _ _))
   clear hZ x0 x1 x2
   gi_loopw [16] (fun i fX=>∃k1:Nat,k1<=k0/\i=.int .i64 k1/\∃row,Fills 36 (w.heap.size+1+1) W1.heap.size (fun rr=>#[.int .u8 qo,.string ⟨n.toArray⟩,rr,.slice none 0 0]) (fun r W=>RowT W1.heap.size r ((a.map aK).take k1) W) W1 fX row) (fun i _=>k0 - (intOf i).toNat)
   case atStart=>exact ⟨0,Nat.zero_le _,rfl,_,tp.o⟩
   case round=>
    obtain ⟨k1,hk,rfl,row,hF⟩:=hrel;obtain ⟨fX,tw⟩:∃x,x=wr:=⟨_,rfl⟩;subst tw
    have az:=hF.below dG.o (Nat.le_add_right _ 2)
    by_cases hlt:k1<k0
    ·have da:=bR cY.o hlt
     have pp66e:=();exact pm66
    ·obtain rfl:k1=k0:=by omega
     have cA:((a.map aK).take k1).length=k1:=by rw[List.length_take];have:=cY.o;simp;omega
     have jc:(a.map aK).take k1=(a.map aK):=List.take_of_length_le (by have:=cY.o;simp;omega)
     have pp132a:=();exact pm132
  |clear pp23b
   have dD:=aD.subs.len
   have kO:jB (.mk qo n a s)=[.mk qo n a s] ++ dn s:=by unfold jB;rfl
   rw[kO]at cV ⊢
   obtain ⟨f,hf⟩:=ao (Fm.mk qo n a s)
   rw[<-hf]at cV Gm ⊢
   have eM:=ab (fun t ht=>ih t ht (aD.subs.mem ht))
   obtain ⟨k0,bO⟩:=ao a.length
   obtain ⟨m0,du⟩:=ao s.length
   rw[<-bO,<-du]at Gm
   rw[<-du]at dD dJ
   unfold FQ.val at Gm ⊢
   simp only at Gm ⊢
   rw[<-bO,<-du]
   obtain ⟨fN,mw⟩:=aS du cV
   have hZ:Below W.heap.size W (W.alloc (.cells #[.int .u8 qo,.string ⟨n.toArray⟩,.slice qa k0 qc,.slice qb m0 qe] 36)):=ct
   have FO:J pre (W.alloc (.cells #[.int .u8 qo,.string ⟨n.toArray⟩,.slice qa k0 qc,.slice qb m0 qe] 36)):=hJ pre _ _ (Nw.below hZ) hj
   have qD:=hY pre #[.agg #[.int .u8 qo,.string ⟨n.toArray⟩,.slice qa k0 qc,.slice qb m0 qe]] f _ FO (Kp.below hZ) ⟨⟨qo,⟨n.toArray⟩,qa,k0,qc,qb,m0,qe⟩,rfl,Gm.kp (Kp.below hZ)⟩ (iC cV)
   have HX:=ab (show (W.alloc (.cells #[.int .u8 qo,.string ⟨n.toArray⟩,.slice qa k0 qc,.slice qb m0 qe] 36)).heap[W.heap.size]?=some (.cells #[.int .u8 qo,.string ⟨n.toArray⟩,.slice qa k0 qc,.slice qb m0 qe] 36 (0,0)) from aj rfl)
   obtain ⟨dG,fg,HJ,zF,HY,HF⟩:=So hZ dJ hJ hM hY hf
   obtain ⟨fn,tmps,assign,body,hy,D5⟩:=iz 2 qD
   clear hq Gm bD dJ aD ih bO du hj hZ FO qD hJ hM hY cV kO hf
   refine (callsIn_wide (n:=3)).1 ?_
   refine callsIn_of_wp Tryz.func151 rfl trivial ?_ rfl
   simp only[Tryz.ntmps151,List.size_toArray,List.length_cons,List.length_nil,Nat.reduceAdd,Nat.reduceSub,Array.replicate_succ,Array.replicate_zero,List.push_toArray,List.append_toArray,List.nil_append,List.cons_append]
   have jb:∀ f,Fence.wide.fn f:=fun _=>trivial
   gi_wp2
   refine D5.mono ?_
   rintro e W2 ⟨rfl,uC,gX⟩
   have Vi:¬M W.heap.size:=fun h=>by have:=zF.o _ h;omega
   have pi:=(gX.same W.heap.size (by simp) Vi).trans HX.o
   have p3:W2.cell? ⟨W.heap.size,3,none⟩=some (.slice qb m0 qe):=ai pi 3
   have wA:=aF uC ((Kp.below dG.o).trans gX)
   clear uC gX pi D5 hy
   gi_wp2
   gi_loopw [14] (fun i wr=>∃k:Nat,k<=m0/\i=.int .i64 k/\J (pre ++ ([f] ++ dn (s.take k))) wr/\Kp M W wr) (fun i _=>m0 - (intOf i).toNat)
   case atStart=>exact ⟨0,Nat.zero_le _,rfl,by simpa[dn] using wA.o.1,wA.o.2⟩
   case round=>
    have pp220f:=();exact pm220
  |clear pp23c
   have CL:=fun (W:World) (hb:Below w.heap.size w W)=>p_ a aD.args (fun t ht=>Af t (aD.args.mem ht)) ok W qa _ qc (bD.later hb)
   have CS:=fun (W:World) (hb:Below w.heap.size w W)=>Ae s aD.subs (fun t ht=>ih t ht (aD.subs.mem ht)) ok W qb _ qe (dJ.later hb)
   obtain ⟨k0,bO⟩:=ao a.length
   obtain ⟨m0,du⟩:=ao s.length
   rw[<-bO]at CL
   rw[<-du]at CS
   obtain ⟨Vl,s7,cY,fN⟩:=eA CL CS bO du
   clear hq bD dJ aD ih CL CS
   unfold FQ.val
   rw[<-bO,<-du]
   clear bO du
   refine (callsIn_wide (n:=3)).1 ?_
   refine callsIn_of_wp Tryz.func51 rfl trivial ?_ rfl
   simp only[Tryz.ntmps51,List.size_toArray,List.length_cons,List.length_nil,Nat.reduceAdd,Nat.reduceSub,Array.replicate_succ,Array.replicate_zero,List.push_toArray,List.append_toArray,List.nil_append,List.cons_append]
   have jb:∀ f,Fence.wide.fn f:=fun _=>trivial
   gi_wp2
   obtain ⟨W2,aY⟩:=ao ((w.alloc (.cells #[.int .u8 qo,.string ⟨n.toArray⟩,.slice qa k0 qc,.slice qb m0 qe] 36)).alloc (.cells #[.int .u8 0,.string ⟨#[]⟩,.slice none 0 0,.slice none 0 0] 36))
   have fG:=j7 aY
   have x0:=rm aY
   have x1:=iV aY
   rw[<-aY]
   clear aY
   obtain ⟨S,hS⟩:∃S:World->Prop,S=fun V=>Below W2.heap.size W2 V:=⟨_,rfl⟩
   have f0:∀ V,S V->V.cell? ⟨w.heap.size,0,none⟩=some (.int .u8 qo)/\V.cell? ⟨w.heap.size,1,none⟩=some (.string ⟨n.toArray⟩)/\V.cell? ⟨w.heap.size,2,none⟩=some (.slice qa k0 qc)/\V.cell? ⟨w.heap.size,3,none⟩=some (.slice qb m0 qe):=fun V h=>by rw[hS]at h;exact ⟨aa h (ai x0 0),aa h (ai x0 1),aa h (ai x0 2),aa h (ai x0 3)⟩
   have dB:S W2.drew:=by rw[hS];exact (Below.refl _ _).drew
   obtain ⟨dr,bZ,iB⟩:=cf hS fG x1
   clear hS fG x0 x1
   refine br S 11 (by kernel_rfl) dB (fun jr dt=>?_)
   refine bS 0 3 (.pointer (some ⟨w.heap.size,0,none⟩)) rfl dt fun eC=>?_
   simp only[ak]
   refine dc 1 4 (.int .u8 qo) rfl (fun V hX=>by obtain ⟨g0,g1,g2,g3⟩:=f0 V hX;go_simp) eC fun eX=>?_
   simp only[ak]
   refine bS 2 5 (.pointer (some ⟨w.heap.size,1,none⟩)) rfl eX fun fM=>?_
   simp only[ak]
   refine dc 3 6 (.string ⟨n.toArray⟩) rfl (fun V hX=>by obtain ⟨g0,g1,g2,g3⟩:=f0 V hX;go_simp) fM fun gE=>?_
   simp only[ak]
   refine bS 4 7 (.pointer (some ⟨w.heap.size,2,none⟩)) rfl gE fun iu=>?_
   simp only[ak]
   refine dc 5 8 (.slice qa k0 qc) rfl (fun V hX=>by obtain ⟨g0,g1,g2,g3⟩:=f0 V hX;go_simp) iu fun iP=>?_
   simp only[ak]
   refine bS 7 10 (.pointer (some ⟨w.heap.size,3,none⟩)) rfl iP fun kV=>?_
   simp only[ak]
   refine dc 8 11 (.slice qb m0 qe) rfl (fun V hX=>by obtain ⟨g0,g1,g2,g3⟩:=f0 V hX;go_simp) kV fun pt=>?_
   simp only[ak]
   refine b_ 6 rfl fun K hK=>?_
   go_simp
   refine callsIn_wide.2 ((Vl.o W2.drew (bZ.o.drew)).mono ?_)
   rintro _ A ⟨ra,rc,rfl,hp,hA⟩
   have bY:Below W2.heap.size W2 A:=((Below.refl W2.heap.size W2).drew).trans hA
   refine hK _ _ (fun _=>by rw[dr.o];exact bY) (fun _=>?_)
   clear hK K hA
   refine b_ 9 rfl fun K hK=>?_
   go_simp
   refine callsIn_wide.2 ((s7.o A (bZ.o.trans (bY.mono bZ.o.size))).mono ?_)
   rintro _ A' ⟨rb,re,rfl,hq,hA'⟩
   have Pn:Below W2.heap.size W2 A':=bY.trans (hA'.mono bY.size)
   have hp':=(hp.later hA').move (ok':=(W2.heap.size<=·)) (fun b hok _=>⟨hok,rfl⟩)
   have jC:=hq.move (ok':=(W2.heap.size<=·)) (fun b hok _=>⟨Nat.le_trans bY.size hok,rfl⟩)
   have HP:=bx hp' jC Pn
   refine hK _ _ (fun _=>by rw[dr.o];exact Pn) (fun _=>?_)
   clear hK K hA' bY hp hq hp' jC Pn
   refine b_ 10 rfl fun K hK=>?_
   go_simp
   refine hK _ _ (fun _=>by rw[dr.o];exact HP.o.2.2) (fun _=>?_)
   clear hK K
   refine b_ 11 rfl fun K hK=>?_
   have y1:=bC HP.o.2.2 iB.o
   obtain ⟨e0,e1,e2,e3⟩:=lF y1
   have z0:=ae y1 0
   have z1:=ae y1 1
   have z2:=ae y1 2
   have z3:=ae y1 3
   have SA:=ab y1
   clear y1
   go_simp
   refine ee hK ?_
   clear hK K
   refine cO (by kernel_rfl) ?_ _
   gi_wp2
   have x6:=kf (v0:=.int .u8 qo) (v1:=.string ⟨n.toArray⟩) (v2:=.slice ra k0 rc) (v3:=.slice rb m0 re) SA.o
   have k6:=di (W:=A') (b:=w.heap.size+1) (v0:=.int .u8 qo) (v1:=.string ⟨n.toArray⟩) (v2:=.slice ra k0 rc) (v3:=.slice rb m0 re)
   obtain ⟨W6,cM⟩:=ao ((((A'.setCell ⟨w.heap.size+1,0,none⟩ (.int .u8 qo)).setCell ⟨w.heap.size+1,1,none⟩ (.string ⟨n.toArray⟩)).setCell ⟨w.heap.size+1,2,none⟩ (.slice ra k0 rc)).setCell ⟨w.heap.size+1,3,none⟩ (.slice rb m0 re))
   rw[<-cM]at x6 k6 ⊢
   clear cM
   have g0:W6.cell? ⟨w.heap.size+1,0,none⟩=some (.int .u8 qo):=ai x6 0
   have g1:W6.cell? ⟨w.heap.size+1,1,none⟩=some (.string ⟨n.toArray⟩):=ai x6 1
   have g2:W6.cell? ⟨w.heap.size+1,2,none⟩=some (.slice ra k0 rc):=ai x6 2
   have g3:W6.cell? ⟨w.heap.size+1,3,none⟩=some (.slice rb m0 re):=ai x6 3
   have hz:=(bl iB.o)
   obtain ⟨hp,hs,bY⟩:=HP.o
   have ye:TermsV (w.heap.size<=·) W6 (.slice ra k0 rc) a:=hp.move (fun b hok hlt=>⟨Nat.le_trans bZ.o.size hok,k6.same b hlt (by have:W2.heap.size<=b:=hok;omega)⟩)
   have iD:FormsV (w.heap.size<=·) W6 (.slice rb m0 re) s:=hs.move (fun b hok hlt=>⟨Nat.le_trans bZ.o.size hok,k6.same b hlt (by have:W2.heap.size<=b:=hok;omega)⟩)
   refine bodyPost_ret (v:=FQ.val ⟨qo,⟨n.toArray⟩,ra,k0,rc,rb,m0,re⟩) (by simp[FQ.val,results,Tryz.results51,go_sem,g0,g1,g2,g3]) rfl ⟨⟨qo,⟨n.toArray⟩,ra,k0,rc,rb,m0,re⟩,rfl,aQ.2 ⟨_,_,rfl,ye,iD⟩,Below.kp1 (bZ.o.trans (bY.mono bZ.o.size)) k6 (by omega)⟩
  |clear pp23d
   have cq:=aD.args.len
   have dD:=aD.subs.len
   have lj:=aD.name
   obtain ⟨dA,fg,DZ,wU⟩:=eA bD dJ aD.args aD.subs
   obtain ⟨k0,bO⟩:=ao a.length
   obtain ⟨m0,du⟩:=ao s.length
   rw[<-bO]at cq
   rw[<-du]at dD
   obtain ⟨cY,fN⟩:=aS bO du
   clear hq bD dJ aD ih uM rj IH wW hfz hnz hz hT zX s8 Xb oc
   unfold FQ.val
   rw[<-bO,<-du]
   clear bO du
   obtain ⟨RS,Cc⟩:=ao (ep (kk+1) nx z (.mk qo n a s))
   rw[<-Cc]
   have Ro:=ab Cc
   clear Cc
   refine (callsIn_wide (n:=3)).1 ?_
   refine callsIn_of_wp Tryz.func101 rfl trivial ?_ rfl
   simp only[Tryz.ntmps101,List.size_toArray,List.length_cons,List.length_nil,Nat.reduceAdd,Nat.reduceSub,Array.replicate_succ,Array.replicate_zero,List.push_toArray,List.append_toArray,List.nil_append,List.cons_append]
   have jb:∀ f,Fence.wide.fn f:=fun _=>trivial
   gi_wp2
   obtain ⟨W1,bQ⟩:=ao ((((w.alloc (.cells #[.int .u8 qo,.string ⟨n.toArray⟩,.slice qa k0 qc,.slice qb m0 qe] 36)).alloc (.cells #[.bool zv,.string zn,.slice za zl zc] 43)).alloc (.cells #[.int .u8 0,.string ⟨#[]⟩,.slice none 0 0,.slice none 0 0] 36)).alloc (.cells #[.int .u8 qo,.string ⟨n.toArray⟩,.slice none 0 0,.slice none 0 0] 36))
   have hZ:=OZ bQ
   have x0:=Lz bQ
   have xu:=QY bQ
   have x1:=QZ bQ
   have x2:=LA bQ
   rw[<-bQ]
   clear bQ
   obtain ⟨dG,JL,HXU,iB⟩:=eA hZ x0 xu x1
   have tp:=ab (Fills.start (R:=w.heap.size+1+1+1) (mk:=fun rr=>#[.int .u8 qo,.string ⟨n.toArray⟩,rr,.slice none 0 0]) (Row:=fun r W=>RowT W1.heap.size r ((a.map (jQ nx z)).take 0) W) x2 (RowT.nil _ _))
   clear hZ x0 x1 x2 xu
   gi_loopw [23] (fun i Cd=>∃k1:Nat,k1<=k0/\i=.int .i64 k1/\∃row,Fills 36 (w.heap.size+1+1+1) W1.heap.size (fun rr=>#[.int .u8 qo,.string ⟨n.toArray⟩,rr,.slice none 0 0]) (fun r W=>RowT W1.heap.size r ((a.map (jQ nx z)).take k1) W) W1 Cd row) (fun i _=>k0 - (intOf i).toNat)
   case atStart=>exact ⟨0,Nat.zero_le _,rfl,_,tp.o⟩
   case round=>
    obtain ⟨k1,hk,rfl,row,hF⟩:=hrel;obtain ⟨Cd,Mj⟩:∃x,x=wr:=⟨_,rfl⟩;subst Mj
    have az:=hF.below dG.o ((by omega))
    by_cases hlt:k1<k0
    ·have da:=bR cY.o hlt
     have pp66f:=();exact pm66
    ·obtain rfl:k1=k0:=by omega
     have cA:((a.map (jQ nx z)).take k1).length=k1:=by rw[List.length_take];have:=cY.o;simp;omega
     have jc:(a.map (jQ nx z)).take k1=(a.map (jQ nx z)):=List.take_of_length_le (by have:=cY.o;simp;omega)
     have pp132b:=();exact pm132
  |clear pp23e
   have dD:=aD.subs.len
   have nN:=aD.1
   have nM:=nn x (.mk qo n a s)
   have vZ:gF x (.mk qo n a s)=eW x a+iY x s:=rfl
   have CT:=ab (fun (W:World) (hb:Below w.heap.size w W)=>pQ x a ok W qa _ qc aD.args (bD.later hb))
   have eM:=ab (fun t ht=>ih t ht (aD.subs.mem ht))
   have fg:=ab dJ
   rw[vZ]at nM ⊢
   obtain ⟨k0,bO⟩:=ao a.length
   obtain ⟨m0,du⟩:=ao s.length
   obtain ⟨A,hA⟩:=ao (eW x a)
   have fN:=ab du
   unfold FQ.val
   rw[<-bO,<-hA]at CT
   rw[<-bO,<-du,<-hA]
   rw[<-hA]at nM
   rw[<-du]at dD
   clear hq bD dJ aD ih bO du hA vZ
   have HB:=ab (show Below w.heap.size w (w.alloc (.cells #[.int .u8 qo,.string ⟨n.toArray⟩,.slice qa k0 qc,.slice qb m0 qe] 36)) from ct)
   have HX:=ab (show (w.alloc (.cells #[.int .u8 qo,.string ⟨n.toArray⟩,.slice qa k0 qc,.slice qb m0 qe] 36)).heap[w.heap.size]?=some (.cells #[.int .u8 qo,.string ⟨n.toArray⟩,.slice qa k0 qc,.slice qb m0 qe] 36 (0,0)) from aj rfl)
   go_enter Tryz.func97,Tryz.ntmps97
   go_wp2_with (go_at_call 164;refine (CT.o _ HB.o).mono ?_;rintro e w1 ⟨rfl,hb1⟩;have p3:w1.cell? ⟨w.heap.size,3,none⟩=some (.slice qb m0 qe):=ai (bC hb1 HX.o) 3;have dG:=ab (HB.o.trans (hb1.mono HB.o.size));clear hb1)
   go_loopw [5,15] (fun r i wr=>∃k:Nat,k<=m0/\i=.int .i64 k/\Below w.heap.size w wr/\r=.int .i64 ((A+iY x (s.take k):Nat):Int)) (fun _ i _=>m0 - (intOf i).toNat)
   case atStart=>exact ⟨0,Nat.zero_le _,rfl,dG.o,by simp[iY]⟩
   case round=>
    obtain ⟨k,hk,rfl,az,rfl⟩:=hrel
    by_cases hlt:k<m0
    ·have bc:=bR fN.o hlt
     obtain ⟨b,off,u,rfl,_,hu,c0,c1,c2,c3⟩:=fg.o.get bc
     have gW:=wi x bc
     have hb1:=sr x (s.take (k+1))
     have bA:=cg s (k+1)
     have pN:ah s<=nodesF (.mk qo n a s):=by unfold nodesF;omega
     exact pm202
    ·obtain rfl:k=m0:=by omega
     have h1:s.take k=s:=by rw[fN.o];exact List.take_length
     rw[h1]
     have bZ:=ab az
     clear h1 az
     go_wp2
     go_ret
     exact ⟨rfl,bZ.o⟩
  |clear pp23f
   have cq:=aD.args.len
   have dD:=aD.subs.len
   have lj:=aD.name
   have qA:n.length<=1000000000:=by omega
   have n8:=ab hok
   have eM:=ab (fun t ht=>ih t ht (aD.subs.mem ht))
   have MU:=ab aD.args
   have OT:=ab (fun t ht=>LP t (aD.args.mem ht))
   have qB:1<=nodesF (.mk on n a s):=wO _
   have oc:1<=depthF (.mk on n a s):=by unfold depthF;omega
   have nN:nodesF (.mk on n a s)=ac a+ah s+1:=rfl
   have Ce:aX+(ac a:Int)+(ah s:Int)+1<=100000000:=by omega
   obtain ⟨k0,bO⟩:=ao a.length
   obtain ⟨m0,du⟩:=ao s.length
   have hM:=O' sc on n a s left bh aX
   rw[<-bO,<-du]at hM
   obtain ⟨BX,zI⟩:=ao (okF sc (.mk on n a s) && (decide ((nodesF (.mk on n a s):Int)<=left) && decide (aX+depthF (.mk on n a s)<=bh+1)))
   rw[<-zI]at hM ⊢
   have HB:=ab (show Below w.heap.size w (w.alloc (.cells #[.int .u8 on,.string ⟨n.toArray⟩,.slice qa k0 qc,.slice qb m0 qe] 36)) from ct)
   have Gk:JAt J sc left bh (w.alloc (.cells #[.int .u8 on,.string ⟨n.toArray⟩,.slice qa k0 qc,.slice qb m0 qe] 36)):=hJ.later HB.o
   have zam:J<w.heap.size:=(bl hJ)
   obtain ⟨dA,fg,HJ,HT⟩:=eA bD dJ hJ ht
   rw[<-bO]at cq
   rw[<-du]at dD
   clear hq bD dJ aD ih hok hJ ht
   unfold FQ.val
   rw[<-bO,<-du]
   obtain ⟨cY,fN,HN⟩:=cf bO du nN
   clear bO du nN
   by_cases JN:1<=left/\aX<=bh
   ·obtain ⟨O6,SE⟩:=JN
    have C1:=ab (D1 J sc left bh aX _ Gk O6 h1 SE)
    have gX:Kp (fun c=>c=J) w ((w.alloc (.cells #[.int .u8 on,.string ⟨n.toArray⟩,.slice qa k0 qc,.slice qb m0 qe] 36)).setCell ⟨J,1,none⟩ (.int .i64 (left - 1))):=(Kp.below HB.o).trans (mZ _)
    have uC:=Gk.set (left - 1)
    have hx:FBox w.heap.size on n (.slice qa k0 qc) (.slice qb m0 qe) ((w.alloc (.cells #[.int .u8 on,.string ⟨n.toArray⟩,.slice qa k0 qc,.slice qb m0 qe] 36)).setCell ⟨J,1,none⟩ (.int .i64 (left - 1))):=(Below.heap_setCell _ _ _ _ (by show w.heap.size≠J;omega)).trans (aj rfl)
    have m5:=bx gX uC hx
    obtain ⟨W2,aY⟩:=ao ((w.alloc (.cells #[.int .u8 on,.string ⟨n.toArray⟩,.slice qa k0 qc,.slice qb m0 qe] 36)).setCell ⟨J,1,none⟩ (.int .i64 (left - 1)))
    rw[<-aY]at m5 C1
    clear gX uC hx Gk aY
    have g0:=m5.o.2.2.c0
    have g1:=m5.o.2.2.c1
    have g2:=m5.o.2.2.c2
    have g3:=m5.o.2.2.c3
    have Hu:Tabs W0 W2:=HT.o.kp m5.o.1 (fun b hb=>by subst hb;exact Qd)
    by_cases ho:on<17
    ·have LG:((on:Int)<17):=by omega
     have Yi:¬((17:Int)<=(on:Int)):=by omega
     obtain ⟨q0,q1,q2,q3,q4⟩:=Hu.t0.rows on ho
     obtain ⟨OK,hr3,hr4⟩:=Gn on
     obtain ⟨⟨r0,r1,r2,r3,r4⟩,gJ⟩:∃x,x=rowOp on:=⟨_,rfl⟩
     rw[<-gJ]at hM q0 q1 q2 q3 q4 OK hr3 hr4
     simp only at hM q0 q1 q2 q3 q4 OK hr3 hr4
     clear gJ Hu
     have hX3:FBox w.heap.size on n (.slice qa k0 qc) (.slice qb m0 qe) (W2.alloc (.cells #[.bool r0,.bool r1,.int .u8 r2,.int .i64 r3,.int .i64 r4] 173)):=m5.o.2.2.later ct
     have hR3:RBox W2.heap.size r0 r1 r2 r3 r4 (W2.alloc (.cells #[.bool r0,.bool r1,.int .u8 r2,.int .i64 r3,.int .i64 r4] 173)):=aj rfl
     have hK3:Kp (fun c=>c=J) w (W2.alloc (.cells #[.bool r0,.bool r1,.int .u8 r2,.int .i64 r3,.int .i64 r4] 173)):=m5.o.1.trans (Kp.below ct)
     have hJ3:JAt J sc (left - 1) bh (W2.alloc (.cells #[.bool r0,.bool r1,.int .u8 r2,.int .i64 r3,.int .i64 r4] 173)):=m5.o.2.1.later ct
     obtain ⟨fJ,oW,lJ,s9⟩:=eA hX3 hR3 hK3 hJ3
     clear hX3 hR3 hK3 hJ3
     have y0:=fJ.o.c0
     have y1:=fJ.o.c1
     have y2:=fJ.o.c2
     have y3:=fJ.o.c3
     have yj:=s9.o.c0
     have j0:=m5.o.2.1.c0
     have hPn:¬w.heap.size=W2.heap.size:=by have:=(bl m5.o.2.2);omega
     have zcM:¬W2.heap.size=w.heap.size:=by omega
     have hJn:¬J=W2.heap.size:=by have:=(bl m5.o.2.1);omega
     have zcN:¬W2.heap.size=J:=by omega
     cases r0 with
     | true=>
      rw[Bool.true_or,Bool.true_and]at hM
      cases c9:oh r2 n with
      | false=>
       have CN:=ab (fun w=>c9 ▸ pj r2 OK n qA w)
       have HE:Hd (BX=false):=ab (hM.trans (by simp[c9]))
       exact pm6
      | true=>
       have CN:=ab (fun w=>c9 ▸ pj r2 OK n qA w)
       by_cases da:k0<=r3
       ·have T3:¬((r3:Int)<(k0:Int)):=by omega
        by_cases Qe:m0=r4
        ·have T4:((m0:Int) == (r4:Int))=true:=by simp;omega
         have pp159:=();exact pm159
        ·have T4:((m0:Int) == (r4:Int))=false:=by simp;omega
         exact pm304
       ·have T3:(r3:Int)<(k0:Int):=by omega
        have HE:Hd (BX=false):=ab (hM.trans (by simp[da]))
        exact pm6
     | false=>
      rw[Bool.false_or]at hM
      cases sc with
      | false=>
       have HE:Hd (BX=false):=ab (hM.trans (by simp))
       clear hM qB oc zI
       have pp78b:=();exact pm78
      | true=>
       rw[Bool.true_and]at hM
       cases r1 with
       | false=>
        have HE:Hd (BX=false):=ab (hM.trans (by simp))
        clear hM qB oc zI
        have pp78b:=();exact pm78
       | true=>
        rw[Bool.true_and]at hM
        cases c9:oh r2 n with
        | false=>
         have CN:=ab (fun w=>c9 ▸ pj r2 OK n qA w)
         have HE:Hd (BX=false):=ab (hM.trans (by simp[c9]))
         exact pm6
        | true=>
         have CN:=ab (fun w=>c9 ▸ pj r2 OK n qA w)
         by_cases da:k0<=r3
         ·have T3:¬((r3:Int)<(k0:Int)):=by omega
          by_cases Qe:m0=r4
          ·have T4:((m0:Int) == (r4:Int))=true:=by simp;omega
           exact pm159
          ·have T4:((m0:Int) == (r4:Int))=false:=by simp;omega
           exact pm304
         ·have T3:(r3:Int)<(k0:Int):=by omega
          have HE:Hd (BX=false):=ab (hM.trans (by simp[da]))
          exact pm6
    ·have LG:¬((on:Int)<17):=by omega
     have Yi:((17:Int)<=(on:Int)):=by omega
     rw[JP Yi]at hM
     have HE:Hd (BX=false):=ab (hM.trans (by simp))
     clear hM qB oc zI Hu
     have pp78c:=();exact pm78
   ·have C1:=ab (IE J sc left bh aX _ Gk h0 h1 JN)
    have HE:=ab (show BX=false by
     rw[zI,Bool.and_eq_false_iff];right
     rw[Bool.and_eq_false_iff]
     by_cases hl:1<=left
     ·right
      have St:¬aX<=bh:=fun h=>JN ⟨hl,h⟩
      simp only[decide_eq_false_iff_not]
      omega
     ·left
      simp only[decide_eq_false_iff_not]
      omega)
    clear Gk qB oc JN hM zI
    have pp78d:=();exact pm78
  |have dD:=aD.subs.len
   have lj:=aD.name
   have ZL:=aD.sz
   have Ox:Sj (.mk qo n a s)=1+n.length / 40+wv a+zA s:=rfl
   obtain ⟨R,hR⟩:=ao (ig a left 0)
   have ZK:=(lC a left 0).2.1
   have CT:=fun (W:World) (hb:Below w.heap.size w W)=>Ov a ok W qa _ qc left aD.args (bD.later hb) h0 h1
   have eM:=ab (fun t ht=>ih t ht (aD.subs.mem ht))
   have fg:=ab dJ
   obtain ⟨k0,bO⟩:=ao a.length
   obtain ⟨m0,du⟩:=ao s.length
   obtain ⟨q,jC⟩:=ao (n.length / 40)
   have fN:=ab du
   have U4:=gi n
   have ZJ:=Ou n.length
   have hcF:zB (.mk qo n a s) left=d_ s left (1+q+R):=by unfold zB;rw[jC,hR]
   unfold FQ.val
   rw[<-bO,<-hR]at CT
   rw[<-hR]at ZK
   rw[<-bO,<-du]
   rw[<-jC]at ZJ Ox
   rw[Ox]at ZL
   rw[<-du]at dD
   have vP:IntKind.i64.wrap ((q:Nat):Int)=q:=IntWalk.i64_in _ (by omega)
   have Lh:IntKind.i64.wrap (1+((q:Nat):Int))=1+(q:Int):=IntWalk.i64_in _ (by omega)
   have RN:IntKind.i64.wrap (1+(q:Int)+(R:Int))=((1+q+R:Nat):Int):=by rw[IntWalk.i64_in _ (by omega)];omega
   have hNb:1+q+R<=100002000000:=by omega
   obtain ⟨DG,HC⟩:=aS hcF CT
   clear hq bD dJ aD ih bO du hR ZK jC hcF Ox CT
   have HX:=ab (show (w.alloc (.cells #[.int .u8 qo,.string ⟨n.toArray⟩,.slice qa k0 qc,.slice qb m0 qe] 36)).heap[w.heap.size]?=some (.cells #[.int .u8 qo,.string ⟨n.toArray⟩,.slice qa k0 qc,.slice qb m0 qe] 36 (0,0)) from aj rfl)
   obtain ⟨W1,bQ⟩:=ao (w.alloc (.cells #[.int .u8 qo,.string ⟨n.toArray⟩,.slice qa k0 qc,.slice qb m0 qe] 36))
   have HB:=ab (show Below w.heap.size w W1 by rw[bQ];exact ct)
   rw[<-bQ]at HX
   have f0:∀ x:Later W1,x.w.cell? ⟨w.heap.size,1,none⟩=some (.string ⟨n.toArray⟩):=fun x=>x.get (ai HX.o 1)
   have f1:∀ x:Later W1,x.w.cell? ⟨w.heap.size,2,none⟩=some (.slice qa k0 qc):=fun x=>x.get (ai HX.o 2)
   have lI:=ab bQ
   go_enter Tryz.func23,Tryz.ntmps23
   clear bQ
   go_wp2
   rw[<-lI.o]
   refine aM (by kernel_rfl) (by kernel_rfl) ?_
   repeat (go_big_quiet_step ((go_at_call 54;exact bM (HC.o _ (HB.o.trans (Later.below _ |>.mono HB.o.size))))))
   refine wpQuiet_nil ?_
   rintro _ ⟨x',rfl⟩
   have e3:x'.w.cell? ⟨w.heap.size,3,none⟩=some (.slice qb m0 qe):=x'.get (ai HX.o 3)
   have dG:=ab (HB.o.trans (x'.below.mono HB.o.size))
   have iB:=ab (bC x'.below HX.o)
   obtain ⟨W3,cZ⟩:=ao x'.w
   rw[<-cZ]at e3 dG iB ⊢
   clear f0 f1 vP Lh RN ZJ U4 cZ HX
   go_wp2
   go_loopw [5,6] (fun r i wr=>∃k m:Nat,k<=m0/\i=.int .i64 k/\r=.int .i64 m/\Below W3.heap.size W3 wr/\d_ s left (1+q+R)=d_ (s.drop k) left m/\m<=300000000000) (fun _ i _=>m0 - (intOf i).toNat)
   case atStart=>exact ⟨0,1+q+R,Nat.zero_le _,rfl,by go_num,Below.refl _ _,by simp,by omega⟩
   case round=>
    obtain ⟨k,m,hk,rfl,rfl,az,hcut,zG⟩:=hrel
    have e3':=aa az e3
    have bW:=ab (dG.o.trans (az.mono dG.o.size))
    by_cases hlt:k<m0
    ·by_cases tQ:(m:Int)<=left
     ·have bc:=bR fN.o hlt
      obtain ⟨b,off,u,rfl,_,hu,c0,c1,c2,c3⟩:=fg.o.get bc
      have Sk:s.drop k=s[k] :: s.drop (k+1):=List.drop_eq_getElem_cons bc
      rw[Sk]at hcut
      obtain ⟨d0,d1,d2,d3⟩:=lg bW.o c0 c1 c2 c3
      obtain ⟨M,hM⟩:=ao (zB s[k] (left - m))
      have CC:=eM.o s[k] (List.getElem_mem bc) ok wr u (left - m) (hu.later bW.o) (by omega) (by omega)
      rw[<-hM]at CC
      have FG:d_ s left (1+q+R)=d_ (s.drop (k+1)) left (m+M):=by
       rw[hcut]
       simp only[d_,if_pos tQ]
       rw[hM]
      have Hc:m+M<=300000000000:=by
       have h5:=(k_ s left (1+q+R)).2.1
       have h6:=(k_ (s.drop (k+1)) left (m+M)).1
       omega
      exact pm114
     ·have E3:decide ((m:Int)<=left)=false:=by simp;omega
      have xF:decide ((k:Int)<(m0:Int))=true:=by simp;omega
      have HE:=ab (hcut.trans (vr _ tQ))
      clear hcut az
      go_wp2
      go_ret
      exact ⟨ph (by rw[DG.o,HE.o]),bW.o⟩
    ·obtain rfl:k=m0:=by omega
     have hd:s.drop k=[]:=by rw[fN.o];exact List.drop_length
     rw[hd]at hcut
     have HE:=ab (show d_ s left (1+q+R)=m from hcut)
     clear hcut az hd
     go_wp2
     go_ret
     exact ⟨ph (by rw[DG.o,HE.o]),bW.o⟩):G:=h
theorem pm171(h:G:=by
 go_wp2
 go_loopw [5] (fun i wr=>∃k:Nat,k<=k0/\i=.int .i64 k/\Below w.heap.size w wr/\l.take k=m.take k) (fun i _=>k0 - (intOf i).toNat)
 case atStart=>exact ⟨0,Nat.zero_le _,rfl,Below.refl _ _,by simp⟩
 first
 |clear pp171
  case round=>
   have pp301d:=();exact pm301
 |case round=>
   exact pm301):G:=h
theorem pm172(h:G:=by
 have e1:decide ((nodesF t:Int)<=400)=decide (nodesF t<=400):=by rw[Bool.eq_iff_iff];simp;omega
 have e2:decide (1+(depthF t:Int)<=40+1)=decide (depthF t<=40):=by rw[Bool.eq_iff_iff];simp;omega
 rw[e1,e2];rfl):G:=h
theorem pm173(h:G:=by
 have iD:(!(xn == yn))=true:=by simpa using c9
 have HE:=ab (show R=false by rw[oJ.o];simp[gu])
 go_wp2
 rw[<-eN.o]
 go_ret
 exact ⟨aA HE.o.symm,bZ.o.trans ((Below.refl _ _).mono (by have:=bZ.o.size;omega))⟩):G:=h
theorem pm174(h:G:=by
 have cA:((a.map (cC kd.ts sc)).take k).length=k:=by rw[List.length_take];have:=cY.o;simp;omega
 have jc:(a.map (cC kd.ts sc)).take k=(a.map (cC kd.ts sc)):=List.take_of_length_le (by have:=cY.o;simp;omega)
 first
 |clear pp174
  have pp21d:=();exact pm21
 |have pp21c:=();exact pm21):G:=h
theorem pm175(h:G:=by
 have HE:=ab (show R=true by rw[ht,List.drop_eq_nil_of_le (by rw[cY.o];exact Nat.le_refl _),bH];simp)
 have bW:=ab (bZ.o.trans (cQ.mono (by omega)))
 clear cQ ht
 go_wp2
 go_ret
 exact ⟨aA HE.o.symm,bW.o⟩):G:=h
theorem pm176(h:G:=by
 have Nc:=ab Hs
 have O8:¬((m3:Int)=(ni:Int)):=by omega
 have SF:((m3:Int) == (ni:Int))=false:=by simp;omega
 have HK9:=ab yR
 clear kG yR Qb TZ T0 Hs
 go_wp2
 go_ret
 exact StepPost.bad Nc.o (by decide) HK9.o):G:=h
theorem pm177(h:G:=by
 have pp306c:=();exact pm306):G:=h
theorem pm178(h:G:=by
 go_wp2_with (go_at_call 91;refine HC.o.mono ?_;rintro e w4 ⟨⟨⟨p0,p1,p2,p3,p4,p5,p6,p7⟩,rfl,hp⟩,aN⟩;have H4:=ab aN;clear hp aN;simp only[Option.isSome])
 go_ret
 first
 |clear pp178
  exact StepPost.bad HE.o (by decide) (Kp.below ((H3.o.1.tr H4.o).alloc (H3.o.1.tr H4.o).size _))
 |exact StepPost.bad HE.o (by decide) (Kp.below ((H2.o.2.1.tr H4.o).alloc (H2.o.2.1.tr H4.o).size _))):G:=h
theorem pm179(h:G:=by
 have hz:=OI.o
 exact ⟨hk.os.trans dG.o.os,hk.tape.trans dG.o.tape,hk.output.trans dG.o.output,Nat.le_trans dG.o.size hk.size,fun b hb=>(hk.same b (by omega) (by omega)).trans (dG.o.block b hb)⟩):G:=h
theorem pm180(h:G:=by
 obtain ⟨nZ,hi,wy,tu,wT⟩:=info_parts fW
 obtain ⟨ID,hj,kN,zR,Q7⟩:=info_parts mr
 first
 |clear pp180a
  intro t
  induction t using Fm.ind with
  | h o n a s ih=>
   intro aD ok w q hq
   have hp:bm (.mk o n a s)=.mk o n (a.map aK) (s.map bm):=by simp[bm,jT,uB]
   rw[hp]
   clear hp
   have pp23a:=();exact pm23
 |clear pp180b
  have GL:=aF kP gh
  clear kP gh
  intro f
  induction f using Fm.ind with
  | h o n a s ih=>
  intro aD L ins hL Mg vL ok w fq Mh cw hq
  obtain ⟨qo,qn,qa,ql,qc,qb,qm,qe⟩:=fq
  obtain ⟨s1,s2,hs,bD,dJ⟩:=aQ.1 hq
  have pp170:=();exact pm170
 |clear pp180c
  intro W0 f nx z aD zX s8 Xb oc wW hfz hnz ok J7 w q zq hT hq hz
  obtain ⟨o,n,a,s⟩:=f
  have uM:∀ t∈s,nodesF t<=100000/\iF t=true/\qone t=true/\depthF t<=kk:=fun t ht=>by
   simp only[iF,Bool.and_eq_true]at s8
   have zcE:=Xb
   simp only[qone,Bool.and_eq_true]at Xb
   have h1:=kT s t ht
   have h2:=jD s t ht
   simp only[nodesF]at zX
   simp only[depthF]at oc
   exact ⟨by omega,(jh s).1 s8.2 t ht,(gK s).1 Xb.2 t ht,by omega⟩
  have rj:bn o=true->a=[]/\∃g,s=[g]:=fun h=>m_ h Xb
  obtain ⟨HQs,Xc,eM,IX⟩:=eA rj uM IH wW
  have My:=aF hfz hnz
  obtain ⟨HZ,Mz⟩:=aS hz hT
  have Vq:=aF aD hq
  obtain ⟨zv,zn,za,zl,zc⟩:=zq
  simp only[TQ.val]at HZ ⊢
  have ih:=trivial
  have pp23d:=();exact pm23
 |intro c L ok w vL q cv hL PP M_ hq
  obtain ⟨so,sn,sa,sl,sc,sb,sm,se⟩:=q
  obtain ⟨v1,v2,h1,ib,lu⟩:=aQ.1 hq
  exact pm32):G:=h
theorem pm181(h:G:=by
 simp only[FQ.val,Value.agg.injEq,Array.mk.injEq,List.cons.injEq,and_true,Value.int.injEq,true_and,Value.string.injEq]at h1 h2
 obtain ⟨rfl,rfl,rfl,rfl⟩:=h1
 obtain ⟨rfl,rfl,rfl,rfl⟩:=h2
 first
 |clear pp181
  obtain rfl:=Mf.len
  obtain rfl:=GF.len
  simp only at gh
  obtain rfl:=gh.1.len
  obtain ⟨X,hX⟩:∃X:Pl,X=⟨.mk Px sn I2 ss,.mk Xz fn RA fs,ps.reverse⟩:=⟨_,rfl⟩
  obtain ⟨wb,AI⟩:∃wb:Sco,wb=(if bn Px then (sn,fn) :: ps.reverse else ps.reverse):=⟨_,rfl⟩
  have kO:bE ps.reverse (.mk Px sn I2 ss) (.mk Xz fn RA fs)=[X] ++ aT wb ss fs:=by rw[hX,AI];unfold bE;rfl
  rw[kO]at cV ⊢
  have dD:=MK.subs.len
  have wE:nodesF (.mk Px sn I2 ss)=ac I2+ah ss+1:=by unfold nodesF;rfl
  have mv:∀ t∈ss,ps.length+1+nodesF t<=1000000:=fun t ht=>by have:=kT ss t ht;omega
  obtain ⟨m0,du⟩:=ao (min ss.length fs.length)
  obtain ⟨sm,yd⟩:=ao ss.length
  obtain ⟨fm,Ah⟩:=ao fs.length
  obtain ⟨cl,hcl⟩:=ao ps.length
  have zaS:ss.length<=1000000:=by have:=ot ss;omega
  simp only[PlQ.val,PlQ.cells]
  rw[<-hcl]at gh
  rw[<-yd]at Mf zaS rj
  rw[<-Ah]at GF dD Ag
  rw[<-yd,<-Ah]at du
  rw[<-yd,<-Ah,<-hcl]
  obtain ⟨W1,bQ⟩:=ao (W.alloc (.cells #[.int .u8 Px,.string ⟨sn.toArray⟩,.slice sa sl sc,.slice sb sm se,.int .u8 Xz,.string ⟨fn.toArray⟩,.slice fa fl fc,.slice fb fm fe,.slice ca cl cc] 89))
  have hZ:=cB bQ
  have FO:J pre W1:=hJ pre _ _ (Nw.below hZ) hj
  have tC:=bN bQ
  have hWM:W.heap.size<W1.heap.size/\¬M W.heap.size:=⟨by rw[bQ];simp,fun h=>by have:=hM _ h;omega⟩
  have qD:=hY pre #[PlQ.val ⟨⟨Px,⟨sn.toArray⟩,sa,sl,sc,sb,sm,se⟩,⟨Xz,⟨fn.toArray⟩,fa,fl,fc,fb,fm,fe⟩,ca,cl,cc⟩] X W1 FO (Kp.below hZ) ⟨_,ps,rfl,by rw[hX],by omega,by rw[hX];exact rj.kp (Kp.below hZ),by rw[hX];exact Ag.kp (Kp.below hZ),gh.kp (Kp.below hZ)⟩ (iC cV)
  simp only[PlQ.val,PlQ.cells]at qD
  obtain ⟨eM,RB⟩:=aS ih MK.subs
  have vO:=bx kP mv hcl
  have zF:=aF hM hl
  have HJ:=aF hJ Xy
  obtain ⟨HY,HSs,Py,HP⟩:=eA hY Mf GF gh
  have Ca:=gh.1.cap
  have mw:=ab cV
  have fN:=bx du yd Ah
  obtain ⟨iB,dG,HWM,XA,lI⟩:=vD tC hZ hWM AI bQ
  have XB:=ab (show (pre ++ [X]) <+: xs from iC cV)
  obtain ⟨yfn,tmps,assign,body,hy,D5⟩:=iz 2 qD
  rw[bQ]at hy D5
  clear rj Ag gh hsa uK Mf GF MK ih du yd Ah hcl hj hZ FO qD hJ Xy hM hl hY cV kO hX AI tC hWM bQ mv wE kP
  refine (callsIn_wide (n:=3)).1 ?_
  refine callsIn_of_wp Tryz.func103 rfl trivial ?_ rfl
  simp only[Tryz.ntmps103,List.size_toArray,List.length_cons,List.length_nil,Nat.reduceAdd,Nat.reduceSub,Array.replicate_succ,Array.replicate_zero,List.push_toArray,List.append_toArray,List.nil_append,List.cons_append]
  have jb:∀ f,Fence.wide.fn f:=fun _=>trivial
  gi_wp2
  refine D5.mono ?_
  rintro e W2 (⟨rfl,uC,gX⟩ | ⟨rfl,XC,gX⟩)
  ·rw[<-lI.o]at gX
   have pi:=(gX.same _ HWM.o.1 HWM.o.2).trans iB.o
   obtain ⟨P0,P1,P2,P3,P4,P5,P6,P7,P8⟩:=gA (q:=⟨⟨Px,⟨sn.toArray⟩,sa,sl,sc,sb,sm,se⟩,⟨Xz,⟨fn.toArray⟩,fa,fl,fc,fb,fm,fe⟩,ca,cl,cc⟩) pi
   have CQ:=ef ⟨Px,⟨sn.toArray⟩,sa,sl,sc,sb,sm,se⟩ W2
   simp only[FQ.val]at CQ
   have FR:=ab CQ
   have H2:=bx uC ((Kp.below dG.o).trans gX) pi
   simp only at P0 P1 P2 P3 P4 P5 P6 P7 P8
   clear uC gX pi CQ D5 hy
   gi_wp2_with fail
   refine callsIn_wide.2 (FR.o.mono ?_)
   rintro e W3 ⟨rfl,aJ⟩
   clear P0 P1 P2 P3 P4 P5 P6 P7 P8
   have s9:=aF (HJ.o.1 _ _ _ ((Nw.below aJ)) (show J (pre ++ [X]) W2 from H2.o.1)) (H2.o.2.1.trans (Kp.below aJ))
   have fJ:=ab (bC aJ H2.o.2.2)
   cases n_:bn Px with
   | false=>
    have wD:=ab (show ps.reverse=wb by rw[XA.o,n_];rfl)
    have yi:=s9
    have Ll:=fJ
    have HPz:=ab (HP.o.kp s9.o.2)
    have p3:=ai fJ.o 3
    have p7:=ai fJ.o 7
    clear aJ n_
    gi_wp2
    clear p3 p7
    gi_loopw [40] (fun i wr=>∃k:Nat,k<=m0/\i=.int .i64 k/\J (pre ++ ([X] ++ aT wb (ss.take k) (fs.take k))) wr/\Kp M W3 wr) (fun i _=>m0 - (intOf i).toNat)
    case atStart=>exact ⟨0,Nat.zero_le _,rfl,by simpa[aT] using yi.o.1,Kp.refl _⟩
    case round=>
     exact pm220
   | true=>
    have wD:=ab (show (ps ++ [(sn,fn)]).reverse=wb by rw[XA.o,n_];simp)
    have Lj:=(HP.o.kp s9.o.2).1.cases
    have WR:=ab Lj
    have hold:((.slice ca cl cl:Value)=.slice none 0 0/\cl=0/\eY ps=[])\/∃b,(.slice ca cl cl:Value)=.slice (some b) cl cl/\(eY ps).length=cl * 2/\∀ j u,(eY ps)[j]?=some u->(W3.alloc (.cells #[.string ⟨sn.toArray⟩,.string ⟨fn.toArray⟩] 213)).drew.cell? (b.add j)=some u:=by
     rcases Lj with ⟨rfl,rfl,rfl⟩ | ⟨b,off,rfl⟩
     ·exact .inl ⟨rfl,rfl,by rw[List.eq_nil_of_length_eq_zero vO.o.2.2.symm];rfl⟩
     ·exact .inr ⟨_,rfl,by rw[fH,<-vO.o.2.2],((HP.o.kp s9.o.2).1.later (((Below.refl W3.heap.size W3).alloc (Nat.le_refl _) _).drew)).olds⟩
    have Mp:=ab hold
    have zcI:cl<=1000000:=by have:=vO.o.1;have:=vO.o.2.2;omega
    obtain ⟨S,hS⟩:∃S:World->Prop,S=fun V=>Below W3.heap.size W3 V:=⟨_,rfl⟩
    have f1:∀ V,S V->V.cell? ⟨W.heap.size,1,none⟩=some (.string ⟨sn.toArray⟩):=fun V h=>by rw[hS]at h;exact aa h (ai fJ.o 1)
    have f5:∀ V,S V->V.cell? ⟨W.heap.size,5,none⟩=some (.string ⟨fn.toArray⟩):=fun V h=>by rw[hS]at h;exact aa h (ai fJ.o 5)
    have dB:S W3.drew:=by rw[hS];exact (Below.refl _ _).drew
    have dr:=ab hS
    clear hS hold Lj n_ aJ
    gi_wp2
    refine br S 14 (by kernel_rfl) dB (fun jr dt=>?_)
    refine bS 0 16 (.slice ca cl cc) rfl dt fun eC=>?_
    simp only[ak]
    refine bS 1 17 (.slice ca cl cc) rfl eC fun eX=>?_
    simp only[ak]
    refine bS 2 18 (.int .i64 (cl:Int)) rfl eX fun fM=>?_
    simp only[ak]
    refine bS 3 19 (.slice ca cl cc) rfl fM fun gE=>?_
    simp only[ak]
    refine bS 4 20 (.int .i64 (cl:Int)) rfl gE fun iu=>?_
    simp only[ak]
    refine dc 5 21 (.slice ca cl cl) rfl (fun V hX=>by rcases WR.o with ⟨rfl,rfl,rfl⟩ | ⟨b,off,rfl⟩ <;> go_simp) iu fun iP=>?_
    simp only[ak]
    refine bS 6 22 (.pointer (some ⟨W.heap.size,0,none⟩)) rfl iP fun kV=>?_
    simp only[ak]
    refine bS 7 23 (.pointer (some ⟨W.heap.size,1,none⟩)) rfl kV fun pt=>?_
    simp only[ak]
    refine dc 8 24 (.string ⟨sn.toArray⟩) rfl (fun V hX=>by have g0:=f1 V hX;go_simp) pt fun EJ=>?_
    simp only[ak]
    refine bS 9 25 (.pointer (some ⟨W.heap.size,4,none⟩)) rfl EJ fun wd=>?_
    simp only[ak]
    refine bS 10 26 (.pointer (some ⟨W.heap.size,5,none⟩)) rfl wd fun EK=>?_
    simp only[ak]
    refine dc 11 27 (.string ⟨fn.toArray⟩) rfl (fun V hX=>by have g0:=f5 V hX;go_simp) EK fun ML=>?_
    simp only[ak]
    refine bS 12 28 (.agg #[.string ⟨sn.toArray⟩,.string ⟨fn.toArray⟩]) rfl ML fun Pz=>?_
    simp only[ak]
    refine b_ 13 rfl fun K hK=>?_
    go_simp
    have ls:Below W3.heap.size W3 (W3.alloc (.cells #[.string ⟨sn.toArray⟩,.string ⟨fn.toArray⟩] 213)).drew:=((Below.refl _ W3).alloc (Nat.le_refl _) _).drew
    refine hK _ _ (fun _=>by rw[dr.o];exact ls) (fun _=>?_)
    clear hK K
    refine b_ 14 rfl fun K hK=>?_
    refine fk (.tmp 21) (.tmp 29) 87 rfl 213 i0 (.agg #[.string ByteArray.empty,.string ByteArray.empty]) 2 32 Tryz.underlying87 hi rq jS hO rfl (by decide) (.slice ca cl cl) cl (eY ps) rfl Mp.o ⟨W3.heap.size,0,none⟩ 1 1 [.string ⟨sn.toArray⟩,.string ⟨fn.toArray⟩] rfl rfl (cK (cs:=#[.string ⟨sn.toArray⟩,.string ⟨fn.toArray⟩]) (t:=213) (fr:=(0,0)) (World.alloc_heap_new W3 _)) (by simp[Value.oneCell']) (by decide) (by unfold maxLen;omega) (by omega) ?_
    intro g cap X5 aC aq
    have sX:Below W3.heap.size W3 X5:=⟨aq.os.trans ls.os,aq.tape.trans ls.tape,aq.output.trans ls.output,Nat.le_trans ls.size aq.size,fun b hb=>(aq.block b (Nat.lt_of_lt_of_le hb ls.size) (by simp)).trans (ls.block b hb)⟩
    rw[<-ji (sn,fn) ps]at aC
    have sY:(W3.alloc (.cells #[.string ⟨sn.toArray⟩,.string ⟨fn.toArray⟩] 213)).drew.heap.size<=g/\g<X5.heap.size:=aC.lt g rfl
    have hzz:(W3.alloc (.cells #[.string ⟨sn.toArray⟩,.string ⟨fn.toArray⟩] 213)).drew.heap.size=W3.heap.size+1:=by show (W3.alloc _).heap.size=_;simp
    have HPz:=ab (show PairsN M X5 (.slice (some ⟨g,0,none⟩) (cl+1) cap) (ps ++ [(sn,fn)]) from ⟨PairsV.own aC,fun b hb hm=>by
     obtain rfl:g=b:=by simpa[Value.ownBlock] using hb
     have:=zF.o.1 g hm;have:=s9.o.2.size
     omega⟩)
    have yi:=aF (HJ.o.1 _ _ _ ((Nw.below sX).mono s9.o.2.size) s9.o.1) (s9.o.2.trans (Kp.below sX))
    have Ll:=ab (bC sX fJ.o)
    clear aC aq ls sX sY hzz
    refine ee hK ?_
    clear hK K
    refine b_ 15 rfl fun K hK=>?_
    have pp86b:=();exact pm86
  ·have HH:=aF XC gX
   clear XC gX D5 hy
   gi_wp2
   go_ret
   refine .inr ⟨rfl,_,XB.o,HH.o.1,?_⟩
   have h:=HH.o.2
   rw[<-lI.o]at h
   exact ((Kp.below dG.o).from _).trans h
 |obtain rfl:=ej.len
  obtain rfl:=vT.len
  obtain rfl:=xG.len
  obtain rfl:=PI.len
  obtain ⟨pa,pl,pc,rfl⟩:∃pa pl pc,v=.slice pa pl pc:=by obtain ⟨a,c,h,_⟩:=hp;exact ⟨_,_,_,h⟩
  obtain rfl:=hp.len
  first
  |clear pp81
   have uK:=hf.args
   have GF:=hf.subs
   have cq:=uK.len
   have dD:=GF.len
   have Ca:=hp.cap
   have hm:=Bh ps.reverse uo vo xn yn xa ya xs ys
   obtain ⟨R,hR⟩:=ao (bT ps.reverse (.mk uo xn xa xs) (.mk vo yn ya ys))
   rw[<-hR]at hm ⊢
   have EN:=si uo xn xa xs
   obtain ⟨D,hD⟩:=ao (dK (.mk uo xn xa xs))
   rw[<-hD]at EN gh
   obtain ⟨k0,bO⟩:=ao xa.length
   obtain ⟨m0,du⟩:=ao ya.length
   obtain ⟨k1,iT⟩:=ao xs.length
   obtain ⟨m1,iR⟩:=ao ys.length
   obtain ⟨p0,jM⟩:=ao ps.length
   have Kj:ps.length<=1000000000:=by omega
   have hp9:p0<=1000000000:=by omega
   rw[<-bO,<-du,<-iT,<-iR]at hm
   rw[<-bO]at cq
   rw[<-iT]at dD
   rw[<-jM]at Ca
   have pp47:=();exact pm47
  |have uK:=hf.args
   have GF:=hf.subs
   have cq:=uK.len
   have HWf:Hd (eb xa=true):=ab (by unfold iF at s8;simp only[Bool.and_eq_true]at s8;exact s8.1)
   have HWs:Hd (eF xs=true):=ab (by unfold iF at s8;simp only[Bool.and_eq_true]at s8;exact s8.2)
   clear s8
   have dD:=GF.len
   have Ca:=hp.cap
   have hm:=Bh ps.reverse uo vo xn yn xa ya xs ys
   obtain ⟨R,hR⟩:=ao (bT ps.reverse (.mk uo xn xa xs) (.mk vo yn ya ys))
   rw[<-hR]at hm ⊢
   have EN:=si uo xn xa xs
   obtain ⟨D,hD⟩:=ao (dK (.mk uo xn xa xs))
   rw[<-hD]at EN gh
   obtain ⟨k0,bO⟩:=ao xa.length
   obtain ⟨m0,du⟩:=ao ya.length
   obtain ⟨k1,iT⟩:=ao xs.length
   obtain ⟨m1,iR⟩:=ao ys.length
   obtain ⟨p0,jM⟩:=ao ps.length
   have Kj:ps.length<=1000000000:=by omega
   have hp9:p0<=1000000000:=by omega
   rw[<-bO,<-du,<-iT,<-iR]at hm
   rw[<-bO]at cq
   rw[<-iT]at dD
   rw[<-jM]at Ca
   exact pm47):G:=h
theorem pm182(h:G:=by
 have HZ:=ab (OX uA (rl.o.2.1.trans aZ) DJ ej dw Bw sI)
 have NI:=aF pN oA
 have Yu:=ab hl
 clear uA aZ DJ ej dw Bw sI pN oA fL ky hu Ud
 gi_wp2
 refine RoundEnd.mk ?hT ?hr ?hm
 case hT=>kernel_rfl
 first
 |clear pp182
  case hr=>exact ⟨0+1,by omega,by kernel_rfl,HZ.o.1,HZ.o.2.1,HZ.o.2.2.1,HZ.o.2.2.2.1,kj,KM,KN,HZ.o.2.2.2.2.1,by have:=NI.o.1;have:=NA.o.2.1;have:=Yu.o;omega,by have:=NI.o.2;have:=NA.o.2.2;have:=Yu.o;omega,HZ.o.2.2.2.2.2.1,fun h=>absurd h (by decide),fun _=>by have:=qN.o.1 (by simp);rw[this]at HZ;exact HZ.o.2.2.2.2.2.2,fun h=>absurd h (by decide)⟩
  case hm=>
   refine (show 2 - (intOf (Value.int IntKind.i64 (1:Int))).toNat<2 - (intOf (Value.int IntKind.i64 (0:Int))).toNat from ?_)
   simp[intOf]
 |case hr=>exact ⟨1+1,by omega,by kernel_rfl,HZ.o.1,HZ.o.2.1,HZ.o.2.2.1,HZ.o.2.2.2.1,kj,KM,KN,HZ.o.2.2.2.2.1,by have:=NI.o.1;have:=NA.o.2.1;have:=Yu.o;omega,by have:=NI.o.2;have:=NA.o.2.2;have:=Yu.o;omega,HZ.o.2.2.2.2.2.1,fun h=>absurd h (by decide),fun h=>absurd h (by decide),fun _=>⟨k,qN.o.2.1 (by simp),HZ.o.2.2.2.2.2.2⟩⟩
  case hm=>
   refine (show 2 - (intOf (Value.int IntKind.i64 (2:Int))).toNat<2 - (intOf (Value.int IntKind.i64 (1:Int))).toNat from ?_)
   simp[intOf]):G:=h
theorem pm183(h:G:=by
 have Lj:(la=none/\l0=0/\lc=0)\/∃b off,la=some ⟨b,off,none⟩:=by
  rcases pX with ⟨h1,h2,h3⟩ | ⟨b,off,h1,_⟩
  ·exact .inl ⟨h2,by rw[sW,h1];rfl,h3⟩
  ·exact .inr ⟨b,off,h1⟩
 first
 |clear pp183
  subst zY
  have hold:((.slice la l0 l0:Value)=.slice none 0 0/\l0=0/\L.map encStr=[])\/∃b,(.slice la l0 l0:Value)=.slice (some b) l0 l0/\(L.map encStr).length=l0 * 1/\∀ j u,(L.map encStr)[j]?=some u->(wq.alloc (.cells #[.string ⟨n.toArray⟩] 9)).drew.cell? (b.add j)=some u:=by
   rcases pX with ⟨h1,h2,h3⟩ | ⟨b,off,h1,h4⟩
   ·refine .inl ⟨?_,by rw[sW,h1];rfl,by rw[h1];rfl⟩
    rw[h2,sW,h1];rfl
   ·refine .inr ⟨⟨b,off,none⟩,by rw[h1],by rw[List.length_map,sW];omega,fun j u hu=>?_⟩
    rw[List.getElem?_map]at hu
    by_cases hj:j<L.length
    ·rw[List.getElem?_eq_getElem hj]at hu
     rw[tK]
     refine (aa (((Below.refl wq.heap.size wq).alloc (Nat.le_refl _) _).drew) (h4 j hj)).trans ?_
     rw[<-hu];rfl
    ·rw[List.getElem?_eq_none (by omega)]at hu;cases hu
  obtain ⟨Mp,WR,HL0⟩:=cf hold Lj sW
  obtain ⟨S,hS⟩:∃S:World->Prop,S=fun V=>Below wq.heap.size wq V:=⟨_,rfl⟩
  have f0:∀ V,S V->V.cell? ⟨w.heap.size+1,1,none⟩=some (.string ⟨n.toArray⟩):=fun V h=>by rw[hS]at h;exact aa h (ai SX.o 1)
  have dB:S wq.drew:=by rw[hS];exact (Below.refl _ _).drew
  obtain ⟨dr,zaD⟩:=aS hS sU
  clear hS hold Lj sW pX sU n_
  go_wp2
  refine (wpIn_wide (n:=3)).1 ?_
  refine br S 9 (by kernel_rfl) dB (fun jr dt=>?_)
  refine bS 0 48 (.slice la l0 lc) rfl dt fun eC=>?_
  simp only[ak]
  refine bS 1 49 (.slice la l0 lc) rfl eC fun eX=>?_
  simp only[ak]
  refine bS 2 50 (.int .i64 (l0:Int)) rfl eX fun fM=>?_
  simp only[ak]
  refine bS 3 51 (.slice la l0 lc) rfl fM fun gE=>?_
  simp only[ak]
  refine bS 4 52 (.int .i64 (l0:Int)) rfl gE fun iu=>?_
  simp only[ak]
  refine dc 5 53 (.slice la l0 l0) rfl (fun V hX=>by rcases WR.o with ⟨rfl,rfl,rfl⟩ | ⟨b,off,rfl⟩ <;> go_simp) iu fun iP=>?_
  simp only[ak]
  refine bS 6 54 (.pointer (some ⟨w.heap.size+1,1,none⟩)) rfl iP fun kV=>?_
  simp only[ak]
  refine dc 7 55 (.string ⟨n.toArray⟩) rfl (fun V hX=>by have g0:=f0 V hX;go_simp) kV fun pt=>?_
  simp only[ak]
  refine b_ 8 rfl fun K hK=>?_
  go_simp
  have ls:Below wq.heap.size wq (wq.alloc (.cells #[.string ⟨n.toArray⟩] 9)).drew:=((Below.refl _ wq).alloc (Nat.le_refl _) _).drew
  refine hK _ _ (fun _=>by rw[dr.o];exact ls) (fun _=>?_)
  clear hK K
  refine b_ 9 rfl fun K hK=>?_
  refine fk (.tmp 53) (.tmp 56) 66 rfl 9 i0s (.string ByteArray.empty) 1 16 Tryz.underlying66 Pf zaz zaA zaB rfl (by decide) (.slice la l0 l0) l0 (L.map encStr) rfl Mp.o ⟨wq.heap.size,0,none⟩ 1 1 [.string ⟨n.toArray⟩] rfl rfl (cK (cs:=#[.string ⟨n.toArray⟩]) (t:=9) (fr:=(0,0)) (World.alloc_heap_new wq _)) (by simp[Value.oneCell']) (by decide) (by unfold maxLen;omega) (by omega) ?_
  intro g cap X5 aC aq
  have sX:Below wq.heap.size wq X5:=⟨aq.os.trans ls.os,aq.tape.trans ls.tape,aq.output.trans ls.output,Nat.le_trans ls.size aq.size,fun b hb=>(aq.block b (Nat.lt_of_lt_of_le hb ls.size) (by simp)).trans (ls.block b hb)⟩
  have hmp:L.map encStr ++ [.string ⟨n.toArray⟩]=(L ++ [n]).map encStr:=by rw[List.map_append];rfl
  rw[hmp]at aC
  have nU:=StrsN.own aC
  have sY:(wq.alloc (.cells #[.string ⟨n.toArray⟩] 9)).drew.heap.size<=g/\g<X5.heap.size:=aC.lt g rfl
  have hzz:(wq.alloc (.cells #[.string ⟨n.toArray⟩] 9)).drew.heap.size=wq.heap.size+1:=by show (wq.alloc _).heap.size=_;simp
  have hgb:wq.heap.size<g/\g<X5.heap.size:=⟨by have:=sY.1;rw[hzz]at this;omega,sY.2⟩
  have GR:=ab (And.intro nU (show ∀ b,(Value.slice (some ⟨g,0,none⟩) (l0+1) cap).ownBlock=some b->b≠w.heap.size+1+1+1/\b<X5.heap.size from fun b hb=>by
   obtain rfl:g=b:=by simpa[Value.ownBlock] using hb
   have:=Mk.o.1;have:=dG.o.2
   exact ⟨by omega,hgb.2⟩))
  have Ml:=aF (Ew.o.tr sX) (Nat.le_trans Mk.o.1 sX.size)
  have Mm:=ab (bC sX WO.o)
  have SY:=ab (bC sX SX.o)
  have Mn:=ab (bC sX WP.o)
  have SZ:=ab (bC sX WQ.o)
  have GQ:=ab (Rj.o.below sX)
  have WS:Hd (∀ y,(L ++ [n]).contains y=(n :: ins).contains y):=ab (fun y=>by
   have:=GP.o.1 y
   rw[Bool.eq_iff_iff]at this ⊢
   simp only[List.contains_iff_mem,List.mem_append,List.mem_cons,List.not_mem_nil,or_false]at this ⊢
   rw[this]
   exact or_comm)
  clear aC aq ls sX hmp nU sY hgb hzz
  refine ee hK ?_
  clear hK K
  refine b_ 10 rfl fun K hK=>?_
  have pp86a:=();exact pm86
 |have WR:=ab Lj
  have zbr:=ab (show ¬lc<l0 by rw[sW];omega)
  have HL0:=ab sW
  have HG:=eO (hg.later pK.o) (aa pK.o c0) (aa pK.o c1) (aa pK.o c2) (aa pK.o c3)
  have HQq:=ab n_
  clear hg c0 c1 c2 c3 pX Lj sW n_ x0 x1 x2
  gi_wp2_with fail
  obtain ⟨Φ,gR⟩:∃Φ:Nat->Value->Bx->World->Prop,Φ=fun k=>(match k with
   | 0=>fun v _ _=>v=.pointer (some ⟨kb,0,none⟩)
   | 1=>fun v _ _=>v=.pointer (some ⟨w.heap.size,3,none⟩)
   | 2=>fun v _ _=>v=.slice (some ⟨b,off,none⟩) 1 se
   | 3=>fun v _ _=>v=.pointer (some ⟨b,off,none⟩)
   | 4=>fun v _ _=>v=.agg #[.int .u8 go,.string gn,.slice ga gl gc,.slice gb gm ge]
   | 5=>fun v _ _=>v=.slice la l0 lc
   | 6=>fun v _ _=>v=.slice la l0 lc
   | 7=>fun v _ _=>v=.int .i64 (l0:Int)
   | 8=>fun v _ _=>v=.slice la l0 lc
   | 9=>fun v _ _=>v=.int .i64 (l0:Int)
   | 10=>fun v _ _=>v=.slice la l0 l0
   | 11=>fun v _ _=>v=.pointer (some ⟨w.heap.size,1,none⟩)
   | 12=>fun v _ _=>v=.string ⟨n.toArray⟩
   | 13=>RowG (W1.heap.size<=·) #[.string ⟨n.toArray⟩] 9 1
   | 14=>NamesG (L ++ [n])
   | 15=>FormG (W1.heap.size<=·) (cz kd (n :: c) g)
   | 16=>BoxG #[.int .u8 0,.string ⟨#[]⟩,.slice none 0 0,.slice none 0 0] 36
   | 17=>fun _ γ w=>SetG (fun cs γ w=>∃q:FQ,cs=#[.int .u8 q.o,.string q.n,.slice q.a q.l q.c,.slice q.b q.m q.e]/\FormV (okB (W1.heap.size<=·) γ w) w q.val (cz kd (n :: c) g)) 36 γ w
   | _=>fun _ _ _=>True):=⟨_,rfl⟩
  have cw:∀ k v γ w dx w',Gr γ w dx w'->Φ k v γ w->Φ k v dx w':=by
   intro k v γ wz dx wz' hG
   rw[gR]
   match k with
   | 0=>exact id
   | 1=>exact id
   | 2=>exact id
   | 3=>exact id
   | 4=>exact id
   | 5=>exact id
   | 6=>exact id
   | 7=>exact id
   | 8=>exact id
   | 9=>exact id
   | 10=>exact id
   | 11=>exact id
   | 12=>exact id
   | 13=>exact RowG.step hG
   | 14=>exact NamesG.step hG
   | 15=>exact FormG.step hG
   | 16=>exact BoxG.step hG
   | 17=>exact SetG.step (fun cs ⟨q,e,h⟩=>⟨q,e,h.move hG.holds⟩) hG
   | k+18=>exact id
  refine j8 Φ (PsB 16 17) (IG (fun _=>False) fX.drew) Gr (none,false) (by kernel_rfl) rfl (by kernel_rfl) ⟨Kp.refl _,(fun _ h=>by cases h),fun _ h=>h.elim⟩ (fun k _=>⟨fun _=>rfl,fun _=>rfl⟩) (fun _ _ _ _ hG h=>h.step hG) cw ?steps ?fin
  case steps=>
   intro k hk
   match k,hk with
   | 0,_=>
    refine c_ rfl rfl jb rfl (fun a γ wz aW=>⟨rfl,.pointer (some ⟨kb,0,none⟩),γ,wz,?_,Gr.refl,fun _ _ h=>h,?_⟩)
    ·have e0:a.tmps.getD 0 undef=.pointer (some ⟨kb,0,none⟩):=bw ((aW.ou 0 rfl).trans rfl)
     go_simp
    ·rw[gR]
     exact rfl
   | 1,_=>
    refine c_ rfl rfl jb rfl (fun a γ wz aW=>⟨rfl,.pointer (some ⟨w.heap.size,3,none⟩),γ,wz,?_,Gr.refl,fun _ _ h=>h,?_⟩)
    ·have e4:a.tmps.getD 4 undef=.pointer (some ⟨w.heap.size,0,none⟩):=bw ((aW.ou 4 rfl).trans rfl)
     go_simp
    ·rw[gR]
     exact rfl
   | 2,_=>
    refine c_ rfl rfl jb rfl (fun a γ wz aW=>⟨rfl,.slice (some ⟨b,off,none⟩) 1 se,γ,wz,?_,Gr.refl,fun _ _ h=>h,?_⟩)
    ·obtain ⟨v83,t83,YJ⟩:=aW.val 1 _ 83 rfl rfl (by kernel_rfl)
     rw[gR]at YJ
     obtain rfl:=YJ
     have e83:=bw t83
     have c:=aW.inv.1.cell (fun h=>h) (show fX.drew.cell? ⟨w.heap.size,3,none⟩=_ from ai Po.o 3)
     go_simp
    ·rw[gR]
     exact rfl
   | 3,_=>
    refine c_ rfl rfl jb rfl (fun a γ wz aW=>⟨rfl,.pointer (some ⟨b,off,none⟩),γ,wz,?_,Gr.refl,fun _ _ h=>h,?_⟩)
    ·obtain ⟨v84,t84,YK⟩:=aW.val 2 _ 84 rfl rfl (by kernel_rfl)
     rw[gR]at YK
     obtain rfl:=YK
     have e84:=bw t84
     go_simp
    ·rw[gR]
     exact rfl
   | 4,_=>
    refine c_ rfl rfl jb rfl (fun a γ wz aW=>⟨rfl,.agg #[.int .u8 go,.string gn,.slice ga gl gc,.slice gb gm ge],γ,wz,?_,Gr.refl,fun _ _ h=>h,?_⟩)
    ·obtain ⟨v85,t85,YL⟩:=aW.val 3 _ 85 rfl rfl (by kernel_rfl)
     rw[gR]at YL
     obtain rfl:=YL
     have e85:=bw t85
     have c0:=aW.inv.1.cell (fun h=>h) (show fX.drew.cell? _=_ from HG.o.2.1)
     have c1:=aW.inv.1.cell (fun h=>h) (show fX.drew.cell? _=_ from HG.o.2.2.1)
     have c2:=aW.inv.1.cell (fun h=>h) (show fX.drew.cell? _=_ from HG.o.2.2.2.1)
     have c3:=aW.inv.1.cell (fun h=>h) (show fX.drew.cell? _=_ from HG.o.2.2.2.2)
     go_simp
    ·rw[gR]
     exact rfl
   | 5,_=>
    exact pm107
   | 6,_=>
    exact pm107
   | 7,_=>
    refine c_ rfl rfl jb rfl (fun a γ wz aW=>⟨rfl,.int .i64 (l0:Int),γ,wz,?_,Gr.refl,fun _ _ h=>h,?_⟩)
    ·obtain ⟨v88,t88,YM⟩:=aW.val 6 _ 88 rfl rfl (by kernel_rfl)
     rw[gR]at YM
     obtain rfl:=YM
     have e88:=bw t88
     go_simp
    ·rw[gR]
     exact rfl
   | 8,_=>
    exact pm107
   | 9,_=>
    refine c_ rfl rfl jb rfl (fun a γ wz aW=>⟨rfl,.int .i64 (l0:Int),γ,wz,?_,Gr.refl,fun _ _ h=>h,?_⟩)
    ·obtain ⟨v90,t90,YN⟩:=aW.val 8 _ 90 rfl rfl (by kernel_rfl)
     rw[gR]at YN
     obtain rfl:=YN
     have e90:=bw t90
     go_simp
    ·rw[gR]
     exact rfl
   | 10,_=>
    refine c_ rfl rfl jb rfl (fun a γ wz aW=>⟨rfl,.slice la l0 l0,γ,wz,?_,Gr.refl,fun _ _ h=>h,?_⟩)
    ·obtain ⟨v87,t87,YO⟩:=aW.val 5 _ 87 rfl rfl (by kernel_rfl)
     rw[gR]at YO
     obtain rfl:=YO
     have e87:=bw t87
     obtain ⟨v89,t89,YP⟩:=aW.val 7 _ 89 rfl rfl (by kernel_rfl)
     rw[gR]at YP
     obtain rfl:=YP
     have e89:=bw t89
     obtain ⟨v91,t91,YQ⟩:=aW.val 9 _ 91 rfl rfl (by kernel_rfl)
     rw[gR]at YQ
     obtain rfl:=YQ
     have e91:=bw t91
     have Ca:=zbr.o
     rcases WR.o with ⟨rfl,rfl,rfl⟩ | ⟨b,off,rfl⟩ <;> go_simp
    ·rw[gR]
     exact rfl
   | 11,_=>
    refine c_ rfl rfl jb rfl (fun a γ wz aW=>⟨rfl,.pointer (some ⟨w.heap.size,1,none⟩),γ,wz,?_,Gr.refl,fun _ _ h=>h,?_⟩)
    ·have e4:a.tmps.getD 4 undef=.pointer (some ⟨w.heap.size,0,none⟩):=bw ((aW.ou 4 rfl).trans rfl)
     go_simp
    ·rw[gR]
     exact rfl
   | 12,_=>
    refine c_ rfl rfl jb rfl (fun a γ wz aW=>⟨rfl,.string ⟨n.toArray⟩,γ,wz,?_,Gr.refl,fun _ _ h=>h,?_⟩)
    ·obtain ⟨v93,t93,YR⟩:=aW.val 11 _ 93 rfl rfl (by kernel_rfl)
     rw[gR]at YR
     obtain rfl:=YR
     have e93:=bw t93
     have c:=aW.inv.1.cell (fun h=>h) (show fX.drew.cell? ⟨w.heap.size,1,none⟩=_ from ai Po.o 1)
     go_simp
    ·rw[gR]
     exact rfl
   | 13,_=>
    refine c_ rfl rfl jb rfl (fun a γ wz aW=>⟨rfl,.slice (some ⟨wz.heap.size,0,none⟩) 1 1,γ,wz.alloc (.cells #[.string ⟨n.toArray⟩] 9),?_,Gr.keep ct,fun _ _ h=>h,?_⟩)
    ·obtain ⟨v94,t94,YS⟩:=aW.val 12 _ 94 rfl rfl (by kernel_rfl)
     rw[gR]at YS
     obtain rfl:=YS
     have e94:=bw t94
     go_simp
    ·rw[gR]
     exact RowG.new aW.inv (fun b hb=>Nat.le_trans (Nat.le_trans vM.o aW.inv.1.size) hb) _ _ _
   | 14,_=>
    refine c_ rfl rfl jb rfl (fun a γ wz aW=>?_)
    obtain ⟨v92,t92,YT⟩:=aW.val 10 _ 92 rfl rfl (by kernel_rfl)
    rw[gR]at YT
    obtain rfl:=YT
    have e92:=bw t92
    obtain ⟨v95,t95,f95⟩:=aW.val 13 _ 95 rfl rfl (by kernel_rfl)
    rw[gR]at f95
    obtain ⟨rb,rfl,hrb,hrc⟩:=f95
    have e95:=bw t95
    obtain ⟨v',w',hr,Ce,Qf,hlo⟩:=uk wz n rb hrc la l0 lc L HL0.o (by have:=HL.o.2.1;omega) (HL.o.1.later (pK.o.tr ((Below.refl _ _).drew.tr aW.inv.1.empty))) 66
    refine ⟨rfl,v',γ,w',?_,Gr.keep Qf,fun _ _ h=>h,?_⟩
    ·simp[execOp,resolve,invoke,builtin,Act.eval,e92,e95,hr,Result.andThen]
    ·rw[gR]
     exact ⟨Ce,fun b hb=>(okB.new (L:=fun _=>True) aW.inv (fun _ _=>trivial) b (hlo b hb).1 (hlo b hb).2).1⟩
   | 15,_=>
    refine AD rfl rfl jb rfl rfl (fun a γ wz aW=>?_)
    obtain ⟨v82,t82,YU⟩:=aW.val 0 _ 82 rfl rfl (by kernel_rfl)
    rw[gR]at YU
    obtain rfl:=YU
    have e82:=bw t82
    obtain ⟨v86,t86,YV⟩:=aW.val 4 _ 86 rfl rfl (by kernel_rfl)
    rw[gR]at YV
    obtain rfl:=YV
    have e86:=bw t86
    obtain ⟨v96,t96,f96⟩:=aW.val 14 _ 96 rfl rfl (by kernel_rfl)
    rw[gR]at f96
    have e96:=bw t96
    have Qy:=(Below.refl fX.heap.size fX).drew.tr aW.inv.1.empty
    refine ⟨rfl,72,#[.pointer (some ⟨kb,0,none⟩),.agg #[.int .u8 go,.string gn,.slice ga gl gc,.slice gb gm ge],v96],?_,?_⟩
    ·go_simp
    ·refine callsIn_wide.2 ((eM.o g (by simp) (n :: c) (L ++ [n]) _ wz v96 ⟨go,gn,ga,gl,gc,gb,gm,ge⟩ (HL.o.2.2.2.tr (pK.o.tr Qy)) f96.1 (by have:=HL.o.2.1;simp only[List.length_append,List.length_cons,List.length_nil];simp only[nodesF,ah]at this;omega) (fun y=>by
      have:=HL.o.2.2.1 y
      rw[List.contains_cons,<-this,Bool.eq_iff_iff]
      simp only[List.contains_iff_mem,List.mem_append,List.mem_cons,List.not_mem_nil,or_false,Bool.or_eq_true,beq_iff_eq]
      exact Or.comm) (HG.o.1.later Qy)).mono ?_)
     rintro e w' ⟨⟨q,rfl,hq⟩,Ra⟩
     exact ⟨q.val,rfl,γ,Gr.keep Ra,fun _ _ h=>h,by rw[gR];exact FormG.new aW.inv (fun b hb=>Nat.le_trans (Nat.le_trans vM.o aW.inv.1.size) hb) hq⟩
   | 16,_=>
    refine c_ rfl rfl jb rfl (fun a γ wz aW=>⟨rfl,.pointer (some ⟨wz.heap.size,0,none⟩),(some wz.heap.size,false),wz.alloc (.cells #[.int .u8 0,.string ⟨#[]⟩,.slice none 0 0,.slice none 0 0] 36),?_,rR _ (aW.psi.1 rfl),pu,?_⟩)
    ·go_simp
    ·rw[gR]
     exact rS
   | 17,_=>
    refine kK rfl jb rfl (fun a γ wz aW=>?_)
    obtain ⟨v97,t97,f97⟩:=aW.val 15 _ 97 rfl rfl (by kernel_rfl)
    rw[gR]at f97
    obtain ⟨q,rfl,hq⟩:=f97
    have e97:=bw t97
    obtain ⟨v13,v_,YW⟩:=aW.val 16 _ 13 rfl rfl (by kernel_rfl)
    rw[gR]at YW
    obtain ⟨bb,rfl,hb1,bA,aJ⟩:=YW
    have e13:=bw v_
    obtain ⟨OV,NX⟩:=γ
    obtain rfl:NX=false:=aW.psi.2 rfl
    simp only at hb1
    subst hb1
    have x:=aJ rfl
    obtain ⟨c0,c1,c2,c3,z0,z1,z2,z3⟩:=cW x
    have k6:=di (W:=wz) (b:=bb) (v0:=.int .u8 q.o) (v1:=.string q.n) (v2:=.slice q.a q.l q.c) (v3:=.slice q.b q.m q.e)
    have x6:=kf (v0:=.int .u8 q.o) (v1:=.string q.n) (v2:=.slice q.a q.l q.c) (v3:=.slice q.b q.m q.e) x
    refine ⟨rfl,(some bb,true),_,?_,ij k6,mG,?_⟩
    ·simp only[FQ.val]at e97
     go_simp
    ·rw[gR]
     exact ⟨bb,_,rfl,x6,q,rfl,hq.move (ij k6).holds⟩
   | k+18,hk=>exact absurd hk (by simp)
  case fin=>
   intro a γ wz h
   obtain ⟨v82,t82,YU⟩:=h.get 0 _ 82 rfl rfl
   rw[gR]at YU
   obtain rfl:=YU
   obtain ⟨v83,t83,YJ⟩:=h.get 1 _ 83 rfl rfl
   rw[gR]at YJ
   obtain rfl:=YJ
   obtain ⟨v84,t84,YK⟩:=h.get 2 _ 84 rfl rfl
   rw[gR]at YK
   obtain rfl:=YK
   obtain ⟨v85,t85,YL⟩:=h.get 3 _ 85 rfl rfl
   rw[gR]at YL
   obtain rfl:=YL
   obtain ⟨v86,t86,YV⟩:=h.get 4 _ 86 rfl rfl
   rw[gR]at YV
   obtain rfl:=YV
   obtain ⟨v87,t87,YO⟩:=h.get 5 _ 87 rfl rfl
   rw[gR]at YO
   obtain rfl:=YO
   obtain ⟨v88,t88,YM⟩:=h.get 6 _ 88 rfl rfl
   rw[gR]at YM
   obtain rfl:=YM
   obtain ⟨v89,t89,YP⟩:=h.get 7 _ 89 rfl rfl
   rw[gR]at YP
   obtain rfl:=YP
   obtain ⟨v90,t90,YN⟩:=h.get 8 _ 90 rfl rfl
   rw[gR]at YN
   obtain rfl:=YN
   obtain ⟨v91,t91,YQ⟩:=h.get 9 _ 91 rfl rfl
   rw[gR]at YQ
   obtain rfl:=YQ
   obtain ⟨v92,t92,YT⟩:=h.get 10 _ 92 rfl rfl
   rw[gR]at YT
   obtain rfl:=YT
   obtain ⟨v93,t93,YR⟩:=h.get 11 _ 93 rfl rfl
   rw[gR]at YR
   obtain rfl:=YR
   obtain ⟨v94,t94,YS⟩:=h.get 12 _ 94 rfl rfl
   rw[gR]at YS
   obtain rfl:=YS
   obtain ⟨v95,t95,f95⟩:=h.get 13 _ 95 rfl rfl
   rw[gR]at f95
   obtain ⟨v96,t96,f96⟩:=h.get 14 _ 96 rfl rfl
   rw[gR]at f96
   obtain ⟨v97,t97,f97⟩:=h.get 15 _ 97 rfl rfl
   rw[gR]at f97
   obtain ⟨v13,v_,YW⟩:=h.get 16 _ 13 rfl rfl
   rw[gR]at YW
   have fs:=h.did 17 _ rfl rfl
   rw[gR]at fs
   obtain ⟨bb,cs,hγ,uO,q,rfl,hq⟩:=fs
   obtain ⟨b2,rfl,hb1,_,_⟩:=YW
   rw[hγ]at hb1
   cases hb1
   subst hγ
   have ha:=h.act [(82,_),(83,_),(84,_),(85,_),(86,_),(87,_),(88,_),(89,_),(90,_),(91,_),(92,_),(93,_),(94,_),(95,_),(96,_),(97,_),(13,_)] rfl (by simp only[List.mem_cons,List.not_mem_nil,or_false,forall_eq_or_imp,forall_eq];exact ⟨t82,t83,t84,t85,t86,t87,t88,t89,t90,t91,t92,t93,t94,t95,t96,t97,v_⟩)
   rw[ha]
   have YX:=h.inv.1.empty
   have h0b:=h.inv.2.1
   clear ha h cw t82 t83 t84 t85 t86 t87 t88 t89 t90 t91 t92 t93 t94 t95 t96 t97 v_
   simp only[List.foldl_cons,List.foldl_nil,List.setIfInBounds_toArray,List.set_cons_zero,List.set_cons_succ]
   obtain ⟨G,Qz⟩:=ao (cz kd (n :: c) g)
   have hgk:=(nv By.o.1 By.o.2 HP.o.2.2.1).2
   have Nu:oU kd [g]<=1000:=by have:=HP.o.2.2.2.1;unfold sF at this;omega
   have JN:cX true [g]=true:=by have:=HP.o.1;simp only[okF,Bool.and_eq_true]at this;exact this.2.2.2.2
   have pw:=lY HP.o.2.2.2.2.1 HP.o.2.2.2.2.2 [g] (n :: c) JN hgk Nu
   have s8:=oT HP.o.2.2.2.2.1 [g] (n :: c) JN hgk
   simp only[eR,ah,fd,Bool.and_true,eF,en,<-Qz]at pw s8
   rw[<-Qz]at hq
   have YY:RS=mQ so n [] G:=by rw[Ro.o,Qw By.o.1 By.o.2 HQq.o,<-Qz]
   have Qy:Below fX.heap.size fX wz:=(Below.refl _ _).drew.tr YX
   have hGn:nodesF G<=1000:=by omega
   have x0:=bC Qy Po.o
   have x1:=bC Qy JM.o
   have x2:=bC Qy zbq.o
   have cv:fX.heap.size<=bb:=(h0b bb rfl).1.resolve_right (fun h=>h)
   have CF2:=oK G ⟨by omega,pw.2⟩ (by omega) _ wz q hq
   have mi:=ce hGn pw.2 s8.1 s8.2
   have Vq:=ab (hq.move (ok':=(W1.heap.size<=·)) (fun b hb _=>⟨hb.1,rfl⟩))
   have Ll:=ce x0 x1 x2 uO
   have Ml:=bx (pK.o.tr Qy) cv (Nat.le_trans vM.o Qy.size)
   have HRq:=ab YY
   simp only[FQ.val]at CF2
   have DG:=ab CF2
   obtain ⟨e0,e1,e2,e3,_,_,_,_⟩:=cW uO
   clear hgk Nu JN pw s8 hq YY Qy hGn x0 x1 x2 cv uO CF2 YX h0b Qz eM
   gi_wp2_with fail
   refine callsIn_wide.2 (DG.o.mono ?_)
   rintro e wf ⟨⟨vf,rfl,hvf⟩,xM⟩
   clear e0 e1 e2 e3
   have Vr:=ei (aO [] G)
   have uJ:=fj G []
   have CT:=eG (de (aO [] G)) (by have:=mi.o.1;omega) n _ wf vf hvf.strs
   rw[jk]at CT
   have x0:=bC xM Ll.o.1
   have x1:=bC xM Ll.o.2.1
   have x2:=bC xM Ll.o.2.2.1
   have x3:=bC xM Ll.o.2.2.2
   have n1:=ai x0 1
   have IV:=ab CT
   have YZ:=ce x0 x1 x2 x3
   have Y0:=bx (Ml.o.1.tr xM) (Nat.le_trans Ml.o.2.2 xM.size) (Vq.o.later xM)
   have OL:=bx hvf Vr uJ
   clear CT x0 x1 x2 x3 xM hvf Vr uJ
   gi_wp2_with fail
   refine callsIn_wide.2 (IV.o.mono ?_)
   rintro e wt ⟨rfl,rfl⟩
   cases uN:(aO [] G).contains n with
   | false=>
    have HRm:=ab (show RS=.mk so n [] [gS (cH n) (ap n) G] by rw[HRq.o];unfold mQ;rw[uN];rfl)
    have HM:=ab (show n.length<=2000000 by have:=OP.o.2.1;omega)
    obtain ⟨wq,I1⟩:=ao wt
    subst I1
    obtain ⟨Fs,Ew⟩:=aS YZ.o Y0.o
    clear uN n1
    gi_wp2_with fail
    have pp104:=();exact pm104
   | true=>
    obtain ⟨m,hm⟩:=ao (dq (aO [] G))
    have HRm:=ab (show RS=.mk so m [] [gS (cH n) (ap m) G] by rw[HRq.o,hm];unfold mQ;rw[uN];rfl)
    have HM:=ab (show m.length<=2000000 by rw[hm];exact nb (by have:=OL.o.2.2;have:=mi.o.1;omega))
    have Tg:=AQ WB wt (Mz.o.next Y0.o.1) (de (aO [] G)) (by have:=OL.o.2;have:=mi.o.1;omega) (fun x hx=>nd G [] mi.o.2.1 x ((dj x _).1 hx)) _ vf OL.o.1.strs
    rw[show dq (de (aO [] G))=m from (AP (by have:=OL.o.2;have:=mi.o.1;omega) (by have:=OL.o.2;have:=mi.o.1;omega) (fun x=>dj x _)).trans hm.symm]at Tg
    have Th:=ab Tg
    clear uN n1 hm Tg
    gi_wp2_with fail
    refine callsIn_wide.2 (Th.o.mono ?_)
    rintro e w8 ⟨rfl,f_⟩
    have x0:=bC f_ YZ.o.1
    have x1:=bC f_ YZ.o.2.1
    have x2:=bC f_ YZ.o.2.2.1
    have x3:=bC f_ YZ.o.2.2.2
    have r1:=ai x2 1
    have rz:=ae x2 1
    obtain ⟨wq,I1⟩:=ao (w8.setCell ⟨w.heap.size+1+1,1,none⟩ (.string ⟨m.toArray⟩))
    have kq:Kp (fun b=>b=w.heap.size+1+1) w8 wq:=by rw[I1];exact ⟨rfl,rfl,rfl,by simp,fun c _ hc=>Below.heap_setCell _ _ _ _ (by simpa using hc)⟩
    have x2q:wq.heap[w.heap.size+1+1]?=some (.cells #[.int .u8 so,.string ⟨m.toArray⟩,.slice e6 0 e7,.slice none 0 0] 36 (0,0)):=by rw[I1];exact (aV (F:=1) x2 (.string ⟨m.toArray⟩)).trans rfl
    have Pg:=vK.o
    have zbw:=Ml.o.2.1
    have Fs:=ce ((kq.same _ (bl x0) (by omega)).trans x0) ((kq.same _ (bl x1) (by omega)).trans x1) x2q ((kq.same _ (bl x3) (by have:=vM.o;omega)).trans x3)
    have Ew:=bx (Below.kp1 (Y0.o.1.tr f_) kq (by omega)) (Nat.le_trans Y0.o.2.1 (Nat.le_trans f_.size kq.size)) ((Y0.o.2.2.later f_).move (fun b hb hlt=>⟨hb,kq.same b hlt (by have h:W1.heap.size<=b:=hb;omega)⟩))
    have Hwq:=ab I1
    clear x0 x1 x2 x3 kq x2q f_ Pg zbw I1
    gi_wp2_with fail
    try rw[<-Hwq.o]
    exact pm104):G:=h
theorem pm184(h:G:=by
 have gu:(p1 == p1)=true:=by first | (simp;done) | simpa using ha
 have iD:(p2 == yn)=false:=by first | (simp;done) | simpa using hb
 have HE:=ab (show R=false by rw[HM.o,ht];simp[iD])
 clear ht
 first
 |clear pp184
  have pp91b:=();exact pm91
 |go_wp2
  go_ret
  exact ⟨aA HE.o.symm,bW.o.trans (ct.mono bW.o.size)⟩):G:=h
theorem pm185(h:G:=by
 have gu:(p1 == xn)=false:=by first | (simp;done) | simpa using ha
 have iD:(p2 == p2)=true:=by first | (simp;done) | simpa using hb
 have HE:=ab (show R=false by rw[HM.o,ht];simp[gu])
 clear ht
 first
 |clear pp185
  have pp91b:=();exact pm91
 |go_wp2
  go_ret
  exact ⟨aA HE.o.symm,bW.o.trans (ct.mono bW.o.size)⟩):G:=h
theorem pm186(h:G:=by
 rintro X Y hn ⟨k',uT,r',h1,h2,h3,h4,h5,h6,h7,h8⟩
 have:=eJ.o
 have:=kz.o.1
 have:=kz.o.2.1
 exact ⟨k',uT,r',h1,h2.nw hn (by omega) (by omega),h3,h4,h5,hn.cells h6,hn.cells h7,mg h8 hn⟩):G:=h
theorem pm187(h:G:=by
 simp only[oe,Bool.and_eq_true,decide_eq_true_eq]at h
 have h1:=h.2.2.1.1
 have:(c == 63)=false:=by
  rw[Bool.eq_false_iff];intro h2
  rw[beq_iff_eq]at h2;subst h2
  exact absurd h1 (by decide)
 first
 |clear pp187
  simp[dy,this]
 |simp[ea,dp,cG,this]):G:=h
theorem pm188(h:G:=by
 rw[show (j+1) * 4=j * 4+1+1+1+1 by omega,show j * 4+1+1+1+1+1=(j * 4+1)+1+1+1+1 by omega,show j * 4+1+1+1+1+2=(j * 4+2)+1+1+1+1 by omega,show j * 4+1+1+1+1+3=(j * 4+3)+1+1+1+1 by omega]
 first
 |clear pp188
  simpa using this
 |simpa[BT,TQ.cells] using this):G:=h
theorem pm189(h:G:=by
 have gu:(p1 == p1)=true:=by first | (simp;done) | simpa using ha
 have iD:(p2 == p2)=true:=by first | (simp;done) | simpa using hb
 have HE:=ab (show R=true by rw[HM.o,ht];simp)
 clear ht
 first
 |clear pp189
  have pp91b:=();exact pm91
 |go_wp2
  go_ret
  exact ⟨aA HE.o.symm,bW.o.trans (ct.mono bW.o.size)⟩):G:=h
end Go.Proofs.YtokemihbkeddoaaGreatDoor
