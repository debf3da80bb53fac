/-
Runs of tactics that several proofs share.
-/
import Derived.ArgAppend
import Derived.Below
import Derived.BigQuiet
import Derived.BigRegionIn
import Derived.CallsIn
import Derived.Carry
import Derived.ChangeMaps5
import Derived.ChangeSame
import Derived.ChangeStays
import Derived.ControlIn
import Derived.Deep.AppendLies
import Derived.Deep.Cut
import Derived.Deep.DeepCutAuto
import Derived.Deep.DeepHandedRow
import Derived.Deep.DeepWitnessRowRef
import Derived.Deep.Fields
import Derived.Deep.LoopGhost
import Derived.Deep.QuietTactic
import Derived.Deep.Slices
import Derived.Deep.Upon
import Derived.Defers
import Derived.Ground.GgzProg
import Derived.Ground.SlgmProg
import Derived.JoinedCond
import Derived.Laws.World
import Derived.Lib.Hide
import Derived.Lib.ItoaMem
import Derived.Lib.ItoaNum
import Derived.Lib.LaidTab
import Derived.Lib.LaidU8
import Derived.Lib.SliceRun
import Derived.Lib.SmallJoins
import Derived.LoopIn
import Derived.Maps.OwnIn
import Derived.Maps.OwnSet
import Derived.OpenShut
import Derived.OrdersHeld
import Derived.OrdersIn
import Derived.OwnWalkIn
import Derived.ProofKit
import Derived.RangeFuncBound
import Derived.RangeFuncBox
import Derived.RangeFuncLeaves
import Derived.RangeFuncNested
import Derived.RangeFuncRecord
import Derived.RegionIn
import Derived.Shelf.Abstract
import Derived.Shelf.AbstractIn
import Derived.Shelf.SlIter.Nil
import Derived.Shelf.SortM.Plain
import Derived.Shelf.SortM.SortNone
import Derived.ShutString
import Derived.SizedLaws
import Derived.SliceStrings
import Derived.Sort.KeysCollected
import Derived.Sort.Walk0
import Derived.Stop.RegionWithIn
import Derived.Tactics
import Derived.TacticsIn
import Derived.TacticsInMore
import Derived.WalkKit
import Derived.WalkLawsBesides
import Derived.WalkMore
import Derived.WalkSpells
namespace Go.Proofs.YtokemihbkeddoaaGreatDoor
open Go Go.RowKit Lib
set_option maxRecDepth 100000
variable {G:Prop}
theorem pm90(h:G:=by
 obtain ⟨⟨so,sn,sa,sl,sc,sb,sm,se⟩,⟨fo,fn,fa,fl,fc,fb,fm,fe⟩,ca,cl,cc⟩:=q
 first
 |clear pp90a;simp only[PlQ.cells,PlQ.val,FQ.val]at JV y' ⊢;have t0:W3.cell? ⟨w.heap.size+1,0,none⟩=some (.int .u8 qo):=ah xt 0;have t1:W3.cell? ⟨w.heap.size+1,1,none⟩=some (.string ⟨n.toArray⟩):=ah xt 1;have t2:W3.cell? ⟨w.heap.size+1,2,none⟩=some (.slice qa k0 qc):=ah xt 2;rw[<-bX,<-dW];have HX:=bF xp xt x1;clear hq bL eo hfit ih Sw cR bX dW Fd hi' aM wh xp xt x1 dB hL Pi uM hLs;go_enter Tryz.func91,Tryz.ntmps91;go_wp2;rw[<-y'.o];obtain ⟨W1,bY⟩:=am (W3.alloc (.cells #[.int .u8 qo,.string ⟨n.toArray⟩,.slice none 0 0,.slice none 0 0] 36));have Da:=cV bY;have hxr:W1.heap[w.heap.size+1+1+1]?=some (.cells #[.int .u8 qo,.string ⟨n.toArray⟩,.slice none 0 0,.slice none 0 0] 36 (0,0)):=by rw[bY];exact ai (by have:=bD.o.2;omega)
  rw[<-bY];have gY:W1.heap.size=w.heap.size+4:=by rw[bY];have:=bD.o.2;simp;omega
  have wI:=ac (Fills.start (R:=w.heap.size+1+1+1) (mk:=fun rr=>#[.int .u8 qo,.string ⟨n.toArray⟩,rr,.slice none 0 0]) (Row:=fun r W=>RowT W1.heap.size r ([]:List Tm) W) hxr (RowT.nil _ _));have ec:=aG (bD.o.1.tr Da) gY;have Pj:=ac (bJ Da HX.o.1);have zae:=ac (bJ Da HX.o.2.1);have MW:=ac (bJ Da HX.o.2.2);clear bY Da hxr gY t0 t1 t2;go_loopw [25] (fun i wr=>∃k1:Nat,k1<=k0/\i=.int .i64 k1/\∃row Sx,Fills 36 (w.heap.size+1+1+1) W1.heap.size (fun rr=>#[.int .u8 qo,.string ⟨n.toArray⟩,rr,.slice none 0 0]) (fun r W=>RowT W1.heap.size r Sx W) W1 wr row/\d9 ps.reverse ins (a.take k1)=some Sx/\Sx.length=k1) (fun i _=>k0 - (intOf i).toNat)
  case atStart=>exact ⟨0,aX _,rfl,_,[],wI.o,by simp[d9],rfl⟩
  case round=>
   obtain ⟨k1,hk,rfl,row,Sx,hF,AC,Db⟩:=hrel;have ar:=hF.below ec.o.1 (by omega);obtain ⟨gh,gi,rfl⟩:=hF.row.slice;rw[Db]at hF
   by_cases hlt:k1<k0
   ·have dJ:=ce dA.o hlt;have pp61a:=();exact pm61
   ·obtain rfl:k1=k0:=by omega
    have ki:a.take k1=a:=by rw[dA.o];exact cY
    rw[ki]at AC;have tk:=ac hF.row;have x2:=hF.box;have x1:=hF.other (by omega) MW.o;have xp:=hF.other (by omega) Pj.o;have xt:=hF.other (by omega) zae.o;obtain ⟨Fe,Pk⟩:=am wr;subst Pk;have CQ:=eX ⟨qo,⟨n.toArray⟩,qa,k1,qc,qb,m0,qe⟩ Fe;simp only[FQ.val]at CQ;have e0:Fe.cell? ⟨w.heap.size+1,0,none⟩=some (.int .u8 qo):=ah xt 0;have e1:Fe.cell? ⟨w.heap.size+1,1,none⟩=some (.string ⟨n.toArray⟩):=ah xt 1;have e2:Fe.cell? ⟨w.heap.size+1,2,none⟩=some (.slice qa k1 qc):=ah xt 2;have e3:Fe.cell? ⟨w.heap.size+1,3,none⟩=some (.slice qb m0 qe):=ah xt 3;have I7:=ac CQ;have HAs:=aG AC Db;have Sy:=ac hF;have HE:=fE xp xt x1 x2 ar;clear CQ AC Db hF xp xt x1 x2 ar ki;go_wp2_with fail;refine I7.o.mono ?_;rintro e wq ⟨rfl,lM⟩;clear e0 e1 e2 e3;have Wd:=Sy.o.later lM (fun r=>r.below lM);have Hi:=ac (HE.o.2.2.2.2.tr lM);have zaf:=ac (Wd.other (by omega) Pj.o);have We:=ac (Wd.other (by omega) zae.o);have zag:=ac (Wd.other (by omega) MW.o);obtain ⟨zah,Ux⟩:=aW Wd.box Wd.row;have Pm:=aG Wd.size Sy.o.lt;clear lM Wd Sy HE tk
    cases qh:bh qo with
    | false=>
     have wi:rZ=ins:=by rw[HI'.o,qh];rfl
     have Pn:=aG Hi.o Pm.o.1;have Po:=zaf;have Wf:=We;have Pp:=zag;have Wg:=zah;have JY:=Ux;have JZ:=aG (oO.o.1.later Hi.o) (show ∀ b,vL.ownBlock=some b->b≠w.heap.size+1+1+1/\b<wq.heap.size from fun b hb=>by have:=oO.o.2 b hb;have:=Hi.o.size;omega);have J0:=y_.o.2;rw[wi]at J0;have Pq:=aG y_.o.1 J0;clear y_ J0;have Wh:=ac (Fills.start (R:=w.heap.size+1+1+1) (mk:=fun rr=>#[.int .u8 qo,.string ⟨n.toArray⟩,.slice gh k1 gi,rr]) (Row:=fun r W=>RowF wq.heap.size r ([]:List Fm) W) Wg.o (RowF.nil _ _));have p3:wq.cell? ⟨w.heap.size+1,3,none⟩=some (.slice qb m0 qe):=ah Wf.o 3;clear wi;go_wp2;clear p3;go_loopw [61] (fun i wr=>∃k:Nat,k<=m0/\i=.int .i64 k/\∃row us,Fills 36 (w.heap.size+1+1+1) wq.heap.size (fun rr=>#[.int .u8 qo,.string ⟨n.toArray⟩,.slice gh k1 gi,rr]) (fun r W=>RowF wq.heap.size r us W) wq wr row/\fj ps.reverse ins (s.take k)=some us/\us.length=k) (fun i _=>m0 - (intOf i).toNat)
     case atStart=>exact ⟨0,aX _,rfl,_,[],Wh.o,by simp[fj],rfl⟩
     case round=>
      have pp238:=();exact pm238
    | true=>
     obtain ⟨i0s,Sz,zck,zcl,zcm⟩:=info_parts Aw;have wi:rZ=n :: ins:=by rw[HI'.o,qh];rfl
     have zcn:=oO.o.1.later Hi.o;obtain ⟨la,lc,C5,hlc,sB⟩:=zcn;obtain ⟨l0,tD⟩:=am L.length;rw[<-tD]at C5 hlc;have zeu:l0<=2000000:=by rw[tD];exact JX.o.2.2
     have pp176:=();exact pm176
 |clear pp90b;simp only[PlQ.val,PlQ.cells]at fp HC ⊢;go_enter Tryz.func163,Tryz.ntmps163;go_wp2_with (rw[<-fp.o];go_at_call 227;refine HC.o.mono ?_;rintro e w4 ⟨rfl,aO⟩;have H4:=ac aO;clear aO);go_ret;exact ⟨rfl,HB.o.tr H4.o⟩
 |clear pp90c;obtain ⟨hs,hf,hc,he,hl⟩:=hpv;simp only at hs hf hc he hl rI;have gX:=hp.ps he;obtain ⟨v1,v2,h1,iF,mK⟩:=aT.1 hs;obtain ⟨v3,v4,h2,Fr,WP⟩:=aT.1 hf;simp only[FQ.val,cF,Array.mk.injEq,b_,and_true,Value.int.injEq,true_and,Value.string.injEq]at h1 h2;obtain ⟨rfl,rfl,rfl,rfl⟩:=h1;obtain ⟨rfl,rfl,rfl,rfl⟩:=h2;obtain rfl:=iF.len;obtain rfl:=Fr.len;obtain rfl:=mK.len;obtain rfl:=WP.len;subst he;obtain ⟨R,hR⟩:=am (bK k ⟨.mk so n a s,.mk fo n' a' s',ps.reverse⟩);rw[<-hR];have qN:=hR;rw[H_]at qN;obtain ⟨n1,ea⟩:=am a.length;obtain ⟨n2,kY⟩:=am a'.length;obtain ⟨m1,ii⟩:=am s.length;obtain ⟨m2,oy⟩:=am s'.length;rw[<-ea]at hs iF;rw[<-ii]at hs mK;rw[<-kY]at hf Fr;rw[<-oy]at hf WP;rw[<-ea,<-kY,<-ii,<-oy];rw[<-ea,<-kY,<-ii,<-oy]at qN;obtain ⟨W1,bY⟩:=am (W.alloc (.cells #[.int .u8 so,.string ⟨n.toArray⟩,.slice sa n1 sc,.slice sb m1 se,.int .u8 fo,.string ⟨n'.toArray⟩,.slice fa n2 fc,.slice fb m2 fe,.slice ca cl cc] 89));have hb1:=cV bY;have ju:=Gx bY;have x1:=bU bY;have mw:n.length<=16:=by have h:=ig _ hp.s;simp only[ls,af,bp]at h;exact h.2.1
  have lC:=ig _ hp.s;simp only[ls,af,bp]at lC;have su:=ig _ hp.f;have hfit:fitF (.mk fo n' a' s'):=⟨by have:=hp.n;simp only at this;omega,gq (by omega) _ su⟩;have zu:nodesTs a<=400:=by simp only[nodesF]at rI;omega
  have M5:n1<=400:=by have:=ix a;omega
  have SM:n2<=2000000:=by rw[kY];exact hfit.args.len
  obtain ⟨HR,HP⟩:=aW qN hp;have HG:=fE RZ RY R1 WN WO;have HV:=rU hs hf iF Fr hc dZ;have HN:=cG ea kY ii oy;have HB:=fE sd qC zu hl gX;have jj:=ac bY;have H1:=bF hb1 ju x1;have HF:=aG hfit lC;clear qN hR hp RZ RY R1 WN WO hs hf iF Fr mK WP hc dZ ea kY ii oy sd qC zu hl gX bY hb1 ju hfit lC su AZ rI;simp only[PlQ.val,PlQ.cells];go_enter Tryz.func47,Tryz.ntmps47;go_wp2;rw[<-jj.o];go_cut [5,6] from 14 to 17 (fun s5 s6 wx=>∃B5 B6,s5=.pointer (some ⟨B5,0,none⟩)/\s6=.pointer (some ⟨B6,0,none⟩)/\Cmp W W1 B5 B6 #[.int .u8 so,.string ⟨n.toArray⟩,.slice sa n1 sc,.slice sb m1 se] #[.int .u8 fo,.string ⟨n'.toArray⟩,.slice fa n2 fc,.slice fb m2 fe] wx)
  case first=>
   obtain ⟨c0,c1,c2,c3,c4,c5,c6,c7⟩:=CU x1;have Oo:Below W1.heap.size W1 (W1.alloc (.cells #[.int .u8 0,.string ⟨#[]⟩,.slice none 0 0,.slice none 0 0] 36)):=cO;obtain ⟨d00,d01,d02,d03,d04,d05,d06,d07⟩:=Jp Oo c0 c1 c2 c3 c4 c5 c6 c7;clear Oo;have hb1:Below W1.heap.size W1 ((W1.alloc (.cells #[.int .u8 0,.string ⟨#[]⟩,.slice none 0 0,.slice none 0 0] 36)).alloc (.cells #[.int .u8 0,.string ⟨#[]⟩,.slice none 0 0,.slice none 0 0] 36)):=cO.alloc (by simp) _;obtain ⟨d10,d11,d12,d13,d14,d15,d16,d17⟩:=Jp hb1 c0 c1 c2 c3 c4 c5 c6 c7;clear hb1;have bB:Below W1.heap.size W1 ((W1.alloc (.cells #[.int .u8 so,.string ⟨n.toArray⟩,.slice sa n1 sc,.slice sb m1 se] 36)).alloc (.cells #[.int .u8 0,.string ⟨#[]⟩,.slice none 0 0,.slice none 0 0] 36)):=cO.alloc (by simp) _;obtain ⟨d20,d21,d22,d23,d24,d25,d26,d27⟩:=Jp bB c0 c1 c2 c3 c4 c5 c6 c7;clear bB;have aM:Below W1.heap.size W1 ((W1.alloc (.cells #[.int .u8 0,.string ⟨#[]⟩,.slice none 0 0,.slice none 0 0] 36)).alloc (.cells #[.int .u8 so,.string ⟨n.toArray⟩,.slice sa n1 sc,.slice sb m1 se] 36)):=cO.alloc (by simp) _;obtain ⟨d30,d31,d32,d33,d34,d35,d36,d37⟩:=Jp aM c0 c1 c2 c3 c4 c5 c6 c7;clear aM;go_region
   ·go_wp2_with fail;go_meet;exact ⟨_,_,rfl,rfl,Cmp.one W W1 _ _⟩
   ·go_wp2_with fail;go_meet;exact ⟨_,_,rfl,rfl,Cmp.two W W1 _ _⟩
  case rest=>
  obtain ⟨B5,B6,h5,h6,hcm⟩:=hcut;rw[h5,h6];clear h5 h6;obtain ⟨W3,dB⟩:=am wc;rw[<-dB]at hcm ⊢;clear dB wc;have aM:Below W.heap.size W W3:=H1.o.1.tr hcm.b;have xp:=bJ hcm.b H1.o.2.2;have hlb:=hcm.l;obtain ⟨e0,e1,e2,e3,_,_,_,_⟩:=dy hcm.s;obtain ⟨f0,f1,f2,f3,_,_,_,_⟩:=dy hcm.f;obtain ⟨P0,P1,P2,P3,P4,P5,P6,P7⟩:=CU xp;have P8:=ah xp 8;have H3:=cG aM xp hcm hlb;have m7:=ac (HV.o.2.2.2.2.2.later aM);clear aM xp hcm hlb
  by_cases dN:so=16
  ·subst dN;have HE:=ac (show R=(k,0) by rw[HR.o,au rfl]);go_wp2;go_ret;exact StepPost.good nF nT HE.o (Kp.below (H3.o.1.tr (aj _ _))) (by omega) (by omega) m7.o
  by_cases eQ:so=15
  ·subst eQ;obtain ⟨I,hI⟩:=am (eT ps.reverse [] (.mk fo n' a' s'));have Kf:=HR.o;rw[ak (by decide),au rfl,<-hI]at Kf;have CI:=Ea ⟨⟨15,⟨n.toArray⟩,sa,n1,sc,sb,m1,se⟩,⟨fo,⟨n'.toArray⟩,fa,n2,fc,fb,m2,fe⟩,ca,cl,cc⟩ ps HB.o.2.2.2.1 HB.o.2.2.2.2 (.mk fo n' a' s') HF.o.1 [] [] (by have:=HF.o.1.1;simp;omega) (fun _=>rfl) (.slice none 0 0) (fun b=>¬M b) W3 ⟨fo,⟨n'.toArray⟩,fa,n2,fc,fb,m2,fe⟩ (HV.o.2.2.2.2.1.1.later H3.o.1) (En _) (HV.o.2.1.later H3.o.1);rw[<-hI]at CI;simp only[PlQ.val,PlQ.cells,FQ.val]at CI;have HC:=ac CI
   cases I with
   | none=>
    have HE:=ac (show R=(k,70) from Kf);clear CI Kf hI;have pp169:=();exact pm169
   | some im=>
    have Zc:goodF im:=AX HP.o hI.symm;have UJ:=ac Zc;clear CI hI Zc;go_wp2_with (go_at_call 91;refine HC.o.mono ?_;rintro e w4 ⟨⟨⟨p0,p1,p2,p3,p4,p5,p6,p7⟩,rfl,hp⟩,aO⟩;have H4:=aG (hp _ rfl) aO;clear hp aO;simp only[Option.isSome]);obtain ⟨W5,fv⟩:=am (w4.alloc (.cells #[.int .u8 p0,.string p1,.slice p2 p3 p4,.slice p5 p6 p7] 36));rw[<-fv];have pW:=cV fv;have nL:Below W3.heap.size W3 W5:=H4.o.2.tr pW;have JP:=Gx fv;have x7:=bU fv;have Ib:FormV (fun b=>¬M b) W5 (FQ.val ⟨p0,p1,p2,p3,p4,p5,p6,p7⟩) im:=H4.o.1.move (fun b hb hlt=>⟨fun hm=>by have:=HG.o.2.2.2.2 b hm;have:=H3.o.1.size;omega,pW.block b hlt⟩);have jG:=m7.o.later nL;have bg:kb<W5.heap.size:=jG.ltb;have g0:W5.cell? ⟨kb,0,none⟩=some (.map (some mF)):=ah jG.box 0;have g1:W5.drew.cell? ⟨kb,0,none⟩=some (.map (some mF)):=ah jG.box 0;have g2:=aa nL e1;have g3:=aa nL.drew e1;have bm:Below W5.heap.size W5 (W5.alloc (.cells #[.int .u8 0,.string ⟨#[]⟩,.slice none 0 0,.slice none 0 0] 36)):=cO;obtain ⟨g4,g5⟩:=zS bm g0 g2;have H5:=cG nL Ib x7 jG;rcases jG.fs.look Tryz.underlying9 Tryz.underlying145 ml (x:=n) (by have:=HF.o.2.2.1;omega) with ⟨hg,hlk⟩ | ⟨g,vg,hg,hvg,hlk⟩
    ·have l1:=(hlk W5.drew rfl).1;have pp217:=();exact pm217
    ·obtain ⟨⟨Fw,Fx,Fy,Fz,FA,FB,FC,FD⟩,rfl,pf,Ic⟩:=hvg;simp only[FQ.val]at hlk;have l1:=(hlk W5.drew rfl).1;exact pm217
  obtain ⟨G,hG⟩:=am (so != fo || (n1 != n2 || (m1 != m2 || (n != n' && !bh so))));have hRg:=HR.o;rw[ak dN,ak eQ,<-hG]at hRg;obtain ⟨Ze,Zf⟩:=aW hRg hG;have iG:(so == 16)=false:=by simp[dN]
  have Kg:(so == 15)=false:=by simp[eQ]
  clear hRg hG;go_upto_region 15 with fail;clear iG Kg;go_cut [89] from 55 to 89 (fun s89 wx=>s89=.bool G/\Below W3.heap.size W3 wx)
  case first=>
   by_cases g1:so=fo
   ·subst g1;have a1:(so == so)=true:=by simp
    by_cases g2:n1=n2
    ·subst g2
     by_cases g3:m1=m2
     ·subst g3
      by_cases g4:n=n'
      ·subst g4;have a4:(n == n)=true:=by simp
       go_wp2_with fail;go_meet;exact ⟨by rw[Zf.o];simp,aj _ _⟩
      ·have a4:(n == n')=false:=by simp[g4]
       have a5:(n != n')=true:=by simp[g4]
       obtain ⟨qb,Je⟩:=am (bh so);have HQ:=ac (fun (V:World)=>eX ⟨so,⟨n.toArray⟩,sa,n1,sc,sb,m1,se⟩ V);simp only[FQ.val,<-Je]at HQ;have HGq:=ac (show G=!qb by rw[Zf.o,Je];simp[g4]);clear Je;cases qb
       ·go_wp2_with (go_at_call 93;refine (HQ.o _).mono ?_;rintro e w4 ⟨rfl,aO⟩;have H4:=ac aO;clear aO);go_meet;exact ⟨by rw[HGq.o];rfl,H4.o⟩
       ·go_wp2_with (go_at_call 93;refine (HQ.o _).mono ?_;rintro e w4 ⟨rfl,aO⟩;have H4:=ac aO;clear aO);go_meet;exact ⟨by rw[HGq.o];rfl,H4.o⟩
     ·have a3:((m1:Int) != (m2:Int))=true:=by simp;omega
      have a3b:((m1:Int) == (m2:Int))=false:=by simp;omega
      have a3c:¬((m1:Int)=(m2:Int)):=by omega
      go_wp2_with fail;go_meet;exact ⟨by rw[Zf.o];simp[g3],aj _ _⟩
    ·have a3:((n1:Int) != (n2:Int))=true:=by simp;omega
     have a3b:((n1:Int) == (n2:Int))=false:=by simp;omega
     have a3c:¬((n1:Int)=(n2:Int)):=by omega
     go_wp2_with fail;go_meet;exact ⟨by rw[Zf.o];simp[g2],aj _ _⟩
   ·have a1:(so == fo)=false:=by simp[g1]
    have a2:(so != fo)=true:=by simp[g1]
    go_wp2_with fail;go_meet;exact ⟨by rw[Zf.o];simp[g1],aj _ _⟩
  case rest=>
  obtain ⟨h89,aO⟩:=hcut;rw[h89];clear h89;obtain ⟨W4,xH⟩:=am wc;rw[<-xH]at aO ⊢;clear xH wc
  cases G with
  | true=>
   have HE:=ac (show R=(k,70) by rw[Ze.o];rfl);have ei:=ac (H3.o.1.tr aO);clear aO;go_wp2;go_ret;exact StepPost.bad HE.o (by decide) (Kp.below ei.o)
  | false=>
   have hgg:=Zf.o.symm;simp only[Bool.or_eq_false_iff,bne_eq_false_iff_eq]at hgg;obtain ⟨g1,g2,g3,_⟩:=hgg;subst g1 g2 g3;have zaE:=H3.o.1.tr aO;have xp4:=bJ aO H3.o.2.1;have x54:=bJ aO H3.o.2.2.1.s;have x64:=bJ aO H3.o.2.2.1.f;have q2:=ah x54 2;have hsz:W.heap.size<W4.heap.size:=(bz xp4);have H4:=fE zaE hsz xp4 x64 (H3.o.2.2.2.2);have HK4:=ac (m7.o.later aO);obtain ⟨Gn,HVa⟩:=aW HN.o.2.1 HV.o.2.2.2.1;have zcK:∀ {V:World},Kp M W V->PairsN M V (.slice ca cl cc) ps:=fun h=>HV.o.2.2.2.2.1.kp h;have R2:=ac (show ∀ u∈a,fitT u/\j5 1999999 u=true from fun u hu=>by
    have h1:=fI.1 HF.o.2.2.2.1 u hu;have h2:=gF hu;have:=HB.o.2.2.1;exact ⟨⟨by omega,ke (by omega) u h1⟩,ke (by omega) u h1⟩)
   have WQ:=Ze.o;simp only[bW,↓reduceIte]at WQ;have Ze:=ac WQ;clear aO zaE xp4 x54 x64 hsz e0 e1 e2 e3 f0 f1 f2 f3 P0 P1 P2 P3 P4 P5 P6 P7 P8;go_wp2_with fail;clear WQ;go_loopw [93] (fun i wr=>∃(j Dm:Nat) (kj:List (Str×Tm)),j<=n1/\i=.int .i64 j/\Kp (fun b=>b=mT) W4 wr/\Dm<=nT+nodesTs (a.take j)/\KnV (fun b=>¬M b) goodF goodT wr kb mF mT nF Dm ⟨k.fs,kj⟩/\cK ps.reverse k.ts a a'=cK ps.reverse kj (a.drop j) (a'.drop j)) (fun i _=>n1 - (intOf i).toNat)
   case atStart=>exact ⟨0,nT,k.ts,aX _,rfl,Kp.refl _,by omega,HK4.o,by simp⟩
   case round=>
    obtain ⟨j,Dm,kj,hj,rfl,bj,pd,dZ,gP⟩:=hrel;have hMm:∀ b,b=mT->M b:=fun b e=>e ▸ HG.o.2.1;have hkN:Kp (N2 mF mT) W wr:=(Kp.below H4.o.1).trans (bj.mono (fun b _ h=>.inr h));have Kh:Kp M W wr:=hkN.two HG.o.1 HG.o.2.1;have zeD:mT<W.heap.size:=HG.o.2.2.2.2 mT HG.o.2.1
    by_cases hlt:j<n1
    ·have me:=ce HN.o.1 hlt;have CX:=ce Gn.o hlt;obtain ⟨b1,o1,⟨xv,xn,xa,xl,xc⟩,rfl,sf,hx,c0,c1,c2⟩:=HV.o.2.2.1.get me;obtain ⟨b2,o2,⟨yv,yn,ya,yl,yc⟩,rfl,sg,hy,y0,y1,y2⟩:=HVa.o.get CX;simp only at c0 c1 c2 y0 y1 y2;have d0:=Kh.cell sf c0;have d1:=Kh.cell sf c1;have d2:=Kh.cell sf c2;have g0:=Kh.cell sg y0;have g1:=Kh.cell sg y1;have g2:=Kh.cell sg y2;have R3:=(bj.same _ (by have:=H4.o.2.1;omega) (by omega)).trans H4.o.2.2.1;have x6w:=(bj.same _ (bz H4.o.2.2.2.1) (by have:=H4.o.2.2.2.2;have:=H1.o.2.1;omega)).trans H4.o.2.2.2.1;exact pm109
    ·obtain rfl:j=n1:=by omega
     have HE:=ac (show R=({ k with ts:=kj },0) by
      rw[Ze.o,gP,gD (by rw[<-HN.o.1];exact aD _)];simp[cK])
     have cB:a.take j=a:=by rw[HN.o.1];exact cY
     rw[cB]at pd;have HK:=bF hkN pd dZ;clear bj pd dZ gP cB Kh hkN;go_wp2;go_ret;exact StepPost.good nF Dm HE.o HK.o.1 (by omega) (by have:=HK.o.2.1;have:=HB.o.2.2.1;omega) HK.o.2.2
 |clear pp90d;simp only at hq;obtain ⟨v1,v2,h1,iF,mK⟩:=aT.1 hq;have pp35e:=();exact pm35
 |clear pp90e;simp only at hq;obtain ⟨v1,v2,h1,iF,mK⟩:=aT.1 hq;have pp35f:=();exact pm35
 |clear pp90f;simp only at hq;obtain ⟨v1,v2,h1,iF,mK⟩:=aT.1 hq;have pp35g:=();exact pm35
 |clear pp90g;simp only[PlQ.val,PlQ.cells]at HC hB;have hs:=il (63 :: r);have hx:=jB 63 r;simp at hs hx;have h1:((1:Int)<=((63 :: r).length:Int)):=by simp;omega
  have c0:w.drew.cell? ⟨B,0,none⟩=some (.int .u8 so):=ah hB 0;have c1:w.drew.cell? ⟨B,1,none⟩=some (.string sn):=ah hB 1;have c2:w.drew.cell? ⟨B,2,none⟩=some (.slice sa sl sc):=ah hB 2;have c3:w.drew.cell? ⟨B,3,none⟩=some (.slice sb sm se):=ah hB 3;have c4:w.drew.cell? ⟨B,4,none⟩=some (.int .u8 fo):=ah hB 4;have c5:w.drew.cell? ⟨B,5,none⟩=some (.string fn):=ah hB 5;have c6:w.drew.cell? ⟨B,6,none⟩=some (.slice fa fl fc):=ah hB 6;have c7:w.drew.cell? ⟨B,7,none⟩=some (.slice fb fm fe):=ah hB 7;have c8:w.drew.cell? ⟨B,8,none⟩=some (.slice ca cl cc):=ah hB 8;obtain ⟨G,hG⟩:=am ((ps.map (·.1)).contains r);rw[<-hG]at HC ⊢;clear hv hB hG;go_enter Tryz.func196,Tryz.ntmps196;go_upto_region 1 with fail;go_region_with (go_at_call 163;refine HC.o.mono ?_;rintro e w4 ⟨rfl,aO⟩;have H4:=ac (((aj w.heap.size w).drew).trans aO);clear aO)
  all_goals (go_wp2;go_ret;exact ⟨rfl,H4.o⟩)
 |clear pp90h;simp only[PlQ.val,PlQ.cells]at zs HX jj ⊢;have c0:W1.cell? ⟨w.heap.size,0,none⟩=some (.int .u8 so):=ah HX.o.2 0;have c1:W1.cell? ⟨w.heap.size,1,none⟩=some (.string sn):=ah HX.o.2 1;have c2:W1.cell? ⟨w.heap.size,2,none⟩=some (.slice sa sl sc):=ah HX.o.2 2;have c3:W1.cell? ⟨w.heap.size,3,none⟩=some (.slice sb sm se):=ah HX.o.2 3;have c4:W1.cell? ⟨w.heap.size,4,none⟩=some (.int .u8 fo):=ah HX.o.2 4;have c5:W1.cell? ⟨w.heap.size,5,none⟩=some (.string fn):=ah HX.o.2 5;have c6:W1.cell? ⟨w.heap.size,6,none⟩=some (.slice fa fl fc):=ah HX.o.2 6;have c7:W1.cell? ⟨w.heap.size,7,none⟩=some (.slice fb fm fe):=ah HX.o.2 7;have c8:W1.cell? ⟨w.heap.size,8,none⟩=some (.slice ca cl cc):=ah HX.o.2 8;clear hv hq dZ hop qN hE hR hl yo pU hb1 x1 bY hs rI U4;go_enter Tryz.func125,Tryz.ntmps125;go_upto_region 1 with fail;rw[<-jj.o];go_wp2_with (first | (go_at_call 195;refine zs.o.mono ?_;rintro e w4 ⟨⟨v4,rfl,hv4⟩,aO⟩;have H4:=aG aO hv4;clear aO hv4) | (go_at_call 194;refine (mz.o w4 v4 H4.o.1 H4.o.2).mono ?_;rintro e w5 ⟨rfl,bm⟩;have H5:=ac bm;clear bm));go_ret;exact ⟨rfl,(HX.o.1.tr H4.o.1).tr H5.o⟩
 |obtain ⟨hs,hf,hc,he,hl⟩:=hpv;simp only at hs hf hc he hl rI;have gX:=hp.ps he;obtain ⟨v1,v2,h1,iF,mK⟩:=aT.1 hs;have pp35h:=();exact pm35):G:=h
theorem pm91(h:G:=by
 go_enter Tryz.func122,Tryz.ntmps122
 first
 |clear pp91a;go_wp2_with (first | (go_at_call 115;refine C1.o.mono ?_;rintro e w' ⟨rfl,rfl⟩) | (go_at_call 152;refine (CV.o _).mono ?_;rintro e w3 ⟨rfl,aM⟩));go_ret;exact JPost.yes HE.o (oR.o.1.trans (Kp.below aM)) (oR.o.2.1.later aM) (by show ((1:Nat):Int)<=left;omega)
 |clear pp91b;go_wp2_with (first | (go_at_call 115;refine C1.o.mono ?_;rintro e w' ⟨rfl,rfl⟩) | (go_at_call 152;refine (CV.o _).mono ?_;rintro e w3 ⟨rfl,aM⟩;have j0:=(oR.o.2.1.later aM).c0;have bD:=ac aM;clear aM));go_ret;exact JPost.no HE.o (oR.o.1.trans (Kp.below bD.o)) (oR.o.2.1.later bD.o) (by omega) (by omega)
 |clear pp91c;go_wp2_with (go_at_call 115;refine C1.o.mono ?_;rintro e w' ⟨rfl,rfl⟩);go_ret;exact JPost.no HE.o oR.o.1 oR.o.2.1 (by omega) (by omega)
 |clear pp91d;go_wp2_with (first | (go_at_call 115;refine C1.o.mono ?_;rintro e w' ⟨rfl,rfl⟩) | (go_at_call 121;refine (CF.o _).mono ?_;rintro e w3 ⟨rfl,aM⟩;have bD:=ac aM;clear aM));go_ret;exact JPost.no HE.o (oR.o.1.trans (Kp.below bD.o)) (oR.o.2.1.later bD.o) (by omega) (by omega)
 |clear pp91e;go_wp2_with (go_at_call 115;refine C1.o.mono ?_;rintro e w' ⟨rfl,rfl⟩);go_ret;exact JPost.no (l:=left - 1) HE.o ((oP _).trans (Kp.below cO)) ((HJ.o.set _).later cO) (by omega) (by omega)
 |clear pp91f;go_wp2_with (first | (go_at_call 115;refine C1.o.mono ?_;rintro e w' ⟨rfl,rfl⟩) | (go_at_call 152;refine (CV.o _).mono ?_;rintro e w3 ⟨rfl,aM⟩;have j0:=(oR.o.2.1.later aM).c0;have j1:=aa aM g1;have bD:=ac aM;clear aM) | (go_at_call 186;refine (CT.o _).mono ?_;rintro e w4 ⟨rfl,aO⟩;have ei:=ac aO;clear aO));go_ret
  first
  |clear pp66;exact JPost.yes HE.o ((oR.o.1.trans (Kp.below bD.o)).trans (Kp.below ei.o)) ((oR.o.2.1.later bD.o).later ei.o) (by show ((1:Nat):Int)<=left;omega)
  |exact JPost.no HE.o ((oR.o.1.trans (Kp.below bD.o)).trans (Kp.below ei.o)) ((oR.o.2.1.later bD.o).later ei.o) (by omega) (by omega)
 |go_wp2_with (first | (go_at_call 115;refine C1.o.mono ?_;rintro e w' ⟨rfl,m6⟩;obtain rfl:=m6.symm) | (go_at_call 121;refine (CF.o _).mono ?_;rintro e w3 ⟨rfl,aM⟩;have j2:=aa aM g2;have bD:=ac aM;clear aM) | (go_at_call 118;refine (CJ.o _ bD.o).mono ?_;rintro e w4 ⟨rfl,lK,l4,Z3,GG,OT,GQ⟩;have HH:=fE lK Z3 GG OT GQ;clear lK Z3 GG OT GQ));go_ret
  first
  |clear pp82;have h7:=HH.o.2.2.2.2 trivial;have qC:(nodesTs a:Int)<=left - 1:=by have:=HH.o.2.2.1;have h8:=HE.o;rw[af,af,bp]at h8;have:nodesT (.mk false n a)=nodesTs a+1:=rfl;omega
   refine JPost.yes HE.o ((oR.o.1.trans (Kp.below bD.o)).trans HH.o.1) ?_ (by show ((nodesTs a+1:Nat):Int)<=left;omega);have h9:=HH.o.2.1;have:l4=left - (nodesT (.mk false n a):Nat):=by show l4=left - ((nodesTs a+1:Nat):Int);omega
   rw[<-this];exact h9
  |exact JPost.no HE.o ((oR.o.1.trans (Kp.below bD.o)).trans HH.o.1) HH.o.2.1 HH.o.2.2.1 (by have:=HH.o.2.2.2.1;omega)):G:=h
theorem pm92(h:G:=by
 go_roundw
 case rel=>
  obtain ⟨aV,aq,hg,_⟩:=HG.o;have cR:=fw.o.stepF (F:=3) (t:=u') (p:=⟨po,pn,pa,pl,pc,pb,pm,pe⟩) (g:=g) (cap:=eF) (by rw[uJ.o.2];exact AE.o.2.1) (by rw[uJ.o.2];exact AE.o.1) AE.o.2.2 JW.o.2 JW.o.1 (by rw[uJ.o.2];exact aV) aq (by rcases hg with h | h;exact .inl h;exact .inr (by simp;omega)) rfl;rw[uJ.o.2]at cR;exact ⟨k+1,by omega,by go_num,_,us ++ [u'],cR,uJ.o.1,by rw[dO,uJ.o.2];rfl⟩
 case measure=>simp[intOf];omega):G:=h
theorem pm93(h:G:=by
 have e0:=ah h4 0;have e1:X.drew.cell? ⟨aB+1,0,none⟩=some (.int .i64 er):=ah h4 0;have e2:=ah h5 0;have e3:X.drew.cell? ⟨aB,0,none⟩=some (.int .i64 j):=ah h5 0;have jZ:(er == 0)=false:=by simp[h2]
 have xR:=(h6.same _ (bz l9.o) Cx.o.2).trans l9.o;obtain ⟨y0,y1,z0,z1⟩:=tN xR;have xRd:X.drew.heap[w.heap.size+1]?=some (.cells #[.slice none 0 0,.slice none 0 0] 26 (0,0)):=xR;obtain ⟨y2,y3,z2,z3⟩:=tN xRd;exact pm22):G:=h
theorem pm94(h:G:=by
 have cC:Below wr.heap.size wr A:=((aj wr.heap.size wr).drew).trans hA;refine hK _ _ (fun _=>by rw[dp.o];exact cC) (fun _=>?_);clear hK K;refine bZ 10 rfl fun K hK=>?_;go_simp;refine hK _ _ (fun _=>by rw[dp.o];exact cC) (fun _=>?_);clear hK K;refine bZ 11 rfl fun K hK=>?_;go_simp;refine hK _ _ (fun _=>by rw[dp.o];exact cC.alloc cC.size _) (fun _=>?_);clear hK K;obtain ⟨qs,eE,aA,gL⟩:=HF.o.row;rw[ek.o]at eE aA;have oN:=cC.size
 first
 |clear pp94;have sX:=HF.o.size;refine bZ 12 rfl fun K hK=>?_;refine bx (.tmp 20) (.tmp 30) 23 rfl W3.heap.size 40 p9 (.agg #[.string ByteArray.empty,.int .u8 0,.string ByteArray.empty,.slice none 0 0,.slice none 0 0]) 5 88 Tryz.underlying23 hi zp wJ zY rfl (by decide) (.slice ra j rc) j _ rfl ((bi aA (fun b _ hlt=>cC.block b hlt)).alloc _) ⟨_,0,none⟩ 1 1 (BF (nm,⟨p0,p1,p2,p3,p4,p5,p6,p7⟩)) rfl rfl (dc (cs:=#[.string ⟨nm.toArray⟩,.int .u8 p0,.string p1,.slice p2 p3 p4,.slice p5 p6 p7]) (t:=40) (fr:=(0,0)) (fZ A _)) (by simp[BF,FQ.cells,Value.oneCell']) (by decide) (by unfold maxLen;omega) (by omega) (by simp;omega) (A.heap.size+1) (by simp) ?_;intro g eF w4 aV aq hg eD;have h4:=HF.o.at4 (kk:=0) aA cC aq;have cR:=HF.o.stepFB (F:=0) (x:=nm) (t:=k.fs[j].2) (g:=g) (cap:=eF) (by rw[ek.o];exact aA) (by rw[ek.o];exact eE) gL cC (show FormV (wr.heap.size<=·) A (FQ.val ⟨p0,p1,p2,p3,p4,p5,p6,p7⟩) k.fs[j].2 from hp) (by rw[ek.o];exact aV) aq hg rfl;rw[ek.o,R6.o]at cR;have oO:=ac cR;have d3:=h4.2.2;have z3:=h4.2.1;clear aV aq hg eD cR h4 aA eE gL hp hA;refine eS hK ?_;clear hK K;refine bZ 13 rfl fun K hK=>?_;go_simp;refine eS hK ?_;clear hK K;refine bZ 14 rfl fun K hK=>?_;go_simp;refine eS hK ?_;clear hK K;refine kV ?_;clear ff dU;go_wp2;go_roundw
  case rel=>exact ⟨j+1,by omega,by go_num,_,oO.o⟩
  case measure=>simp[intOf];omega
 |have sX:=HF.o.size;refine bZ 12 rfl fun K hK=>?_;refine bx (.tmp 46) (.tmp 56) 24 rfl W6.heap.size 47 MG (.agg #[.string ByteArray.empty,.bool false,.string ByteArray.empty,.slice none 0 0]) 4 64 Tryz.underlying24 hq hqa Je hqc rfl (by decide) (.slice ra j rc) j _ rfl ((bi aA (fun b _ hlt=>cC.block b hlt)).alloc _) ⟨_,0,none⟩ 1 1 (BT (nm,⟨p0,p1,p2,p3,p4⟩)) rfl rfl (dc (cs:=#[.string ⟨nm.toArray⟩,.bool p0,.string p1,.slice p2 p3 p4]) (t:=47) (fr:=(0,0)) (fZ A _)) (by simp[BT,TQ.cells,Value.oneCell']) (by decide) (by unfold maxLen;omega) (by omega) (by simp;omega) (A.heap.size+1) (by simp) ?_;intro g eF w4 aV aq hg eD;have h4:=HF.o.at4 (kk:=1) aA cC aq;have cR:=HF.o.stepTB (F:=1) (x:=nm) (t:=k.ts[j].2) (g:=g) (cap:=eF) (by rw[ek.o];exact aA) (by rw[ek.o];exact eE) gL cC (show TermV (wr.heap.size<=·) A (TQ.val ⟨p0,p1,p2,p3,p4⟩) k.ts[j].2 from hp) (by rw[ek.o];exact aV) aq hg rfl;rw[ek.o,R6.o]at cR;have oO:=ac cR;have d3:=h4.2.2;have z3:=h4.2.1;clear aV aq hg eD cR h4 aA eE gL hp hA;refine eS hK ?_;clear hK K;refine bZ 13 rfl fun K hK=>?_;go_simp;refine eS hK ?_;clear hK K;refine bZ 14 rfl fun K hK=>?_;go_simp;refine eS hK ?_;clear hK K;refine kV ?_;clear ff dU;go_wp2;go_roundw
  case rel=>exact ⟨j+1,by omega,by go_num,_,oO.o⟩
  case measure=>simp[intOf];omega):G:=h
theorem pm95(h:G:=by
 have hs:=hA.size;have wg:=aq.size;simp only[World.size_alloc]at wg;have hx:=(h.at4 (kk:=F) aA hA aq).1;refine ⟨by rw[aY hx,xK],?_,h.kp5 aA hA aq,h.lt,h.base⟩
 first
 |clear pp95a;have h4:RowT lo (.slice (some ⟨g,0,none⟩) (ts.length+1) cap) (ts ++ [t]) w4:=RowT.step eE hA h.size gL (fun b hb=>(aA.lt b hb).2) hp aV
   (fun c _ hc hn=>(aq.block c (by simp;omega) (fun e=>hn e.symm)).trans (bE _ _ _ (by omega))) (by rcases hg with h | h;exact .inl h;exact .inr (by omega))
  exact h4.held (fun b hb _=>dV _ _ _ _ (by have:=h.lt;simp;omega))
 |clear pp95b;have h4:RowF lo (.slice (some ⟨g,0,none⟩) (ts.length+1) cap) (ts ++ [t]) w4:=RowF.step eE hA h.size gL (fun b hb=>(aA.lt b hb).2) hp aV
   (fun c _ hc hn=>(aq.block c (by simp;omega) (fun e=>hn e.symm)).trans (bE _ _ _ (by omega))) (by rcases hg with h | h;exact .inl h;exact .inr (by omega))
  exact h4.held (fun b hb _=>dV _ _ _ _ (by have:=h.lt;simp;omega))
 |clear pp95c;have h4:RowFB lo (.slice (some ⟨g,0,none⟩) (ts.length+1) cap) (ts ++ [(x,t)]) w4:=RowFB.step eE hA h.size gL (fun b hb=>(aA.lt b hb).2) hp aV
   (fun c _ hc hn=>(aq.block c (by simp;omega) (fun e=>hn e.symm)).trans (bE _ _ _ (by omega))) (by rcases hg with h | h;exact .inl h;exact .inr (by omega))
  exact h4.held (fun b hb _=>dV _ _ _ _ (by have:=h.lt;simp;omega))
 |have h4:RowTB lo (.slice (some ⟨g,0,none⟩) (ts.length+1) cap) (ts ++ [(x,t)]) w4:=RowTB.step eE hA h.size gL (fun b hb=>(aA.lt b hb).2) hp aV
   (fun c _ hc hn=>(aq.block c (by simp;omega) (fun e=>hn e.symm)).trans (bE _ _ _ (by omega))) (by rcases hg with h | h;exact .inl h;exact .inr (by omega))
  exact h4.held (fun b hb _=>dV _ _ _ _ (by have:=h.lt;simp;omega))):G:=h
theorem pm96(h:G:=by
 have x2:=hF.box;have x1:=hF.other (by omega) MD.o;obtain ⟨c0,c1,c2,c3⟩:=m5 x2;obtain ⟨e0,e1,e2,e3⟩:=m5 x1;have z0:=ae x1 0;have z1:=ae x1 1;have z2:=ae x1 2;have z3:=ae x1 3;have mv:=ac x1;have OO:=ac (VO.o.kp1 hF.kp (by have:=yN.o;omega));obtain ⟨cv,HSz⟩:=aW ar hF.size;clear ki cB hF x1 x2 ar;gi_wp2;have x6:=lA (v0:=.int .u8 qo) (v1:=.string ⟨n.toArray⟩) (v2:=.slice gh k1 gi) (v3:=.slice ra k rc) mv.o
 first
 |clear pp96;have k6:=dL (W:=wr) (b:=w.heap.size+1) (v0:=.int .u8 qo) (v1:=.string ⟨n.toArray⟩) (v2:=.slice gh k1 gi) (v3:=.slice ra k rc);obtain ⟨W6,dm⟩:=am ((((wr.setCell ⟨w.heap.size+1,0,none⟩ (.int .u8 qo)).setCell ⟨w.heap.size+1,1,none⟩ (.string ⟨n.toArray⟩)).setCell ⟨w.heap.size+1,2,none⟩ (.slice gh k1 gi)).setCell ⟨w.heap.size+1,3,none⟩ (.slice ra k rc));rw[<-dm]at x6 k6 ⊢;clear dm;have g0:W6.cell? ⟨w.heap.size+1,0,none⟩=some (.int .u8 qo):=ah x6 0;have g1:W6.cell? ⟨w.heap.size+1,1,none⟩=some (.string ⟨n.toArray⟩):=ah x6 1;have g2:W6.cell? ⟨w.heap.size+1,2,none⟩=some (.slice gh k1 gi):=ah x6 2;have g3:W6.cell? ⟨w.heap.size+1,3,none⟩=some (.slice ra k rc):=ah x6 3;have hz:=yN.o;have h6:FormV (w.heap.size<=·) W6 (FQ.val ⟨qo,⟨n.toArray⟩,gh,k1,gi,ra,k,rc⟩) (.mk qo n (a.map aN) (s.map bA)):=RowF.form (OO.o.kp1 k6 (by omega)) (HR.o.kp1 k6 (by have:=yO.o;omega)) ec.o.size (by have:=yO.o;have:=ec.o.size;omega);refine bI (v:=FQ.val ⟨qo,⟨n.toArray⟩,gh,k1,gi,ra,k,rc⟩) (by simp[FQ.val,results,Tryz.results66,go_sem,g0,g1,g2,g3]) rfl (⟨⟨qo,⟨n.toArray⟩,gh,k1,gi,ra,k,rc⟩,rfl,h6,Below.kp1 cv.o k6 (by omega)⟩)
 |have k6:=dL (W:=wr) (b:=w.heap.size+1+1) (v0:=.int .u8 qo) (v1:=.string ⟨n.toArray⟩) (v2:=.slice gh k1 gi) (v3:=.slice ra k rc);obtain ⟨W6,dm⟩:=am ((((wr.setCell ⟨w.heap.size+1+1,0,none⟩ (.int .u8 qo)).setCell ⟨w.heap.size+1+1,1,none⟩ (.string ⟨n.toArray⟩)).setCell ⟨w.heap.size+1+1,2,none⟩ (.slice gh k1 gi)).setCell ⟨w.heap.size+1+1,3,none⟩ (.slice ra k rc));rw[<-dm]at x6 k6 ⊢;clear dm;have g0:W6.cell? ⟨w.heap.size+1+1,0,none⟩=some (.int .u8 qo):=ah x6 0;have g1:W6.cell? ⟨w.heap.size+1+1,1,none⟩=some (.string ⟨n.toArray⟩):=ah x6 1;have g2:W6.cell? ⟨w.heap.size+1+1,2,none⟩=some (.slice gh k1 gi):=ah x6 2;have g3:W6.cell? ⟨w.heap.size+1+1,3,none⟩=some (.slice ra k rc):=ah x6 3;have hz:=yN.o;have h6:FormV (w.heap.size<=·) W6 (FQ.val ⟨qo,⟨n.toArray⟩,gh,k1,gi,ra,k,rc⟩) (.mk qo n (a.map (le nx z)) (s.map (eW kk nx z))):=RowF.form (OO.o.kp1 k6 (by omega)) (HR.o.kp1 k6 (by have:=yO.o;omega)) ec.o.size (by have:=yO.o;have:=ec.o.size;omega);refine bI (v:=FQ.val ⟨qo,⟨n.toArray⟩,gh,k1,gi,ra,k,rc⟩) (by simp[FQ.val,results,Tryz.results101,go_sem,g0,g1,g2,g3]) rfl (⟨⟨⟨qo,⟨n.toArray⟩,gh,k1,gi,ra,k,rc⟩,rfl,wX.o ▸ h6⟩,Below.kp1 cv.o k6 (by omega)⟩)):G:=h
theorem pm97(h:G:=by
 have l1:a.length=a'.length:=by have:=congrArg List.length h2;rwa [gx,gx]at this
 have l2:s.length=s'.length:=by have:=congrArg List.length h3;rwa [ko,ko]at this
 first
 |clear pp97a;refine ⟨⟨rfl,l1,l2⟩,.inr hq,(O3 l1).2 h2,?_⟩;rw[au hq];refine (lj s s' ((n,n') :: c) ht.2 hu.2 l2).2 ?_;simp only[cz,uE,List.length_map,eR];exact h3
 |clear pp97b;refine ⟨⟨rfl,l1,l2⟩,.inl h1,(O3 l1).2 h2,?_⟩;rw[ak hq];exact (lj s s' c ht.2 hu.2 l2).2 h3
 |clear pp97c;have e2:(rowOp o).2.2.1=2:=by
   exact pm213
  have e3:(o != 16)=true:=by
   exact pm213
  refine ⟨hok.1,⟨by rw[e2];exact hn,by rw[l1];exact hok.2.1.2.1,by rw[l2];exact hok.2.1.2.2⟩,by rw[e3];rfl,zE he a a' hw.1 hok.2.2.2.1 h2,?_⟩;refine FO s s' (n :: e) (n' :: e') ?_ hw.2 hb.2 hok.2.2.2.2 (by simp[hlen]) (by rw[uE,uE];simpa using h3);intro x hx;rcases cd.1 hx with rfl | hx
  ·exact hn
  ·exact he x hx
 |have e3:(o != 16)=true:=by
   cases dN:o != 16 with
   | true=>rfl
   | false=>
    have:o=16:=by simpa using dN
    subst this;exact absurd hok.1 (by decide)
  exact ⟨hok.1,⟨hok.2.1.1,by rw[l1];exact hok.2.1.2.1,by rw[l2];exact hok.2.1.2.2⟩,by rw[e3];rfl,zE he a a' hw.1 hok.2.2.2.1 h2,FO s s' e e' he hw.2 hb.2 hok.2.2.2.2 hlen h3⟩):G:=h
theorem pm98(h:G:=by
 obtain ⟨S,hS⟩:∃S:World->Prop,S=fun V=>Below wq.heap.size wq V:=⟨_,rfl⟩;have f0:∀ V,S V->V.cell? ⟨bb,0,none⟩=some (.int .u8 q.o)/\V.cell? ⟨bb,1,none⟩=some (.string q.n)/\V.cell? ⟨bb,2,none⟩=some (.slice q.a q.l q.c)/\V.cell? ⟨bb,3,none⟩=some (.slice q.b q.m q.e):=fun V h=>by rw[hS]at h;exact ⟨aa h (ah IM.o.2.2.2 0),aa h (ah IM.o.2.2.2 1),aa h (ah IM.o.2.2.2 2),aa h (ah IM.o.2.2.2 3)⟩
 first
 |clear pp98;have f1:∀ V,S V->V.cell? ⟨w.heap.size,1,none⟩=some (.string ⟨n.toArray⟩)/\V.cell? ⟨w.heap.size+1+1,1,none⟩=some (.string ⟨n.toArray⟩):=fun V h=>by rw[hS]at h;exact ⟨aa h (ah IM.o.1 1),aa h (ah IM.o.2.2.1 1)⟩
  have dU:S wq.drew:=by rw[hS];exact (aj _ _).drew
  have J5:=ac (fun (V:World) (h:Below wq.heap.size wq V)=>uS WB G (bQ n) (ao n) ⟨by have:=nU.o.1;omega,nU.o.2.1⟩ (by have:=nU.o.1;omega) nU.o.2.2.1 nU.o.2.2.2 (by have:=R2.o.2.1;simp[bQ];omega) ⟨by simp[ao,nodesT,nodesTs],wV HM.o⟩ (by simp[ao,nodesT,nodesTs]) _ (fun _=>True) V q ⟨true,⟨n.toArray⟩,none,0,0⟩ (PA.o.next (Hi.o.1.tr h)) (Hi.o.2.2.later h) (aP.2 ⟨_,rfl,cq⟩));have pp74:=();exact pm74
 |have f1:∀ V,S V->V.cell? ⟨w.heap.size,1,none⟩=some (.string ⟨n.toArray⟩)/\V.cell? ⟨w.heap.size+1+1,1,none⟩=some (.string ⟨m.toArray⟩):=fun V h=>by rw[hS]at h;exact ⟨aa h (ah IM.o.1 1),aa h (ah IM.o.2.2.1 1)⟩
  have dU:S wq.drew:=by rw[hS];exact (aj _ _).drew
  have J5:=ac (fun (V:World) (h:Below wq.heap.size wq V)=>uS WB G (bQ n) (ao m) ⟨by have:=nU.o.1;omega,nU.o.2.1⟩ (by have:=nU.o.1;omega) nU.o.2.2.1 nU.o.2.2.2 (by have:=R2.o.2.1;simp[bQ];omega) ⟨by simp[ao,nodesT,nodesTs],wV HM.o⟩ (by simp[ao,nodesT,nodesTs]) _ (fun _=>True) V q ⟨true,⟨m.toArray⟩,none,0,0⟩ (PA.o.next (Hi.o.1.tr h)) (Hi.o.2.2.later h) (aP.2 ⟨_,rfl,cq⟩));exact pm74):G:=h
theorem pm99(h:G:=by
 rcases h1 with ⟨rfl,h0⟩ | ⟨g,cap,cur,rfl,hlo,hb,hc,_,_,ht⟩
 ·obtain rfl:l=[]:=jJ h0;exact ⟨none,0,rfl,aD _,.inl rfl⟩
 ·refine ⟨_,cap,rfl,hc,.inr ⟨g,0,rfl,hlo,fun j hj=>?_⟩⟩;rw[Nat.zero_add,aI hb];have h2:(cur.toList.take (l.length * 1))[j]?=(l.map encStr)[j]?:=by rw[ht]
  rw[List.getElem?_take_of_lt (by omega),List.getElem?_map,gT hj]at h2;rw[<-Array.getElem?_toList,h2];rfl):G:=h
theorem pm100(h:G:=by
 have HF:=ac (HE.o.trans kl);obtain ⟨HC,kL⟩:=aW fJ bj;clear kl fJ cQ E2 GP jb pN ha hb hc hj bj hu gu c0 c1 c2 c3;go_wp2_with (go_at_call 64;refine HC.o.mono ?_;rintro e w6 ⟨rfl,BI,l6,BJ,FV,pw,ky⟩;have rk:=cG BI BJ FV pw;clear BI BJ FV pw ky);go_ret;exact JPost.no HF.o (kL.o.trans ((Kp.below cO).trans rk.o.1)) rk.o.2.1 rk.o.2.2.1 (by have:=rk.o.2.2.2;omega)):G:=h
theorem pm101(h:G:=by
 have CT:=ac (fun w3 (h3:Kp (fun c=>c=J) w w3) (j3:JAt J true (left - 1) br w3)=>dA.o ▸ uj a R6.o ok J true (left - 1) br (aZ+1) w3 qa _ qc (eb.o.move (fun b hb hlt=>⟨hb,h3.same b hlt (p_.o b hb)⟩)) p_.o j3 (by omega) (by omega) Oj (by omega) (by omega) (by omega));obtain ⟨bb,cQ⟩:=am (dH true a && (decide ((nodesTs a:Int)<=left - 1) && decide (aZ+1+bG a<=br+1)));rw[<-cQ]at CT hM
 first
 |clear pp101
  cases bb with
  | false=>
   exact pm30
  | true=>
   exact pm25
 |cases bb with
  | false=>
   exact pm46
  | true=>
   exact pm37):G:=h
theorem pm102(h:G:=by
 have CT:=ac (fun w3 (h3:Kp (fun c=>c=J) w w3) (j3:JAt J sc (left - 1) br w3)=>dA.o ▸ uj a R6.o ok J sc (left - 1) br (aZ+1) w3 qa _ qc (eb.o.move (fun b hb hlt=>⟨hb,h3.same b hlt (p_.o b hb)⟩)) p_.o j3 (by omega) (by omega) Oj (by omega) (by omega) (by omega));obtain ⟨bb,cQ⟩:=am (dH sc a && (decide ((nodesTs a:Int)<=left - 1) && decide (aZ+1+bG a<=br+1)));rw[<-cQ]at CT hM
 first
 |clear pp102
  cases bb with
  | false=>
   exact pm30
  | true=>
   have pp25:=();exact pm25
 |cases bb with
  | false=>
   exact pm46
  | true=>
   have pp37:=();exact pm37):G:=h
theorem pm103(h:G:=by
 refine dE rfl rfl iz rfl (fun a γ wz bl=>⟨rfl,.slice la l0 lc,γ,wz,?_,Gr.refl,fun _ _ h=>h,?_⟩)
 ·have e2:a.tmps.getD 2 undef=.slice la l0 lc:=bP ((bl.ou 2 rfl).trans rfl);go_simp
 ·rw[i_];exact rfl):G:=h
theorem pm104(h:G:=by
 have Uh:k<fs.length:=by have:=gR.o;omega
 obtain ⟨bs,os,u,rfl,ja,hu,c0,c1,c2,c3⟩:=HSs.o.get xF;obtain ⟨bf,of,v,rfl,Fq,hv,e0,e1,e2,e3⟩:=SR.o.get Uh;have ji:=AO.o.2.trans bj;have d0:=ji.cell ja.2 c0;have g0:=ji.cell Fq.2 e0;have d1:=ji.cell ja.2 c1;have g1:=ji.cell Fq.2 e1;have d2:=ji.cell ja.2 c2;have g2:=ji.cell Fq.2 e2;have d3:=ji.cell ja.2 c3;have g3:=ji.cell Fq.2 e3
 first
 |clear pp104;have pp20:=();exact pm20
 |exact pm20):G:=h
theorem pm105(h:G:=by
 obtain ⟨HF,ek,cv⟩:=cH hF cB ar;clear hu ar hF c0 c1 c2 c3 cB;gi_wp2;obtain ⟨W2,a_⟩:=am (wr.alloc (.cells #[.int .u8 u.o,.string u.n,.slice u.a u.l u.c,.slice u.b u.m u.e] 36));have f9:=cV a_;have xb:=bU a_;rw[<-a_];clear a_ d0 d1 d2 d3;have gZ:=HF.o.later f9 (fun r=>r.below f9);have pp154d:=();exact pm154):G:=h
theorem pm106(h:G:=by
 by_cases hv:uv=vv
 ·subst hv;have kt:¬k0=m0:=fun h=>C5 ⟨rfl,h⟩;have e1:((k0:Int) == (m0:Int))=false:=by simp;omega
  have e2:((k0:Int) != (m0:Int))=true:=by simp;omega
  cases uv <;> (go_wp2;rw[<-fp.o];go_ret;exact ⟨az HE.o.symm,cw.o⟩)
 ·cases uv <;> cases vv <;> first | exact absurd rfl hv | (go_wp2;rw[<-fp.o];go_ret;exact ⟨az HE.o.symm,cw.o⟩)):G:=h
theorem pm107(h:G:=by
 obtain ⟨HC,T1⟩:=aW CC ar;have HS:=aG Ce Kl;clear hu hcut CC Vy Ce hM ar c0 c1 c2 c3;go_wp2_with (go_at_call 23;refine HC.o.mono ?_;rintro e w4 ⟨rfl,aO⟩;have ei:=ac aO;clear aO);go_roundw
 case rel=>exact ⟨k+1,m+M,by omega,by go_num,by go_num,T1.o.trans (ei.o.mono T1.o.size),HS.o.1,HS.o.2⟩
 case measure=>simp[intOf];omega):G:=h
theorem pm108(h:G:=by
 obtain ⟨l1,FI⟩:=am (dr k.ts (a.take j));obtain ⟨l2,sr⟩:=am (jz k.ts a[j]);rw[<-sr]at CC;rw[<-FI,<-sr]at vp;rw[<-FI]at fh;have hlen:l1.length+l2.length<=4000000:=by rw[vp,dO]at C_;omega
 obtain ⟨mz,HT,yQ,sJ⟩:=eH CC vp hlen fv;have HB:=bF ar bm fh;have ES:(j:Int)<(n1:Int):=by omega
 clear CC FI sr vp hlen C_ zd Kj fv bm ar w_ hx hok c0 c1 c2 fh
 first
 |clear pp108;go_wp2_with (first | (rw[<-sJ.o];go_at_call 248;refine mz.o.mono ?_;rintro e w6 ⟨⟨v6,rfl,hv6⟩,da⟩;have H6:=aG (HB.o.2.1.tr da) hv6;clear da hv6) | (at_builtin;refine dY rfl _ _ rfl W2.heap.size (HB.o.1.tr H6.o.1).size u9 l1 rfl (HB.o.2.2.later H6.o.1) v6 l2 rfl _ H6.o.2.strs yQ.o ?_;intro v8 w8 Ho UG;have SL:=aG Ho UG;clear Ho UG));go_roundw
  case rel=>exact ⟨j+1,by omega,by go_num,by rw[HT.o];exact SL.o.1,(ow (M:=fun _=>False) (Kp.below (HB.o.1.tr H6.o.1)) SL.o.2 (fun g hg=>(HB.o.2.2.lt g hg).1)).empty⟩
  case measure=>simp[intOf];omega
 |go_wp2_with (first | (rw[<-sJ.o];go_at_call 248;refine mz.o.mono ?_;rintro e w6 ⟨⟨v6,rfl,hv6⟩,da⟩;have H6:=aG (HB.o.2.1.tr da) hv6;clear da hv6) | (at_builtin;refine dY rfl _ _ rfl W2.heap.size (HB.o.1.tr H6.o.1).size u5 l1 rfl (HB.o.2.2.later H6.o.1) v6 l2 rfl _ H6.o.2.strs yQ.o ?_;intro v8 w8 Ho UG;have SL:=aG Ho UG;clear Ho UG));go_roundw
  case rel=>exact ⟨j+1,by omega,by go_num,by rw[HT.o];exact SL.o.1,(ow (M:=fun _=>False) (Kp.below (HB.o.1.tr H6.o.1)) SL.o.2 (fun g hg=>(HB.o.2.2.lt g hg).1)).empty⟩
  case measure=>simp[intOf];omega):G:=h
theorem pm109(h:G:=by
 obtain ⟨W5,fv⟩:=am (wr.alloc (.cells #[.bool xv,.string xn,.slice xa xl xc] 43));have bm:=cV fv
 first
 |clear pp109a;have CC:=FF W2 _ kb mF mT nF nT k H2.o.2.2 a[j] (HQ.o.2.2.2.1.mem (aw me)) _ W5 ⟨xv,xn,xa,xl,xc⟩ (ar.tr bm) ((hx.later ar).later bm);simp only[TQ.val]at CC;obtain ⟨m0,dW⟩:=am (eh k.ts (a.take j)+1);obtain ⟨m2,oy⟩:=am (qq k.ts a[j]);have cR:=qS (k:=k.ts) me;have C_:=rK (fun x hx=>kP H2.o.2.2 (x:=x) hx) (a.take (j+1)) (rL HQ.o.2.2.2.1.2 _);have zd:=ku (a:=a) (j:=j+1);have Kj:=PS.o;rw[<-oy]at CC;rw[<-dW];have hw:IntKind.i64.wrap ((m0:Int)+(m2:Int))=((m0+m2:Nat):Int):=by rw[ik _ (by omega)];simp
  have mz:=ac CC;have LK:=ac (show m0+m2=eh k.ts (a.take (j+1))+1 by omega);have sJ:=ac fv;have HB:=aG ar bm;have ES:(j:Int)<(n1:Int):=by omega
  clear CC dW oy cR C_ zd Kj fv bm ar hx hok c0 c1 c2;go_wp2_with (rw[<-sJ.o];go_at_call 197;refine mz.o.mono ?_;rintro e w6 ⟨rfl,da⟩;have H6:=ac da;clear da);go_roundw
  case rel=>exact ⟨j+1,by omega,by go_num,by rw[<-LK.o];simp,(HB.o.1.tr HB.o.2).tr H6.o⟩
  case measure=>simp[intOf];omega
 |clear pp109b;have CC:=Dr W2 _ kb mF mT nF nT k H2.o.2.2 a[j] (HQ.o.2.2.2.1.mem (aw me)) (by have:=Bb (aw me);have:=PS.o;omega) _ W5 ⟨xv,xn,xa,xl,xc⟩ (ar.tr bm) ((hx.later w_).later bm);simp only[TQ.val]at CC;have vp:=pi (k:=k.ts) me;have C_:=pj (fun x hx=>kP H2.o.2.2 (x:=x) hx) (a.take (j+1)) (rL HQ.o.2.2.2.1.2 _);have zd:=ku (a:=a) (j:=j+1);have Kj:=PS.o;have pp108:=();exact pm108
 |clear pp109c;have CC:=fR.o a[j] (aw me) (UY.o.mem (aw me)) _ W5 ⟨xv,xn,xa,xl,xc⟩ (((H1.o.2.2.tr w_)).tr bm) ((hx.later w_).later bm);simp only[TQ.val]at CC;obtain ⟨m0,dW⟩:=am (eh k.ts (a.take j)+1);obtain ⟨m1,ii⟩:=am (qq k.ts a[j]);have cR:=qS (k:=k.ts) me;have C_:=rK VW.o (a.take (j+1)) (rL UY.o.2 _);have zd:=ku (a:=a) (j:=j+1);have Kj:=UY.o.1;rw[<-ii]at CC;rw[<-dW];have hw:IntKind.i64.wrap ((m0:Int)+(m1:Int))=((m0+m1:Nat):Int):=by rw[ik _ (by omega)];simp
  have mz:=ac CC;have LK:=ac (show m0+m1=eh k.ts (a.take (j+1))+1 by omega);have sJ:=ac fv;have HB:=aG ar bm;have ES:(j:Int)<(n1:Int):=by omega
  clear CC dW ii cR C_ zd Kj fv bm ar w_ hx hok c0 c1 c2;go_wp2_with (rw[<-sJ.o];go_at_call 197;refine mz.o.mono ?_;rintro e w6 ⟨rfl,da⟩;have H6:=ac da;clear da);go_roundw
  case rel=>exact ⟨j+1,by omega,by go_num,by rw[<-LK.o];simp,(HB.o.1.tr HB.o.2).tr H6.o⟩
  case measure=>simp[intOf];omega
 |clear pp109d;have CC:=fR.o a[j] (aw me) (UY.o.mem (aw me)) (by have:=Bb (aw me);have:=HSm.o;omega) _ W5 ⟨xv,xn,xa,xl,xc⟩ (((H1.o.2.2.tr w_)).tr bm) ((hx.later w_).later bm);simp only[TQ.val]at CC;have vp:=pi (k:=k.ts) me;have C_:=pj VW.o (a.take (j+1)) (rL UY.o.2 _);have zd:=ku (a:=a) (j:=j+1);have Kj:=HSm.o;exact pm108
 |have x5:=bU fv;have P9:=bJ bm R3;have x65:=bJ bm x6w;obtain ⟨S,hS⟩:∃S:World->Prop,S=fun V=>Below W5.heap.size W5 V:=⟨_,rfl⟩;have pp:∀ V,S V->V.cell? ⟨W.heap.size,0,none⟩=some (.int .u8 so)/\V.cell? ⟨W.heap.size,1,none⟩=some (.string ⟨n.toArray⟩)/\V.cell? ⟨W.heap.size,2,none⟩=some (.slice (some ⟨b1,o1,none⟩) n1 sc)/\V.cell? ⟨W.heap.size,3,none⟩=some (.slice sb m1 se)/\V.cell? ⟨W.heap.size,4,none⟩=some (.int .u8 so)/\V.cell? ⟨W.heap.size,5,none⟩=some (.string ⟨n'.toArray⟩)/\V.cell? ⟨W.heap.size,6,none⟩=some (.slice (some ⟨b2,o2,none⟩) n1 fc)/\V.cell? ⟨W.heap.size,7,none⟩=some (.slice fb m1 fe)/\V.cell? ⟨W.heap.size,8,none⟩=some (.slice ca cl cc):=fun V h=>by rw[hS]at h;exact ⟨aa h (ah P9 0),aa h (ah P9 1),aa h (ah P9 2),aa h (ah P9 3),aa h (ah P9 4),aa h (ah P9 5),aa h (ah P9 6),aa h (ah P9 7),aa h (ah P9 8)⟩
  have tt:∀ V,S V->V.cell? ⟨B6,2,none⟩=some (.slice (some ⟨b2,o2,none⟩) n1 fc):=fun V h=>by rw[hS]at h;exact aa h (ah x65 2)
  have yy:∀ V,S V->V.cell? ⟨b2,o2+j * 3,none⟩=some (.bool yv)/\V.cell? ⟨b2,o2+j * 3+1,none⟩=some (.string yn)/\V.cell? ⟨b2,o2+j * 3+2,none⟩=some (.slice ya yl yc):=fun V h=>by rw[hS]at h;exact ⟨aa h (aa bm g0),aa h (aa bm g1),aa h (aa bm g2)⟩
  have dU:S W5.drew:=by rw[hS];exact (aj _ _).drew
  have P':Kp M W W5:=Kh.trans (Kp.below bm);have HKN:=ac (hkN.trans (Kp.below bm));have wv:=o9 me;have WR:=HV.o.2.2.2.2.1.kp P';have hx5:=hx.kpM P' (fun _ h=>h);have hy5:=hy.kpM P' (fun _ h=>h);obtain ⟨I,hI⟩:=am (ir ps.reverse [] a'[j]);have CI:=fun (V:World) (h:Below W5.heap.size W5 V)=>sG ⟨⟨so,⟨n.toArray⟩,some ⟨b1,o1,none⟩,n1,sc,sb,m1,se⟩,⟨so,⟨n'.toArray⟩,some ⟨b2,o2,none⟩,n1,fc,fb,m1,fe⟩,ca,cl,cc⟩ ps HB.o.2.2.2.1 HB.o.2.2.2.2 [] [] (by simp) (fun _=>rfl) (fun _=>True) (.slice none 0 0) a'[j] (HF.o.1.args.mem (aw CX)) _ V ⟨yv,yn,ya,yl,yc⟩ (WR.1.later h) ⟨none,0,rfl,aD _,.inl rfl⟩ (hy5.later h);rw[<-hI]at CI;simp only[PlQ.val,PlQ.cells,TQ.val]at CI;obtain ⟨Uo,dp⟩:=aW CI hS;have cR:=H' (c:=ps.reverse) (k:=kj) me CX;rw[<-hI]at cR;rw[cR]at gP;have H5:=rU P' bm x5 P9 WR hx5;have SV:=cG bj pd (dZ.later bm) wv;have HIj:=bF (show ∀ u,I=some u->goodT u from fun u h=>El HP.o (aw CX) (by rw[<-hI];exact h)) (R2.o _ (aw me)) me;have UX:=ac gP;have ES:(j:Int)<(n1:Int):=by omega
  clear CI cR gP hS hI hy5 hx5 WR wv P' hy hx sf sg c0 c1 c2 y0 y1 y2 dZ pd bj Kh hkN R3 x6w bm x5 P9 x65;go_wp2;rw[<-fv];clear fv d0 d1 d2 g0 g1 g2;go_cut [12,13] from 98 to 107 (fun s12 s13 wx=>∃B12,s12=.pointer (some ⟨B12,0,none⟩)/\s13=.bool I.isSome/\∃uq:TQ,wx.heap[B12]?=some (.cells #[.bool uq.v,.string uq.n,.slice uq.a uq.l uq.c] 43 (0,0))/\Below W5.heap.size W5 wx/\W5.heap.size<=B12/\∀ u,I=some u->TermV (W5.heap.size<=·) wx uq.val u)
  case first=>
   have iz:=fd;refine (wpIn_wide (n:=3)).1 ?_;refine lH S 12 dU fun jC bN=>?_;refine dh 0 99 (.agg #[.int .u8 so,.string ⟨n.toArray⟩,.slice (some ⟨b1,o1,none⟩) n1 sc,.slice sb m1 se,.int .u8 so,.string ⟨n'.toArray⟩,.slice (some ⟨b2,o2,none⟩) n1 fc,.slice fb m1 fe,.slice ca cl cc]) rfl (fun V hX=>by obtain ⟨h0,h1,h2,h3,h4,h5,h6,h7,h8⟩:=pp V hX;go_simp) bN fun cr=>?_;simp only[ag];refine bC 1 100 (.pointer (some ⟨B6,2,none⟩)) rfl cr fun f_=>?_;simp only[ag];refine dh 2 101 (.slice (some ⟨b2,o2,none⟩) n1 fc) rfl (fun V hX=>by have h0:=tt V hX;go_simp) f_ fun gQ=>?_;simp only[ag];refine bC 3 102 (.int .i64 (j:Int)) rfl gQ fun iK=>?_;simp only[ag];refine bC 4 103 (.pointer (some ⟨b2,o2+j * 3,none⟩)) rfl iK fun jF=>?_;simp only[ag];refine dh 5 104 (.agg #[.bool yv,.string yn,.slice ya yl yc]) rfl (fun V hX=>by obtain ⟨h0,h1,h2⟩:=yy V hX;go_simp) jF fun j7=>?_;simp only[ag];refine zcJ (i:=6) (j:=10) rfl rfl (by kernel_rfl) (by rfl) (by rfl) (fun K hK=>?_) (fun K hK=>?_)
   ·go_simp;refine aK.2 ((Uo.o _ (by have h:=bN;rw[dp.o]at h;exact h)).mono ?_);rintro e w6 ⟨⟨⟨u0,u1,u2,u3,u4⟩,rfl,hu⟩,da⟩;have kN:Below W5.heap.size W5 w6:=((aj W5.heap.size W5).drew).trans da;have H6:=aG kN hu;refine hK _ _ (fun _=>by rw[dp.o];exact H6.o.1) (fun j7=>?_)
    replace j7:=j7 (by decide)
    clear hK K hu da kN;have pp130:=();exact pm130
   ·go_simp;obtain ⟨EB,S4⟩:=am W5.heap.size;obtain ⟨A1,Gs⟩:=am (W5.alloc (.cells #[.bool false,.string ⟨#[]⟩,.slice none 0 0] 43)).drew;have Ie:Below W5.heap.size W5 A1:=by rw[Gs];exact cO.drew
    have Zg:A1.heap[EB]?=some (.cells #[.bool false,.string ⟨#[]⟩,.slice none 0 0] 43 (0,0)):=by rw[Gs,S4];exact ai rfl
    have hEz:EB=W5.heap.size:=S4;rw[<-Gs,<-S4];have HA:=bF Ie Zg hEz;refine hK _ _ (fun _=>by rw[dp.o];exact HA.o.1) (fun _=>?_);clear hK K Gs S4 Ie Zg hEz;refine bZ 6 rfl fun K hK=>?_;go_simp;refine aK.2 ((Uo.o _ HA.o.1).mono ?_);rintro e w6 ⟨⟨⟨u0,u1,u2,u3,u4⟩,rfl,hu⟩,da⟩;have kN:Below W5.heap.size W5 w6:=HA.o.1.tr da;have hn6:=bJ da HA.o.2.1;have H6:=fE kN hu hn6 (bz HA.o.2.1) HA.o.1.size;refine hK _ _ (fun _=>by rw[dp.o];exact H6.o.1) (fun j7=>?_)
    replace j7:=j7 (by decide)
    obtain ⟨z0,z1,z2,y0',y1',y2'⟩:=gN hn6;clear hK K hu da kN hn6;exact pm130
  case rest=>
  obtain ⟨B12,h12,h13,⟨u0,u1,u2,u3,u4⟩,Zh,da,WS,hu⟩:=hcut;rw[h12,h13];clear h12 h13 pp tt yy;obtain ⟨W6,dm⟩:=am wc;rw[<-dm]at Zh da hu ⊢;clear dm wc;simp only at Zh;have S5:Kp M W W6:=H5.o.1.trans (Kp.below da)
  cases I with
  | none=>
   have HE:=ac (show R=(k,70) by rw[Ze.o,UX.o]);have Kb:=ac (HKN.o.trans (Kp.below da));clear Zh da WS hu S5;go_wp2;go_ret;exact StepPost.bad HE.o (by decide) Kb.o
  | some im=>
   have hu:=hu im rfl;have Zi:=HIj.o.1 im rfl;have hum:TermV (fun b=>¬M b) W6 (TQ.val ⟨u0,u1,u2,u3,u4⟩) im:=hu.move (fun b hb hlt=>⟨fun hm=>by have:=HG.o.2.2.2.2 b hm;have:=H5.o.1.size;omega,rfl⟩);have wu:=bJ da H5.o.2.2.2.1;have x56:=bJ da H5.o.2.2.1;obtain ⟨P0,P1,P2,P3,P4,P5,P6,P7⟩:=CU wu;have P8:=ah wu 8;obtain ⟨s0,s1,s2,_,_,_⟩:=gN x56;obtain ⟨t0,t1,t2,_,_,_⟩:=gN Zh;have CE:=M9 ⟨⟨so,⟨n.toArray⟩,some ⟨b1,o1,none⟩,n1,sc,sb,m1,se⟩,⟨so,⟨n'.toArray⟩,some ⟨b2,o2,none⟩,n1,fc,fb,m1,fe⟩,ca,cl,cc⟩ ps HB.o.2.2.2.1 goodF goodT (fun _ h=>h.fit) (fun _ _ _ h=>h.args) M kb mF mT HG.o.2.1 HG.o.1 HG.o.2.2.1 (a[j]'HIj.o.2.2) HIj.o.2.1.1 HIj.o.2.1.2 im Zi W6 nF Dm ⟨k.fs,kj⟩ ⟨xv,xn,xa,xl,xc⟩ ⟨u0,u1,u2,u3,u4⟩ (SV.o.2.2.1.later da) (by have:=SV.o.2.1;have:=SV.o.2.2.2;have:=HB.o.2.1;have:=HB.o.2.2.1;omega) (zcK S5) (H5.o.2.2.2.2.2.later da) hum;have gP:=UX.o;simp only at gP;obtain ⟨EQ,hEQ⟩:=am (cJ (ps.reverse.map (·.1)) kj (a[j]'HIj.o.2.2) im);simp only[<-hEQ]at gP CE;simp only[PlQ.val,PlQ.cells,TQ.val]at CE;have HCE:=ac CE;have Kb:=aG (HKN.o.trans (Kp.below da)) (SV.o.1.trans (Kp.below (H5.o.2.1.tr da)))
   cases EQ with
   | none=>
    have HE:=ac (show R=(k,70) by rw[Ze.o,gP]);clear Zh da WS hu S5 hum wu x56 CE gP hEQ Zi;go_wp2_with (go_at_call 95;refine HCE.o.mono ?_;rintro e w7 ⟨ox,r,rfl,gE,_⟩;obtain rfl:=gE (by simp);have H7:=ac ox;clear ox gE);go_ret;exact StepPost.bad HE.o (by decide) (Kb.o.1.trans (H7.o.mono (fun b _ h=>.inr h)))
   | some ts0=>
    have Kd:=ac (show cK ps.reverse k.ts a a'=cK ps.reverse ts0 (a.drop (j+1)) (a'.drop (j+1)) from gP);clear Zh da WS hu S5 hum wu x56 CE gP hEQ Zi;go_wp2_with (go_at_call 95;refine HCE.o.mono ?_;rintro e w7 ⟨ox,r,rfl,_,UR⟩;obtain ⟨rfl,nT7,US,AR⟩:=UR _ rfl;have H7:=bF ox US AR;clear ox UR US AR);go_roundw
    case rel=>exact ⟨j+1,nT7,ts0,by omega,by go_num,Kb.o.2.trans H7.o.1,by have:=H7.o.2.1;have:=SV.o.2.1;have:=SV.o.2.2.2;omega,H7.o.2.2,Kd.o⟩
    case measure=>simp[intOf];omega):G:=h
theorem pm110(h:G:=by
 refine ⟨fun h0=>(by rw[hr]at h0;cases h0),fun k hk=>?_⟩;rw[hr]at hk;simp only[cd,List.not_mem_nil,or_false]at hk;rcases hk with rfl | rfl
 ·refine wpOpIn_step hi (fun K' ET=>?_);rw[au hwi];exact h1 K' (fun a w hS hW=>ET a w ⟨hS,hW hS⟩)
 ·refine wpOpIn_step hj (fun K' ET=>?_);rw[au hwj];exact h2 K' (fun a w hS hW=>ET a w ⟨hS,hW hS⟩)):G:=h
theorem pm111(h:G:=by
 refine em (B:=w.heap.size) (Marks.nil _ _) (fun w' hn=>?_);have h0:=hn.cell g0;have h1:=hn.cell g1;refine ⟨.tuple #[.agg #[.slice none 0 0,.slice none 0 0],.int .i64 (j:Int),.int .i64 2],by simp[results,Tryz.results15,go_sem,h0,h1],⟨⟨⟨none,0,0,none,0,0⟩,by (rw[HE.o];try rfl),by rw[HE.o];exact oC⟩,jo tR hn⟩⟩):G:=h
theorem pm112(h:G:=by
 have ip:=hq1;simp only[gS,af]at hw;simp only[qone,af]at hq1;simp only[depthF]at hd
 first
 |clear pp112a
  by_cases hq:bh o=true
  ·obtain ⟨rfl,g,rfl⟩:=lW hq ip;simp only[el,ee,Bool.and_true,aS]at hw hq1 hd;have pp165a:=();exact pm165
  ·have hq:bh o=false:=by simpa using hq
   rw[qM hq];have ih:∀ g∈s,_:=fun g hg=>eP k g x y ((iD s).1 hw.2 g hg) ((gy s).1 hq1.2 g hg) (by have:=iR s g hg;omega);refine ⟨?_,?_,?_,?_⟩
   ·simp only[gS,af];refine ⟨uG (LC y) a hw.1,(iD _).2 fun g hg=>?_⟩;obtain ⟨g',yU,rfl⟩:=List.mem_map.1 hg;exact (ih g' yU).1
   ·simp only[qone,hq,Bool.not_false,Bool.true_or,du];refine (gy _).2 fun g hg=>?_;obtain ⟨g',yU,rfl⟩:=List.mem_map.1 hg;exact (ih g' yU).2.1
   ·simp only[depthF];rw[qK a hw.1,Ar s (fun g hg=>(ih g hg).2.2.1)]
   ·simp only[nodesF];rw[qL a hw.1,Aq s (fun g hg=>(ih g hg).2.2.2)]
 |clear pp112b;simp only[nodesF]at hn
  by_cases hq:bh o=true
  ·obtain ⟨rfl,g,rfl⟩:=lW hq ip;simp only[el,ee,Bool.and_true,aS,nodesFs]at hw hq1 hd hn;have pp165b:=();exact pm165
  ·have hq:bh o=false:=by simpa using hq
   rw[qM hq];simp only[dbF,hq,bW,↓reduceIte,qJ];rw[G5 _ _ _ d s (fun g hg=>oY k g x u σ d ((iD s).1 hw.2 g hg) ((gy s).1 hq1.2 g hg) (by have:=iR s g hg;omega) (by have:=jR s g hg;omega))]
 |clear pp112c;simp only[nodesF]at hs;simp only[ls,af,bp]at hf
  by_cases hq:bh o=true
  ·obtain ⟨rfl,g,rfl⟩:=lW hq ip;simp only[el,ee,Bool.and_true,aS,nodesFs,nmFs]at hw hq1 hd hs hf;have pp165c:=();exact pm165
  ·have hq:bh o=false:=by simpa using hq
   rw[qM hq];simp only[ls,af,bp];refine ⟨hf.1,hf.2.1,AI hu a hf.2.2.1,qt.2 fun g hg=>?_⟩;obtain ⟨g',yU,rfl⟩:=List.mem_map.1 hg;exact o6 k g' x u ((iD s).1 hw.2 g' yU) ((gy s).1 hq1.2 g' yU) (by have:=iR s g' yU;omega) (by have:=jR s g' yU;omega) (qt.1 hf.2.2.2 g' yU) hu
 |clear pp112d
  by_cases hq:bh o=true
  ·obtain ⟨rfl,g,rfl⟩:=lW hq ip;simp only[el,ee,Bool.and_true,aS]at hw hq1 hd;have pp165d:=();exact pm165
  ·have hq:bh o=false:=by simpa using hq
   rw[qM hq];have h1:=AV (x:=x) (u:=u) a;have h2:=PW (φ:=eW k x u) (U:=nodesT u) s (fun g hg=>uY k g x u ((iD s).1 hw.2 g hg) ((gy s).1 hq1.2 g hg) (by have:=iR s g hg;omega));simp only[nodesF,Nat.add_mul];omega
 |clear pp112e
  by_cases hq:bh o=true
  ·obtain ⟨rfl,g,rfl⟩:=lW hq ip;simp only[el,ee,Bool.and_true,aS]at hw hq1 hd;have pp165e:=();exact pm165
  ·have hq:bh o=false:=by simpa using hq
   rw[qM hq];have ih:∀ g∈s,_:=fun g hg=>nl hu k g x ((iD s).1 hw.2 g hg) ((gy s).1 hq1.2 g hg) (by have:=iR s g hg;omega);refine ⟨?_,?_⟩
   ·simp only[gS,af];refine ⟨uG hu a hw.1,(iD _).2 fun g hg=>?_⟩;obtain ⟨g',yU,rfl⟩:=List.mem_map.1 hg;exact (ih g' yU).1
   ·simp only[qone,hq,Bool.not_false,Bool.true_or,du];refine (gy _).2 fun g hg=>?_;obtain ⟨g',yU,rfl⟩:=List.mem_map.1 hg;exact (ih g' yU).2
 |clear pp112f;simp only[nodesF]at hn;simp only[si,af]at hb
  by_cases hq:bh o=true
  ·obtain ⟨rfl,g,rfl⟩:=lW hq ip;simp only[el,ee,Bool.and_true,aS,nodesFs,kE]at hw hq1 hd hn hb;have pp165f:=();exact pm165
  ·have hq:bh o=false:=by simpa using hq
   have pp272:=();exact pm272
 |simp only[nodesF]at hn;simp only[si,af]at hb
  by_cases hq:bh o=true
  ·obtain ⟨rfl,g,rfl⟩:=lW hq ip;simp only[el,ee,Bool.and_true,aS,nodesFs,kE]at hw hq1 hd hn hb;exact pm165
  ·have hq:bh o=false:=by simpa using hq
   exact pm272):G:=h
theorem pm113(h:G:=by
 simp only at d1 d2 d3 d4;obtain ⟨W5,fv⟩:=am (wr.alloc (.cells #[.string ⟨nm.toArray⟩,.int .u8 qo,.string qn,.slice qa ql qc,.slice qb qm qe] 40));have bm:=cV fv
 first
 |clear pp113a;have jG:=dZ.later bm.drew;have hf5:FormV (fun b=>b<w.heap.size) W5.drew (FQ.val ⟨qo,qn,qa,ql,qc,qb,qm,qe⟩) b.fs[k].2:=hf.move (fun b hb hlt=>⟨hb,((ji.trans (Kp.below bm.drew)).same b hlt (gE b hb))⟩);obtain ⟨w6,cR,Ht,Hu,Jc⟩:=jG.storeF (by simp) (by omega) (x:=nm) (by rw[dD];exact HP.o.1 _ (aw bg)) hf5 (HP.o.2.2.2.2.1 _ (aw bg)) (l':=b.fs.take (k+1)) (fun y=>by rw[wY HP.o.2.2.1 bg,<-dD]);have x8:=ah dZ.box 0;have x9:=aa bm x8;have Fl:=aa bm.drew x8;have HK:=aG Ht ((bj.trans (Kp.below bm.drew)).trans (Hu.mono (fun b _ h=>by rw[HM.o];exact .inl h)));obtain ⟨Zb,sJ⟩:=aW cR fv;rw[fv]at x9 Fl;have DK:(k:Int)<(n1:Int):=by omega
  clear dZ jG Ht bj Hu Jc hf hf5 bm ji gE hok dD fv bg c0 c1 c2 c3 c4;rw[sJ.o]at cR;unfold FQ.val at cR;go_wp2;go_region;go_wp2;go_roundw
  case rel=>exact ⟨k+1,by omega,by go_num,HK.o.2,HK.o.1⟩
  case measure=>simp[intOf];omega
 |clear pp113b;have DK:(k:Int)<(n1:Int):=by omega
  have sJ:=ac fv
  by_cases my:nm=n
  ·subst my;have LJ:(nm == nm)=true:=by simp
   rw[LJ]at gP;have CC:=ov g Qb ok W5 ⟨qo,qn,qa,ql,qc,qb,qm,qe⟩ ((hf.later nJ).later bm);simp only[FQ.val]at CC;have HC:=ac CC;have HE:=ac (show R=some g from gP);have H5:=aG (nJ.tr bm) (bJ bm hx);clear CC nJ ar gP hf Qb bm hx fv hg dD c0 c1 c2 c3 c4 hok;go_wp2_with (rw[<-sJ.o];go_at_call 51;refine HC.o.mono ?_;rintro e w6 ⟨⟨p0,p1,p2,p3,p4,p5,p6,p7⟩,rfl,hp,da⟩;have WT:=bJ da H5.o.2;obtain ⟨e0,e1,e2,e3,y0,y1,y2,y3⟩:=dy WT;have H6:=bF WT hp da;clear WT hp da);obtain ⟨W8,l8,x8,k8,g0,g1,g2,g3⟩:=AG H6.o.1 (.int .u8 p0) (.string p1) (.slice p2 p3 p4) (.slice p5 p6 p7);rw[<-l8];refine bI (v:=.tuple #[FQ.val ⟨p0,p1,p2,p3,p4,p5,p6,p7⟩,.bool true]) (by simp[FQ.val,results,Tryz.results16,go_sem,g0,g1,g2,g3]) rfl ⟨⟨⟨p0,p1,p2,p3,p4,p5,p6,p7⟩,by rw[HE.o];rfl,?_⟩,Below.kp1 (H5.o.1.tr H6.o.2.2) k8 (by omega)⟩;exact pm315
  ·have LJ:(nm == n)=false:=by simp[my]
   rw[LJ]at gP;have HG:=aG (ar.tr bm) (show R=getB (b.fs.drop (k+1)) n from gP);clear nJ ar gP hf Qb bm hx fv hg dD c0 c1 c2 c3 c4 hok;exact pm299
 |have x5:=bU fv;have DK:(k:Int)<(n1:Int):=by omega
  have je:(nm,g)∈b.fs:=by rw[dD,hg];exact aw bg
  have CM:=EZ nm W5 (by omega);have H5:=cG (nJ.tr bm) x5 (hf.later (nJ.tr bm)) mf;have HO:=fE ar aA eI dD hg;have sJ:=ac fv
  cases Dk:dF nm with
  | false=>
   rw[Dk]at CM;have HC:=ac CM;have HE:=ac (show R=false by
    rw[HR.o];unfold bw;rw[show (b.fs.all fun x=>dF x.1 && cf (bA x.2))=false from List.all_eq_false.2 ⟨_,je,by simp[Dk]⟩];rfl)
   clear CM nJ ar aA eI dD hg mf hf bm x5 fv je Dk c0 c1 c2 c3 c4 hok;go_wp2_with (rw[<-sJ.o];go_at_call 65;refine HC.o.mono ?_;rintro e w6 ⟨rfl,da⟩;have H6:=ac da;clear da);go_ret;exact ⟨by rw[HE.o];rfl,H5.o.1.tr H6.o⟩
  | true=>
   rw[Dk]at CM;have HC:=ac CM;have JU:=ac (fun (W:World) (hb:Below W5.heap.size W5 W)=>MB g mf.2.1 ok W ⟨qo,qn,qa,ql,qc,qb,qm,qe⟩ ((hf.later (nJ.tr bm)).later hb));have KF:=ac (fun (W:World) (p:FQ) (ok':Nat->Prop) (hb:Below W5.heap.size W5 W) (hp:FormV ok' W p.val (bA g))=>oB W0 (bA g) mf.2.2 ok' W (R6.o.next ((nJ.tr bm).tr hb)) p hp);simp only[FQ.val]at JU KF
   cases NJ:cf (bA g) with
   | false=>
    rw[NJ]at KF;have HE:=ac (show R=false by
     rw[HR.o];unfold bw;rw[show (b.fs.all fun x=>dF x.1 && cf (bA x.2))=false from List.all_eq_false.2 ⟨_,je,by simp[NJ]⟩];rfl)
    clear CM nJ ar aA eI dD hg mf hf bm x5 fv je Dk NJ c0 c1 c2 c3 c4 hok;go_wp2_with (first | (rw[<-sJ.o];go_at_call 65;refine HC.o.mono ?_;rintro e w6 ⟨rfl,da⟩;have x6:=bJ da H5.o.2.1;have s0:=ah x6 0;have s1:=ah x6 1;have s2:=ah x6 2;have s3:=ah x6 3;have s4:=ah x6 4;have H6:=aG da x6;clear da x6) | (go_at_call 66;refine (JU.o w6 H6.o.1).mono ?_;rintro e w7 ⟨⟨p0,p1,p2,p3,p4,p5,p6,p7⟩,rfl,Kk,fW⟩;have H7:=aG Kk fW;clear Kk fW) | (go_at_call 39;refine (KF.o w7 ⟨p0,p1,p2,p3,p4,p5,p6,p7⟩ _ (H6.o.1.tr H7.o.2) H7.o.1).mono ?_;rintro e w8 ⟨rfl,ic⟩;have H8:=ac (H6.o.1.tr (H7.o.2.tr ic));clear ic));go_ret;exact ⟨by rw[HE.o];rfl,H5.o.1.tr H8.o⟩
   | true=>
    rw[NJ]at KF;have yb:=ac bm;have WY:=ac (show ((b.fs.take k).map (·.1)).length+1<=4000000 by simp;omega);have LK:=ac (show (b.fs.take (k+1)).map (·.1)=(b.fs.take k).map (·.1) ++ [nm]/\(b.fs.take (k+1)).all (fun x=>dF x.1 && cf (bA x.2))=true by
     rw[List.take_add_one,gT bg];refine ⟨by rw[List.map_append,dD];rfl,?_⟩;rw[List.all_append,eI];simp only[Option.toList,List.all_cons,List.all_nil,Bool.and_true,du];rw[<-dD,<-hg,Dk,NJ];rfl)
    clear CM nJ ar aA eI dD hg mf hf bm x5 fv je Dk NJ c0 c1 c2 c3 c4 hok;go_wp2_with (first | (rw[<-sJ.o];go_at_call 65;refine HC.o.mono ?_;rintro e w6 ⟨rfl,da⟩;have x6:=bJ da H5.o.2.1;have s0:=ah x6 0;have s1:=ah x6 1;have s2:=ah x6 2;have s3:=ah x6 3;have s4:=ah x6 4;have H6:=aG da x6;clear da x6) | (go_at_call 66;refine (JU.o w6 H6.o.1).mono ?_;rintro e w7 ⟨⟨p0,p1,p2,p3,p4,p5,p6,p7⟩,rfl,Kk,fW⟩;have H7:=aG Kk fW;clear Kk fW) | (go_at_call 39;refine (KF.o w7 ⟨p0,p1,p2,p3,p4,p5,p6,p7⟩ _ (H6.o.1.tr H7.o.2) H7.o.1).mono ?_;rintro e w8 ⟨rfl,ic⟩;have r0:=aa (H7.o.2.tr ic) s0;have H8:=ac (H6.o.1.tr (H7.o.2.tr ic));clear ic) | (at_builtin;refine dY rfl _ _ rfl W1.heap.size (by have:=HO.o.1.size;have:=yb.o.size;have:=H8.o.size;simp;omega) u3 ((b.fs.take k).map (·.1)) rfl (HO.o.2.1.later ((yb.o.tr H8.o).tr cO)) (.slice (some ⟨w8.heap.size,0,none⟩) 1 1) [nm] rfl (fun _=>True) (AN (ai rfl)) WY.o ?_;intro v9 w9 PE Ja;have HG:=aG PE (ow ((Kp.below (M:=fun _=>False) ((HO.o.1.tr yb.o).tr H8.o)).trans (Kp.below cO)) Ja (fun g hg=>(World.ownsRow.lt HO.o.2.1 g hg).1)).empty;clear PE Ja));go_roundw
    case rel=>exact ⟨k+1,by omega,by go_num,HG.o.2,by rw[LK.o.1];exact HG.o.1,LK.o.2⟩
    case measure=>simp[intOf];omega):G:=h
theorem pm114(h:G:=by
 go_wp2;refine aH (by kernel_rfl) (by kernel_rfl) ?_
 repeat (go_big_quiet_step ((go_at_call 17;exact bO (HC.o _))))
 refine wpQuiet_nil ?_;rintro _ ⟨x',rfl⟩
 first
 |clear pp114a;clear f0 f1 f2 f3 f4 f5 f6 f7;have cw:=ac (HB.o.trans (x'.below.mono HB.o.size));cases R
  ·go_wp2;go_ret;exact ⟨az (HNe.o (fun h=>by have:=HR.o;rw[(qE _ _).2 h]at this;cases this)).symm,cw.o⟩
  ·go_wp2;go_roundw
   case rel=>exact ⟨k+1,by omega,by go_num,cw.o,vQ HT.o bg kt ((qE _ _).1 HR.o.symm)⟩
   case measure=>simp[intOf];omega
 |clear pp114b;clear f0 f1 f2 f3 f4 f5 f6 g2 g3 g4 g5 g6;have cw:=ac (HB.o.trans (x'.below.mono HB.o.size));go_wp2;go_ret;exact ⟨by rw[HZ.o];rfl,HE.o.1.tr cw.o⟩
 |clear f0 f1 f2 f3 f4 f5 f6 g2 g3 g4 g5 g6;have cw:=ac (HB.o.trans (x'.below.mono HB.o.size))
  cases V with
  | false=>
   have HZ:=ac (AD.o fun h=>by
    subst h;have:=congrArg Prod.snd (HX.o.1.trans HX.o.2.symm);have e:=HV.o;rw[(qE _ _).2 this]at e;cases e)
   go_wp2;go_ret;exact ⟨by rw[HZ.o];rfl,HE.o.1.tr cw.o⟩
  | true=>
   go_wp2;go_roundw
   case rel=>exact ⟨k+1,by omega,by go_num,cw.o,pB HT.o bg kt (by rw[<-HX.o.1,<-HX.o.2,(qE _ _).1 HV.o.symm])⟩
   case measure=>simp[intOf];omega):G:=h
theorem pm115(h:G:=by
 refine bI (v:=.tuple #[FQ.val ⟨0,⟨#[]⟩,none,0,0,none,0,0⟩,.bool false]) (by simp[FQ.val,results,Tryz.results91,go_sem,g0,g1,g2,g3]) rfl ⟨⟨⟨0,⟨#[]⟩,none,0,0,none,0,0⟩,by rw[HE.o];rfl,fun u hu=>by rw[HE.o]at hu;cases hu⟩,Below.kp1 ((cv.o.1.tr cv.o.2).tr H5.o.1) k6 (by omega)⟩):G:=h
theorem pm116(h:G:=by
 rw[<-dm]at x6 k6 ⊢;clear dm;have g0:W6.cell? ⟨w.heap.size+1,0,none⟩=some (.int .u8 p0):=ah x6 0;have g1:W6.cell? ⟨w.heap.size+1,1,none⟩=some (.string p1):=ah x6 1;have g2:W6.cell? ⟨w.heap.size+1,2,none⟩=some (.slice p2 p3 p4):=ah x6 2;have g3:W6.cell? ⟨w.heap.size+1,3,none⟩=some (.slice p5 p6 p7):=ah x6 3
 first
 |clear pp116;have vN:=F3 (p:=⟨p0,p1,p2,p3,p4,p5,p6,p7⟩) (B:=w.heap.size+1) (HB.o.1.tr (H3.o.1.tr (H5.o.tr H6.o.1))) (by omega) k6 (H6.o.2.move (fun b hok _=>⟨by have h1:=HB.o.2.1;have h2:=H3.o.1.size;have h3:=H5.o.size;have h:w5.heap.size<=b:=hok;omega,rfl⟩));refine bI (v:=FQ.val ⟨p0,p1,p2,p3,p4,p5,p6,p7⟩) (by simp[FQ.val,results,Tryz.results72,go_sem,g0,g1,g2,g3]) rfl ⟨⟨⟨p0,p1,p2,p3,p4,p5,p6,p7⟩,rfl,?_⟩,vN.2⟩;rw[HR5.o];exact vN.1
 |have vN:=F3 (p:=⟨p0,p1,p2,p3,p4,p5,p6,p7⟩) (B:=w.heap.size+1) (HB.o.1.tr (H3.o.1.tr (H5.o.tr H7.o))) (by omega) k6 (HP7.o.move (fun b hok _=>⟨by have h1:=HB.o.2.1;have h2:=H3.o.1.size;have h3:=H5.o.size;have h:w5.heap.size<=b:=hok;omega,rfl⟩));refine bI (v:=FQ.val ⟨p0,p1,p2,p3,p4,p5,p6,p7⟩) (by simp[FQ.val,results,Tryz.results72,go_sem,g0,g1,g2,g3]) rfl ⟨⟨⟨p0,p1,p2,p3,p4,p5,p6,p7⟩,rfl,?_⟩,vN.2⟩;rw[HR5.o];exact vN.1):G:=h
theorem pm117(h:G:=by
 obtain ⟨r,rfl⟩:∃r,n=63 :: r:=sW (by
  cases h2:(n.head? == some 63)
  ·simp[dz,dF,c9,h2]at h
  ·rfl)
 have C1:=ac (fun w=>h ▸ kh (63 :: r) w hn);exact pm212):G:=h
theorem pm118(h:G:=by
 have BV:Below w.heap.size w X:=aQ Q3.o.1 h4 (fun b hb=>(TB.o b hb).1);have kz:Marks w.heap.size X _:=Hv3.o.2.more (w':=X) (fun E hE hx=>(h4.same E (bz hx) (fun hm=>by rw[HM3.o]at hm;rcases hm with rfl | rfl <;> first | (rw[Q3.o.2.2.2]at hx;cases hx) | (rw[HnV.o]at hx;cases hx))).trans hx) hD (aU Q3.o.1.size hD) hd
 first
 |clear pp118;have r0:=ah h3 0;have z0:=ae h3 0;have HX:=bF BV kz h3;clear h1 h2 h3 h4 XO hd BV kz hD;gi_wp2_with fail;obtain ⟨W8,l8⟩:=am (X.setCell ⟨w.heap.size+1+1,0,none⟩ (.int .i64 0));have k8:Kp (fun b=>b=w.heap.size+1+1) X W8:=by rw[l8];exact iW
  have x8:=iV HX.o.2.2 (v:=.int .i64 0);rw[<-l8]at x8 ⊢;refine em (B:=w.heap.size) (HX.o.2.1.move (fun D _ hd=>(k8.same D (bz hd) (fun h=>by subst h;rw[HX.o.2.2]at hd;cases hd)).trans hd)) (fun w' hn=>?_);have h0:=hn.cell (ah x8 0);exact ⟨.int .i64 0,by simp[results,Tryz.results71,go_sem,h0],by rw[HE.o],jo (aQ HX.o.1 k8 (fun b hb=>by omega)) hn⟩
 |have HE:=ac (show R=3 by rw[HR.o,ak (by rw[<-Tt.o,HA1.o];simp),ak (by have h:=Z2.o;rw[XM.o]at h;rw[h];simp),au (by have:=Tr (dx.map F2);rw[zaY.o]at this h2;omega)]);have HX:=bF BV kz h3;clear h2 h3 h4 hd dx BV kz hD;gi_wp2_with fail;refine em (B:=w.heap.size) HX.o.2.1 (fun w' hn=>?_);have h0:=hn.cell (ah HX.o.2.2 0);exact ⟨.int .i64 3,by simp[results,Tryz.results71,go_sem,h0],by rw[HE.o],jo HX.o.1 hn⟩):G:=h
theorem pm119(h:G:=by
 obtain ⟨aV,aq,hg,_⟩:=HG.o;have cR:=fw.o.stepT (F:=2) (t:=u') (p:=⟨pv,pn,pa,pl,pc⟩) (g:=g) (cap:=eF) (by rw[uJ.o.2];exact AE.o.2.1) (by rw[uJ.o.2];exact AE.o.1) AE.o.2.2 JW.o.2 JW.o.1 (by rw[uJ.o.2];exact aV) aq (by rcases hg with h | h;exact .inl h;exact .inr (by simp;omega)) rfl;rw[uJ.o.2]at cR
 first
 |clear pp119;exact ⟨k1+1,by omega,by go_num,_,Sx ++ [u'],cR,uJ.o.1,by rw[dO,uJ.o.2];rfl⟩
 |exact ⟨k+1,by omega,by go_num,_,us ++ [u'],cR,uJ.o.1,by rw[dO,uJ.o.2];rfl⟩):G:=h
theorem pm120(h:G:=by
 rcases UT.o with ⟨rfl,rfl,rfl⟩ | ⟨b,off,rfl⟩
 ·exact .inl ⟨rfl,rfl,by rw[jJ yV.o.symm];rfl⟩
 ·exact .inr ⟨_,rfl,by rw[gM,<-yV.o],(pL.o.later mJ).olds⟩):G:=h
theorem pm121(h:G:=by
 have l2:=(hlk (W2.alloc (.cells #[.int .u8 0,.string ⟨#[]⟩,.slice none 0 0,.slice none 0 0] 36)).drew (bE _ _ _ (by have:=H2.o.2.2.fs.lt;omega))).1
 first
 |clear pp121a;have Nd:=ac (show R=true by rw[hE,hg]);obtain ⟨W3,dB⟩:=am (W2.alloc (.cells #[.int .u8 0,.string ⟨#[]⟩,.slice none 0 0,.slice none 0 0] 36)).drew;have x3:W3.heap[w.heap.size+1]?=some (.cells #[.int .u8 16,.string ⟨n.toArray⟩,.slice sa n1 sc,.slice sb m1 se] 36 (0,0)):=by rw[dB];exact (aM.block _ (bz H2.o.2.1)).trans H2.o.2.1
  have i0:=ah x3 0;have bD:=ac (show Below w.heap.size w W3 by rw[dB];exact H2.o.1.tr aM.drew);clear hlk hg aM hE x3 Gv bl yo e_ Jg FG Ih Oq;go_enter Tryz.func124,Tryz.ntmps124;go_upto_region 4 with fail;rw[<-fp.o];go_region
  all_goals
   rw[<-dB];clear dB;go_wp2;go_ret;exact ⟨by rw[Nd.o];rfl,bD.o⟩
 |clear pp121b;rw[hg]at hE;simp only[show ¬((16:Int)=15) by decide,↓reduceIte]at hE;obtain ⟨W3,dB⟩:=am (W2.alloc (.cells #[.int .u8 Fw,.string Fx,.slice Fy Fz FA,.slice FB FC FD] 36)).drew;have pX:Below W2.heap.size W2 W3:=by rw[dB];exact cO.drew
  have x3:=bJ pX H2.o.2.1;have y3:W3.heap[W2.heap.size]?=some (.cells #[.int .u8 Fw,.string Fx,.slice Fy Fz FA,.slice FB FC FD] 36 (0,0)):=by rw[dB];exact ai rfl
  obtain ⟨i0,i1,i2,i3,_,_,_,_⟩:=dy x3;have zs:=ac (HIN.o W3 pX);have Nj:=ac (fun (V:World) (h:Below W3.heap.size W3 V)=>jx di f Ic.fit _ V ⟨Fw,Fx,Fy,Fz,FA,FB,FC,FD⟩ ((pf.later pX).later h));simp only[FQ.val]at Nj;obtain ⟨n0,ti⟩:=am (fG di f);rw[<-ti]at hE Nj;have H3:=bF pX y3 (H2.o.2.2.later pX);have HE3:=ac hE;clear hlk hg aM hE x3 y3 Gv bl yo e_ Jg FG Ih Oq pf Ic ti pX;go_enter Tryz.func124,Tryz.ntmps124;go_upto_region 4 with fail;rw[<-fp.o];go_region
  all_goals
   rw[<-dB];clear dB l1 l2 g0 g1 g3 g4 g5 e0 e1 e2 e3;go_upto_region 8 with (go_at_call 96;refine zs.o.mono ?_;rintro e w4 ⟨rfl,aO⟩;have H4:=ac aO;clear aO);clear i0 i1 i2 i3;have o_:=H3.o.2.2.later H4.o;have k1:w4.cell? ⟨kb,1,none⟩=some (.map (some mT)):=ah o_.box 1;have y4:=bJ H4.o H3.o.2.1;obtain ⟨j0,j1,j2,j3,_,_,_,_⟩:=dy y4;have Zj:=ac (Nj.o w4 H4.o);rcases o_.ts.look Tryz.underlying9 Tryz.underlying146 jT (x:=y) (by have:=HY.o.1;omega) with ⟨hg,hlk⟩ | ⟨t,vt,hg,hvt,hlk⟩
   ·have l1:=(hlk w4 rfl).1;have Nd:=ac (show R=decide (n0 > 0) by rw[HE3.o,hg];rfl);clear hlk hg o_ y4;go_wp2_with (go_at_call 97;refine Zj.o.mono ?_;rintro e w5 ⟨rfl,bm⟩;have H5:=ac bm;clear bm);go_ret;exact ⟨by rw[Nd.o];simp,(H2.o.1.tr H3.o.1).tr (H4.o.tr H5.o)⟩
   ·obtain ⟨⟨Qe,Qf,Qg,Qh,Qi⟩,rfl,pV,V6⟩:=hvt;simp only[TQ.val]at hlk;have l1:=(hlk w4 rfl).1;have Nd:=ac (show R=false by rw[HE3.o,hg];rfl);clear hlk hg o_ y4 pV V6;go_wp2;go_ret;exact ⟨by rw[Nd.o];rfl,(H2.o.1.tr H3.o.1).tr H4.o⟩
 |have Nd:=ac (show R=false by rw[hE,hg];rfl);obtain ⟨W3,dB⟩:=am (W2.alloc (.cells #[.int .u8 Fw,.string Fx,.slice Fy Fz FA,.slice FB FC FD] 36)).drew;have pX:Below W2.heap.size W2 W3:=by rw[dB];exact cO.drew
  have i0:=ah (bJ pX H2.o.2.1) 0;have bD:=ac (H2.o.1.tr pX);clear hlk hg aM hE pf Ic pX;go_enter Tryz.func124,Tryz.ntmps124;go_upto_region 4 with fail;rw[<-fp.o];go_region
  all_goals
   rw[<-dB];clear dB;go_wp2;go_ret;exact ⟨by rw[Nd.o];rfl,bD.o⟩):G:=h
theorem pm122(h:G:=by
 simp only[beq_self_eq_true,Bool.and_self,du]at hm;have e0:(uo == uo)=true:=by simp
 have e1:(uo != uo)=false:=by simp
 have e2:((k0:Int) != (k0:Int))=false:=by simp
 have e3:((k1:Int) != (k1:Int))=false:=by simp
 obtain ⟨qb,Je⟩:=am (bh uo);rw[<-Je]at hm Hz
 by_cases LU:((xn == yn) || qb)=true
 first
 |clear pp122
  ·simp only[LU,du]at hm;clear Je;go_enter Tryz.func92,Tryz.ntmps92
   by_cases dD:xn=yn
   ·subst dD;have pp317a:=();exact pm317
   ·have gY:(xn == yn)=false:=by simpa using dD
    have jP:(!(xn == yn))=true:=by simpa using dD
    rw[gY,Bool.false_or]at LU;subst LU;have HM:Hd (R=(bM ps.reverse xa ya && cb (ps ++ [(xn,yn)]).reverse xs ys)):=ac (by rw[hm];simp);clear hm;go_wp2_with (go_at_call 93;refine (Hz.o _).mono ?_;rintro e X0 ⟨rfl,lM⟩;have mO:Below W2.heap.size W2 X0:=(by rw[fp.o];exact lM);have l9:=ac (bJ mO HX.o);have nj:=ac (bJ mO HY.o);have pL:=ac ((HP.o.later cw.o).later mO);have gG:=ac (cw.o.trans (mO.mono cw.o.size));have z2:X0.cell? ⟨w.heap.size,2,none⟩=some (.slice ua k0 uc):=ah l9.o 2;clear lM mO);clear z2;go_loopw [47] (fun i wr=>∃k:Nat,k<=k0/\i=.int .i64 k/\Below X0.heap.size X0 wr/\R=(bM ps.reverse (xa.drop k) (ya.drop k) && cb (ps ++ [(xn,yn)]).reverse xs ys)) (fun i _=>k0 - (intOf i).toNat)
    case atStart=>exact ⟨0,aX _,rfl,aj _ _,by simpa using HM.o⟩
    case round=>
     exact pm2
  ·have D_:R=false:=by rw[hm];rw[Bool.not_eq_true]at LU;rw[LU];simp
   have pp214:=();exact pm214
 |·simp only[LU,du]at hm;clear Je;go_enter Tryz.func83,Tryz.ntmps83;cases qb
   ·have dD:xn=yn:=by simpa using LU
    subst dD;have pp317b:=();exact pm317
   ·have HM:Hd (R=(bM ps.reverse xa ya && cb (ps ++ [(xn,yn)]).reverse xs ys)):=ac (by rw[hm];simp);clear hm;have pp76:=();exact pm76
  ·have D_:R=false:=by rw[hm];rw[Bool.not_eq_true]at LU;rw[LU];simp
   exact pm214):G:=h
theorem pm123(h:G:=by
 simp only[TQ.val,cF,Array.mk.injEq,b_,and_true,Value.bool.injEq,Value.string.injEq]at h2;obtain ⟨rfl,rfl,rfl⟩:=h2
 first
 |clear pp123a;have hW:Below wr.heap.size wr (wr.alloc (.cells #[.bool uv,.string ⟨xn.toArray⟩,.slice ua ul uc] 43)):=cO;have qg:(wr.alloc (.cells #[.bool uv,.string ⟨xn.toArray⟩,.slice ua ul uc] 43)).heap[wr.heap.size]?=some (.cells #[.bool uv,.string ⟨xn.toArray⟩,.slice ua ul uc] 43 (0,0)):=ai rfl;have ZW:NAt L 9223372036854775807 wr:=HL.o.kp bj (fun h=>YX h.symm);have zes:N<wr.heap.size:=(bz hn);have C1:=Jv N L YX (k+nodesTs (l.take j)) _ ⟨uv,⟨xn.toArray⟩,ua,ul,uc⟩ (hn.later hW) (ZW.later hW) (by omega) (by omega);unfold TQ.val at C1;have CC:=fun (W:World) (h:Kp (fun c=>c=N) wr W) (hN:NAt N (k+nodesTs (l.take j)+1) W)=>pG N L ok (k+nodesTs (l.take j)+1) W ua ul uc YX hf.args (e_.move (fun b hb hlt=>⟨hb,h.same b hlt (p_.o b hb)⟩)) p_.o hN (ZW.kp h (fun h=>YX h.symm)) (by omega) (by simp only[Tm.a];omega);simp only[Tm.a]at CC;obtain ⟨P,hP⟩:=am (nodesTs (l.take j));obtain ⟨M,hM⟩:=am (nodesTs xa);rw[<-hP,<-hM]at jb;rw[<-hP]at C1;rw[<-hP,<-hM]at CC;obtain ⟨zs,mz,HS,kL⟩:=eH C1 CC jb bj;have HW:=aG hW qg;clear hu gu pG hf hx e_ hn C1 CC jb bj hW qg ZW hP hM s8 c0 c1 c2;go_wp2_with (first | (go_at_call 231;refine zs.o.mono ?_;rintro e w1 ⟨rfl,j9,ea⟩;have e2:w1.cell? ⟨wr.heap.size,2,none⟩=some (.slice ua ul uc):=ah ((j9.same _ (by simp) (by omega)).trans HW.o.2) 2;have HH1:=aG ((Kp.below HW.o.1).trans j9) ea;clear j9 ea) | (go_at_call 230;refine (mz.o _ HH1.o.1 HH1.o.2).mono ?_;rintro e w2 ⟨rfl,iO,kY⟩;have HH2:=aG iO kY;clear iO kY));go_roundw
  case rel=>exact ⟨j+1,by omega,by go_num,kL.o.trans (HH1.o.1.trans HH2.o.1),by have h:=HH2.o.2;rw[HS.o];rw[show k+((P+(M+1):Nat):Int)=k+(P:Int)+1+(M:Int) by omega];exact h⟩
  case measure=>simp[intOf];omega
 |clear pp123b;obtain ⟨d0,d1,d2⟩:=j4 ar c0 c1 c2;have hW:Below wr.heap.size wr (wr.alloc (.cells #[.bool uv,.string ⟨xn.toArray⟩,.slice ua ul uc] 43)):=cO;have As:(k:Int)<(k0:Int):=by omega
  by_cases hc:uv=true/\xn=x
  ·obtain ⟨rfl,rfl⟩:=hc;have gY:(xn == xn)=true:=by simp
   have HE:=ac (show R=some [k] by rw[ht];simp[nZ]);have HB:=ac (ar.trans (hW.mono ar.size));clear ar hW hu e_ hf pG hx ht c0 c1 c2;go_wp2;go_ret;refine ⟨⟨_,rfl,?_⟩,?_⟩
   ·rw[HE.o];exact IntsV.one 1 (aD _) (ai (by simp))
   ·exact HB.o.trans (cO.mono HB.o.size)
  ·have V6:nZ x (.mk uv xn xa)=eK x xa 0:=by
    rw[nZ,ak];simpa using hc
   rw[V6]at ht;have C1:=pG x ok _ ua ul uc hf.args ((e_.later ar).later hW);simp only[Tm.a]at C1;obtain ⟨S,hS⟩:=am (eK x xa 0);have Uq:∀ p,S=some p->p≠[]/\p.length<=2000000:=fun p hp=>by
    rw[hS]at hp;exact ⟨wR hp,aU (mI xa 0 p hp) hf.args.1⟩
   rw[<-hS]at ht C1;obtain ⟨HC,HT⟩:=aW C1 ht;have HB:=ac (ar.trans (hW.mono ar.size));have HLS:=ac Uq;have OR:uv=true->(xn == x)=false:=fun h=>by simpa using fun h'=>hc ⟨h,h'⟩
   clear ar hW hu e_ hf pG hx ht c0 c1 c2 hS Uq C1 V6 hc;cases uv
   ·clear OR;exact pm16
   ·have gY:(xn == x)=false:=OR rfl;clear OR;exact pm16
 |clear pp123c;have f0:=fun x:Later wr=>x.get (aa ar c0);have f1:=fun x:Later wr=>x.get (aa ar c1);have f2:=fun x:Later wr=>x.get (aa ar c2);have As:(k:Int)<(k0:Int):=by omega
  have mw:=hf.name;have YG:=il xn;have htd:=Ry xn.length;obtain ⟨q,hq⟩:=am (xn.length / 40);have Je:q<=50000:=by omega
  obtain ⟨R,hR⟩:=am (jr xa (left - m) 0);have hRb:=(mW xa (left - m) 0).2.1;have Au:=hf.args.sz;have CC:=fun (x:Later wr)=>pG ok x.w ua ul uc (left - m) hf.args ((e_.later ar).later x.below) (by omega) (by omega);simp only[Tm.a]at CC;rw[<-hR]at CC hRb;have Ce:jr l left 0=jr (l.drop (k+1)) left (m+(1+q+R)):=by
   rw[hcut];simp only[jr,au wn,KX];rw[hq,hR]
  have Kl:m+(1+q+R)<=100002000000:=by
   have h5:=(mW l left 0).2.1;have h6:=(mW (l.drop (k+1)) left (m+(1+q+R))).1;omega
  rw[<-hq]at htd;have yR:IntKind.i64.wrap ((q:Nat):Int)=q:=ik _ (by omega);have Oi:IntKind.i64.wrap (1+((q:Nat):Int))=1+(q:Int):=ik _ (by omega);have WX:IntKind.i64.wrap (left - (m:Int))=left - (m:Int):=ik _ (by omega);have U0:IntKind.i64.wrap (1+(q:Int)+(R:Int))=1+(q:Int)+(R:Int):=ik _ (by omega);have Zl:IntKind.i64.wrap ((m:Int)+(1+(q:Int)+(R:Int)))=((m+(1+q+R):Nat):Int):=by rw[ik _ (by omega)];omega
  obtain ⟨HC,HB⟩:=aW CC ar;have HS:=aG Ce Kl;clear hu pG hf hx e_ ar hcut CC hq Vy Ce Kl hR hRb Au c0 c1 c2;go_wp2;refine aH (by kernel_rfl) (by kernel_rfl) ?_
  repeat (go_big_quiet_step ((go_at_call 54;exact bO (HC.o _))))
  refine wpQuiet_nil ?_;rintro _ ⟨x',rfl⟩;clear f0 f1 f2 yR Oi WX U0 Zl htd YG;have cw:=ac (HB.o.trans (x'.below.mono HB.o.size));go_wp2;go_roundw
  case rel=>exact ⟨k+1,_,by omega,by go_num,rfl,cw.o,HS.o.1,HS.o.2⟩
  case measure=>simp[intOf];omega
 |simp only at d0 d1 d2;obtain rfl:=e_.len;obtain ⟨z0,z1,z2,y0,y1,y2⟩:=gN Fo;have HW:=aG hw hyy;have HB:=rU Fo bj hu e_ hf ja;have VQ:(pq.drop (j+1)).length=j+1 - (j+1)+(n2 - (j+1)):=by rw[HN.o.2.1];simp
  have Z7:=ac VQ;clear SO cB zf bj r' J9 Fo dW p9 hjp Y' hw ej hu e_ hf ja hy hyy VQ;go_wp2;go_roundw
  case rel=>
   have x9:=qA (v0:=.bool uv) (v1:=.string ⟨xn.toArray⟩) (v2:=.slice ua xa.length uc) HB.o.1;have k9:=eM (W:=wr) (b:=wo.heap.size) (v0:=.bool uv) (v1:=.string ⟨xn.toArray⟩) (v2:=.slice ua xa.length uc);refine ⟨j+1,.mk uv xn xa,xa,⟨uv,⟨xn.toArray⟩,ua,xa.length,uc⟩,ua,uc,by omega,by go_num,rfl,HB.o.2.1.trans k9,x9,HB.o.2.2.2.1.move (fun b hb hlt=>⟨hb,k9.same b hlt (by have:=HZ.o;omega)⟩),HB.o.2.2.2.2.1.args,fun h=>?_,fun _=>⟨HB.o.2.2.1.move (fun b hb hlt=>⟨hb,k9.same b hlt (by have:=HZ.o;omega)⟩),HB.o.2.2.2.2.1,fun h=>?_⟩⟩
   ·rw[HW.o.1,AM (fun hd=>by have:=Z7.o;rw[hd]at this;simp at this;omega),HW.o.2];rfl
   ·have hd:pq.drop (j+1)=[]:=jJ (by have:=Z7.o;omega);rw[HW.o.1,hd];exact HW.o.2
  case measure=>simp[intOf];omega):G:=h
theorem pm124(h:G:=by
 exact pm254):G:=h
theorem pm125(h:G:=by
 obtain ⟨gh,gi,rfl⟩:=hF.row.slice;rw[cB]at hF;have HR:=ac (ki ▸ hF.row);have x2:=hF.box;have x1:=hF.other (by omega) jN.o;have x0:=hF.other (by omega) MC.o
 first
 |clear pp125a;have p2:hZ.cell? ⟨w.heap.size,2,none⟩=some (.slice qa k1 qc):=ah x0 2;have p3:hZ.cell? ⟨w.heap.size,3,none⟩=some (.slice qb m0 qe):=ah x0 3;have MD:=ac x1;have VO:=HR;obtain ⟨rW,yN,yO⟩:=cH ar hF.lt hF.size;have wI:=ac (Fills.start (R:=w.heap.size+1+1) (mk:=fun rr=>#[.int .u8 qo,.string ⟨n.toArray⟩,.slice gh k1 gi,rr]) (Row:=fun r W=>RowF hZ.heap.size r ((s.map bA).take 0) W) x2 (RowF.nil _ _));clear ki cB hF x0 x1 x2 ar HR;gi_wp2;gi_loopw [31] (fun i wr=>∃k:Nat,k<=m0/\i=.int .i64 k/\∃row,Fills 36 (w.heap.size+1+1) hZ.heap.size (fun rr=>#[.int .u8 qo,.string ⟨n.toArray⟩,.slice gh k1 gi,rr]) (fun r W=>RowF hZ.heap.size r ((s.map bA).take k) W) hZ wr row) (fun i _=>m0 - (intOf i).toNat)
  case atStart=>exact ⟨0,aX _,rfl,_,wI.o⟩
  case round=>
   obtain ⟨k,hk,rfl,row,hF⟩:=hrel;have ar:=hF.below rW.o (Nat.le_add_right _ 2)
   by_cases hlt:k<m0
   ·have dJ:=ce gR.o hlt;have pp150b:=();exact pm150
   ·obtain rfl:k=m0:=by omega
    have cB:((s.map bA).take k).length=k:=by rw[dT];have:=gR.o;simp;omega
    have ki:(s.map bA).take k=(s.map bA):=gU (by have:=gR.o;simp;omega);have pp208b:=();exact pm208
 |clear pp125b;have xu:=hF.other (by omega) HXU.o;have CQ:=eX ⟨qo,⟨n.toArray⟩,qa,k1,qc,qb,m0,qe⟩ Fe;simp only[FQ.val]at CQ;obtain ⟨e0,e1,e2,e3⟩:=m5 x0;have I7:=ac CQ;have HE:=fE x0 x1 xu x2 ar;have yN:=ac hF.lt;have PB:=hF.size;clear CQ hF x0 x1 xu x2 ar ki cB;gi_wp2_with fail;refine aK.2 (I7.o.mono ?_);rintro e hZ ⟨rfl,lM⟩;clear e0 e1 e2 e3;have yO:=ac (show W1.heap.size<=hZ.heap.size from aU PB lM.size);have x0:=bJ lM HE.o.1;have x1:=bJ lM HE.o.2.1;have xu:=bJ lM HE.o.2.2.1;have x2:=bJ lM HE.o.2.2.2.1;have rW:=ac (HE.o.2.2.2.2.tr lM);have VO:=ac (HR.o.below lM);obtain ⟨MD,zcr,SH⟩:=cH x1 xu x0;clear HE HR lM PB
  cases qh:bh qo with
  | false=>
   have wX:Hd (RS=.mk qo n (a.map (le nx z)) (s.map (eW kk nx z))):=ac (by rw[UD.o,qM qh];rfl);have p3:hZ.cell? ⟨w.heap.size,3,none⟩=some (.slice qb m0 qe):=ah x0 3;have wI:=ac (Fills.start (R:=w.heap.size+1+1+1) (mk:=fun rr=>#[.int .u8 qo,.string ⟨n.toArray⟩,.slice gh k1 gi,rr]) (Row:=fun r W=>RowF hZ.heap.size r ((s.map (eW kk nx z)).take 0) W) x2 (RowF.nil _ _));clear x0 x1 xu x2 qh;gi_wp2;gi_loopw [90] (fun i wr=>∃k:Nat,k<=m0/\i=.int .i64 k/\∃row,Fills 36 (w.heap.size+1+1+1) hZ.heap.size (fun rr=>#[.int .u8 qo,.string ⟨n.toArray⟩,.slice gh k1 gi,rr]) (fun r W=>RowF hZ.heap.size r ((s.map (eW kk nx z)).take k) W) hZ wr row) (fun i _=>m0 - (intOf i).toNat)
   case atStart=>exact ⟨0,aX _,rfl,_,wI.o⟩
   case round=>
    obtain ⟨k,hk,rfl,row,hF⟩:=hrel;have ar:=hF.below rW.o ((by omega))
    by_cases hlt:k<m0
    ·have dJ:=ce gR.o hlt;have pp150c:=();exact pm150
    ·obtain rfl:k=m0:=by omega
     have cB:((s.map (eW kk nx z)).take k).length=k:=by rw[dT];have:=gR.o;simp;omega
     have ki:(s.map (eW kk nx z)).take k=(s.map (eW kk nx z)):=gU (by have:=gR.o;simp;omega);have pp208c:=();exact pm208
  | true=>
   obtain ⟨rfl,g,rfl⟩:=HQs.o qh;obtain rfl:m0=1:=gR.o;obtain rfl:k1=0:=dA.o;have pp203:=();exact pm203
 |have CQ:=eX ⟨so,⟨n.toArray⟩,sa,k1,sc,sb,m1,se⟩ Fe;simp only[FQ.val]at CQ;obtain ⟨e0,e1,e2,e3⟩:=m5 x0;have I7:=ac CQ;have HE:=cG x0 x1 x2 ar;have yN:=ac hF.lt;have PB:=hF.size;clear CQ hF x0 x1 x2 ar ki cB;gi_wp2_with fail;refine aK.2 (I7.o.mono ?_);rintro e hZ ⟨rfl,lM⟩;clear e0 e1 e2 e3;have yO:=ac (show W1.heap.size<=hZ.heap.size from aU PB lM.size);have x0:=bJ lM HE.o.1;have x1:=bJ lM HE.o.2.1;have x2:=bJ lM HE.o.2.2.1;have rW:=ac (HE.o.2.2.2.tr lM);have VO:=ac (HR.o.below lM);obtain ⟨MD,SH,zdb⟩:=cH x1 x0 x2;clear HE HR lM PB
  cases qh:bh so with
  | false=>
   have wX:Hd (RS=.mk so n (a.map (cM kd.ts c)) (ss.map (bV kd c))):=ac (by rw[UD.o,TC ED.o.1 ED.o.2 qh]);have p3:hZ.cell? ⟨w.heap.size,3,none⟩=some (.slice sb m1 se):=ah x0 3;have Xh:=ac (Fills.start (R:=w.heap.size+1+1) (mk:=fun rr=>#[.int .u8 so,.string ⟨n.toArray⟩,.slice gh k1 gi,rr]) (Row:=fun r W=>RowF hZ.heap.size r ((ss.map (bV kd c)).take 0) W) x2 (RowF.nil _ _));clear x0 x1 x2 qh;gi_wp2;gi_loopw [121] (fun i wr=>∃k:Nat,k<=m1/\i=.int .i64 k/\∃row,Fills 36 (w.heap.size+1+1) hZ.heap.size (fun rr=>#[.int .u8 so,.string ⟨n.toArray⟩,.slice gh k1 gi,rr]) (fun r W=>RowF hZ.heap.size r ((ss.map (bV kd c)).take k) W) hZ wr row) (fun i _=>m1 - (intOf i).toNat)
   case atStart=>exact ⟨0,aX _,rfl,_,Xh.o⟩
   case round=>
    obtain ⟨k,hk,rfl,row,hF⟩:=hrel;have ar:=hF.below rW.o (by omega)
    by_cases hlt:k<m1
    ·have dJ:=ce Fu.o hlt;exact pm150
    ·obtain rfl:k=m1:=by omega
     have cB:((ss.map (bV kd c)).take k).length=k:=by rw[dT];have:=Fu.o;simp;omega
     have ki:(ss.map (bV kd c)).take k=(ss.map (bV kd c)):=gU (by have:=Fu.o;simp;omega);exact pm208
  | true=>
   obtain ⟨rfl,g,rfl⟩:=HQs.o qh;obtain rfl:m1=1:=Fu.o;obtain rfl:k1=0:=pT.o;exact pm203):G:=h
theorem pm126(h:G:=by
 have:(n,g)∈l:=by
  clear h
  induction l with
  | nil=>simp[getB]at hg
  | cons x l ih=>
   obtain ⟨y,v⟩:=x;unfold getB at hg;split at hg
   ·rename_i e;simp only[cX]at hg;rw[dP]at e;subst e hg;exact f8 ..
   ·exact fD _ (ih hg)
 have:=h.1 _ this;exact ⟨this.2,this.1⟩):G:=h
theorem pm127(h:G:=by
 refine hQ a γ w ⟨h.df,h.sz,h.ou,fun k o ho hd _=>h.nod k o ho hd (eI k (bz ho)),fun k o d ho hd _=>h.val k o d ho hd (eI k (bz ho)),fun k hk hl=>by simp[Array.getD,hk]at hl,h.inv,fun k o d ho _ hl=>by simp[Array.getD,(bz ho)]at hl,fun _ _ _ _ e _ _ hlt=>by simp[Array.getD,hlt]⟩):G:=h
theorem pm128(h:G:=by
 have HF:=ac (HE.o.trans kl);obtain ⟨zr,kL⟩:=aW hj bj;clear kl hj bj ha hc ht;go_wp2;go_ret;have XA:=HN.o;have h8:=zr.o;rw[show left - 1 - (nodesTs a:Int) - (nodesFs s:Int)=left - ((nodesTs a+nodesFs s+1:Nat):Int) by omega,<-XA]at h8;exact JPost.yes HF.o kL.o h8 (by omega)):G:=h
theorem pm129(h:G:=by
 have ki:s.take k=s:=by rw[gR.o];exact cY
 rw[ki]at AC;have tk:=ac hF.row;have x2:=hF.box;have x1:=hF.other (by omega) Pp.o;have xp:=hF.other (by omega) Po.o;have HE:=ac (show RS=some (.mk qo n Sx us) from Pq.o.2.2 _ _ HAs.o.1 AC);have HRA:=ac (JY.o.kp1 hF.kp Pm.o.2);exact pm31):G:=h
theorem pm130(h:G:=by
 refine bC 7 98 (.tuple #[.agg #[.bool u0,.string u1,.slice u2 u3 u4],.bool I.isSome]) rfl j7 fun mi=>?_;simp only[ag];refine bC 8 106 (.agg #[.bool u0,.string u1,.slice u2 u3 u4]) rfl mi fun rF=>?_;simp only[ag];refine bC 9 107 (.bool I.isSome) rfl rF fun Hv=>?_;simp only[ag]
 first
 |clear pp130;refine bZ 10 rfl fun K hK=>?_
  go_simp;obtain ⟨EB,S4⟩:=am w6.heap.size;obtain ⟨A1,Gs⟩:=am (w6.alloc (.cells #[.bool false,.string ⟨#[]⟩,.slice none 0 0] 43));have Ie:Below W5.heap.size W5 A1:=by rw[Gs];exact H6.o.1.alloc H6.o.1.size _
  have zaF:=cV Gs;have Zg:A1.heap[EB]?=some (.cells #[.bool false,.string ⟨#[]⟩,.slice none 0 0] 43 (0,0)):=by rw[Gs,S4];exact ai rfl
  rw[<-Gs,<-S4];have HA:=cG Ie zaF Zg S4;refine hK _ _ (fun _=>by rw[dp.o];exact HA.o.1) (fun _=>?_);obtain ⟨z0,z1,z2,y0',y1',y2'⟩:=gN Zg;clear hK K Gs S4 Ie zaF Zg;refine bZ 11 rfl fun K hK=>?_;go_simp;refine hK _ _ (fun _=>by rw[dp.o];exact Below.kp1 HA.o.1 eM (by have:=HA.o.2.2.2;have:=H6.o.1.size;omega)) (fun _=>?_);clear hK K;refine bZ 12 rfl fun K hK=>?_;go_simp;refine eS hK ?_;clear hK K;refine kV ?_;clear pp tt yy z0 z1 z2 y0' y1' y2';go_wp2_with fail;go_meet;obtain ⟨W8,l8,x8,k8,_⟩:=uL HA.o.2.2.1 (.bool u0) (.string u1) (.slice u2 u3 u4);rw[<-l8];have hl:=H6.o.1.size;refine ⟨EB,rfl,rfl,⟨u0,u1,u2,u3,u4⟩,x8,Below.kp1 HA.o.1 k8 (by have:=HA.o.2.2.2;omega),by have:=HA.o.2.2.2;omega,fun u h=>(H6.o.2 u h).move (fun b hb hlt=>⟨hb,(k8.same b (bH hlt HA.o.2.1.size) (by have:=HA.o.2.2.2;omega)).trans (HA.o.2.1.block b hlt)⟩)⟩
 |refine bZ 11 rfl fun K hK=>?_
  go_simp;refine hK _ _ (fun _=>by rw[dp.o];exact Below.kp1 H6.o.1 eM (by have:=HA.o.2.2;omega)) (fun _=>?_);clear hK K;refine bZ 12 rfl fun K hK=>?_;go_simp;refine eS hK ?_;clear hK K;refine kV ?_;clear pp tt yy z0 z1 z2 y0' y1' y2';go_wp2_with fail;go_meet;obtain ⟨W8,l8,x8,k8,_⟩:=uL H6.o.2.2.1 (.bool u0) (.string u1) (.slice u2 u3 u4);rw[<-l8];refine ⟨EB,rfl,rfl,⟨u0,u1,u2,u3,u4⟩,x8,Below.kp1 H6.o.1 k8 (by have:=HA.o.2.2;omega),by have:=HA.o.2.2;omega,fun u h=>?_⟩;exact (H6.o.2.1 u h).move (fun b hb hlt=>⟨by have:=H6.o.2.2.2.2;omega,k8.same b hlt (by have:=H6.o.2.2.2.1;omega)⟩)):G:=h
theorem pm131(h:G:=by
 have HH:=aG hj bj;have mw:¬((k:Int)<min (sm:Int) (fm:Int)):=by have:=gR.o;omega
 have sY:min (sm:Int) (fm:Int)<=(k:Int):=by have:=gR.o;omega
 clear hj bj;gi_wp2;go_ret;refine .inl ⟨rfl,?_,AO.o.2.trans HH.o.2⟩;have h:=HH.o.1;rw[uT (c:=zg) (by have:=gR.o;omega)]at h;exact h):G:=h
theorem pm132(h:G:=by
 have CI:=ac (fun w3 (h3:Kp (fun c=>c=J) w w3)=>bl ▸ (dA.o ▸ lT a PX.o ok qa _ qc w3 (eb.o.move (fun b hb hlt=>⟨hb,h3.same b hlt (p_.o b hb)⟩))))
 first
 |clear pp132a;rw[bl]at hM;simp only[Bool.or_true,du]at hM;have pp102:=();exact pm102
 |clear pp132b;rw[bl]at hM;simp only[Bool.or_true,du]at hM;have pp101:=();exact pm101
 |have HE:Hd (BX=false):=ac (hM.trans (by simp[bl]));clear hM sZ qk Cw;have pp72g:=();exact pm72):G:=h
theorem pm133(h:G:=by
 subst hq;exact ⟨b,q,⟨hs,h3,h4.move (fun c hc _=>⟨⟨⟨hc.1,fun e=>hc.2.2 (by rw[e])⟩,hc.2.1⟩,rfl⟩)⟩,(hI.2.1 b rfl).1.resolve_right id⟩):G:=h
theorem pm134(h:G:=by
 injection hv with hv _ _;subst hv;rcases hs with rfl | ⟨b,off,rfl,hok,hc⟩
 ·simp at hj
 first
 |clear pp134a
  ·obtain ⟨q,hq,_⟩:=(ht j hj).form;obtain ⟨x0,x1,x2,hx,c0,c1,c2⟩:=hc j hj;rw[hq]at hx;unfold TQ.val at hx;simp only[cF,Array.mk.injEq,b_,and_true]at hx;obtain ⟨rfl,rfl,rfl⟩:=hx;exact ⟨b,off,q,rfl,hok,hq ▸ ht j hj,c0,c1,c2⟩
 |clear pp134b
  ·obtain ⟨q,hq,_⟩:=(ht j hj).form;obtain ⟨x0,x1,x2,x3,hx,c0,c1,c2,c3⟩:=hc j hj;rw[hq]at hx;unfold FQ.val at hx;simp only[cF,Array.mk.injEq,b_,and_true]at hx;obtain ⟨rfl,rfl,rfl,rfl⟩:=hx;exact ⟨b,off,q,rfl,hok,hq ▸ ht j hj,c0,c1,c2,c3⟩
 |clear pp134c
  ·exact ⟨b,off,qs j,rfl,hok,hf j hj,hc j hj⟩
 |·exact ⟨b,off,ps j,qs j,rfl,hok,(hf j hj).1,(hf j hj).2,hc j hj⟩):G:=h
theorem pm135(h:G:=by
 go_wp2_with (go_at_call 164;refine (CC.o _ HW.o).mono ?_;rintro e w1 ⟨rfl,hb1⟩;have ec:=ac hb1;clear hb1);go_roundw
 first
 |clear pp135a
  case rel=>exact ⟨k+1,by omega,by go_num,HB.o.trans ((HW.o.trans (ec.o.mono HW.o.size)).mono HB.o.size),by rw[HS.o];simp⟩
  case measure=>simp[intOf];omega
 |clear pp135b
  case rel=>exact ⟨k+1,by omega,by go_num,HB.o.trans ((HW.o.trans (ec.o.mono HW.o.size)).mono HB.o.size),by rw[HS.o];simp;omega⟩
  case measure=>simp[intOf];omega
 |case rel=>exact ⟨k+1,by omega,by go_num,HB.o.trans ((HW.o.trans (ec.o.mono HW.o.size)).mono HB.o.size),by rw[HS.o,ea];simp⟩
  case measure=>simp[intOf];omega):G:=h
theorem pm136(h:G:=by
 obtain ⟨yv,yn,ya⟩:=u;obtain ⟨s1,h1,e_⟩:=aP.1 hq;obtain ⟨s2,h2,yX⟩:=aP.1 ip;obtain ⟨uv,un,ua,ul,uc⟩:=q;obtain ⟨vv,vn,va,vl,vc⟩:=q'
 first
 |clear pp136a;have pp64b:=();exact pm64
 |clear pp136b;have pp64c:=();exact pm64
 |exact pm64):G:=h
theorem pm137(h:G:=by
 clear CC gP cR SX hx hy fA bj pd tZ LL wv da x6 wu WM R3 WL qP c0 c1 c2 y0 y1 y2 sf sg hS dm;go_wp2;rw[<-WH.o];have iz:=fd;refine (wpIn_wide (n:=3)).1 ?_;refine lH S 8 dU fun jC bN=>?_;refine bC 0 92 (.pointer (some ⟨kb,0,none⟩)) rfl bN fun cr=>?_;simp only[ag]
 first
 |clear pp137;have pp44:=();exact pm44
 |exact pm44):G:=h
theorem pm138(h:G:=by
 clear hK K;have HH:=aG qd kD;clear qd kD;refine bZ 16 rfl fun K hK=>?_;go_simp;refine eS hK ?_;clear hK K;refine kV ?_;gi_wp2;go_roundw
 case rel=>exact ⟨k+1,by omega,by go_num,by rw[HSu.o];simpa using HH.o.1,kL.o.2.trans HH.o.2⟩
 case measure=>simp[intOf];omega):G:=h
theorem pm139(h:G:=by
 rw[h1,du]at cQ;have cQ:=cQ.symm;rw[Bool.and_eq_false_iff]at cQ;rcases cQ with cQ | cQ
 ·have:decide ((nodesFs s:Int)<=left - 1 - nodesTs a)=false:=by simp at cQ ⊢;omega
  rw[this];simp
 ·have:decide (aZ+1+aS s<=br+1)=false:=by simp at cQ ⊢;omega
  rw[this];simp):G:=h
theorem pm140(h:G:=by
 rw[hp];clear hp;have WY:=ac (fun (W:World) (h:Below W0.heap.size W0 W)=>yd ▸ HLk.o W h n);clear yd oG;exact pm246):G:=h
theorem pm141(h:G:=by
 exact pm317):G:=h
theorem pm142(h:G:=by
 have ji:Kp M w wr:=(Kp.below H4.o.1).trans bj;have gE:∀ b,b<w.heap.size->¬M b:=fun b hb=>by rw[HM.o];rintro (h | h) <;> omega
 have d0:=ji.cell (gE _ hok) c0;have d1:=ji.cell (gE _ hok) c1;have d2:=ji.cell (gE _ hok) c2;have d3:=ji.cell (gE _ hok) c3
 first
 |clear pp142;have d4:=ji.cell (gE _ hok) c4;obtain ⟨nm,dD⟩:=am (b.fs[k].1);rw[<-dD]at d0;have pp113a:=();exact pm113
 |obtain ⟨nm,dD⟩:=am (b.ts[j].1);rw[<-dD]at d0;simp only at d1 d2 d3;obtain ⟨W5,fv⟩:=am (wr.alloc (.cells #[.string ⟨nm.toArray⟩,.bool qv,.string qn,.slice qa ql qc] 47));have bm:=cV fv;have jG:=dZ.later bm.drew;have hf5:TermV (fun b=>b<w.heap.size) W5.drew (TQ.val ⟨qv,qn,qa,ql,qc⟩) b.ts[j].2:=hf.move (fun b hb hlt=>⟨hb,((ji.trans (Kp.below bm.drew)).same b hlt (gE b hb))⟩);obtain ⟨w6,cR,Ht,Hu,Jc⟩:=jG.storeT (by simp <;> omega) (by omega) (x:=nm) (by rw[dD];exact HP.o.2.1 _ (aw bg)) hf5 (HP.o.2.2.2.2.2 _ (aw bg)) (l':=b.ts.take (j+1)) (fun y=>by rw[wY HP.o.2.2.2.1 bg,<-dD]);have x8:=ah dZ.box 1;have x9:=aa bm x8;have Fl:=aa bm.drew x8;have HK:=aG Ht ((bj.trans (Kp.below bm.drew)).trans (Hu.mono (fun b _ h=>by rw[HM.o];exact .inr h)));have sJ:=ac fv;rw[fv]at x9 Fl;have DK:(j:Int)<(n2:Int):=by omega
  clear dZ jG Ht bj Hu Jc hf hf5 bm ji gE hok dD fv bg c0 c1 c2 c3;rw[sJ.o]at cR;unfold TQ.val at cR;go_wp2;go_region;go_wp2;go_roundw
  case rel=>exact ⟨j+1,by omega,by go_num,HK.o.2,HK.o.1⟩
  case measure=>simp[intOf];omega):G:=h
theorem pm143(h:G:=by
 obtain ⟨x0,x1,rfl⟩:=two (wM.trans (by kernel_rfl));obtain ⟨c0,r,rfl⟩:∃c0 r,cs=c0 :: r:=by cases cs with | nil=>simp at hcl | cons c r=>exact ⟨c,r,rfl⟩
 have h0:DataW.trod enc Tryz.prog W 0 fQ held n 9 [c0]=some x0:=hf 0 _ rfl
 first
 |clear pp143;have h1:DataW.trod enc Tryz.prog W 0 fQ held n 36 (r.take 4)=some x1:=hf 1 _ rfl;have hr:r.take 4=r:=gU (by simp at hcl;omega);rw[hr]at h1;obtain ⟨s,rfl,hs,_⟩:=nu h0;obtain ⟨f,ZG,KM,hf3⟩:=pE n _ _ h1;obtain ⟨a,rfl,iF⟩:=tX ZG;refine ⟨(s,f),a,rfl,iF,?_,?_,?_⟩
  ·simp only[cz,List.map_nil,Rows.uptoBulk,Rows.uptoBulkAll];omega
  ·simp only[cz,List.map_nil,Rows.uptoBulk,Rows.uptoBulkAll];omega
  ·exact gq (by simp only[cz,List.map_nil,Rows.uptoBulk,Rows.uptoBulkAll];omega) _ hf3
 |have h1:DataW.trod enc Tryz.prog W 0 fQ held n 43 (r.take 3)=some x1:=hf 1 _ rfl;have hr:r.take 3=r:=gU (by simp at hcl;omega);rw[hr]at h1;obtain ⟨s,rfl,hs,_⟩:=nu h0;obtain ⟨f,ZG,KM,hf3⟩:=wd n _ _ h1;obtain ⟨a,rfl,iF⟩:=Lc ZG;refine ⟨(s,f),a,rfl,iF,?_,?_,?_⟩
  ·simp only[cz,List.map_nil,Rows.uptoBulk,Rows.uptoBulkAll];omega
  ·simp only[cz,List.map_nil,Rows.uptoBulk,Rows.uptoBulkAll];omega
  ·exact ke (by simp only[cz,List.map_nil,Rows.uptoBulk,Rows.uptoBulkAll];omega) _ hf3):G:=h
theorem pm144(h:G:=by
 have e:(ap a).filter (fun x=>!([]:List Str).contains x)=ap a:=List.filter_eq_self.2 (fun x _=>by simp)
 first
 |clear pp144a;simp only[dbF,aL,e,List.flatMap_append]
  by_cases hq:bh o=true
  ·rw[au hq,au hq];simp only[Qu,oA σ a h.1,Bm s _ _ h.2];rw[It,jE]
  ·rw[ak hq,ak hq];simp only[Qu,oA σ a h.1,Bm s _ _ h.2]
 |clear pp144b;simp only[fG,aL,e,List.mem_append,not_or,Nat.add_eq_zero_iff,tM x a,ih]
  by_cases hq:bh o=true
  ·rw[au hq,jE,List.mem_filter];have pp227:=();exact pm227
  ·rw[ak hq]
 |clear pp144c;simp only[fG,aL,e,List.count_append,rd,ih]
  by_cases hq:bh o=true
  ·rw[au hq,jE];exact pm227
  ·rw[ak hq]
 |have h1:=Br σ a h.1;simp only[dbF,aL,e,nodesF,dO,List.map_append,List.sum_append]
  by_cases hq:bh o=true
  ·rw[au hq,au hq,jE];have h2:=Bs s (upd σ n (.lvl d)) (d+1) h.2;have h3:=L3 σ n d (bq [] s);simp only[Kq];omega
  ·rw[ak hq,ak hq];have h2:=Bs s σ d h.2;simp only[Kq];omega):G:=h
theorem pm145(h:G:=by
 have lr:j<ps.length:=by rw[<-yV.o];omega
 rw[show (((j+1:Nat):Int) - 1)=(j:Int) by omega];rw[Hg lr,Az]at ht;obtain ⟨b,off,rfl,g0,g1⟩:=HP.o.get lr;obtain ⟨⟨p1,p2⟩,hpj⟩:∃x,ps[j]=x:=⟨_,rfl⟩;rw[hpj]at ht g0 g1;simp only at ht g0 g1
 first
 |clear pp145;have ar:=cw.o.trans (dt.mono (by omega));have f0:=fun x:Later wr=>x.get (aa ar g0);have f1:=fun x:Later wr=>x.get (aa ar g1);have f2:=fun x:Later wr=>x.get (aa dt (ah HX.o 1));have f3:=fun x:Later wr=>x.get (aa dt (ah HY.o 1));have hjj:(j:Int)<(p0:Int):=by omega
  obtain ⟨lY,cv⟩:=aW dt ar;clear dt ar g0 g1 hpj
  by_cases ha:p1=xn <;> by_cases hb:p2=yn
  ·subst ha;subst hb;have pp183:=();exact pm183
  ·subst ha;have pp177:=();exact pm177
  ·subst hb;have pp178:=();exact pm178
  ·have gY:(p1 == xn)=false:=by simpa using ha
   have pp247:=();exact pm247
 |have ar:=cw.o.trans (dt.mono cw.o.size);obtain ⟨f0,f1⟩:=zS ar g0 g1;have x1:wr.cell? ⟨w.heap.size,1,none⟩=some (.string ⟨xn.toArray⟩):=aa dt (ah HX.o 1);have y1:wr.cell? ⟨w.heap.size+1,1,none⟩=some (.string ⟨yn.toArray⟩):=aa dt (ah HY.o 1);have hjj:(j:Int)<(p0:Int):=by omega
  obtain ⟨lY,cv⟩:=aW dt ar;have FI:w.heap.size<wr.heap.size:=kW x1;have sr:w.heap.size+1<wr.heap.size:=kW y1;have Lo:b<wr.heap.size:=kW f0;clear dt ar g0 g1 hpj
  by_cases ha:p1=xn <;> by_cases hb:p2=yn
  ·subst ha;subst hb;exact pm183
  ·subst ha;exact pm177
  ·subst hb;exact pm178
  ·have gY:(p1 == xn)=false:=by simpa using ha
   exact pm247):G:=h
theorem pm146(h:G:=by
 rw[jj.o]at e0 e1 e2;simp only[TQ.val];go_enter Tryz.func193,Tryz.ntmps193
 first
 |clear pp146a;go_wp2_with (rw[<-jj.o];go_at_call 192;refine zs.o.mono ?_;rintro e w4 ⟨rfl,aO⟩;have H4:=ac aO;clear aO);go_ret;exact ⟨by rw[rJ.o];rfl,H1.o.1.tr H4.o⟩
 |clear pp146b;go_wp2_with (first | (rw[<-jj.o];go_at_call 119;refine tE.o.mono ?_;rintro e w3 ⟨rfl,aM⟩;have x3:=bJ aM H1.o.2.1;obtain ⟨q0,q1,q2,_⟩:=gN x3;have H3:=ac aM;clear aM x3) | (go_at_call 192;refine (FE.o w3 H3.o).mono ?_;rintro e w4 ⟨rfl,aO⟩;have H4:=ac aO;clear aO));go_ret;exact ⟨by rw[rJ.o];rfl,H1.o.1.tr (H3.o.tr H4.o)⟩
 |go_wp2_with (rw[<-jj.o];go_at_call 119;refine tE.o.mono ?_;rintro e w3 ⟨rfl,aM⟩;have H3:=ac aM;clear aM);clear e0 e1 e2;have lB:=(Jf.o.later H1.o.2.2).later H3.o;have x3:=bJ H3.o H1.o.2.1;have g0:w3.cell? ⟨kb,1,none⟩=some (.map (some mT)):=ah lB.box 1;have g1:w3.drew.cell? ⟨kb,1,none⟩=some (.map (some mT)):=ah lB.box 1;have g2:w3.cell? ⟨w.heap.size,1,none⟩=some (.string ⟨n.toArray⟩):=ah x3 1;have g3:w3.drew.cell? ⟨w.heap.size,1,none⟩=some (.string ⟨n.toArray⟩):=g2;have bm:Below w3.heap.size w3 (w3.alloc (.cells #[.bool false,.string ⟨#[]⟩,.slice none 0 0] 43)):=cO;obtain ⟨g4,g5⟩:=zS bm g0 g2;rcases lB.ts.look Tryz.underlying9 Tryz.underlying146 jT (x:=n) (by omega) with ⟨hg,hl⟩ | ⟨u,vu,hg,hvu,hl⟩
  ·have l1:=(hl w3.drew rfl).1;have pp251:=();exact pm251
  ·obtain ⟨⟨xv,xn,xa,xl,xc⟩,rfl,hxv,hpu⟩:=hvu;simp only[TQ.val]at hl;have l1:=(hl w3.drew rfl).1;exact pm251):G:=h
theorem pm147(h:G:=by
 intro us3 XF wq hrel;obtain ⟨j,hj,XG,xK,bj,Gw,e_,kj,NL,NM,dZ,sd,qC,zH,gP⟩:=hrel;simp only[jd,List.setIfInBounds_toArray,List.set_cons_zero,List.set_cons_succ];rw[XG];have lM:Below w.heap.size w wq:=aQ t4.o.2.2.1 bj Cx.o.1
 by_cases hlt:j<n1
 first
 |clear pp147
  ·have lr:=ce HN.o hlt;exact pm263
  ·obtain rfl:n1=j:=by omega
   have vN:ew bK 0 k l=(kj,0,0):=by rw[gP,gD (by rw[<-HN.o];exact aD _)];rfl
   have pp175:=();exact pm175
 |·have lr:=ce HN.o hlt;obtain ⟨bb,off,⟨a0,a1,a2,a3,a4,a5,a6,a7⟩,⟨b0,b1,b2,b3,b4,b5,b6,b7⟩,rfl,hok,hs,hf,c0,c1,c2,c3,c4,c5,c6,c7⟩:=HV.o.1.get lr;obtain ⟨d0,d1,d2,d3,d4,d5,d6,d7⟩:=Jp lM c0 c1 c2 c3 c4 c5 c6 c7;simp only at d0 d1 d2 d3 d4 d5 d6 d7;have cR:=BL (step:=ev) (k:=kj) lr;exact pm57
  ·obtain rfl:n1=j:=by omega
   have vN:ew ev 0 k l=(kj,0,0):=by rw[gP,gD (by rw[<-HN.o];exact aD _)];rfl
   exact pm175):G:=h
theorem pm148(h:G:=by
 have jG:=H3.o.2.2.later H5.o;obtain ⟨⟨z0,z1,z2,z3,z4⟩,UZ,If,I9,_,_,A_⟩:=jG.termOf (x:=y) (by have:=HY.o.1;omega);simp only[TQ.val]at A_;have bg:=jG.ts.lt;obtain ⟨S,hS⟩:∃S:World->Prop,S=fun V=>Below w5.heap.size w5 V:=⟨_,rfl⟩
 first
 |clear pp148;have ff:∀ V,S V->V.cell? ⟨kb,1,none⟩=some (.map (some mT))/\(Instr.lookup 146 (.map (some mT)) (.string ⟨y.toArray⟩) false).run Tryz.prog V=.ok (.agg #[.bool z0,.string z1,.slice z2 z3 z4]) V/\V.cell? ⟨w4.heap.size,0,none⟩=some (.int .u8 g0)/\V.cell? ⟨w4.heap.size,1,none⟩=some (.string g1)/\V.cell? ⟨w4.heap.size,2,none⟩=some (.slice g2 g3 g4)/\V.cell? ⟨w4.heap.size,3,none⟩=some (.slice g5 g6 g7):=fun V h=>by
   exact pm290
  have dU:S w5.drew:=by rw[hS];exact (aj _ _).drew
  have HR5:=ac (show RS=fH di (termOf kd.ts y) f by rw[HB.o.2.2.2.2,ak h0]);have pU:=((H3.o.1.tr H5.o).tr (aj w5.heap.size w5).drew);have CP:=uS WB f di (termOf kd.ts y) vk.o.2.1 (by have:=vk.o.2.2.1;omega) vk.o.2.2.2.1 vk.o.2.2.2.2 (by have:=HY.o.2.1;omega) If (by omega) _ _ w5.drew ⟨g0,g1,g2,g3,g4,g5,g6,g7⟩ ⟨z0,z1,z2,z3,z4⟩ (PA.o.next pU) (vk.o.1.later pU) (UZ.later ((aj w5.heap.size w5).drew));simp only[FQ.val,TQ.val]at CP;obtain ⟨J5,HX5,dp⟩:=cH CP x15 hS;clear hS jG UZ If I9 A_ bg pU CP y5 x15 h0;go_upto_region 9 with fail;clear oM ju iy;refine (wpIn_wide (n:=3)).1 ?_;refine lH S 9 dU fun jC bN=>?_;refine dh 0 49 (.agg #[.int .u8 g0,.string g1,.slice g2 g3 g4,.slice g5 g6 g7]) rfl (fun V hX=>by obtain ⟨h0,h1,h2,h3,h4,h5⟩:=ff V hX;go_simp) bN fun Q5=>?_;simp only[ag];refine bC 1 50 (.string ⟨di.toArray⟩) rfl Q5 fun Q6=>?_;simp only[ag];refine bC 2 51 (.pointer (some ⟨kb,0,none⟩)) rfl Q6 fun KK=>?_;simp only[ag];refine bC 3 52 (.pointer (some ⟨kb,0,none⟩)) rfl KK fun Q7=>?_;simp only[ag];refine bC 4 53 (.pointer (some ⟨kb,1,none⟩)) rfl Q7 fun XV=>?_;simp only[ag];refine dh 5 54 (.map (some mT)) rfl (fun V hX=>by obtain ⟨h0,h1,h2,h3,h4,h5⟩:=ff V hX;go_simp) XV fun hT5=>?_;simp only[ag];refine bC 6 55 (.string ⟨y.toArray⟩) rfl hT5 fun hT6=>?_;simp only[ag];refine dh 7 56 (.agg #[.bool z0,.string z1,.slice z2 z3 z4]) rfl (fun V hX=>by obtain ⟨h0,h1,h2,h3,h4,h5⟩:=ff V hX;go_simp) hT6 fun hT7=>?_;simp only[ag];refine bZ 8 rfl fun K hK=>?_;go_simp;refine aK.2 (J5.o.mono ?_);rintro e w7 ⟨⟨⟨p0,p1,p2,p3,p4,p5,p6,p7⟩,rfl,hp⟩,fW⟩;have H7:=ac (((aj w5.heap.size w5).drew).trans fW);have HP7:=ac hp;have x7:=bJ H7.o HX5.o;have KN:=ac x7;obtain ⟨i0,i1,i2,i3,q0,q1,q2,q3⟩:=dy x7;refine hK _ _ (fun _=>by rw[dp.o];exact H7.o) (fun _=>?_);clear hK K fW x7 hp;refine bZ 9 rfl fun K hK=>?_;go_simp;refine eS hK ?_;clear hK K;refine kV ?_;go_wp2;have x6:=lA (v0:=.int .u8 p0) (v1:=.string p1) (v2:=.slice p2 p3 p4) (v3:=.slice p5 p6 p7) KN.o;have k6:=dL (W:=w7) (b:=w.heap.size+1) (v0:=.int .u8 p0) (v1:=.string p1) (v2:=.slice p2 p3 p4) (v3:=.slice p5 p6 p7);obtain ⟨W6,dm⟩:=am ((((w7.setCell ⟨w.heap.size+1,0,none⟩ (.int .u8 p0)).setCell ⟨w.heap.size+1,1,none⟩ (.string p1)).setCell ⟨w.heap.size+1,2,none⟩ (.slice p2 p3 p4)).setCell ⟨w.heap.size+1,3,none⟩ (.slice p5 p6 p7));exact pm116
 |have ff:∀ V,S V->V.cell? ⟨kb,1,none⟩=some (.map (some mT))/\(Instr.lookup 146 (.map (some mT)) (.string ⟨y.toArray⟩) false).run Tryz.prog V=.ok (.agg #[.bool z0,.string z1,.slice z2 z3 z4]) V/\V.cell? ⟨W2.heap.size,0,none⟩=some (.int .u8 g0)/\V.cell? ⟨W2.heap.size,1,none⟩=some (.string g1)/\V.cell? ⟨W2.heap.size,2,none⟩=some (.slice g2 g3 g4)/\V.cell? ⟨W2.heap.size,3,none⟩=some (.slice g5 g6 g7):=fun V h=>by
   exact pm290
  have dU:S w5.drew:=by rw[hS];exact (aj _ _).drew
  have Zk:=ac (fun (V:World) (h:Below w5.heap.size w5 V)=>ld _ If (by omega) _ V ⟨z0,z1,z2,z3,z4⟩ (UZ.later h));obtain ⟨nt,wv⟩:=am (nodesT (termOf k.ts y));have Ot:1<=nt:=by rw[wv];exact jA _
  have hE:=HE3.o;simp only[TQ.val,<-wv]at Zk;rw[<-wv]at I9 hE;obtain ⟨m2,oy⟩:=am (nt - 1);obtain ⟨m3,R4⟩:=am (n0 * m2);have pS:m3<=400 * 1000:=by rw[R4];exact Nat.mul_le_mul HY.o.2.1 (by omega)
  rw[<-oy,<-R4]at hE;have yR:IntKind.i64.wrap ((nt:Int) - 1)=(m2:Int):=by rw[ik _ (by omega)];omega
  have Oi:IntKind.i64.wrap ((n0:Int) * (m2:Int))=(m3:Int):=by rw[show (n0:Int) * (m2:Int)=(m3:Int) by rw[R4];simp];exact ik _ (by omega)
  have WX:IntKind.i64.wrap ((nf:Int)+(m3:Int))=((nf+m3:Nat):Int):=by rw[ik _ (by have:=HY.o.2.2;omega)];simp
  obtain ⟨rJ,dp⟩:=aW hE hS;clear hS jG UZ If I9 A_ bg wv Ot hE oy R4 pS y5 h0;go_upto_region 11 with fail;clear oM ju;refine (wpIn_wide (n:=3)).1 ?_;refine lH S 13 dU fun jC bN=>?_;refine dh 0 48 (.agg #[.int .u8 g0,.string g1,.slice g2 g3 g4,.slice g5 g6 g7]) rfl (fun V hX=>by obtain ⟨h0,h1,h2,h3,h4,h5⟩:=ff V hX;go_simp) bN fun cr=>?_;simp only[ag];refine bC 2 50 (.int .i64 (n0:Int)) rfl cr fun f_=>?_;simp only[ag];refine bC 3 51 (.pointer (some ⟨kb,0,none⟩)) rfl f_ fun gQ=>?_;simp only[ag];refine bC 4 52 (.pointer (some ⟨kb,0,none⟩)) rfl gQ fun iK=>?_;simp only[ag];refine bC 5 53 (.pointer (some ⟨kb,1,none⟩)) rfl iK fun jF=>?_;simp only[ag];refine dh 6 54 (.map (some mT)) rfl (fun V hX=>by obtain ⟨h0,h1,h2,h3,h4,h5⟩:=ff V hX;go_simp) jF fun j7=>?_;simp only[ag];refine bC 7 55 (.string ⟨y.toArray⟩) rfl j7 fun mi=>?_;simp only[ag];refine dh 8 56 (.agg #[.bool z0,.string z1,.slice z2 z3 z4]) rfl (fun V hX=>by obtain ⟨h0,h1,h2,h3,h4,h5⟩:=ff V hX;go_simp) mi fun rF=>?_;simp only[ag];refine bZ 1 rfl fun K hK=>?_;go_simp;refine aK.2 ((Gt.o _ (H5.o.tr (by have h:=bN;rw[dp.o]at h;exact h))).mono ?_);rintro e w7 ⟨rfl,fW⟩;have H7:=ac (((aj w5.heap.size w5).drew).trans fW);refine hK _ _ (fun _=>by rw[dp.o];exact H7.o) (fun _=>?_);clear hK K fW;refine bZ 9 rfl fun K hK=>?_;go_simp;refine aK.2 ((Zk.o _ H7.o).mono ?_);rintro e w8 ⟨rfl,ic⟩;have H8:=ac (H7.o.tr ic);have rF:S w8:=by rw[dp.o];exact H8.o
  refine hK _ _ (fun _=>rF) (fun _=>?_);clear hK K ic;refine bZ 10 rfl fun K hK=>?_;go_simp;refine hK _ _ (fun _=>rF) (fun _=>?_);clear hK K;refine bZ 11 rfl fun K hK=>?_;go_simp;refine hK _ _ (fun _=>rF) (fun _=>?_);clear hK K;refine bZ 12 rfl fun K hK=>?_;go_simp;refine hK _ _ (fun _=>rF) (fun _=>?_);clear hK K;refine bZ 13 rfl fun K hK=>?_;go_simp;refine eS hK ?_;clear hK K;refine kV ?_;clear ff dU bN cr f_ gQ iK jF j7 mi rF jC yR Oi WX;go_wp2;go_ret;exact ⟨by rw[rJ.o];simp,(H2.o.1.tr H3.o.1).tr (H5.o.tr H8.o)⟩):G:=h
theorem pm149(h:G:=by
 rw[hp];have CP:=ac (fun w=>nD r w hn);have hr:r.length<=1000000000:=by simp at hn;omega
 have hx:=jB 63 r;simp at hs hx;have h1:((1:Int)<=((63 :: r).length:Int)):=by simp;omega
 have sr:((r.length:Int)+1)<=16:=by simp at hl;omega
 clear h hp
 first
 |clear pp149;go_enter Tryz.func185,Tryz.ntmps185;go_wp2_with (first | (go_at_call 191;refine (CP.o _).mono ?_;rintro e w' ⟨rfl,rfl⟩) | (go_at_call 120;refine (nC r _ hr).mono ?_;rintro e w' ⟨rfl,hb⟩));go_ret;exact ⟨rfl,hb⟩
 |go_enter Tryz.func186,Tryz.ntmps186;go_wp2_with (first | (go_at_call 191;refine (CP.o _).mono ?_;rintro e w' ⟨rfl,rfl⟩) | (go_at_call 121;refine (lS r _ hr).mono ?_;rintro e w' ⟨rfl,hb⟩));go_ret;exact ⟨rfl,hb⟩):G:=h
theorem pm150(h:G:=by
 obtain ⟨b,off,u,rfl,_,hu,c0,c1,c2,c3⟩:=gt.o.get dJ;obtain ⟨d0,d1,d2,d3⟩:=mu ar c0 c1 c2 c3
 first
 |clear pp150a;obtain ⟨uo,un,ua,ul,uc,ub,um,ue⟩:=u;obtain ⟨W2,a_⟩:=am (wr.alloc (.cells #[.int .u8 uo,.string un,.slice ua ul uc,.slice ub um ue] 36));have bB:=cV a_;have zb:=bU a_;have u0:W2.cell? ⟨wr.heap.size,0,none⟩=some (.int .u8 uo):=ah zb 0;have u1:W2.cell? ⟨wr.heap.size,1,none⟩=some (.string un):=ah zb 1;have u2:W2.cell? ⟨wr.heap.size,2,none⟩=some (.slice ua ul uc):=ah zb 2;have u3:W2.cell? ⟨wr.heap.size,3,none⟩=some (.slice ub um ue):=ah zb 3;have gZ:=hF.later bB (fun r=>r.below bB);obtain ⟨P0,P1,P2,P3,P4,P5,P6,P7,P8⟩:=iE (gZ.other (by omega) Po.o)
  first
  |clear pp60;have CC:=fR.o s[k] (aw dJ) (zZ.o.mem (aw dJ)) (L) (ins) (by have:=JX.o.2.1 s[k] (aw dJ);omega) JX.o.1 (vL) ok W2 ⟨uo,un,ua,ul,uc,ub,um,ue⟩ (JV.o.later (ar.tr bB)) ⟨(JZ.o.1.kp hF.kp (fun b hb h=>(JZ.o.2 b hb).1 h)).later bB,fun b hb=>by have:=(JZ.o.2 b hb).2;have:=hF.size;have:=bB.size;omega⟩ ((hu.later ar).later bB);simp only[PlQ.cells,PlQ.val,FQ.val]at CC P0 P1 P2 P3 P4 P5 P6 P7 P8;have gz:=pI (c:=ps.reverse) (ins:=ins) dJ;rw[AC]at gz;have gE:=fun (h:eT ps.reverse ins s[k]=none)=>AF (c:=ps.reverse) (ins:=ins) (aw dJ) h;obtain ⟨U,hU⟩:=am (eT ps.reverse ins s[k]);rw[<-hU]at CC gz gE;have mz:=ac CC;have uJ:=aG gz Db;have AD:=ac gE;obtain ⟨qs,eE,aA,gL⟩:=gZ.row;rw[Db]at eE aA;have AE:=bF eE aA gL;have fw:=ac gZ;have cv:=aG ar bB;rw[a_]at mz u0 u1 u2 u3 P0 P1 P2 P3 P4 P5 P6 P7 P8;have fp:=ac a_;clear hu c0 c1 c2 c3 zb hF gZ eE aA gL CC gz gE hU AC Db ar bB a_
   cases U with
   | none=>
    exact pm36
   | some u'=>
    go_wp2_with (first | (go_at_call 91;refine mz.o.mono ?_;rintro e w4 ⟨⟨⟨po,pn,pa,pl,pc,pb,pm,pe⟩,rfl,hp⟩,aO⟩;simp only[Option.isSome]at hp ⊢;rw[<-fp.o]at aO hp;have bm:Below w4.heap.size w4 (w4.alloc (.cells #[.int .u8 po,.string pn,.slice pa pl pc,.slice pb pm pe] 36)):=cO;have tC:=fw.o.later (aO.tr bm) (fun r=>r.below (aO.tr bm));have r2:(w4.alloc (.cells #[.int .u8 po,.string pn,.slice pa pl pc,.slice pb pm pe] 36)).cell? ⟨w.heap.size+1+1+1,3,none⟩=some (.slice ra k rc):=(tC.cell 3).trans rfl;have HF5:=ac tC;have JW:=aG ((hp u' rfl).later bm) (aO.tr bm);have HO:=ac (bi AE.o.2.1 (fun b _ hlt=>(aO.tr bm).block b hlt));have pR:((w4.alloc (.cells #[.int .u8 po,.string pn,.slice pa pl pc,.slice pb pm pe] 36)).alloc (.cells #[.int .u8 po,.string pn,.slice pa pl pc,.slice pb pm pe] 36)).heap.size=w4.heap.size+2:=(by simp);have JP:=tC.size;simp only[World.size_alloc]at JP;clear hp aO bm tC) | (at_builtin;refine wpList_append_lies _ rfl _ _ 34 rfl wq.heap.size 36 Lu (.agg #[.int .u8 0,.string ByteArray.empty,.slice none 0 0,.slice none 0 0]) 4 72 Tryz.underlying34 hj me CX Uj rfl (by decide) (.slice ra k rc) k _ rfl (HO.o.alloc _) ⟨w4.heap.size+1,0,none⟩ 1 1 [.int .u8 po,.string pn,.slice pa pl pc,.slice pb pm pe] rfl rfl (dc (cs:=#[.int .u8 po,.string pn,.slice pa pl pc,.slice pb pm pe]) (t:=36) (fr:=(0,0)) (ai (by simp))) (by simp[Value.oneCell']) (by decide) (by unfold maxLen;omega) (by omega) (by simp;omega) (w4.heap.size+2) pR ?_;intro g eF w6 aV aq hg eD;have h4:=fw.o.at4 (kk:=3) AE.o.2.1 JW.o.2 aq;have d3:=h4.2.2;have z3:=h4.2.1;have HG:=cG aV aq hg eD;clear aV aq hg eD h4));exact pm92
  |have CC:=fR.o s[k] (aw dJ) (zZ.o.mem (aw dJ)) (L ++ [n]) ((n :: ins)) (by have:=JX.o.2.1 s[k] (aw dJ);simp;omega) zai.o (.slice (some ⟨g,0,none⟩) (l0+1) cap) ok W2 ⟨uo,un,ua,ul,uc,ub,um,ue⟩ (JV.o.later (ar.tr bB)) ⟨(JZ.o.1.kp hF.kp (fun b hb h=>(JZ.o.2 b hb).1 h)).later bB,fun b hb=>by have:=(JZ.o.2 b hb).2;have:=hF.size;have:=bB.size;omega⟩ ((hu.later ar).later bB);simp only[PlQ.cells,PlQ.val,FQ.val]at CC P0 P1 P2 P3 P4 P5 P6 P7 P8;have gz:=pI (c:=ps.reverse) (ins:=(n :: ins)) dJ;rw[AC]at gz;have gE:=fun (h:eT ps.reverse (n :: ins) s[k]=none)=>AF (c:=ps.reverse) (ins:=(n :: ins)) (aw dJ) h;obtain ⟨U,hU⟩:=am (eT ps.reverse (n :: ins) s[k]);rw[<-hU]at CC gz gE;have mz:=ac CC;have uJ:=aG gz Db;have AD:=ac gE;obtain ⟨qs,eE,aA,gL⟩:=gZ.row;rw[Db]at eE aA;have AE:=bF eE aA gL;have fw:=ac gZ;have cv:=aG ar bB;rw[a_]at mz u0 u1 u2 u3 P0 P1 P2 P3 P4 P5 P6 P7 P8;have fp:=ac a_;clear hu c0 c1 c2 c3 zb hF gZ eE aA gL CC gz gE hU AC Db ar bB a_
   cases U with
   | none=>
    exact pm36
   | some u'=>
    go_wp2_with (first | (go_at_call 91;refine mz.o.mono ?_;rintro e w4 ⟨⟨⟨po,pn,pa,pl,pc,pb,pm,pe⟩,rfl,hp⟩,aO⟩;simp only[Option.isSome]at hp ⊢;rw[<-fp.o]at aO hp;have bm:Below w4.heap.size w4 (w4.alloc (.cells #[.int .u8 po,.string pn,.slice pa pl pc,.slice pb pm pe] 36)):=cO;have tC:=fw.o.later (aO.tr bm) (fun r=>r.below (aO.tr bm));have r2:(w4.alloc (.cells #[.int .u8 po,.string pn,.slice pa pl pc,.slice pb pm pe] 36)).cell? ⟨w.heap.size+1+1+1,3,none⟩=some (.slice ra k rc):=(tC.cell 3).trans rfl;have HF5:=ac tC;have JW:=aG ((hp u' rfl).later bm) (aO.tr bm);have HO:=ac (bi AE.o.2.1 (fun b _ hlt=>(aO.tr bm).block b hlt));have pR:((w4.alloc (.cells #[.int .u8 po,.string pn,.slice pa pl pc,.slice pb pm pe] 36)).alloc (.cells #[.int .u8 po,.string pn,.slice pa pl pc,.slice pb pm pe] 36)).heap.size=w4.heap.size+2:=(by simp);have JP:=tC.size;simp only[World.size_alloc]at JP;clear hp aO bm tC) | (at_builtin;refine wpList_append_lies _ rfl _ _ 34 rfl X5.heap.size 36 Lu (.agg #[.int .u8 0,.string ByteArray.empty,.slice none 0 0,.slice none 0 0]) 4 72 Tryz.underlying34 hj me CX Uj rfl (by decide) (.slice ra k rc) k _ rfl (HO.o.alloc _) ⟨w4.heap.size+1,0,none⟩ 1 1 [.int .u8 po,.string pn,.slice pa pl pc,.slice pb pm pe] rfl rfl (dc (cs:=#[.int .u8 po,.string pn,.slice pa pl pc,.slice pb pm pe]) (t:=36) (fr:=(0,0)) (ai (by simp))) (by simp[Value.oneCell']) (by decide) (by unfold maxLen;omega) (by omega) (by simp;omega) (w4.heap.size+2) pR ?_;intro g eF w6 aV aq hg eD;have h4:=fw.o.at4 (kk:=3) AE.o.2.1 JW.o.2 aq;have d3:=h4.2.2;have z3:=h4.2.1;have HG:=cG aV aq hg eD;clear aV aq hg eD h4));exact pm92
 |clear pp150b;have cB:((s.map bA).take k).length=k:=by rw[dT];have:=gR.o;simp;omega
  obtain ⟨ra,rc,rfl⟩:=hF.row.slice;rw[cB]at hF;have HU:=ac (hu.later ar);have pp43:=();exact pm43
 |clear pp150c;have cB:((s.map (eW kk nx z)).take k).length=k:=by rw[dT];have:=gR.o;simp;omega
  obtain ⟨ra,rc,rfl⟩:=hF.row.slice;rw[cB]at hF;have HU:=ac (hu.later ar);have pp105:=();exact pm105
 |have cB:((ss.map (bV kd c)).take k).length=k:=by rw[dT];have:=Fu.o;simp;omega
  obtain ⟨ra,rc,rfl⟩:=hF.row.slice;rw[cB]at hF;have HU:=ac (hu.later ar);exact pm43):G:=h
theorem pm151(h:G:=by
 obtain ⟨k,hk,rfl,row,hF⟩:=hrel;have ar:=hF.below ec.o (Nat.le_add_right _ 2)
 by_cases hlt:k<k0
 first
 |clear pp151a
  ·have dJ:=ce dA.o hlt;have pp61c:=();exact pm61
  first
  |clear pp0a
   ·obtain rfl:k=k0:=by omega
    have pp255:=();exact pm255
  |clear pp0b
   ·obtain rfl:k=k0:=by omega
    exact pm255
  |·obtain rfl:k=k0:=by omega
    have cB:((a.map aN).take k).length=k:=by rw[dT];have:=dA.o;simp;omega
    have ki:(a.map aN).take k=(a.map aN):=gU (by have:=dA.o;simp;omega);obtain ⟨ra,rc,rfl⟩:=hF.row.slice;rw[cB]at hF;have HR:=ac (ki ▸ hF.row);have x2:=hF.box;have x1:=hF.other (by omega) jN.o;obtain ⟨c0,c1,c2⟩:=lQ x2;obtain ⟨e0,e1,e2⟩:=lQ x1;have z0:=ae x1 0;have z1:=ae x1 1;have z2:=ae x1 2;obtain ⟨mv,cv⟩:=aW x1 ar;clear ki cB hF x1 x2 ar;gi_wp2;have x6:=qA (v0:=.bool true) (v1:=.string ⟨r.toArray⟩) (v2:=.slice ra k rc) mv.o;have k6:=eM (W:=wr) (b:=w.heap.size+1) (v0:=.bool true) (v1:=.string ⟨r.toArray⟩) (v2:=.slice ra k rc);obtain ⟨W6,dm⟩:=am (((wr.setCell ⟨w.heap.size+1,0,none⟩ (.bool true)).setCell ⟨w.heap.size+1,1,none⟩ (.string ⟨r.toArray⟩)).setCell ⟨w.heap.size+1,2,none⟩ (.slice ra k rc));rw[<-dm]at x6 k6 ⊢;clear dm;have g0:W6.cell? ⟨w.heap.size+1,0,none⟩=some (.bool true):=ah x6 0;have g1:W6.cell? ⟨w.heap.size+1,1,none⟩=some (.string ⟨r.toArray⟩):=ah x6 1;have g2:W6.cell? ⟨w.heap.size+1,2,none⟩=some (.slice ra k rc):=ah x6 2;have hz:=(bz jN.o);have h6:TermV (w.heap.size<=·) W6 (TQ.val ⟨true,⟨r.toArray⟩,ra,k,rc⟩) (.mk true r (a.map aN)):=(HR.o.kp1 k6 (by omega)).term ec.o.size;refine bI (v:=TQ.val ⟨true,⟨r.toArray⟩,ra,k,rc⟩) (by simp[TQ.val,results,Tryz.results69,go_sem,g0,g1,g2]) rfl (⟨⟨true,⟨r.toArray⟩,ra,k,rc⟩,rfl,h6,Below.kp1 cv.o k6 (by omega)⟩)
 |clear pp151b
  ·have dJ:=ce dA.o hlt;have pp61h:=();exact pm61
  ·obtain rfl:k=k0:=by omega
   have cB:(a.take k).length=k:=by rw[dT,<-dA.o];omega
   have ki:a.take k=a:=by rw[dA.o];exact cY
   have pp17a:=();exact pm17
 |clear pp151c
  ·have dJ:=ce dA.o hlt;have pp61k:=();exact pm61
  ·obtain rfl:k=k0:=by omega
   exact pm234
 |·have dJ:=ce dA.o hlt;exact pm61
  ·obtain rfl:k=k0:=by omega
   exact pm205):G:=h
theorem pm152(h:G:=by
 go_upto_region 1 with fail;rw[<-jj.o];go_upto_region 2 with (go_at_call 119;refine tE.o.mono ?_;rintro e w3 ⟨rfl,aM⟩;have H3:=ac aM;clear aM);have lB:=(Jf.o.later H1.o.2.2).later H3.o;have x3:=bJ H3.o H1.o.2.1
 first
 |clear pp152;obtain ⟨⟨z0,z1,z2,z3,z4⟩,hz,If,I9,_,_,A_⟩:=lB.termOf (x:=n) mw;simp only[TQ.val]at A_;have bg:=lB.ts.lt;have pp39a:=();exact pm39
 |obtain ⟨⟨z0,z1,z2,z3,z4⟩,hz,If,I9,Qk,_,A_⟩:=lB.termOf (x:=n) mw;simp only[TQ.val]at A_;have bg:=lB.ts.lt;exact pm39):G:=h
theorem pm153(h:G:=by
 obtain ⟨k0,bX⟩:=am l.length;obtain ⟨m0,dW⟩:=am m.length;rw[jZ,<-bX,<-dW];rw[<-bX,<-dW]at nS;have d1:((k0:Int) == (m0:Int))=false:=by simp;omega
 have d2:((k0:Int) != (m0:Int))=true:=by simp;omega
 clear jZ hl hm hfit bX dW ih
 first
 |clear pp153;go_enter Tryz.func19,Tryz.ntmps19;go_wp2;go_ret;exact ⟨rfl,aj _ _⟩
 |go_enter Tryz.func52,Tryz.ntmps52;go_wp2;go_ret;exact ⟨rfl,aj _ _⟩):G:=h
theorem pm154(h:G:=by
 obtain ⟨S,hS⟩:∃S:World->Prop,S=fun V=>Below W2.heap.size W2 V:=⟨_,rfl⟩
 first
 |clear pp154a;have pp:∀ V,S V->V.cell? ⟨w.heap.size,2,none⟩=some (.slice (some ⟨b1,o1,none⟩) ql qc)/\V.cell? ⟨b1,o1+0 * 3+1,none⟩=some (.string ⟨x.toArray⟩)/\V.cell? ⟨b1,o1+1 * 3+1,none⟩=some (.string ⟨y.toArray⟩):=fun V h=>by rw[hS]at h;exact ⟨aa h (ah x2 2),aa h (aa bB c1),aa h (aa bB d1)⟩
  have dU:S W2.drew:=by rw[hS];exact (aj _ _).drew
  obtain ⟨HB,fp⟩:=aW bB a_;have iz:=fd;have hq1:(1:Int)<(ql:Int):=by omega
  have hqn:¬ql=0:=by omega
  have MG:(0:Int)<(ql:Int):=by omega
  clear hq iF mK hu hz c0 c1 c2 d0 d1 d2 hx hlen sr hI bB x2 hS a_ hok hql;unfold FQ.val;go_enter Tryz.func96,Tryz.ntmps96;go_wp2;rw[<-fp.o];refine (wpIn_wide (n:=3)).1 ?_;refine lH S 13 dU fun jC bN=>?_;refine bC 0 4 (.pointer (some ⟨w.heap.size,2,none⟩)) rfl bN fun cr=>?_;simp only[ag];refine dh 1 5 (.slice (some ⟨b1,o1,none⟩) ql qc) rfl (fun V hX=>by obtain ⟨h0,h1,h2⟩:=pp V hX;go_simp) cr fun f_=>?_;simp only[ag];refine bC 2 6 (.pointer (some ⟨b1,o1+0 * 3,none⟩)) rfl f_ fun gQ=>?_;simp only[ag];refine bC 3 7 (.pointer (some ⟨b1,o1+0 * 3+1,none⟩)) rfl gQ fun iK=>?_;simp only[ag];refine dh 4 8 (.string ⟨x.toArray⟩) rfl (fun V hX=>by obtain ⟨h0,h1,h2⟩:=pp V hX;go_simp) iK fun jF=>?_;simp only[ag];refine bC 6 10 (.pointer (some ⟨w.heap.size,2,none⟩)) rfl jF fun j7=>?_;simp only[ag];refine dh 7 11 (.slice (some ⟨b1,o1,none⟩) ql qc) rfl (fun V hX=>by obtain ⟨h0,h1,h2⟩:=pp V hX;go_simp) j7 fun mi=>?_;simp only[ag];refine bC 8 12 (.pointer (some ⟨b1,o1+1 * 3,none⟩)) rfl mi fun rF=>?_;simp only[ag];refine bC 9 13 (.pointer (some ⟨b1,o1+1 * 3+1,none⟩)) rfl rF fun Hv=>?_;simp only[ag];refine dh 10 14 (.string ⟨y.toArray⟩) rfl (fun V hX=>by obtain ⟨h0,h1,h2⟩:=pp V hX;go_simp) Hv fun zh=>?_;simp only[ag];refine bZ 5 rfl fun K hK=>?_;go_simp;refine aK.2 ((fC x W2.drew wM).mono ?_);rintro e w6 ⟨rfl,rfl⟩;refine hK _ _ (fun _=>dU) (fun _=>?_);clear hK K;refine bZ 11 rfl fun K hK=>?_;go_simp;refine hK _ _ (fun _=>dU) (fun _=>?_);clear hK K;refine bZ 12 rfl fun K hK=>?_;go_simp;refine hK _ _ (fun _=>dU) (fun _=>?_);clear hK K;refine kV ?_;go_wp2;refine bI (v:=.tuple #[.string ⟨(bQ x).toArray⟩,.string ⟨y.toArray⟩]) (by simp[results,Tryz.results96,go_sem]) rfl ⟨rfl,HB.o.drew⟩
 |clear pp154b
  first
  |clear pp51a;have f0:∀ V,S V->V.cell? ⟨w.heap.size+1+1,2,none⟩=some (.slice ra k rc):=fun V h=>by rw[hS]at h;exact aa h (gZ.cell 2)
   have f1:∀ V,S V->V.cell? ⟨wr.heap.size,0,none⟩=some (.bool u.v)/\V.cell? ⟨wr.heap.size,1,none⟩=some (.string u.n)/\V.cell? ⟨wr.heap.size,2,none⟩=some (.slice u.a u.l u.c):=fun V h=>by rw[hS]at h;exact ⟨aa h (ah xb 0),aa h (ah xb 1),aa h (ah xb 2)⟩
   have dU:S W2.drew:=by rw[hS];exact (aj _ _).drew
   obtain ⟨dp,cw,fw⟩:=cH hS f9 gZ
   first
   |clear pp9a;clear hS f9 gZ xb;refine lH S 5 dU fun jC bN=>?_
    refine bC 0 18 (.pointer (some ⟨w.heap.size+1+1,2,none⟩)) rfl bN fun cr=>?_;simp only[ag];refine dh 1 19 (.slice ra k rc) rfl (fun V hX=>by have g0:=f0 V hX;go_simp) cr fun f_=>?_;simp only[ag];refine dh 2 20 (.agg #[.bool u.v,.string u.n,.slice u.a u.l u.c]) rfl (fun V hX=>by obtain ⟨g0,g1,g2⟩:=f1 V hX;go_simp) f_ fun gQ=>?_;simp only[ag];refine bZ 3 rfl fun K hK=>?_;go_simp;refine aK.2 ((fR.o a[k] (aw dJ) (nG.o.mem (aw dJ)) _ W2.drew u (HU.o.later (cw.o.drew))).mono ?_);rintro _ A ⟨p,rfl,hp,hA⟩;have cC:Below W2.heap.size W2 A:=((aj W2.heap.size W2).drew).trans hA;refine hK _ _ (fun _=>by rw[dp.o];exact cC) (fun _=>?_);clear hK K;refine bZ 4 rfl fun K hK=>?_;simp only[TQ.val];go_simp;refine hK _ _ (fun _=>by rw[dp.o];exact cC.trans (((aj _ A).alloc (aD _) _).mono cC.size)) (fun _=>?_);clear hK K;obtain ⟨qs,eE,aA,gL⟩:=fw.o.row;rw[ek.o]at eE aA;have oN:=cC.size;have sX:=fw.o.size;refine bZ 5 rfl fun K hK=>?_;refine bx (.tmp 19) (.tmp 22) 33 rfl W1.heap.size 43 i0 (.agg #[.bool false,.string ByteArray.empty,.slice none 0 0]) 3 48 Tryz.underlying33 hi oM ju iy rfl (by decide) (.slice ra k rc) k _ rfl ((bi aA (fun b _ hlt=>cC.block b hlt)).alloc _) ⟨_,0,none⟩ 1 1 p.cells rfl rfl (dc (cs:=#[.bool p.v,.string p.n,.slice p.a p.l p.c]) (t:=43) (fr:=(0,0)) (fZ A _)) (by simp[TQ.cells,Value.oneCell']) (by decide) (by unfold maxLen;omega) (by omega) (by simp;omega) (A.heap.size+1) (by simp) ?_;intro g eF w4 aV aq hg eD;have h4:=fw.o.at4 (kk:=2) aA cC aq;have cR:=fw.o.stepT (F:=2) (t:=a[k]) (g:=g) (cap:=eF) (by rw[ek.o];exact aA) (by rw[ek.o];exact eE) gL cC (hp:TermV (W2.heap.size<=·) A p.val a[k]) (by rw[ek.o];exact aV) aq hg rfl;rw[ek.o,List.take_append_getElem dJ]at cR;have oO:=ac cR;have d3:=h4.2.2;have z3:=h4.2.1;clear aV aq hg eD cR h4 aA eE gL hp hA;refine eS hK ?_;clear hK K;refine bZ 6 rfl fun K hK=>?_;go_simp;refine eS hK ?_;clear hK K;refine bZ 7 rfl fun K hK=>?_;go_simp;refine eS hK ?_;clear hK K;refine kV ?_;gi_wp2;go_roundw
    case rel=>exact ⟨k+1,by omega,by go_num,_,oO.o⟩
    case measure=>simp[intOf];omega
   |clear pp9b;clear hS f9 gZ xb;refine lH S 6 dU fun jC bN=>?_
    refine bC 0 34 (.pointer (some ⟨w.heap.size+1+1,2,none⟩)) rfl bN fun cr=>?_;simp only[ag];refine dh 1 35 (.slice ra k rc) rfl (fun V hX=>by have g0:=f0 V hX;go_simp) cr fun f_=>?_;simp only[ag];refine dh 2 36 (.agg #[.bool u.v,.string u.n,.slice u.a u.l u.c]) rfl (fun V hX=>by obtain ⟨g0,g1,g2⟩:=f1 V hX;go_simp) f_ fun gQ=>?_;simp only[ag];refine bC 3 37 (.func (.func g) #[] lb) rfl gQ fun iK=>?_;simp only[ag];refine bZ 4 rfl fun K hK=>?_;go_simp;refine aK.2 ((fR.o a[k] (aw dJ) (nG.o.mem (aw dJ)) _ W2.drew u (((LI.o.tr cv.o).tr cw.o).tr (aj _ _).drew) (HU.o.later (cw.o.drew))).mono ?_);rintro _ A ⟨⟨p,rfl,hp⟩,hA⟩;have cC:Below W2.heap.size W2 A:=((aj W2.heap.size W2).drew).trans hA;refine hK _ _ (fun _=>by rw[dp.o];exact cC) (fun _=>?_);clear hK K;refine bZ 5 rfl fun K hK=>?_;simp only[TQ.val];go_simp;refine hK _ _ (fun _=>by rw[dp.o];exact cC.trans (((aj _ A).alloc (aD _) _).mono cC.size)) (fun _=>?_);clear hK K;obtain ⟨qs,eE,aA,gL⟩:=fw.o.row;rw[ek.o]at eE aA;have oN:=cC.size;have sX:=fw.o.size;refine bZ 6 rfl fun K hK=>?_;refine bx (.tmp 35) (.tmp 39) 33 rfl W1.heap.size 43 p9 (.agg #[.bool false,.string ByteArray.empty,.slice none 0 0]) 3 48 Tryz.underlying33 hi zp wJ zY rfl (by decide) (.slice ra k rc) k _ rfl ((bi aA (fun b _ hlt=>cC.block b hlt)).alloc _) ⟨_,0,none⟩ 1 1 p.cells rfl rfl (dc (cs:=#[.bool p.v,.string p.n,.slice p.a p.l p.c]) (t:=43) (fr:=(0,0)) (fZ A _)) (by simp[TQ.cells,Value.oneCell']) (by decide) (by unfold maxLen;omega) (by omega) (by simp;omega) (A.heap.size+1) (by simp) ?_;intro g eF w4 aV aq hg eD;have h4:=fw.o.at4 (kk:=2) aA cC aq;have cR:=fw.o.stepT (F:=2) (t:=(gp f a[k])) (g:=g) (cap:=eF) (by rw[ek.o];exact aA) (by rw[ek.o];exact eE) gL cC (hp:TermV (W2.heap.size<=·) A p.val (gp f a[k])) (by rw[ek.o];exact aV) aq hg rfl;rw[ek.o,de (gp f) a dJ]at cR;have oO:=ac cR;have d3:=h4.2.2;have z3:=h4.2.1;clear aV aq hg eD cR h4 aA eE gL hp hA;refine eS hK ?_;clear hK K;refine bZ 7 rfl fun K hK=>?_;go_simp;refine eS hK ?_;clear hK K;refine bZ 8 rfl fun K hK=>?_;go_simp;refine eS hK ?_;clear hK K;refine kV ?_;gi_wp2;go_roundw
    case rel=>exact ⟨k+1,by omega,by go_num,_,oO.o⟩
    case measure=>simp[intOf];omega
   |clear pp9c;clear hS f9 gZ xb;refine lH S 7 dU fun jC bN=>?_
    refine bC 0 51 (.pointer (some ⟨w.heap.size+1+1,2,none⟩)) rfl bN fun cr=>?_;simp only[ag];refine dh 1 52 (.slice ra k rc) rfl (fun V hX=>by have g0:=f0 V hX;go_simp) cr fun f_=>?_;simp only[ag];refine bC 2 53 (.pointer (some ⟨kb,0,none⟩)) rfl f_ fun gQ=>?_;simp only[ag];refine dh 3 54 (.agg #[.bool u.v,.string u.n,.slice u.a u.l u.c]) rfl (fun V hX=>by obtain ⟨g0,g1,g2⟩:=f1 V hX;go_simp) gQ fun iK=>?_;simp only[ag];refine bC 4 55 vL rfl iK fun jF=>?_;simp only[ag];refine bZ 5 rfl fun K hK=>?_;go_simp;refine aK.2 ((fR.o a[k] (aw dJ) (nG.o.mem (aw dJ)) _ W2.drew u (((LI.o.tr cv.o).tr cw.o).tr (aj _ _).drew) (HU.o.later (cw.o.drew))).mono ?_);rintro _ A ⟨⟨p,rfl,hp⟩,hA⟩;have cC:Below W2.heap.size W2 A:=((aj W2.heap.size W2).drew).trans hA;refine hK _ _ (fun _=>by rw[dp.o];exact cC) (fun _=>?_);clear hK K;refine bZ 6 rfl fun K hK=>?_;simp only[TQ.val];go_simp;refine hK _ _ (fun _=>by rw[dp.o];exact cC.trans (((aj _ A).alloc (aD _) _).mono cC.size)) (fun _=>?_);clear hK K;obtain ⟨qs,eE,aA,gL⟩:=fw.o.row;rw[ek.o]at eE aA;have oN:=cC.size;have sX:=fw.o.size;refine bZ 7 rfl fun K hK=>?_;refine bx (.tmp 52) (.tmp 57) 33 rfl W1.heap.size 43 p9 (.agg #[.bool false,.string ByteArray.empty,.slice none 0 0]) 3 48 Tryz.underlying33 hi zp wJ zY rfl (by decide) (.slice ra k rc) k _ rfl ((bi aA (fun b _ hlt=>cC.block b hlt)).alloc _) ⟨_,0,none⟩ 1 1 p.cells rfl rfl (dc (cs:=#[.bool p.v,.string p.n,.slice p.a p.l p.c]) (t:=43) (fr:=(0,0)) (fZ A _)) (by simp[TQ.cells,Value.oneCell']) (by decide) (by unfold maxLen;omega) (by omega) (by simp;omega) (A.heap.size+1) (by simp) ?_;intro g eF w4 aV aq hg eD;have h4:=fw.o.at4 (kk:=2) aA cC aq;have cR:=fw.o.stepT (F:=2) (t:=(cM kd.ts sc a[k])) (g:=g) (cap:=eF) (by rw[ek.o];exact aA) (by rw[ek.o];exact eE) gL cC (hp:TermV (W2.heap.size<=·) A p.val (cM kd.ts sc a[k])) (by rw[ek.o];exact aV) aq hg rfl;rw[ek.o,de (cM kd.ts sc) a dJ]at cR;have oO:=ac cR;have d3:=h4.2.2;have z3:=h4.2.1;clear aV aq hg eD cR h4 aA eE gL hp hA;refine eS hK ?_;clear hK K;refine bZ 8 rfl fun K hK=>?_;go_simp;refine eS hK ?_;clear hK K;refine bZ 9 rfl fun K hK=>?_;go_simp;refine eS hK ?_;clear hK K;refine kV ?_;gi_wp2;go_roundw
    case rel=>exact ⟨k+1,by omega,by go_num,_,oO.o⟩
    case measure=>simp[intOf];omega
   |clear hS f9 gZ xb;refine lH S 5 dU fun jC bN=>?_
    refine bC 0 29 (.pointer (some ⟨w.heap.size+1+1,2,none⟩)) rfl bN fun cr=>?_;simp only[ag];refine dh 1 30 (.slice ra k rc) rfl (fun V hX=>by have g0:=f0 V hX;go_simp) cr fun f_=>?_;simp only[ag];refine dh 2 31 (.agg #[.bool u.v,.string u.n,.slice u.a u.l u.c]) rfl (fun V hX=>by obtain ⟨g0,g1,g2⟩:=f1 V hX;go_simp) f_ fun gQ=>?_;simp only[ag];refine bZ 3 rfl fun K hK=>?_;go_simp;refine aK.2 ((fR.o a[k] (aw dJ) (nG.o.mem (aw dJ)) _ W2.drew u (HU.o.later (cw.o.drew))).mono ?_);rintro _ A ⟨p,rfl,hp,hA⟩;have cC:Below W2.heap.size W2 A:=((aj W2.heap.size W2).drew).trans hA;refine hK _ _ (fun _=>by rw[dp.o];exact cC) (fun _=>?_);clear hK K;refine bZ 4 rfl fun K hK=>?_;simp only[TQ.val];go_simp;refine hK _ _ (fun _=>by rw[dp.o];exact cC.trans (((aj _ A).alloc (aD _) _).mono cC.size)) (fun _=>?_);clear hK K;obtain ⟨qs,eE,aA,gL⟩:=fw.o.row;rw[ek.o]at eE aA;have oN:=cC.size;have sX:=fw.o.size;refine bZ 5 rfl fun K hK=>?_;refine bx (.tmp 30) (.tmp 33) 33 rfl W1.heap.size 43 p9 (.agg #[.bool false,.string ByteArray.empty,.slice none 0 0]) 3 48 Tryz.underlying33 hi zp wJ zY rfl (by decide) (.slice ra k rc) k _ rfl ((bi aA (fun b _ hlt=>cC.block b hlt)).alloc _) ⟨_,0,none⟩ 1 1 p.cells rfl rfl (dc (cs:=#[.bool p.v,.string p.n,.slice p.a p.l p.c]) (t:=43) (fr:=(0,0)) (fZ A _)) (by simp[TQ.cells,Value.oneCell']) (by decide) (by unfold maxLen;omega) (by omega) (by simp;omega) (A.heap.size+1) (by simp) ?_;intro g eF w4 aV aq hg eD;have h4:=fw.o.at4 (kk:=2) aA cC aq;have cR:=fw.o.stepT (F:=2) (t:=(aN a[k])) (g:=g) (cap:=eF) (by rw[ek.o];exact aA) (by rw[ek.o];exact eE) gL cC (hp:TermV (W2.heap.size<=·) A p.val (aN a[k])) (by rw[ek.o];exact aV) aq hg rfl;rw[ek.o,de aN a dJ]at cR;have oO:=ac cR;have d3:=h4.2.2;have z3:=h4.2.1;clear aV aq hg eD cR h4 aA eE gL hp hA;refine eS hK ?_;clear hK K;refine bZ 6 rfl fun K hK=>?_;go_simp;refine eS hK ?_;clear hK K;refine bZ 7 rfl fun K hK=>?_;go_simp;refine eS hK ?_;clear hK K;refine kV ?_;gi_wp2;go_roundw
    case rel=>exact ⟨k+1,by omega,by go_num,_,oO.o⟩
    case measure=>simp[intOf];omega
  |clear pp51b;have f0:∀ V,S V->V.cell? ⟨w3.heap.size+1,2,none⟩=some (.slice ra k rc):=fun V h=>by rw[hS]at h;exact aa h (gZ.cell 2)
   have f1:∀ V,S V->V.cell? ⟨wr.heap.size,0,none⟩=some (.bool u.v)/\V.cell? ⟨wr.heap.size,1,none⟩=some (.string u.n)/\V.cell? ⟨wr.heap.size,2,none⟩=some (.slice u.a u.l u.c):=fun V h=>by rw[hS]at h;exact ⟨aa h (ah xb 0),aa h (ah xb 1),aa h (ah xb 2)⟩
   have dU:S W2.drew:=by rw[hS];exact (aj _ _).drew
   obtain ⟨dp,cw,fw⟩:=cH hS f9 gZ;clear hS f9 gZ xb;refine lH S 6 dU fun jC bN=>?_;refine bC 0 34 (.pointer (some ⟨w3.heap.size+1,2,none⟩)) rfl bN fun cr=>?_;simp only[ag];refine dh 1 35 (.slice ra k rc) rfl (fun V hX=>by have g0:=f0 V hX;go_simp) cr fun f_=>?_;simp only[ag];refine dh 2 36 (.agg #[.bool u.v,.string u.n,.slice u.a u.l u.c]) rfl (fun V hX=>by obtain ⟨g0,g1,g2⟩:=f1 V hX;go_simp) f_ fun gQ=>?_;simp only[ag];refine bC 3 37 (.func (.func g) #[] lb) rfl gQ fun iK=>?_;simp only[ag];refine bZ 4 rfl fun K hK=>?_;go_simp;refine aK.2 ((fR.o a[k] (aw dJ) (nG.o.mem (aw dJ)) _ W2.drew u (((LI.o.tr cv.o).tr cw.o).tr (aj _ _).drew) (HU.o.later (cw.o.drew))).mono ?_);rintro _ A ⟨⟨p,rfl,hp⟩,hA⟩;have cC:Below W2.heap.size W2 A:=((aj W2.heap.size W2).drew).trans hA;refine hK _ _ (fun _=>by rw[dp.o];exact cC) (fun _=>?_);clear hK K;refine bZ 5 rfl fun K hK=>?_;simp only[TQ.val];have pp27d:=();exact pm27
  |clear pp51c;have f0:∀ V,S V->V.cell? ⟨w.heap.size+1+1,2,none⟩=some (.slice gh k1 gi):=fun V h=>by rw[hS]at h;exact aa h (gZ.cell 2)
   have f1:∀ V,S V->V.cell? ⟨hZ.heap.size,0,none⟩=some (.bool u.v)/\V.cell? ⟨hZ.heap.size,1,none⟩=some (.string u.n)/\V.cell? ⟨hZ.heap.size,2,none⟩=some (.slice u.a u.l u.c):=fun V h=>by rw[hS]at h;exact ⟨aa h (ah xb 0),aa h (ah xb 1),aa h (ah xb 2)⟩
   have dU:S W2.drew:=by rw[hS];exact (aj _ _).drew
   obtain ⟨dp,cw,fw⟩:=cH hS f9 gZ;clear hS f9 gZ xb;refine lH S 5 dU fun jC bN=>?_;refine bC 0 20 (.pointer (some ⟨w.heap.size+1+1,2,none⟩)) rfl bN fun cr=>?_;simp only[ag];refine dh 1 21 (.slice gh k1 gi) rfl (fun V hX=>by have g0:=f0 V hX;go_simp) cr fun f_=>?_;simp only[ag];refine dh 2 22 (.agg #[.bool u.v,.string u.n,.slice u.a u.l u.c]) rfl (fun V hX=>by obtain ⟨g0,g1,g2⟩:=f1 V hX;go_simp) f_ fun gQ=>?_;simp only[ag];refine bZ 3 rfl fun K hK=>?_;go_simp;refine aK.2 ((sA a[k1] (GM.o.mem (aw dJ)) _ W2.drew u (HU.o.later (cw.o.drew))).mono ?_);rintro _ A ⟨p,rfl,hp,hA⟩;have cC:Below W2.heap.size W2 A:=((aj W2.heap.size W2).drew).trans hA;refine hK _ _ (fun _=>by rw[dp.o];exact cC) (fun _=>?_);clear hK K;refine bZ 4 rfl fun K hK=>?_;simp only[TQ.val];have pp27e:=();exact pm27
  |clear pp51d;have f0:∀ V,S V->V.cell? ⟨w.heap.size+1+1+1,2,none⟩=some (.slice gh k1 gi):=fun V h=>by rw[hS]at h;exact aa h (gZ.cell 2)
   have f1:∀ V,S V->V.cell? ⟨Fe.heap.size,0,none⟩=some (.bool u.v)/\V.cell? ⟨Fe.heap.size,1,none⟩=some (.string u.n)/\V.cell? ⟨Fe.heap.size,2,none⟩=some (.slice u.a u.l u.c):=fun V h=>by rw[hS]at h;exact ⟨aa h (ah xb 0),aa h (ah xb 1),aa h (ah xb 2)⟩
   have xu:=gZ.other (by omega) HXU.o;have fu:∀ V,S V->V.cell? ⟨w.heap.size+1,0,none⟩=some (.bool zv)/\V.cell? ⟨w.heap.size+1,1,none⟩=some (.string zn)/\V.cell? ⟨w.heap.size+1,2,none⟩=some (.slice za zl zc):=fun V h=>by rw[hS]at h;exact ⟨aa h (ah xu 0),aa h (ah xu 1),aa h (ah xu 2)⟩
   clear xu;have dU:S W2.drew:=by rw[hS];exact (aj _ _).drew
   obtain ⟨dp,cw,fw⟩:=cH hS f9 gZ;clear hS f9 gZ xb;refine lH S 9 dU fun jC bN=>?_;refine bC 0 27 (.pointer (some ⟨w.heap.size+1+1+1,2,none⟩)) rfl bN fun cr=>?_;simp only[ag];refine dh 1 28 (.slice gh k1 gi) rfl (fun V hX=>by have g0:=f0 V hX;go_simp) cr fun f_=>?_;simp only[ag];refine dh 2 29 (.agg #[.bool u.v,.string u.n,.slice u.a u.l u.c]) rfl (fun V hX=>by obtain ⟨g0,g1,g2⟩:=f1 V hX;go_simp) f_ fun gQ=>?_;simp only[ag];refine bC 3 30 (.string ⟨nx.toArray⟩) rfl gQ fun iK=>?_;simp only[ag];refine dh 4 31 (.agg #[.bool zv,.string zn,.slice za zl zc]) rfl (fun V hX=>by obtain ⟨h0,h1,h2⟩:=fu V hX;go_simp) iK fun jF=>?_;simp only[ag];refine bC 5 32 (.agg #[.string ⟨nx.toArray⟩,.bool zv,.string zn,.slice za zl zc]) rfl jF fun j7=>?_;simp only[ag];refine bZ 6 rfl fun K hK=>?_;go_simp;refine hK _ _ (fun _=>by rw[dp.o];exact ((aj W2.heap.size W2).drew).alloc (aD _) _) (fun _=>?_);clear hK K;refine bZ 7 rfl fun K hK=>?_;go_simp;refine aK.2 ((Hj a[k1] (GM.o.mem (aw dJ)) nx LK.o z Pz.o.1 _ _ _ u ⟨zv,zn,za,zl,zc⟩ W2.heap.size 0 1 ((HU.o.later cw.o.drew).later cO) ((((HZ.o.later cv.o).later cw.o).later ((aj _ _).drew)).later cO) (ah (ai rfl) 0) (ah (ai rfl) 1) (ah (ai rfl) 2) (ah (ai rfl) 3)).mono ?_);rintro _ A ⟨⟨p,rfl,kZ⟩,hA⟩;have hp:TermV (W2.heap.size<=·) A p.val (le nx z a[k1]):=kZ.move (fun b hok _=>⟨by simp at hok;omega,rfl⟩);clear kZ;have cC:Below W2.heap.size W2 A:=(((aj W2.heap.size W2).drew).alloc (aD _) _).trans (hA.mono (by simp));refine hK _ _ (fun _=>by rw[dp.o];exact cC) (fun _=>?_);clear hK K;refine bZ 8 rfl fun K hK=>?_;simp only[TQ.val];have pp27g:=();exact pm27
  |clear pp51e;have f0:∀ V,S V->V.cell? ⟨w.heap.size+1+1,2,none⟩=some (.slice ra k1 rc):=fun V h=>by rw[hS]at h;exact aa h (gZ.cell 2)
   have f1:∀ V,S V->V.cell? ⟨Fe.heap.size,0,none⟩=some (.bool u.v)/\V.cell? ⟨Fe.heap.size,1,none⟩=some (.string u.n)/\V.cell? ⟨Fe.heap.size,2,none⟩=some (.slice u.a u.l u.c):=fun V h=>by rw[hS]at h;exact ⟨aa h (ah xb 0),aa h (ah xb 1),aa h (ah xb 2)⟩
   have dU:S W2.drew:=by rw[hS];exact (aj _ _).drew
   obtain ⟨dp,cw,fw⟩:=cH hS f9 gZ;clear hS f9 gZ xb;refine lH S 7 dU fun jC bN=>?_;refine bC 0 70 (.pointer (some ⟨w.heap.size+1+1,2,none⟩)) rfl bN fun Q5=>?_;simp only[ag];refine dh 1 71 (.slice ra k1 rc) rfl (fun V hX=>by have g0:=f0 V hX;go_simp) Q5 fun Q6=>?_;simp only[ag];refine bC 2 72 (.pointer (some ⟨kb,0,none⟩)) rfl Q6 fun KK=>?_;simp only[ag];refine dh 3 73 (.agg #[.bool u.v,.string u.n,.slice u.a u.l u.c]) rfl (fun V hX=>by obtain ⟨g0,g1,g2⟩:=f1 V hX;go_simp) KK fun Q7=>?_;simp only[ag];refine bC 4 74 (vL) rfl Q7 fun XV=>?_;simp only[ag];refine bZ 5 rfl fun K hK=>?_;go_simp;refine aK.2 ((HFT.o a[k1] (za1.o _ (aw dJ)) _ W2.drew u ((cv.o.tr cw.o).tr (aj _ _).drew) (HU.o.later (cw.o.drew))).mono ?_);rintro _ A ⟨⟨p,rfl,hp⟩,hA⟩;have cC:Below W2.heap.size W2 A:=((aj W2.heap.size W2).drew).trans hA;refine hK _ _ (fun _=>by rw[dp.o];exact cC) (fun _=>?_);clear hK K;refine bZ 6 rfl fun K hK=>?_;simp only[TQ.val];have pp27b:=();exact pm27
  |have f0:∀ V,S V->V.cell? ⟨w3.heap.size,2,none⟩=some (.slice ra k rc):=fun V h=>by rw[hS]at h;exact aa h (gZ.cell 2)
   have f1:∀ V,S V->V.cell? ⟨wr.heap.size,0,none⟩=some (.bool u.v)/\V.cell? ⟨wr.heap.size,1,none⟩=some (.string u.n)/\V.cell? ⟨wr.heap.size,2,none⟩=some (.slice u.a u.l u.c):=fun V h=>by rw[hS]at h;exact ⟨aa h (ah xb 0),aa h (ah xb 1),aa h (ah xb 2)⟩
   have dU:S W2.drew:=by rw[hS];exact (aj _ _).drew
   obtain ⟨dp,cw,fw⟩:=cH hS f9 gZ;clear hS f9 gZ xb;refine lH S 7 dU fun jC bN=>?_;refine bC 0 51 (.pointer (some ⟨w3.heap.size,2,none⟩)) rfl bN fun cr=>?_;simp only[ag];refine dh 1 52 (.slice ra k rc) rfl (fun V hX=>by have g0:=f0 V hX;go_simp) cr fun f_=>?_;simp only[ag];refine bC 2 53 (.pointer (some ⟨kb,0,none⟩)) rfl f_ fun gQ=>?_;simp only[ag];refine dh 3 54 (.agg #[.bool u.v,.string u.n,.slice u.a u.l u.c]) rfl (fun V hX=>by obtain ⟨g0,g1,g2⟩:=f1 V hX;go_simp) gQ fun iK=>?_;simp only[ag];refine bC 4 55 vL rfl iK fun jF=>?_;simp only[ag];refine bZ 5 rfl fun K hK=>?_;go_simp;refine aK.2 ((fR.o a[k] (aw dJ) (nG.o.mem (aw dJ)) _ W2.drew u (((LI.o.tr cv.o).tr cw.o).tr (aj _ _).drew) (HU.o.later (cw.o.drew))).mono ?_);rintro _ A ⟨⟨p,rfl,hp⟩,hA⟩;have cC:Below W2.heap.size W2 A:=((aj W2.heap.size W2).drew).trans hA;refine hK _ _ (fun _=>by rw[dp.o];exact cC) (fun _=>?_);clear hK K;refine bZ 6 rfl fun K hK=>?_;simp only[TQ.val];have pp27a:=();exact pm27
 |clear pp154c;have ff:∀ V,S V->V.cell? ⟨kb,0,none⟩=some (.map (some mF))/\V.cell? ⟨w.heap.size+1,1,none⟩=some (.string ⟨n.toArray⟩)/\(Instr.lookup 145 (.map (some mF)) (.string ⟨n.toArray⟩) false).run Tryz.prog V=.ok (.agg #[.int .u8 g0,.string g1,.slice g2 g3 g4,.slice g5 g6 g7]) V:=fun V h=>by
   rw[hS]at h;exact ⟨aa h (ah H2.o.2.2.box 0),aa h e1,wl V (h.block _ wn)⟩
  have dU:S W2.drew:=by rw[hS];exact (aj _ _).drew
  first
  |clear pp79;have HC:=ac (fun (V:World) (h:Below W2.heap.size W2 V)=>kO f vk.o.2.1 _ V ⟨g0,g1,g2,g3,g4,g5,g6,g7⟩ (vk.o.1.later h));simp only[FQ.val,<-hm]at HC;have dp:=ac hS;clear hS hm hE wl wn e0 e1 e2 e3;go_enter Tryz.func126,Tryz.ntmps126;go_upto_region 2 with fail;rw[<-fp.o];have e0:=ah H2.o.2.1 0;go_upto_region 4 with fail;clear e0;refine (wpIn_wide (n:=3)).1 ?_;refine lH S 8 dU fun jC bN=>?_;refine bC 0 19 (.pointer (some ⟨kb,0,none⟩)) rfl bN fun cr=>?_;simp only[ag];refine bC 1 20 (.pointer (some ⟨kb,0,none⟩)) rfl cr fun f_=>?_;simp only[ag];refine bC 2 21 (.pointer (some ⟨kb,0,none⟩)) rfl f_ fun gQ=>?_;simp only[ag];refine dh 3 22 (.map (some mF)) rfl (fun V hX=>by obtain ⟨h0,h1,h2⟩:=ff V hX;go_simp) gQ fun iK=>?_;simp only[ag];refine bC 4 23 (.pointer (some ⟨w.heap.size+1,1,none⟩)) rfl iK fun jF=>?_;simp only[ag];refine dh 5 24 (.string ⟨n.toArray⟩) rfl (fun V hX=>by obtain ⟨h0,h1,h2⟩:=ff V hX;go_simp) jF fun j7=>?_;simp only[ag];refine dh 6 25 (.agg #[.int .u8 g0,.string g1,.slice g2 g3 g4,.slice g5 g6 g7]) rfl (fun V hX=>by obtain ⟨h0,h1,h2⟩:=ff V hX;go_simp) j7 fun mi=>?_;simp only[ag];refine bZ 7 rfl fun K hK=>?_;go_simp;refine aK.2 ((HC.o _ (by have h:=bN;rw[dp.o]at h;exact h)).mono ?_);rintro e w7 ⟨rfl,fW⟩;have H7:=ac (((aj W2.heap.size W2).drew).trans fW);refine hK _ _ (fun _=>by rw[dp.o];exact H7.o) (fun _=>?_);clear hK K fW;refine bZ 8 rfl fun K hK=>?_;go_simp;refine eS hK ?_;clear hK K;refine kV ?_;clear ff dU bN cr f_ gQ iK jF j7 mi jC;go_wp2;go_ret;exact ⟨by rw[rJ.o];rfl,H2.o.1.tr H7.o⟩
  |have HC:=ac (fun (V:World) (h:Below W2.heap.size W2 V)=>uP f vk.o.2.1 (by have:=vk.o.2.2;omega) _ V ⟨g0,g1,g2,g3,g4,g5,g6,g7⟩ (vk.o.1.later h));simp only[FQ.val,<-hm]at HC;have dp:=ac hS;clear hS hm hE wl wn e0 e1 e2 e3;go_enter Tryz.func195,Tryz.ntmps195;go_upto_region 2 with fail;rw[<-fp.o];have e0:=ah H2.o.2.1 0;go_upto_region 4 with fail;clear e0;refine (wpIn_wide (n:=3)).1 ?_;refine lH S 9 dU fun jC bN=>?_;refine bC 0 18 (.pointer (some ⟨kb,0,none⟩)) rfl bN fun cr=>?_;simp only[ag];refine bC 1 19 (.pointer (some ⟨kb,0,none⟩)) rfl cr fun f_=>?_;simp only[ag];refine bC 2 20 (.pointer (some ⟨kb,0,none⟩)) rfl f_ fun gQ=>?_;simp only[ag];refine dh 3 21 (.map (some mF)) rfl (fun V hX=>by obtain ⟨h0,h1,h2⟩:=ff V hX;go_simp) gQ fun iK=>?_;simp only[ag];refine bC 4 22 (.pointer (some ⟨w.heap.size+1,1,none⟩)) rfl iK fun jF=>?_;simp only[ag];refine dh 5 23 (.string ⟨n.toArray⟩) rfl (fun V hX=>by obtain ⟨h0,h1,h2⟩:=ff V hX;go_simp) jF fun j7=>?_;simp only[ag];refine dh 6 24 (.agg #[.int .u8 g0,.string g1,.slice g2 g3 g4,.slice g5 g6 g7]) rfl (fun V hX=>by obtain ⟨h0,h1,h2⟩:=ff V hX;go_simp) j7 fun mi=>?_;simp only[ag];refine bZ 7 rfl fun K hK=>?_;go_simp;refine aK.2 ((HC.o _ (by have h:=bN;rw[dp.o]at h;exact h)).mono ?_);rintro e w7 ⟨⟨v7,rfl,M7⟩,fW⟩;have H7:=ac (((aj W2.heap.size W2).drew).trans fW);have Wc:=ac (rM m HM.o.2 HM.o.1 _ w7 v7 M7.1);refine hK _ _ (fun _=>by rw[dp.o];exact H7.o) (fun _=>?_);clear hK K fW M7;refine bZ 8 rfl fun K hK=>?_;go_simp;refine aK.2 (Wc.o.mono ?_);rintro e w8 ⟨⟨v8,rfl,Ho⟩,U3⟩;have ic:Below W2.heap.size W2 w8:=lk (w:=W2) H7.o U3;have H8:=aG ic Ho;refine hK _ _ (fun _=>by rw[dp.o];exact H8.o.1) (fun _=>?_);clear hK K U3 ic Ho;refine bZ 9 rfl fun K hK=>?_;go_simp;refine eS hK ?_;clear hK K;refine kV ?_;clear ff dU bN cr f_ gQ iK jF j7 mi jC;go_wp2;go_ret;exact ⟨⟨_,rfl,by rw[rJ.o];exact H8.o.2.base H2.o.1.size⟩,H2.o.1.tr H8.o.1⟩
 |clear pp154d
  first
  |clear pp105;have f0:∀ V,S V->V.cell? ⟨w.heap.size+1+1+1,3,none⟩=some (.slice ra k rc):=fun V h=>by rw[hS]at h;exact aa h (gZ.cell 3)
   have f1:∀ V,S V->V.cell? ⟨wr.heap.size,0,none⟩=some (.int .u8 u.o)/\V.cell? ⟨wr.heap.size,1,none⟩=some (.string u.n)/\V.cell? ⟨wr.heap.size,2,none⟩=some (.slice u.a u.l u.c)/\V.cell? ⟨wr.heap.size,3,none⟩=some (.slice u.b u.m u.e):=fun V h=>by rw[hS]at h;exact ⟨aa h (ah xb 0),aa h (ah xb 1),aa h (ah xb 2),aa h (ah xb 3)⟩
   have xu:=gZ.other (by omega) zcr.o;have fu:∀ V,S V->V.cell? ⟨w.heap.size+1,0,none⟩=some (.bool zv)/\V.cell? ⟨w.heap.size+1,1,none⟩=some (.string zn)/\V.cell? ⟨w.heap.size+1,2,none⟩=some (.slice za zl zc):=fun V h=>by rw[hS]at h;exact ⟨aa h (ah xu 0),aa h (ah xu 1),aa h (ah xu 2)⟩
   clear xu;have dU:S W2.drew:=by rw[hS];exact (aj _ _).drew
   obtain ⟨dp,cw,fw⟩:=cH hS f9 gZ;clear hS f9 gZ xb;refine lH S 7 dU fun jC bN=>?_;refine bC 0 94 (.pointer (some ⟨w.heap.size+1+1+1,3,none⟩)) rfl bN fun cr=>?_;simp only[ag];refine dh 1 95 (.slice ra k rc) rfl (fun V hX=>by have g0:=f0 V hX;go_simp) cr fun f_=>?_;simp only[ag];refine dh 2 96 (.agg #[.int .u8 u.o,.string u.n,.slice u.a u.l u.c,.slice u.b u.m u.e]) rfl (fun V hX=>by obtain ⟨g0,g1,g2,g3⟩:=f1 V hX;go_simp) f_ fun gQ=>?_;simp only[ag];refine bC 3 97 (.string ⟨nx.toArray⟩) rfl gQ fun iK=>?_;simp only[ag];refine dh 4 98 (.agg #[.bool zv,.string zn,.slice za zl zc]) rfl (fun V hX=>by obtain ⟨h0,h1,h2⟩:=fu V hX;go_simp) iK fun jF=>?_;simp only[ag];refine bZ 5 rfl fun K hK=>?_;go_simp;refine aK.2 ((fR.o W0 s[k] nx z (zZ.o.mem (aw dJ)) (HS4.o _ (aw dJ)).1 (HS4.o _ (aw dJ)).2.1 (HS4.o _ (aw dJ)).2.2.1 (HS4.o _ (aw dJ)).2.2.2 LK.o Pz.o.1 Pz.o.2 _ _ W2.drew u ⟨zv,zn,za,zl,zc⟩ (PA.o.next ((cv.o.tr cw.o).tr ((aj _ _).drew))) (HU.o.later (cw.o.drew)) (((HZ.o.later cv.o).later cw.o).later ((aj _ _).drew))).mono ?_);rintro _ A ⟨⟨p,rfl,hp⟩,hA⟩;have cC:Below W2.heap.size W2 A:=((aj W2.heap.size W2).drew).trans hA;refine hK _ _ (fun _=>by rw[dp.o];exact cC) (fun _=>?_);clear hK K;refine bZ 6 rfl fun K hK=>?_;simp only[FQ.val];exact pm27
  |have f0:∀ V,S V->V.cell? ⟨w.heap.size+1+1,3,none⟩=some (.slice ra k rc):=fun V h=>by rw[hS]at h;exact aa h (gZ.cell 3)
   have f1:∀ V,S V->V.cell? ⟨wr.heap.size,0,none⟩=some (.int .u8 u.o)/\V.cell? ⟨wr.heap.size,1,none⟩=some (.string u.n)/\V.cell? ⟨wr.heap.size,2,none⟩=some (.slice u.a u.l u.c)/\V.cell? ⟨wr.heap.size,3,none⟩=some (.slice u.b u.m u.e):=fun V h=>by rw[hS]at h;exact ⟨aa h (ah xb 0),aa h (ah xb 1),aa h (ah xb 2),aa h (ah xb 3)⟩
   have dU:S W2.drew:=by rw[hS];exact (aj _ _).drew
   obtain ⟨dp,cw,fw⟩:=cH hS f9 gZ
   first
   |clear pp43;clear hS f9 gZ xb;refine lH S 5 dU fun jC bN=>?_
    refine bC 0 35 (.pointer (some ⟨w.heap.size+1+1,3,none⟩)) rfl bN fun cr=>?_;simp only[ag];refine dh 1 36 (.slice ra k rc) rfl (fun V hX=>by have g0:=f0 V hX;go_simp) cr fun f_=>?_;simp only[ag];refine dh 2 37 (.agg #[.int .u8 u.o,.string u.n,.slice u.a u.l u.c,.slice u.b u.m u.e]) rfl (fun V hX=>by obtain ⟨g0,g1,g2,g3⟩:=f1 V hX;go_simp) f_ fun gQ=>?_;simp only[ag];refine bZ 3 rfl fun K hK=>?_;go_simp;refine aK.2 ((fR.o s[k] (aw dJ) (zZ.o.mem (aw dJ)) _ W2.drew u (HU.o.later (cw.o.drew))).mono ?_);rintro _ A ⟨p,rfl,hp,hA⟩;have cC:Below W2.heap.size W2 A:=((aj W2.heap.size W2).drew).trans hA;refine hK _ _ (fun _=>by rw[dp.o];exact cC) (fun _=>?_);clear hK K;refine bZ 4 rfl fun K hK=>?_;simp only[FQ.val];have pp27f:=();exact pm27
   |clear hS f9 gZ xb;refine lH S 7 dU fun jC bN=>?_
    refine bC 0 125 (.pointer (some ⟨w.heap.size+1+1,3,none⟩)) rfl bN fun Q5=>?_;simp only[ag];refine dh 1 126 (.slice ra k rc) rfl (fun V hX=>by have g0:=f0 V hX;go_simp) Q5 fun Q6=>?_;simp only[ag];refine bC 2 127 (.pointer (some ⟨kb,0,none⟩)) rfl Q6 fun KK=>?_;simp only[ag];refine dh 3 128 (.agg #[.int .u8 u.o,.string u.n,.slice u.a u.l u.c,.slice u.b u.m u.e]) rfl (fun V hX=>by obtain ⟨g0,g1,g2,g3⟩:=f1 V hX;go_simp) KK fun Q7=>?_;simp only[ag];refine bC 4 129 (vL) rfl Q7 fun XV=>?_;simp only[ag];refine bZ 5 rfl fun K hK=>?_;go_simp;refine aK.2 ((fR.o ss[k] (aw dJ) c L _ W2.drew vL u (HL.o.2.2.2.tr ((cv.o.tr cw.o).tr (aj _ _).drew)) (HL.o.1.later ((cv.o.tr cw.o).tr (aj _ _).drew)) (by have:=jM (aw dJ);have:=HL.o.2.1;simp only[nodesF]at this;omega) HL.o.2.2.1 (HU.o.later (cw.o.drew))).mono ?_);rintro _ A ⟨⟨p,rfl,hp⟩,hA⟩;have cC:Below W2.heap.size W2 A:=((aj W2.heap.size W2).drew).trans hA;refine hK _ _ (fun _=>by rw[dp.o];exact cC) (fun _=>?_);clear hK K;refine bZ 6 rfl fun K hK=>?_;simp only[FQ.val];have pp27c:=();exact pm27
 |have ft:∀ V,S V->V.cell? ⟨w4.heap.size,0,none⟩=some (.int .u8 go)/\V.cell? ⟨w4.heap.size,1,none⟩=some (.string gn)/\V.cell? ⟨w4.heap.size,2,none⟩=some (.slice ga gl gc)/\V.cell? ⟨w4.heap.size,3,none⟩=some (.slice gb gm ge):=fun V h=>by rw[hS]at h;exact ⟨aa h (ah Wz.o 0),aa h (ah Wz.o 1),aa h (ah Wz.o 2),aa h (ah Wz.o 3)⟩
  have fn0:∀ V,S V->V.cell? ⟨w.heap.size,1,none⟩=some (.string ⟨n.toArray⟩):=fun V h=>by rw[hS]at h;exact aa h (ah M0.o.b0 1)
  have fm:∀ V,S V->V.cell? ⟨w.heap.size+1+1+1,1,none⟩=some (.string ⟨m.toArray⟩):=fun V h=>by rw[hS]at h;exact aa h (ah M0.o.b2 1)
  have dU:S W2.drew:=by rw[hS];exact (aj _ _).drew
  have dp:=ac hS;clear hS;refine lH S 7 dU fun jC bN=>?_;refine dh 0 73 (.agg #[.int .u8 go,.string gn,.slice ga gl gc,.slice gb gm ge]) rfl (fun V hX=>by obtain ⟨g0,g1,g2,g3⟩:=ft V hX;go_simp) bN fun cr=>?_;simp only[ag];refine bC 1 74 (.pointer (some ⟨w.heap.size,1,none⟩)) rfl cr fun f_=>?_;simp only[ag];refine dh 2 75 (.string ⟨n.toArray⟩) rfl (fun V hX=>by have g0:=fn0 V hX;go_simp) f_ fun gQ=>?_;simp only[ag];refine bC 3 76 (.pointer (some ⟨w.heap.size+1+1+1,1,none⟩)) rfl gQ fun iK=>?_;simp only[ag];refine dh 4 77 (.string ⟨m.toArray⟩) rfl (fun V hX=>by have g0:=fm V hX;go_simp) iK fun jF=>?_;simp only[ag];refine bZ 5 rfl fun K hK=>?_;go_simp;refine aK.2 ((gK m _).mono ?_);rintro _ A1 ⟨rfl,Gs⟩;have cC:Below W2.heap.size W2 A1:=((aj W2.heap.size W2).drew).trans Gs;refine hK _ _ (fun _=>by rw[dp.o];exact cC) (fun _=>?_);clear hK K;refine bZ 6 rfl fun K hK=>?_;go_simp;have WA:=M0.o.later cC;refine aK.2 ((fR.o W0 g n (ao m) nU.o.2.2.2.2 nU.o.1 nU.o.2.1 nU.o.2.2.1 nU.o.2.2.2.1 mw ⟨by simp[ao,nodesT,nodesTs],wV HM.o.2.1⟩ (by simp[ao,nodesT,nodesTs]) _ (fun _=>True) A1 ⟨go,gn,ga,gl,gc,gb,gm,ge⟩ ⟨true,⟨m.toArray⟩,none,0,0⟩ (PA.o.next WA.below) (HG.o.later WA.below) (aP.2 ⟨_,rfl,cq⟩)).mono ?_);rintro _ A ⟨⟨⟨ho,ti,ha,hl,hc,hb,hm,he⟩,rfl,hp⟩,hA⟩;have SG:=cC.tr hA;refine hK _ _ (fun _=>by rw[dp.o];exact SG) (fun _=>?_);clear hK K;have tB:A.heap[w4.heap.size]?=some (.cells #[.int .u8 go,.string gn,.slice ga gl gc,.slice gb gm ge] 36 (0,0)):=bJ SG Wz.o;have mK:=eP kk g n m nU.o.2.1 nU.o.2.2.1 nU.o.2.2.2.1;obtain ⟨G2,hG2⟩:=am (eW kk n (ao m) g);have UH:ls 2000000 G2=true:=by rw[hG2];exact o6 kk g n (ao m) nU.o.2.1 nU.o.2.2.1 nU.o.2.2.2.1 (by have:=nU.o.1;simp[ao,nodesT,nodesTs];omega) nU.o.2.2.2.2.2 (wV HM.o.2.1)
  rw[<-hG2]at mK hp;have HG2:Hd (fitF G2/\nodesF G2<=100000/\gS G2=true/\qone G2=true/\depthF G2<=kk):=ac ⟨⟨by have:=nU.o.1;omega,UH⟩,by have:=nU.o.1;omega,mK.1,mK.2.1,by have:=nU.o.2.2.2.1;omega⟩;have wX:Hd (RS=.mk qo m [] [eW kk nx z G2]):=ac (by rw[wX.o,hG2]);have j8:w.heap.size+3<w4.heap.size:=Hn.o.lt;have oN:=cC.size;have zcA:=(bz Wz.o);have WC:=dL (W:=A) (b:=w4.heap.size) (v0:=.int .u8 ho) (v1:=.string ti) (v2:=.slice ha hl hc) (v3:=.slice hb hm he);have WD:=lA (v0:=.int .u8 ho) (v1:=.string ti) (v2:=.slice ha hl hc) (v3:=.slice hb hm he) tB;obtain ⟨s0,s1,s2,s3⟩:=m5 tB;have zs0:=ae tB 0;have zs1:=ae tB 1;have zs2:=ae tB 2;have zs3:=ae tB 3;have UI:=(M0.o.later SG).keep WC.os WC.tape WC.output WC.size (fun b bB=>WC.same b (by have:=(M0.o.later SG).lt;omega) (by omega));have zap:=hp.move (ok':=fun _=>True) (fun b hok hlt=>⟨trivial,WC.same b hlt (by omega)⟩);obtain ⟨uR,zaq,zar⟩:=cH UI WD zap;clear mK hG2 UH j8 oN zcA WC WD tB UI zap hp hA Gs cC SG WA;refine bZ 7 rfl fun K hK=>?_;simp only[FQ.val];go_simp;refine eS hK ?_;clear hK K;refine kV ?_;obtain ⟨mL,Hp⟩:=am ((((A.setCell ⟨w4.heap.size,0,none⟩ (.int .u8 ho)).setCell ⟨w4.heap.size,1,none⟩ (.string ti)).setCell ⟨w4.heap.size,2,none⟩ (.slice ha hl hc)).setCell ⟨w4.heap.size,3,none⟩ (.slice hb hm he));rw[<-Hp]at uR zaq zar ⊢;clear Hp s0 s1 s2 s3 zs0 zs1 zs2 zs3 ft fn0 fm dU dp bN cr f_ gQ iK jF jC;have CP:=fR.o W0 G2 nx z HG2.o.1 HG2.o.2.1 HG2.o.2.2.1 HG2.o.2.2.2.1 HG2.o.2.2.2.2 LK.o Pz.o.1 Pz.o.2 _ _ mL ⟨ho,ti,ha,hl,hc,hb,hm,he⟩ ⟨zv,zn,za,zl,zc⟩ (PA.o.next uR.o.below) zar.o (HZ.o.later uR.o.below);simp only[FQ.val,TQ.val]at CP;have J5:=ac CP;obtain ⟨tu0,tu1,tu2⟩:=lQ uR.o.bu;obtain ⟨tt0,tt1,tt2,tt3⟩:=m5 zaq.o;clear CP;gi_wp2_with fail;refine aK.2 (J5.o.mono ?_);rintro e w8 ⟨⟨⟨po,pn,pa,pl,pc,pb,pm,pe⟩,rfl,UE⟩,ic⟩;clear tu0 tu1 tu2 tt0 tt1 tt2 tt3;have Wu:=ic.size;have hwX:=uR.o.below.size;have l7:Below w8.heap.size w8 (w8.alloc (.cells #[.int .u8 po,.string pn,.slice pa pl pc,.slice pb pm pe] 36)):=cO;have uQ:=(uR.o.later ic).later l7;exact pm86):G:=h
theorem pm155(h:G:=by
 clear hK K;have HH:=ac PO;clear PO;refine bZ 16 rfl fun K hK=>?_;go_simp;refine eS hK ?_;clear hK K;refine kV ?_;gi_wp2;go_ret;obtain ⟨Fp,h1,h2,h3⟩:=HH.o;exact .inr ⟨rfl,Fp,h1,h2,((AO.o.2.trans kL.o.2).from _).trans h3⟩):G:=h
theorem pm156(h:G:=by
 go_wp2_with (go_at_call 191;refine (CP.o _).mono ?_;rintro e w' ⟨rfl,rfl⟩);go_ret;exact ⟨rfl,aj _ _⟩):G:=h
theorem pm157(h:G:=by
 simp only[PlQ.val,PlQ.cells];go_enter Tryz.func48,Tryz.ntmps48
 first
 |clear pp157a;go_wp2;rw[<-jj.o];go_region
  all_goals
   rw[<-a_];clear a_;go_wp2;go_ret;exact StepPost.bad HE.o (by decide) (Kp.below cw.o)
 |clear pp157b;go_wp2;rw[<-jj.o];go_cut [5,6] from 17 to 27 (fun s5 s6 wx=>s5=.pointer (some ⟨W1.heap.size,0,none⟩)/\s6=.bool true/\wx=W2)
  case first=>
   go_region
   all_goals
    rw[<-a_];go_wp2_with fail;go_meet;exact ⟨rfl,rfl,rfl⟩
  case rest=>
  obtain ⟨h5,h6,hw⟩:=hcut;rw[h5,h6,hw];clear h5 h6 hw wc a_ l1 l2 g0 g1 g3 g4 g5 P0 P1 P2 P3 P4 P5 P6 P7 P8;obtain ⟨P0,P1,P2,P3,P4,P5,P6,P7⟩:=CU H2.o.2.2.2;have P8:=ah H2.o.2.2.2 8;obtain ⟨e0,e1,e2,e3,_,_,_,_⟩:=dy H2.o.2.2.1
  cases I with
  | none=>
   have HE:=ac (show R=(k,70) from KF.o);exact pm169
  | some im=>
  have Xj:=ac (show R=if fG di f=0 then (if cP [] f im=true then (k,0) else (k,70))
   else match (match getB k.ts y with | some t=>some (t,k.ts) | none=>(ie f im di).map fun t=>(t,fS y t k.ts)) with
    | none=>(k,70)
    | some (t,ts)=>if (nodesF f+fG di f * (nodesT t - 1) != nodesF im)=true then ({ k with ts:=ts },70)
     else if cP [] (fH di t f) im=true then ({ k with ts:=ts },0) else ({ k with ts:=ts },70) from KF.o)
  have Nj:=ac (fun (V:World) (h:Below W2.heap.size W2 V)=>jx di f zk.o.1.fit _ V ⟨Fw,Fx,Fy,Fz,FA,FB,FC,FD⟩ (zk.o.2.later h));simp only[FQ.val]at Nj;obtain ⟨n0,ti⟩:=am (fG di f);rw[<-ti]at Xj Nj;have HN0:=ac ti;clear ti KF;have d16:(16:Int)=16:=rfl;clear d16;go_upto_region 9 with (go_at_call 91;refine HC.o.mono ?_;rintro e w4 ⟨⟨⟨p0,p1,p2,p3,p4,p5,p6,p7⟩,rfl,hp⟩,aO⟩;have H4:=aG (hp _ rfl) aO;clear hp aO;simp only[Option.isSome]);obtain ⟨W5,fv⟩:=am (w4.alloc (.cells #[.int .u8 p0,.string p1,.slice p2 p3 p4,.slice p5 p6 p7] 36));rw[<-fv];have pW:=cV fv;have FJ:Below W2.heap.size W2 W5:=H4.o.2.tr pW;have x5:=bU fv;have Ib:FormV (fun b=>¬M b/\b≠W1.heap.size) W5 (FQ.val ⟨p0,p1,p2,p3,p4,p5,p6,p7⟩) im:=H4.o.1.move (fun b hb hlt=>⟨⟨fun hm=>by have:=HG.o.2.2.2.2 b hm;have:=H2.o.2.1.size;omega,by have:=yN.o.2.2.2.1;omega⟩,pW.block b hlt⟩);have Zi:=UJ.o im rfl;have H5:=cG FJ x5 Ib Zi;have HT7:=ac (show W1.heap.size≠w4.heap.size by have:=yN.o.2.2.2.1;have:=H4.o.2.size;omega);have sJ:=ac fv;clear P0 P1 P2 P3 P4 P5 P6 P7 P8 e0 e1 e2 e3 pW FJ x5 Ib Zi fv;have zaS:=bJ H5.o.1 H2.o.2.2.2;obtain ⟨P0,P1,P2,P3⟩:=m5 zaS;have zcT:=ac (HIN.o W5 (H2.o.1.tr H5.o.1));go_upto_region 10 with (go_at_call 96;refine zcT.o.mono ?_;rintro e w6 ⟨rfl,da⟩;have H6:=ac da;clear da);clear P0 P1 P2 P3 zaS;have Xk:Below W2.heap.size W2 w6:=H5.o.1.tr H6.o;have x26:=bJ Xk H2.o.2.2.1;obtain ⟨e0,e1,e2,e3,_,_,_,_⟩:=dy x26;have zcU:=ac (Nj.o w6 Xk);clear Xk x26;go_upto_region 11 with (go_at_call 97;refine zcU.o.mono ?_;rintro e w7 ⟨rfl,fW⟩;have H7:=ac fW;clear fW);clear e0 e1 e2 e3;have QE:Below W2.heap.size W2 w7:=(H5.o.1.tr H6.o).tr H7.o;have KG:Below W5.heap.size W5 w7:=H6.o.tr H7.o;have x27:=bJ QE H2.o.2.2.1;have x57:=bJ KG H5.o.2.1;obtain ⟨e0,e1,e2,e3,z0,z1,z2,z3⟩:=dy x27;obtain ⟨f0,f1,f2,f3,_,_,_,_⟩:=dy x57;have IE:=cG QE x27 x57 (H5.o.2.2.1.later KG);have UW:=ac (Z8.o.later QE);have Tg:=ac (zk.o.2.later QE);clear QE KG x27 x57
  by_cases h0:n0=0
  ·subst h0;obtain ⟨bb,cQ⟩:=am (cP [] f im);have hE:=Xj.o;rw[au rfl,<-cQ]at hE;have HE:=ac hE;have CA:=vd f im [] (.slice none 0 0) _ _ w7 ⟨Fw,Fx,Fy,Fz,FA,FB,FC,FD⟩ ⟨p0,p1,p2,p3,p4,p5,p6,p7⟩ (by have:=zk.o.1.nodes;simp[eq];omega) zk.o.1.fit Tg.o IE.o.2.2.2 (PairsV.nil w7);simp only[FQ.val,List.reverse_nil,<-cQ]at CA;have FE:=ac CA;clear hE CA cQ;cases bb
   ·go_wp2_with (go_at_call 92;refine FE.o.mono ?_;rintro e w8 ⟨rfl,ic⟩;have H8:=ac ic;clear ic);go_ret;exact StepPost.bad HE.o (by decide) (Kp.below (H2.o.2.1.tr (IE.o.1.tr H8.o)))
   ·go_wp2_with (go_at_call 92;refine FE.o.mono ?_;rintro e w8 ⟨rfl,ic⟩;have H8:=ac ic;clear ic);go_ret;exact StepPost.good nF nT HE.o (Kp.below (H2.o.2.1.tr (IE.o.1.tr H8.o))) (by omega) (by omega) ((UW.o.later H8.o).move (fun b hb _=>⟨hb.1,rfl⟩) rfl rfl rfl)
  have Th:=Xj.o;rw[ak h0]at Th;have pT:=ac (show n0<=400/\0<n0 by have:=zk.o.1.nodes;have:=pg di f;have:=HN0.o;omega);have om:(0:Int)<(n0:Int):=by omega
  have zd3:=HF.o.2.2.1;have k0:w7.cell? ⟨kb,1,none⟩=some (.map (some mT)):=ah UW.o.box 1;clear h0;rcases UW.o.ts.look Tryz.underlying9 Tryz.underlying146 jT (x:=y) (by omega) with ⟨hg,hlk⟩ | ⟨t,vt,hg,hvt,hlk⟩
  ·have l1:=(hlk w7 rfl).1;clear hlk;go_upto_region 14 with fail;clear k0 l1 om e0 e1 e2 e3 z0 z1 z2 z3 f0 f1 f2 f3;obtain ⟨W8,l8⟩:=am (w7.alloc (.cells #[.bool false,.string ⟨#[]⟩,.slice none 0 0] 43));rw[<-l8];have tP:=cV l8;have x8:=bU l8;have Zn:=bJ tP IE.o.2.1;have Zo:=bJ tP IE.o.2.2.1;obtain ⟨e0,e1,e2,e3,_,_,_,_⟩:=dy Zn;obtain ⟨f0,f1,f2,f3,_,_,_,_⟩:=dy Zo;have CF:=M4 f im di zk.o.1.fit H5.o.2.2.2.fit (NE f (by have:=HN0.o;have:=pT.o;omega)) (fun b=>(¬M b/\b≠W1.heap.size)/\b<w7.heap.size) W8 ⟨Fw,Fx,Fy,Fz,FA,FB,FC,FD⟩ ⟨p0,p1,p2,p3,p4,p5,p6,p7⟩ (Tg.o.move (fun b hb hlt=>⟨⟨hb,hlt⟩,tP.block b hlt⟩)) (IE.o.2.2.2.move (fun b hb hlt=>⟨⟨hb,hlt⟩,tP.block b hlt⟩));obtain ⟨FS,hFS⟩:=am (ie f im di);rw[hg,<-hFS]at Th;rw[<-hFS]at CF;simp only[FQ.val]at CF;have Gt:=ac CF;have H8:=cG tP x8 Zn Zo;obtain ⟨HG0,HFS⟩:=aW hg hFS;clear CF l8 tP x8 Zn Zo hg hFS
   cases FS with
   | none=>
    have HE:=ac (show R=(k,70) from Th);clear Th;go_wp2_with (go_at_call 98;refine Gt.o.mono ?_;rintro e w9 ⟨⟨⟨Qe,Qf,Qg,Qh,Qi⟩,rfl,ht⟩,l7⟩;have x9:=bJ l7 H8.o.2.1;obtain ⟨s0,s1,s2,v0,v1,v2⟩:=gN x9;have H9:=aG l7 x9;clear ht l7 x9;simp only[TQ.val,Option.isSome]);obtain ⟨m_,zm,Fl,PG,_⟩:=uL H9.o.2 (.bool Qe) (.string Qf) (.slice Qg Qh Qi);rw[<-zm];have zcV:=ac (KD (M:=N2 mF mT) (Kp.below ((H2.o.2.1.tr (IE.o.1.tr H8.o.1)).tr H9.o.1)) PG (by have:=H2.o.2.1.size;have:=IE.o.1.size;omega));clear zm Fl PG;go_ret;exact StepPost.bad HE.o (by decide) zcV.o
   | some t=>
    have L7:goodT t:=AW H5.o.2.2.2.ok H5.o.2.2.2.nodes HFS.o.symm;have HE8:=ac (show R=if (nodesF f+n0 * (nodesT t - 1) != nodesF im)=true then ({ k with ts:=fS y t k.ts },70) else if cP [] (fH di t f) im=true then ({ k with ts:=fS y t k.ts },0) else ({ k with ts:=fS y t k.ts },70) from Th);have HGt:=ac L7;clear Th L7;go_upto_region 17 with (go_at_call 98;refine Gt.o.mono ?_;rintro e w9 ⟨⟨⟨Qe,Qf,Qg,Qh,Qi⟩,rfl,ht⟩,l7⟩;have x9:=bJ l7 H8.o.2.1;obtain ⟨s0,s1,s2,v0,v1,v2⟩:=gN x9;have H9:=bF l7 x9 (ht t rfl);clear ht l7 x9;simp only[TQ.val,Option.isSome]);clear s0 s1 s2 v0 v1 v2 e0 e1 e2 e3 f0 f1 f2 f3;obtain ⟨m_,zm,Fl,PG,y0,y1,y2⟩:=uL H9.o.2.1 (.bool Qe) (.string Qf) (.slice Qg Qh Qi);rw[<-zm];have zcW:w7.heap.size<W8.heap.size:=(bz H8.o.2.1);have Xl:Below w7.heap.size w7 m_:=Below.kp1 (H8.o.1.tr H9.o.1) PG (aD _);have U7:Below m_.heap.size m_ m_.drew:=(aj _ _).drew;have Xm:TermV (fun b=>¬M b/\b≠W1.heap.size) m_ (TQ.val ⟨Qe,Qf,Qg,Qh,Qi⟩) t:=H9.o.2.2.move (fun b hb hlt=>⟨hb.2.1,PG.same b hlt (by have:=hb.2.2;omega)⟩);have Ez:=UW.o.later Xl;obtain ⟨Du,cR,yz,Bz,KH⟩:=(Ez.later U7).storeT (fun h=>h.1 HG.o.2.1) (by have:=HB.o.2.1;omega) (x:=y) (by omega) (Xm.later U7) HGt.o (l':=fS y t k.ts) (fun z=>AQ HG0.o z);have k0:m_.cell? ⟨kb,1,none⟩=some (.map (some mT)):=ah Ez.box 1;obtain ⟨k1,y3,y4,y5⟩:=mu U7 k0 y0 y1 y2;have EA:Below w7.heap.size w7 m_.drew:=Xl.tr U7;have dD:∀ b,¬M b->b≠mT:=fun b hb e=>hb (e ▸ HG.o.2.1);have ye:∀ b o,w7.heap[b]?=some o->b≠mT->Du.heap[b]?=some o:=fun b o h jZ=>(Bz.same b (by have:=(bz h);have:=EA.size;omega) jZ).trans ((EA.block b (bz h)).trans h);have zcX:=yN.o.2.2.1;have x5':=ye _ _ IE.o.2.1 (by omega);have x7':=ye _ _ IE.o.2.2.1 (by have:=HT7.o;have:=H4.o.2.size;have:=yN.o.2.2.2.1;omega);have xt':=(Bz.same _ (by have:=(bz Fl);have:=U7.size;omega) (by have:=IE.o.1.size;have:=yN.o.2.2.2.1;omega)).trans (bJ U7 Fl);have Gm:Kp (N2 mF mT) W Du:=(Kp.below (H2.o.2.1.tr (IE.o.1.tr EA))).trans (Bz.mono (fun b _ h=>.inr h));have mZ:=ac (Sa (an3 x5' x7' xt') Gm HGt.o yz ((Tg.o.later EA).move (fun b hb hlt=>⟨hb,Bz.same b hlt (dD b hb.1)⟩)) ((IE.o.2.2.2.later EA).move (fun b hb hlt=>⟨hb,Bz.same b hlt (dD b hb.1)⟩)) ((Xm.later U7).move (fun b hb hlt=>⟨hb,Bz.same b hlt (dD b hb.1)⟩)));unfold TQ.val at cR;clear zcW Xl U7 Xm Ez yz Bz KH EA dD ye zcX x5' x7' xt' Gm Fl PG zm;go_region
    all_goals
     go_upto_region 18 with fail;clear k0 k1 y0 y1 y2 y3 y4 y5 cR;obtain ⟨nt,wv⟩:=am (nodesT t);obtain ⟨nf,uM⟩:=am (nodesF f);obtain ⟨ni,Qx⟩:=am (nodesF im);obtain ⟨m1,ii⟩:=am (nt - 1);obtain ⟨m2,oy⟩:=am (n0 * m1);obtain ⟨m3,R4⟩:=am (nf+m2);have Ot:1<=nt:=by rw[wv];exact jA t
     have AK:nt<=1000:=by rw[wv];exact mZ.o.2.2.1.2
     have hp3:nf<=400:=by rw[uM];exact zk.o.1.nodes
     have hp4:ni<=400:=by rw[Qx];exact H5.o.2.2.2.nodes
     have pS:m2<=400 * 1000:=by rw[oy];exact Nat.mul_le_mul pT.o.1 (by omega)
     have yR:IntKind.i64.wrap ((nt:Int) - 1)=(m1:Int):=by rw[ik _ (by omega)];omega
     have Oi:IntKind.i64.wrap ((n0:Int) * (m1:Int))=(m2:Int):=by rw[show (n0:Int) * (m1:Int)=(m2:Int) by rw[oy];simp];exact ik _ (by omega)
     have WX:IntKind.i64.wrap ((nf:Int)+(m2:Int))=(m3:Int):=by rw[ik _ (by omega)];omega
     have Xn:=fun (x:Later Du)=>kO f zk.o.1.fit _ x.w ⟨Fw,Fx,Fy,Fz,FA,FB,FC,FD⟩ (mZ.o.2.2.2.2.1.later x.below);have Xo:=fun (x:Later Du)=>kO im H5.o.2.2.2.fit _ x.w ⟨p0,p1,p2,p3,p4,p5,p6,p7⟩ (mZ.o.2.2.2.2.2.1.later x.below);have Xp:=fun (x:Later Du)=>ld t mZ.o.2.2.1.fit (by have:=mZ.o.2.2.1.2;omega) _ x.w ⟨Qe,Qf,Qg,Qh,Qi⟩ (mZ.o.2.2.2.2.2.2.later x.below);simp only[FQ.val,TQ.val,<-uM,<-Qx,<-wv]at Xn Xo Xp;obtain ⟨HCf,HCi,Zk⟩:=cH Xn Xo Xp;have Xq:=HE8.o;rw[<-uM,<-Qx,<-wv,<-ii,<-oy,<-R4]at Xq;have HE1:=ac Xq;obtain ⟨f0,f1,f2,f3,_,_,_,_⟩:=dy mZ.o.1.1;obtain ⟨i0,i1,i2,i3,_,_,_,_⟩:=dy mZ.o.1.2.1;obtain ⟨s0,s1,s2,_,_,_⟩:=gN mZ.o.1.2.2;have q0:=fun x:Later Du=>x.get f0;have q1:=fun x:Later Du=>x.get f1;have q2:=fun x:Later Du=>x.get f2;have q3:=fun x:Later Du=>x.get f3;have q4:=fun x:Later Du=>x.get i0;have q5:=fun x:Later Du=>x.get i1;have q6:=fun x:Later Du=>x.get i2;have q7:=fun x:Later Du=>x.get i3;have q8:=fun x:Later Du=>x.get s0;have q9:=fun x:Later Du=>x.get s1;have q10:=fun x:Later Du=>x.get s2;clear Xn Xo Xp Xq wv uM Qx ii oy R4 Ot AK hp3 hp4 pS f0 f1 f2 f3 i0 i1 i2 i3 s0 s1 s2;refine aH (by kernel_rfl) (by kernel_rfl) ?_
     iterate 2 (go_big_quiet_step ((go_at_call 99;exact bO (HCf.o _))))
     iterate 7 (go_big_quiet_step ((go_at_call 100;exact bO (Zk.o _))))
     iterate 2 (go_big_quiet_step ((go_at_call 99;exact bO (HCi.o _))))
     refine wpQuiet_nil ?_;rintro _ ⟨x',rfl⟩;obtain ⟨W9,r_⟩:=am x'.w;have l7:Below Du.heap.size Du W9:=by rw[r_];exact x'.below
     rw[<-r_];clear r_ q0 q1 q2 q3 q4 q5 q6 q7 q8 q9 q10 yR Oi WX x';have BA:Kp (N2 mF mT) W W9:=mZ.o.2.1.trans (Kp.below l7);have Ti:=bJ l7 mZ.o.1.1;have Xr:=bJ l7 mZ.o.1.2.1;have Xs:=bJ l7 mZ.o.1.2.2;have KI:=HE1.o
     by_cases jZ:m3=ni
     ·rw[ak (by simp[jZ])]at KI;subst jZ;have pp34:=();exact pm34
     ·rw[au (by simp[jZ])]at KI;exact pm167
  ·obtain ⟨⟨Qe,Qf,Qg,Qh,Qi⟩,rfl,pV,V6⟩:=hvt;simp only[TQ.val]at hlk;have l1:=(hlk w7 rfl).1;clear hlk;go_upto_region 18 with fail;clear k0 l1 om;obtain ⟨W8,l8⟩:=am (w7.alloc (.cells #[.bool Qe,.string Qf,.slice Qg Qh Qi] 43));rw[<-l8];have tP:=cV l8;have x8:=bU l8;have Zn:=bJ tP IE.o.2.1;have Zo:=bJ tP IE.o.2.2.1;rw[hg]at Th;have HE8:=ac (show R=if (nodesF f+n0 * (nodesT t - 1) != nodesF im)=true then ({ k with ts:=k.ts },70) else if cP [] (fH di t f) im=true then ({ k with ts:=k.ts },0) else ({ k with ts:=k.ts },70) from Th);have mZ:=ac (Sa (an3 Zn Zo x8) (Kp.below (M:=N2 mF mT) (H2.o.2.1.tr (IE.o.1.tr tP))) V6 (UW.o.later tP) (Tg.o.later tP) (IE.o.2.2.2.later tP) (pV.later tP));clear l8 tP x8 Zn Zo Th V6 pV e0 e1 e2 e3 z0 z1 z2 z3 f0 f1 f2 f3 hg;obtain ⟨nt,wv⟩:=am (nodesT t);obtain ⟨nf,uM⟩:=am (nodesF f);obtain ⟨ni,Qx⟩:=am (nodesF im);obtain ⟨m1,ii⟩:=am (nt - 1);obtain ⟨m2,oy⟩:=am (n0 * m1);obtain ⟨m3,R4⟩:=am (nf+m2);have Ot:1<=nt:=by rw[wv];exact jA t
   have AK:nt<=1000:=by rw[wv];exact mZ.o.2.2.1.2
   have hp3:nf<=400:=by rw[uM];exact zk.o.1.nodes
   have hp4:ni<=400:=by rw[Qx];exact H5.o.2.2.2.nodes
   have pS:m2<=400 * 1000:=by rw[oy];exact Nat.mul_le_mul pT.o.1 (by omega)
   have yR:IntKind.i64.wrap ((nt:Int) - 1)=(m1:Int):=by rw[ik _ (by omega)];omega
   have Oi:IntKind.i64.wrap ((n0:Int) * (m1:Int))=(m2:Int):=by rw[show (n0:Int) * (m1:Int)=(m2:Int) by rw[oy];simp];exact ik _ (by omega)
   have WX:IntKind.i64.wrap ((nf:Int)+(m2:Int))=(m3:Int):=by rw[ik _ (by omega)];omega
   have Xn:=fun (x:Later W8)=>kO f zk.o.1.fit _ x.w ⟨Fw,Fx,Fy,Fz,FA,FB,FC,FD⟩ (mZ.o.2.2.2.2.1.later x.below);have Xo:=fun (x:Later W8)=>kO im H5.o.2.2.2.fit _ x.w ⟨p0,p1,p2,p3,p4,p5,p6,p7⟩ (mZ.o.2.2.2.2.2.1.later x.below);have Xp:=fun (x:Later W8)=>ld t mZ.o.2.2.1.fit (by have:=mZ.o.2.2.1.2;omega) _ x.w ⟨Qe,Qf,Qg,Qh,Qi⟩ (mZ.o.2.2.2.2.2.2.later x.below);simp only[FQ.val,TQ.val,<-uM,<-Qx,<-wv]at Xn Xo Xp;obtain ⟨HCf,HCi,Zk⟩:=cH Xn Xo Xp;have Xq:=HE8.o;rw[<-uM,<-Qx,<-wv,<-ii,<-oy,<-R4]at Xq;have HE1:=ac Xq;obtain ⟨f0,f1,f2,f3,_,_,_,_⟩:=dy mZ.o.1.1;obtain ⟨i0,i1,i2,i3,_,_,_,_⟩:=dy mZ.o.1.2.1;obtain ⟨s0,s1,s2,_,_,_⟩:=gN mZ.o.1.2.2;have q0:=fun x:Later W8=>x.get f0;have q1:=fun x:Later W8=>x.get f1;have q2:=fun x:Later W8=>x.get f2;have q3:=fun x:Later W8=>x.get f3;have q4:=fun x:Later W8=>x.get i0;have q5:=fun x:Later W8=>x.get i1;have q6:=fun x:Later W8=>x.get i2;have q7:=fun x:Later W8=>x.get i3;have q8:=fun x:Later W8=>x.get s0;have q9:=fun x:Later W8=>x.get s1;have q10:=fun x:Later W8=>x.get s2;clear Xn Xo Xp Xq wv uM Qx ii oy R4 Ot AK hp3 hp4 pS f0 f1 f2 f3 i0 i1 i2 i3 s0 s1 s2;refine aH (by kernel_rfl) (by kernel_rfl) ?_
   iterate 2 (go_big_quiet_step ((go_at_call 99;exact bO (HCf.o _))))
   iterate 7 (go_big_quiet_step ((go_at_call 100;exact bO (Zk.o _))))
   iterate 2 (go_big_quiet_step ((go_at_call 99;exact bO (HCi.o _))))
   refine wpQuiet_nil ?_;rintro _ ⟨x',rfl⟩;obtain ⟨W9,r_⟩:=am x'.w;have l7:Below W8.heap.size W8 W9:=by rw[r_];exact x'.below
   rw[<-r_];clear r_ q0 q1 q2 q3 q4 q5 q6 q7 q8 q9 q10 yR Oi WX x';have BA:Kp (N2 mF mT) W W9:=mZ.o.2.1.trans (Kp.below l7);have Ti:=bJ l7 mZ.o.1.1;have Xr:=bJ l7 mZ.o.1.2.1;have Xs:=bJ l7 mZ.o.1.2.2;have KI:=HE1.o
   by_cases jZ:m3=ni
   ·rw[ak (by simp[jZ])]at KI;subst jZ;exact pm34
   ·rw[au (by simp[jZ])]at KI;exact pm167
 |rw[jj.o]at P0 P1 P2 P3 P4 P5 P6 P7 P8;go_wp2;rw[<-jj.o];go_ret;exact StepPost.good nF nT HE.o (Kp.below Jd.o.1) (by omega) (by omega) Jd.o.2):G:=h
theorem pm158(h:G:=by
 go_enter Tryz.func273,Tryz.ntmps273;go_wp2_with (go_at_call 287;refine (HC0.o _).mono ?_;rintro e w2 ⟨rfl,rfl⟩)
 first
 |clear pp158;go_loopw [20] (fun i wr=>∃k:Nat,k<=k0/\i=.int .i64 k/\Below w2.heap.size w2 wr/\R=AP (l.drop k) (m.drop k)) (fun i _=>k0 - (intOf i).toNat)
  case atStart=>exact ⟨0,aX _,rfl,aj _ _,by simpa using HR.o⟩
  case round=>
   have pp308c:=();exact pm308
 |go_ret;exact ⟨rfl,aj _ _⟩):G:=h
theorem pm159(h:G:=by
 go_enter Tryz.func115,Tryz.ntmps115;go_wp2;go_ret;exact ⟨rfl,rfl⟩):G:=h
theorem pm160(h:G:=by
 go_upto_region 8 with (go_at_call 97;refine Zj.o.mono ?_;rintro e w5 ⟨rfl,bm⟩;have H5:=ac bm;clear bm);clear j0 j1 j2 j3;have y5:=bJ H5.o H3.o.2.1;have x15:=bJ (H3.o.1.tr H5.o) HB.o.2.2.2.1
 first
 |clear pp160;subst h0;clear oM;obtain ⟨j0,j1,j2,j3,_,_,_,_⟩:=dy y5;have HC6:=ac (mz.o w5 H5.o);have HX5:=ac x15;have HR5:=ac (show RS=f by rw[HB.o.2.2.2.2,au rfl]);clear y5 x15;go_wp2_with (go_at_call 51;refine HC6.o.mono ?_;rintro e w6 ⟨⟨p0,p1,p2,p3,p4,p5,p6,p7⟩,rfl,hp,da⟩;have R7:=bJ da HX5.o;have KN:=ac R7;obtain ⟨i0,i1,i2,i3,q0,q1,q2,q3⟩:=dy R7;have H6:=aG da hp;clear da hp R7);have x6:=lA (v0:=.int .u8 p0) (v1:=.string p1) (v2:=.slice p2 p3 p4) (v3:=.slice p5 p6 p7) KN.o;have k6:=dL (W:=w6) (b:=w.heap.size+1) (v0:=.int .u8 p0) (v1:=.string p1) (v2:=.slice p2 p3 p4) (v3:=.slice p5 p6 p7);obtain ⟨W6,dm⟩:=am ((((w6.setCell ⟨w.heap.size+1,0,none⟩ (.int .u8 p0)).setCell ⟨w.heap.size+1,1,none⟩ (.string p1)).setCell ⟨w.heap.size+1,2,none⟩ (.slice p2 p3 p4)).setCell ⟨w.heap.size+1,3,none⟩ (.slice p5 p6 p7));have pp116:=();exact pm116
 |have pp148:=();exact pm148):G:=h
theorem pm161(h:G:=by
 obtain ⟨b,off,u,rfl,ja,hu,c0,c1,c2,c3⟩:=gt.o.get bg;exact pm243):G:=h
theorem pm162(h:G:=by
 have Xx:((m0:Int) != (r4:Int))=false:=by simp;omega
 have Xy:(m0 == r4)=true:=by simpa using Tl
 have PY:=ac Tl;clear Tl;rw[dD,show decide (k0<=r3)=true by simpa using dJ,Xy]at hM;simp only[du]at hM
 by_cases dN:on=16
 first
 |clear pp162
  ·subst dN
   cases bl:ug a with
   | false=>
    exact pm32
   | true=>
    have pp132a:=();exact pm132
  ·have zcY:((on:Int) == 16)=false:=by simp;omega
   rw[show ((on:Int) != 16)=true by simp;omega,Bool.true_or,du]at hM;exact pm102
 |·subst dN
   cases bl:ug a with
   | false=>
    exact pm32
   | true=>
    have pp132b:=();exact pm132
  ·have zcY:((on:Int) == 16)=false:=by simp;omega
   rw[show ((on:Int) != 16)=true by simp;omega,Bool.true_or,du]at hM;exact pm101):G:=h
theorem pm163(h:G:=by
 have hi:=mP hp.c hp.f h1;have e:formOf k.fs p.s.n=g:=by unfold formOf;rw[h2]
 first
 |clear pp163a;rw[e];refine ⟨w1,w2,vE (eG k1 h2).1,fun τ ρ d hm=>?_⟩
  rw[JH ((iQ w1 hi.1).1 h3) τ d];exact xj hm hp.f h1 d
 |clear pp163b;rw[hn]at h3;simp only at h3;refine ⟨x,y,ha,_,rfl,?_⟩;rw[e];rcases h3 with ⟨h0,h3⟩ | ⟨h0,t,ht,hs,h3⟩
  ·rw[au h0];refine ⟨w1,w2,vE (eG k1 h2).1,fun τ ρ d hm=>?_⟩;rw[JH ((iQ w1 hi.1).1 h3) τ d];exact xj hm hp.f h1 d
  ·rw[ak h0];have e2:termOf k.ts y=t:=by unfold termOf;rw[ht]
   rw[e2];obtain ⟨p1,p2⟩:=nl (oz (vB k2 ht).1) (depthF g) g (bQ x) w1 w2 (aD _);refine ⟨p1,p2,zD (depthF g) g (bQ x) w1 w2 (aD _) ?_ (vE (eG k1 h2).1),fun τ ρ d hm=>?_⟩
   ·have h5:fG (bQ x) g * (nodesT t - 1)<=400:=by have:=hi.2.2.1;have:=hp.n;omega
    have h6:=Nat.le_mul_of_pos_left (nodesT t - 1) (Nat.pos_of_ne_zero h0);have:=(iU (eG k1 h2).1).2.2.1;omega
   have h4:=JH ((iQ (f:=fH (bQ x) t g) p1 hi.1).1 h3) τ d;rw[h4];exact xj hm hp.f h1 d
 |clear pp163c;rw[hn]at h3 hx;simp only[e]at h3 hx;have ho:=Et (vI x0) g hb;rcases h3 with ⟨h0,h3⟩ | ⟨h0,t,ht,hs,h3⟩
  ·have Qx:=ho.1 h0;rw[au (by
    simp only[Bool.not_eq_true',List.contains_eq_mem,decide_eq_false_iff_not,List.mem_filter,not_and,np];exact fun h=>absurd h Qx)]at hx
   rw[List.mem_filter,np]at hx;rw[tL w1 hi.1 ((iQ w1 hi.1).1 h3)]at hx;exact rQ hp.c hp.f h1 hx.2 hx.1
  ·have e2:termOf k.ts y0=t:=by unfold termOf;rw[ht]
   have bl:bQ x0∈aL [] g:=Decidable.not_not.1 (fun h=>h0 (ho.2 h));rw[ak (by
    simp only[Bool.not_eq_true',List.contains_eq_mem,decide_eq_false_iff_not,List.mem_filter,not_and,np];intro h;exact absurd (DW Y5) (h bl)),e2]at hx
   have RQ:=oz (vB k2 ht).1;have RV:=(nl RQ (depthF g) g (bQ x0) w1 w2 (aD _)).1;have wv:nodesT t<=401:=by
    have h5:fG (bQ x0) g * (nodesT t - 1)<=400:=by have:=hi.2.2.1;have:=hp.n;omega
    have h6:=Nat.le_mul_of_pos_left (nodesT t - 1) (Nat.pos_of_ne_zero h0);omega
   have Uz:=Qw (x:=bQ x0) w1 w2 RQ (by omega);rw[tL (f:=fH (bQ x0) t g) RV hi.1 ((iQ (f:=fH (bQ x0) t g) RV hi.1).1 h3)]at Uz;have zaO:∀ z,(∃y∈aL [] g,z∈(if y == bQ x0 then aC t else [y]))->z∈aL [] im:=fun z hz=>by rw[Uz];exact List.mem_flatMap.2 hz
   rw[List.mem_append,List.mem_filter,List.mem_filter,List.mem_filter,np,np]at hx;rcases hx with ⟨⟨q1,q2⟩,q3⟩ | ⟨q1,q2⟩
   ·refine rQ hp.c hp.f h1 q2 (zaO x ⟨x,q1,?_⟩);rw[ak (by simpa using q3)];simp
   ·refine rQ hp.c hp.f h1 q2 (zaO x ⟨bQ x0,bl,?_⟩);rw[au (by simp)];exact q1
 |clear pp163d;rw[au eQ,au (.inl eQ),e,<-hi.2.2.1];exact (zC (jm []) (jm []) w1 hi.1 ((iQ w1 hi.1).1 h3)).1
 |rw[au dN,au (.inr dN),e,<-hi.2.2.1];rcases h3 with ⟨h0,h3⟩ | ⟨h0,t,ht,hs,h3⟩
  ·rw[h0,Nat.zero_mul,Nat.add_zero];exact (zC (jm []) (jm []) w1 hi.1 ((iQ w1 hi.1).1 h3)).1
  ·have e2:termOf k.ts (aJ p.s).2=t:=by unfold termOf;rw[ht]
   rw[e2];exact hs):G:=h
theorem pm164(h:G:=by
 go_enter Tryz.func95,Tryz.ntmps95
 first
 |clear pp164a;go_wp2_with (first | (rw[<-y'.o];go_at_call 119;refine tE.o.mono ?_;rintro e w4 ⟨rfl,aO⟩;have p0:=aa aO P0;have p1:=aa aO P1;have p2:=aa aO P2;have p3:=aa aO P3;have p4:=aa aO P4;have p5:=aa aO P5;have p6:=aa aO P6;have p7:=aa aO P7;have p8:=aa aO P8;have q1:=aa aO e1;have q0:=aa aO e0;have H4:=ac aO;clear aO) | (go_at_call 163;refine (SW.o w4 H4.o).mono ?_;rintro e w5 ⟨rfl,bm⟩;have H5:=ac (H4.o.tr bm);have t0:=aa (H4.o.tr bm) e0;have u0:=aa (H4.o.tr bm) f0;have t1:=aa (H4.o.tr bm) e1;have u1:=aa (H4.o.tr bm) f1;have t2:=aa (H4.o.tr bm) e2;have u2:=aa (H4.o.tr bm) f2;clear bm))
  first
  |clear pp7a;clear p0 p1 p2 p3 p4 p5 p6 p7 p8 q0 q1;obtain ⟨S,hS⟩:∃S:World->Prop,S=fun V=>Below w5.heap.size w5 V:=⟨_,rfl⟩;have s1:∀ V,S V->V.cell? ⟨W.heap.size+1,1,none⟩=some (.string ⟨n.toArray⟩):=fun V h=>by rw[hS]at h;exact aa h t1
   have v0:∀ V,S V->V.cell? ⟨W.heap.size+1+1,0,none⟩=some (.bool uv)/\V.cell? ⟨W.heap.size+1+1,1,none⟩=some (.string ⟨n'.toArray⟩)/\V.cell? ⟨W.heap.size+1+1,2,none⟩=some (.slice ua n2 uc):=fun V h=>by rw[hS]at h;exact ⟨aa h u0,aa h u1,aa h u2⟩
   have dU:S w5.drew:=by rw[hS];exact (aj _ _).drew
   have dp:=ac hS;clear hS t0 t1 t2 u0 u1 u2;have iz:=fd;refine (wpIn_wide (n:=3)).1 ?_;refine lH S 5 dU fun jC bN=>?_;refine dh 0 56 (.agg #[.bool uv,.string ⟨n'.toArray⟩,.slice ua n2 uc]) rfl (fun V hX=>by obtain ⟨h0,h1,h2⟩:=v0 V hX;go_simp) bN fun cr=>?_;simp only[ag];refine bC 1 57 (.pointer (some ⟨W.heap.size+1,1,none⟩)) rfl cr fun f_=>?_;simp only[ag];refine dh 2 58 (.string ⟨n.toArray⟩) rfl (fun V hX=>by have h0:=s1 V hX;go_simp) f_ fun gQ=>?_;simp only[ag];refine bZ 3 rfl fun K hK=>?_;go_simp;refine aK.2 ((fC n w5.drew (by have:=Jy.o;omega)).mono ?_);rintro e w6 ⟨rfl,rfl⟩;refine hK _ _ (fun _=>dU) (fun _=>?_);clear hK K;refine bZ 4 rfl fun K hK=>?_;go_simp;refine aK.2 ((gK (bQ n) w5.drew).mono ?_);rintro e w7 ⟨rfl,fW⟩;refine hK _ _ (fun _=>by rw[dp.o];exact (aj _ _).drew.tr fW) (fun _=>?_);clear hK K;have h37:Below W3.heap.size W3 w7:=(H5.o.drew).tr fW;have CS:=uV (.mk uv n' a') (ao (bQ n)) (fun b=>¬M b) (fun b=>¬M b) w7 ⟨uv,⟨n'.toArray⟩,ua,n2,uc⟩ ⟨true,⟨(bQ n).toArray⟩,none,0,0⟩ (HG.o.2.1 _ HF.o.2) (PQ Jy.o) (HT.o.2.1.later h37) (aP.2 ⟨_,rfl,cq⟩);simp only[TQ.val]at CS;rw[<-LI.o]at CS;refine bZ 5 rfl fun K hK=>?_;go_simp;refine aK.2 (CS.mono ?_);rintro e w8 ⟨rfl,ic⟩;refine eS hK ?_;clear hK K;have H8:=ac (h37.tr ic);clear CS fW h37 ic;refine bZ 6 rfl fun K hK=>?_;go_simp;refine eS hK ?_;clear hK K;refine kV ?_;clear dU s1 v0 bN jC;go_wp2;go_ret;refine ⟨Kp.below (H3.o.1.tr H8.o),bb,rfl,(fun h=>?_),(fun ts gz=>?_)⟩
   ·rw[HE.o]at h;cases bb;rfl;cases h
   ·rw[HE.o]at gz;cases bb;cases gz;cases gz;exact ⟨rfl,nT,by omega,H3.o.2.2.2.2.2.later H8.o⟩
  |clear pp7b;go_ret;exact ⟨Kp.below (H3.o.1.tr H5.o),false,rfl,(fun _=>rfl),(fun ts gz=>by rw[HE.o]at gz;cases gz)⟩
  |go_loopw [87] (fun i wr=>∃(j Dm:Nat) (kj:List (Str×Tm)),j<=n1/\i=.int .i64 j/\Kp (fun b=>b=mT) W3 wr/\Dm<=nT+nodesTs (a.take j)/\KnV (fun b=>¬M b) PF PT wr kb mF mT nF Dm ⟨k.fs,kj⟩/\R=bR (ps.reverse.map (·.1)) kj (a.drop j) (a'.drop j)) (fun i _=>n1 - (intOf i).toNat)
   case atStart=>exact ⟨0,nT,k.ts,aX _,rfl,Kp.below H5.o,by omega,H3.o.2.2.2.2.2.later H5.o,by simpa using HE.o⟩
   case round=>
    exact pm8
 |clear pp164b;go_wp2_with (first | (rw[<-y'.o];go_at_call 119;refine tE.o.mono ?_;rintro e w4 ⟨rfl,aO⟩;have H4:=ac aO;clear aO));have o_:=H3.o.2.2.2.2.2.later H4.o;have g0:w4.cell? ⟨kb,1,none⟩=some (.map (some mT)):=ah o_.box 1;have g1:w4.drew.cell? ⟨kb,1,none⟩=some (.map (some mT)):=ah o_.box 1;have g2:=aa H4.o e1;have g3:=aa H4.o.drew e1;have HK4:=ac o_;have bm:Below w4.heap.size w4 (w4.alloc (.cells #[.bool false,.string ⟨#[]⟩,.slice none 0 0] 43)):=cO;obtain ⟨g4,g5⟩:=zS bm g0 g2;rcases o_.ts.look Tryz.underlying9 Tryz.underlying146 jT (x:=n) (by omega) with ⟨hg,hl⟩ | ⟨u,vu,hg,hvu,hl⟩
  ·have l1:=(hl w4.drew rfl).1;have pp252:=();exact pm252
  ·obtain ⟨⟨xv,xn,xa,xl,xc⟩,rfl,hxv,hpu⟩:=hvu;simp only[TQ.val]at hl;have l1:=(hl w4.drew rfl).1;exact pm252
 |clear pp164c;go_wp2;rw[<-y'.o];go_loopw [87] (fun i wr=>∃(j Dm:Nat) (kj:List (Str×Tm)),j<=n1/\i=.int .i64 j/\Kp (fun b=>b=mT) W3 wr/\Dm<=nT+nodesTs (a.take j)/\KnV (fun b=>¬M b) PF PT wr kb mF mT nF Dm ⟨k.fs,kj⟩/\R=bR (ps.reverse.map (·.1)) kj (a.drop j) (a'.drop j)) (fun i _=>n1 - (intOf i).toNat)
  case atStart=>exact ⟨0,nT,k.ts,aX _,rfl,Kp.below (aj _ _),by omega,H3.o.2.2.2.2.2.later (aj _ _),by simpa using HE.o⟩
  case round=>
   exact pm8
 |go_wp2;rw[<-y'.o];go_ret;exact ⟨Kp.below (H3.o.1.tr (aj _ _)),false,rfl,(fun _=>rfl),(fun ts gz=>by rw[HE.o]at gz;cases gz)⟩):G:=h
theorem pm165(h:G:=by
 rw[mH hq]
 by_cases h1:(n == x || !(aL [] g).contains x)=true
 first
 |clear pp165a
  ·rw[au h1];exact ⟨m6,ip,rfl,rfl⟩
  ·rw[ak h1]
   by_cases h2:(aC (ao y)).contains n=true
   ·rw[au h2];generalize c_ (aL [] g ++ aC (ao y))=m;have pp172a:=();exact pm172
   ·rw[ak h2];obtain ⟨b1,b2,b3,b4⟩:=eP k g x y hw.2 hq1.2 (by omega);simp only[gS,el,qone,ee,depthF,aS,nodesF,nodesFs,eu,List.map_nil,ep,b1,b2,b3,b4,hq];simp
 |clear pp165b
  ·rw[au h1];refine uD _ _ _ _ (fun z hz=>?_);unfold upd;split
   ·rename_i hzx;rw[dP]at hzx;subst hzx;exfalso;simp only[aL,ap,List.filter_nil,sj,hq,if_true,bq,List.append_nil]at hz;have h3:=jE n [g];simp only[bq,List.append_nil]at h3;rw[h3,List.mem_filter]at hz;simp only[Bool.or_eq_true,Bool.not_eq_true']at h1;rcases h1 with h1 | h1
    ·have:=hz.2;rw[dP]at h1;subst h1;simp at this
    ·have:(aL [] g).contains z=true:=by simpa using hz.1
     rw[h1]at this;cases this
   ·rfl
  ·rw[ak h1];simp only[Bool.or_eq_true,Bool.not_eq_true',not_or,Bool.not_eq_true,Bool.not_eq_false]at h1;have s8:n≠x:=by simpa using h1.1
   by_cases h2:(aC u).contains n=true
   ·rw[au h2];have hm:=oh (aL [] g ++ aC u) (by rw[dO];have:=eY g [];have:=mh u;omega);generalize c_ (aL [] g ++ aC u)=m at hm;rw[List.mem_append,not_or]at hm;have pp172b:=();exact pm172
   ·rw[ak h2];simp only[dbF,hq,if_true,qJ,fL];rw[oY k g x u _ _ hw.2 hq1.2 (by omega) (by omega),G4 (by simpa using h2),uH _ s8]
 |clear pp165c
  ·rw[au h1];exact EW
  ·rw[ak h1]
   by_cases h2:(aC u).contains n=true
   ·rw[au h2];have hm:(c_ (aL [] g ++ aC u)).length<=2000000:=oZ (by
     have h3:=eY g [];have h4:=mh u;simp only[dO];omega)
    generalize hm':c_ (aL [] g ++ aC u)=m;rw[hm']at hm;have pp172c:=();exact pm172
   ·rw[ak h2];have b1:=o6 k g x u hw.2 hq1.2 (by omega) (by simp[nodesTs]at hs;omega) hf.2.2.2 hu;simp only[ls,nmFs,af,bp,eu,List.map_nil,nmTs];exact ⟨hf.1,hf.2.1,trivial,b1,trivial⟩
 |clear pp165d
  ·rw[au h1];exact Nat.le_mul_of_pos_right _ hu
  ·rw[ak h1]
   by_cases h2:(aC u).contains n=true
   ·rw[au h2];generalize c_ (aL [] g ++ aC u)=m;have pp172d:=();exact pm172
   ·rw[ak h2];have b1:=uY k g x u hw.2 hq1.2 (by omega);simp only[nodesF,nodesFs,eu,List.map_nil,nodesTs,Nat.add_mul];omega
 |clear pp165e
  ·rw[au h1];exact ⟨m6,ip⟩
  ·rw[ak h1]
   by_cases h2:(aC u).contains n=true
   ·rw[au h2];generalize c_ (aL [] g ++ aC u)=m;have pp172e:=();exact pm172
   ·rw[ak h2];obtain ⟨b1,b2⟩:=nl hu k g x hw.2 hq1.2 (by omega);simp[gS,el,qone,ee,eu,ep,b1,b2]
 |clear pp165f
  ·rw[au h1];exact Ol
  ·rw[ak h1]
   by_cases h2:(aC (ao y)).contains n=true
   ·rw[au h2];have hm:eC (c_ (aL [] g ++ aC (ao y)))=true:=xk (by rw[dO,MP];have:=eY g [];simp;omega);generalize c_ (aL [] g ++ aC (ao y))=m at hm;have pp172f:=();exact pm172
   ·rw[ak h2];have b2:=rP k g x y hw.2 hq1.2 (by omega) (by omega) hb.2;simp only[si,kE,af,Bool.and_true];exact ⟨hb.1,b2⟩
 |·rw[au h1];exact Ol
  ·rw[ak h1]
   by_cases h2:(aC u).contains n=true
   ·rw[au h2];have hm:eC (c_ (aL [] g ++ aC u))=true:=xk (by rw[dO];have:=eY g [];have:=mh u;omega);generalize c_ (aL [] g ++ aC u)=m at hm;exact pm172
   ·rw[ak h2];have b2:=zD (u:=u) k g x hw.2 hq1.2 (by omega) (by omega) hb.2;simp only[si,kE,af,Bool.and_true];exact ⟨hb.1,b2⟩):G:=h
theorem pm166(h:G:=by
 go_simp;exact pm187):G:=h
theorem pm167(h:G:=by
 have Qm:=ac KI;have Sp:¬((m3:Int)=(ni:Int)):=by omega
 have VR:((m3:Int) == (ni:Int))=false:=by simp;omega
 have HK9:=ac BA;clear l7 BA Ti Xr Xs KI;go_wp2;go_ret;exact StepPost.bad Qm.o (by decide) HK9.o):G:=h
theorem pm168(h:G:=by
 have pp314c:=();exact pm314):G:=h
theorem pm169(h:G:=by
 go_wp2_with (go_at_call 91;refine HC.o.mono ?_;rintro e w4 ⟨⟨⟨p0,p1,p2,p3,p4,p5,p6,p7⟩,rfl,hp⟩,aO⟩;have H4:=ac aO;clear hp aO;simp only[Option.isSome]);go_ret
 first
 |clear pp169;exact StepPost.bad HE.o (by decide) (Kp.below ((H3.o.1.tr H4.o).alloc (H3.o.1.tr H4.o).size _))
 |exact StepPost.bad HE.o (by decide) (Kp.below ((H2.o.2.1.tr H4.o).alloc (H2.o.2.1.tr H4.o).size _))):G:=h
theorem pm170(h:G:=by
 go_wp2;go_loopw [8] (fun i wr=>∃k:Nat,k<=k0/\i=.int .i64 k/\Below w.heap.size w wr/\∀ t∈l.take k,pr t=false) (fun i _=>k0 - (intOf i).toNat)
 case atStart=>exact ⟨0,aX _,rfl,aj _ _,by simp⟩
 first
 |clear pp170
  case round=>
   obtain ⟨k,hk,rfl,ar,gE⟩:=hrel
   by_cases hlt:k<k0
   ·have bg:=ce HK.o hlt;obtain ⟨b,off,⟨xv,xn,xa,xl,xc⟩,rfl,hok,hx,c0,c1,c2⟩:=HV.o.get bg;simp only at c0 c1 c2;obtain ⟨d0,d1,d2⟩:=j4 ar c0 c1 c2;have CB:=HP.o l[k] (aw bg) _ wr ⟨xv,xn,xa,xl,xc⟩ (S6.o.tr ar) (hx.later ar);simp only[TQ.val]at CB;have DK:(k:Int)<(k0:Int):=by omega
    cases hq:pr l[k] with
    | true=>
     rw[hq]at CB;have HC:=ac CB;have HE:=ac (show l.any pr=true from List.any_eq_true.2 ⟨_,aw bg,hq⟩);have pp191:=();exact pm191
    | false=>
     rw[hq]at CB;have HC:=ac CB;have AD:=ac (show ∀ t∈l.take (k+1),pr t=false by
      intro t hm;rw[List.take_add_one,gT bg]at hm;rcases List.mem_append.1 hm with h | h
      ·exact gE t h
      ·obtain rfl:t=l[k]:=by simpa using h
       exact hq)
     exact pm191
   ·obtain rfl:k=k0:=by omega
    have HE:=ac (show l.any pr=false by
     rw[HK.o,cY]at gE;rw[List.any_eq_false];intro t ht;rw[gE t ht];simp)
    have HB:=ac ar;clear ar gE;go_wp2;go_ret;exact ⟨⟨_,rfl,by rw[HE.o];simp⟩,HB.o⟩
 |case round=>
   obtain ⟨k,hk,rfl,ar,gE⟩:=hrel
   by_cases hlt:k<k0
   ·have bg:=ce HK.o hlt;obtain ⟨b,off,rfl,hok,c0⟩:=HV.o.get bg;have d0:=aa ar c0;have CB:=HP.o l[k] wr (aw bg) ar;have DK:(k:Int)<(k0:Int):=by omega
    cases hq:pr l[k] with
    | true=>
     rw[hq]at CB;have HC:=ac CB;have HE:=bF hq gE (gT bg);have pp259:=();exact pm259
    | false=>
     rw[hq]at CB;have HC:=ac CB;have AD:=ac (WZ bg gE hq);exact pm259
   ·obtain rfl:k=k0:=by omega
    have HE:=ac (show ∀ x∈l,pr x=false by
     rw[HK.o,cY]at gE;exact gE)
    have HB:=ac ar;clear ar gE;go_wp2;go_ret;exact ⟨.inl ⟨rfl,HE.o⟩,HB.o⟩):G:=h
theorem pm171(h:G:=by
 have ht:a.take m0=a:=by rw[gR.o];exact cY
 rw[ht]at hj;have HH:=aG hj bj;clear hj bj ht
 first
 |clear pp171;gi_wp2;go_ret;exact ⟨rfl,HH.o.1,HH.o.2⟩
 |go_wp2;go_ret;exact ⟨rfl,HH.o.1,HH.o.2⟩):G:=h
theorem pm172(h:G:=by
 obtain ⟨a1,a2,a3,a4⟩:=eP k g n m hw.2 hq1.2 (by omega)
 first
 |clear pp172a;obtain ⟨b1,b2,b3,b4⟩:=eP k _ x y a1 a2 (by omega);simp only[gS,el,qone,ee,depthF,aS,nodesF,nodesFs,eu,List.map_nil,ep,b1,b2,b3,b4,a3,a4,hq];simp
 |clear pp172b;have hmx:m≠x:=fun e=>hm.1 (by rw[e];simpa using h1.2);have hmu:(aC u).contains m=false:=by simpa using hm.2
  have LD:nodesT (ao m)=1:=by simp[ao,nodesT,nodesTs]
  have hU:1<=nodesT u:=by obtain ⟨_,_,_⟩:=u;simp[nodesT]
  simp only[dbF,hq,if_true,qJ,fL];rw[oY k _ x u _ _ a1 a2 (by omega) (by omega),oY k g n (ao m) _ _ hw.2 hq1.2 (by omega) (by omega),G4 hmu];congr 2;have e1:kI (upd (upd σ m (.lvl d)) x (kI σ u)) (ao m)=.lvl d:=by
   have:(m == x)=false:=by simpa using hmx
   simp[ao,kI,upd,this]
  rw[e1,uH _ hmx,uH (upd σ x (kI σ u)) (x:=m) (y:=n) (fun e=>by subst e;rw[h2]at hmu;cases hmu),G6 hm.1]
 |clear pp172c;have b0:=o6 k g n (ao m) hw.2 hq1.2 (by omega) (by simp[ao,nodesT,nodesTs]at *;omega) hf.2.2.2 (wV hm);have b1:=o6 k _ x u a1 a2 (by omega) (by rw[a4];simp[nodesTs]at hs;omega) b0 hu;simp only[ls,nmFs,af,bp,eu,List.map_nil,nmTs];exact ⟨hf.1,hm,trivial,b1,trivial⟩
 |clear pp172d;have b1:=uY k _ x u a1 a2 (by omega);rw[a4]at b1;simp only[nodesF,nodesFs,eu,List.map_nil,nodesTs,Nat.add_mul];omega
 |clear pp172e;obtain ⟨b1,b2⟩:=nl hu k _ x a1 a2 (by omega);simp[gS,el,qone,ee,eu,ep,b1,b2]
 |clear pp172f;have b1:=rP k g n m hw.2 hq1.2 (by omega) (by omega) hb.2;have b2:=rP k _ x y a1 a2 (by omega) (by omega) b1;simp[si,kE,hm,b2]
 |have b1:=rP k g n m hw.2 hq1.2 (by omega) (by omega) hb.2;have b2:=zD (u:=u) k _ x a1 a2 (by omega) (by omega) b1;simp[si,kE,hm,b2]):G:=h
theorem pm173(h:G:=by
 have jP:(!(xn == yn))=true:=by simpa using dD
 have HE:=ac (show R=false by rw[qO.o];simp[gY]);go_wp2;rw[<-fp.o];go_ret;exact ⟨az HE.o.symm,cw.o.trans ((aj _ _).mono (by have:=cw.o.size;omega))⟩):G:=h
theorem pm174(h:G:=by
 obtain ⟨p9,hi,zp,wJ,zY⟩:=info_parts hO;obtain ⟨Lu,hj,me,CX,Uj⟩:=info_parts jL
 first
 |clear pp174a;intro t
  induction t using Fm.ind with
  | h o n a s ih=>
   intro hfit ok w q hq;have hp:bA (.mk o n a s)=.mk o n (a.map aN) (s.map bA):=by simp[bA,lh,xM]
   rw[hp];clear hp;have pp24a:=();exact pm24
 |clear pp174b;have JU:=aG mg gX;clear mg gX;intro f
  induction f using Fm.ind with
  | h o n a s ih=>
  intro hfit L ins hL Pi vL ok w fq Sw cR hq;obtain ⟨qo,qn,qa,ql,qc,qb,qm,qe⟩:=fq;obtain ⟨s1,s2,hs,bL,eo⟩:=aT.1 hq;unfold FQ.val at hs;simp only[cF,Array.mk.injEq,b_,and_true,Value.int.injEq,true_and,Value.string.injEq]at hs;obtain ⟨rfl,rfl,rfl,rfl⟩:=hs;obtain rfl:=bL.len;obtain rfl:=eo.len;have hlen:=hfit.args.len;have ej:=hfit.subs.len;have mw:=hfit.name;have uM:nodesF (.mk qo n a s)=nodesTs a+nodesFs s+1:=by unfold nodesF;rfl
  have hLs:∀ t∈s,L.length+1+nodesF t<=2000000:=fun t ht=>by have:=jR s t ht;omega
  obtain ⟨eb,gt,GM,zZ,fR,JV,oO⟩:=VF bL eo hfit.args hfit.subs ih Sw cR;have JX:=bF Pi hLs (show L.length<=2000000 by omega);obtain ⟨k0,bX⟩:=am a.length;obtain ⟨m0,dW⟩:=am s.length;obtain ⟨RS,Fd⟩:=am (eT ps.reverse ins (.mk qo n a s));rw[<-bX]at hlen;rw[<-dW]at ej;obtain ⟨dA,gR⟩:=aW bX dW;obtain ⟨rZ,hi'⟩:∃rZ:List Str,rZ=(if bh qo then n :: ins else ins):=⟨_,rfl⟩;have y_:Hd ((d9 ps.reverse ins a=none->RS=none)/\(fj ps.reverse rZ s=none->RS=none)/\∀ a' s',d9 ps.reverse ins a=some a'->fj ps.reverse rZ s=some s'->RS=some (.mk qo n a' s')):=ac (by
   rw[Fd,hi'];unfold eT;refine ⟨fun h=>by rw[h],fun h=>by rw[h];cases d9 ps.reverse ins a <;> rfl,fun a' s' h1 h2=>by rw[h1,h2]⟩)
  have HI':=ac hi';obtain ⟨W3,dB⟩:=am (((w.alloc (.cells q.cells 89)).alloc (.cells #[.int .u8 qo,.string ⟨n.toArray⟩,.slice qa k0 qc,.slice qb m0 qe] 36)).alloc (.cells #[.int .u8 0,.string ⟨#[]⟩,.slice none 0 0,.slice none 0 0] 36));have aM:=yK dB;have xp:=zO dB;have xt:=sk dB;have x1:=qi dB;have wh:=Ji dB;rw[<-Fd];have bD:=aG aM wh;have y':=ac dB;have pp90a:=();exact pm90
 |clear pp174c;intro W0 f nx z hfit zu zA hqo qk s8 hfz hnz ok MZ w q zq hT hq hz;obtain ⟨o,n,a,s⟩:=f;have Fg:∀ t∈s,nodesF t<=100000/\gS t=true/\qone t=true/\depthF t<=kk:=fun t ht=>by
   simp only[gS,af]at zA;have zey:=hqo;simp only[qone,af]at hqo;have h1:=jR s t ht;have h2:=iR s t ht;simp only[nodesF]at zu;simp only[depthF]at qk;exact ⟨by omega,(iD s).1 zA.2 t ht,(gy s).1 hqo.2 t ht,by omega⟩
  have tY:bh o=true->a=[]/\∃g,s=[g]:=fun h=>lW h hqo;obtain ⟨HQs,HS4,fR,LK⟩:=eH tY Fg IH s8;have Pz:=aG hfz hnz;obtain ⟨HZ,PA⟩:=aW hz hT;have Y6:=aG hfit hq;obtain ⟨zv,zn,za,zl,zc⟩:=zq;simp only[TQ.val]at HZ ⊢;have ih:=trivial;have pp24d:=();exact pm24
 |intro c L ok w vL q cQ hL S9 Qj hq;obtain ⟨so,sn,sa,sl,sc,sb,sm,se⟩:=q;obtain ⟨v1,v2,h1,iF,mK⟩:=aT.1 hq;exact pm35):G:=h
theorem pm175(h:G:=by
 have HZ:=ac (Sa xK (t4.o.2.1.trans bj) Gw e_ dZ zH vN);have QU:=aG sd qC;have HN8:=ac hl;clear xK bj Gw e_ dZ zH vN sd qC gP lM hu XG;gi_wp2;refine RoundEnd.mk ?hT ?hr ?hm
 case hT=>kernel_rfl
 first
 |clear pp175
  case hr=>exact ⟨0+1,by omega,by kernel_rfl,HZ.o.1,HZ.o.2.1,HZ.o.2.2.1,HZ.o.2.2.2.1,kj,NL,NM,HZ.o.2.2.2.2.1,by have:=QU.o.1;have:=QN.o.2.1;have:=HN8.o;omega,by have:=QU.o.2;have:=QN.o.2.2;have:=HN8.o;omega,HZ.o.2.2.2.2.2.1,fun h=>absurd h (by decide),fun _=>by have:=tw.o.1 (by simp);rw[this]at HZ;exact HZ.o.2.2.2.2.2.2,fun h=>absurd h (by decide)⟩
  case hm=>
   refine (show 2 - (intOf (Value.int IntKind.i64 (1:Int))).toNat<2 - (intOf (Value.int IntKind.i64 (0:Int))).toNat from ?_);simp[intOf]
 |case hr=>exact ⟨1+1,by omega,by kernel_rfl,HZ.o.1,HZ.o.2.1,HZ.o.2.2.1,HZ.o.2.2.2.1,kj,NL,NM,HZ.o.2.2.2.2.1,by have:=QU.o.1;have:=QN.o.2.1;have:=HN8.o;omega,by have:=QU.o.2;have:=QN.o.2.2;have:=HN8.o;omega,HZ.o.2.2.2.2.2.1,fun h=>absurd h (by decide),fun h=>absurd h (by decide),fun _=>⟨k,tw.o.2.1 (by simp),HZ.o.2.2.2.2.2.2⟩⟩
  case hm=>
   refine (show 2 - (intOf (Value.int IntKind.i64 (2:Int))).toNat<2 - (intOf (Value.int IntKind.i64 (1:Int))).toNat from ?_);simp[intOf]):G:=h
theorem pm176(h:G:=by
 have Om:(la=none/\l0=0/\lc=0)\/∃b off,la=some ⟨b,off,none⟩:=by
  rcases sB with ⟨h1,h2,h3⟩ | ⟨b,off,h1,_⟩
  ·exact .inl ⟨h2,by rw[tD,h1];rfl,h3⟩
  ·exact .inr ⟨b,off,h1⟩
 first
 |clear pp176;subst C5;have hold:((.slice la l0 l0:Value)=.slice none 0 0/\l0=0/\L.map encStr=[])\/∃b,(.slice la l0 l0:Value)=.slice (some b) l0 l0/\(L.map encStr).length=l0 * 1/\∀ j u,(L.map encStr)[j]?=some u->(wq.alloc (.cells #[.string ⟨n.toArray⟩] 9)).drew.cell? (b.add j)=some u:=by
   rcases sB with ⟨h1,h2,h3⟩ | ⟨b,off,h1,h4⟩
   ·refine .inl ⟨?_,by rw[tD,h1];rfl,by rw[h1];rfl⟩;rw[h2,tD,h1];rfl
   ·refine .inr ⟨⟨b,off,none⟩,by rw[h1],by rw[List.length_map,tD];omega,fun j u hu=>?_⟩;rw[List.getElem?_map]at hu
    by_cases hj:j<L.length
    ·rw[gT hj]at hu;rw[wS];refine (aa (((aj wq.heap.size wq).alloc (aD _) _).drew) (h4 j hj)).trans ?_;rw[<-hu];rfl
    ·rw[List.getElem?_eq_none (by omega)]at hu;cases hu
  obtain ⟨Pr,HSh,HL0⟩:=cH hold Om tD;obtain ⟨S,hS⟩:∃S:World->Prop,S=fun V=>Below wq.heap.size wq V:=⟨_,rfl⟩;have f0:∀ V,S V->V.cell? ⟨w.heap.size+1,1,none⟩=some (.string ⟨n.toArray⟩):=fun V h=>by rw[hS]at h;exact aa h (ah We.o 1)
  have dU:S wq.drew:=by rw[hS];exact (aj _ _).drew
  obtain ⟨dp,zco⟩:=aW hS wi;clear hS hold Om tD sB wi qh;go_wp2;refine (wpIn_wide (n:=3)).1 ?_;refine lH S 9 dU fun jC bN=>?_;refine bC 0 48 (.slice la l0 lc) rfl bN fun cr=>?_;simp only[ag];refine bC 1 49 (.slice la l0 lc) rfl cr fun f_=>?_;simp only[ag];refine bC 2 50 (.int .i64 (l0:Int)) rfl f_ fun gQ=>?_;simp only[ag];refine bC 3 51 (.slice la l0 lc) rfl gQ fun iK=>?_;simp only[ag];refine bC 4 52 (.int .i64 (l0:Int)) rfl iK fun jF=>?_;simp only[ag];refine dh 5 53 (.slice la l0 l0) rfl (fun V hX=>by rcases HSh.o with ⟨rfl,rfl,rfl⟩ | ⟨b,off,rfl⟩ <;> go_simp) jF fun j7=>?_;simp only[ag];refine bC 6 54 (.pointer (some ⟨w.heap.size+1,1,none⟩)) rfl j7 fun mi=>?_;simp only[ag];refine dh 7 55 (.string ⟨n.toArray⟩) rfl (fun V hX=>by have g0:=f0 V hX;go_simp) mi fun rF=>?_;simp only[ag];refine bZ 8 rfl fun K hK=>?_;go_simp;have mJ:Below wq.heap.size wq (wq.alloc (.cells #[.string ⟨n.toArray⟩] 9)).drew:=((aj _ wq).alloc (aD _) _).drew;refine hK _ _ (fun _=>by rw[dp.o];exact mJ) (fun _=>?_);clear hK K;refine bZ 9 rfl fun K hK=>?_;refine gA (.tmp 53) (.tmp 56) 66 rfl 9 i0s (.string ByteArray.empty) 1 16 Tryz.underlying66 Sz zck zcl zcm rfl (by decide) (.slice la l0 l0) l0 (L.map encStr) rfl Pr.o ⟨wq.heap.size,0,none⟩ 1 1 [.string ⟨n.toArray⟩] rfl rfl (dc (cs:=#[.string ⟨n.toArray⟩]) (t:=9) (fr:=(0,0)) (fZ wq _)) (by simp[Value.oneCell']) (by decide) (by unfold maxLen;omega) (by omega) ?_;intro g cap X5 aA aq;have wk:Below wq.heap.size wq X5:=⟨aq.os.trans mJ.os,aq.tape.trans mJ.tape,aq.output.trans mJ.output,aU mJ.size aq.size,fun b hb=>(aq.block b (bH hb mJ.size) (by simp)).trans (mJ.block b hb)⟩;have hmp:L.map encStr ++ [.string ⟨n.toArray⟩]=(L ++ [n]).map encStr:=by rw[List.map_append];rfl
  rw[hmp]at aA;have pS:=StrsN.own aA;have wl:(wq.alloc (.cells #[.string ⟨n.toArray⟩] 9)).drew.heap.size<=g/\g<X5.heap.size:=aA.lt g rfl;have hzz:(wq.alloc (.cells #[.string ⟨n.toArray⟩] 9)).drew.heap.size=wq.heap.size+1:=by show (wq.alloc _).heap.size=_;simp
  have hgb:wq.heap.size<g/\g<X5.heap.size:=⟨by have:=wl.1;rw[hzz]at this;omega,wl.2⟩;have JZ:=ac (And.intro pS (show ∀ b,(Value.slice (some ⟨g,0,none⟩) (l0+1) cap).ownBlock=some b->b≠w.heap.size+1+1+1/\b<X5.heap.size from fun b hb=>by
   obtain rfl:g=b:=by simpa[Value.ownBlock] using hb
   have:=Pm.o.1;have:=ec.o.2;exact ⟨by omega,hgb.2⟩))
  have Pn:=aG (Hi.o.tr wk) (aU Pm.o.1 wk.size);have Po:=ac (bJ wk zaf.o);have Wf:=ac (bJ wk We.o);have Pp:=ac (bJ wk zag.o);have Wg:=ac (bJ wk zah.o);have JY:=ac (Ux.o.below wk);have zai:Hd (∀ y,(L ++ [n]).contains y=(n :: ins).contains y):=ac (fun y=>by
   have:=JX.o.1 y;rw[gV]at this ⊢;simp only[List.contains_iff_mem,List.mem_append,cd,List.not_mem_nil,or_false]at this ⊢;rw[this];exact or_comm)
  clear aA aq mJ wk hmp pS wl hgb hzz;refine eS hK ?_;clear hK K;refine bZ 10 rfl fun K hK=>?_;go_simp;refine eS hK ?_;clear hK K;refine kV ?_;have wi:=zco.o;have J0:=y_.o.2;rw[wi]at J0;have Pq:=aG y_.o.1 J0;clear y_ J0;have Wh:=ac (Fills.start (R:=w.heap.size+1+1+1) (mk:=fun rr=>#[.int .u8 qo,.string ⟨n.toArray⟩,.slice gh k1 gi,rr]) (Row:=fun r W=>RowF X5.heap.size r ([]:List Fm) W) Wg.o (RowF.nil _ _));have p3:X5.cell? ⟨w.heap.size+1,3,none⟩=some (.slice qb m0 qe):=ah Wf.o 3;clear wi;go_wp2;clear p3;go_loopw [61] (fun i wr=>∃k:Nat,k<=m0/\i=.int .i64 k/\∃row us,Fills 36 (w.heap.size+1+1+1) X5.heap.size (fun rr=>#[.int .u8 qo,.string ⟨n.toArray⟩,.slice gh k1 gi,rr]) (fun r W=>RowF X5.heap.size r us W) X5 wr row/\fj ps.reverse (n :: ins) (s.take k)=some us/\us.length=k) (fun i _=>m0 - (intOf i).toNat)
  case atStart=>exact ⟨0,aX _,rfl,_,[],Wh.o,by simp[fj],rfl⟩
  case round=>
   exact pm238
 |have HSh:=ac Om;have zdc:=ac (show ¬lc<l0 by rw[tD];omega);have HL0:=ac tD;have HG:=fE (hg.later rW.o) (aa rW.o c0) (aa rW.o c1) (aa rW.o c2) (aa rW.o c3);have HQq:=ac qh;clear hg c0 c1 c2 c3 sB Om tD qh x0 x1 x2;gi_wp2_with fail;obtain ⟨Φ,i_⟩:∃Φ:Nat->Value->Bx->World->Prop,Φ=fun k=>(match k with
   | 0=>fun v _ _=>v=.pointer (some ⟨kb,0,none⟩)
   | 1=>fun v _ _=>v=.pointer (some ⟨w.heap.size,3,none⟩)
   | 2=>fun v _ _=>v=.slice (some ⟨b,off,none⟩) 1 se
   | 3=>fun v _ _=>v=.pointer (some ⟨b,off,none⟩)
   | 4=>fun v _ _=>v=.agg #[.int .u8 go,.string gn,.slice ga gl gc,.slice gb gm ge]
   | 5=>fun v _ _=>v=.slice la l0 lc
   | 6=>fun v _ _=>v=.slice la l0 lc
   | 7=>fun v _ _=>v=.int .i64 (l0:Int)
   | 8=>fun v _ _=>v=.slice la l0 lc
   | 9=>fun v _ _=>v=.int .i64 (l0:Int)
   | 10=>fun v _ _=>v=.slice la l0 l0
   | 11=>fun v _ _=>v=.pointer (some ⟨w.heap.size,1,none⟩)
   | 12=>fun v _ _=>v=.string ⟨n.toArray⟩
   | 13=>RowG (W1.heap.size<=·) #[.string ⟨n.toArray⟩] 9 1
   | 14=>NamesG (L ++ [n])
   | 15=>FormG (W1.heap.size<=·) (bV kd (n :: c) g)
   | 16=>BoxG #[.int .u8 0,.string ⟨#[]⟩,.slice none 0 0,.slice none 0 0] 36
   | 17=>fun _ γ w=>SetG (fun cs γ w=>∃q:FQ,cs=#[.int .u8 q.o,.string q.n,.slice q.a q.l q.c,.slice q.b q.m q.e]/\FormV (okB (W1.heap.size<=·) γ w) w q.val (bV kd (n :: c) g)) 36 γ w
   | _=>fun _ _ _=>True):=⟨_,rfl⟩
  have cR:∀ k v γ w d8 w',Gr γ w d8 w'->Φ k v γ w->Φ k v d8 w':=by
   intro k v γ wz d8 wz' hG;rw[i_]
   match k with
   | 0=>exact id
   | 1=>exact id
   | 2=>exact id
   | 3=>exact id
   | 4=>exact id
   | 5=>exact id
   | 6=>exact id
   | 7=>exact id
   | 8=>exact id
   | 9=>exact id
   | 10=>exact id
   | 11=>exact id
   | 12=>exact id
   | 13=>exact RowG.step hG
   | 14=>exact NamesG.step hG
   | 15=>exact FormG.step hG
   | 16=>exact BoxG.step hG
   | 17=>exact SetG.step (fun cs ⟨q,e,h⟩=>⟨q,e,h.move hG.holds⟩) hG
   | k+18=>exact id
  refine lw Φ (PsB 16 17) (IG (fun _=>False) hZ.drew) Gr (none,false) (by kernel_rfl) rfl (by kernel_rfl) ⟨Kp.refl _,(fun _ h=>by cases h),fun _ h=>h.elim⟩ (fun k _=>⟨fun _=>rfl,fun _=>rfl⟩) (fun _ _ _ _ hG h=>h.step hG) cR ?steps ?fin
  case steps=>
   intro k hk
   match k,hk with
   | 0,_=>
    refine dE rfl rfl iz rfl (fun a γ wz bl=>⟨rfl,.pointer (some ⟨kb,0,none⟩),γ,wz,?_,Gr.refl,fun _ _ h=>h,?_⟩)
    ·have e0:a.tmps.getD 0 undef=.pointer (some ⟨kb,0,none⟩):=bP ((bl.ou 0 rfl).trans rfl);go_simp
    ·rw[i_];exact rfl
   | 1,_=>
    refine dE rfl rfl iz rfl (fun a γ wz bl=>⟨rfl,.pointer (some ⟨w.heap.size,3,none⟩),γ,wz,?_,Gr.refl,fun _ _ h=>h,?_⟩)
    ·have e4:a.tmps.getD 4 undef=.pointer (some ⟨w.heap.size,0,none⟩):=bP ((bl.ou 4 rfl).trans rfl);go_simp
    ·rw[i_];exact rfl
   | 2,_=>
    refine dE rfl rfl iz rfl (fun a γ wz bl=>⟨rfl,.slice (some ⟨b,off,none⟩) 1 se,γ,wz,?_,Gr.refl,fun _ _ h=>h,?_⟩)
    ·obtain ⟨v83,t83,f83⟩:=bl.val 1 _ 83 rfl rfl (by kernel_rfl);rw[i_]at f83;obtain rfl:=f83;have e83:=bP t83;have c:=bl.inv.1.cell (fun h=>h) (show hZ.drew.cell? ⟨w.heap.size,3,none⟩=_ from ah SH.o 3);go_simp
    ·rw[i_];exact rfl
   | 3,_=>
    refine dE rfl rfl iz rfl (fun a γ wz bl=>⟨rfl,.pointer (some ⟨b,off,none⟩),γ,wz,?_,Gr.refl,fun _ _ h=>h,?_⟩)
    ·obtain ⟨v84,t84,f84⟩:=bl.val 2 _ 84 rfl rfl (by kernel_rfl);rw[i_]at f84;obtain rfl:=f84;have e84:=bP t84;go_simp
    ·rw[i_];exact rfl
   | 4,_=>
    refine dE rfl rfl iz rfl (fun a γ wz bl=>⟨rfl,.agg #[.int .u8 go,.string gn,.slice ga gl gc,.slice gb gm ge],γ,wz,?_,Gr.refl,fun _ _ h=>h,?_⟩)
    ·obtain ⟨v85,t85,f85⟩:=bl.val 3 _ 85 rfl rfl (by kernel_rfl);rw[i_]at f85;obtain rfl:=f85;have e85:=bP t85;have c0:=bl.inv.1.cell (fun h=>h) (show hZ.drew.cell? _=_ from HG.o.2.1);have c1:=bl.inv.1.cell (fun h=>h) (show hZ.drew.cell? _=_ from HG.o.2.2.1);have c2:=bl.inv.1.cell (fun h=>h) (show hZ.drew.cell? _=_ from HG.o.2.2.2.1);have c3:=bl.inv.1.cell (fun h=>h) (show hZ.drew.cell? _=_ from HG.o.2.2.2.2);go_simp
    ·rw[i_];exact rfl
   | 5,_=>
    exact pm103
   | 6,_=>
    exact pm103
   | 7,_=>
    refine dE rfl rfl iz rfl (fun a γ wz bl=>⟨rfl,.int .i64 (l0:Int),γ,wz,?_,Gr.refl,fun _ _ h=>h,?_⟩)
    ·obtain ⟨v88,t88,f88⟩:=bl.val 6 _ 88 rfl rfl (by kernel_rfl);rw[i_]at f88;obtain rfl:=f88;have e88:=bP t88;go_simp
    ·rw[i_];exact rfl
   | 8,_=>
    exact pm103
   | 9,_=>
    refine dE rfl rfl iz rfl (fun a γ wz bl=>⟨rfl,.int .i64 (l0:Int),γ,wz,?_,Gr.refl,fun _ _ h=>h,?_⟩)
    ·obtain ⟨v90,t90,f90⟩:=bl.val 8 _ 90 rfl rfl (by kernel_rfl);rw[i_]at f90;obtain rfl:=f90;have e90:=bP t90;go_simp
    ·rw[i_];exact rfl
   | 10,_=>
    refine dE rfl rfl iz rfl (fun a γ wz bl=>⟨rfl,.slice la l0 l0,γ,wz,?_,Gr.refl,fun _ _ h=>h,?_⟩)
    ·obtain ⟨v87,t87,f87⟩:=bl.val 5 _ 87 rfl rfl (by kernel_rfl);rw[i_]at f87;obtain rfl:=f87;have e87:=bP t87;obtain ⟨v89,t89,f89⟩:=bl.val 7 _ 89 rfl rfl (by kernel_rfl);rw[i_]at f89;obtain rfl:=f89;have e89:=bP t89;obtain ⟨v91,t91,f91⟩:=bl.val 9 _ 91 rfl rfl (by kernel_rfl);rw[i_]at f91;obtain rfl:=f91;have e91:=bP t91;have Fc:=zdc.o;rcases HSh.o with ⟨rfl,rfl,rfl⟩ | ⟨b,off,rfl⟩ <;> go_simp
    ·rw[i_];exact rfl
   | 11,_=>
    refine dE rfl rfl iz rfl (fun a γ wz bl=>⟨rfl,.pointer (some ⟨w.heap.size,1,none⟩),γ,wz,?_,Gr.refl,fun _ _ h=>h,?_⟩)
    ·have e4:a.tmps.getD 4 undef=.pointer (some ⟨w.heap.size,0,none⟩):=bP ((bl.ou 4 rfl).trans rfl);go_simp
    ·rw[i_];exact rfl
   | 12,_=>
    refine dE rfl rfl iz rfl (fun a γ wz bl=>⟨rfl,.string ⟨n.toArray⟩,γ,wz,?_,Gr.refl,fun _ _ h=>h,?_⟩)
    ·obtain ⟨v93,t93,f93⟩:=bl.val 11 _ 93 rfl rfl (by kernel_rfl);rw[i_]at f93;obtain rfl:=f93;have e93:=bP t93;have c:=bl.inv.1.cell (fun h=>h) (show hZ.drew.cell? ⟨w.heap.size,1,none⟩=_ from ah SH.o 1);go_simp
    ·rw[i_];exact rfl
   | 13,_=>
    refine dE rfl rfl iz rfl (fun a γ wz bl=>⟨rfl,.slice (some ⟨wz.heap.size,0,none⟩) 1 1,γ,wz.alloc (.cells #[.string ⟨n.toArray⟩] 9),?_,Gr.keep cO,fun _ _ h=>h,?_⟩)
    ·obtain ⟨v94,t94,f94⟩:=bl.val 12 _ 94 rfl rfl (by kernel_rfl);rw[i_]at f94;obtain rfl:=f94;have e94:=bP t94;go_simp
    ·rw[i_];exact RowG.new bl.inv (fun b hb=>aU (aU yO.o bl.inv.1.size) hb) _ _ _
   | 14,_=>
    refine dE rfl rfl iz rfl (fun a γ wz bl=>?_);obtain ⟨v92,t92,f92⟩:=bl.val 10 _ 92 rfl rfl (by kernel_rfl);rw[i_]at f92;obtain rfl:=f92;have e92:=bP t92;obtain ⟨v95,t95,f95⟩:=bl.val 13 _ 95 rfl rfl (by kernel_rfl);rw[i_]at f95;obtain ⟨rb,rfl,hrb,hrc⟩:=f95;have e95:=bP t95;obtain ⟨v',w',hr,Fh,Ow,hlo⟩:=xD wz n rb hrc la l0 lc L HL0.o (by have:=HL.o.2.1;omega) (HL.o.1.later (rW.o.tr ((aj _ _).drew.tr bl.inv.1.empty))) 66;refine ⟨rfl,v',γ,w',?_,Gr.keep Ow,fun _ _ h=>h,?_⟩
    ·simp[execOp,resolve,invoke,builtin,Act.eval,e92,e95,hr,Result.andThen]
    ·rw[i_];exact ⟨Fh,fun b hb=>(okB.new (L:=fun _=>True) bl.inv (fun _ _=>trivial) b (hlo b hb).1 (hlo b hb).2).1⟩
   | 15,_=>
    refine DO rfl rfl iz rfl rfl (fun a γ wz bl=>?_);obtain ⟨v82,t82,f82⟩:=bl.val 0 _ 82 rfl rfl (by kernel_rfl);rw[i_]at f82;obtain rfl:=f82;have e82:=bP t82;obtain ⟨v86,t86,f86⟩:=bl.val 4 _ 86 rfl rfl (by kernel_rfl);rw[i_]at f86;obtain rfl:=f86;have e86:=bP t86;obtain ⟨v96,t96,f96⟩:=bl.val 14 _ 96 rfl rfl (by kernel_rfl);rw[i_]at f96;have e96:=bP t96;have TF:=(aj hZ.heap.size hZ).drew.tr bl.inv.1.empty;refine ⟨rfl,72,#[.pointer (some ⟨kb,0,none⟩),.agg #[.int .u8 go,.string gn,.slice ga gl gc,.slice gb gm ge],v96],?_,?_⟩
    ·go_simp
    ·refine aK.2 ((fR.o g (by simp) (n :: c) (L ++ [n]) _ wz v96 ⟨go,gn,ga,gl,gc,gb,gm,ge⟩ (HL.o.2.2.2.tr (rW.o.tr TF)) f96.1 (by have:=HL.o.2.1;simp only[dO,eR,List.length_nil];simp only[nodesF,nodesFs]at this;omega) (fun y=>by
      have:=HL.o.2.2.1 y;rw[List.contains_cons,<-this,gV];simp only[List.contains_iff_mem,List.mem_append,cd,List.not_mem_nil,or_false,Bool.or_eq_true,dP];exact Or.comm) (HG.o.1.later TF)).mono ?_)
     rintro e w' ⟨⟨q,rfl,hq⟩,Ol⟩;exact ⟨q.val,rfl,γ,Gr.keep Ol,fun _ _ h=>h,by rw[i_];exact FormG.new bl.inv (fun b hb=>aU (aU yO.o bl.inv.1.size) hb) hq⟩
   | 16,_=>
    refine dE rfl rfl iz rfl (fun a γ wz bl=>⟨rfl,.pointer (some ⟨wz.heap.size,0,none⟩),(some wz.heap.size,false),wz.alloc (.cells #[.int .u8 0,.string ⟨#[]⟩,.slice none 0 0,.slice none 0 0] 36),?_,uN _ (bl.psi.1 rfl),rG,?_⟩)
    ·go_simp
    ·rw[i_];exact uO
   | 17,_=>
    refine l_ rfl iz rfl (fun a γ wz bl=>?_);obtain ⟨v97,t97,f97⟩:=bl.val 15 _ 97 rfl rfl (by kernel_rfl);rw[i_]at f97;obtain ⟨q,rfl,hq⟩:=f97;have e97:=bP t97;obtain ⟨v13,WD,f13⟩:=bl.val 16 _ 13 rfl rfl (by kernel_rfl);rw[i_]at f13;obtain ⟨bb,rfl,hb1,bB,aM⟩:=f13;have e13:=bP WD;obtain ⟨R8,Q8⟩:=γ;obtain rfl:Q8=false:=bl.psi.2 rfl;simp only at hb1;subst hb1;have x:=aM rfl;obtain ⟨c0,c1,c2,c3,z0,z1,z2,z3⟩:=dy x;have k6:=dL (W:=wz) (b:=bb) (v0:=.int .u8 q.o) (v1:=.string q.n) (v2:=.slice q.a q.l q.c) (v3:=.slice q.b q.m q.e);have x6:=lA (v0:=.int .u8 q.o) (v1:=.string q.n) (v2:=.slice q.a q.l q.c) (v3:=.slice q.b q.m q.e) x;refine ⟨rfl,(some bb,true),_,?_,jw k6,oq,?_⟩
    ·simp only[FQ.val]at e97;go_simp
    ·rw[i_];exact ⟨bb,_,rfl,x6,q,rfl,hq.move (jw k6).holds⟩
   | k+18,hk=>exact absurd hk (by simp)
  case fin=>
   intro a γ wz h;obtain ⟨v82,t82,f82⟩:=h.get 0 _ 82 rfl rfl;rw[i_]at f82;obtain rfl:=f82;obtain ⟨v83,t83,f83⟩:=h.get 1 _ 83 rfl rfl;rw[i_]at f83;obtain rfl:=f83;obtain ⟨v84,t84,f84⟩:=h.get 2 _ 84 rfl rfl;rw[i_]at f84;obtain rfl:=f84;obtain ⟨v85,t85,f85⟩:=h.get 3 _ 85 rfl rfl;rw[i_]at f85;obtain rfl:=f85;obtain ⟨v86,t86,f86⟩:=h.get 4 _ 86 rfl rfl;rw[i_]at f86;obtain rfl:=f86;obtain ⟨v87,t87,f87⟩:=h.get 5 _ 87 rfl rfl;rw[i_]at f87;obtain rfl:=f87;obtain ⟨v88,t88,f88⟩:=h.get 6 _ 88 rfl rfl;rw[i_]at f88;obtain rfl:=f88;obtain ⟨v89,t89,f89⟩:=h.get 7 _ 89 rfl rfl;rw[i_]at f89;obtain rfl:=f89;obtain ⟨v90,t90,f90⟩:=h.get 8 _ 90 rfl rfl;rw[i_]at f90;obtain rfl:=f90;obtain ⟨v91,t91,f91⟩:=h.get 9 _ 91 rfl rfl;rw[i_]at f91;obtain rfl:=f91;obtain ⟨v92,t92,f92⟩:=h.get 10 _ 92 rfl rfl;rw[i_]at f92;obtain rfl:=f92;obtain ⟨v93,t93,f93⟩:=h.get 11 _ 93 rfl rfl;rw[i_]at f93;obtain rfl:=f93;obtain ⟨v94,t94,f94⟩:=h.get 12 _ 94 rfl rfl;rw[i_]at f94;obtain rfl:=f94;obtain ⟨v95,t95,f95⟩:=h.get 13 _ 95 rfl rfl;rw[i_]at f95;obtain ⟨v96,t96,f96⟩:=h.get 14 _ 96 rfl rfl;rw[i_]at f96;obtain ⟨v97,t97,f97⟩:=h.get 15 _ 97 rfl rfl;rw[i_]at f97;obtain ⟨v13,WD,f13⟩:=h.get 16 _ 13 rfl rfl;rw[i_]at f13;have fs:=h.did 17 _ rfl rfl;rw[i_]at fs;obtain ⟨bb,cs,hγ,ye,q,rfl,hq⟩:=fs;obtain ⟨b2,rfl,hb1,_,_⟩:=f13;rw[hγ]at hb1;cases hb1;subst hγ;have ha:=h.act [(82,_),(83,_),(84,_),(85,_),(86,_),(87,_),(88,_),(89,_),(90,_),(91,_),(92,_),(93,_),(94,_),(95,_),(96,_),(97,_),(13,_)] rfl (by simp only[cd,List.not_mem_nil,or_false,forall_eq_or_imp,forall_eq];exact ⟨t82,t83,t84,t85,t86,t87,t88,t89,t90,t91,t92,t93,t94,t95,t96,t97,WD⟩);rw[ha];have za2:=h.inv.1.empty;have h0b:=h.inv.2.1;clear ha h cR t82 t83 t84 t85 t86 t87 t88 t89 t90 t91 t92 t93 t94 t95 t96 t97 WD;simp only[List.foldl_cons,List.foldl_nil,List.setIfInBounds_toArray,List.set_cons_zero,List.set_cons_succ];obtain ⟨G,TG⟩:=am (bV kd (n :: c) g);have hgk:=(pt ED.o.1 ED.o.2 HP.o.2.2.1).2;have QI:rg kd [g]<=1000:=by have:=HP.o.2.2.2.1;unfold vJ at this;omega
   have ME:cW true [g]=true:=by have:=HP.o.1;simp only[okF,af]at this;exact this.2.2.2.2
   have pU:=nr HP.o.2.2.2.2.1 HP.o.2.2.2.2.2 [g] (n :: c) ME hgk QI;have zA:=rf HP.o.2.2.2.2.1 [g] (n :: c) ME hgk;simp only[dS,nodesFs,nmFs,Bool.and_true,el,ee,<-TG]at pU zA;rw[<-TG]at hq;have za3:RS=mt so n [] G:=by rw[UD.o,TD ED.o.1 ED.o.2 HQq.o,<-TG]
   have TF:Below hZ.heap.size hZ wz:=(aj _ _).drew.tr za2;have hGn:nodesF G<=1000:=by omega
   have x0:=bJ TF SH.o;have x1:=bJ TF MD.o;have x2:=bJ TF zdb.o;have cQ:hZ.heap.size<=bb:=(h0b bb rfl).1.resolve_right (fun h=>h);have CF2:=uP G ⟨by omega,pU.2⟩ (by omega) _ wz q hq;have nU:=cG hGn pU.2 zA.1 zA.2;have Y6:=ac (hq.move (ok':=(W1.heap.size<=·)) (fun b hb _=>⟨hb.1,rfl⟩));have On:=cG x0 x1 x2 ye;have Pn:=bF (rW.o.tr TF) cQ (aU yO.o TF.size);have HRq:=ac za3;simp only[FQ.val]at CF2;have Gt:=ac CF2;obtain ⟨e0,e1,e2,e3,_,_,_,_⟩:=dy ye;clear hgk QI ME pU zA hq za3 TF hGn x0 x1 x2 cQ ye CF2 za2 h0b TG fR;gi_wp2_with fail;refine aK.2 (Gt.o.mono ?_);rintro e wf ⟨⟨vf,rfl,hvf⟩,wT⟩;clear e0 e1 e2 e3;have Y7:=fO (aL [] G);have r':=eY G [];have CT:=fM (dI (aL [] G)) (by have:=nU.o.1;omega) n _ wf vf hvf.strs;rw[lZ]at CT;have x0:=bJ wT On.o.1;have x1:=bJ wT On.o.2.1;have x2:=bJ wT On.o.2.2.1;have x3:=bJ wT On.o.2.2.2;have n1:=ah x0 1;have Hh:=ac CT;have HXf:=cG x0 x1 x2 x3;have HBf:=bF (Pn.o.1.tr wT) (aU Pn.o.2.2 wT.size) (Y6.o.later wT);have RX:=bF hvf Y7 r';clear CT x0 x1 x2 x3 wT hvf Y7 r';gi_wp2_with fail;refine aK.2 (Hh.o.mono ?_);rintro e wt ⟨rfl,rfl⟩
   cases yd:(aL [] G).contains n with
   | false=>
    have HRm:=ac (show RS=.mk so n [] [fH (bQ n) (ao n) G] by rw[HRq.o];unfold mt;rw[yd];rfl);have HM:=ac (show n.length<=2000000 by have:=R2.o.2.1;omega);obtain ⟨wq,LN⟩:=am wt;subst LN;obtain ⟨IM,Hi⟩:=aW HXf.o HBf.o;clear yd n1;gi_wp2_with fail;have pp98:=();exact pm98
   | true=>
    obtain ⟨m,hm⟩:=am (c_ (aL [] G));have HRm:=ac (show RS=.mk so m [] [fH (bQ n) (ao m) G] by rw[HRq.o,hm];unfold mt;rw[yd];rfl);have HM:=ac (show m.length<=2000000 by rw[hm];exact oZ (by have:=RX.o.2.2;have:=nU.o.1;omega));have Wx:=D5 WB wt (PA.o.next HBf.o.1) (dI (aL [] G)) (by have:=RX.o.2;have:=nU.o.1;omega) (fun x hx=>o7 G [] nU.o.2.1 x ((dQ x _).1 hx)) _ vf RX.o.1.strs;rw[show c_ (dI (aL [] G))=m from (D4 (by have:=RX.o.2;have:=nU.o.1;omega) (by have:=RX.o.2;have:=nU.o.1;omega) (fun x=>dQ x _)).trans hm.symm]at Wx;have Wy:=ac Wx;clear yd n1 hm Wx;gi_wp2_with fail;refine aK.2 (Wy.o.mono ?_);rintro e w8 ⟨rfl,ic⟩;have x0:=bJ ic HXf.o.1;have x1:=bJ ic HXf.o.2.1;have x2:=bJ ic HXf.o.2.2.1;have x3:=bJ ic HXf.o.2.2.2;have r1:=ah x2 1;have rz:=ae x2 1;obtain ⟨wq,LN⟩:=am (w8.setCell ⟨w.heap.size+1+1,1,none⟩ (.string ⟨m.toArray⟩));have kq:Kp (fun b=>b=w.heap.size+1+1) w8 wq:=by rw[LN];exact ⟨rfl,rfl,rfl,by simp,fun c _ hc=>dV _ _ _ _ (by simpa using hc)⟩
    have x2q:wq.heap[w.heap.size+1+1]?=some (.cells #[.int .u8 so,.string ⟨m.toArray⟩,.slice gh 0 gi,.slice none 0 0] 36 (0,0)):=by rw[LN];exact (aY (F:=1) x2 (.string ⟨m.toArray⟩)).trans rfl
    have SB:=yN.o;have zdh:=Pn.o.2.1;have IM:=cG ((kq.same _ (bz x0) (by omega)).trans x0) ((kq.same _ (bz x1) (by omega)).trans x1) x2q ((kq.same _ (bz x3) (by have:=yO.o;omega)).trans x3);have Hi:=bF (Below.kp1 (HBf.o.1.tr ic) kq (by omega)) (aU HBf.o.2.1 (aU ic.size kq.size)) ((HBf.o.2.2.later ic).move (fun b hb hlt=>⟨hb,kq.same b hlt (by have h:W1.heap.size<=b:=hb;omega)⟩));have Hwq:=ac LN;clear x0 x1 x2 x3 kq x2q ic SB zdh LN;gi_wp2_with fail
    try rw[<-Hwq.o]
    exact pm98):G:=h
theorem pm177(h:G:=by
 have gY:(p1 == p1)=true:=by first | (simp;done) | simpa using ha
 have jP:(p2 == yn)=false:=by first | (simp;done) | simpa using hb
 have HE:=ac (show R=false by rw[HM.o,ht];simp[jP]);clear ht
 first
 |clear pp177;have pp83b:=();exact pm83
 |go_wp2;go_ret;exact ⟨az HE.o.symm,cv.o.trans (cO.mono cv.o.size)⟩):G:=h
theorem pm178(h:G:=by
 have gY:(p1 == xn)=false:=by first | (simp;done) | simpa using ha
 have jP:(p2 == p2)=true:=by first | (simp;done) | simpa using hb
 have HE:=ac (show R=false by rw[HM.o,ht];simp[gY]);clear ht
 first
 |clear pp178;have pp83b:=();exact pm83
 |go_wp2;go_ret;exact ⟨az HE.o.symm,cv.o.trans (cO.mono cv.o.size)⟩):G:=h
theorem pm179(h:G:=by
 go_wp2;go_loopw [5] (fun i wr=>∃k:Nat,k<=k0/\i=.int .i64 k/\Below w.heap.size w wr/\l.take k=m.take k) (fun i _=>k0 - (intOf i).toNat)
 case atStart=>exact ⟨0,aX _,rfl,aj _ _,by simp⟩
 first
 |clear pp179
  case round=>
   have pp308d:=();exact pm308
 |case round=>
   exact pm308):G:=h
theorem pm180(h:G:=by
 rintro X Y hn ⟨k',ym,uW,h1,h2,h3,h4,h5,h6,h7,h8⟩;have:=iH.o;have:=lO.o.1;have:=lO.o.2.1;exact ⟨k',ym,uW,h1,h2.nw hn (by omega) (by omega),h3,h4,h5,hn.cells h6,hn.cells h7,nO h8 hn⟩):G:=h
theorem pm181(h:G:=by
 have hz:=RT.o;exact ⟨hk.os.trans ec.o.os,hk.tape.trans ec.o.tape,hk.output.trans ec.o.output,aU ec.o.size hk.size,fun b hb=>(hk.same b (by omega) (by omega)).trans (ec.o.block b hb)⟩):G:=h
theorem pm182(h:G:=by
 rw[show (j+1) * 4=j * 4+1+1+1+1 by omega,show j * 4+1+1+1+1+1=(j * 4+1)+1+1+1+1 by omega,show j * 4+1+1+1+1+2=(j * 4+2)+1+1+1+1 by omega,show j * 4+1+1+1+1+3=(j * 4+3)+1+1+1+1 by omega]
 first
 |clear pp182;simpa using this
 |simpa[BT,TQ.cells] using this):G:=h
theorem pm183(h:G:=by
 have gY:(p1 == p1)=true:=by first | (simp;done) | simpa using ha
 have jP:(p2 == p2)=true:=by first | (simp;done) | simpa using hb
 have HE:=ac (show R=true by rw[HM.o,ht];simp);clear ht
 first
 |clear pp183;have pp83b:=();exact pm83
 |go_wp2;go_ret;exact ⟨az HE.o.symm,cv.o.trans (cO.mono cv.o.size)⟩):G:=h
theorem pm184(h:G:=by
 intro t
 induction t using Tm.ind with
 | h v n a ih=>
 first
 |clear pp184a;intro hfit ok w tq Sw cR hq;obtain ⟨qv,qn,qa,ql,qc⟩:=tq;obtain ⟨s,hs,bL⟩:=aP.1 hq;have pp40f:=();exact pm40
 |clear pp184b;intro o8 dD im Zc W nF nT k tq uq dZ qC gX pV huv;obtain ⟨v',n',a'⟩:=im;obtain ⟨s1,h1,iF⟩:=aP.1 pV;obtain ⟨s2,h2,Fr⟩:=aP.1 huv;obtain ⟨tv,tn,ta,tl,tc⟩:=tq;obtain ⟨uv,un,ua,ul,uc⟩:=uq;have pp64d:=();exact pm64
 |clear pp184c;intro o8 ok w q hb hq;have pp85a:=();exact pm85
 |clear pp184d;intro hn;simp only[j5,af,bp]at hn;unfold qq;simp only[nodesT];split
  ·have:=hk n hn.1;omega
  ·have h2:eh k a<=nodesTs a * 1000:=by
    have lC:=fI.1 hn.2;clear hn
    induction a with
    | nil=>simp[eh]
    | cons u a O3=>
     have h1:=ih u (f8 ..) (lC u (f8 ..));have h3:=O3 (fun t ht=>ih t (fD _ ht)) (fun t ht=>lC t (fD _ ht));simp only[eh,nodesTs];omega
   omega
 |clear pp184e;intro o8 ok w q hb hq;have pp85b:=();exact pm85
 |clear pp184f;intro hn;simp only[j5,af,bp]at hn;unfold jz;simp only[nodesT];split
  ·have h1:=hk n hn.1;have h2:=mE (termOf k n);have h3:=fO (aC (termOf k n));have h4:=List.length_filter_le dG (dI (aC (termOf k n)));omega
  ·have h2:(dr k a).length<=nodesTs a * 1000:=by
    have lC:=fI.1 hn.2;clear hn
    induction a with
    | nil=>simp[dr]
    | cons u a O3=>
     have h1:=ih u (f8 ..) (lC u (f8 ..));have h3:=O3 (fun t ht=>ih t (fD _ ht)) (fun t ht=>lC t (fD _ ht));simp only[dr,nodesTs,dO];omega
   omega
 |clear pp184g;intro o8 ze ok w q hb hq;simp only[nodesT]at ze;exact pm85
 |intro h;unfold nZ
  by_cases hv:(v && n == x)=true
  ·rw[au hv];rfl
  ·rw[ak hv];simp only[zR,hv,bW,↓reduceIte,Nat.zero_add]at h;clear hv;generalize 0=i
   induction a generalizing i with
   | nil=>simp[eV]at h
   | cons u a O3=>
    simp only[eV]at h;unfold eK
    cases hp:nZ x u with
    | some p=>rfl
    | none=>
     simp only;refine O3 (fun t ht=>ih t (fD _ ht)) ?_ _;intro h0;have:=ih u (f8 ..) (by omega);rw[hp]at this;cases this):G:=h
theorem pm185(h:G:=by
 exact pm297):G:=h
theorem pm186(h:G:=by
 obtain ⟨hl,h | ⟨g',cap,cur,hv,_,hg,hn,_,_,hx⟩⟩:=h
 ·obtain ⟨h,_⟩:=h;injection h with h;cases h
 first
 |clear pp186a
  ·have kY:n=l.length:=by simp[tp]at hl;omega
   have pp233:=();exact pm233
 |clear pp186b
  ·have kY:n=ps.length:=by rw[gM]at hl;omega
   exact pm233
 |·injection hv with _ _ hc;omega):G:=h
theorem pm187(h:G:=by
 refine hK _ _ (fun _=>by rw[dp.o];exact ei.o) (fun _=>?_);clear hK K
 first
 |clear pp187a;refine bZ 13 rfl fun K hK=>?_
  have pp166a:=();exact pm166
 |clear pp187b;refine bZ 16 rfl fun K hK=>?_
  have pp166b:=();exact pm166
 |clear pp187c;refine bZ 17 rfl fun K hK=>?_
  have pp166c:=();exact pm166
 |clear pp187d;refine bZ 29 rfl fun K hK=>?_
  go_simp;refine hK _ _ (fun _=>by rw[dp.o];exact ei.o) (fun _=>?_);clear hK K;refine bZ 30 rfl fun K hK=>?_;exact pm166
 |refine kV ?_
  first
  |clear pp166a;go_wp2;go_roundw
   case rel=>exact ⟨k+1,by omega,by omega,by go_num,tk.o,ei.o⟩
   case measure=>simp[intOf];omega
  |clear pp166b;go_wp2;go_roundw
   case rel=>exact ⟨k+1,by omega,by go_num,tk.o,ei.o⟩
   case measure=>simp[intOf];omega
  |clear pp166c;go_wp2;go_roundw
   case rel=>exact ⟨j+1,by omega,by go_num,tk.o,ei.o⟩
   case measure=>simp[intOf];omega
  |cases V with
   | false=>
    have HZ:=ac (AD.o fun h=>by
     subst h;have:=congrArg Prod.snd (HX.o.1.trans HX.o.2.symm);have e:=HV.o;rw[(h_ _ _).2 (by rw[show tx=ty from this])]at e;cases e)
    go_wp2;go_ret;exact ⟨by rw[HZ.o];rfl,HE.o.1.tr ei.o⟩
   | true=>
    go_wp2;go_roundw
    case rel=>exact ⟨j+1,by omega,by go_num,ei.o,pB HT.o bg kt (by rw[<-HX.o.1,<-HX.o.2];have:=(h_ _ _).1 HV.o.symm;injection this with e _;rw[e])⟩
    case measure=>simp[intOf];omega):G:=h
theorem pm188(h:G:=by
 go_enter Tryz.func246,Tryz.ntmps246
 first
 |clear pp188a;go_wp2_with (go_at_call 244;refine HC.o.mono ?_;rintro e w4 ⟨⟨rfl,_⟩ | ⟨k,x,hk,_⟩,aO⟩;rotate_left;(exact absurd hk (by simp));have H4:=ac aO;clear aO);go_ret;exact ⟨⟨_,rfl,OwnS.nil _ _⟩,Kp.below H4.o⟩
 |clear pp188b;go_wp2_with (go_at_call 244;refine HC.o.mono ?_;rintro e w4 ⟨rfl,aO⟩;have H4:=ac aO;clear aO);go_ret;exact ⟨⟨_,rfl,by rw[HE.o];exact HR.o.later H4.o⟩,Kp.below H4.o⟩
 |go_upto_region 2 with (go_at_call 244;refine HC.o.mono ?_;rintro e w4 ⟨⟨k,x,hk,rfl,hkx,gE⟩,aO⟩;have dZ:k<n:=(by rw[HN.o];exact (List.getElem?_eq_some_iff.1 hk).1);have H4:=cG aO hk hkx gE;have Sp:((k:Int) == -1)=false:=beq_eq_false_iff_ne.2 (by omega);have I_:IntKind.i64.wrap ((k:Int)+1)=((k+1:Nat):Int):=(by rw[ik _ (by omega)];simp);clear aO hkx gE hk);have cR:=(((DelR.start (keep:=fun x=>!pr x) HB.o.1 HB.o.2.1 HB.o.2.2 (by rw[<-HN.o];exact dZ) (fun x hx=>by rw[H4.o.2.2.2 x hx];rfl)).drop (by rw[<-HN.o];exact dZ) (by
   obtain ⟨bg,he⟩:=List.getElem?_eq_some_iff.1 H4.o.2.1;rw[he,H4.o.2.2.1];rfl)).later H4.o.1)
  have Zb:=ac cR;clear cR;go_wp2;clear Sp I_;go_loopw [5,6,7] (fun s5 s6 _ wr=>∃i j:Nat,s5=.int .i64 i/\s6=.int .i64 j/\i<j/\j<=n/\DelR (fun x=>!pr x) l b cap i j wr/\Kp (fun c=>lo<=c/\some b=some c) w wr) (fun _ s6 _ _=>n - (intOf s6).toNat)
  case atStart=>exact ⟨k,k+1,rfl,by go_num,by omega,by omega,Zb.o,Kp.below H4.o.1⟩
  case round=>
   obtain ⟨i,j,rfl,rfl,YU,Y_,hD,hK⟩:=hrel
   by_cases hlt:j<n
   ·have lr:=ce HN.o hlt;have CB:=HP.o l[j] wr (aw lr) hK;have U1:=fun W h=>DelR.keep (W:=W) (keep:=fun x=>!pr x) (l:=l) (b:=b) (cap:=cap) (i:=i) h lr (by rw[<-HN.o];exact hc) (by omega);have U2:=fun W=>DelR.drop (W:=W) (keep:=fun x=>!pr x) (l:=l) (b:=b) (cap:=cap) (i:=i) (j:=j);obtain ⟨cu,g1,g2,g3,g4,g5⟩:=hD;have cj:wr.cell? ⟨b,j,none⟩=some (.string ⟨l[j].toArray⟩):=(aI g1 j).trans (g5 j lr (aD _));have HD:=ac (show DelR (fun x=>!pr x) l b cap i j wr from ⟨cu,g1,g2,g3,g4,g5⟩);have hlz:(j:Int)<(n:Int):=by omega
    have hwj:IntKind.i64.wrap ((j:Int)+1)=((j+1:Nat):Int):=(by rw[ik _ (by omega)];simp);have hwi:IntKind.i64.wrap ((i:Int)+1)=((i+1:Nat):Int):=(by rw[ik _ (by omega)];simp);have HK:=ac hK;have HKD:=aG U1 U2;obtain ⟨u,hu⟩:=am (l[j]);rw[<-hu]at CB cj;have HU:=ac hu;clear U1 U2 g1 g2 g3 g4 g5 hK hu
    cases hq:pr u with
    | true=>
     rw[hq]at CB;obtain ⟨zw,HQ⟩:=aW CB hq;clear CB hq;go_wp2_with (go_at_fn g;refine zw.o.mono ?_;rintro e w5 ⟨rfl,bm⟩;have H5:=ac bm;clear bm);go_roundw
     case rel=>exact ⟨i,j+1,rfl,by go_num,by omega,by omega,(HKD.o.2 wr HD.o lr (by rw[<-HU.o,HQ.o];rfl)).later H5.o,HK.o.trans (Kp.below H5.o)⟩
     case measure=>simp[intOf];omega
    | false=>
     rw[hq]at CB;obtain ⟨zw,HQ⟩:=aW CB hq;clear CB hq;go_wp2_with (go_at_fn g;refine zw.o.mono ?_;rintro e w5 ⟨rfl,bm⟩;have hD5:=HD.o.later bm;have H5:=aG bm hD5;obtain ⟨cu,g1,g2,g3,g4,g5⟩:=hD5;have ci:w5.cell? ⟨b,i,none⟩=some cu[i]!:=((aI g1 i).trans (by rw[getElem!_pos cu i (by omega)];exact Array.getElem?_eq_getElem (by omega)));have fi:=ae g1 i;clear bm g1 g2 g3 g4 g5);go_roundw
     case rel=>
      refine ⟨i+1,j+1,by go_num,by go_num,by omega,by omega,?_,(HK.o.trans (Kp.below H5.o.1)).trans ⟨rfl,rfl,rfl,by simp,fun c _ hc=>dV _ _ _ _ (by intro e;obtain rfl:c=b:=e;exact hc ⟨hlo,rfl⟩)⟩⟩;have:=HKD.o.1 w5 H5.o.2 (by rw[<-HU.o,HQ.o];rfl);rw[<-HU.o]at this;exact this
     case measure=>simp[intOf];omega
   ·obtain rfl:j=n:=by omega
    have hcl:∀ ty,(Builtin.clear_ #[66] ty #[.slice (some ⟨b,i,none⟩) (j - i) (cap - i)]).run Tryz.prog wr=.ok (.tuple #[]) (wr.setCells b i (List.replicate (j - i) (.string ⟨#[]⟩))):=fun ty=>by
     obtain ⟨cu,g1,g2,_⟩:=hD;refine Lib.run_clear_slice wr _ _ ty _ Tryz.underlying66 (fun W=>Tryz.zeroValue9 W) rfl rfl b i _ _ (by omega) (fun t ht=>?_) (fun t ht=>ae g1 _);rw[(aI g1 (i+t)).trans (Array.getElem?_eq_getElem (by omega))];rfl
    obtain ⟨HD,HK⟩:=aW hD hK;have zY:i<=j:=by omega
    clear hD hK;go_upto_region 11 with fail;go_wp2_with fail;go_ret;have hD:=HD.o;rw[HN.o]at hD;refine ⟨⟨_,rfl,hD.done hlo (by rw[<-HN.o];exact hc) (by rw[<-HN.o];omega) tE.o.1 _⟩,?_⟩;exact HK.o.trans ((yp b _ i wr).mono fun c _ e=>⟨by rw[e];exact hlo,by rw[e]⟩)):G:=h
theorem pm189(h:G:=by
 obtain ⟨qv,qn,qa,ql,qc⟩:=q;obtain ⟨s,hs,bL⟩:=aP.1 hq
 first
 |clear pp189a;have pp40a:=();exact pm40
 |clear pp189b;have pp40b:=();exact pm40
 |clear pp189c;have pp40c:=();exact pm40
 |clear pp189d;have pp40e:=();exact pm40
 |clear pp189e;have pp40h:=();exact pm40
 |exact pm40):G:=h
theorem pm190(h:G:=by
 have HB:=ac ar;clear CB ar gE hp hq c0 c1 hcs gX bg;go_wp2_with (go_at_call 228;refine HC.o.mono ?_;rintro e w4 ⟨rfl,aO⟩;have H4:=ac aO;clear aO)
 first
 |clear pp190;go_ret;exact ⟨⟨_,rfl,by rw[HE.o];simp,by omega,by omega⟩,HB.o.tr H4.o⟩
 |go_roundw
  case rel=>exact ⟨k+1,by omega,by go_num,HB.o.tr H4.o,AD.o⟩
  case measure=>simp[intOf];omega):G:=h
theorem pm191(h:G:=by
 have HB:=ac ar;clear CB ar gE hq c0 c1 c2 hx hok;go_wp2_with (go_at_call 193;refine HC.o.mono ?_;rintro e w4 ⟨rfl,aO⟩;have H4:=ac aO;clear aO)
 first
 |clear pp191;go_ret;exact ⟨⟨_,rfl,by rw[HE.o];simp⟩,HB.o.tr H4.o⟩
 |go_roundw
  case rel=>exact ⟨k+1,by omega,by go_num,HB.o.tr H4.o,AD.o⟩
  case measure=>simp[intOf];omega):G:=h
theorem pm192(h:G:=by
 have e1:decide ((nodesF t:Int)<=400)=decide (nodesF t<=400):=by rw[gV];simp;omega
 have e2:decide (1+(depthF t:Int)<=40+1)=decide (depthF t<=40):=by rw[gV];simp;omega
 rw[e1,e2];rfl):G:=h
theorem pm193(h:G:=by
 have t1:(nx == ny)=false:=by simpa using my
 have t2:(nx != ny)=true:=by simpa using my
 have HZ:=ac (AD.o fun h=>by subst h;exact my (congrArg Prod.fst (HX.o.1.trans HX.o.2.symm)))
 first
 |clear pp193;have pp114b:=();exact pm114
 |go_wp2;refine (wpIn_wide (n:=3)).1 ?_;refine lH S 31 dU fun jC bN=>?_;refine bC 0 66 (.pointer (some ⟨w.heap.size,1,none⟩)) rfl bN fun cr=>?_;simp only[ag];have pp58:=();exact pm58):G:=h
theorem pm194(h:G:=by
 have he:l=m:=by
  have h1:l.take k=l:=by rw[dA.o];exact cY
  have h2:m.take k=m:=by rw[dA.o,Wv.o];exact cY
  rw[<-h1,ht,h2]
 obtain ⟨HE,HB⟩:=aW he ar;clear he ar ht;go_wp2;go_ret
 first
 |clear pp194;exact ⟨az (by rw[HE.o,oT]),HB.o⟩
 |exact ⟨az (by rw[HE.o];exact ((oc _ _).2 rfl).symm),HB.o⟩):G:=h
theorem pm195(h:G:=by
 obtain ⟨b,off,u,rfl,_,hu,c0,c1,c2⟩:=HL.o.get bg;have hf:=HF.o.mem (aw bg);have pG:=fR.o l[k] (aw bg)
 first
 |clear pp195a;rw[Hb bg]at ht;obtain ⟨⟨xv,xn,xa⟩,hx⟩:∃y,l[k]=y:=⟨_,rfl⟩;rw[hx]at hu hf pG ht;obtain ⟨s1,h2,e_⟩:=aP.1 hu;obtain ⟨uv,un,ua,ul,uc⟩:=u;have pp123b:=();exact pm123
 |clear pp195b;have jb:=zi x bg;have hb1:=qT x (l.take (k+1));have bB:=jv l (k+1);obtain ⟨⟨xv,xn,xa⟩,hx⟩:∃x,l[k]=x:=⟨_,rfl⟩;rw[hx]at hu hf pG jb;obtain ⟨s1,h1,e_⟩:=aP.1 hu;obtain ⟨uv,un,ua,ul,uc⟩:=u;simp only[TQ.val,cF,Array.mk.injEq,b_,and_true,Value.bool.injEq,Value.string.injEq]at h1;obtain ⟨rfl,rfl,rfl⟩:=h1;obtain ⟨d0,d1,d2⟩:=j4 ar c0 c1 c2;have CC:=ac (fun (W:World) (hb:Below wr.heap.size wr W)=>pG ok W ua ul uc hf.args ((e_.later ar).later hb));have HB:=ac ar;obtain ⟨N,hN⟩:=am (eV x (l.take k));obtain ⟨M,hM⟩:=am (eV x xa);have WW:eV x (l.take (k+1))=N+((if uv && xn == x then 1 else 0)+M):=by rw[jb,hN,hM];rfl
  simp only[Tm.a]at CC;rw[<-hN];rw[<-hM]at CC;rw[WW]at hb1;have HS:=ac WW;clear hu pG hf hx e_ ar jb hN hM WW c0 c1 c2;have HW:=ac (show Below wr.heap.size wr (wr.alloc (.cells #[.bool uv,.string ⟨xn.toArray⟩,.slice ua ul uc] 43)) from cO);have e2:(wr.alloc (.cells #[.bool uv,.string ⟨xn.toArray⟩,.slice ua ul uc] 43)).cell? ⟨wr.heap.size,2,none⟩=some (.slice ua ul uc):=ah (ai rfl) 2
  cases uv with
  | false=>
   simp only[Bool.false_and,bW,if_false]at hb1;have pp135a:=();exact pm135
  | true=>
   by_cases hn:xn=x
   ·subst hn;simp only[du,beq_self_eq_true,if_true]at hb1;have pp135b:=();exact pm135
   ·have ea:(xn == x)=false:=by simpa using hn
    rw[ea]at hb1;simp only[Bool.and_false,bW,if_false]at hb1;exact pm135
 |have Vy:l.drop k=l[k] :: l.drop (k+1):=gj bg;rw[Vy]at hcut;obtain ⟨⟨xv,xn,xa⟩,hx⟩:∃x,l[k]=x:=⟨_,rfl⟩;rw[hx]at hu hf pG hcut;obtain ⟨s1,h2,e_⟩:=aP.1 hu;obtain ⟨uv,un,ua,ul,uc⟩:=u;have pp123c:=();exact pm123):G:=h
theorem pm196(h:G:=by
 rw[ek.o,List.take_append_getElem dJ]at h4;exact ⟨k+1,by omega,by go_num,h4,((cv.o.trans (cC.mono Py)).alloc (by omega) _).grown aq (by simp;omega) (fun c hc=>(aA.lt c hc).1)⟩):G:=h
theorem pm197(h:G:=by
 simp only[dif_pos sS,Nat.zero_add];have d0:=ho.cells (g:=g) rfl _ _ c0;have d1:=ho.cells (g:=g) rfl _ _ c1;have d2:=ho.cells (g:=g) rfl _ _ c2;have d3:=ho.cells (g:=g) rfl _ _ c3
 first
 |clear pp197;have d4:=ho.cells (g:=g) rfl _ _ c4;rw[n9]at d0 d1 d2 d3 d4;rw[(ht j sS hj).1]at d0;exact ⟨d0,d1,d2,d3,d4⟩
 |rw[n9]at d0 d1 d2 d3;rw[(ht j sS hj).1]at d0;exact ⟨d0,d1,d2,d3⟩):G:=h
theorem pm198(h:G:=by
 obtain ⟨d0,d1,d2,d3⟩:=mu ar c0 c1 c2 c3;have hW:Below wr.heap.size wr (wr.alloc (.cells #[.int .u8 u.o,.string u.n,.slice u.a u.l u.c,.slice u.b u.m u.e] 36)):=cO
 first
 |clear pp198;have CC:=ac (fR.o s[k] (aw bg) ok _ u ((hu.later ar).later hW));obtain ⟨N,hN⟩:=am (A+i9 x (s.take k));obtain ⟨M,hM⟩:=am (fG x s[k]);have zeE:M<=nodesFs s:=by rw[hM];exact aU (pg x _) (jM (aw bg))
  have zeF:N<=10000000:=by have:=vj x (s.take k);have:=cI s k;omega
  rw[<-hM]at CC jb;rw[<-hN];have HS:=ac (show A+i9 x (s.take (k+1))=N+M by omega);obtain ⟨cw,HW⟩:=aW ar hW;clear hu ar hW jb hN hM c0 c1 c2 c3 hb1 bB;go_wp2_with (go_at_call 97;refine CC.o.mono ?_;rintro e w2 ⟨rfl,bB⟩;have bD:=ac bB;clear bB);go_roundw
  case rel=>exact ⟨k+1,by omega,by go_num,cw.o.trans ((HW.o.trans (bD.o.mono HW.o.size)).mono cw.o.size),by rw[HS.o];simp⟩
  case measure=>simp[intOf];omega
 |have As:(k:Int)<(k0:Int):=by omega
  have C2:=pG x ok _ u hf ((hu.later ar).later hW);unfold FQ.val at C2;have V8:=fun r=>uK (x:=x) xs[k] r;have su:=hf.1;obtain ⟨T,hT⟩:=am (lI x xs[k]);rw[<-hT]at ht C2 V8;obtain ⟨zw,HT⟩:=aW C2 ht;have HB:=ac (ar.trans (hW.mono ar.size));have ek:=aG V8 su;clear ar hW hu hf pG ht c0 c1 c2 c3 C2 V8 su hT
  cases T with
  | none=>
   go_wp2_with (go_at_call 165;refine zw.o.mono ?_;rintro e w4 ⟨⟨v1,v2,rfl,LH,jy⟩,aO⟩;obtain ⟨a3,c3,rfl⟩:=jy.slice;simp only[Option.map,Option.getD,List.length_nil]at LH jy ⊢;have ei:=ac (HB.o.trans (aO.mono HB.o.size));clear aO LH jy);go_roundw
   case rel=>exact ⟨k+1,by omega,by go_num,ei.o,HT.o⟩
   case measure=>simp[intOf];omega
  | some r=>
   obtain ⟨p,q⟩:=r;have hok:=ek.o.1 (p,q) rfl;have su:=ek.o.2;obtain ⟨q0,MG⟩:=am q.length;have om:0<q0:=by rw[MG];exact iZ.2 hok.1
   have O9:(0:Int)<(q0:Int):=by omega
   have C8:p.length<=2000000:=by have:=hok.2.1;simp only at this;omega
   obtain ⟨zcf,HQ0⟩:=aW C8 MG;clear MG hok ek C8 su;go_wp2_with (first | (go_at_call 165;refine zw.o.mono ?_;rintro e w4 ⟨⟨v1,v2,rfl,LH,jy⟩,aO⟩;obtain ⟨a3,c3,rfl⟩:=jy.slice;simp only[Option.map,Option.getD]at LH jy ⊢;rw[<-HQ0.o];have JO:=ac LH;have He:=ac jy;have ei:=ac (HB.o.trans (aO.mono HB.o.size));clear aO LH jy) | (at_builtin;refine tu rfl _ _ rfl w4.heap.size k (ai rfl) p _ rfl rfl (JO.o.later cO) zcf.o ?_;intro v5 w5 hv5 aq;have HG:=aG hv5 aq;clear hv5 aq));have HE:=ac (show R=some (k :: p,q) by rw[HT.o]);have bm:Below w4.heap.size w4 w5:=by
    have hg:=HG.o.2;have hs:=hg.size;exact ⟨hg.os,hg.tape,hg.output,by simp at hs;omega,fun b hb=>(hg.block b (by simp;omega) (fun h=>by injection h with h;omega)).trans (bE _ _ _ hb)⟩
   refine bI (v:=.tuple #[v5,.slice a3 q0 c3]) (by simp[results,Tryz.results165,go_sem]) rfl ⟨⟨_,_,rfl,?_,?_⟩,ei.o.trans (bm.mono ei.o.size)⟩
   ·rw[HE.o];exact HG.o.1
   ·rw[HE.o,HQ0.o];exact He.o.later bm):G:=h
theorem pm199(h:G:=by
 rcases fT ho with ⟨rfl,h0⟩ | ⟨g,cap,rfl,_⟩
 ·exact ⟨none,0,by rw[h0]⟩
 ·exact ⟨_,_,rfl⟩):G:=h
theorem pm200(h:G:=by
 refine wpOpIn_step ho (fun K' ET=>?_);rw[au hw];refine ⟨fun f _=>su f,?_⟩;rw[hr,Oper.semAt_none,nv]
 first
 |clear pp200a;exact ET _ _ (hK v d8 w' (fun h0=>by rw[hd]at h0;cases h0) hG My i_)
 |clear pp200b;exact ET _ _ (hK undef d8 w' (fun _=>rfl) hG My i_)
 |refine ⟨fun h0=>(by rw[qk]at h0;cases h0),hc.mono ?_⟩
  rintro e w' ⟨v,rfl,d8,hG,My,i_⟩;exact ET _ _ (hK v d8 w' (fun h0=>by rw[hd]at h0;cases h0) hG My i_)):G:=h
theorem pm201(h:G:=by
 intro o' OH a γ w bl K hK;obtain rfl:o'=o:=Option.some.inj (OH.symm.trans ho)
 first
 |clear pp201a;obtain ⟨hw,v,d8,w',nv,hG,My,i_⟩:=h a γ w bl;have pp200a:=();exact pm200
 |clear pp201b;obtain ⟨hw,d8,w',nv,hG,My,i_⟩:=h a γ w bl;have pp200b:=();exact pm200
 |clear pp201c;obtain ⟨hw,f,args,nv,hc⟩:=h a γ w bl;exact pm200
 |obtain ⟨v,h1,rfl⟩:=hd a γ w bl;have hw:Region.wanted o' (yielded ops a.tmps)=false:=by simp[Region.wanted,hg,yielded,hj,I4,h1];exact N4 hx
  refine wpOpIn_step ho (fun K' ET=>?_);rw[ak (by rw[hw];exact Bool.false_ne_true)];exact ⟨fun _ _=>trivial,ET _ _ (hK undef γ w (fun _=>rfl) Gr.refl (fun _ _ h=>h) (by rcases hp with h | h <;> rw[h] <;> trivial))⟩):G:=h
theorem pm202(h:G:=by
 have HE:=ac (show R=true by rw[ht,gD (by rw[dA.o];exact aD _),bM];simp);have cv:=ac (cw.o.trans (dt.mono (by omega)));clear dt ht;go_wp2;go_ret;exact ⟨az HE.o.symm,cv.o⟩):G:=h
theorem pm203(h:G:=by
 obtain ⟨b,off,⟨go,gn,ga,gl,gc,gb,gm,ge⟩,rfl,_,hg,c0,c1,c2,c3⟩:=gt.o.get (j:=0) (by simp);simp only[Nat.zero_mul,Nat.add_zero,List.getElem_cons_zero]at hg c0 c1 c2 c3
 first
 |clear pp203;obtain ⟨Fi,SI,SJ,wj⟩:=HS4.o g (by simp);have PC:=zZ.o.mem (List.mem_singleton.2 rfl);have hpb:PutB w (.cells #[.int .u8 qo,.string ⟨n.toArray⟩,.slice qa 0 qc,.slice (some ⟨b,off,none⟩) 1 qe] 36 (0,0)) (.cells #[.bool zv,.string zn,.slice za zl zc] 43 (0,0)) (.cells #[.int .u8 0,.string ⟨#[]⟩,.slice none 0 0,.slice none 0 0] 36 (0,0)) (.cells #[.int .u8 qo,.string ⟨n.toArray⟩,.slice gh 0 gi,.slice none 0 0] 36 (0,0)) hZ:=⟨rW.o,x0,xu,x1,x2⟩;have CF:=uP g PC (by omega) ok hZ ⟨go,gn,ga,gl,gc,gb,gm,ge⟩ (hg.later rW.o);simp only[FQ.val]at CF;obtain ⟨Gt,HG⟩:=aW CF hg;have nU:=fE Fi SI SJ wj PC;have HC:=cG c0 c1 c2 c3;obtain ⟨d0,d1,d2,d3⟩:=mu rW.o c0 c1 c2 c3;have p3:=ah x0 3;have HPB:=ac hpb;clear CF hg Fi SI SJ wj PC c0 c1 c2 c3 x0 x1 xu x2 hpb;gi_wp2_with fail;refine aK.2 (Gt.o.mono ?_);rintro e wf ⟨⟨vf,rfl,hvf⟩,wT⟩;clear d0 d1 d2 d3 p3;have Hn:=ac (HPB.o.later wT);obtain ⟨zcs,RX⟩:=aW wT.size hvf;clear wT hvf;have p0:wf.cell? ⟨w.heap.size,0,none⟩=some (.int .u8 qo):=ah Hn.o.b0 0;have p1:wf.cell? ⟨w.heap.size,1,none⟩=some (.string ⟨n.toArray⟩):=ah Hn.o.b0 1;have p2:wf.cell? ⟨w.heap.size,2,none⟩=some (.slice qa 0 qc):=ah Hn.o.b0 2;have p3:wf.cell? ⟨w.heap.size,3,none⟩=some (.slice (some ⟨b,off,none⟩) 1 qe):=ah Hn.o.b0 3
  by_cases hn:n=nx
  ·subst hn;have wX:Hd (RS=.mk qo n [] [g]):=ac (by rw[UD.o,mH qh,au (by simp)]);have CC:=ov (.mk qo n [] [g]) Y6.o.1 ok wf ⟨qo,⟨n.toArray⟩,qa,0,qc,some ⟨b,off,none⟩,1,qe⟩ (Y6.o.2.later Hn.o.below);simp only[FQ.val]at CC;exact pm19
  ·have hnb:(n == nx)=false:=by simpa using hn
   cases yd:(aL [] g).contains nx with
   | false=>
    have wX:Hd (RS=.mk qo n [] [g]):=ac (by rw[UD.o,mH qh,yd];simp);have pp249:=();exact pm249
   | true=>
    exact pm249
 |obtain ⟨la,lc,hLv,Qj,sB⟩:=HL.o.1;obtain ⟨l0,tD⟩:=am L.length;rw[<-tD]at hLv;subst hLv;exact pm176):G:=h
theorem pm204(h:G:=by
 have x6:=lA (v0:=.int .u8 0) (v1:=.string ⟨#[]⟩) (v2:=.slice none 0 0) (v3:=.slice none 0 0) KN.o
 first
 |clear pp204a;have k6:=dL (W:=w9) (b:=w.heap.size+1+1) (v0:=.int .u8 0) (v1:=.string ⟨#[]⟩) (v2:=.slice none 0 0) (v3:=.slice none 0 0);obtain ⟨W6,dm⟩:=am ((((w9.setCell ⟨w.heap.size+1+1,0,none⟩ (.int .u8 0)).setCell ⟨w.heap.size+1+1,1,none⟩ (.string ⟨#[]⟩)).setCell ⟨w.heap.size+1+1,2,none⟩ (.slice none 0 0)).setCell ⟨w.heap.size+1+1,3,none⟩ (.slice none 0 0));rw[<-dm]at x6 k6 ⊢;clear dm;obtain ⟨g0,g1,g2,g3,_,_,_,_⟩:=dy x6;refine bI (v:=.tuple #[FQ.val ⟨0,⟨#[]⟩,none,0,0,none,0,0⟩,.int .i64 3]) (by simp[FQ.val,results,Tryz.results32,go_sem,g0,g1,g2,g3]) rfl ⟨⟨⟨0,⟨#[]⟩,none,0,0,none,0,0⟩,(by rw[HE.o];try rfl),?_⟩,Below.kp1 (H8.o.1.tr H9.o) k6 (by omega)⟩;rw[HE.o];exact mm
 |clear pp204b;have k6:=dL (W:=w6) (b:=w.heap.size+1+1) (v0:=.int .u8 0) (v1:=.string ⟨#[]⟩) (v2:=.slice none 0 0) (v3:=.slice none 0 0);obtain ⟨W6,dm⟩:=am ((((w6.setCell ⟨w.heap.size+1+1,0,none⟩ (.int .u8 0)).setCell ⟨w.heap.size+1+1,1,none⟩ (.string ⟨#[]⟩)).setCell ⟨w.heap.size+1+1,2,none⟩ (.slice none 0 0)).setCell ⟨w.heap.size+1+1,3,none⟩ (.slice none 0 0));rw[<-dm]at x6 k6 ⊢;clear dm;obtain ⟨g0,g1,g2,g3,_,_,_,_⟩:=dy x6;refine bI (v:=.tuple #[FQ.val ⟨0,⟨#[]⟩,none,0,0,none,0,0⟩,.int .i64 er]) (by simp[FQ.val,results,Tryz.results32,go_sem,g0,g1,g2,g3]) rfl ⟨⟨⟨0,⟨#[]⟩,none,0,0,none,0,0⟩,(by rw[HE.o];try rfl),?_⟩,Below.kp1 (HB.o.1.tr (H5.o.1.tr H6.o)) k6 (by omega)⟩;rw[HE.o];exact mm
 |have k6:=dL (W:=w4) (b:=w.heap.size+1+1) (v0:=.int .u8 0) (v1:=.string ⟨#[]⟩) (v2:=.slice none 0 0) (v3:=.slice none 0 0);obtain ⟨W6,dm⟩:=am ((((w4.setCell ⟨w.heap.size+1+1,0,none⟩ (.int .u8 0)).setCell ⟨w.heap.size+1+1,1,none⟩ (.string ⟨#[]⟩)).setCell ⟨w.heap.size+1+1,2,none⟩ (.slice none 0 0)).setCell ⟨w.heap.size+1+1,3,none⟩ (.slice none 0 0));rw[<-dm]at x6 k6 ⊢;clear dm;obtain ⟨g0,g1,g2,g3,_,_,_,_⟩:=dy x6;refine bI (v:=.tuple #[FQ.val ⟨0,⟨#[]⟩,none,0,0,none,0,0⟩,.int .i64 2]) (by simp[FQ.val,results,Tryz.results32,go_sem,g0,g1,g2,g3]) rfl ⟨⟨⟨0,⟨#[]⟩,none,0,0,none,0,0⟩,(by rw[HE.o];try rfl),?_⟩,Below.kp1 (HB.o.1.tr H4.o) k6 (by omega)⟩;rw[HE.o];exact mm):G:=h
theorem pm205(h:G:=by
 have cB:((a.map (cM kd.ts sc)).take k).length=k:=by rw[dT];have:=dA.o;simp;omega
 have ki:(a.map (cM kd.ts sc)).take k=(a.map (cM kd.ts sc)):=gU (by have:=dA.o;simp;omega)
 first
 |clear pp205;have pp17e:=();exact pm17
 |have pp17d:=();exact pm17):G:=h
theorem pm206(h:G:=by
 have dU:S wz.drew:=by rw[hS];exact ar.drew
 have d0:=aa ar g0;have HX:=ac (hx.later (jj.o.1.tr ar));obtain ⟨HB,HR,dp,HM,HNf⟩:=t5 ar hR hS hm uM;have Tn:M<=40:=by omega
 first
 |clear pp206;clear hS hR ar hx g0 c0 c1 c2 c3 c4 hm uM YI;go_wp2;refine (wpIn_wide (n:=3)).1 ?_;have iz:=fd;refine lH S 17 dU fun jC bN=>?_;refine bC 0 23 (.slice ra M rc) rfl bN fun cr=>?_;simp only[ag];refine bC 1 24 (.pointer (some ⟨w.heap.size,0,none⟩)) rfl bN fun cr=>?_;simp only[ag];refine dh 2 25 (.slice (some ⟨b,off,none⟩) n1 qc) rfl (fun V hX=>by have g:=f0 V hX;go_simp) bN fun cr=>?_;simp only[ag];refine bC 3 26 (.int .i64 k) rfl bN fun cr=>?_;simp only[ag];refine bC 4 27 (.pointer (some ⟨b,off+k * 5,none⟩)) rfl bN fun cr=>?_;simp only[ag];refine bC 5 28 (.pointer (some ⟨b,off+k * 5+1,none⟩)) rfl bN fun cr=>?_;simp only[ag];refine dh 6 29 (.agg #[.int .u8 x.o,.string x.n,.slice x.a x.l x.c,.slice x.b x.m x.e]) rfl (fun V hX=>by obtain ⟨_,g0,g1,g2,g3⟩:=ff V hX;go_simp) bN fun cr=>?_;simp only[ag];refine bC 7 30 (.pointer (some ⟨w.heap.size,0,none⟩)) rfl bN fun cr=>?_;simp only[ag];refine dh 8 31 (.slice (some ⟨b,off,none⟩) n1 qc) rfl (fun V hX=>by have g:=f0 V hX;go_simp) bN fun cr=>?_;simp only[ag];refine bC 9 32 (.int .i64 k) rfl bN fun cr=>?_;simp only[ag];refine bC 10 33 (.pointer (some ⟨b,off+k * 5,none⟩)) rfl bN fun cr=>?_;simp only[ag];refine bC 11 34 (.pointer (some ⟨b,off+k * 5,none⟩)) rfl bN fun cr=>?_;simp only[ag];refine dh 12 35 (.string ⟨nm.toArray⟩) rfl (fun V hX=>by obtain ⟨g0,_⟩:=ff V hX;go_simp) bN fun cr=>?_;simp only[ag];refine bZ 13 rfl fun K hK=>?_;go_simp;refine aK.2 ((Ff ⟨nm.toArray⟩ none 0 0 _).mono ?_);rintro _ A ⟨rfl,hA⟩;have Ie:Below W1.heap.size W1 A:=HB.o.drew.tr hA;have YJ:Below wz.heap.size wz A:=((aj wz.heap.size wz).drew).trans hA;refine hK _ _ (fun _=>by rw[dp.o];exact Ie) (fun _=>?_);clear hK K;refine bZ 14 rfl fun K hK=>?_;go_simp;refine hK _ _ (fun _=>by rw[dp.o];exact Ie.alloc Ie.size _) (fun _=>?_);clear hK K;refine bZ 15 rfl fun K hK=>?_;refine nR (.tmp 23) (.tmp 37) rfl W1.heap.size ra M rc (kB (bd.fs.take k)) [fm,.mk 1 nm [] []] [x,⟨1,⟨nm.toArray⟩,none,0,0,none,0,0⟩] wz A _ HR.o HM.o YJ HB.o.size rfl (by simp) (fun j h1 h2=>?_) rfl rfl rfl (by simp;omega) (fun g eF w4 fh JD=>?_)
  ·rcases j with _ | _ | j
   ·exact HX.o.move (show fk (fun b=>b<w.heap.size) (fun b=>(Value.slice ra M rc).ownBlock≠some b) wz A from fun c hc hlt=>⟨fun e=>by obtain ⟨_,_,ho,_⟩:=HR.o;have:=(ho.lt c e).1;have:=jj.o.1.size;omega,YJ.block c hlt⟩)
   ·exact aT.2 ⟨_,_,rfl,cq,gI⟩
   ·simp only[eR,List.length_nil]at h1;omega
  have cB:=N7 bg;rw[<-HNf.o]at cB;simp only at cB;rw[<-cB]at fh;have tk:=ac fh;have ei:=ac (JD W1 Ie (aD _));clear fh JD Ie YJ hA cB;have pp187b:=();exact pm187
 |clear hS hR ar hx g0 c0 c1 c2 c3 hm uM YI;go_wp2;refine (wpIn_wide (n:=3)).1 ?_;have iz:=fd;refine lH S 18 dU fun jC bN=>?_;refine bC 0 46 (.slice ra M rc) rfl bN fun cr=>?_;simp only[ag];refine bC 1 47 (.pointer (some ⟨w.heap.size,1,none⟩)) rfl bN fun cr=>?_;simp only[ag];refine dh 2 48 (.slice (some ⟨b,off,none⟩) n2 qe) rfl (fun V hX=>by have g:=f0 V hX;go_simp) bN fun cr=>?_;simp only[ag];refine bC 3 49 (.int .i64 j) rfl bN fun cr=>?_;simp only[ag];refine bC 4 50 (.pointer (some ⟨b,off+j * 4,none⟩)) rfl bN fun cr=>?_;simp only[ag];refine bC 5 51 (.pointer (some ⟨b,off+j * 4,none⟩)) rfl bN fun cr=>?_;simp only[ag];refine dh 6 52 (.string ⟨nm.toArray⟩) rfl (fun V hX=>by obtain ⟨g0,_⟩:=ff V hX;go_simp) bN fun cr=>?_;simp only[ag];refine bC 7 53 (.pointer (some ⟨w.heap.size,1,none⟩)) rfl bN fun cr=>?_;simp only[ag];refine dh 8 54 (.slice (some ⟨b,off,none⟩) n2 qe) rfl (fun V hX=>by have g:=f0 V hX;go_simp) bN fun cr=>?_;simp only[ag];refine bC 9 55 (.int .i64 j) rfl bN fun cr=>?_;simp only[ag];refine bC 10 56 (.pointer (some ⟨b,off+j * 4,none⟩)) rfl bN fun cr=>?_;simp only[ag];refine bC 11 57 (.pointer (some ⟨b,off+j * 4+1,none⟩)) rfl bN fun cr=>?_;simp only[ag];refine dh 12 58 (.agg #[.bool x.v,.string x.n,.slice x.a x.l x.c]) rfl (fun V hX=>by obtain ⟨_,g0,g1,g2⟩:=ff V hX;go_simp) bN fun cr=>?_;simp only[ag];refine bZ 13 rfl fun K hK=>?_;go_simp;have Oo:Below W1.heap.size W1 (wz.drew.alloc (.cells #[.bool x.v,.string x.n,.slice x.a x.l x.c] 43)):=HB.o.drew.alloc HB.o.size _;refine hK _ _ (fun _=>by rw[dp.o];exact Oo) (fun _=>?_);clear hK K;refine bZ 14 rfl fun K hK=>?_;go_simp;refine aK.2 ((Ff ⟨nm.toArray⟩ (some ⟨wz.heap.size,0,none⟩) 1 1 _).mono ?_);rintro _ A ⟨rfl,hA⟩;have Ie:Below W1.heap.size W1 A:=Oo.tr hA;have hw0:Below wz.heap.size wz (wz.drew.alloc (.cells #[.bool x.v,.string x.n,.slice x.a x.l x.c] 43)):=((aj wz.heap.size wz).drew).alloc (aD _) _;have YJ:Below wz.heap.size wz A:=hw0.tr hA;have UF:A.heap[wz.heap.size]?=some (.cells #[.bool x.v,.string x.n,.slice x.a x.l x.c] 43 (0,0)):=(hA.block wz.heap.size (by simp)).trans (ai (by simp));refine hK _ _ (fun _=>by rw[dp.o];exact Ie) (fun _=>?_);clear hK K;refine bZ 15 rfl fun K hK=>?_;go_simp;refine hK _ _ (fun _=>by rw[dp.o];exact Ie.alloc Ie.size _) (fun _=>?_);clear hK K;refine bZ 16 rfl fun K hK=>?_;refine nR (.tmp 46) (.tmp 61) rfl W1.heap.size ra M rc (kB bd.fs ++ lq (bd.ts.take j)) [.mk 1 nm [tm] []] [⟨1,⟨nm.toArray⟩,some ⟨wz.heap.size,0,none⟩,1,1,none,0,0⟩] wz A _ HR.o HM.o YJ HB.o.size rfl (by simp) (fun j h1 h2=>?_) rfl rfl rfl (by simp;omega) (fun g eF w4 fh JD=>?_)
  ·rcases j with _ | j
   ·have aA:∀ c,(Value.slice ra M rc).ownBlock=some c->W1.heap.size<=c/\c<wz.heap.size:=fun c e=>by obtain ⟨_,_,ho,_⟩:=HR.o;exact ho.lt c e
    refine aT.2 ⟨_,_,rfl,⟨_,1,fun _=>TQ.val x,rfl,.inr ⟨wz.heap.size,0,rfl,fun e=>by have:=aA _ e;omega,fun j hj=>?_⟩,fun j hj=>?_⟩,gI⟩
    ·obtain rfl:j=0:=by simpa using hj
     exact ⟨_,_,_,rfl,lQ UF⟩
    ·obtain rfl:j=0:=by simpa using hj
     exact HX.o.move (show fk (fun b=>b<w.heap.size) (fun b=>(Value.slice ra M rc).ownBlock≠some b) wz A from fun c hc eJ=>⟨fun e=>by have:=(aA c e).1;have:=jj.o.1.size;omega,YJ.block c eJ⟩)
   ·simp only[eR,List.length_nil]at h1;omega
  have cB:=N8 bg;rw[<-HNf.o]at cB;simp only at cB;rw[List.append_assoc,<-cB]at fh;have tk:=ac fh;have ei:=ac (JD W1 Ie (aD _));clear fh JD Ie YJ hA cB Oo hw0 UF;have pp187c:=();exact pm187):G:=h
theorem pm207(h:G:=by
 have h1:DataW.trod enc Tryz.prog W 0 fQ held n 9 [c1]=some x1:=hf 1 _ rfl;have h2:DataW.trod enc Tryz.prog W 0 fQ held n 33 [c2]=some x2:=hf 2 _ rfl
 first
 |clear pp207;obtain ⟨v,hv,rfl⟩:=DataW.trod_bool Tryz.underlying4 h0;simp only[b_,and_true]at hv;subst hv;obtain ⟨s,rfl,hs,_⟩:=nu h1;obtain ⟨l,hl,hln,hlm⟩:=sP h2 (fun m hm=>ih m (by omega));refine ⟨.mk v s l,aP.2 ⟨_,rfl,hl⟩,?_,?_⟩
  ·simp only[nodesT,cz,List.map_nil,Rows.uptoBulk,Rows.uptoBulkAll];omega
  ·simp only[j5,cz,List.map_nil,Rows.uptoBulk,Rows.uptoBulkAll,af,bp];exact ⟨by omega,dX (by omega) _ hlm⟩
 |have h3:DataW.trod enc Tryz.prog W 0 fQ held n 34 [c3]=some x3:=hf 3 _ rfl;obtain ⟨o,hv,rfl,ho⟩:=DataW.trod_int Tryz.underlying5 h0;simp only[b_,and_true]at hv;subst hv;have ho:0<=o/\o<=255:=by
   simp[Lit.wf,IntKind.min,IntKind.max,IntKind.signed,IntKind.bits]at ho;omega
  obtain ⟨s,rfl,hs,_⟩:=nu h1;obtain ⟨l,hl,hln,hlm⟩:=sP h2 (fun m _=>wd m);obtain ⟨k,hk,dZ,kt⟩:=DE h3 (fun m hm=>ih m (by omega));refine ⟨.mk o s l k,aT.2 ⟨_,_,rfl,hl,hk⟩,?_,?_⟩
  ·simp only[nodesF,cz,List.map_nil,Rows.uptoBulk,Rows.uptoBulkAll];omega
  ·simp only[ls,cz,List.map_nil,Rows.uptoBulk,Rows.uptoBulkAll,af,bp];exact ⟨ho,by omega,dX (by omega) _ hlm,fB (by omega) _ kt⟩):G:=h
theorem pm208(h:G:=by
 obtain ⟨ra,rc,rfl⟩:=hF.row.slice;rw[cB]at hF;have HR:=ac (ki ▸ hF.row)
 first
 |clear pp208a;have x2:=hF.box;have x1:=hF.other (by omega) jN.o;obtain ⟨c0,c1,c2⟩:=lQ x2;obtain ⟨e0,e1,e2⟩:=lQ x1;have z0:=ae x1 0;have z1:=ae x1 1;have z2:=ae x1 2;obtain ⟨mv,cv⟩:=aW x1 ar;clear ki cB hF x1 x2 ar;gi_wp2
  first
  |clear pp17a;have x6:=qA (v0:=.bool qv) (v1:=.string ⟨n.toArray⟩) (v2:=.slice ra k rc) mv.o;have k6:=eM (W:=wr) (b:=w.heap.size+1) (v0:=.bool qv) (v1:=.string ⟨n.toArray⟩) (v2:=.slice ra k rc);obtain ⟨W6,dm⟩:=am (((wr.setCell ⟨w.heap.size+1,0,none⟩ (.bool qv)).setCell ⟨w.heap.size+1,1,none⟩ (.string ⟨n.toArray⟩)).setCell ⟨w.heap.size+1,2,none⟩ (.slice ra k rc));rw[<-dm]at x6 k6 ⊢;clear dm;have g0:W6.cell? ⟨w.heap.size+1,0,none⟩=some (.bool qv):=ah x6 0;have g1:W6.cell? ⟨w.heap.size+1,1,none⟩=some (.string ⟨n.toArray⟩):=ah x6 1;have g2:W6.cell? ⟨w.heap.size+1,2,none⟩=some (.slice ra k rc):=ah x6 2;have hz:=(bz jN.o);have h6:TermV (w.heap.size<=·) W6 (TQ.val ⟨qv,⟨n.toArray⟩,ra,k,rc⟩) (.mk qv n a):=(HR.o.kp1 k6 (by omega)).term ec.o.size;refine bI (v:=TQ.val ⟨qv,⟨n.toArray⟩,ra,k,rc⟩) (by simp[TQ.val,results,Tryz.results53,go_sem,g0,g1,g2]) rfl ⟨⟨qv,⟨n.toArray⟩,ra,k,rc⟩,rfl,h6,Below.kp1 cv.o k6 (by omega)⟩
  |clear pp17b;have x6:=qA (v0:=.bool false) (v1:=.string ⟨n.toArray⟩) (v2:=.slice ra k rc) mv.o;have k6:=eM (W:=wr) (b:=w.heap.size+1) (v0:=.bool false) (v1:=.string ⟨n.toArray⟩) (v2:=.slice ra k rc);obtain ⟨W6,dm⟩:=am (((wr.setCell ⟨w.heap.size+1,0,none⟩ (.bool false)).setCell ⟨w.heap.size+1,1,none⟩ (.string ⟨n.toArray⟩)).setCell ⟨w.heap.size+1,2,none⟩ (.slice ra k rc));rw[<-dm]at x6 k6 ⊢;clear dm;have g0:W6.cell? ⟨w.heap.size+1,0,none⟩=some (.bool false):=ah x6 0;have g1:W6.cell? ⟨w.heap.size+1,1,none⟩=some (.string ⟨n.toArray⟩):=ah x6 1;have g2:W6.cell? ⟨w.heap.size+1,2,none⟩=some (.slice ra k rc):=ah x6 2;have hz:=(bz jN.o);have h6:TermV (w.heap.size<=·) W6 (TQ.val ⟨false,⟨n.toArray⟩,ra,k,rc⟩) (.mk false n (a.map (gp f))):=(HR.o.kp1 k6 (by omega)).term ec.o.size;refine bI (v:=TQ.val ⟨false,⟨n.toArray⟩,ra,k,rc⟩) (by simp[TQ.val,results,Tryz.results154,go_sem,g0,g1,g2]) rfl (⟨⟨⟨false,⟨n.toArray⟩,ra,k,rc⟩,rfl,h6⟩,Below.kp1 cv.o k6 (by omega)⟩)
  |clear pp17c;have x6:=qA (v0:=.bool true) (v1:=.string ⟨n.toArray⟩) (v2:=.slice ra k rc) mv.o;have k6:=eM (W:=wr) (b:=w.heap.size+1) (v0:=.bool true) (v1:=.string ⟨n.toArray⟩) (v2:=.slice ra k rc);obtain ⟨W6,dm⟩:=am (((wr.setCell ⟨w.heap.size+1,0,none⟩ (.bool true)).setCell ⟨w.heap.size+1,1,none⟩ (.string ⟨n.toArray⟩)).setCell ⟨w.heap.size+1,2,none⟩ (.slice ra k rc));rw[<-dm]at x6 k6 ⊢;clear dm;have g0:W6.cell? ⟨w.heap.size+1,0,none⟩=some (.bool true):=ah x6 0;have g1:W6.cell? ⟨w.heap.size+1,1,none⟩=some (.string ⟨n.toArray⟩):=ah x6 1;have g2:W6.cell? ⟨w.heap.size+1,2,none⟩=some (.slice ra k rc):=ah x6 2;have hz:=(bz jN.o);have h6:TermV (w.heap.size<=·) W6 (TQ.val ⟨true,⟨n.toArray⟩,ra,k,rc⟩) (.mk true n (a.map (gp f))):=(HR.o.kp1 k6 (by omega)).term ec.o.size;refine bI (v:=TQ.val ⟨true,⟨n.toArray⟩,ra,k,rc⟩) (by simp[TQ.val,results,Tryz.results154,go_sem,g0,g1,g2]) rfl (⟨⟨⟨true,⟨n.toArray⟩,ra,k,rc⟩,rfl,h6⟩,Below.kp1 cv.o k6 (by omega)⟩)
  |clear pp17d;have x6:=qA (v0:=.bool false) (v1:=.string ⟨n.toArray⟩) (v2:=.slice ra k rc) mv.o;have k6:=eM (W:=wr) (b:=w.heap.size+1) (v0:=.bool false) (v1:=.string ⟨n.toArray⟩) (v2:=.slice ra k rc);obtain ⟨W6,dm⟩:=am (((wr.setCell ⟨w.heap.size+1,0,none⟩ (.bool false)).setCell ⟨w.heap.size+1,1,none⟩ (.string ⟨n.toArray⟩)).setCell ⟨w.heap.size+1,2,none⟩ (.slice ra k rc));rw[<-dm]at x6 k6 ⊢;clear dm;have g0:W6.cell? ⟨w.heap.size+1,0,none⟩=some (.bool false):=ah x6 0;have g1:W6.cell? ⟨w.heap.size+1,1,none⟩=some (.string ⟨n.toArray⟩):=ah x6 1;have g2:W6.cell? ⟨w.heap.size+1,2,none⟩=some (.slice ra k rc):=ah x6 2;have hz:=(bz jN.o);have h6:TermV (w.heap.size<=·) W6 (TQ.val ⟨false,⟨n.toArray⟩,ra,k,rc⟩) (.mk false n (a.map (cM kd.ts sc))):=(HR.o.kp1 k6 (by omega)).term ec.o.size;refine bI (v:=TQ.val ⟨false,⟨n.toArray⟩,ra,k,rc⟩) (by simp[TQ.val,results,Tryz.results127,go_sem,g0,g1,g2]) rfl (⟨⟨⟨false,⟨n.toArray⟩,ra,k,rc⟩,rfl,h6⟩,Below.kp1 cv.o k6 (by omega)⟩)
  |clear pp17e;have x6:=qA (v0:=.bool true) (v1:=.string ⟨n.toArray⟩) (v2:=.slice ra k rc) mv.o;have k6:=eM (W:=wr) (b:=w.heap.size+1) (v0:=.bool true) (v1:=.string ⟨n.toArray⟩) (v2:=.slice ra k rc);obtain ⟨W6,dm⟩:=am (((wr.setCell ⟨w.heap.size+1,0,none⟩ (.bool true)).setCell ⟨w.heap.size+1,1,none⟩ (.string ⟨n.toArray⟩)).setCell ⟨w.heap.size+1,2,none⟩ (.slice ra k rc));rw[<-dm]at x6 k6 ⊢;clear dm;have g0:W6.cell? ⟨w.heap.size+1,0,none⟩=some (.bool true):=ah x6 0;have g1:W6.cell? ⟨w.heap.size+1,1,none⟩=some (.string ⟨n.toArray⟩):=ah x6 1;have g2:W6.cell? ⟨w.heap.size+1,2,none⟩=some (.slice ra k rc):=ah x6 2;have hz:=(bz jN.o);have h6:TermV (w.heap.size<=·) W6 (TQ.val ⟨true,⟨n.toArray⟩,ra,k,rc⟩) (.mk true n (a.map (cM kd.ts sc))):=(HR.o.kp1 k6 (by omega)).term ec.o.size;refine bI (v:=TQ.val ⟨true,⟨n.toArray⟩,ra,k,rc⟩) (by simp[TQ.val,results,Tryz.results127,go_sem,g0,g1,g2]) rfl (⟨⟨⟨true,⟨n.toArray⟩,ra,k,rc⟩,rfl,h6⟩,Below.kp1 cv.o k6 (by omega)⟩)
  |clear pp17f;have x6:=qA (v0:=.bool false) (v1:=.string ⟨n.toArray⟩) (v2:=.slice ra k rc) mv.o;have k6:=eM (W:=wr) (b:=w.heap.size+1) (v0:=.bool false) (v1:=.string ⟨n.toArray⟩) (v2:=.slice ra k rc);obtain ⟨W6,dm⟩:=am (((wr.setCell ⟨w.heap.size+1,0,none⟩ (.bool false)).setCell ⟨w.heap.size+1,1,none⟩ (.string ⟨n.toArray⟩)).setCell ⟨w.heap.size+1,2,none⟩ (.slice ra k rc));rw[<-dm]at x6 k6 ⊢;clear dm;have g0:W6.cell? ⟨w.heap.size+1,0,none⟩=some (.bool false):=ah x6 0;have g1:W6.cell? ⟨w.heap.size+1,1,none⟩=some (.string ⟨n.toArray⟩):=ah x6 1;have g2:W6.cell? ⟨w.heap.size+1,2,none⟩=some (.slice ra k rc):=ah x6 2;have hz:=(bz jN.o);have h6:TermV (w.heap.size<=·) W6 (TQ.val ⟨false,⟨n.toArray⟩,ra,k,rc⟩) (.mk false n (a.map aN)):=(HR.o.kp1 k6 (by omega)).term ec.o.size;refine bI (v:=TQ.val ⟨false,⟨n.toArray⟩,ra,k,rc⟩) (by simp[TQ.val,results,Tryz.results69,go_sem,g0,g1,g2]) rfl (⟨⟨false,⟨n.toArray⟩,ra,k,rc⟩,rfl,h6,Below.kp1 cv.o k6 (by omega)⟩)
  |have x6:=qA (v0:=.bool true) (v1:=.string ⟨n.toArray⟩) (v2:=.slice ra k rc) mv.o;have k6:=eM (W:=wr) (b:=w.heap.size+1) (v0:=.bool true) (v1:=.string ⟨n.toArray⟩) (v2:=.slice ra k rc);obtain ⟨W6,dm⟩:=am (((wr.setCell ⟨w.heap.size+1,0,none⟩ (.bool true)).setCell ⟨w.heap.size+1,1,none⟩ (.string ⟨n.toArray⟩)).setCell ⟨w.heap.size+1,2,none⟩ (.slice ra k rc));rw[<-dm]at x6 k6 ⊢;clear dm;have g0:W6.cell? ⟨w.heap.size+1,0,none⟩=some (.bool true):=ah x6 0;have g1:W6.cell? ⟨w.heap.size+1,1,none⟩=some (.string ⟨n.toArray⟩):=ah x6 1;have g2:W6.cell? ⟨w.heap.size+1,2,none⟩=some (.slice ra k rc):=ah x6 2;have hz:=(bz jN.o);have h6:TermV (w.heap.size<=·) W6 (TQ.val ⟨true,⟨n.toArray⟩,ra,k,rc⟩) (.mk true n (a.map aN)):=(HR.o.kp1 k6 (by omega)).term ec.o.size;refine bI (v:=TQ.val ⟨true,⟨n.toArray⟩,ra,k,rc⟩) (by simp[TQ.val,results,Tryz.results69,go_sem,g0,g1,g2]) rfl (⟨⟨true,⟨n.toArray⟩,ra,k,rc⟩,rfl,h6,Below.kp1 cv.o k6 (by omega)⟩)
 |clear pp208b;have pp96:=();exact pm96
 |clear pp208c;exact pm96
 |have x2:=hF.box;have x1:=hF.other (by omega) MD.o;obtain ⟨c0,c1,c2,c3⟩:=m5 x2;obtain ⟨e0,e1,e2,e3,z0,z1,z2,z3⟩:=dy x1;have mv:=ac x1;have OO:=ac (VO.o.kp1 hF.kp (by have:=yN.o;omega));have cv:=ac ar;clear ki cB hF x1 x2 ar;gi_wp2;have x6:=lA (v0:=.int .u8 so) (v1:=.string ⟨n.toArray⟩) (v2:=.slice gh k1 gi) (v3:=.slice ra k rc) mv.o;have k6:=dL (W:=wr) (b:=w.heap.size+1) (v0:=.int .u8 so) (v1:=.string ⟨n.toArray⟩) (v2:=.slice gh k1 gi) (v3:=.slice ra k rc);obtain ⟨W6,dm⟩:=am ((((wr.setCell ⟨w.heap.size+1,0,none⟩ (.int .u8 so)).setCell ⟨w.heap.size+1,1,none⟩ (.string ⟨n.toArray⟩)).setCell ⟨w.heap.size+1,2,none⟩ (.slice gh k1 gi)).setCell ⟨w.heap.size+1,3,none⟩ (.slice ra k rc));rw[<-dm]at x6 k6 ⊢;clear dm;have g0:W6.cell? ⟨w.heap.size+1,0,none⟩=some (.int .u8 so):=ah x6 0;have g1:W6.cell? ⟨w.heap.size+1,1,none⟩=some (.string ⟨n.toArray⟩):=ah x6 1;have g2:W6.cell? ⟨w.heap.size+1,2,none⟩=some (.slice gh k1 gi):=ah x6 2;have g3:W6.cell? ⟨w.heap.size+1,3,none⟩=some (.slice ra k rc):=ah x6 3;have hz:=yN.o;have h6:FormV (w.heap.size<=·) W6 (FQ.val ⟨so,⟨n.toArray⟩,gh,k1,gi,ra,k,rc⟩) (.mk so n (a.map (cM kd.ts c)) (ss.map (bV kd c))):=RowF.form (OO.o.kp1 k6 (by omega)) (HR.o.kp1 k6 (by have:=yO.o;omega)) ec.o.size (by have:=yO.o;have:=ec.o.size;omega);refine bI (v:=FQ.val ⟨so,⟨n.toArray⟩,gh,k1,gi,ra,k,rc⟩) (by simp[FQ.val,results,Tryz.results72,go_sem,g0,g1,g2,g3]) rfl (⟨⟨⟨so,⟨n.toArray⟩,gh,k1,gi,ra,k,rc⟩,rfl,wX.o ▸ h6⟩,Below.kp1 cv.o k6 (by omega)⟩)):G:=h
theorem pm209(h:G:=by
 simp only[FQ.val,cF,Array.mk.injEq,b_,and_true,Value.int.injEq,true_and,Value.string.injEq]at h1 h2;obtain ⟨rfl,rfl,rfl,rfl⟩:=h1;obtain ⟨rfl,rfl,rfl,rfl⟩:=h2
 first
 |clear pp209;obtain rfl:=Ph.len;obtain rfl:=Ct.len;simp only at gX;obtain rfl:=gX.1.len;obtain ⟨X,hX⟩:∃X:Pl,X=⟨.mk SQ sn LO ss,.mk fo' fn UO fs,ps.reverse⟩:=⟨_,rfl⟩;obtain ⟨zg,DT⟩:∃zg:Sco,zg=(if bh SQ then (sn,fn) :: ps.reverse else ps.reverse):=⟨_,rfl⟩;have mf:aR ps.reverse (.mk SQ sn LO ss) (.mk fo' fn UO fs)=[X] ++ aE zg ss fs:=by rw[hX,DT];unfold aR;rfl
  rw[mf]at dx ⊢;have ej:=PM.subs.len;have uM:nodesF (.mk SQ sn LO ss)=nodesTs LO+nodesFs ss+1:=by unfold nodesF;rfl
  have nS:∀ t∈ss,ps.length+1+nodesF t<=1000000:=fun t ht=>by have:=jR ss t ht;omega
  obtain ⟨m0,dW⟩:=am (min ss.length fs.length);obtain ⟨sm,ze⟩:=am ss.length;obtain ⟨fm,Dk⟩:=am fs.length;obtain ⟨cl,hcl⟩:=am ps.length;have zcD:ss.length<=1000000:=by have:=qr ss;omega
  simp only[PlQ.val,PlQ.cells];rw[<-hcl]at gX;rw[<-ze]at Ph zcD tY;rw[<-Dk]at Ct ej Dj;rw[<-ze,<-Dk]at dW;rw[<-ze,<-Dk,<-hcl];obtain ⟨W1,bY⟩:=am (W.alloc (.cells #[.int .u8 SQ,.string ⟨sn.toArray⟩,.slice sa sl sc,.slice sb sm se,.int .u8 fo',.string ⟨fn.toArray⟩,.slice fa fl fc,.slice fb fm fe,.slice ca cl cc] 89));have iN:=cV bY;have I5:J pre W1:=hJ pre _ _ (Nw.below iN) hj;have rY:=bU bY;have hWM:W.heap.size<W1.heap.size/\¬M W.heap.size:=⟨by rw[bY];simp,fun h=>by have:=hM _ h;omega⟩;have rX:=hY pre #[PlQ.val ⟨⟨SQ,⟨sn.toArray⟩,sa,sl,sc,sb,sm,se⟩,⟨fo',⟨fn.toArray⟩,fa,fl,fc,fb,fm,fe⟩,ca,cl,cc⟩] X W1 I5 (Kp.below iN) ⟨_,ps,rfl,by rw[hX],by omega,by rw[hX];exact tY.kp (Kp.below iN),by rw[hX];exact Dj.kp (Kp.below iN),gX.kp (Kp.below iN)⟩ (jO dx);simp only[PlQ.val,PlQ.cells]at rX;obtain ⟨fR,UP⟩:=aW ih PM.subs;have yQ:=bF mg nS hcl;have Cs:=aG hM hl;have HJ:=aG hJ hJx;obtain ⟨HY,HSs,SR,HP⟩:=eH hY Ph Ct gX;have Fc:=gX.1.cap;have ob:=ac dx;have gR:=bF dW ze Dk;obtain ⟨jN,ec,HWM,zaz,jj⟩:=t5 rY iN hWM DT bY;have HPp:=ac (show (pre ++ [X]) <+: xs from jO dx);obtain ⟨yfn,tmps,assign,body,hy,GR⟩:=jK 2 rX;rw[bY]at hy GR;clear tY Dj gX hsa xZ Ph Ct PM ih dW ze Dk hcl hj iN I5 rX hJ hJx hM hl hY dx mf hX DT rY hWM bY nS uM mg;refine m4 Tryz.func103 ?_;simp only[Tryz.ntmps103,Nat.reduceAdd,Nat.reduceSub,lu];have iz:=fd;gi_wp2;refine GR.mono ?_;rintro e W2 (⟨rfl,xO,iO⟩ | ⟨rfl,zaA,iO⟩)
  ·rw[<-jj.o]at iO;have qg:=(iO.same _ HWM.o.1 HWM.o.2).trans jN.o;obtain ⟨P0,P1,P2,P3,P4,P5,P6,P7,P8⟩:=iE (q:=⟨⟨SQ,⟨sn.toArray⟩,sa,sl,sc,sb,sm,se⟩,⟨fo',⟨fn.toArray⟩,fa,fl,fc,fb,fm,fe⟩,ca,cl,cc⟩) qg;have CQ:=eX ⟨SQ,⟨sn.toArray⟩,sa,sl,sc,sb,sm,se⟩ W2;simp only[FQ.val]at CQ;have I7:=ac CQ;have H2:=bF xO ((Kp.below ec.o).trans iO) qg;simp only at P0 P1 P2 P3 P4 P5 P6 P7 P8;clear xO iO qg CQ GR hy;gi_wp2_with fail;refine aK.2 (I7.o.mono ?_);rintro e W3 ⟨rfl,aM⟩;clear P0 P1 P2 P3 P4 P5 P6 P7 P8;have ws:=aG (HJ.o.1 _ _ _ ((Nw.below aM)) (show J (pre ++ [X]) W2 from H2.o.1)) (H2.o.2.1.trans (Kp.below aM));have gO:=ac (bJ aM H2.o.2.2)
   cases qh:bh SQ with
   | false=>
    have zw:=ac (show ps.reverse=zg by rw[zaz.o,qh];rfl);have AO:=ws;have On:=gO;have HPz:=ac (HP.o.kp ws.o.2);have p3:=ah gO.o 3;have p7:=ah gO.o 7;clear aM qh;gi_wp2;clear p3 p7;gi_loopw [40] (fun i wr=>∃k:Nat,k<=m0/\i=.int .i64 k/\J (pre ++ ([X] ++ aE zg (ss.take k) (fs.take k))) wr/\Kp M W3 wr) (fun i _=>m0 - (intOf i).toNat)
    case atStart=>exact ⟨0,aX _,rfl,by simpa[aE] using AO.o.1,Kp.refl _⟩
    case round=>
     have pp219f:=();exact pm219
   | true=>
    have zw:=ac (show (ps ++ [(sn,fn)]).reverse=zg by rw[zaz.o,qh];simp);have Om:=(HP.o.kp ws.o.2).1.cases;have HSh:=ac Om;have hold:((.slice ca cl cl:Value)=.slice none 0 0/\cl=0/\gd ps=[])\/∃b,(.slice ca cl cl:Value)=.slice (some b) cl cl/\(gd ps).length=cl * 2/\∀ j u,(gd ps)[j]?=some u->(W3.alloc (.cells #[.string ⟨sn.toArray⟩,.string ⟨fn.toArray⟩] 213)).drew.cell? (b.add j)=some u:=by
     rcases Om with ⟨rfl,rfl,rfl⟩ | ⟨b,off,rfl⟩
     ·exact .inl ⟨rfl,rfl,by rw[jJ yQ.o.2.2.symm];rfl⟩
     ·exact .inr ⟨_,rfl,by rw[gM,<-yQ.o.2.2],((HP.o.kp ws.o.2).1.later (((aj W3.heap.size W3).alloc (aD _) _).drew)).olds⟩
    have Pr:=ac hold;have zeC:cl<=1000000:=by have:=yQ.o.1;have:=yQ.o.2.2;omega
    obtain ⟨S,hS⟩:∃S:World->Prop,S=fun V=>Below W3.heap.size W3 V:=⟨_,rfl⟩;have f1:∀ V,S V->V.cell? ⟨W.heap.size,1,none⟩=some (.string ⟨sn.toArray⟩):=fun V h=>by rw[hS]at h;exact aa h (ah gO.o 1)
    have f5:∀ V,S V->V.cell? ⟨W.heap.size,5,none⟩=some (.string ⟨fn.toArray⟩):=fun V h=>by rw[hS]at h;exact aa h (ah gO.o 5)
    have dU:S W3.drew:=by rw[hS];exact (aj _ _).drew
    have dp:=ac hS;clear hS hold Om qh aM;gi_wp2;refine lH S 14 dU fun jC bN=>?_;refine bC 0 16 (.slice ca cl cc) rfl bN fun cr=>?_;simp only[ag];refine bC 1 17 (.slice ca cl cc) rfl cr fun f_=>?_;simp only[ag];refine bC 2 18 (.int .i64 (cl:Int)) rfl f_ fun gQ=>?_;simp only[ag];refine bC 3 19 (.slice ca cl cc) rfl gQ fun iK=>?_;simp only[ag];refine bC 4 20 (.int .i64 (cl:Int)) rfl iK fun jF=>?_;simp only[ag];refine dh 5 21 (.slice ca cl cl) rfl (fun V hX=>by rcases HSh.o with ⟨rfl,rfl,rfl⟩ | ⟨b,off,rfl⟩ <;> go_simp) jF fun j7=>?_;simp only[ag];refine bC 6 22 (.pointer (some ⟨W.heap.size,0,none⟩)) rfl j7 fun mi=>?_;simp only[ag];refine bC 7 23 (.pointer (some ⟨W.heap.size,1,none⟩)) rfl mi fun rF=>?_;simp only[ag];refine dh 8 24 (.string ⟨sn.toArray⟩) rfl (fun V hX=>by have g0:=f1 V hX;go_simp) rF fun Hv=>?_;simp only[ag];refine bC 9 25 (.pointer (some ⟨W.heap.size,4,none⟩)) rfl Hv fun zh=>?_;simp only[ag];refine bC 10 26 (.pointer (some ⟨W.heap.size,5,none⟩)) rfl zh fun Hw=>?_;simp only[ag];refine dh 11 27 (.string ⟨fn.toArray⟩) rfl (fun V hX=>by have g0:=f5 V hX;go_simp) Hw fun PN=>?_;simp only[ag];refine bC 12 28 (.agg #[.string ⟨sn.toArray⟩,.string ⟨fn.toArray⟩]) rfl PN fun SS=>?_;simp only[ag];refine bZ 13 rfl fun K hK=>?_;go_simp;have mJ:Below W3.heap.size W3 (W3.alloc (.cells #[.string ⟨sn.toArray⟩,.string ⟨fn.toArray⟩] 213)).drew:=((aj _ W3).alloc (aD _) _).drew;refine hK _ _ (fun _=>by rw[dp.o];exact mJ) (fun _=>?_);clear hK K;refine bZ 14 rfl fun K hK=>?_;refine gA (.tmp 21) (.tmp 29) 87 rfl 213 i0 (.agg #[.string ByteArray.empty,.string ByteArray.empty]) 2 32 Tryz.underlying87 hi oM ju iy rfl (by decide) (.slice ca cl cl) cl (gd ps) rfl Pr.o ⟨W3.heap.size,0,none⟩ 1 1 [.string ⟨sn.toArray⟩,.string ⟨fn.toArray⟩] rfl rfl (dc (cs:=#[.string ⟨sn.toArray⟩,.string ⟨fn.toArray⟩]) (t:=213) (fr:=(0,0)) (fZ W3 _)) (by simp[Value.oneCell']) (by decide) (by unfold maxLen;omega) (by omega) ?_;intro g cap X5 aA aq;have wk:Below W3.heap.size W3 X5:=⟨aq.os.trans mJ.os,aq.tape.trans mJ.tape,aq.output.trans mJ.output,aU mJ.size aq.size,fun b hb=>(aq.block b (bH hb mJ.size) (by simp)).trans (mJ.block b hb)⟩;rw[<-kr (sn,fn) ps]at aA;have wl:(W3.alloc (.cells #[.string ⟨sn.toArray⟩,.string ⟨fn.toArray⟩] 213)).drew.heap.size<=g/\g<X5.heap.size:=aA.lt g rfl;have hzz:(W3.alloc (.cells #[.string ⟨sn.toArray⟩,.string ⟨fn.toArray⟩] 213)).drew.heap.size=W3.heap.size+1:=by show (W3.alloc _).heap.size=_;simp
    have HPz:=ac (show PairsN M X5 (.slice (some ⟨g,0,none⟩) (cl+1) cap) (ps ++ [(sn,fn)]) from ⟨PairsV.own aA,fun b hb hm=>by
     obtain rfl:g=b:=by simpa[Value.ownBlock] using hb
     have:=Cs.o.1 g hm;have:=ws.o.2.size;omega⟩)
    have AO:=aG (HJ.o.1 _ _ _ ((Nw.below wk).mono ws.o.2.size) ws.o.1) (ws.o.2.trans (Kp.below wk));have On:=ac (bJ wk gO.o);clear aA aq mJ wk wl hzz;refine eS hK ?_;clear hK K;refine bZ 15 rfl fun K hK=>?_;go_simp;refine eS hK ?_;clear hK K;refine kV ?_;have p3:=ah On.o 3;have p7:=ah On.o 7;clear f1 f5 dU dp bN jC;gi_wp2;clear p3 p7;gi_loopw [40] (fun i wr=>∃k:Nat,k<=m0/\i=.int .i64 k/\J (pre ++ ([X] ++ aE zg (ss.take k) (fs.take k))) wr/\Kp M X5 wr) (fun i _=>m0 - (intOf i).toNat)
    case atStart=>exact ⟨0,aX _,rfl,by simpa[aE] using AO.o.1,Kp.refl _⟩
    case round=>
     exact pm219
  ·have HH:=aG zaA iO;clear zaA iO GR hy;gi_wp2;go_ret;refine .inr ⟨rfl,_,HPp.o,HH.o.1,?_⟩;have h:=HH.o.2;rw[<-jj.o]at h;exact ((Kp.below ec.o).from _).trans h
 |obtain rfl:=e_.len;obtain rfl:=yX.len;obtain rfl:=Au.len;obtain rfl:=SZ.len;obtain ⟨pa,pl,pc,rfl⟩:∃pa pl pc,v=.slice pa pl pc:=by obtain ⟨a,c,h,_⟩:=hp;exact ⟨_,_,_,h⟩
  obtain rfl:=hp.len
  first
  |clear pp77;have xZ:=hf.args;have Ct:=hf.subs;have hlen:=xZ.len;have ej:=Ct.len;have Fc:=hp.cap;have hm:=Em ps.reverse uo vo xn yn xa ya xs ys;obtain ⟨R,hR⟩:=am (cP ps.reverse (.mk uo xn xa xs) (.mk vo yn ya ys));rw[<-hR]at hm ⊢;have Hy:=u_ uo xn xa xs;obtain ⟨D,hD⟩:=am (eq (.mk uo xn xa xs));rw[<-hD]at Hy gX;obtain ⟨k0,bX⟩:=am xa.length;obtain ⟨m0,dW⟩:=am ya.length;obtain ⟨k1,j9⟩:=am xs.length;obtain ⟨m1,ii⟩:=am ys.length;obtain ⟨p0,kZ⟩:=am ps.length;have Nc:ps.length<=1000000000:=by omega
   have hp9:p0<=1000000000:=by omega
   rw[<-bX,<-dW,<-j9,<-ii]at hm;rw[<-bX]at hlen;rw[<-j9]at ej;rw[<-kZ]at Fc;have pp45:=();exact pm45
  |have xZ:=hf.args;have Ct:=hf.subs;have hlen:=xZ.len;have HWf:Hd (ep xa=true):=ac (by unfold gS at zA;simp only[af]at zA;exact zA.1);have HWs:Hd (el xs=true):=ac (by unfold gS at zA;simp only[af]at zA;exact zA.2);clear zA;have ej:=Ct.len;have Fc:=hp.cap;have hm:=Em ps.reverse uo vo xn yn xa ya xs ys;obtain ⟨R,hR⟩:=am (cP ps.reverse (.mk uo xn xa xs) (.mk vo yn ya ys));rw[<-hR]at hm ⊢;have Hy:=u_ uo xn xa xs;obtain ⟨D,hD⟩:=am (eq (.mk uo xn xa xs));rw[<-hD]at Hy gX;obtain ⟨k0,bX⟩:=am xa.length;obtain ⟨m0,dW⟩:=am ya.length;obtain ⟨k1,j9⟩:=am xs.length;obtain ⟨m1,ii⟩:=am ys.length;obtain ⟨p0,kZ⟩:=am ps.length;have Nc:ps.length<=1000000000:=by omega
   have hp9:p0<=1000000000:=by omega
   rw[<-bX,<-dW,<-j9,<-ii]at hm;rw[<-bX]at hlen;rw[<-j9]at ej;rw[<-kZ]at Fc;exact pm45):G:=h
theorem pm210(h:G:=by
 obtain ⟨es,hD,RV,_⟩:=aA.entries (Maps.string_keyed Tryz.underlying9);obtain ⟨St,O1,VV⟩:=aA.keysOf;obtain rfl:es=St:=by rw[hD]at O1;simpa using O1
 first
 |clear pp210;have kZ:(dI xs).Perm (strKeys D0):=by
   rw[hD];refine perm_strKeys RV (fun p hp=>by obtain ⟨v,hv⟩:=VV p hp;obtain ⟨x,_,hx,_⟩:=Maps.keyOf_str Tryz.underlying9 hv;exact ⟨x,hx⟩) (iB (tf xs)) (fun x=>?_);rw[dQ,<-hD,z']
  refine (aK.1 cS).mono ?_;rintro e w' ⟨v,ss,rfl,hS,fh,O2,hb⟩;have mf:ss.Perm (dI xs):=hS.trans kZ.symm;have kn:ss.length=(dI xs).length:=mf.length_eq;refine ⟨v,rfl,⟨?_,?_⟩,((aj _ W).alloc (aD _) _).trans (hb.mono (by simp))⟩
  ·rw[Ak mf,kn]at fh;exact ownsRow_base_a fh (by simp)
  ·rw[O2];constructor
   ·intro h;rw[h]at kn;exact jJ kn.symm
   ·intro h;rw[h]at kn;exact jJ kn
 |have z':∀ x:Str,Maps.has D0 (.string x)=true ↔ x∈l.map (·.1):=fun x=>by
   cases hg:getB l x with
   | none=>rw[(hx x).1 hg];simp only[bW,false_iff];exact (ia l x).1 hg
   | some a=>
    have h1:x∈l.map (·.1):=by
     by_cases h:x∈l.map (·.1)
     ·exact h
     ·rw[(ia l x).2 h]at hg;cases hg
    exact ⟨fun _=>h1,fun _=>((hx x).2 a hg).1⟩
  have kZ:(dI (l.map (·.1))).Perm (strKeys D0):=by
   rw[hD];refine perm_strKeys RV (fun p hp=>by obtain ⟨v,hv⟩:=VV p hp;obtain ⟨x,_,hx,_⟩:=Maps.keyOf_str Tryz.underlying9 hv;exact ⟨x,hx⟩) (iB (tf _)) (fun x=>?_);rw[dQ,<-hD,z']
  refine (aK.1 cS).mono ?_;rintro e w' ⟨v,ss,rfl,hS,fh,O2,hb⟩;have mf:ss.Perm (dI (l.map (·.1))):=hS.trans kZ.symm;have kn:ss.length=(dI (l.map (·.1))).length:=mf.length_eq;have hu:=FT hup;refine ⟨v,rfl,⟨?_,?_⟩,((aj _ W).alloc (aD _) _).trans (hb.mono (by simp))⟩
  ·rw[Ak mf,kn,hu]at fh;exact ownsRow_base_a fh (by simp)
  ·rw[O2];rw[hu]at kn;constructor
   ·intro h;rw[h]at kn;exact jJ kn.symm
   ·intro h;rw[h]at kn;exact jJ kn):G:=h
theorem pm211(h:G:=by
 have eZ:=cV dB;have iS:=bU dB;rw[<-dB];have f0:=fun x:Later W3=>x.get (ah iS 0);have f1:=fun x:Later W3=>x.get (ah iS 1);have f2:=fun x:Later W3=>x.get (ah iS 2)
 first
 |clear pp211;have f3:=fun x:Later W3=>x.get (ah iS 3);have g0:=fun x:Later W3=>x.get (aa eZ uh.o);have g1:=fun x:Later W3=>x.get (aa eZ kJ.o.1);have g2:=fun x:Later W3=>x.get (aa eZ kJ.o.2.1);have g3:=fun x:Later W3=>x.get (aa eZ kJ.o.2.2.1);have g4:=fun x:Later W3=>x.get (aa eZ kJ.o.2.2.2);have bD:=ac eZ
  first
  |clear pp10a;have CC:=ac (fun (x:Later W3)=>fR.o xs[k] (aw bg) ys[k] ps (.slice pa p0 pc) ok ok' x.w u u' Fv yY.o (IZ HWs.o (aw bg)) ((HU.o.later bD.o).later x.below) ((sF.o.later bD.o).later x.below) ((tw.o.later bD.o).later x.below));rw[<-yZ.o]at CC;unfold FQ.val at CC;clear dB eZ iS d0 d1 d2 d3 y2;refine aH (by kernel_rfl) (by kernel_rfl) ?_
   repeat (go_big_quiet_step ((go_at_call 83;exact bO (CC.o _))))
   refine wpQuiet_nil ?_;rintro _ ⟨x',rfl⟩;clear f0 f1 f2 f3 g0 g1 g2 g3 g4;exact pm5
  |clear pp10b;have CC:=ac (fun (x:Later W3)=>fR.o xs[k] (aw bg) ys[k] (ps ++ [(xn,yn)]) (.slice (some ⟨g,0,none⟩) (p0+1) cap) ok ok' x.w u u' Fv yY.o (IZ HWs.o (aw bg)) ((HU.o.later bD.o).later x.below) ((sF.o.later bD.o).later x.below) ((tw.o.later bD.o).later x.below));rw[<-yZ.o]at CC;unfold FQ.val at CC;clear dB eZ iS d0 d1 d2 d3 y2;refine aH (by kernel_rfl) (by kernel_rfl) ?_
   repeat (go_big_quiet_step ((go_at_call 83;exact bO (CC.o _))))
   refine wpQuiet_nil ?_;rintro _ ⟨x',rfl⟩;clear f0 f1 f2 f3 g0 g1 g2 g3 g4;exact pm5
  |clear pp10c;have CC:=ac (fun (x:Later W3)=>fR.o xs[k] (aw bg) ys[k] ps (.slice pa p0 pc) ok ok' x.w u u' Fv yY.o ((HU.o.later bD.o).later x.below) ((sF.o.later bD.o).later x.below) ((tw.o.later bD.o).later x.below));rw[<-yZ.o]at CC;unfold FQ.val at CC;clear dB eZ iS d0 d1 d2 d3 y2;refine aH (by kernel_rfl) (by kernel_rfl) ?_
   repeat (go_big_quiet_step ((go_at_call 92;exact bO (CC.o _))))
   refine wpQuiet_nil ?_;rintro _ ⟨x',rfl⟩;clear f0 f1 f2 f3 g0 g1 g2 g3 g4;exact pm5
  |clear pp10d;have CC:=ac (fun (x:Later W3)=>fR.o xs[k] (aw bg) ys[k] (ps ++ [(xn,xn)]) (.slice (some ⟨g,0,none⟩) (p0+1) cap) ok ok' x.w u u' Fv yY.o ((HU.o.later bD.o).later x.below) ((sF.o.later bD.o).later x.below) ((tw.o.later bD.o).later x.below));rw[<-yZ.o]at CC;unfold FQ.val at CC;clear dB eZ iS d0 d1 d2 d3 y2;refine aH (by kernel_rfl) (by kernel_rfl) ?_
   repeat (go_big_quiet_step ((go_at_call 92;exact bO (CC.o _))))
   refine wpQuiet_nil ?_;rintro _ ⟨x',rfl⟩;clear f0 f1 f2 f3 g0 g1 g2 g3 g4;exact pm5
  |have CC:=ac (fun (x:Later W3)=>fR.o xs[k] (aw bg) ys[k] (ps ++ [(xn,yn)]) (.slice (some ⟨g,0,none⟩) (p0+1) cap) ok ok' x.w u u' Fv yY.o ((HU.o.later bD.o).later x.below) ((sF.o.later bD.o).later x.below) ((tw.o.later bD.o).later x.below));rw[<-yZ.o]at CC;unfold FQ.val at CC;clear dB eZ iS d0 d1 d2 d3 y2;refine aH (by kernel_rfl) (by kernel_rfl) ?_
   repeat (go_big_quiet_step ((go_at_call 92;exact bO (CC.o _))))
   refine wpQuiet_nil ?_;rintro _ ⟨x',rfl⟩;clear f0 f1 f2 f3 g0 g1 g2 g3 g4;exact pm5
 |first
  |clear pp55a;have g0:=fun x:Later W3=>x.get (aa eZ uh.o);have g1:=fun x:Later W3=>x.get (aa eZ kJ.o.1);have g2:=fun x:Later W3=>x.get (aa eZ kJ.o.2.1);have g3:=fun x:Later W3=>x.get (aa eZ kJ.o.2.2);have bD:=ac eZ;have CC:=ac (fun (x:Later W3)=>AA xa[k] ya[k] ps (.slice pa p0 pc) ok ok' x.w u u' Nc yY.o ((HU.o.later bD.o).later x.below) ((sF.o.later bD.o).later x.below) ((tw.o.later bD.o).later x.below));rw[<-yZ.o]at CC;unfold TQ.val at CC;clear dB eZ iS d0 d1 d2 y2;refine aH (by kernel_rfl) (by kernel_rfl) ?_
   repeat (go_big_quiet_step ((go_at_call 160;exact bO (CC.o _))))
   refine wpQuiet_nil ?_;rintro _ ⟨x',rfl⟩;clear f0 f1 f2 g0 g1 g2 g3;exact pm5
  |clear pp55b;have f3:=fun x:Later W3=>x.get (aa eZ uh.o);have f4:=fun x:Later W3=>x.get (aa eZ kJ.o.1);have f5:=fun x:Later W3=>x.get (aa eZ kJ.o.2.1);have f6:=fun x:Later W3=>x.get (aa eZ kJ.o.2.2);have bD:=ac eZ;have CC:=ac (fun (x:Later W3)=>Pg.o ya[k] ps (.slice pa p0 pc) ok ok' x.w u u' (by rw[<-yV.o];exact gX) yY.o ((HU.o.later bD.o).later x.below) ((sF.o.later bD.o).later x.below) ((tw.o.later bD.o).later x.below));rw[<-yZ.o]at CC;unfold TQ.val at CC;clear dB eZ iS d0 d1 d2 y2;refine aH (by kernel_rfl) (by kernel_rfl) ?_
   repeat (go_big_quiet_step ((go_at_call 160;exact bO (CC.o _))))
   refine wpQuiet_nil ?_;rintro _ ⟨x',rfl⟩;clear f0 f1 f2 f3 f4 f5 f6;exact pm5
  |clear pp55c;have g0:=fun x:Later W3=>x.get (aa eZ uh.o);have g1:=fun x:Later W3=>x.get (aa eZ kJ.o.1);have g2:=fun x:Later W3=>x.get (aa eZ kJ.o.2.1);have g3:=fun x:Later W3=>x.get (aa eZ kJ.o.2.2);have bD:=ac eZ;have CC:=ac (fun (x:Later W3)=>I0 xa[k] ya[k] ps (.slice pa p0 pc) ok ok' x.w u u' Nc yY.o (Cb HWf.o (aw bg)) ((HU.o.later bD.o).later x.below) ((sF.o.later bD.o).later x.below) ((tw.o.later bD.o).later x.below));rw[<-yZ.o]at CC;unfold TQ.val at CC;clear dB eZ iS d0 d1 d2 y2;refine aH (by kernel_rfl) (by kernel_rfl) ?_
   repeat (go_big_quiet_step ((go_at_call 147;exact bO (CC.o _))))
   refine wpQuiet_nil ?_;rintro _ ⟨x',rfl⟩;clear f0 f1 f2 g0 g1 g2 g3;exact pm5
  |have f3:=fun x:Later W3=>x.get (aa eZ uh.o);have f4:=fun x:Later W3=>x.get (aa eZ kJ.o.1);have f5:=fun x:Later W3=>x.get (aa eZ kJ.o.2.1);have f6:=fun x:Later W3=>x.get (aa eZ kJ.o.2.2);have bD:=ac eZ;have CC:=ac (fun (x:Later W3)=>Pg.o ya[k] ps (.slice pa p0 pc) ok ok' x.w u u' (by rw[<-yV.o];exact gX) yY.o (Cb HWf.o (aw bg)) ((HU.o.later bD.o).later x.below) ((sF.o.later bD.o).later x.below) ((tw.o.later bD.o).later x.below));rw[<-yZ.o]at CC;unfold TQ.val at CC;clear dB eZ iS d0 d1 d2 y2;refine aH (by kernel_rfl) (by kernel_rfl) ?_
   repeat (go_big_quiet_step ((go_at_call 147;exact bO (CC.o _))))
   refine wpQuiet_nil ?_;rintro _ ⟨x',rfl⟩;clear f0 f1 f2 f3 f4 f5 f6;exact pm5):G:=h
theorem pm212(h:G:=by
 have hr:r.length<=1000000000:=by simp at hn;omega
 have hs:=il (63 :: r);have hx:=jB 63 r;simp at hs hx;have h1:((1:Int)<=((63 :: r).length:Int)):=by simp;omega
 first
 |clear pp212;clear h hp;go_enter Tryz.func123,Tryz.ntmps123;go_wp2_with (first | (go_at_call 191;refine (CP.o _).mono ?_;rintro e w' ⟨rfl,rfl⟩) | (go_at_call 152;refine (iM r _ hr).mono ?_;rintro e w' ⟨rfl,hb⟩));go_ret;exact ⟨rfl,hb⟩
 |clear h
  first
  |clear pp117;go_enter Tryz.func65,Tryz.ntmps65;go_wp2_with (first | (go_at_call 119;refine (C1.o _).mono ?_;rintro e w' ⟨rfl,hb⟩) | (go_at_call 120;refine (nC r _ hr).mono ?_;rintro e OF ⟨rfl,bB⟩));go_ret;exact ⟨by simp,hb.trans (bB.mono hb.size)⟩
  |go_enter Tryz.func67,Tryz.ntmps67;go_wp2_with (first | (go_at_call 119;refine (C1.o _).mono ?_;rintro e w' ⟨rfl,hb⟩) | (go_at_call 121;refine (lS r _ hr).mono ?_;rintro e OF ⟨rfl,bB⟩));go_ret;exact ⟨by simp,hb.trans (bB.mono hb.size)⟩):G:=h
theorem pm213(h:G:=by
 simp only[bh,Bool.or_eq_true,dP]at hq;rcases hq with rfl | rfl <;> decide):G:=h
theorem pm214(h:G:=by
 simp at LU;obtain ⟨dD,rfl⟩:=LU;have gY:(xn == yn)=false:=by simpa using dD
 have jP:(!(xn == yn))=true:=by simpa using dD
 have HE:=ac D_;clear hm D_ dD Je
 first
 |clear pp214;go_enter Tryz.func92,Tryz.ntmps92;go_wp2_with (go_at_call 93;refine (Hz.o _).mono ?_;rintro e X0 ⟨rfl,lM⟩;have Hi:Hd (Below W2.heap.size W2 X0):=ac (by rw[fp.o];exact lM);clear lM);go_ret;exact ⟨az HE.o.symm,cw.o.trans (Hi.o.mono cw.o.size)⟩
 |go_enter Tryz.func83,Tryz.ntmps83;exact pm76):G:=h
