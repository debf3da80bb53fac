/-
Runs of tactics that several proofs share.
-/
import Derived.Deep.AppendLies
import Derived.Deep.DeepCutAuto
import Derived.Deep.DeepWitnessRowRef
import Derived.Deep.Upon
import Derived.Lib.ItoaMem
import Derived.Lib.LaidU8
import Derived.Lib.SmallJoins
import Derived.Maps.OwnIn
import Derived.OrdersHeld
import Derived.RangeFuncNested
import Derived.Shelf.SlIter.Nil
import Derived.Shelf.SortM.Plain
import Derived.Shelf.SortM.SortNone
import Derived.WalkLawsBesides
import Derived.WalkSpells
namespace Go.Proofs.YtokemihbkeddoaaGreatDoor
open Go Go.RowKit Lib
set_option maxRecDepth 100000
variable {G:Prop}
theorem qab(h:G:=by
 have ⟨d0,d1,d2⟩:=jX aq c0 c1 c2
 first
 |clear qn5;have ce:(a.take k).length=k:=by rw[dS];omega
  have qn6:=();exact qbn
 |clear qn7;have ce:((a.map aK).take k).length=k:=by rw[dS];have:=du.o;simp;omega
  have qn8:=();exact qbn
 |clear qn9;have ce:((a.map aK).take k1).length=k1:=by rw[dS];have:=du.o;simp;omega
  obtain ⟨gy,gz,rfl⟩:=hF.row.slice;have qoa:=();exact qcv
 |clear qob;have qoc:=();exact qfA
 |clear qod;have qoe:=();exact qbo
 |clear qof;have qog:=();exact qbo
 |clear qoh;have qoi:=();exact qfB
 |clear qoj;have qok:=();exact qfC
 |clear qol;exact qfC
 |clear qom;have ce:(l.take k).length=k:=by rw[dS];omega
  rw[ce]at hR ⊢;have HU:=ab ((hu.later aq).later (W':=wr.alloc (.cells #[.bool u.v,.string u.n,.slice u.a u.l u.c] 43)) cI);have ⟨cz,HR,dU⟩:=cE aq hR ce;clear hu aq hR ce c0 c1 c2;exact qfD
 |clear qon;have qoo:=();exact qfE
 |clear qop;have qoq:=();exact qfF
 |clear qor;have CB:=HP.o l[k] (ap bj) _ wr ⟨xv,xn,xa,xl,xc⟩ (VH.o.tr aq) (hx.later aq);simp only[TQ.val]at CB;have D3:(k:Int)<(k0:Int):=by omega
  cases hq:pr l[k] with
  | true=>
   rw[hq]at CB;have HC:=ab CB;have HE:=ab (show l.any pr=true from List.any_eq_true.2 ⟨_,ap bj,hq⟩);have qos:=();exact qfG
  | false=>
   rw[hq]at CB;have HC:=ab CB;have BH:=ab (show ∀ t∈l.take (k+1),pr t=false by
    intro t hm;rw[List.take_add_one,io bj]at hm;rcases List.mem_append.1 hm with h | h
    ·exact gV t h
    ·obtain rfl:t=l[k]:=by simpa using h
     exact hq)
   exact qfG
 |clear qot;have CC:=ab (fun (W:World) (hb:Below wr.heap.size wr W)=>p_ ok W ua ul uc hf.args ((fC.later aq).later hb));have HB:=ab aq;have ⟨N,hN⟩:=aj (eM x (l.take k));have ⟨M,hM⟩:=aj (eM x xa);have _m:eM x (l.take (k+1))=N+((if uv && xn == x then 1 else 0)+M):=by rw[js,hN,hM];rfl
  simp only[Tm.a]at CC;rw[<-hN];rw[<-hM]at CC;rw[_m]at hb1;have HS:=ab _m;clear hu p_ hf hx fC aq js hN hM _m c0 c1 c2;have HW:=ab (show Below wr.heap.size wr (wr.alloc (.cells #[.bool uv,.string ⟨xn.toArray⟩,.slice ua ul uc] 43)) from cI);have e2:(wr.alloc (.cells #[.bool uv,.string ⟨xn.toArray⟩,.slice ua ul uc] 43)).cell? ⟨wr.heap.size,2,none⟩=some (.slice ua ul uc):=ag (ah rfl) 2
  cases uv with
  | false=>
   simp only[Bool.false_and,bO,if_false]at hb1;have qou:=();exact qcw
  | true=>
   by_cases hn:xn=x
   ·subst hn;simp only[dz,beq_self_eq_true,if_true]at hb1;have qov:=();exact qcw
   ·have eh:(xn == x)=false:=by simpa using hn
    rw[eh]at hb1;simp only[Bool.and_false,bO,if_false]at hb1;exact qcw
 |clear qow;have qox:=();exact qaJ
 |clear qoy;have qoz:=();exact qbp
 |clear qoA;have qoB:=();exact qbp
 |clear qoC;have qoD:=();exact qfH
 |clear qoE;exact qfB
 |clear qoF;exact qfF
 |have D3:(k:Int)<(k0:Int):=by omega
  have tb:=ab (fun (V:World) (hb:Below W5.heap.size W5 V)=>HC ok Y1 V qa m0 qc _ ((bB.later aq).later hb) ((HNs.o.later aq).later hb));have ⟨HB,HR,dU,og,gt⟩:=qt aq hR ce yZ dQ;have qoG:=();exact qaS):G:=h
theorem qfI(h:G:=by
 obtain ⟨j,Ey,kj,hj,rfl,bi,pK,fJ,ik⟩:=hrel
 by_cases hlt:j<n1
 ·have gZ:=cb HN.o.1 hlt;have AU:=cb HN.o.2 hlt;have qoH:=();exact qfJ
 ·obtain rfl:j=n1:=by omega
  have L0:=ab (show R=some kj by rw[ik,gT (by rw[<-HN.o.1];exact aC _)];simp[bL]);have ce:a.take j=a:=by rw[HN.o.1];exact cK
  rw[ce]at pK;have HK:=bx bi pK fJ;clear bi pK fJ ik ce;go_wp2;go_ret;exact ⟨(Kp.below H3.o.1).trans HK.o.1,true,rfl,(fun h=>by rw[L0.o]at h;cases h),(fun ts eW=>⟨rfl,Ey,by have:=HK.o.2.1;have:=RV.o.2;omega,by rw[L0.o]at eW;cases eW;exact HK.o.2.2⟩)⟩):G:=h
theorem qbq(h:G:=by
 obtain ⟨b,off,u,rfl,jy,hu,c0,c1,c2,c3⟩:=Rg.o.get bj
 first
 |clear qoI;have qoJ:=();exact qfK
 |clear qoK;have d0:=kt.cell jy.2 c0;have d1:=kt.cell jy.2 c1;have d2:=kt.cell jy.2 c2;have d3:=kt.cell jy.2 c3;have js:=oT (b:=bs') bj;have hns:=dr bj;have kz:=bQ ss (k+1);exact qfL
 |clear qoL;exact qb4
 |have xS:=ko.o b jy;have d0:=bi.cell xS c0;have d1:=bi.cell xS c1;have d2:=bi.cell xS c2;have d3:=bi.cell xS c3;have nO:=bQ s (k+1);have js:=dr bj;have IM:=iH bj;have Gj:dt true (s.take (k+1))=_:=kE bj;have qoM:=();exact qfM):G:=h
theorem qak(h:G:=by
 go_enter Tryz.func64,Tryz.ntmps64
 first
 |clear qoN;go_wp2_with (first | (go_at_call 115;refine C1.o.mono ?_;rintro e w' ⟨rfl,nJ⟩;obtain rfl:=nJ.symm) | (go_at_call 116;refine (CN.o _).mono ?_;rintro e w3 ⟨rfl,aG⟩;have bD:=ab aG;have p2:=(ie.o.later aG).c2;have p3:=(ie.o.later aG).c3;have p0:=(ie.o.later aG).c0;have s3:=(rF.o.later aG).c3;have s4:=(rF.o.later aG).c4;clear aG));go_ret;exact JPost.no (l:=left - 1) HE.o (nL.o.trans (Kp.below bD.o)) (xz.o.later bD.o) (by omega) (by omega)
 |clear qoO;go_wp2_with (first | (go_at_call 115;refine C1.o.mono ?_;rintro e w' ⟨rfl,nJ⟩;obtain rfl:=nJ.symm) | (go_at_call 116;refine (CN.o _).mono ?_;rintro e w3 ⟨rfl,aG⟩;have bD:=ab aG;have p2:=(ie.o.later aG).c2;have p3:=(ie.o.later aG).c3;have p0:=(ie.o.later aG).c0;have s3:=(rF.o.later aG).c3;have s4:=(rF.o.later aG).c4;clear aG) | (go_at_call 117;refine (CI.o _ (nL.o.trans (Kp.below bD.o))).mono ?_;rintro e w4 ⟨rfl,aR⟩;have eG:=ab aR;have p2:=((ie.o.later bD.o).later aR).c2;have p3:=((ie.o.later bD.o).later aR).c3;clear aR));go_ret;exact JPost.no (l:=left - 1) HE.o ((nL.o.trans (Kp.below bD.o)).trans (Kp.below eG.o)) ((xz.o.later bD.o).later eG.o) (by omega) (by omega)
 |clear qoP;go_wp2_with (first | (go_at_call 115;refine C1.o.mono ?_;rintro e w' ⟨rfl,nJ⟩;obtain rfl:=nJ.symm) | (go_at_call 116;refine (CN.o _).mono ?_;rintro e w3 ⟨rfl,aG⟩;have bD:=ab aG;have p2:=(ie.o.later aG).c2;have p3:=(ie.o.later aG).c3;have p0:=(ie.o.later aG).c0;have s3:=(rF.o.later aG).c3;have s4:=(rF.o.later aG).c4;clear aG) | (go_at_call 117;refine (CI.o _ (nL.o.trans (Kp.below bD.o))).mono ?_;rintro e w4 ⟨rfl,aR⟩;have eG:=ab aR;have p2:=((ie.o.later bD.o).later aR).c2;have p3:=((ie.o.later bD.o).later aR).c3;clear aR) | (go_at_call 118;refine (CT.o _ ((nL.o.trans (Kp.below bD.o)).trans (Kp.below eG.o)) ((xz.o.later bD.o).later eG.o)).mono ?_;rintro e w5 ⟨rfl,nE,l5,C5,C6,pT,kN⟩;have HH:=cq nE C5 C6 C6;have HL:=ab (show l5<=left - 1 from pT);clear nE C5 C6 pT kN));go_ret;exact JPost.no HE.o (((nL.o.trans (Kp.below bD.o)).trans (Kp.below eG.o)).trans HH.o.1) HH.o.2.1 HH.o.2.2.1 (by have:=HL.o;omega)
 |clear qoQ;have qoR:=();exact qfN
 |clear qoS;go_wp2_with (first | (go_at_call 115;refine C1.o.mono ?_;rintro e w' ⟨rfl,nJ⟩;obtain rfl:=nJ.symm) | (go_at_call 116;refine (CN.o _).mono ?_;rintro e w3 ⟨rfl,aG⟩;have bD:=ab aG;have p2:=(ie.o.later aG).c2;have p3:=(ie.o.later aG).c3;have p0:=(ie.o.later aG).c0;have s3:=(rF.o.later aG).c3;have s4:=(rF.o.later aG).c4;clear aG) | (go_at_call 118;refine (CT.o _ (nL.o.trans (Kp.below bD.o)) (xz.o.later bD.o)).mono ?_;rintro e w5 ⟨rfl,nE,l5,C5,C6,pT,kN⟩;have HH:=cq nE C5 C6 C6;have HL:=ab (show l5<=left - 1 from pT);clear nE C5 C6 pT kN));go_ret;exact JPost.no HE.o ((nL.o.trans (Kp.below bD.o)).trans HH.o.1) HH.o.2.1 HH.o.2.2.1 (by have:=HL.o;omega)
 |clear qoT;have qoU:=();exact qfO
 |clear qoV;have qoW:=();exact qfP
 |clear qoX;exact qfN
 |clear qoY;exact qfO
 |clear qoZ;exact qfP
 |go_wp2_with (go_at_call 115;refine C1.o.mono ?_;rintro e w' ⟨rfl,rfl⟩);exact qfQ):G:=h
theorem qal(h:G:=by
 go_simp;refine hK _ _ (fun _=>by rw[cR.o];exact bZ.trans (((ai _ A).alloc (aC _) _).mono bZ.size)) (fun _=>?_);clear hK K;obtain ⟨qs,eu,au,gd⟩:=fh.o.row;rw[dU.o]at eu au;have oe:=bZ.size;have sE:=fh.o.size
 first
 |clear qo0;refine b_ 5 rfl fun K hK=>?_
  refine bq (.tmp 36) (.tmp 39) 34 rfl Gz.heap.size 36 KO (.agg #[.int .u8 0,.string ByteArray.empty,.slice none 0 0,.slice none 0 0]) 4 72 Tryz.underlying34 hj gZ AU Uy rfl (by decide) (.slice ra k rc) k _ rfl ((ba au (fun b _ hlt=>bZ.block b hlt)).alloc _) ⟨_,0,none⟩ 1 1 p.cells rfl rfl (cV (cs:=#[.int .u8 p.o,.string p.n,.slice p.a p.l p.c,.slice p.b p.m p.e]) (t:=36) (fr:=(0,0)) (fD A _)) (by simp[FQ.cells,Value.oneCell']) (by decide) (by unfold maxLen;omega) (by omega) (by simp;omega) (A.heap.size+1) (by simp) ?_;have qo1:=();exact qbr
 |clear qo2;refine b_ 7 rfl fun K hK=>?_
  refine bq (.tmp 95) (.tmp 100) 34 rfl ix.heap.size 36 KO (.agg #[.int .u8 0,.string ByteArray.empty,.slice none 0 0,.slice none 0 0]) 4 72 Tryz.underlying34 hj gZ AU Uy rfl (by decide) (.slice ra k rc) k _ rfl ((ba au (fun b _ hlt=>bZ.block b hlt)).alloc _) ⟨_,0,none⟩ 1 1 p.cells rfl rfl (cV (cs:=#[.int .u8 p.o,.string p.n,.slice p.a p.l p.c,.slice p.b p.m p.e]) (t:=36) (fr:=(0,0)) (fD A _)) (by simp[FQ.cells,Value.oneCell']) (by decide) (by unfold maxLen;omega) (by omega) (by simp;omega) (A.heap.size+1) (by simp) ?_;have qo3:=();exact qbr
 |clear qo4;refine b_ 7 rfl fun K hK=>?_
  refine bq (.tmp 126) (.tmp 131) 34 rfl ix.heap.size 36 KO (.agg #[.int .u8 0,.string ByteArray.empty,.slice none 0 0,.slice none 0 0]) 4 72 Tryz.underlying34 hj gZ AU Uy rfl (by decide) (.slice ra k rc) k _ rfl ((ba au (fun b _ hlt=>bZ.block b hlt)).alloc _) ⟨_,0,none⟩ 1 1 p.cells rfl rfl (cV (cs:=#[.int .u8 p.o,.string p.n,.slice p.a p.l p.c,.slice p.b p.m p.e]) (t:=36) (fr:=(0,0)) (fD A _)) (by simp[FQ.cells,Value.oneCell']) (by decide) (by unfold maxLen;omega) (by omega) (by simp;omega) (A.heap.size+1) (by simp) ?_;have qo5:=();exact qbr
 |clear qo6;refine b_ 10 rfl fun K hK=>?_
  refine bq (.tmp 24) (.tmp 32) 34 rfl W1.heap.size 36 KO (.agg #[.int .u8 0,.string ByteArray.empty,.slice none 0 0,.slice none 0 0]) 4 72 Tryz.underlying34 hj gZ AU Uy rfl (by decide) (.slice ra k rc) k _ rfl ((ba au (fun b _ hlt=>bZ.block b hlt)).alloc _) ⟨_,0,none⟩ 1 1 p.cells rfl rfl (cV (cs:=#[.int .u8 p.o,.string p.n,.slice p.a p.l p.c,.slice p.b p.m p.e]) (t:=36) (fr:=(0,0)) (fD A _)) (by simp[FQ.cells,Value.oneCell']) (by decide) (by unfold maxLen;omega) (by omega) (by simp;omega) (A.heap.size+1) (by simp) ?_;exact qbr
 |clear qo7;refine b_ 5 rfl fun K hK=>?_
  refine bq (.tmp 19) (.tmp 22) 33 rfl W1.heap.size 43 i0 (.agg #[.bool false,.string ByteArray.empty,.slice none 0 0]) 3 48 Tryz.underlying33 hi ow iM gY rfl (by decide) (.slice ra k rc) k _ rfl ((ba au (fun b _ hlt=>bZ.block b hlt)).alloc _) ⟨_,0,none⟩ 1 1 p.cells rfl rfl (cV (cs:=#[.bool p.v,.string p.n,.slice p.a p.l p.c]) (t:=43) (fr:=(0,0)) (fD A _)) (by simp[TQ.cells,Value.oneCell']) (by decide) (by unfold maxLen;omega) (by omega) (by simp;omega) (A.heap.size+1) (by simp) ?_;have qo8:=();exact qaC
 |clear qo9;refine b_ 5 rfl fun K hK=>?_
  refine bq (.tmp 30) (.tmp 33) 33 rfl W1.heap.size 43 qJ (.agg #[.bool false,.string ByteArray.empty,.slice none 0 0]) 3 48 Tryz.underlying33 hi Ar xP AT rfl (by decide) (.slice ra k rc) k _ rfl ((ba au (fun b _ hlt=>bZ.block b hlt)).alloc _) ⟨_,0,none⟩ 1 1 p.cells rfl rfl (cV (cs:=#[.bool p.v,.string p.n,.slice p.a p.l p.c]) (t:=43) (fr:=(0,0)) (fD A _)) (by simp[TQ.cells,Value.oneCell']) (by decide) (by unfold maxLen;omega) (by omega) (by simp;omega) (A.heap.size+1) (by simp) ?_;have qpa:=();exact qaC
 |clear qpb;refine b_ 5 rfl fun K hK=>?_
  refine bq (.tmp 21) (.tmp 24) 33 rfl W1.heap.size 43 qJ (.agg #[.bool false,.string ByteArray.empty,.slice none 0 0]) 3 48 Tryz.underlying33 hi Ar xP AT rfl (by decide) (.slice gy k1 gz) k1 _ rfl ((ba au (fun b _ hlt=>bZ.block b hlt)).alloc _) ⟨_,0,none⟩ 1 1 p.cells rfl rfl (cV (cs:=#[.bool p.v,.string p.n,.slice p.a p.l p.c]) (t:=43) (fr:=(0,0)) (fD A _)) (by simp[TQ.cells,Value.oneCell']) (by decide) (by unfold maxLen;omega) (by omega) (by simp;omega) (A.heap.size+1) (by simp) ?_;have qpc:=();exact qaC
 |clear qpd;refine b_ 6 rfl fun K hK=>?_
  refine bq (.tmp 35) (.tmp 39) 33 rfl W1.heap.size 43 qJ (.agg #[.bool false,.string ByteArray.empty,.slice none 0 0]) 3 48 Tryz.underlying33 hi Ar xP AT rfl (by decide) (.slice ra k rc) k _ rfl ((ba au (fun b _ hlt=>bZ.block b hlt)).alloc _) ⟨_,0,none⟩ 1 1 p.cells rfl rfl (cV (cs:=#[.bool p.v,.string p.n,.slice p.a p.l p.c]) (t:=43) (fr:=(0,0)) (fD A _)) (by simp[TQ.cells,Value.oneCell']) (by decide) (by unfold maxLen;omega) (by omega) (by simp;omega) (A.heap.size+1) (by simp) ?_;have qpe:=();exact qaC
 |clear qpf;refine b_ 9 rfl fun K hK=>?_
  refine bq (.tmp 28) (.tmp 35) 33 rfl W1.heap.size 43 qJ (.agg #[.bool false,.string ByteArray.empty,.slice none 0 0]) 3 48 Tryz.underlying33 hi Ar xP AT rfl (by decide) (.slice gy k1 gz) k1 _ rfl ((ba au (fun b _ hlt=>bZ.block b hlt)).alloc _) ⟨_,0,none⟩ 1 1 p.cells rfl rfl (cV (cs:=#[.bool p.v,.string p.n,.slice p.a p.l p.c]) (t:=43) (fr:=(0,0)) (fD A _)) (by simp[TQ.cells,Value.oneCell']) (by decide) (by unfold maxLen;omega) (by omega) (by simp;omega) (A.heap.size+1) (by simp) ?_;have qpg:=();exact qaC
 |clear qph;refine b_ 7 rfl fun K hK=>?_
  refine bq (.tmp 52) (.tmp 57) 33 rfl W1.heap.size 43 qJ (.agg #[.bool false,.string ByteArray.empty,.slice none 0 0]) 3 48 Tryz.underlying33 hi Ar xP AT rfl (by decide) (.slice ra k rc) k _ rfl ((ba au (fun b _ hlt=>bZ.block b hlt)).alloc _) ⟨_,0,none⟩ 1 1 p.cells rfl rfl (cV (cs:=#[.bool p.v,.string p.n,.slice p.a p.l p.c]) (t:=43) (fr:=(0,0)) (fD A _)) (by simp[TQ.cells,Value.oneCell']) (by decide) (by unfold maxLen;omega) (by omega) (by simp;omega) (A.heap.size+1) (by simp) ?_;have qpi:=();exact qaC
 |refine b_ 7 rfl fun K hK=>?_
  refine bq (.tmp 71) (.tmp 76) 33 rfl W1.heap.size 43 qJ (.agg #[.bool false,.string ByteArray.empty,.slice none 0 0]) 3 48 Tryz.underlying33 hi Ar xP AT rfl (by decide) (.slice ra k1 rc) k1 _ rfl ((ba au (fun b _ hlt=>bZ.block b hlt)).alloc _) ⟨_,0,none⟩ 1 1 p.cells rfl rfl (cV (cs:=#[.bool p.v,.string p.n,.slice p.a p.l p.c]) (t:=43) (fr:=(0,0)) (fD A _)) (by simp[TQ.cells,Value.oneCell']) (by decide) (by unfold maxLen;omega) (by omega) (by simp;omega) (A.heap.size+1) (by simp) ?_;exact qaC):G:=h
theorem qbm(h:G:=by
 obtain ⟨j,hj,rfl,de,hk⟩:=hrel
 by_cases hlt:j<n1
 first
 |clear qnU
  ·have gZ:=cb HN.o.1 hlt;obtain ⟨b1,o1,⟨xv,xn,xa,xl,xc⟩,rfl,hok,hx,c0,c1,c2⟩:=HV.o.get gZ;have lN:=HF.o.mem (ap gZ);have pL:=uh (ap gZ);have gO:=F4 gZ;have nO:=pX (l.take j);have vR:=gN (a:=l) (j:=j);have d0:=hk.cell (a:=⟨b1,o1+j * 3,none⟩) (ko.o b1 hok) c0;have d1:=hk.cell (a:=⟨b1,o1+j * 3+1,none⟩) (ko.o b1 hok) c1;have d2:=hk.cell (a:=⟨b1,o1+j * 3+2,none⟩) (ko.o b1 hok) c2;obtain ⟨⟨v,n,a'⟩,hte⟩:∃t,t=l[j]:=⟨_,rfl⟩;rw[<-hte]at hx lN pL gO;obtain ⟨s1,h1,iu⟩:=aM.1 hx;have qpj:=();exact qcx
  ·obtain rfl:n1=j:=by omega
   have ce:l.take n1=l:=by rw[HN.o.1];exact cK
   exact qfR
 |·have gZ:=cb HN.o.1 hlt;obtain ⟨b1,o1,⟨xo,xn,xa,xl,xc,xb,xm,xe⟩,rfl,hok,hx,c0,c1,c2,c3⟩:=HV.o.get gZ;have lN:=HF.o.mem (ap gZ);have pL:=fO (ap gZ);have gO:=sy gZ;have d0:=hk.cell (a:=⟨b1,o1+j * 4,none⟩) (ko.o b1 hok) c0;have d1:=hk.cell (a:=⟨b1,o1+j * 4+1,none⟩) (ko.o b1 hok) c1;have d2:=hk.cell (a:=⟨b1,o1+j * 4+2,none⟩) (ko.o b1 hok) c2;have d3:=hk.cell (a:=⟨b1,o1+j * 4+3,none⟩) (ko.o b1 hok) c3;have ⟨W6,cQ⟩:=aj (wr.alloc (.cells #[.int .u8 xo,.string xn,.slice xa xl xc,.slice xb xm xe] 36));have cF:=cM cQ;have x6:=bS cQ;have n8:Kp (fun b=>b=m) w W6:=hk.trans (Kp.below cF);have sd:=de.same (cF.block m de.lt);have YY:(P ++ j5 a ++ lx (s.take j)).length+nodesF s[j]<=4000000:=by
    have h1:=HP.o.2;have h2:=pX a;have h3:=wV (s.take j);have h4:=dr gZ;have h5:=bQ s (j+1);rw[cU,cU];omega
   have CF2:=fd.o (nodesF s[j]) (by have:=HN.o.2;omega) s[j] (aC _) lN _ (P ++ j5 a ++ lx (s.take j)) m W6 ⟨xo,xn,xa,xl,xc,xb,xm,xe⟩ sd (hx.move (fun b hb hlt=>⟨hb,n8.same b hlt (ko.o b hb)⟩)) ko.o YY;simp only[FQ.val]at CF2;obtain ⟨y0,y1,y2,y3,_⟩:=dc x6;have ⟨HT,lJ,OU,Ex⟩:=eD gO CF2 cQ n8;have z7:(j:Int)<(n1:Int):=by omega
   clear hx lN pL gO cQ cF x6 sd n8 YY de hk c0 c1 c2 c3 CF2;go_wp2_with (first | rw[<-OU.o] | (go_at_call 73;refine lJ.o.mono ?_;rintro e w7 ⟨rfl,NG,YZ⟩;have H7:=aA NG YZ;clear NG YZ));go_roundw
   case rel=>exact ⟨j+1,by omega,by go_num,by have:=H7.o.1;rw[HT.o];simpa using this,Ex.o.trans H7.o.2⟩
   case measure=>simp[intOf];omega
  ·obtain rfl:n1=j:=by omega
   have ce:s.take n1=s:=by rw[HN.o.1];exact cK
   exact qfR):G:=h
theorem qaT(h:G:=by
 have qpk:=();exact qfS):G:=h
theorem qcy(h:G:=by
 have qpl:=();exact qbs):G:=h
theorem qad(h:G:=by
 refine wpQuiet_nil ?_;rintro _ ⟨x',rfl⟩
 first
 |clear qpm;clear f0 f1;have qpn:=();exact qaw
 |clear qpo;clear f0 f1 f2 f3;go_wp2;go_ret;exact ⟨az HE.o.symm,cz.o.trans (x'.below.mono cz.o.size)⟩
 |clear qpp;clear f0 f1 f2 f3;go_wp2;go_roundw
  case rel=>exact ⟨j,by omega,by go_num,mx.o.trans (x'.below.mono mx.o.size),HT.o⟩
  case measure=>simp[intOf];try omega
 |clear qpq;clear f0 f1 f2 f3 f4 f5;have qpr:=();exact qaw
 |clear qps;have ⟨W9,sK⟩:=aj x'.w;have mz:Below W8.heap.size W8 W9:=by rw[sK];exact x'.below
  rw[<-sK];clear sK q0 q1 q2 q3 q4 q5 q6 q7 q8 q9 q10 s8 Qu _n x';have CY:Kp (N2 mF mT) W W9:=nD.o.2.1.trans (Kp.below mz);have x27:=bN mz nD.o.1.1;have _K:=bN mz nD.o.1.2.1;have _L:=bN mz nD.o.1.2.2;have Mr:=HE1.o
  by_cases jb:m3=ni
  ·rw[ak (by simp[jb])]at Mr;have qpt:=();exact qfT
  ·rw[aw (by simp[jb])]at Mr;exact qfU
 |clear qpu;clear f0 f1 f2 f3 f4 f5;have qpv:=();exact qaw
 |clear qpw;clear f0 f1 f2 f3 f4 f5;go_wp2;go_ret;exact ⟨az (HNe.o (by rw[HX.o.1,HX.o.2];intro h;injection h with _ h _;exact hn h)).symm,HB.o.trans (x'.below.mono HB.o.size)⟩
 |clear qpx;clear f0 f1 f2 f3 f4 f5 f6 f7;have qpy:=();exact qaw
 |clear qpz;clear f0 f1 f2 s8 Qu _n Yn hw5 htd zaq;have qpA:=();exact qaw
 |clear qpB;have e3:x'.w.cell? ⟨w.heap.size,3,none⟩=some (.slice qb k0 qe):=x'.get (ag HX.o 3);have qpC:=();exact qaw
 |clear qpD;clear f0 f1 f2 f3 f4 f5 f6 g2 g3 g4 g5 g6;have qpE:=();exact qaw
 |clear qpF;clear f0 f1 f2 f3 f4 f5 f6 g2 g3 g4 g5 g6;exact qaw
 |clear qfV;clear f0 f1 f2 f3 f4 f5 f6;exact qcz
 |clear qfW;clear f0 f1 f2 g0 g1 g2 g3;exact qcz
 |clear f0 f1 f2 f3 g0 g1 g2 g3 g4;exact qcz):G:=h
theorem qbn(h:G:=by
 exact qcA):G:=h
theorem qaf(h:G:=by
 have og:=ab cD;have d3:=h4.2.2;have z3:=h4.2.1;clear aO am hg eA cD h4 au eu gd hp hA;refine eK hK ?_;clear hK K
 first
 |clear qfX;refine b_ 13 rfl fun K hK=>?_
  go_simp;refine eK hK ?_;clear hK K;refine b_ 14 rfl fun K hK=>?_;have qpG:=();exact qaa
 |clear qcB;have qpH:=();exact qfY
 |clear qcC;refine b_ 8 rfl fun K hK=>?_
  go_simp;have qpI:=();exact qbt
 |clear qpJ;refine b_ 11 rfl fun K hK=>?_
  go_simp;refine eK hK ?_;clear hK K;refine b_ 12 rfl fun K hK=>?_;have qpK:=();exact qaa
 |clear qpL;exact qfY
 |clear qpM;refine b_ 7 rfl fun K hK=>?_
  go_simp;refine eK hK ?_;clear hK K;refine b_ 8 rfl fun K hK=>?_;have qcD:=();exact qaa
 |clear qpN;refine b_ 10 rfl fun K hK=>?_
  go_simp;refine eK hK ?_;clear hK K;refine b_ 11 rfl fun K hK=>?_;have qcE:=();exact qaa
 |refine b_ 8 rfl fun K hK=>?_
  go_simp;have qpO:=();exact qbt):G:=h
theorem qaU(h:G:=by
 have tf:=HL.o.1;have AG:=HL.o.2.2.1;have zr:W2.heap[W.heap.size]?=some (.cells #[.int .u8 u0,.string u1,.slice u2 u3 u4,.slice u5 u6 u7,.int .u8 v0,.string v1,.slice v2 v3 v4,.slice v5 v6 v7,.slice ca cl cc] 89 (0,0)):=(gw.same _ (by omega)).trans (ah rfl);have wJ:∃r,(W.alloc (.cells #[.int .u8 u0,.string u1,.slice u2 u3 u4,.slice u5 u6 u7,.int .u8 v0,.string v1,.slice v2 v3 v4,.slice v5 v6 v7,.slice ca cl cc] 89)).heap[lR]?=some (.loop r):=by
  obtain ⟨r,hr⟩:=HL.o.2.1;exact ⟨r,(HL.o.2.2.2.1.block _ AG).trans hr⟩
 first
 |clear qpP;have qpQ:=();exact qfZ
 |clear qpR;exact qfZ
 |clear qpS;have kf:=(HQ.o.1.later HL.o.2.2.2.1).move (ok':=fun b=>¬M1 b) (fun b hb hlt=>⟨hb.2,gw.same b (by have:=hb.1;omega)⟩);have qpT:=();exact qcF
 |clear qpU;have kf:=(HQ.o.1.later HL.o.2.2.2.1).move (ok':=fun b=>¬M2 b) (fun b hb hlt=>⟨hb.2,gw.same b (by have:=hb.1;omega)⟩);have qpV:=();exact qcF
 |have kf:=(HQ.o.1.later HL.o.2.2.2.1).move (ok':=fun b=>¬M3 b) (fun b hb hlt=>⟨hb.2,gw.same b (by have:=hb.1;omega)⟩);exact qcF):G:=h
theorem qf0(h:G:=by
 have ⟨m8,Jj⟩:=aj (iK ((wq.alloc (.cells #[.int .i64 j] 3)).alloc (.cells #[.int .u8 a0,.string a1,.slice a2 a3 a4,.slice a5 a6 a7,.int .u8 b0,.string b1,.slice b2 b3 b4,.slice b5 b6 b7] 50)) ⟨a0,a1,a2,a3,a4,a5,a6,a7⟩ ⟨b0,b1,b2,b3,b4,b5,b6,b7⟩);have z7:(j:Int)<(n1:Int):=by omega
 have yK:=ab Jj;clear Mv hok c0 c1 c2 c3 c4 c5 c6 c7 cD Jj;gi_wp2_with (gi_at_call 49;refine aH.2 ((nh ⟨a0,a1,a2,a3,a4,a5,a6,a7⟩ ⟨b0,b1,b2,b3,b4,b5,b6,b7⟩ _).mono ?_);rintro e w' ⟨rfl,rfl⟩);rw[<-yK.o];have ia:Below wq.heap.size wq m8:=by rw[yK.o];exact (((ai wq.heap.size wq).alloc (aC _) _).alloc (by simp) _).tr (gj _ _ _)
 have Hl:((wq.alloc (.cells #[.int .i64 j] 3)).alloc (.cells #[.int .u8 a0,.string a1,.slice a2 a3 a4,.slice a5 a6 a7,.int .u8 b0,.string b1,.slice b2 b3 b4,.slice b5 b6 b7] 50)).heap.size=wq.heap.size+1+1:=by simp
 have SS:m8.heap.size=wq.heap.size+1+1+2:=by rw[yK.o,kM,Hl]
 have xX:m8.heap[wq.heap.size+1+1]?=some (.cells #[.int .u8 a0,.string a1,.slice a2 a3 a4,.slice a5 a6 a7] 36 (0,0)):=by rw[yK.o,<-Hl];exact lP _ _ _
 have xY:m8.heap[wq.heap.size+1+1+1]?=some (.cells #[.int .u8 b0,.string b1,.slice b2 b3 b4,.slice b5 b6 b7] 36 (0,0)):=by rw[yK.o,<-Hl];exact lQ _ _ _
 have xi:m8.heap[wq.heap.size]?=some (.cells #[.int .i64 j] 3 (0,0)):=by
  rw[yK.o];exact ((gj _ _ _).block _ (by simp;omega)).trans ((bH _ _ _ (by simp)).trans (ah rfl))
 have ST:wH.heap.size<=wq.heap.size:=bi.size;have Wg:∀ b,M b->b<oA.heap.size:=uR.o.2.2.2.2.1;have Cd:=uR.o.2.2.2.1;have qI:=uR.o.2.2.2.2.2;have Nx:w.heap.size<=oA.heap.size:=mo.o.2.2.1.size;have _Z:∀ b,b<w.heap.size->m8.heap[b]?=w.heap[b]?:=fun b hb=>(ia.block b (bJ hb mn.size)).trans (mn.block b hb);have lU:FormV (fun b=>b<m8.heap.size/\¬M b) m8 (FQ.val ⟨a0,a1,a2,a3,a4,a5,a6,a7⟩) s:=hs.move (fun b hb hlt=>⟨⟨by omega,fun hm=>by have:=DZ.o.1 b hm;omega⟩,_Z b hlt⟩);have r_:FormV (fun b=>b<m8.heap.size/\¬M b) m8 (FQ.val ⟨b0,b1,b2,b3,b4,b5,b6,b7⟩) f:=hf.move (fun b hb hlt=>⟨⟨by omega,fun hm=>by have:=DZ.o.1 b hm;omega⟩,_Z b hlt⟩)
 first
 |clear qpW;have De:=Dd;have qpX:=();exact qf1
 |have De:=Dd;exact qf1):G:=h
theorem qf2(h:G:=by
 have e0:=ag h4 0;have e1:X.drew.cell? ⟨aB+1,0,none⟩=some (.int .i64 er):=ag h4 0;have e2:=ag h5 0;have e3:X.drew.cell? ⟨aB,0,none⟩=some (.int .i64 j):=ag h5 0;have jb:(er == 0)=false:=by simp[h2]
 have xR:=(h6.same _ (bA mC.o) DZ.o.2).trans mC.o;obtain ⟨y0,y1,z0,z1⟩:=uz xR;have xRd:X.drew.heap[w.heap.size+1]?=some (.cells #[.slice none 0 0,.slice none 0 0] 26 (0,0)):=xR;obtain ⟨y2,y3,z2,z3⟩:=uz xRd;obtain ⟨W9,sK,x9,k9,_⟩:=EH xR (.slice none 0 0) (.slice none 0 0);have η:¬(aB=w.heap.size+1):=fun h=>DZ.o.2 (h ▸ yL.o.2.2.1);have ι:¬(aB+1=w.heap.size+1):=fun h=>DZ.o.2 (h ▸ yL.o.2.2.2.1);have e4:=k9.cell (a:=⟨aB,0,none⟩) η e2;have e5:=k9.cell (a:=⟨aB+1,0,none⟩) ι e0;rw[sK]at e4 e5;clear sK x9 k9;have Di:Below w.heap.size w X:=dE (dE uR.o.2.2.1 ig.o.2.2.2.1 DZ.o.1) ((Kp.below ig.o.1).trans h6) DZ.o.1;have kP:Marks oA.heap.size X ({ target:=.collected D,args:=#[] } :: _X):=ig.o.2.2.1.more (w':=X) (fun E hE hx=>(h6.same E (bA hx) (fun hm=>by have:=uR.o.2.2.2.2.1 E hm;omega)).trans hx) hD (by have:=ig.o;omega) hd;have HZ:=bx xR Di kP;clear hrs ζ iG h3 h4 h5 h6 hd Di kP xR xRd;gi_wp2_with fail;gi_region
 all_goals
  gi_wp2_with fail;obtain ⟨W8,kV,x8,k8,g0,g1⟩:=EH HZ.o.1 (.slice none 0 0) (.slice none 0 0);rw[<-kV,Exit.noGoto_ret];have uC:Below w.heap.size w W8.drew:=(Below.kp1 HZ.o.2.1 k8 (by omega)).drew;refine eB (B:=oA.heap.size) (HZ.o.2.2.move (w':=W8.drew) (fun E hE hd=>(k8.same E (bA hd) (by have:=(bA mo.o.2.2.2.2);omega)).trans hd)) (fun w' hn=>?_);have h0:=hn.cell (show W8.drew.cell? _=_ from g0);have h1:=hn.cell (show W8.drew.cell? _=_ from g1);exact ⟨.tuple #[.agg #[.slice none 0 0,.slice none 0 0],.int .i64 j,.int .i64 er],by simp[results,Tryz.results15,go_sem,h0,h1],⟨⟨⟨none,0,0,none,0,0⟩,by (rw[HE.o];try rfl),by rw[HE.o];exact o6⟩,jN uC (hn.mono mo.o.2.2.1.size)⟩⟩):G:=h
theorem qaV(h:G:=by
 have ⟨ix,xQ⟩:=aj wr;subst xQ;have wj:=ab (il.o.trans (dx.mono il.o.size));have wk:=ab (bN dx mC.o);have VE:=ab (bN dx nW.o);have VF:=ab (qp.o.later dx);have x0:ix.cell? ⟨w.heap.size,0,none⟩=some (.int .u8 uo):=ag wk.o 0;have x1:ix.cell? ⟨w.heap.size,1,none⟩=some (.string ⟨xn.toArray⟩):=ag wk.o 1;have x2:ix.cell? ⟨w.heap.size,2,none⟩=some (.slice ua k0 uc):=ag wk.o 2;have x3:ix.cell? ⟨w.heap.size,3,none⟩=some (.slice ub k1 ue):=ag wk.o 3;clear dx ht mC nW qp il
 first
 |clear qpY;have qpZ:=();exact qcG
 |clear qp0;have qp1:=();exact qcG
 |clear qp2;exact qcG
 |clear qp3;go_wp2_with (go_at_call 146;refine (Js.o _).mono ?_;rintro e X4 ⟨rfl,aR⟩;have mC:=ab (bN aR wk.o);have nW:=ab (bN aR VE.o);have qp:=ab (VF.o.later aR);have il:=ab (wj.o.trans (aR.mono wj.o.size));have z3:X4.cell? ⟨w.heap.size,3,none⟩=some (.slice ub k1 ue):=ag mC.o 3;clear aR);have qp4:=();exact qf3
 |go_wp2_with (go_at_call 146;refine (Js.o _).mono ?_;rintro e X4 ⟨rfl,aR⟩;have mC:=ab (bN aR wk.o);have nW:=ab (bN aR VE.o);have qp:=ab (VF.o.later aR);have il:=ab (wj.o.trans (aR.mono wj.o.size));have z3:X4.cell? ⟨w.heap.size,3,none⟩=some (.slice ub k1 ue):=ag mC.o 3;clear aR);exact qf4):G:=h
theorem qax(h:G:=by
 have qp5:=();exact qbu):G:=h
theorem qf5(h:G:=by
 have hh3:Below w.heap.size w (((w.alloc (.cells #[.bool true,.string ⟨n.toArray⟩,.slice qa k0 qc] 43)).alloc (.cells #[.bool false,.string ⟨#[]⟩,.slice none 0 0] 43)).alloc (.cells #[.bool true,.string ⟨n.toArray⟩,.slice none 0 0] 43)):=(cI.alloc (by simp) _).alloc (by simp;omega) _;have y1:(((w.alloc (.cells #[.bool true,.string ⟨n.toArray⟩,.slice qa k0 qc] 43)).alloc (.cells #[.bool false,.string ⟨#[]⟩,.slice none 0 0] 43)).alloc (.cells #[.bool true,.string ⟨n.toArray⟩,.slice none 0 0] 43)).heap[w.heap.size+1]?=some (.cells #[.bool false,.string ⟨#[]⟩,.slice none 0 0] 43 (0,0)):=(bH _ _ _ (by simp)).trans (ah (by simp));have y2:(((w.alloc (.cells #[.bool true,.string ⟨n.toArray⟩,.slice qa k0 qc] 43)).alloc (.cells #[.bool false,.string ⟨#[]⟩,.slice none 0 0] 43)).alloc (.cells #[.bool true,.string ⟨n.toArray⟩,.slice none 0 0] 43)).heap[w.heap.size+1+1]?=some (.cells #[.bool true,.string ⟨n.toArray⟩,.slice none 0 0] 43 (0,0)):=ah (by simp);have y0:(((w.alloc (.cells #[.bool true,.string ⟨n.toArray⟩,.slice qa k0 qc] 43)).alloc (.cells #[.bool false,.string ⟨#[]⟩,.slice none 0 0] 43)).alloc (.cells #[.bool true,.string ⟨n.toArray⟩,.slice none 0 0] 43)).heap[w.heap.size]?=some (.cells #[.bool true,.string ⟨n.toArray⟩,.slice qa k0 qc] 43 (0,0)):=(bH _ _ _ (by simp;omega)).trans ((bH _ _ _ (by simp)).trans (ah rfl));have HY:=cq hh3 y1 y2 y0;have CP:=ab (fun w=>hh ▸ ky n w (by omega));clear hh hh3 y1 y2 y0;have qp6:=();exact qf6):G:=h
theorem qf7(h:G:=by
 cases S with
 | none=>
  go_wp2_with (go_at_call 229;refine HC.o.mono ?_;rintro e w2 ⟨⟨v2,rfl,jW⟩,bG⟩;obtain ⟨a2,c2,rfl⟩:=jW.slice;simp only[Option.getD,List.length_nil];have eG:=ab (HB.o.trans (bG.mono HB.o.size));clear bG jW);exact qf8
 | some p=>
  have qp7:=();exact qf9):G:=h
theorem qga(h:G:=by
 have d1:=jD.cell jy.2 c1;have g1:=jD.cell GI.2 e1;have d2:=jD.cell jy.2 c2;have g2:=jD.cell GI.2 e2;have d3:=jD.cell jy.2 c3;have g3:=jD.cell GI.2 e3;obtain ⟨uo,un,ua,ul,uc,ub,um,ue⟩:=u;obtain ⟨vo,vn,va,vl,vc,vb,vm,ve⟩:=v;have js:=m_ (c:=Ai) y' Xy;have zw:=(bi.same _ (bA QA.o) HWM.o.2).trans QA.o;have zdz:=bi.size;have zdA:k<sm:=by have:=gt.o;omega
 have zdB:k<fm:=by have:=gt.o;omega
 have vj:(pre ++ ([X] ++ aJ Ai (ss.take k) (fs.take k)) ++ a_ Ai ss[k] fs[k]) <+: xs:=by
  have h2:=nK.o;rw[nd (c:=Ai) (k:=k+1) (l:=ss) (m:=fs),js]at h2;obtain ⟨r,rfl⟩:=h2;exact ⟨aJ Ai (ss.drop (k+1)) (fs.drop (k+1)) ++ r,by simp⟩
 have qp8:=();exact qbv):G:=h
theorem qcH(h:G:=by
 clear hS sZ sG In;have qp9:=();exact qcI):G:=h
theorem qas(h:G:=by
 obtain ⟨qo,qn,qa,ql,qc,qb,qm,qe⟩:=q;obtain ⟨sa,ss,hs,bB,eb⟩:=aQ.1 hq;have qqa:=();exact qgb):G:=h
theorem qae(h:G:=by
 go_enter Tryz.func239,Tryz.ntmps239;go_wp2
 first
 |clear qqb;have qqc:=();exact qgc
 |clear qqd;exact qgc
 |clear qqe;go_quiet ((go_at_call 240;exact f_ (CR.o _)));go_wp2;go_ret;exact ⟨az (xK HR.o).symm,⟨_,rfl⟩⟩
 |clear qaE;go_quiet (fail);go_wp2;go_ret;exact ⟨az (mH (by rw[kx];omega)).symm,⟨_,rfl⟩⟩
 |clear qqf;have qqg:=();exact qgd
 |clear qqh;exact qgd
 |clear qqi;go_quiet ((first | (go_at_call 240;exact f_ (CR.o _)) | (go_at_call 188;exact f_ (CF.o _))));exact qcJ
 |go_quiet ((first | (go_at_call 240;exact f_ (CR.o _)) | (go_at_call 188;exact f_ (CF.o _))));exact qge):G:=h
theorem qgf(h:G:=by
 simp only[FQ.val]at CC;have lJ:=ab CC;clear CC;gi_wp2_with (gi_at_call 51;refine aH.2 (lJ.o.mono ?_);rintro e w5 ⟨p5,rfl,qD,bh⟩;obtain ⟨po,pn,pa,pl,pc,pb,pm,pe⟩:=p5;simp only at qD ⊢;have GD:=ab (Jh.o.later bh);have HP:=ab qD;have x1:=GD.o.b1;have f0:=ag x1 0;have f1:=ag x1 1;have f2:=ag x1 2;have f3:=ag x1 3;have z0:=ac x1 0;have z1:=ac x1 1;have z2:=ac x1 2;have z3:=ac x1 3;clear bh qD x1);have ZV:=Jh.o.lt;have x6:=lZ (v0:=.int .u8 po) (v1:=.string pn) (v2:=.slice pa pl pc) (v3:=.slice pb pm pe) GD.o.b1;have k6:=dM (W:=w5) (b:=w.heap.size+1+1) (v0:=.int .u8 po) (v1:=.string pn) (v2:=.slice pa pl pc) (v3:=.slice pb pm pe);have ⟨W6,cQ⟩:=aj ((((w5.setCell ⟨w.heap.size+1+1,0,none⟩ (.int .u8 po)).setCell ⟨w.heap.size+1+1,1,none⟩ (.string pn)).setCell ⟨w.heap.size+1+1,2,none⟩ (.slice pa pl pc)).setCell ⟨w.heap.size+1+1,3,none⟩ (.slice pb pm pe));rw[<-cQ]at x6 k6 ⊢;clear cQ;have g0:W6.cell? ⟨w.heap.size+1+1,0,none⟩=some (.int .u8 po):=ag x6 0;have g1:W6.cell? ⟨w.heap.size+1+1,1,none⟩=some (.string pn):=ag x6 1;have g2:W6.cell? ⟨w.heap.size+1+1,2,none⟩=some (.slice pa pl pc):=ag x6 2;have g3:W6.cell? ⟨w.heap.size+1+1,3,none⟩=some (.slice pb pm pe):=ag x6 3;refine bK (v:=FQ.val ⟨po,pn,pa,pl,pc,pb,pm,pe⟩) (by simp[FQ.val,results,Tryz.results101,go_sem,g0,g1,g2,g3]) rfl ⟨⟨⟨po,pn,pa,pl,pc,pb,pm,pe⟩,rfl,ym.o ▸ HP.o.move (fun b hok hlt=>⟨by omega,k6.same b hlt (by omega)⟩)⟩,Below.kp1 GD.o.below k6 (by omega)⟩):G:=h
theorem qaW(h:G:=by
 obtain ⟨⟨u0,u1,u2,u3,u4,u5,u6,u7⟩,⟨v0,v1,v2,v3,v4,v5,v6,v7⟩,ca,cl,cc⟩:=q;simp only[PlQ.val,PlQ.cells];simp only at uQ Es iG;have AG:lR<W.heap.size:=by obtain ⟨r,hr⟩:=xj;exact (bA hr)
 have iY:Below W.heap.size W (W.alloc (.cells #[.int .u8 u0,.string u1,.slice u2 u3 u4,.slice u5 u6 u7,.int .u8 v0,.string v1,.slice v2 v3 v4,.slice v5 v6 v7,.slice ca cl cc] 89)):=cI
 first
 |clear qqj;have qqk:=();exact qgg
 |clear qql;exact qgg
 |clear qqm;have Wh:=cq h1 (bN iY h2) (bN iY h3) (h4.trans (Kp.below iY));have HQ:=cq uQ iG NY hpl;have HL:=sC hl xj AG iY Ii dq;clear h1 h2 h3 h4 uQ Es iG NY hpl hl xj AG iY Ii dq;gi_wp2;refine ⟨Kp.below HL.o.2.2.2.1,Wh.o,fun W2 gw xk iO=>?_⟩;obtain ⟨g1,g2,g3,g4⟩:=xk;exact qaU
 |clear qqn;have Wh:=ab (an8 h1 (h2.later iY) h3 h4 h5 (bN iY h6) (bN iY h7) (h8.trans (Kp.below iY)));have qqo:=();exact qgh
 |have Wh:=ab (an8 h1 (h2.later iY) h3 h4 h5 (bN iY h6) (bN iY h7) (h8.trans (Kp.below iY)));exact qgh):G:=h
theorem qgi(h:G:=by
 have j_:s.take k=s:=by rw[gt.o];exact cK
 rw[j_]at BG;have sI:=ab hF.row;have x2:=hF.box;have x1:=hF.other (by omega) Rt.o;have xp:=hF.other (by omega) Rs.o;have HE:=ab (show RS=some (.mk qo n Ve us) from Ru.o.2.2 _ _ HAs.o.1 BG);have HRA:=ab (LG.o.kp1 hF.kp Rq.o.2);have c0:wr.cell? ⟨w.heap.size+1+1+1,0,none⟩=some (.int .u8 qo):=ag x2 0;have qqp:=();exact qgj):G:=h
theorem qgk(h:G:=by
 have qqq:=();exact qgl):G:=h
theorem qbw(h:G:=by
 have Dh:Kp M W2 w4:=H4.o.1.two yL.o.1 yL.o.2.1
 first
 |clear qgm;have gG:Kp (fun b=>b=aB+1) w4 (w4.setCell ⟨aB+1,0,none⟩ (.int .i64 0)):=jm
  have D1:Kp M w4 (w4.setCell ⟨aB+1,0,none⟩ (.int .i64 0)):=gG.mono (fun b _ h=>by subst h;exact yL.o.2.2.2.1);refine ⟨Dh.trans D1,k3,nF4,nT4,HG.o.2.2.2.2.2.2.1,kD.kpx gG (fun b h=>by subst h;exact yL.o.2.2.2.1) (by omega) (by omega) (by omega),by have:=HG.o.1;simp;omega,by have:=HG.o.2.1;simp;omega,HG.o.2.2.2.2.2.1 (by simp),jl H4.o.2.2.1,?_,(HG.o.2.2.2.2.1.trans Dh).trans D1⟩;exact (gG.same _ (bA H4.o.2.2.2.1) (by omega)).trans H4.o.2.2.2.1
 |have gG:Kp (fun b=>b=aB+1) w4 (w4.setCell ⟨aB+1,0,none⟩ (.int .i64 er)):=jm
  have kf:Kp (fun b=>b=aB) (w4.setCell ⟨aB+1,0,none⟩ (.int .i64 er)) ((w4.setCell ⟨aB+1,0,none⟩ (.int .i64 er)).setCell ⟨aB,0,none⟩ (.int .i64 j)):=jm;have D1:Kp M w4 ((w4.setCell ⟨aB+1,0,none⟩ (.int .i64 er)).setCell ⟨aB,0,none⟩ (.int .i64 j)):=(gG.mono (fun b _ h=>by subst h;exact yL.o.2.2.2.1)).trans (kf.mono (fun b _ h=>by subst h;exact yL.o.2.2.1));have xa5:=(gG.same _ (bA H4.o.2.2.2.1) (by omega)).trans H4.o.2.2.2.1;refine ⟨trivial,(Dh.trans D1).from _,rfl,k3,er,QF,HG.o.2.2.2.2.2.2.1,?_,jl xa5,(HG.o.2.2.2.2.1.trans Dh).trans D1⟩;exact (kf.same _ (bA (jl H4.o.2.2.1 (v:=.int .i64 er))) (by omega)).trans (jl H4.o.2.2.1)):G:=h
theorem qb7(h:G:=by
 obtain ⟨es,hD,U9,_⟩:=au.entries (Maps.string_keyed Tryz.underlying9);exact qe4):G:=h
theorem qge(h:G:=by
 go_wp2;go_loopw [5] (fun i wr=>∃k:Nat,1<=k/\k<=s.size/\i=.int .i64 k/\ml lX (s.data.toList.take k).tail=true/\∃n,wr=w.drewN n) (fun i _=>s.size - (intOf i).toNat)
 case atStart=>exact ⟨1,aC _,h1,rfl,by rw[List.take_one];cases s.data.toList <;> simp[ml],⟨_,rfl⟩⟩
 case round=>
  obtain ⟨k,kt,hk,rfl,ha,hw⟩:=hrel;have KN:wr.cell? ⟨b2,0,none⟩=some (.func (.func 189) #[] #[]):=by obtain ⟨n,rfl⟩:=hw;exact E5
  have ⟨HA,HW⟩:=aS ha hw;clear ha d1 d2 hw XA E5
  by_cases hlt:k<s.size
  ·cases hp:lX s[k].toNat
   ·have HP:=ab hp;have qqr:=();exact qgn
   ·have HP:=ab hp;exact qgn
  ·obtain rfl:k=s.size:=by omega
   exact qgo):G:=h
theorem qcK(h:G:=by
 have x6:=qu (v0:=.bool false) (v1:=.string ⟨n.toArray⟩) (v2:=.slice ra k rc) l7.o;have k6:=eN (W:=wr) (b:=w.heap.size+1) (v0:=.bool false) (v1:=.string ⟨n.toArray⟩) (v2:=.slice ra k rc);have ⟨W6,cQ⟩:=aj (((wr.setCell ⟨w.heap.size+1,0,none⟩ (.bool false)).setCell ⟨w.heap.size+1,1,none⟩ (.string ⟨n.toArray⟩)).setCell ⟨w.heap.size+1,2,none⟩ (.slice ra k rc));rw[<-cQ]at x6 k6 ⊢;clear cQ;have g0:W6.cell? ⟨w.heap.size+1,0,none⟩=some (.bool false):=ag x6 0;have qqs:=();exact qay):G:=h
theorem qaa(h:G:=by
 go_simp;refine eK hK ?_;clear hK K;refine ku ?_
 first
 |clear qqt;have xk:=zdk.o;have LI:=BE.o.2;rw[xk]at LI;have Ru:=aA BE.o.1 LI;clear BE LI;have ZK:=ab (Fills.start (R:=w.heap.size+1+1+1) (mk:=fun rr=>#[.int .u8 qo,.string ⟨n.toArray⟩,.slice gy k1 gz,rr]) (Row:=fun r W=>RowF X5.heap.size r ([]:List Fm) W) ZJ.o (RowF.nil _ _));have p3:X5.cell? ⟨w.heap.size+1,3,none⟩=some (.slice qb m0 qe):=ag ZI.o 3;clear xk;go_wp2;clear p3;go_loopw [61] (fun i wr=>∃k:Nat,k<=m0/\i=.int .i64 k/\∃row us,Fills 36 (w.heap.size+1+1+1) X5.heap.size (fun rr=>#[.int .u8 qo,.string ⟨n.toArray⟩,.slice gy k1 gz,rr]) (fun r W=>RowF X5.heap.size r us W) X5 wr row/\eZ ps.reverse (n :: ins) (s.take k)=some us/\us.length=k) (fun i _=>m0 - (intOf i).toNat)
  case atStart=>exact ⟨0,aX _,rfl,_,[],ZK.o,by simp[eZ],rfl⟩
  case round=>
   have qqu:=();exact qcL
 |clear qqv;gi_wp2;have x6:=qu (v0:=.bool qv) (v1:=.string ⟨n.toArray⟩) (v2:=.slice ra k0 rc) Zm.o;have k6:=eN (W:=A) (b:=w.heap.size+1) (v0:=.bool qv) (v1:=.string ⟨n.toArray⟩) (v2:=.slice ra k0 rc);have ⟨W6,cQ⟩:=aj (((A.setCell ⟨w.heap.size+1,0,none⟩ (.bool qv)).setCell ⟨w.heap.size+1,1,none⟩ (.string ⟨n.toArray⟩)).setCell ⟨w.heap.size+1,2,none⟩ (.slice ra k0 rc));have qqw:=();exact qgp
 |clear qqx;have p3:=ag QA.o 3;have p7:=ag QA.o 7;clear f1 f5 dN cR bV jE;gi_wp2;clear p3 p7;gi_loopw [40] (fun i wr=>∃k:Nat,k<=m0/\i=.int .i64 k/\J (pre ++ ([X] ++ aJ Ai (ss.take k) (fs.take k))) wr/\Kp M X5 wr) (fun i _=>m0 - (intOf i).toNat)
  case atStart=>exact ⟨0,aX _,rfl,by simpa[aJ] using BR.o.1,Kp.refl _⟩
  case round=>
   have qqy:=();exact qau
 |clear qqz;clear pp tt yy z0 z1 z2 y0' y1' y2';go_wp2_with fail;go_meet;obtain ⟨W8,kV,x8,k8,_⟩:=sJ HA.o.2.2.1 (.bool u0) (.string u1) (.slice u2 u3 u4);rw[<-kV];have hl:=H6.o.1.size;refine ⟨EB,rfl,rfl,⟨u0,u1,u2,u3,u4⟩,x8,Below.kp1 HA.o.1 k8 (by have:=HA.o.2.2.2;omega),by have:=HA.o.2.2.2;omega,fun u h=>(H6.o.2 u h).move (fun b hb hlt=>⟨hb,(k8.same b (bJ hlt HA.o.2.1.size) (by have:=HA.o.2.2.2;omega)).trans (HA.o.2.1.block b hlt)⟩)⟩
 |clear qqA;clear pp tt yy z0 z1 z2 y0' y1' y2';go_wp2_with fail;go_meet;obtain ⟨W8,kV,x8,k8,_⟩:=sJ H6.o.2.2.1 (.bool u0) (.string u1) (.slice u2 u3 u4);rw[<-kV];refine ⟨EB,rfl,rfl,⟨u0,u1,u2,u3,u4⟩,x8,Below.kp1 H6.o.1 k8 (by have:=HA.o.2.2;omega),by have:=HA.o.2.2;omega,fun u h=>?_⟩;exact (H6.o.2.1 u h).move (fun b hb hlt=>⟨by have:=H6.o.2.2.2.2;omega,k8.same b hlt (by have:=H6.o.2.2.2.1;omega)⟩)
 |clear qqB;have qqC:=();exact qbx
 |clear qqD;have qqE:=();exact qbx
 |clear qqF;clear ff dN bV cB fB gq ir jj jz lM qh jE s8 Qu _n;go_wp2;go_ret;exact ⟨by rw[sg.o];simp,(H2.o.1.tr H3.o.1).tr (H5.o.tr H8.o)⟩
 |clear qqG;clear ff dN bV cB fB gq ir jj jz lM jE;clear d0 d1 d2 f0 f1 f2;have x6:=qu (v0:=.bool pv) (v1:=.string pn) (v2:=.slice pa pl pc) H7.o.2.1;have qqH:=();exact qgq
 |clear qqI;have qqJ:=();exact qbx
 |clear qqK;exact qbx
 |clear qqL;clear ff dN bV cB fB gq ir jj jz lM jE;have h5s:=H5.o.1.size;have hx8:w8.cell? ⟨w4.heap.size,0,none⟩=some (.string ⟨dm.toArray⟩):=aa H8.o.1 (ag H5.o.2.1 0);have ⟨l0,tf⟩:=aj (m.filter ct);have zdG:l0.length<=400:=by rw[tf];exact aN (List.length_filter_le _ _) HM.o.2.1
  have hE:=HE2.o;rw[<-tf]at hE;have HV8:=ab (tf ▸ H8.o.2);have lJ:=fT l0 (by omega) dm _ w8 v8 HV8.o.strs
  cases zs:l0.contains dm with
  | false=>
   rw[zs]at lJ hE;have lJ:=ab lJ;have sg:=ab (show R=l0 by rw[hE];simp);clear hE tf zs;go_wp2_with (go_at_call 128;refine lJ.o.mono ?_;rintro e w9 ⟨rfl,hw9⟩;cases hw9);go_ret;exact ⟨⟨_,rfl,by rw[sg.o];exact HV8.o.base (aN H2.o.1.size h5s)⟩,(H2.o.1.tr H5.o.1).tr H8.o.1⟩
  | true=>
   rw[zs]at lJ hE;have lJ:=ab lJ;have hE:R=l0.filter (fun x=>!(x == dm)) ++ (di (aE (termOf k.ts y))).filter ct:=by rw[hE];simp[bne]
   have sg:=ab hE;have zdH:=ab (zF (fun x=>x == dm) l0 (by omega) 247 #[.pointer (some ⟨w4.heap.size,0,none⟩)] Ce W5.heap.size w8 v8 (fun x W _ hC=>JF x dm w4.heap.size W (hC.cell (by intro h;have h1:W5.heap.size<=w4.heap.size:=h.1;have h2:=(bA H5.o.2.1);omega) hx8)) HV8.o);clear hE tf zs;go_upto_region 11 with (first | (go_at_call 128;refine lJ.o.mono ?_;rintro e w9 ⟨rfl,hw9⟩;cases hw9) | (go_at_call 246;refine zdH.o.mono ?_;rintro e w9 ⟨⟨v9,rfl,RI⟩,hk9⟩;have H9:=aA (lO (w:=W5) H8.o.1 hk9) RI;clear RI hk9));have _s:=H5.o.2.2.later H9.o.1;obtain ⟨⟨z0,z1,z2,z3,z4⟩,Ym,GY,Nu,Sd,_,Cb⟩:=_s.termOf (x:=y) (by have:=HYl.o;omega);simp only[TQ.val]at Cb;have Cb:=Cb w9 rfl;have k1:w9.cell? ⟨kb,1,none⟩=some (.map (some mT)):=ag _s.box 1;have DX:=ab (mv _ GY _ w9 ⟨z0,z1,z2,z3,z4⟩ Ym);have ⟨m9,hm9⟩:=aj (di (aE (termOf k.ts y)));have zbw:∀ x∈m9,x.length<=2000000:=fun x hx=>by rw[hm9,dV]at hx;exact aN (m4 _ Sd x hx) (by decide)
   have zbx:m9.length<=1000:=by rw[hm9];have h1:=eH (aE (termOf k.ts y));have h2:=mZ (termOf k.ts y);omega
   have hE:=sg.o;simp only[TQ.val,<-hm9]at DX;rw[<-hm9]at hE;have ⟨l1,Cd⟩:=aj (l0.filter (fun x=>!(x == dm)));have zdI:l1.length<=400:=by rw[Cd];exact aN (List.length_filter_le _ _) zdG
   have H9v:=ab (Cd ▸ H9.o.2);rw[<-Cd]at hE;have Sf:=ab hE;have HM9:=bx zbw zbx zdI;clear _s Ym GY Nu Sd hm9 zbw zbx Cd hE hx8;go_upto_region 12 with (first | (go_at_call 166;refine DX.o.mono ?_;rintro e w10 ⟨⟨v10,rfl,zby⟩,wn⟩;have zdJ:=ab (sj m9 (by have:=HM9.o.2.1;omega) HM9.o.1 _ w10 v10 zby.1);have mo:=ab wn;clear wn zby) | (go_at_call 245;refine zdJ.o.mono ?_;rintro e EF ⟨⟨v11,rfl,zbz⟩,ws⟩;have uR:=aA (lO (w:=w9) mo.o ws) zbz;clear zbz ws) | (at_builtin;refine ei rfl _ _ rfl W5.heap.size (H9.o.1.tr uR.o.1).size v9 l1 rfl (H9v.o.later uR.o.1) v11 (m9.filter ct) rfl _ uR.o.2.strs (by have h1:=List.length_filter_le ct m9;have h2:=HM9.o.2.1;have h3:=HM9.o.2.2;omega) ?_;intro v12 w12 zbA zbB;have QC:=aA zbA zbB;clear zbA zbB));go_ret;have oX:Below W5.heap.size W5 w12:=(oV (M:=fun _=>False) (Kp.below (H9.o.1.tr uR.o.1)) QC.o.2 (fun g hg=>(H9v.o.lt g hg).1)).empty;exact ⟨⟨_,rfl,by rw[Sf.o];exact QC.o.1.base (aN H2.o.1.size h5s)⟩,(H2.o.1.tr H5.o.1).tr oX⟩
 |clear qqM;have qqN:=();exact qgr
 |clear qqO;exact qgr
 |clear qqP;go_wp2;go_ret;exact ⟨rfl,HE.o⟩
 |clear qqQ;clear pp tt uu yy dN bV jE;go_wp2;go_ret;exact ⟨((Kp.below H3.o.1).trans HK.o.1).trans H7.o,false,rfl,(fun _=>rfl),(fun ts eW=>by rw[L0.o]at eW;cases eW)⟩
 |clear qqR;clear pp tt uu yy dN bV jE;go_wp2;go_roundw
  case rel=>exact ⟨j+1,nT7,ts0,by omega,by go_num,HK.o.1.trans H7.o.1,by have:=H7.o.2.1;have:=HK.o.2;omega,H7.o.2.2,L0.o⟩
  case measure=>simp[intOf];omega
 |clear qqS;clear dN s1 v0 bV jE;go_wp2;go_ret;refine ⟨Kp.below (H3.o.1.tr H8.o),bb,rfl,(fun h=>?_),(fun ts eW=>?_)⟩
  ·rw[HE.o]at h;cases bb;rfl;cases h
  ·rw[HE.o]at eW;cases bb;cases eW;cases eW;exact ⟨rfl,nT,by omega,H3.o.2.2.2.2.2.later H8.o⟩
 |clear qpG;clear ff dN;go_wp2;go_roundw
  case rel=>exact ⟨j+1,by omega,by go_num,_,og.o⟩
  case measure=>simp[intOf];omega
 |clear qcD;gi_wp2;exact qgs
 |clear qpK;go_wp2;exact qgs
 |clear qcE;gi_wp2;go_roundw
  case rel=>exact ⟨k1+1,by omega,by go_num,_,og.o⟩
  case measure=>simp[intOf];omega
 |clear qqT;have gG:Kp (fun b=>b=nB) w4 (w4.setCell ⟨nB,0,none⟩ (.int .i64 (S1:Int))):=jm
  have D1:Kp M3 w4 (w4.setCell ⟨nB,0,none⟩ (.int .i64 (S1:Int))):=gG.mono (fun b _ h=>by subst h;rw[HM3.o];exact .inr rfl);have xn5:=jl χ (v:=.int .i64 (S1:Int));have xr5:=(gG.same _ (bA PD) (by have:=HnB.o;omega)).trans PD;have ⟨w5,hw5⟩:=aj (w4.setCell ⟨nB,0,none⟩ (.int .i64 (S1:Int)));rw[<-hw5]at gG D1 xn5 xr5 ⊢;have nE:=(Kp.below (M:=M3) bZ).trans D1;have n5:=ag xn5 0;have r5:=ag xr5 0;have z5:=ac xr5 0;have H5:=fG nE xn5 xr5 (HGs.o.2.2.2.trans nE) D1;clear bZ aR χ PD n4 z4 gG D1 xn5 xr5 hw5 nE jj ir gq fB cB bV f0 f1 f2 dN
  by_cases K4:400<S1
  ·have hd:decide ((400:Int)<(S1:Int))=true:=by simp;omega
   gi_wp2_with fail;have sd:Kp (fun b=>b=w.heap.size+1+1) w5 (w5.setCell ⟨w.heap.size+1+1,0,none⟩ (.int .i64 3)):=jm;have zbQ:Kp M3 w5 (w5.setCell ⟨w.heap.size+1+1,0,none⟩ (.int .i64 3)):=sd.mono (fun b _ h=>by subst h;rw[HM3.o];exact .inl rfl);exact ⟨trivial,(H5.o.1.trans zbQ).from _,rfl,by rw[S'.o];exact K4,jl H5.o.2.2.1,H5.o.2.2.2.1.trans zbQ⟩
  ·have hd:decide ((400:Int)<(S1:Int))=false:=by simp;omega
   gi_wp2_with fail;exact ⟨H5.o.1,by rw[S'.o];omega,by rw[S'.o];exact H5.o.2.1,H5.o.2.2.1,H5.o.2.2.2.1⟩
 |clear qqU;gi_wp2;go_roundw
  case rel=>exact ⟨k+1,by omega,by go_num,by rw[HSu.o];simpa using HH.o.1,lj.o.2.trans HH.o.2⟩
  case measure=>simp[intOf];omega
 |clear qqV;gi_wp2;go_ret;obtain ⟨GH,h1,h2,h3⟩:=HH.o;exact .inr ⟨rfl,GH,h1,h2,((BR.o.2.trans lj.o.2).from _).trans h3⟩
 |clear qqW;go_wp2;go_loopw [80] (fun i wr=>∃k:Nat,k<=k1/\i=.int .i64 k/\Below X5.heap.size X5 wr/\R=cJ (ps ++ [(xn,xn)]).reverse (xs.drop k) (ys.drop k)) (fun i _=>k1 - (intOf i).toNat)
  case atStart=>exact ⟨0,aX _,rfl,ai _ _,by simpa using NE.o⟩
  case round=>
   have qqX:=();exact qaX
 |clear qqY;have qqZ:=();exact qgt
 |clear qq0;exact qgt
 |clear qq1;gi_wp2;have x6:=lZ (v0:=.int .u8 qo) (v1:=.string ⟨n.toArray⟩) (v2:=.slice ra k0 rc) (v3:=.slice rb m0 re) Zm.o;have k6:=dM (W:=A') (b:=w.heap.size+1) (v0:=.int .u8 qo) (v1:=.string ⟨n.toArray⟩) (v2:=.slice ra k0 rc) (v3:=.slice rb m0 re);have ⟨W6,cQ⟩:=aj ((((A'.setCell ⟨w.heap.size+1,0,none⟩ (.int .u8 qo)).setCell ⟨w.heap.size+1,1,none⟩ (.string ⟨n.toArray⟩)).setCell ⟨w.heap.size+1,2,none⟩ (.slice ra k0 rc)).setCell ⟨w.heap.size+1,3,none⟩ (.slice rb m0 re));have qq2:=();exact qgu
 |have ⟨m8,Jj⟩:=aj ((((A.setCell ⟨w4.heap.size,0,none⟩ (.int .u8 ho)).setCell ⟨w4.heap.size,1,none⟩ (.string tW)).setCell ⟨w4.heap.size,2,none⟩ (.slice ha hl hc)).setCell ⟨w4.heap.size,3,none⟩ (.slice hb hm he));rw[<-Jj]at vT zbe zbf ⊢;clear Jj s0 s1 s2 s3 zs0 zs1 zs2 zs3 ft fn0 fm dN cR bV cB fB gq ir jj jE;have CP:=fd.o W0 G2 nx z HG2.o.1 HG2.o.2.1 HG2.o.2.2.1 HG2.o.2.2.2.1 HG2.o.2.2.2.2 Ns.o RD.o.1 RD.o.2 _ _ m8 ⟨ho,tW,ha,hl,hc,hb,hm,he⟩ ⟨zv,zn,za,zl,zc⟩ (RE.o.next vT.o.below) zbf.o (HZ.o.later vT.o.below);simp only[FQ.val,TQ.val]at CP;have LN:=ab CP;have ⟨tu0,tu1,tu2⟩:=mq vT.o.bu;have ⟨tt0,tt1,tt2,tt3⟩:=nI zbe.o;have qq3:=();exact qgv):G:=h
theorem qan(h:G:=by
 have bZ:Below W2.heap.size W2 A:=((ai W2.heap.size W2).drew).trans hA;have qq4:=();exact qcM):G:=h
theorem qcN(h:G:=by
 obtain ⟨k,hk,rfl,bi,hj,ha,hb,hc⟩:=hrel
 by_cases hlt:k<m0
 first
 |clear qq5
  ·have bj:=cb gt.o hlt;have qoL:=();exact qbq
  ·obtain rfl:k=m0:=by omega
   have ht:s.take k=s:=by rw[gt.o];exact cK
   rw[ht]at hj ha hb hc;have kC:(dt sc s && (decide ((nodesFs s:Int)<=left - 1 - nodesTs a) && decide (bc+1+aV s<=bz+1)))=true:=by rw[ha];simp;omega
   exact qgw
 |·have bj:=cb gt.o hlt;exact qbq
  ·obtain rfl:k=m0:=by omega
   have ht:s.take k=s:=by rw[gt.o];exact cK
   rw[ht]at hj ha hb hc;have kC:(dt true s && (decide ((nodesFs s:Int)<=left - 1 - nodesTs a) && decide (bc+1+aV s<=bz+1)))=true:=by rw[ha];simp;omega
   exact qgw):G:=h
theorem qgx(h:G:=by
 have ⟨R,hR⟩:=aj (fZ ps.reverse (.mk uv xn xa) (.mk vv yn ya));rw[<-hR]at hm ⊢;have ⟨k0,cd⟩:=aj xa.length;have ⟨m0,dQ⟩:=aj ya.length;have ⟨p0,lA⟩:=aj ps.length;rw[<-cd,<-dQ]at hm;rw[<-cd]at bW;rw[<-lA]at iG;rw[<-cd]at fC;rw[<-dQ]at Ac;rw[<-lA]at hp;rw[<-cd,<-dQ,<-lA];have ⟨du,gt,Aa,OK,Rk,HP,fd,HF⟩:=US cd dQ lA fC Ac hp ih uO;clear hR cd dQ lA fC Ac hp ih hf uO hq iN;have bG:Below w.heap.size w ((w.alloc (.cells #[.bool uv,.string ⟨xn.toArray⟩,.slice ua k0 uc] 43)).alloc (.cells #[.bool vv,.string ⟨yn.toArray⟩,.slice va m0 vc] 43)):=cI.alloc (by simp) _;have ⟨W2,aZ⟩:=aj ((w.alloc (.cells #[.bool uv,.string ⟨xn.toArray⟩,.slice ua k0 uc] 43)).alloc (.cells #[.bool vv,.string ⟨yn.toArray⟩,.slice va m0 vc] 43));rw[<-aZ]at bG;have HX:Hd (W2.heap[w.heap.size]?=some (.cells #[.bool uv,.string ⟨xn.toArray⟩,.slice ua k0 uc] 43 (0,0))):=ab (by rw[aZ];exact (bH _ _ _ (by simp)).trans (ah rfl));have HY:Hd (W2.heap[w.heap.size+1]?=some (.cells #[.bool vv,.string ⟨yn.toArray⟩,.slice va m0 vc] 43 (0,0))):=ab (by rw[aZ];exact ah (by simp));have gY:w.heap.size+2=W2.heap.size:=by rw[aZ];simp
 first
 |clear qq6;have ⟨cv,fj⟩:=aS bG aZ;clear bG aZ;unfold TQ.val
  by_cases Ed:uv=vv/\k0=m0
  ·obtain ⟨rfl,rfl⟩:=Ed;have qq7:=();exact qgy
  ·have Fg:R=false:=by rw[hm];rcases Decidable.not_and_iff_or_not.1 Ed with h | h <;> simp[h]
   have HE:=ab Fg;clear hm Fg;exact qgz
 |have ⟨cv,fj⟩:=aS bG aZ;clear bG aZ;unfold TQ.val
  by_cases Ed:uv=vv/\k0=m0
  ·obtain ⟨rfl,rfl⟩:=Ed;exact qgy
  ·have Fg:R=false:=by rw[hm];rcases Decidable.not_and_iff_or_not.1 Ed with h | h <;> simp[h]
   have HE:=ab Fg;clear hm Fg;exact qgA):G:=h
theorem qby(h:G:=by
 obtain ⟨b,off,u,rfl,jy,hu,c0,c1,c2⟩:=fQ.o.get bj;exact qfK):G:=h
theorem qcc(h:G:=by
 have x6:=qu (v0:=.bool pv) (v1:=.string pn) (v2:=.slice pa pl pc) H5.o.2.2.1;exact qgq):G:=h
theorem qcO(h:G:=by
 have k6:=eN (W:=wr) (b:=w.heap.size+1) (v0:=.bool true) (v1:=.string ⟨n.toArray⟩) (v2:=.slice ra k rc);have ⟨W6,cQ⟩:=aj (((wr.setCell ⟨w.heap.size+1,0,none⟩ (.bool true)).setCell ⟨w.heap.size+1,1,none⟩ (.string ⟨n.toArray⟩)).setCell ⟨w.heap.size+1,2,none⟩ (.slice ra k rc));have qq8:=();exact qgB):G:=h
theorem qaY(h:G:=by
 obtain ⟨b,off,u,rfl,_,hu,c0,c1,c2⟩:=OK.o.get bj;obtain ⟨b',jZ,u',rfl,_,gI,kr,kX,kY⟩:=Rk.o.get kK
 first
 |clear qq9;have mw:=RZ.o.mem (ap bj);have qra:=();exact qbz
 |clear qgC;have mw:=RZ.o.mem (ap bj);have qrb:=();exact qbz
 |clear qrc;have mw:=HF.o.mem (ap bj);have p_:=fd.o xa[k] (ap bj);have qrd:=();exact qbz
 |have mw:=HF.o.mem (ap bj);have p_:=fd.o xa[k] (ap bj);exact qbz):G:=h
theorem qgD(h:G:=by
 have jx:=eU;have qre:=();exact qaZ):G:=h
theorem qah(h:G:=by
 simp only[FQ.val,cr,Array.mk.injEq,bP,and_true,Value.int.injEq,true_and,Value.string.injEq]at h1;obtain ⟨rfl,rfl,rfl,rfl⟩:=h1
 first
 |clear qrf;obtain rfl:=Bw.len;have ⟨W2,aZ⟩:=aj (w.alloc (.cells #[.int .u8 uo,.string ⟨xn.toArray⟩,.slice ua ul uc,.slice ub xs.length ue] 36));have bG:=cM aZ;have hX:=bS aZ;have C1:=No xa (fun t _=>(Re t)) x ok W2 ua ul uc hf.args (fC.later bG);have ek:=hf.subs.len;have hfs:=hf.subs;have za0:=fun r=>vM (x:=x) (.mk uo xn xa xs) r;have sU:=hf.1;have ⟨R,hR⟩:=aj (kv x (.mk uo xn xa xs));have rj:=hR;rw[kv]at rj;rw[<-hR]at za0 ⊢;have ⟨S,hS⟩:=aj (ev x xa 0);rw[<-hS]at C1 rj;exact qgE
 |clear qrg;obtain rfl:=fC.len;obtain rfl:=Bw.len;have za8:=ar.args.len;have ek:=ar.subs.len;have dD:=ar.name;have ⟨A,hA⟩:=aj ((ao a).filter (fun x=>!bs.contains x));obtain ⟨bs',hbs⟩:∃bs':List Str,bs'=(if bm uo then nm :: bs else bs):=⟨_,rfl⟩;have mI:aL bs (.mk uo nm a ss)=A ++ bn bs' ss:=by rw[hA,hbs];unfold aL;rfl
  rw[mI]at dq ⊢;have vO:nodesF (.mk uo nm a ss)=nodesTs a+nodesFs ss+1:=by unfold nodesF;rfl
  have ⟨NF,hNF⟩:=aj (nodesF (.mk uo nm a ss));rw[<-hNF]at hn Qw ⊢;rw[<-hNF]at vO;have ⟨k0,cd⟩:=aj a.length;have ⟨m0,dQ⟩:=aj ss.length;rw[<-cd]at fC za8;rw[<-dQ]at Bw ek;have Il:=hq;unfold FQ.val;simp only;rw[<-cd,<-dQ];have ⟨W1,bY⟩:=aj (((W.alloc (.cells #[.int .u8 uo,.string ⟨nm.toArray⟩,.slice ua k0 uc,.slice ub m0 ue] 36)).alloc (.cells #[.map (some mb)] 198)).alloc (.cells #[.func (.yield l) #[] #[]] 113));have jf:=uS bY;have gG:=Ir bY;have hx0:W1.heap[W.heap.size]?=some (.cells #[.int .u8 uo,.string ⟨nm.toArray⟩,.slice ua k0 uc,.slice ub m0 ue] 36 (0,0)):=by
   rw[bY];exact (bH _ _ _ (by simp;omega)).trans ((bH _ _ _ (by simp)).trans (ah rfl))
  have sZ:W1.heap[W.heap.size+1]?=some (.cells #[.map (some mb)] 198 (0,0)):=by
   rw[bY];exact (bH _ _ _ (by simp)).trans (ah (by simp))
  have pw:W1.heap[W.heap.size+2]?=some (.cells #[.func (.yield l) #[] #[]] 113 (0,0)):=by
   rw[bY];exact ah (by simp)
  have hmW:=hb.lt;have hWs:=hk.size;have hMS:∀ b,W0.heap.size<=b->b≠mb->¬(M b\/b=mb):=fun b h1 h2 h=>by
   rcases h with h | h
   ·have:=hM b h;omega
   ·exact h2 h
  have qE:Hd (W.heap.size<W1.heap.size/\¬(M W.heap.size\/W.heap.size=mb)/\W.heap.size+1<W1.heap.size/\¬(M (W.heap.size+1)\/W.heap.size+1=mb)/\W.heap.size+2<W1.heap.size/\¬(M (W.heap.size+2)\/W.heap.size+2=mb)):=
   ab ⟨by omega,hMS _ (by omega) (by omega),by omega,hMS _ (by omega) (by omega),by omega,hMS _ (by omega) (by omega)⟩
  have HMS:=ab hMS;have qrh:=();exact qa0
 |clear qri;obtain rfl:=Jl.len;have ek:=Z7.subs.len;have ⟨m0,dQ⟩:=aj oo.length;simp only at zw;rw[<-dQ]at Jl ek zw Z6;obtain ⟨e0,e1,e2,e3,z0,z1,z2,z3⟩:=dc zw;have D3:(k:Int)<(n1:Int):=by omega
  have Ah:=(bi.same _ (by have:=HM.o.2.1;have:=H4.o.2.2.size;omega) (by rw[HM.o.1];simp)).trans ((H4.o.2.2.block _ (by have:=HM.o.2.1;omega)).trans HX.o.2.2);have o9:=H4.o.2.2.size;have qB:=HM.o.2.1;have aq:Below w.heap.size w wr:=Below.kp1 (HM.o.2.2.trans (H4.o.2.2.mono (by omega))) (by have h:=bi;rw[HM.o.1]at h;exact h) (by omega)
  by_cases hi:i0<m0
  ·have Vf:i0<oo.length:=by omega
   rw[io Vf]at KU;obtain ⟨b2,off2,⟨uo,un,ua,ul,uc,ub,um,ue⟩,rfl,jy,hu,d0,d1,d2,d3⟩:=Jl.get Vf;simp only at KU d0 d1 d2 d3;have qrj:=();exact qgF
  ·have hge:(m0:Int)<=(i0:Int):=by omega
   have hng:¬((i0:Int)<(m0:Int)):=by omega
   have HE:=ab (show R=none by rw[HR.o,KU,List.getElem?_eq_none (by omega)]);obtain ⟨f0,f1,f2,y0,y1,y2⟩:=fV Ah;have Ik:=aA Ah aq;clear KU Ah bi Z6 Z7 au OT hcs LQ Jl zw dQ qJ D5 jb xP ek o9 qB aq;go_wp2;obtain ⟨W6,cQ,x6,k6,g0,g1,g2⟩:=sJ Ik.o.1 (.bool false) (.string ⟨#[]⟩) (.slice none 0 0);rw[<-cQ];refine bK (v:=.tuple #[TQ.val ⟨false,⟨#[]⟩,none,0,0⟩,.bool false]) (by simp[TQ.val,results,Tryz.results98,go_sem,g0,g1,g2]) rfl ⟨⟨⟨false,⟨#[]⟩,none,0,0⟩,by rw[HE.o];rfl,fun u hu=>by rw[HE.o]at hu;cases hu⟩,Below.kp1 Ik.o.2 k6 (by omega)⟩
 |clear qrk;simp only at zw;have ⟨wo,Gx⟩:=aj wr;subst Gx;have qB:=HM.o.2.1;have o9:=H4.o.2.2.size;have hzo:=bi.size;have aq:Below w.heap.size w wo:=Below.kp1 (HM.o.2.2.trans (H4.o.2.2.mono (by omega))) (by have h:=bi;rw[HM.o.1]at h;exact h) (by omega);have Ah:=(bi.same _ (by omega) (by rw[HM.o.1];simp)).trans ((H4.o.2.2.block _ (by omega)).trans HX.o.2.2);have ⟨W6,cQ⟩:=aj (wo.alloc (.cells #[.bool false,.string ⟨#[]⟩,.slice none 0 0] 43));have cF:=cM cQ;have hz6:=Gb cQ;have x6:=bS cQ;have x26:=(cF.block _ (by omega)).trans Ah;obtain ⟨b3,ZC,rfl,Z8⟩:=H4.o.2.1.get HN.o.2.2;have zbi:b3≠w.heap.size+1:=H4.o.2.1.apart rfl HN.o.2.2 ((H4.o.2.2.block _ (by omega)).trans HX.o.2.1);have oQ:=jp.2 HN.o.2.2;have zbj:b3<w4.heap.size:=jR (Z8 0 oQ);have zbk:∀ j (h:j<pq.length),W6.cell? ⟨b3,ZC+j,none⟩=some (.int .i64 (pq[j]:Nat)):=fun j h=>aa cF (bi.cell (by rw[HM.o.1];exact zbi) (Z8 j h));have ⟨R0,X8⟩:=aj (jI cas pq);have Vt:=HR.o;rw[KU]at Vt;simp only[j7,Fm.a]at Vt;rw[<-X8]at Vt;have vV:=aA Vt X8;have X9:=LQ.later cF;have zbl:=Z7.args;have f2:=ag zw 2;have f26:=aa cF f2;have HZ:=cq qB o9 hzo hz6;have H6:=ab (UR (aq.tr cF) x6 x26 zbk X9 zbl zbj);have zbm:=aA au OT;have ⟨RK,OU⟩:=aS cF cQ;obtain rfl:=LQ.len;rw[cQ]at f26;clear KU hdn Z6 LQ Jl Z7 zw qB o9 hzo aq Ah cF hz6 x6 x26 Z8 zbi oQ zbj zbk X8 Vt X9 zbl au OT bi cQ;go_wp2_with fail;rw[<-OU.o];clear f2 f26;go_loopw [14,54] (fun v i wr=>∃(j:Nat) (t:Tm) (l:List Tm) (tq:TQ) (la:Option Addr) (lc:Nat),j<=n2/\i=.int .i64 j/\v=.slice la l.length lc/\Kp (fun b=>b=wo.heap.size) W6 wr/\wr.heap[wo.heap.size]?=some (.cells #[.bool tq.v,.string tq.n,.slice tq.a tq.l tq.c] 43 (0,0))/\TermsV (fun b=>b<w.heap.size/\¬M b/\ok b) wr v l/\fitTs l/\(j<n2->R0=jI l (pq.drop j))/\(0<j->TermV (fun b=>b<w.heap.size/\¬M b/\ok b) wr tq.val t/\fitT t/\(j=n2->R0=some t))) (fun _ i _=>n2 - (intOf i).toNat)
  case atStart=>exact ⟨0,.mk false [] [],cas,⟨false,⟨#[]⟩,none,0,0⟩,c2,c4,aX _,rfl,rfl,Kp.refl _,H6.o.2.1,H6.o.2.2.2.2.1,H6.o.2.2.2.2.2.1,fun _=>by simpa using vV.o.2,fun h=>absurd h (Nat.lt_irrefl _)⟩
  case round=>
   obtain ⟨j,t,l,⟨tv,tn,ta,tl,tc⟩,la,lc,hj,rfl,rfl,bi,GG,LR,uM,Vu,ce⟩:=hrel
   by_cases eE:j<n2
   ·have hjp:=cb HN.o.2.1 eE;have ci:=bi.cell (a:=⟨b3,ZC+j,none⟩) (show ¬(b3=wo.heap.size) by have:=HZ.o;have:=H6.o.2.2.2.2.2.2;omega) (H6.o.2.2.2.1 j hjp);have ⟨i0,qJ⟩:=aj (pq[j]);have hw:=Vu eE;rw[gB hjp,<-qJ]at hw;rw[<-qJ]at ci;have ek:=uM.len;have ⟨m0,dQ⟩:=aj l.length;rw[<-dQ]at ek LR;rw[<-dQ];have z7:(j:Int)<(n2:Int):=by omega
    simp only at GG;have Ah:=(bi.same _ (by have:=HZ.o;omega) (by have:=HZ.o;omega)).trans H6.o.2.2.1;have hBr:Below w.heap.size w wr:=Below.kp1 H6.o.1 bi (by have:=HZ.o;omega)
    by_cases hi:i0<m0
    ·have Vf:i0<l.length:=by omega
     exact qgF
    ·have hge:(m0:Int)<=(i0:Int):=by omega
     have hng:¬((i0:Int)<(m0:Int)):=by omega
     have HE:=ab (show R=none by rw[vV.o.1,hw,LP (List.getElem?_eq_none (by omega))]);obtain ⟨f0,f1,f2,y0,y1,y2⟩:=fV Ah;have Ik:=aA Ah hBr;clear Vu ce Ah bi uM LR GG dQ qJ hjp hBr hw ek;go_wp2;obtain ⟨W7,Nv,x7,k7,g0,g1,g2⟩:=sJ Ik.o.1 (.bool false) (.string ⟨#[]⟩) (.slice none 0 0);rw[<-Nv];refine bK (v:=.tuple #[TQ.val ⟨false,⟨#[]⟩,none,0,0⟩,.bool false]) (by simp[TQ.val,results,Tryz.results98,go_sem,g0,g1,g2]) rfl ⟨⟨⟨false,⟨#[]⟩,none,0,0⟩,by rw[HE.o];rfl,fun u hu=>by rw[HE.o]at hu;cases hu⟩,Below.kp1 Ik.o.2 k7 (by omega)⟩
   ·obtain rfl:j=n2:=by omega
    have oQ:0<j:=by rw[HN.o.2.1];exact jp.2 HN.o.2.2
    obtain ⟨qF,lN,X8⟩:=ce oQ;have X8:=X8 rfl;simp only at GG;have ⟨wq,Nx⟩:=aj wr;subst Nx;have hzq:=bi.size;have hzo:=HZ.o.2.2.1;have hz6:=HZ.o.2.2.2;have RL:=HZ.o.2.1;have qB:=HZ.o.1;have Ah:=(bi.same _ (by omega) (by omega)).trans H6.o.2.2.1;have hBr:Below w.heap.size w wq:=Below.kp1 H6.o.1 bi (by omega);have X':=zbm.o.1.held (W':=wq) (fun b _ hlt=>(bi.same b (by omega) (by omega)).trans (RK.o.block b hlt));have Fg:R=if (aE t).any ins.contains then none else some t:=by rw[vV.o.1,X8]
    have CF:=mv t lN _ wq ⟨tv,tn,ta,tl,tc⟩ qF;simp only[TQ.val]at CF;have ⟨ns,hns⟩:=aj (di (aE t));rw[<-hns]at CF;have kz:ns.length<=2000000:=by rw[hns];have:=eH (aE t);have:=mZ t;have:=lN.1;omega
    have ⟨n3,hn3⟩:=aj ns.length;have zfr:n3<=2000000:=by omega
    obtain ⟨s0,s1,s2,y0,y1,y2⟩:=fV GG;have DX:=ab CF;have HQ:=fG Ah hBr X' qF GG;have HRf:=aA Fg hns;have HN3:=ab hn3;have HZ7:=fG hzq hzo hz6 RL qB;clear Vu ce bi GG LR uM oQ qF lN X8 Ah hBr X' Fg CF hns kz hn3 hzq hzo hz6 RL qB;go_wp2_with (go_at_call 166;refine DX.o.mono ?_;rintro e w7 ⟨⟨v7,rfl,KW⟩,fW⟩;obtain ⟨a7,cc7,rfl⟩:=KW.strs.slice;rw[<-HN3.o]at KW ⊢;have H7:=aA KW fW;clear KW fW);clear s0 s1 s2 y0 y1 y2;go_loopw [73] (fun i wr=>∃j3:Nat,j3<=n3/\i=.int .i64 j3/\wr=w7/\∀ y∈ns.take j3,ins.contains y=false) (fun i _=>n3 - (intOf i).toNat)
    case atStart=>exact ⟨0,aX _,rfl,rfl,by simp⟩
    case round=>
     obtain ⟨j3,qK,rfl,rfl,gV⟩:=hrel
     by_cases LS:j3<n3
     ·have X_:=cb HN3.o LS;obtain ⟨b7,zfs,rfl,_,ci⟩:=H7.o.1.strs.get X_;have ⟨nm,dD⟩:=aj (ns[j3]);rw[<-dD]at ci;have CT:=fT ins.reverse (by have:=zbm.o.2;simp;omega) nm _ wr u10 (HQ.o.2.2.1.later H7.o.2).strs;have LU:ins.reverse.contains nm=ins.contains nm:=by rw[ip,List.contains_iff_mem,List.contains_iff_mem,List.mem_reverse]
      rw[LU]at CT;have z7:(j3:Int)<(n3:Int):=by omega
      have Ah:=bN H7.o.2 HQ.o.1
      cases hc:ins.contains nm with
      | true=>
       rw[hc]at CT;have I_:=ab CT;have HE:=ab (show R=none by rw[HRf.o.1,aw (List.any_eq_true.2 ⟨nm,(dV nm _).1 (by rw[<-HRf.o.2,dD];exact ap X_),hc⟩)]);obtain ⟨f0,f1,f2,y0,y1,y2⟩:=fV Ah;have Ik:=aA Ah (HQ.o.2.1.tr H7.o.2);have qrl:=();exact qgG
      | false=>
       rw[hc]at CT;have I_:=ab CT;have BH:=ab (show ∀ y∈ns.take (j3+1),ins.contains y=false by
        intro y hy;rw[List.take_add_one,io X_,<-dD]at hy;rcases List.mem_append.1 hy with h | h
        ·exact gV y h
        ·obtain rfl:y=nm:=by simpa using h
         exact hc)
       exact qgG
     ·obtain rfl:j3=n3:=by omega
      rw[HN3.o,cK]at gV;have HE:=ab (show R=some t by
       rw[HRf.o.1,ak];intro h;obtain ⟨y,hy,hc⟩:=List.any_eq_true.1 h;have:=gV y (by rw[HRf.o.2];exact (dV y _).2 hy);rw[this]at hc;cases hc)
      have Ah:=bN H7.o.2 HQ.o.1;have xtw:=bN H7.o.2 HQ.o.2.2.2.2;obtain ⟨f0,f1,f2,y0,y1,y2⟩:=fV Ah;obtain ⟨t0,t1,t2,_,_,_⟩:=fV xtw;have qF:=(HQ.o.2.2.2.1.later H7.o.2);have Ik:=bx Ah (HQ.o.2.1.tr H7.o.2) qF;clear Ah xtw gV qF;go_wp2;obtain ⟨W8,kV,x8,k8,g0,g1,g2⟩:=sJ Ik.o.1 (.bool tv) (.string tn) (.slice ta tl tc);rw[<-kV];refine bK (v:=.tuple #[TQ.val ⟨tv,tn,ta,tl,tc⟩,.bool true]) (by simp[TQ.val,results,Tryz.results98,go_sem,g0,g1,g2]) rfl ⟨⟨⟨tv,tn,ta,tl,tc⟩,by rw[HE.o];rfl,fun u hu=>by rw[HE.o]at hu;cases hu;exact Ik.o.2.2.move (fun b hb hlt=>⟨⟨hb.1,hb.2.2⟩,k8.same b hlt (by omega)⟩)⟩,Below.kp1 Ik.o.2.1 k8 (by omega)⟩
 |clear qrm;have qrn:=();exact qcP
 |clear qro;have qrp:=();exact qcP
 |clear qrq;exact qcP
 |clear qrr;obtain rfl:=iu.len;obtain rfl:=lU.len;subst he;have ⟨R,hR⟩:=aj (dp k ⟨.mk so n a s,F,ps.reverse⟩);rw[<-hR];have rj:=hR;rw[SG]at rj;have ⟨n1,eh⟩:=aj a.length;have ⟨m2,iI⟩:=aj s.length;rw[<-eh]at hs iu;rw[<-iI]at hs lU;rw[<-eh,<-iI];have ⟨W1,bY⟩:=aj (W.alloc (.cells #[.int .u8 so,.string ⟨n.toArray⟩,.slice sa n1 sc,.slice sb m2 se,.int .u8 fo,.string fn,.slice fa fl fc,.slice fb fm fe,.slice ca cl cc] 89));have hb1:=cM bY;have iM:=Gb bY;have x1:=bS bY;have ma:=iD _ hp.s;simp only[li,ae,br]at ma;have sU:=iD _ hp.f;have ar:fitF F:=⟨by have:=hp.n;simp only at this;omega,jK (by omega) _ sU⟩;have ⟨P0,P1,P2,P3,P4,P5,P6,P7⟩:=D6 x1;have P8:=ag x1 8
  by_cases h16:so=16
  ·subst h16;obtain ⟨x,y,fC,K1,GZ,aT⟩:=lk hp rfl;simp only[Fm.a]at fC;simp only at aT;have ⟨dm,zC⟩:=aj (bI x);rw[aT,<-zC]at rj;rw[ak (by decide)]at rj;simp only at rj;have qrs:=();exact qcQ
  ·have HE:=ab (show R=(k,0) by rw[rj,aw (by simp[h16])]);have cZ:(so == 16)=false:=by simp[h16]
   have jt:=ab bY;have KX:=aA hb1 (d_.later hb1);clear rj hR hp UD UC UE _d _e hs hf iu lU hc d_ eh iI sL qW hl iG bY hb1 iM ar ma sU Ca sf x1;exact qcR
 |clear qrt;have qru:=();exact qcS
 |clear qrv;have qrw:=();exact qcS
 |clear qrx;exact qcS
 |obtain rfl:=iu.len;obtain rfl:=lU.len;have kz:=hf.name;have VL:=hf.op;have hfs:=hf.subs;have hsl:s.length<=2000000:=hfs.len;have ⟨n1,iI⟩:=aj s.length;rw[<-iI]at lU hsl;have ⟨W1,bY⟩:=aj (w.alloc (.cells #[.int .u8 qo,.string ⟨n.toArray⟩,.slice qa a.length qc,.slice qb n1 qe] 36));have hb1:=cM bY;have x1:=bS bY;have ro:=hs.lt;have gG:=hs.same (hb1.block m ro);have ⟨P,hP⟩:=aj (pre ++ (if ((qo == 15 || qo == 16) && dl n)=true then [n] else []));have hPl:P.length<=pre.length+1:=by rw[hP,cU];split <;> simp
  have hmt:pre ++ Kx (.mk qo n a s)=P ++ j5 a ++ lx s:=by rw[hP];simp[Kx]
  rw[hmt];simp only[FQ.val];rw[<-iI];simp only[nodesF]at bW hN;have CT:=ab (fun (X:World) (hQ:SetW X m P.length P) (hX:Kp (fun b=>b=m) w X)=>yP (nodesTs a) a (aC _) hf.args _ P m X qa qc hQ (iu.move (fun b hb hlt=>⟨hb,hX.same b hlt (hok b hb)⟩)) hok (by omega));have HS:=ab gG;have HM:=ab (iV n W1 (by omega));have HP:=bx hP hPl bW;have jt:=ab bY;have HB:=bx hb1 x1 ro;have ⟨fd,HF,HV,ko⟩:=eD ih hfs lU hok;have HN:=aA iI hN;clear hs gG hq iu lU hok bW hN hf hfs bY hb1 x1 ro hP hPl hmt ih iI;obtain ⟨e0,e1,e2,e3,_⟩:=dc HB.o.2.1;go_enter Tryz.func73,Tryz.ntmps73;go_upto_region 1 with fail;rw[<-jt.o]
  by_cases hc:((qo == 15 || qo == 16) && dl n)=true
  ·have hP:=HP.o.1;rw[aw hc]at hP;obtain ⟨ho,l_⟩:(qo=15\/qo=16)/\dl n=true:=by simpa using hc
   exact qgH
  ·have hP:=HP.o.1;rw[ak hc,List.append_nil]at hP;have HQ:=ab hP
   by_cases ho:qo=15\/qo=16
   ·have l_:dl n=false:=by
     rcases ho with rfl | rfl <;> simpa using hc
    rw[l_]at HM;clear hP hc l_ VL;rcases ho with rfl | rfl
    all_goals
     go_wp2_with (first | (go_at_call 119;refine HM.o.mono ?_;rintro e w3 ⟨rfl,aG⟩;have g2:=aa aG e2;have g3:=aa aG e3;have jr:=(Kp.below (M:=fun b=>b=m) HB.o.1).trans (Kp.below aG);have C:=ab (CT.o w3 (by rw[HQ.o];exact HS.o.same (aG.block m HS.o.lt)) jr);have H4:=ab jr;clear aG jr) | (go_at_call 132;refine C.o.mono ?_;rintro e w5 ⟨rfl,zt,nE⟩;have f3:=nE.cell (a:=⟨w.heap.size,3,none⟩) (by have:=HB.o.2.2;show ¬w.heap.size=m;omega) g3;have H5:=aA zt (H4.o.trans nE);clear zt nE));go_loopw [29] (fun i wr=>∃j:Nat,j<=n1/\i=.int .i64 j/\SetW wr m (P ++ j5 a ++ lx (s.take j)).length (P ++ j5 a ++ lx (s.take j))/\Kp (fun b=>b=m) w wr) (fun i _=>n1 - (intOf i).toNat)
     case atStart=>exact ⟨0,aX _,rfl,by simpa[lx] using H5.o.1,H5.o.2⟩
     case round=>
      exact qbm
   ·have ja:(qo == 15)=false:=by simp;omega
    have h16:(qo == 16)=false:=by simp;omega
    clear hP hc ho VL;have C:=ab (CT.o W1 (by rw[HQ.o];exact HS.o) (Kp.below HB.o.1));have H4:=ab (Kp.below (M:=fun b=>b=m) HB.o.1);have g3:=e3;go_wp2_with ((go_at_call 132;refine C.o.mono ?_;rintro e w5 ⟨rfl,zt,nE⟩;have f3:=nE.cell (a:=⟨w.heap.size,3,none⟩) (by have:=HB.o.2.2;show ¬w.heap.size=m;omega) g3;have H5:=aA zt (H4.o.trans nE);clear zt nE));go_loopw [29] (fun i wr=>∃j:Nat,j<=n1/\i=.int .i64 j/\SetW wr m (P ++ j5 a ++ lx (s.take j)).length (P ++ j5 a ++ lx (s.take j))/\Kp (fun b=>b=m) w wr) (fun i _=>n1 - (intOf i).toNat)
    case atStart=>exact ⟨0,aX _,rfl,by simpa[lx] using H5.o.1,H5.o.2⟩
    case round=>
     exact qbm):G:=h
theorem qfN(h:G:=by
 go_wp2_with (first | (go_at_call 115;refine C1.o.mono ?_;rintro e w' ⟨rfl,nJ⟩;obtain rfl:=nJ.symm) | (go_at_call 116;refine (CN.o _).mono ?_;rintro e w3 ⟨rfl,aG⟩;have bD:=ab aG;have p2:=(ie.o.later aG).c2;have p3:=(ie.o.later aG).c3;have p0:=(ie.o.later aG).c0;have s3:=(rF.o.later aG).c3;have s4:=(rF.o.later aG).c4;clear aG) | (go_at_call 117;refine (CI.o _ (nL.o.trans (Kp.below bD.o))).mono ?_;rintro e w4 ⟨rfl,aR⟩;have eG:=ab aR;have p2:=((ie.o.later bD.o).later aR).c2;have p3:=((ie.o.later bD.o).later aR).c3;clear aR) | (go_at_call 118;refine (CT.o _ ((nL.o.trans (Kp.below bD.o)).trans (Kp.below eG.o)) ((xz.o.later bD.o).later eG.o)).mono ?_;rintro e w5 ⟨rfl,nE,l5,C5,C6,pT,kN⟩;have _S:=kN rfl;subst _S;have SK:Kp (fun c=>c=J) w w5:=((nL.o.trans (Kp.below bD.o)).trans (Kp.below eG.o)).trans nE;have e3:w5.cell? ⟨w.heap.size,3,none⟩=some (.slice qb m0 qe):=(((ie.o.later bD.o).later eG.o).kp nE (by omega)).c3;have HA:=aA SK C5;clear nE C5 C6 pT kN SK))
 first
 |clear qoR;exact qgI
 |go_loopw [79] (fun i wr=>∃k:Nat,k<=m0/\i=.int .i64 k/\Kp (fun c=>c=J) w wr/\JAt J true (left - 1 - nodesTs a - nodesFs (s.take k)) bz wr/\dt true (s.take k)=true/\(nodesFs (s.take k):Int)<=left - 1 - nodesTs a/\bc+1+aV (s.take k)<=bz+1) (fun i _=>m0 - (intOf i).toNat)
  case atStart=>exact ⟨0,aX _,rfl,HA.o.1,by simpa[nodesFs] using HA.o.2,by simp[dt],by simp[nodesFs];omega,by simp[aV];omega⟩
  case round=>
   exact qcN):G:=h
theorem qam(h:G:=by
 unfold TQ.val at hs;simp only[cr,Array.mk.injEq,bP,and_true,Value.bool.injEq,Value.string.injEq]at hs;obtain ⟨rfl,rfl,rfl⟩:=hs;obtain rfl:=bB.len
 first
 |clear qry;have bW:=ar.args.len;have qrz:=();exact qgJ
 |clear qrA;have bW:=ar.args.len;have kz:=ar.name;exact qgJ
 |clear qrB;have bW:=ar.args.len;have kz:=ar.name;have tM:n.length<=1000000000:=by omega
  have ko:=ab hok;have fd:=ab (fun t ht=>ih t ht (ar.args.mem ht));have tN:1<=nodesT (.mk qv n a):=jY _;have p9:1<=dh (.mk qv n a):=by unfold dh;omega
  have ⟨k0,cd⟩:=aj a.length;have HB:=ab (show Below w.heap.size w (w.alloc (.cells #[.bool qv,.string ⟨n.toArray⟩,.slice qa k0 qc] 43)) from cI);have Li:JAt J sc left bz (w.alloc (.cells #[.bool qv,.string ⟨n.toArray⟩,.slice qa k0 qc] 43)):=hJ.later HB.o;have zc4:J<w.heap.size:=(bA hJ);have ⟨dT,HJ⟩:=aS bB hJ;rw[<-cd]at bW;clear hq bB ar ih hok hJ;unfold TQ.val;rw[<-cd];have du:=ab cd;clear cd
  by_cases Oz:1<=left/\bc<=bz
  ·obtain ⟨U2,Zq⟩:=Oz;have C1:=ab (IK J sc left bz bc _ Li U2 h1 Zq);have iO:Kp (fun c=>c=J) w ((w.alloc (.cells #[.bool qv,.string ⟨n.toArray⟩,.slice qa k0 qc] 43)).setCell ⟨J,1,none⟩ (.int .i64 (left - 1))):=(Kp.below HB.o).trans (mY _);have zh:=Li.set (left - 1);have hx:((w.alloc (.cells #[.bool qv,.string ⟨n.toArray⟩,.slice qa k0 qc] 43)).setCell ⟨J,1,none⟩ (.int .i64 (left - 1))).heap[w.heap.size]?=some (.cells #[.bool qv,.string ⟨n.toArray⟩,.slice qa k0 qc] 43 (0,0)):=(eC _ _ _ _ (by show w.heap.size≠J;omega)).trans (ah rfl);have pu:=bx iO zh hx;have QW:TermsV ok ((w.alloc (.cells #[.bool qv,.string ⟨n.toArray⟩,.slice qa k0 qc] 43)).setCell ⟨J,1,none⟩ (.int .i64 (left - 1))) (.slice qa k0 qc) a:=by
    have h:=dT.o.move (ok':=ok) (fun b hb hlt=>⟨hb,iO.same b hlt (ko.o b hb)⟩)
    rwa [<-du.o]at h
   have HA2:=ab QW;have ⟨W2,aZ⟩:=aj ((w.alloc (.cells #[.bool qv,.string ⟨n.toArray⟩,.slice qa k0 qc] 43)).setCell ⟨J,1,none⟩ (.int .i64 (left - 1)));rw[<-aZ]at pu C1 HA2;clear iO zh hx Li dT QW aZ;have g0:W2.cell? ⟨w.heap.size,0,none⟩=some (.bool qv):=ag pu.o.2.2 0;have g1:W2.cell? ⟨w.heap.size,1,none⟩=some (.string ⟨n.toArray⟩):=ag pu.o.2.2 1;have g2:W2.cell? ⟨w.heap.size,2,none⟩=some (.slice qa k0 qc):=ag pu.o.2.2 2
   cases qv with
   | true=>
    by_cases ha:a=[]
    ·subst ha;have zc5:k0=0:=by rw[du.o];rfl
     subst zc5;have mt:nodesT (.mk true n [])=1:=rfl;have Qt:dh (.mk true n [])=1:=rfl;have hb:(jc sc (.mk true n []) && (decide ((nodesT (.mk true n []):Int)<=left) && decide (bc+dh (.mk true n [])<=bz+1)))=(fH n || (sc && cX n)):=by
      rw[mt,Qt];have e1:decide (((1:Nat):Int)<=left)=true:=by simp;omega
      have e2:decide (bc+((1:Nat):Int)<=bz+1)=true:=by simp;omega
      simp only[jc,if_true,List.isEmpty_nil,dz,e1,e2,Bool.and_true]
     rw[mt]at hn
     cases hv:fH n with
     | true=>
      have CV:=ab (fun w=>hv ▸ hZ n w tM);have HE:=ab (hb.trans (by rw[hv] <;> rfl));clear hv hb mt Qt tN p9;have qrC:=();exact qao
     | false=>
      have CV:=ab (fun w=>hv ▸ hZ n w tM)
      cases sc with
      | false=>
       have HE:=ab (hb.trans (by rw[hv] <;> rfl));clear hv hb mt Qt tN p9;have qrD:=();exact qao
      | true=>
       cases ht:cX n with
       | true=>
        have qrE:=();exact qgK
       | false=>
        exact qgK
    ·have bi:0<k0:=by rw[du.o];exact jp.2 ha
     have kt:((k0:Int) == 0)=false:=by simp;omega
     have HE:=ab (show (jc sc (.mk true n a) && (decide ((nodesT (.mk true n a):Int)<=left) && decide (bc+dh (.mk true n a)<=bz+1)))=false by
      have:a.isEmpty=false:=by cases a with | nil=>exact absurd rfl ha | cons x y=>rfl
      simp[jc,this])
     have HN:=ab tN;clear tN p9 ha;have qgL:=();exact qao
   | false=>
    have mt:nodesT (.mk false n a)=nodesTs a+1:=rfl;have Qt:dh (.mk false n a)=bE a+1:=rfl;have hb:(jc sc (.mk false n a) && (decide ((nodesT (.mk false n a):Int)<=left) && decide (bc+dh (.mk false n a)<=bz+1)))=(decide (a.length<=4) && (xG n && (d9 sc a && (decide ((nodesTs a:Int)<=left - 1) && decide (bc+1+bE a<=bz+1))))):=by
     rw[mt,Qt];have e1:decide (((nodesTs a+1:Nat):Int)<=left)=decide ((nodesTs a:Int)<=left - 1):=by rw[ip];simp;omega
     have e2:decide (bc+((bE a+1:Nat):Int)<=bz+1)=decide (bc+1+bE a<=bz+1):=by rw[ip];simp;omega
     simp only[jc,bO,if_false,e1,e2,Bool.and_assoc]
    rw[mt]at hn
    by_cases h4:k0<=4
    ·have h4':((k0:Int)<=4):=by omega
     have d4:decide (a.length<=4)=true:=by rw[<-du.o];simpa using h4
     rw[d4,dz]at hb
     cases hf:xG n with
     | false=>
      have CF:=ab (fun w=>hf ▸ mr n w tM);have HE:=ab (hb.trans (by rw[hf] <;> rfl));clear hf hb mt Qt tN p9 d4;have qrF:=();exact qao
     | true=>
      have CF:=ab (fun w=>hf ▸ mr n w tM);rw[hf,dz]at hb;have CJ:=ab (fun w3 (aG:Below W2.heap.size W2 w3)=>vh a fd.o ok J sc (left - 1) bz (bc+1) w3 _ _ _ (HA2.o.later aG) ko.o (pu.o.2.1.later aG) (by omega) (by omega) hde (by omega) (by omega) (by omega));have qrG:=();exact qgM
    ·have h4':¬((k0:Int)<=4):=by omega
     have d4:decide (a.length<=4)=false:=by rw[<-du.o];simpa using h4
     have HE:=ab (hb.trans (by rw[d4] <;> rfl));clear hb mt Qt tN p9;have qgL:=();exact qao
  ·have C1:=ab (Ng J sc left bz bc _ Li h0 h1 Oz);have HE:=ab (show (jc sc (.mk qv n a) && (decide ((nodesT (.mk qv n a):Int)<=left) && decide (bc+dh (.mk qv n a)<=bz+1)))=false by
    rw[Bool.and_eq_false_iff];right;rw[Bool.and_eq_false_iff]
    by_cases hl:1<=left
    ·right;exact qgN
    ·left;simp only[decide_eq_false_iff_not];omega)
   have HJ1:=ab Li;clear Li tN p9 Oz;exact qao
 |clear ql1;have qrH:=();exact qgO
 |clear qrI;have qrJ:=();exact qgP
 |clear qrK;have bW:=ar.args.len;have kz:=ar.name;have ⟨dT,jw,fd,LC,og⟩:=qt bB ar.args ih Vd cD;have ⟨k0,cd⟩:=aj a.length;have ⟨R,hR⟩:=aj (iB ps.reverse ins (.mk qv n a));rw[<-cd]at bW;have du:=ab cd;have ⟨W3,dF⟩:=aj (((w.alloc (.cells q.cells 89)).alloc (.cells #[.bool qv,.string ⟨n.toArray⟩,.slice qa k0 qc] 43)).alloc (.cells #[.bool false,.string ⟨#[]⟩,.slice none 0 0] 43));have qrL:=();exact qgQ
 |clear qmE;exact qgO
 |clear qrM;have cZ:=fun (W:World) (hb:Below w.heap.size w W)=>tg a ar.args (fun t ht=>ih t ht (ar.args.mem ht)) ok W qa _ qc (bB.later hb);have ⟨k0,cd⟩:=aj a.length;rw[<-cd]at cZ;have ⟨HCL,du⟩:=aS cZ cd;clear hq bB ar ih cZ;unfold TQ.val;rw[<-cd];clear cd;refine nG Tryz.func107 ?_;simp only[Tryz.ntmps107,Nat.reduceAdd,Nat.reduceSub,lE];have jx:=eU;gi_wp2;have ⟨W2,aZ⟩:=aj ((w.alloc (.cells #[.bool qv,.string ⟨n.toArray⟩,.slice qa k0 qc] 43)).alloc (.cells #[.bool false,.string ⟨#[]⟩,.slice none 0 0] 43));have eV:=k_ aZ;have x0:=qM aZ;have x1:=jH aZ;rw[<-aZ];clear aZ;have qrN:=();exact qag
 |clear qrO;exact qgP
 |have kz:=uO.name;have ⟨m0,dQ⟩:=aj al.length;simp only[<-dQ]at c0 c1 c2 bB hu;exact qab):G:=h
theorem qgR(h:G:=by
 refine c_ 2 45 (.slice (some ⟨bs,os,none⟩) sm se) rfl (fun V hX=>by have h0:=p3 V hX;go_simp) fB fun gq=>?_;simp only[af];refine bw 3 46 (.int .i64 (k:Int)) rfl gq fun ir=>?_;simp only[af];refine bw 4 47 (.pointer (some ⟨bs,os+k * 4,none⟩)) rfl ir fun jj=>?_;simp only[af];refine c_ 5 48 (.agg #[.int .u8 uo,.string un,.slice ua ul uc,.slice ub um ue]) rfl (fun V hX=>by obtain ⟨h0,h1,h2,h3⟩:=qs V hX;go_simp) jj fun jz=>?_;simp only[af];refine bw 6 49 (.pointer (some ⟨W.heap.size,4,none⟩)) rfl jz fun lM=>?_;simp only[af];refine bw 7 50 (.pointer (some ⟨W.heap.size,7,none⟩)) rfl lM fun qh=>?_;simp only[af];refine c_ 8 51 (.slice (some ⟨bf,of,none⟩) fm fe) rfl (fun V hX=>by have h0:=p7 V hX;go_simp) qh fun Eu=>?_;simp only[af];refine bw 9 52 (.int .i64 (k:Int)) rfl Eu fun vX=>?_;simp only[af];refine bw 10 53 (.pointer (some ⟨bf,of+k * 4,none⟩)) rfl vX fun Ev=>?_;simp only[af];refine c_ 11 54 (.agg #[.int .u8 vo,.string vn,.slice va vl vc,.slice vb vm ve]) rfl (fun V hX=>by obtain ⟨h0,h1,h2,h3⟩:=qf V hX;go_simp) Ev fun LW=>?_;simp only[af]
 first
 |clear qrP;refine bw 12 55 (.slice ca cl cc) rfl LW fun OV=>?_
  simp only[af];refine bw 13 56 (.agg #[.int .u8 uo,.string un,.slice ua ul uc,.slice ub um ue,.int .u8 vo,.string vn,.slice va vl vc,.slice vb vm ve,.slice ca cl cc]) rfl OV fun RP=>?_;exact qgS
 |refine bw 12 55 (.slice (some ⟨g,0,none⟩) (cl+1) cap) rfl LW fun OV=>?_
  simp only[af];refine bw 13 56 (.agg #[.int .u8 uo,.string un,.slice ua ul uc,.slice ub um ue,.int .u8 vo,.string vn,.slice va vl vc,.slice vb vm ve,.slice (some ⟨g,0,none⟩) (cl+1) cap]) rfl OV fun RP=>?_;exact qgS):G:=h
theorem qgT(h:G:=by
 have ⟨p0,lA⟩:=aj ps.length;have O2:ps.length<=1000000000:=by omega
 have hp9:p0<=1000000000:=by omega
 rw[<-cd,<-dQ,<-kt,<-iI]at hm;rw[<-cd]at bW;rw[<-kt]at ek;rw[<-lA]at Gw;rw[<-cd]at fC;rw[<-dQ]at Ac;rw[<-kt]at Bw;rw[<-iI]at VD;rw[<-lA]at hp;rw[<-cd,<-dQ,<-kt,<-iI,<-lA];have ⟨du,gt,KX,GM,Aa,OK,Rk,Rg,HYs,HP⟩:=MY cd dQ kt iI lA fC Ac Bw VD hp;have ⟨fd,RZ,Qz⟩:=cE ih uO hfs;clear hR cd dQ kt iI lA fC Ac Bw VD hp ih hf uO hfs hq iN hD;have ⟨W2,aZ⟩:=aj ((w.alloc (.cells #[.int .u8 uo,.string ⟨xn.toArray⟩,.slice ua k0 uc,.slice ub k1 ue] 36)).alloc (.cells #[.int .u8 vo,.string ⟨yn.toArray⟩,.slice va m0 vc,.slice vb m1 ve] 36));have bG:=k_ aZ;have HX:Hd (W2.heap[w.heap.size]?=some (.cells #[.int .u8 uo,.string ⟨xn.toArray⟩,.slice ua k0 uc,.slice ub k1 ue] 36 (0,0))):=ab (by rw[aZ];exact (bH _ _ _ (by simp)).trans (ah rfl));have HY:Hd (W2.heap[w.heap.size+1]?=some (.cells #[.int .u8 vo,.string ⟨yn.toArray⟩,.slice va m0 vc,.slice vb m1 ve] 36 (0,0))):=ab (by rw[aZ];exact ah (by simp))
 first
 |clear qrQ;have ⟨cv,fj⟩:=aS bG aZ;have Js:=ab (fun (W:World)=>fk ⟨uo,⟨xn.toArray⟩,ua,k0,uc,ub,k1,ue⟩ W);have qrR:=();exact qgU
 |have ⟨cv,fj⟩:=aS bG aZ;have Js:=ab (fun (W:World)=>lY ⟨uo,⟨xn.toArray⟩,ua,k0,uc,ub,k1,ue⟩ W);exact qgU):G:=h
theorem qfZ(h:G:=by
 have kf:=(HQ.o.1.later HL.o.2.2.2.1).move (ok':=fun b=>¬M b) (fun b hb hlt=>⟨hb.2,gw.same b (by have:=hb.1;omega)⟩);have UL:=(HQ.o.2.1.later HL.o.2.2.2.1).move (ok':=fun b=>¬M b) (fun b hb hlt=>⟨hb.2,gw.same b (by have:=hb.1;omega)⟩);have zu:=(HQ.o.2.2.1.kp (Kp.below HL.o.2.2.2.1)).busy gw wJ;have jB:x∈a_ [] s f:=HL.o.2.2.2.2.2.subset (by simp);have tP:nodesF x.s<=400:=aN (mM s f [] x jB) xy.o.1;have Yr:=HL.o.2.2.2.2.2.length_le;have In:=rq s f [];simp only[cU,eT,List.length_nil]at Yr;have bW:pre.length+1<=400:=by have:=xy.o.1;omega
 have CS:=HST.o M (K0+1+1+1) (K0+1) (K0+1+1) yL.o.1 yL.o.2.1 yL.o.2.2.2.2 (fun b hb=>aN HV.o.2.2.1.size (DZ.o.1 b hb)) x (mJ s f [] (xV xy.o.2.2.2) x jB) tP W2 nF2 Ey k2 ⟨⟨u0,u1,u2,u3,u4,u5,u6,u7⟩,⟨v0,v1,v2,v3,v4,v5,v6,v7⟩,ca,cl,cc⟩ ps
  (fun b hb=>by have:=uR.o.2.2.2.2.1 b hb;have:=ig.o;have:=iO.size;omega) (J8.o.kp iO (fun b hb=>aN HV.o.2.2.1.size (DZ.o.1 b hb))) g2 (by have:=xy.o.2.1;have:=SR.o.2.1;omega) (by have:=xy.o.2.2.1;have:=SR.o.2.2;omega) ⟨kf,UL,zu,HQ.o.2.2.2.1,HQ.o.2.2.2.2⟩
 first
 |clear qpQ;obtain ⟨⟨k3,er⟩,Wi⟩:∃p,p=aY k2 x:=⟨_,rfl⟩;rw[<-Wi]at CS;unfold StepPost at CS;simp only[PlQ.val,PlQ.cells]at CS;have SX:=fun h0:er=0=>(show validB k3=true from s_ k2 x k3 (mJ s f [] (xV xy.o.2.2.2) x jB) g5 (by rw[<-Wi,h0]))
  have mV:gE aY kj (pre ++ [x])=(k3,er):=by rw[yI pre kj k2 x g1,Wi]
  have qrS:=();exact qgV
 |obtain ⟨⟨k3,er⟩,Wi⟩:∃p,p=dp k2 x:=⟨_,rfl⟩;rw[<-Wi]at CS;unfold StepPost at CS;simp only[PlQ.val,PlQ.cells]at CS;have SX:=fun h0:er=0=>(show validB k3=true from Bj k2 x k3 (mJ s f [] (xV xy.o.2.2.2) x jB) g5 (by rw[<-Wi,h0]))
  have mV:gE dp kj (pre ++ [x])=(k3,er):=by rw[yI pre kj k2 x g1,Wi]
  exact qgV):G:=h
theorem qfT(h:G:=by
 subst jb;obtain ⟨e0,e1,e2,e3,z0,z1,z2,z3⟩:=dc x27;obtain ⟨s0,s1,s2,_,_,_⟩:=fV _L;have CP:=vU W0 f dm t Am.o.1.fit (by have:=Am.o.1.nodes;omega) Am.o.1.wf Am.o.1.qone (by have:=HF.o.2.2.2.1;omega) nD.o.2.2.1.fit (by have:=nD.o.2.2.1.2;omega) _ _ W9 ⟨GO,GP,GQ,GR,GS,GT,GU,GV⟩ ⟨R7,R8,R9,R_,Sa⟩ (J8.o.kp (CY.two HG.o.1 HG.o.2.1) HG.o.2.2.2.1) (nD.o.2.2.2.2.1.later mz) (nD.o.2.2.2.2.2.2.later mz);simp only[FQ.val,TQ.val]at CP;have LN:=ab CP;have H9:=cq mz CY x27 _K;have ⟨bb,cZ⟩:=aj (cg [] (e9 dm t f) im);rw[<-cZ]at Mr;have ⟨Sf,Nq⟩:=aS Mr cZ;clear mz CY x27 _K _L CP Mr cZ;go_upto_region 21 with (go_at_call 101;refine LN.o.mono ?_;rintro e w10 ⟨⟨⟨r0,r1,r2,r3,r4,r5,r6,r7⟩,rfl,hr⟩,wn⟩;have GF:=bN wn H9.o.2.2.1;obtain ⟨y0,y1,y2,y3,v0,v1,v2,v3⟩:=dc GF;have mo:=bx hr wn GF;clear hr wn GF);clear e0 e1 e2 e3 z0 z1 z2 z3 s0 s1 s2 y0 y1 y2 y3 v0 v1 v2 v3;obtain ⟨wH,rE,Wc,Hg,y0,y1,y2,y3⟩:=yf mo.o.2.2 (.int .u8 r0) (.string r1) (.slice r2 r3 r4) (.slice r5 r6 r7);rw[<-rE];have _M:=(bA H9.o.2.2.1)
 first
 |clear qpt;have CZ:Below W8.heap.size W8 w10:=H9.o.1.tr mo.o.2.1;have qrT:=();exact qgW
 |have CZ:Below EF.heap.size EF w10:=H9.o.1.tr mo.o.2.1;exact qgW):G:=h
theorem qgX(h:G:=by
 go_wp2_with (go_at_call 91;refine lJ.o.mono ?_;rintro e w4 ⟨⟨⟨po,pn,pa,pl,pc,pb,pm,pe⟩,rfl,hp⟩,aR⟩;simp only[Option.isSome]at hp ⊢;rw[<-fj.o]at aR;have bh:Below w4.heap.size w4 (w4.alloc (.cells #[.int .u8 po,.string pn,.slice pa pl pc,.slice pb pm pe] 36)):=cI;have t5:=fh.o.later (aR.tr bh) (fun r=>r.below (aR.tr bh));have x5:=t5.other (by omega) Rt.o;obtain ⟨e0,e1,e2,e3,z0,z1,z2,z3⟩:=dc x5;have H5:=aA (aR.tr bh) x5;clear hp aR bh t5 x5);have qrU:=();exact qgY):G:=h
theorem qgZ(h:G:=by
 exact qg0):G:=h
theorem qg1(h:G:=by
 rintro D X hD ⟨k',zB,v_,h1,h2,h3,h4,h5,h6,h7,h8⟩ _ hd;have ε:=Yk.o;rw[h1,aw rfl]at ε;have In:=rq s f [];have L5:Kp M wH X:=ig.o.2.2.2.1.trans ((Kp.below ig.o.1).trans h8);have kP:Marks oA.heap.size X ({ target:=.collected D,args:=#[] } :: _X):=ig.o.2.2.1.more (w':=X) (fun E hE hx=>(h8.same E (bA hx) (fun hm=>by have:=uR.o.2.2.2.2.1 E hm;omega)).trans hx) hD (by have:=ig.o;omega) hd;have HZ:=ab (UR L5 kP h6 h7 h2 h5 ε);have SY:=ab (show zB<=nF+(j+1) * 400/\v_<=nT+(j+1) * 160000 by have:=xy.o.1;have:=xy.o.2.1;have:=xy.o.2.2.1;omega);clear h1 h2 h3 h4 h5 h6 h7 h8 ε In L5 kP hd;gi_wp2;refine RoundEnd.mk ?hT ?hr ?hm
 case hT=>kernel_rfl
 case hr=>
  refine ⟨j+1,by omega,by kernel_rfl,HZ.o.2.1,HZ.o.1,HZ.o.2.2.1,HZ.o.2.2.2.1,k',zB,v_,HZ.o.2.2.2.2.1,SY.o.1,SY.o.2,HZ.o.2.2.2.2.2.1,HZ.o.2.2.2.2.2.2⟩
 case hm=>
  refine (show n1 - (intOf (Value.int IntKind.i64 (((j+1:Nat)):Int))).toNat<n1 - (intOf (Value.int IntKind.i64 (j:Int))).toNat from ?_);simp[intOf];omega):G:=h
theorem qbl(h:G:=by
 have x6:=lZ (v0:=.int .u8 0) (v1:=.string ⟨#[]⟩) (v2:=.slice none 0 0) (v3:=.slice none 0 0) Mw.o
 first
 |clear qg2;have k6:=dM (W:=w4) (b:=w.heap.size+1+1) (v0:=.int .u8 0) (v1:=.string ⟨#[]⟩) (v2:=.slice none 0 0) (v3:=.slice none 0 0);have ⟨W6,cQ⟩:=aj ((((w4.setCell ⟨w.heap.size+1+1,0,none⟩ (.int .u8 0)).setCell ⟨w.heap.size+1+1,1,none⟩ (.string ⟨#[]⟩)).setCell ⟨w.heap.size+1+1,2,none⟩ (.slice none 0 0)).setCell ⟨w.heap.size+1+1,3,none⟩ (.slice none 0 0));have qrV:=();exact qbA
 |clear qnJ;have k6:=dM (W:=w9) (b:=w.heap.size+1+1) (v0:=.int .u8 0) (v1:=.string ⟨#[]⟩) (v2:=.slice none 0 0) (v3:=.slice none 0 0);have ⟨W6,cQ⟩:=aj ((((w9.setCell ⟨w.heap.size+1+1,0,none⟩ (.int .u8 0)).setCell ⟨w.heap.size+1+1,1,none⟩ (.string ⟨#[]⟩)).setCell ⟨w.heap.size+1+1,2,none⟩ (.slice none 0 0)).setCell ⟨w.heap.size+1+1,3,none⟩ (.slice none 0 0));have qrW:=();exact qbA
 |have k6:=dM (W:=w6) (b:=w.heap.size+1+1) (v0:=.int .u8 0) (v1:=.string ⟨#[]⟩) (v2:=.slice none 0 0) (v3:=.slice none 0 0);have ⟨W6,cQ⟩:=aj ((((w6.setCell ⟨w.heap.size+1+1,0,none⟩ (.int .u8 0)).setCell ⟨w.heap.size+1+1,1,none⟩ (.string ⟨#[]⟩)).setCell ⟨w.heap.size+1+1,2,none⟩ (.slice none 0 0)).setCell ⟨w.heap.size+1+1,3,none⟩ (.slice none 0 0));have qrX:=();exact qbA):G:=h
theorem qg3(h:G:=by
 refine lF S 31 dN fun jE bV=>?_;refine bw 0 66 (.pointer (some ⟨w.heap.size,1,none⟩)) rfl bV fun cB=>?_;simp only[af];refine c_ 1 67 (.slice (some ⟨b,off,none⟩) n2 qe) rfl (fun V hX=>by obtain ⟨g0,_⟩:=f0 V hX;go_simp) bV fun cB=>?_;simp only[af];refine bw 2 68 (.int .i64 j) rfl bV fun cB=>?_;simp only[af];refine bw 3 69 (.pointer (some ⟨b,off+j * 4,none⟩)) rfl bV fun cB=>?_;simp only[af];refine bw 4 70 (.pointer (some ⟨b,off+j * 4,none⟩)) rfl bV fun cB=>?_;simp only[af];refine c_ 5 71 (.string ⟨nx.toArray⟩) rfl (fun V hX=>by obtain ⟨g0,_⟩:=f1 V hX;go_simp) bV fun cB=>?_;simp only[af];refine bw 6 72 (.pointer (some ⟨w.heap.size+1,1,none⟩)) rfl bV fun cB=>?_;simp only[af];refine c_ 7 73 (.slice (some ⟨b2,off2,none⟩) n2 re) rfl (fun V hX=>by obtain ⟨_,g0⟩:=f0 V hX;go_simp) bV fun cB=>?_;simp only[af];refine bw 8 74 (.int .i64 j) rfl bV fun cB=>?_;simp only[af];refine bw 9 75 (.pointer (some ⟨b2,off2+j * 4,none⟩)) rfl bV fun cB=>?_
 first
 |clear qrY;simp only[af];have qrZ:=();exact qg4
 |simp only[af];exact qg4):G:=h
theorem qcT(h:G:=by
 have qr0:=();exact qg5):G:=h
theorem qg6(h:G:=by
 have qr1:=();exact qbj):G:=h
theorem qa1(h:G:=by
 refine hK _ _ (fun _=>by rw[cR.o];exact eG.o) (fun _=>?_);clear hK K
 first
 |clear qr2;refine b_ 16 rfl fun K hK=>?_
  have qr3:=();exact qcU
 |clear qr4;refine b_ 17 rfl fun K hK=>?_
  have qr5:=();exact qcU
 |clear qr6;refine b_ 8 rfl fun K hK=>?_
  go_simp;have qr7:=();exact qg7
 |clear qr8;refine b_ 8 rfl fun K hK=>?_
  go_simp;exact qg7
 |refine b_ 29 rfl fun K hK=>?_
  have qr9:=();exact qg8):G:=h
theorem qe3(h:G:=by
 have hs:=hb.size;refine ⟨qs ++ [(x,q)],by simp[hk],by rw[List.flatMap_append];simpa using aO,fun j h1 h2=>?_⟩
 by_cases hj:j<qs.length
 ·rw[List.getElem_append_left hj,List.getElem_append_left (by omega)];refine ⟨(ht j hj (by omega)).1,(ht j hj (by omega)).2.move (fun b hok hlt=>⟨⟨hok.1,fun e=>?_⟩,(hold b hok.1 (by omega) hok.2).trans (hb.block b hlt)⟩)⟩;have qg9:=();exact qbB
 ·have sT:j=ts.length:=by simp at h2;omega
  have qsa:=();exact qha):G:=h
theorem qg7(h:G:=by
 have bh:Below w6.heap.size w6 (w6.alloc (.cells #[.int .u8 p0,.string p1,.slice p2 p3 p4,.slice p5 p6 p7] 36)):=cI;refine hK _ _ (fun _=>by rw[cR.o];exact eG.o.tr bh) (fun _=>?_);clear hK K;have ⟨W7,Nv⟩:=aj (w6.alloc (.cells #[.int .u8 p0,.string p1,.slice p2 p3 p4,.slice p5 p6 p7] 36));rw[<-Nv]at bh ⊢;have y7:=bS Nv;have xR:=bN (eG.o.tr bh) Kd.o.2.2.1;have xT:=bN (eG.o.tr bh) Kd.o.2.1;have hlw:=cF.size;have zd8:=Ja.o.2.1;have zd9:=H7.o.size;have Vi:=zg.o;have zea:=dY.o.size;have hR1:=(bA jS.o);have xR2:=(bp (F:=3) xR (.slice (some ⟨w6.heap.size,0,none⟩) 1 1)).trans rfl;have kR:Kp (fun b=>b=w.heap.size+1+1) W7 (W7.setCell ⟨w.heap.size+1+1,3,none⟩ (.slice (some ⟨w6.heap.size,0,none⟩) 1 1)):=⟨rfl,rfl,rfl,by simp,fun c _ hc=>eC _ _ _ _ (by simpa using hc)⟩;have r3:=ag xR 3;have rz:=ac xR 3;have HPp:=ab hp;have Td:=bx (eG.o.tr bh) y7 bh
 first
 |clear qr7;have vV:=bx xR2 kR xT;have qsb:=();exact qhb
 |have vV:=bx xR2 kR xT;exact qhb):G:=h
theorem qbC(h:G:=by
 unfold TQ.val at CC;have qsc:=();exact qcV):G:=h
theorem qec(h:G:=by
 have hs:=hb.size;refine ⟨qs ++ [q],by simp[hk],by rw[List.flatMap_append];simpa using aO,fun j h1 h2=>?_⟩
 by_cases hj:j<qs.length
 ·rw[List.getElem_append_left hj,List.getElem_append_left (by omega)];refine (ht j hj (by omega)).move (fun b hok hlt=>⟨⟨hok.1,fun e=>?_⟩,(hold b hok.1 (by omega) hok.2).trans (hb.block b hlt)⟩);have qg9:=();exact qbB
 ·have sT:j=ts.length:=by simp at h2;omega
  exact qha):G:=h
theorem qgV(h:G:=by
 have hN:∀ b,b≠K0+1->b≠K0+1+1->¬N2 (K0+1) (K0+1+1) b:=fun b h h' hm=>by rcases hm with hm | hm;exact h hm;exact h' hm
 have hK6:=mo.o.2.1;have xp2:=(iO.same _ (bA HI.o.2.2.2.2.2) (fun h=>by have:=uR.o.2.2.2.2.1 _ h;have:=ig.o;omega)).trans HI.o.2.2.2.2.2;have xi2:=(iO.same _ (bA HI.o.2.2.2.2.1) (fun h=>by have:=uR.o.2.2.2.2.1 _ h;have:=ig.o;omega)).trans HI.o.2.2.2.2.1;have cp:=ag xp2 0;have ⟨P0,P1,P2,P3,P4,P5,P6,P7⟩:=D6 zr;have P8:=ag zr 8;have uP:=ab CS;have HG:=ab (zaE g3 g4 g6 g7 g8 SX mV hN xi2 bW);clear CS g1 g2 g3 g4 g5 g6 g7 g8 SX mV hN kf UL zu jB tP Yr In bW Wi zr wJ xp2 xi2 hK6;have Ex:=ab mo.o.2.1;have hKa:=Ex.o;have KY:aB+2<=wq.heap.size:=by have:=ig.o;have:=mo.o.1;omega
 have _z:K0+4<=wq.heap.size:=by have:=ig.o;have:=mo.o.1;omega
 have qsd:=();exact qcW):G:=h
theorem qhc(h:G:=by
 refine bw 0 15 (.pointer (some ⟨kb,0,none⟩)) rfl bV fun cB=>?_;simp only[af];refine bw 1 16 (.pointer (some ⟨kb,0,none⟩)) rfl cB fun fB=>?_;simp only[af];refine bw 2 17 (.pointer (some ⟨kb,1,none⟩)) rfl fB fun gq=>?_;simp only[af];refine c_ 3 18 (.map (some mT)) rfl (fun V hX=>by obtain ⟨h0,h1,h2⟩:=ff V hX;go_simp) gq fun ir=>?_;simp only[af];refine bw 4 19 (.pointer (some ⟨w.heap.size,1,none⟩)) rfl ir fun jj=>?_;simp only[af];refine c_ 5 20 (.string ⟨n.toArray⟩) rfl (fun V hX=>by obtain ⟨h0,h1,h2⟩:=ff V hX;go_simp) jj fun jz=>?_;simp only[af];refine c_ 6 21 (.agg #[.bool z0,.string z1,.slice z2 z3 z4]) rfl (fun V hX=>by obtain ⟨h0,h1,h2⟩:=ff V hX;go_simp) jz fun lM=>?_;have qse:=();exact qaK):G:=h
theorem qcA(h:G:=by
 have qsf:=();exact qcX):G:=h
theorem qfB(h:G:=by
 have y2:wr.cell? ⟨w.heap.size+1,2,none⟩=some (.slice (some ⟨b',jZ,none⟩) k0 vc):=aa dx (ag HY.o 2);have Bv:(k:Int)<(k0:Int):=by omega
 have HU:=ab (hu.later aq);have td:=ab (gI.later aq);have t4:=ab (HP.o.later aq);have ⟨Rl,Ad,Ae,cz,mx⟩:=qt p_ mw he aq dx;have kZ:=bx (aa aq kr) (aa aq kX) (aa aq kY);have ⟨uZ,HT⟩:=aS y2 ht;clear hu gI p_ mw he aq dx ht c0 c1 c2 kr kX kY;have qsg:=();exact qhd):G:=h
theorem qfF(h:G:=by
 have y2:wr.cell? ⟨w.heap.size+1,2,none⟩=some (.slice (some ⟨b',jZ,none⟩) k0 vc):=aa dx (ag nW.o 2);have Bv:(k:Int)<(k0:Int):=by omega
 have HU:=ab (hu.later aq);exact qfS):G:=h
theorem qfO(h:G:=by
 go_wp2_with (first | (go_at_call 115;refine C1.o.mono ?_;rintro e w' ⟨rfl,nJ⟩;obtain rfl:=nJ.symm) | (go_at_call 116;refine (CN.o _).mono ?_;rintro e w3 ⟨rfl,aG⟩;have bD:=ab aG;have p2:=(ie.o.later aG).c2;have p3:=(ie.o.later aG).c3;have p0:=(ie.o.later aG).c0;have s3:=(rF.o.later aG).c3;have s4:=(rF.o.later aG).c4;clear aG) | (go_at_call 118;refine (CT.o _ (nL.o.trans (Kp.below bD.o)) (xz.o.later bD.o)).mono ?_;rintro e w5 ⟨rfl,nE,l5,C5,C6,pT,kN⟩;have _S:=kN rfl;subst _S;have SK:Kp (fun c=>c=J) w w5:=(nL.o.trans (Kp.below bD.o)).trans nE;have e3:w5.cell? ⟨w.heap.size,3,none⟩=some (.slice qb m0 qe):=((ie.o.later bD.o).kp nE (by omega)).c3;have HA:=aA SK C5;clear nE C5 C6 pT kN SK))
 first
 |clear qoU;exact qgI
 |go_loopw [79] (fun i wr=>∃k:Nat,k<=m0/\i=.int .i64 k/\Kp (fun c=>c=J) w wr/\JAt J true (left - 1 - nodesTs a - nodesFs (s.take k)) bz wr/\dt true (s.take k)=true/\(nodesFs (s.take k):Int)<=left - 1 - nodesTs a/\bc+1+aV (s.take k)<=bz+1) (fun i _=>m0 - (intOf i).toNat)
  case atStart=>exact ⟨0,aX _,rfl,HA.o.1,by simpa[nodesFs] using HA.o.2,by simp[dt],by simp[nodesFs];omega,by simp[aV];omega⟩
  case round=>
   exact qcN):G:=h
theorem qgr(h:G:=by
 go_wp2;have qsh:=();exact qcn):G:=h
theorem qa2(h:G:=by
 have kK:=cb GM.o hlt;have aq:=il.o.trans (dx.mono il.o.size);obtain ⟨b,off,u,rfl,_,hu,c0,c1,c2,c3⟩:=Rg.o.get bj;obtain ⟨b',jZ,u',rfl,_,gI,kr,kX,kY,B_⟩:=HYs.o.get kK;have mw:=Qz.o.mem (ap bj);rw[kJ bj kK]at ht
 first
 |clear qsi;have ⟨e,he⟩:=aj (cg ps.reverse xs[k] ys[k]);have qsj:=();exact qa3
 |clear qsk;have ⟨e,he⟩:=aj (cg ps.reverse xs[k] ys[k]);have qsl:=();exact qa3
 |clear qsm;have ⟨e,he⟩:=aj (cg (ps ++ [(xn,xn)]).reverse xs[k] ys[k]);have qsn:=();exact qa3
 |clear qso;have ⟨e,he⟩:=aj (cg (ps ++ [(xn,yn)]).reverse xs[k] ys[k]);have qsp:=();exact qa3
 |have ⟨e,he⟩:=aj (cg (ps ++ [(xn,yn)]).reverse xs[k] ys[k]);exact qa3):G:=h
theorem qao(h:G:=by
 go_enter Tryz.func122,Tryz.ntmps122
 first
 |clear qrC;go_wp2_with (first | (go_at_call 115;refine C1.o.mono ?_;rintro e w' ⟨rfl,rfl⟩) | (go_at_call 152;refine (CV.o _).mono ?_;rintro e w3 ⟨rfl,aG⟩));go_ret;exact JPost.yes HE.o (pu.o.1.trans (Kp.below aG)) (pu.o.2.1.later aG) (by show ((1:Nat):Int)<=left;omega)
 |clear qrD;go_wp2_with (first | (go_at_call 115;refine C1.o.mono ?_;rintro e w' ⟨rfl,rfl⟩) | (go_at_call 152;refine (CV.o _).mono ?_;rintro e w3 ⟨rfl,aG⟩;have j0:=(pu.o.2.1.later aG).c0;have bD:=ab aG;clear aG));exact qhe
 |clear qsq;have qsr:=();exact qhf
 |clear qss;exact qhf
 |clear qgL;go_wp2_with (go_at_call 115;refine C1.o.mono ?_;rintro e w' ⟨rfl,rfl⟩);go_ret;exact JPost.no HE.o pu.o.1 pu.o.2.1 (by omega) (by omega)
 |clear qrF;go_wp2_with (first | (go_at_call 115;refine C1.o.mono ?_;rintro e w' ⟨rfl,rfl⟩) | (go_at_call 121;refine (CF.o _).mono ?_;rintro e w3 ⟨rfl,aG⟩;have bD:=ab aG;clear aG));exact qhe
 |clear qst;have qsu:=();exact qhg
 |clear qsv;exact qhg
 |go_wp2_with (go_at_call 115;refine C1.o.mono ?_;rintro e w' ⟨rfl,rfl⟩);exact qfQ):G:=h
theorem qhh(h:G:=by
 by_cases h1:uo=vo
 ·subst h1;have e0:(uo == uo)=true:=by simp
  have e1:(uo != uo)=false:=by simp
  by_cases h2:k0=m0
  ·subst h2;have h3:¬k1=m1:=fun h=>Ed ⟨rfl,rfl,h⟩;have e2:((k0:Int) != (k0:Int))=false:=by simp
   have e3:((k1:Int) == (m1:Int))=false:=by simp;omega
   have e4:((k1:Int) != (m1:Int))=true:=by simp;omega
   exact qcY
  ·have e2:((k0:Int) == (m0:Int))=false:=by simp;omega
   have e3:((k0:Int) != (m0:Int))=true:=by simp;omega
   exact qcY
 ·have e0:(uo == vo)=false:=by simpa using h1
  have e1:(uo != vo)=true:=by simpa using h1
  exact qcY):G:=h
theorem qac(h:G:=by
 refine aI (by kernel_rfl) (by kernel_rfl) ?_
 first
 |clear qmf
  repeat (go_big_quiet_step (fail))
  have qpm:=();exact qad
 |clear qsw
  repeat (go_big_quiet_step ((go_at_call 226;exact bU (CC.o _))))
  have qpq:=();exact qad
 |clear qsx
  repeat (go_big_quiet_step ((go_at_call 19;exact bU (CC.o _))))
  have qpu:=();exact qad
 |clear qsy
  repeat (go_big_quiet_step (fail))
  have qpw:=();exact qad
 |clear qsz;have qsA:=();exact qcZ
 |clear qsB
  repeat (go_big_quiet_step ((go_at_call 54;exact bU (HC.o _))))
  have qpz:=();exact qad
 |clear qsC;have qsD:=();exact qcZ
 |clear qsE;exact qcZ
 |clear qsF
  repeat (go_big_quiet_step ((go_at_call 92;exact bU (CC.o _))))
  exact qad
 |clear qsG
  repeat (go_big_quiet_step ((go_at_call 83;exact bU (CC.o _))))
  exact qad
 |clear qsH
  repeat (go_big_quiet_step ((go_at_call 54;exact bU (HC.o _ (HB.o.trans (Later.below _ |>.mono HB.o.size))))))
  have qpB:=();exact qad
 |clear qc0
  repeat (go_big_quiet_step (fail))
  have qpo:=();exact qad
 |clear qsI
  repeat (go_big_quiet_step (fail))
  have qpp:=();exact qad
 |clear qsJ
  iterate 2 (go_big_quiet_step ((go_at_call 99;exact bU (HCf.o _))))
  iterate 7 (go_big_quiet_step ((go_at_call 100;exact bU (HCt.o _))))
  iterate 2 (go_big_quiet_step ((go_at_call 99;exact bU (HCi.o _))))
  have qps:=();exact qad
 |clear qsK;have qsL:=();exact qhi
 |clear qsM
  repeat (go_big_quiet_step ((go_at_call 147;exact bU (CC.o _))))
  have qfV:=();exact qad
 |clear qsN;exact qhi
 |repeat (go_big_quiet_step ((go_at_call 147;exact bU (CC.o _))))
  have qfW:=();exact qad):G:=h
theorem qcv(h:G:=by
 rw[ce]at hF;have HU:=ab (hu.later aq);have ⟨HF,dU,cz⟩:=cE hF ce aq;clear hu aq hF c0 c1 c2 ce;gi_wp2;have ⟨W2,aZ⟩:=aj (Gz.alloc (.cells #[.bool u.v,.string u.n,.slice u.a u.l u.c] 43));have qsO:=();exact qhj):G:=h
theorem qc1(h:G:=by
 have jx:=eU;gi_wp2;have ⟨W1,bY⟩:=aj (((w.alloc (.cells #[.bool false,.string ⟨n.toArray⟩,.slice qa k0 qc] 43)).alloc (.cells #[.bool false,.string ⟨#[]⟩,.slice none 0 0] 43)).alloc (.cells #[.bool false,.string ⟨n.toArray⟩,.slice none 0 0] 43));have jf:=uS bY;have x1:=qN bY;have x2:=oD bY;have qsP:=();exact qaL):G:=h
theorem qhk(h:G:=by
 have Kb:Marks oA.heap.size m8 _X:=ze.move (fun D hD hd=>(ia.block D (bA hd)).trans hd);have J8:=ab ((HV.o.2.2.1.next mn).next ia);have HSq:=ab nH;have HI:=sC (d_.later ia) SU SV FU xi SW;have ig:=ab (an8 ia SS Kb bi ST Cd qI Nx);have Yk:=ab ik;have xy:=cq hns sL qW Dd;have yL:=ab hMr;have mC:=ab ((ia.block _ (by have:=(bA jS.o);omega)).trans ((bi.same _ (bA jS.o) DZ.o.2).trans jS.o));clear hs hf ia Hl SS xX xY xi ST Cd qI Nx _Z lU r_ De hns KQ _N nH hMr SU SV SW Kb d_ bi Iq fC ze sL qW ik FU Dd lN mn d0 d1 d2 d3 d4 d5 d6 d7 _Y hu;exact qfb):G:=h
theorem qc2(h:G:=by
 have f1:∀ V,S V->V.cell? ⟨wr.heap.size,0,none⟩=some (.bool u.v)/\V.cell? ⟨wr.heap.size,1,none⟩=some (.string u.n)/\V.cell? ⟨wr.heap.size,2,none⟩=some (.slice u.a u.l u.c):=fun V h=>by rw[hS]at h;exact ⟨aa h (ag xb 0),aa h (ag xb 1),aa h (ag xb 2)⟩
 have qsQ:=();exact qap):G:=h
theorem qa4(h:G:=by
 have HE:=ab (show R=true by rw[ht,gT (by rw[KX.o];exact aC _)];simp[cJ]);have cz:=ab (il.o.trans (dx.mono il.o.size));exact qc3):G:=h
theorem qa3(h:G:=by
 rw[<-he]at ht;have qsR:=();exact qaI):G:=h
theorem qhl(h:G:=by
 have qsS:=();exact qa5):G:=h
theorem qbD(h:G:=by
 have h1:ao a=ao (a.take (k+1)) ++ ao (a.drop (k+1)):=by
  conv=>lhs;rw[<-List.take_append_drop (k+1) a]
  exact gJ _ _
 first
 |clear qc4;have h2:=nK.o;rw[h1,js]at h2;obtain ⟨r,rfl⟩:=h2;exact ⟨ao (a.drop (k+1)) ++ r,by simp⟩
 |rw[h1,js];exact ⟨_,rfl⟩):G:=h
theorem qhm(h:G:=by
 refine ku ?_;go_wp2_with fail;go_meet
 first
 |clear qsT;obtain ⟨W8,kV,x8,k8,_⟩:=sJ H7.o.1 (.bool qv) (.string ⟨n.toArray⟩) (.slice r1 m0 r2);rw[<-kV];refine ⟨_,rfl,⟨qv,⟨n.toArray⟩,r1,m0,r2⟩,x8,H7.o.2.1,Below.kp1 H7.o.2.2.1 k8 H7.o.2.1,?_⟩;have e0:eQ ns qv n al 0=.mk qv n (dC ns al):=by simp[eQ]
  rw[e0];exact aM.2 ⟨_,rfl,H7.o.2.2.2.move (fun b hb hlt=>⟨hb,k8.same b hlt hb.2⟩)⟩
 |obtain ⟨W8,kV,x8,k8,_⟩:=yf H7.o.1 (.int .u8 qo) (.string ⟨n.toArray⟩) (.slice r1 k0 r2) (.slice none 0 0);rw[<-kV];exact ⟨_,rfl,r1,r2,x8,H7.o.2.1,Below.kp1 H7.o.2.2.1 k8 H7.o.2.1,H7.o.2.2.2.move (fun b hb hlt=>⟨hb,k8.same b hlt hb.2⟩)⟩):G:=h
theorem qcz(h:G:=by
 have eG:=ab (bD.o.trans (x'.below.mono bD.o.size));cases e
 ·have HE:=ab (show R=false by rw[HT.o];simp);go_wp2;go_ret;exact ⟨az HE.o.symm,cz.o.trans (eG.o.mono cz.o.size)⟩
 ·go_wp2;go_roundw
  case rel=>exact ⟨k+1,by omega,by go_num,mx.o.trans (eG.o.mono mx.o.size),by rw[HT.o];simp⟩
  case measure=>simp[intOf];omega):G:=h
theorem qhn(h:G:=by
 simp only[af];refine c_ 1 52 (.slice ra k rc) rfl (fun V hX=>by have g0:=f0 V hX;go_simp) cB fun fB=>?_;simp only[af];refine bw 2 53 (.pointer (some ⟨kb,0,none⟩)) rfl fB fun gq=>?_;simp only[af];refine c_ 3 54 (.agg #[.bool u.v,.string u.n,.slice u.a u.l u.c]) rfl (fun V hX=>by obtain ⟨g0,g1,g2⟩:=f1 V hX;go_simp) gq fun ir=>?_;simp only[af];refine bw 4 55 vL rfl ir fun jj=>?_;simp only[af];refine b_ 5 rfl fun K hK=>?_;have qsU:=();exact qho):G:=h
theorem qhp(h:G:=by
 go_upto_region 1 with fail;rw[<-jt.o];go_cut [14] from 8 to 14 (fun s14 wx=>s14=.bool false/\Below W1.heap.size W1 wx)
 case first=>
  cases tv with
  | false=>
   go_wp2_with fail;go_meet;exact ⟨rfl,ai _ _⟩
  | true=>
   have l_:dl n=false:=by simpa using Nm
   rw[l_]at t7;go_wp2_with (go_at_call 119;refine t7.o.mono ?_;rintro e w3 ⟨rfl,aG⟩;have H3:=ab aG;clear aG);go_meet;exact ⟨rfl,H3.o⟩
 case rest=>
 obtain ⟨h14,bG⟩:=hcut;rw[h14];clear h14 Nm;have ⟨W2,aZ⟩:=aj wc;rw[<-aZ]at bG ⊢;clear aZ wc;have x2:=bN bG H1.o.2.1;have c2:=ag x2 2;have H2:=aA bG (H1.o.1.tr bG);clear bG x2 e0 e1 e2;go_wp2_with fail;clear c2
 first
 |clear qsV;go_loopw [5,26] (fun r i wr=>∃j:Nat,j<=n1/\i=.int .i64 j/\r=.int .i64 ((ew k.ts (a.take j)+1:Nat):Int)/\Below W2.heap.size W2 wr) (fun _ i _=>n1 - (intOf i).toNat)
  case atStart=>exact ⟨0,aX _,rfl,by simp[ew],ai _ _⟩
  case round=>
   obtain ⟨j,hj,rfl,rfl,aq⟩:=hrel
   by_cases hlt:j<n1
   ·have gZ:=cb HN.o hlt;have qsW:=();exact qbE
   ·obtain rfl:n1=j:=by omega
    have ce:a.take n1=a:=by rw[HN.o];exact cK
    rw[ce];have HK:=ab (H2.o.2.tr aq);exact qhq
 |go_loopw [5,27] (fun r i wr=>∃j:Nat,j<=n1/\i=.int .i64 j/\OwnS W2.heap.size wr r (dX k.ts (a.take j))/\Below W2.heap.size W2 wr) (fun _ i _=>n1 - (intOf i).toNat)
  case atStart=>exact ⟨0,aX _,rfl,OwnS.nil _ _,ai _ _⟩
  case round=>
   obtain ⟨j,hj,rfl,de,aq⟩:=hrel
   by_cases hlt:j<n1
   ·have gZ:=cb HN.o hlt;have qsX:=();exact qbE
   ·obtain rfl:n1=j:=by omega
    have ce:a.take n1=a:=by rw[HN.o];exact cK
    rw[ce]at de;have HK:=aA (H2.o.2.tr aq) (de.base H2.o.2.size);exact qhr):G:=h
theorem qhs(h:G:=by
 go_wp2_with (first | (go_at_call 84;refine tb.o.mono ?_;rintro e w3 ⟨rfl,rV,aG⟩;have H3:=aA rV aG;clear rV aG) | (go_at_call 75;refine (Bm _ _).mono ?_;rintro e w4 ⟨rfl,rfl⟩) | (go_at_call 74;refine (tS _ _ _ Va.o _ H3.o.1).mono ?_;rintro e w5 ⟨v5,rfl,KR,bh⟩;have H5:=aA KR bh;clear KR bh));go_ret;have aG:RowKit.Below W2.heap.size W2 w3:=by rw[HZ3.o,fj.o];exact H3.o.2
 have ia:=cv.o.trans (aG.mono cv.o.size);exact qfn):G:=h
theorem qht(h:G:=by
 have CA:=wi (e9 dm t f) im [] (.slice none 0 0) _ _ wH ⟨r0,r1,r2,r3,r4,r5,r6,r7⟩ ⟨p0,p1,p2,p3,p4,p5,p6,p7⟩ (by have:=(wg (x:=dm) Am.o.1 nD.o.2.2.1).1;simp[eI];omega) (wg Am.o.1 nD.o.2.2.1) hrv hiv (PairsV.nil wH);simp only[FQ.val,List.reverse_nil,<-Nq.o]at CA;have GW:=ab CA;have Ms:=aA (Mn (H9.o.2.1.trans (Kp.below mo.o.2.1)) Hg (by have:=zg.o.2.2.2.2;omega)) ws;clear _M CZ SI hrv hiv C0 ws CA Wc Hg rE;cases bb
 ·go_wp2_with (go_at_call 92;refine GW.o.mono ?_;rintro e w12 ⟨rfl,oX⟩;have QC:=ab oX;clear oX);go_ret;exact StepPost.bad Sf.o (by decide) (Ms.o.1.trans (Kp.below QC.o))
 first
 |clear qsY
  ·go_wp2_with (go_at_call 92;refine GW.o.mono ?_;rintro e w12 ⟨rfl,oX⟩;have QC:=ab oX;clear oX);go_ret;exact StepPost.good nF (nT) Sf.o (Ms.o.1.trans (Kp.below QC.o)) (by omega) (by omega) (Ms.o.2.later QC.o)
 |·go_wp2_with (go_at_call 92;refine GW.o.mono ?_;rintro e w12 ⟨rfl,oX⟩;have QC:=ab oX;clear oX);go_ret;exact StepPost.good nF (nT+1) Sf.o (Ms.o.1.trans (Kp.below QC.o)) (by omega) (by omega) (Ms.o.2.later QC.o)):G:=h
theorem qaG(h:G:=by
 simp only[TQ.val,cr,Array.mk.injEq,bP,and_true,Value.bool.injEq,Value.string.injEq]at h1 h2;obtain ⟨rfl,rfl,rfl⟩:=h1;obtain ⟨rfl,rfl,rfl⟩:=h2
 first
 |clear ql3;have HV:=ab hv;simp only[Nat.zero_mul,Nat.add_zero,Nat.one_mul]at c0 c1 c2 kr kX kY;have hlt:([Tm.mk uv xn xa,Tm.mk vv yn ya]:List Tm).length=2:=rfl;rw[hlt];clear hv hu gI hf hfx hfy hl c2 kY hlt;have hb:uW [.mk uv xn xa,.mk vv yn ya]=(uv && (fH xn && (vv && cX yn))):=rfl;rw[hb];clear hb;cases uv
  ·go_enter Tryz.func117,Tryz.ntmps117;exact qat
  ·cases h1:fH xn
   ·have C1:=ab (fun w=>h1 ▸ hZ xn w pw);clear h1;exact qem
   ·have C1:=ab (fun w=>h1 ▸ hZ xn w pw);clear h1;cases vv
    ·go_enter Tryz.func117,Tryz.ntmps117;go_wp2_with (go_at_call 152;refine (C1.o _).mono ?_;rintro e w' ⟨rfl,hb⟩;have g0:=aa hb kr;have HB:=ab hb;clear hb);go_ret;exact ⟨rfl,HB.o⟩
    ·go_enter Tryz.func117,Tryz.ntmps117;go_wp2_with (first | (go_at_call 152;refine (C1.o _).mono ?_;rintro e w' ⟨rfl,hb⟩;have g0:=aa hb kr;have g1:=aa hb kX;have HB:=ab hb;clear hb) | (go_at_call 186;refine (ly yn _ hy2).mono ?_;rintro e w3 ⟨rfl,aG⟩));go_ret;exact ⟨rfl,HB.o.trans (aG.mono HB.o.size)⟩
 |clear qsZ;obtain rfl:=fC.len;obtain rfl:=Ac.len;have qs0:=();exact qc5
 |clear qs1;have ⟨W,hW⟩:=aj ((w.alloc (.cells #[.bool uv,.string ⟨xn.toArray⟩,.slice ua ul uc] 43)).alloc (.cells #[.bool vv,.string ⟨yn.toArray⟩,.slice va vl vc] 43));have hB:=k_ hW;have C1:=ih ya ok ok' W ua ul uc va vl vc hf.args E3.args (fC.later hB) (Ac.later hB);rw[hW]at hB C1;have hm:=Nz uv vv xn yn xa ya;have ⟨R,hR⟩:=aj (vY (.mk uv xn xa) (.mk vv yn ya));rw[<-hR]at hm ⊢;have ⟨c,hc⟩:=aj (Lib.compareBytes xn yn);rw[<-hc]at hm;have ⟨d,hd⟩:=aj (Fk xa ya);simp only[Tm.a]at C1;rw[<-hd]at hm C1;have HS:Hd (∀ W,Calls Tryz.prog 272 #[.string ⟨xn.toArray⟩,.string ⟨yn.toArray⟩] W fun e w'=>e=.returned (.int .i64 c)/\w'=W):=ab (fun W=>by rw[hc];exact Tryz.strings_Compare _ _ W);have ⟨HC,HB⟩:=aS C1 hB;clear hR hc hd C1 hB fC Ac hW ih hf E3 hq iN;unfold TQ.val;go_enter Tryz.func226,Tryz.ntmps226
  by_cases h0:c=0
  ·subst h0;cases uv <;> cases vv <;> simp at hm <;> subst hm <;>
   (go_wp2_with (first | (go_at_call 272;refine (HS.o _).mono ?_;rintro e w2 ⟨rfl,rfl⟩) | (go_at_call 273;refine HC.o.mono ?_;rintro e w3 ⟨rfl,aG⟩;have bD:=ab aG;clear aG))
    go_ret
    first | exact ⟨rfl,HB.o⟩ | exact ⟨rfl,HB.o.trans (bD.o.mono (by simp;omega))⟩)
  ·have d1:(c == 0)=false:=by simpa using h0
   have d2:(c != 0)=true:=by simpa using h0
   cases uv <;> cases vv <;> simp[h0]at hm <;> subst hm <;>
   (go_wp2_with (go_at_call 272;refine (HS.o _).mono ?_;rintro e w2 ⟨rfl,rfl⟩)
    go_ret;exact ⟨rfl,HB.o⟩)
 |clear qs2;obtain rfl:=iu.len;obtain rfl:=GJ.len;have ⟨n1,eh⟩:=aj a.length;have ⟨n2,i_⟩:=aj a'.length;have kz:=lN.name;have RU:=dD;unfold jJ at RU;simp only[ae,br]at RU;have IQ:=ab RU.1;have UF:=ab (fP.1 RU.2);clear dD RU;have OS:=lN.args.len;have Vs:=(HG.o.2.1 _ him).args.len;rw[<-eh]at OS;rw[<-i_]at Vs;have ⟨R,hR⟩:=aj (cY (ps.reverse.map (·.1)) k.ts (.mk tv n a) (.mk uv n' a'));have rj:=hR;rw[cY]at rj;rw[<-hR];have ⟨W3,dF⟩:=aj (((W.alloc (.cells q.cells 89)).alloc (.cells #[.bool tv,.string ⟨n.toArray⟩,.slice ta n1 tc] 43)).alloc (.cells #[.bool uv,.string ⟨n'.toArray⟩,.slice ua n2 uc] 43));have aG:=uS dF;have qB:=Ir dF;have xp:=yX dF;have xt:=qN dF;have xu:=oD dF;have pJ:=d_.later aG;rw[<-eh]at qF iu;rw[<-i_]at huv GJ;rw[<-eh,<-i_];have HR:=ab rj;have H3:=sC aG qB xp xt xu pJ;have HV:=cq (qF.later aG) (huv.later aG) (iu.later aG) (GJ.later aG);have HF:=aA lN him;have HN:=aA eh i_;have HPs:=ab (iG.kp (Kp.below aG));have ⟨fd,Af⟩:=aS ih dF;have HmT:=ab (show mT<W.heap.size from d_.ts.lt);have DV:nodesT (.mk tv n a)=nodesTs a+1:=by unfold nodesT;omega
  have RV:=aA qW DV;obtain ⟨e0,e1,e2,_⟩:=fV xt;obtain ⟨f0,f1,f2,_⟩:=fV xu;obtain ⟨P0,P1,P2,P3,P4,P5,P6,P7,P8⟩:=iX xp;exact qaj
 |clear qs3;exact qbF
 |obtain rfl:=fC.len;obtain rfl:=Ac.len;have qs4:=();exact qc5):G:=h
theorem qhu(h:G:=by
 simp only[af];refine c_ 1 35 (.slice ra k rc) rfl (fun V hX=>by have g0:=f0 V hX;go_simp) cB fun fB=>?_;simp only[af];refine c_ 2 36 (.agg #[.bool u.v,.string u.n,.slice u.a u.l u.c]) rfl (fun V hX=>by obtain ⟨g0,g1,g2⟩:=f1 V hX;go_simp) fB fun gq=>?_;simp only[af];refine bw 3 37 (.func (.func g) #[] lb) rfl gq fun ir=>?_;simp only[af];refine b_ 4 rfl fun K hK=>?_;exact qho):G:=h
theorem qbs(h:G:=by
 go_enter Tryz.func95,Tryz.ntmps95
 first
 |clear qpl;go_wp2_with (first | (rw[<-Af.o];go_at_call 119;refine t7.o.mono ?_;rintro e w4 ⟨rfl,aR⟩;have p0:=aa aR P0;have p1:=aa aR P1;have p2:=aa aR P2;have p3:=aa aR P3;have p4:=aa aR P4;have p5:=aa aR P5;have p6:=aa aR P6;have p7:=aa aR P7;have p8:=aa aR P8;have q1:=aa aR e1;have q0:=aa aR e0;have H4:=ab aR;clear aR) | (go_at_call 163;refine (VA.o w4 H4.o).mono ?_;rintro e w3 ⟨rfl,cF⟩;have H5:=ab (H4.o.tr cF);have t0:=aa (H4.o.tr cF) e0;have u0:=aa (H4.o.tr cF) f0;have t1:=aa (H4.o.tr cF) e1;have u1:=aa (H4.o.tr cF) f1;have t2:=aa (H4.o.tr cF) e2;have u2:=aa (H4.o.tr cF) f2;clear cF))
  first
  |clear qs5;clear p0 p1 p2 p3 p4 p5 p6 p7 p8 q0 q1;exact qg5
  |clear qs6;go_ret;exact ⟨Kp.below (H3.o.1.tr H5.o),false,rfl,(fun _=>rfl),(fun ts eW=>by rw[HE.o]at eW;cases eW)⟩
  |go_loopw [87] (fun i wr=>∃(j Ey:Nat) (kj:List (Str×Tm)),j<=n1/\i=.int .i64 j/\Kp (fun b=>b=mT) W3 wr/\Ey<=nT+nodesTs (a.take j)/\KnV (fun b=>¬M b) PF PT wr kb mF mT nF Ey ⟨k.fs,kj⟩/\R=bL (ps.reverse.map (·.1)) kj (a.drop j) (a'.drop j)) (fun i _=>n1 - (intOf i).toNat)
   case atStart=>exact ⟨0,nT,k.ts,aX _,rfl,Kp.below H5.o,by omega,H3.o.2.2.2.2.2.later H5.o,by simpa using HE.o⟩
   case round=>
    exact qfI
 |clear qs7;go_wp2_with (first | (rw[<-Af.o];go_at_call 119;refine t7.o.mono ?_;rintro e w4 ⟨rfl,aR⟩;have H4:=ab aR;clear aR));have l9:=H3.o.2.2.2.2.2.later H4.o;have g0:w4.cell? ⟨kb,1,none⟩=some (.map (some mT)):=ag l9.box 1;have g1:w4.drew.cell? ⟨kb,1,none⟩=some (.map (some mT)):=ag l9.box 1;have g2:=aa H4.o e1;have g3:=aa H4.o.drew e1;have HK4:=ab l9;have cF:Below w4.heap.size w4 (w4.alloc (.cells #[.bool false,.string ⟨#[]⟩,.slice none 0 0] 43)):=cI;have qs8:=();exact qhv
 |clear qs9;go_wp2;rw[<-Af.o];go_ret;exact ⟨Kp.below (H3.o.1.tr (ai _ _)),false,rfl,(fun _=>rfl),(fun ts eW=>by rw[HE.o]at eW;cases eW)⟩
 |go_wp2;rw[<-Af.o];go_loopw [87] (fun i wr=>∃(j Ey:Nat) (kj:List (Str×Tm)),j<=n1/\i=.int .i64 j/\Kp (fun b=>b=mT) W3 wr/\Ey<=nT+nodesTs (a.take j)/\KnV (fun b=>¬M b) PF PT wr kb mF mT nF Ey ⟨k.fs,kj⟩/\R=bL (ps.reverse.map (·.1)) kj (a.drop j) (a'.drop j)) (fun i _=>n1 - (intOf i).toNat)
  case atStart=>exact ⟨0,nT,k.ts,aX _,rfl,Kp.below (ai _ _),by omega,H3.o.2.2.2.2.2.later (ai _ _),by simpa using HE.o⟩
  case round=>
   exact qfI):G:=h
theorem qeO(h:G:=by
 obtain ⟨vo,yn,ya,ys⟩:=u;obtain ⟨s1,s2,h1,fC,Bw⟩:=aQ.1 hq;obtain ⟨s3,s4,h2,Ac,VD⟩:=aQ.1 iN;exact qfj):G:=h
theorem qf4(h:G:=by
 have qta:=();exact qhw):G:=h
theorem qbZ(h:G:=by
 go_wp2_with (first | (go_at_call 187;refine (tK _ _ _).mono ?_;rintro e w' ⟨rfl,rfl⟩) | (go_at_call 239;refine HC.o.mono ?_;rintro e w' ⟨rfl,hw⟩));go_ret;exact ⟨rfl,(cI.alloc (by simp) _).trans ((gX hw).mono (by simp;omega))⟩):G:=h
theorem qcG(h:G:=by
 go_wp2_with (go_at_call 93;refine (Js.o _).mono ?_;rintro e X4 ⟨rfl,aR⟩;have mC:=ab (bN aR wk.o);have nW:=ab (bN aR VE.o);have qp:=ab (VF.o.later aR);have il:=ab (wj.o.trans (aR.mono wj.o.size));have z3:X4.cell? ⟨w.heap.size,3,none⟩=some (.slice ub k1 ue):=ag mC.o 3;clear aR)
 first
 |clear qpZ;exact qf3
 |clear qp1;exact qhw
 |have qtb:=();exact qf4):G:=h
theorem qbG(h:G:=by
 intro g cap X5 au am;have xw:Below X4.heap.size X4 X5:=⟨am.os.trans m7.os,am.tape.trans m7.tape,am.output.trans m7.output,aN m7.size am.size,fun b hb=>(am.block b (bJ hb m7.size) (by simp)).trans (m7.block b hb)⟩
 first
 |clear qtc;exact qfc
 |clear qtd;have R1:=bN xw mC.o;have qte:=();exact qc6
 |clear qtf;have R1:=bN xw mC.o;have qtg:=();exact qc6
 |have R1:=bN xw mC.o;exact qc6):G:=h
theorem qhx(h:G:=by
 obtain ⟨e0,e1,e2,e3,_,_,_,_⟩:=dc H2.o.2.1;have g0:W2.cell? ⟨kb,0,none⟩=some (.map (some mF)):=ag H2.o.2.2.box 0;have g1:W2.drew.cell? ⟨kb,0,none⟩=some (.map (some mF)):=g0;have g3:W2.drew.cell? ⟨w.heap.size+1,1,none⟩=some (.string ⟨n.toArray⟩):=e1;have qth:=();exact qhy):G:=h
theorem qhz(h:G:=by
 have rJ:=cM rE;have Wc:=bS rE;have SO:=bN rJ Iq;have SP:=bN rJ fC;have Ka:Marks oA.heap.size wH ds:=ze.move (fun D hD hd=>(rJ.block D (bA hd)).trans hd);have ws:Kp M oA wH:=bi.trans (Kp.below rJ);have zO:=d_.later rJ;have SQ:=Gb rE;have hMl:∀ b,M b->b<oA.heap.size:=fun b hb=>by rw[HM.o]at hb;have:=mo.o.1;have:=mo.o.2.1;omega
 have uR:=sC Wc ws (hbr.tr rJ) SQ hMl bi.size;have Hk:=cq SO SP Ka zO;have SR:=bx FU sL qW;have t4:=bx qJ hi1 xk;have _W:=ab rE;have x1w:=bN rJ x1r;have jS:=ab x1w;clear Iq fC ze bi d_ FU sL qW qJ hi1 xk rE rJ Wc SO SP Ka ws zO SQ hMl hbr x1r x1w
 first
 |clear qti;have hix:(Instr.index 83 (.agg #[(.func (.func 47) #[.pointer (some ⟨K0+1+1+1,0,none⟩)] #[]),(.func (.func 48) #[.pointer (some ⟨K0+1+1+1,0,none⟩)] #[])]) (.int .i64 0)).run Tryz.prog wr=.ok (.func (.func 47) #[.pointer (some ⟨K0+1+1+1,0,none⟩)] #[]) wr:=by kernel_rfl
  gi_wp2_with fail;clear e0 hix;rw[<-_W.o];refine mc [53,54,55,56,57,14,15,58,59,60,61,62,70] 53 (fun us ds wq=>∃j:Nat,j<=n1/\us 53=.int .i64 j/\Marks oA.heap.size wq ds/\Kp M wH wq/\wq.heap[aB+1]?=some (.cells #[.int .i64 0] 30 (0,0))/\wq.heap[aB]?=some (.cells #[.int .i64 0] 3 (0,0)) ∧
   ∃(kj:Bd) (PA PB:Nat),KnV (fun b=>¬M b) goodF goodT wq (K0+1+1+1) (K0+1) (K0+1+1) PA PB kj/\PA<=nF+j * 400/\PB<=nT+j * 160000/\validB kj=true/\e7 aY 0 k l=e7 aY j kj (l.drop j)) (fun v=>n1 - (intOf v).toNat) (by simp) (by decide) ?start3 ?round3
  case start3=>exact ⟨0,aX _,rfl,Hk.o.2.2.1,Kp.refl _,Hk.o.1,Hk.o.2.1,k,nF,nT,Hk.o.2.2.2,by omega,by omega,SR.o.1,by simp⟩
  case round3=>
   have qtj:=();exact qhA
 |have hix:(Instr.index 83 (.agg #[(.func (.func 47) #[.pointer (some ⟨K0+1+1+1,0,none⟩)] #[]),(.func (.func 48) #[.pointer (some ⟨K0+1+1+1,0,none⟩)] #[])]) (.int .i64 1)).run Tryz.prog wr=.ok (.func (.func 48) #[.pointer (some ⟨K0+1+1+1,0,none⟩)] #[]) wr:=by kernel_rfl
  gi_wp2_with fail;clear e0 hix;rw[<-_W.o];refine mc [53,54,55,56,57,14,15,58,59,60,61,62,70] 53 (fun us ds wq=>∃j:Nat,j<=n1/\us 53=.int .i64 j/\Marks oA.heap.size wq ds/\Kp M wH wq/\wq.heap[aB+1]?=some (.cells #[.int .i64 0] 30 (0,0))/\wq.heap[aB]?=some (.cells #[.int .i64 0] 3 (0,0)) ∧
   ∃(kj:Bd) (PA PB:Nat),KnV (fun b=>¬M b) goodF goodT wq (K0+1+1+1) (K0+1) (K0+1+1) PA PB kj/\PA<=nF+j * 400/\PB<=nT+j * 160000/\validB kj=true/\e7 dp 0 k l=e7 dp j kj (l.drop j)) (fun v=>n1 - (intOf v).toNat) (by simp) (by decide) ?start3 ?round3
  case start3=>exact ⟨0,aX _,rfl,Hk.o.2.2.1,Kp.refl _,Hk.o.1,Hk.o.2.1,k,nF,nT,Hk.o.2.2.2,by omega,by omega,SR.o.1,by simp⟩
  case round3=>
   exact qhA):G:=h
theorem qgO(h:G:=by
 have ek:=ar.args.len;have fd:=ab (fun t ht=>ih t ht (ar.args.mem ht));have ⟨m0,dQ⟩:=aj a.length;rw[<-dQ]at ek bB;unfold TQ.val;simp only;rw[<-dQ];have gt:=ab dQ;have ⟨W1,bY⟩:=aj (W.alloc (.cells #[.bool qv,.string ⟨n.toArray⟩,.slice qa m0 qc] 43));have jf:=cM bY;have KP:J pre W1:=hJ pre _ _ (Nw.below jf) hj;have HX:Hd (W1.heap[W.heap.size]?=some (.cells #[.bool qv,.string ⟨n.toArray⟩,.slice qa m0 qc] 43 (0,0))):=ab (by rw[bY];exact ah rfl);have ⟨fQ,DT,jt⟩:=cE bB hM bY;have HL:Hd (W.heap.size<W1.heap.size):=ab (by rw[bY];simp)
 first
 |clear qrH;refine nG Tryz.func214 ?_;simp only[Tryz.ntmps214,Nat.reduceAdd,Nat.reduceSub,lE];have jx:=eU;cases qv
  ·have mI:aE (.mk false n a)=[] ++ ao a:=by unfold aE;rfl
   rw[mI]at dq ⊢;have qtk:=();exact qhB
  ·have mI:aE (.mk true n a)=[n] ++ ao a:=by unfold aE;rfl
   rw[mI]at dq ⊢;have sG:=hY pre #[.string ⟨n.toArray⟩] n _ KP (Kp.below jf) rfl (ke dq);have ⟨nK,HJ,HY,dY⟩:=eD dq hJ hY jf;obtain ⟨fn,tmps,assign,body,hy,IP⟩:=j8 2 sG;rw[bY]at hy IP;clear hq bB ar ih dQ hj jf KP sG hJ hM hY dq mI bY;gi_wp2;refine IP.mono ?_;rintro e W2 ⟨rfl,zh,iO⟩;rw[<-jt.o]at iO;have hWl:¬M W.heap.size:=fun h=>by have:=DT.o _ h;omega
   have pw:=(iO.same W.heap.size HL.o hWl).trans HX.o;have p2:W2.cell? ⟨W.heap.size,2,none⟩=some (.slice qa m0 qc):=ag pw 2;have As:=aA zh ((Kp.below dY.o).trans iO);clear zh iO pw IP hy;gi_wp2;clear p2;gi_loopw [19] (fun i wr=>∃k:Nat,k<=m0/\i=.int .i64 k/\J (pre ++ ([n] ++ ao (a.take k))) wr/\Kp M W wr) (fun i _=>m0 - (intOf i).toNat)
   case atStart=>exact ⟨0,aX _,rfl,by simpa[ao] using As.o.1,As.o.2⟩
   case round=>
    have qtl:=();exact qau
 |have ⟨HG,HJ⟩:=aS hY hJ;obtain ⟨p0,lA⟩:∃p0:List Str,p0=(if qv then [n] else []):=⟨_,rfl⟩;have mI:aE (.mk qv n a)=p0 ++ ao a:=by unfold aE;rw[lA];cases qv <;> rfl
  rw[mI]at dq ⊢;have nK:=ab dq;go_enter Tryz.func214,Tryz.ntmps214;cases qv
  ·simp only[bO,if_false]at lA;subst lA;exact qhB
  ·simp only[if_true]at lA;subst lA;have C1:=hY pre n _ KP (ke dq);have ⟨Au,dY⟩:=aS C1 jf;clear hq bB ar ih dQ hj jf KP hJ hM hY dq mI bY C1;go_wp2_with (rw[<-jt.o];go_at_call 213;refine Au.o.mono ?_;rintro e W2 ⟨rfl,zh,iO⟩;have hWl:¬M W.heap.size:=(fun h=>absurd (DT.o _ h) (Nat.lt_irrefl _));have pw:=(iO.same W.heap.size HL.o hWl).trans HX.o;have p2:W2.cell? ⟨W.heap.size,2,none⟩=some (.slice qa m0 qc):=ag pw 2;have As:=aA zh ((Kp.below dY.o).trans iO);clear zh iO pw hWl);clear p2;go_loopw [19] (fun i wr=>∃k:Nat,k<=m0/\i=.int .i64 k/\J (pre ++ ([n] ++ ao (a.take k))) wr/\Kp M W wr) (fun i _=>m0 - (intOf i).toNat)
   case atStart=>exact ⟨0,aX _,rfl,by simpa[ao] using As.o.1,As.o.2⟩
   case round=>
    have qtm:=();exact qau):G:=h
theorem qhC(h:G:=by
 simp only[FQ.val,TQ.val]at LN;have cR:=ab hS;clear hS;refine lF S 9 dN fun jE bV=>?_;refine c_ 0 107 (.agg #[.int .u8 q.o,.string q.n,.slice q.a q.l q.c,.slice q.b q.m q.e]) rfl (fun V hX=>by obtain ⟨g0,g1,g2,g3⟩:=f0 V hX;go_simp) bV fun S_=>?_;simp only[af];refine bw 1 108 (.pointer (some ⟨w.heap.size,1,none⟩)) rfl S_ fun Ta=>?_;simp only[af];refine c_ 2 109 (.string ⟨n.toArray⟩) rfl (fun V hX=>by obtain ⟨g0,g1⟩:=f1 V hX;go_simp) Ta fun Mt=>?_;simp only[af];refine bw 4 111 (.pointer (some ⟨w.heap.size+1+1,1,none⟩)) rfl Mt fun Tb=>?_;simp only[af]
 first
 |clear qtn;refine c_ 5 112 (.string ⟨n.toArray⟩) rfl (fun V hX=>by obtain ⟨g0,g1⟩:=f1 V hX;go_simp) Tb fun ω=>?_
  have qto:=();exact qhD
 |refine c_ 5 112 (.string ⟨m.toArray⟩) rfl (fun V hX=>by obtain ⟨g0,g1⟩:=f1 V hX;go_simp) Tb fun ω=>?_
  exact qhD):G:=h
theorem qag(h:G:=by
 obtain ⟨S,hS⟩:∃S:World->Prop,S=fun V=>Below W2.heap.size W2 V:=⟨_,rfl⟩
 first
 |clear qm2;have pp:∀ V,S V->V.cell? ⟨w.heap.size,2,none⟩=some (.slice (some ⟨b1,o1,none⟩) ql qc)/\V.cell? ⟨b1,o1+0 * 3+1,none⟩=some (.string ⟨x.toArray⟩)/\V.cell? ⟨b1,o1+1 * 3+1,none⟩=some (.string ⟨y.toArray⟩):=fun V h=>by rw[hS]at h;exact ⟨aa h (ag x2 2),aa h (aa bG c1),aa h (aa bG d1)⟩
  have qtp:=();exact qap
 |clear qtq;have qtr:=();exact qap
 |clear qts;have f0:∀ V,S V->V.cell? ⟨w.heap.size,0,none⟩=some (.int .u8 qo)/\V.cell? ⟨w.heap.size,1,none⟩=some (.string ⟨n.toArray⟩)/\V.cell? ⟨w.heap.size,2,none⟩=some (.slice qa k0 qc)/\V.cell? ⟨w.heap.size,3,none⟩=some (.slice qb m0 qe):=fun V h=>by rw[hS]at h;exact ⟨aa h (ag x0 0),aa h (ag x0 1),aa h (ag x0 2),aa h (ag x0 3)⟩
  have qtt:=();exact qap
 |clear qtu;have f0:∀ V,S V->V.cell? ⟨w.heap.size+1+1+1,3,none⟩=some (.slice ra k rc):=fun V h=>by rw[hS]at h;exact aa h (gR.cell 3)
  have qtv:=();exact qhE
 |clear qtw;have ft:∀ V,S V->V.cell? ⟨w4.heap.size,0,none⟩=some (.int .u8 go)/\V.cell? ⟨w4.heap.size,1,none⟩=some (.string gn)/\V.cell? ⟨w4.heap.size,2,none⟩=some (.slice ga gl gc)/\V.cell? ⟨w4.heap.size,3,none⟩=some (.slice gb gm ge):=fun V h=>by rw[hS]at h;exact ⟨aa h (ag Z2.o 0),aa h (ag Z2.o 1),aa h (ag Z2.o 2),aa h (ag Z2.o 3)⟩
  have fn0:∀ V,S V->V.cell? ⟨w.heap.size,1,none⟩=some (.string ⟨n.toArray⟩):=fun V h=>by rw[hS]at h;exact aa h (ag OQ.o.b0 1)
  have fm:∀ V,S V->V.cell? ⟨w.heap.size+1+1+1,1,none⟩=some (.string ⟨m.toArray⟩):=fun V h=>by rw[hS]at h;exact aa h (ag OQ.o.b2 1)
  have qtx:=();exact qap
 |clear qty;have ff:∀ V,S V->V.cell? ⟨kb,0,none⟩=some (.map (some mF))/\V.cell? ⟨w.heap.size,1,none⟩=some (.string ⟨n.toArray⟩)/\(Instr.lookup 145 (.map (some mF)) (.string ⟨n.toArray⟩) false).run Tryz.prog V=.ok (.agg #[.int .u8 g0,.string g1,.slice g2 g3 g4,.slice g5 g6 g7]) V:=fun V h=>by
   rw[hS]at h;exact ⟨aa h (ag fJ.box 0),aa h (ag x1 1),xx V (h.block _ fJ.fs.lt)⟩
  have qtz:=();exact qap
 |clear qrN;have f0:∀ V,S V->V.cell? ⟨w.heap.size,0,none⟩=some (.bool qv)/\V.cell? ⟨w.heap.size,1,none⟩=some (.string ⟨n.toArray⟩)/\V.cell? ⟨w.heap.size,2,none⟩=some (.slice qa k0 qc):=fun V h=>by rw[hS]at h;exact ⟨aa h (ag x0 0),aa h (ag x0 1),aa h (ag x0 2)⟩
  have qtA:=();exact qap
 |clear qtB;have f0:∀ V,S V->V.cell? ⟨w.heap.size+1+1,3,none⟩=some (.slice ra k rc):=fun V h=>by rw[hS]at h;exact aa h (gR.cell 3)
  exact qhE
 |clear qtC;have qtD:=();exact qhF
 |clear qtE;exact qhF
 |clear qtF
  first
  |clear qtG;have f0:∀ V,S V->V.cell? ⟨w3.heap.size+1,2,none⟩=some (.slice ra k rc):=fun V h=>by rw[hS]at h;exact aa h (gR.cell 2)
   have qtH:=();exact qc2
  |clear qtI;have f0:∀ V,S V->V.cell? ⟨w3.heap.size,2,none⟩=some (.slice ra k rc):=fun V h=>by rw[hS]at h;exact aa h (gR.cell 2)
   have qtJ:=();exact qc2
  |have f0:∀ V,S V->V.cell? ⟨w.heap.size+1+1,2,none⟩=some (.slice ra k rc):=fun V h=>by rw[hS]at h;exact aa h (gR.cell 2)
   exact qc2
 |first
  |clear qoa;have f0:∀ V,S V->V.cell? ⟨w.heap.size+1+1,2,none⟩=some (.slice gy k1 gz):=fun V h=>by rw[hS]at h;exact aa h (gR.cell 2)
   have qtK:=();exact qc7
  |clear qtL;have f0:∀ V,S V->V.cell? ⟨w.heap.size+1+1+1,2,none⟩=some (.slice gy k1 gz):=fun V h=>by rw[hS]at h;exact aa h (gR.cell 2)
   have qtM:=();exact qc7
  |have f0:∀ V,S V->V.cell? ⟨w.heap.size+1+1,2,none⟩=some (.slice ra k1 rc):=fun V h=>by rw[hS]at h;exact aa h (gR.cell 2)
   exact qc7):G:=h
theorem qhG(h:G:=by
 go_wp2_with (go_at_call 146;refine (Js.o _).mono ?_;rintro e X0 ⟨rfl,mn⟩;have ne:Below W2.heap.size W2 X0:=(by rw[fj.o];exact mn);have mC:=ab (bN ne HX.o);have nW:=ab (bN ne HY.o);have qp:=ab ((HP.o.later cv.o).later ne);have il:=ab (cv.o.trans (ne.mono cv.o.size));have z1:X0.cell? ⟨w.heap.size,1,none⟩=some (.string ⟨xn.toArray⟩):=ag mC.o 1;have z3:X0.cell? ⟨w.heap.size+1,1,none⟩=some (.string ⟨yn.toArray⟩):=ag nW.o 1;have z2:X0.cell? ⟨w.heap.size,2,none⟩=some (.slice ua k0 uc):=ag mC.o 2;clear mn ne)
 first
 |clear qtN;clear z1 z2 z3;have qtO:=();exact qhH
 |go_ret;exact ⟨az HE.o.symm,il.o⟩):G:=h
theorem qaj(h:G:=by
 obtain ⟨⟨so,sn,sa,sl,sc,sb,sm,se⟩,⟨fo,fn,fa,fl,fc,fb,fm,fe⟩,ca,cl,cc⟩:=q
 first
 |clear qtP;simp only[PlQ.cells,PlQ.val,FQ.val]at LC Af ⊢;have t0:W3.cell? ⟨w.heap.size+1,0,none⟩=some (.int .u8 qo):=ag xt 0;have qtQ:=();exact qhI
 |clear qmP;simp only[PlQ.val,PlQ.cells]at fj HC ⊢;go_enter Tryz.func163,Tryz.ntmps163;go_wp2_with (rw[<-fj.o];go_at_call 227;refine HC.o.mono ?_;rintro e w4 ⟨rfl,aR⟩;have H4:=ab aR;clear aR);go_ret;exact ⟨rfl,HB.o.tr H4.o⟩
 |clear qmV;have qtR:=();exact qhJ
 |clear qm5;simp only at hq;obtain ⟨v1,v2,h1,iu,lU⟩:=aQ.1 hq;have qrm:=();exact qah
 |clear qm6;simp only at hq;obtain ⟨v1,v2,h1,iu,lU⟩:=aQ.1 hq;have qro:=();exact qah
 |clear qnb;simp only at hq;obtain ⟨v1,v2,h1,iu,lU⟩:=aQ.1 hq;have qrq:=();exact qah
 |clear qnc;simp only[PlQ.val,PlQ.cells]at HC hB;have hs:=hO (63 :: r);have qtS:=();exact qa6
 |clear qne;simp only[PlQ.val,PlQ.cells]at Au HX jt ⊢;have c0:W1.cell? ⟨w.heap.size,0,none⟩=some (.int .u8 so):=ag HX.o.2 0;have c1:W1.cell? ⟨w.heap.size,1,none⟩=some (.string sn):=ag HX.o.2 1;have c2:W1.cell? ⟨w.heap.size,2,none⟩=some (.slice sa sl sc):=ag HX.o.2 2;have c3:W1.cell? ⟨w.heap.size,3,none⟩=some (.slice sb sm se):=ag HX.o.2 3;have c4:W1.cell? ⟨w.heap.size,4,none⟩=some (.int .u8 fo):=ag HX.o.2 4;have c5:W1.cell? ⟨w.heap.size,5,none⟩=some (.string fn):=ag HX.o.2 5;have c6:W1.cell? ⟨w.heap.size,6,none⟩=some (.slice fa fl fc):=ag HX.o.2 6;have c7:W1.cell? ⟨w.heap.size,7,none⟩=some (.slice fb fm fe):=ag HX.o.2 7;have c8:W1.cell? ⟨w.heap.size,8,none⟩=some (.slice ca cl cc):=ag HX.o.2 8;clear hv hq d_ VL rj hE hR hl zC hbd hb1 x1 bY hs sf Yr;go_enter Tryz.func125,Tryz.ntmps125;go_upto_region 1 with fail;rw[<-jt.o];go_wp2_with (first | (go_at_call 195;refine Au.o.mono ?_;rintro e w4 ⟨⟨v4,rfl,hv4⟩,aR⟩;have H4:=aA aR hv4;clear aR hv4) | (go_at_call 194;refine (lJ.o w4 v4 H4.o.1 H4.o.2).mono ?_;rintro e w5 ⟨rfl,bh⟩;have H5:=ab bh;clear bh));go_ret;exact ⟨rfl,(HX.o.1.tr H4.o.1).tr H5.o⟩
 |clear qnx;exact qhJ
 |clear qtT;simp only[PlQ.cells,PlQ.val,TQ.val]at LC Af p0 ⊢;have t0:W3.cell? ⟨w.heap.size+1,0,none⟩=some (.bool qv):=ag xt 0;exact qhI
 |simp only[PlQ.val,PlQ.cells,TQ.val]at Af HPs P0 P1 P2 P3 P4 P5 P6 P7 P8 ⊢;clear d_ qW iG qF huv iu GJ hR rj aG qB xp xt xu pJ eh i_ lN him ih dF;have CM:=iV n W3 (by omega);have t7:=ab CM;clear CM
  cases tv with
  | true=>
   cases l_:dl n with
   | true=>
    rw[l_]at t7;have qs7:=();exact qbs
   | false=>
    rw[l_]at t7;have LU:(ps.map (·.1)).contains n=(ps.reverse.map (·.1)).contains n:=by rw[ip,List.contains_iff_mem,List.contains_iff_mem];simp
    have VA:=ab (fun (w:World) (hb:Below W3.heap.size W3 w)=>Fj ⟨⟨so,sn,sa,sl,sc,sb,sm,se⟩,⟨fo,fn,fa,fl,fc,fb,fm,fe⟩,ca,cl,cc⟩ ps HG.o.1 n w (HPs.o.1.later hb));simp only[PlQ.val,PlQ.cells]at VA;rw[LU]at VA;clear LU
    cases LZ:(ps.reverse.map (·.1)).contains n with
    | true=>
     rw[LZ]at VA;have HE:=ab (show R=if xF (.mk uv n' a') (aP (bI n)) then some k.ts else none by rw[HR.o,ak (by simp[l_]),aw (by rw[LZ];rfl)]);have ⟨bb,cZ⟩:=aj (xF (.mk uv n' a') (aP (bI n)));rw[<-cZ]at HE;have Nq:=ab cZ;clear LZ cZ l_;have qs5:=();exact qcy
    | false=>
     rw[LZ]at VA;have DW:=LZ
     cases uv with
     | false=>
      have HE:=ab (show R=none by rw[HR.o,ak (by simp[l_]),ak (by rw[DW];simp),aw (by simp)]);exact qc8
     | true=>
      by_cases mt:n=n'
      ·subst mt
       by_cases o8:n1=n2
       ·skip;subst o8;have Az:(n == n)=true:=by simp
        have HE:=ab (show R=bL (ps.reverse.map (·.1)) k.ts a a' by rw[HR.o,ak (by simp[l_]),ak (by rw[DW];simp),ak (by rw[<-HN.o.1,<-HN.o.2];simp)]);clear l_ LZ DW;exact qcy
       ·have HE:=ab (show R=none by rw[HR.o,ak (by simp[l_]),ak (by rw[DW];simp),aw (by rw[<-HN.o.1,<-HN.o.2];simp[o8])]);have qtU:=();exact qhK
      ·have Az:(n == n')=false:=by simp[mt]
       have HE:=ab (show R=none by rw[HR.o,ak (by simp[l_]),ak (by rw[DW];simp),aw (by simp[mt])]);exact qc8
  | false=>
   cases uv with
   | true=>
    have HE:=ab (show R=none by rw[HR.o,ak (by simp),ak (by simp),aw (by simp)]);exact qc9
   | false=>
    by_cases mt:n=n'
    ·subst mt
     by_cases o8:n1=n2
     ·skip;subst o8;have Az:(n == n)=true:=by simp
      have HE:=ab (show R=bL (ps.reverse.map (·.1)) k.ts a a' by rw[HR.o,ak (by simp),ak (by simp),ak (by rw[<-HN.o.1,<-HN.o.2];simp)]);rw[Af.o]at e0 e1 e2 f0 f1 f2;exact qbs
     ·have HE:=ab (show R=none by rw[HR.o,ak (by simp),ak (by simp),aw (by rw[<-HN.o.1,<-HN.o.2];simp[o8])]);exact qhK
    ·have Az:(n == n')=false:=by simp[mt]
     have HE:=ab (show R=none by rw[HR.o,ak (by simp),ak (by simp),aw (by simp[mt])]);exact qc9):G:=h
theorem qf1(h:G:=by
 simp only[ae]at De;have hns:nodesF s<=400:=by have:=De.1;unfold fM at this;simp only[ae,br]at this;exact this.2.1
 have KQ:¬M (wq.heap.size+1+1):=fun h=>by have:=Wg _ h;omega
 have _N:¬M (wq.heap.size+1+1+1):=fun h=>by have:=Wg _ h;omega
 have nH:=nj s f lN.2 (by omega) M m8.heap.size (wq.heap.size+1+1) (wq.heap.size+1+1+1) m8 ⟨a0,a1,a2,a3,a4,a5,a6,a7⟩ ⟨b0,b1,b2,b3,b4,b5,b6,b7⟩ xX KQ xY _N lU r_;have hMr:M (K0+1)/\M (K0+1+1)/\M aB/\M (aB+1)/\¬M (K0+1+1+1):=by rw[HM.o];have:=mo.o.2.1;omega
 have SU:=bN ia Iq;have SV:=bN ia fC
 first
 |clear qpX;have SW:m8.heap[wr.heap.size]?=some (.cells #[(.func (.func 47) #[.pointer (some ⟨K0+1+1+1,0,none⟩)] #[])] 82 (0,0)):=(ia.block _ (by omega)).trans ((bi.same _ (by omega) (fun h=>by have:=Wg _ h;omega)).trans uR.o.1);have qtV:=();exact qhk
 |have SW:m8.heap[wr.heap.size]?=some (.cells #[(.func (.func 48) #[.pointer (some ⟨K0+1+1+1,0,none⟩)] #[])] 82 (0,0)):=(ia.block _ (by omega)).trans ((bi.same _ (by omega) (fun h=>by have:=Wg _ h;omega)).trans uR.o.1);exact qhk):G:=h
theorem qhL(h:G:=by
 have qtW:=();exact qhM):G:=h
theorem qgW(h:G:=by
 have SI:=(Hg.same _ (by have:=(bA H9.o.2.2.2);have:=mo.o.2.1.size;omega) (by have:=HT7.o;omega)).trans (bN mo.o.2.1 H9.o.2.2.2);obtain ⟨j0,j1,j2,j3,_,_,_,_⟩:=dc SI;have hrv:FormV (fun b=>W9.heap.size<=b) wH (FQ.val ⟨r0,r1,r2,r3,r4,r5,r6,r7⟩) (e9 dm t f):=mo.o.1.move (fun b hb hlt=>⟨hb,Hg.same b hlt (by omega)⟩);have hiv:FormV (fun b=>¬M b/\b≠W1.heap.size) wH (FQ.val ⟨p0,p1,p2,p3,p4,p5,p6,p7⟩) im:=(nD.o.2.2.2.2.2.1.later CZ).move (fun b hb hlt=>⟨hb,Hg.same b hlt hb.2⟩);have C0:=nD.o.2.2.2.1.later CZ
 first
 |clear qrT;have ws:KnV (fun b=>¬M b) goodF goodT wH kb mF mT nF (nT) ({ k with ts:=k.ts }):=C0.move (fun b hb hlt=>⟨hb.1,Hg.same b hlt hb.2⟩) (Hg.same _ C0.ltb (by have:=zg.o.1;omega)) (Hg.same _ C0.fs.lt (by have:=zg.o.2.1;omega)) (Hg.same _ C0.ts.lt (by have:=zg.o.2.2.1;omega))
  have qsY:=();exact qht
 |have ws:KnV (fun b=>¬M b) goodF goodT wH kb mF mT nF (nT+1) (⟨k.fs,g_ y t k.ts⟩):=C0.move (fun b hb hlt=>⟨hb.1,Hg.same b hlt hb.2⟩) (Hg.same _ C0.ltb (by have:=zg.o.1;omega)) (Hg.same _ C0.fs.lt (by have:=zg.o.2.1;omega)) (Hg.same _ C0.ts.lt (by have:=zg.o.2.2.1;omega))
  exact qht):G:=h
theorem qda(h:G:=by
 obtain ⟨s1,h1,iu⟩:=aM.1 hq;obtain ⟨tv,tn,ta,tl,tc⟩:=q;exact qcx):G:=h
theorem qhN(h:G:=by
 have hx9:(w8.alloc (.cells #[.int .u8 po,.string pn,.slice pa pl pc,.slice pb pm pe] 36)).heap[w8.heap.size]?=some (.cells #[.int .u8 po,.string pn,.slice pa pl pc,.slice pb pm pe] 36 (0,0)):=ah rfl;have ⟨W9,sK⟩:=aj ((w8.alloc (.cells #[.int .u8 po,.string pn,.slice pa pl pc,.slice pb pm pe] 36)).setCell ⟨w.heap.size+1+1+1,3,none⟩ (.slice (some ⟨w8.heap.size,0,none⟩) 1 1));have nM:=vS.setR 3 (.slice (some ⟨w8.heap.size,0,none⟩) 1 1);rw[<-sK]at nM
 first
 |clear qtX;have XX:W9.heap[w8.heap.size]?=some (.cells #[.int .u8 po,.string pn,.slice pa pl pc,.slice pb pm pe] 36 (0,0)):=by rw[sK];exact (eC _ _ _ _ (by have:=(GE.o.later iA).lt;simp <;> omega)).trans hx9
  have XR:FormV (w7.heap.size<=·) W9 (FQ.val ⟨po,pn,pa,pl,pc,pb,pm,pe⟩) (fI kk nx z g):=by
   rw[sK];exact XW.move (fun b hok hlt=>⟨hok,(eC _ _ _ _ (by have:=GE.o.lt;simp <;> omega)).trans (mz.block b hlt)⟩)
  have BN:FormV (w7.heap.size<=·) W9 (FQ.val ⟨qo,⟨n.toArray⟩,gy,0,gz,some ⟨w8.heap.size,0,none⟩,1,1⟩) (.mk qo n [] [fI kk nx z g]):=aQ.2 ⟨_,_,rfl,cm,r' XR (by omega) XX⟩;have qtY:=();exact qhO
 |have XX:W9.heap[w8.heap.size]?=some (.cells #[.int .u8 po,.string pn,.slice pa pl pc,.slice pb pm pe] 36 (0,0)):=by rw[sK];exact (eC _ _ _ _ (by have:=(vT.o.later iA).lt;simp <;> omega)).trans hx9
  have XR:FormV (m8.heap.size<=·) W9 (FQ.val ⟨po,pn,pa,pl,pc,pb,pm,pe⟩) (fI kk nx z G2):=by
   rw[sK];exact XW.move (fun b hok hlt=>⟨hok,(eC _ _ _ _ (by have:=vT.o.lt;simp <;> omega)).trans (mz.block b hlt)⟩)
  have BN:FormV (m8.heap.size<=·) W9 (FQ.val ⟨qo,⟨m.toArray⟩,gy,0,gz,some ⟨w8.heap.size,0,none⟩,1,1⟩) (.mk qo m [] [fI kk nx z G2]):=aQ.2 ⟨_,_,rfl,cm,r' XR (by omega) XX⟩;exact qhO):G:=h
theorem qc7(h:G:=by
 have f1:∀ V,S V->V.cell? ⟨Gz.heap.size,0,none⟩=some (.bool u.v)/\V.cell? ⟨Gz.heap.size,1,none⟩=some (.string u.n)/\V.cell? ⟨Gz.heap.size,2,none⟩=some (.slice u.a u.l u.c):=fun V h=>by rw[hS]at h;exact ⟨aa h (ag xb 0),aa h (ag xb 1),aa h (ag xb 2)⟩
 first
 |clear qtK;have qtZ:=();exact qap
 |clear qtM;have xu:=gR.other (by omega) HXU.o;exact qhP
 |have dN:S W2.drew:=by rw[hS];exact (ai _ _).drew
  have qt0:=();exact qbH):G:=h
theorem qaz(h:G:=by
 obtain ⟨k,hk,rfl,dx,ht⟩:=hrel
 by_cases hlt:k<k0
 first
 |clear qhQ
  ·have bj:=cb du.o hlt;have kK:=cb gt.o hlt;have aq:=cv.o.trans (dx.mono (by omega));have qrc:=();exact qaY
  ·obtain rfl:k=k0:=by omega
   exact qhR
 |clear qt1
  ·have bj:=cb du.o hlt;have kK:=cb gt.o hlt;have aq:=cv.o.trans (dx.mono (by omega));exact qaY
  ·obtain rfl:k=k0:=by omega
   exact qhR
 |clear qt2
  ·have bj:=cb du.o hlt;exact qdb
  ·obtain rfl:k0=k:=by omega
   have qt3:=();exact qhS
 |clear qt4
  ·have bj:=cb du.o hlt;exact qdb
  ·obtain rfl:k0=k:=by omega
   have NE:=ab (show R=cJ (ps ++ [(xn,xn)]).reverse xs ys by rw[ht,gT (by rw[du.o];exact aC _)];simp[cf]);have qp0:=();exact qaV
 |clear qt5
  ·have bj:=cb du.o hlt;exact qdb
  ·obtain rfl:k0=k:=by omega
   have qt6:=();exact qhT
 |clear qt7
  ·have bj:=cb du.o hlt;have kK:=cb gt.o hlt;have aq:=il.o.trans (dx.mono il.o.size);have qgC:=();exact qaY
  ·obtain rfl:k0=k:=by omega
   exact qhS
 |·have bj:=cb du.o hlt;have kK:=cb gt.o hlt;have aq:=il.o.trans (dx.mono il.o.size);have qgC:=();exact qaY
  ·obtain rfl:k0=k:=by omega
   exact qhT):G:=h
theorem qbI(h:G:=by
 have CI:=ab (fun w3 (h3:Kp (fun c=>c=J) w w3)=>aT ▸ (du.o ▸ mu a RZ.o ok qa _ qc w3 (dT.o.move (fun b hb hlt=>⟨hb,h3.same b hlt (ko.o b hb)⟩))))
 first
 |clear qhU;have HE:Hd (BX=false):=ab (hM.trans (by simp[aT]));clear hM tN p9 DY;have qoO:=();exact qak
 |clear qt8;rw[aT]at hM;simp only[Bool.or_true,dz]at hM;exact qhV
 |rw[aT]at hM;simp only[Bool.or_true,dz]at hM;exact qhW):G:=h
theorem qhX(h:G:=by
 have ⟨HR,HC,lj⟩:=cE hrel fR bi;clear hrel fR cZ pt Gj IM js nO ha hb hc hj bi hu gI c0 c1 c2 c3;go_wp2_with (go_at_call 64;refine HC.o.mono ?_;rintro e w6 ⟨rfl,n8,l6,C8,Hh,pU,kO⟩;have rG:=bx n8 C8 (kO rfl);clear n8 C8 Hh pU kO);exact qhY):G:=h
theorem qhZ(h:G:=by
 have qt9:=();exact qbu):G:=h
theorem qhb(h:G:=by
 clear hp cF bh y7 xR xT xR2 kR Nv;refine b_ 9 rfl fun K hK=>?_;go_simp;refine eK hK ?_;clear hK K;refine b_ 10 rfl fun K hK=>?_;go_simp;refine eK hK ?_;clear hK K r3 rz;refine ku ?_;have ⟨W9,sK⟩:=aj (W7.setCell ⟨w.heap.size+1+1,3,none⟩ (.slice (some ⟨w6.heap.size,0,none⟩) 1 1));have Δ:=vV.o.1;have PG:=vV.o.2.1;rw[<-sK]at Δ PG ⊢;have zeb:=Td.o.1.size;have Ε:=(PG.same _ (bA vV.o.2.2) (by omega)).trans vV.o.2.2;have y9:=(PG.same _ (bA Td.o.2.1) (by omega)).trans Td.o.2.1
 first
 |clear qsb;have hF9:FormV (W1.heap.size<=·) W9 (FQ.val ⟨p0,p1,p2,p3,p4,p5,p6,p7⟩) (e9 (bI n) (aP n) G):=(HPp.o.later Td.o.2.2).move (fun b hb hlt=>⟨by have h:wq.heap.size<=b:=hb;omega,PG.same b hlt (by have h:wq.heap.size<=b:=hb;omega)⟩);have BN:FormV (W1.heap.size<=·) W9 (FQ.val ⟨so,⟨n.toArray⟩,gy,0,gz,some ⟨w6.heap.size,0,none⟩,1,1⟩) (.mk so n [] [e9 (bI n) (aP n) G]):=aQ.2 ⟨_,_,rfl,cm,r' hF9 (by omega) y9⟩;have qua:=();exact qh0
 |have hF9:FormV (W1.heap.size<=·) W9 (FQ.val ⟨p0,p1,p2,p3,p4,p5,p6,p7⟩) (e9 (bI n) (aP m) G):=(HPp.o.later Td.o.2.2).move (fun b hb hlt=>⟨by have h:wq.heap.size<=b:=hb;omega,PG.same b hlt (by have h:wq.heap.size<=b:=hb;omega)⟩);have BN:FormV (W1.heap.size<=·) W9 (FQ.val ⟨so,⟨m.toArray⟩,gy,0,gz,some ⟨w6.heap.size,0,none⟩,1,1⟩) (.mk so m [] [e9 (bI n) (aP m) G]):=aQ.2 ⟨_,_,rfl,cm,r' hF9 (by omega) y9⟩;exact qh0):G:=h
theorem qh1(h:G:=by
 have bZ:Below wr.heap.size wr A:=((ai wr.heap.size wr).drew).trans hA;have qub:=();exact qar):G:=h
theorem qfC(h:G:=by
 obtain ⟨uv,un,ua,ul,uc⟩:=u;have ⟨W2,aZ⟩:=aj (wr.alloc (.cells #[.bool uv,.string un,.slice ua ul uc] 43));have bG:=cM aZ;have Ag:=bS aZ;have u0:W2.cell? ⟨wr.heap.size,0,none⟩=some (.bool uv):=ag Ag 0;have quc:=();exact qh2):G:=h
theorem qh3(h:G:=by
 go_roundw
 case rel=>
  obtain ⟨aO,am,hg,_⟩:=HG.o;have cD:=fh.o.stepF (F:=3) (t:=u') (p:=⟨po,pn,pa,pl,pc,pb,pm,pe⟩) (g:=g) (cap:=eF) (by rw[vK.o.2];exact BI.o.2.1) (by rw[vK.o.2];exact BI.o.1) BI.o.2.2 LD.o.2 LD.o.1 (by rw[vK.o.2];exact aO) am (by rcases hg with h | h;exact .inl h;exact .inr (by simp;omega)) rfl;rw[vK.o.2]at cD;exact qh4
 case measure=>simp[intOf];omega):G:=h
theorem qck(h:G:=by
 have c0:W.cell? ⟨X,0,none⟩=some (.int .u8 q.o):=ag z' 0;have qud:=();exact qh5):G:=h
theorem qdc(h:G:=by
 have qD:=PairsV.own au;have z5:X5.cell? ⟨w.heap.size,3,none⟩=some (.slice ub k1 ue):=ag R1 3;clear mC nW il qp z3;have ⟨mC,nW,il,qp⟩:=eD R1 Yh zt qD;clear R1 Yh zt qD au am m7 xw hold;refine eK hK ?_;clear hK K;refine b_ 13 rfl fun K hK=>?_
 first
 |clear que;have qqW:=();exact qaa
 |clear quf;have qqY:=();exact qaa
 |have qq0:=();exact qaa):G:=h
theorem qgI(h:G:=by
 go_loopw [79] (fun i wr=>∃k:Nat,k<=m0/\i=.int .i64 k/\Kp (fun c=>c=J) w wr/\JAt J sc (left - 1 - nodesTs a - nodesFs (s.take k)) bz wr/\dt sc (s.take k)=true/\(nodesFs (s.take k):Int)<=left - 1 - nodesTs a/\bc+1+aV (s.take k)<=bz+1) (fun i _=>m0 - (intOf i).toNat)
 case atStart=>exact ⟨0,aX _,rfl,HA.o.1,by simpa[nodesFs] using HA.o.2,by simp[dt],by simp[nodesFs];omega,by simp[aV];omega⟩
 case round=>
  have qq5:=();exact qcN):G:=h
theorem qaK(h:G:=by
 simp only[af];refine b_ 7 rfl fun K hK=>?_;have qug:=();exact qdd):G:=h
theorem qgS(h:G:=by
 simp only[af];refine bw 14 57 (.func (.yield l) #[] #[]) rfl RP fun Z'=>?_;simp only[af];refine b_ 15 rfl fun K hK=>?_;go_simp;refine aH.2 (HC.o.mono ?_);rintro e w3 (⟨rfl,qK,jr⟩ | ⟨rfl,RQ⟩)
 ·refine eK hK ?_;clear hK K;have HH:=aA qK jr;clear qK jr;refine b_ 16 rfl fun K hK=>?_;have qqU:=();exact qaa
 ·refine eK hK ?_;clear hK K;have HH:=ab RQ;clear RQ;refine b_ 16 rfl fun K hK=>?_;have qqV:=();exact qaa):G:=h
theorem qhF(h:G:=by
 have ff:∀ V,S V->V.cell? ⟨kb,0,none⟩=some (.map (some mF))/\V.cell? ⟨w.heap.size+1,1,none⟩=some (.string ⟨n.toArray⟩)/\(Instr.lookup 145 (.map (some mF)) (.string ⟨n.toArray⟩) false).run Tryz.prog V=.ok (.agg #[.int .u8 g0,.string g1,.slice g2 g3 g4,.slice g5 g6 g7]) V:=fun V h=>by
  rw[hS]at h;exact ⟨aa h (ag H2.o.2.2.box 0),aa h e1,xx V (h.block _ ro)⟩
 have quh:=();exact qap):G:=h
theorem qcS(h:G:=by
 obtain rfl:=iu.len;obtain rfl:=lU.len;have ma:=CO (iD _ hs);have qui:=();exact qh6):G:=h
theorem qbJ(h:G:=by
 rw[<-hU]at CC eW gV;have lJ:=ab CC;have vK:=aA eW Ek;have BH:=ab gV;obtain ⟨qs,eu,au,gd⟩:=gR.row;rw[Ek]at eu au;have BI:=bx eu au gd;have fh:=ab gR;have cz:=aA aq bG
 first
 |clear quj;have quk:=();exact qh7
 |clear qul;exact qh7
 |clear qum;rw[aZ]at lJ u0 u1 u2 P0 P1 P2 P3 P4 P5 P6 P7 P8;have qun:=();exact qh8
 |rw[aZ]at lJ u0 u1 u2 P0 P1 P2 P3 P4 P5 P6 P7 P8;exact qh8):G:=h
theorem qhg(h:G:=by
 go_wp2_with (first | (go_at_call 115;refine C1.o.mono ?_;rintro e w' ⟨rfl,nJ⟩;obtain rfl:=nJ.symm) | (go_at_call 121;refine (CF.o _).mono ?_;rintro e w3 ⟨rfl,aG⟩;have j2:=aa aG g2;have bD:=ab aG;clear aG) | (go_at_call 118;refine (CJ.o _ bD.o).mono ?_;rintro e w4 ⟨rfl,kD,l4,hj4,IC,QX,IN⟩;have HH:=fG kD hj4 IC QX IN;clear kD hj4 IC QX IN));go_ret
 first
 |clear qsu;have h7:=HH.o.2.2.2.2 trivial;have qW:(nodesTs a:Int)<=left - 1:=by have:=HH.o.2.2.1;have h8:=HE.o;rw[ae,ae,br]at h8;have:nodesT (.mk false n a)=nodesTs a+1:=rfl;omega
  refine JPost.yes HE.o ((pu.o.1.trans (Kp.below bD.o)).trans HH.o.1) ?_ (by show ((nodesTs a+1:Nat):Int)<=left;omega);have h9:=HH.o.2.1;have:l4=left - (nodesT (.mk false n a):Nat):=by show l4=left - ((nodesTs a+1:Nat):Int);omega
  rw[<-this];exact h9
 |exact JPost.no HE.o ((pu.o.1.trans (Kp.below bD.o)).trans HH.o.1) HH.o.2.1 HH.o.2.2.1 (by have:=HH.o.2.2.2.1;omega)):G:=h
theorem qcl(h:G:=by
 refine eB (B:=w.heap.size) (Marks.nil _ _) (fun w' hn=>?_);have h0:=hn.cell g0;have h1:=hn.cell g1
 first
 |clear qnB;refine ⟨.tuple #[.agg #[.slice none 0 0,.slice none 0 0],.int .i64 0,.int .i64 2],by simp[results,Tryz.results15,go_sem,h0,h1],⟨⟨⟨none,0,0,none,0,0⟩,by (rw[HE.o];try rfl),by rw[HE.o];exact o6⟩,jN uC hn⟩⟩
 |refine ⟨.tuple #[.agg #[.slice none 0 0,.slice none 0 0],.int .i64 (j:Int),.int .i64 2],by simp[results,Tryz.results15,go_sem,h0,h1],⟨⟨⟨none,0,0,none,0,0⟩,by (rw[HE.o];try rfl),by rw[HE.o];exact o6⟩,jN uC hn⟩⟩):G:=h
theorem qde(h:G:=by
 refine dK rfl rfl jx rfl (fun a γ wz aT=>⟨rfl,.slice la l0 lc,γ,wz,?_,Gr.refl,fun _ _ h=>h,?_⟩)
 ·have e2:a.tmps.getD 2 undef=.slice la l0 lc:=aW ((aT.ou 2 rfl).trans rfl);go_simp
 ·rw[ju];exact rfl):G:=h
theorem qex(h:G:=by
 rcases h1 with ⟨rfl,h0⟩ | ⟨g,cap,cur,rfl,hlo,hb,hc,_,_,ht⟩
 ·obtain rfl:l=[]:=j6 h0;exact ⟨none,0,rfl,aC _,.inl rfl⟩
 ·refine ⟨_,cap,rfl,hc,.inr ⟨g,0,rfl,hlo,fun j hj=>?_⟩⟩;rw[Nat.zero_add,aF hb];have h2:(cur.toList.take (l.length * 1))[j]?=(l.map encStr)[j]?:=by rw[ht]
  rw[List.getElem?_take_of_lt (by omega),List.getElem?_map,io hj]at h2;rw[<-Array.getElem?_toList,h2];rfl):G:=h
theorem qh9(h:G:=by
 have HF:=ab (HE.o.trans kC);have ⟨HC,lj⟩:=aS fR bi;clear kC fR cZ Gj IM js nO ha hb hc hj bi hu gI c0 c1 c2 c3;go_wp2_with (go_at_call 64;refine HC.o.mono ?_;rintro e w6 ⟨rfl,n8,l6,C8,Hh,pU,kO⟩;have rG:=cq n8 C8 Hh pU;clear n8 C8 Hh pU kO);go_ret;exact JPost.no HF.o (lj.o.trans ((Kp.below cI).trans rG.o.1)) rG.o.2.1 rG.o.2.2.1 (by have:=rG.o.2.2.2;omega)):G:=h
theorem qbf(h:G:=by
 have hs:=hA.size;have xh:=am.size;simp only[World.size_alloc]at xh;have hx:=(h.at4 (kk:=F) au hA am).1;refine ⟨by rw[bp hx,ze],?_,h.kp5 au hA am,h.lt,h.base⟩
 first
 |clear qlS;have h4:RowT lo (.slice (some ⟨g,0,none⟩) (ts.length+1) cap) (ts ++ [t]) w4:=RowT.step eu hA h.size gd (fun b hb=>(au.lt b hb).2) hp aO
   (fun c _ hc hn=>(am.block c (by simp;omega) (fun e=>hn e.symm)).trans (bH _ _ _ (by omega))) (by rcases hg with h | h;exact .inl h;exact .inr (by omega))
  exact qbK
 |clear qlT;have h4:RowF lo (.slice (some ⟨g,0,none⟩) (ts.length+1) cap) (ts ++ [t]) w4:=RowF.step eu hA h.size gd (fun b hb=>(au.lt b hb).2) hp aO
   (fun c _ hc hn=>(am.block c (by simp;omega) (fun e=>hn e.symm)).trans (bH _ _ _ (by omega))) (by rcases hg with h | h;exact .inl h;exact .inr (by omega))
  exact qbK
 |clear qns;have h4:RowFB lo (.slice (some ⟨g,0,none⟩) (ts.length+1) cap) (ts ++ [(x,t)]) w4:=RowFB.step eu hA h.size gd (fun b hb=>(au.lt b hb).2) hp aO
   (fun c _ hc hn=>(am.block c (by simp;omega) (fun e=>hn e.symm)).trans (bH _ _ _ (by omega))) (by rcases hg with h | h;exact .inl h;exact .inr (by omega))
  exact qbK
 |have h4:RowTB lo (.slice (some ⟨g,0,none⟩) (ts.length+1) cap) (ts ++ [(x,t)]) w4:=RowTB.step eu hA h.size gd (fun b hb=>(au.lt b hb).2) hp aO
   (fun c _ hc hn=>(am.block c (by simp;omega) (fun e=>hn e.symm)).trans (bH _ _ _ (by omega))) (by rcases hg with h | h;exact .inl h;exact .inr (by omega))
  exact qbK):G:=h
theorem qia(h:G:=by
 have quo:=();exact qib):G:=h
theorem qaJ(h:G:=by
 have ⟨W5,e_⟩:=aj (wr.alloc (.cells #[.bool xv,.string xn,.slice xa xl xc] 43));have bh:=cM e_
 first
 |clear qox;have CC:=GX W2 _ kb mF mT nF nT k H2.o.2.2 a[j] (HQ.o.2.2.2.1.mem (ap gZ)) _ W5 ⟨xv,xn,xa,xl,xc⟩ (aq.tr bh) ((hx.later aq).later bh);simp only[TQ.val]at CC;have ⟨m0,dQ⟩:=aj (ew k.ts (a.take j)+1);have ⟨m2,sO⟩:=aj (qR k.ts a[j]);have cD:=ru (k:=k.ts) gZ;have Ei:=sh (fun x hx=>lr H2.o.2.2 (x:=x) hx) (a.take (j+1)) (si HQ.o.2.2.2.1.2 _);have vR:=gN (a:=a) (j:=j+1);have L7:=RV.o;rw[<-sO]at CC;have qup:=();exact qic
 |clear quq;have x6:=bS e_;have xA:=bN bh UG;have _b:=bN bh _a;have qur:=();exact qaS
 |clear qus;have CC:=EE W2 _ kb mF mT nF nT k H2.o.2.2 a[j] (HQ.o.2.2.2.1.mem (ap gZ)) (by have:=uh (ap gZ);have:=RV.o;omega) _ W5 ⟨xv,xn,xa,xl,xc⟩ (aq.tr bh) ((hx.later yr).later bh);simp only[TQ.val]at CC;have gO:=pO (k:=k.ts) gZ;have Ei:=pP (fun x hx=>lr H2.o.2.2 (x:=x) hx) (a.take (j+1)) (si HQ.o.2.2.2.1.2 _);have vR:=gN (a:=a) (j:=j+1);have L7:=RV.o;have qut:=();exact qid
 |clear quu;have CC:=fd.o a[j] (ap gZ) (Yl.o.mem (ap gZ)) _ W5 ⟨xv,xn,xa,xl,xc⟩ (((H1.o.2.2.tr yr)).tr bh) ((hx.later yr).later bh);simp only[TQ.val]at CC;have ⟨m0,dQ⟩:=aj (ew k.ts (a.take j)+1);have ⟨m2,iI⟩:=aj (qR k.ts a[j]);have cD:=ru (k:=k.ts) gZ;have Ei:=sh Va.o (a.take (j+1)) (si Yl.o.2 _);have vR:=gN (a:=a) (j:=j+1);have L7:=Yl.o.1;rw[<-iI]at CC;exact qic
 |clear quv;have CC:=fd.o a[j] (ap gZ) (Yl.o.mem (ap gZ)) (by have:=uh (ap gZ);have:=HSm.o;omega) _ W5 ⟨xv,xn,xa,xl,xc⟩ (((H1.o.2.2.tr yr)).tr bh) ((hx.later yr).later bh);simp only[TQ.val]at CC;have gO:=pO (k:=k.ts) gZ;have Ei:=pP Va.o (a.take (j+1)) (si Yl.o.2 _);have vR:=gN (a:=a) (j:=j+1);have L7:=HSm.o;exact qid
 |have x5:=bS e_;have R2:=bN bh UG;have x65:=bN bh x6w;have quw:=();exact qaS):G:=h
theorem qdf(h:G:=by
 refine bK (v:=FQ.val ⟨p0,p1,p2,p3,p4,p5,p6,p7⟩) (by simp[FQ.val,results,Tryz.results72,go_sem,g0,g1,g2,g3]) rfl ⟨⟨⟨p0,p1,p2,p3,p4,p5,p6,p7⟩,rfl,?_⟩,wK.2⟩
 first
 |clear qux;rw[HB.o.2.2.2.2];exact wK.1
 |rw[HR5.o];exact wK.1):G:=h
theorem qhf(h:G:=by
 go_wp2_with (first | (go_at_call 115;refine C1.o.mono ?_;rintro e w' ⟨rfl,rfl⟩) | (go_at_call 152;refine (CV.o _).mono ?_;rintro e w3 ⟨rfl,aG⟩;have j0:=(pu.o.2.1.later aG).c0;have j1:=aa aG g1;have bD:=ab aG;clear aG) | (go_at_call 186;refine (CT.o _).mono ?_;rintro e w4 ⟨rfl,aR⟩;have eG:=ab aR;clear aR));go_ret
 first
 |clear qsr;exact JPost.yes HE.o ((pu.o.1.trans (Kp.below bD.o)).trans (Kp.below eG.o)) ((pu.o.2.1.later bD.o).later eG.o) (by show ((1:Nat):Int)<=left;omega)
 |exact JPost.no HE.o ((pu.o.1.trans (Kp.below bD.o)).trans (Kp.below eG.o)) ((pu.o.2.1.later bD.o).later eG.o) (by omega) (by omega)):G:=h
theorem qen(h:G:=by
 have hz:=Qv.o;exact ⟨hk.os.trans dY.o.os,hk.tape.trans dY.o.tape,hk.output.trans dY.o.output,aN dY.o.size hk.size,fun b hb=>(hk.same b (by omega) (by omega)).trans (dY.o.block b hb)⟩):G:=h
theorem qhW(h:G:=by
 have CT:=ab (fun w3 (h3:Kp (fun c=>c=J) w w3) (j3:JAt J true (left - 1) bz w3)=>du.o ▸ vh a UJ.o ok J true (left - 1) bz (bc+1) w3 qa _ qc (dT.o.move (fun b hb hlt=>⟨hb,h3.same b hlt (ko.o b hb)⟩)) ko.o j3 (by omega) (by omega) hde (by omega) (by omega) (by omega));have ⟨bb,cZ⟩:=aj (d9 true a && (decide ((nodesTs a:Int)<=left - 1) && decide (bc+1+bE a<=bz+1)));rw[<-cZ]at CT hM
 first
 |clear quy
  cases bb with
  | false=>
   have qie:=();exact qaD
  | true=>
   have quz:=();exact qbL
 |cases bb with
  | false=>
   exact qaD
  | true=>
   have quA:=();exact qbL):G:=h
theorem qay(h:G:=by
 have g1:W6.cell? ⟨w.heap.size+1,1,none⟩=some (.string ⟨n.toArray⟩):=ag x6 1
 first
 |clear quB;have quC:=();exact qbM
 |clear qqs;have quD:=();exact qbM
 |clear quE;have quF:=();exact qif
 |clear quG;exact qif
 |clear quH;exact qbM
 |clear quI;have g2:W6.cell? ⟨w.heap.size+1,2,none⟩=some (.slice gy k1 gz):=ag x6 2;have quJ:=();exact qig
 |clear quK;have quL:=();exact qih
 |have g2:W6.cell? ⟨w.heap.size+1,2,none⟩=some (.slice gy k1 gz):=ag x6 2;exact qig):G:=h
theorem qii(h:G:=by
 by_cases hv:uv=vv
 ·subst hv;have kK:¬k0=m0:=fun h=>Ed ⟨rfl,h⟩;have e1:((k0:Int) == (m0:Int))=false:=by simp;omega
  have e2:((k0:Int) != (m0:Int))=true:=by simp;omega
  cases uv <;> (go_wp2;rw[<-fj.o];go_ret;exact ⟨az HE.o.symm,cv.o⟩)
 ·cases uv <;> cases vv <;> first | exact absurd rfl hv | (go_wp2;rw[<-fj.o];go_ret;exact ⟨az HE.o.symm,cv.o⟩)):G:=h
theorem qij(h:G:=by
 simp only[PlQ.val,PlQ.cells]at VA;have ⟨HC,HSu⟩:=aS VA js;have lj:=aA bi hkd;clear hu hv vj VA js hj bi hkd zw jD hS c0 c1 c2 c3 e0 e1 e2 e3 d0 d1 d2 d3 g0 g1 g2 g3;gi_wp2;refine lF S 15 dN fun jE bV=>?_;refine bw 0 43 (.pointer (some ⟨W.heap.size,0,none⟩)) rfl bV fun cB=>?_;simp only[af];refine bw 1 44 (.pointer (some ⟨W.heap.size,3,none⟩)) rfl cB fun fB=>?_;simp only[af]
 first
 |clear quM;have qrP:=();exact qgR
 |exact qgR):G:=h
theorem qik(h:G:=by
 have ⟨HC,Xc⟩:=aS CC aq;have HS:=aA Dx L9;clear hu hcut CC YV Dx hM aq c0 c1 c2 c3;go_wp2_with (go_at_call 23;refine HC.o.mono ?_;rintro e w4 ⟨rfl,aR⟩;have eG:=ab aR;clear aR);go_roundw
 case rel=>exact ⟨k+1,m+M,by omega,by go_num,by go_num,Xc.o.trans (eG.o.mono Xc.o.size),HS.o.1,HS.o.2⟩
 case measure=>simp[intOf];omega):G:=h
theorem qhV(h:G:=by
 have CT:=ab (fun w3 (h3:Kp (fun c=>c=J) w w3) (j3:JAt J sc (left - 1) bz w3)=>du.o ▸ vh a UJ.o ok J sc (left - 1) bz (bc+1) w3 qa _ qc (dT.o.move (fun b hb hlt=>⟨hb,h3.same b hlt (ko.o b hb)⟩)) ko.o j3 (by omega) (by omega) hde (by omega) (by omega) (by omega));exact qgM):G:=h
theorem qeP(h:G:=by
 refine ⟨fun h0=>(by rw[hr]at h0;cases h0),fun k hk=>?_⟩;rw[hr]at hk;simp only[cG,List.not_mem_nil,or_false]at hk;rcases hk with rfl | rfl
 ·refine wpOpIn_step hi (fun K' Gc=>?_);rw[aw hwi];exact h1 K' (fun a w hS hW=>Gc a w ⟨hS,hW hS⟩)
 ·refine wpOpIn_step hj (fun K' Gc=>?_);rw[aw hwj];exact h2 K' (fun a w hS hW=>Gc a w ⟨hS,hW hS⟩)):G:=h
theorem qil(h:G:=by
 have ek:=hfs.len;have Gw:=hp.cap;have hm:=Fv ps.reverse uo vo xn yn xa ya xs ys;have ⟨R,hR⟩:=aj (cg ps.reverse (.mk uo xn xa xs) (.mk vo yn ya ys));rw[<-hR]at hm ⊢;have Jr:=wh uo xn xa xs;have ⟨D,hD⟩:=aj (eI (.mk uo xn xa xs));rw[<-hD]at Jr iG;have ⟨k0,cd⟩:=aj xa.length;have ⟨m0,dQ⟩:=aj ya.length;have ⟨k1,kt⟩:=aj xs.length;have ⟨m1,iI⟩:=aj ys.length
 first
 |clear quN;have qrQ:=();exact qgT
 |exact qgT):G:=h
theorem qhP(h:G:=by
 have fu:∀ V,S V->V.cell? ⟨w.heap.size+1,0,none⟩=some (.bool zv)/\V.cell? ⟨w.heap.size+1,1,none⟩=some (.string zn)/\V.cell? ⟨w.heap.size+1,2,none⟩=some (.slice za zl zc):=fun V h=>by rw[hS]at h;exact ⟨aa h (ag xu 0),aa h (ag xu 1),aa h (ag xu 2)⟩
 clear xu;exact qap):G:=h
theorem qfD(h:G:=by
 have CC:=ab (HCp.o l[k] (ap dy) _ _ u HU.o);go_wp2_with fail;refine CC.o.mono ?_;rintro _ A ⟨p,rfl,hp,hA⟩;obtain ⟨qs,eu,au,gd⟩:=HR.o;rw[dU.o]at eu au;have bZ:Below wr.heap.size wr A:=cI.trans (hA.mono (by simp));have oe:=bZ.size;have Jg:=cz.o.size;have HO:=ab (ba au (fun b _ hlt=>bZ.block b hlt));have HH:=bx eu au gd;have RC:=aA hp bZ;clear eu au gd hp hA bZ
 first
 |clear quO;have o9:(A.alloc (.cells #[.int .u8 p.o,.string p.n,.slice p.a p.l p.c,.slice p.b p.m p.e] 36)).heap.size=A.heap.size+1:=by simp
  unfold FQ.val;go_wp2_with (at_builtin;refine wpList_append_lies _ rfl _ _ 34 rfl w.heap.size 36 i0 (.agg #[.int .u8 0,.string ByteArray.empty,.slice none 0 0,.slice none 0 0]) 4 72 Tryz.underlying34 hi ow iM gY rfl (by decide) _ _ _ rfl (HO.o.alloc _) ⟨A.heap.size,0,none⟩ 1 1 p.cells rfl rfl (cV (cs:=#[.int .u8 p.o,.string p.n,.slice p.a p.l p.c,.slice p.b p.m p.e]) (t:=36) (fr:=(0,0)) (fD _ _)) (by simp[FQ.cells,Value.oneCell']) (by decide) (by unfold maxLen;omega) (by omega) (by simp;omega) (A.heap.size+1) o9 ?_;intro g eF w4 aO am hg eA;have HG:=bx aO am hg;clear aO am hg eA o9);go_roundw
  case rel=>
   have quP:=();exact qdg
  case measure=>simp[intOf];omega
 |have o9:(A.alloc (.cells #[.bool p.v,.string p.n,.slice p.a p.l p.c] 43)).heap.size=A.heap.size+1:=by simp
  unfold TQ.val;go_wp2_with (at_builtin;refine wpList_append_lies _ rfl _ _ 33 rfl w.heap.size 43 i0 (.agg #[.bool false,.string ByteArray.empty,.slice none 0 0]) 3 48 Tryz.underlying33 hi ow iM gY rfl (by decide) _ _ _ rfl (HO.o.alloc _) ⟨A.heap.size,0,none⟩ 1 1 p.cells rfl rfl (cV (cs:=#[.bool p.v,.string p.n,.slice p.a p.l p.c]) (t:=43) (fr:=(0,0)) (fD _ _)) (by simp[TQ.cells,Value.oneCell']) (by decide) (by unfold maxLen;omega) (by omega) (by simp;omega) (A.heap.size+1) o9 ?_;intro g eF w4 aO am hg eA;have HG:=bx aO am hg;clear aO am hg eA o9);go_roundw
  case rel=>
   exact qdg
  case measure=>simp[intOf];omega):G:=h
theorem qg0(h:G:=by
 have quQ:=();exact qcX):G:=h
theorem qdh(h:G:=by
 exact qbN):G:=h
theorem qcF(h:G:=by
 have zu:=(HQ.o.2.1.kp (Kp.below HL.o.2.2.2.1)).busy gw wJ;have jB:x∈a_ [] s s:=HL.o.2.2.2.2.2.subset (by simp);have tP:nodesF x.s<=400:=aN (mM s s [] x jB) HP.o.2.1;have Wp:=pV s s [] HP.o.1 x jB
 first
 |clear qpT;have yH:Below w.heap.size w W2:=dE Lw.o.1 iO (fun b hb=>(Wo.o b hb).1);have fJ:=HP.o.2.2.2.1.later yH;have CS:=O6 oz kb mF mT nF nT kd x.s Wp tP _ W2 fJ ⟨⟨u0,u1,u2,u3,u4,u5,u6,u7⟩,⟨v0,v1,v2,v3,v4,v5,v6,v7⟩,ca,cl,cc⟩ kf;simp only[PlQ.val,PlQ.cells]at CS;have ⟨bv,Ao⟩:=aj (Wk x);have S6:=zbN.o x ▸ CS;rw[<-Ao]at S6;have Yy:=(iO.same _ (bA Lw.o.2.2.1) (fun h=>by have:=HMk.o;rw[GM.o]at h;omega)).trans Lw.o.2.2.1;have quR:=();exact qim
 |clear qpV;have yH:Below w.heap.size w W2:=dE I8.o.1 iO (fun b hb=>(Wr.o b hb).1);have fJ:=HP.o.2.2.2.1.later yH;have CS:=Sg oz kb mF mT nF nT kd x ps HQ.o.2.2.1 HQ.o.2.2.2 Wp tP _ W2 fJ ⟨⟨u0,u1,u2,u3,u4,u5,u6,u7⟩,⟨v0,v1,v2,v3,v4,v5,v6,v7⟩,ca,cl,cc⟩ kf zu.1;simp only[PlQ.val,PlQ.cells]at CS;have ⟨bv,Ao⟩:=aj (Wm x);have S6:=zbO.o x ▸ CS;rw[<-Ao]at S6;have Yy:=(iO.same _ (bA I8.o.2.2.1) (fun h=>by have:=HMk.o;rw[HM2.o]at h;omega)).trans I8.o.2.2.1;exact qim
 |have yH:Below w.heap.size w W2:=dE S9.o.1 iO (fun b hb=>(Wu.o b hb).1);have fJ:=HP.o.2.2.2.1.later yH;have CS:=O8 oz kb mF mT nF nT kd x.s Wp tP _ W2.drew (fJ.later (ai _ _).drew) ⟨⟨u0,u1,u2,u3,u4,u5,u6,u7⟩,⟨v0,v1,v2,v3,v4,v5,v6,v7⟩,ca,cl,cc⟩ (kf.later (ai _ _).drew);simp only[PlQ.val,PlQ.cells]at CS;have hsz:=SZ fJ x.s Wp tP;have ⟨bv,Ao⟩:=aj (Ho x);have S6:=Yw.o x ▸ CS;rw[<-Ao]at S6;have Yy:=(iO.same _ (bA S9.o.2.2.1) (fun h=>by have:=HMk.o;rw[HM3.o]at h;have:=HnB.o;omega)).trans S9.o.2.2.1;have quS:=();exact qin):G:=h
theorem qio(h:G:=by
 refine bK (v:=.tuple #[FQ.val ⟨0,⟨#[]⟩,none,0,0,none,0,0⟩,.bool false]) (by simp[FQ.val,results,Tryz.results91,go_sem,g0,g1,g2,g3]) rfl ⟨⟨⟨0,⟨#[]⟩,none,0,0,none,0,0⟩,by rw[HE.o];rfl,fun u hu=>by rw[HE.o]at hu;cases hu⟩,Below.kp1 ((cz.o.1.tr cz.o.2).tr H5.o.1) k6 (by omega)⟩):G:=h
theorem qdi(h:G:=by
 rcases Yg.o with ⟨rfl,rfl,rfl⟩ | ⟨b,off,rfl⟩
 ·exact .inl ⟨rfl,rfl,by rw[j6 Aa.o.symm];rfl⟩
 ·exact .inr ⟨_,rfl,by rw[ic,<-Aa.o],(qp.o.later m7).olds⟩):G:=h
theorem qip(h:G:=by
 have ⟨W2,aZ⟩:=aj ((w.alloc (.cells #[.int .u8 so,.string ⟨n.toArray⟩,.slice sa n1 sc,.slice sb m1 se,.int .u8 fo,.string fn,.slice fa fl fc,.slice fb fm fe,.slice ca cl cc] 89)).alloc (.cells #[.int .u8 so,.string ⟨n.toArray⟩,.slice sa n1 sc,.slice sb m1 se] 36));have bG:=k_ aZ;have x2:=jH aZ;have fJ:=d_.later bG
 first
 |clear quT;have Il:=hq.later bG;have JA:=iu.later bG;have ⟨HE,fj⟩:=aS hE aZ;have H2:=bx bG x2 fJ;have HQ:=fG Il JA hs uO ma;have Io:a.length<=2000000:=by have:=iT a;omega
  have HAl:=ab Io;clear hE hR hq iu lU hs uO ma aZ bG x2 fJ d_ Il JA eh iI DV Io sf;simp only[PlQ.val,PlQ.cells]
  by_cases h16:so=16
  ·subst h16;have hE:=HE.o;rw[ak (by decide)]at hE;have quU:=();exact qhL
  by_cases ja:so=15
  ·subst ja;have hE:=HE.o;rw[ak (by decide)]at hE;exact qhx
  ·have iY:(so == 16)=false:=by simp[h16]
   have L4:(so == 15)=false:=by simp[ja]
   have Zs:(so != 16)=true:=by simp[h16]
   have zdE:(so != 15)=true:=by simp[ja]
   have hE:=HE.o;rw[aw (by simp[Zs,zdE])]at hE;have ⟨B,hB⟩:=aj (a.any (iS k.ts));rw[<-hB]at hE;have CA:=th (iS k.ts) a HAl.o kb W2 (fun t ht=>EA W2 _ _ _ kb mF mT nF nT k H2.o.2.2 t (HQ.o.2.2.2.1 t ht)) _ W2 sa n1 sc (ai _ _) HQ.o.2.1;rw[<-hB]at CA;have ⟨GW,sg⟩:=aS CA hE;clear hE CA hB;exact qbO
 |have ⟨HE,fj⟩:=aS hE aZ;have H2:=bx bG x2 fJ;have HQ:=fG (hq.later bG) (iu.later bG) hs uO ma;have HN:=ab eh;have OS:n1<=2000000:=by have:=iT a;omega
  have RV:=ab DV;clear hE hR hq iu lU hs uO ma aZ bG x2 fJ d_ eh iI DV sf;simp only[PlQ.val,PlQ.cells];have jx:=eU;obtain ⟨e0,e1,e2,e3,_,_,_,_⟩:=dc H2.o.2.1;obtain ⟨⟨g0,g1,g2,g3,g4,g5,g6,g7⟩,oy,JD,GC,_,_,xx⟩:=H2.o.2.2.formOf (x:=n) kz;simp only[FQ.val]at xx;have ⟨f,hf⟩:=aj (formOf k.fs n)
  first
  |clear quV;rw[<-hf]at oy JD GC;have quW:=();exact qiq
  |rw[<-hf]at oy JD GC;exact qiq):G:=h
theorem qbO(h:G:=by
 go_enter Tryz.func124,Tryz.ntmps124
 first
 |clear qir;go_upto_region 4 with fail;rw[<-fj.o];go_region
  all_goals
   rw[<-dF];clear dF;go_wp2;go_ret;exact ⟨by rw[O3.o];rfl,bD.o⟩
 |clear quX;go_upto_region 4 with fail;rw[<-fj.o];go_region
  all_goals
   rw[<-dF];clear dF l1 l2 g0 g1 g3 g4 g5 e0 e1 e2 e3;go_upto_region 8 with (go_at_call 96;refine Au.o.mono ?_;rintro e w4 ⟨rfl,aR⟩;have H4:=ab aR;clear aR);clear i0 i1 i2 i3;have pJ:=H3.o.2.2.later H4.o;have k1:w4.cell? ⟨kb,1,none⟩=some (.map (some mT)):=ag pJ.box 1;have y4:=bN H4.o H3.o.2.1;obtain ⟨j0,j1,j2,j3,_,_,_,_⟩:=dc y4;have HC4:=ab (O7.o w4 H4.o);rcases pJ.ts.look Tryz.underlying9 Tryz.underlying146 kg (x:=y) (by have:=HY.o.1;omega) with ⟨hg,hlk⟩ | ⟨t,vt,hg,hvt,hlk⟩
   ·have l1:=(hlk w4 rfl).1;have O3:=ab (show R=decide (n0 > 0) by rw[HE3.o,hg];rfl);clear hlk hg pJ y4;go_wp2_with (go_at_call 97;refine HC4.o.mono ?_;rintro e w5 ⟨rfl,bh⟩;have H5:=ab bh;clear bh);go_ret;exact ⟨by rw[O3.o];simp,(H2.o.1.tr H3.o.1).tr (H4.o.tr H5.o)⟩
   ·obtain ⟨⟨R7,R8,R9,R_,Sa⟩,rfl,qF,Zz⟩:=hvt;simp only[TQ.val]at hlk;have l1:=(hlk w4 rfl).1;have O3:=ab (show R=false by rw[HE3.o,hg];rfl);clear hlk hg pJ y4 qF Zz;go_wp2;go_ret;exact ⟨by rw[O3.o];rfl,(H2.o.1.tr H3.o.1).tr H4.o⟩
 |go_upto_region 2 with fail;rw[<-fj.o];obtain ⟨e0,e1,e2,e3,_,_,_,_⟩:=dc H2.o.2.1;go_wp2_with (go_at_call 192;refine GW.o.mono ?_;rintro e w4 ⟨rfl,aR⟩;have H4:=ab aR;clear aR);go_ret;exact ⟨by rw[sg.o];rfl,H2.o.1.tr H4.o⟩):G:=h
theorem qhE(h:G:=by
 have f1:∀ V,S V->V.cell? ⟨wr.heap.size,0,none⟩=some (.int .u8 u.o)/\V.cell? ⟨wr.heap.size,1,none⟩=some (.string u.n)/\V.cell? ⟨wr.heap.size,2,none⟩=some (.slice u.a u.l u.c)/\V.cell? ⟨wr.heap.size,3,none⟩=some (.slice u.b u.m u.e):=fun V h=>by rw[hS]at h;exact ⟨aa h (ag xb 0),aa h (ag xb 1),aa h (ag xb 2),aa h (ag xb 3)⟩
 first
 |clear qtv;have xu:=gR.other (by omega) zdm.o;have quY:=();exact qhP
 |have dN:S W2.drew:=by rw[hS];exact (ai _ _).drew
  have quZ:=();exact qbH):G:=h
theorem qid(h:G:=by
 have ⟨l1,Cd⟩:=aj (dX k.ts (a.take j));have ⟨l2,qI⟩:=aj (lh k.ts a[j]);rw[<-qI]at CC;rw[<-Cd,<-qI]at gO;rw[<-Cd]at de;have bW:l1.length+l2.length<=4000000:=by rw[gO,cU]at Ei;omega
 have ⟨lJ,HT,qY,pH⟩:=eD CC gO bW e_;have HB:=bx aq bh de;have z7:(j:Int)<(n1:Int):=by omega
 clear CC Cd qI gO bW Ei vR L7 e_ bh aq yr hx hok c0 c1 c2 de
 first
 |clear qut;go_wp2_with (first | (rw[<-pH.o];go_at_call 248;refine lJ.o.mono ?_;rintro e w6 ⟨⟨v6,rfl,hv6⟩,cF⟩;have H6:=aA (HB.o.2.1.tr cF) hv6;clear cF hv6) | (at_builtin;refine ei rfl _ _ rfl W2.heap.size (HB.o.1.tr H6.o.1).size u9 l1 rfl (HB.o.2.2.later H6.o.1) v6 l2 rfl _ H6.o.2.strs qY.o ?_;intro v8 w8 Ji XY;have Vr:=aA Ji XY;clear Ji XY));exact qis
 |go_wp2_with (first | (rw[<-pH.o];go_at_call 248;refine lJ.o.mono ?_;rintro e w6 ⟨⟨v6,rfl,hv6⟩,cF⟩;have H6:=aA (HB.o.2.1.tr cF) hv6;clear cF hv6) | (at_builtin;refine ei rfl _ _ rfl W2.heap.size (HB.o.1.tr H6.o.1).size u5 l1 rfl (HB.o.2.2.later H6.o.1) v6 l2 rfl _ H6.o.2.strs qY.o ?_;intro v8 w8 Ji XY;have Vr:=aA Ji XY;clear Ji XY));exact qis):G:=h
theorem qaB(h:G:=by
 rcases hs with hs | ⟨b,off,ha,hok,hc⟩
 ·exact .inl hs
 first
 |clear qlq
  ·by_cases h0:al=[]
   ·exact .inl h0
   ·have hk:=hb b hok (E1 (hc 0 (jp.2 h0)));exact qbP
 |clear qu0
  ·by_cases h0:l=[]
   ·exact .inl h0
   ·have hk:=hb b hok (E1 (hc 0 (jp.2 h0)));exact qbP
 |clear qls
  ·by_cases h0:ss=[]
   ·exact .inl h0
   ·have hk:=hb b hok (E2 (hc 0 (jp.2 h0)));exact qbP
 |clear qu1
  ·by_cases h0:l=[]
   ·exact .inl h0
   ·have hk:=hb b hok (E2 (hc 0 (jp.2 h0)));exact qbP
 |·exact .inr ⟨b,off,ha,hok,fun j hj=>(hc j hj).nw hn⟩):G:=h
theorem qcP(h:G:=by
 obtain rfl:=iu.len;obtain rfl:=lU.len;have ma:=iD _ hs;simp only[li,ae,br]at ma;exact qh6):G:=h
theorem qdj(h:G:=by
 rw[h1,dz]at cZ;have cZ:=cZ.symm;rw[Bool.and_eq_false_iff]at cZ;rcases cZ with cZ | cZ
 first
 |clear qu2
  ·have:decide ((nodesTs l:Int)<=left)=false:=by simp at cZ ⊢;omega
   rw[this];simp
  ·have:decide (bc+bE l<=bz+1)=false:=by simp at cZ ⊢;omega
   rw[this];simp
 |·have:decide ((nodesFs s:Int)<=left - 1 - nodesTs a)=false:=by simp at cZ ⊢;omega
   rw[this];simp
  ·have:decide (bc+1+aV s<=bz+1)=false:=by simp at cZ ⊢;omega
   rw[this];simp):G:=h
theorem qdk(h:G:=by
 simp only at d1 d2 d3 d4;have ⟨W5,e_⟩:=aj (wr.alloc (.cells #[.string ⟨nm.toArray⟩,.int .u8 qo,.string qn,.slice qa ql qc,.slice qb qm qe] 40));have bh:=cM e_
 first
 |clear qu3;have j4:=d_.later bh.drew;have hf5:FormV (fun b=>b<w.heap.size) W5.drew (FQ.val ⟨qo,qn,qa,ql,qc,qb,qm,qe⟩) b.fs[k].2:=hf.move (fun b hb hlt=>⟨hb,((jD.trans (Kp.below bh.drew)).same b hlt (gV b hb))⟩);obtain ⟨w6,cD,Jn,Jo,sd⟩:=j4.storeF (by simp) (by omega) (x:=nm) (by rw[dD];exact HP.o.1 _ (ap bj)) hf5 (HP.o.2.2.2.2.1 _ (ap bj)) (l':=b.fs.take (k+1)) (fun y=>by rw[yo HP.o.2.2.1 bj,<-dD]);have x8:=ag d_.box 0;have x9:=aa bh x8;have GF:=aa bh.drew x8;have HK:=aA Jn ((bi.trans (Kp.below bh.drew)).trans (Jo.mono (fun b _ h=>by rw[HM.o];exact .inl h)));have ⟨HST,pH⟩:=aS cD e_;rw[e_]at x9 GF;have D3:(k:Int)<(n1:Int):=by omega
  clear d_ j4 Jn bi Jo sd hf hf5 bh jD gV hok dD e_ bj c0 c1 c2 c3 c4;rw[pH.o]at cD;unfold FQ.val at cD;go_wp2;go_region;go_wp2;go_roundw
  case rel=>exact ⟨k+1,by omega,by go_num,HK.o.2,HK.o.1⟩
  case measure=>simp[intOf];omega
 |clear qu4;have D3:(k:Int)<(n1:Int):=by omega
  have pH:=ab e_
  by_cases mt:nm=n
  ·subst mt;have Az:(nm == nm)=true:=by simp
   rw[Az]at ik;have CC:=oU g O4 ok W5 ⟨qo,qn,qa,ql,qc,qb,qm,qe⟩ ((hf.later l8).later bh);simp only[FQ.val]at CC;have qu5:=();exact qit
  ·have Az:(nm == n)=false:=by simp[mt]
   rw[Az]at ik;have HG:=aA (aq.tr bh) (show R=getB (b.fs.drop (k+1)) n from ik);clear l8 aq ik hf O4 bh hx e_ hg dD c0 c1 c2 c3 c4 hok;exact qiu
 |have x5:=bS e_;have D3:(k:Int)<(n1:Int):=by omega
  have jB:(nm,g)∈b.fs:=by rw[dD,hg];exact ap bj
  have CM:=Gg nm W5 (by omega);have qu6:=();exact qiv):G:=h
theorem qiw(h:G:=by
 rw[<-cQ]at x6 k6 ⊢;clear cQ;have g0:W6.cell? ⟨w.heap.size+1,0,none⟩=some (.int .u8 p0):=ag x6 0;have g1:W6.cell? ⟨w.heap.size+1,1,none⟩=some (.string p1):=ag x6 1;have g2:W6.cell? ⟨w.heap.size+1,2,none⟩=some (.slice p2 p3 p4):=ag x6 2;have g3:W6.cell? ⟨w.heap.size+1,3,none⟩=some (.slice p5 p6 p7):=ag x6 3
 first
 |clear qu7
  first
  |clear qqN;have wK:=Hp (p:=⟨p0,p1,p2,p3,p4,p5,p6,p7⟩) (B:=w.heap.size+1) (HB.o.1.tr H7.o) (by omega) k6 (HP7.o.move (fun b hok _=>⟨by have:=HB.o.2.1;have h:W2.heap.size<=b:=hok;omega,rfl⟩));have qux:=();exact qdf
  |have wK:=Hp (p:=⟨p0,p1,p2,p3,p4,p5,p6,p7⟩) (B:=w.heap.size+1) (HB.o.1.tr (H3.o.1.tr (H5.o.tr H7.o))) (by omega) k6 (HP7.o.move (fun b hok _=>⟨by have h1:=HB.o.2.1;have h2:=H3.o.1.size;have h3:=H5.o.size;have h:w5.heap.size<=b:=hok;omega,rfl⟩));exact qdf
 |have wK:=Hp (p:=⟨p0,p1,p2,p3,p4,p5,p6,p7⟩) (B:=w.heap.size+1) (HB.o.1.tr (H3.o.1.tr (H5.o.tr H6.o.1))) (by omega) k6 (H6.o.2.move (fun b hok _=>⟨by have h1:=HB.o.2.1;have h2:=H3.o.1.size;have h3:=H5.o.size;have h:w5.heap.size<=b:=hok;omega,rfl⟩));exact qdf):G:=h
theorem qix(h:G:=by
 obtain ⟨k,hk,rfl,hj,kt,⟨n',Ay,hbd⟩,bi⟩:=hrel;have qu8:=();exact qiy):G:=h
theorem qbc(h:G:=by
 injection hv with hv _ _;subst hv;rcases hs with rfl | ⟨b,off,rfl,hok,hc⟩
 ·simp at hj
 first
 |clear qlt
  ·obtain ⟨q,hq,_⟩:=(ht j hj).form;obtain ⟨x0,x1,x2,hx,c0,c1,c2⟩:=hc j hj;rw[hq]at hx;unfold TQ.val at hx;simp only[cr,Array.mk.injEq,bP,and_true]at hx;obtain ⟨rfl,rfl,rfl⟩:=hx;exact ⟨b,off,q,rfl,hok,hq ▸ ht j hj,c0,c1,c2⟩
 |clear qlu
  ·obtain ⟨q,hq,_⟩:=(ht j hj).form;obtain ⟨x0,x1,x2,x3,hx,c0,c1,c2,c3⟩:=hc j hj;rw[hq]at hx;unfold FQ.val at hx;simp only[cr,Array.mk.injEq,bP,and_true]at hx;obtain ⟨rfl,rfl,rfl,rfl⟩:=hx;exact ⟨b,off,q,rfl,hok,hq ▸ ht j hj,c0,c1,c2,c3⟩
 |clear qu9
  ·exact ⟨b,off,qs j,rfl,hok,hf j hj,hc j hj⟩
 |·exact ⟨b,off,ps j,qs j,rfl,hok,(hf j hj).1,(hf j hj).2,hc j hj⟩):G:=h
theorem qdl(h:G:=by
 subst hq;exact ⟨b,q,⟨hs,h3,h4.move (fun c hc _=>⟨⟨⟨hc.1,fun e=>hc.2.2 (by rw[e])⟩,hc.2.1⟩,rfl⟩)⟩,(hI.2.1 b rfl).1.resolve_right id⟩):G:=h
theorem qei(h:G:=by
 obtain ⟨r,rfl⟩:∃r,n=63 :: r:=tL (by
  cases h2:(n.head? == some 63)
  ·simp[dl,dA,cX,h2]at h
  ·rfl)
 have C1:=ab (fun w=>h ▸ iV (63 :: r) w hn);have hr:r.length<=1000000000:=by simp at hn;omega
 have hs:=hO (63 :: r);exact qa6):G:=h
theorem qeT(h:G:=by
 have:(n,g)∈l:=by
  clear h
  induction l with
  | nil=>simp[getB]at hg
  | cons x l ih=>
   obtain ⟨y,v⟩:=x;unfold getB at hg;split at hg
   ·rename_i e;simp only[c9]at hg;rw[ej]at e;subst e hg;exact gp ..
   ·exact fL _ (ih hg)
 have:=h.1 _ this;exact ⟨this.2,this.1⟩):G:=h
theorem qiz(h:G:=by
 have Di:Below w.heap.size w X:=dE S9.o.1 h4 (fun b hb=>(Wu.o b hb).1);have kP:Marks w.heap.size X _:=Hv3.o.2.more (w':=X) (fun E hE hx=>(h4.same E (bA hx) (fun hm=>by rw[HM3.o]at hm;rcases hm with rfl | rfl <;> first | (rw[S9.o.2.2.2]at hx;cases hx) | (rw[HnV.o]at hx;cases hx))).trans hx) hD (aN S9.o.1.size hD) hd
 first
 |clear qva;have r0:=ag h3 0;have z0:=ac h3 0;have HX:=bx Di kP h3;clear h1 h2 h3 h4 ξ hd Di kP hD;gi_wp2_with fail;have ⟨W8,kV⟩:=aj (X.setCell ⟨w.heap.size+1+1,0,none⟩ (.int .i64 0));have k8:Kp (fun b=>b=w.heap.size+1+1) X W8:=by rw[kV];exact jm
  have x8:=jl HX.o.2.2 (v:=.int .i64 0);rw[<-kV]at x8 ⊢;refine eB (B:=w.heap.size) (HX.o.2.1.move (fun D _ hd=>(k8.same D (bA hd) (fun h=>by subst h;rw[HX.o.2.2]at hd;cases hd)).trans hd)) (fun w' hn=>?_);have h0:=hn.cell (ag x8 0);exact ⟨.int .i64 0,by simp[results,Tryz.results71,go_sem,h0],by rw[HE.o],jN (dE HX.o.1 k8 (fun b hb=>by omega)) hn⟩
 |have HE:=ab (show R=3 by rw[HR.o,ak (by rw[<-Wl.o,HA1.o];simp),ak (by have h:=HA2.o;rw[κ.o]at h;rw[h];simp),aw (by have:=Wj (dq.map Ho);rw[zbP.o]at this h2;omega)]);exact qdm):G:=h
theorem qbQ(h:G:=by
 have ht:a.take m0=a:=by rw[gt.o];exact cK
 rw[ht]at hj;have HH:=aA hj bi;clear hj bi ht
 first
 |clear qiA;gi_wp2;exact qbh
 |go_wp2;exact qbh):G:=h
theorem qd4(h:G:=by
 refine hQ a γ w ⟨h.df,h.sz,h.ou,fun k o ho hd _=>h.nod k o ho hd (eJ k (bA ho)),fun k o d ho hd _=>h.val k o d ho hd (eJ k (bA ho)),fun k hk hl=>by simp[Array.getD,hk]at hl,h.inv,fun k o d ho _ hl=>by simp[Array.getD,(bA ho)]at hl,fun _ _ _ _ e _ _ hlt=>by simp[Array.getD,hlt]⟩):G:=h
theorem qbF(h:G:=by
 have f0:=fun x:Later wr=>x.get (aa aq c0);have f1:=fun x:Later wr=>x.get (aa aq c1);have f2:=fun x:Later wr=>x.get (aa aq c2)
 first
 |clear qvb;have f3:=fun x:Later wr=>x.get (aa aq kr);have qvc:=();exact qdn
 |clear qvd;have f3:=fun x:Later wr=>x.get (aa aq c3);have qve:=();exact qdn
 |clear qvf;have Bv:(k:Int)<(k0:Int):=by omega
  have kz:=hf.name;have zaq:=hO xn;have htd:=TW xn.length;have ⟨q,hq⟩:=aj (xn.length / 40);have KY:q<=50000:=by omega
  have ⟨R,hR⟩:=aj (jP xa (left - m) 0);have hRb:=(np xa (left - m) 0).2.1;have Bw:=hf.args.sz;have CC:=fun (x:Later wr)=>p_ ok x.w ua ul uc (left - m) hf.args ((fC.later aq).later x.below) (by omega) (by omega);simp only[Tm.a]at CC;rw[<-hR]at CC hRb;have Dx:jP l left 0=jP (l.drop (k+1)) left (m+(1+q+R)):=by
   rw[hcut];simp only[jP,aw ro,MG];rw[hq,hR]
  have L9:m+(1+q+R)<=100002000000:=by
   have h5:=(np l left 0).2.1;have h6:=(np (l.drop (k+1)) left (m+(1+q+R))).1;omega
  rw[<-hq]at htd;have qvg:=();exact qiB
 |have f3:=fun x:Later wr=>x.get (aa aq kr);exact qdn):G:=h
theorem qiC(h:G:=by
 rintro _ wq ⟨rfl,fW⟩;have H7:=ab (((ai w5.heap.size w5).drew).trans fW);have qvh:=();exact qaA):G:=h
theorem qiD(h:G:=by
 have yy:∀ V,S V->V.cell? ⟨b2,o2+j * 3,none⟩=some (.bool yv)/\V.cell? ⟨b2,o2+j * 3+1,none⟩=some (.string yn)/\V.cell? ⟨b2,o2+j * 3+2,none⟩=some (.slice ya yl yc):=fun V h=>by rw[hS]at h;exact ⟨aa h (aa bh g0),aa h (aa bh g1),aa h (aa bh g2)⟩
 have dN:S W5.drew:=by rw[hS];exact (ai _ _).drew
 first
 |clear qvi;have hkd:Kp (fun b=>b=mT) W3 W5.drew:=bi.trans (Kp.below bh.drew)
  have Nt:∀ b,b=mT->M b:=fun b e=>e ▸ HG.o.2.2.2.1;have pL:=pI gZ;have CC:=fd.o a[j] (ap gZ) (HF.o.1.args.mem (ap gZ)) (UF.o _ (ap gZ)) a'[j] (HG.o.2.2.1 _ _ _ HF.o.2 _ (ap AU)) W5.drew nF Ey ⟨k.fs,kj⟩ ⟨xv,xn,xa,xl,xc⟩ ⟨yv,yn,ya,yl,yc⟩ (fJ.later bh.drew) (by have:=RV.o;omega) (HPs.o.kp (hkd.mono (fun b _ h=>Nt b h))) (hx.kpM hkd Nt) (hy.kpM hkd Nt);have cD:bL (ps.reverse.map (·.1)) kj (a.drop j) (a'.drop j)=match cY (ps.reverse.map (·.1)) kj a[j] a'[j] with | some k'=>bL (ps.reverse.map (·.1)) k' (a.drop (j+1)) (a'.drop (j+1)) | none=>none:=by
   rw[gB gZ,gB AU,bL];rfl
  rw[cD]at ik;simp only[TQ.val,PlQ.val,PlQ.cells]at CC;have HK:=bx hkd pK pL;have OU:=ab e_;have z7:(j:Int)<(n1:Int):=by omega
  cases VB:cY (ps.reverse.map (·.1)) kj a[j] a'[j] with
  | none=>
   rw[VB]at CC ik;have HC:=ab CC;have L0:=ab (show R=none from ik);have qvj:=();exact qiE
  | some ts0=>
   rw[VB]at CC ik;have HC:=ab CC;have L0:=ab (show R=bL (ps.reverse.map (·.1)) ts0 (a.drop (j+1)) (a'.drop (j+1)) from ik);exact qiE
 |have R3:Kp M W W5:=L5.trans (Kp.below bh);have HKN:=ab (hkN.trans (Kp.below bh));have pL:=pI gZ;have _h:=HV.o.2.2.2.2.1.kp R3;have hx5:=hx.kpM R3 (fun _ h=>h);have hy5:=hy.kpM R3 (fun _ h=>h);have ⟨I,hI⟩:=aj (iB ps.reverse [] a'[j]);have CI:=fun (V:World) (h:Below W5.heap.size W5 V)=>te ⟨⟨so,⟨n.toArray⟩,some ⟨b1,o1,none⟩,n1,sc,sb,m1,se⟩,⟨so,⟨n'.toArray⟩,some ⟨b2,o2,none⟩,n1,fc,fb,m1,fe⟩,ca,cl,cc⟩ ps HB.o.2.2.2.1 HB.o.2.2.2.2 [] [] (by simp) (fun _=>rfl) (fun _=>True) (.slice none 0 0) a'[j] (HF.o.1.args.mem (ap AU)) _ V ⟨yv,yn,ya,yl,yc⟩ (_h.1.later h) ⟨none,0,rfl,aC _,.inl rfl⟩ (hy5.later h);rw[<-hI]at CI;simp only[PlQ.val,PlQ.cells,TQ.val]at CI;have ⟨XG,cR⟩:=aS CI hS;have cD:=Jt (c:=ps.reverse) (k:=kj) gZ AU;rw[<-hI]at cD;rw[cD]at ik;have H5:=sC R3 bh x5 R2 _h hx5;have Vz:=cq bi pK (d_.later bh) pL;have HIj:=bx (show ∀ u,I=some u->goodT u from fun u h=>O0 HP.o (ap AU) (by rw[<-hI];exact h)) (UF.o _ (ap gZ)) gZ;have Yk:=ab ik;have z7:(j:Int)<(n1:Int):=by omega
  clear CI cD ik hS hI hy5 hx5 _h pL R3 hy hx sM sN c0 c1 c2 y0 y1 y2 d_ pK bi L5 hkN UG x6w bh x5 R2 x65;go_wp2;rw[<-e_];clear e_ d0 d1 d2 g0 g1 g2;go_cut [12,13] from 98 to 107 (fun s12 s13 wx=>∃B12,s12=.pointer (some ⟨B12,0,none⟩)/\s13=.bool I.isSome/\∃uq:TQ,wx.heap[B12]?=some (.cells #[.bool uq.v,.string uq.n,.slice uq.a uq.l uq.c] 43 (0,0))/\Below W5.heap.size W5 wx/\W5.heap.size<=B12/\∀ u,I=some u->TermV (W5.heap.size<=·) wx uq.val u)
  case first=>
   have jx:=eU;have qvk:=();exact qcI
  case rest=>
  obtain ⟨B12,h12,h13,⟨u0,u1,u2,u3,u4⟩,x12,cF,_i,hu⟩:=hcut;rw[h12,h13];clear h12 h13 pp tt yy;have ⟨W6,cQ⟩:=aj wc;rw[<-cQ]at x12 cF hu ⊢;clear cQ wc;simp only at x12;have VG:Kp M W W6:=H5.o.1.trans (Kp.below cF)
  cases I with
  | none=>
   have HE:=ab (show R=(k,70) by rw[HRg.o,Yk.o]);have Ex:=ab (HKN.o.trans (Kp.below cF));clear x12 cF _i hu VG;go_wp2;go_ret;exact StepPost.bad HE.o (by decide) Ex.o
  | some im=>
   have hu:=hu im rfl;have hgi:=HIj.o.1 im rfl;have hum:TermV (fun b=>¬M b) W6 (TQ.val ⟨u0,u1,u2,u3,u4⟩) im:=hu.move (fun b hb hlt=>⟨fun hm=>by have:=HG.o.2.2.2.2 b hm;have:=H5.o.1.size;omega,rfl⟩);have xA:=bN cF H5.o.2.2.2.1;have x56:=bN cF H5.o.2.2.1;have ⟨P0,P1,P2,P3,P4,P5,P6,P7⟩:=D6 xA;have P8:=ag xA 8;obtain ⟨s0,s1,s2,_,_,_⟩:=fV x56;obtain ⟨t0,t1,t2,_,_,_⟩:=fV x12;have CE:=OX ⟨⟨so,⟨n.toArray⟩,some ⟨b1,o1,none⟩,n1,sc,sb,m1,se⟩,⟨so,⟨n'.toArray⟩,some ⟨b2,o2,none⟩,n1,fc,fb,m1,fe⟩,ca,cl,cc⟩ ps HB.o.2.2.2.1 goodF goodT (fun _ h=>h.fit) (fun _ _ _ h=>h.args) M kb mF mT HG.o.2.1 HG.o.1 HG.o.2.2.1 (a[j]'HIj.o.2.2) HIj.o.2.1.1 HIj.o.2.1.2 im hgi W6 nF Ey ⟨k.fs,kj⟩ ⟨xv,xn,xa,xl,xc⟩ ⟨u0,u1,u2,u3,u4⟩ (Vz.o.2.2.1.later cF) (by have:=Vz.o.2.1;have:=Vz.o.2.2.2;have:=HB.o.2.1;have:=HB.o.2.2.1;omega) (zdD VG) (H5.o.2.2.2.2.2.later cF) hum;have ik:=Yk.o;simp only at ik;have ⟨EQ,hEQ⟩:=aj (cY (ps.reverse.map (·.1)) kj (a[j]'HIj.o.2.2) im);simp only[<-hEQ]at ik CE;simp only[PlQ.val,PlQ.cells,TQ.val]at CE;have HCE:=ab CE;have Ex:=aA (HKN.o.trans (Kp.below cF)) (Vz.o.1.trans (Kp.below (H5.o.2.1.tr cF)))
   cases EQ with
   | none=>
    have HE:=ab (show R=(k,70) by rw[HRg.o,ik]);clear x12 cF _i hu VG hum xA x56 CE ik hEQ hgi;go_wp2_with (go_at_call 95;refine HCE.o.mono ?_;rintro e w7 ⟨oW,r,rfl,gV,_⟩;obtain rfl:=gV (by simp);have H7:=ab oW;clear oW gV);go_ret;exact StepPost.bad HE.o (by decide) (Ex.o.1.trans (H7.o.mono (fun b _ h=>.inr h)))
   | some ts0=>
    have L0:=ab (show cA ps.reverse k.ts a a'=cA ps.reverse ts0 (a.drop (j+1)) (a'.drop (j+1)) from ik);clear x12 cF _i hu VG hum xA x56 CE ik hEQ hgi;go_wp2_with (go_at_call 95;refine HCE.o.mono ?_;rintro e w7 ⟨oW,r,rfl,_,Ye⟩;obtain ⟨rfl,nT7,Yf,BW⟩:=Ye _ rfl;have H7:=bx oW Yf BW;clear oW Ye Yf BW);go_roundw
    case rel=>exact ⟨j+1,nT7,ts0,by omega,by go_num,Ex.o.2.trans H7.o.1,by have:=H7.o.2.1;have:=Vz.o.2.1;have:=Vz.o.2.2.2;omega,H7.o.2.2,L0.o⟩
    case measure=>simp[intOf];omega):G:=h
theorem qiF(h:G:=by
 have HH:=aA hj bi;have kz:¬((k:Int)<min (sm:Int) (fm:Int)):=by have:=gt.o;omega
 have tM:min (sm:Int) (fm:Int)<=(k:Int):=by have:=gt.o;omega
 clear hj bi;gi_wp2;go_ret;refine .inl ⟨rfl,?_,BR.o.2.trans HH.o.2⟩;have h:=HH.o.1;rw[vW (c:=Ai) (by have:=gt.o;omega)]at h;exact h):G:=h
theorem qiG(h:G:=by
 obtain ⟨aO,am,hg,_⟩:=HG.o;have cD:=fh.o.stepT (F:=2) (t:=u') (p:=⟨pv,pn,pa,pl,pc⟩) (g:=g) (cap:=eF) (by rw[vK.o.2];exact BI.o.2.1) (by rw[vK.o.2];exact BI.o.1) BI.o.2.2 LD.o.2 LD.o.1 (by rw[vK.o.2];exact aO) am (by rcases hg with h | h;exact .inl h;exact .inr (by simp;omega)) rfl;rw[vK.o.2]at cD
 first
 |clear qvl;exact qh4
 |exact ⟨k1+1,by omega,by go_num,_,Ve ++ [u'],cD,vK.o.1,by rw[cU,vK.o.2];rfl⟩):G:=h
theorem qar(h:G:=by
 have qvm:=();exact qcM):G:=h
theorem qgw(h:G:=by
 have HF:=ab (HE.o.trans kC);have ⟨As,lj⟩:=aS hj bi;clear kC hj bi ha hc ht;go_wp2;go_ret;have _T:=HN.o;have h8:=As.o;rw[show left - 1 - (nodesTs a:Int) - (nodesFs s:Int)=left - ((nodesTs a+nodesFs s+1:Nat):Int) by omega,<-_T]at h8;exact JPost.yes HF.o lj.o h8 (by omega)):G:=h
theorem qiH(h:G:=by
 go_wp2_with (rw[<-pH.o];go_at_call 197;refine lJ.o.mono ?_;rintro e w6 ⟨rfl,cF⟩;have H6:=ab cF;clear cF);go_roundw
 case rel=>exact ⟨j+1,by omega,by go_num,by rw[<-Ns.o];simp,(HB.o.1.tr HB.o.2).tr H6.o⟩
 case measure=>simp[intOf];omega):G:=h
theorem qgq(h:G:=by
 have k6:=eN (W:=w5) (b:=w.heap.size+1) (v0:=.bool pv) (v1:=.string pn) (v2:=.slice pa pl pc);have ⟨W6,cQ⟩:=aj (((w5.setCell ⟨w.heap.size+1,0,none⟩ (.bool pv)).setCell ⟨w.heap.size+1,1,none⟩ (.string pn)).setCell ⟨w.heap.size+1,2,none⟩ (.slice pa pl pc));rw[<-cQ]at x6 k6 ⊢;clear cQ
 first
 |clear qqH;obtain ⟨g0,g1,g2,_⟩:=fV x6;go_wp2;refine bK (v:=TQ.val ⟨pv,pn,pa,pl,pc⟩) (by simp[TQ.val,results,Tryz.results127,go_sem,g0,g1,g2]) rfl ⟨⟨⟨pv,pn,pa,pl,pc⟩,rfl,H7.o.2.2.move (fun b hok hlt=>⟨by omega,k6.same b hlt (by omega)⟩)⟩,Below.kp1 (bD.o.1.tr H7.o.1) k6 (by omega)⟩
 |have g0:W6.cell? ⟨w.heap.size+1,0,none⟩=some (.bool pv):=ag x6 0;have g1:W6.cell? ⟨w.heap.size+1,1,none⟩=some (.string pn):=ag x6 1;have g2:W6.cell? ⟨w.heap.size+1,2,none⟩=some (.slice pa pl pc):=ag x6 2
  first
  |clear qms;have hz:=HY.o.2.2;refine bK (v:=TQ.val ⟨pv,pn,pa,pl,pc⟩) (by simp[TQ.val,results,Tryz.results218,go_sem,g0,g1,g2]) rfl ⟨⟨⟨pv,pn,pa,pl,pc⟩,rfl,H5.o.1.move (fun b hok hlt=>⟨by omega,k6.same b hlt (by omega)⟩)⟩,Below.kp1 H5.o.2.1 k6 (by omega)⟩
  |clear qvn;refine bK (v:=TQ.val ⟨pv,pn,pa,pl,pc⟩) (by simp[TQ.val,results,Tryz.results168,go_sem,g0,g1,g2]) rfl ⟨⟨⟨pv,pn,pa,pl,pc⟩,rfl,H5.o.1.move (fun b hok hlt=>⟨by omega,k6.same b hlt (by omega)⟩)⟩,Below.kp1 H5.o.2.1 k6 (by omega)⟩
  |refine bK (v:=TQ.val ⟨pv,pn,pa,pl,pc⟩) (by simp[TQ.val,results,Tryz.results154,go_sem,g0,g1,g2]) rfl ⟨⟨⟨pv,pn,pa,pl,pc⟩,rfl,H5.o.1.move (fun b hok hlt=>⟨by simp at hok;omega,k6.same b hlt (by simp at hok;omega)⟩)⟩,Below.kp1 H5.o.2.1 k6 (by omega)⟩):G:=h
theorem qce(h:G:=by
 simp only[FQ.val,cr,Array.mk.injEq,bP,and_true,Value.int.injEq,true_and,Value.string.injEq]at h1 h2;obtain ⟨rfl,rfl,rfl,rfl⟩:=h1;obtain ⟨rfl,rfl,rfl,rfl⟩:=h2
 first
 |clear qmN;obtain rfl:=Rm.len;obtain rfl:=hfs.len;simp only at iG;obtain rfl:=iG.1.len;obtain ⟨X,hX⟩:∃X:Pl,X=⟨.mk Vw sn Ny ss,.mk fo' fn Yb fs,ps.reverse⟩:=⟨_,rfl⟩;obtain ⟨Ai,E5⟩:∃Ai:Sco,Ai=(if bm Vw then (sn,fn) :: ps.reverse else ps.reverse):=⟨_,rfl⟩;have mI:a_ ps.reverse (.mk Vw sn Ny ss) (.mk fo' fn Yb fs)=[X] ++ aJ Ai ss fs:=by rw[hX,E5];unfold a_;rfl
  rw[mI]at dq ⊢;have ek:=RO.subs.len;have vO:nodesF (.mk Vw sn Ny ss)=nodesTs Ny+nodesFs ss+1:=by unfold nodesF;rfl
  have o8:∀ t∈ss,ps.length+1+nodesF t<=1000000:=fun t ht=>by have:=ln ss t ht;omega
  have ⟨m0,dQ⟩:=aj (min ss.length fs.length);have ⟨sm,Im⟩:=aj ss.length;have ⟨fm,Et⟩:=aj fs.length;have ⟨cl,hcl⟩:=aj ps.length;have zdy:ss.length<=1000000:=by have:=qS ss;omega
  simp only[PlQ.val,PlQ.cells];rw[<-hcl]at iG;rw[<-Im]at Rm zdy uQ;rw[<-Et]at hfs ek Es;rw[<-Im,<-Et]at dQ;rw[<-Im,<-Et,<-hcl];have ⟨W1,bY⟩:=aj (W.alloc (.cells #[.int .u8 Vw,.string ⟨sn.toArray⟩,.slice sa sl sc,.slice sb sm se,.int .u8 fo',.string ⟨fn.toArray⟩,.slice fa fl fc,.slice fb fm fe,.slice ca cl cc] 89));have jf:=cM bY;have KP:J pre W1:=hJ pre _ _ (Nw.below jf) hj;have sZ:=bS bY;have hWM:W.heap.size<W1.heap.size/\¬M W.heap.size:=⟨by rw[bY];simp,fun h=>by have:=hM _ h;omega⟩;have sG:=hY pre #[PlQ.val ⟨⟨Vw,⟨sn.toArray⟩,sa,sl,sc,sb,sm,se⟩,⟨fo',⟨fn.toArray⟩,fa,fl,fc,fb,fm,fe⟩,ca,cl,cc⟩] X W1 KP (Kp.below jf) ⟨_,ps,rfl,by rw[hX],by omega,by rw[hX];exact uQ.kp (Kp.below jf),by rw[hX];exact Es.kp (Kp.below jf),iG.kp (Kp.below jf)⟩ (ke dq);simp only[PlQ.val,PlQ.cells]at sG;have ⟨fd,Yc⟩:=aS ih RO.subs;have qY:=bx hpl o8 hcl;have DT:=aA hM hl;have HJ:=aA hJ hJx;have ⟨HY,HSs,Qz,HP⟩:=eD hY Rm hfs iG;have Gw:=iG.1.cap;have nK:=ab dq;have gt:=bx dQ Im Et;have ⟨jS,dY,HWM,zbn,jt⟩:=qt sZ jf hWM E5 bY;have HPp:=ab (show (pre ++ [X]) <+: xs from ke dq);obtain ⟨yfn,tmps,assign,body,hy,IP⟩:=j8 2 sG;rw[bY]at hy IP;clear uQ Es iG hsa uO Rm hfs RO ih dQ Im Et hcl hj jf KP sG hJ hJx hM hl hY dq mI hX E5 sZ hWM bY o8 vO hpl;refine nG Tryz.func103 ?_;simp only[Tryz.ntmps103,Nat.reduceAdd,Nat.reduceSub,lE];have jx:=eU;gi_wp2;refine IP.mono ?_;rintro e W2 (⟨rfl,zh,iO⟩ | ⟨rfl,zbo,iO⟩)
  ·rw[<-jt.o]at iO;have pw:=(iO.same _ HWM.o.1 HWM.o.2).trans jS.o;obtain ⟨P0,P1,P2,P3,P4,P5,P6,P7,P8⟩:=iX (q:=⟨⟨Vw,⟨sn.toArray⟩,sa,sl,sc,sb,sm,se⟩,⟨fo',⟨fn.toArray⟩,fa,fl,fc,fb,fm,fe⟩,ca,cl,cc⟩) pw;have CQ:=fk ⟨Vw,⟨sn.toArray⟩,sa,sl,sc,sb,sm,se⟩ W2;simp only[FQ.val]at CQ;have KS:=ab CQ;have H2:=bx zh ((Kp.below dY.o).trans iO) pw;simp only at P0 P1 P2 P3 P4 P5 P6 P7 P8;clear zh iO pw CQ IP hy;gi_wp2_with fail;refine aH.2 (KS.o.mono ?_);rintro e W3 ⟨rfl,aG⟩;clear P0 P1 P2 P3 P4 P5 P6 P7 P8;have xz:=aA (HJ.o.1 _ _ _ ((Nw.below aG)) (show J (pre ++ [X]) W2 from H2.o.1)) (H2.o.2.1.trans (Kp.below aG));have ie:=ab (bN aG H2.o.2.2)
   cases qL:bm Vw with
   | false=>
    have tb:=ab (show ps.reverse=Ai by rw[zbn.o,qL];rfl);have BR:=xz;have QA:=ie;have HPz:=ab (HP.o.kp xz.o.2);have p3:=ag ie.o 3;have p7:=ag ie.o 7;clear aG qL;gi_wp2;clear p3 p7;gi_loopw [40] (fun i wr=>∃k:Nat,k<=m0/\i=.int .i64 k/\J (pre ++ ([X] ++ aJ Ai (ss.take k) (fs.take k))) wr/\Kp M W3 wr) (fun i _=>m0 - (intOf i).toNat)
    case atStart=>exact ⟨0,aX _,rfl,by simpa[aJ] using BR.o.1,Kp.refl _⟩
    case round=>
     have qvo:=();exact qau
   | true=>
    have tb:=ab (show (ps ++ [(sn,fn)]).reverse=Ai by rw[zbn.o,qL];simp);have Qy:=(HP.o.kp xz.o.2).1.cases;have HSh:=ab Qy;have hold:((.slice ca cl cl:Value)=.slice none 0 0/\cl=0/\gx ps=[])\/∃b,(.slice ca cl cl:Value)=.slice (some b) cl cl/\(gx ps).length=cl * 2/\∀ j u,(gx ps)[j]?=some u->(W3.alloc (.cells #[.string ⟨sn.toArray⟩,.string ⟨fn.toArray⟩] 213)).drew.cell? (b.add j)=some u:=by
     rcases Qy with ⟨rfl,rfl,rfl⟩ | ⟨b,off,rfl⟩
     ·exact .inl ⟨rfl,rfl,by rw[j6 qY.o.2.2.symm];rfl⟩
     ·exact .inr ⟨_,rfl,by rw[ic,<-qY.o.2.2],((HP.o.kp xz.o.2).1.later (((ai W3.heap.size W3).alloc (aC _) _).drew)).olds⟩
    have Rv:=ab hold;have zft:cl<=1000000:=by have:=qY.o.1;have:=qY.o.2.2;omega
    obtain ⟨S,hS⟩:∃S:World->Prop,S=fun V=>Below W3.heap.size W3 V:=⟨_,rfl⟩;have f1:∀ V,S V->V.cell? ⟨W.heap.size,1,none⟩=some (.string ⟨sn.toArray⟩):=fun V h=>by rw[hS]at h;exact aa h (ag ie.o 1)
    have f5:∀ V,S V->V.cell? ⟨W.heap.size,5,none⟩=some (.string ⟨fn.toArray⟩):=fun V h=>by rw[hS]at h;exact aa h (ag ie.o 5)
    have dN:S W3.drew:=by rw[hS];exact (ai _ _).drew
    have cR:=ab hS;clear hS hold Qy qL aG;gi_wp2;refine lF S 14 dN fun jE bV=>?_;refine bw 0 16 (.slice ca cl cc) rfl bV fun cB=>?_;simp only[af];refine bw 1 17 (.slice ca cl cc) rfl cB fun fB=>?_;simp only[af];refine bw 2 18 (.int .i64 (cl:Int)) rfl fB fun gq=>?_;simp only[af];refine bw 3 19 (.slice ca cl cc) rfl gq fun ir=>?_;simp only[af];refine bw 4 20 (.int .i64 (cl:Int)) rfl ir fun jj=>?_;simp only[af];refine c_ 5 21 (.slice ca cl cl) rfl (fun V hX=>by rcases HSh.o with ⟨rfl,rfl,rfl⟩ | ⟨b,off,rfl⟩ <;> go_simp) jj fun jz=>?_;simp only[af];refine bw 6 22 (.pointer (some ⟨W.heap.size,0,none⟩)) rfl jz fun lM=>?_;simp only[af];refine bw 7 23 (.pointer (some ⟨W.heap.size,1,none⟩)) rfl lM fun qh=>?_;simp only[af];refine c_ 8 24 (.string ⟨sn.toArray⟩) rfl (fun V hX=>by have g0:=f1 V hX;go_simp) qh fun Eu=>?_;simp only[af];refine bw 9 25 (.pointer (some ⟨W.heap.size,4,none⟩)) rfl Eu fun vX=>?_;simp only[af];refine bw 10 26 (.pointer (some ⟨W.heap.size,5,none⟩)) rfl vX fun Ev=>?_;simp only[af];refine c_ 11 27 (.string ⟨fn.toArray⟩) rfl (fun V hX=>by have g0:=f5 V hX;go_simp) Ev fun LW=>?_;simp only[af];refine bw 12 28 (.agg #[.string ⟨sn.toArray⟩,.string ⟨fn.toArray⟩]) rfl LW fun OV=>?_;simp only[af];refine b_ 13 rfl fun K hK=>?_;go_simp;have m7:Below W3.heap.size W3 (W3.alloc (.cells #[.string ⟨sn.toArray⟩,.string ⟨fn.toArray⟩] 213)).drew:=((ai _ W3).alloc (aC _) _).drew;have qvp:=();exact qaM
  ·have HH:=aA zbo iO;clear zbo iO IP hy;gi_wp2;go_ret;refine .inr ⟨rfl,_,HPp.o,HH.o.1,?_⟩;have h:=HH.o.2;rw[<-jt.o]at h;exact ((Kp.below dY.o).from _).trans h
 |clear qvq;obtain rfl:=fC.len;obtain rfl:=Ac.len;obtain rfl:=Bw.len;obtain rfl:=VD.len;exact qc5
 |obtain rfl:=iu.len;obtain rfl:=GJ.len;obtain rfl:=lU.len;obtain rfl:=_f.len;subst he;have ⟨R,hR⟩:=aj (aY k ⟨.mk so n a s,.mk fo n' a' s',ps.reverse⟩);rw[<-hR];have rj:=hR;rw[Ju]at rj;have ⟨n1,eh⟩:=aj a.length;have ⟨n2,i_⟩:=aj a'.length;have ⟨m1,iI⟩:=aj s.length;have ⟨m2,sO⟩:=aj s'.length;rw[<-eh]at hs iu;rw[<-iI]at hs lU;rw[<-i_]at hf GJ;rw[<-sO]at hf _f;rw[<-eh,<-i_,<-iI,<-sO];rw[<-eh,<-i_,<-iI,<-sO]at rj;have ⟨W1,bY⟩:=aj (W.alloc (.cells #[.int .u8 so,.string ⟨n.toArray⟩,.slice sa n1 sc,.slice sb m1 se,.int .u8 fo,.string ⟨n'.toArray⟩,.slice fa n2 fc,.slice fb m2 fe,.slice ca cl cc] 89));have hb1:=cM bY;have iM:=Gb bY;have x1:=bS bY;have kz:n.length<=16:=by have h:=iD _ hp.s;simp only[li,ae,br]at h;exact h.2.1
  have ma:=iD _ hp.s;simp only[li,ae,br]at ma;have sU:=iD _ hp.f;have ar:fitF (.mk fo n' a' s'):=⟨by have:=hp.n;simp only at this;omega,jK (by omega) _ sU⟩;exact qbj):G:=h
theorem qbL(h:G:=by
 have C7:=cZ.symm;simp only[ae,br]at C7;obtain ⟨hb1,bG,aG⟩:=C7;rw[dz]at hM;have HE:=ab hM;clear hM tN p9 DY cZ hb1 aG
 first
 |clear quz;have qoY:=();exact qak
 |clear quA;have qoX:=();exact qak
 |clear qvr;have qoT:=();exact qak
 |have qoQ:=();exact qak):G:=h
theorem qdo(h:G:=by
 have l2:=(hlk (W2.alloc (.cells #[.int .u8 0,.string ⟨#[]⟩,.slice none 0 0,.slice none 0 0] 36)).drew (bH _ _ _ (by have:=H2.o.2.2.fs.lt;omega))).1
 first
 |clear qvs;have O3:=ab (show R=true by rw[hE,hg]);have ⟨W3,dF⟩:=aj (W2.alloc (.cells #[.int .u8 0,.string ⟨#[]⟩,.slice none 0 0,.slice none 0 0] 36)).drew;have x3:W3.heap[w.heap.size+1]?=some (.cells #[.int .u8 16,.string ⟨n.toArray⟩,.slice sa n1 sc,.slice sb m1 se] 36 (0,0)):=by rw[dF];exact (aG.block _ (bA H2.o.2.1)).trans H2.o.2.1
  have i0:=ag x3 0;have bD:=ab (show Below w.heap.size w W3 by rw[dF];exact H2.o.1.tr aG.drew);clear hlk hg aG hE x3 Ip aT zC fC K1 GZ JB QB;have qir:=();exact qbO
 |clear qvt;rw[hg]at hE;simp only[show ¬((16:Int)=15) by decide,↓reduceIte]at hE;have qvu:=();exact qiI
 |have O3:=ab (show R=false by rw[hE,hg];rfl);exact qiI):G:=h
theorem qdp(h:G:=by
 go_roundw
 case rel=>exact ⟨k+1,by omega,by go_num,by rw[HS.o];simpa using HH.o.1,lj.o.trans HH.o.2⟩
 case measure=>simp[intOf];omega):G:=h
theorem qdq(h:G:=by
 have fv:=cM dF;have ji:=bS dF;rw[<-dF];have f0:=fun x:Later W3=>x.get (ag ji 0);have f1:=fun x:Later W3=>x.get (ag ji 1);have f2:=fun x:Later W3=>x.get (ag ji 2)
 first
 |clear qvv;have f3:=fun x:Later W3=>x.get (ag ji 3);have g0:=fun x:Later W3=>x.get (aa fv uZ.o);have qvw:=();exact qiJ
 |clear qvx;have f3:=fun x:Later W3=>x.get (aa fv uZ.o);have f4:=fun x:Later W3=>x.get (aa fv kZ.o.1);have f5:=fun x:Later W3=>x.get (aa fv kZ.o.2.1)
  first
  |clear qoi;have f6:=fun x:Later W3=>x.get (aa fv kZ.o.2.2);have bD:=ab fv;have CC:=ab (fun (x:Later W3)=>Rl.o ya[k] ps (.slice pa p0 pc) ok ok' x.w u u' (by rw[<-Aa.o];exact iG) Ad.o ((HU.o.later bD.o).later x.below) ((td.o.later bD.o).later x.below) ((t4.o.later bD.o).later x.below));have qvy:=();exact qbR
  |have f6:=fun x:Later W3=>x.get (aa fv kZ.o.2.2);have bD:=ab fv;have CC:=ab (fun (x:Later W3)=>Rl.o ya[k] ps (.slice pa p0 pc) ok ok' x.w u u' (by rw[<-Aa.o];exact iG) Ad.o (Dv HWf.o (ap bj)) ((HU.o.later bD.o).later x.below) ((td.o.later bD.o).later x.below) ((t4.o.later bD.o).later x.below));have qvz:=();exact qbR
 |have g0:=fun x:Later W3=>x.get (aa fv uZ.o);exact qiJ):G:=h
theorem qiK(h:G:=by
 simp only[beq_self_eq_true,Bool.and_self,dz]at hm;have e0:(uo == uo)=true:=by simp
 have e1:(uo != uo)=false:=by simp
 have e2:((k0:Int) != (k0:Int))=false:=by simp
 have e3:((k1:Int) != (k1:Int))=false:=by simp
 have ⟨qb,KY⟩:=aj (bm uo);rw[<-KY]at hm Js
 by_cases ND:((xn == yn) || qb)=true
 first
 |clear qvA
  ·simp only[ND,dz]at hm;clear KY;have qvB:=();exact qdr
  ·have Fg:R=false:=by rw[hm];rw[Bool.not_eq_true]at ND;rw[ND];simp
   have qvC:=();exact qiL
 |·simp only[ND,dz]at hm;clear KY;go_enter Tryz.func83,Tryz.ntmps83;cases qb
   ·have dD:xn=yn:=by simpa using ND
    subst dD;have qvD:=();exact qds
   ·have HM:Hd (R=(cf ps.reverse xa ya && cJ (ps ++ [(xn,yn)]).reverse xs ys)):=ab (by rw[hm];simp);clear hm;have qtN:=();exact qhG
  ·have Fg:R=false:=by rw[hm];rw[Bool.not_eq_true]at ND;rw[ND];simp
   exact qiL):G:=h
theorem qaD(h:G:=by
 have HE:Hd (BX=false):=ab (hM.trans (by simp))
 first
 |clear qiM;clear hM tN p9 DY;have qoV:=();exact qak
 |clear qvE;clear hM tN p9 DY Mt;have qoZ:=();exact qak
 |clear qie;clear hM tN p9 DY cZ;have qoS:=();exact qak
 |clear hM tN p9 DY cZ;have qoP:=();exact qak):G:=h
theorem qa5(h:G:=by
 obtain ⟨b,off,u,rfl,_,hu,c0,c1,c2,c3⟩:=fQ.o.get dy;have qvF:=();exact qaI):G:=h
theorem qdt(h:G:=by
 obtain ⟨gy,gz,rfl⟩:=hF.row.slice;rw[ce]at hF;have HR:=ab (j_ ▸ hF.row);have x2:=hF.box;have x1:=hF.other (by omega) jS.o;have x0:=hF.other (by omega) Lh.o
 first
 |clear qvG;have p2:Gz.cell? ⟨w.heap.size,2,none⟩=some (.slice qa k1 qc):=ag x0 2;have p3:Gz.cell? ⟨w.heap.size,3,none⟩=some (.slice qb m0 qe):=ag x0 3;have Oy:=ab x1;have Zn:=HR;have ⟨dY,zg,z9⟩:=cE aq hF.lt hF.size;have uY:=ab (Fills.start (R:=w.heap.size+1+1) (mk:=fun rr=>#[.int .u8 qo,.string ⟨n.toArray⟩,.slice gy k1 gz,rr]) (Row:=fun r W=>RowF Gz.heap.size r ((s.map bl).take 0) W) x2 (RowF.nil _ _));clear j_ ce hF x0 x1 x2 aq HR;gi_wp2;gi_loopw [31] (fun i wr=>∃k:Nat,k<=m0/\i=.int .i64 k/\∃row,Fills 36 (w.heap.size+1+1) Gz.heap.size (fun rr=>#[.int .u8 qo,.string ⟨n.toArray⟩,.slice gy k1 gz,rr]) (fun r W=>RowF Gz.heap.size r ((s.map bl).take k) W) Gz wr row) (fun i _=>m0 - (intOf i).toNat)
  case atStart=>exact ⟨0,aX _,rfl,_,uY.o⟩
  case round=>
   have qvH:=();exact qiN
 |clear qvI;have xu:=hF.other (by omega) HXU.o;have qvJ:=();exact qiO
 |have CQ:=fk ⟨so,⟨n.toArray⟩,sa,k1,sc,sb,m1,se⟩ Gz;simp only[FQ.val]at CQ;have ⟨e0,e1,e2,e3⟩:=nI x0;have KS:=ab CQ;have HE:=cq x0 x1 x2 aq;have zg:=ab hF.lt;have RF:=hF.size;clear CQ hF x0 x1 x2 aq j_ ce;exact qiP):G:=h
theorem qbS(h:G:=by
 simp only[TQ.val,cr,Array.mk.injEq,bP,and_true,Value.bool.injEq,Value.string.injEq]at h2;obtain ⟨rfl,rfl,rfl⟩:=h2
 first
 |clear qvK;exact qfA
 |clear qvL;have qob:=();exact qab
 |clear qvM;have qvf:=();exact qbF
 |simp only at d0 d1 d2;obtain rfl:=fC.len;obtain ⟨z0,z1,z2,y0,y1,y2⟩:=fV GG;have HW:=aA hw hyy;have HB:=sC GG bi hu fC hf jy;have Zp:(pq.drop (j+1)).length=j+1 - (j+1)+(n2 - (j+1)):=by rw[HN.o.2.1];simp
  have HDl:=ab Zp;clear Vu ce Ah bi uM LR GG dQ qJ hjp hBr hw ek hu fC hf jy hy hyy Zp;go_wp2;go_roundw
  case rel=>
   have x9:=qu (v0:=.bool uv) (v1:=.string ⟨xn.toArray⟩) (v2:=.slice ua xa.length uc) HB.o.1;have k9:=eN (W:=wr) (b:=wo.heap.size) (v0:=.bool uv) (v1:=.string ⟨xn.toArray⟩) (v2:=.slice ua xa.length uc);refine ⟨j+1,.mk uv xn xa,xa,⟨uv,⟨xn.toArray⟩,ua,xa.length,uc⟩,ua,uc,by omega,by go_num,rfl,HB.o.2.1.trans k9,x9,HB.o.2.2.2.1.move (fun b hb hlt=>⟨hb,k9.same b hlt (by have:=HZ.o;omega)⟩),HB.o.2.2.2.2.1.args,fun h=>?_,fun _=>⟨HB.o.2.2.1.move (fun b hb hlt=>⟨hb,k9.same b hlt (by have:=HZ.o;omega)⟩),HB.o.2.2.2.2.1,fun h=>?_⟩⟩
   ·rw[HW.o.1,BO (fun hd=>by have:=HDl.o;rw[hd]at this;simp at this;omega),HW.o.2];rfl
   ·have hd:pq.drop (j+1)=[]:=j6 (by have:=HDl.o;omega);rw[HW.o.1,hd];exact HW.o.2
  case measure=>simp[intOf];omega):G:=h
theorem qa7(h:G:=by
 rw[<-Ae.o]at CC;unfold FQ.val at CC;clear dF fv ji d0 d1 d2 d3 y2
 first
 |clear qdu;have qsF:=();exact qac
 |have qsG:=();exact qac):G:=h
theorem qcj(h:G:=by
 obtain ⟨es,_,ho,_⟩:=h;rcases f9 ho with ⟨rfl,h0⟩ | ⟨g,cap,rfl,_⟩
 ·exact ⟨none,0,by rw[h0]⟩
 ·exact ⟨_,_,rfl⟩):G:=h
theorem qiQ(h:G:=by
 refine bw 7 98 (.tuple #[.agg #[.bool u0,.string u1,.slice u2 u3 u4],.bool I.isSome]) rfl jz fun lM=>?_;simp only[af];refine bw 8 106 (.agg #[.bool u0,.string u1,.slice u2 u3 u4]) rfl lM fun qh=>?_;simp only[af];refine bw 9 107 (.bool I.isSome) rfl qh fun Eu=>?_;simp only[af]
 first
 |clear qvN;refine b_ 10 rfl fun K hK=>?_
  go_simp;have ⟨EB,yq⟩:=aj w6.heap.size;have ⟨A1,qi⟩:=aj (w6.alloc (.cells #[.bool false,.string ⟨#[]⟩,.slice none 0 0] 43));have ug:Below W5.heap.size W5 A1:=by rw[qi];exact H6.o.1.alloc H6.o.1.size _
  have zbt:=cM qi;exact qdv
 |refine b_ 11 rfl fun K hK=>?_
  go_simp;refine hK _ _ (fun _=>by rw[cR.o];exact Below.kp1 H6.o.1 eN (by have:=HA.o.2.2;omega)) (fun _=>?_);clear hK K;refine b_ 12 rfl fun K hK=>?_;have qqA:=();exact qaa):G:=h
theorem qiR(h:G:=by
 rintro l pre vs x W hl xj ⟨hn,bi⟩ ⟨u,rfl,hu⟩ _ dq;have ⟨HU,xU,HK,HLr,nK⟩:=qt hu hn bi xj dq;clear hn bi hu xj dq;unfold FQ.val;gi_wp2;have hB:Below W.heap.size W (W.alloc (.cells #[.int .u8 u.o,.string u.n,.slice u.a u.l u.c,.slice u.b u.m u.e] 36)):=cI
 first
 |clear qvO;refine ⟨Kp.below hB,⟨xU.o.later hB,HK.o.trans (Kp.below hB)⟩,fun W2 gw i_ iO=>?_⟩
  have qvP:=();exact qiS
 |refine ⟨Kp.below hB,⟨bN hB xU.o,HK.o.trans (Kp.below hB)⟩,fun W2 gw i_ iO=>?_⟩
  exact qiS):G:=h
theorem qdw(h:G:=by
 go_wp2_with (go_at_call 191;refine (CP.o _).mono ?_;rintro e w' ⟨rfl,rfl⟩);go_ret;exact ⟨rfl,ai _ _⟩):G:=h
theorem qdx(h:G:=by
 have kf:(!(xn == yn))=true:=by simpa using dD
 have HE:=ab (show R=false by rw[rk.o];simp[gG]);go_wp2
 first
 |clear qiT;rw[<-fj.o];go_ret;exact ⟨az HE.o.symm,cv.o.trans ((ai _ _).mono (by have:=cv.o.size;omega))⟩
 |go_ret;exact ⟨az HE.o.symm,cv.o.trans (HBp.o.mono (by have:=cv.o.size;omega))⟩):G:=h
theorem qdm(h:G:=by
 have HX:=bx Di kP h3;clear h2 h3 h4 hd dq Di kP hD;gi_wp2_with fail;refine eB (B:=w.heap.size) HX.o.2.1 (fun w' hn=>?_);have h0:=hn.cell (ag HX.o.2.2 0)
 first
 |clear qvQ;exact ⟨.int .i64 72,by simp[results,Tryz.results71,go_sem,h0],by rw[HE.o],jN HX.o.1 hn⟩
 |clear qvR;exact ⟨.int .i64 6,by simp[results,Tryz.results71,go_sem,h0],by rw[HE.o],jN HX.o.1 hn⟩
 |exact ⟨.int .i64 3,by simp[results,Tryz.results71,go_sem,h0],by rw[HE.o],jN HX.o.1 hn⟩):G:=h
theorem qb3(h:G:=by
 go_enter Tryz.func115,Tryz.ntmps115;go_wp2;go_ret;exact ⟨rfl,rfl⟩):G:=h
theorem qaH(h:G:=by
 obtain ⟨a,cap,hv,hc,h⟩:=h;refine ⟨a,cap,hv,hc,?_⟩
 first
 |clear qmh;rcases h with h | ⟨b,off,ha,hok,h⟩
  ·exact .inl h
  ·by_cases h0:l=[]
   ·exact .inl h0
   ·have hk:=hb b hok (World.block_lt_of_cell? W _ (h 0 (jp.2 h0)));exact .inr ⟨b,off,ha,hk.1,fun j hj=>dn hk.2 (h j hj)⟩
 |clear qey;rcases h with h | ⟨b,off,ha,h⟩
  ·exact .inl h
  ·exact .inr ⟨b,off,ha,fun j hj=>aa hb (h j hj)⟩
 |clear qmx;rcases h with ⟨h,_⟩ | ⟨b,off,ha,h⟩
  ·exact .inl h
  ·exact .inr ⟨b,off,ha,trivial,h⟩
 |clear qmy;rcases h with h | ⟨b,off,ha,h⟩
  ·exact .inl h
  ·subst ha;exact .inr ⟨b,off,rfl,fun j hj=>hk.cell (hf b (by rw[hv];rfl)) (h j hj)⟩
 |rcases h with h | ⟨b,off,ha,hok,h⟩
  ·exact .inl h
  ·exact .inr ⟨b,off,ha,hok,fun j hj=>(hg.cell_far _ (jR (h j hj)) (fun e=>jb b e.symm hok)).trans (h j hj)⟩):G:=h
theorem qiU(h:G:=by
 have ek:=ar.subs.len;have kz:=ar.name;have ⟨dT,fQ,AV,u_,fd⟩:=qt bB eb ar.args ar.subs ih;have qvS:=();exact qaN):G:=h
theorem qcw(h:G:=by
 go_wp2_with (go_at_call 164;refine (CC.o _ HW.o).mono ?_;rintro e w1 ⟨rfl,hb1⟩;have dY:=ab hb1;clear hb1);go_roundw
 first
 |clear qou
  case rel=>exact ⟨k+1,by omega,by go_num,HB.o.trans ((HW.o.trans (dY.o.mono HW.o.size)).mono HB.o.size),by rw[HS.o];simp⟩
  case measure=>simp[intOf];omega
 |clear qov
  case rel=>exact ⟨k+1,by omega,by go_num,HB.o.trans ((HW.o.trans (dY.o.mono HW.o.size)).mono HB.o.size),by rw[HS.o];simp;omega⟩
  case measure=>simp[intOf];omega
 |case rel=>exact ⟨k+1,by omega,by go_num,HB.o.trans ((HW.o.trans (dY.o.mono HW.o.size)).mono HB.o.size),by rw[HS.o,eh];simp⟩
  case measure=>simp[intOf];omega):G:=h
theorem qcd(h:G:=by
 obtain ⟨yv,yn,ya⟩:=u;obtain ⟨s1,h1,fC⟩:=aM.1 hq;obtain ⟨s2,h2,Ac⟩:=aM.1 iN;obtain ⟨uv,un,ua,ul,uc⟩:=q;obtain ⟨vv,vn,va,vl,vc⟩:=q'
 first
 |clear qmv;have qsZ:=();exact qaG
 |clear qmQ;have qs1:=();exact qaG
 |exact qaG):G:=h
theorem qiV(h:G:=by
 refine c_ 9 73 (.string ⟨yn.toArray⟩) rfl (fun V hX=>by have g1:=f1 V hX;go_simp) Eu fun vX=>?_;simp only[af];refine bw 10 74 (.agg #[.string ⟨xn.toArray⟩,.string ⟨yn.toArray⟩]) rfl vX fun Ev=>?_;simp only[af];refine b_ 11 rfl fun K hK=>?_;go_simp
 first
 |clear qvT;have m7:Below X4.heap.size X4 (X4.alloc (.cells #[.string ⟨xn.toArray⟩,.string ⟨yn.toArray⟩] 213)).drew:=((ai _ X4).alloc (aC _) _).drew;have qvU:=();exact qaM
 |have m7:Below X4.heap.size X4 (X4.alloc (.cells #[.string ⟨xn.toArray⟩,.string ⟨yn.toArray⟩] 196)).drew:=((ai _ X4).alloc (aC _) _).drew;have qvV:=();exact qaM):G:=h
theorem qiW(h:G:=by
 rw[hp];clear hp;have _o:=ab (fun (W:World) (h:Below W0.heap.size W0 W)=>zs ▸ HLk.o W h n);clear zs l_;have qvW:=();exact qiX):G:=h
theorem qhH(h:G:=by
 go_loopw [47] (fun i wr=>∃k:Nat,k<=k0/\i=.int .i64 k/\Below X0.heap.size X0 wr/\R=(cf ps.reverse (xa.drop k) (ya.drop k) && cJ (ps ++ [(xn,yn)]).reverse xs ys)) (fun i _=>k0 - (intOf i).toNat)
 case atStart=>exact ⟨0,aX _,rfl,ai _ _,by simpa using HM.o⟩
 first
 |clear qtO
  case round=>
   exact qaz
 |case round=>
   have qt5:=();exact qaz):G:=h
theorem qiY(h:G:=by
 have HX:=ab (show (w.alloc (.cells #[.int .u8 qo,.string ⟨n.toArray⟩,.slice qa m0 qc,.slice qb k0 qe] 36)).heap[w.heap.size]?=some (.cells #[.int .u8 qo,.string ⟨n.toArray⟩,.slice qa m0 qc,.slice qb k0 qe] 36 (0,0)) from ah rfl)
 first
 |clear qvX;go_enter Tryz.func97,Tryz.ntmps97;go_wp2_with (go_at_call 164;refine (CT.o _ HB.o).mono ?_;rintro e w1 ⟨rfl,hb1⟩;have p3:w1.cell? ⟨w.heap.size,3,none⟩=some (.slice qb k0 qe):=ag (bN hb1 HX.o) 3;have dY:=ab (HB.o.trans (hb1.mono HB.o.size));clear hb1);go_loopw [5,15] (fun r i wr=>∃k:Nat,k<=k0/\i=.int .i64 k/\Below w.heap.size w wr/\r=.int .i64 ((A+iq x (s.take k):Nat):Int)) (fun _ i _=>k0 - (intOf i).toNat)
  case atStart=>exact ⟨0,aX _,rfl,dY.o,by simp[iq]⟩
  case round=>
   obtain ⟨k,hk,rfl,aq,rfl⟩:=hrel
   by_cases hlt:k<k0
   ·have bj:=cb gt.o hlt;obtain ⟨b,off,u,rfl,_,hu,c0,c1,c2,c3⟩:=fQ.o.get bj;have js:=Ak x bj;have hb1:=wl x (s.take (k+1));have bG:=bQ s (k+1);have sL:nodesFs s<=nodesF (.mk qo n a s):=by unfold nodesF;omega
    exact qiZ
   ·obtain rfl:k=k0:=by omega
    have h1:s.take k=s:=by rw[gt.o];exact cK
    rw[h1];have cv:=ab aq;clear h1 aq;go_wp2;go_ret;exact ⟨rfl,cv.o⟩
 |have ⟨W1,bY⟩:=aj (w.alloc (.cells #[.int .u8 qo,.string ⟨n.toArray⟩,.slice qa m0 qc,.slice qb k0 qe] 36));have HB:=ab (show Below w.heap.size w W1 by rw[bY];exact cI);rw[<-bY]at HX;have f0:∀ x:Later W1,x.w.cell? ⟨w.heap.size,1,none⟩=some (.string ⟨n.toArray⟩):=fun x=>x.get (ag HX.o 1);have f1:∀ x:Later W1,x.w.cell? ⟨w.heap.size,2,none⟩=some (.slice qa m0 qc):=fun x=>x.get (ag HX.o 2);have jt:=ab bY;go_enter Tryz.func23,Tryz.ntmps23;clear bY;go_wp2;rw[<-jt.o];have qsH:=();exact qac):G:=h
theorem qdy(h:G:=by
 rw[<-eh];have ⟨W1,bY⟩:=aj (w.alloc (.cells #[.bool tv,.string ⟨n.toArray⟩,.slice ta n1 tc] 43));have hb1:=cM bY;have x1:=bS bY
 first
 |clear qvY;have hE:iS k.ts (.mk tv n a)=if (tv && dl n)=true then (getB k.ts n).isNone else a.any (iS k.ts):=by rw[iS,rt]
  have ⟨R,hR⟩:=aj (iS k.ts (.mk tv n a));rw[<-hR]at hE ⊢;have HE:=ab hE;have CA:=fun (V:World) (h:Below W1.heap.size W1 V)=>th (iS k.ts) a Io kb W0 (fun t ht=>ih t ht (lN.args.mem ht)) ok V ta n1 tc ((hb.tr hb1).tr h) ((iu.later hb1).later h);have GW:=ab CA;have qvZ:=();exact qi0
 |clear qv0;have ⟨R,hR⟩:=aj (qR k.ts (.mk tv n a));have hE:=hR;rw[qR]at hE;have qv1:=();exact qi1
 |have ⟨R,hR⟩:=aj (lh k.ts (.mk tv n a));have hE:=hR;rw[lh]at hE;exact qi1):G:=h
theorem qdz(h:G:=by
 have qv2:=();exact qds):G:=h
theorem qca(h:G:=by
 unfold Oper.wp execOp;simp only[ho,resolve,invoke,builtin,Sem.run_bind,Sem.run_pure,Result.andThen_ok,List.map_toArray,cC,List.map_nil,hs,hx,hr]
 first
 |clear qmm;exact hK _ _ (h v' w' h2 h3)
 |clear qmo;exact hK _ _ (h v' w' h3 h4)
 |exact hK _ _ (h v' w' h3 h4 h5)):G:=h
theorem qgh(h:G:=by
 have HQ:=fG uQ Es iG NY hpl;have HL:=sC hl xj AG iY Ii dq;clear h1 h2 h3 h4 h5 h6 h7 h8 uQ Es iG NY hpl hl xj AG iY Ii dq;gi_wp2;refine ⟨Kp.below HL.o.2.2.2.1,⟨k',zB,v_,Wh.o⟩,fun W2 gw xk iO=>?_⟩;obtain ⟨k2,nF2,Ey,g1,g2,g3,g4,g5,g6,g7,g8⟩:=xk
 first
 |clear qqo;have qpP:=();exact qaU
 |have qpR:=();exact qaU):G:=h
theorem qa6(h:G:=by
 have hx:=iU 63 r;simp at hs hx;have h1:((1:Int)<=((63 :: r).length:Int)):=by simp;omega
 first
 |clear qv3;exact qee
 |clear qv4;have qI:((r.length:Int)+1)<=16:=by simp at hl;omega
  clear h hp;exact qb1
 |clear qv5;have qI:((r.length:Int)+1)<=16:=by simp at hl;omega
  clear h hp;exact qb2
 |clear qtS;have c0:w.drew.cell? ⟨B,0,none⟩=some (.int .u8 so):=ag hB 0;have c1:w.drew.cell? ⟨B,1,none⟩=some (.string sn):=ag hB 1;have c2:w.drew.cell? ⟨B,2,none⟩=some (.slice sa sl sc):=ag hB 2;have c3:w.drew.cell? ⟨B,3,none⟩=some (.slice sb sm se):=ag hB 3;have c4:w.drew.cell? ⟨B,4,none⟩=some (.int .u8 fo):=ag hB 4;have c5:w.drew.cell? ⟨B,5,none⟩=some (.string fn):=ag hB 5;have c6:w.drew.cell? ⟨B,6,none⟩=some (.slice fa fl fc):=ag hB 6;have c7:w.drew.cell? ⟨B,7,none⟩=some (.slice fb fm fe):=ag hB 7;have c8:w.drew.cell? ⟨B,8,none⟩=some (.slice ca cl cc):=ag hB 8;have ⟨G,hG⟩:=aj ((ps.map (·.1)).contains r);rw[<-hG]at HC ⊢;clear hv hB hG;go_enter Tryz.func196,Tryz.ntmps196;go_upto_region 1 with fail;go_region_with (go_at_call 163;refine HC.o.mono ?_;rintro e w4 ⟨rfl,aR⟩;have H4:=ab (((ai w.heap.size w).drew).trans aR);clear aR)
  all_goals (go_wp2;go_ret;exact ⟨rfl,H4.o⟩)
 |clear h
  first
  |clear qlQ;exact qeh
  |go_enter Tryz.func67,Tryz.ntmps67;go_wp2_with (first | (go_at_call 119;refine (C1.o _).mono ?_;rintro e w' ⟨rfl,hb⟩) | (go_at_call 121;refine (mr r _ hr).mono ?_;rintro e QM ⟨rfl,bG⟩));exact qdA):G:=h
theorem qi2(h:G:=by
 have jD:Kp M w wr:=(Kp.below H4.o.1).trans bi;have gV:∀ b,b<w.heap.size->¬M b:=fun b hb=>by rw[HM.o];rintro (h | h) <;> omega
 have d0:=jD.cell (gV _ hok) c0;have d1:=jD.cell (gV _ hok) c1;have d2:=jD.cell (gV _ hok) c2;have d3:=jD.cell (gV _ hok) c3
 first
 |clear qv6;have d4:=jD.cell (gV _ hok) c4;have ⟨nm,dD⟩:=aj (b.fs[k].1);rw[<-dD]at d0;have qu3:=();exact qdk
 |have ⟨nm,dD⟩:=aj (b.ts[j].1);rw[<-dD]at d0;have qv7:=();exact qi3):G:=h
theorem qc5(h:G:=by
 obtain ⟨pa,pl,pc,rfl⟩:∃pa pl pc,v=.slice pa pl pc:=by obtain ⟨a,c,h,_⟩:=hp;exact ⟨_,_,_,h⟩
 obtain rfl:=hp.len;have uO:=hf.args
 first
 |clear qs0;have bW:=uO.len;have hm:=Ff ps.reverse uv vv xn yn xa ya;have qq6:=();exact qgx
 |clear qs4;have bW:=uO.len;have zev:(!uv || xa.isEmpty)=true:=by unfold jL at AA;simp only[ae]at AA;exact AA.1
  have HWf:Hd (dO xa=true):=ab (by unfold jL at AA;simp only[ae]at AA;exact AA.2);clear AA;have hm:=Ff ps.reverse uv vv xn yn xa ya;exact qgx
 |have hfs:=hf.subs;have bW:=uO.len
  first
  |clear qmU;have quN:=();exact qil
  |have HWf:Hd (dO xa=true):=ab (by unfold gS at AA;simp only[ae]at AA;exact AA.1);have HWs:Hd (eR xs=true):=ab (by unfold gS at AA;simp only[ae]at AA;exact AA.2);clear AA;exact qil):G:=h
theorem qgg(h:G:=by
 have Wh:=bx h1 (bN iY h2) (h3.trans (Kp.below iY));have HQ:=cq uQ iG NY hpl;have HL:=sC hl xj AG iY Ii dq;clear h1 h2 h3 uQ Es iG NY hpl hl xj AG iY Ii dq;gi_wp2;refine ⟨Kp.below HL.o.2.2.2.1,Wh.o,fun W2 gw xk iO=>?_⟩;obtain ⟨g1,g2,g3⟩:=xk
 first
 |clear qqk;have qpS:=();exact qaU
 |have qpU:=();exact qaU):G:=h
theorem qfw(h:G:=by
 obtain ⟨x0,x1,rfl⟩:=two (z_.trans (by kernel_rfl));obtain ⟨c0,r,rfl⟩:∃c0 r,cs=c0 :: r:=by cases cs with | nil=>simp at hcl | cons c r=>exact ⟨c,r,rfl⟩
 have h0:DataW.trod enc Tryz.prog W 0 iv held n 9 [c0]=some x0:=hf 0 _ rfl
 first
 |clear qn2;have h1:DataW.trod enc Tryz.prog W 0 iv held n 36 (r.take 4)=some x1:=hf 1 _ rfl;have hr:r.take 4=r:=iP (by simp at hcl;omega);rw[hr]at h1;obtain ⟨s,rfl,hs,_⟩:=n9 h0;obtain ⟨f,hf1,UL,hf3⟩:=xf n _ _ h1;obtain ⟨a,rfl,iu⟩:=MU hf1;have qv8:=();exact qi4
 |have h1:DataW.trod enc Tryz.prog W 0 iv held n 43 (r.take 3)=some x1:=hf 1 _ rfl;have hr:r.take 3=r:=iP (by simp at hcl;omega);rw[hr]at h1;obtain ⟨s,rfl,hs,_⟩:=n9 h0;obtain ⟨f,hf1,UL,hf3⟩:=xd n _ _ h1;obtain ⟨a,rfl,iu⟩:=MV hf1;exact qi4):G:=h
theorem qi5(h:G:=by
 rintro X Y hn ⟨h1,h2⟩;exact ⟨(hn.old Rw.o (bA h1)).trans h1,hn.os.trans h2.os,hn.tape.trans h2.tape,hn.output.trans h2.output,aN h2.size hn.size,fun b hb hm=>(hn.old hb (bJ hb h2.size)).trans (h2.same b hb hm)⟩):G:=h
theorem qi6(h:G:=by
 have le:j<ps.length:=by rw[<-Aa.o];omega
 rw[show (((j+1:Nat):Int) - 1)=(j:Int) by omega];rw[I' le,BB]at ht;obtain ⟨b,off,rfl,g0,g1⟩:=HP.o.get le;obtain ⟨⟨p1,p2⟩,hpj⟩:∃x,ps[j]=x:=⟨_,rfl⟩;rw[hpj]at ht g0 g1;simp only at ht g0 g1
 first
 |clear qv9;have aq:=cv.o.trans (dx.mono (by omega));have f0:=fun x:Later wr=>x.get (aa aq g0);have f1:=fun x:Later wr=>x.get (aa aq g1);have f2:=fun x:Later wr=>x.get (aa dx (ag HX.o 1));have f3:=fun x:Later wr=>x.get (aa dx (ag HY.o 1));have hjj:(j:Int)<(p0:Int):=by omega
  have ⟨mx,cz⟩:=aS dx aq;clear dx aq g0 g1 hpj
  by_cases ha:p1=xn <;> by_cases hb:p2=yn
  ·subst ha;subst hb;have qwa:=();exact qi7
  ·subst ha;have qwb:=();exact qi8
  ·subst hb;have qwc:=();exact qi9
  ·have gG:(p1 == xn)=false:=by simpa using ha
   have qwd:=();exact qja
 |have aq:=cv.o.trans (dx.mono cv.o.size);have ⟨f0,f1⟩:=AN aq g0 g1;exact qjb):G:=h
theorem qhA(h:G:=by
 intro us3 _X wq hrel;obtain ⟨j,hj,_Y,ze,bi,Iq,fC,kj,PA,PB,d_,sL,qW,FU,ik⟩:=hrel;exact qfa):G:=h
theorem qbk(h:G:=by
 have e:(ao a).filter (fun x=>!([]:List Str).contains x)=ao a:=List.filter_eq_self.2 (fun x _=>by simp)
 first
 |clear qnh;simp only[jF,aL,e,List.flatMap_append]
  by_cases hq:bm o=true
  ·rw[aw hq,aw hq];simp only[Sk,wA σ a h.1,Ck s _ _ h.2];rw[JN,ib]
  ·rw[ak hq,ak hq];simp only[Sk,wA σ a h.1,Ck s _ _ h.2]
 |clear qni;simp only[ea,aL,e,List.mem_append,not_or,Nat.add_eq_zero_iff,ur x a,ih]
  by_cases hq:bm o=true
  ·rw[aw hq,ib,List.mem_filter];have qwe:=();exact qjc
  ·rw[ak hq]
 |clear qnk;simp only[ea,aL,e,List.count_append,rA,ih]
  by_cases hq:bm o=true
  ·rw[aw hq,ib];exact qjc
  ·rw[ak hq]
 |have h1:=Cv σ a h.1;simp only[jF,aL,e,nodesF,cU,List.map_append,List.sum_append]
  by_cases hq:bm o=true
  ·rw[aw hq,aw hq,ib];have h2:=Cw s (upd σ n (.lvl d)) (d+1) h.2;have h3:=NS σ n d (bn [] s);simp only[Mb];omega
  ·rw[ak hq,ak hq];have h2:=Cw s σ d h.2;simp only[Mb];omega):G:=h
theorem qjd(h:G:=by
 have j4:=H3.o.2.2.later H5.o;obtain ⟨⟨z0,z1,z2,z3,z4⟩,Ym,GY,Nu,_,_,Cb⟩:=j4.termOf (x:=y) (by have:=HY.o.1;omega);simp only[TQ.val]at Cb;have bj:=j4.ts.lt;exact qib):G:=h
theorem qic(h:G:=by
 rw[<-dQ];have hw:IntKind.i64.wrap ((m0:Int)+(m2:Int))=((m0+m2:Nat):Int):=by rw[gU _ (by omega)];simp
 have lJ:=ab CC;have Ns:=ab (show m0+m2=ew k.ts (a.take (j+1))+1 by omega);have pH:=ab e_;have HB:=aA aq bh;have z7:(j:Int)<(n1:Int):=by omega
 first
 |clear qup;clear CC dQ sO cD Ei vR L7 e_ bh aq hx hok c0 c1 c2;exact qiH
 |clear CC dQ iI cD Ei vR L7 e_ bh aq yr hx hok c0 c1 c2;exact qiH):G:=h
theorem qdB(h:G:=by
 rw[jt.o]at e0 e1 e2;simp only[TQ.val];go_enter Tryz.func193,Tryz.ntmps193
 first
 |clear qwf;go_wp2_with (rw[<-jt.o];go_at_call 192;refine Au.o.mono ?_;rintro e w4 ⟨rfl,aR⟩;have H4:=ab aR;clear aR);go_ret;exact ⟨by rw[HE3.o];rfl,H1.o.1.tr H4.o⟩
 |clear qwg;go_wp2_with (first | (rw[<-jt.o];go_at_call 119;refine t7.o.mono ?_;rintro e w3 ⟨rfl,aG⟩;have x3:=bN aG H1.o.2.1;obtain ⟨q0,q1,q2,_⟩:=fV x3;have H3:=ab aG;clear aG x3) | (go_at_call 192;refine (GW.o w3 H3.o).mono ?_;rintro e w4 ⟨rfl,aR⟩;have H4:=ab aR;clear aR));go_ret;exact ⟨by rw[HE3.o];rfl,H1.o.1.tr (H3.o.tr H4.o)⟩
 |go_wp2_with (rw[<-jt.o];go_at_call 119;refine t7.o.mono ?_;rintro e w3 ⟨rfl,aG⟩;have H3:=ab aG;clear aG);clear e0 e1 e2;have l9:=(KZ.o.later H1.o.2.2).later H3.o;have x3:=bN H3.o H1.o.2.1;have g0:w3.cell? ⟨kb,1,none⟩=some (.map (some mT)):=ag l9.box 1;have g1:w3.drew.cell? ⟨kb,1,none⟩=some (.map (some mT)):=ag l9.box 1;have g2:w3.cell? ⟨w.heap.size,1,none⟩=some (.string ⟨n.toArray⟩):=ag x3 1;have g3:w3.drew.cell? ⟨w.heap.size,1,none⟩=some (.string ⟨n.toArray⟩):=g2;have cF:Below w3.heap.size w3 (w3.alloc (.cells #[.bool false,.string ⟨#[]⟩,.slice none 0 0] 43)):=cI;exact qhv):G:=h
theorem qai(h:G:=by
 obtain ⟨b,off,u,rfl,_,hu,c0,c1,c2⟩:=dT.o.get dy
 first
 |clear qwh;have qom:=();exact qab
 |clear qwi;have qon:=();exact qab
 |clear qwj;have qof:=();exact qab
 |clear qwk;have qn5:=();exact qab
 |clear qwl;have qod:=();exact qab
 |clear qwm;have qoy:=();exact qab
 |clear qwn;have qol:=();exact qab
 |clear qwo;have qoj:=();exact qab
 |clear qwp;have qoC:=();exact qab
 |clear qwq;have qn7:=();exact qab
 |clear qwr;have qn9:=();exact qab
 |have qoA:=();exact qab):G:=h
theorem qgt(h:G:=by
 go_wp2;go_loopw [80] (fun i wr=>∃k:Nat,k<=k1/\i=.int .i64 k/\Below X5.heap.size X5 wr/\R=cJ (ps ++ [(xn,yn)]).reverse (xs.drop k) (ys.drop k)) (fun i _=>k1 - (intOf i).toNat)
 case atStart=>exact ⟨0,aX _,rfl,ai _ _,by simpa using NE.o⟩
 first
 |clear qqZ
  case round=>
   have qws:=();exact qaX
 |case round=>
   have qwt:=();exact qaX):G:=h
theorem qim(h:G:=by
 exact qin):G:=h
theorem qis(h:G:=by
 go_roundw
 case rel=>exact ⟨j+1,by omega,by go_num,by rw[HT.o];exact Vr.o.1,(oV (M:=fun _=>False) (Kp.below (HB.o.1.tr H6.o.1)) Vr.o.2 (fun g hg=>(HB.o.2.2.lt g hg).1)).empty⟩
 case measure=>simp[intOf];omega):G:=h
theorem qje(h:G:=by
 go_upto_region 1 with fail;rw[<-jt.o];go_upto_region 2 with (go_at_call 119;refine t7.o.mono ?_;rintro e w3 ⟨rfl,aG⟩;have H3:=ab aG;clear aG);have l9:=(KZ.o.later H1.o.2.2).later H3.o;have x3:=bN H3.o H1.o.2.1
 first
 |clear qwu;have qwv:=();exact qjf
 |obtain ⟨⟨z0,z1,z2,z3,z4⟩,hz,GY,Nu,Sd,_,Cb⟩:=l9.termOf (x:=n) kz;simp only[TQ.val]at Cb;have bj:=l9.ts.lt;have qww:=();exact qcT):G:=h
theorem qgH(h:G:=by
 rw[l_]at HM;have Ec:keyOf Tryz.prog 9 (.string ⟨n.toArray⟩)=some (.string n):=by rw[WideMaps.keyOf_string_mk Tryz.underlying9 (by have e:(⟨n.toArray⟩:ByteArray).size=n.length:=rfl;rw[e];unfold maxLen;omega)]
 first
 |clear qwx;have hpl:P.length<maxLen:=by have:=Fh.o;unfold maxLen;omega
  go_wp2_with (first | rw[<-pH.o] | (go_at_call 119;refine HM.o.mono ?_;rintro e w3 ⟨rfl,aG⟩;have g1:=aa aG e1;have g2:=aa aG e2;obtain ⟨D,au,pz,qA⟩:=HB.o.2.1.same (aG.block m HB.o.2.1.lt);have HD:=bx au pz qA;have H3:=ab aG;clear aG pz qA) | (at_mapUpdate;refine wpList_mapUpdate_own _ rfl _ _ _ 118 rfl 9 4 (Maps.string_keyed Tryz.underlying9) Tryz.underlying118 (plainElem Tryz.prog 4) m P.length D rfl au hpl _ _ (.string n) rfl rfl Ec (.lit (.bool true)) [] (plainElem_bool Tryz.underlying4 true) ?_;intro w4 aO am;have kD:Kp (fun b=>b=m) W5 w4:=(Kp.below H3.o).trans (Kp.grown am rfl);have g3:=kD.cell (a:=⟨wr.heap.size,2,none⟩) (by have:=HMl.o;show ¬wr.heap.size=m;omega) e2;have yh:=SetW.more n HD.o.1 HD.o.2.1 HD.o.2.2 aO;have MK:=HB.o.2.2.1.trans kD;have C:=ab (CC.o w4 (P ++ [n]) yh MK (by have:=Fh.o;rw[cU];simp;omega));have H4:=ab MK;clear aO am kD yh MK au g1 g2) | (go_at_call 132;refine C.o.mono ?_;rintro e w6 ⟨rfl,sd,n8⟩;have H6:=aA sd n8;clear sd n8));go_roundw
  case rel=>exact ⟨j+1,by omega,by go_num,by have:=H6.o.1;rw[HT.o];simpa[UQ,l_,HP.o] using this,H4.o.trans H6.o.2⟩
  case measure=>simp[intOf];omega
 |have hpl:pre.length<maxLen:=by have:=HP.o.2.2;unfold maxLen;omega
  have HQ:=ab hP;clear hP hc l_ VL;rcases ho with rfl | rfl
  all_goals
   go_wp2_with (first | (go_at_call 119;refine HM.o.mono ?_;rintro e w3 ⟨rfl,aG⟩;have g1:=aa aG e1;obtain ⟨D,au,pz,qA⟩:=HS.o.same (aG.block m HS.o.lt);have HD:=bx au pz qA;have H3:=ab aG;clear aG pz qA) | (at_mapUpdate;refine wpList_mapUpdate_own _ rfl _ _ _ 118 rfl 9 4 (Maps.string_keyed Tryz.underlying9) Tryz.underlying118 (plainElem Tryz.prog 4) m pre.length D rfl au hpl _ _ (.string n) rfl rfl Ec (.lit (.bool true)) [] (plainElem_bool Tryz.underlying4 true) ?_;intro w4 aO am;have kD:Kp (fun b=>b=m) W1 w4:=(Kp.below H3.o).trans (Kp.grown am rfl);have yh:=SetW.more n HD.o.1 HD.o.2.1 HD.o.2.2 aO;have g3:=kD.cell (a:=⟨w.heap.size,3,none⟩) (by have:=HB.o.2.2;show ¬w.heap.size=m;omega) e3;have g2:=kD.cell (a:=⟨w.heap.size,2,none⟩) (by have:=HB.o.2.2;show ¬w.heap.size=m;omega) e2;have MK:=(Kp.below HB.o.1).trans kD;have C:=ab (CT.o w4 (by rw[HQ.o];exact yh) MK);have H4:=ab MK;clear aO am kD MK yh au g1) | (go_at_call 132;refine C.o.mono ?_;rintro e w5 ⟨rfl,zt,nE⟩;have f3:=nE.cell (a:=⟨w.heap.size,3,none⟩) (by have:=HB.o.2.2;show ¬w.heap.size=m;omega) g3;have H5:=aA zt (H4.o.trans nE);clear zt nE));go_loopw [29] (fun i wr=>∃j:Nat,j<=n1/\i=.int .i64 j/\SetW wr m (P ++ j5 a ++ lx (s.take j)).length (P ++ j5 a ++ lx (s.take j))/\Kp (fun b=>b=m) w wr) (fun i _=>n1 - (intOf i).toNat)
   case atStart=>exact ⟨0,aX _,rfl,by simpa[lx] using H5.o.1,H5.o.2⟩
   case round=>
    exact qbm):G:=h
theorem qfU(h:G:=by
 have Sf:=ab Mr;have U4:¬((m3:Int)=(ni:Int)):=by omega
 have Zr:((m3:Int) == (ni:Int))=false:=by simp;omega
 have HK9:=ab CY;clear mz CY x27 _K _L Mr;go_wp2;go_ret;exact StepPost.bad Sf.o (by decide) HK9.o):G:=h
theorem qaP(h:G:=by
 have iN:=hq1;simp only[gS,ae]at hw;simp only[qone,ae]at hq1;simp only[depthF]at hd
 first
 |clear qmc
  by_cases hq:bm o=true
  ·obtain ⟨rfl,g,rfl⟩:=pD hq iN;have qwy:=();exact qdC
  ·have hq:bm o=false:=by simpa using hq
   rw[x_ hq];have ih:∀ g∈s,_:=fun g hg=>gL k g x y ((jM s).1 hw.2 g hg) ((jh s).1 hq1.2 g hg) (by have:=ll s g hg;omega);refine ⟨?_,?_,?_,?_⟩
   ·simp only[gS,ae];refine ⟨vH (Nl y) a hw.1,(jM _).2 fun g hg=>?_⟩;have qjg:=();exact qa8
   ·simp only[qone,hq,Bool.not_false,Bool.true_or,dz];refine (jh _).2 fun g hg=>?_;have qwz:=();exact qa8
   ·simp only[depthF];rw[rh a hw.1,Bu s (fun g hg=>(ih g hg).2.2.1)]
   ·simp only[nodesF];rw[ri a hw.1,Bt s (fun g hg=>(ih g hg).2.2.2)]
 |clear qmd;simp only[nodesF]at hn
  by_cases hq:bm o=true
  ·obtain ⟨rfl,g,rfl⟩:=pD hq iN;simp only[eR,fF,Bool.and_true,aV,nodesFs]at hw hq1 hd hn;have qwA:=();exact qdD
  ·have hq:bm o=false:=by simpa using hq
   rw[x_ hq];simp only[jF,hq,bO,↓reduceIte,rg];rw[IY _ _ _ d s (fun g hg=>nS k g x u σ d ((jM s).1 hw.2 g hg) ((jh s).1 hq1.2 g hg) (by have:=ll s g hg;omega) (by have:=ln s g hg;omega))]
 |clear qmD;simp only[nodesF]at hs;simp only[li,ae,br]at hf
  by_cases hq:bm o=true
  ·obtain ⟨rfl,g,rfl⟩:=pD hq iN;simp only[eR,fF,Bool.and_true,aV,nodesFs,nmFs]at hw hq1 hd hs hf;have qwB:=();exact qdD
  ·have hq:bm o=false:=by simpa using hq
   rw[x_ hq];simp only[li,ae,br];refine ⟨hf.1,hf.2.1,BL hu a hf.2.2.1,qT.2 fun g hg=>?_⟩;have qwC:=();exact qa8
 |clear qmT
  by_cases hq:bm o=true
  ·obtain ⟨rfl,g,rfl⟩:=pD hq iN;have qwD:=();exact qdC
  ·have hq:bm o=false:=by simpa using hq
   rw[x_ hq];have h1:=B8 (x:=x) (u:=u) a;have h2:=RY (φ:=fI k x u) (U:=nodesT u) s (fun g hg=>we k g x u ((jM s).1 hw.2 g hg) ((jh s).1 hq1.2 g hg) (by have:=ll s g hg;omega));simp only[nodesF,Nat.add_mul];omega
 |by_cases hq:bm o=true
  ·obtain ⟨rfl,g,rfl⟩:=pD hq iN;exact qdC
  ·have hq:bm o=false:=by simpa using hq
   rw[x_ hq];have ih:∀ g∈s,_:=fun g hg=>pR hu k g x ((jM s).1 hw.2 g hg) ((jh s).1 hq1.2 g hg) (by have:=ll s g hg;omega);refine ⟨?_,?_⟩
   ·simp only[gS,ae];refine ⟨vH hu a hw.1,(jM _).2 fun g hg=>?_⟩;have qjg:=();exact qa8
   ·simp only[qone,hq,Bool.not_false,Bool.true_or,dz];refine (jh _).2 fun g hg=>?_;exact qa8):G:=h
theorem qbN(h:G:=by
 exact qiN):G:=h
theorem qdE(h:G:=by
 go_roundw
 case rel=>exact ⟨k+1,by omega,by go_num,HB.o.tr H4.o,BH.o⟩
 case measure=>simp[intOf];omega):G:=h
theorem qhY(h:G:=by
 go_roundw
 case rel=>exact ⟨k+1,by omega,by go_num,lj.o.trans ((Kp.below cI).trans rG.o.1),by rw[<-HR.o.2.2.2,<-rG.o.2.2];exact rG.o.2.1,HR.o.1,HR.o.2.1,HR.o.2.2.1⟩
 case measure=>simp[intOf];omega):G:=h
theorem qdv(h:G:=by
 have Fx:A1.heap[EB]?=some (.cells #[.bool false,.string ⟨#[]⟩,.slice none 0 0] 43 (0,0)):=by rw[qi,yq];exact ah rfl
 first
 |clear qwE;rw[<-qi,<-yq];have NH:W5.heap.size<=EB:=by have:=bZ.size;omega
  have H7:=cq Fx NH (bZ.tr ug) (hp.move (W':=A1) (ok':=fun b=>W5.heap.size<=b/\b≠EB) (fun b hb hlt=>⟨⟨aN yV.size hb,by omega⟩,ug.block b hlt⟩));have qwF:=();exact qbT
 |clear qwG;have NH:W5.heap.size=EB:=yq.symm;have qwH:=();exact qjh
 |rw[<-qi,<-yq];have HA:=cq ug zbt Fx yq;refine hK _ _ (fun _=>by rw[cR.o];exact HA.o.1) (fun _=>?_);obtain ⟨z0,z1,z2,y0',y1',y2'⟩:=fV Fx;clear hK K qi yq ug zbt Fx;refine b_ 11 rfl fun K hK=>?_;go_simp;refine hK _ _ (fun _=>by rw[cR.o];exact Below.kp1 HA.o.1 eN (by have:=HA.o.2.2.2;have:=H6.o.1.size;omega)) (fun _=>?_);clear hK K;refine b_ 12 rfl fun K hK=>?_;have qqz:=();exact qaa):G:=h
theorem qji(h:G:=by
 have Xy:k<fs.length:=by have:=gt.o;omega
 obtain ⟨bs,os,u,rfl,jy,hu,c0,c1,c2,c3⟩:=HSs.o.get y';obtain ⟨bf,of,v,rfl,GI,hv,e0,e1,e2,e3⟩:=Qz.o.get Xy;have jD:=BR.o.2.trans bi;have d0:=jD.cell jy.2 c0;have g0:=jD.cell GI.2 e0
 first
 |clear qwI;exact qga
 |have qwJ:=();exact qga):G:=h
theorem qdg(h:G:=by
 obtain ⟨eu,au,gd⟩:=HH.o;obtain ⟨hp,bZ⟩:=RC.o;obtain ⟨aO,am,hg⟩:=HG.o;have yh:=am.size;simp only[World.size_alloc]at yh
 first
 |clear qwK;have h4:=RowT.step (lo:=w.heap.size) (v:=.slice ra k rc) (ts:=(dC ns l).take k) (t:=eQ ns qv n al j) (W:=W5) (W1:=wr) (w4:=w4) (q:=⟨q0,q1,q2,q3,q4⟩) (g:=g) (cap:=eF) (by rw[dU.o];exact eu) bZ Jg (fun j h1 h2=>gd j h1 h2) (fun b hb=>(au.lt b hb).2) (hp.move (fun b hok _=>⟨hok.1,rfl⟩)) (by rw[dU.o];exact aO)
   (fun c _ hc hn=>(am.block c (by simp;omega) (fun e=>hn e.symm)).trans (bH _ _ _ (by omega))) (by rcases hg with h | h;exact .inl h;exact .inr (by omega))
  rw[dU.o,<-og.o]at h4;exact ⟨k+1,by omega,by go_num,h4,((HB.o.trans (bZ.mono Jg)).alloc (by omega) _).grown am (by simp;omega) (fun c hc=>(au.lt c hc).1)⟩
 |clear quP;have h4:=RowF.step (lo:=w.heap.size) (v:=.slice ra k rc) (ts:=l.take k) (t:=l[k]) (W:=wr) (W1:=A) (w4:=w4) (q:=p) (g:=g) (cap:=eF) (by rw[dU.o];exact eu) bZ Jg (fun j h1 h2=>gd j h1 h2) (fun b hb=>(au.lt b hb).2) (hp.move (fun b hok _=>⟨aN (by simp) hok,rfl⟩)) (by rw[dU.o];exact aO)
   (fun c _ hc hn=>(am.block c (by simp;omega) (fun e=>hn e.symm)).trans (bH _ _ _ (by omega))) (by rcases hg with h | h;exact .inl h;exact .inr (by omega))
  exact qjj
 |have h4:=RowT.step (lo:=w.heap.size) (v:=.slice ra k rc) (ts:=l.take k) (t:=l[k]) (W:=wr) (W1:=A) (w4:=w4) (q:=p) (g:=g) (cap:=eF) (by rw[dU.o];exact eu) bZ Jg (fun j h1 h2=>gd j h1 h2) (fun b hb=>(au.lt b hb).2) (hp.move (fun b hok _=>⟨aN (by simp) hok,rfl⟩)) (by rw[dU.o];exact aO)
   (fun c _ hc hn=>(am.block c (by simp;omega) (fun e=>hn e.symm)).trans (bH _ _ _ (by omega))) (by rcases hg with h | h;exact .inl h;exact .inr (by omega))
  exact qjj):G:=h
theorem qat(h:G:=by
 go_wp2;go_ret;exact ⟨rfl,ai _ _⟩):G:=h
theorem qdF(h:G:=by
 go_enter Tryz.func195,Tryz.ntmps195;go_upto_region 2 with fail;rw[<-fj.o]
 first
 |clear qwL;have e0:=ag H2.o.2.1 0;go_upto_region 4 with fail;clear e0;have qwM:=();exact qdG
 |clear qwN;go_upto_region 6 with fail;go_upto_region 7 with (go_at_call 96;refine Ip.o.mono ?_;rintro e w4 ⟨rfl,aR⟩;have H4:=ab aR;clear aR);clear e0 e1 e2 e3;have ⟨W5,e_⟩:=aj (w4.alloc (.cells #[.string ⟨dm.toArray⟩] 9));have G1:Below W2.heap.size W2 W5:=by rw[e_];exact H4.o.tr cI
  have y5:=bS e_;rw[<-e_];clear e_;have x5:=bN G1 H2.o.2.1;have j4:=H2.o.2.2.later G1;have zbv:=H2.o.2.2.fs.lt;exact qaS
 |go_wp2_with fail;clear e0 e1 e2 e3;go_loopw [9,64] (fun r i wr=>∃j:Nat,j<=n1/\i=.int .i64 j/\OwnS W2.heap.size wr r (dX k.ts (a.take j))/\Below W2.heap.size W2 wr) (fun _ i _=>n1 - (intOf i).toNat)
  case atStart=>exact ⟨0,aX _,rfl,OwnS.nil _ _,ai _ _⟩
  case round=>
   obtain ⟨j,hj,rfl,de,aq⟩:=hrel
   by_cases hlt:j<n1
   ·have gZ:=cb HN.o hlt;have qwO:=();exact qbE
   ·obtain rfl:n1=j:=by omega
    have ce:a.take n1=a:=by rw[HN.o];exact cK
    rw[ce]at de;have HK:=aA (H2.o.1.tr aq) (de.base H2.o.1.size);exact qhr):G:=h
theorem qh0(h:G:=by
 have Te:Below w.heap.size w W9:=Below.kp1 (Ja.o.1.tr Td.o.1) PG (by omega);obtain ⟨c0,c1,c2,c3,_,_,_,_⟩:=dc Δ;obtain ⟨e0,e1,e2,e3,z0,z1,z2,z3⟩:=dc Ε;have H9:=bx BN Te Ε;clear Δ PG Ε y9 hF9 BN Te sK f0 f1 dN;gi_wp2
 first
 |clear qua;have x6:=lZ (v0:=.int .u8 so) (v1:=.string ⟨n.toArray⟩) (v2:=.slice gy 0 gz) (v3:=.slice (some ⟨w6.heap.size,0,none⟩) 1 1) H9.o.2.2;have k6:=dM (W:=W9) (b:=w.heap.size+1) (v0:=.int .u8 so) (v1:=.string ⟨n.toArray⟩) (v2:=.slice gy 0 gz) (v3:=.slice (some ⟨w6.heap.size,0,none⟩) 1 1);have ⟨W6,cQ⟩:=aj ((((W9.setCell ⟨w.heap.size+1,0,none⟩ (.int .u8 so)).setCell ⟨w.heap.size+1,1,none⟩ (.string ⟨n.toArray⟩)).setCell ⟨w.heap.size+1,2,none⟩ (.slice gy 0 gz)).setCell ⟨w.heap.size+1,3,none⟩ (.slice (some ⟨w6.heap.size,0,none⟩) 1 1));have qwP:=();exact qdH
 |have x6:=lZ (v0:=.int .u8 so) (v1:=.string ⟨m.toArray⟩) (v2:=.slice gy 0 gz) (v3:=.slice (some ⟨w6.heap.size,0,none⟩) 1 1) H9.o.2.2;have k6:=dM (W:=W9) (b:=w.heap.size+1) (v0:=.int .u8 so) (v1:=.string ⟨m.toArray⟩) (v2:=.slice gy 0 gz) (v3:=.slice (some ⟨w6.heap.size,0,none⟩) 1 1);have ⟨W6,cQ⟩:=aj ((((W9.setCell ⟨w.heap.size+1,0,none⟩ (.int .u8 so)).setCell ⟨w.heap.size+1,1,none⟩ (.string ⟨m.toArray⟩)).setCell ⟨w.heap.size+1,2,none⟩ (.slice gy 0 gz)).setCell ⟨w.heap.size+1,3,none⟩ (.slice (some ⟨w6.heap.size,0,none⟩) 1 1));have qwQ:=();exact qdH):G:=h
theorem qjk(h:G:=by
 have ⟨k0,cd⟩:=aj l.length;have ⟨m0,dQ⟩:=aj m.length;rw[jb,<-cd,<-dQ];rw[<-cd,<-dQ]at o8;have d1:((k0:Int) == (m0:Int))=false:=by simp;omega
 have d2:((k0:Int) != (m0:Int))=true:=by simp;omega
 clear jb hl hm ar cd dQ ih
 first
 |clear qwR;have qwS:=();exact qjl
 |go_enter Tryz.func52,Tryz.ntmps52;exact qat):G:=h
theorem qcs(h:G:=by
 go_enter Tryz.func14,Tryz.ntmps14;go_wp2
 first
 |clear qfl;go_ret;exact ⟨by rw[HE.o];rfl,by rw[<-HWW.o];exact jt.o.1⟩
 |rw[<-HWW.o];clear e0 e1;go_loopw [3,4] (fun r i wr=>∃k:Nat,k<=k0/\i=.int .i64 k/\RowX W1.heap.size r (kT (bd.fs.take k)) wr/\Below W1.heap.size W1 wr) (fun _ i _=>k0 - (intOf i).toNat)
  case atStart=>exact ⟨0,aX _,rfl,RowX.nil _ _,ai _ _⟩
  case round=>
   exact qdI):G:=h
theorem qaS(h:G:=by
 obtain ⟨S,hS⟩:∃S:World->Prop,S=fun V=>Below W5.heap.size W5 V:=⟨_,rfl⟩
 first
 |clear qnX;have ff:∀ V,S V->V.cell? ⟨w.heap.size,0,none⟩=some (.int .u8 q.o)/\V.cell? ⟨w.heap.size,1,none⟩=some (.string q.n)/\V.cell? ⟨w.heap.size,2,none⟩=some (.slice q.a q.l q.c)/\V.cell? ⟨w.heap.size,3,none⟩=some (.slice q.b q.m q.e):=fun V h=>by rw[hS]at h;exact ⟨aa h (ag y0 0),aa h (ag y0 1),aa h (ag y0 2),aa h (ag y0 3)⟩
  have fg:∀ V,S V->V.cell? ⟨w.heap.size+1,0,none⟩=some (.int .u8 q'.o)/\V.cell? ⟨w.heap.size+1,1,none⟩=some (.string q'.n)/\V.cell? ⟨w.heap.size+1,2,none⟩=some (.slice q'.a q'.l q'.c)/\V.cell? ⟨w.heap.size+1,3,none⟩=some (.slice q'.b q'.m q'.e):=fun V h=>by rw[hS]at h;exact ⟨aa h (ag y1 0),aa h (ag y1 1),aa h (ag y1 2),aa h (ag y1 3)⟩
  have dN:S W5.drew:=by rw[hS];exact (ai _ _).drew
  have cR:=ab hS;have bD:=ab (H0.o.1.tr aG);have tb:=ab (fun (V:World) (hb:Below W5.heap.size W5 V)=>DI ns jw.o.2.2 f jw.o.1 _ _ V q _ (((H0.o.2.2.2.1.later H0.o.1).later aG).later hb) (cD.later hb));have HD:=ab (fun (V:World) (hb:Below W5.heap.size W5 V)=>DI ns jw.o.2.2 g jw.o.2.1 _ _ V q' _ (((H0.o.2.2.2.2.later H0.o.1).later aG).later hb) (cD.later hb));have HT3:=ab (J8.o.next bD.o);simp only[FQ.val]at tb HD;clear cD aG y0 y1 hS;have jx:=eU;go_wp2;refine (wpIn_wide (n:=3)).1 ?_;refine lF S 6 dN fun jE bV=>?_;refine c_ 0 10 (.agg #[.int .u8 q.o,.string q.n,.slice q.a q.l q.c,.slice q.b q.m q.e]) rfl (fun V hX=>by obtain ⟨h0,h1,h2,h3⟩:=ff V hX;go_simp) bV fun cB=>?_;simp only[af];refine bw 1 11 (.slice na ns.length nc) rfl cB fun fB=>?_;simp only[af];refine c_ 3 13 (.agg #[.int .u8 q'.o,.string q'.n,.slice q'.a q'.l q'.c,.slice q'.b q'.m q'.e]) rfl (fun V hX=>by obtain ⟨h0,h1,h2,h3⟩:=fg V hX;go_simp) fB fun gq=>?_;simp only[af];refine bw 4 14 (.slice na ns.length nc) rfl gq fun ir=>?_;simp only[af];have yV:Below W5.heap.size W5 W5.drew:=(ai _ _).drew;refine b_ 2 rfl fun K hK=>?_;go_simp;refine aH.2 ((tb.o _ yV).mono ?_);rintro _ A ⟨pf,rfl,Sb,hA⟩;have bZ:Below W5.heap.size W5 A:=yV.trans (hA.mono yV.size);have qwT:=();exact qar
 |clear qoG;have ff:∀ V,S V->V.cell? ⟨b,off+k * 3,none⟩=some (.bool qv)/\V.cell? ⟨b,off+k * 3+1,none⟩=some (.string ⟨n.toArray⟩)/\V.cell? ⟨b,off+k * 3+2,none⟩=some (.slice qa m0 qc):=fun V h=>by rw[hS]at h;exact ⟨aa h d0,aa h d1,aa h d2⟩
  have dN:S W5.drew:=by rw[hS];exact (ai _ _).drew
  have cR:=ab hS;clear hu aq hR ce c0 c1 c2 bB yZ hel HC uO hS d0 d1 d2 dQ;go_wp2;go_cut [7] from 15 to 32 (fun s7 wx=>∃b7,s7=.pointer (some ⟨b7,0,none⟩)/\∃q:TQ,wx.heap[b7]?=some (.cells #[.bool q.v,.string q.n,.slice q.a q.l q.c] 43 (0,0))/\W5.heap.size<=b7/\Below W5.heap.size W5 wx/\TermV (fun b=>W5.heap.size<=b/\b≠b7) wx q.val (eQ ns qv n al 0))
  case first=>
   have jx:=eU;refine (wpIn_wide (n:=3)).1 ?_;refine lF S 19 dN fun jE bV=>?_;refine bw 0 15 (.slice (some ⟨b,off,none⟩) k0 c) rfl bV fun cB=>?_;simp only[af];refine bw 1 16 (.int .i64 (k:Int)) rfl cB fun fB=>?_;simp only[af];refine bw 2 17 (.pointer (some ⟨b,off+k * 3,none⟩)) rfl fB fun gq=>?_;simp only[af];refine bw 3 18 (.pointer (some ⟨b,off+k * 3,none⟩)) rfl gq fun ir=>?_;simp only[af];refine c_ 4 19 (.bool qv) rfl (fun V hX=>by obtain ⟨h0,h1,h2⟩:=ff V hX;go_simp) ir fun jj=>?_;simp only[af];refine bw 5 20 (.slice (some ⟨b,off,none⟩) k0 c) rfl jj fun jz=>?_;simp only[af];refine bw 6 21 (.int .i64 (k:Int)) rfl jz fun lM=>?_;simp only[af];refine bw 7 22 (.pointer (some ⟨b,off+k * 3,none⟩)) rfl lM fun zfN=>?_;simp only[af];refine bw 8 23 (.pointer (some ⟨b,off+k * 3+1,none⟩)) rfl zfN fun Eu=>?_;simp only[af];refine c_ 9 24 (.string ⟨n.toArray⟩) rfl (fun V hX=>by obtain ⟨h0,h1,h2⟩:=ff V hX;go_simp) Eu fun vX=>?_;simp only[af];refine bw 10 25 (.slice (some ⟨b,off,none⟩) k0 c) rfl vX fun Ev=>?_;simp only[af];refine bw 11 26 (.int .i64 (k:Int)) rfl Ev fun LW=>?_;simp only[af];refine bw 12 27 (.pointer (some ⟨b,off+k * 3,none⟩)) rfl LW fun OV=>?_;simp only[af];refine bw 13 28 (.pointer (some ⟨b,off+k * 3+2,none⟩)) rfl OV fun RP=>?_;simp only[af];refine c_ 14 29 (.slice qa m0 qc) rfl (fun V hX=>by obtain ⟨h0,h1,h2⟩:=ff V hX;go_simp) RP fun Z'=>?_;simp only[af];refine bw 15 30 (.slice na n2 nc) rfl Z' fun zfM=>?_;simp only[af];have yV:Below W5.heap.size W5 W5.drew:=(ai _ _).drew;refine _c (i:=16) (j:=18) rfl rfl (by kernel_rfl) (by rfl) (by rfl) (fun K hK=>?_) (fun K hK=>?_)
   ·go_simp;refine aH.2 ((tb.o _ yV).mono ?_);rintro _ A ⟨⟨r1,r2,rfl,hp⟩,hA⟩;simp only[<-gt.o]at hp ⊢;have bZ:Below W5.heap.size W5 A:=yV.trans (hA.mono yV.size);refine hK _ _ (fun _=>by rw[cR.o];exact bZ) (fun qh=>?_);clear hK K;refine bw 17 32 (.agg #[.bool qv,.string ⟨n.toArray⟩,.slice r1 m0 r2]) rfl (by rw[cR.o];exact bZ) fun zey=>?_;simp only[af];refine b_ 18 rfl fun K hK=>?_;go_simp;have ⟨EB,yq⟩:=aj A.heap.size;have ⟨A1,qi⟩:=aj (A.alloc (.cells #[.bool false,.string ⟨#[]⟩,.slice none 0 0] 43));have ug:=cM qi;have qwE:=();exact qdv
   ·go_simp;have ⟨EB,yq⟩:=aj W5.heap.size;have ⟨A1,qi⟩:=aj (W5.alloc (.cells #[.bool false,.string ⟨#[]⟩,.slice none 0 0] 43)).drew;have ug:Below W5.heap.size W5 A1:=by rw[qi];exact cI.drew
    have qwG:=();exact qdv
  case rest=>
  obtain ⟨b7,h7,q,hq7,fW,zct,ht7⟩:=hcut;rw[h7];have H7:=bx hq7 zct ht7;clear hq7 zct ht7 h7 ff dN cR tb S;go_wp2;go_loopw [8] (fun i wr=>∃j:Nat,j<=n2/\i=.int .i64 j/\∃q:TQ,wr.heap[b7]?=some (.cells #[.bool q.v,.string q.n,.slice q.a q.l q.c] 43 (0,0))/\Below W5.heap.size W5 wr/\TermV (fun b=>W5.heap.size<=b/\b≠b7) wr q.val (eQ ns qv n al j)) (fun i _=>n2 - (intOf i).toNat)
  case atStart=>exact ⟨0,aX _,rfl,q,H7.o⟩
  case round=>
   obtain ⟨j,hj,rfl,⟨q0,q1,q2,q3,q4⟩,hq,l8,ht⟩:=hrel;obtain ⟨p0,p1,p2,z0,z1,z2⟩:=fV hq
   by_cases eE:j<n2
   ·have le:=cb xU.o eE;obtain ⟨nb,no,rfl,_,e0⟩:=((HNs.o.later HB.o).later l8).get le;have z7:(j:Int)<(n2:Int):=by omega
    have cD:=Ie (ns:=ns) (v:=qv) (n:=n) (a:=al) le;have ⟨x,hx⟩:=aj (ns[j]);rw[<-hx]at e0 cD;have YW:q0=(eQ ns qv n al j).v/\q1=⟨(eQ ns qv n al j).n.toArray⟩:=by
     obtain ⟨q',h1,h2,h3,_⟩:=ht.form;have qwU:=();exact qjm
    have HQ:=bx hq l8 ht;have ⟨Xi,HQv⟩:=aS cD YW;clear hq l8 ht cD YW hx
    cases q0 with
    | false=>
     go_wp2;go_quiet (fail);go_wp2;go_roundw
     case rel=>exact ⟨j+1,by omega,by go_num,⟨false,q1,q2,q3,q4⟩,HQ.o.1,HQ.o.2.1.tr (gX ⟨_,rfl⟩),by rw[Xi.o.1 HQv.o.1.symm];exact HQ.o.2.2.later (gX ⟨_,rfl⟩)⟩
     case measure=>simp[intOf];omega
    | true=>
     obtain ⟨g0,g1,g2⟩:=Xi.o.2 HQv.o.1.symm;obtain rfl:q1=⟨n.toArray⟩:=by have:=HQv.o.2;rw[g0]at this;exact this
     by_cases hxn:x=n
     ·subst hxn;have HG:=ab (g1 rfl);clear g0 g1 g2 Xi HQv;go_wp2;go_quiet (fail);have hT:∀ nq x y,(convert 246 9 (.slice (some ⟨wr.heap.size,0,none⟩) 2 2)).run Tryz.prog ((wr.drewN nq).alloc (.cells #[.int .u8 x,.int .u8 y] 5))=.ok (.string (strOfNums [x,y])) ((wr.drewN nq).alloc (.cells #[.int .u8 x,.int .u8 y] 5)):=fun nq x y=>Qd (wr.drewN nq) x y;go_wp2_with (go_at_call 31;refine (LK _ _ _ _ _).mono ?_;rintro e w6 ⟨rfl,cF⟩;have b6:Below wr.heap.size wr w6:=(gX (w':=wr.drewN nq) ⟨_,rfl⟩).tr (cI.tr cF);have x6:=bN b6 HQ.o.1;obtain ⟨y0,y1,y2,f0,f1,f2⟩:=fV x6;have H6:=aA b6 x6;clear b6 x6 cF);go_roundw
      case rel=>
       refine ⟨j+1,by omega,by go_num,⟨false,_,none,0,0⟩,qu H6.o.2,Below.kp1 (HQ.o.2.1.tr H6.o.1) eN fW,?_⟩;rw[HG.o];exact aM.2 ⟨_,by rw[<-Uh j];rfl,cm⟩
      case measure=>simp[intOf];omega
     ·have a4:(n == x)=false:=by simpa using fun e=>hxn e.symm
      have HG:=ab (g2 hxn);clear g0 g1 g2 Xi HQv;go_wp2;go_quiet (fail);go_wp2;go_roundw
      case rel=>exact ⟨j+1,by omega,by go_num,⟨true,⟨n.toArray⟩,q2,q3,q4⟩,HQ.o.1,HQ.o.2.1.tr (gX ⟨_,rfl⟩),by rw[HG.o];exact HQ.o.2.2.later (gX ⟨_,rfl⟩)⟩
      case measure=>simp[intOf];omega
   ·obtain rfl:j=n2:=by omega
    obtain ⟨qs,eu,au,gd⟩:=HR.o;rw[dU.o]at eu au;have oe:=l8.size;have Jg:=HB.o.size;have HO:=ab (ba au (fun b _ hlt=>l8.block b hlt));have HH:=bx eu au gd;have RC:=aA ht l8;have HQ:=ab hq;have o9:(wr.alloc (.cells #[.bool q0,.string q1,.slice q2 q3 q4] 43)).heap.size=wr.heap.size+1:=by simp
    clear eu au gd ht l8 hq;go_wp2_with (at_builtin;refine wpList_append_lies _ rfl _ _ 33 rfl w.heap.size 43 i0 (.agg #[.bool false,.string ByteArray.empty,.slice none 0 0]) 3 48 Tryz.underlying33 hi ow iM gY rfl (by decide) _ _ _ rfl (HO.o.alloc _) ⟨wr.heap.size,0,none⟩ 1 1 (TQ.cells ⟨q0,q1,q2,q3,q4⟩) rfl rfl (cV (cs:=#[.bool q0,.string q1,.slice q2 q3 q4]) (t:=43) (fr:=(0,0)) (fD _ _)) (by simp[TQ.cells,Value.oneCell']) (by decide) (by unfold maxLen;omega) (by omega) (by simp;omega) (wr.heap.size+1) o9 ?_;intro g eF w4 aO am hg eA;have HG:=bx aO am hg;clear aO am hg eA o9);go_roundw
    case rel=>
     have qwK:=();exact qdg
    case measure=>simp[intOf];omega
 |clear qur;have pp:∀ V,S V->V.cell? ⟨W.heap.size,0,none⟩=some (.int .u8 so)/\V.cell? ⟨W.heap.size,1,none⟩=some (.string sn)/\V.cell? ⟨W.heap.size,2,none⟩=some (.slice sa sl sc)/\V.cell? ⟨W.heap.size,3,none⟩=some (.slice sb sm se)/\V.cell? ⟨W.heap.size,4,none⟩=some (.int .u8 fo)/\V.cell? ⟨W.heap.size,5,none⟩=some (.string fn)/\V.cell? ⟨W.heap.size,6,none⟩=some (.slice fa fl fc)/\V.cell? ⟨W.heap.size,7,none⟩=some (.slice fb fm fe)/\V.cell? ⟨W.heap.size,8,none⟩=some (.slice ca cl cc):=fun V h=>by rw[hS]at h;exact ⟨aa h (ag xA 0),aa h (ag xA 1),aa h (ag xA 2),aa h (ag xA 3),aa h (ag xA 4),aa h (ag xA 5),aa h (ag xA 6),aa h (ag xA 7),aa h (ag xA 8)⟩
  have tt:∀ V,S V->V.cell? ⟨wr.heap.size,0,none⟩=some (.bool xv)/\V.cell? ⟨wr.heap.size,1,none⟩=some (.string xn)/\V.cell? ⟨wr.heap.size,2,none⟩=some (.slice xa xl xc):=fun V h=>by rw[hS]at h;exact ⟨aa h (ag x6 0),aa h (ag x6 1),aa h (ag x6 2)⟩
  have uu:∀ V,S V->V.cell? ⟨W.heap.size+1+1,2,none⟩=some (.slice (some ⟨b2,o2,none⟩) n1 uc):=fun V h=>by rw[hS]at h;exact aa h (ag _b 2)
  have qvi:=();exact qiD
 |clear quw;have pp:∀ V,S V->V.cell? ⟨W.heap.size,0,none⟩=some (.int .u8 so)/\V.cell? ⟨W.heap.size,1,none⟩=some (.string ⟨n.toArray⟩)/\V.cell? ⟨W.heap.size,2,none⟩=some (.slice (some ⟨b1,o1,none⟩) n1 sc)/\V.cell? ⟨W.heap.size,3,none⟩=some (.slice sb m1 se)/\V.cell? ⟨W.heap.size,4,none⟩=some (.int .u8 so)/\V.cell? ⟨W.heap.size,5,none⟩=some (.string ⟨n'.toArray⟩)/\V.cell? ⟨W.heap.size,6,none⟩=some (.slice (some ⟨b2,o2,none⟩) n1 fc)/\V.cell? ⟨W.heap.size,7,none⟩=some (.slice fb m1 fe)/\V.cell? ⟨W.heap.size,8,none⟩=some (.slice ca cl cc):=fun V h=>by rw[hS]at h;exact ⟨aa h (ag R2 0),aa h (ag R2 1),aa h (ag R2 2),aa h (ag R2 3),aa h (ag R2 4),aa h (ag R2 5),aa h (ag R2 6),aa h (ag R2 7),aa h (ag R2 8)⟩
  have tt:∀ V,S V->V.cell? ⟨B6,2,none⟩=some (.slice (some ⟨b2,o2,none⟩) n1 fc):=fun V h=>by rw[hS]at h;exact aa h (ag x65 2)
  exact qiD
 |have ff:∀ V,S V->V.cell? ⟨kb,0,none⟩=some (.map (some mF))/\V.cell? ⟨w.heap.size+1,1,none⟩=some (.string ⟨n.toArray⟩)/\(Instr.lookup 145 (.map (some mF)) (.string ⟨n.toArray⟩) false).run Tryz.prog V=.ok (.agg #[.int .u8 g0,.string g1,.slice g2 g3 g4,.slice g5 g6 g7]) V:=fun V h=>by
   rw[hS]at h;exact ⟨aa h (ag j4.box 0),aa h (ag x5 1),zdF.o V (((G1.tr h).block _ zbv))⟩
  have dN:S W5.drew:=by rw[hS];exact (ai _ _).drew
  have HC:=ab (fun (V:World) (h:Below W5.heap.size W5 V)=>rn f wm.o.2.1 (by have:=wm.o.2.2;omega) _ V ⟨g0,g1,g2,g3,g4,g5,g6,g7⟩ ((wm.o.1.later G1).later h));simp only[FQ.val,<-HM.o.2.2]at HC;have cR:=ab hS;have H5:=bx G1 y5 j4;clear hS x5 j4 zbv G1 y5;refine (wpIn_wide (n:=3)).1 ?_;refine lF S 9 dN fun jE bV=>?_;refine bw 0 34 (.pointer (some ⟨kb,0,none⟩)) rfl bV fun cB=>?_;simp only[af];refine bw 1 35 (.pointer (some ⟨kb,0,none⟩)) rfl cB fun fB=>?_;simp only[af];refine bw 2 36 (.pointer (some ⟨kb,0,none⟩)) rfl fB fun gq=>?_;simp only[af];refine c_ 3 37 (.map (some mF)) rfl (fun V hX=>by obtain ⟨h0,h1,h2⟩:=ff V hX;go_simp) gq fun ir=>?_;simp only[af];refine bw 4 38 (.pointer (some ⟨w.heap.size+1,1,none⟩)) rfl ir fun jj=>?_;simp only[af];refine c_ 5 39 (.string ⟨n.toArray⟩) rfl (fun V hX=>by obtain ⟨h0,h1,h2⟩:=ff V hX;go_simp) jj fun jz=>?_;simp only[af];refine c_ 6 40 (.agg #[.int .u8 g0,.string g1,.slice g2 g3 g4,.slice g5 g6 g7]) rfl (fun V hX=>by obtain ⟨h0,h1,h2⟩:=ff V hX;go_simp) jz fun lM=>?_;have qwV:=();exact qaK):G:=h
theorem qcL(h:G:=by
 obtain ⟨k,hk,rfl,row,us,hF,BG,Ek⟩:=hrel;have aq:=hF.below Rr.o.1 (by omega);obtain ⟨ra,rc,rfl⟩:=hF.row.slice;rw[Ek]at hF
 first
 |clear qqu
  by_cases hlt:k<m0
  ·have dy:=cb gt.o hlt;exact qhl
  ·obtain rfl:k=m0:=by omega
   exact qgi
 |clear qwW
  by_cases hlt:k<m0
  ·have dy:=cb gt.o hlt;have qwX:=();exact qhl
  ·obtain rfl:k=m0:=by omega
   exact qgi
 |by_cases hlt:k<k0
  ·have dy:=cb du.o hlt;have qwo:=();exact qai
  ·obtain rfl:k=k0:=by omega
   have j_:a.take k=a:=by rw[du.o];exact cK
   rw[j_]at BG;have HE:=ab (show R=some (.mk false n us) by rw[BE.o,BG];rfl);have sI:=ab hF.row;have x2:=hF.box;have x1:=hF.other (by omega) OM.o;have c0:wr.cell? ⟨w.heap.size+1+1+1,0,none⟩=some (.bool false):=ag x2 0;exact qgj):G:=h
theorem qdJ(h:G:=by
 go_enter Tryz.func126,Tryz.ntmps126;go_upto_region 2 with fail;rw[<-fj.o]
 first
 |clear qwY;go_upto_region 6 with fail;go_region
  all_goals
   rw[<-dF];clear dF l1 l2 k0 k1 k3 k4 k5 e0 e1 e2 e3;go_upto_region 8 with (go_at_call 96;refine Au.o.mono ?_;rintro e w4 ⟨rfl,aR⟩;have H4:=ab aR;clear aR);clear i0 i1 i2 i3;have y4:=bN H4.o H3.o.2.1;obtain ⟨j0,j1,j2,j3,_,_,_,_⟩:=dc y4;have HC4:=ab (O7.o w4 H4.o);clear y4;go_upto_region 9 with (go_at_call 97;refine HC4.o.mono ?_;rintro e w5 ⟨rfl,bh⟩;have H5:=ab (H4.o.tr bh);clear bh);clear j0 j1 j2 j3;have y5:=bN H5.o H3.o.2.1
   by_cases h0:n0=0
   ·subst h0;obtain ⟨j0,j1,j2,j3,_,_,_,_⟩:=dc y5;have HC6:=ab (DX.o w5 H5.o);have sg:=ab (show R=nf by rw[HE3.o];simp);clear y5;go_wp2_with (go_at_call 99;refine HC6.o.mono ?_;rintro e w6 ⟨rfl,cF⟩;have H6:=ab cF;clear cF);go_ret;exact ⟨by rw[sg.o];rfl,(H2.o.1.tr H3.o.1).tr (H5.o.tr H6.o)⟩
   ·have ow:((n0:Int) == 0)=false:=by simp;omega
    have iM:¬((n0:Int)=0):=by omega
    have qwZ:=();exact qjd
 |clear qw0;have e0:=ag H2.o.2.1 0;go_upto_region 4 with fail;clear e0;have qw1:=();exact qaZ
 |go_wp2_with fail;clear e0 e1 e2 e3;go_loopw [10,64] (fun r i wr=>∃j:Nat,j<=n1/\i=.int .i64 j/\r=.int .i64 ((ew k.ts (a.take j)+1:Nat):Int)/\Below W2.heap.size W2 wr) (fun _ i _=>n1 - (intOf i).toNat)
  case atStart=>exact ⟨0,aX _,rfl,by simp[ew],ai _ _⟩
  case round=>
   obtain ⟨j,hj,rfl,rfl,aq⟩:=hrel
   by_cases hlt:j<n1
   ·have gZ:=cb HN.o hlt;exact qbE
   ·obtain rfl:n1=j:=by omega
    have ce:a.take n1=a:=by rw[HN.o];exact cK
    rw[ce];have HK:=ab (H2.o.1.tr aq);exact qhq):G:=h
theorem qeN(h:G:=by
 go_enter Tryz.func273,Tryz.ntmps273;go_wp2_with (go_at_call 287;refine (HC0.o _).mono ?_;rintro e w2 ⟨rfl,rfl⟩)
 first
 |clear qmR;go_loopw [20] (fun i wr=>∃k:Nat,k<=k0/\i=.int .i64 k/\Below w2.heap.size w2 wr/\R=BS (l.drop k) (m.drop k)) (fun i _=>k0 - (intOf i).toNat)
  case atStart=>exact ⟨0,aX _,rfl,ai _ _,by simpa using HR.o⟩
  case round=>
   have qw2:=();exact qaQ
 |go_ret;exact ⟨rfl,ai _ _⟩):G:=h
theorem qjn(h:G:=by
 go_upto_region 8 with (go_at_call 97;refine HC4.o.mono ?_;rintro e w5 ⟨rfl,bh⟩;have H5:=ab bh;clear bh);clear j0 j1 j2 j3;have y5:=bN H5.o H3.o.2.1;have x15:=bN (H3.o.1.tr H5.o) HB.o.2.2.2.1
 first
 |clear qw3;subst h0;clear ow;obtain ⟨j0,j1,j2,j3,_,_,_,_⟩:=dc y5;have HC6:=ab (lJ.o w5 H5.o);have HX5:=ab x15;have HR5:=ab (show RS=f by rw[HB.o.2.2.2.2,aw rfl]);clear y5 x15;go_wp2_with (go_at_call 51;refine HC6.o.mono ?_;rintro e w6 ⟨⟨p0,p1,p2,p3,p4,p5,p6,p7⟩,rfl,hp,cF⟩;have UK:=bN cF HX5.o;have Mw:=ab UK;obtain ⟨i0,i1,i2,i3,q0,q1,q2,q3⟩:=dc UK;have H6:=aA cF hp;clear cF hp UK);exact qcn
 |exact qjd):G:=h
theorem qct(h:G:=by
 go_enter Tryz.func21,Tryz.ntmps21;go_wp2
 first
 |clear qfm;go_ret;exact ⟨by rw[HE3.o];rfl,by rw[<-fj.o];exact HE.o.1⟩
 |rw[<-fj.o];clear e0 e1 e2 e3;go_loopw [5] (fun i wr=>∃k:Nat,k<=k0/\i=.int .i64 k/\Below W2.heap.size W2 wr/\x.fs.take k=y.fs.take k) (fun i _=>k0 - (intOf i).toNat)
  case atStart=>exact ⟨0,aX _,rfl,ai _ _,by simp⟩
  case round=>
   obtain ⟨k,hk,rfl,aq,ce⟩:=hrel
   by_cases hlt:k<k0
   case pos=>
    have bj:k<x.fs.length:=by rw[<-HN.o.1];exact hlt
    have kK:k<y.fs.length:=by rw[<-HN.o.2.2.1];exact hlt
    obtain ⟨⟨nx,fx⟩,tP⟩:∃z,z=x.fs[k]:=⟨_,rfl⟩;obtain ⟨⟨ny,fy⟩,hny⟩:∃z,z=y.fs[k]:=⟨_,rfl⟩;obtain ⟨b,off,u,rfl,_,hu,c0,c1,c2,c3,c4⟩:=HQ.o.1.get bj;obtain ⟨b',jZ,u',rfl,_,gI,kr,kX,kY,B_,c4'⟩:=HQ.o.2.2.1.get kK;have mw:=HF.o.1 _ (ap bj);rw[<-tP]at hu c0 mw;rw[<-hny]at gI kr;simp only at hu gI c0 kr mw;have f0:=fun z:Later wr=>z.get (aa aq HE.o.2.1);have f1:=fun z:Later wr=>z.get (aa aq HE.o.2.2.2.1);have f2:=fun z:Later wr=>z.get (aa aq c0);have f3:=fun z:Later wr=>z.get (aa aq c1);have f4:=fun z:Later wr=>z.get (aa aq c2);have f5:=fun z:Later wr=>z.get (aa aq c3);have f6:=fun z:Later wr=>z.get (aa aq c4);have g2:=fun z:Later wr=>z.get (aa aq kr);have g3:=fun z:Later wr=>z.get (aa aq kX);have g4:=fun z:Later wr=>z.get (aa aq kY);have g5:=fun z:Later wr=>z.get (aa aq B_);have g6:=fun z:Later wr=>z.get (aa aq c4');have d0:=aa aq HE.o.2.1;have D3:(k:Int)<(k0:Int):=by omega
    have CC:=fun (z:Later wr)=>Kg fx fy ok ok' z.w u u' mw ((hu.later aq).later z.below) ((gI.later aq).later z.below);have ⟨V,hV⟩:=aj (uV fx fy);rw[<-hV]at CC;have ⟨HC,HV,HB,HT⟩:=eD CC hV aq ce;have HX:=aA tP hny;clear hu gI hV aq ce mw CC c0 c1 c2 c3 c4 kr kX kY B_ c4' tP hny
    by_cases mt:nx=ny
    case neg=>
     have qw4:=();exact qjo
    subst mt;go_wp2;have qsE:=();exact qac
   obtain rfl:k=k0:=by omega
   have YX:x.fs=y.fs:=by
    have h1:x.fs.take k=x.fs:=by rw[HN.o.1];exact cK
    have h2:y.fs.take k=y.fs:=by rw[HN.o.2.2.1];exact cK
    rw[<-h1,ce,h2]
   have ⟨wo,Gx⟩:=aj wr;subst Gx;have d0:=aa aq HE.o.2.1;have ⟨HFe,VH⟩:=aS YX aq;clear YX aq ce;go_wp2;go_loopw [6] (fun i wr=>∃j:Nat,j<=n2/\i=.int .i64 j/\Below W2.heap.size W2 wr/\x.ts.take j=y.ts.take j) (fun i _=>n2 - (intOf i).toNat)
   case atStart=>exact ⟨0,aX _,rfl,VH.o,by simp⟩
   case round=>
    obtain ⟨j,hj,rfl,aq,ce⟩:=hrel;clear d0;have d1:=aa aq HE.o.2.2.1
    by_cases eE:j<n2
    case pos=>
     have bj:j<x.ts.length:=by rw[<-HN.o.2.1];exact eE
     have kK:j<y.ts.length:=by rw[<-HN.o.2.2.2];exact eE
     obtain ⟨⟨nx,tx⟩,tP⟩:∃z,z=x.ts[j]:=⟨_,rfl⟩;obtain ⟨⟨ny,ty⟩,hny⟩:∃z,z=y.ts[j]:=⟨_,rfl⟩;obtain ⟨b,off,u,rfl,_,hu,c0,c1,c2,c3⟩:=HQ.o.2.1.get bj;obtain ⟨b2,off2,v,rfl,_,hv,kr,kX,kY,B_⟩:=HQ.o.2.2.2.get kK;have mw:=HF.o.2 _ (ap bj);rw[<-tP]at hu c0 mw;rw[<-hny]at hv kr;simp only at hu hv c0 kr mw;have D3:(j:Int)<(n2:Int):=by omega
     have ⟨wz,hwz⟩:=aj wr;subst hwz;obtain ⟨S,hS⟩:∃S:World->Prop,S=fun Z=>Below W2.heap.size W2 Z:=⟨_,rfl⟩;have f0:∀ Z,S Z->Z.cell? ⟨w.heap.size,1,none⟩=some (.slice (some ⟨b,off,none⟩) n2 qe)/\Z.cell? ⟨w.heap.size+1,1,none⟩=some (.slice (some ⟨b2,off2,none⟩) n2 re):=fun Z h=>by rw[hS]at h;exact ⟨aa h HE.o.2.2.1,aa h HE.o.2.2.2.2⟩
     have f1:∀ Z,S Z->Z.cell? ⟨b,off+j * 4,none⟩=some (.string ⟨nx.toArray⟩)/\Z.cell? ⟨b,off+j * 4+1,none⟩=some (.bool u.v)/\Z.cell? ⟨b,off+j * 4+2,none⟩=some (.string u.n)/\Z.cell? ⟨b,off+j * 4+3,none⟩=some (.slice u.a u.l u.c):=fun Z h=>by rw[hS]at h;exact ⟨aa h c0,aa h c1,aa h c2,aa h c3⟩
     have f2:∀ Z,S Z->Z.cell? ⟨b2,off2+j * 4,none⟩=some (.string ⟨ny.toArray⟩)/\Z.cell? ⟨b2,off2+j * 4+1,none⟩=some (.bool v.v)/\Z.cell? ⟨b2,off2+j * 4+2,none⟩=some (.string v.n)/\Z.cell? ⟨b2,off2+j * 4+3,none⟩=some (.slice v.a v.l v.c):=fun Z h=>by rw[hS]at h;exact ⟨aa h kr,aa h kX,aa h kY,aa h B_⟩
     have dN:S wz.drew:=by rw[hS];exact aq.drew
     have ⟨V,hV⟩:=aj (iR [tx] [ty]);have I_:=ab (show ∀ (A:World),Below W2.heap.size W2 A->∀ BX BY:Nat,A.heap[BX]?=some (.cells #[.bool u.v,.string u.n,.slice u.a u.l u.c] 43 (0,0))->A.heap[BY]?=some (.cells #[.bool v.v,.string v.n,.slice v.a v.l v.c] 43 (0,0)) →
       Calls Tryz.prog 19 #[.slice (some ⟨BX,0,none⟩) 1 1,.slice (some ⟨BY,0,none⟩) 1 1] A fun e w'=>e=.returned (.bool V)/\Below A.heap.size A w' from fun A hA BX BY hX hY=>by
      rw[hV];exact ov [tx] [ty] (fun _=>True) (fun _=>True) A _ 1 1 _ 1 1 ⟨by simp only[nodesTs];have:=mw.1;omega,by simp[nmTs];exact mw.2⟩ (DA ((hu.later hA).move (fun _ _ _=>⟨trivial,rfl⟩)) trivial hX) (DA ((hv.later hA).move (fun _ _ _=>⟨trivial,rfl⟩)) trivial hY))
     have ⟨HV,HB,HT,cR⟩:=eD hV aq ce hS;have HX:=aA tP hny;clear hu hv hV aq ce mw c0 c1 c2 c3 kr kX kY B_ tP hny hS;have jx:=eU
     by_cases mt:nx=ny
     case neg=>
      exact qjo
     subst mt;go_wp2;refine (wpIn_wide (n:=3)).1 ?_;exact qg3
    obtain rfl:j=n2:=by omega
    have hte:x.ts=y.ts:=by
     have h1:x.ts.take j=x.ts:=by rw[HN.o.2.1];exact cK
     have h2:y.ts.take j=y.ts:=by rw[HN.o.2.2.2];exact cK
     rw[<-h1,ce,h2]
    have HE3:=ab (show R=true from HR.o.2 (by
     cases x with
     | mk a b=>cases y with
      | mk c d=>simp only at HFe hte;rw[show a=c from HFe.o,show b=d from hte]))
    have HB:=ab aq;clear hte aq ce;go_wp2;go_ret;exact ⟨by rw[HE3.o];rfl,HE.o.1.tr HB.o⟩):G:=h
theorem qcR(h:G:=by
 simp only[PlQ.val,PlQ.cells];go_enter Tryz.func48,Tryz.ntmps48
 first
 |clear qw5;go_wp2;rw[<-jt.o];go_region
  all_goals
   rw[<-aZ];clear aZ;go_wp2;go_ret;exact StepPost.bad HE.o (by decide) (Kp.below cv.o)
 |clear qw6;go_wp2;rw[<-jt.o];go_cut [5,6] from 17 to 27 (fun s5 s6 wx=>s5=.pointer (some ⟨W1.heap.size,0,none⟩)/\s6=.bool true/\wx=W2)
  case first=>
   go_region
   all_goals
    rw[<-aZ];go_wp2_with fail;go_meet;exact ⟨rfl,rfl,rfl⟩
  case rest=>
  obtain ⟨h5,h6,hw⟩:=hcut;rw[h5,h6,hw];clear h5 h6 hw wc aZ l1 l2 g0 g1 g3 g4 g5 P0 P1 P2 P3 P4 P5 P6 P7 P8;have ⟨P0,P1,P2,P3,P4,P5,P6,P7⟩:=D6 H2.o.2.2.2;have P8:=ag H2.o.2.2.2 8;obtain ⟨e0,e1,e2,e3,_,_,_,_⟩:=dc H2.o.2.2.1
  cases I with
  | none=>
   have HE:=ab (show R=(k,70) from Mp.o);exact qjp
  | some im=>
  have _C:=ab (show R=if ea dm f=0 then (if cg [] f im=true then (k,0) else (k,70))
   else match (match getB k.ts y with | some t=>some (t,k.ts) | none=>(gD f im dm).map fun t=>(t,g_ y t k.ts)) with
    | none=>(k,70)
    | some (t,ts)=>if (nodesF f+ea dm f * (nodesT t - 1) != nodesF im)=true then ({ k with ts:=ts },70)
     else if cg [] (e9 dm t f) im=true then ({ k with ts:=ts },0) else ({ k with ts:=ts },70) from Mp.o)
  have O7:=ab (fun (V:World) (h:Below W2.heap.size W2 V)=>jV dm f Am.o.1.fit _ V ⟨GO,GP,GQ,GR,GS,GT,GU,GV⟩ (Am.o.2.later h));simp only[FQ.val]at O7;have ⟨n0,tW⟩:=aj (ea dm f);rw[<-tW]at _C O7;have HN0:=ab tW;clear tW Mp;have d16:(16:Int)=16:=rfl;clear d16;go_upto_region 9 with (go_at_call 91;refine HC.o.mono ?_;rintro e w4 ⟨⟨⟨p0,p1,p2,p3,p4,p5,p6,p7⟩,rfl,hp⟩,aR⟩;have H4:=aA (hp _ rfl) aR;clear hp aR;simp only[Option.isSome]);exact qjq
 |rw[jt.o]at P0 P1 P2 P3 P4 P5 P6 P7 P8;go_wp2;rw[<-jt.o];go_ret;exact StepPost.good nF nT HE.o (Kp.below KX.o.1) (by omega) (by omega) KX.o.2):G:=h
theorem qf3(h:G:=by
 go_loopw [80] (fun i wr=>∃k:Nat,k<=k1/\i=.int .i64 k/\Below X4.heap.size X4 wr/\R=cJ ps.reverse (xs.drop k) (ys.drop k)) (fun i _=>k1 - (intOf i).toNat)
 case atStart=>exact ⟨0,aX _,rfl,ai _ _,by simpa using NE.o⟩
 first
 |clear qp4
  case round=>
   have qw7:=();exact qaX
 |case round=>
   exact qaX):G:=h
theorem qhD(h:G:=by
 have qw8:=();exact qaO):G:=h
theorem qjr(h:G:=by
 rintro X Y hn ⟨k',zB,v_,h1,h2,h3,h4,h5,h6,h7,h8⟩;have:=ig.o;have:=mo.o.1;have:=mo.o.2.1;exact ⟨k',zB,v_,h1,h2.nw hn (by omega) (by omega),h3,h4,h5,hn.cells h6,hn.cells h7,ot h8 hn⟩):G:=h
theorem qjs(h:G:=by
 have _Q:((m0:Int) != (r4:Int))=false:=by simp;omega
 have _R:(m0 == r4)=true:=by simpa using Pw
 have NE:=ab Pw;clear Pw;rw[dD,show decide (k0<=r3)=true by simpa using dy,_R]at hM;simp only[dz]at hM
 by_cases h16:on=16
 first
 |clear qw9
  ·subst h16
   cases aT:uW a with
   | false=>
    have qhU:=();exact qbI
   | true=>
    have qt8:=();exact qbI
  ·have zdT:((on:Int) == 16)=false:=by simp;omega
   rw[show ((on:Int) != 16)=true by simp;omega,Bool.true_or,dz]at hM;have qxa:=();exact qhV
 |·subst h16
   cases aT:uW a with
   | false=>
    have qhU:=();exact qbI
   | true=>
    exact qbI
  ·have zdT:((on:Int) == 16)=false:=by simp;omega
   rw[show ((on:Int) != 16)=true by simp;omega,Bool.true_or,dz]at hM;have quy:=();exact qhW):G:=h
theorem qbM(h:G:=by
 have g2:W6.cell? ⟨w.heap.size+1,2,none⟩=some (.slice ra k rc):=ag x6 2;have hz:=(bA jS.o)
 first
 |clear qxb;have h6:TermV (w.heap.size<=·) W6 (TQ.val ⟨true,⟨r.toArray⟩,ra,k,rc⟩) (.mk true r (a.map aK)):=(HR.o.kp1 k6 (by omega)).term dY.o.size;refine bK (v:=TQ.val ⟨true,⟨r.toArray⟩,ra,k,rc⟩) (by simp[TQ.val,results,Tryz.results69,go_sem,g0,g1,g2]) rfl (⟨⟨true,⟨r.toArray⟩,ra,k,rc⟩,rfl,h6,Below.kp1 cz.o k6 (by omega)⟩)
 |clear quC;have h6:TermV (w.heap.size<=·) W6 (TQ.val ⟨qv,⟨n.toArray⟩,ra,k,rc⟩) (.mk qv n a):=(HR.o.kp1 k6 (by omega)).term dY.o.size;refine bK (v:=TQ.val ⟨qv,⟨n.toArray⟩,ra,k,rc⟩) (by simp[TQ.val,results,Tryz.results53,go_sem,g0,g1,g2]) rfl ⟨⟨qv,⟨n.toArray⟩,ra,k,rc⟩,rfl,h6,Below.kp1 cz.o k6 (by omega)⟩
 |clear quD
  first
  |clear qxc;have h6:TermV (w.heap.size<=·) W6 (TQ.val ⟨false,⟨n.toArray⟩,ra,k,rc⟩) (.mk false n (a.map aK)):=(HR.o.kp1 k6 (by omega)).term dY.o.size;refine bK (v:=TQ.val ⟨false,⟨n.toArray⟩,ra,k,rc⟩) (by simp[TQ.val,results,Tryz.results69,go_sem,g0,g1,g2]) rfl (⟨⟨false,⟨n.toArray⟩,ra,k,rc⟩,rfl,h6,Below.kp1 cz.o k6 (by omega)⟩)
  |clear qxd;have h6:TermV (w.heap.size<=·) W6 (TQ.val ⟨false,⟨n.toArray⟩,ra,k,rc⟩) (.mk false n (a.map (gC f))):=(HR.o.kp1 k6 (by omega)).term dY.o.size;refine bK (v:=TQ.val ⟨false,⟨n.toArray⟩,ra,k,rc⟩) (by simp[TQ.val,results,Tryz.results154,go_sem,g0,g1,g2]) rfl (⟨⟨⟨false,⟨n.toArray⟩,ra,k,rc⟩,rfl,h6⟩,Below.kp1 cz.o k6 (by omega)⟩)
  |have h6:TermV (w.heap.size<=·) W6 (TQ.val ⟨false,⟨n.toArray⟩,ra,k,rc⟩) (.mk false n (a.map (da kd.ts sc))):=(HR.o.kp1 k6 (by omega)).term dY.o.size;refine bK (v:=TQ.val ⟨false,⟨n.toArray⟩,ra,k,rc⟩) (by simp[TQ.val,results,Tryz.results127,go_sem,g0,g1,g2]) rfl (⟨⟨⟨false,⟨n.toArray⟩,ra,k,rc⟩,rfl,h6⟩,Below.kp1 cz.o k6 (by omega)⟩)
 |first
  |clear qxe;have h6:TermV (w.heap.size<=·) W6 (TQ.val ⟨true,⟨n.toArray⟩,ra,k,rc⟩) (.mk true n (a.map aK)):=(HR.o.kp1 k6 (by omega)).term dY.o.size;refine bK (v:=TQ.val ⟨true,⟨n.toArray⟩,ra,k,rc⟩) (by simp[TQ.val,results,Tryz.results69,go_sem,g0,g1,g2]) rfl (⟨⟨true,⟨n.toArray⟩,ra,k,rc⟩,rfl,h6,Below.kp1 cz.o k6 (by omega)⟩)
  |clear qxf;have h6:TermV (w.heap.size<=·) W6 (TQ.val ⟨true,⟨n.toArray⟩,ra,k,rc⟩) (.mk true n (a.map (gC f))):=(HR.o.kp1 k6 (by omega)).term dY.o.size;refine bK (v:=TQ.val ⟨true,⟨n.toArray⟩,ra,k,rc⟩) (by simp[TQ.val,results,Tryz.results154,go_sem,g0,g1,g2]) rfl (⟨⟨⟨true,⟨n.toArray⟩,ra,k,rc⟩,rfl,h6⟩,Below.kp1 cz.o k6 (by omega)⟩)
  |have h6:TermV (w.heap.size<=·) W6 (TQ.val ⟨true,⟨n.toArray⟩,ra,k,rc⟩) (.mk true n (a.map (da kd.ts sc))):=(HR.o.kp1 k6 (by omega)).term dY.o.size;refine bK (v:=TQ.val ⟨true,⟨n.toArray⟩,ra,k,rc⟩) (by simp[TQ.val,results,Tryz.results127,go_sem,g0,g1,g2]) rfl (⟨⟨⟨true,⟨n.toArray⟩,ra,k,rc⟩,rfl,h6⟩,Below.kp1 cz.o k6 (by omega)⟩)):G:=h
theorem qhO(h:G:=by
 have q3:=ag vS.b2 3;have zq3:=ac vS.b2 3;have ⟨f0,f1,f2,f3⟩:=nI nM.b2;have ⟨r0,r1,r2,r3⟩:=nI nM.b1;have z0:=ac nM.b1 0;have z1:=ac nM.b1 1;have z2:=ac nM.b1 2;have z3:=ac nM.b1 3;have ⟨RC,HP⟩:=aS nM BN
 first
 |clear qtY;have ZV:=GE.o.lt;have qxg:=();exact qjt
 |have ZV:=vT.o.lt;exact qjt):G:=h
theorem qbu(h:G:=by
 have qxh:=();exact qaR):G:=h
theorem qe6(h:G:=by
 have e1:decide ((nodesF t:Int)<=400)=decide (nodesF t<=400):=by rw[ip];simp;omega
 have e2:decide (1+(depthF t:Int)<=40+1)=decide (depthF t<=40):=by rw[ip];simp;omega
 rw[e1,e2];rfl):G:=h
theorem qiS(h:G:=by
 have zr:W2.heap[W.heap.size]?=some (.cells #[.int .u8 u.o,.string u.n,.slice u.a u.l u.c,.slice u.b u.m u.e] 36 (0,0)):=(gw.same _ (by obtain ⟨r,hr⟩:=HLr.o;have:=(bA hr);omega)).trans (ah rfl)
 first
 |clear qvP;have Ag:FormV (fun b=>b<w1.heap.size/\¬(b=w.heap.size+1+1)) W2 u.val x:=((HU.o.later hB).move (ok':=fun b=>b<w1.heap.size/\¬(b=w.heap.size+1+1)) (fun b hb hlt=>⟨hb,gw.same b (by omega)⟩))
  have hL2:NAt (w.heap.size+1) 9223372036854775807 W2:=HL.o.kp iO (by omega);have hf:=yg f jw.o x (nK.o.subset (by simp));have nO:=U3 nK.o;rw[tO,nP]at nO;obtain ⟨⟨xo,xn,xa,xs⟩,hx⟩:∃y,x=y:=⟨_,rfl⟩;have au:qw (pre ++ [x])=qw pre+(1+nodesTs xa):=by rw[nP,hx];simp[qw,Fm.a]
  have ho1:qw [x]=1+nodesTs xa:=by rw[hx];simp[qw,Fm.a]
  rw[ho1]at nO;rw[hx]at Ag hf;obtain ⟨uo,un,ua,ul,uc,ub,um,ue⟩:=u;obtain ⟨va,vs2,Il,fC,Bw⟩:=aQ.1 Ag;simp only[FQ.val,cr,Array.mk.injEq,bP,and_true,Value.int.injEq,true_and,Value.string.injEq]at Il;obtain ⟨rfl,rfl,rfl,rfl⟩:=Il;have ⟨P,hP⟩:=aj (qw pre);have ⟨m,hm⟩:=aj (nodesTs xa);rw[<-hP]at i_;have XQ:qw (pre ++ [x])=P+(1+m):=by rw[au,hP,hm]
  have vR:P+(1+m)<=2000000:=by rw[hP,hm];omega
  have aZ:w1.heap.size<=W2.heap.size:=iO.size;have CC:=fun (W3:World) (h:Kp (fun b=>b=w.heap.size+1+1) W2 W3) (hN:NAt (w.heap.size+1+1) (P+1) W3)=>AX xa (w.heap.size+1+1) (w.heap.size+1) (fun b=>b<w1.heap.size/\¬(b=w.heap.size+1+1)) (P+1) W3 ua ul uc (by omega) hf.args (fC.move (fun b hb hlt=>⟨hb,h.same b hlt hb.2⟩)) (fun b hb=>hb.2) hN (hL2.kp h (by omega)) (by omega) (by omega);rw[<-hm]at CC;have C3:=CC (W2.setCell ⟨w.heap.size+1+1,0,none⟩ (.int .i64 (P+1))) (mY _) (i_.set _);have HC3:=ab C3;have cN:=i_.c0;have cL:=hL2.c0;have cx2:W2.cell? ⟨W.heap.size,2,none⟩=some (.slice ua ul uc):=ag zr 2;have zN:=ac i_ 0;have zfn:¬w.heap.size+1=w.heap.size+1+1:=by omega
  have zfo:¬W.heap.size=w.heap.size+1+1:=by have:=HK.o.size;have:=Qv.o;omega
  have ⟨HL2,XD,HO,HE2⟩:=eD hL2 iO XQ vR;clear C3 CC i_ hL2 fC Bw Ag hf hx au ho1 nO zr hP hm XQ iO;have zc9:decide ((9223372036854775807:Int)<(P:Int)+1+(m:Int))=false:=by simp;have:=HE2.o;omega
  have hfr:∀ f,(Fence.wide.inRound l).fn f:=fun _=>trivial;gi_wp2_with (gi_at_call 230;refine CallsIn.inRound l (aH.2 (HC3.o.mono ?_));rintro e w4 ⟨rfl,kD,KT⟩;have c4:=KT.c0;have l4:=(HL2.o.kp ((mY _).trans kD) (by omega)).c0;have HK4:=ab kD;have HN4:=ab KT;clear kD KT);refine ⟨(mY _).trans HK4.o,?_,XD.o.trans ((mY _).trans HK4.o)⟩;rw[HO.o,show ((P+(1+m):Nat):Int)=(P:Int)+1+(m:Int) by omega];exact HN4.o
 |have hf:=yg f jw.o x (nK.o.subset (by simp));have huo:u.o=x.op:=by
   obtain ⟨q',h1,h2,_⟩:=HU.o.form;simp only[FQ.val,cr,Array.mk.injEq,bP,and_true,Value.int.injEq,true_and]at h1;exact h1.1.trans h2
  have VL:0<=x.op/\x.op<=255:=by
   have h:=hf.2;obtain ⟨xo,xn,xa,xs⟩:=x;simp only[li,ae,br]at h;exact h.1
  rw[huo]at zr;have Pw:=Qb pre x;have c3:=ag i_ 0;have z3:=ac i_ 0;have c4:=ag zr 0;have ⟨P,hP⟩:=aj (lT pre);rw[<-hP]at Pw c3;have ⟨NE,HN3,XD,HOp⟩:=eD Pw i_ iO VL;have hfr:∀ f,(Fence.wide.inRound l).fn f:=fun _=>trivial;clear Pw i_ iO gw zr hf VL
  by_cases ho:x.op<32
  ·have o0:=HOp.o.1;have o1:x.op<=32:=by omega
   gi_wp2_with fail;refine ⟨mY _,?_,XD.o.trans (mY _)⟩;unfold MAt;rw[Xf,NE.o,aw ho,hP];exact (bp HN3.o _).trans rfl
  ·have hd:¬x.op<32:=ho;gi_wp2_with fail;refine ⟨Kp.refl _,?_,XD.o⟩;unfold MAt;rw[NE.o,ak (by omega),hP];exact HN3.o):G:=h
theorem qaA(h:G:=by
 refine hK _ _ (fun _=>by rw[cR.o];exact H7.o) (fun _=>?_)
 first
 |clear qxi;clear hK K fW KW;have qxj:=();exact qdK
 |clear qxk;clear hK K fW;refine b_ 8 rfl fun K hK=>?_
  have qqB:=();exact qaa
 |clear qxl;clear hK K fW KW CH;have qxm:=();exact qdK
 |clear qxn;clear hK K fW x7 hp;refine b_ 8 rfl fun K hK=>?_
  have qqM:=();exact qaa
 |clear qxo;clear hK K fW;refine b_ 8 rfl fun K hK=>?_
  have qqD:=();exact qaa
 |clear qxp;clear hK K fW KW;exact qdK
 |clear qvh;clear hK K fW;refine b_ 7 rfl fun K hK=>?_
  go_simp;refine aH.2 ((LN.o wq H7.o).mono ?_);rintro _ w6 ⟨⟨⟨p0,p1,p2,p3,p4,p5,p6,p7⟩,rfl,hp⟩,cF⟩;have eG:=ab (H7.o.tr cF)
  first
  |clear qxq;have qr6:=();exact qa1
  |have qr8:=();exact qa1
 |clear hK K fW;refine b_ 9 rfl fun K hK=>?_
  go_simp;refine aH.2 ((HCt.o _ H7.o).mono ?_);rintro e w8 ⟨rfl,iA⟩;have H8:=ab (H7.o.tr iA);have qh:S w8:=by rw[cR.o];exact H8.o
  refine hK _ _ (fun _=>qh) (fun _=>?_);clear hK K iA;refine b_ 10 rfl fun K hK=>?_;go_simp;refine hK _ _ (fun _=>qh) (fun _=>?_);clear hK K;refine b_ 11 rfl fun K hK=>?_;go_simp;refine hK _ _ (fun _=>qh) (fun _=>?_);clear hK K;refine b_ 12 rfl fun K hK=>?_;go_simp;refine hK _ _ (fun _=>qh) (fun _=>?_);clear hK K;refine b_ 13 rfl fun K hK=>?_;have qqF:=();exact qaa):G:=h
theorem qjj(h:G:=by
 rw[dU.o,List.take_append_getElem dy]at h4;exact ⟨k+1,by omega,by go_num,h4,((cz.o.trans (bZ.mono Jg)).alloc (by omega) _).grown am (by simp;omega) (fun c hc=>(au.lt c hc).1)⟩):G:=h
theorem qbK(h:G:=by
 exact h4.held (fun b hb _=>eC _ _ _ _ (by have:=h.lt;simp;omega))):G:=h
theorem qhR(h:G:=by
 have HE:=ab (show R=true by rw[ht,gT (by rw[du.o];exact aC _),cf];simp);have cz:=ab (cv.o.trans (dx.mono (by omega)));exact qc3):G:=h
theorem qaM(h:G:=by
 refine hK _ _ (fun _=>by rw[cR.o];exact m7) (fun _=>?_);clear hK K
 first
 |clear qxr;have hold:((.slice pa p0 p0:Value)=.slice none 0 0/\p0=0/\gx ps=[])\/∃b,(.slice pa p0 p0:Value)=.slice (some b) p0 p0/\(gx ps).length=p0 * 2/\∀ j u,(gx ps)[j]?=some u->(X4.alloc (.cells #[.string ⟨xn.toArray⟩,.string ⟨xn.toArray⟩] 213)).drew.cell? (b.add j)=some u:=by
   exact qdi
  refine b_ 12 rfl fun K hK=>?_;refine gM (.tmp 69) (.tmp 75) 87 rfl 213 i0 (.agg #[.string ByteArray.empty,.string ByteArray.empty]) 2 32 Tryz.underlying87 hi ow iM gY rfl (by decide) (.slice pa p0 p0) p0 (gx ps) rfl hold ⟨X4.heap.size,0,none⟩ 1 1 [.string ⟨xn.toArray⟩,.string ⟨xn.toArray⟩] rfl rfl (cV (cs:=#[.string ⟨xn.toArray⟩,.string ⟨xn.toArray⟩]) (t:=213) (fr:=(0,0)) (fD X4 _)) (by simp[Value.oneCell']) (by decide) (by unfold maxLen;omega) (by omega) ?_;have qtd:=();exact qbG
 |clear qxs;refine b_ 9 rfl fun K hK=>?_
  refine gM (.tmp 53) (.tmp 56) 66 rfl 9 i0s (.string ByteArray.empty) 1 16 Tryz.underlying66 Vf zdg zdh zdi rfl (by decide) (.slice la l0 l0) l0 (L.map encStr) rfl Rv.o ⟨X4.heap.size,0,none⟩ 1 1 [.string ⟨n.toArray⟩] rfl rfl (cV (cs:=#[.string ⟨n.toArray⟩]) (t:=9) (fr:=(0,0)) (fD X4 _)) (by simp[Value.oneCell']) (by decide) (by unfold maxLen;omega) (by omega) ?_;have qtc:=();exact qbG
 |clear qvp;refine b_ 14 rfl fun K hK=>?_
  refine gM (.tmp 21) (.tmp 29) 87 rfl 213 i0 (.agg #[.string ByteArray.empty,.string ByteArray.empty]) 2 32 Tryz.underlying87 hi ow iM gY rfl (by decide) (.slice ca cl cl) cl (gx ps) rfl Rv.o ⟨W3.heap.size,0,none⟩ 1 1 [.string ⟨sn.toArray⟩,.string ⟨fn.toArray⟩] rfl rfl (cV (cs:=#[.string ⟨sn.toArray⟩,.string ⟨fn.toArray⟩]) (t:=213) (fr:=(0,0)) (fD W3 _)) (by simp[Value.oneCell']) (by decide) (by unfold maxLen;omega) (by omega) ?_;intro g cap X5 au am;have xw:Below W3.heap.size W3 X5:=⟨am.os.trans m7.os,am.tape.trans m7.tape,am.output.trans m7.output,aN m7.size am.size,fun b hb=>(am.block b (bJ hb m7.size) (by simp)).trans (m7.block b hb)⟩;rw[<-kI (sn,fn) ps]at au;have xx:(W3.alloc (.cells #[.string ⟨sn.toArray⟩,.string ⟨fn.toArray⟩] 213)).drew.heap.size<=g/\g<X5.heap.size:=au.lt g rfl;have hzz:(W3.alloc (.cells #[.string ⟨sn.toArray⟩,.string ⟨fn.toArray⟩] 213)).drew.heap.size=W3.heap.size+1:=by show (W3.alloc _).heap.size=_;simp
  have HPz:=ab (show PairsN M X5 (.slice (some ⟨g,0,none⟩) (cl+1) cap) (ps ++ [(sn,fn)]) from ⟨PairsV.own au,fun b hb hm=>by
   obtain rfl:g=b:=by simpa[Value.ownBlock] using hb
   have:=DT.o.1 g hm;have:=xz.o.2.size;omega⟩)
  have BR:=aA (HJ.o.1 _ _ _ ((Nw.below xw).mono xz.o.2.size) xz.o.1) (xz.o.2.trans (Kp.below xw));have QA:=ab (bN xw ie.o);clear au am m7 xw xx hzz;refine eK hK ?_;clear hK K;refine b_ 15 rfl fun K hK=>?_;have qqx:=();exact qaa
 |clear qvU;have hold:((.slice pa p0 p0:Value)=.slice none 0 0/\p0=0/\gx ps=[])\/∃b,(.slice pa p0 p0:Value)=.slice (some b) p0 p0/\(gx ps).length=p0 * 2/\∀ j u,(gx ps)[j]?=some u->(X4.alloc (.cells #[.string ⟨xn.toArray⟩,.string ⟨yn.toArray⟩] 213)).drew.cell? (b.add j)=some u:=by
   exact qdi
  refine b_ 12 rfl fun K hK=>?_;refine gM (.tmp 69) (.tmp 75) 87 rfl 213 i0 (.agg #[.string ByteArray.empty,.string ByteArray.empty]) 2 32 Tryz.underlying87 hi ow iM gY rfl (by decide) (.slice pa p0 p0) p0 (gx ps) rfl hold ⟨X4.heap.size,0,none⟩ 1 1 [.string ⟨xn.toArray⟩,.string ⟨yn.toArray⟩] rfl rfl (cV (cs:=#[.string ⟨xn.toArray⟩,.string ⟨yn.toArray⟩]) (t:=213) (fr:=(0,0)) (fD X4 _)) (by simp[Value.oneCell']) (by decide) (by unfold maxLen;omega) (by omega) ?_;have qtf:=();exact qbG
 |clear qvV;have hold:((.slice pa p0 p0:Value)=.slice none 0 0/\p0=0/\gx ps=[])\/∃b,(.slice pa p0 p0:Value)=.slice (some b) p0 p0/\(gx ps).length=p0 * 2/\∀ j u,(gx ps)[j]?=some u->(X4.alloc (.cells #[.string ⟨xn.toArray⟩,.string ⟨yn.toArray⟩] 196)).drew.cell? (b.add j)=some u:=by
   exact qdi
  refine b_ 12 rfl fun K hK=>?_;refine gM (.tmp 69) (.tmp 75) 193 rfl 196 i0 (.agg #[.string ByteArray.empty,.string ByteArray.empty]) 2 32 Tryz.underlying193 hi ow iM gY rfl (by decide) (.slice pa p0 p0) p0 (gx ps) rfl hold ⟨X4.heap.size,0,none⟩ 1 1 [.string ⟨xn.toArray⟩,.string ⟨yn.toArray⟩] rfl rfl (cV (cs:=#[.string ⟨xn.toArray⟩,.string ⟨yn.toArray⟩]) (t:=196) (fr:=(0,0)) (fD X4 _)) (by simp[Value.oneCell']) (by decide) (by unfold maxLen;omega) (by omega) ?_;exact qbG
 |refine b_ 14 rfl fun K hK=>?_
  go_simp;refine aH.2 ((GA ⟨nm.toArray⟩ (some ⟨wz.heap.size,0,none⟩) 1 1 _).mono ?_);rintro _ A ⟨rfl,hA⟩;have bZ:Below W1.heap.size W1 A:=m7.tr hA;have hw0:Below wz.heap.size wz (wz.drew.alloc (.cells #[.bool x.v,.string x.n,.slice x.a x.l x.c] 43)):=((ai wz.heap.size wz).drew).alloc (aC _) _;have hwA:Below wz.heap.size wz A:=hw0.tr hA;have XX:A.heap[wz.heap.size]?=some (.cells #[.bool x.v,.string x.n,.slice x.a x.l x.c] 43 (0,0)):=(hA.block wz.heap.size (by simp)).trans (ah (by simp));have qxt:=();exact qar):G:=h
theorem qcx(h:G:=by
 exact qjm):G:=h
theorem qcq(h:G:=by
 exact ⟨b,q,lz.next rfl (Kp.refl (M:=bC) _) (fun h=>h) (fun _ _ h=>h) (fun _ h _=>h.1)⟩):G:=h
theorem qaC(h:G:=by
 intro g eF w4 aO am hg eA;have h4:=fh.o.at4 (kk:=2) au bZ am
 first
 |clear qo8;have cD:=fh.o.stepT (F:=2) (t:=a[k]) (g:=g) (cap:=eF) (by rw[dU.o];exact au) (by rw[dU.o];exact eu) gd bZ (hp:TermV (W2.heap.size<=·) A p.val a[k]) (by rw[dU.o];exact aO) am hg rfl;rw[dU.o,List.take_append_getElem dy]at cD;have qcB:=();exact qaf
 |clear qpa;have cD:=fh.o.stepT (F:=2) (t:=(aK a[k])) (g:=g) (cap:=eF) (by rw[dU.o];exact au) (by rw[dU.o];exact eu) gd bZ (hp:TermV (W2.heap.size<=·) A p.val (aK a[k])) (by rw[dU.o];exact aO) am hg rfl;rw[dU.o,cW aK a dy]at cD;have qcB:=();exact qaf
 |clear qpc;have cD:=fh.o.stepT (F:=2) (t:=(aK a[k1])) (g:=g) (cap:=eF) (by rw[dU.o];exact au) (by rw[dU.o];exact eu) gd bZ (hp:TermV (W2.heap.size<=·) A p.val (aK a[k1])) (by rw[dU.o];exact aO) am hg rfl;rw[dU.o,cW aK a dy]at cD;have qpL:=();exact qaf
 |clear qpe;have cD:=fh.o.stepT (F:=2) (t:=(gC f a[k])) (g:=g) (cap:=eF) (by rw[dU.o];exact au) (by rw[dU.o];exact eu) gd bZ (hp:TermV (W2.heap.size<=·) A p.val (gC f a[k])) (by rw[dU.o];exact aO) am hg rfl;rw[dU.o,cW (gC f) a dy]at cD;have qpM:=();exact qaf
 |clear qpg;have cD:=fh.o.stepT (F:=2) (t:=(lG nx z a[k1])) (g:=g) (cap:=eF) (by rw[dU.o];exact au) (by rw[dU.o];exact eu) gd bZ (hp:TermV (W2.heap.size<=·) A p.val (lG nx z a[k1])) (by rw[dU.o];exact aO) am hg rfl;rw[dU.o,cW (lG nx z) a dy]at cD;have qpN:=();exact qaf
 |clear qpi;have cD:=fh.o.stepT (F:=2) (t:=(da kd.ts sc a[k])) (g:=g) (cap:=eF) (by rw[dU.o];exact au) (by rw[dU.o];exact eu) gd bZ (hp:TermV (W2.heap.size<=·) A p.val (da kd.ts sc a[k])) (by rw[dU.o];exact aO) am hg rfl;rw[dU.o,cW (da kd.ts sc) a dy]at cD;have qcC:=();exact qaf
 |have cD:=fh.o.stepT (F:=2) (t:=(da kd.ts c a[k1])) (g:=g) (cap:=eF) (by rw[dU.o];exact au) (by rw[dU.o];exact eu) gd bZ (hp:TermV (W2.heap.size<=·) A p.val (da kd.ts c a[k1])) (by rw[dU.o];exact aO) am hg rfl;rw[dU.o,cW (da kd.ts c) a dy]at cD;exact qaf):G:=h
theorem qjp(h:G:=by
 go_wp2_with (go_at_call 91;refine HC.o.mono ?_;rintro e w4 ⟨⟨⟨p0,p1,p2,p3,p4,p5,p6,p7⟩,rfl,hp⟩,aR⟩;have H4:=ab aR;clear hp aR;simp only[Option.isSome]);go_ret
 first
 |clear qxu;exact StepPost.bad HE.o (by decide) (Kp.below ((H3.o.1.tr H4.o).alloc (H3.o.1.tr H4.o).size _))
 |exact StepPost.bad HE.o (by decide) (Kp.below ((H2.o.2.1.tr H4.o).alloc (H2.o.2.1.tr H4.o).size _))):G:=h
theorem qbB(h:G:=by
 injection e with e;obtain rfl:g=b:=e;rcases hg with hg | hg
 first
 |clear qg9
  ·exact hok.2 hg
  ·omega
 |·have:=hv g hg;omega
  ·omega):G:=h
theorem qdL(h:G:=by
 clear hM tN p9 DY;have qoN:=();exact qak):G:=h
theorem qeQ(h:G:=by
 go_wp2;go_loopw [8] (fun i wr=>∃k:Nat,k<=k0/\i=.int .i64 k/\Below w.heap.size w wr/\∀ t∈l.take k,pr t=false) (fun i _=>k0 - (intOf i).toNat)
 case atStart=>exact ⟨0,aX _,rfl,ai _ _,by simp⟩
 first
 |clear qmW
  case round=>
   obtain ⟨k,hk,rfl,aq,gV⟩:=hrel
   by_cases hlt:k<k0
   ·have bj:=cb HK.o hlt;obtain ⟨b,off,⟨xv,xn,xa,xl,xc⟩,rfl,hok,hx,c0,c1,c2⟩:=HV.o.get bj;simp only at c0 c1 c2;have qor:=();exact qab
   ·obtain rfl:k=k0:=by omega
    have HE:=ab (show l.any pr=false by
     rw[HK.o,cK]at gV;rw[List.any_eq_false];intro t ht;rw[gV t ht];simp)
    have HB:=ab aq;clear aq gV;go_wp2;go_ret;exact ⟨⟨_,rfl,by rw[HE.o];simp⟩,HB.o⟩
 |case round=>
   obtain ⟨k,hk,rfl,aq,gV⟩:=hrel
   by_cases hlt:k<k0
   ·have bj:=cb HK.o hlt;obtain ⟨b,off,rfl,hok,c0⟩:=HV.o.get bj;have d0:=aa aq c0;have CB:=HP.o l[k] wr (ap bj) aq;have D3:(k:Int)<(k0:Int):=by omega
    cases hq:pr l[k] with
    | true=>
     rw[hq]at CB;have HC:=ab CB;have HE:=bx hq gV (io bj);have qxv:=();exact qju
    | false=>
     rw[hq]at CB;have HC:=ab CB;have BH:=ab (_p bj gV hq);exact qju
   ·obtain rfl:k=k0:=by omega
    have HE:=ab (show ∀ x∈l,pr x=false by
     rw[HK.o,cK]at gV;exact gV)
    have HB:=ab aq;clear aq gV;go_wp2;go_ret;exact ⟨.inl ⟨rfl,HE.o⟩,HB.o⟩):G:=h
theorem qiP(h:G:=by
 gi_wp2_with fail;refine aH.2 (KS.o.mono ?_);rintro e ix ⟨rfl,mn⟩;clear e0 e1 e2 e3;have z9:=ab (show W1.heap.size<=ix.heap.size from aN RF mn.size);have x0:=bN mn HE.o.1;have x1:=bN mn HE.o.2.1
 first
 |clear qxw;have xu:=bN mn HE.o.2.2.1;have x2:=bN mn HE.o.2.2.2.1;have sF:=ab (HE.o.2.2.2.2.tr mn);have Zn:=ab (HR.o.below mn);have ⟨Oy,zdm,Vm⟩:=cE x1 xu x0;clear HE HR mn RF
  cases qL:bm qo with
  | false=>
   have ym:Hd (RS=.mk qo n (a.map (lG nx z)) (s.map (fI kk nx z))):=ab (by rw[XV.o,x_ qL];rfl);have p3:ix.cell? ⟨w.heap.size,3,none⟩=some (.slice qb m0 qe):=ag x0 3;have uY:=ab (Fills.start (R:=w.heap.size+1+1+1) (mk:=fun rr=>#[.int .u8 qo,.string ⟨n.toArray⟩,.slice gy k1 gz,rr]) (Row:=fun r W=>RowF ix.heap.size r ((s.map (fI kk nx z)).take 0) W) x2 (RowF.nil _ _));clear x0 x1 xu x2 qL;gi_wp2;gi_loopw [90] (fun i wr=>∃k:Nat,k<=m0/\i=.int .i64 k/\∃row,Fills 36 (w.heap.size+1+1+1) ix.heap.size (fun rr=>#[.int .u8 qo,.string ⟨n.toArray⟩,.slice gy k1 gz,rr]) (fun r W=>RowF ix.heap.size r ((s.map (fI kk nx z)).take k) W) ix wr row) (fun i _=>m0 - (intOf i).toNat)
   case atStart=>exact ⟨0,aX _,rfl,_,uY.o⟩
   case round=>
    obtain ⟨k,hk,rfl,row,hF⟩:=hrel;have aq:=hF.below sF.o ((by omega))
    by_cases hlt:k<m0
    ·have dy:=cb gt.o hlt;have qxx:=();exact qa5
    ·obtain rfl:k=m0:=by omega
     exact qjv
  | true=>
   obtain ⟨rfl,g,rfl⟩:=HQs.o qL;obtain rfl:m0=1:=gt.o;obtain rfl:k1=0:=du.o;have qxy:=();exact qjw
 |have x2:=bN mn HE.o.2.2.1;have sF:=ab (HE.o.2.2.2.tr mn);have Zn:=ab (HR.o.below mn);have ⟨Oy,Vm,zd6⟩:=cE x1 x0 x2;clear HE HR mn RF
  cases qL:bm so with
  | false=>
   have ym:Hd (RS=.mk so n (a.map (da kd.ts c)) (ss.map (cw kd c))):=ab (by rw[XV.o,Wv FV.o.1 FV.o.2 qL]);have p3:ix.cell? ⟨w.heap.size,3,none⟩=some (.slice sb m1 se):=ag x0 3;have _A:=ab (Fills.start (R:=w.heap.size+1+1) (mk:=fun rr=>#[.int .u8 so,.string ⟨n.toArray⟩,.slice gy k1 gz,rr]) (Row:=fun r W=>RowF ix.heap.size r ((ss.map (cw kd c)).take 0) W) x2 (RowF.nil _ _));clear x0 x1 x2 qL;gi_wp2;gi_loopw [121] (fun i wr=>∃k:Nat,k<=m1/\i=.int .i64 k/\∃row,Fills 36 (w.heap.size+1+1) ix.heap.size (fun rr=>#[.int .u8 so,.string ⟨n.toArray⟩,.slice gy k1 gz,rr]) (fun r W=>RowF ix.heap.size r ((ss.map (cw kd c)).take k) W) ix wr row) (fun i _=>m1 - (intOf i).toNat)
   case atStart=>exact ⟨0,aX _,rfl,_,_A.o⟩
   case round=>
    obtain ⟨k,hk,rfl,row,hF⟩:=hrel;have aq:=hF.below sF.o (by omega)
    by_cases hlt:k<m1
    ·have dy:=cb GM.o hlt;exact qa5
    ·obtain rfl:k=m1:=by omega
     have ce:((ss.map (cw kd c)).take k).length=k:=by rw[dS];have:=GM.o;simp;omega
     have j_:(ss.map (cw kd c)).take k=(ss.map (cw kd c)):=iP (by have:=GM.o;simp;omega);have qxz:=();exact qbu
  | true=>
   obtain ⟨rfl,g,rfl⟩:=HQs.o qL;obtain rfl:m1=1:=GM.o;obtain rfl:k1=0:=qE.o;exact qjw):G:=h
theorem qi8(h:G:=by
 have gG:(p1 == p1)=true:=by first | (simp;done) | simpa using ha
 have kf:(p2 == yn)=false:=by first | (simp;done) | simpa using hb
 have HE:=ab (show R=false by rw[HM.o,ht];simp[kf]);clear ht;go_wp2
 first
 |clear qwb;have qc0:=();exact qac
 |go_ret;exact qdM):G:=h
theorem qi9(h:G:=by
 have gG:(p1 == xn)=false:=by first | (simp;done) | simpa using ha
 have kf:(p2 == p2)=true:=by first | (simp;done) | simpa using hb
 have HE:=ab (show R=false by rw[HM.o,ht];simp[gG]);clear ht;go_wp2
 first
 |clear qwc;have qc0:=();exact qac
 |go_ret;exact qdM):G:=h
