/-L-/
import Derived.Deep.AppendLies
import Derived.Deep.DeepCutAuto
import Derived.Deep.DeepWitnessRowRef
import Derived.Deep.Upon
import Derived.Lib.ItoaMem
import Derived.Lib.LaidU8
import Derived.Lib.SmallJoins
import Derived.Maps.OwnIn
import Derived.OrdersHeld
import Derived.RangeFuncNested
import Derived.Shelf.SlIter.Nil
import Derived.Shelf.SortM.Plain
import Derived.Shelf.SortM.SortNone
import Derived.WalkLawsBesides
import Derived.WalkSpells
namespace Go.Proofs.YtokemihbkeddoaaGreatDoor
open Go Go.RowKit Lib
set_option maxRecDepth 100000
variable{G:Prop}
theorem qab(h:G:=by
 have⟨d0,d1,d2⟩:=kB aD c0 c1 c2
 first
 |clear qov;have cr:(a.take k).length=k:=by rw[dO];omega
  have qow:=();exact qbv
 |clear qox;have cr:((a.map aU).take k).length=k:=by rw[dO];have:=dN.o;simp;omega
  have qoy:=();exact qbv
 |clear qoz;have cr:((a.map aU).take k1).length=k1:=by rw[dO];have:=dN.o;simp;omega
  obtain⟨fN,fO,rfl⟩:=hF.row.slice;have qoA:=();exact qbw
 |clear qoB;have up:=();exact qfM
 |clear qoD;have qoE:=();exact qbx
 |clear qoF;have qoG:=();exact qbx
 |clear qoH;have qoI:=();exact qfN
 |clear qoJ;have qoK:=();exact qfO
 |clear qoL;exact qfO
 |clear qoM;have cr:(l.take k).length=k:=by rw[dO];omega
  rw[cr]at hR⊢;have HU:=ae ((hu.later aD).later (W':=wr.alloc (.cells #[.bool u.v,.string u.n,.slice u.a u.l u.c] 43)) dp);have⟨cR,HR,dR⟩:=cU aD hR cr;clear hu aD hR cr c0 c1 c2;exact qfP
 |clear qoN;have qoO:=();exact qfQ
 |clear qoP;have qoQ:=();exact qfR
 |clear qoR;have CB:=HP.o l[k] (aH bA) _ wr ⟨xv,xn,xa,xl,xc⟩ (X_.o.tr aD) (hx.later aD);simp only[TQ.val]at CB;have Cu:(k:Int)<(k0:Int):=by omega
  cases hq:pr l[k]with
  |true=>
   rw[hq]at CB;have HC:=ae CB;have HE:=ae (show l.any pr=true from List.any_eq_true.2 ⟨_,aH bA,hq⟩);have up:=();exact qfS
  |false=>
   rw[hq]at CB;have HC:=ae CB;have Bl:=ae (show ∀ t∈l.take (k+1),pr t=false by
    intro t hm;rw[List.take_add_one,jn bA]at hm;rcases List.mem_append.1 hm with h|h
    ·exact iX t h
    ·obtain rfl:t=l[k]:=by simpa using h
     exact hq)
   exact qfS
 |clear qoT;have CC:=ae (fun(W:World)(hb:Below wr.heap.size wr W)=>sD ok W ua ul uc hf.args ((gH.later aD).later hb));have HB:=ae aD;have⟨N,hN⟩:=az (fV x (l.take k));have⟨M,hM⟩:=az (fV x xa);have zaI:fV x (l.take (k+1))=N+((if uv&&xn==x then 1 else 0)+M):=by rw[jX,hN,hM];rfl
  simp only[Tm.a]at CC;rw[<-hN];rw[<-hM]at CC;rw[zaI]at hb1;have HS:=ae zaI;clear hu sD hf hx gH aD jX hN hM zaI c0 c1 c2;have HW:=ae (show Below wr.heap.size wr (wr.alloc (.cells #[.bool uv,.string ⟨xn.toArray⟩,.slice ua ul uc] 43))from dp);have e2:(wr.alloc (.cells #[.bool uv,.string ⟨xn.toArray⟩,.slice ua ul uc] 43)).cell? ⟨wr.heap.size,2,none⟩=some (.slice ua ul uc):=ao (aq rfl) 2
  cases uv with
  |false=>
   simp only[Bool.false_and,bR,if_false]at hb1;have up:=();exact qcJ
  |true=>
   by_cases hn:xn=x
   ·subst hn;simp only[dL,beq_self_eq_true,if_true]at hb1;have Ss:=();exact qcJ
   ·have eB:(xn==x)=false:=by simpa using hn
    rw[eB]at hb1;simp only[Bool.and_false,bR,if_false]at hb1;exact qcJ
 |clear qoW;have qoX:=();exact qaL
 |clear qoY;have qoZ:=();exact qby
 |clear qo0;have qo1:=();exact qby
 |clear qo2;have qo3:=();exact qfT
 |clear qo4;exact qfN
 |clear qo5;exact qfR
 |clear qo6;have Cu:(k:Int)<(k0:Int):=by omega
  have vI:=ae (fun(V:World)(hb:Below W5.heap.size W5 V)=>HC ok κ V qa m0 qc _ ((bN.later aD).later hb) ((HNs.o.later aD).later hb));have⟨HB,HR,dR,oa,gT⟩:=sL aD hR cr AR eh;have qo7:=();exact qaZ
 |have cr:((a.map (ep (s8 c))).take k1).length=k1:=by rw[dO];have:=dN.o;simp;omega
  obtain⟨fN,fO,rfl⟩:=hF.row.slice;exact qbw):G:=h
theorem qfU(h:G:=by
 obtain⟨j,Gc,kj,hj,rfl,bD,rR,ia,jm⟩:=hrel
 by_cases hlt:j<n1
 ·have lU:=cG HN.o.1 hlt;have Ba:=cG HN.o.2 hlt;have qo8:=();exact qfV
 ·obtain rfl:j=n1:=by omega
  have N6:=ae (show R=some kj by rw[jm,iW (by rw[<-HN.o.1];exact aK _)];simp[cY]);have cr:a.take j=a:=by rw[HN.o.1];exact dA
  rw[cr]at rR;have HK:=bS bD rR ia;clear bD rR ia jm cr;go_wp2;go_ret;exact⟨(Kp.below H3.o.1).trans HK.o.1,true,rfl,(fun h=>by rw[N6.o]at h;cases h),(fun ts hts=>⟨rfl,Gc,by have:=HK.o.2.1;have:=Ub.o.2;omega,by rw[N6.o]at hts;cases hts;exact HK.o.2.2⟩)⟩):G:=h
theorem qbz(h:G:=by
 obtain⟨b,off,u,rfl,kC,hu,c0,c1,c2,c3⟩:=Tu.o.get bA
 first
 |clear qo9;have ZU:=();exact qfW
 |clear qpb;have d0:=le.cell kC.2 c0;have d1:=le.cell kC.2 c1;have d2:=le.cell kC.2 c2;have d3:=le.cell kC.2 c3;have jX:=qP (b:=bs') bA;have sH:=fX bA;have mn:=de ss (k+1);exact qfX
 |clear qpc;exact qci
 |have z7:=s_.o b kC;have d0:=bD.cell z7 c0;have d1:=bD.cell z7 c1;have d2:=bD.cell z7 c2;have d3:=bD.cell z7 c3;have qY:=de s (k+1);have jX:=fX bA;have KE:=jF bA;have II:dJ true (s.take (k+1))=_:=lY bA;have Ss:=();exact qfY):G:=h
theorem qaj(h:G:=by
 go_enter func64,ntmps64
 first
 |clear qpe;go_wp2_with (first|(go_at_call 115;refine C1.o.mono ?_;rintro e w' ⟨rfl,pD⟩;obtain rfl:=pD.symm)|(go_at_call 116;refine(CN.o _).mono ?_;rintro e w3 ⟨rfl,aS⟩;have bV:=ae aS;have p2:=(ji.o.later aS).c2;have p3:=(ji.o.later aS).c3;have p0:=(ji.o.later aS).c0;have s3:=(ug.o.later aS).c3;have s4:=(ug.o.later aS).c4;clear aS));go_ret;exact eF.no (l:=left-1) HE.o (pE.o.trans (Kp.below bV.o)) (zL.o.later bV.o) (by omega) (by omega)
 |clear qpf;go_wp2_with (first|(go_at_call 115;refine C1.o.mono ?_;rintro e w' ⟨rfl,pD⟩;obtain rfl:=pD.symm)|(go_at_call 116;refine(CN.o _).mono ?_;rintro e w3 ⟨rfl,aS⟩;have bV:=ae aS;have p2:=(ji.o.later aS).c2;have p3:=(ji.o.later aS).c3;have p0:=(ji.o.later aS).c0;have s3:=(ug.o.later aS).c3;have s4:=(ug.o.later aS).c4;clear aS)|(go_at_call 117;refine(CI.o _ (pE.o.trans (Kp.below bV.o))).mono ?_;rintro e w4 ⟨rfl,aY⟩;have e9:=ae aY;have p2:=((ji.o.later bV.o).later aY).c2;have p3:=((ji.o.later bV.o).later aY).c3;clear aY));go_ret;exact eF.no (l:=left-1) HE.o ((pE.o.trans (Kp.below bV.o)).trans (Kp.below e9.o)) ((zL.o.later bV.o).later e9.o) (by omega) (by omega)
 |clear qpg;go_wp2_with (first|(go_at_call 115;refine C1.o.mono ?_;rintro e w' ⟨rfl,pD⟩;obtain rfl:=pD.symm)|(go_at_call 116;refine(CN.o _).mono ?_;rintro e w3 ⟨rfl,aS⟩;have bV:=ae aS;have p2:=(ji.o.later aS).c2;have p3:=(ji.o.later aS).c3;have p0:=(ji.o.later aS).c0;have s3:=(ug.o.later aS).c3;have s4:=(ug.o.later aS).c4;clear aS)|(go_at_call 117;refine(CI.o _ (pE.o.trans (Kp.below bV.o))).mono ?_;rintro e w4 ⟨rfl,aY⟩;have e9:=ae aY;have p2:=((ji.o.later bV.o).later aY).c2;have p3:=((ji.o.later bV.o).later aY).c3;clear aY)|(go_at_call 118;refine(CT.o _ ((pE.o.trans (Kp.below bV.o)).trans (Kp.below e9.o)) ((zL.o.later bV.o).later e9.o)).mono ?_;rintro e w5 ⟨rfl,xg,l5,EP,ER,sf,mh⟩;have HH:=cH xg EP ER ER;have HL:=ae (show l5<=left-1 from sf);clear xg EP ER sf mh));go_ret;exact eF.no HE.o (((pE.o.trans (Kp.below bV.o)).trans (Kp.below e9.o)).trans HH.o.1) HH.o.2.1 HH.o.2.2.1 (by have:=HL.o;omega)
 |clear qph;have qpi:=();exact qfZ
 |clear qpj;go_wp2_with (first|(go_at_call 115;refine C1.o.mono ?_;rintro e w' ⟨rfl,pD⟩;obtain rfl:=pD.symm)|(go_at_call 116;refine(CN.o _).mono ?_;rintro e w3 ⟨rfl,aS⟩;have bV:=ae aS;have p2:=(ji.o.later aS).c2;have p3:=(ji.o.later aS).c3;have p0:=(ji.o.later aS).c0;have s3:=(ug.o.later aS).c3;have s4:=(ug.o.later aS).c4;clear aS)|(go_at_call 118;refine(CT.o _ (pE.o.trans (Kp.below bV.o)) (zL.o.later bV.o)).mono ?_;rintro e w5 ⟨rfl,xg,l5,EP,ER,sf,mh⟩;have HH:=cH xg EP ER ER;have HL:=ae (show l5<=left-1 from sf);clear xg EP ER sf mh));go_ret;exact eF.no HE.o ((pE.o.trans (Kp.below bV.o)).trans HH.o.1) HH.o.2.1 HH.o.2.2.1 (by have:=HL.o;omega)
 |clear qpk;have qpl:=();exact qf0
 |clear qpm;have up:=();exact qf1
 |clear qpo;exact qfZ
 |clear qpp;exact qf0
 |clear qpq;exact qf1
 |go_wp2_with (go_at_call 115;refine C1.o.mono ?_;rintro e w' ⟨rfl,rfl⟩);exact qf2):G:=h
theorem qag(h:G:=by
 go_simp;refine hK _ _ (fun _=>by rw[c9.o];exact cd.trans (((ar _ A).alloc (aK _) _).mono cd.size)) (fun _=>?_);clear hK K;obtain⟨qs,eJ,aE,gM⟩:=fk.o.row;rw[dR.o]at eJ aE;have n_:=cd.size;have ru:=fk.o.size
 first
 |clear qpr;refine cb 5 rfl fun K hK=>?_
  refine bz (.tmp 36) (.tmp 39) 34 rfl IW.heap.size 36 GP (.agg #[.int .u8 0,.string ByteArray.empty,.slice none 0 0,.slice none 0 0]) 4 72 underlying34 hj lU Ba QR rfl (by decide) (.slice ra k rc) k _ rfl ((bh aE (fun b _ hlt=>cd.block b hlt)).alloc _) ⟨_,0,none⟩ 1 1 p.cells rfl rfl (da (cs:=#[.int .u8 p.o,.string p.n,.slice p.a p.l p.c,.slice p.b p.m p.e]) (t:=36) (fr:=(0,0)) (fR A _)) (by simp[FQ.cells,Value.oneCell']) (by decide) (by unfold maxLen;omega) (by omega) (by simp;omega) (A.heap.size+1) (by simp) ?_;have qps:=();exact qa1
 |clear qpt;refine cb 7 rfl fun K hK=>?_
  refine bz (.tmp 95) (.tmp 100) 34 rfl iz.heap.size 36 GP (.agg #[.int .u8 0,.string ByteArray.empty,.slice none 0 0,.slice none 0 0]) 4 72 underlying34 hj lU Ba QR rfl (by decide) (.slice ra k rc) k _ rfl ((bh aE (fun b _ hlt=>cd.block b hlt)).alloc _) ⟨_,0,none⟩ 1 1 p.cells rfl rfl (da (cs:=#[.int .u8 p.o,.string p.n,.slice p.a p.l p.c,.slice p.b p.m p.e]) (t:=36) (fr:=(0,0)) (fR A _)) (by simp[FQ.cells,Value.oneCell']) (by decide) (by unfold maxLen;omega) (by omega) (by simp;omega) (A.heap.size+1) (by simp) ?_;have qpu:=();exact qa1
 |clear qpv;refine cb 7 rfl fun K hK=>?_
  refine bz (.tmp 126) (.tmp 131) 34 rfl iz.heap.size 36 GP (.agg #[.int .u8 0,.string ByteArray.empty,.slice none 0 0,.slice none 0 0]) 4 72 underlying34 hj lU Ba QR rfl (by decide) (.slice ra k rc) k _ rfl ((bh aE (fun b _ hlt=>cd.block b hlt)).alloc _) ⟨_,0,none⟩ 1 1 p.cells rfl rfl (da (cs:=#[.int .u8 p.o,.string p.n,.slice p.a p.l p.c,.slice p.b p.m p.e]) (t:=36) (fr:=(0,0)) (fR A _)) (by simp[FQ.cells,Value.oneCell']) (by decide) (by unfold maxLen;omega) (by omega) (by simp;omega) (A.heap.size+1) (by simp) ?_;have qpw:=();exact qa1
 |clear qpx;refine cb 10 rfl fun K hK=>?_
  refine bz (.tmp 24) (.tmp 32) 34 rfl W1.heap.size 36 GP (.agg #[.int .u8 0,.string ByteArray.empty,.slice none 0 0,.slice none 0 0]) 4 72 underlying34 hj lU Ba QR rfl (by decide) (.slice ra k rc) k _ rfl ((bh aE (fun b _ hlt=>cd.block b hlt)).alloc _) ⟨_,0,none⟩ 1 1 p.cells rfl rfl (da (cs:=#[.int .u8 p.o,.string p.n,.slice p.a p.l p.c,.slice p.b p.m p.e]) (t:=36) (fr:=(0,0)) (fR A _)) (by simp[FQ.cells,Value.oneCell']) (by decide) (by unfold maxLen;omega) (by omega) (by simp;omega) (A.heap.size+1) (by simp) ?_;have qpy:=();exact qa1
 |clear qpz;refine cb 7 rfl fun K hK=>?_
  refine bz (.tmp 75) (.tmp 80) 34 rfl wj.heap.size 36 GP (.agg #[.int .u8 0,.string ByteArray.empty,.slice none 0 0,.slice none 0 0]) 4 72 underlying34 hj lU Ba QR rfl (by decide) (.slice ra k rc) k _ rfl ((bh aE (fun b _ hlt=>cd.block b hlt)).alloc _) ⟨_,0,none⟩ 1 1 p.cells rfl rfl (da (cs:=#[.int .u8 p.o,.string p.n,.slice p.a p.l p.c,.slice p.b p.m p.e]) (t:=36) (fr:=(0,0)) (fR A _)) (by simp[FQ.cells,Value.oneCell']) (by decide) (by unfold maxLen;omega) (by omega) (by simp;omega) (A.heap.size+1) (by simp) ?_;exact qa1
 |clear qpA;refine cb 5 rfl fun K hK=>?_
  refine bz (.tmp 19) (.tmp 22) 33 rfl W1.heap.size 43 i0 (.agg #[.bool false,.string ByteArray.empty,.slice none 0 0]) 3 48 underlying33 hi oO jv iG rfl (by decide) (.slice ra k rc) k _ rfl ((bh aE (fun b _ hlt=>cd.block b hlt)).alloc _) ⟨_,0,none⟩ 1 1 p.cells rfl rfl (da (cs:=#[.bool p.v,.string p.n,.slice p.a p.l p.c]) (t:=43) (fr:=(0,0)) (fR A _)) (by simp[TQ.cells,Value.oneCell']) (by decide) (by unfold maxLen;omega) (by omega) (by simp;omega) (A.heap.size+1) (by simp) ?_;have qpB:=();exact qaw
 |clear qpC;refine cb 5 rfl fun K hK=>?_
  refine bz (.tmp 30) (.tmp 33) 33 rfl W1.heap.size 43 sB (.agg #[.bool false,.string ByteArray.empty,.slice none 0 0]) 3 48 underlying33 hi AV xV B8 rfl (by decide) (.slice ra k rc) k _ rfl ((bh aE (fun b _ hlt=>cd.block b hlt)).alloc _) ⟨_,0,none⟩ 1 1 p.cells rfl rfl (da (cs:=#[.bool p.v,.string p.n,.slice p.a p.l p.c]) (t:=43) (fr:=(0,0)) (fR A _)) (by simp[TQ.cells,Value.oneCell']) (by decide) (by unfold maxLen;omega) (by omega) (by simp;omega) (A.heap.size+1) (by simp) ?_;have qpD:=();exact qaw
 |clear qpE;refine cb 5 rfl fun K hK=>?_
  refine bz (.tmp 21) (.tmp 24) 33 rfl W1.heap.size 43 sB (.agg #[.bool false,.string ByteArray.empty,.slice none 0 0]) 3 48 underlying33 hi AV xV B8 rfl (by decide) (.slice fN k1 fO) k1 _ rfl ((bh aE (fun b _ hlt=>cd.block b hlt)).alloc _) ⟨_,0,none⟩ 1 1 p.cells rfl rfl (da (cs:=#[.bool p.v,.string p.n,.slice p.a p.l p.c]) (t:=43) (fr:=(0,0)) (fR A _)) (by simp[TQ.cells,Value.oneCell']) (by decide) (by unfold maxLen;omega) (by omega) (by simp;omega) (A.heap.size+1) (by simp) ?_;have qpF:=();exact qaw
 |clear qpG;refine cb 6 rfl fun K hK=>?_
  refine bz (.tmp 35) (.tmp 39) 33 rfl W1.heap.size 43 sB (.agg #[.bool false,.string ByteArray.empty,.slice none 0 0]) 3 48 underlying33 hi AV xV B8 rfl (by decide) (.slice ra k rc) k _ rfl ((bh aE (fun b _ hlt=>cd.block b hlt)).alloc _) ⟨_,0,none⟩ 1 1 p.cells rfl rfl (da (cs:=#[.bool p.v,.string p.n,.slice p.a p.l p.c]) (t:=43) (fr:=(0,0)) (fR A _)) (by simp[TQ.cells,Value.oneCell']) (by decide) (by unfold maxLen;omega) (by omega) (by simp;omega) (A.heap.size+1) (by simp) ?_;have qpH:=();exact qaw
 |clear qpI;refine cb 9 rfl fun K hK=>?_
  refine bz (.tmp 28) (.tmp 35) 33 rfl W1.heap.size 43 sB (.agg #[.bool false,.string ByteArray.empty,.slice none 0 0]) 3 48 underlying33 hi AV xV B8 rfl (by decide) (.slice fN k1 fO) k1 _ rfl ((bh aE (fun b _ hlt=>cd.block b hlt)).alloc _) ⟨_,0,none⟩ 1 1 p.cells rfl rfl (da (cs:=#[.bool p.v,.string p.n,.slice p.a p.l p.c]) (t:=43) (fr:=(0,0)) (fR A _)) (by simp[TQ.cells,Value.oneCell']) (by decide) (by unfold maxLen;omega) (by omega) (by simp;omega) (A.heap.size+1) (by simp) ?_;have qpJ:=();exact qaw
 |clear qpK;refine cb 7 rfl fun K hK=>?_
  refine bz (.tmp 52) (.tmp 57) 33 rfl W1.heap.size 43 sB (.agg #[.bool false,.string ByteArray.empty,.slice none 0 0]) 3 48 underlying33 hi AV xV B8 rfl (by decide) (.slice ra k rc) k _ rfl ((bh aE (fun b _ hlt=>cd.block b hlt)).alloc _) ⟨_,0,none⟩ 1 1 p.cells rfl rfl (da (cs:=#[.bool p.v,.string p.n,.slice p.a p.l p.c]) (t:=43) (fr:=(0,0)) (fR A _)) (by simp[TQ.cells,Value.oneCell']) (by decide) (by unfold maxLen;omega) (by omega) (by simp;omega) (A.heap.size+1) (by simp) ?_;have qpL:=();exact qaw
 |clear qpM;refine cb 7 rfl fun K hK=>?_
  refine bz (.tmp 71) (.tmp 76) 33 rfl W1.heap.size 43 sB (.agg #[.bool false,.string ByteArray.empty,.slice none 0 0]) 3 48 underlying33 hi AV xV B8 rfl (by decide) (.slice ra k1 rc) k1 _ rfl ((bh aE (fun b _ hlt=>cd.block b hlt)).alloc _) ⟨_,0,none⟩ 1 1 p.cells rfl rfl (da (cs:=#[.bool p.v,.string p.n,.slice p.a p.l p.c]) (t:=43) (fr:=(0,0)) (fR A _)) (by simp[TQ.cells,Value.oneCell']) (by decide) (by unfold maxLen;omega) (by omega) (by simp;omega) (A.heap.size+1) (by simp) ?_;have qpN:=();exact qaw
 |refine cb 6 rfl fun K hK=>?_
  refine bz (.tmp 28) (.tmp 32) 33 rfl W1.heap.size 43 sB (.agg #[.bool false,.string ByteArray.empty,.slice none 0 0]) 3 48 underlying33 hi AV xV B8 rfl (by decide) (.slice fN k1 fO) k1 _ rfl ((bh aE (fun b _ hlt=>cd.block b hlt)).alloc _) ⟨_,0,none⟩ 1 1 p.cells rfl rfl (da (cs:=#[.bool p.v,.string p.n,.slice p.a p.l p.c]) (t:=43) (fr:=(0,0)) (fR A _)) (by simp[TQ.cells,Value.oneCell']) (by decide) (by unfold maxLen;omega) (by omega) (by simp;omega) (A.heap.size+1) (by simp) ?_;exact qaw):G:=h
theorem qf3(h:G:=by
 have s9:=ae (ce.start (R:=w.heap.size+1+1+1) (mk:=fun rr=>#[.int .u8 qo,.string ⟨nm.toArray⟩,.slice fN k1 fO,rr]) (Row:=fun r W=>eO wj.heap.size r ((s.map (eb fr cc)).take 0) W) zbW.o (eO.nil _ _));gi_loopw [70] (fun i wr=>∃k:Nat,k<=m0/\i=.int .i64 k/\∃row,ce 36 (w.heap.size+1+1+1) wj.heap.size (fun rr=>#[.int .u8 qo,.string ⟨nm.toArray⟩,.slice fN k1 fO,rr]) (fun r W=>eO wj.heap.size r ((s.map (eb fr cc)).take k) W) wj wr row) (fun i _=>m0-(intOf i).toNat)
 case atStart=>exact⟨0,bn _,rfl,_,s9.o⟩
 case round=>
  obtain⟨k,hk,rfl,row,hF⟩:=hrel;have aD:=hF.below HBj.o (by omega)
  by_cases hlt:k<m0
  ·have dG:=cG gT.o hlt;have qpO:=();exact qaM
  ·obtain rfl:k=m0:=by omega
   have qpP:=();exact qf4):G:=h
theorem qcK(h:G:=by
 have qpQ:=();exact qbA):G:=h
theorem qa2(h:G:=by
 have qpR:=();exact qf5):G:=h
theorem qad(h:G:=by
 refine wpQuiet_nil ?_;rintro _ ⟨x',rfl⟩
 first
 |clear qpS;clear f0 f1;have qpT:=();exact qas
 |clear qpU;clear f0 f1 f2 f3;go_wp2;go_ret;exact⟨aJ HE.o.symm,cR.o.trans (x'.below.mono cR.o.size)⟩
 |clear qpV;clear f0 f1 f2 f3;go_wp2;go_roundw
  case rel=>exact⟨j,by omega,by go_num,oh.o.trans (x'.below.mono oh.o.size),HT.o⟩
  case measure=>simp[intOf];try omega
 |clear qpW;clear f0 f1 f2 f3 f4 f5;have qpX:=();exact qas
 |clear qpY;have⟨W9,vd⟩:=az x'.w;have oq:Below W8.heap.size W8 W9:=by rw[vd];exact x'.below
  rw[<-vd];clear vd q0 q1 q2 q3 q4 q5 q6 q7 q8 q9 q10 Cd SA hw3 x';have EM:Kp (N2 mF mT) W W9:=pA.o.2.1.trans (Kp.below oq);have x27:=bY oq pA.o.1.1;have x79:=bY oq pA.o.1.2.1;have xt9:=bY oq pA.o.1.2.2;have OB:=HE1.o
  by_cases jd:m3=ni
  ·rw[aw (by simp[jd])]at OB;exact qf6
  ·rw[aG (by simp[jd])]at OB;exact qf7
 |clear qpZ;clear f0 f1 f2 f3 f4 f5;have qp0:=();exact qas
 |clear qp1;clear f0 f1 f2 f3 f4 f5;go_wp2;go_ret;exact⟨aJ (HNe.o (by rw[HX.o.1,HX.o.2];intro h;injection h with _ h _;exact hn h)).symm,HB.o.trans (x'.below.mono HB.o.size)⟩
 |clear qp2;clear f0 f1 f2 f3 f4 f5 f6 f7;have qp3:=();exact qas
 |clear qp4;clear f0 f1 f2 Cd SA hw3 SJ hw5 htd zbO;have qp5:=();exact qas
 |clear qp6;have e3:x'.w.cell? ⟨w.heap.size,3,none⟩=some (.slice qb k0 qe):=x'.get (ao HX.o 3);have qp7:=();exact qas
 |clear qp8;clear f0 f1 f2 f3 f4 f5 f6 g2 g3 g4 g5 g6;have qp9:=();exact qas
 |clear qqa;clear f0 f1 f2 f3 f4 f5 f6 g2 g3 g4 g5 g6;have qqb:=();exact qas
 |clear qqc;clear f0 f1 f2 f3 f4 f5 f6 g2 g3 g4 g5 g6;exact qas
 |clear ZU;clear f0 f1 f2 f3 f4 f5 f6;exact qcL
 |clear qf9;clear f0 f1 f2 g0 g1 g2 g3;exact qcL
 |clear f0 f1 f2 f3 g0 g1 g2 g3 g4;exact qcL):G:=h
theorem qae(h:G:=by
 have oa:=ae cV;have d3:=h4.2.2;have z3:=h4.2.1;clear aV au hg eM cV h4 aE eJ gM hp hA;refine eX hK ?_;clear hK K
 first
 |clear qga;refine cb 13 rfl fun K hK=>?_
  go_simp;refine eX hK ?_;clear hK K;refine cb 14 rfl fun K hK=>?_;have qqd:=();exact qaa
 |clear GB;have qqe:=();exact qgb
 |clear an;refine cb 8 rfl fun K hK=>?_
  go_simp;have qqf:=();exact qbC
 |clear qqg;refine cb 11 rfl fun K hK=>?_
  go_simp;refine eX hK ?_;clear hK K;refine cb 12 rfl fun K hK=>?_;have qqh:=();exact qaa
 |clear qqi;exact qgb
 |clear qqj;refine cb 7 rfl fun K hK=>?_
  go_simp;refine eX hK ?_;clear hK K;refine cb 8 rfl fun K hK=>?_;have I8:=();exact qaa
 |clear qqk;refine cb 10 rfl fun K hK=>?_
  go_simp;refine eX hK ?_;clear hK K;refine cb 11 rfl fun K hK=>?_;have it:=();exact qaa
 |clear qql;refine cb 8 rfl fun K hK=>?_
  go_simp;have qqm:=();exact qbC
 |refine cb 7 rfl fun K hK=>?_
  go_simp;refine eX hK ?_;clear hK K;refine cb 8 rfl fun K hK=>?_;have it:=();exact qaa):G:=h
theorem qbv(h:G:=by
 exact qcO):G:=h
theorem qa3(h:G:=by
 have wL:=HL.o.1;have CY:=HL.o.2.2.1;have FH:W2.heap[W.heap.size]?=some (.cells #[.int .u8 u0,.string u1,.slice u2 u3 u4,.slice u5 u6 u7,.int .u8 v0,.string v1,.slice v2 v3 v4,.slice v5 v6 v7,.slice ca cl cc] 89 (0,0)):=(jr.same _ (by omega)).trans (aq rfl);have zi:∃r,(W.alloc (.cells #[.int .u8 u0,.string u1,.slice u2 u3 u4,.slice u5 u6 u7,.int .u8 v0,.string v1,.slice v2 v3 v4,.slice v5 v6 v7,.slice ca cl cc] 89)).heap[lR]?=some (.loop r):=by
  obtain⟨r,hr⟩:=HL.o.2.1;exact⟨r,(HL.o.2.2.2.1.block _ CY).trans hr⟩
 first
 |clear qqn;have qqo:=();exact qgc
 |clear qqp;exact qgc
 |clear qqq;have lw:=(HQ.o.1.later HL.o.2.2.2.1).move (ok':=fun b=>¬M1 b) (fun b hb hlt=>⟨hb.2,jr.same b (by have:=hb.1;omega)⟩);have qqr:=();exact qcP
 |clear qqs;have lw:=(HQ.o.1.later HL.o.2.2.2.1).move (ok':=fun b=>¬M2 b) (fun b hb hlt=>⟨hb.2,jr.same b (by have:=hb.1;omega)⟩);have qqt:=();exact qcP
 |have lw:=(HQ.o.1.later HL.o.2.2.2.1).move (ok':=fun b=>¬M3 b) (fun b hb hlt=>⟨hb.2,jr.same b (by have:=hb.1;omega)⟩);exact qcP):G:=h
theorem qgd(h:G:=by
 have⟨pB,Lj⟩:=az (jG ((wq.alloc (.cells #[.int .i64 j] 3)).alloc (.cells #[.int .u8 a0,.string a1,.slice a2 a3 a4,.slice a5 a6 a7,.int .u8 b0,.string b1,.slice b2 b3 b4,.slice b5 b6 b7] 50)) ⟨a0,a1,a2,a3,a4,a5,a6,a7⟩ ⟨b0,b1,b2,b3,b4,b5,b6,b7⟩);have Cu:(j:Int)<(n2:Int):=by omega
 have AB:=ae Lj;clear SM hok c0 c1 c2 c3 c4 c5 c6 c7 cV Lj;gi_wp2_with (gi_at_call 49;refine aO.2 ((o8 ⟨a0,a1,a2,a3,a4,a5,a6,a7⟩ ⟨b0,b1,b2,b3,b4,b5,b6,b7⟩ _).mono ?_);rintro e w' ⟨rfl,rfl⟩);rw[<-AB.o];have j4:Below wq.heap.size wq pB:=by rw[AB.o];exact(((ar wq.heap.size wq).alloc (aK _) _).alloc (by simp) _).tr (iJ _ _ _)
 have JI:((wq.alloc (.cells #[.int .i64 j] 3)).alloc (.cells #[.int .u8 a0,.string a1,.slice a2 a3 a4,.slice a5 a6 a7,.int .u8 b0,.string b1,.slice b2 b3 b4,.slice b5 b6 b7] 50)).heap.size=wq.heap.size+1+1:=by simp
 have U_:pB.heap.size=wq.heap.size+1+1+2:=by rw[AB.o,mg,JI]
 have xX:pB.heap[wq.heap.size+1+1]?=some (.cells #[.int .u8 a0,.string a1,.slice a2 a3 a4,.slice a5 a6 a7] 36 (0,0)):=by rw[AB.o,<-JI];exact nC _ _ _
 have xY:pB.heap[wq.heap.size+1+1+1]?=some (.cells #[.int .u8 b0,.string b1,.slice b2 b3 b4,.slice b5 b6 b7] 36 (0,0)):=by rw[AB.o,<-JI];exact nD _ _ _
 have xi:pB.heap[wq.heap.size]?=some (.cells #[.int .i64 j] 3 (0,0)):=by
  rw[AB.o];exact((iJ _ _ _).block _ (by simp;omega)).trans ((bZ _ _ _ (by simp)).trans (aq rfl))
 have Va:zf.heap.size<=wq.heap.size:=bD.size;have YF:∀b,M b->b<lB.heap.size:=xJ.o.2.2.2.2.1;have Jn:=xJ.o.2.2.2.1;have vC:=xJ.o.2.2.2.2.2;have PI:w.heap.size<=lB.heap.size:=nZ.o.2.2.1.size;have WY:∀b,b<w.heap.size->pB.heap[b]?=w.heap[b]?:=fun b hb=>(j4.block b (bP hb nX.size)).trans (nX.block b hb);have oY:aC (fun b=>b<pB.heap.size/\¬M b) pB (FQ.val ⟨a0,a1,a2,a3,a4,a5,a6,a7⟩) s:=hs.move (fun b hb hlt=>⟨⟨by omega,fun hm=>by have:=FL.o.1 b hm;omega⟩,WY b hlt⟩);have Bp:aC (fun b=>b<pB.heap.size/\¬M b) pB (FQ.val ⟨b0,b1,b2,b3,b4,b5,b6,b7⟩) f:=hf.move (fun b hb hlt=>⟨⟨by omega,fun hm=>by have:=FL.o.1 b hm;omega⟩,WY b hlt⟩)
 first
 |clear qqu;have E0:=EZ;have qqv:=();exact qge
 |have E0:=EZ;exact qge):G:=h
theorem qgf(h:G:=by
 have e0:=ao h4 0;have e1:X.drew.cell? ⟨aB+1,0,none⟩=some (.int .i64 er):=ao h4 0;have e2:=ao h5 0;have e3:X.drew.cell? ⟨aB,0,none⟩=some (.int .i64 j):=ao h5 0;have jd:(er==0)=false:=by simp[h2]
 have xR:=(h6.same _ (bQ ot.o) FL.o.2).trans ot.o;obtain⟨y0,y1,z0,z1⟩:=w_ xR;have xRd:X.drew.heap[w.heap.size+1]?=some (.cells #[.slice none 0 0,.slice none 0 0] 26 (0,0)):=xR;obtain⟨y2,y3,z2,z3⟩:=w_ xRd;obtain⟨W9,vd,x9,k9,_⟩:=Gj xR (.slice none 0 0) (.slice none 0 0);have za7:¬(aB=w.heap.size+1):=fun h=>FL.o.2 (h▸AC.o.2.2.1);have za8:¬(aB+1=w.heap.size+1):=fun h=>FL.o.2 (h▸AC.o.2.2.2.1);have e4:=k9.cell (a:=⟨aB,0,none⟩) za7 e2;have e5:=k9.cell (a:=⟨aB+1,0,none⟩) za8 e0;rw[vd]at e4 e5;clear vd x9 k9;have E3:Below w.heap.size w X:=en (en xJ.o.2.2.1 jk.o.2.2.2.1 FL.o.1) ((Kp.below jk.o.1).trans h6) FL.o.1;have mj:gW lB.heap.size X ({target:=.collected D,args:=#[] }::ds3):=jk.o.2.2.1.more (w':=X) (fun E hE hx=>(h6.same E (bQ hx) (fun hm=>by have:=xJ.o.2.2.2.2.1 E hm;omega)).trans hx) hD (by have:=jk.o;omega) hd;have HZ:=bS xR E3 mj;clear hrs hrp hps h3 h4 h5 h6 hd E3 mj xR xRd;gi_wp2_with fail;gi_region
 all_goals
  gi_wp2_with fail;obtain⟨W8,kM,x8,k8,g0,g1⟩:=Gj HZ.o.1 (.slice none 0 0) (.slice none 0 0);rw[<-kM,Exit.noGoto_ret];have xh:Below w.heap.size w W8.drew:=(Below.kp1 HZ.o.2.1 k8 (by omega)).drew;refine fE (B:=lB.heap.size) (HZ.o.2.2.move (w':=W8.drew) (fun E hE hd=>(k8.same E (bQ hd) (by have:=(bQ nZ.o.2.2.2.2);omega)).trans hd)) (fun w' hn=>?_);have h0:=hn.cell (show W8.drew.cell? _=_ from g0);have h1:=hn.cell (show W8.drew.cell? _=_ from g1);exact⟨.tuple #[.agg #[.slice none 0 0,.slice none 0 0],.int .i64 j,.int .i64 er],by simp[results,results15,go_sem,h0,h1],⟨⟨⟨none,0,0,none,0,0⟩,by(rw[HE.o];try rfl),by rw[HE.o];exact qW⟩,kU xh (hn.mono nZ.o.2.2.1.size)⟩⟩):G:=h
theorem qa4(h:G:=by
 have⟨iz,wh⟩:=az wr;subst wh;have yR:=ae (jb.o.trans (dS.mono jb.o.size));have yS:=ae (bY dS ot.o);have X7:=ae (bY dS pP.o);have X8:=ae (rf.o.later dS);have x0:iz.cell? ⟨w.heap.size,0,none⟩=some (.int .u8 uo):=ao yS.o 0;have x1:iz.cell? ⟨w.heap.size,1,none⟩=some (.string ⟨xn.toArray⟩):=ao yS.o 1;have x2:iz.cell? ⟨w.heap.size,2,none⟩=some (.slice ua k0 uc):=ao yS.o 2;have x3:iz.cell? ⟨w.heap.size,3,none⟩=some (.slice ub k1 ue):=ao yS.o 3;clear dS ht ot pP rf jb
 first
 |clear qqw;have qqx:=();exact qcQ
 |clear qqy;have qqz:=();exact qcQ
 |clear qqA;exact qcQ
 |clear qqB;go_wp2_with (go_at_call 146;refine(Lr.o _).mono ?_;rintro e X4 ⟨rfl,aY⟩;have ot:=ae (bY aY yS.o);have pP:=ae (bY aY X7.o);have rf:=ae (X8.o.later aY);have jb:=ae (yR.o.trans (aY.mono yR.o.size));have z3:X4.cell? ⟨w.heap.size,3,none⟩=some (.slice ub k1 ue):=ao ot.o 3;clear aY);have qqC:=();exact qgg
 |go_wp2_with (go_at_call 146;refine(Lr.o _).mono ?_;rintro e X4 ⟨rfl,aY⟩;have ot:=ae (bY aY yS.o);have pP:=ae (bY aY X7.o);have rf:=ae (X8.o.later aY);have jb:=ae (yR.o.trans (aY.mono yR.o.size));have z3:X4.cell? ⟨w.heap.size,3,none⟩=some (.slice ub k1 ue):=ao ot.o 3;clear aY);exact qgh):G:=h
theorem qar(h:G:=by
 obtain⟨qo,qn,qa,ql,qc,qb,qm,qe⟩:=q;obtain⟨sa,ss,hs,bN,em⟩:=aX.1 hq;have qqD:=();exact qgi):G:=h
theorem qax(h:G:=by
 have qqE:=();exact qa5):G:=h
theorem qgj(h:G:=by
 have hh3:Below w.heap.size w (((w.alloc (.cells #[.bool true,.string ⟨n.toArray⟩,.slice qa k0 qc] 43)).alloc (.cells #[.bool false,.string ⟨#[]⟩,.slice none 0 0] 43)).alloc (.cells #[.bool true,.string ⟨n.toArray⟩,.slice none 0 0] 43)):=(dp.alloc (by simp) _).alloc (by simp;omega) _;have y1:(((w.alloc (.cells #[.bool true,.string ⟨n.toArray⟩,.slice qa k0 qc] 43)).alloc (.cells #[.bool false,.string ⟨#[]⟩,.slice none 0 0] 43)).alloc (.cells #[.bool true,.string ⟨n.toArray⟩,.slice none 0 0] 43)).heap[w.heap.size+1]?=some (.cells #[.bool false,.string ⟨#[]⟩,.slice none 0 0] 43 (0,0)):=(bZ _ _ _ (by simp)).trans (aq (by simp));have y2:(((w.alloc (.cells #[.bool true,.string ⟨n.toArray⟩,.slice qa k0 qc] 43)).alloc (.cells #[.bool false,.string ⟨#[]⟩,.slice none 0 0] 43)).alloc (.cells #[.bool true,.string ⟨n.toArray⟩,.slice none 0 0] 43)).heap[w.heap.size+1+1]?=some (.cells #[.bool true,.string ⟨n.toArray⟩,.slice none 0 0] 43 (0,0)):=aq (by simp);have y0:(((w.alloc (.cells #[.bool true,.string ⟨n.toArray⟩,.slice qa k0 qc] 43)).alloc (.cells #[.bool false,.string ⟨#[]⟩,.slice none 0 0] 43)).alloc (.cells #[.bool true,.string ⟨n.toArray⟩,.slice none 0 0] 43)).heap[w.heap.size]?=some (.cells #[.bool true,.string ⟨n.toArray⟩,.slice qa k0 qc] 43 (0,0)):=(bZ _ _ _ (by simp;omega)).trans ((bZ _ _ _ (by simp)).trans (aq rfl));have HY:=cH hh3 y1 y2 y0;have CP:=ae (fun w=>hh▸lQ n w (by omega));clear hh hh3 y1 y2 y0;have qqF:=();exact qgk):G:=h
theorem qgl(h:G:=by
 cases S with
 |none=>
  go_wp2_with (go_at_call 229;refine HC.o.mono ?_;rintro e w2 ⟨⟨v2,rfl,ll⟩,bU⟩;obtain⟨a2,c2,rfl⟩:=ll.slice;simp only[Option.getD,List.length_nil];have e9:=ae (HB.o.trans (bU.mono HB.o.size));clear bU ll);exact qgm
 |some p=>
  have up:=();exact qgn):G:=h
theorem qgo(h:G:=by
 have d1:=kH.cell kC.2 c1;have g1:=kH.cell I6.2 e1;have d2:=kH.cell kC.2 c2;have g2:=kH.cell I6.2 e2;have d3:=kH.cell kC.2 c3;have g3:=kH.cell I6.2 e3;obtain⟨uo,un,ua,ul,uc,ub,um,ue⟩:=u;obtain⟨vo,vn,va,vl,vc,vb,vm,ve⟩:=v;have jX:=oZ (c:=Cn) AS ZK;have Bo:=(bD.same _ (bQ SG.o) HWM.o.2).trans SG.o;have zfh:=bD.size;have zfi:k<sm:=by have:=gT.o;omega
 have zfj:k<fm:=by have:=gT.o;omega
 have uY:(pre++([X]++ba Cn (ss.take k) (fs.take k))++bC Cn ss[k] fs[k]) <+: xs:=by
  have h2:=qG.o;rw[o6 (c:=Cn) (k:=k+1) (l:=ss) (m:=fs),jX]at h2;obtain⟨r,rfl⟩:=h2;exact⟨ba Cn (ss.drop (k+1)) (fs.drop (k+1))++r,by simp⟩
 have qqH:=();exact qbE):G:=h
theorem qcR(h:G:=by
 clear hS hx1 uX Ke;have qqI:=();exact qcS):G:=h
theorem qaf(h:G:=by
 go_enter func239,ntmps239;go_wp2
 first
 |clear qqJ;have up:=();exact qgp
 |clear qqL;exact qgp
 |clear qqM;go_quiet ((go_at_call 240;exact iF (CR.o _)));go_wp2;go_ret;exact⟨aJ (zY HR.o).symm,⟨_,rfl⟩⟩
 |clear an;go_quiet (fail);go_wp2;go_ret;exact⟨aJ (oz (by rw[lP];omega)).symm,⟨_,rfl⟩⟩
 |clear qqN;have qqO:=();exact qgq
 |clear qqP;exact qgq
 |clear qqQ;go_quiet ((first|(go_at_call 240;exact iF (CR.o _))|(go_at_call 188;exact iF (CF.o _))));exact qcT
 |go_quiet ((first|(go_at_call 240;exact iF (CR.o _))|(go_at_call 188;exact iF (CF.o _))));exact qgr):G:=h
theorem qgs(h:G:=by
 simp only[FQ.val]at CC;have oQ:=ae CC;clear CC;gi_wp2_with (gi_at_call 51;refine aO.2 (oQ.o.mono ?_);rintro e w5 ⟨p5,rfl,sS,bE⟩;obtain⟨po,pn,pa,pl,pc,pb,pm,pe⟩:=p5;simp only at sS⊢;have IZ:=ae (Lh.o.later bE);have HP:=ae sS;have x1:=IZ.o.b1;have f0:=ao x1 0;have f1:=ao x1 1;have f2:=ao x1 2;have f3:=ao x1 3;have z0:=ai x1 0;have z1:=ai x1 1;have z2:=ai x1 2;have z3:=ai x1 3;clear bE sS x1);have zas:=Lh.o.lt;have x6:=nJ (v0:=.int .u8 po) (v1:=.string pn) (v2:=.slice pa pl pc) (v3:=.slice pb pm pe) IZ.o.b1;have k6:=ev (W:=w5) (b:=w.heap.size+1+1) (v0:=.int .u8 po) (v1:=.string pn) (v2:=.slice pa pl pc) (v3:=.slice pb pm pe);have⟨W6,dr⟩:=az ((((w5.setCell ⟨w.heap.size+1+1,0,none⟩ (.int .u8 po)).setCell ⟨w.heap.size+1+1,1,none⟩ (.string pn)).setCell ⟨w.heap.size+1+1,2,none⟩ (.slice pa pl pc)).setCell ⟨w.heap.size+1+1,3,none⟩ (.slice pb pm pe));rw[<-dr]at x6 k6⊢;clear dr;have g0:W6.cell? ⟨w.heap.size+1+1,0,none⟩=some (.int .u8 po):=ao x6 0;have g1:W6.cell? ⟨w.heap.size+1+1,1,none⟩=some (.string pn):=ao x6 1;have g2:W6.cell? ⟨w.heap.size+1+1,2,none⟩=some (.slice pa pl pc):=ao x6 2;have g3:W6.cell? ⟨w.heap.size+1+1,3,none⟩=some (.slice pb pm pe):=ao x6 3;refine bX (v:=FQ.val ⟨po,pn,pa,pl,pc,pb,pm,pe⟩) (by simp[FQ.val,results,results101,go_sem,g0,g1,g2,g3]) rfl ⟨⟨⟨po,pn,pa,pl,pc,pb,pm,pe⟩,rfl,Ah.o▸HP.o.move (fun b hok hlt=>⟨by omega,k6.same b hlt (by omega)⟩)⟩,Below.kp1 IZ.o.below k6 (by omega)⟩):G:=h
theorem qa6(h:G:=by
 obtain⟨⟨u0,u1,u2,u3,u4,u5,u6,u7⟩,⟨v0,v1,v2,v3,v4,v5,v6,v7⟩,ca,cl,cc⟩:=q;simp only[gd.val,gd.cells];simp only at xI F_ hps;have CY:lR<W.heap.size:=by obtain⟨r,hr⟩:=Ce;exact(bQ hr)
 have j8:Below W.heap.size W (W.alloc (.cells #[.int .u8 u0,.string u1,.slice u2 u3 u4,.slice u5 u6 u7,.int .u8 v0,.string v1,.slice v2 v3 v4,.slice v5 v6 v7,.slice ca cl cc] 89)):=dp
 first
 |clear qqR;have qqS:=();exact qgt
 |clear qqT;exact qgt
 |clear qqU;have YG:=cH h1 (bY j8 h2) (bY j8 h3) (h4.trans (Kp.below j8));have HQ:=cH xI hps Ql oe;have HL:=uU hl Ce CY j8 J9 dU;clear h1 h2 h3 h4 xI F_ hps Ql oe hl Ce CY j8 J9 dU;gi_wp2;refine⟨Kp.below HL.o.2.2.2.1,YG.o,fun W2 jr zH ke=>?_⟩;obtain⟨g1,g2,g3,g4⟩:=zH;exact qa3
 |clear qqV;have YG:=ae (an8 h1 (h2.later j8) h3 h4 h5 (bY j8 h6) (bY j8 h7) (h8.trans (Kp.below j8)));have qqW:=();exact qgu
 |have YG:=ae (an8 h1 (h2.later j8) h3 h4 h5 (bY j8 h6) (bY j8 h7) (h8.trans (Kp.below j8)));exact qgu):G:=h
theorem qgv(h:G:=by
 have jW:s.take k=s:=by rw[gT.o];exact dA
 rw[jW]at DP;have sQ:=ae hF.row;have x2:=hF.box;have x1:=hF.other (by omega) TG.o;have xp:=hF.other (by omega) TF.o;have HE:=ae (show RS=some (.mk qo n XB us)from TH.o.2.2 _ _ HAs.o.1 DP);have HRA:=ae (NJ.o.kp1 hF.kp TD.o.2);have c0:wr.cell? ⟨w.heap.size+1+1+1,0,none⟩=some (.int .u8 qo):=ao x2 0;have up:=();exact qgw):G:=h
theorem qak(h:G:=by
 have cd:Below W2.heap.size W2 A:=((ar W2.heap.size W2).drew).trans hA;have qqY:=();exact qao):G:=h
theorem qgx(h:G:=by
 have qqZ:=();exact qgy):G:=h
theorem qaa(h:G:=by
 go_simp;refine eX hK ?_;clear hK K;refine kO ?_
 first
 |clear qq0;have zH:=ze1.o;have NL:=Cj.o.2;rw[zH]at NL;have TH:=aM Cj.o.1 NL;clear Cj NL;have zak:=ae (ce.start (R:=w.heap.size+1+1+1) (mk:=fun rr=>#[.int .u8 qo,.string ⟨n.toArray⟩,.slice fN k1 fO,rr]) (Row:=fun r W=>eO X5.heap.size r ([]:List Fm) W) zaj.o (eO.nil _ _));have p3:X5.cell? ⟨w.heap.size+1,3,none⟩=some (.slice qb m0 qe):=ao zai.o 3;clear zH;go_wp2;clear p3;go_loopw [61] (fun i wr=>∃k:Nat,k<=m0/\i=.int .i64 k/\∃row us,ce 36 (w.heap.size+1+1+1) X5.heap.size (fun rr=>#[.int .u8 qo,.string ⟨n.toArray⟩,.slice fN k1 fO,rr]) (fun r W=>eO X5.heap.size r us W) X5 wr row/\gC ps.reverse (n::ins) (s.take k)=some us/\us.length=k) (fun i _=>m0-(intOf i).toNat)
  case atStart=>exact⟨0,bn _,rfl,_,[],zak.o,by simp[gC],rfl⟩
  case round=>
   have qq1:=();exact qcU
 |clear qq2;gi_wp2;have x6:=sN (v0:=.bool qv) (v1:=.string ⟨n.toArray⟩) (v2:=.slice ra k0 rc) Κ.o;have k6:=fW (W:=A) (b:=w.heap.size+1) (v0:=.bool qv) (v1:=.string ⟨n.toArray⟩) (v2:=.slice ra k0 rc);have⟨W6,dr⟩:=az (((A.setCell ⟨w.heap.size+1,0,none⟩ (.bool qv)).setCell ⟨w.heap.size+1,1,none⟩ (.string ⟨n.toArray⟩)).setCell ⟨w.heap.size+1,2,none⟩ (.slice ra k0 rc));have up:=();exact qgz
 |clear qq4;have p3:=ao SG.o 3;have p7:=ao SG.o 7;clear f1 f5 dW c9 b_ jO;gi_wp2;clear p3 p7;gi_loopw [40] (fun i wr=>∃k:Nat,k<=m0/\i=.int .i64 k/\J (pre++([X]++ba Cn (ss.take k) (fs.take k))) wr/\Kp M X5 wr) (fun i _=>m0-(intOf i).toNat)
  case atStart=>exact⟨0,bn _,rfl,by simpa[ba]using D1.o.1,Kp.refl _⟩
  case round=>
   have qq5:=();exact qau
 |clear qq6;clear pp tt yy z0 z1 z2 y0' y1' y2';go_wp2_with fail;go_meet;obtain⟨W8,kM,x8,k8,_⟩:=sT HA.o.2.2.1 (.bool u0) (.string u1) (.slice u2 u3 u4);rw[<-kM];have hl:=H6.o.1.size;refine⟨EB,rfl,rfl,⟨u0,u1,u2,u3,u4⟩,x8,Below.kp1 HA.o.1 k8 (by have:=HA.o.2.2.2;omega),by have:=HA.o.2.2.2;omega,fun u h=>(H6.o.2 u h).move (fun b hb hlt=>⟨hb,(k8.same b (bP hlt HA.o.2.1.size) (by have:=HA.o.2.2.2;omega)).trans (HA.o.2.1.block b hlt)⟩)⟩
 |clear qq7;clear pp tt yy z0 z1 z2 y0' y1' y2';go_wp2_with fail;go_meet;obtain⟨W8,kM,x8,k8,_⟩:=sT H6.o.2.2.1 (.bool u0) (.string u1) (.slice u2 u3 u4);rw[<-kM];refine⟨EB,rfl,rfl,⟨u0,u1,u2,u3,u4⟩,x8,Below.kp1 H6.o.1 k8 (by have:=HA.o.2.2;omega),by have:=HA.o.2.2;omega,fun u h=>?_⟩;exact(H6.o.2.1 u h).move (fun b hb hlt=>⟨by have:=H6.o.2.2.2.2;omega,k8.same b hlt (by have:=H6.o.2.2.2.1;omega)⟩)
 |clear qq8;have up:=();exact qbF
 |clear qra;have Ss:=();exact qbF
 |clear qrc;clear ff dW b_ cK f_ gX iQ jM km mU q_ jO Cd SA hw3;go_wp2;go_ret;exact⟨by rw[uN.o];simp,(H2.o.1.tr H3.o.1).tr (H5.o.tr H8.o)⟩
 |clear qrd;clear ff dW b_ cK f_ gX iQ jM km mU jO;clear d0 d1 d2 f0 f1 f2;have x6:=sN (v0:=.bool pv) (v1:=.string pn) (v2:=.slice pa pl pc) H7.o.2.1;have up:=();exact qgA
 |clear qrf;have ZU:=();exact qbF
 |clear qrh;exact qbF
 |clear qri;clear ff dW b_ cK f_ gX iQ jM km mU jO;have h5s:=H5.o.1.size;have hx8:w8.cell? ⟨w4.heap.size,0,none⟩=some (.string ⟨dM.toArray⟩):=aa H8.o.1 (ao H5.o.2.1 0);have⟨l0,wL⟩:=az (m.filter cW);have zfo:l0.length<=400:=by rw[wL];exact aR (List.length_filter_le _ _) HM.o.2.1
  have hE:=HE2.o;rw[<-wL]at hE;have HV8:=ae (wL▸H8.o.2);have oQ:=io l0 (by omega) dM _ w8 v8 HV8.o.strs
  cases wM:l0.contains dM with
  |false=>
   rw[wM]at oQ hE;have oQ:=ae oQ;have uN:=ae (show R=l0 by rw[hE];simp);clear hE wL wM;go_wp2_with (go_at_call 128;refine oQ.o.mono ?_;rintro e w9 ⟨rfl,hw9⟩;cases hw9);go_ret;exact⟨⟨_,rfl,by rw[uN.o];exact HV8.o.base (aR H2.o.1.size h5s)⟩,(H2.o.1.tr H5.o.1).tr H8.o.1⟩
  |true=>
   rw[wM]at oQ hE;have oQ:=ae oQ;have hE:R=l0.filter (fun x=>!(x==dM))++(dX (aL (b8 k.ts y))).filter cW:=by rw[hE];simp[bne]
   have uN:=ae hE;have zfp:=ae (BB (fun x=>x==dM) l0 (by omega) 247 #[.pointer (some ⟨w4.heap.size,0,none⟩)] Eh W5.heap.size w8 v8 (fun x W _ hC=>LE x dM w4.heap.size W (hC.cell (by intro h;have h1:W5.heap.size<=w4.heap.size:=h.1;have h2:=(bQ H5.o.2.1);omega) hx8)) HV8.o);clear hE wL wM;go_upto_region 11 with(first|(go_at_call 128;refine oQ.o.mono ?_;rintro e w9 ⟨rfl,hw9⟩;cases hw9)|(go_at_call 246;refine zfp.o.mono ?_;rintro e w9 ⟨⟨v9,rfl,TZ⟩,hk9⟩;have H9:=aM (nA (w:=W5) H8.o.1 hk9) TZ;clear TZ hk9));have zaM:=H5.o.2.2.later H9.o.1;obtain⟨⟨z0,z1,z2,z3,z4⟩,_r,Lx,MT,Uw,_,Ed⟩:=zaM.termOf (x:=y) (by have:=HYl.o;omega);simp only[TQ.val]at Ed;have Ed:=Ed w9 rfl;have k1:w9.cell? ⟨kb,1,none⟩=some (.map (some mT)):=ao zaM.box 1;have FJ:=ae (og _ Lx _ w9 ⟨z0,z1,z2,z3,z4⟩ _r);have⟨m9,hm9⟩:=az (dX (aL (b8 k.ts y)));have zc6:∀x∈m9,x.length<=2000000:=fun x hx=>by rw[hm9,eG]at hx;exact aR (oT _ Uw x hx) (by decide)
   have zc7:m9.length<=1000:=by rw[hm9];have h1:=gp (aL (b8 k.ts y));have h2:=oS (b8 k.ts y);omega
   have hE:=uN.o;simp only[TQ.val,<-hm9]at FJ;rw[<-hm9]at hE;have⟨l1,Jn⟩:=az (l0.filter (fun x=>!(x==dM)));have zfq:l1.length<=400:=by rw[Jn];exact aR (List.length_filter_le _ _) zfo
   have H9v:=ae (Jn▸H9.o.2);rw[<-Jn]at hE;have Ux:=ae hE;have HM9:=bS zc6 zc7 zfq;clear zaM _r Lx MT Uw hm9 zc6 zc7 Jn hE hx8;go_upto_region 12 with(first|(go_at_call 166;refine FJ.o.mono ?_;rintro e w10 ⟨⟨v10,rfl,zc8⟩,wT⟩;have zfr:=ae (uQ m9 (by have:=HM9.o.2.1;omega) HM9.o.1 _ w10 v10 zc8.1);have nZ:=ae wT;clear wT zc8)|(go_at_call 245;refine zfr.o.mono ?_;rintro e Gi ⟨⟨v11,rfl,zc9⟩,yV⟩;have xJ:=aM (nA (w:=w9) nZ.o yV) zc9;clear zc9 yV)|(at_builtin;refine eW rfl _ _ rfl W5.heap.size (H9.o.1.tr xJ.o.1).size v9 l1 rfl (H9v.o.later xJ.o.1) v11 (m9.filter cW) rfl _ xJ.o.2.strs (by have h1:=List.length_filter_le cW m9;have h2:=HM9.o.2.1;have h3:=HM9.o.2.2;omega) ?_;intro v12 w12 zda zdb;have SK:=aM zda zdb;clear zda zdb));go_ret;have sZ:Below W5.heap.size W5 w12:=(qR (M:=fun _=>False) (Kp.below (H9.o.1.tr xJ.o.1)) SK.o.2 (fun g hg=>(H9v.o.lt g hg).1)).empty;exact⟨⟨_,rfl,by rw[Ux.o];exact SK.o.1.base (aR H2.o.1.size h5s)⟩,(H2.o.1.tr H5.o.1).tr sZ⟩
 |clear qrj;have qrk:=();exact qgB
 |clear qrl;exact qgB
 |clear qrm;go_wp2;go_ret;exact⟨rfl,HE.o⟩
 |clear qrn;obtain⟨W6,dr,x6,k6,g0,g1,g2,g3⟩:=tP H7.o.2.1 (.int .u8 po) (.string pn) (.slice pa pl pc) (.slice pb pm pe);rw[<-dr];clear dr;go_wp2;refine bX (v:=.tuple #[FQ.val ⟨po,pn,pa,pl,pc,pb,pm,pe⟩,.int .i64 0]) (by simp[FQ.val,results,results43,go_sem,g0,g1,g2,g3]) rfl ⟨⟨⟨po,pn,pa,pl,pc,pb,pm,pe⟩,by rw[HN.o];rfl,by rw[HN.o];exact H7.o.2.2.move (fun b hb hlt=>⟨by have h1:w.heap.size+2<=b:=hb;omega,k6.same b hlt (by have h1:w.heap.size+2<=b:=hb;omega)⟩)⟩,Below.kp1 (H3.o.1.tr H7.o.1) k6 (by omega)⟩
 |clear qro;clear pp tt uu yy dW b_ jO;go_wp2;go_ret;exact⟨((Kp.below H3.o.1).trans HK.o.1).trans H7.o,false,rfl,(fun _=>rfl),(fun ts hts=>by rw[N6.o]at hts;cases hts)⟩
 |clear qrp;clear pp tt uu yy dW b_ jO;go_wp2;go_roundw
  case rel=>exact⟨j+1,nT7,ts0,by omega,by go_num,HK.o.1.trans H7.o.1,by have:=H7.o.2.1;have:=HK.o.2;omega,H7.o.2.2,N6.o⟩
  case measure=>simp[intOf];omega
 |clear qrq;clear dW s1 v0 b_ jO;go_wp2;go_ret;refine⟨Kp.below (H3.o.1.tr H8.o),bb,rfl,(fun h=>?_),(fun ts hts=>?_)⟩
  ·rw[HE.o]at h;cases bb;rfl;cases h
  ·rw[HE.o]at hts;cases bb;cases hts;cases hts;exact⟨rfl,nT,by omega,H3.o.2.2.2.2.2.later H8.o⟩
 |clear qqd;clear ff dW;go_wp2;go_roundw
  case rel=>exact⟨j+1,by omega,by go_num,_,oa.o⟩
  case measure=>simp[intOf];omega
 |clear I8;gi_wp2;exact qgC
 |clear qqh;go_wp2;exact qgC
 |clear it;gi_wp2;go_roundw
  case rel=>exact⟨k1+1,by omega,by go_num,_,oa.o⟩
  case measure=>simp[intOf];omega
 |clear qrr;have iZ:Kp (fun b=>b=nB) w4 (w4.setCell ⟨nB,0,none⟩ (.int .i64 (S1:Int))):=ks
  have FM:Kp M3 w4 (w4.setCell ⟨nB,0,none⟩ (.int .i64 (S1:Int))):=iZ.mono (fun b _ h=>by subst h;rw[HM3.o];exact .inr rfl);have xn5:=kr xn4 (v:=.int .i64 (S1:Int));have xr5:=(iZ.same _ (bQ RT) (by have:=HnB.o;omega)).trans RT;have⟨w5,hw5⟩:=az (w4.setCell ⟨nB,0,none⟩ (.int .i64 (S1:Int)));rw[<-hw5]at iZ FM xn5 xr5⊢;have xg:=(Kp.below (M:=M3) cd).trans FM;have n5:=ao xn5 0;have r5:=ao xr5 0;have z5:=ai xr5 0;have H5:=gN xg xn5 xr5 (HGs.o.2.2.2.trans xg) FM;clear cd aY xn4 RT n4 z4 iZ FM xn5 xr5 hw5 xg jM iQ gX f_ cK b_ f0 f1 f2 dW
  by_cases M4:400<S1
  ·have hd:decide ((400:Int)<(S1:Int))=true:=by simp;omega
   gi_wp2_with fail;have Re:Kp (fun b=>b=w.heap.size+1+1) w5 (w5.setCell ⟨w.heap.size+1+1,0,none⟩ (.int .i64 3)):=ks;have zdn:Kp M3 w5 (w5.setCell ⟨w.heap.size+1+1,0,none⟩ (.int .i64 3)):=Re.mono (fun b _ h=>by subst h;rw[HM3.o];exact .inl rfl);exact⟨trivial,(H5.o.1.trans zdn).from _,rfl,by rw[Vp.o];exact M4,kr H5.o.2.2.1,H5.o.2.2.2.1.trans zdn⟩
  ·have hd:decide ((400:Int)<(S1:Int))=false:=by simp;omega
   gi_wp2_with fail;exact⟨H5.o.1,by rw[Vp.o];omega,by rw[Vp.o];exact H5.o.2.1,H5.o.2.2.1,H5.o.2.2.2.1⟩
 |clear qrs;gi_wp2;have x6:=nJ (v0:=.int .u8 qo) (v1:=.string ⟨n.toArray⟩) (v2:=.slice ra k0 rc) (v3:=.slice rb m0 re) Κ.o;have k6:=ev (W:=A') (b:=w.heap.size+1) (v0:=.int .u8 qo) (v1:=.string ⟨n.toArray⟩) (v2:=.slice ra k0 rc) (v3:=.slice rb m0 re);have⟨W6,dr⟩:=az ((((A'.setCell ⟨w.heap.size+1,0,none⟩ (.int .u8 qo)).setCell ⟨w.heap.size+1,1,none⟩ (.string ⟨n.toArray⟩)).setCell ⟨w.heap.size+1,2,none⟩ (.slice ra k0 rc)).setCell ⟨w.heap.size+1,3,none⟩ (.slice rb m0 re));have up:=();exact qgD
 |clear qru;have⟨pB,Lj⟩:=az ((((A.setCell ⟨w4.heap.size,0,none⟩ (.int .u8 ho)).setCell ⟨w4.heap.size,1,none⟩ (.string wE)).setCell ⟨w4.heap.size,2,none⟩ (.slice ha hl hc)).setCell ⟨w4.heap.size,3,none⟩ (.slice hb hm he));rw[<-Lj]at yF zcO zcP⊢;clear Lj s0 s1 s2 s3 zs0 zs1 zs2 zs3 ft fn0 fm dW c9 b_ cK f_ gX iQ jM jO;have CP:=gZ.o W0 G2 nx z HG2.o.1 HG2.o.2.1 HG2.o.2.2.1 HG2.o.2.2.2.1 HG2.o.2.2.2.2 PG.o TR.o.1 TR.o.2 _ _ pB ⟨ho,wE,ha,hl,hc,hb,hm,he⟩ ⟨zv,zn,za,zl,zc⟩ (TS.o.next yF.o.below) zcP.o (HZ.o.later yF.o.below);simp only[FQ.val,TQ.val]at CP;have NT:=ae CP;have⟨tu0,tu1,tu2⟩:=n8 yF.o.bu;have⟨tt0,tt1,tt2,tt3⟩:=pC zcO.o;have Ss:=();exact qgE
 |clear qrw;gi_wp2;go_roundw
  case rel=>exact⟨k+1,by omega,by go_num,by rw[HSu.o];simpa using HH.o.1,mJ.o.2.trans HH.o.2⟩
  case measure=>simp[intOf];omega
 |clear qrx;gi_wp2;go_ret;obtain⟨I5,h1,h2,h3⟩:=HH.o;exact .inr ⟨rfl,I5,h1,h2,((D1.o.2.trans mJ.o.2).from _).trans h3⟩
 |clear qry;go_wp2;go_loopw [80] (fun i wr=>∃k:Nat,k<=k1/\i=.int .i64 k/\Below X5.heap.size X5 wr/\R=cX (ps++[(xn,xn)]).reverse (xs.drop k) (ys.drop k)) (fun i _=>k1-(intOf i).toNat)
  case atStart=>exact⟨0,bn _,rfl,ar _ _,by simpa using Uh.o⟩
  case round=>
   have qrz:=();exact qa7
 |clear qrA;go_wp2;have qrB:=();exact qgF
 |go_wp2;exact qgF):G:=h
theorem qbG(h:G:=by
 have E2:Kp M W2 w4:=H4.o.1.two AC.o.1 AC.o.2.1
 first
 |clear an;have iZ:Kp (fun b=>b=aB+1) w4 (w4.setCell ⟨aB+1,0,none⟩ (.int .i64 0)):=ks
  have FM:Kp M w4 (w4.setCell ⟨aB+1,0,none⟩ (.int .i64 0)):=iZ.mono (fun b _ h=>by subst h;exact AC.o.2.2.2.1);refine⟨E2.trans FM,k3,nF4,nT4,HG.o.2.2.2.2.2.2.1,nV.kpx iZ (fun b h=>by subst h;exact AC.o.2.2.2.1) (by omega) (by omega) (by omega),by have:=HG.o.1;simp;omega,by have:=HG.o.2.1;simp;omega,HG.o.2.2.2.2.2.1 (by simp),kr H4.o.2.2.1,?_,(HG.o.2.2.2.2.1.trans E2).trans FM⟩;exact(iZ.same _ (bQ H4.o.2.2.2.1) (by omega)).trans H4.o.2.2.2.1
 |have iZ:Kp (fun b=>b=aB+1) w4 (w4.setCell ⟨aB+1,0,none⟩ (.int .i64 er)):=ks
  have lw:Kp (fun b=>b=aB) (w4.setCell ⟨aB+1,0,none⟩ (.int .i64 er)) ((w4.setCell ⟨aB+1,0,none⟩ (.int .i64 er)).setCell ⟨aB,0,none⟩ (.int .i64 j)):=ks;have FM:Kp M w4 ((w4.setCell ⟨aB+1,0,none⟩ (.int .i64 er)).setCell ⟨aB,0,none⟩ (.int .i64 j)):=(iZ.mono (fun b _ h=>by subst h;exact AC.o.2.2.2.1)).trans (lw.mono (fun b _ h=>by subst h;exact AC.o.2.2.1));have xa5:=(iZ.same _ (bQ H4.o.2.2.2.1) (by omega)).trans H4.o.2.2.2.1;refine⟨trivial,(E2.trans FM).from _,rfl,k3,er,SN,HG.o.2.2.2.2.2.2.1,?_,kr xa5,(HG.o.2.2.2.2.1.trans E2).trans FM⟩;exact(lw.same _ (bQ (kr H4.o.2.2.1 (v:=.int .i64 er))) (by omega)).trans (kr H4.o.2.2.1)):G:=h
theorem qcm(h:G:=by
 obtain⟨es,hD,WL,_⟩:=aE.entries (Maps.string_keyed underlying9);exact qfe):G:=h
theorem qgr(h:G:=by
 go_wp2;go_loopw [5] (fun i wr=>∃k:Nat,1<=k/\k<=s.size/\i=.int .i64 k/\nU nI (s.data.toList.take k).tail=true/\∃n,wr=w.drewN n) (fun i _=>s.size-(intOf i).toNat)
 case atStart=>exact⟨1,aK _,h1,rfl,by rw[List.take_one];cases s.data.toList<;>simp[nU],⟨_,rfl⟩⟩
 case round=>
  obtain⟨k,le,hk,rfl,ha,hw⟩:=hrel;have hc3:wr.cell? ⟨b2,0,none⟩=some (.func (.func 189) #[] #[]):=by obtain⟨n,rfl⟩:=hw;exact GN
  have⟨HA,HW⟩:=bi ha hw;clear ha d1 d2 hw ZM GN
  by_cases hlt:k<s.size
  ·cases hp:nI s[k].toNat
   ·have HP:=ae hp;have qrC:=();exact qgH
   ·have HP:=ae hp;exact qgH
  ·obtain rfl:k=s.size:=by omega
   exact qgI):G:=h
theorem qcV(h:G:=by
 have x6:=sN (v0:=.bool false) (v1:=.string ⟨n.toArray⟩) (v2:=.slice ra k rc) lT.o;have k6:=fW (W:=wr) (b:=w.heap.size+1) (v0:=.bool false) (v1:=.string ⟨n.toArray⟩) (v2:=.slice ra k rc);have⟨W6,dr⟩:=az (((wr.setCell ⟨w.heap.size+1,0,none⟩ (.bool false)).setCell ⟨w.heap.size+1,1,none⟩ (.string ⟨n.toArray⟩)).setCell ⟨w.heap.size+1,2,none⟩ (.slice ra k rc));rw[<-dr]at x6 k6⊢;clear dr;have g0:W6.cell? ⟨w.heap.size+1,0,none⟩=some (.bool false):=ao x6 0;have Ss:=();exact qay):G:=h
theorem qbH(h:G:=by
 have qrE:=();exact qcW):G:=h
theorem qgJ(h:G:=by
 have⟨R,hR⟩:=az (gP ps.reverse (.mk uv xn xa) (.mk vv yn ya));rw[<-hR]at hm⊢;have⟨k0,cD⟩:=az xa.length;have⟨m0,eh⟩:=az ya.length;have⟨p0,mx⟩:=az ps.length;rw[<-cD,<-eh]at hm;rw[<-cD]at hlen;rw[<-mx]at hps;rw[<-cD]at gH;rw[<-eh]at xG;rw[<-mx]at hp;rw[<-cD,<-eh,<-mx];have⟨dN,gT,wH,NB,Tw,HP,gZ,HF⟩:=Xi cD eh mx gH xG hp ih xH;clear hR cD eh mx gH xG hp ih hf xH hq gY;have bU:Below w.heap.size w ((w.alloc (.cells #[.bool uv,.string ⟨xn.toArray⟩,.slice ua k0 uc] 43)).alloc (.cells #[.bool vv,.string ⟨yn.toArray⟩,.slice va m0 vc] 43)):=dp.alloc (by simp) _;have⟨W2,bp⟩:=az ((w.alloc (.cells #[.bool uv,.string ⟨xn.toArray⟩,.slice ua k0 uc] 43)).alloc (.cells #[.bool vv,.string ⟨yn.toArray⟩,.slice va m0 vc] 43));rw[<-bp]at bU;have HX:Hd (W2.heap[w.heap.size]?=some (.cells #[.bool uv,.string ⟨xn.toArray⟩,.slice ua k0 uc] 43 (0,0))):=ae (by rw[bp];exact(bZ _ _ _ (by simp)).trans (aq rfl));have HY:Hd (W2.heap[w.heap.size+1]?=some (.cells #[.bool vv,.string ⟨yn.toArray⟩,.slice va m0 vc] 43 (0,0))):=ae (by rw[bp];exact aq (by simp));have iG:w.heap.size+2=W2.heap.size:=by rw[bp];simp
 first
 |clear qrF;have⟨cQ,gh⟩:=bi bU bp;clear bU bp;unfold TQ.val
  by_cases FY:uv=vv/\k0=m0
  ·obtain⟨rfl,rfl⟩:=FY;have qrG:=();exact qgK
  ·have G7:R=false:=by rw[hm];rcases Decidable.not_and_iff_or_not.1 FY with h|h<;>simp[h]
   have HE:=ae G7;clear hm G7;exact qgL
 |have⟨cQ,gh⟩:=bi bU bp;clear bU bp;unfold TQ.val
  by_cases FY:uv=vv/\k0=m0
  ·obtain⟨rfl,rfl⟩:=FY;exact qgK
  ·have G7:R=false:=by rw[hm];rcases Decidable.not_and_iff_or_not.1 FY with h|h<;>simp[h]
   have HE:=ae G7;clear hm G7;exact qgM):G:=h
theorem qbI(h:G:=by
 obtain⟨b,off,u,rfl,kC,hu,c0,c1,c2⟩:=gD.o.get bA;exact qfW):G:=h
theorem qcX(h:G:=by
 obtain⟨k,hk,rfl,bD,hj,ha,hb,hc⟩:=hrel
 by_cases hlt:k<m0
 first
 |clear qrH
  ·have bA:=cG gT.o hlt;have qpc:=();exact qbz
  ·obtain rfl:k=m0:=by omega
   have ht:s.take k=s:=by rw[gT.o];exact dA
   rw[ht]at hj ha hb hc;have lV:(dJ sc s&&(decide ((ah s:Int)<=left-1-af a)&&decide (bB+1+bl s<=bT+1)))=true:=by rw[ha];simp;omega
   exact qgN
 |·have bA:=cG gT.o hlt;exact qbz
  ·obtain rfl:k=m0:=by omega
   have ht:s.take k=s:=by rw[gT.o];exact dA
   rw[ht]at hj ha hb hc;have lV:(dJ true s&&(decide ((ah s:Int)<=left-1-af a)&&decide (bB+1+bl s<=bT+1)))=true:=by rw[ha];simp;omega
   exact qgN):G:=h
theorem qcr(h:G:=by
 have x6:=sN (v0:=.bool pv) (v1:=.string pn) (v2:=.slice pa pl pc) H5.o.2.2.1;exact qgA):G:=h
theorem qcY(h:G:=by
 have k6:=fW (W:=wr) (b:=w.heap.size+1) (v0:=.bool true) (v1:=.string ⟨n.toArray⟩) (v2:=.slice ra k rc);have⟨W6,dr⟩:=az (((wr.setCell ⟨w.heap.size+1,0,none⟩ (.bool true)).setCell ⟨w.heap.size+1,1,none⟩ (.string ⟨n.toArray⟩)).setCell ⟨w.heap.size+1,2,none⟩ (.slice ra k rc));have Ss:=();exact qgO):G:=h
theorem qa8(h:G:=by
 obtain⟨b,off,u,rfl,_,hu,c0,c1,c2⟩:=NB.o.get bA;obtain⟨b',kQ,u',rfl,_,iA,kK,lW,lX⟩:=Tw.o.get lj
 first
 |clear qrJ;have mR:=Ug.o.mem (aH bA);have qrK:=();exact qbJ
 |clear qgP;have mR:=Ug.o.mem (aH bA);have qrL:=();exact qbJ
 |clear qrM;have mR:=HF.o.mem (aH bA);have sD:=gZ.o xa[k] (aH bA);have qrN:=();exact qbJ
 |have mR:=HF.o.mem (aH bA);have sD:=gZ.o xa[k] (aH bA);exact qbJ):G:=h
theorem qgQ(h:G:=by
 have jq:=fP;have qrO:=();exact qa9):G:=h
theorem qfZ(h:G:=by
 go_wp2_with (first|(go_at_call 115;refine C1.o.mono ?_;rintro e w' ⟨rfl,pD⟩;obtain rfl:=pD.symm)|(go_at_call 116;refine(CN.o _).mono ?_;rintro e w3 ⟨rfl,aS⟩;have bV:=ae aS;have p2:=(ji.o.later aS).c2;have p3:=(ji.o.later aS).c3;have p0:=(ji.o.later aS).c0;have s3:=(ug.o.later aS).c3;have s4:=(ug.o.later aS).c4;clear aS)|(go_at_call 117;refine(CI.o _ (pE.o.trans (Kp.below bV.o))).mono ?_;rintro e w4 ⟨rfl,aY⟩;have e9:=ae aY;have p2:=((ji.o.later bV.o).later aY).c2;have p3:=((ji.o.later bV.o).later aY).c3;clear aY)|(go_at_call 118;refine(CT.o _ ((pE.o.trans (Kp.below bV.o)).trans (Kp.below e9.o)) ((zL.o.later bV.o).later e9.o)).mono ?_;rintro e w5 ⟨rfl,xg,l5,EP,ER,sf,mh⟩;have l5e:=mh rfl;subst l5e;have RM:Kp (fun c=>c=J) w w5:=((pE.o.trans (Kp.below bV.o)).trans (Kp.below e9.o)).trans xg;have e3:w5.cell? ⟨w.heap.size,3,none⟩=some (.slice qb m0 qe):=(((ji.o.later bV.o).later e9.o).kp xg (by omega)).c3;have HA:=aM RM EP;clear xg EP ER sf mh RM))
 first
 |clear qpi;exact qgR
 |go_loopw [79] (fun i wr=>∃k:Nat,k<=m0/\i=.int .i64 k/\Kp (fun c=>c=J) w wr/\tu J true (left-1-af a-ah (s.take k)) bT wr/\dJ true (s.take k)=true/\(ah (s.take k):Int)<=left-1-af a/\bB+1+bl (s.take k)<=bT+1) (fun i _=>m0-(intOf i).toNat)
  case atStart=>exact⟨0,bn _,rfl,HA.o.1,by simpa[ah]using HA.o.2,by simp[dJ],by simp[ah];omega,by simp[bl];omega⟩
  case round=>
   exact qcX):G:=h
theorem qbw(h:G:=by
 rw[cr]at hF;have HU:=ae (hu.later aD);have⟨HF,dR,cR⟩:=cU hF cr aD;clear hu aD hF c0 c1 c2 cr;gi_wp2;have⟨W2,bp⟩:=az (IW.alloc (.cells #[.bool u.v,.string u.n,.slice u.a u.l u.c] 43));have qrP:=();exact qgS):G:=h
theorem qam(h:G:=by
 unfold TQ.val at hs;simp only[c_,Array.mk.injEq,cF,and_true,Value.bool.injEq,Value.string.injEq]at hs;obtain⟨rfl,rfl,rfl⟩:=hs;obtain rfl:=bN.len
 first
 |clear qrQ;have hlen:=aI.args.len;have qrR:=();exact qgT
 |clear qrS;have hlen:=aI.args.len;have mn:=aI.name;exact qgT
 |clear qrT;have hlen:=aI.args.len;have mn:=aI.name;have wi:n.length<=1000000000:=by omega
  have s_:=ae hok;have gZ:=ae (fun t ht=>ih t ht (aI.args.mem ht));have wk:1<=ap (.mk qv n a):=ln _;have sM:1<=dm (.mk qv n a):=by unfold dm;omega
  have⟨k0,cD⟩:=az a.length;have HB:=ae (show Below w.heap.size w (w.alloc (.cells #[.bool qv,.string ⟨n.toArray⟩,.slice qa k0 qc] 43))from dp);have Nf:tu J sc left bT (w.alloc (.cells #[.bool qv,.string ⟨n.toArray⟩,.slice qa k0 qc] 43)):=hJ.later HB.o;have zeM:J<w.heap.size:=(bQ hJ);have⟨el,HJ⟩:=bi bN hJ;rw[<-cD]at hlen;clear hq bN aI ih hok hJ;unfold TQ.val;rw[<-cD];have dN:=ae cD;clear cD
  by_cases QT:1<=left/\bB<=bT
  ·obtain⟨S8,WH⟩:=QT;have C1:=ae (KC J sc left bT bB _ Nf S8 h1 WH);have ke:Kp (fun c=>c=J) w ((w.alloc (.cells #[.bool qv,.string ⟨n.toArray⟩,.slice qa k0 qc] 43)).setCell ⟨J,1,none⟩ (.int .i64 (left-1))):=(Kp.below HB.o).trans (rx _);have zG:=Nf.set (left-1);have hx:((w.alloc (.cells #[.bool qv,.string ⟨n.toArray⟩,.slice qa k0 qc] 43)).setCell ⟨J,1,none⟩ (.int .i64 (left-1))).heap[w.heap.size]?=some (.cells #[.bool qv,.string ⟨n.toArray⟩,.slice qa k0 qc] 43 (0,0)):=(e_ _ _ _ _ (by show w.heap.size≠J;omega)).trans (aq rfl);have rA:=bS ke zG hx;have S9:cB ok ((w.alloc (.cells #[.bool qv,.string ⟨n.toArray⟩,.slice qa k0 qc] 43)).setCell ⟨J,1,none⟩ (.int .i64 (left-1))) (.slice qa k0 qc) a:=by
    have h:=el.o.move (ok':=ok) (fun b hb hlt=>⟨hb,ke.same b hlt (s_.o b hb)⟩)
    rwa [<-dN.o]at h
   have HA2:=ae S9;have⟨W2,bp⟩:=az ((w.alloc (.cells #[.bool qv,.string ⟨n.toArray⟩,.slice qa k0 qc] 43)).setCell ⟨J,1,none⟩ (.int .i64 (left-1)));rw[<-bp]at rA C1 HA2;clear ke zG hx Nf el S9 bp;have g0:W2.cell? ⟨w.heap.size,0,none⟩=some (.bool qv):=ao rA.o.2.2 0;have g1:W2.cell? ⟨w.heap.size,1,none⟩=some (.string ⟨n.toArray⟩):=ao rA.o.2.2 1;have g2:W2.cell? ⟨w.heap.size,2,none⟩=some (.slice qa k0 qc):=ao rA.o.2.2 2
   cases qv with
   |true=>
    by_cases ha:a=[]
    ·subst ha;have zeN:k0=0:=by rw[dN.o];rfl
     subst zeN;have nH:ap (.mk true n [])=1:=rfl;have Sy:dm (.mk true n [])=1:=rfl;have hb:(jA sc (.mk true n [])&&(decide ((ap (.mk true n []):Int)<=left)&&decide (bB+dm (.mk true n [])<=bT+1)))=(fQ n||(sc&&dI n)):=by
      rw[nH,Sy];have e1:decide (((1:Nat):Int)<=left)=true:=by simp;omega
      have e2:decide (bB+((1:Nat):Int)<=bT+1)=true:=by simp;omega
      simp only[jA,if_true,List.isEmpty_nil,dL,e1,e2,Bool.and_true]
     rw[nH]at hn
     cases hv:fQ n with
     |true=>
      have CV:=ae (fun w=>hv▸jg n w wi);have HE:=ae (hb.trans (by rw[hv]<;>rfl));clear hv hb nH Sy wk sM;have Ss:=();exact qap
     |false=>
      have CV:=ae (fun w=>hv▸jg n w wi)
      cases sc with
      |false=>
       have HE:=ae (hb.trans (by rw[hv]<;>rfl));clear hv hb nH Sy wk sM;have ZU:=();exact qap
      |true=>
       cases ht:dI n with
       |true=>
        have an:=();exact qgU
       |false=>
        exact qgU
    ·have bD:0<k0:=by rw[dN.o];exact jR.2 ha
     have le:((k0:Int)==0)=false:=by simp;omega
     have HE:=ae (show (jA sc (.mk true n a) && (decide ((ap (.mk true n a):Int)<=left) && decide (bB+dm (.mk true n a)<=bT+1)))=false by
      have:a.isEmpty=false:=by cases a with|nil=>exact absurd rfl ha|cons x y=>rfl
      simp[jA,this])
     have HN:=ae wk;clear wk sM ha;have up:=();exact qap
   |false=>
    have nH:ap (.mk false n a)=af a+1:=rfl;have Sy:dm (.mk false n a)=bO a+1:=rfl;have hb:(jA sc (.mk false n a)&&(decide ((ap (.mk false n a):Int)<=left)&&decide (bB+dm (.mk false n a)<=bT+1)))=(decide (a.length<=4)&&(B4 n&&(eD sc a&&(decide ((af a:Int)<=left-1)&&decide (bB+1+bO a<=bT+1))))):=by
     rw[nH,Sy];have e1:decide (((af a+1:Nat):Int)<=left)=decide ((af a:Int)<=left-1):=by rw[iM];simp;omega
     have e2:decide (bB+((bO a+1:Nat):Int)<=bT+1)=decide (bB+1+bO a<=bT+1):=by rw[iM];simp;omega
     simp only[jA,bR,if_false,e1,e2,Bool.and_assoc]
    rw[nH]at hn
    by_cases h4:k0<=4
    ·have h4':((k0:Int)<=4):=by omega
     have d4:decide (a.length<=4)=true:=by rw[<-dN.o];simpa using h4
     rw[d4,dL]at hb
     cases hf:B4 n with
     |false=>
      have CF:=ae (fun w=>hf▸n9 n w wi);have HE:=ae (hb.trans (by rw[hf]<;>rfl));clear hf hb nH Sy wk sM d4;have qrX:=();exact qap
     |true=>
      have CF:=ae (fun w=>hf▸n9 n w wi);rw[hf,dL]at hb;have CJ:=ae (fun w3 (aS:Below W2.heap.size W2 w3)=>yb a gZ.o ok J sc (left-1) bT (bB+1) w3 _ _ _ (HA2.o.later aS) s_.o (rA.o.2.1.later aS) (by omega) (by omega) hde (by omega) (by omega) (by omega));have qrY:=();exact qgW
    ·have h4':¬((k0:Int)<=4):=by omega
     have d4:decide (a.length<=4)=false:=by rw[<-dN.o];simpa using h4
     have HE:=ae (hb.trans (by rw[d4]<;>rfl));clear hb nH Sy wk sM;have up:=();exact qap
  ·have C1:=ae (Pq J sc left bT bB _ Nf h0 h1 QT);have HE:=ae (show (jA sc (.mk qv n a) && (decide ((ap (.mk qv n a):Int)<=left) && decide (bB+dm (.mk qv n a)<=bT+1)))=false by
    rw[Bool.and_eq_false_iff];right;rw[Bool.and_eq_false_iff]
    by_cases hl:1<=left
    ·right;exact qgX
    ·left;simp only[decide_eq_false_iff_not];omega)
   have HJ1:=ae Nf;clear Nf wk sM QT;exact qap
 |clear qmf;have qrZ:=();exact qgY
 |clear qr0;have qr1:=();exact qgZ
 |clear qr2;have hlen:=aI.args.len;have mn:=aI.name;have⟨el,lH,gZ,NG,oa⟩:=sL bN aI.args ih XA cV;have⟨k0,cD⟩:=az a.length;have⟨R,hR⟩:=az (iO ps.reverse ins (.mk qv n a));rw[<-cD]at hlen;have dN:=ae cD;have⟨W3,ec⟩:=az (((w.alloc (.cells q.cells 89)).alloc (.cells #[.bool qv,.string ⟨n.toArray⟩,.slice qa k0 qc] 43)).alloc (.cells #[.bool false,.string ⟨#[]⟩,.slice none 0 0] 43));have qr3:=();exact qg0
 |clear qmX;exact qgY
 |clear qr4;have dz:=fun(W:World)(hb:Below w.heap.size w W)=>vP a aI.args (fun t ht=>ih t ht (aI.args.mem ht)) ok W qa _ qc (bN.later hb);have⟨k0,cD⟩:=az a.length;rw[<-cD]at dz;have⟨HCL,dN⟩:=bi dz cD;clear hq bN aI ih dz;unfold TQ.val;rw[<-cD];clear cD;refine oM func107 ?_;simp only[ntmps107,Nat.reduceAdd,Nat.reduceSub,ng];have jq:=fP;gi_wp2;have⟨W2,bp⟩:=az ((w.alloc (.cells #[.bool qv,.string ⟨n.toArray⟩,.slice qa k0 qc] 43)).alloc (.cells #[.bool false,.string ⟨#[]⟩,.slice none 0 0] 43));have ew:=mo bp;have x0:=sx bp;have x1:=kv bp;rw[<-bp];clear bp;have qr5:=();exact qan
 |clear qr6;exact qgZ
 |have mn:=xH.name;have⟨m0,eh⟩:=az al.length;simp only[<-eh]at c0 c1 c2 bN hu;have qo6:=();exact qab):G:=h
theorem qg1(h:G:=by
 refine di 2 45 (.slice (some ⟨bs,os,none⟩) sm se) rfl (fun V hX=>by have h0:=p3 V hX;go_simp) f_ fun gX=>?_;simp only[am];refine bH 3 46 (.int .i64 (k:Int)) rfl gX fun iQ=>?_;simp only[am];refine bH 4 47 (.pointer (some ⟨bs,os+k*4,none⟩)) rfl iQ fun jM=>?_;simp only[am];refine di 5 48 (.agg #[.int .u8 uo,.string un,.slice ua ul uc,.slice ub um ue]) rfl (fun V hX=>by obtain⟨h0,h1,h2,h3⟩:=qs V hX;go_simp) jM fun km=>?_;simp only[am];refine bH 6 49 (.pointer (some ⟨W.heap.size,4,none⟩)) rfl km fun mU=>?_;simp only[am];refine bH 7 50 (.pointer (some ⟨W.heap.size,7,none⟩)) rfl mU fun q_=>?_;simp only[am];refine di 8 51 (.slice (some ⟨bf,of,none⟩) fm fe) rfl (fun V hX=>by have h0:=p7 V hX;go_simp) q_ fun D2=>?_;simp only[am];refine bH 9 52 (.int .i64 (k:Int)) rfl D2 fun vi=>?_;simp only[am];refine bH 10 53 (.pointer (some ⟨bf,of+k*4,none⟩)) rfl vi fun D3=>?_;simp only[am];refine di 11 54 (.agg #[.int .u8 vo,.string vn,.slice va vl vc,.slice vb vm ve]) rfl (fun V hX=>by obtain⟨h0,h1,h2,h3⟩:=qf V hX;go_simp) D3 fun N0=>?_;simp only[am]
 first
 |clear qr7;refine bH 12 55 (.slice ca cl cc) rfl N0 fun Rf=>?_
  simp only[am];refine bH 13 56 (.agg #[.int .u8 uo,.string un,.slice ua ul uc,.slice ub um ue,.int .u8 vo,.string vn,.slice va vl vc,.slice vb vm ve,.slice ca cl cc]) rfl Rf fun T8=>?_;exact qg2
 |refine bH 12 55 (.slice (some ⟨g,0,none⟩) (cl+1) cap) rfl N0 fun Rf=>?_
  simp only[am];refine bH 13 56 (.agg #[.int .u8 uo,.string un,.slice ua ul uc,.slice ub um ue,.int .u8 vo,.string vn,.slice va vl vc,.slice vb vm ve,.slice (some ⟨g,0,none⟩) (cl+1) cap]) rfl Rf fun T8=>?_;exact qg2):G:=h
theorem qg3(h:G:=by
 have⟨p0,mx⟩:=az ps.length;have Rl:ps.length<=1000000000:=by omega
 have hp9:p0<=1000000000:=by omega
 rw[<-cD,<-eh,<-le,<-jQ]at hm;rw[<-cD]at hlen;rw[<-le]at eN;rw[<-mx]at yA;rw[<-cD]at gH;rw[<-eh]at xG;rw[<-le]at DI;rw[<-jQ]at X6;rw[<-mx]at hp;rw[<-cD,<-eh,<-le,<-jQ,<-mx];have⟨dN,gT,MX,I',wH,NB,Tw,Tu,HYs,HP⟩:=Pa cD eh le jQ mx gH xG DI X6 hp;have⟨gZ,Ug,SF⟩:=cU ih xH Ka;clear hR cD eh le jQ mx gH xG DI X6 hp ih hf xH Ka hq gY hD;have⟨W2,bp⟩:=az ((w.alloc (.cells #[.int .u8 uo,.string ⟨xn.toArray⟩,.slice ua k0 uc,.slice ub k1 ue] 36)).alloc (.cells #[.int .u8 vo,.string ⟨yn.toArray⟩,.slice va m0 vc,.slice vb m1 ve] 36));have bU:=mo bp;have HX:Hd (W2.heap[w.heap.size]?=some (.cells #[.int .u8 uo,.string ⟨xn.toArray⟩,.slice ua k0 uc,.slice ub k1 ue] 36 (0,0))):=ae (by rw[bp];exact(bZ _ _ _ (by simp)).trans (aq rfl));have HY:Hd (W2.heap[w.heap.size+1]?=some (.cells #[.int .u8 vo,.string ⟨yn.toArray⟩,.slice va m0 vc,.slice vb m1 ve] 36 (0,0))):=ae (by rw[bp];exact aq (by simp))
 first
 |clear qr8;have⟨cQ,gh⟩:=bi bU bp;have Lr:=ae (fun(W:World)=>gS ⟨uo,⟨xn.toArray⟩,ua,k0,uc,ub,k1,ue⟩ W);have qr9:=();exact qg4
 |have⟨cQ,gh⟩:=bi bU bp;have Lr:=ae (fun(W:World)=>lg ⟨uo,⟨xn.toArray⟩,ua,k0,uc,ub,k1,ue⟩ W);exact qg4):G:=h
theorem qf6(h:G:=by
 subst jd;obtain⟨e0,e1,e2,e3,z0,z1,z2,z3⟩:=dw x27;obtain⟨s0,s1,s2,_,_,_⟩:=ir xt9;have CP:=yG W0 f dM t Cq.o.1.fit (by have:=Cq.o.1.nodes;omega) Cq.o.1.wf Cq.o.1.qone (by have:=HF.o.2.2.2.1;omega) pA.o.2.2.1.fit (by have:=pA.o.2.2.1.2;omega) _ _ W9 ⟨Ja,Jb,Jc,Jd,Je,Jf,Jg,Jh⟩ ⟨Jl,Ur,Us,Ut,Uu⟩ (Gk.o.kp (EM.two HG.o.1 HG.o.2.1) HG.o.2.2.2.1) (pA.o.2.2.2.2.1.later oq) (pA.o.2.2.2.2.2.2.later oq);simp only[FQ.val,TQ.val]at CP;have NT:=ae CP;have H9:=cH oq EM x27 x79;have⟨bb,dz⟩:=az (cI [] (gQ dM t f) im);rw[<-dz]at OB;have⟨Ux,PC⟩:=bi OB dz;clear oq EM x27 x79 xt9 CP OB dz;go_upto_region 21 with(go_at_call 101;refine NT.o.mono ?_;rintro e w10 ⟨⟨⟨r0,r1,r2,r3,r4,r5,r6,r7⟩,rfl,hr⟩,wT⟩;have I1:=bY wT H9.o.2.2.1;obtain⟨y0,y1,y2,y3,v0,v1,v2,v3⟩:=dw I1;have nZ:=bS hr wT I1;clear hr wT I1);clear e0 e1 e2 e3 z0 z1 z2 z3 s0 s1 s2 y0 y1 y2 y3 v0 v1 v2 v3;obtain⟨zf,uf,YA,JD,y0,y1,y2,y3⟩:=tP nZ.o.2.2 (.int .u8 r0) (.string r1) (.slice r2 r3 r4) (.slice r5 r6 r7);rw[<-uf];have za0:=(bQ H9.o.2.2.1)
 first
 |clear qsa;have EN:Below Gi.heap.size Gi w10:=H9.o.1.tr nZ.o.2.1;have qsb:=();exact qg5
 |have EN:Below W8.heap.size W8 w10:=H9.o.1.tr nZ.o.2.1;exact qg5):G:=h
theorem qgc(h:G:=by
 have lw:=(HQ.o.1.later HL.o.2.2.2.1).move (ok':=fun b=>¬M b) (fun b hb hlt=>⟨hb.2,jr.same b (by have:=hb.1;omega)⟩);have YH:=(HQ.o.2.1.later HL.o.2.2.2.1).move (ok':=fun b=>¬M b) (fun b hb hlt=>⟨hb.2,jr.same b (by have:=hb.1;omega)⟩);have Bn:=(HQ.o.2.2.1.kp (Kp.below HL.o.2.2.2.1)).busy jr zi;have kF:x∈bC [] s f:=HL.o.2.2.2.2.2.subset (by simp);have uF:ag x.s<=400:=aR (oC s f [] x kF) zK.o.1;have _u:=HL.o.2.2.2.2.2.length_le;have Ke:=tU s f [];simp only[ei,fB,List.length_nil]at _u;have hlen:pre.length+1<=400:=by have:=zK.o.1;omega
 have CS:=HST.o M (K0+1+1+1) (K0+1) (K0+1+1) AC.o.1 AC.o.2.1 AC.o.2.2.2.2 (fun b hb=>aR HV.o.2.2.1.size (FL.o.1 b hb)) x (mM s f [] (tH zK.o.2.2.2) x kF) uF W2 nF2 Gc k2 ⟨⟨u0,u1,u2,u3,u4,u5,u6,u7⟩,⟨v0,v1,v2,v3,v4,v5,v6,v7⟩,ca,cl,cc⟩ ps
  (fun b hb=>by have:=xJ.o.2.2.2.2.1 b hb;have:=jk.o;have:=ke.size;omega) (Gk.o.kp ke (fun b hb=>aR HV.o.2.2.1.size (FL.o.1 b hb))) g2 (by have:=zK.o.2.1;have:=U'.o.2.1;omega) (by have:=zK.o.2.2.1;have:=U'.o.2.2;omega) ⟨lw,YH,Bn,HQ.o.2.2.2.1,HQ.o.2.2.2.2⟩
 first
 |clear qqo;obtain⟨⟨k3,er⟩,YI⟩:∃p,p=bc k2 x:=⟨_,rfl⟩;rw[<-YI]at CS;unfold dq at CS;simp only[gd.val,gd.cells]at CS;have Ve:=fun h0:er=0=>(show bF k3=true from m8 k2 x k3 (mM s f [] (tH zK.o.2.2.2) x kF) g5 (by rw[<-YI,h0]))
  have nj:ek bc kj (pre++[x])=(k3,er):=by rw[Ay pre kj k2 x g1,YI]
  have qsc:=();exact qg6
 |obtain⟨⟨k3,er⟩,YI⟩:∃p,p=dE k2 x:=⟨_,rfl⟩;rw[<-YI]at CS;unfold dq at CS;simp only[gd.val,gd.cells]at CS;have Ve:=fun h0:er=0=>(show bF k3=true from rG k2 x k3 (mM s f [] (tH zK.o.2.2.2) x kF) g5 (by rw[<-YI,h0]))
  have nj:ek dE kj (pre++[x])=(k3,er):=by rw[Ay pre kj k2 x g1,YI]
  exact qg6):G:=h
theorem qg7(h:G:=by
 go_wp2_with (go_at_call 91;refine oQ.o.mono ?_;rintro e w4 ⟨⟨⟨po,pn,pa,pl,pc,pb,pm,pe⟩,rfl,hp⟩,aY⟩;simp only[Option.isSome]at hp⊢;rw[<-gh.o]at aY;have bE:Below w4.heap.size w4 (w4.alloc (.cells #[.int .u8 po,.string pn,.slice pa pl pc,.slice pb pm pe] 36)):=dp;have wK:=fk.o.later (aY.tr bE) (fun r=>r.below (aY.tr bE));have x5:=wK.other (by omega) TG.o;obtain⟨e0,e1,e2,e3,z0,z1,z2,z3⟩:=dw x5;have H3:=aM (aY.tr bE) x5;clear hp aY bE wK x5);have Ss:=();exact qg8):G:=h
theorem qal(h:G:=by
 simp only[FQ.val,c_,Array.mk.injEq,cF,and_true,Value.int.injEq,true_and,Value.string.injEq]at h1;obtain⟨rfl,rfl,rfl,rfl⟩:=h1
 first
 |clear qse;obtain rfl:=DI.len;have⟨W2,bp⟩:=az (w.alloc (.cells #[.int .u8 uo,.string ⟨xn.toArray⟩,.slice ua ul uc,.slice ub xs.length ue] 36));have bU:=dj bp;have hX:=cA bp;have C1:=Pz xa (fun t _=>(Ts t)) x ok W2 ua ul uc hf.args (gH.later bU);have eN:=hf.subs.len;have Ka:=hf.subs;have zcy:=fun r=>yx (x:=x) (.mk uo xn xa xs) r;have vD:=hf.1;have⟨R,hR⟩:=az (lN x (.mk uo xn xa xs));have tN:=hR;rw[lN]at tN;rw[<-hR]at zcy⊢;have⟨S,hS⟩:=az (fh x xa 0);rw[<-hS]at C1 tN;exact qg9
 |clear qsf;obtain rfl:=gH.len;obtain rfl:=DI.len;have zcI:=aI.args.len;have eN:=aI.subs.len;have dQ:=aI.name;have⟨A,hA⟩:=az ((aF a).filter (fun x=>!bs.contains x));obtain⟨bs',hbs⟩:∃bs':List aj,bs'=(if br uo then nm::bs else bs):=⟨_,rfl⟩;have oA:aP bs (.mk uo nm a ss)=A++bK bs' ss:=by rw[hA,hbs];unfold aP;rfl
  rw[oA]at dU⊢;have yB:ag (.mk uo nm a ss)=af a+ah ss+1:=by unfold ag;rfl
  have⟨NF,hNF⟩:=az (ag (.mk uo nm a ss));rw[<-hNF]at hn Nn⊢;rw[<-hNF]at yB;have⟨k0,cD⟩:=az a.length;have⟨m0,eh⟩:=az ss.length;rw[<-cD]at gH zcI;rw[<-eh]at DI eN;have FI:=hq;unfold FQ.val;simp only;rw[<-cD,<-eh];have⟨W1,cC⟩:=az (((W.alloc (.cells #[.int .u8 uo,.string ⟨nm.toArray⟩,.slice ua k0 uc,.slice ub m0 ue] 36)).alloc (.cells #[.map (some mb)] 198)).alloc (.cells #[.func (.yield l) #[] #[]] 113));have jN:=xK cC;have iZ:=Ki cC;have hx0:W1.heap[W.heap.size]?=some (.cells #[.int .u8 uo,.string ⟨nm.toArray⟩,.slice ua k0 uc,.slice ub m0 ue] 36 (0,0)):=by
   rw[cC];exact(bZ _ _ _ (by simp;omega)).trans ((bZ _ _ _ (by simp)).trans (aq rfl))
  have hx1:W1.heap[W.heap.size+1]?=some (.cells #[.map (some mb)] 198 (0,0)):=by
   rw[cC];exact(bZ _ _ _ (by simp)).trans (aq (by simp))
  have hx2:W1.heap[W.heap.size+2]?=some (.cells #[.func (.yield l) #[] #[]] 113 (0,0)):=by
   rw[cC];exact aq (by simp)
  have hmW:=hb.lt;have hWs:=hk.size;have hMS:∀b,W0.heap.size<=b->b≠mb->¬(M b\/b=mb):=fun b h1 h2 h=>by
   rcases h with h|h
   ·have:=hM b h;omega
   ·exact h2 h
  have sU:Hd (W.heap.size<W1.heap.size/\¬(M W.heap.size\/W.heap.size=mb)/\W.heap.size+1<W1.heap.size/\¬(M (W.heap.size+1)\/W.heap.size+1=mb)/\W.heap.size+2<W1.heap.size/\¬(M (W.heap.size+2)\/W.heap.size+2=mb)):=
   ae ⟨by omega,hMS _ (by omega) (by omega),by omega,hMS _ (by omega) (by omega),by omega,hMS _ (by omega) (by omega)⟩
  have HMS:=ae hMS;have qsg:=();exact qba
 |clear qsh;obtain rfl:=Ll.len;have eN:=hfc.subs.len;have⟨m0,eh⟩:=az nY.length;simp only at Bo;rw[<-eh]at Ll eN Bo hcv;obtain⟨e0,e1,e2,e3,z0,z1,z2,z3⟩:=dw Bo;have Cu:(k:Int)<(n1:Int):=by omega
  have Cm:=(bD.same _ (by have:=HM.o.2.1;have:=H4.o.2.2.size;omega) (by rw[HM.o.1];simp)).trans ((H4.o.2.2.block _ (by have:=HM.o.2.1;omega)).trans HX.o.2.2);have p_:=H4.o.2.2.size;have sP:=HM.o.2.1;have aD:Below w.heap.size w wr:=Below.kp1 (HM.o.2.2.trans (H4.o.2.2.mono (by omega))) (by have h:=bD;rw[HM.o.1]at h;exact h) (by omega)
  by_cases hi:i0<m0
  ·have XC:i0<nY.length:=by omega
   rw[jn XC]at MU;obtain⟨b2,off2,⟨uo,un,ua,ul,uc,ub,um,ue⟩,rfl,kC,hu,d0,d1,d2,d3⟩:=Ll.get XC;simp only at MU d0 d1 d2 d3;have qsi:=();exact qha
  ·have hge:(m0:Int)<=(i0:Int):=by omega
   have hng:¬((i0:Int)<(m0:Int)):=by omega
   have HE:=ae (show R=none by rw[HR.o,MU,List.getElem?_eq_none (by omega)]);obtain⟨f0,f1,f2,y0,y1,y2⟩:=ir Cm;have Kb:=aM Cm aD;clear MU Cm bD hcv hfc aE Rd hcs NW Ll Bo eh sB FO jd xV eN p_ sP aD;go_wp2;obtain⟨W6,dr,x6,k6,g0,g1,g2⟩:=sT Kb.o.1 (.bool false) (.string ⟨#[]⟩) (.slice none 0 0);rw[<-dr];refine bX (v:=.tuple #[TQ.val ⟨false,⟨#[]⟩,none,0,0⟩,.bool false]) (by simp[TQ.val,results,results98,go_sem,g0,g1,g2]) rfl ⟨⟨⟨false,⟨#[]⟩,none,0,0⟩,by rw[HE.o];rfl,fun u hu=>by rw[HE.o]at hu;cases hu⟩,Below.kp1 Kb.o.2 k6 (by omega)⟩
 |clear qsj;simp only at Bo;have⟨wo,IU⟩:=az wr;subst IU;have sP:=HM.o.2.1;have p_:=H4.o.2.2.size;have hzo:=bD.size;have aD:Below w.heap.size w wo:=Below.kp1 (HM.o.2.2.trans (H4.o.2.2.mono (by omega))) (by have h:=bD;rw[HM.o.1]at h;exact h) (by omega);have Cm:=(bD.same _ (by omega) (by rw[HM.o.1];simp)).trans ((H4.o.2.2.block _ (by omega)).trans HX.o.2.2);have⟨W6,dr⟩:=az (wo.alloc (.cells #[.bool false,.string ⟨#[]⟩,.slice none 0 0] 43));have dh:=dj dr;have hz6:=Kh dr;have x6:=cA dr;have x26:=(dh.block _ (by omega)).trans Cm;obtain⟨b3,zaf,rfl,zaz⟩:=H4.o.2.1.get HN.o.2.2;have zcS:b3≠w.heap.size+1:=H4.o.2.1.apart rfl HN.o.2.2 ((H4.o.2.2.block _ (by omega)).trans HX.o.2.1);have qN:=jR.2 HN.o.2.2;have zcT:b3<w4.heap.size:=k_ (zaz 0 qN);have zcU:∀j (h:j<pq.length),W6.cell? ⟨b3,zaf+j,none⟩=some (.int .i64 (pq[j]:Nat)):=fun j h=>aa dh (bD.cell (by rw[HM.o.1];exact zcS) (zaz j h));have⟨R0,_c⟩:=az (kP cas pq);have XQ:=HR.o;rw[MU]at XQ;simp only[ls,Fm.a]at XQ;rw[<-_c]at XQ;have yH:=aM XQ _c;have _d:=NW.later dh;have zcV:=hfc.args;have f2:=ao Bo 2;have f26:=aa dh f2;have HZ:=cH sP p_ hzo hz6;have H6:=ae (Xf (aD.tr dh) x6 x26 zcU _d zcV zcT);have zcW:=aM aE Rd;have⟨NX,XR⟩:=bi dh dr;obtain rfl:=NW.len;rw[dr]at f26;clear MU hdn hcv NW Ll hfc Bo sP p_ hzo aD Cm dh hz6 x6 x26 zaz zcS qN zcT zcU _c XQ _d zcV aE Rd bD dr;go_wp2_with fail;rw[<-XR.o];clear f2 f26;go_loopw [14,54] (fun v i wr=>∃(j:Nat)(t:Tm)(l:List Tm)(tq:TQ)(la:Option Addr)(lc:Nat),j<=n2/\i=.int .i64 j/\v=.slice la l.length lc/\Kp (fun b=>b=wo.heap.size) W6 wr/\wr.heap[wo.heap.size]?=some (.cells #[.bool tq.v,.string tq.n,.slice tq.a tq.l tq.c] 43 (0,0))/\cB (fun b=>b<w.heap.size/\¬M b/\ok b) wr v l/\jE l/\(j<n2->R0=kP l (pq.drop j))/\(0<j->aN (fun b=>b<w.heap.size/\¬M b/\ok b) wr tq.val t/\e7 t/\(j=n2->R0=some t))) (fun _ i _=>n2-(intOf i).toNat)
  case atStart=>exact⟨0,.mk false [] [],cas,⟨false,⟨#[]⟩,none,0,0⟩,c2,c4,bn _,rfl,rfl,Kp.refl _,H6.o.2.1,H6.o.2.2.2.2.1,H6.o.2.2.2.2.2.1,fun _=>by simpa using yH.o.2,fun h=>absurd h (Nat.lt_irrefl _)⟩
  case round=>
   obtain⟨j,t,l,⟨tv,tn,ta,tl,tc⟩,la,lc,hj,rfl,rfl,bD,I2,I3,pM,XS,cr⟩:=hrel
   by_cases fC:j<n2
   ·have hjp:=cG HN.o.2.1 fC;have ci:=bD.cell (a:=⟨b3,zaf+j,none⟩) (show ¬(b3=wo.heap.size) by have:=HZ.o;have:=H6.o.2.2.2.2.2.2;omega) (H6.o.2.2.2.1 j hjp);have⟨i0,sB⟩:=az (pq[j]);have hw:=XS fC;rw[iL hjp,<-sB]at hw;rw[<-sB]at ci;have eN:=pM.len;have⟨m0,eh⟩:=az l.length;rw[<-eh]at eN I3;rw[<-eh];have C7:(j:Int)<(n2:Int):=by omega
    simp only at I2;have Cm:=(bD.same _ (by have:=HZ.o;omega) (by have:=HZ.o;omega)).trans H6.o.2.2.1;have hBr:Below w.heap.size w wr:=Below.kp1 H6.o.1 bD (by have:=HZ.o;omega)
    by_cases hi:i0<m0
    ·have XC:i0<l.length:=by omega
     exact qha
    ·have hge:(m0:Int)<=(i0:Int):=by omega
     have hng:¬((i0:Int)<(m0:Int)):=by omega
     have HE:=ae (show R=none by rw[yH.o.1,hw,NV (List.getElem?_eq_none (by omega))]);obtain⟨f0,f1,f2,y0,y1,y2⟩:=ir Cm;have Kb:=aM Cm hBr;clear XS cr Cm bD pM I3 I2 eh sB hjp hBr hw eN;go_wp2;obtain⟨W7,PH,x7,k7,g0,g1,g2⟩:=sT Kb.o.1 (.bool false) (.string ⟨#[]⟩) (.slice none 0 0);rw[<-PH];refine bX (v:=.tuple #[TQ.val ⟨false,⟨#[]⟩,none,0,0⟩,.bool false]) (by simp[TQ.val,results,results98,go_sem,g0,g1,g2]) rfl ⟨⟨⟨false,⟨#[]⟩,none,0,0⟩,by rw[HE.o];rfl,fun u hu=>by rw[HE.o]at hu;cases hu⟩,Below.kp1 Kb.o.2 k7 (by omega)⟩
   ·obtain rfl:j=n2:=by omega
    have qN:0<j:=by rw[HN.o.2.1];exact jR.2 HN.o.2.2
    obtain⟨sV,rO,_c⟩:=cr qN;have _c:=_c rfl;simp only at I2;have⟨wq,PI⟩:=az wr;subst PI;have hzq:=bD.size;have hzo:=HZ.o.2.2.1;have hz6:=HZ.o.2.2.2;have T1:=HZ.o.2.1;have sP:=HZ.o.1;have Cm:=(bD.same _ (by omega) (by omega)).trans H6.o.2.2.1;have hBr:Below w.heap.size w wq:=Below.kp1 H6.o.1 bD (by omega);have _e:=zcW.o.1.held (W':=wq) (fun b _ hlt=>(bD.same b (by omega) (by omega)).trans (NX.o.block b hlt));have G7:R=if(aL t).any ins.contains then none else some t:=by rw[yH.o.1,_c]
    have CF:=og t rO _ wq ⟨tv,tn,ta,tl,tc⟩ sV;simp only[TQ.val]at CF;have⟨ns,sH⟩:=az (dX (aL t));rw[<-sH]at CF;have mn:ns.length<=2000000:=by rw[sH];have:=gp (aL t);have:=oS t;have:=rO.1;omega
    have⟨n3,hn3⟩:=az ns.length;have zg3:n3<=2000000:=by omega
    obtain⟨s0,s1,s2,y0,y1,y2⟩:=ir I2;have FJ:=ae CF;have HQ:=gN Cm hBr _e sV I2;have HRf:=aM G7 sH;have HN3:=ae hn3;have HZ7:=gN hzq hzo hz6 T1 sP;clear XS cr bD I2 I3 pM qN sV rO _c Cm hBr _e G7 CF sH mn hn3 hzq hzo hz6 T1 sP;go_wp2_with (go_at_call 166;refine FJ.o.mono ?_;rintro e w7 ⟨⟨v7,rfl,MW⟩,g_⟩;obtain⟨a7,cc7,rfl⟩:=MW.strs.slice;rw[<-HN3.o]at MW⊢;have H7:=aM MW g_;clear MW g_);clear s0 s1 s2 y0 y1 y2;go_loopw [73] (fun i wr=>∃j3:Nat,j3<=n3/\i=.int .i64 j3/\wr=w7/\∀y∈ns.take j3,ins.contains y=false) (fun i _=>n3-(intOf i).toNat)
    case atStart=>exact⟨0,bn _,rfl,rfl,by simp⟩
    case round=>
     obtain⟨j3,tb,rfl,rfl,iX⟩:=hrel
     by_cases T3:j3<n3
     ·have _f:=cG HN3.o T3;obtain⟨b7,zg4,rfl,_,ci⟩:=H7.o.1.strs.get _f;have⟨nm,dQ⟩:=az (ns[j3]);rw[<-dQ]at ci;have CT:=io ins.reverse (by have:=zcW.o.2;simp;omega) nm _ wr u10 (HQ.o.2.2.1.later H7.o.2).strs;have NY:ins.reverse.contains nm=ins.contains nm:=by rw[iM,List.contains_iff_mem,List.contains_iff_mem,List.mem_reverse]
      rw[NY]at CT;have C7:(j3:Int)<(n3:Int):=by omega
      have Cm:=bY H7.o.2 HQ.o.1
      cases hc:ins.contains nm with
      |true=>
       rw[hc]at CT;have K_:=ae CT;have HE:=ae (show R=none by rw[HRf.o.1,aG (List.any_eq_true.2 ⟨nm,(eG nm _).1 (by rw[<-HRf.o.2,dQ];exact aH _f),hc⟩)]);obtain⟨f0,f1,f2,y0,y1,y2⟩:=ir Cm;have Kb:=aM Cm (HQ.o.2.1.tr H7.o.2);have up:=();exact qhb
      |false=>
       rw[hc]at CT;have K_:=ae CT;have Bl:=ae (show ∀ y∈ns.take (j3+1),ins.contains y=false by
        intro y hy;rw[List.take_add_one,jn _f,<-dQ]at hy;rcases List.mem_append.1 hy with h|h
        ·exact iX y h
        ·obtain rfl:y=nm:=by simpa using h
         exact hc)
       exact qhb
     ·obtain rfl:j3=n3:=by omega
      rw[HN3.o,dA]at iX;have HE:=ae (show R=some t by
       rw[HRf.o.1,aw];intro h;obtain⟨y,hy,hc⟩:=List.any_eq_true.1 h;have:=iX y (by rw[HRf.o.2];exact(eG y _).2 hy);rw[this]at hc;cases hc)
      have Cm:=bY H7.o.2 HQ.o.1;have xtw:=bY H7.o.2 HQ.o.2.2.2.2;obtain⟨f0,f1,f2,y0,y1,y2⟩:=ir Cm;obtain⟨t0,t1,t2,_,_,_⟩:=ir xtw;have sV:=(HQ.o.2.2.2.1.later H7.o.2);have Kb:=bS Cm (HQ.o.2.1.tr H7.o.2) sV;clear Cm xtw iX sV;go_wp2;obtain⟨W8,kM,x8,k8,g0,g1,g2⟩:=sT Kb.o.1 (.bool tv) (.string tn) (.slice ta tl tc);rw[<-kM];refine bX (v:=.tuple #[TQ.val ⟨tv,tn,ta,tl,tc⟩,.bool true]) (by simp[TQ.val,results,results98,go_sem,g0,g1,g2]) rfl ⟨⟨⟨tv,tn,ta,tl,tc⟩,by rw[HE.o];rfl,fun u hu=>by rw[HE.o]at hu;cases hu;exact Kb.o.2.2.move (fun b hb hlt=>⟨⟨hb.1,hb.2.2⟩,k8.same b hlt (by omega)⟩)⟩,Below.kp1 Kb.o.2.1 k8 (by omega)⟩
 |clear qsl;have qsm:=();exact qcZ
 |clear qsn;have qso:=();exact qcZ
 |clear qsp;exact qcZ
 |clear qsq;obtain rfl:=j7.len;obtain rfl:=oY.len;subst he;have⟨R,hR⟩:=az (dE k ⟨.mk so n a s,F,ps.reverse⟩);rw[<-hR];have tN:=hR;rw[UZ]at tN;have⟨n1,eB⟩:=az a.length;have⟨m2,jQ⟩:=az s.length;rw[<-eB]at hs j7;rw[<-jQ]at hs oY;rw[<-eB,<-jQ];have⟨W1,cC⟩:=az (W.alloc (.cells #[.int .u8 so,.string ⟨n.toArray⟩,.slice sa n1 sc,.slice sb m2 se,.int .u8 fo,.string fn,.slice fa fl fc,.slice fb fm fe,.slice ca cl cc] 89));have hb1:=dj cC;have jv:=Kh cC;have x1:=cA cC;have nM:=jC _ hp.s;simp only[mI,ak,bM]at nM;have vD:=jC _ hp.f;have aI:cJ F:=⟨by have:=hp.n;simp only at this;omega,iR (by omega) _ vD⟩;have⟨P0,P1,P2,P3,P4,P5,P6,P7⟩:=FP x1;have P8:=ao x1 8
  by_cases gq:so=16
  ·subst gq;obtain⟨x,y,gH,M0,Jk,bq⟩:=mN hp rfl;simp only[Fm.a]at gH;simp only at bq;have⟨dM,Bw⟩:=az (cg x);rw[bq,<-Bw]at tN;rw[aw (by decide)]at tN;simp only at tN;have qsr:=();exact qc0
  ·have HE:=ae (show R=(k,0) by rw[tN,aG (by simp[gq])]);have dz:(so==16)=false:=by simp[gq]
   have kf:=ae cC;have MX:=aM hb1 (eR.later hb1);clear tN hR hp WP WO WQ hM0 hMs hs hf j7 oY hc eR eB jQ vh tC hl hps cC hb1 jv aI nM vD Ec uM x1;exact qc1
 |clear qss;obtain rfl:=j7.len;have qst:=();exact qc2
 |clear qsu;obtain rfl:=j7.len;have qsv:=();exact qc2
 |obtain rfl:=j7.len;exact qc2):G:=h
theorem qhc(h:G:=by
 rintro D X hD ⟨k',Bv,yL,h1,h2,h3,h4,h5,h6,h7,h8⟩ _ hd;have hHr:=_o.o;rw[h1,aG rfl]at hHr;have Ke:=tU s f [];have N':Kp M zf X:=jk.o.2.2.2.1.trans ((Kp.below jk.o.1).trans h8);have mj:gW lB.heap.size X ({target:=.collected D,args:=#[] }::ds3):=jk.o.2.2.1.more (w':=X) (fun E hE hx=>(h8.same E (bQ hx) (fun hm=>by have:=xJ.o.2.2.2.2.1 E hm;omega)).trans hx) hD (by have:=jk.o;omega) hd;have HZ:=ae (Xf N' mj h6 h7 h2 h5 hHr);have Vf:=ae (show Bv<=nF+(j+1)*400/\yL<=nT+(j+1)*160000 by have:=zK.o.1;have:=zK.o.2.1;have:=zK.o.2.2.1;omega);clear h1 h2 h3 h4 h5 h6 h7 h8 hHr Ke N' mj hd;gi_wp2;refine o_.mk ?hT ?hr ?hm
 case hT=>kernel_rfl
 case hr=>
  refine⟨j+1,by omega,by kernel_rfl,HZ.o.2.1,HZ.o.1,HZ.o.2.2.1,HZ.o.2.2.2.1,k',Bv,yL,HZ.o.2.2.2.2.1,Vf.o.1,Vf.o.2,HZ.o.2.2.2.2.2.1,HZ.o.2.2.2.2.2.2⟩
 case hm=>
  refine(show n2-(intOf (Value.int IntKind.i64 (((j+1:Nat)):Int))).toNat<n2-(intOf (Value.int IntKind.i64 (j:Int))).toNat from ?_);simp[intOf];omega):G:=h
theorem qbs(h:G:=by
 have x6:=nJ (v0:=.int .u8 0) (v1:=.string ⟨#[]⟩) (v2:=.slice none 0 0) (v3:=.slice none 0 0) Ic.o
 first
 |clear an;have k6:=ev (W:=w4) (b:=w.heap.size+1+1) (v0:=.int .u8 0) (v1:=.string ⟨#[]⟩) (v2:=.slice none 0 0) (v3:=.slice none 0 0);have⟨W6,dr⟩:=az ((((w4.setCell ⟨w.heap.size+1+1,0,none⟩ (.int .u8 0)).setCell ⟨w.heap.size+1+1,1,none⟩ (.string ⟨#[]⟩)).setCell ⟨w.heap.size+1+1,2,none⟩ (.slice none 0 0)).setCell ⟨w.heap.size+1+1,3,none⟩ (.slice none 0 0));have ZU:=();exact qbK
 |clear up;have k6:=ev (W:=w9) (b:=w.heap.size+1+1) (v0:=.int .u8 0) (v1:=.string ⟨#[]⟩) (v2:=.slice none 0 0) (v3:=.slice none 0 0);have⟨W6,dr⟩:=az ((((w9.setCell ⟨w.heap.size+1+1,0,none⟩ (.int .u8 0)).setCell ⟨w.heap.size+1+1,1,none⟩ (.string ⟨#[]⟩)).setCell ⟨w.heap.size+1+1,2,none⟩ (.slice none 0 0)).setCell ⟨w.heap.size+1+1,3,none⟩ (.slice none 0 0));have qsx:=();exact qbK
 |have k6:=ev (W:=w6) (b:=w.heap.size+1+1) (v0:=.int .u8 0) (v1:=.string ⟨#[]⟩) (v2:=.slice none 0 0) (v3:=.slice none 0 0);have⟨W6,dr⟩:=az ((((w6.setCell ⟨w.heap.size+1+1,0,none⟩ (.int .u8 0)).setCell ⟨w.heap.size+1+1,1,none⟩ (.string ⟨#[]⟩)).setCell ⟨w.heap.size+1+1,2,none⟩ (.slice none 0 0)).setCell ⟨w.heap.size+1+1,3,none⟩ (.slice none 0 0));have qsy:=();exact qbK):G:=h
theorem qhe(h:G:=by
 refine lM S 31 dW fun jO b_=>?_;refine bH 0 66 (.pointer (some ⟨w.heap.size,1,none⟩)) rfl b_ fun cK=>?_;simp only[am];refine di 1 67 (.slice (some ⟨b,off,none⟩) n2 qe) rfl (fun V hX=>by obtain⟨g0,_⟩:=f0 V hX;go_simp) b_ fun cK=>?_;simp only[am];refine bH 2 68 (.int .i64 j) rfl b_ fun cK=>?_;simp only[am];refine bH 3 69 (.pointer (some ⟨b,off+j*4,none⟩)) rfl b_ fun cK=>?_;simp only[am];refine bH 4 70 (.pointer (some ⟨b,off+j*4,none⟩)) rfl b_ fun cK=>?_;simp only[am];refine di 5 71 (.string ⟨nx.toArray⟩) rfl (fun V hX=>by obtain⟨g0,_⟩:=f1 V hX;go_simp) b_ fun cK=>?_;simp only[am];refine bH 6 72 (.pointer (some ⟨w.heap.size+1,1,none⟩)) rfl b_ fun cK=>?_;simp only[am];refine di 7 73 (.slice (some ⟨b2,off2,none⟩) n2 re) rfl (fun V hX=>by obtain⟨_,g0⟩:=f0 V hX;go_simp) b_ fun cK=>?_;simp only[am];refine bH 8 74 (.int .i64 j) rfl b_ fun cK=>?_;simp only[am];refine bH 9 75 (.pointer (some ⟨b2,off2+j*4,none⟩)) rfl b_ fun cK=>?_
 first
 |clear qsz;simp only[am];have qsA:=();exact qhf
 |simp only[am];exact qhf):G:=h
theorem qc3(h:G:=by
 have qsB:=();exact qa0):G:=h
theorem qbL(h:G:=by
 have f1:∀V,S V->V.cell? ⟨wr.heap.size,0,none⟩=some (.int .u8 u.o)/\V.cell? ⟨wr.heap.size,1,none⟩=some (.string u.n)/\V.cell? ⟨wr.heap.size,2,none⟩=some (.slice u.a u.l u.c)/\V.cell? ⟨wr.heap.size,3,none⟩=some (.slice u.b u.m u.e):=fun V h=>by rw[hS]at h;exact⟨aa h (ao xb 0),aa h (ao xb 1),aa h (ao xb 2),aa h (ao xb 3)⟩
 first
 |clear qsC;have qsD:=();exact qaz
 |clear qsE;have xaw:=HF.o.other (b:=w.heap.size+1) (by omega) zbU.o;have f2:∀V,S V->V.cell? ⟨w.heap.size+1,0,none⟩=some (.slice va v0 vc):=fun V h=>by rw[hS]at h;exact aa h (ao (bY ew xaw) 0)
  have OG:Below w.heap.size w W2.drew:=(cR.o.tr ew).drew;have HPz:=ae (HPj.o.keep (W':=W2.drew) (fun b o hb hn hl=>(ew.block b (bP hl HF.o.kp.size)).trans (HF.o.kp.same b hl (HAj.o b o hb hn))));clear xaw;have qsF:=();exact qaz
 |clear qsG;have qsH:=();exact qaz
 |have xu:=g9.other (by omega) ze4.o;have qsI:=();exact qhg):G:=h
theorem qaN(h:G:=by
 refine hK _ _ (fun _=>by rw[c9.o];exact e9.o) (fun _=>?_);clear hK K
 first
 |clear up;refine cb 13 rfl fun K hK=>?_
  have qsK:=();exact qbM
 |clear ZU;refine cb 16 rfl fun K hK=>?_
  have qsM:=();exact qbM
 |clear qsN;refine cb 17 rfl fun K hK=>?_
  have qsO:=();exact qbM
 |clear qsP;refine cb 8 rfl fun K hK=>?_
  go_simp;have qsQ:=();exact qhh
 |clear qsR;refine cb 8 rfl fun K hK=>?_
  go_simp;exact qhh
 |refine cb 29 rfl fun K hK=>?_
  have Ss:=();exact qhi):G:=h
theorem qhj(h:G:=by
 have qsT:=();exact qbq):G:=h
theorem qfd(h:G:=by
 have hs:=hb.size;refine⟨qs++[(x,q)],by simp[hk],by rw[List.flatMap_append];simpa using aV,fun j h1 h2=>?_⟩
 by_cases hj:j<qs.length
 ·rw[List.getElem_append_left hj,List.getElem_append_left (by omega)];refine⟨(ht j hj (by omega)).1,(ht j hj (by omega)).2.move (fun b hok hlt=>⟨⟨hok.1,fun e=>?_⟩,(hold b hok.1 (by omega) hok.2).trans (hb.block b hlt)⟩)⟩;have it:=();exact qbN
 ·have uD:j=ts.length:=by simp at h2;omega
  have up:=();exact qc4):G:=h
theorem qcb(h:G:=by
 refine⟨qs++[q],by simp[hk],by rw[List.flatMap_append];simpa using aV,fun j h1 h2=>?_⟩
 by_cases hj:j<qs.length
 first
 |clear an
  ·rw[List.getElem_append_left hj,List.getElem_append_left (by omega)];refine(ht j hj (by omega)).move (fun b hok hlt=>⟨⟨hok.1,fun e=>?_⟩,(hold b hok.1 (by omega) hok.2).trans (hb.block b hlt)⟩);have it:=();exact qbN
  ·have uD:j=ts.length:=by simp at h2;omega
   have GB:=();exact qc4
 |·rw[List.getElem_append_left hj,List.getElem_append_left (by omega)];exact⟨(ht j hj (by omega)).1.move vw,(ht j hj (by omega)).2.move vw⟩
  ·have uD:j=ps.length:=by simp at h2;omega
   exact qc4):G:=h
theorem qhh(h:G:=by
 have bE:Below w6.heap.size w6 (w6.alloc (.cells #[.int .u8 p0,.string p1,.slice p2 p3 p4,.slice p5 p6 p7] 36)):=dp;refine hK _ _ (fun _=>by rw[c9.o];exact e9.o.tr bE) (fun _=>?_);clear hK K;have⟨W7,PH⟩:=az (w6.alloc (.cells #[.int .u8 p0,.string p1,.slice p2 p3 p4,.slice p5 p6 p7] 36));rw[<-PH]at bE⊢;have y7:=cA PH;have xR:=bY (e9.o.tr bE) Mk.o.2.2.1;have xT:=bY (e9.o.tr bE) Mk.o.2.1;have hlw:=dh.size;have zfR:=La.o.2.1;have zfS:=H7.o.size;have XE:=Bb.o;have zfT:=eQ.o.size;have hR1:=(bQ kJ.o);have xR2:=(bJ (F:=3) xR (.slice (some ⟨w6.heap.size,0,none⟩) 1 1)).trans rfl;have kR:Kp (fun b=>b=w.heap.size+1+1) W7 (W7.setCell ⟨w.heap.size+1+1,3,none⟩ (.slice (some ⟨w6.heap.size,0,none⟩) 1 1)):=⟨rfl,rfl,rfl,by simp,fun c _ hc=>e_ _ _ _ _ (by simpa using hc)⟩;have r3:=ao xR 3;have rz:=ai xR 3;have HPp:=ae hp;have Vt:=bS (e9.o.tr bE) y7 bE
 first
 |clear qsQ;have yH:=bS xR2 kR xT;have qsW:=();exact qhl
 |have yH:=bS xR2 kR xT;exact qhl):G:=h
theorem qbO(h:G:=by
 unfold TQ.val at CC;have qsX:=();exact qc5):G:=h
theorem qg6(h:G:=by
 have hN:∀b,b≠K0+1->b≠K0+1+1->¬N2 (K0+1) (K0+1+1) b:=fun b h h' hm=>by rcases hm with hm|hm;exact h hm;exact h' hm
 have hK6:=nZ.o.2.1;have xp2:=(ke.same _ (bQ HI.o.2.2.2.2.2) (fun h=>by have:=xJ.o.2.2.2.2.1 _ h;have:=jk.o;omega)).trans HI.o.2.2.2.2.2;have xi2:=(ke.same _ (bQ HI.o.2.2.2.2.1) (fun h=>by have:=xJ.o.2.2.2.2.1 _ h;have:=jk.o;omega)).trans HI.o.2.2.2.2.1;have cp:=ao xp2 0;have⟨P0,P1,P2,P3,P4,P5,P6,P7⟩:=FP FH;have P8:=ao FH 8;have vQ:=ae CS;have HG:=ae (zcb g3 g4 g6 g7 g8 Ve nj hN xi2 hlen);clear CS g1 g2 g3 g4 g5 g6 g7 g8 Ve nj hN lw YH Bn kF uF _u Ke hlen YI FH zi xp2 xi2 hK6;have N4:=ae nZ.o.2.1;have hKa:=N4.o;have MY:aB+2<=wq.heap.size:=by have:=jk.o;have:=nZ.o.1;omega
 have hqa:K0+4<=wq.heap.size:=by have:=jk.o;have:=nZ.o.1;omega
 have qsY:=();exact qc6):G:=h
theorem qhm(h:G:=by
 refine bH 0 15 (.pointer (some ⟨kb,0,none⟩)) rfl b_ fun cK=>?_;simp only[am];refine bH 1 16 (.pointer (some ⟨kb,0,none⟩)) rfl cK fun f_=>?_;simp only[am];refine bH 2 17 (.pointer (some ⟨kb,1,none⟩)) rfl f_ fun gX=>?_;simp only[am];refine di 3 18 (.map (some mT)) rfl (fun V hX=>by obtain⟨h0,h1,h2⟩:=ff V hX;go_simp) gX fun iQ=>?_;simp only[am];refine bH 4 19 (.pointer (some ⟨w.heap.size,1,none⟩)) rfl iQ fun jM=>?_;simp only[am];refine di 5 20 (.string ⟨n.toArray⟩) rfl (fun V hX=>by obtain⟨h0,h1,h2⟩:=ff V hX;go_simp) jM fun km=>?_;simp only[am];refine di 6 21 (.agg #[.bool z0,.string z1,.slice z2 z3 z4]) rfl (fun V hX=>by obtain⟨h0,h1,h2⟩:=ff V hX;go_simp) km fun mU=>?_;have qsZ:=();exact qaO):G:=h
theorem qcO(h:G:=by
 have qs0:=();exact qcW):G:=h
theorem qf0(h:G:=by
 go_wp2_with (first|(go_at_call 115;refine C1.o.mono ?_;rintro e w' ⟨rfl,pD⟩;obtain rfl:=pD.symm)|(go_at_call 116;refine(CN.o _).mono ?_;rintro e w3 ⟨rfl,aS⟩;have bV:=ae aS;have p2:=(ji.o.later aS).c2;have p3:=(ji.o.later aS).c3;have p0:=(ji.o.later aS).c0;have s3:=(ug.o.later aS).c3;have s4:=(ug.o.later aS).c4;clear aS)|(go_at_call 118;refine(CT.o _ (pE.o.trans (Kp.below bV.o)) (zL.o.later bV.o)).mono ?_;rintro e w5 ⟨rfl,xg,l5,EP,ER,sf,mh⟩;have l5e:=mh rfl;subst l5e;have RM:Kp (fun c=>c=J) w w5:=(pE.o.trans (Kp.below bV.o)).trans xg;have e3:w5.cell? ⟨w.heap.size,3,none⟩=some (.slice qb m0 qe):=((ji.o.later bV.o).kp xg (by omega)).c3;have HA:=aM RM EP;clear xg EP ER sf mh RM))
 first
 |clear qpl;exact qgR
 |go_loopw [79] (fun i wr=>∃k:Nat,k<=m0/\i=.int .i64 k/\Kp (fun c=>c=J) w wr/\tu J true (left-1-af a-ah (s.take k)) bT wr/\dJ true (s.take k)=true/\(ah (s.take k):Int)<=left-1-af a/\bB+1+bl (s.take k)<=bT+1) (fun i _=>m0-(intOf i).toNat)
  case atStart=>exact⟨0,bn _,rfl,HA.o.1,by simpa[ah]using HA.o.2,by simp[dJ],by simp[ah];omega,by simp[bl];omega⟩
  case round=>
   exact qcX):G:=h
theorem qgB(h:G:=by
 go_wp2;have Ss:=();exact qcD):G:=h
theorem qfN(h:G:=by
 have y2:wr.cell? ⟨w.heap.size+1,2,none⟩=some (.slice (some ⟨b',kQ,none⟩) k0 vc):=aa dS (ao HY.o 2);have DH:(k:Int)<(k0:Int):=by omega
 have HU:=ae (hu.later aD);have vJ:=ae (iA.later aD);have qZ:=ae (HP.o.later aD);have⟨Tx,Cg,Ch,cR,oh⟩:=sL sD mR he aD dS;have my:=bS (aa aD kK) (aa aD lW) (aa aD lX);have⟨xW,HT⟩:=bi y2 ht;clear hu iA sD mR he aD dS ht c0 c1 c2 kK lW lX;have qs2:=();exact qhn):G:=h
theorem qfR(h:G:=by
 have y2:wr.cell? ⟨w.heap.size+1,2,none⟩=some (.slice (some ⟨b',kQ,none⟩) k0 vc):=aa dS (ao pP.o 2);have DH:(k:Int)<(k0:Int):=by omega
 have HU:=ae (hu.later aD);exact qf5):G:=h
theorem qbb(h:G:=by
 have lj:=cG I'.o hlt;have aD:=jb.o.trans (dS.mono jb.o.size);obtain⟨b,off,u,rfl,_,hu,c0,c1,c2,c3⟩:=Tu.o.get bA;obtain⟨b',kQ,u',rfl,_,iA,kK,lW,lX,Bu⟩:=HYs.o.get lj;have mR:=SF.o.mem (aH bA);rw[l8 bA lj]at ht
 first
 |clear qs3;have⟨e,he⟩:=az (cI ps.reverse xs[k] ys[k]);have qs4:=();exact qbc
 |clear qs5;have⟨e,he⟩:=az (cI ps.reverse xs[k] ys[k]);have qs6:=();exact qbc
 |clear qs7;have⟨e,he⟩:=az (cI (ps++[(xn,xn)]).reverse xs[k] ys[k]);have qs8:=();exact qbc
 |clear qs9;have⟨e,he⟩:=az (cI (ps++[(xn,yn)]).reverse xs[k] ys[k]);have qta:=();exact qbc
 |have⟨e,he⟩:=az (cI (ps++[(xn,yn)]).reverse xs[k] ys[k]);exact qbc):G:=h
theorem qac(h:G:=by
 refine aQ (by kernel_rfl) (by kernel_rfl) ?_
 first
 |clear qmz
  repeat (go_big_quiet_step (fail))
  have qpS:=();exact qad
 |clear qtb
  repeat (go_big_quiet_step ((go_at_call 226;exact cq (CC.o _))))
  have qpW:=();exact qad
 |clear qtc
  repeat (go_big_quiet_step ((go_at_call 19;exact cq (CC.o _))))
  have qpZ:=();exact qad
 |clear qtd
  repeat (go_big_quiet_step (fail))
  have qp1:=();exact qad
 |clear qte;have qtf:=();exact qc7
 |clear qtg
  repeat (go_big_quiet_step ((go_at_call 54;exact cq (HC.o _))))
  have qp4:=();exact qad
 |clear qth;have qti:=();exact qc7
 |clear qtj;exact qc7
 |clear qtk
  repeat (go_big_quiet_step ((go_at_call 42;exact cq (HC.o _))))
  have qqc:=();exact qad
 |clear qtl
  repeat (go_big_quiet_step ((go_at_call 92;exact cq (CC.o _))))
  exact qad
 |clear qtm
  repeat (go_big_quiet_step ((go_at_call 83;exact cq (CC.o _))))
  exact qad
 |clear qtn
  repeat (go_big_quiet_step ((go_at_call 54;exact cq (HC.o _ (HB.o.trans (aA.below _ |>.mono HB.o.size))))))
  have qp6:=();exact qad
 |clear up
  repeat (go_big_quiet_step (fail))
  have qpU:=();exact qad
 |clear qto
  repeat (go_big_quiet_step (fail))
  have qpV:=();exact qad
 |clear qtp
  iterate 2 (go_big_quiet_step ((go_at_call 99;exact cq (HCf.o _))))
  iterate 7 (go_big_quiet_step ((go_at_call 100;exact cq (HCt.o _))))
  iterate 2 (go_big_quiet_step ((go_at_call 99;exact cq (HCi.o _))))
  have qpY:=();exact qad
 |clear qtq;have qtr:=();exact qho
 |clear qts
  repeat (go_big_quiet_step ((go_at_call 147;exact cq (CC.o _))))
  have ZU:=();exact qad
 |clear qtt;exact qho
 |repeat (go_big_quiet_step ((go_at_call 147;exact cq (CC.o _))))
  have qf9:=();exact qad):G:=h
theorem qhp(h:G:=by
 by_cases h1:uo=vo
 ·subst h1;have e0:(uo==uo)=true:=by simp
  have e1:(uo !=uo)=false:=by simp
  by_cases h2:k0=m0
  ·subst h2;have h3:¬k1=m1:=fun h=>FY ⟨rfl,rfl,h⟩;have e2:((k0:Int)!=(k0:Int))=false:=by simp
   have e3:((k1:Int)==(m1:Int))=false:=by simp;omega
   have e4:((k1:Int)!=(m1:Int))=true:=by simp;omega
   exact qc9
  ·have e2:((k0:Int)==(m0:Int))=false:=by simp;omega
   have e3:((k0:Int)!=(m0:Int))=true:=by simp;omega
   exact qc9
 ·have e0:(uo==vo)=false:=by simpa using h1
  have e1:(uo !=vo)=true:=by simpa using h1
  exact qc9):G:=h
theorem qap(h:G:=by
 go_enter func122,ntmps122
 first
 |clear Ss;go_wp2_with (first|(go_at_call 115;refine C1.o.mono ?_;rintro e w' ⟨rfl,rfl⟩)|(go_at_call 152;refine(CV.o _).mono ?_;rintro e w3 ⟨rfl,aS⟩));go_ret;exact eF.yes HE.o (rA.o.1.trans (Kp.below aS)) (rA.o.2.1.later aS) (by show((1:Nat):Int)<=left;omega)
 |clear ZU;go_wp2_with (first|(go_at_call 115;refine C1.o.mono ?_;rintro e w' ⟨rfl,rfl⟩)|(go_at_call 152;refine(CV.o _).mono ?_;rintro e w3 ⟨rfl,aS⟩;have j0:=(rA.o.2.1.later aS).c0;have bV:=ae aS;clear aS));exact qhq
 |clear qtu;have qtv:=();exact qhr
 |clear qtw;exact qhr
 |clear up;go_wp2_with (go_at_call 115;refine C1.o.mono ?_;rintro e w' ⟨rfl,rfl⟩);go_ret;exact eF.no HE.o rA.o.1 rA.o.2.1 (by omega) (by omega)
 |clear qrX;go_wp2_with (first|(go_at_call 115;refine C1.o.mono ?_;rintro e w' ⟨rfl,rfl⟩)|(go_at_call 121;refine(CF.o _).mono ?_;rintro e w3 ⟨rfl,aS⟩;have bV:=ae aS;clear aS));exact qhq
 |clear qtx;have qty:=();exact qhs
 |clear qtz;exact qhs
 |go_wp2_with (go_at_call 115;refine C1.o.mono ?_;rintro e w' ⟨rfl,rfl⟩);exact qf2):G:=h
theorem qda(h:G:=by
 have jq:=fP;gi_wp2;have⟨W1,cC⟩:=az (((w.alloc (.cells #[.bool false,.string ⟨n.toArray⟩,.slice qa k0 qc] 43)).alloc (.cells #[.bool false,.string ⟨#[]⟩,.slice none 0 0] 43)).alloc (.cells #[.bool false,.string ⟨n.toArray⟩,.slice none 0 0] 43));have jN:=xK cC;have x1:=sy cC;have x2:=qw cC;have qtA:=();exact qaP):G:=h
theorem qbP(h:G:=by
 have f1:∀V,S V->V.cell? ⟨IW.heap.size,0,none⟩=some (.bool u.v)/\V.cell? ⟨IW.heap.size,1,none⟩=some (.string u.n)/\V.cell? ⟨IW.heap.size,2,none⟩=some (.slice u.a u.l u.c):=fun V h=>by rw[hS]at h;exact⟨aa h (ao xb 0),aa h (ao xb 1),aa h (ao xb 2)⟩
 first
 |clear qtB;have qtC:=();exact qaz
 |clear qtD;have xu:=g9.other (by omega) HXU.o;exact qhg
 |clear qtE;have qtF:=();exact qaz
 |have dW:S W2.drew:=by rw[hS];exact(ar _ _).drew
  have⟨c9,cQ,fk⟩:=cU hS ew g9;clear hS ew g9 xb;refine lM S 6 dW fun jO b_=>?_;have qtG:=();exact qht):G:=h
theorem qhu(h:G:=by
 have Mi:gW lB.heap.size pB ds3:=AZ.move (fun D hD hd=>(j4.block D (bQ hd)).trans hd);have Gk:=ae ((HV.o.2.2.1.next nX).next j4);have HSq:=ae rn;have HI:=uU (eR.later j4) Vb Vc CX xi Vd;have jk:=ae (an8 j4 U_ Mi bD Va Jn vC PI);have _o:=ae jm;have zK:=cH sH vh tC EZ;have AC:=ae hMr;have ot:=ae ((j4.block _ (by have:=(bQ kJ.o);omega)).trans ((bD.same _ (bQ kJ.o) FL.o.2).trans kJ.o));clear hs hf j4 JI U_ xX xY xi Va Jn vC PI WY oY Bp E0 sH MP hYM rn hMr Vb Vc Vd Mi eR bD Kg gH AZ vh tC jm CX EZ rO nX d0 d1 d2 d3 d4 d5 d6 d7 hu3 hu;exact qfl):G:=h
theorem qdb(h:G:=by
 have f1:∀V,S V->V.cell? ⟨wr.heap.size,0,none⟩=some (.bool u.v)/\V.cell? ⟨wr.heap.size,1,none⟩=some (.string u.n)/\V.cell? ⟨wr.heap.size,2,none⟩=some (.slice u.a u.l u.c):=fun V h=>by rw[hS]at h;exact⟨aa h (ao xb 0),aa h (ao xb 1),aa h (ao xb 2)⟩
 exact qaz):G:=h
theorem qbd(h:G:=by
 have HE:=ae (show R=true by rw[ht,iW (by rw[MX.o];exact aK _)];simp[cX]);have cR:=ae (jb.o.trans (dS.mono jb.o.size));exact qdc):G:=h
theorem qbc(h:G:=by
 rw[<-he]at ht;have qtH:=();exact qaK):G:=h
theorem qhv(h:G:=by
 have qtI:=();exact qaM):G:=h
theorem qbQ(h:G:=by
 have h1:aF a=aF (a.take (k+1))++aF (a.drop (k+1)):=by
  conv=>lhs;rw[<-List.take_append_drop (k+1) a]
  exact iS _ _
 first
 |clear up;have h2:=qG.o;rw[h1,jX]at h2;obtain⟨r,rfl⟩:=h2;exact⟨aF (a.drop (k+1))++r,by simp⟩
 |rw[h1,jX];exact⟨_,rfl⟩):G:=h
theorem qhw(h:G:=by
 refine kO ?_;go_wp2_with fail;go_meet
 first
 |clear qtJ;obtain⟨W8,kM,x8,k8,_⟩:=sT H7.o.1 (.bool qv) (.string ⟨n.toArray⟩) (.slice r1 m0 r2);rw[<-kM];refine⟨_,rfl,⟨qv,⟨n.toArray⟩,r1,m0,r2⟩,x8,H7.o.2.1,Below.kp1 H7.o.2.2.1 k8 H7.o.2.1,?_⟩;have e0:fZ ns qv n al 0=.mk qv n (d9 ns al):=by simp[fZ]
  rw[e0];exact aW.2 ⟨_,rfl,H7.o.2.2.2.move (fun b hb hlt=>⟨hb,k8.same b hlt hb.2⟩)⟩
 |obtain⟨W8,kM,x8,k8,_⟩:=tP H7.o.1 (.int .u8 qo) (.string ⟨n.toArray⟩) (.slice r1 k0 r2) (.slice none 0 0);rw[<-kM];exact⟨_,rfl,r1,r2,x8,H7.o.2.1,Below.kp1 H7.o.2.2.1 k8 H7.o.2.1,H7.o.2.2.2.move (fun b hb hlt=>⟨hb,k8.same b hlt hb.2⟩)⟩):G:=h
theorem qcL(h:G:=by
 have e9:=ae (bV.o.trans (x'.below.mono bV.o.size));cases e
 ·have HE:=ae (show R=false by rw[HT.o];simp);go_wp2;go_ret;exact⟨aJ HE.o.symm,cR.o.trans (e9.o.mono cR.o.size)⟩
 ·go_wp2;go_roundw
  case rel=>exact⟨k+1,by omega,by go_num,oh.o.trans (e9.o.mono oh.o.size),by rw[HT.o];simp⟩
  case measure=>simp[intOf];omega):G:=h
theorem qhx(h:G:=by
 simp only[am];refine di 1 52 (.slice ra k rc) rfl (fun V hX=>by have g0:=f0 V hX;go_simp) cK fun f_=>?_;simp only[am];refine bH 2 53 (.pointer (some ⟨kb,0,none⟩)) rfl f_ fun gX=>?_;simp only[am];refine di 3 54 (.agg #[.bool u.v,.string u.n,.slice u.a u.l u.c]) rfl (fun V hX=>by obtain⟨g0,g1,g2⟩:=f1 V hX;go_simp) gX fun iQ=>?_;simp only[am];refine bH 4 55 vL rfl iQ fun jM=>?_;simp only[am];refine cb 5 rfl fun K hK=>?_;have qtK:=();exact qhy):G:=h
theorem qhz(h:G:=by
 go_upto_region 1 with fail;rw[<-kf.o];go_cut [14]from 8 to 14 (fun s14 wx=>s14=.bool false/\Below W1.heap.size W1 wx)
 case first=>
  cases tv with
  |false=>
   go_wp2_with fail;go_meet;exact⟨rfl,ar _ _⟩
  |true=>
   have rd:eA n=false:=by simpa using Px
   rw[rd]at wO;go_wp2_with (go_at_call 119;refine wO.o.mono ?_;rintro e w3 ⟨rfl,aS⟩;have H3:=ae aS;clear aS);go_meet;exact⟨rfl,H3.o⟩
 case rest=>
 obtain⟨h14,bU⟩:=hcut;rw[h14];clear h14 Px;have⟨W2,bp⟩:=az wc;rw[<-bp]at bU⊢;clear bp wc;have x2:=bY bU H1.o.2.1;have c2:=ao x2 2;have H2:=aM bU (H1.o.1.tr bU);clear bU x2 e0 e1 e2;go_wp2_with fail;clear c2
 first
 |clear qtL;go_loopw [5,26] (fun r i wr=>∃j:Nat,j<=n1/\i=.int .i64 j/\r=.int .i64 ((fj k.ts (a.take j)+1:Nat):Int)/\Below W2.heap.size W2 wr) (fun _ i _=>n1-(intOf i).toNat)
  case atStart=>exact⟨0,bn _,rfl,by simp[fj],ar _ _⟩
  case round=>
   obtain⟨j,hj,rfl,rfl,aD⟩:=hrel
   by_cases hlt:j<n1
   ·have lU:=cG HN.o hlt;have qtM:=();exact qbR
   ·obtain rfl:n1=j:=by omega
    have cr:a.take n1=a:=by rw[HN.o];exact dA
    rw[cr];have HK:=ae (H2.o.2.tr aD);exact qhA
 |go_loopw [5,27] (fun r i wr=>∃j:Nat,j<=n1/\i=.int .i64 j/\fK W2.heap.size wr r (eH k.ts (a.take j))/\Below W2.heap.size W2 wr) (fun _ i _=>n1-(intOf i).toNat)
  case atStart=>exact⟨0,bn _,rfl,fK.nil _ _,ar _ _⟩
  case round=>
   obtain⟨j,hj,rfl,ea,aD⟩:=hrel
   by_cases hlt:j<n1
   ·have lU:=cG HN.o hlt;have qtN:=();exact qbR
   ·obtain rfl:n1=j:=by omega
    have cr:a.take n1=a:=by rw[HN.o];exact dA
    rw[cr]at ea;have HK:=aM (H2.o.2.tr aD) (ea.base H2.o.2.size);exact qhB):G:=h
theorem qhC(h:G:=by
 go_wp2_with (first|(go_at_call 84;refine vI.o.mono ?_;rintro e w3 ⟨rfl,wA,aS⟩;have H3:=aM wA aS;clear wA aS)|(go_at_call 75;refine(KS _ _).mono ?_;rintro e w4 ⟨rfl,rfl⟩)|(go_at_call 74;refine(Dy _ _ _ WM.o _ H3.o.1).mono ?_;rintro e w5 ⟨v5,rfl,QY,bE⟩;have H5:=aM QY bE;clear QY bE));go_ret;have aS:RowKit.Below W2.heap.size W2 w3:=by rw[HZ3.o,gh.o];exact H3.o.2
 have j4:=cQ.o.trans (aS.mono cQ.o.size);exact⟨⟨v5,rfl,ownsRow_base_a H5.o.1.1 j4.size,H5.o.1.2⟩,j4.trans (H5.o.2.mono j4.size)⟩):G:=h
theorem qaI(h:G:=by
 simp only[TQ.val,c_,Array.mk.injEq,cF,and_true,Value.bool.injEq,Value.string.injEq]at h1 h2;obtain⟨rfl,rfl,rfl⟩:=h1;obtain⟨rfl,rfl,rfl⟩:=h2
 first
 |clear qmh;have HV:=ae hv;simp only[Nat.zero_mul,Nat.add_zero,Nat.one_mul]at c0 c1 c2 kK lW lX;have hlt:([Tm.mk uv xn xa,Tm.mk vv yn ya]:List Tm).length=2:=rfl;rw[hlt];clear hv hu iA hf hfx hfy hl c2 lX hlt;have hb:xS [.mk uv xn xa,.mk vv yn ya]=(uv&&(fQ xn&&(vv&&dI yn))):=rfl;rw[hb];clear hb;cases uv
  ·go_enter func117,ntmps117;exact qat
  ·cases h1:fQ xn
   ·have C1:=ae (fun w=>h1▸jg xn w hx2);clear h1;exact qew
   ·have C1:=ae (fun w=>h1▸jg xn w hx2);clear h1;cases vv
    ·go_enter func117,ntmps117;go_wp2_with (go_at_call 152;refine(C1.o _).mono ?_;rintro e w' ⟨rfl,hb⟩;have g0:=aa hb kK;have HB:=ae hb;clear hb);go_ret;exact⟨rfl,HB.o⟩
    ·go_enter func117,ntmps117;go_wp2_with (first|(go_at_call 152;refine(C1.o _).mono ?_;rintro e w' ⟨rfl,hb⟩;have g0:=aa hb kK;have g1:=aa hb lW;have HB:=ae hb;clear hb)|(go_at_call 186;refine(m7 yn _ hy2).mono ?_;rintro e w3 ⟨rfl,aS⟩));go_ret;exact⟨rfl,HB.o.trans (aS.mono HB.o.size)⟩
 |clear qtO;obtain rfl:=gH.len;obtain rfl:=xG.len;have qtP:=();exact qde
 |clear qtQ;have⟨W,hW⟩:=az ((w.alloc (.cells #[.bool uv,.string ⟨xn.toArray⟩,.slice ua ul uc] 43)).alloc (.cells #[.bool vv,.string ⟨yn.toArray⟩,.slice va vl vc] 43));have hB:=mo hW;have C1:=ih ya ok ok' W ua ul uc va vl vc hf.args AW.args (gH.later hB) (xG.later hB);rw[hW]at hB C1;have hm:=PL uv vv xn yn xa ya;have⟨R,hR⟩:=az (yJ (.mk uv xn xa) (.mk vv yn ya));rw[<-hR]at hm⊢;have⟨c,hc⟩:=az (Lib.compareBytes xn yn);rw[<-hc]at hm;have⟨d,hd⟩:=az (Ha xa ya);simp only[Tm.a]at C1;rw[<-hd]at hm C1;have HS:Hd (∀W,Calls prog 272 #[.string ⟨xn.toArray⟩,.string ⟨yn.toArray⟩] W fun e w'=>e=.returned (.int .i64 c)/\w'=W):=ae (fun W=>by rw[hc];exact Tryz.strings_Compare _ _ W);have⟨HC,HB⟩:=bi C1 hB;clear hR hc hd C1 hB gH xG hW ih hf AW hq gY;unfold TQ.val;go_enter func226,ntmps226
  by_cases h0:c=0
  ·subst h0;cases uv<;>cases vv<;>simp at hm<;>subst hm<;>
   (go_wp2_with (first | (go_at_call 272;refine (HS.o _).mono ?_;rintro e w2 ⟨rfl,rfl⟩) | (go_at_call 273;refine HC.o.mono ?_;rintro e w3 ⟨rfl,aS⟩;have bV:=ae aS;clear aS))
    go_ret
    first|exact⟨rfl,HB.o⟩|exact⟨rfl,HB.o.trans (bV.o.mono (by simp;omega))⟩)
  ·have d1:(c==0)=false:=by simpa using h0
   have d2:(c !=0)=true:=by simpa using h0
   cases uv<;>cases vv<;>simp[h0]at hm<;>subst hm<;>
   (go_wp2_with (go_at_call 272;refine (HS.o _).mono ?_;rintro e w2 ⟨rfl,rfl⟩)
    go_ret;exact⟨rfl,HB.o⟩)
 |clear qtR;obtain rfl:=j7.len;obtain rfl:=I7.len;have⟨n1,eB⟩:=az a.length;have⟨n2,jY⟩:=az a'.length;have mn:=rO.name;have Ua:=dQ;unfold kI at Ua;simp only[ak,bM]at Ua;have KH:=ae Ua.1;have WR:=ae (ii.1 Ua.2);clear dQ Ua;have Rc:=rO.args.len;have XP:=(HG.o.2.1 _ him).args.len;rw[<-eB]at Rc;rw[<-jY]at XP;have⟨R,hR⟩:=az (dY (ps.reverse.map (·.1)) k.ts (.mk tv n a) (.mk uv n' a'));have tN:=hR;rw[dY]at tN;rw[<-hR];have⟨W3,ec⟩:=az (((W.alloc (.cells q.cells 89)).alloc (.cells #[.bool tv,.string ⟨n.toArray⟩,.slice ta n1 tc] 43)).alloc (.cells #[.bool uv,.string ⟨n'.toArray⟩,.slice ua n2 uc] 43));have aS:=xK ec;have sP:=Ki ec;have xp:=xM ec;have xt:=sy ec;have xu:=qw ec;have rQ:=eR.later aS;rw[<-eB]at sV j7;rw[<-jY]at huv I7;rw[<-eB,<-jY];have HR:=ae tN;have H3:=uU aS sP xp xt xu rQ;have HV:=cH (sV.later aS) (huv.later aS) (j7.later aS) (I7.later aS);have HF:=aM rO him;have HN:=aM eB jY;have HPs:=ae (hps.kp (Kp.below aS));have⟨gZ,Ci⟩:=bi ih ec;have HmT:=ae (show mT<W.heap.size from eR.ts.lt);have hnd:ap (.mk tv n a)=af a+1:=by unfold ap;omega
  have Ub:=aM tC hnd;obtain⟨e0,e1,e2,_⟩:=ir xt;obtain⟨f0,f1,f2,_⟩:=ir xu;obtain⟨P0,P1,P2,P3,P4,P5,P6,P7,P8⟩:=j6 xp;exact qai
 |clear qtS;have qtT:=();exact qbS
 |obtain rfl:=gH.len;obtain rfl:=xG.len;have qtU:=();exact qde):G:=h
theorem qhD(h:G:=by
 have CA:=yQ (gQ dM t f) im [] (.slice none 0 0) _ _ zf ⟨r0,r1,r2,r3,r4,r5,r6,r7⟩ ⟨p0,p1,p2,p3,p4,p5,p6,p7⟩ (by have:=(yO (x:=dM) Cq.o.1 pA.o.2.2.1).1;simp[fL];omega) (yO Cq.o.1 pA.o.2.2.1) hrv hiv (cw.nil zf);simp only[FQ.val,List.reverse_nil,<-PC.o]at CA;have Ji:=ae CA;have OC:=aM (Ox (H9.o.2.1.trans (Kp.below nZ.o.2.1)) JD (by have:=Bb.o.2.2.2.2;omega)) yV;clear za0 EN U2 hrv hiv zg yV CA YA JD uf;cases bb
 ·go_wp2_with (go_at_call 92;refine Ji.o.mono ?_;rintro e w12 ⟨rfl,sZ⟩;have SK:=ae sZ;clear sZ);go_ret;exact dq.bad Ux.o (by decide) (OC.o.1.trans (Kp.below SK.o))
 first
 |clear qtV
  ·go_wp2_with (go_at_call 92;refine Ji.o.mono ?_;rintro e w12 ⟨rfl,sZ⟩;have SK:=ae sZ;clear sZ);go_ret;exact dq.good nF (nT+1) Ux.o (OC.o.1.trans (Kp.below SK.o)) (by omega) (by omega) (OC.o.2.later SK.o)
 |·go_wp2_with (go_at_call 92;refine Ji.o.mono ?_;rintro e w12 ⟨rfl,sZ⟩;have SK:=ae sZ;clear sZ);go_ret;exact dq.good nF (nT) Ux.o (OC.o.1.trans (Kp.below SK.o)) (by omega) (by omega) (OC.o.2.later SK.o)):G:=h
theorem qhE(h:G:=by
 simp only[am];refine di 1 35 (.slice ra k rc) rfl (fun V hX=>by have g0:=f0 V hX;go_simp) cK fun f_=>?_;simp only[am];refine di 2 36 (.agg #[.bool u.v,.string u.n,.slice u.a u.l u.c]) rfl (fun V hX=>by obtain⟨g0,g1,g2⟩:=f1 V hX;go_simp) f_ fun gX=>?_;simp only[am];refine bH 3 37 (.func (.func g) #[] lb) rfl gX fun iQ=>?_;simp only[am];refine cb 4 rfl fun K hK=>?_;exact qhy):G:=h
theorem qbA(h:G:=by
 go_enter func95,ntmps95
 first
 |clear qpQ;go_wp2_with (first|(rw[<-Ci.o];go_at_call 119;refine wO.o.mono ?_;rintro e w4 ⟨rfl,aY⟩;have p0:=aa aY P0;have p1:=aa aY P1;have p2:=aa aY P2;have p3:=aa aY P3;have p4:=aa aY P4;have p5:=aa aY P5;have p6:=aa aY P6;have p7:=aa aY P7;have p8:=aa aY P8;have q1:=aa aY e1;have q0:=aa aY e0;have H4:=ae aY;clear aY)|(go_at_call 163;refine(XX.o w4 H4.o).mono ?_;rintro e w3 ⟨rfl,dh⟩;have H5:=ae (H4.o.tr dh);have t0:=aa (H4.o.tr dh) e0;have u0:=aa (H4.o.tr dh) f0;have t1:=aa (H4.o.tr dh) e1;have u1:=aa (H4.o.tr dh) f1;have t2:=aa (H4.o.tr dh) e2;have u2:=aa (H4.o.tr dh) f2;clear dh))
  first
  |clear qtW;clear p0 p1 p2 p3 p4 p5 p6 p7 p8 q0 q1;have qtX:=();exact qa0
  |clear qtY;go_ret;exact⟨Kp.below (H3.o.1.tr H5.o),false,rfl,(fun _=>rfl),(fun ts hts=>by rw[HE.o]at hts;cases hts)⟩
  |go_loopw [87] (fun i wr=>∃(j Gc:Nat)(kj:List (aj×Tm)),j<=n1/\i=.int .i64 j/\Kp (fun b=>b=mT) W3 wr/\Gc<=nT+af (a.take j)/\ly (fun b=>¬M b) PF PT wr kb mF mT nF Gc ⟨k.fs,kj⟩/\R=cY (ps.reverse.map (·.1)) kj (a.drop j) (a'.drop j)) (fun i _=>n1-(intOf i).toNat)
   case atStart=>exact⟨0,nT,k.ts,bn _,rfl,Kp.below H5.o,by omega,H3.o.2.2.2.2.2.later H5.o,by simpa using HE.o⟩
   case round=>
    exact qfU
 |clear qtZ;go_wp2_with (first|(rw[<-Ci.o];go_at_call 119;refine wO.o.mono ?_;rintro e w4 ⟨rfl,aY⟩;have H4:=ae aY;clear aY));have nL:=H3.o.2.2.2.2.2.later H4.o;have g0:w4.cell? ⟨kb,1,none⟩=some (.map (some mT)):=ao nL.box 1;have g1:w4.drew.cell? ⟨kb,1,none⟩=some (.map (some mT)):=ao nL.box 1;have g2:=aa H4.o e1;have g3:=aa H4.o.drew e1;have HK4:=ae nL;have dh:Below w4.heap.size w4 (w4.alloc (.cells #[.bool false,.string ⟨#[]⟩,.slice none 0 0] 43)):=dp;have up:=();exact qhF
 |clear qt1;go_wp2;rw[<-Ci.o];go_ret;exact⟨Kp.below (H3.o.1.tr (ar _ _)),false,rfl,(fun _=>rfl),(fun ts hts=>by rw[HE.o]at hts;cases hts)⟩
 |go_wp2;rw[<-Ci.o];go_loopw [87] (fun i wr=>∃(j Gc:Nat)(kj:List (aj×Tm)),j<=n1/\i=.int .i64 j/\Kp (fun b=>b=mT) W3 wr/\Gc<=nT+af (a.take j)/\ly (fun b=>¬M b) PF PT wr kb mF mT nF Gc ⟨k.fs,kj⟩/\R=cY (ps.reverse.map (·.1)) kj (a.drop j) (a'.drop j)) (fun i _=>n1-(intOf i).toNat)
  case atStart=>exact⟨0,nT,k.ts,bn _,rfl,Kp.below (ar _ _),by omega,H3.o.2.2.2.2.2.later (ar _ _),by simpa using HE.o⟩
  case round=>
   exact qfU):G:=h
theorem qe0(h:G:=by
 obtain⟨vo,yn,ya,ys⟩:=u;obtain⟨s1,s2,h1,gH,DI⟩:=aX.1 hq;obtain⟨s3,s4,h2,xG,X6⟩:=aX.1 gY;exact qft):G:=h
theorem qgh(h:G:=by
 have qt2:=();exact qhG):G:=h
theorem qcd(h:G:=by
 go_wp2_with (first|(go_at_call 187;refine(we _ _ _).mono ?_;rintro e w' ⟨rfl,rfl⟩)|(go_at_call 239;refine HC.o.mono ?_;rintro e w' ⟨rfl,hw⟩));go_ret;exact⟨rfl,(dp.alloc (by simp) _).trans ((i_ hw).mono (by simp;omega))⟩):G:=h
theorem qcQ(h:G:=by
 go_wp2_with (go_at_call 93;refine(Lr.o _).mono ?_;rintro e X4 ⟨rfl,aY⟩;have ot:=ae (bY aY yS.o);have pP:=ae (bY aY X7.o);have rf:=ae (X8.o.later aY);have jb:=ae (yR.o.trans (aY.mono yR.o.size));have z3:X4.cell? ⟨w.heap.size,3,none⟩=some (.slice ub k1 ue):=ao ot.o 3;clear aY)
 first
 |clear qqx;exact qgg
 |clear qqz;exact qhG
 |have qt3:=();exact qgh):G:=h
theorem qbT(h:G:=by
 intro g cap X5 aE au;have vM:Below X4.heap.size X4 X5:=⟨au.os.trans lJ.os,au.tape.trans lJ.tape,au.output.trans lJ.output,aR lJ.size au.size,fun b hb=>(au.block b (bP hb lJ.size) (by simp)).trans (lJ.block b hb)⟩
 first
 |clear qt4;exact qfm
 |clear qt5;have Uj:=bY vM ot.o;have qt6:=();exact qdf
 |clear qt7;have Uj:=bY vM ot.o;have qt8:=();exact qdf
 |have Uj:=bY vM ot.o;exact qdf):G:=h
theorem qhH(h:G:=by
 obtain⟨e0,e1,e2,e3,_,_,_,_⟩:=dw H2.o.2.1;have k0:W2.cell? ⟨kb,0,none⟩=some (.map (some mF)):=ao H2.o.2.2.box 0;have g1:W2.drew.cell? ⟨kb,0,none⟩=some (.map (some mF)):=k0;have g3:W2.drew.cell? ⟨w.heap.size+1,1,none⟩=some (.string ⟨n.toArray⟩):=e1;have qt9:=();exact qhI):G:=h
theorem qgY(h:G:=by
 have eN:=aI.args.len;have gZ:=ae (fun t ht=>ih t ht (aI.args.mem ht));have⟨m0,eh⟩:=az a.length;rw[<-eh]at eN bN;unfold TQ.val;simp only;rw[<-eh];have gT:=ae eh;have⟨W1,cC⟩:=az (W.alloc (.cells #[.bool qv,.string ⟨n.toArray⟩,.slice qa m0 qc] 43));have jN:=dj cC;have J':J pre W1:=hJ pre _ _ (Nw.below jN) hj;have HX:Hd (W1.heap[W.heap.size]?=some (.cells #[.bool qv,.string ⟨n.toArray⟩,.slice qa m0 qc] 43 (0,0))):=ae (by rw[cC];exact aq rfl);have⟨gD,FD,kf⟩:=cU bN hM cC;have HL:Hd (W.heap.size<W1.heap.size):=ae (by rw[cC];simp)
 first
 |clear qrZ;refine oM func214 ?_;simp only[ntmps214,Nat.reduceAdd,Nat.reduceSub,ng];have jq:=fP;cases qv
  ·have oA:aL (.mk false n a)=[]++aF a:=by unfold aL;rfl
   rw[oA]at dU⊢;have qua:=();exact qhJ
  ·have oA:aL (.mk true n a)=[n]++aF a:=by unfold aL;rfl
   rw[oA]at dU⊢;have uX:=hY pre #[.string ⟨n.toArray⟩] n _ J' (Kp.below jN) rfl (lv dU);have⟨qG,HJ,HY,eQ⟩:=f8 dU hJ hY jN;obtain⟨fn,tmps,assign,body,hy,KG⟩:=lu 2 uX;rw[cC]at hy KG;clear hq bN aI ih eh hj jN J' uX hJ hM hY dU oA cC;gi_wp2;refine KG.mono ?_;rintro e W2 ⟨rfl,zG,ke⟩;rw[<-kf.o]at ke;have hWl:¬M W.heap.size:=fun h=>by have:=FD.o _ h;omega
   have hx2:=(ke.same W.heap.size HL.o hWl).trans HX.o;have p2:W2.cell? ⟨W.heap.size,2,none⟩=some (.slice qa m0 qc):=ao hx2 2;have Cv:=aM zG ((Kp.below eQ.o).trans ke);clear zG ke hx2 KG hy;gi_wp2;clear p2;gi_loopw [19] (fun i wr=>∃k:Nat,k<=m0/\i=.int .i64 k/\J (pre++([n]++aF (a.take k))) wr/\Kp M W wr) (fun i _=>m0-(intOf i).toNat)
   case atStart=>exact⟨0,bn _,rfl,by simpa[aF]using Cv.o.1,Cv.o.2⟩
   case round=>
    have qub:=();exact qau
 |have⟨HG,HJ⟩:=bi hY hJ;obtain⟨p0,mx⟩:∃p0:List aj,p0=(if qv then[n]else[]):=⟨_,rfl⟩;have oA:aL (.mk qv n a)=p0++aF a:=by unfold aL;rw[mx];cases qv<;>rfl
  rw[oA]at dU⊢;have qG:=ae dU;go_enter func214,ntmps214;cases qv
  ·simp only[bR,if_false]at mx;subst mx;exact qhJ
  ·simp only[if_true]at mx;subst mx;have C1:=hY pre n _ J' (lv dU);have⟨uW,eQ⟩:=bi C1 jN;clear hq bN aI ih eh hj jN J' hJ hM hY dU oA cC C1;go_wp2_with (rw[<-kf.o];go_at_call 213;refine uW.o.mono ?_;rintro e W2 ⟨rfl,zG,ke⟩;have hWl:¬M W.heap.size:=(fun h=>absurd (FD.o _ h) (Nat.lt_irrefl _));have hx2:=(ke.same W.heap.size HL.o hWl).trans HX.o;have p2:W2.cell? ⟨W.heap.size,2,none⟩=some (.slice qa m0 qc):=ao hx2 2;have Cv:=aM zG ((Kp.below eQ.o).trans ke);clear zG ke hx2 hWl);clear p2;go_loopw [19] (fun i wr=>∃k:Nat,k<=m0/\i=.int .i64 k/\J (pre++([n]++aF (a.take k))) wr/\Kp M W wr) (fun i _=>m0-(intOf i).toNat)
   case atStart=>exact⟨0,bn _,rfl,by simpa[aF]using Cv.o.1,Cv.o.2⟩
   case round=>
    have quc:=();exact qau):G:=h
theorem qhK(h:G:=by
 simp only[FQ.val,TQ.val]at NT;have c9:=ae hS;clear hS;refine lM S 9 dW fun jO b_=>?_;refine di 0 107 (.agg #[.int .u8 q.o,.string q.n,.slice q.a q.l q.c,.slice q.b q.m q.e]) rfl (fun V hX=>by obtain⟨g0,g1,g2,g3⟩:=f0 V hX;go_simp) b_ fun Vq=>?_;simp only[am];refine bH 1 108 (.pointer (some ⟨w.heap.size,1,none⟩)) rfl Vq fun Vr=>?_;simp only[am];refine di 2 109 (.string ⟨n.toArray⟩) rfl (fun V hX=>by obtain⟨g0,g1⟩:=f1 V hX;go_simp) Vr fun OD=>?_;simp only[am];refine bH 4 111 (.pointer (some ⟨w.heap.size+1+1,1,none⟩)) rfl OD fun Vs=>?_;simp only[am]
 first
 |clear qud;refine di 5 112 (.string ⟨n.toArray⟩) rfl (fun V hX=>by obtain⟨g0,g1⟩:=f1 V hX;go_simp) Vs fun hT4=>?_
  have que:=();exact qhL
 |refine di 5 112 (.string ⟨m.toArray⟩) rfl (fun V hX=>by obtain⟨g0,g1⟩:=f1 V hX;go_simp) Vs fun hT4=>?_
  exact qhL):G:=h
theorem qhM(h:G:=by
 have uk:=dj uf;have YA:=cA uf;have U7:=bY uk Kg;have U8:=bY uk gH;have Mh:gW lB.heap.size zf ds:=AZ.move (fun D hD hd=>(uk.block D (bQ hd)).trans hd);have yV:Kp M lB zf:=bD.trans (Kp.below uk);have BH:=eR.later uk;have U9:=Kh uf;have hMl:∀b,M b->b<lB.heap.size:=fun b hb=>by rw[HM.o]at hb;have:=nZ.o.1;have:=nZ.o.2.1;omega
 have xJ:=uU YA yV (hbr.tr uk) U9 hMl bD.size;have JH:=cH U7 U8 Mh BH;have U':=bS CX vh tC;have qZ:=bS sB hi1 zH;have za6:=ae uf;have x1w:=bY uk x1r;have kJ:=ae x1w;clear Kg gH AZ bD eR CX vh tC sB hi1 zH uf uk YA U7 U8 Mh yV BH U9 hMl hbr x1r x1w
 first
 |clear quf;have hix:(Instr.index 83 (.agg #[(.func (.func 47) #[.pointer (some ⟨K0+1+1+1,0,none⟩)] #[]),(.func (.func 48) #[.pointer (some ⟨K0+1+1+1,0,none⟩)] #[])]) (.int .i64 0)).run prog wr=.ok (.func (.func 47) #[.pointer (some ⟨K0+1+1+1,0,none⟩)] #[]) wr:=by kernel_rfl
  gi_wp2_with fail;clear e0 hix;rw[<-za6.o];refine nO [53,54,55,56,57,14,15,58,59,60,61,62,70] 53 (fun us ds wq=>∃j:Nat,j<=n2/\us 53=.int .i64 j/\gW lB.heap.size wq ds/\Kp M zf wq/\wq.heap[aB+1]?=some (.cells #[.int .i64 0] 30 (0,0))/\wq.heap[aB]?=some (.cells #[.int .i64 0] 3 (0,0)) ∧
   ∃(kj:Bd)(RP RQ:Nat),ly (fun b=>¬M b) dx dV wq (K0+1+1+1) (K0+1) (K0+1+1) RP RQ kj/\RP<=nF+j*400/\RQ<=nT+j*160000/\bF kj=true/\dt bc 0 k l=dt bc j kj (l.drop j)) (fun v=>n2-(intOf v).toNat) (by simp) (by decide) ?start3 ?round3
  case start3=>exact⟨0,bn _,rfl,JH.o.2.2.1,Kp.refl _,JH.o.1,JH.o.2.1,k,nF,nT,JH.o.2.2.2,by omega,by omega,U'.o.1,by simp⟩
  case round3=>
   have qug:=();exact qhN
 |have hix:(Instr.index 83 (.agg #[(.func (.func 47) #[.pointer (some ⟨K0+1+1+1,0,none⟩)] #[]),(.func (.func 48) #[.pointer (some ⟨K0+1+1+1,0,none⟩)] #[])]) (.int .i64 1)).run prog wr=.ok (.func (.func 48) #[.pointer (some ⟨K0+1+1+1,0,none⟩)] #[]) wr:=by kernel_rfl
  gi_wp2_with fail;clear e0 hix;rw[<-za6.o];refine nO [53,54,55,56,57,14,15,58,59,60,61,62,70] 53 (fun us ds wq=>∃j:Nat,j<=n2/\us 53=.int .i64 j/\gW lB.heap.size wq ds/\Kp M zf wq/\wq.heap[aB+1]?=some (.cells #[.int .i64 0] 30 (0,0))/\wq.heap[aB]?=some (.cells #[.int .i64 0] 3 (0,0)) ∧
   ∃(kj:Bd)(RP RQ:Nat),ly (fun b=>¬M b) dx dV wq (K0+1+1+1) (K0+1) (K0+1+1) RP RQ kj/\RP<=nF+j*400/\RQ<=nT+j*160000/\bF kj=true/\dt dE 0 k l=dt dE j kj (l.drop j)) (fun v=>n2-(intOf v).toNat) (by simp) (by decide) ?start3 ?round3
  case start3=>exact⟨0,bn _,rfl,JH.o.2.2.1,Kp.refl _,JH.o.1,JH.o.2.1,k,nF,nT,JH.o.2.2.2,by omega,by omega,U'.o.1,by simp⟩
  case round3=>
   exact qhN):G:=h
theorem qhO(h:G:=by
 go_wp2_with (go_at_call 146;refine(Lr.o _).mono ?_;rintro e X0 ⟨rfl,nX⟩;have o7:Below W2.heap.size W2 X0:=(by rw[gh.o];exact nX);have ot:=ae (bY o7 HX.o);have pP:=ae (bY o7 HY.o);have rf:=ae ((HP.o.later cQ.o).later o7);have jb:=ae (cQ.o.trans (o7.mono cQ.o.size));have z1:X0.cell? ⟨w.heap.size,1,none⟩=some (.string ⟨xn.toArray⟩):=ao ot.o 1;have z3:X0.cell? ⟨w.heap.size+1,1,none⟩=some (.string ⟨yn.toArray⟩):=ao pP.o 1;have z2:X0.cell? ⟨w.heap.size,2,none⟩=some (.slice ua k0 uc):=ao ot.o 2;clear nX o7)
 first
 |clear up;clear z1 z2 z3;have qui:=();exact qhP
 |go_ret;exact⟨aJ HE.o.symm,jb.o⟩):G:=h
theorem qai(h:G:=by
 obtain⟨⟨so,sn,sa,sl,sc,sb,sm,se⟩,⟨fo,fn,fa,fl,fc,fb,fm,fe⟩,ca,cl,cc⟩:=q
 first
 |clear quj;simp only[gd.cells,gd.val,FQ.val]at NG Ci⊢;have t0:W3.cell? ⟨w.heap.size+1,0,none⟩=some (.int .u8 qo):=ao xt 0;have quk:=();exact qhQ
 |clear qm8;simp only[gd.val,gd.cells]at gh HC⊢;go_enter func163,ntmps163;go_wp2_with (rw[<-gh.o];go_at_call 227;refine HC.o.mono ?_;rintro e w4 ⟨rfl,aY⟩;have H4:=ae aY;clear aY);go_ret;exact⟨rfl,HB.o.tr H4.o⟩
 |clear qne;have qul:=();exact qhR
 |clear qno;simp only at hq;obtain⟨v1,v2,h1,j7,oY⟩:=aX.1 hq;have qsl:=();exact qal
 |clear qnp;simp only at hq;obtain⟨v1,v2,h1,j7,oY⟩:=aX.1 hq;have qsn:=();exact qal
 |clear qnu;simp only at hq;obtain⟨v1,v2,h1,j7,oY⟩:=aX.1 hq;have qsp:=();exact qal
 |clear qnv;simp only[gd.val,gd.cells]at HC hB;have hs:=jf (63::r);have ZU:=();exact qbe
 |clear qnx;simp only[gd.val,gd.cells]at uW HX kf⊢;have c0:W1.cell? ⟨w.heap.size,0,none⟩=some (.int .u8 so):=ao HX.o.2 0;have c1:W1.cell? ⟨w.heap.size,1,none⟩=some (.string sn):=ao HX.o.2 1;have c2:W1.cell? ⟨w.heap.size,2,none⟩=some (.slice sa sl sc):=ao HX.o.2 2;have c3:W1.cell? ⟨w.heap.size,3,none⟩=some (.slice sb sm se):=ao HX.o.2 3;have c4:W1.cell? ⟨w.heap.size,4,none⟩=some (.int .u8 fo):=ao HX.o.2 4;have c5:W1.cell? ⟨w.heap.size,5,none⟩=some (.string fn):=ao HX.o.2 5;have c6:W1.cell? ⟨w.heap.size,6,none⟩=some (.slice fa fl fc):=ao HX.o.2 6;have c7:W1.cell? ⟨w.heap.size,7,none⟩=some (.slice fb fm fe):=ao HX.o.2 7;have c8:W1.cell? ⟨w.heap.size,8,none⟩=some (.slice ca cl cc):=ao HX.o.2 8;clear hv hq eR hop tN hE hR hl Bw hbd hb1 x1 cC hs uM _u;go_enter func125,ntmps125;go_upto_region 1 with fail;rw[<-kf.o];go_wp2_with (first|(go_at_call 195;refine uW.o.mono ?_;rintro e w4 ⟨⟨v4,rfl,hv4⟩,aY⟩;have H4:=aM aY hv4;clear aY hv4)|(go_at_call 194;refine(oQ.o w4 v4 H4.o.1 H4.o.2).mono ?_;rintro e w5 ⟨rfl,bE⟩;have H5:=ae bE;clear bE));go_ret;exact⟨rfl,(HX.o.1.tr H4.o.1).tr H5.o⟩
 |clear qnM;exact qhR
 |clear qun;simp only[gd.cells,gd.val,TQ.val]at NG Ci p0⊢;have t0:W3.cell? ⟨w.heap.size+1,0,none⟩=some (.bool qv):=ao xt 0;exact qhQ
 |simp only[gd.val,gd.cells,TQ.val]at Ci HPs P0 P1 P2 P3 P4 P5 P6 P7 P8⊢;clear eR tC hps sV huv j7 I7 hR tN aS sP xp xt xu rQ eB jY rO him ih ec;have CM:=lS n W3 (by omega);have wO:=ae CM;clear CM
  cases tv with
  |true=>
   cases rd:eA n with
   |true=>
    rw[rd]at wO;have qtZ:=();exact qbA
   |false=>
    rw[rd]at wO;have NY:(ps.map (·.1)).contains n=(ps.reverse.map (·.1)).contains n:=by rw[iM,List.contains_iff_mem,List.contains_iff_mem];simp
    have XX:=ae (fun(w:World)(hb:Below W3.heap.size W3 w)=>G_ ⟨⟨so,sn,sa,sl,sc,sb,sm,se⟩,⟨fo,fn,fa,fl,fc,fb,fm,fe⟩,ca,cl,cc⟩ ps HG.o.1 n w (HPs.o.1.later hb));simp only[gd.val,gd.cells]at XX;rw[NY]at XX;clear NY
    cases N5:(ps.reverse.map (·.1)).contains n with
    |true=>
     rw[N5]at XX;have HE:=ae (show R=if zS (.mk uv n' a') (bj (cg n))then some k.ts else none by rw[HR.o,aw (by simp[rd]),aG (by rw[N5];rfl)]);have⟨bb,dz⟩:=az (zS (.mk uv n' a') (bj (cg n)));rw[<-dz]at HE;have PC:=ae dz;clear N5 dz rd;have qtW:=();exact qcK
    |false=>
     rw[N5]at XX;have FG:=N5
     cases uv with
     |false=>
      have HE:=ae (show R=none by rw[HR.o,aw (by simp[rd]),aw (by rw[FG];simp),aG (by simp)]);exact qdg
     |true=>
      by_cases nH:n=n'
      ·subst nH
       by_cases qq:n1=n2
       ·skip;subst qq;have Ae:(n==n)=true:=by simp
        have HE:=ae (show R=cY (ps.reverse.map (·.1)) k.ts a a' by rw[HR.o,aw (by simp[rd]),aw (by rw[FG];simp),aw (by rw[<-HN.o.1,<-HN.o.2];simp)]);clear rd N5 FG;exact qcK
       ·have HE:=ae (show R=none by rw[HR.o,aw (by simp[rd]),aw (by rw[FG];simp),aG (by rw[<-HN.o.1,<-HN.o.2];simp[qq])]);have quo:=();exact qhS
      ·have Ae:(n==n')=false:=by simp[nH]
       have HE:=ae (show R=none by rw[HR.o,aw (by simp[rd]),aw (by rw[FG];simp),aG (by simp[nH])]);exact qdg
  |false=>
   cases uv with
   |true=>
    have HE:=ae (show R=none by rw[HR.o,aw (by simp),aw (by simp),aG (by simp)]);exact qdh
   |false=>
    by_cases nH:n=n'
    ·subst nH
     by_cases qq:n1=n2
     ·skip;subst qq;have Ae:(n==n)=true:=by simp
      have HE:=ae (show R=cY (ps.reverse.map (·.1)) k.ts a a' by rw[HR.o,aw (by simp),aw (by simp),aw (by rw[<-HN.o.1,<-HN.o.2];simp)]);rw[Ci.o]at e0 e1 e2 f0 f1 f2;exact qbA
     ·have HE:=ae (show R=none by rw[HR.o,aw (by simp),aw (by simp),aG (by rw[<-HN.o.1,<-HN.o.2];simp[qq])]);exact qhS
    ·have Ae:(n==n')=false:=by simp[nH]
     have HE:=ae (show R=none by rw[HR.o,aw (by simp),aw (by simp),aG (by simp[nH])]);exact qdh):G:=h
theorem qhT(h:G:=by
 have f0:=fun z:aA wr=>z.get (aa aD HE.o.2.1);have f1:=fun z:aA wr=>z.get (aa aD HE.o.2.2.2.1);have f2:=fun z:aA wr=>z.get (aa aD c0);have f3:=fun z:aA wr=>z.get (aa aD c1);have f4:=fun z:aA wr=>z.get (aa aD c2);have f5:=fun z:aA wr=>z.get (aa aD c3);have f6:=fun z:aA wr=>z.get (aa aD c4);have g2:=fun z:aA wr=>z.get (aa aD kK);have g3:=fun z:aA wr=>z.get (aa aD lW);have g4:=fun z:aA wr=>z.get (aa aD lX);have g5:=fun z:aA wr=>z.get (aa aD Bu);have g6:=fun z:aA wr=>z.get (aa aD c4');have d0:=aa aD HE.o.2.1;have Cu:(k:Int)<(n1:Int):=by omega
 first
 |clear an;have CC:=fun(z:aA wr)=>Mn fx fy ok ok' z.w u u' mR ((hu.later aD).later z.below) ((iA.later aD).later z.below);have⟨V,hV⟩:=az (zT fx fy);rw[<-hV]at CC;have⟨HC,HV,HB,HT⟩:=f8 CC hV aD cr;have HX:=aM uF Xe;clear hu iA hV aD cr mR CC c0 c1 c2 c3 c4 kK lW lX Bu c4' uF Xe
  by_cases nH:nx=ny
  case neg=>
   have quq:=();exact qhU
  subst nH;go_wp2;have qtj:=();exact qac
 |have CC:=fun(z:aA wr)=>Si W0 fx fy mR.1 pM.1 (by have:=mR.2;have:=pM.2;omega) ok ok' z.w ((Gk.o.next aD).next z.below) u u' ((hu.later aD).later z.below) ((iA.later aD).later z.below);rw[PU]at CC;have⟨HC,HB⟩:=bi CC aD;clear hu iA aD mR pM CC c0 c1 c2 c3 c4 kK lW lX Bu c4' uF Xe PU;go_wp2;have qtk:=();exact qac):G:=h
theorem qhV(h:G:=by
 have uN:=ae hE;exact qan):G:=h
theorem qge(h:G:=by
 simp only[ak]at E0;have sH:ag s<=400:=by have:=E0.1;unfold eS at this;simp only[ak,bM]at this;exact this.2.1
 have MP:¬M (wq.heap.size+1+1):=fun h=>by have:=YF _ h;omega
 have hYM:¬M (wq.heap.size+1+1+1):=fun h=>by have:=YF _ h;omega
 have rn:=o9 s f rO.2 (by omega) M pB.heap.size (wq.heap.size+1+1) (wq.heap.size+1+1+1) pB ⟨a0,a1,a2,a3,a4,a5,a6,a7⟩ ⟨b0,b1,b2,b3,b4,b5,b6,b7⟩ xX MP xY hYM oY Bp;have hMr:M (K0+1)/\M (K0+1+1)/\M aB/\M (aB+1)/\¬M (K0+1+1+1):=by rw[HM.o];have:=nZ.o.2.1;omega
 have Vb:=bY j4 Kg;have Vc:=bY j4 gH
 first
 |clear qqv;have Vd:pB.heap[wr.heap.size]?=some (.cells #[(.func (.func 47) #[.pointer (some ⟨K0+1+1+1,0,none⟩)] #[])] 82 (0,0)):=(j4.block _ (by omega)).trans ((bD.same _ (by omega) (fun h=>by have:=YF _ h;omega)).trans xJ.o.1);have qur:=();exact qhu
 |have Vd:pB.heap[wr.heap.size]?=some (.cells #[(.func (.func 48) #[.pointer (some ⟨K0+1+1+1,0,none⟩)] #[])] 82 (0,0)):=(j4.block _ (by omega)).trans ((bD.same _ (by omega) (fun h=>by have:=YF _ h;omega)).trans xJ.o.1);exact qhu):G:=h
theorem qhW(h:G:=by
 have qus:=();exact qhX):G:=h
theorem qg5(h:G:=by
 have U2:=(JD.same _ (by have:=(bQ H9.o.2.2.2);have:=nZ.o.2.1.size;omega) (by have:=HT7.o;omega)).trans (bY nZ.o.2.1 H9.o.2.2.2);obtain⟨j0,j1,j2,j3,_,_,_,_⟩:=dw U2;have hrv:aC (fun b=>W9.heap.size<=b) zf (FQ.val ⟨r0,r1,r2,r3,r4,r5,r6,r7⟩) (gQ dM t f):=nZ.o.1.move (fun b hb hlt=>⟨hb,JD.same b hlt (by omega)⟩);have hiv:aC (fun b=>¬M b/\b≠W1.heap.size) zf (FQ.val ⟨p0,p1,p2,p3,p4,p5,p6,p7⟩) im:=(pA.o.2.2.2.2.2.1.later EN).move (fun b hb hlt=>⟨hb,JD.same b hlt hb.2⟩);have zg:=pA.o.2.2.2.1.later EN
 first
 |clear qsb;have yV:ly (fun b=>¬M b) dx dV zf kb mF mT nF (nT+1) (⟨k.fs,iB y t k.ts⟩):=zg.move (fun b hb hlt=>⟨hb.1,JD.same b hlt hb.2⟩) (JD.same _ zg.ltb (by have:=Bb.o.1;omega)) (JD.same _ zg.fs.lt (by have:=Bb.o.2.1;omega)) (JD.same _ zg.ts.lt (by have:=Bb.o.2.2.1;omega))
  have qtV:=();exact qhD
 |have yV:ly (fun b=>¬M b) dx dV zf kb mF mT nF (nT) ({k with ts:=k.ts }):=zg.move (fun b hb hlt=>⟨hb.1,JD.same b hlt hb.2⟩) (JD.same _ zg.ltb (by have:=Bb.o.1;omega)) (JD.same _ zg.fs.lt (by have:=Bb.o.2.1;omega)) (JD.same _ zg.ts.lt (by have:=Bb.o.2.2.1;omega))
  exact qhD):G:=h
theorem qdi(h:G:=by
 have eN:=aI.subs.len;have mn:=aI.name;have⟨el,gD,xZ,sC,gZ⟩:=sL bN em aI.args aI.subs ih;have qut:=();exact qaQ):G:=h
theorem qaz(h:G:=by
 have quu:=();exact qaD):G:=h
theorem qdj(h:G:=by
 obtain⟨s1,h1,j7⟩:=aW.1 hq;obtain⟨tv,tn,ta,tl,tc⟩:=q;have quv:=();exact qdk):G:=h
theorem qhY(h:G:=by
 have hx9:(w8.alloc (.cells #[.int .u8 po,.string pn,.slice pa pl pc,.slice pb pm pe] 36)).heap[w8.heap.size]?=some (.cells #[.int .u8 po,.string pn,.slice pa pl pc,.slice pb pm pe] 36 (0,0)):=aq rfl;have⟨W9,vd⟩:=az ((w8.alloc (.cells #[.int .u8 po,.string pn,.slice pa pl pc,.slice pb pm pe] 36)).setCell ⟨w.heap.size+1+1+1,3,none⟩ (.slice (some ⟨w8.heap.size,0,none⟩) 1 1));have pF:=yE.setR 3 (.slice (some ⟨w8.heap.size,0,none⟩) 1 1);rw[<-vd]at pF
 first
 |clear ZU;have Z':W9.heap[w8.heap.size]?=some (.cells #[.int .u8 po,.string pn,.slice pa pl pc,.slice pb pm pe] 36 (0,0)):=by rw[vd];exact(e_ _ _ _ _ (by have:=(I0.o.later jc).lt;simp <;>omega)).trans hx9
  have Z6:aC (w7.heap.size<=·) W9 (FQ.val ⟨po,pn,pa,pl,pc,pb,pm,pe⟩) (h_ kk nx z g):=by
   rw[vd];exact TW.move (fun b hok hlt=>⟨hok,(e_ _ _ _ _ (by have:=I0.o.lt;simp <;>omega)).trans (oq.block b hlt)⟩)
  have DX:aC (w7.heap.size<=·) W9 (FQ.val ⟨qo,⟨n.toArray⟩,fN,0,fO,some ⟨w8.heap.size,0,none⟩,1,1⟩) (.mk qo n [] [h_ kk nx z g]):=aX.2 ⟨_,_,rfl,cE,uL Z6 (by omega) Z'⟩;have qux:=();exact qhZ
 |have Z':W9.heap[w8.heap.size]?=some (.cells #[.int .u8 po,.string pn,.slice pa pl pc,.slice pb pm pe] 36 (0,0)):=by rw[vd];exact(e_ _ _ _ _ (by have:=(yF.o.later jc).lt;simp <;>omega)).trans hx9
  have Z6:aC (pB.heap.size<=·) W9 (FQ.val ⟨po,pn,pa,pl,pc,pb,pm,pe⟩) (h_ kk nx z G2):=by
   rw[vd];exact TW.move (fun b hok hlt=>⟨hok,(e_ _ _ _ _ (by have:=yF.o.lt;simp <;>omega)).trans (oq.block b hlt)⟩)
  have DX:aC (pB.heap.size<=·) W9 (FQ.val ⟨qo,⟨m.toArray⟩,fN,0,fO,some ⟨w8.heap.size,0,none⟩,1,1⟩) (.mk qo m [] [h_ kk nx z G2]):=aX.2 ⟨_,_,rfl,cE,uL Z6 (by omega) Z'⟩;exact qhZ):G:=h
theorem qaA(h:G:=by
 obtain⟨k,hk,rfl,dS,ht⟩:=hrel
 by_cases hlt:k<k0
 first
 |clear qh0
  ·have bA:=cG dN.o hlt;have lj:=cG gT.o hlt;have aD:=cQ.o.trans (dS.mono (by omega));have qrM:=();exact qa8
  ·obtain rfl:k=k0:=by omega
   exact qh1
 |clear quy
  ·have bA:=cG dN.o hlt;have lj:=cG gT.o hlt;have aD:=cQ.o.trans (dS.mono (by omega));exact qa8
  ·obtain rfl:k=k0:=by omega
   exact qh1
 |clear quz
  ·have bA:=cG dN.o hlt;exact qdl
  ·obtain rfl:k0=k:=by omega
   have quA:=();exact qh2
 |clear quB
  ·have bA:=cG dN.o hlt;exact qdl
  ·obtain rfl:k0=k:=by omega
   have Uh:=ae (show R=cX (ps++[(xn,xn)]).reverse xs ys by rw[ht,iW (by rw[dN.o];exact aK _)];simp[ct]);have qqy:=();exact qa4
 |clear quC
  ·have bA:=cG dN.o hlt;exact qdl
  ·obtain rfl:k0=k:=by omega
   have quD:=();exact qh3
 |clear quE
  ·have bA:=cG dN.o hlt;have lj:=cG gT.o hlt;have aD:=jb.o.trans (dS.mono jb.o.size);have qgP:=();exact qa8
  ·obtain rfl:k0=k:=by omega
   exact qh2
 |·have bA:=cG dN.o hlt;have lj:=cG gT.o hlt;have aD:=jb.o.trans (dS.mono jb.o.size);have qgP:=();exact qa8
  ·obtain rfl:k0=k:=by omega
   exact qh3):G:=h
theorem qbU(h:G:=by
 have CI:=ae (fun w3 (h3:Kp (fun c=>c=J) w w3)=>bq▸(dN.o▸oc a Ug.o ok qa _ qc w3 (el.o.move (fun b hb hlt=>⟨hb,h3.same b hlt (s_.o b hb)⟩))))
 first
 |clear qh4;have HE:Hd (BX=false):=ae (hM.trans (by simp[bq]));clear hM wk sM FK;have qpf:=();exact qaj
 |clear quF;rw[bq]at hM;simp only[Bool.or_true,dL]at hM;exact qh5
 |rw[bq]at hM;simp only[Bool.or_true,dL]at hM;exact qh6):G:=h
theorem qh7(h:G:=by
 have⟨HR,HC,mJ⟩:=cU hrel ij bD;clear hrel ij dz ry II KE jX qY ha hb hc hj bD hu iA c0 c1 c2 c3;go_wp2_with (go_at_call 64;refine HC.o.mono ?_;rintro e w6 ⟨rfl,ET,l6,BK,JE,sg,mi⟩;have uh:=bS ET BK (mi rfl);clear ET BK JE sg mi);exact qh8):G:=h
theorem qhl(h:G:=by
 clear hp dh bE y7 xR xT xR2 kR PH;refine cb 9 rfl fun K hK=>?_;go_simp;refine eX hK ?_;clear hK K;refine cb 10 rfl fun K hK=>?_;go_simp;refine eX hK ?_;clear hK K r3 rz;refine kO ?_;have⟨W9,vd⟩:=az (W7.setCell ⟨w.heap.size+1+1,3,none⟩ (.slice (some ⟨w6.heap.size,0,none⟩) 1 1));have xR9:=yH.o.1;have RX:=yH.o.2.1;rw[<-vd]at xR9 RX⊢;have zfU:=Vt.o.1.size;have xT9:=(RX.same _ (bQ yH.o.2.2) (by omega)).trans yH.o.2.2;have y9:=(RX.same _ (bQ Vt.o.2.1) (by omega)).trans Vt.o.2.1
 first
 |clear qsW;have hF9:aC (W1.heap.size<=·) W9 (FQ.val ⟨p0,p1,p2,p3,p4,p5,p6,p7⟩) (gQ (cg n) (bj n) G):=(HPp.o.later Vt.o.2.2).move (fun b hb hlt=>⟨by have h:w5.heap.size<=b:=hb;omega,RX.same b hlt (by have h:w5.heap.size<=b:=hb;omega)⟩);have DX:aC (W1.heap.size<=·) W9 (FQ.val ⟨so,⟨n.toArray⟩,fN,0,fO,some ⟨w6.heap.size,0,none⟩,1,1⟩) (.mk so n [] [gQ (cg n) (bj n) G]):=aX.2 ⟨_,_,rfl,cE,uL hF9 (by omega) y9⟩;have quG:=();exact qh9
 |have hF9:aC (W1.heap.size<=·) W9 (FQ.val ⟨p0,p1,p2,p3,p4,p5,p6,p7⟩) (gQ (cg n) (bj m) G):=(HPp.o.later Vt.o.2.2).move (fun b hb hlt=>⟨by have h:w5.heap.size<=b:=hb;omega,RX.same b hlt (by have h:w5.heap.size<=b:=hb;omega)⟩);have DX:aC (W1.heap.size<=·) W9 (FQ.val ⟨so,⟨m.toArray⟩,fN,0,fO,some ⟨w6.heap.size,0,none⟩,1,1⟩) (.mk so m [] [gQ (cg n) (bj m) G]):=aX.2 ⟨_,_,rfl,cE,uL hF9 (by omega) y9⟩;exact qh9):G:=h
theorem qia(h:G:=by
 have quH:=();exact qa5):G:=h
theorem qib(h:G:=by
 have cd:Below wr.heap.size wr A:=((ar wr.heap.size wr).drew).trans hA;have quI:=();exact qao):G:=h
theorem qfO(h:G:=by
 obtain⟨uv,un,ua,ul,uc⟩:=u;have⟨W2,bp⟩:=az (wr.alloc (.cells #[.bool uv,.string un,.slice ua ul uc] 43));have bU:=dj bp;have Ck:=cA bp;have u0:W2.cell? ⟨wr.heap.size,0,none⟩=some (.bool uv):=ao Ck 0;have up:=();exact qic):G:=h
theorem qid(h:G:=by
 go_roundw
 case rel=>
  obtain⟨aV,au,hg,_⟩:=HG.o;have cV:=fk.o.stepF (F:=3) (t:=u') (p:=⟨po,pn,pa,pl,pc,pb,pm,pe⟩) (g:=g) (cap:=eP) (by rw[yw.o.2];exact DQ.o.2.1) (by rw[yw.o.2];exact DQ.o.1) DQ.o.2.2 NH.o.2 NH.o.1 (by rw[yw.o.2];exact aV) au (by rcases hg with h|h;exact .inl h;exact .inr (by simp;omega)) rfl;rw[yw.o.2]at cV;exact qie
 case measure=>simp[intOf];omega):G:=h
theorem qcA(h:G:=by
 have c0:W.cell? ⟨X,0,none⟩=some (.int .u8 q.o):=ao Cc 0;have Ss:=();exact qif):G:=h
theorem qan(h:G:=by
 obtain⟨S,hS⟩:∃S:World->Prop,S=fun V=>Below W2.heap.size W2 V:=⟨_,rfl⟩
 first
 |clear qnl;have pp:∀V,S V->V.cell? ⟨w.heap.size,2,none⟩=some (.slice (some ⟨b1,o1,none⟩) ql qc)/\V.cell? ⟨b1,o1+0*3+1,none⟩=some (.string ⟨x.toArray⟩)/\V.cell? ⟨b1,o1+1*3+1,none⟩=some (.string ⟨y.toArray⟩):=fun V h=>by rw[hS]at h;exact⟨aa h (ao x2 2),aa h (aa bU c1),aa h (aa bU d1)⟩
  have quL:=();exact qaD
 |clear quM;have quN:=();exact qaD
 |clear quO;have f0:∀V,S V->V.cell? ⟨w.heap.size,0,none⟩=some (.int .u8 qo)/\V.cell? ⟨w.heap.size,1,none⟩=some (.string ⟨n.toArray⟩)/\V.cell? ⟨w.heap.size,2,none⟩=some (.slice qa k0 qc)/\V.cell? ⟨w.heap.size,3,none⟩=some (.slice qb m0 qe):=fun V h=>by rw[hS]at h;exact⟨aa h (ao x0 0),aa h (ao x0 1),aa h (ao x0 2),aa h (ao x0 3)⟩
  have quP:=();exact qaD
 |clear quQ;have ft:∀V,S V->V.cell? ⟨w4.heap.size,0,none⟩=some (.int .u8 go)/\V.cell? ⟨w4.heap.size,1,none⟩=some (.string gn)/\V.cell? ⟨w4.heap.size,2,none⟩=some (.slice ga gl gc)/\V.cell? ⟨w4.heap.size,3,none⟩=some (.slice gb gm ge):=fun V h=>by rw[hS]at h;exact⟨aa h (ao HTA.o 0),aa h (ao HTA.o 1),aa h (ao HTA.o 2),aa h (ao HTA.o 3)⟩
  have fn0:∀V,S V->V.cell? ⟨w.heap.size,1,none⟩=some (.string ⟨n.toArray⟩):=fun V h=>by rw[hS]at h;exact aa h (ao Ra.o.b0 1)
  have fm:∀V,S V->V.cell? ⟨w.heap.size+1+1+1,1,none⟩=some (.string ⟨m.toArray⟩):=fun V h=>by rw[hS]at h;exact aa h (ao Ra.o.b2 1)
  have quR:=();exact qaD
 |clear quS
  first
  |clear quT;have quU:=();exact qig
  |clear quV;have f0:∀V,S V->V.cell? ⟨w.heap.size+1+1+1,3,none⟩=some (.slice ra k rc):=fun V h=>by rw[hS]at h;exact aa h (g9.cell 3)
   have qsE:=();exact qbL
  |clear quW;exact qig
  |have f0:∀V,S V->V.cell? ⟨w.heap.size+1+1+1,3,none⟩=some (.slice ra k rc):=fun V h=>by rw[hS]at h;exact aa h (g9.cell 3)
   exact qbL
 |clear quX
  first
  |clear qoA;have f0:∀V,S V->V.cell? ⟨w.heap.size+1+1,2,none⟩=some (.slice fN k1 fO):=fun V h=>by rw[hS]at h;exact aa h (g9.cell 2)
   have qtB:=();exact qbP
  |clear quY;have f0:∀V,S V->V.cell? ⟨w.heap.size+1+1+1,2,none⟩=some (.slice fN k1 fO):=fun V h=>by rw[hS]at h;exact aa h (g9.cell 2)
   have qtD:=();exact qbP
  |clear quZ;have f0:∀V,S V->V.cell? ⟨w.heap.size+1+1,2,none⟩=some (.slice ra k1 rc):=fun V h=>by rw[hS]at h;exact aa h (g9.cell 2)
   have qtE:=();exact qbP
  |have f0:∀V,S V->V.cell? ⟨w.heap.size+1+1+1,2,none⟩=some (.slice fN k1 fO):=fun V h=>by rw[hS]at h;exact aa h (g9.cell 2)
   exact qbP
 |clear qr5;have f0:∀V,S V->V.cell? ⟨w.heap.size,0,none⟩=some (.bool qv)/\V.cell? ⟨w.heap.size,1,none⟩=some (.string ⟨n.toArray⟩)/\V.cell? ⟨w.heap.size,2,none⟩=some (.slice qa k0 qc):=fun V h=>by rw[hS]at h;exact⟨aa h (ao x0 0),aa h (ao x0 1),aa h (ao x0 2)⟩
  have qu0:=();exact qaD
 |clear qu1;have ff:∀V,S V->V.cell? ⟨kb,0,none⟩=some (.map (some mF))/\V.cell? ⟨w.heap.size,1,none⟩=some (.string ⟨n.toArray⟩)/\(Instr.lookup 145 (.map (some mF)) (.string ⟨n.toArray⟩) false).run prog V=.ok (.agg #[.int .u8 g0,.string g1,.slice g2 g3 g4,.slice g5 g6 g7]) V:=fun V h=>by
   rw[hS]at h;exact⟨aa h (ao ia.box 0),aa h (ao x1 1),zJ V (h.block _ ia.fs.lt)⟩
  exact qaD
 |clear qu2
  first
  |clear qu3;have f0:∀V,S V->V.cell? ⟨w3.heap.size+1,2,none⟩=some (.slice ra k rc):=fun V h=>by rw[hS]at h;exact aa h (g9.cell 2)
   have qu4:=();exact qdb
  |clear qu5;have f0:∀V,S V->V.cell? ⟨w3.heap.size,2,none⟩=some (.slice ra k rc):=fun V h=>by rw[hS]at h;exact aa h (g9.cell 2)
   have qu6:=();exact qdb
  |have f0:∀V,S V->V.cell? ⟨w.heap.size+1+1,2,none⟩=some (.slice ra k rc):=fun V h=>by rw[hS]at h;exact aa h (g9.cell 2)
   exact qdb
 |have ff:∀V,S V->V.cell? ⟨kb,0,none⟩=some (.map (some mF))/\V.cell? ⟨w.heap.size+1,1,none⟩=some (.string ⟨n.toArray⟩)/\(Instr.lookup 145 (.map (some mF)) (.string ⟨n.toArray⟩) false).run prog V=.ok (.agg #[.int .u8 g0,.string g1,.slice g2 g3 g4,.slice g5 g6 g7]) V:=fun V h=>by
   rw[hS]at h;exact⟨aa h (ao H2.o.2.2.box 0),aa h e1,zJ V (h.block _ te)⟩
  have dW:S W2.drew:=by rw[hS];exact(ar _ _).drew
  first
  |clear qu7;have HC:=ae (fun(V:World)(h:Below W2.heap.size W2 V)=>mV f yU.o.2.1 _ V ⟨g0,g1,g2,g3,g4,g5,g6,g7⟩ (yU.o.1.later h));have qu8:=();exact qih
  |have HC:=ae (fun(V:World)(h:Below W2.heap.size W2 V)=>tR f yU.o.2.1 (by have:=yU.o.2.2;omega) _ V ⟨g0,g1,g2,g3,g4,g5,g6,g7⟩ (yU.o.1.later h));exact qih):G:=h
theorem qg2(h:G:=by
 simp only[am];refine bH 14 57 (.func (.yield l) #[] #[]) rfl T8 fun zaA=>?_;simp only[am];refine cb 15 rfl fun K hK=>?_;go_simp;refine aO.2 (HC.o.mono ?_);rintro e w3 (⟨rfl,tb,mq⟩|⟨rfl,T9⟩)
 ·refine eX hK ?_;clear hK K;have HH:=aM tb mq;clear tb mq;refine cb 16 rfl fun K hK=>?_;have qrw:=();exact qaa
 ·refine eX hK ?_;clear hK K;have HH:=ae T9;clear T9;refine cb 16 rfl fun K hK=>?_;have qrx:=();exact qaa):G:=h
theorem qaO(h:G:=by
 simp only[am];refine cb 7 rfl fun K hK=>?_;have qu9:=();exact qdm):G:=h
theorem qdn(h:G:=by
 have sS:=cw.own aE;have z5:X5.cell? ⟨w.heap.size,3,none⟩=some (.slice ub k1 ue):=ao Uj 3;clear ot pP jb rf z3;have⟨ot,pP,jb,rf⟩:=f8 Uj _l NS sS;clear Uj _l NS sS aE au lJ vM hold;refine eX hK ?_;clear hK K;refine cb 13 rfl fun K hK=>?_
 first
 |clear qva;have qry:=();exact qaa
 |clear qvb;have qrA:=();exact qaa
 |exact qaa):G:=h
theorem qbV(h:G:=by
 rw[<-hU]at CC hts iX;have oQ:=ae CC;have yw:=aM hts F5;have Bl:=ae iX;obtain⟨qs,eJ,aE,gM⟩:=g9.row;rw[F5]at eJ aE;have DQ:=bS eJ aE gM;have fk:=ae g9;have cR:=aM aD bU
 first
 |clear ZU;have qvd:=();exact qii
 |clear qve;exact qii
 |clear qvf;rw[bp]at oQ u0 u1 u2 P0 P1 P2 P3 P4 P5 P6 P7 P8;have qvg:=();exact qij
 |rw[bp]at oQ u0 u1 u2 P0 P1 P2 P3 P4 P5 P6 P7 P8;exact qij):G:=h
theorem qhs(h:G:=by
 go_wp2_with (first|(go_at_call 115;refine C1.o.mono ?_;rintro e w' ⟨rfl,pD⟩;obtain rfl:=pD.symm)|(go_at_call 121;refine(CF.o _).mono ?_;rintro e w3 ⟨rfl,aS⟩;have j2:=aa aS g2;have bV:=ae aS;clear aS)|(go_at_call 118;refine(CJ.o _ bV.o).mono ?_;rintro e w4 ⟨rfl,nV,l4,hj4,Ku,S',KF⟩;have HH:=gN nV hj4 Ku S' KF;clear nV hj4 Ku S' KF));go_ret
 first
 |clear qty;have h7:=HH.o.2.2.2.2 trivial;have tC:(af a:Int)<=left-1:=by have:=HH.o.2.2.1;have h8:=HE.o;rw[ak,ak,bM]at h8;have:ap (.mk false n a)=af a+1:=rfl;omega
  refine eF.yes HE.o ((rA.o.1.trans (Kp.below bV.o)).trans HH.o.1) ?_ (by show((af a+1:Nat):Int)<=left;omega);have h9:=HH.o.2.1;have:l4=left-(ap (.mk false n a):Nat):=by show l4=left-((af a+1:Nat):Int);omega
  rw[<-this];exact h9
 |exact eF.no HE.o ((rA.o.1.trans (Kp.below bV.o)).trans HH.o.1) HH.o.2.1 HH.o.2.2.1 (by have:=HH.o.2.2.2.1;omega)):G:=h
theorem qdo(h:G:=by
 refine d_ rfl rfl jq rfl (fun a γ wz bq=>⟨rfl,.slice la l0 lc,γ,wz,?_,Gr.refl,fun _ _ h=>h,?_⟩)
 ·have e2:a.tmps.getD 2 undef=.slice la l0 lc:=bL ((bq.ou 2 rfl).trans rfl);go_simp
 ·rw[ky];exact rfl):G:=h
theorem qgR(h:G:=by
 go_loopw [79] (fun i wr=>∃k:Nat,k<=m0/\i=.int .i64 k/\Kp (fun c=>c=J) w wr/\tu J sc (left-1-af a-ah (s.take k)) bT wr/\dJ sc (s.take k)=true/\(ah (s.take k):Int)<=left-1-af a/\bB+1+bl (s.take k)<=bT+1) (fun i _=>m0-(intOf i).toNat)
 case atStart=>exact⟨0,bn _,rfl,HA.o.1,by simpa[ah]using HA.o.2,by simp[dJ],by simp[ah];omega,by simp[bl];omega⟩
 case round=>
  have qrH:=();exact qcX):G:=h
theorem qeK(h:G:=by
 rcases h1 with⟨rfl,h0⟩|⟨g,cap,cur,rfl,hlo,hb,hc,_,_,ht⟩
 ·obtain rfl:l=[]:=ku h0;exact⟨none,0,rfl,aK _,.inl rfl⟩
 ·refine⟨_,cap,rfl,hc,.inr ⟨g,0,rfl,hlo,fun j hj=>?_⟩⟩;rw[Nat.zero_add,aT hb];have h2:(cur.toList.take (l.length*1))[j]?=(l.map encStr)[j]?:=by rw[ht]
  rw[List.getElem?_take_of_lt (by omega),List.getElem?_map,jn hj]at h2;rw[<-Array.getElem?_toList,h2];rfl):G:=h
theorem qcB(h:G:=by
 refine fE (B:=w.heap.size) (gW.nil _ _) (fun w' hn=>?_);have h0:=hn.cell g0;have h1:=hn.cell g1
 first
 |clear it;refine⟨.tuple #[.agg #[.slice none 0 0,.slice none 0 0],.int .i64 0,.int .i64 2],by simp[results,results15,go_sem,h0,h1],⟨⟨⟨none,0,0,none,0,0⟩,by(rw[HE.o];try rfl),by rw[HE.o];exact qW⟩,kU xh hn⟩⟩
 |refine⟨.tuple #[.agg #[.slice none 0 0,.slice none 0 0],.int .i64 (j:Int),.int .i64 2],by simp[results,results15,go_sem,h0,h1],⟨⟨⟨none,0,0,none,0,0⟩,by(rw[HE.o];try rfl),by rw[HE.o];exact qW⟩,kU xh hn⟩⟩):G:=h
theorem qik(h:G:=by
 have HF:=ae (HE.o.trans lV);have⟨HC,mJ⟩:=bi ij bD;clear lV ij dz II KE jX qY ha hb hc hj bD hu iA c0 c1 c2 c3;go_wp2_with (go_at_call 64;refine HC.o.mono ?_;rintro e w6 ⟨rfl,ET,l6,BK,JE,sg,mi⟩;have uh:=cH ET BK JE sg;clear ET BK JE sg mi);go_ret;exact eF.no HF.o (mJ.o.trans ((Kp.below dp).trans uh.o.1)) uh.o.2.1 uh.o.2.2.1 (by have:=uh.o.2.2.2;omega)):G:=h
theorem qbm(h:G:=by
 have hs:=hA.size;have zF:=au.size;simp only[World.size_alloc]at zF;have hx:=(h.at4 (kk:=F) aE hA au).1;refine⟨by rw[bJ hx,AZ],?_,h.kp5 aE hA au,h.lt,h.base⟩
 first
 |clear an;have h4:dH lo (.slice (some ⟨g,0,none⟩) (ts.length+1) cap) (ts++[t]) w4:=dH.step eJ hA h.size gM (fun b hb=>(aE.lt b hb).2) hp aV
   (fun c _ hc hn=>(au.block c (by simp;omega) (fun e=>hn e.symm)).trans (bZ _ _ _ (by omega))) (by rcases hg with h|h;exact .inl h;exact .inr (by omega))
  exact qbW
 |clear it;have h4:eO lo (.slice (some ⟨g,0,none⟩) (ts.length+1) cap) (ts++[t]) w4:=eO.step eJ hA h.size gM (fun b hb=>(aE.lt b hb).2) hp aV
   (fun c _ hc hn=>(au.block c (by simp;omega) (fun e=>hn e.symm)).trans (bZ _ _ _ (by omega))) (by rcases hg with h|h;exact .inl h;exact .inr (by omega))
  exact qbW
 |clear up;have h4:mz lo (.slice (some ⟨g,0,none⟩) (ts.length+1) cap) (ts++[(x,t)]) w4:=mz.step eJ hA h.size gM (fun b hb=>(aE.lt b hb).2) hp aV
   (fun c _ hc hn=>(au.block c (by simp;omega) (fun e=>hn e.symm)).trans (bZ _ _ _ (by omega))) (by rcases hg with h|h;exact .inl h;exact .inr (by omega))
  exact qbW
 |have h4:mC lo (.slice (some ⟨g,0,none⟩) (ts.length+1) cap) (ts++[(x,t)]) w4:=mC.step eJ hA h.size gM (fun b hb=>(aE.lt b hb).2) hp aV
   (fun c _ hc hn=>(au.block c (by simp;omega) (fun e=>hn e.symm)).trans (bZ _ _ _ (by omega))) (by rcases hg with h|h;exact .inl h;exact .inr (by omega))
  exact qbW):G:=h
theorem qil(h:G:=by
 exact qa0):G:=h
theorem qaL(h:G:=by
 have⟨W5,hZ⟩:=az (wr.alloc (.cells #[.bool xv,.string xn,.slice xa xl xc] 43));have bE:=dj hZ
 first
 |clear qoX;have CC:=Jj W2 _ kb mF mT nF nT k H2.o.2.2 a[j] (HQ.o.2.2.2.1.mem (aH lU)) _ W5 ⟨xv,xn,xa,xl,xc⟩ (aD.tr bE) ((hx.later aD).later bE);simp only[TQ.val]at CC;have⟨m0,eh⟩:=az (fj k.ts (a.take j)+1);have⟨m2,sK⟩:=az (th k.ts a[j]);have cV:=tW (k:=k.ts) lU;have F3:=uO (fun x hx=>mW H2.o.2.2 (x:=x) hx) (a.take (j+1)) (uP HQ.o.2.2.2.1.2 _);have Cl:=ma (a:=a) (j:=j+1);have Oa:=Ub.o;rw[<-sK]at CC;have up:=();exact qim
 |clear qvi;have x6:=cA hZ;have zM:=bY bE WS;have xu6:=bY bE xuw;have qvj:=();exact qaZ
 |clear qvk;have CC:=Gh W2 _ kb mF mT nF nT k H2.o.2.2 a[j] (HQ.o.2.2.2.1.mem (aH lU)) (by have:=Ef (aH lU);have:=Ub.o;omega) _ W5 ⟨xv,xn,xa,xl,xc⟩ (aD.tr bE) ((hx.later Am).later bE);simp only[TQ.val]at CC;have pQ:=rV (k:=k.ts) lU;have F3:=rW (fun x hx=>mW H2.o.2.2 (x:=x) hx) (a.take (j+1)) (uP HQ.o.2.2.2.1.2 _);have Cl:=ma (a:=a) (j:=j+1);have Oa:=Ub.o;have up:=();exact qin
 |clear qvm;have CC:=gZ.o a[j] (aH lU) (_q.o.mem (aH lU)) _ W5 ⟨xv,xn,xa,xl,xc⟩ (((H1.o.2.2.tr Am)).tr bE) ((hx.later Am).later bE);simp only[TQ.val]at CC;have⟨m0,eh⟩:=az (fj k.ts (a.take j)+1);have⟨m2,jQ⟩:=az (th k.ts a[j]);have cV:=tW (k:=k.ts) lU;have F3:=uO WM.o (a.take (j+1)) (uP _q.o.2 _);have Cl:=ma (a:=a) (j:=j+1);have Oa:=_q.o.1;rw[<-jQ]at CC;exact qim
 |clear qvn;have CC:=gZ.o a[j] (aH lU) (_q.o.mem (aH lU)) (by have:=Ef (aH lU);have:=HSm.o;omega) _ W5 ⟨xv,xn,xa,xl,xc⟩ (((H1.o.2.2.tr Am)).tr bE) ((hx.later Am).later bE);simp only[TQ.val]at CC;have pQ:=rV (k:=k.ts) lU;have F3:=rW WM.o (a.take (j+1)) (uP _q.o.2 _);have Cl:=ma (a:=a) (j:=j+1);have Oa:=HSm.o;exact qin
 |have x5:=cA hZ;have Uk:=bY bE WS;have x65:=bY bE x6w;have qvo:=();exact qaZ):G:=h
theorem qc2(h:G:=by
 obtain rfl:=oY.len;have nM:=EJ (jC _ hs);have qvp:=();exact qio):G:=h
theorem qdp(h:G:=by
 refine bX (v:=FQ.val ⟨p0,p1,p2,p3,p4,p5,p6,p7⟩) (by simp[FQ.val,results,results72,go_sem,g0,g1,g2,g3]) rfl ⟨⟨⟨p0,p1,p2,p3,p4,p5,p6,p7⟩,rfl,?_⟩,zj.2⟩
 first
 |clear qvq;rw[HB.o.2.2.2.2];exact zj.1
 |rw[HR5.o];exact zj.1):G:=h
theorem qhr(h:G:=by
 go_wp2_with (first|(go_at_call 115;refine C1.o.mono ?_;rintro e w' ⟨rfl,rfl⟩)|(go_at_call 152;refine(CV.o _).mono ?_;rintro e w3 ⟨rfl,aS⟩;have j0:=(rA.o.2.1.later aS).c0;have j1:=aa aS g1;have bV:=ae aS;clear aS)|(go_at_call 186;refine(CT.o _).mono ?_;rintro e w4 ⟨rfl,aY⟩;have e9:=ae aY;clear aY));go_ret
 first
 |clear qtv;exact eF.yes HE.o ((rA.o.1.trans (Kp.below bV.o)).trans (Kp.below e9.o)) ((rA.o.2.1.later bV.o).later e9.o) (by show((1:Nat):Int)<=left;omega)
 |exact eF.no HE.o ((rA.o.1.trans (Kp.below bV.o)).trans (Kp.below e9.o)) ((rA.o.2.1.later bV.o).later e9.o) (by omega) (by omega)):G:=h
theorem qay(h:G:=by
 have g1:W6.cell? ⟨w.heap.size+1,1,none⟩=some (.string ⟨n.toArray⟩):=ao x6 1
 first
 |clear qvr;have qvs:=();exact qbX
 |clear qvt;have qvu:=();exact qip
 |clear qvv;exact qip
 |clear Ss;have qvw:=();exact qbX
 |clear qvx;have qvy:=();exact qbX
 |clear qvz;have qvA:=();exact qiq
 |clear qvB;have g2:W6.cell? ⟨w.heap.size+1,2,none⟩=some (.slice fN k1 fO):=ao x6 2;have qvC:=();exact qir
 |have g2:W6.cell? ⟨w.heap.size+1,2,none⟩=some (.slice fN k1 fO):=ao x6 2;exact qir):G:=h
theorem qis(h:G:=by
 by_cases hv:uv=vv
 ·subst hv;have lj:¬k0=m0:=fun h=>FY ⟨rfl,h⟩;have e1:((k0:Int)==(m0:Int))=false:=by simp;omega
  have e2:((k0:Int)!=(m0:Int))=true:=by simp;omega
  cases uv<;>(go_wp2;rw[<-gh.o];go_ret;exact⟨aJ HE.o.symm,cQ.o⟩)
 ·cases uv<;>cases vv<;>first|exact absurd rfl hv|(go_wp2;rw[<-gh.o];go_ret;exact⟨aJ HE.o.symm,cQ.o⟩)):G:=h
theorem qit(h:G:=by
 have⟨HC,Zj⟩:=bi CC aD;have HS:=aM vw Od;clear hu hcut CC δ vw hM aD c0 c1 c2 c3;go_wp2_with (go_at_call 23;refine HC.o.mono ?_;rintro e w4 ⟨rfl,aY⟩;have e9:=ae aY;clear aY);go_roundw
 case rel=>exact⟨k+1,m+M,by omega,by go_num,by go_num,Zj.o.trans (e9.o.mono Zj.o.size),HS.o.1,HS.o.2⟩
 case measure=>simp[intOf];omega):G:=h
theorem qh6(h:G:=by
 have CT:=ae (fun w3 (h3:Kp (fun c=>c=J) w w3) (j3:tu J true (left-1) bT w3)=>dN.o▸yb a WW.o ok J true (left-1) bT (bB+1) w3 qa _ qc (el.o.move (fun b hb hlt=>⟨hb,h3.same b hlt (s_.o b hb)⟩)) s_.o j3 (by omega) (by omega) hde (by omega) (by omega) (by omega));have⟨bb,dz⟩:=az (eD true a&&(decide ((af a:Int)<=left-1)&&decide (bB+1+bO a<=bT+1)));rw[<-dz]at CT hM
 first
 |clear qvD
  cases bb with
  |false=>
   have qiu:=();exact qaE
  |true=>
   have qvE:=();exact qbY
 |cases bb with
  |false=>
   exact qaE
  |true=>
   have qvF:=();exact qbY):G:=h
theorem qiv(h:G:=by
 simp only[gd.val,gd.cells]at XX;have⟨HC,HSu⟩:=bi XX jX;have mJ:=aM bD Aj;clear hu hv uY XX jX hj bD Aj Bo kH hS c0 c1 c2 c3 e0 e1 e2 e3 d0 d1 d2 d3 g0 g1 g2 g3;gi_wp2;refine lM S 15 dW fun jO b_=>?_;refine bH 0 43 (.pointer (some ⟨W.heap.size,0,none⟩)) rfl b_ fun cK=>?_;simp only[am];refine bH 1 44 (.pointer (some ⟨W.heap.size,3,none⟩)) rfl cK fun f_=>?_;simp only[am]
 first
 |clear qvG;have qr7:=();exact qg1
 |exact qg1):G:=h
theorem qh5(h:G:=by
 have CT:=ae (fun w3 (h3:Kp (fun c=>c=J) w w3) (j3:tu J sc (left-1) bT w3)=>dN.o▸yb a WW.o ok J sc (left-1) bT (bB+1) w3 qa _ qc (el.o.move (fun b hb hlt=>⟨hb,h3.same b hlt (s_.o b hb)⟩)) s_.o j3 (by omega) (by omega) hde (by omega) (by omega) (by omega));exact qgW):G:=h
theorem qiw(h:G:=by
 have eN:=Ka.len;have yA:=hp.cap;have hm:=Hk ps.reverse uo vo xn yn xa ya xs ys;have⟨R,hR⟩:=az (cI ps.reverse (.mk uo xn xa xs) (.mk vo yn ya ys));rw[<-hR]at hm⊢;have Lq:=yP uo xn xa xs;have⟨D,hD⟩:=az (fL (.mk uo xn xa xs));rw[<-hD]at Lq hps;have⟨k0,cD⟩:=az xa.length;have⟨m0,eh⟩:=az ya.length;have⟨k1,le⟩:=az xs.length;have⟨m1,jQ⟩:=az ys.length
 first
 |clear qvH;have qr8:=();exact qg3
 |exact qg3):G:=h
theorem qe1(h:G:=by
 refine⟨fun h0=>(by rw[hr]at h0;cases h0),fun k hk=>?_⟩;rw[hr]at hk;simp only[dc,List.not_mem_nil,or_false]at hk;rcases hk with rfl|rfl
 ·refine wpOpIn_step hi (fun K' Iy=>?_);rw[aG hwi];exact h1 K' (fun a w hS hW=>Iy a w ⟨hS,hW hS⟩)
 ·refine wpOpIn_step hj (fun K' Iy=>?_);rw[aG X9];exact h2 K' (fun a w hS hW=>Iy a w ⟨hS,hW hS⟩)):G:=h
theorem qfP(h:G:=by
 have CC:=ae (HCp.o l[k] (aH dG) _ _ u HU.o);go_wp2_with fail;refine CC.o.mono ?_;rintro _ A ⟨p,rfl,hp,hA⟩;obtain⟨qs,eJ,aE,gM⟩:=HR.o;rw[dR.o]at eJ aE;have cd:Below wr.heap.size wr A:=dp.trans (hA.mono (by simp));have n_:=cd.size;have Lg:=cR.o.size;have HO:=ae (bh aE (fun b _ hlt=>cd.block b hlt));have HH:=bS eJ aE gM;have PD:=aM hp cd;clear eJ aE gM hp hA cd
 first
 |clear up;have p_:(A.alloc (.cells #[.int .u8 p.o,.string p.n,.slice p.a p.l p.c,.slice p.b p.m p.e] 36)).heap.size=A.heap.size+1:=by simp
  unfold FQ.val;go_wp2_with (at_builtin;refine wpList_append_lies _ rfl _ _ 34 rfl w.heap.size 36 i0 (.agg #[.int .u8 0,.string ByteArray.empty,.slice none 0 0,.slice none 0 0]) 4 72 underlying34 hi oO jv iG rfl (by decide) _ _ _ rfl (HO.o.alloc _) ⟨A.heap.size,0,none⟩ 1 1 p.cells rfl rfl (da (cs:=#[.int .u8 p.o,.string p.n,.slice p.a p.l p.c,.slice p.b p.m p.e]) (t:=36) (fr:=(0,0)) (fR _ _)) (by simp[FQ.cells,Value.oneCell']) (by decide) (by unfold maxLen;omega) (by omega) (by simp;omega) (A.heap.size+1) p_ ?_;intro g eP w4 aV au hg eM;have HG:=bS aV au hg;clear aV au hg eM p_);go_roundw
  case rel=>
   have Ss:=();exact qdq
  case measure=>simp[intOf];omega
 |have p_:(A.alloc (.cells #[.bool p.v,.string p.n,.slice p.a p.l p.c] 43)).heap.size=A.heap.size+1:=by simp
  unfold TQ.val;go_wp2_with (at_builtin;refine wpList_append_lies _ rfl _ _ 33 rfl w.heap.size 43 i0 (.agg #[.bool false,.string ByteArray.empty,.slice none 0 0]) 3 48 underlying33 hi oO jv iG rfl (by decide) _ _ _ rfl (HO.o.alloc _) ⟨A.heap.size,0,none⟩ 1 1 p.cells rfl rfl (da (cs:=#[.bool p.v,.string p.n,.slice p.a p.l p.c]) (t:=43) (fr:=(0,0)) (fR _ _)) (by simp[TQ.cells,Value.oneCell']) (by decide) (by unfold maxLen;omega) (by omega) (by simp;omega) (A.heap.size+1) p_ ?_;intro g eP w4 aV au hg eM;have HG:=bS aV au hg;clear aV au hg eM p_);go_roundw
  case rel=>
   exact qdq
  case measure=>simp[intOf];omega):G:=h
theorem qdr(h:G:=by
 exact qbZ):G:=h
theorem qix(h:G:=by
 refine bX (v:=.tuple #[FQ.val ⟨0,⟨#[]⟩,none,0,0,none,0,0⟩,.bool false]) (by simp[FQ.val,results,results91,go_sem,g0,g1,g2,g3]) rfl ⟨⟨⟨0,⟨#[]⟩,none,0,0,none,0,0⟩,by rw[HE.o];rfl,fun u hu=>by rw[HE.o]at hu;cases hu⟩,Below.kp1 ((cR.o.1.tr cR.o.2).tr H3.o.1) k6 (by omega)⟩):G:=h
theorem qcP(h:G:=by
 have Bn:=(HQ.o.2.1.kp (Kp.below HL.o.2.2.2.1)).busy jr zi;have kF:x∈bC [] s s:=HL.o.2.2.2.2.2.subset (by simp);have uF:ag x.s<=400:=aR (oC s s [] x kF) HP.o.2.1;have YP:=si s s [] HP.o.1 x kF
 first
 |clear qqr;have Ax:Below w.heap.size w W2:=en Nx.o.1 ke (fun b hb=>(YO.o b hb).1);have ia:=HP.o.2.2.2.1.later Ax;have CS:=Rq qt kb mF mT nF nT kd x.s YP uF _ W2 ia ⟨⟨u0,u1,u2,u3,u4,u5,u6,u7⟩,⟨v0,v1,v2,v3,v4,v5,v6,v7⟩,ca,cl,cc⟩ lw;simp only[gd.val,gd.cells]at CS;have⟨bv,AA⟩:=az (YK x);have Vl:=zdk.o x▸CS;rw[<-AA]at Vl;have _C:=(ke.same _ (bQ Nx.o.2.2.1) (fun h=>by have:=HMk.o;rw[I'.o]at h;omega)).trans Nx.o.2.2.1;have qvK:=();exact qiy
 |clear qqt;have Ax:Below w.heap.size w W2:=en K6.o.1 ke (fun b hb=>(RU.o b hb).1);have ia:=HP.o.2.2.2.1.later Ax;have CS:=Uy qt kb mF mT nF nT kd x ps HQ.o.2.2.1 HQ.o.2.2.2 YP uF _ W2 ia ⟨⟨u0,u1,u2,u3,u4,u5,u6,u7⟩,⟨v0,v1,v2,v3,v4,v5,v6,v7⟩,ca,cl,cc⟩ lw Bn.1;simp only[gd.val,gd.cells]at CS;have⟨bv,AA⟩:=az (YM x);have Vl:=zdl.o x▸CS;rw[<-AA]at Vl;have _C:=(ke.same _ (bQ K6.o.2.2.1) (fun h=>by have:=HMk.o;rw[HM2.o]at h;omega)).trans K6.o.2.2.1;exact qiy
 |have Ax:Below w.heap.size w W2:=en Vo.o.1 ke (fun b hb=>(YS.o b hb).1);have ia:=HP.o.2.2.2.1.later Ax;have CS:=Rs qt kb mF mT nF nT kd x.s YP uF _ W2.drew (ia.later (ar _ _).drew) ⟨⟨u0,u1,u2,u3,u4,u5,u6,u7⟩,⟨v0,v1,v2,v3,v4,v5,v6,v7⟩,ca,cl,cc⟩ (lw.later (ar _ _).drew);simp only[gd.val,gd.cells]at CS;have hsz:=Vg ia x.s YP uF;have⟨bv,AA⟩:=az (JL x);have Vl:=_A.o x▸CS;rw[<-AA]at Vl;have _C:=(ke.same _ (bQ Vo.o.2.2.1) (fun h=>by have:=HMk.o;rw[HM3.o]at h;have:=HnB.o;omega)).trans Vo.o.2.2.1;have qvL:=();exact qiz):G:=h
theorem qaM(h:G:=by
 obtain⟨b,off,u,rfl,_,hu,c0,c1,c2,c3⟩:=gD.o.get dG;have qvM:=();exact qaK):G:=h
theorem qds(h:G:=by
 rcases Ui.o with⟨rfl,rfl,rfl⟩|⟨b,off,rfl⟩
 ·exact .inl ⟨rfl,rfl,by rw[ku wH.o.symm];rfl⟩
 ·exact .inr ⟨_,rfl,by rw[ip,<-wH.o],(rf.o.later lJ).olds⟩):G:=h
theorem qht(h:G:=by
 refine bH 0 27 (.pointer (some ⟨w.heap.size+1+1+1,2,none⟩)) rfl b_ fun cK=>?_;simp only[am];refine di 1 28 (.slice fN k1 fO) rfl (fun V hX=>by have g0:=f0 V hX;go_simp) cK fun f_=>?_;simp only[am];refine di 2 29 (.agg #[.bool u.v,.string u.n,.slice u.a u.l u.c]) rfl (fun V hX=>by obtain⟨g0,g1,g2⟩:=f1 V hX;go_simp) f_ fun gX=>?_;simp only[am]
 first
 |clear qtG;refine bH 3 30 (.func (.func 155) #[] #[.pointer (some ⟨w.heap.size+1,0,none⟩)]) rfl gX fun iQ=>?_
  simp only[am];refine cb 4 rfl fun K hK=>?_;go_simp;refine aO.2 ((MJ c (by have:=HCl.o;omega) HCn.o (w.heap.size+1) (.slice pa p0 pc) WA HXA.o PD.o a[k1] (xZ.o.mem (aH dG)) _ W2.drew u (((HF.o.below HBA.o HRA.o).tr cQ.o).drew) (HU.o.later (cQ.o.drew))).mono ?_);rintro _ A ⟨⟨p,rfl,hp⟩,hA⟩;have qvN:=();exact qak
 |refine bH 3 30 (.string ⟨nx.toArray⟩) rfl gX fun iQ=>?_
  simp only[am];refine di 4 31 (.agg #[.bool zv,.string zn,.slice za zl zc]) rfl (fun V hX=>by obtain⟨h0,h1,h2⟩:=fu V hX;go_simp) iQ fun jM=>?_;simp only[am];refine bH 5 32 (.agg #[.string ⟨nx.toArray⟩,.bool zv,.string zn,.slice za zl zc]) rfl jM fun km=>?_;simp only[am];refine cb 6 rfl fun K hK=>?_;go_simp;refine hK _ _ (fun _=>by rw[c9.o];exact((ar W2.heap.size W2).drew).alloc (aK _) _) (fun _=>?_);clear hK K;refine cb 7 rfl fun K hK=>?_;go_simp;refine aO.2 ((Ld a[k1] (xZ.o.mem (aH dG)) nx PG.o z TR.o.1 _ _ _ u ⟨zv,zn,za,zl,zc⟩ W2.heap.size 0 1 ((HU.o.later cQ.o.drew).later dp) ((((HZ.o.later cR.o).later cQ.o).later ((ar _ _).drew)).later dp) (ao (aq rfl) 0) (ao (aq rfl) 1) (ao (aq rfl) 2) (ao (aq rfl) 3)).mono ?_);rintro _ A ⟨⟨p,rfl,mx⟩,hA⟩;have hp:aN (W2.heap.size<=·) A p.val (nl nx z a[k1]):=mx.move (fun b hok _=>⟨by simp at hok;omega,rfl⟩);clear mx;have cd:Below W2.heap.size W2 A:=(((ar W2.heap.size W2).drew).alloc (aK _) _).trans (hA.mono (by simp));exact qao):G:=h
theorem qiA(h:G:=by
 have⟨W2,bp⟩:=az ((w.alloc (.cells #[.int .u8 so,.string ⟨n.toArray⟩,.slice sa n1 sc,.slice sb m1 se,.int .u8 fo,.string fn,.slice fa fl fc,.slice fb fm fe,.slice ca cl cc] 89)).alloc (.cells #[.int .u8 so,.string ⟨n.toArray⟩,.slice sa n1 sc,.slice sb m1 se] 36));have bU:=mo bp;have x2:=kv bp;have ia:=eR.later bU
 first
 |clear qvO;have FI:=hq.later bU;have Ly:=j7.later bU;have⟨HE,gh⟩:=bi hE bp;have H2:=bS bU x2 ia;have HQ:=gN FI Ly hs xH nM;have PU:a.length<=2000000:=by have:=jU a;omega
  have HAl:=ae PU;clear hE hR hq j7 oY hs xH nM bp bU x2 ia eR FI Ly eB jQ hnd PU uM;simp only[gd.val,gd.cells]
  by_cases gq:so=16
  ·subst gq;have hE:=HE.o;rw[aw (by decide)]at hE;have qvP:=();exact qhW
  by_cases kL:so=15
  ·subst kL;have hE:=HE.o;rw[aw (by decide)]at hE;exact qhH
  ·have j8:(so==16)=false:=by simp[gq]
   have N9:(so==15)=false:=by simp[kL]
   have Τ:(so !=16)=true:=by simp[gq]
   have zfm:(so !=15)=true:=by simp[kL]
   have hE:=HE.o;rw[aG (by simp[Τ,zfm])]at hE;have⟨B,hB⟩:=az (a.any (lm k.ts));rw[<-hB]at hE;have CA:=vR (lm k.ts) a HAl.o kb W2 (fun t ht=>Ge W2 _ _ _ kb mF mT nF nT k H2.o.2.2 t (HQ.o.2.2.2.1 t ht)) _ W2 sa n1 sc (ar _ _) HQ.o.2.1;rw[<-hB]at CA;have⟨Ji,uN⟩:=bi CA hE;clear hE CA hB;exact qb0
 |have⟨HE,gh⟩:=bi hE bp;have H2:=bS bU x2 ia;have HQ:=gN (hq.later bU) (j7.later bU) hs xH nM;have HN:=ae eB;have Rc:n1<=2000000:=by have:=jU a;omega
  have Ub:=ae hnd;clear hE hR hq j7 oY hs xH nM bp bU x2 ia eR eB jQ hnd uM;simp only[gd.val,gd.cells];have jq:=fP;obtain⟨e0,e1,e2,e3,_,_,_,_⟩:=dw H2.o.2.1;obtain⟨⟨g0,g1,g2,g3,g4,g5,g6,g7⟩,rS,LC,IY,_,_,zJ⟩:=H2.o.2.2.formOf (x:=n) mn;simp only[FQ.val]at zJ;have⟨f,hf⟩:=az (cZ k.fs n)
  first
  |clear qvQ;rw[<-hf]at rS LC IY;have qvR:=();exact qiB
  |rw[<-hf]at rS LC IY;exact qiB):G:=h
theorem qin(h:G:=by
 have⟨l1,Jn⟩:=az (eH k.ts (a.take j));have⟨l2,vC⟩:=az (mG k.ts a[j]);rw[<-vC]at CC;rw[<-Jn,<-vC]at pQ;rw[<-Jn]at ea;have hlen:l1.length+l2.length<=4000000:=by rw[pQ,ei]at F3;omega
 have⟨oQ,HT,wn,tS⟩:=f8 CC pQ hlen hZ;have HB:=bS aD bE ea;have C7:(j:Int)<(n1:Int):=by omega
 clear CC Jn vC pQ hlen F3 Cl Oa hZ bE aD Am hx hok c0 c1 c2 ea
 first
 |clear up;go_wp2_with (first|(rw[<-tS.o];go_at_call 248;refine oQ.o.mono ?_;rintro e w6 ⟨⟨v6,rfl,hv6⟩,dh⟩;have H6:=aM (HB.o.2.1.tr dh) hv6;clear dh hv6)|(at_builtin;refine eW rfl _ _ rfl W2.heap.size (HB.o.1.tr H6.o.1).size u9 l1 rfl (HB.o.2.2.later H6.o.1) v6 l2 rfl _ H6.o.2.strs wn.o ?_;intro v8 w8 Li TX;have XO:=aM Li TX;clear Li TX));exact qiC
 |go_wp2_with (first|(rw[<-tS.o];go_at_call 248;refine oQ.o.mono ?_;rintro e w6 ⟨⟨v6,rfl,hv6⟩,dh⟩;have H6:=aM (HB.o.2.1.tr dh) hv6;clear dh hv6)|(at_builtin;refine eW rfl _ _ rfl W2.heap.size (HB.o.1.tr H6.o.1).size u5 l1 rfl (HB.o.2.2.later H6.o.1) v6 l2 rfl _ H6.o.2.strs wn.o ?_;intro v8 w8 Li TX;have XO:=aM Li TX;clear Li TX));exact qiC):G:=h
theorem qb0(h:G:=by
 go_enter func124,ntmps124
 first
 |clear up;go_upto_region 4 with fail;rw[<-gh.o];go_region
  all_goals
   rw[<-ec];clear ec;go_wp2;go_ret;exact⟨by rw[Rm.o];rfl,bV.o⟩
 |clear Ss;go_upto_region 4 with fail;rw[<-gh.o];go_region
  all_goals
   rw[<-ec];clear ec l1 l2 k0 g1 g3 g4 g5 e0 e1 e2 e3;go_upto_region 8 with(go_at_call 96;refine uW.o.mono ?_;rintro e w4 ⟨rfl,aY⟩;have H4:=ae aY;clear aY);clear i0 i1 i2 i3;have rQ:=H3.o.2.2.later H4.o;have k1:w4.cell? ⟨kb,1,none⟩=some (.map (some mT)):=ao rQ.box 1;have y4:=bY H4.o H3.o.2.1;obtain⟨j0,j1,j2,j3,_,_,_,_⟩:=dw y4;have HC4:=ae (Rr.o w4 H4.o);rcases rQ.ts.look underlying9 underlying146 lx (x:=y) (by have:=HY.o.1;omega)with⟨hg,hlk⟩|⟨t,vt,hg,hvt,hlk⟩
   ·have l1:=(hlk w4 rfl).1;have Rm:=ae (show R=decide (n0>0) by rw[HE3.o,hg];rfl);clear hlk hg rQ y4;go_wp2_with (go_at_call 97;refine HC4.o.mono ?_;rintro e w5 ⟨rfl,bE⟩;have H5:=ae bE;clear bE);go_ret;exact⟨by rw[Rm.o];simp,(H2.o.1.tr H3.o.1).tr (H4.o.tr H5.o)⟩
   ·obtain⟨⟨Jl,Ur,Us,Ut,Uu⟩,rfl,sV,hpt⟩:=hvt;simp only[TQ.val]at hlk;have l1:=(hlk w4 rfl).1;have Rm:=ae (show R=false by rw[HE3.o,hg];rfl);clear hlk hg rQ y4 sV hpt;go_wp2;go_ret;exact⟨by rw[Rm.o];rfl,(H2.o.1.tr H3.o.1).tr H4.o⟩
 |go_upto_region 2 with fail;rw[<-gh.o];obtain⟨e0,e1,e2,e3,_,_,_,_⟩:=dw H2.o.2.1;go_wp2_with (go_at_call 192;refine Ji.o.mono ?_;rintro e w4 ⟨rfl,aY⟩;have H4:=ae aY;clear aY);go_ret;exact⟨by rw[uN.o];rfl,H2.o.1.tr H4.o⟩):G:=h
theorem qaC(h:G:=by
 rcases hs with hs|⟨b,off,ha,hok,hc⟩
 ·exact .inl hs
 first
 |clear an
  ·by_cases h0:al=[]
   ·exact .inl h0
   ·have hk:=hb b hok (GK (hc 0 (jR.2 h0)));exact qb1
 |clear GB
  ·by_cases h0:l=[]
   ·exact .inl h0
   ·have hk:=hb b hok (GK (hc 0 (jR.2 h0)));exact qb1
 |clear up
  ·by_cases h0:ss=[]
   ·exact .inl h0
   ·have hk:=hb b hok (GL (hc 0 (jR.2 h0)));exact qb1
 |clear I8
  ·by_cases h0:l=[]
   ·exact .inl h0
   ·have hk:=hb b hok (GL (hc 0 (jR.2 h0)));exact qb1
 |·exact .inr ⟨b,off,ha,hok,fun j hj=>(hc j hj).nw hn⟩):G:=h
theorem qcZ(h:G:=by
 obtain rfl:=j7.len;obtain rfl:=oY.len;have nM:=jC _ hs;simp only[mI,ak,bM]at nM;exact qio):G:=h
theorem qao(h:G:=by
 have qvV:=();exact qdt):G:=h
theorem qdu(h:G:=by
 simp only at d1 d2 d3 d4;have⟨W5,hZ⟩:=az (wr.alloc (.cells #[.string ⟨nm.toArray⟩,.int .u8 qo,.string qn,.slice qa ql qc,.slice qb qm qe] 40));have bE:=dj hZ
 first
 |clear ZU;have lp:=eR.later bE.drew;have hf5:aC (fun b=>b<w.heap.size) W5.drew (FQ.val ⟨qo,qn,qa,ql,qc,qb,qm,qe⟩) b.fs[k].2:=hf.move (fun b hb hlt=>⟨hb,((kH.trans (Kp.below bE.drew)).same b hlt (iX b hb))⟩);obtain⟨w6,cV,Ln,Lo,Re⟩:=lp.storeF (by simp) (by omega) (x:=nm) (by rw[dQ];exact HP.o.1 _ (aH bA)) hf5 (HP.o.2.2.2.2.1 _ (aH bA)) (l':=b.fs.take (k+1)) (fun y=>by rw[Ai HP.o.2.2.1 bA,<-dQ]);have x8:=ao eR.box 0;have x9:=aa bE x8;have I1:=aa bE.drew x8;have HK:=aM Ln ((bD.trans (Kp.below bE.drew)).trans (Lo.mono (fun b _ h=>by rw[HM.o];exact .inl h)));have⟨HST,tS⟩:=bi cV hZ;rw[hZ]at x9 I1;have Cu:(k:Int)<(n1:Int):=by omega
  clear eR lp Ln bD Lo Re hf hf5 bE kH iX hok dQ hZ bA c0 c1 c2 c3 c4;rw[tS.o]at cV;unfold FQ.val at cV;go_wp2;go_region;go_wp2;go_roundw
  case rel=>exact⟨k+1,by omega,by go_num,HK.o.2,HK.o.1⟩
  case measure=>simp[intOf];omega
 |clear qvX;have Cu:(k:Int)<(n1:Int):=by omega
  have tS:=ae hZ
  by_cases nH:nm=n
  ·subst nH;have Ae:(nm==nm)=true:=by simp
   rw[Ae]at jm;have CC:=qQ g Un ok W5 ⟨qo,qn,qa,ql,qc,qb,qm,qe⟩ ((hf.later l9).later bE);simp only[FQ.val]at CC;have qvY:=();exact qiE
  ·have Ae:(nm==n)=false:=by simp[nH]
   rw[Ae]at jm;have HG:=aM (aD.tr bE) (show R=bG (b.fs.drop (k+1)) n from jm);clear l9 aD jm hf Un bE hx hZ hg dQ c0 c1 c2 c3 c4 hok;exact qiF
 |have x5:=cA hZ;have Cu:(k:Int)<(n1:Int):=by omega
  have kF:(nm,g)∈b.fs:=by rw[dQ,hg];exact aH bA
  have CM:=ID nm W5 (by omega);have qvZ:=();exact qiG):G:=h
theorem qdv(h:G:=by
 rw[h1,dL]at dz;have dz:=dz.symm;rw[Bool.and_eq_false_iff]at dz;rcases dz with dz|dz
 first
 |clear ZU
  ·have:decide ((af l:Int)<=left)=false:=by simp at dz⊢;omega
   rw[this];simp
  ·have:decide (bB+bO l<=bT+1)=false:=by simp at dz⊢;omega
   rw[this];simp
 |·have:decide ((ah s:Int)<=left-1-af a)=false:=by simp at dz⊢;omega
   rw[this];simp
  ·have:decide (bB+1+bl s<=bT+1)=false:=by simp at dz⊢;omega
   rw[this];simp):G:=h
theorem qiH(h:G:=by
 have hq1:et ok w (.slice qa x.fs.length qc) x.fs:=hq.1;have FI:eI ok w (.slice qb x.ts.length qe) x.ts:=hq.2;have Ny:et ok' w (.slice ra y.fs.length rc) y.fs:=gY.1;have Xd:eI ok' w (.slice rb y.ts.length re) y.ts:=gY.2;rw[<-eB]at hq1 hx1;rw[<-jY]at FI hx2;rw[<-jQ]at Ny;rw[<-sK]at Xd;simp only[BQ.val];rw[<-eB,<-jY,<-jQ,<-sK]
 first
 |clear qv1;have⟨W2,bp⟩:=az ((w.alloc (.cells #[.slice qa n1 qc,.slice qb n2 qe] 26)).alloc (.cells #[.slice ra m1 rc,.slice rb m2 re] 26));have qv2:=();exact qiI
 |have⟨W2,bp⟩:=az ((w.alloc (.cells #[.slice qa n1 qc,.slice qb n2 qe] 26)).alloc (.cells #[.slice ra n1 rc,.slice rb n2 re] 26));exact qiI):G:=h
theorem qiJ(h:G:=by
 rw[<-dr]at x6 k6⊢;clear dr;have g0:W6.cell? ⟨w.heap.size+1,0,none⟩=some (.int .u8 p0):=ao x6 0;have g1:W6.cell? ⟨w.heap.size+1,1,none⟩=some (.string p1):=ao x6 1;have g2:W6.cell? ⟨w.heap.size+1,2,none⟩=some (.slice p2 p3 p4):=ao x6 2;have g3:W6.cell? ⟨w.heap.size+1,3,none⟩=some (.slice p5 p6 p7):=ao x6 3
 first
 |clear ZU
  first
  |clear qrk;have zj:=JM (p:=⟨p0,p1,p2,p3,p4,p5,p6,p7⟩) (B:=w.heap.size+1) (HB.o.1.tr H7.o) (by omega) k6 (HP7.o.move (fun b hok _=>⟨by have:=HB.o.2.1;have h:W2.heap.size<=b:=hok;omega,rfl⟩));have qvq:=();exact qdp
  |have zj:=JM (p:=⟨p0,p1,p2,p3,p4,p5,p6,p7⟩) (B:=w.heap.size+1) (HB.o.1.tr (H3.o.1.tr (H5.o.tr H7.o))) (by omega) k6 (HP7.o.move (fun b hok _=>⟨by have h1:=HB.o.2.1;have h2:=H3.o.1.size;have h3:=H5.o.size;have h:w5.heap.size<=b:=hok;omega,rfl⟩));exact qdp
 |have zj:=JM (p:=⟨p0,p1,p2,p3,p4,p5,p6,p7⟩) (B:=w.heap.size+1) (HB.o.1.tr (H3.o.1.tr (H5.o.tr H6.o.1))) (by omega) k6 (H6.o.2.move (fun b hok _=>⟨by have h1:=HB.o.2.1;have h2:=H3.o.1.size;have h3:=H5.o.size;have h:w5.heap.size<=b:=hok;omega,rfl⟩));exact qdp):G:=h
theorem qiK(h:G:=by
 obtain⟨k,hk,rfl,hj,le,⟨n',FE,hbd⟩,bD⟩:=hrel;have up:=();exact qiL):G:=h
theorem qbj(h:G:=by
 injection hv with hv _ _;subst hv;rcases hs with rfl|⟨b,off,rfl,hok,hc⟩
 ·simp at hj
 first
 |clear an
  ·obtain⟨q,hq,_⟩:=(ht j hj).form;obtain⟨x0,x1,x2,hx,c0,c1,c2⟩:=hc j hj;rw[hq]at hx;unfold TQ.val at hx;simp only[c_,Array.mk.injEq,cF,and_true]at hx;obtain⟨rfl,rfl,rfl⟩:=hx;exact⟨b,off,q,rfl,hok,hq▸ht j hj,c0,c1,c2⟩
 |clear it
  ·obtain⟨q,hq,_⟩:=(ht j hj).form;obtain⟨x0,x1,x2,x3,hx,c0,c1,c2,c3⟩:=hc j hj;rw[hq]at hx;unfold FQ.val at hx;simp only[c_,Array.mk.injEq,cF,and_true]at hx;obtain⟨rfl,rfl,rfl,rfl⟩:=hx;exact⟨b,off,q,rfl,hok,hq▸ht j hj,c0,c1,c2,c3⟩
 |clear up
  ·exact⟨b,off,qs j,rfl,hok,hf j hj,hc j hj⟩
 |·exact⟨b,off,ps j,qs j,rfl,hok,(hf j hj).1,(hf j hj).2,hc j hj⟩):G:=h
theorem qdw(h:G:=by
 subst hq;exact⟨b,q,⟨hs,h3,h4.move (fun c hc _=>⟨⟨⟨hc.1,fun e=>hc.2.2 (by rw[e])⟩,hc.2.1⟩,rfl⟩)⟩,(hI.2.1 b rfl).1.resolve_right id⟩):G:=h
theorem qes(h:G:=by
 obtain ⟨r,rfl⟩:∃r,n=63 :: r:=wg (by
  cases h2:(n.head?==some 63)
  ·simp[eA,ej,dI,h2]at h
  ·rfl)
 have C1:=ae (fun w=>h▸lS (63::r) w hn);have hr:r.length<=1000000000:=by simp at hn;omega
 have hs:=jf (63::r);exact qbe):G:=h
theorem qb2(h:G:=by
 have ht:a.take m0=a:=by rw[gT.o];exact dA
 rw[ht]at hj;have HH:=aM hj bD;clear hj bD ht
 first
 |clear up;gi_wp2;exact qbn
 |go_wp2;exact qbn):G:=h
theorem qe5(h:G:=by
 have:(n,g)∈l:=by
  clear h
  induction l with
  |nil=>simp[bG]at hg
  |cons x l ih=>
   obtain⟨y,v⟩:=x;unfold bG at hg;split at hg
   ·rename_i e;simp only[dn]at hg;rw[ef]at e;subst e hg;exact fT ..
   ·exact fS _ (ih hg)
 have:=h.1 _ this;exact⟨this.2,this.1⟩):G:=h
theorem qiN(h:G:=by
 have E3:Below w.heap.size w X:=en Vo.o.1 h4 (fun b hb=>(YS.o b hb).1);have mj:gW w.heap.size X _:=Hv3.o.2.more (w':=X) (fun E hE hx=>(h4.same E (bQ hx) (fun hm=>by rw[HM3.o]at hm;rcases hm with rfl|rfl<;>first|(rw[Vo.o.2.2.2]at hx;cases hx)|(rw[HnV.o]at hx;cases hx))).trans hx) hD (aR Vo.o.1.size hD) hd
 first
 |clear an;have r0:=ao h3 0;have z0:=ai h3 0;have HX:=bS E3 mj h3;clear h1 h2 h3 h4 hkX hd E3 mj hD;gi_wp2_with fail;have⟨W8,kM⟩:=az (X.setCell ⟨w.heap.size+1+1,0,none⟩ (.int .i64 0));have k8:Kp (fun b=>b=w.heap.size+1+1) X W8:=by rw[kM];exact ks
  have x8:=kr HX.o.2.2 (v:=.int .i64 0);rw[<-kM]at x8⊢;refine fE (B:=w.heap.size) (HX.o.2.1.move (fun D _ hd=>(k8.same D (bQ hd) (fun h=>by subst h;rw[HX.o.2.2]at hd;cases hd)).trans hd)) (fun w' hn=>?_);have h0:=hn.cell (ao x8 0);exact⟨.int .i64 0,by simp[results,results71,go_sem,h0],by rw[HE.o],kU (en HX.o.1 k8 (fun b hb=>by omega)) hn⟩
 |have HE:=ae (show R=3 by rw[HR.o,aw (by rw[<-YL.o,HA1.o];simp),aw (by have h:=HA2.o;rw[za9.o]at h;rw[h];simp),aG (by have:=YJ (dU.map JL);rw[zdm.o]at this h2;omega)]);exact qdx):G:=h
theorem qee(h:G:=by
 refine hQ a γ w ⟨h.df,h.sz,h.ou,fun k o ho hd _=>h.nod k o ho hd (gt k (bQ ho)),fun k o d ho hd _=>h.val k o d ho hd (gt k (bQ ho)),fun k hk hl=>by simp[Array.getD,hk]at hl,h.inv,fun k o d ho _ hl=>by simp[Array.getD,(bQ ho)]at hl,fun _ _ _ _ e _ _ hlt=>by simp[Array.getD,hlt]⟩):G:=h
theorem qiO(h:G:=by
 rintro _ w5 ⟨rfl,g_⟩;have H7:=ae (((ar w3.heap.size w3).drew).trans g_);have qv7:=();exact qaB):G:=h
theorem qiP(h:G:=by
 have yy:∀V,S V->V.cell? ⟨b2,o2+j*3,none⟩=some (.bool yv)/\V.cell? ⟨b2,o2+j*3+1,none⟩=some (.string yn)/\V.cell? ⟨b2,o2+j*3+2,none⟩=some (.slice ya yl yc):=fun V h=>by rw[hS]at h;exact⟨aa h (aa bE g0),aa h (aa bE g1),aa h (aa bE g2)⟩
 have dW:S W5.drew:=by rw[hS];exact(ar _ _).drew
 first
 |clear qv8;have Aj:Kp (fun b=>b=mT) W3 W5.drew:=bD.trans (Kp.below bE.drew)
  have MS:∀b,b=mT->M b:=fun b e=>e▸HG.o.2.2.2.1;have zO:=rP lU;have CC:=gZ.o a[j] (aH lU) (HF.o.1.args.mem (aH lU)) (WR.o _ (aH lU)) a'[j] (HG.o.2.2.1 _ _ _ HF.o.2 _ (aH Ba)) W5.drew nF Gc ⟨k.fs,kj⟩ ⟨xv,xn,xa,xl,xc⟩ ⟨yv,yn,ya,yl,yc⟩ (ia.later bE.drew) (by have:=Ub.o;omega) (HPs.o.kp (Aj.mono (fun b _ h=>MS b h))) (hx.kpM Aj MS) (hy.kpM Aj MS);have cV:cY (ps.reverse.map (·.1)) kj (a.drop j) (a'.drop j)=match dY (ps.reverse.map (·.1)) kj a[j] a'[j]with|some k'=>cY (ps.reverse.map (·.1)) k' (a.drop (j+1)) (a'.drop (j+1))|none=>none:=by
   rw[iL lU,iL Ba,cY];rfl
  rw[cV]at jm;simp only[TQ.val,gd.val,gd.cells]at CC;have HK:=bS Aj rR zO;have XR:=ae hZ;have C7:(j:Int)<(n1:Int):=by omega
  cases XY:dY (ps.reverse.map (·.1)) kj a[j] a'[j]with
  |none=>
   rw[XY]at CC jm;have HC:=ae CC;have N6:=ae (show R=none from jm);have qv9:=();exact qiQ
  |some ts0=>
   rw[XY]at CC jm;have HC:=ae CC;have N6:=ae (show R=cY (ps.reverse.map (·.1)) ts0 (a.drop (j+1)) (a'.drop (j+1))from jm);exact qiQ
 |have Ul:Kp M W W5:=N'.trans (Kp.below bE);have HKN:=ae (hkN.trans (Kp.below bE));have zO:=rP lU;have zaF:=HV.o.2.2.2.2.1.kp Ul;have hx5:=hx.kpM Ul (fun _ h=>h);have hy5:=hy.kpM Ul (fun _ h=>h);have⟨I,hI⟩:=az (iO ps.reverse [] a'[j]);have CI:=fun(V:World)(h:Below W5.heap.size W5 V)=>vK ⟨⟨so,⟨n.toArray⟩,some ⟨b1,o1,none⟩,n1,sc,sb,m1,se⟩,⟨so,⟨n'.toArray⟩,some ⟨b2,o2,none⟩,n1,fc,fb,m1,fe⟩,ca,cl,cc⟩ ps HB.o.2.2.2.1 HB.o.2.2.2.2 [] [] (by simp) (fun _=>rfl) (fun _=>True) (.slice none 0 0) a'[j] (HF.o.1.args.mem (aH Ba)) _ V ⟨yv,yn,ya,yl,yc⟩ (zaF.1.later h) ⟨none,0,rfl,aK _,.inl rfl⟩ (hy5.later h);rw[<-hI]at CI;simp only[gd.val,gd.cells,TQ.val]at CI;have⟨ZT,c9⟩:=bi CI hS;have cV:=Ls (c:=ps.reverse) (k:=kj) lU Ba;rw[<-hI]at cV;rw[cV]at jm;have H5:=uU Ul bE x5 Uk zaF hx5;have Ud:=cH bD rR (eR.later bE) zO;have HIj:=bS (show ∀u,I=some u->dV u from fun u h=>Hj HP.o (aH Ba) (by rw[<-hI];exact h)) (WR.o _ (aH lU)) lU;have _o:=ae jm;have C7:(j:Int)<(n1:Int):=by omega
  clear CI cV jm hS hI hy5 hx5 zaF zO Ul hy hx vj vk c0 c1 c2 y0 y1 y2 eR rR bD N' hkN WS x6w bE x5 Uk x65;go_wp2;rw[<-hZ];clear hZ d0 d1 d2 g0 g1 g2;go_cut [12,13]from 98 to 107 (fun s12 s13 wx=>∃_p,s12=.pointer (some ⟨_p,0,none⟩)/\s13=.bool I.isSome/\∃uq:TQ,wx.heap[_p]?=some (.cells #[.bool uq.v,.string uq.n,.slice uq.a uq.l uq.c] 43 (0,0))/\Below W5.heap.size W5 wx/\W5.heap.size<=_p/\∀u,I=some u->aN (W5.heap.size<=·) wx uq.val u)
  case first=>
   have jq:=fP;have qwa:=();exact qcS
  case rest=>
  obtain⟨_p,h12,h13,⟨u0,u1,u2,u3,u4⟩,x12,dh,zaG,hu⟩:=hcut;rw[h12,h13];clear h12 h13 pp tt yy;have⟨W6,dr⟩:=az wc;rw[<-dr]at x12 dh hu⊢;clear dr wc;simp only at x12;have X':Kp M W W6:=H5.o.1.trans (Kp.below dh)
  cases I with
  |none=>
   have HE:=ae (show R=(k,70) by rw[HRg.o,_o.o]);have N4:=ae (HKN.o.trans (Kp.below dh));clear x12 dh zaG hu X';go_wp2;go_ret;exact dq.bad HE.o (by decide) N4.o
  |some im=>
   have hu:=hu im rfl;have hgi:=HIj.o.1 im rfl;have hum:aN (fun b=>¬M b) W6 (TQ.val ⟨u0,u1,u2,u3,u4⟩) im:=hu.move (fun b hb hlt=>⟨fun hm=>by have:=HG.o.2.2.2.2 b hm;have:=H5.o.1.size;omega,rfl⟩);have zM:=bY dh H5.o.2.2.2.1;have x56:=bY dh H5.o.2.2.1;have⟨P0,P1,P2,P3,P4,P5,P6,P7⟩:=FP zM;have P8:=ao zM 8;obtain⟨s0,s1,s2,_,_,_⟩:=ir x56;obtain⟨t0,t1,t2,_,_,_⟩:=ir x12;have CE:=Rh ⟨⟨so,⟨n.toArray⟩,some ⟨b1,o1,none⟩,n1,sc,sb,m1,se⟩,⟨so,⟨n'.toArray⟩,some ⟨b2,o2,none⟩,n1,fc,fb,m1,fe⟩,ca,cl,cc⟩ ps HB.o.2.2.2.1 dx dV (fun _ h=>h.fit) (fun _ _ _ h=>h.args) M kb mF mT HG.o.2.1 HG.o.1 HG.o.2.2.1 (a[j]'HIj.o.2.2) HIj.o.2.1.1 HIj.o.2.1.2 im hgi W6 nF Gc ⟨k.fs,kj⟩ ⟨xv,xn,xa,xl,xc⟩ ⟨u0,u1,u2,u3,u4⟩ (Ud.o.2.2.1.later dh) (by have:=Ud.o.2.1;have:=Ud.o.2.2.2;have:=HB.o.2.1;have:=HB.o.2.2.1;omega) (zfl X') (H5.o.2.2.2.2.2.later dh) hum;have jm:=_o.o;simp only at jm;have⟨EQ,hEQ⟩:=az (dY (ps.reverse.map (·.1)) kj (a[j]'HIj.o.2.2) im);simp only[<-hEQ]at jm CE;simp only[gd.val,gd.cells,TQ.val]at CE;have HCE:=ae CE;have N4:=aM (HKN.o.trans (Kp.below dh)) (Ud.o.1.trans (Kp.below (H5.o.2.1.tr dh)))
   cases EQ with
   |none=>
    have HE:=ae (show R=(k,70) by rw[HRg.o,jm]);clear x12 dh zaG hu X' hum zM x56 CE jm hEQ hgi;go_wp2_with (go_at_call 95;refine HCE.o.mono ?_;rintro e w7 ⟨qS,r,rfl,iX,_⟩;obtain rfl:=iX (by simp);have H7:=ae qS;clear qS iX);go_ret;exact dq.bad HE.o (by decide) (N4.o.1.trans (H7.o.mono (fun b _ h=>.inr h)))
   |some ts0=>
    have N6:=ae (show dB ps.reverse k.ts a a'=dB ps.reverse ts0 (a.drop (j+1)) (a'.drop (j+1))from jm);clear x12 dh zaG hu X' hum zM x56 CE jm hEQ hgi;go_wp2_with (go_at_call 95;refine HCE.o.mono ?_;rintro e w7 ⟨qS,r,rfl,_,Kd⟩;obtain⟨rfl,nT7,_k,D6⟩:=Kd _ rfl;have H7:=bS qS _k D6;clear qS Kd _k D6);go_roundw
    case rel=>exact⟨j+1,nT7,ts0,by omega,by go_num,N4.o.2.trans H7.o.1,by have:=H7.o.2.1;have:=Ud.o.2.1;have:=Ud.o.2.2.2;omega,H7.o.2.2,N6.o⟩
    case measure=>simp[intOf];omega):G:=h
theorem qiR(h:G:=by
 have HH:=aM hj bD;have mn:¬((k:Int)<min (sm:Int) (fm:Int)):=by have:=gT.o;omega
 have wi:min (sm:Int) (fm:Int)<=(k:Int):=by have:=gT.o;omega
 clear hj bD;gi_wp2;go_ret;refine .inl ⟨rfl,?_,D1.o.2.trans HH.o.2⟩;have h:=HH.o.1;rw[yI (c:=Cn) (by have:=gT.o;omega)]at h;exact h):G:=h
theorem qiS(h:G:=by
 obtain⟨aV,au,hg,_⟩:=HG.o;have cV:=fk.o.stepT (F:=2) (t:=u') (p:=⟨pv,pn,pa,pl,pc⟩) (g:=g) (cap:=eP) (by rw[yw.o.2];exact DQ.o.2.1) (by rw[yw.o.2];exact DQ.o.1) DQ.o.2.2 NH.o.2 NH.o.1 (by rw[yw.o.2];exact aV) au (by rcases hg with h|h;exact .inl h;exact .inr (by simp;omega)) rfl;rw[yw.o.2]at cV
 first
 |clear Ss;exact qie
 |exact⟨k1+1,by omega,by go_num,_,XB++[u'],cV,yw.o.1,by rw[ei,yw.o.2];rfl⟩):G:=h
theorem qiT(h:G:=by
 go_wp2_with (rw[<-tS.o];go_at_call 197;refine oQ.o.mono ?_;rintro e w6 ⟨rfl,dh⟩;have H6:=ae dh;clear dh);go_roundw
 case rel=>exact⟨j+1,by omega,by go_num,by rw[<-PG.o];simp,(HB.o.1.tr HB.o.2).tr H6.o⟩
 case measure=>simp[intOf];omega):G:=h
theorem qgA(h:G:=by
 have k6:=fW (W:=w5) (b:=w.heap.size+1) (v0:=.bool pv) (v1:=.string pn) (v2:=.slice pa pl pc);have⟨W6,dr⟩:=az (((w5.setCell ⟨w.heap.size+1,0,none⟩ (.bool pv)).setCell ⟨w.heap.size+1,1,none⟩ (.string pn)).setCell ⟨w.heap.size+1,2,none⟩ (.slice pa pl pc));rw[<-dr]at x6 k6⊢;clear dr
 first
 |clear up;obtain⟨g0,g1,g2,_⟩:=ir x6;go_wp2;refine bX (v:=TQ.val ⟨pv,pn,pa,pl,pc⟩) (by simp[TQ.val,results,results127,go_sem,g0,g1,g2]) rfl ⟨⟨⟨pv,pn,pa,pl,pc⟩,rfl,H7.o.2.2.move (fun b hok hlt=>⟨by omega,k6.same b hlt (by omega)⟩)⟩,Below.kp1 (bV.o.1.tr H7.o.1) k6 (by omega)⟩
 |have g0:W6.cell? ⟨w.heap.size+1,0,none⟩=some (.bool pv):=ao x6 0;have g1:W6.cell? ⟨w.heap.size+1,1,none⟩=some (.string pn):=ao x6 1;have g2:W6.cell? ⟨w.heap.size+1,2,none⟩=some (.slice pa pl pc):=ao x6 2
  first
  |clear qmM;have hz:=HY.o.2.2;refine bX (v:=TQ.val ⟨pv,pn,pa,pl,pc⟩) (by simp[TQ.val,results,results218,go_sem,g0,g1,g2]) rfl ⟨⟨⟨pv,pn,pa,pl,pc⟩,rfl,H5.o.1.move (fun b hok hlt=>⟨by omega,k6.same b hlt (by omega)⟩)⟩,Below.kp1 H5.o.2.1 k6 (by omega)⟩
  |clear qwc;refine bX (v:=TQ.val ⟨pv,pn,pa,pl,pc⟩) (by simp[TQ.val,results,results168,go_sem,g0,g1,g2]) rfl ⟨⟨⟨pv,pn,pa,pl,pc⟩,rfl,H5.o.1.move (fun b hok hlt=>⟨by omega,k6.same b hlt (by omega)⟩)⟩,Below.kp1 H5.o.2.1 k6 (by omega)⟩
  |refine bX (v:=TQ.val ⟨pv,pn,pa,pl,pc⟩) (by simp[TQ.val,results,results154,go_sem,g0,g1,g2]) rfl ⟨⟨⟨pv,pn,pa,pl,pc⟩,rfl,H5.o.1.move (fun b hok hlt=>⟨by simp at hok;omega,k6.same b hlt (by simp at hok;omega)⟩)⟩,Below.kp1 H5.o.2.1 k6 (by omega)⟩):G:=h
theorem qct(h:G:=by
 simp only[FQ.val,c_,Array.mk.injEq,cF,and_true,Value.int.injEq,true_and,Value.string.injEq]at h1 h2;obtain⟨rfl,rfl,rfl,rfl⟩:=h1;obtain⟨rfl,rfl,rfl,rfl⟩:=h2
 first
 |clear qm6;obtain rfl:=Ty.len;obtain rfl:=Ka.len;simp only at hps;obtain rfl:=hps.1.len;obtain⟨X,hX⟩:∃X:Pl,X=⟨.mk XU sn PK ss,.mk fo' fn _h fs,ps.reverse⟩:=⟨_,rfl⟩;obtain⟨Cn,GN⟩:∃Cn:gO,Cn=(if br XU then(sn,fn)::ps.reverse else ps.reverse):=⟨_,rfl⟩;have oA:bC ps.reverse (.mk XU sn PK ss) (.mk fo' fn _h fs)=[X]++ba Cn ss fs:=by rw[hX,GN];unfold bC;rfl
  rw[oA]at dU⊢;have eN:=T7.subs.len;have yB:ag (.mk XU sn PK ss)=af PK+ah ss+1:=by unfold ag;rfl
  have qq:∀t∈ss,ps.length+1+ag t<=1000000:=fun t ht=>by have:=mQ ss t ht;omega
  have⟨m0,eh⟩:=az (min ss.length fs.length);have⟨sm,Kc⟩:=az ss.length;have⟨fm,Ga⟩:=az fs.length;have⟨cl,hcl⟩:=az ps.length;have zfg:ss.length<=1000000:=by have:=tj ss;omega
  simp only[gd.val,gd.cells];rw[<-hcl]at hps;rw[<-Kc]at Ty zfg xI;rw[<-Ga]at Ka eN F_;rw[<-Kc,<-Ga]at eh;rw[<-Kc,<-Ga,<-hcl];have⟨W1,cC⟩:=az (W.alloc (.cells #[.int .u8 XU,.string ⟨sn.toArray⟩,.slice sa sl sc,.slice sb sm se,.int .u8 fo',.string ⟨fn.toArray⟩,.slice fa fl fc,.slice fb fm fe,.slice ca cl cc] 89));have jN:=dj cC;have J':J pre W1:=hJ pre _ _ (Nw.below jN) hj;have hx1:=cA cC;have hWM:W.heap.size<W1.heap.size/\¬M W.heap.size:=⟨by rw[cC];simp,fun h=>by have:=hM _ h;omega⟩;have uX:=hY pre #[gd.val ⟨⟨XU,⟨sn.toArray⟩,sa,sl,sc,sb,sm,se⟩,⟨fo',⟨fn.toArray⟩,fa,fl,fc,fb,fm,fe⟩,ca,cl,cc⟩] X W1 J' (Kp.below jN) ⟨_,ps,rfl,by rw[hX],by omega,by rw[hX];exact xI.kp (Kp.below jN),by rw[hX];exact F_.kp (Kp.below jN),hps.kp (Kp.below jN)⟩ (lv dU);simp only[gd.val,gd.cells]at uX;have⟨gZ,_i⟩:=bi ih T7.subs;have wn:=bS oe qq hcl;have FD:=aM hM hl;have HJ:=aM hJ hJx;have⟨HY,HSs,SF,HP⟩:=f8 hY Ty Ka hps;have yA:=hps.1.cap;have qG:=ae dU;have gT:=bS eh Kc Ga;have⟨kJ,eQ,HWM,zcX,kf⟩:=sL hx1 jN hWM GN cC;have HPp:=ae (show(pre++[X]) <+: xs from lv dU);obtain⟨yfn,tmps,assign,body,hy,KG⟩:=lu 2 uX;rw[cC]at hy KG;clear xI F_ hps hsa xH Ty Ka T7 ih eh Kc Ga hcl hj jN J' uX hJ hJx hM hl hY dU oA hX GN hx1 hWM cC qq yB oe;refine oM func103 ?_;simp only[ntmps103,Nat.reduceAdd,Nat.reduceSub,ng];have jq:=fP;gi_wp2;refine KG.mono ?_;rintro e W2 (⟨rfl,zG,ke⟩|⟨rfl,zcY,ke⟩)
  ·rw[<-kf.o]at ke;have hx2:=(ke.same _ HWM.o.1 HWM.o.2).trans kJ.o;obtain⟨P0,P1,P2,P3,P4,P5,P6,P7,P8⟩:=j6 (q:=⟨⟨XU,⟨sn.toArray⟩,sa,sl,sc,sb,sm,se⟩,⟨fo',⟨fn.toArray⟩,fa,fl,fc,fb,fm,fe⟩,ca,cl,cc⟩) hx2;have CQ:=gS ⟨XU,⟨sn.toArray⟩,sa,sl,sc,sb,sm,se⟩ W2;simp only[FQ.val]at CQ;have MR:=ae CQ;have H2:=bS zG ((Kp.below eQ.o).trans ke) hx2;simp only at P0 P1 P2 P3 P4 P5 P6 P7 P8;clear zG ke hx2 CQ KG hy;gi_wp2_with fail;refine aO.2 (MR.o.mono ?_);rintro e W3 ⟨rfl,aS⟩;clear P0 P1 P2 P3 P4 P5 P6 P7 P8;have zL:=aM (HJ.o.1 _ _ _ ((Nw.below aS)) (show J (pre++[X]) W2 from H2.o.1)) (H2.o.2.1.trans (Kp.below aS));have ji:=ae (bY aS H2.o.2.2)
   cases td:br XU with
   |false=>
    have vI:=ae (show ps.reverse=Cn by rw[zcX.o,td];rfl);have D1:=zL;have SG:=ji;have HPz:=ae (HP.o.kp zL.o.2);have p3:=ao ji.o 3;have p7:=ao ji.o 7;clear aS td;gi_wp2;clear p3 p7;gi_loopw [40] (fun i wr=>∃k:Nat,k<=m0/\i=.int .i64 k/\J (pre++([X]++ba Cn (ss.take k) (fs.take k))) wr/\Kp M W3 wr) (fun i _=>m0-(intOf i).toNat)
    case atStart=>exact⟨0,bn _,rfl,by simpa[ba]using D1.o.1,Kp.refl _⟩
    case round=>
     have qwd:=();exact qau
   |true=>
    have vI:=ae (show(ps++[(sn,fn)]).reverse=Cn by rw[zcX.o,td];simp);have FF:=(HP.o.kp zL.o.2).1.cases;have HSh:=ae FF;have hold:((.slice ca cl cl:Value)=.slice none 0 0/\cl=0/\gE ps=[])\/∃b,(.slice ca cl cl:Value)=.slice (some b) cl cl/\(gE ps).length=cl*2/\∀j u,(gE ps)[j]?=some u->(W3.alloc (.cells #[.string ⟨sn.toArray⟩,.string ⟨fn.toArray⟩] 213)).drew.cell? (b.add j)=some u:=by
     rcases FF with⟨rfl,rfl,rfl⟩|⟨b,off,rfl⟩
     ·exact .inl ⟨rfl,rfl,by rw[ku wn.o.2.2.symm];rfl⟩
     ·exact .inr ⟨_,rfl,by rw[ip,<-wn.o.2.2],((HP.o.kp zL.o.2).1.later (((ar W3.heap.size W3).alloc (aK _) _).drew)).olds⟩
    have TI:=ae hold;have zg5:cl<=1000000:=by have:=wn.o.1;have:=wn.o.2.2;omega
    obtain⟨S,hS⟩:∃S:World->Prop,S=fun V=>Below W3.heap.size W3 V:=⟨_,rfl⟩;have f1:∀V,S V->V.cell? ⟨W.heap.size,1,none⟩=some (.string ⟨sn.toArray⟩):=fun V h=>by rw[hS]at h;exact aa h (ao ji.o 1)
    have f5:∀V,S V->V.cell? ⟨W.heap.size,5,none⟩=some (.string ⟨fn.toArray⟩):=fun V h=>by rw[hS]at h;exact aa h (ao ji.o 5)
    have dW:S W3.drew:=by rw[hS];exact(ar _ _).drew
    have c9:=ae hS;clear hS hold FF td aS;gi_wp2;refine lM S 14 dW fun jO b_=>?_;refine bH 0 16 (.slice ca cl cc) rfl b_ fun cK=>?_;simp only[am];refine bH 1 17 (.slice ca cl cc) rfl cK fun f_=>?_;simp only[am];refine bH 2 18 (.int .i64 (cl:Int)) rfl f_ fun gX=>?_;simp only[am];refine bH 3 19 (.slice ca cl cc) rfl gX fun iQ=>?_;simp only[am];refine bH 4 20 (.int .i64 (cl:Int)) rfl iQ fun jM=>?_;simp only[am];refine di 5 21 (.slice ca cl cl) rfl (fun V hX=>by rcases HSh.o with⟨rfl,rfl,rfl⟩|⟨b,off,rfl⟩<;>go_simp) jM fun km=>?_;simp only[am];refine bH 6 22 (.pointer (some ⟨W.heap.size,0,none⟩)) rfl km fun mU=>?_;simp only[am];refine bH 7 23 (.pointer (some ⟨W.heap.size,1,none⟩)) rfl mU fun q_=>?_;simp only[am];refine di 8 24 (.string ⟨sn.toArray⟩) rfl (fun V hX=>by have g0:=f1 V hX;go_simp) q_ fun D2=>?_;simp only[am];refine bH 9 25 (.pointer (some ⟨W.heap.size,4,none⟩)) rfl D2 fun vi=>?_;simp only[am];refine bH 10 26 (.pointer (some ⟨W.heap.size,5,none⟩)) rfl vi fun D3=>?_;simp only[am];refine di 11 27 (.string ⟨fn.toArray⟩) rfl (fun V hX=>by have g0:=f5 V hX;go_simp) D3 fun N0=>?_;simp only[am];refine bH 12 28 (.agg #[.string ⟨sn.toArray⟩,.string ⟨fn.toArray⟩]) rfl N0 fun Rf=>?_;simp only[am];refine cb 13 rfl fun K hK=>?_;go_simp;have lJ:Below W3.heap.size W3 (W3.alloc (.cells #[.string ⟨sn.toArray⟩,.string ⟨fn.toArray⟩] 213)).drew:=((ar _ W3).alloc (aK _) _).drew;have qwe:=();exact qaF
  ·have HH:=aM zcY ke;clear zcY ke KG hy;gi_wp2;go_ret;refine .inr ⟨rfl,_,HPp.o,HH.o.1,?_⟩;have h:=HH.o.2;rw[<-kf.o]at h;exact((Kp.below eQ.o).from _).trans h
 |clear qwf;obtain rfl:=gH.len;obtain rfl:=xG.len;obtain rfl:=DI.len;obtain rfl:=X6.len;exact qde
 |obtain rfl:=j7.len;obtain rfl:=I7.len;obtain rfl:=oY.len;obtain rfl:=zaD.len;subst he;have⟨R,hR⟩:=az (bc k ⟨.mk so n a s,.mk fo n' a' s',ps.reverse⟩);rw[<-hR];have tN:=hR;rw[Lt]at tN;have⟨n1,eB⟩:=az a.length;have⟨n2,jY⟩:=az a'.length;have⟨m1,jQ⟩:=az s.length;have⟨m2,sK⟩:=az s'.length;rw[<-eB]at hs j7;rw[<-jQ]at hs oY;rw[<-jY]at hf I7;rw[<-sK]at hf zaD;rw[<-eB,<-jY,<-jQ,<-sK];rw[<-eB,<-jY,<-jQ,<-sK]at tN;have⟨W1,cC⟩:=az (W.alloc (.cells #[.int .u8 so,.string ⟨n.toArray⟩,.slice sa n1 sc,.slice sb m1 se,.int .u8 fo,.string ⟨n'.toArray⟩,.slice fa n2 fc,.slice fb m2 fe,.slice ca cl cc] 89));have hb1:=dj cC;have jv:=Kh cC;have x1:=cA cC;have mn:n.length<=16:=by have h:=jC _ hp.s;simp only[mI,ak,bM]at h;exact h.2.1
  have nM:=jC _ hp.s;simp only[mI,ak,bM]at nM;have vD:=jC _ hp.f;have aI:cJ (.mk fo n' a' s'):=⟨by have:=hp.n;simp only at this;omega,iR (by omega) _ vD⟩;exact qbq):G:=h
theorem qbY(h:G:=by
 have ES:=dz.symm;simp only[ak,bM]at ES;obtain⟨hb1,bU,aS⟩:=ES;rw[dL]at hM;have HE:=ae hM;clear hM wk sM FK dz hb1 aS
 first
 |clear qvE;have qpp:=();exact qaj
 |clear qvF;have qpo:=();exact qaj
 |clear qwg;have qpk:=();exact qaj
 |have qph:=();exact qaj):G:=h
theorem qdy(h:G:=by
 have l2:=(hlk (W2.alloc (.cells #[.int .u8 0,.string ⟨#[]⟩,.slice none 0 0,.slice none 0 0] 36)).drew (bZ _ _ _ (by have:=H2.o.2.2.fs.lt;omega))).1
 first
 |clear ZU;have Rm:=ae (show R=true by rw[hE,hg]);have⟨W3,ec⟩:=az (W2.alloc (.cells #[.int .u8 0,.string ⟨#[]⟩,.slice none 0 0,.slice none 0 0] 36)).drew;have x3:W3.heap[w.heap.size+1]?=some (.cells #[.int .u8 16,.string ⟨n.toArray⟩,.slice sa n1 sc,.slice sb m1 se] 36 (0,0)):=by rw[ec];exact(aS.block _ (bQ H2.o.2.1)).trans H2.o.2.1
  have i0:=ao x3 0;have bV:=ae (show Below w.heap.size w W3 by rw[ec];exact H2.o.1.tr aS.drew);clear hlk hg aS hE x3 Kf bq Bw gH M0 Jk Lz SI;have up:=();exact qb0
 |clear qwi;rw[hg]at hE;simp only[show ¬((16:Int)=15) by decide,↓reduceIte]at hE;have qwj:=();exact qiU
 |have Rm:=ae (show R=false by rw[hE,hg];rfl);exact qiU):G:=h
theorem qdz(h:G:=by
 go_roundw
 case rel=>exact⟨k+1,by omega,by go_num,by rw[HS.o];simpa using HH.o.1,mJ.o.trans HH.o.2⟩
 case measure=>simp[intOf];omega):G:=h
theorem qiV(h:G:=by
 simp only[beq_self_eq_true,Bool.and_self,dL]at hm;have e0:(uo==uo)=true:=by simp
 have e1:(uo !=uo)=false:=by simp
 have e2:((k0:Int)!=(k0:Int))=false:=by simp
 have e3:((k1:Int)!=(k1:Int))=false:=by simp
 have⟨qb,MY⟩:=az (br uo);rw[<-MY]at hm Lr
 by_cases PQ:((xn==yn)||qb)=true
 first
 |clear qwk
  ·simp only[PQ,dL]at hm;clear MY;have up:=();exact qdA
  ·have G7:R=false:=by rw[hm];rw[Bool.not_eq_true]at PQ;rw[PQ];simp
   have qwm:=();exact qiW
 |·simp only[PQ,dL]at hm;clear MY;go_enter func83,ntmps83;cases qb
   ·have dQ:xn=yn:=by simpa using PQ
    subst dQ;have qwn:=();exact qdB
   ·have HM:Hd (R=(ct ps.reverse xa ya&&cX (ps++[(xn,yn)]).reverse xs ys)):=ae (by rw[hm];simp);clear hm;have up:=();exact qhO
  ·have G7:R=false:=by rw[hm];rw[Bool.not_eq_true]at PQ;rw[PQ];simp
   exact qiW):G:=h
theorem qaE(h:G:=by
 have HE:Hd (BX=false):=ae (hM.trans (by simp))
 first
 |clear qiX;clear hM wk sM FK;have qpm:=();exact qaj
 |clear qwo;clear hM wk sM FK OD;have qpq:=();exact qaj
 |clear qiu;clear hM wk sM FK dz;have qpj:=();exact qaj
 |clear hM wk sM FK dz;have qpg:=();exact qaj):G:=h
theorem qdC(h:G:=by
 have qwp:=();exact qiY):G:=h
theorem qb3(h:G:=by
 simp only[TQ.val,c_,Array.mk.injEq,cF,and_true,Value.bool.injEq,Value.string.injEq]at h2;obtain⟨rfl,rfl,rfl⟩:=h2
 first
 |clear qwq;exact qfM
 |clear qwr;have qoB:=();exact qab
 |clear qws;exact qbS
 |simp only at d0 d1 d2;obtain rfl:=gH.len;obtain⟨z0,z1,z2,y0,y1,y2⟩:=ir I2;have HW:=aM hw hyy;have HB:=uU I2 bD hu gH hf kC;have Ν:(pq.drop (j+1)).length=j+1-(j+1)+(n2-(j+1)):=by rw[HN.o.2.1];simp
  have HDl:=ae Ν;clear XS cr Cm bD pM I3 I2 eh sB hjp hBr hw eN hu gH hf kC hy hyy Ν;go_wp2;go_roundw
  case rel=>
   have x9:=sN (v0:=.bool uv) (v1:=.string ⟨xn.toArray⟩) (v2:=.slice ua xa.length uc) HB.o.1;have k9:=fW (W:=wr) (b:=wo.heap.size) (v0:=.bool uv) (v1:=.string ⟨xn.toArray⟩) (v2:=.slice ua xa.length uc);refine⟨j+1,.mk uv xn xa,xa,⟨uv,⟨xn.toArray⟩,ua,xa.length,uc⟩,ua,uc,by omega,by go_num,rfl,HB.o.2.1.trans k9,x9,HB.o.2.2.2.1.move (fun b hb hlt=>⟨hb,k9.same b hlt (by have:=HZ.o;omega)⟩),HB.o.2.2.2.2.1.args,fun h=>?_,fun _=>⟨HB.o.2.2.1.move (fun b hb hlt=>⟨hb,k9.same b hlt (by have:=HZ.o;omega)⟩),HB.o.2.2.2.2.1,fun h=>?_⟩⟩
   ·rw[HW.o.1,DY (fun hd=>by have:=HDl.o;rw[hd]at this;simp at this;omega),HW.o.2];rfl
   ·have hd:pq.drop (j+1)=[]:=ku (by have:=HDl.o;omega);rw[HW.o.1,hd];exact HW.o.2
  case measure=>simp[intOf];omega):G:=h
theorem qbS(h:G:=by
 have f0:=fun x:aA wr=>x.get (aa aD c0);have f1:=fun x:aA wr=>x.get (aa aD c1);have f2:=fun x:aA wr=>x.get (aa aD c2)
 first
 |clear qwt;have f3:=fun x:aA wr=>x.get (aa aD kK);have Ss:=();exact qdD
 |clear qwv;have f3:=fun x:aA wr=>x.get (aa aD c3);have qww:=();exact qdD
 |clear qtT;have f3:=fun x:aA wr=>x.get (aa aD kK);exact qdD
 |have DH:(k:Int)<(k0:Int):=by omega
  have mn:=hf.name;have zbO:=jf xn;have htd:=V7 xn.length;have⟨q,hq⟩:=az (xn.length / 40);have MY:q<=50000:=by omega
  have⟨R,hR⟩:=az (kX xa (left-m) 0);have hRb:=(pk xa (left-m) 0).2.1;have DI:=hf.args.sz;have CC:=fun(x:aA wr)=>sD ok x.w ua ul uc (left-m) hf.args ((gH.later aD).later x.below) (by omega) (by omega);simp only[Tm.a]at CC;rw[<-hR]at CC hRb;have vw:kX l left 0=kX (l.drop (k+1)) left (m+(1+q+R)):=by
   rw[hcut];simp only[kX,aG te,OQ];rw[hq,hR]
  have Od:m+(1+q+R)<=100002000000:=by
   have h5:=(pk l left 0).2.1;have h6:=(pk (l.drop (k+1)) left (m+(1+q+R))).1;omega
  rw[<-hq]at htd;have qwx:=();exact qiZ):G:=h
theorem qgN(h:G:=by
 have HF:=ae (HE.o.trans lV);have⟨Cv,mJ⟩:=bi hj bD;clear lV hj bD ha hc ht;go_wp2;go_ret;have hNN:=HN.o;have h8:=Cv.o;rw[show left-1-(af a:Int)-(ah s:Int)=left-((af a+ah s+1:Nat):Int) by omega,<-hNN]at h8;exact eF.yes HF.o mJ.o h8 (by omega)):G:=h
theorem qbf(h:G:=by
 rw[<-Ch.o]at CC;unfold FQ.val at CC;clear ec gU kl d0 d1 d2 d3 y2
 first
 |clear Ss;have qtl:=();exact qac
 |have qtm:=();exact qac):G:=h
theorem qcz(h:G:=by
 obtain⟨es,_,ho,_⟩:=h;rcases gR ho with⟨rfl,h0⟩|⟨g,cap,rfl,_⟩
 ·exact⟨none,0,by rw[h0]⟩
 ·exact⟨_,_,rfl⟩):G:=h
theorem qi0(h:G:=by
 refine bH 7 98 (.tuple #[.agg #[.bool u0,.string u1,.slice u2 u3 u4],.bool I.isSome]) rfl km fun mU=>?_;simp only[am];refine bH 8 106 (.agg #[.bool u0,.string u1,.slice u2 u3 u4]) rfl mU fun q_=>?_;simp only[am];refine bH 9 107 (.bool I.isSome) rfl q_ fun D2=>?_;simp only[am]
 first
 |clear qwy;refine cb 10 rfl fun K hK=>?_
  go_simp;have⟨EB,Al⟩:=az w6.heap.size;have⟨A1,sG⟩:=az (w6.alloc (.cells #[.bool false,.string ⟨#[]⟩,.slice none 0 0] 43));have wS:Below W5.heap.size W5 A1:=by rw[sG];exact H6.o.1.alloc H6.o.1.size _
  have zc3:=dj sG;exact qdF
 |refine cb 11 rfl fun K hK=>?_
  go_simp;refine hK _ _ (fun _=>by rw[c9.o];exact Below.kp1 H6.o.1 fW (by have:=HA.o.2.2;omega)) (fun _=>?_);clear hK K;refine cb 12 rfl fun K hK=>?_;have qq7:=();exact qaa):G:=h
theorem qdG(h:G:=by
 go_wp2_with (go_at_call 191;refine(CP.o _).mono ?_;rintro e w' ⟨rfl,rfl⟩);go_ret;exact⟨rfl,ar _ _⟩):G:=h
theorem qdH(h:G:=by
 have lw:(!(xn==yn))=true:=by simpa using dQ
 have HE:=ae (show R=false by rw[tO.o];simp[iZ]);go_wp2
 first
 |clear up;rw[<-gh.o];go_ret;exact⟨aJ HE.o.symm,cQ.o.trans ((ar _ _).mono (by have:=cQ.o.size;omega))⟩
 |go_ret;exact⟨aJ HE.o.symm,cQ.o.trans (HBp.o.mono (by have:=cQ.o.size;omega))⟩):G:=h
theorem qdx(h:G:=by
 have HX:=bS E3 mj h3;clear h2 h3 h4 hd dU E3 mj hD;gi_wp2_with fail;refine fE (B:=w.heap.size) HX.o.2.1 (fun w' hn=>?_);have h0:=hn.cell (ao HX.o.2.2 0)
 first
 |clear up;exact⟨.int .i64 72,by simp[results,results71,go_sem,h0],by rw[HE.o],kU HX.o.1 hn⟩
 |clear it;exact⟨.int .i64 6,by simp[results,results71,go_sem,h0],by rw[HE.o],kU HX.o.1 hn⟩
 |exact⟨.int .i64 3,by simp[results,results71,go_sem,h0],by rw[HE.o],kU HX.o.1 hn⟩):G:=h
theorem qhg(h:G:=by
 have fu:∀V,S V->V.cell? ⟨w.heap.size+1,0,none⟩=some (.bool zv)/\V.cell? ⟨w.heap.size+1,1,none⟩=some (.string zn)/\V.cell? ⟨w.heap.size+1,2,none⟩=some (.slice za zl zc):=fun V h=>by rw[hS]at h;exact⟨aa h (ao xu 0),aa h (ao xu 1),aa h (ao xu 2)⟩
 clear xu
 first
 |clear qsI;have qwB:=();exact qaz
 |have qwC:=();exact qaz):G:=h
theorem qdI(h:G:=by
 have gU:=dj ec;have kl:=cA ec;rw[<-ec];have f0:=fun x:aA W3=>x.get (ao kl 0);have f1:=fun x:aA W3=>x.get (ao kl 1);have f2:=fun x:aA W3=>x.get (ao kl 2)
 first
 |clear qwD;have f3:=fun x:aA W3=>x.get (ao kl 3);have g0:=fun x:aA W3=>x.get (aa gU xW.o);have qwE:=();exact qi2
 |clear qwF;have f3:=fun x:aA W3=>x.get (aa gU xW.o);have f4:=fun x:aA W3=>x.get (aa gU my.o.1);have f5:=fun x:aA W3=>x.get (aa gU my.o.2.1)
  first
  |clear qoI;have f6:=fun x:aA W3=>x.get (aa gU my.o.2.2);have bV:=ae gU;have CC:=ae (fun(x:aA W3)=>Tx.o ya[k] ps (.slice pa p0 pc) ok ok' x.w u u' (by rw[<-wH.o];exact hps) Cg.o ((HU.o.later bV.o).later x.below) ((vJ.o.later bV.o).later x.below) ((qZ.o.later bV.o).later x.below));have qwG:=();exact qb4
  |have f6:=fun x:aA W3=>x.get (aa gU my.o.2.2);have bV:=ae gU;have CC:=ae (fun(x:aA W3)=>Tx.o ya[k] ps (.slice pa p0 pc) ok ok' x.w u u' (by rw[<-wH.o];exact hps) Cg.o (Fb HWf.o (aH bA)) ((HU.o.later bV.o).later x.below) ((vJ.o.later bV.o).later x.below) ((qZ.o.later bV.o).later x.below));have qwH:=();exact qb4
 |have g0:=fun x:aA W3=>x.get (aa gU xW.o);exact qi2):G:=h
theorem qa5(h:G:=by
 have qwI:=();exact qaY):G:=h
theorem qch(h:G:=by
 go_enter func115,ntmps115;go_wp2;go_ret;exact⟨rfl,rfl⟩):G:=h
theorem qaJ(h:G:=by
 obtain⟨a,cap,hv,hc,h⟩:=h;refine⟨a,cap,hv,hc,?_⟩
 first
 |clear it;rcases h with h|⟨b,off,ha,hok,h⟩
  ·exact .inl h
  ·by_cases h0:l=[]
   ·exact .inl h0
   ·have hk:=hb b hok (World.block_lt_of_cell? W _ (h 0 (jR.2 h0)));exact .inr ⟨b,off,ha,hk.1,fun j hj=>du hk.2 (h j hj)⟩
 |clear an;rcases h with h|⟨b,off,ha,h⟩
  ·exact .inl h
  ·exact .inr ⟨b,off,ha,fun j hj=>aa hb (h j hj)⟩
 |clear up;rcases h with⟨h,_⟩|⟨b,off,ha,h⟩
  ·exact .inl h
  ·exact .inr ⟨b,off,ha,trivial,h⟩
 |clear GB;rcases h with h|⟨b,off,ha,h⟩
  ·exact .inl h
  ·subst ha;exact .inr ⟨b,off,rfl,fun j hj=>hk.cell (hf b (by rw[hv];rfl)) (h j hj)⟩
 |rcases h with h|⟨b,off,ha,hok,h⟩
  ·exact .inl h
  ·exact .inr ⟨b,off,ha,hok,fun j hj=>(hg.cell_far _ (k_ (h j hj)) (fun e=>jd b e.symm hok)).trans (h j hj)⟩):G:=h
theorem qcJ(h:G:=by
 go_wp2_with (go_at_call 164;refine(CC.o _ HW.o).mono ?_;rintro e w1 ⟨rfl,hb1⟩;have eQ:=ae hb1;clear hb1);go_roundw
 first
 |clear up
  case rel=>exact⟨k+1,by omega,by go_num,HB.o.trans ((HW.o.trans (eQ.o.mono HW.o.size)).mono HB.o.size),by rw[HS.o];simp⟩
  case measure=>simp[intOf];omega
 |clear Ss
  case rel=>exact⟨k+1,by omega,by go_num,HB.o.trans ((HW.o.trans (eQ.o.mono HW.o.size)).mono HB.o.size),by rw[HS.o];simp;omega⟩
  case measure=>simp[intOf];omega
 |case rel=>exact⟨k+1,by omega,by go_num,HB.o.trans ((HW.o.trans (eQ.o.mono HW.o.size)).mono HB.o.size),by rw[HS.o,eB];simp⟩
  case measure=>simp[intOf];omega):G:=h
theorem qcs(h:G:=by
 obtain⟨yv,yn,ya⟩:=u;obtain⟨s1,h1,gH⟩:=aW.1 hq;obtain⟨s2,h2,xG⟩:=aW.1 gY;obtain⟨uv,un,ua,ul,uc⟩:=q;obtain⟨vv,vn,va,vl,vc⟩:=q'
 first
 |clear qmP;have qtO:=();exact qaI
 |clear qm9;have qtQ:=();exact qaI
 |exact qaI):G:=h
theorem qi3(h:G:=by
 obtain⟨⟨nx,fx⟩,uF⟩:∃z,z=x.fs[k]:=⟨_,rfl⟩;obtain⟨⟨ny,fy⟩,Xe⟩:∃z,z=y.fs[k]:=⟨_,rfl⟩;obtain⟨b,off,u,rfl,_,hu,c0,c1,c2,c3,c4⟩:=HQ.o.1.get bA;obtain⟨b',kQ,u',rfl,_,iA,kK,lW,lX,Bu,c4'⟩:=HQ.o.2.2.1.get lj;have mR:=HF.o.1 _ (aH bA)
 first
 |clear qwJ;rw[<-uF]at hu c0 mR;rw[<-Xe]at iA kK;simp only at hu iA c0 kK mR;have an:=();exact qhT
 |have pM:=HF.o.2.1 _ (aH lj);rw[<-uF]at hu c0 mR nH;rw[<-Xe]at iA kK pM nH;simp only at hu iA c0 kK mR pM nH;obtain⟨rfl,PU⟩:=nH;exact qhT):G:=h
theorem qah(h:G:=by
 obtain⟨b,off,u,rfl,_,hu,c0,c1,c2⟩:=el.o.get dG
 first
 |clear qwK;have qoM:=();exact qab
 |clear qwL;have qoN:=();exact qab
 |clear qwM;have qoF:=();exact qab
 |clear qwN;have qov:=();exact qab
 |clear qwO;have qo0:=();exact qab
 |clear qwP;have qoD:=();exact qab
 |clear qwQ;have qoY:=();exact qab
 |clear qwR;have qoL:=();exact qab
 |clear qwS;have qoJ:=();exact qab
 |clear qwT;have qoz:=();exact qab
 |clear qwU;exact qab
 |clear qwV;have qo2:=();exact qab
 |have qox:=();exact qab):G:=h
theorem qi4(h:G:=by
 rw[hp];clear hp;have HLn:=ae (fun(W:World)(h:Below W0.heap.size W0 W)=>wM▸HLk.o W h n);clear wM rd;have qwW:=();exact qi5):G:=h
theorem qi6(h:G:=by
 refine di 9 73 (.string ⟨yn.toArray⟩) rfl (fun V hX=>by have g1:=f1 V hX;go_simp) D2 fun vi=>?_;simp only[am];refine bH 10 74 (.agg #[.string ⟨xn.toArray⟩,.string ⟨yn.toArray⟩]) rfl vi fun D3=>?_;have qwX:=();exact qbt):G:=h
theorem qhP(h:G:=by
 go_loopw [47] (fun i wr=>∃k:Nat,k<=k0/\i=.int .i64 k/\Below X0.heap.size X0 wr/\R=(ct ps.reverse (xa.drop k) (ya.drop k)&&cX (ps++[(xn,yn)]).reverse xs ys)) (fun i _=>k0-(intOf i).toNat)
 case atStart=>exact⟨0,bn _,rfl,ar _ _,by simpa using HM.o⟩
 first
 |clear qui
  case round=>
   exact qaA
 |case round=>
   have quC:=();exact qaA):G:=h
theorem qi7(h:G:=by
 have HX:=ae (show(w.alloc (.cells #[.int .u8 qo,.string ⟨n.toArray⟩,.slice qa m0 qc,.slice qb k0 qe] 36)).heap[w.heap.size]?=some (.cells #[.int .u8 qo,.string ⟨n.toArray⟩,.slice qa m0 qc,.slice qb k0 qe] 36 (0,0))from aq rfl)
 first
 |clear Ss;go_enter func97,ntmps97;go_wp2_with (go_at_call 164;refine(CT.o _ HB.o).mono ?_;rintro e w1 ⟨rfl,hb1⟩;have p3:w1.cell? ⟨w.heap.size,3,none⟩=some (.slice qb k0 qe):=ao (bY hb1 HX.o) 3;have eQ:=ae (HB.o.trans (hb1.mono HB.o.size));clear hb1);go_loopw [5,15] (fun r i wr=>∃k:Nat,k<=k0/\i=.int .i64 k/\Below w.heap.size w wr/\r=.int .i64 ((A+jo x (s.take k):Nat):Int)) (fun _ i _=>k0-(intOf i).toNat)
  case atStart=>exact⟨0,bn _,rfl,eQ.o,by simp[jo]⟩
  case round=>
   obtain⟨k,hk,rfl,aD,rfl⟩:=hrel
   by_cases hlt:k<k0
   ·have bA:=cG gT.o hlt;obtain⟨b,off,u,rfl,_,hu,c0,c1,c2,c3⟩:=gD.o.get bA;have jX:=Cp x bA;have hb1:=yT x (s.take (k+1));have bU:=de s (k+1);have vh:ah s<=ag (.mk qo n a s):=by unfold ag;omega
    exact qi8
   ·obtain rfl:k=k0:=by omega
    have h1:s.take k=s:=by rw[gT.o];exact dA
    rw[h1];have cQ:=ae aD;clear h1 aD;go_wp2;go_ret;exact⟨rfl,cQ.o⟩
 |have⟨W1,cC⟩:=az (w.alloc (.cells #[.int .u8 qo,.string ⟨n.toArray⟩,.slice qa m0 qc,.slice qb k0 qe] 36));have HB:=ae (show Below w.heap.size w W1 by rw[cC];exact dp);rw[<-cC]at HX;have f0:∀x:aA W1,x.w.cell? ⟨w.heap.size,1,none⟩=some (.string ⟨n.toArray⟩):=fun x=>x.get (ao HX.o 1);have f1:∀x:aA W1,x.w.cell? ⟨w.heap.size,2,none⟩=some (.slice qa m0 qc):=fun x=>x.get (ao HX.o 2);have kf:=ae cC;go_enter func23,ntmps23;clear cC;go_wp2;rw[<-kf.o];have qtn:=();exact qac):G:=h
theorem qdJ(h:G:=by
 rw[<-eB];have⟨W1,cC⟩:=az (w.alloc (.cells #[.bool tv,.string ⟨n.toArray⟩,.slice ta n1 tc] 43));have hb1:=dj cC;have x1:=cA cC
 first
 |clear qwZ;have hE:lm k.ts (.mk tv n a)=if(tv&&eA n)=true then(bG k.ts n).isNone else a.any (lm k.ts):=by rw[lm,tV]
  have⟨R,hR⟩:=az (lm k.ts (.mk tv n a));rw[<-hR]at hE⊢;have HE:=ae hE;have CA:=fun(V:World)(h:Below W1.heap.size W1 V)=>vR (lm k.ts) a PU kb W0 (fun t ht=>ih t ht (rO.args.mem ht)) ok V ta n1 tc ((hb.tr hb1).tr h) ((j7.later hb1).later h);have Ji:=ae CA;have qw0:=();exact qi9
 |clear qw1;have⟨R,hR⟩:=az (th k.ts (.mk tv n a));have hE:=hR;rw[th]at hE;have qw2:=();exact qja
 |have⟨R,hR⟩:=az (mG k.ts (.mk tv n a));have hE:=hR;rw[mG]at hE;exact qja):G:=h
theorem qdK(h:G:=by
 have qw3:=();exact qdB):G:=h
theorem qcp(h:G:=by
 unfold Oper.wp execOp;simp only[ho,resolve,invoke,builtin,Sem.run_bind,Sem.run_pure,Result.andThen_ok,List.map_toArray,cM,List.map_nil,hs,hx,hr]
 first
 |clear an;exact hK _ _ (h v' w' h2 h3)
 |clear it;exact hK _ _ (h v' w' h3 h4)
 |exact hK _ _ (h v' w' h3 h4 h5)):G:=h
theorem qgu(h:G:=by
 have HQ:=gN xI F_ hps Ql oe;have HL:=uU hl Ce CY j8 J9 dU;clear h1 h2 h3 h4 h5 h6 h7 h8 xI F_ hps Ql oe hl Ce CY j8 J9 dU;gi_wp2;refine⟨Kp.below HL.o.2.2.2.1,⟨k',Bv,yL,YG.o⟩,fun W2 jr zH ke=>?_⟩;obtain⟨k2,nF2,Gc,g1,g2,g3,g4,g5,g6,g7,g8⟩:=zH
 first
 |clear qqW;have qqn:=();exact qa3
 |have qqp:=();exact qa3):G:=h
theorem qbe(h:G:=by
 have hx:=jV 63 r;simp at hs hx;have h1:((1:Int)<=((63::r).length:Int)):=by simp;omega
 first
 |clear qw4;exact qeo
 |clear qw5;have vC:((r.length:Int)+1)<=16:=by simp at hl;omega
  clear h hp;exact qcf
 |clear qw6;have vC:((r.length:Int)+1)<=16:=by simp at hl;omega
  clear h hp;exact qcg
 |clear ZU;have c0:w.drew.cell? ⟨B,0,none⟩=some (.int .u8 so):=ao hB 0;have c1:w.drew.cell? ⟨B,1,none⟩=some (.string sn):=ao hB 1;have c2:w.drew.cell? ⟨B,2,none⟩=some (.slice sa sl sc):=ao hB 2;have c3:w.drew.cell? ⟨B,3,none⟩=some (.slice sb sm se):=ao hB 3;have c4:w.drew.cell? ⟨B,4,none⟩=some (.int .u8 fo):=ao hB 4;have c5:w.drew.cell? ⟨B,5,none⟩=some (.string fn):=ao hB 5;have c6:w.drew.cell? ⟨B,6,none⟩=some (.slice fa fl fc):=ao hB 6;have c7:w.drew.cell? ⟨B,7,none⟩=some (.slice fb fm fe):=ao hB 7;have c8:w.drew.cell? ⟨B,8,none⟩=some (.slice ca cl cc):=ao hB 8;have⟨G,hG⟩:=az ((ps.map (·.1)).contains r);rw[<-hG]at HC⊢;clear hv hB hG;go_enter func196,ntmps196;go_upto_region 1 with fail;go_region_with (go_at_call 163;refine HC.o.mono ?_;rintro e w4 ⟨rfl,aY⟩;have H4:=ae (((ar w.heap.size w).drew).trans aY);clear aY)
  all_goals (go_wp2;go_ret;exact⟨rfl,H4.o⟩)
 |clear h
  first
  |clear ql4;exact qer
  |go_enter func67,ntmps67;go_wp2_with (first|(go_at_call 119;refine(C1.o _).mono ?_;rintro e w' ⟨rfl,hb⟩)|(go_at_call 121;refine(n9 r _ hr).mono ?_;rintro e Iw ⟨rfl,bU⟩));exact qdL):G:=h
theorem qjb(h:G:=by
 have kH:Kp M w wr:=(Kp.below H4.o.1).trans bD;have iX:∀b,b<w.heap.size->¬M b:=fun b hb=>by rw[HM.o];rintro(h|h)<;>omega
 have d0:=kH.cell (iX _ hok) c0;have d1:=kH.cell (iX _ hok) c1;have d2:=kH.cell (iX _ hok) c2;have d3:=kH.cell (iX _ hok) c3
 first
 |clear it;have d4:=kH.cell (iX _ hok) c4;have⟨nm,dQ⟩:=az (b.fs[k].1);rw[<-dQ]at d0;have ZU:=();exact qdu
 |have⟨nm,dQ⟩:=az (b.ts[j].1);rw[<-dQ]at d0;have up:=();exact qjc):G:=h
theorem qde(h:G:=by
 obtain⟨pa,pl,pc,rfl⟩:∃pa pl pc,v=.slice pa pl pc:=by obtain⟨a,c,h,_⟩:=hp;exact⟨_,_,_,h⟩
 obtain rfl:=hp.len;have xH:=hf.args
 first
 |clear qtP;have hlen:=xH.len;have hm:=G6 ps.reverse uv vv xn yn xa ya;have qrF:=();exact qgJ
 |clear qtU;have hlen:=xH.len;have zgk:(!uv||xa.isEmpty)=true:=by unfold lI at CG;simp only[ak]at CG;exact CG.1
  have HWf:Hd (eC xa=true):=ae (by unfold lI at CG;simp only[ak]at CG;exact CG.2);clear CG;have hm:=G6 ps.reverse uv vv xn yn xa ya;exact qgJ
 |have Ka:=hf.subs;have hlen:=xH.len
  first
  |clear qnd;have qvH:=();exact qiw
  |have HWf:Hd (eC xa=true):=ae (by unfold iV at CG;simp only[ak]at CG;exact CG.1);have HWs:Hd (gy xs=true):=ae (by unfold iV at CG;simp only[ak]at CG;exact CG.2);clear CG;exact qiw):G:=h
theorem qgt(h:G:=by
 have YG:=bS h1 (bY j8 h2) (h3.trans (Kp.below j8));have HQ:=cH xI hps Ql oe;have HL:=uU hl Ce CY j8 J9 dU;clear h1 h2 h3 xI F_ hps Ql oe hl Ce CY j8 J9 dU;gi_wp2;refine⟨Kp.below HL.o.2.2.2.1,YG.o,fun W2 jr zH ke=>?_⟩;obtain⟨g1,g2,g3⟩:=zH
 first
 |clear qqS;have qqq:=();exact qa3
 |have qqs:=();exact qa3):G:=h
theorem qhN(h:G:=by
 intro us3 ds3 wq hrel;obtain⟨j,hj,hu3,AZ,bD,Kg,gH,kj,RP,RQ,eR,vh,tC,CX,jm⟩:=hrel;exact qfk):G:=h
theorem qfI(h:G:=by
 exact qcI):G:=h
theorem qjd(h:G:=by
 have lG:j<ps.length:=by rw[<-wH.o];omega
 rw[show(((j+1:Nat):Int)-1)=(j:Int) by omega];rw[K8 lG,DL]at ht;obtain⟨b,off,rfl,g0,g1⟩:=HP.o.get lG;obtain⟨⟨p1,p2⟩,hpj⟩:∃x,ps[j]=x:=⟨_,rfl⟩;rw[hpj]at ht g0 g1;simp only at ht g0 g1
 first
 |clear Ss;have aD:=cQ.o.trans (dS.mono (by omega));have f0:=fun x:aA wr=>x.get (aa aD g0);have f1:=fun x:aA wr=>x.get (aa aD g1);have f2:=fun x:aA wr=>x.get (aa dS (ao HX.o 1));have f3:=fun x:aA wr=>x.get (aa dS (ao HY.o 1));have hjj:(j:Int)<(p0:Int):=by omega
  have⟨oh,cR⟩:=bi dS aD;clear dS aD g0 g1 hpj
  by_cases ha:p1=xn<;>by_cases hb:p2=yn
  ·subst ha;subst hb;have up:=();exact qje
  ·subst ha;have up:=();exact qjf
  ·subst hb;have up:=();exact qjg
  ·have iZ:(p1==xn)=false:=by simpa using ha
   have up:=();exact qjh
 |have aD:=cQ.o.trans (dS.mono cQ.o.size);have⟨f0,f1⟩:=C8 aD g0 g1;exact qji):G:=h
theorem qaU(h:G:=by
 obtain⟨sB,hi,AV,xV,B8⟩:=info_parts ib;obtain⟨GP,hj,lU,Ba,QR⟩:=info_parts ju
 first
 |clear qma;intro t
  induction t using Fm.ind with
  |h o n a s ih=>
   intro aI ok w q hq;have hp:bI (.mk o n a s)=.mk o n (a.map aU) (s.map bI):=by simp[bI,nn,A_]
   rw[hp];clear hp;have qxe:=();exact qar
 |clear qmT;have NE:=aM oe hps;clear oe hps;intro f
  induction f using Fm.ind with
  |h o n a s ih=>
  intro aI L ins hL Tz vL ok w fq XA cV hq;obtain⟨qo,qn,qa,ql,qc,qb,qm,qe⟩:=fq;obtain⟨s1,s2,hs,bN,em⟩:=aX.1 hq;exact qgi
 |clear qm1;intro W0 f nx z aI hnd CG Q_ sM uF hfz hnz ok Q' w q zq hT hq hz;obtain⟨o,n,a,s⟩:=f;have Bm:∀t∈s,ag t<=100000/\iV t=true/\il t=true/\a_ t<=kk:=fun t ht=>by
   simp only[iV,ak]at CG;have zg1:=Q_;simp only[il,ak]at Q_;have h1:=mQ s t ht;have h2:=mP s t ht;simp only[ag]at hnd;simp only[a_]at sM;exact⟨by omega,(kT s).1 CG.2 t ht,(kg s).1 Q_.2 t ht,by omega⟩
  have xI:br o=true->a=[]/\∃g,s=[g]:=fun h=>rJ h Q_;have⟨HQs,HS4,gZ,PG⟩:=f8 xI Bm IH uF;have TR:=aM hfz hnz;have⟨HZ,TS⟩:=bi hz hT;have HFq:=aM aI hq;obtain⟨zv,zn,za,zl,zc⟩:=zq;simp only[TQ.val]at HZ⊢;have ih:=trivial;have qxf:=();exact qar
 |clear qnX;exact qcC
 |obtain⟨i0,mx,oO,jv,iG⟩:=info_parts Ii;intro t
  induction t using Fm.ind with
  |h o n a s ih=>
   intro aI fr c ok w q mf nf av hT hq zbS uY Z5 hcl wM;have hNM:eb fr c (.mk o n a s)=.mk o (if br o then dy (fr++c.map (·.2))else n) (a.map (ep (s8 c))) (s.map (eb fr (if br o then(n,dy (fr++c.map (·.2)))::c else c))):=by simp only[eb,gJ,Fo]
   have⟨PM,hPM⟩:=az (eb fr c (.mk o n a s));rw[<-hPM];rw[<-hPM]at hNM;have HNM:=ae hNM;clear hNM hPM;obtain⟨pa,p0,pc,rfl⟩:∃pa p0 pc,av=.slice pa p0 pc:=by obtain⟨a,cap,rfl,_⟩:=uY;exact⟨_,_,_,rfl⟩
   have te:=zbS.lt;have⟨HT,zbT,qZ,HFr,HCl,HCn,HMl⟩:=Xh hT zbS uY Z5 hcl wM te;clear hT zbS uY Z5 hcl wM te;exact qar):G:=h
theorem qjj(h:G:=by
 have lp:=H3.o.2.2.later H5.o;obtain⟨⟨z0,z1,z2,z3,z4⟩,_r,Lx,MT,_,_,Ed⟩:=lp.termOf (x:=y) (by have:=HY.o.1;omega);simp only[TQ.val]at Ed;have bA:=lp.ts.lt;obtain⟨S,hS⟩:∃S:World->Prop,S=fun V=>Below w5.heap.size w5 V:=⟨_,rfl⟩
 first
 |clear qxg;have ff:∀V,S V->V.cell? ⟨kb,1,none⟩=some (.map (some mT))/\(Instr.lookup 146 (.map (some mT)) (.string ⟨y.toArray⟩) false).run prog V=.ok (.agg #[.bool z0,.string z1,.slice z2 z3 z4]) V/\V.cell? ⟨W2.heap.size,0,none⟩=some (.int .u8 g0)/\V.cell? ⟨W2.heap.size,1,none⟩=some (.string g1)/\V.cell? ⟨W2.heap.size,2,none⟩=some (.slice g2 g3 g4)/\V.cell? ⟨W2.heap.size,3,none⟩=some (.slice g5 g6 g7):=fun V h=>by
   exact qjk
  have dW:S w5.drew:=by rw[hS];exact(ar _ _).drew
  have HCt:=ae (fun(V:World)(h:Below w5.heap.size w5 V)=>nd _ Lx (by omega) _ V ⟨z0,z1,z2,z3,z4⟩ (_r.later h));have⟨nt,zO⟩:=az (ap (b8 k.ts y));have Rt:1<=nt:=by rw[zO];exact ln _
  have hE:=HE3.o;simp only[TQ.val,<-zO]at HCt;rw[<-zO]at MT hE;have⟨m2,sK⟩:=az (nt-1);have⟨m3,WU⟩:=az (n0*m2);have sS:m3<=400*1000:=by rw[WU];exact Nat.mul_le_mul HY.o.2.1 (by omega)
  rw[<-sK,<-WU]at hE;have Ss:=();exact qjl
 |have ff:∀V,S V->V.cell? ⟨kb,1,none⟩=some (.map (some mT))/\(Instr.lookup 146 (.map (some mT)) (.string ⟨y.toArray⟩) false).run prog V=.ok (.agg #[.bool z0,.string z1,.slice z2 z3 z4]) V/\V.cell? ⟨w4.heap.size,0,none⟩=some (.int .u8 g0)/\V.cell? ⟨w4.heap.size,1,none⟩=some (.string g1)/\V.cell? ⟨w4.heap.size,2,none⟩=some (.slice g2 g3 g4)/\V.cell? ⟨w4.heap.size,3,none⟩=some (.slice g5 g6 g7):=fun V h=>by
   exact qjk
  have dW:S w5.drew:=by rw[hS];exact(ar _ _).drew
  have HR5:=ae (show RS=gQ dM (b8 kd.ts y) f by rw[HB.o.2.2.2.2,aw h0]);have hbd:=((H3.o.1.tr H5.o).tr (ar w5.heap.size w5).drew);have CP:=yG WB f dM (b8 kd.ts y) yU.o.2.1 (by have:=yU.o.2.2.1;omega) yU.o.2.2.2.1 yU.o.2.2.2.2 (by have:=HY.o.2.1;omega) Lx (by omega) _ _ w5.drew ⟨g0,g1,g2,g3,g4,g5,g6,g7⟩ ⟨z0,z1,z2,z3,z4⟩ (TS.o.next hbd) (yU.o.1.later hbd) (_r.later ((ar w5.heap.size w5).drew));simp only[FQ.val,TQ.val]at CP;have⟨NT,HX5,c9⟩:=cU CP x15 hS;clear hS lp _r Lx MT Ed bA hbd CP y5 x15 h0;go_upto_region 9 with fail;clear oO jv iG;refine(wpIn_wide (n:=3)).1 ?_;refine lM S 9 dW fun jO b_=>?_;refine di 0 49 (.agg #[.int .u8 g0,.string g1,.slice g2 g3 g4,.slice g5 g6 g7]) rfl (fun V hX=>by obtain⟨h0,h1,h2,h3,h4,h5⟩:=ff V hX;go_simp) b_ fun Vq=>?_;simp only[am];refine bH 1 50 (.string ⟨dM.toArray⟩) rfl Vq fun Vr=>?_;simp only[am];refine bH 2 51 (.pointer (some ⟨kb,0,none⟩)) rfl Vr fun OD=>?_;simp only[am];refine bH 3 52 (.pointer (some ⟨kb,0,none⟩)) rfl OD fun Vs=>?_;simp only[am];refine bH 4 53 (.pointer (some ⟨kb,1,none⟩)) rfl Vs fun hT4=>?_;simp only[am];refine di 5 54 (.map (some mT)) rfl (fun V hX=>by obtain⟨h0,h1,h2,h3,h4,h5⟩:=ff V hX;go_simp) hT4 fun hT5=>?_;simp only[am];refine bH 6 55 (.string ⟨y.toArray⟩) rfl hT5 fun hT6=>?_;simp only[am];refine di 7 56 (.agg #[.bool z0,.string z1,.slice z2 z3 z4]) rfl (fun V hX=>by obtain⟨h0,h1,h2,h3,h4,h5⟩:=ff V hX;go_simp) hT6 fun hT7=>?_;simp only[am];refine cb 8 rfl fun K hK=>?_;go_simp;refine aO.2 (NT.o.mono ?_);rintro e w7 ⟨⟨⟨p0,p1,p2,p3,p4,p5,p6,p7⟩,rfl,hp⟩,g_⟩;have H7:=ae (((ar w5.heap.size w5).drew).trans g_);have HP7:=ae hp;have x7:=bY H7.o HX5.o;have Ic:=ae x7;obtain⟨i0,i1,i2,i3,q0,q1,q2,q3⟩:=dw x7;refine hK _ _ (fun _=>by rw[c9.o];exact H7.o) (fun _=>?_);clear hK K g_ x7 hp;refine cb 9 rfl fun K hK=>?_;have qrl:=();exact qaa):G:=h
theorem qim(h:G:=by
 rw[<-eh];have hw:IntKind.i64.wrap ((m0:Int)+(m2:Int))=((m0+m2:Nat):Int):=by rw[jD _ (by omega)];simp
 have oQ:=ae CC;have PG:=ae (show m0+m2=fj k.ts (a.take (j+1))+1 by omega);have tS:=ae hZ;have HB:=aM aD bE;have C7:(j:Int)<(n1:Int):=by omega
 first
 |clear up;clear CC eh sK cV F3 Cl Oa hZ bE aD hx hok c0 c1 c2;exact qiT
 |clear CC eh jQ cV F3 Cl Oa hZ bE aD Am hx hok c0 c1 c2;exact qiT):G:=h
theorem qdM(h:G:=by
 rw[kf.o]at e0 e1 e2;simp only[TQ.val];go_enter func193,ntmps193
 first
 |clear Ss;go_wp2_with (rw[<-kf.o];go_at_call 192;refine uW.o.mono ?_;rintro e w4 ⟨rfl,aY⟩;have H4:=ae aY;clear aY);go_ret;exact⟨by rw[HE3.o];rfl,H1.o.1.tr H4.o⟩
 |clear ZU;go_wp2_with (first|(rw[<-kf.o];go_at_call 119;refine wO.o.mono ?_;rintro e w3 ⟨rfl,aS⟩;have x3:=bY aS H1.o.2.1;obtain⟨q0,q1,q2,_⟩:=ir x3;have H3:=ae aS;clear aS x3)|(go_at_call 192;refine(Ji.o w3 H3.o).mono ?_;rintro e w4 ⟨rfl,aY⟩;have H4:=ae aY;clear aY));go_ret;exact⟨by rw[HE3.o];rfl,H1.o.1.tr (H3.o.tr H4.o)⟩
 |go_wp2_with (rw[<-kf.o];go_at_call 119;refine wO.o.mono ?_;rintro e w3 ⟨rfl,aS⟩;have H3:=ae aS;clear aS);clear e0 e1 e2;have nL:=(MZ.o.later H1.o.2.2).later H3.o;have x3:=bY H3.o H1.o.2.1;have g0:w3.cell? ⟨kb,1,none⟩=some (.map (some mT)):=ao nL.box 1;have g1:w3.drew.cell? ⟨kb,1,none⟩=some (.map (some mT)):=ao nL.box 1;have g2:w3.cell? ⟨w.heap.size,1,none⟩=some (.string ⟨n.toArray⟩):=ao x3 1;have g3:w3.drew.cell? ⟨w.heap.size,1,none⟩=some (.string ⟨n.toArray⟩):=g2;have dh:Below w3.heap.size w3 (w3.alloc (.cells #[.bool false,.string ⟨#[]⟩,.slice none 0 0] 43)):=dp;exact qhF):G:=h
theorem qc4(h:G:=by
 subst uD;rw[List.getElem_append_right (by omega),List.getElem_append_right (by omega)];simp only[hk,Nat.sub_self,List.getElem_cons_zero]
 first
 |clear up;refine⟨trivial,hq.move (fun b hok hlt=>⟨⟨by omega,fun e=>?_⟩,hold b (by omega) hlt (fun e=>by have:=hv b e;omega)⟩)⟩
  exact qbN
 |clear GB;refine hq.move (fun b hok hlt=>⟨⟨by omega,fun e=>?_⟩,hold b (by omega) hlt (fun e=>by have:=hv b e;omega)⟩)
  exact qbN
 |exact⟨hq.1.move vw,hq.2.move vw⟩):G:=h
theorem qiC(h:G:=by
 go_roundw
 case rel=>exact⟨j+1,by omega,by go_num,by rw[HT.o];exact XO.o.1,(qR (M:=fun _=>False) (Kp.below (HB.o.1.tr H6.o.1)) XO.o.2 (fun g hg=>(HB.o.2.2.lt g hg).1)).empty⟩
 case measure=>simp[intOf];omega):G:=h
theorem qiy(h:G:=by
 exact qiz):G:=h
theorem qbr(h:G:=by
 have e:(aF a).filter (fun x=>!([]:List aj).contains x)=aF a:=List.filter_eq_self.2 (fun x _=>by simp)
 first
 |clear up;simp only[li,aP,e,List.flatMap_append]
  by_cases hq:br o=true
  ·rw[aG hq,aG hq];simp only[UE,y_ σ a h.1,Eo s _ _ h.2];rw[LO,j5]
  ·rw[aw hq,aw hq];simp only[UE,y_ σ a h.1,Eo s _ _ h.2]
 |clear an;simp only[fD,aP,e,List.mem_append,not_or,Nat.add_eq_zero_iff,wY x a,ih]
  by_cases hq:br o=true
  ·rw[aG hq,j5,List.mem_filter];have GB:=();exact qjm
  ·rw[aw hq]
 |clear it;simp only[fD,aP,e,List.count_append,t4,ih]
  by_cases hq:br o=true
  ·rw[aG hq,j5];exact qjm
  ·rw[aw hq]
 |have h1:=EE σ a h.1;simp only[li,aP,e,ag,ei,List.map_append,List.sum_append]
  by_cases hq:br o=true
  ·rw[aG hq,aG hq,j5];have h2:=EF s (jP σ n (.lvl d)) (d+1) h.2;have h3:=Qf σ n d (bK [] s);simp only[Og];omega
  ·rw[aw hq,aw hq];have h2:=EF s σ d h.2;simp only[Og];omega):G:=h
theorem qaF(h:G:=by
 refine hK _ _ (fun _=>by rw[c9.o];exact lJ) (fun _=>?_);clear hK K
 first
 |clear qxl;refine cb 14 rfl fun K hK=>?_
  go_simp;refine aO.2 ((IX ⟨nm.toArray⟩ (some ⟨wz.heap.size,0,none⟩) 1 1 _).mono ?_);rintro _ A ⟨rfl,hA⟩;have cd:Below W1.heap.size W1 A:=lJ.tr hA;have hw0:Below wz.heap.size wz (wz.drew.alloc (.cells #[.bool x.v,.string x.n,.slice x.a x.l x.c] 43)):=((ar wz.heap.size wz).drew).alloc (aK _) _;have hwA:Below wz.heap.size wz A:=hw0.tr hA;have Z':A.heap[wz.heap.size]?=some (.cells #[.bool x.v,.string x.n,.slice x.a x.l x.c] 43 (0,0)):=(hA.block wz.heap.size (by simp)).trans (aq (by simp));have qxm:=();exact qao
 |clear qxn;have hold:((.slice pa p0 p0:Value)=.slice none 0 0/\p0=0/\gE ps=[])\/∃b,(.slice pa p0 p0:Value)=.slice (some b) p0 p0/\(gE ps).length=p0*2/\∀j u,(gE ps)[j]?=some u->(X4.alloc (.cells #[.string ⟨xn.toArray⟩,.string ⟨xn.toArray⟩] 213)).drew.cell? (b.add j)=some u:=by
   exact qds
  refine cb 12 rfl fun K hK=>?_;refine gK (.tmp 69) (.tmp 75) 87 rfl 213 i0 (.agg #[.string ByteArray.empty,.string ByteArray.empty]) 2 32 underlying87 hi oO jv iG rfl (by decide) (.slice pa p0 p0) p0 (gE ps) rfl hold ⟨X4.heap.size,0,none⟩ 1 1 [.string ⟨xn.toArray⟩,.string ⟨xn.toArray⟩] rfl rfl (da (cs:=#[.string ⟨xn.toArray⟩,.string ⟨xn.toArray⟩]) (t:=213) (fr:=(0,0)) (fR X4 _)) (by simp[Value.oneCell']) (by decide) (by unfold maxLen;omega) (by omega) ?_;have qt5:=();exact qbT
 |clear qxo;refine cb 9 rfl fun K hK=>?_
  refine gK (.tmp 53) (.tmp 56) 66 rfl 9 i0s (.string ByteArray.empty) 1 16 underlying66 XC zeX zeY zeZ rfl (by decide) (.slice la l0 l0) l0 (L.map encStr) rfl TI.o ⟨X4.heap.size,0,none⟩ 1 1 [.string ⟨n.toArray⟩] rfl rfl (da (cs:=#[.string ⟨n.toArray⟩]) (t:=9) (fr:=(0,0)) (fR X4 _)) (by simp[Value.oneCell']) (by decide) (by unfold maxLen;omega) (by omega) ?_;have qt4:=();exact qbT
 |clear qxp;have hold:((.slice pa p0 p0:Value)=.slice none 0 0/\p0=0/\gE c.reverse=[])\/∃b,(.slice pa p0 p0:Value)=.slice (some b) p0 p0/\(gE c.reverse).length=p0*2/\∀j u,(gE c.reverse)[j]?=some u->(w3.alloc (.cells #[.string ⟨n.toArray⟩,.string ⟨m.toArray⟩] 196)).drew.cell? (b.add j)=some u:=by
   rcases Ui.o with⟨rfl,rfl,rfl⟩|⟨b,off,rfl⟩
   ·exact .inl ⟨rfl,rfl,by rw[ku (l:=c.reverse) (by rw[List.length_reverse];exact wH.o.symm)];rfl⟩
   ·exact .inr ⟨_,rfl,by rw[ip,List.length_reverse,<-wH.o],(H8.o.2.2.2.1.later lJ).olds⟩
  refine cb 12 rfl fun K hK=>?_;refine gK (.tmp 59) (.tmp 65) 193 rfl 196 i0 (.agg #[.string ByteArray.empty,.string ByteArray.empty]) 2 32 underlying193 mx oO jv iG rfl (by decide) (.slice pa p0 p0) p0 (gE c.reverse) rfl hold ⟨w3.heap.size,0,none⟩ 1 1 [.string ⟨n.toArray⟩,.string ⟨m.toArray⟩] rfl rfl (da (cs:=#[.string ⟨n.toArray⟩,.string ⟨m.toArray⟩]) (t:=196) (fr:=(0,0)) (fR w3 _)) (by simp[Value.oneCell']) (by decide) (by unfold maxLen;omega) (by omega) ?_;intro g cap W9 aE au;have hB9:Below w3.heap.size w3 W9:=⟨au.os.trans lJ.os,au.tape.trans lJ.tape,au.output.trans lJ.output,aR lJ.size au.size,fun b hb=>(au.block b (bP hb lJ.size) (by simp)).trans (lJ.block b hb)⟩;have hg:=aE.lt g rfl;have TX:w3.heap.size<=g:=aR lJ.size hg.1;rw[<-ki (n,m) c.reverse]at aE;have hp9:=cw.own aE;have y9:=fun(b:Nat)(o:Obj)(h:w3.heap[b]?=some o)=>(hB9.block b (bQ h)).trans h;have xG:=y9 _ _ H8.o.2.2.2.2.2.2.1;have za:=ai xG 0;have ca:=ao xG 0;have H9:=cH hB9 TX hp9 xG;clear xG hB9 hg TX hp9 y9 aE au lJ hold;refine eX hK ?_;clear hK K;refine cb 13 rfl fun K hK=>?_;go_simp;refine eX hK ?_;clear hK K za ca;refine kO ?_;have⟨wj,X9⟩:=az (W9.setCell ⟨w.heap.size+1,0,none⟩ (.slice (some ⟨g,0,none⟩) (p0+1) cap));rw[<-X9];have kj:Kp (fun b=>b=w.heap.size+1) W9 wj:=by rw[X9];exact⟨rfl,rfl,rfl,by simp,fun b _ hb=>e_ _ _ _ _ (by simpa using hb)⟩
  have zee:wj.heap[w.heap.size+1]?=some (.cells #[.slice (some ⟨g,0,none⟩) (p0+1) cap] 193 (0,0)):=by rw[X9];exact(bJ H9.o.2.2.2 _).trans rfl
  have kp:=fun(b:Nat)(o:Obj)(jd:b≠w.heap.size+1)(h:w3.heap[b]?=some o)=>(kj.same b (bP (bQ h) H9.o.1.size) jd).trans ((H9.o.1.block b (bQ h)).trans h);have MS:=Zq.o;have SO:=H8.o.2.1;have⟨nm,dQ⟩:=az m;have⟨cc,SU⟩:=az ((n,m)::c);have⟨va,Zp⟩:=az (some (⟨g,0,none⟩:Addr));have⟨v0,hv0⟩:=az (p0+1);have⟨vc,hvc⟩:=az cap;have HBj:=ae (AP (H8.o.1.tr H9.o.1) kj (fun b e=>by have h:b=w.heap.size+1:=e;omega));have zeb:=ae (kp _ _ (by omega) H8.o.2.2.2.2.2.1);have zbU:=ae (show wj.heap[w.heap.size+1]?=some (.cells #[.slice va v0 vc] 193 (0,0)) by rw[Zp,hv0,hvc];exact zee);have zbV:=ae (kp _ _ (by omega) H8.o.2.2.2.2.2.2.2);have zbW:=ae (show wj.heap[w.heap.size+1+1+1]?=some (.cells #[.int .u8 qo,.string ⟨nm.toArray⟩,.slice fN k1 fO,.slice none 0 0] 36 (0,0)) by rw[dQ];exact kp _ _ (by omega) H8.o.2.2.2.2.1);have HTj:=ae (H8.o.2.2.1.move (W':=wj) (ok':=(W1.heap.size<=·)) (fun b hb hlt=>⟨hb.1,(kj.same b (bP hlt H9.o.1.size) (by have:=hb.1;have:=SE.o;omega)).trans (H9.o.1.block b hlt)⟩));have HPj:=ae (show cw wj (.slice va v0 vc) cc.reverse by rw[Zp,hv0,hvc,SU,List.reverse_cons];exact H9.o.2.2.1.keep (fun b o hb _ hl=>kj.same b hl (by injection hb with hb;injection hb with hb;have:=H9.o.2.1;omega)));have HAj:=ae (show ∀b o,va=some ⟨b,o,none⟩->cc.reverse≠[]->b≠w.heap.size+1+1+1 by rw[Zp];intro b o hb _;injection hb with hb;injection hb with hb;have:=H9.o.2.1;omega);have HMJ:=ae (show PM=.mk qo nm (a.map (ep (s8 c))) (s.map (eb fr cc)) by rw[HNM.o,HQo.o,dQ,SU,HM.o];rfl);have zbX:=ae (show ∀x∈s,cc.length+ag x<=2000000 from fun x hx=>by rw[SU];have h1:=HCl.o;simp only[ag]at h1;have h2:=i9 hx;simp only[fB];omega);have zbY:=ae (show ∀x∈cc,x.2.length<=2000000 by rw[SU];exact List.forall_mem_cons.2 ⟨RU.o,HCn.o⟩);have HSj:=ae (show W1.heap.size<=wj.heap.size by have:=H9.o.1.size;have:=kj.size;omega);have p3:wj.cell? ⟨w.heap.size,3,none⟩=some (.slice qb m0 qe):=ao zeb.o 3;clear dQ SU Zp hv0 hvc kp kj zee X9 MS SO f0 f1 f2 dW c9;gi_wp2;exact qf3
 |clear qwe;refine cb 14 rfl fun K hK=>?_
  refine gK (.tmp 21) (.tmp 29) 87 rfl 213 i0 (.agg #[.string ByteArray.empty,.string ByteArray.empty]) 2 32 underlying87 hi oO jv iG rfl (by decide) (.slice ca cl cl) cl (gE ps) rfl TI.o ⟨W3.heap.size,0,none⟩ 1 1 [.string ⟨sn.toArray⟩,.string ⟨fn.toArray⟩] rfl rfl (da (cs:=#[.string ⟨sn.toArray⟩,.string ⟨fn.toArray⟩]) (t:=213) (fr:=(0,0)) (fR W3 _)) (by simp[Value.oneCell']) (by decide) (by unfold maxLen;omega) (by omega) ?_;intro g cap X5 aE au;have vM:Below W3.heap.size W3 X5:=⟨au.os.trans lJ.os,au.tape.trans lJ.tape,au.output.trans lJ.output,aR lJ.size au.size,fun b hb=>(au.block b (bP hb lJ.size) (by simp)).trans (lJ.block b hb)⟩;rw[<-ki (sn,fn) ps]at aE;have zJ:(W3.alloc (.cells #[.string ⟨sn.toArray⟩,.string ⟨fn.toArray⟩] 213)).drew.heap.size<=g/\g<X5.heap.size:=aE.lt g rfl;have hzz:(W3.alloc (.cells #[.string ⟨sn.toArray⟩,.string ⟨fn.toArray⟩] 213)).drew.heap.size=W3.heap.size+1:=by show(W3.alloc _).heap.size=_;simp
  have HPz:=ae (show nK M X5 (.slice (some ⟨g,0,none⟩) (cl+1) cap) (ps ++ [(sn,fn)]) from ⟨cw.own aE,fun b hb hm=>by
   obtain rfl:g=b:=by simpa[Value.ownBlock]using hb
   have:=FD.o.1 g hm;have:=zL.o.2.size;omega⟩)
  have D1:=aM (HJ.o.1 _ _ _ ((Nw.below vM).mono zL.o.2.size) zL.o.1) (zL.o.2.trans (Kp.below vM));have SG:=ae (bY vM ji.o);clear aE au lJ vM zJ hzz;refine eX hK ?_;clear hK K;refine cb 15 rfl fun K hK=>?_;have qq4:=();exact qaa
 |clear qxq;have hold:((.slice pa p0 p0:Value)=.slice none 0 0/\p0=0/\gE ps=[])\/∃b,(.slice pa p0 p0:Value)=.slice (some b) p0 p0/\(gE ps).length=p0*2/\∀j u,(gE ps)[j]?=some u->(X4.alloc (.cells #[.string ⟨xn.toArray⟩,.string ⟨yn.toArray⟩] 213)).drew.cell? (b.add j)=some u:=by
   exact qds
  refine cb 12 rfl fun K hK=>?_;refine gK (.tmp 69) (.tmp 75) 87 rfl 213 i0 (.agg #[.string ByteArray.empty,.string ByteArray.empty]) 2 32 underlying87 hi oO jv iG rfl (by decide) (.slice pa p0 p0) p0 (gE ps) rfl hold ⟨X4.heap.size,0,none⟩ 1 1 [.string ⟨xn.toArray⟩,.string ⟨yn.toArray⟩] rfl rfl (da (cs:=#[.string ⟨xn.toArray⟩,.string ⟨yn.toArray⟩]) (t:=213) (fr:=(0,0)) (fR X4 _)) (by simp[Value.oneCell']) (by decide) (by unfold maxLen;omega) (by omega) ?_;have qt7:=();exact qbT
 |have hold:((.slice pa p0 p0:Value)=.slice none 0 0/\p0=0/\gE ps=[])\/∃b,(.slice pa p0 p0:Value)=.slice (some b) p0 p0/\(gE ps).length=p0*2/\∀j u,(gE ps)[j]?=some u->(X4.alloc (.cells #[.string ⟨xn.toArray⟩,.string ⟨yn.toArray⟩] 196)).drew.cell? (b.add j)=some u:=by
   exact qds
  refine cb 12 rfl fun K hK=>?_;refine gK (.tmp 69) (.tmp 75) 193 rfl 196 i0 (.agg #[.string ByteArray.empty,.string ByteArray.empty]) 2 32 underlying193 hi oO jv iG rfl (by decide) (.slice pa p0 p0) p0 (gE ps) rfl hold ⟨X4.heap.size,0,none⟩ 1 1 [.string ⟨xn.toArray⟩,.string ⟨yn.toArray⟩] rfl rfl (da (cs:=#[.string ⟨xn.toArray⟩,.string ⟨yn.toArray⟩]) (t:=196) (fr:=(0,0)) (fR X4 _)) (by simp[Value.oneCell']) (by decide) (by unfold maxLen;omega) (by omega) ?_;exact qbT):G:=h
theorem qgF(h:G:=by
 go_loopw [80] (fun i wr=>∃k:Nat,k<=k1/\i=.int .i64 k/\Below X5.heap.size X5 wr/\R=cX (ps++[(xn,yn)]).reverse (xs.drop k) (ys.drop k)) (fun i _=>k1-(intOf i).toNat)
 case atStart=>exact⟨0,bn _,rfl,ar _ _,by simpa using Uh.o⟩
 first
 |clear qrB
  case round=>
   have qxr:=();exact qa7
 |case round=>
   have qxs:=();exact qa7):G:=h
theorem qjn(h:G:=by
 go_upto_region 1 with fail;rw[<-kf.o];go_upto_region 2 with(go_at_call 119;refine wO.o.mono ?_;rintro e w3 ⟨rfl,aS⟩;have H3:=ae aS;clear aS);have nL:=(MZ.o.later H1.o.2.2).later H3.o;have x3:=bY H3.o H1.o.2.1
 first
 |clear qxt;have qxu:=();exact qjo
 |obtain⟨⟨z0,z1,z2,z3,z4⟩,hz,Lx,MT,Uw,_,Ed⟩:=nL.termOf (x:=n) mn;simp only[TQ.val]at Ed;have bA:=nL.ts.lt;have qxv:=();exact qc3):G:=h
theorem qh9(h:G:=by
 have Vu:Below w.heap.size w W9:=Below.kp1 (La.o.1.tr Vt.o.1) RX (by omega);obtain⟨c0,c1,c2,c3,_,_,_,_⟩:=dw xR9;obtain⟨e0,e1,e2,e3,z0,z1,z2,z3⟩:=dw xT9;have H9:=bS DX Vu xT9;clear xR9 RX xT9 y9 hF9 DX Vu vd f0 f1 dW;gi_wp2
 first
 |clear quG;have x6:=nJ (v0:=.int .u8 so) (v1:=.string ⟨n.toArray⟩) (v2:=.slice fN 0 fO) (v3:=.slice (some ⟨w6.heap.size,0,none⟩) 1 1) H9.o.2.2;have k6:=ev (W:=W9) (b:=w.heap.size+1) (v0:=.int .u8 so) (v1:=.string ⟨n.toArray⟩) (v2:=.slice fN 0 fO) (v3:=.slice (some ⟨w6.heap.size,0,none⟩) 1 1);have⟨W6,dr⟩:=az ((((W9.setCell ⟨w.heap.size+1,0,none⟩ (.int .u8 so)).setCell ⟨w.heap.size+1,1,none⟩ (.string ⟨n.toArray⟩)).setCell ⟨w.heap.size+1,2,none⟩ (.slice fN 0 fO)).setCell ⟨w.heap.size+1,3,none⟩ (.slice (some ⟨w6.heap.size,0,none⟩) 1 1));have qxw:=();exact qdN
 |have x6:=nJ (v0:=.int .u8 so) (v1:=.string ⟨m.toArray⟩) (v2:=.slice fN 0 fO) (v3:=.slice (some ⟨w6.heap.size,0,none⟩) 1 1) H9.o.2.2;have k6:=ev (W:=W9) (b:=w.heap.size+1) (v0:=.int .u8 so) (v1:=.string ⟨m.toArray⟩) (v2:=.slice fN 0 fO) (v3:=.slice (some ⟨w6.heap.size,0,none⟩) 1 1);have⟨W6,dr⟩:=az ((((W9.setCell ⟨w.heap.size+1,0,none⟩ (.int .u8 so)).setCell ⟨w.heap.size+1,1,none⟩ (.string ⟨m.toArray⟩)).setCell ⟨w.heap.size+1,2,none⟩ (.slice fN 0 fO)).setCell ⟨w.heap.size+1,3,none⟩ (.slice (some ⟨w6.heap.size,0,none⟩) 1 1));exact qdN):G:=h
theorem qbZ(h:G:=by
 have qxx:=();exact qjp):G:=h
theorem qdO(h:G:=by
 go_roundw
 case rel=>exact⟨k+1,by omega,by go_num,HB.o.tr H4.o,Bl.o⟩
 case measure=>simp[intOf];omega):G:=h
theorem qh8(h:G:=by
 go_roundw
 case rel=>exact⟨k+1,by omega,by go_num,mJ.o.trans ((Kp.below dp).trans uh.o.1),by rw[<-HR.o.2.2.2,<-uh.o.2.2];exact uh.o.2.1,HR.o.1,HR.o.2.1,HR.o.2.2.1⟩
 case measure=>simp[intOf];omega):G:=h
theorem qdF(h:G:=by
 have Hm:A1.heap[EB]?=some (.cells #[.bool false,.string ⟨#[]⟩,.slice none 0 0] 43 (0,0)):=by rw[sG,Al];exact aq rfl
 first
 |clear qxy;rw[<-sG,<-Al];have PS:W5.heap.size<=EB:=by have:=cd.size;omega
  have H7:=cH Hm PS (cd.tr wS) (hp.move (W':=A1) (ok':=fun b=>W5.heap.size<=b/\b≠EB) (fun b hb hlt=>⟨⟨aR AJ.size hb,by omega⟩,wS.block b hlt⟩));have qxz:=();exact qb5
 |clear qxA;have PS:W5.heap.size=EB:=Al.symm;have qxB:=();exact qjq
 |rw[<-sG,<-Al];have HA:=cH wS zc3 Hm Al;refine hK _ _ (fun _=>by rw[c9.o];exact HA.o.1) (fun _=>?_);obtain⟨z0,z1,z2,y0',y1',y2'⟩:=ir Hm;clear hK K sG Al wS zc3 Hm;refine cb 11 rfl fun K hK=>?_;go_simp;refine hK _ _ (fun _=>by rw[c9.o];exact Below.kp1 HA.o.1 fW (by have:=HA.o.2.2.2;have:=H6.o.1.size;omega)) (fun _=>?_);clear hK K;refine cb 12 rfl fun K hK=>?_;have qq6:=();exact qaa):G:=h
theorem qf7(h:G:=by
 have Ux:=ae OB;have Xt:¬((m3:Int)=(ni:Int)):=by omega
 have Ξ:((m3:Int)==(ni:Int))=false:=by simp;omega
 have HK9:=ae EM;clear oq EM x27 x79 xt9 OB;go_wp2;go_ret;exact dq.bad Ux.o (by decide) HK9.o):G:=h
theorem qjr(h:G:=by
 have ZK:k<fs.length:=by have:=gT.o;omega
 obtain⟨bs,os,u,rfl,kC,hu,c0,c1,c2,c3⟩:=HSs.o.get AS;obtain⟨bf,of,v,rfl,I6,hv,e0,e1,e2,e3⟩:=SF.o.get ZK;have kH:=D1.o.2.trans bD;have d0:=kH.cell kC.2 c0;have g0:=kH.cell I6.2 e0
 first
 |clear qxC;exact qgo
 |have qxD:=();exact qgo):G:=h
theorem qaw(h:G:=by
 intro g eP w4 aV au hg eM;have h4:=fk.o.at4 (kk:=2) aE cd au
 first
 |clear qpB;have cV:=fk.o.stepT (F:=2) (t:=a[k]) (g:=g) (cap:=eP) (by rw[dR.o];exact aE) (by rw[dR.o];exact eJ) gM cd (hp:aN (W2.heap.size<=·) A p.val a[k]) (by rw[dR.o];exact aV) au hg rfl;rw[dR.o,List.take_append_getElem dG]at cV;have GB:=();exact qae
 |clear qpD;have cV:=fk.o.stepT (F:=2) (t:=(aU a[k])) (g:=g) (cap:=eP) (by rw[dR.o];exact aE) (by rw[dR.o];exact eJ) gM cd (hp:aN (W2.heap.size<=·) A p.val (aU a[k])) (by rw[dR.o];exact aV) au hg rfl;rw[dR.o,cO aU a dG]at cV;have GB:=();exact qae
 |clear qpF;have cV:=fk.o.stepT (F:=2) (t:=(aU a[k1])) (g:=g) (cap:=eP) (by rw[dR.o];exact aE) (by rw[dR.o];exact eJ) gM cd (hp:aN (W2.heap.size<=·) A p.val (aU a[k1])) (by rw[dR.o];exact aV) au hg rfl;rw[dR.o,cO aU a dG]at cV;have qqi:=();exact qae
 |clear qpH;have cV:=fk.o.stepT (F:=2) (t:=(ep f a[k])) (g:=g) (cap:=eP) (by rw[dR.o];exact aE) (by rw[dR.o];exact eJ) gM cd (hp:aN (W2.heap.size<=·) A p.val (ep f a[k])) (by rw[dR.o];exact aV) au hg rfl;rw[dR.o,cO (ep f) a dG]at cV;have qqj:=();exact qae
 |clear qpJ;have cV:=fk.o.stepT (F:=2) (t:=(nl nx z a[k1])) (g:=g) (cap:=eP) (by rw[dR.o];exact aE) (by rw[dR.o];exact eJ) gM cd (hp:aN (W2.heap.size<=·) A p.val (nl nx z a[k1])) (by rw[dR.o];exact aV) au hg rfl;rw[dR.o,cO (nl nx z) a dG]at cV;have qqk:=();exact qae
 |clear qpL;have cV:=fk.o.stepT (F:=2) (t:=(dK kd.ts sc a[k])) (g:=g) (cap:=eP) (by rw[dR.o];exact aE) (by rw[dR.o];exact eJ) gM cd (hp:aN (W2.heap.size<=·) A p.val (dK kd.ts sc a[k])) (by rw[dR.o];exact aV) au hg rfl;rw[dR.o,cO (dK kd.ts sc) a dG]at cV;have an:=();exact qae
 |clear qpN;have cV:=fk.o.stepT (F:=2) (t:=(dK kd.ts c a[k1])) (g:=g) (cap:=eP) (by rw[dR.o];exact aE) (by rw[dR.o];exact eJ) gM cd (hp:aN (W2.heap.size<=·) A p.val (dK kd.ts c a[k1])) (by rw[dR.o];exact aV) au hg rfl;rw[dR.o,cO (dK kd.ts c) a dG]at cV;have qql:=();exact qae
 |have cV:=fk.o.stepT (F:=2) (t:=(ep (s8 c) a[k1])) (g:=g) (cap:=eP) (by rw[dR.o];exact aE) (by rw[dR.o];exact eJ) gM cd (hp:aN (W2.heap.size<=·) A p.val (ep (s8 c) a[k1])) (by rw[dR.o];exact aV) au hg rfl;rw[dR.o,cO (ep (s8 c)) a dG]at cV;exact qae):G:=h
theorem qdq(h:G:=by
 obtain⟨eJ,aE,gM⟩:=HH.o;obtain⟨hp,cd⟩:=PD.o;obtain⟨aV,au,hg⟩:=HG.o;have Bm:=au.size;simp only[World.size_alloc]at Bm
 first
 |clear ZU;have h4:=dH.step (lo:=w.heap.size) (v:=.slice ra k rc) (ts:=(d9 ns l).take k) (t:=fZ ns qv n al j) (W:=W5) (W1:=wr) (w4:=w4) (q:=⟨q0,q1,q2,q3,q4⟩) (g:=g) (cap:=eP) (by rw[dR.o];exact eJ) cd Lg (fun j h1 h2=>gM j h1 h2) (fun b hb=>(aE.lt b hb).2) (hp.move (fun b hok _=>⟨hok.1,rfl⟩)) (by rw[dR.o];exact aV)
   (fun c _ hc hn=>(au.block c (by simp;omega) (fun e=>hn e.symm)).trans (bZ _ _ _ (by omega))) (by rcases hg with h|h;exact .inl h;exact .inr (by omega))
  rw[dR.o,<-oa.o]at h4;exact⟨k+1,by omega,by go_num,h4,((HB.o.trans (cd.mono Lg)).alloc (by omega) _).grown au (by simp;omega) (fun c hc=>(aE.lt c hc).1)⟩
 |clear Ss;have h4:=eO.step (lo:=w.heap.size) (v:=.slice ra k rc) (ts:=l.take k) (t:=l[k]) (W:=wr) (W1:=A) (w4:=w4) (q:=p) (g:=g) (cap:=eP) (by rw[dR.o];exact eJ) cd Lg (fun j h1 h2=>gM j h1 h2) (fun b hb=>(aE.lt b hb).2) (hp.move (fun b hok _=>⟨aR (by simp) hok,rfl⟩)) (by rw[dR.o];exact aV)
   (fun c _ hc hn=>(au.block c (by simp;omega) (fun e=>hn e.symm)).trans (bZ _ _ _ (by omega))) (by rcases hg with h|h;exact .inl h;exact .inr (by omega))
  exact qjs
 |have h4:=dH.step (lo:=w.heap.size) (v:=.slice ra k rc) (ts:=l.take k) (t:=l[k]) (W:=wr) (W1:=A) (w4:=w4) (q:=p) (g:=g) (cap:=eP) (by rw[dR.o];exact eJ) cd Lg (fun j h1 h2=>gM j h1 h2) (fun b hb=>(aE.lt b hb).2) (hp.move (fun b hok _=>⟨aR (by simp) hok,rfl⟩)) (by rw[dR.o];exact aV)
   (fun c _ hc hn=>(au.block c (by simp;omega) (fun e=>hn e.symm)).trans (bZ _ _ _ (by omega))) (by rcases hg with h|h;exact .inl h;exact .inr (by omega))
  exact qjs):G:=h
theorem qat(h:G:=by
 go_wp2;go_ret;exact⟨rfl,ar _ _⟩):G:=h
theorem qdP(h:G:=by
 go_enter func195,ntmps195;go_upto_region 2 with fail;rw[<-gh.o]
 first
 |clear qxF;have e0:=ao H2.o.2.1 0;go_upto_region 4 with fail;clear e0;have qxG:=();exact qdQ
 |clear qxH;go_upto_region 6 with fail;go_upto_region 7 with(go_at_call 96;refine uW.o.mono ?_;rintro e w4 ⟨rfl,aY⟩;have H4:=ae aY;clear aY);clear e0 e1 e2 e3;have⟨W5,hZ⟩:=az (w4.alloc (.cells #[.string ⟨dM.toArray⟩] 9));have Jo:Below W2.heap.size W2 W5:=by rw[hZ];exact H4.o.tr dp
  have y5:=cA hZ;rw[<-hZ];clear hZ;have x5:=bY Jo H2.o.2.1;have lp:=H2.o.2.2.later Jo;have zc5:=H2.o.2.2.fs.lt;exact qaZ
 |go_wp2_with fail;clear e0 e1 e2 e3;go_loopw [9,64] (fun r i wr=>∃j:Nat,j<=n1/\i=.int .i64 j/\fK W2.heap.size wr r (eH k.ts (a.take j))/\Below W2.heap.size W2 wr) (fun _ i _=>n1-(intOf i).toNat)
  case atStart=>exact⟨0,bn _,rfl,fK.nil _ _,ar _ _⟩
  case round=>
   obtain⟨j,hj,rfl,ea,aD⟩:=hrel
   by_cases hlt:j<n1
   ·have lU:=cG HN.o hlt;have qxI:=();exact qbR
   ·obtain rfl:n1=j:=by omega
    have cr:a.take n1=a:=by rw[HN.o];exact dA
    rw[cr]at ea;have HK:=aM (H2.o.1.tr aD) (ea.base H2.o.1.size);exact qhB):G:=h
theorem qjt(h:G:=by
 have⟨k0,cD⟩:=az l.length;have⟨m0,eh⟩:=az m.length;rw[jd,<-cD,<-eh];rw[<-cD,<-eh]at qq;have d1:((k0:Int)==(m0:Int))=false:=by simp;omega
 have d2:((k0:Int)!=(m0:Int))=true:=by simp;omega
 clear jd hl hm aI cD eh ih
 first
 |clear an;have qxK:=();exact qju
 |go_enter func52,ntmps52;exact qat):G:=h
theorem qaZ(h:G:=by
 obtain⟨S,hS⟩:∃S:World->Prop,S=fun V=>Below W5.heap.size W5 V:=⟨_,rfl⟩
 first
 |clear qoh;have ff:∀V,S V->V.cell? ⟨w.heap.size,0,none⟩=some (.int .u8 q.o)/\V.cell? ⟨w.heap.size,1,none⟩=some (.string q.n)/\V.cell? ⟨w.heap.size,2,none⟩=some (.slice q.a q.l q.c)/\V.cell? ⟨w.heap.size,3,none⟩=some (.slice q.b q.m q.e):=fun V h=>by rw[hS]at h;exact⟨aa h (ao y0 0),aa h (ao y0 1),aa h (ao y0 2),aa h (ao y0 3)⟩
  have fg:∀V,S V->V.cell? ⟨w.heap.size+1,0,none⟩=some (.int .u8 q'.o)/\V.cell? ⟨w.heap.size+1,1,none⟩=some (.string q'.n)/\V.cell? ⟨w.heap.size+1,2,none⟩=some (.slice q'.a q'.l q'.c)/\V.cell? ⟨w.heap.size+1,3,none⟩=some (.slice q'.b q'.m q'.e):=fun V h=>by rw[hS]at h;exact⟨aa h (ao y1 0),aa h (ao y1 1),aa h (ao y1 2),aa h (ao y1 3)⟩
  have dW:S W5.drew:=by rw[hS];exact(ar _ _).drew
  have c9:=ae hS;have bV:=ae (H0.o.1.tr aS);have vI:=ae (fun(V:World)(hb:Below W5.heap.size W5 V)=>Fj ns lH.o.2.2 f lH.o.1 _ _ V q _ (((H0.o.2.2.2.1.later H0.o.1).later aS).later hb) (cV.later hb));have HD:=ae (fun(V:World)(hb:Below W5.heap.size W5 V)=>Fj ns lH.o.2.2 g lH.o.2.1 _ _ V q' _ (((H0.o.2.2.2.2.later H0.o.1).later aS).later hb) (cV.later hb));have HT3:=ae (Gk.o.next bV.o);simp only[FQ.val]at vI HD;clear cV aS y0 y1 hS;have jq:=fP;go_wp2;refine(wpIn_wide (n:=3)).1 ?_;refine lM S 6 dW fun jO b_=>?_;refine di 0 10 (.agg #[.int .u8 q.o,.string q.n,.slice q.a q.l q.c,.slice q.b q.m q.e]) rfl (fun V hX=>by obtain⟨h0,h1,h2,h3⟩:=ff V hX;go_simp) b_ fun cK=>?_;simp only[am];refine bH 1 11 (.slice na ns.length nc) rfl cK fun f_=>?_;simp only[am];refine di 3 13 (.agg #[.int .u8 q'.o,.string q'.n,.slice q'.a q'.l q'.c,.slice q'.b q'.m q'.e]) rfl (fun V hX=>by obtain⟨h0,h1,h2,h3⟩:=fg V hX;go_simp) f_ fun gX=>?_;simp only[am];refine bH 4 14 (.slice na ns.length nc) rfl gX fun iQ=>?_;simp only[am];have AJ:Below W5.heap.size W5 W5.drew:=(ar _ _).drew;refine cb 2 rfl fun K hK=>?_;go_simp;refine aO.2 ((vI.o _ AJ).mono ?_);rintro _ A ⟨pf,rfl,Rt,hA⟩;have cd:Below W5.heap.size W5 A:=AJ.trans (hA.mono AJ.size);have qxL:=();exact qao
 |clear qo7;have ff:∀V,S V->V.cell? ⟨b,off+k*3,none⟩=some (.bool qv)/\V.cell? ⟨b,off+k*3+1,none⟩=some (.string ⟨n.toArray⟩)/\V.cell? ⟨b,off+k*3+2,none⟩=some (.slice qa m0 qc):=fun V h=>by rw[hS]at h;exact⟨aa h d0,aa h d1,aa h d2⟩
  have dW:S W5.drew:=by rw[hS];exact(ar _ _).drew
  have c9:=ae hS;clear hu aD hR cr c0 c1 c2 bN AR hel HC xH hS d0 d1 d2 eh;go_wp2;go_cut [7]from 15 to 32 (fun s7 wx=>∃b7,s7=.pointer (some ⟨b7,0,none⟩)/\∃q:TQ,wx.heap[b7]?=some (.cells #[.bool q.v,.string q.n,.slice q.a q.l q.c] 43 (0,0))/\W5.heap.size<=b7/\Below W5.heap.size W5 wx/\aN (fun b=>W5.heap.size<=b/\b≠b7) wx q.val (fZ ns qv n al 0))
  case first=>
   have jq:=fP;refine(wpIn_wide (n:=3)).1 ?_;refine lM S 19 dW fun jO b_=>?_;refine bH 0 15 (.slice (some ⟨b,off,none⟩) k0 c) rfl b_ fun cK=>?_;simp only[am];refine bH 1 16 (.int .i64 (k:Int)) rfl cK fun f_=>?_;simp only[am];refine bH 2 17 (.pointer (some ⟨b,off+k*3,none⟩)) rfl f_ fun gX=>?_;simp only[am];refine bH 3 18 (.pointer (some ⟨b,off+k*3,none⟩)) rfl gX fun iQ=>?_;simp only[am];refine di 4 19 (.bool qv) rfl (fun V hX=>by obtain⟨h0,h1,h2⟩:=ff V hX;go_simp) iQ fun jM=>?_;simp only[am];refine bH 5 20 (.slice (some ⟨b,off,none⟩) k0 c) rfl jM fun km=>?_;simp only[am];refine bH 6 21 (.int .i64 (k:Int)) rfl km fun mU=>?_;simp only[am];refine bH 7 22 (.pointer (some ⟨b,off+k*3,none⟩)) rfl mU fun q_=>?_;simp only[am];refine bH 8 23 (.pointer (some ⟨b,off+k*3+1,none⟩)) rfl q_ fun D2=>?_;simp only[am];refine di 9 24 (.string ⟨n.toArray⟩) rfl (fun V hX=>by obtain⟨h0,h1,h2⟩:=ff V hX;go_simp) D2 fun vi=>?_;simp only[am];refine bH 10 25 (.slice (some ⟨b,off,none⟩) k0 c) rfl vi fun D3=>?_;simp only[am];refine bH 11 26 (.int .i64 (k:Int)) rfl D3 fun N0=>?_;simp only[am];refine bH 12 27 (.pointer (some ⟨b,off+k*3,none⟩)) rfl N0 fun Rf=>?_;simp only[am];refine bH 13 28 (.pointer (some ⟨b,off+k*3+2,none⟩)) rfl Rf fun T8=>?_;simp only[am];refine di 14 29 (.slice qa m0 qc) rfl (fun V hX=>by obtain⟨h0,h1,h2⟩:=ff V hX;go_simp) T8 fun zaA=>?_;simp only[am];refine bH 15 30 (.slice na n2 nc) rfl zaA fun zhp=>?_;simp only[am];have AJ:Below W5.heap.size W5 W5.drew:=(ar _ _).drew;refine zaC (i:=16) (j:=18) rfl rfl (by kernel_rfl) (by rfl) (by rfl) (fun K hK=>?_) (fun K hK=>?_)
   ·go_simp;refine aO.2 ((vI.o _ AJ).mono ?_);rintro _ A ⟨⟨r1,r2,rfl,hp⟩,hA⟩;simp only[<-gT.o]at hp⊢;have cd:Below W5.heap.size W5 A:=AJ.trans (hA.mono AJ.size);refine hK _ _ (fun _=>by rw[c9.o];exact cd) (fun zhq=>?_);clear hK K;refine bH 17 32 (.agg #[.bool qv,.string ⟨n.toArray⟩,.slice r1 m0 r2]) rfl (by rw[c9.o];exact cd) fun zgn=>?_;simp only[am];refine cb 18 rfl fun K hK=>?_;go_simp;have⟨EB,Al⟩:=az A.heap.size;have⟨A1,sG⟩:=az (A.alloc (.cells #[.bool false,.string ⟨#[]⟩,.slice none 0 0] 43));have wS:=dj sG;have qxy:=();exact qdF
   ·go_simp;have⟨EB,Al⟩:=az W5.heap.size;have⟨A1,sG⟩:=az (W5.alloc (.cells #[.bool false,.string ⟨#[]⟩,.slice none 0 0] 43)).drew;have wS:Below W5.heap.size W5 A1:=by rw[sG];exact dp.drew
    have qxA:=();exact qdF
  case rest=>
  obtain⟨b7,h7,q,hq7,g_,zd4,ht7⟩:=hcut;rw[h7];have H7:=bS hq7 zd4 ht7;clear hq7 zd4 ht7 h7 ff dW c9 vI S;go_wp2;go_loopw [8] (fun i wr=>∃j:Nat,j<=n2/\i=.int .i64 j/\∃q:TQ,wr.heap[b7]?=some (.cells #[.bool q.v,.string q.n,.slice q.a q.l q.c] 43 (0,0))/\Below W5.heap.size W5 wr/\aN (fun b=>W5.heap.size<=b/\b≠b7) wr q.val (fZ ns qv n al j)) (fun i _=>n2-(intOf i).toNat)
  case atStart=>exact⟨0,bn _,rfl,q,H7.o⟩
  case round=>
   obtain⟨j,hj,rfl,⟨q0,q1,q2,q3,q4⟩,hq,l9,ht⟩:=hrel;obtain⟨p0,p1,p2,z0,z1,z2⟩:=ir hq
   by_cases fC:j<n2
   ·have lG:=cG Cb.o fC;obtain⟨nb,no,rfl,_,e0⟩:=((HNs.o.later HB.o).later l9).get lG;have C7:(j:Int)<(n2:Int):=by omega
    have cV:=J0 (ns:=ns) (v:=qv) (n:=n) (a:=al) lG;have⟨x,hx⟩:=az (ns[j]);rw[<-hx]at e0 cV;have ε:q0=(fZ ns qv n al j).v/\q1=⟨(fZ ns qv n al j).n.toArray⟩:=by
     obtain⟨q',h1,h2,h3,_⟩:=ht.form;have qxM:=();exact qdk
    have HQ:=bS hq l9 ht;have⟨Zn,HQv⟩:=bi cV ε;clear hq l9 ht cV ε hx
    cases q0 with
    |false=>
     go_wp2;go_quiet (fail);go_wp2;go_roundw
     case rel=>exact⟨j+1,by omega,by go_num,⟨false,q1,q2,q3,q4⟩,HQ.o.1,HQ.o.2.1.tr (i_ ⟨_,rfl⟩),by rw[Zn.o.1 HQv.o.1.symm];exact HQ.o.2.2.later (i_ ⟨_,rfl⟩)⟩
     case measure=>simp[intOf];omega
    |true=>
     obtain⟨g0,g1,g2⟩:=Zn.o.2 HQv.o.1.symm;obtain rfl:q1=⟨n.toArray⟩:=by have:=HQv.o.2;rw[g0]at this;exact this
     by_cases hxn:x=n
     ·subst hxn;have HG:=ae (g1 rfl);clear g0 g1 g2 Zn HQv;go_wp2;go_quiet (fail);have hT:∀nq x y,(convert 246 9 (.slice (some ⟨wr.heap.size,0,none⟩) 2 2)).run prog ((wr.drewN nq).alloc (.cells #[.int .u8 x,.int .u8 y] 5))=.ok (.string (strOfNums [x,y])) ((wr.drewN nq).alloc (.cells #[.int .u8 x,.int .u8 y] 5)):=fun nq x y=>Sg (wr.drewN nq) x y;go_wp2_with (go_at_call 31;refine(NO _ _ _ _ _).mono ?_;rintro e w6 ⟨rfl,dh⟩;have b6:Below wr.heap.size wr w6:=(i_ (w':=wr.drewN nq) ⟨_,rfl⟩).tr (dp.tr dh);have x6:=bY b6 HQ.o.1;obtain⟨y0,y1,y2,f0,f1,f2⟩:=ir x6;have H6:=aM b6 x6;clear b6 x6 dh);go_roundw
      case rel=>
       refine⟨j+1,by omega,by go_num,⟨false,_,none,0,0⟩,sN H6.o.2,Below.kp1 (HQ.o.2.1.tr H6.o.1) fW g_,?_⟩;rw[HG.o];exact aW.2 ⟨_,by rw[<-Wp j];rfl,cE⟩
      case measure=>simp[intOf];omega
     ·have a4:(n==x)=false:=by simpa using fun e=>hxn e.symm
      have HG:=ae (g2 hxn);clear g0 g1 g2 Zn HQv;go_wp2;go_quiet (fail);go_wp2;go_roundw
      case rel=>exact⟨j+1,by omega,by go_num,⟨true,⟨n.toArray⟩,q2,q3,q4⟩,HQ.o.1,HQ.o.2.1.tr (i_ ⟨_,rfl⟩),by rw[HG.o];exact HQ.o.2.2.later (i_ ⟨_,rfl⟩)⟩
      case measure=>simp[intOf];omega
   ·obtain rfl:j=n2:=by omega
    obtain⟨qs,eJ,aE,gM⟩:=HR.o;rw[dR.o]at eJ aE;have n_:=l9.size;have Lg:=HB.o.size;have HO:=ae (bh aE (fun b _ hlt=>l9.block b hlt));have HH:=bS eJ aE gM;have PD:=aM ht l9;have HQ:=ae hq;have p_:(wr.alloc (.cells #[.bool q0,.string q1,.slice q2 q3 q4] 43)).heap.size=wr.heap.size+1:=by simp
    clear eJ aE gM ht l9 hq;go_wp2_with (at_builtin;refine wpList_append_lies _ rfl _ _ 33 rfl w.heap.size 43 i0 (.agg #[.bool false,.string ByteArray.empty,.slice none 0 0]) 3 48 underlying33 hi oO jv iG rfl (by decide) _ _ _ rfl (HO.o.alloc _) ⟨wr.heap.size,0,none⟩ 1 1 (TQ.cells ⟨q0,q1,q2,q3,q4⟩) rfl rfl (da (cs:=#[.bool q0,.string q1,.slice q2 q3 q4]) (t:=43) (fr:=(0,0)) (fR _ _)) (by simp[TQ.cells,Value.oneCell']) (by decide) (by unfold maxLen;omega) (by omega) (by simp;omega) (wr.heap.size+1) p_ ?_;intro g eP w4 aV au hg eM;have HG:=bS aV au hg;clear aV au hg eM p_);go_roundw
    case rel=>
     have ZU:=();exact qdq
    case measure=>simp[intOf];omega
 |clear qvj;have pp:∀V,S V->V.cell? ⟨W.heap.size,0,none⟩=some (.int .u8 so)/\V.cell? ⟨W.heap.size,1,none⟩=some (.string sn)/\V.cell? ⟨W.heap.size,2,none⟩=some (.slice sa sl sc)/\V.cell? ⟨W.heap.size,3,none⟩=some (.slice sb sm se)/\V.cell? ⟨W.heap.size,4,none⟩=some (.int .u8 fo)/\V.cell? ⟨W.heap.size,5,none⟩=some (.string fn)/\V.cell? ⟨W.heap.size,6,none⟩=some (.slice fa fl fc)/\V.cell? ⟨W.heap.size,7,none⟩=some (.slice fb fm fe)/\V.cell? ⟨W.heap.size,8,none⟩=some (.slice ca cl cc):=fun V h=>by rw[hS]at h;exact⟨aa h (ao zM 0),aa h (ao zM 1),aa h (ao zM 2),aa h (ao zM 3),aa h (ao zM 4),aa h (ao zM 5),aa h (ao zM 6),aa h (ao zM 7),aa h (ao zM 8)⟩
  have tt:∀V,S V->V.cell? ⟨wr.heap.size,0,none⟩=some (.bool xv)/\V.cell? ⟨wr.heap.size,1,none⟩=some (.string xn)/\V.cell? ⟨wr.heap.size,2,none⟩=some (.slice xa xl xc):=fun V h=>by rw[hS]at h;exact⟨aa h (ao x6 0),aa h (ao x6 1),aa h (ao x6 2)⟩
  have uu:∀V,S V->V.cell? ⟨W.heap.size+1+1,2,none⟩=some (.slice (some ⟨b2,o2,none⟩) n1 uc):=fun V h=>by rw[hS]at h;exact aa h (ao xu6 2)
  have qv8:=();exact qiP
 |clear qvo;have pp:∀V,S V->V.cell? ⟨W.heap.size,0,none⟩=some (.int .u8 so)/\V.cell? ⟨W.heap.size,1,none⟩=some (.string ⟨n.toArray⟩)/\V.cell? ⟨W.heap.size,2,none⟩=some (.slice (some ⟨b1,o1,none⟩) n1 sc)/\V.cell? ⟨W.heap.size,3,none⟩=some (.slice sb m1 se)/\V.cell? ⟨W.heap.size,4,none⟩=some (.int .u8 so)/\V.cell? ⟨W.heap.size,5,none⟩=some (.string ⟨n'.toArray⟩)/\V.cell? ⟨W.heap.size,6,none⟩=some (.slice (some ⟨b2,o2,none⟩) n1 fc)/\V.cell? ⟨W.heap.size,7,none⟩=some (.slice fb m1 fe)/\V.cell? ⟨W.heap.size,8,none⟩=some (.slice ca cl cc):=fun V h=>by rw[hS]at h;exact⟨aa h (ao Uk 0),aa h (ao Uk 1),aa h (ao Uk 2),aa h (ao Uk 3),aa h (ao Uk 4),aa h (ao Uk 5),aa h (ao Uk 6),aa h (ao Uk 7),aa h (ao Uk 8)⟩
  have tt:∀V,S V->V.cell? ⟨B6,2,none⟩=some (.slice (some ⟨b2,o2,none⟩) n1 fc):=fun V h=>by rw[hS]at h;exact aa h (ao x65 2)
  exact qiP
 |have ff:∀V,S V->V.cell? ⟨kb,0,none⟩=some (.map (some mF))/\V.cell? ⟨w.heap.size+1,1,none⟩=some (.string ⟨n.toArray⟩)/\(Instr.lookup 145 (.map (some mF)) (.string ⟨n.toArray⟩) false).run prog V=.ok (.agg #[.int .u8 g0,.string g1,.slice g2 g3 g4,.slice g5 g6 g7]) V:=fun V h=>by
   rw[hS]at h;exact⟨aa h (ao lp.box 0),aa h (ao x5 1),zfn.o V (((Jo.tr h).block _ zc5))⟩
  have dW:S W5.drew:=by rw[hS];exact(ar _ _).drew
  have HC:=ae (fun(V:World)(h:Below W5.heap.size W5 V)=>tR f yU.o.2.1 (by have:=yU.o.2.2;omega) _ V ⟨g0,g1,g2,g3,g4,g5,g6,g7⟩ ((yU.o.1.later Jo).later h));simp only[FQ.val,<-HM.o.2.2]at HC;have c9:=ae hS;have H5:=bS Jo y5 lp;clear hS x5 lp zc5 Jo y5;refine(wpIn_wide (n:=3)).1 ?_;refine lM S 9 dW fun jO b_=>?_;refine bH 0 34 (.pointer (some ⟨kb,0,none⟩)) rfl b_ fun cK=>?_;simp only[am];refine bH 1 35 (.pointer (some ⟨kb,0,none⟩)) rfl cK fun f_=>?_;simp only[am];refine bH 2 36 (.pointer (some ⟨kb,0,none⟩)) rfl f_ fun gX=>?_;simp only[am];refine di 3 37 (.map (some mF)) rfl (fun V hX=>by obtain⟨h0,h1,h2⟩:=ff V hX;go_simp) gX fun iQ=>?_;simp only[am];refine bH 4 38 (.pointer (some ⟨w.heap.size+1,1,none⟩)) rfl iQ fun jM=>?_;simp only[am];refine di 5 39 (.string ⟨n.toArray⟩) rfl (fun V hX=>by obtain⟨h0,h1,h2⟩:=ff V hX;go_simp) jM fun km=>?_;simp only[am];refine di 6 40 (.agg #[.int .u8 g0,.string g1,.slice g2 g3 g4,.slice g5 g6 g7]) rfl (fun V hX=>by obtain⟨h0,h1,h2⟩:=ff V hX;go_simp) km fun mU=>?_;have qxN:=();exact qaO):G:=h
theorem qa0(h:G:=by
 obtain⟨S,hS⟩:∃S:World->Prop,S=fun V=>Below w3.heap.size w3 V:=⟨_,rfl⟩
 first
 |clear qok;have ff:∀V,S V->V.cell? ⟨w.heap.size,0,none⟩=some (.int .u8 qo)/\V.cell? ⟨w.heap.size,1,none⟩=some (.string qn)/\V.cell? ⟨w.heap.size,2,none⟩=some (.slice qa ql qc)/\V.cell? ⟨w.heap.size,3,none⟩=some (.slice qb qm qe):=fun V h=>by rw[hS]at h;exact⟨aa h (ao H3.o.2.1 0),aa h (ao H3.o.2.1 1),aa h (ao H3.o.2.1 2),aa h (ao H3.o.2.1 3)⟩
  have qxO:=();exact qaR
 |clear qsB;have ff:∀V,S V->V.cell? ⟨kb,1,none⟩=some (.map (some mT))/\V.cell? ⟨w.heap.size,1,none⟩=some (.string ⟨n.toArray⟩)/\(Instr.lookup 146 (.map (some mT)) (.string ⟨n.toArray⟩) false).run prog V=.ok (.agg #[.bool z0,.string z1,.slice z2 z3 z4]) V:=fun V h=>by
   rw[hS]at h;exact⟨aa h (ao nL.box 1),aa h (ao x3 1),Ed V (h.block _ bA)⟩
  have qxP:=();exact qaR
 |clear qtX;have s1:∀V,S V->V.cell? ⟨W.heap.size+1,1,none⟩=some (.string ⟨n.toArray⟩):=fun V h=>by rw[hS]at h;exact aa h t1
  have v0:∀V,S V->V.cell? ⟨W.heap.size+1+1,0,none⟩=some (.bool uv)/\V.cell? ⟨W.heap.size+1+1,1,none⟩=some (.string ⟨n'.toArray⟩)/\V.cell? ⟨W.heap.size+1+1,2,none⟩=some (.slice ua n2 uc):=fun V h=>by rw[hS]at h;exact⟨aa h u0,aa h u1,aa h u2⟩
  have qxQ:=();exact qaR
 |clear qxR;have f0:∀V,S V->V.cell? ⟨w.heap.size+1,0,none⟩=some (.slice pa p0 pc):=fun V h=>by rw[hS]at h;exact aa h (ao H8.o.2.2.2.2.2.2.1 0)
  have f1:∀V,S V->V.cell? ⟨w.heap.size,1,none⟩=some (.string ⟨n.toArray⟩):=fun V h=>by rw[hS]at h;exact aa h (ao H8.o.2.2.2.2.2.1 1)
  have f2:∀V,S V->V.cell? ⟨w.heap.size+1+1+1,1,none⟩=some (.string ⟨m.toArray⟩):=fun V h=>by rw[hS]at h;exact aa h (ao H8.o.2.2.2.2.1 1)
  have qxS:=();exact qaR
 |have f0:∀V,S V->V.cell? ⟨bb,0,none⟩=some (.int .u8 q.o)/\V.cell? ⟨bb,1,none⟩=some (.string q.n)/\V.cell? ⟨bb,2,none⟩=some (.slice q.a q.l q.c)/\V.cell? ⟨bb,3,none⟩=some (.slice q.b q.m q.e):=fun V h=>by rw[hS]at h;exact⟨aa h (ao Mk.o.2.2.2 0),aa h (ao Mk.o.2.2.2 1),aa h (ao Mk.o.2.2.2 2),aa h (ao Mk.o.2.2.2 3)⟩
  first
  |clear qxT;have f1:∀V,S V->V.cell? ⟨w.heap.size,1,none⟩=some (.string ⟨n.toArray⟩)/\V.cell? ⟨w.heap.size+1+1,1,none⟩=some (.string ⟨n.toArray⟩):=fun V h=>by rw[hS]at h;exact⟨aa h (ao Mk.o.1 1),aa h (ao Mk.o.2.2.1 1)⟩
   have qxU:=();exact qaR
  |have f1:∀V,S V->V.cell? ⟨w.heap.size,1,none⟩=some (.string ⟨n.toArray⟩)/\V.cell? ⟨w.heap.size+1+1,1,none⟩=some (.string ⟨m.toArray⟩):=fun V h=>by rw[hS]at h;exact⟨aa h (ao Mk.o.1 1),aa h (ao Mk.o.2.2.1 1)⟩
   exact qaR):G:=h
theorem qcU(h:G:=by
 obtain⟨k,hk,rfl,row,us,hF,DP,F5⟩:=hrel;have aD:=hF.below TE.o.1 (by omega);obtain⟨ra,rc,rfl⟩:=hF.row.slice;rw[F5]at hF
 first
 |clear qq1
  by_cases hlt:k<m0
  ·have dG:=cG gT.o hlt;exact qhv
  ·obtain rfl:k=m0:=by omega
   exact qgv
 |clear qxV
  by_cases hlt:k<m0
  ·have dG:=cG gT.o hlt;have qxW:=();exact qhv
  ·obtain rfl:k=m0:=by omega
   exact qgv
 |by_cases hlt:k<k0
  ·have dG:=cG dN.o hlt;have qwS:=();exact qah
  ·obtain rfl:k=k0:=by omega
   have jW:a.take k=a:=by rw[dN.o];exact dA
   rw[jW]at DP;have HE:=ae (show R=some (.mk false n us) by rw[Cj.o,DP];rfl);have sQ:=ae hF.row;have x2:=hF.box;have x1:=hF.other (by omega) Q6.o;have c0:wr.cell? ⟨w.heap.size+1+1+1,0,none⟩=some (.bool false):=ao x2 0;exact qgw):G:=h
theorem qcH(h:G:=by
 go_enter func14,ntmps14;go_wp2
 first
 |clear qfw;go_ret;exact⟨by rw[HE.o];rfl,by rw[<-ζ.o];exact kf.o.1⟩
 |rw[<-ζ.o];clear e0 e1;go_loopw [3,4] (fun r i wr=>∃k:Nat,k<=n1/\i=.int .i64 k/\vA W1.heap.size r (mm (bd.fs.take k)) wr/\Below W1.heap.size W1 wr) (fun _ i _=>n1-(intOf i).toNat)
  case atStart=>exact⟨0,bn _,rfl,vA.nil _ _,ar _ _⟩
  case round=>
   have qxX:=();exact qb6):G:=h
theorem qdR(h:G:=by
 go_enter func126,ntmps126;go_upto_region 2 with fail;rw[<-gh.o]
 first
 |clear qxY;go_upto_region 6 with fail;go_region
  all_goals
   rw[<-ec];clear ec l1 l2 k0 k1 k3 k4 k5 e0 e1 e2 e3;go_upto_region 8 with(go_at_call 96;refine uW.o.mono ?_;rintro e w4 ⟨rfl,aY⟩;have H4:=ae aY;clear aY);clear i0 i1 i2 i3;have y4:=bY H4.o H3.o.2.1;obtain⟨j0,j1,j2,j3,_,_,_,_⟩:=dw y4;have HC4:=ae (Rr.o w4 H4.o);clear y4;go_upto_region 9 with(go_at_call 97;refine HC4.o.mono ?_;rintro e w5 ⟨rfl,bE⟩;have H5:=ae (H4.o.tr bE);clear bE);clear j0 j1 j2 j3;have y5:=bY H5.o H3.o.2.1
   by_cases h0:n0=0
   ·subst h0;obtain⟨j0,j1,j2,j3,_,_,_,_⟩:=dw y5;have HC6:=ae (FJ.o w5 H5.o);have uN:=ae (show R=nf by rw[HE3.o];simp);clear y5;go_wp2_with (go_at_call 99;refine HC6.o.mono ?_;rintro e w6 ⟨rfl,dh⟩;have H6:=ae dh;clear dh);go_ret;exact⟨by rw[uN.o];rfl,(H2.o.1.tr H3.o.1).tr (H5.o.tr H6.o)⟩
   ·have oO:((n0:Int)==0)=false:=by simp;omega
    have jv:¬((n0:Int)=0):=by omega
    have qxg:=();exact qjj
 |clear qxZ;have e0:=ao H2.o.2.1 0;go_upto_region 4 with fail;clear e0;exact qa9
 |go_wp2_with fail;clear e0 e1 e2 e3;go_loopw [10,64] (fun r i wr=>∃j:Nat,j<=n1/\i=.int .i64 j/\r=.int .i64 ((fj k.ts (a.take j)+1:Nat):Int)/\Below W2.heap.size W2 wr) (fun _ i _=>n1-(intOf i).toNat)
  case atStart=>exact⟨0,bn _,rfl,by simp[fj],ar _ _⟩
  case round=>
   obtain⟨j,hj,rfl,rfl,aD⟩:=hrel
   by_cases hlt:j<n1
   ·have lU:=cG HN.o hlt;exact qbR
   ·obtain rfl:n1=j:=by omega
    have cr:a.take n1=a:=by rw[HN.o];exact dA
    rw[cr];have HK:=ae (H2.o.1.tr aD);exact qhA):G:=h
theorem qeZ(h:G:=by
 go_enter func273,ntmps273;go_wp2_with (go_at_call 287;refine(HC0.o _).mono ?_;rintro e w2 ⟨rfl,rfl⟩)
 first
 |clear an;go_loopw [20] (fun i wr=>∃k:Nat,k<=k0/\i=.int .i64 k/\Below w2.heap.size w2 wr/\R=D4 (l.drop k) (m.drop k)) (fun i _=>k0-(intOf i).toNat)
  case atStart=>exact⟨0,bn _,rfl,ar _ _,by simpa using HR.o⟩
  case round=>
   have qx0:=();exact qaX
 |go_ret;exact⟨rfl,ar _ _⟩):G:=h
theorem qjv(h:G:=by
 go_upto_region 8 with(go_at_call 97;refine HC4.o.mono ?_;rintro e w5 ⟨rfl,bE⟩;have H5:=ae bE;clear bE);clear j0 j1 j2 j3;have y5:=bY H5.o H3.o.2.1;have x15:=bY (H3.o.1.tr H5.o) HB.o.2.2.2.1
 first
 |clear qx1;subst h0;clear oO;obtain⟨j0,j1,j2,j3,_,_,_,_⟩:=dw y5;have HC6:=ae (oQ.o w5 H5.o);have HX5:=ae x15;have HR5:=ae (show RS=f by rw[HB.o.2.2.2.2,aG rfl]);clear y5 x15;go_wp2_with (go_at_call 51;refine HC6.o.mono ?_;rintro e w6 ⟨⟨p0,p1,p2,p3,p4,p5,p6,p7⟩,rfl,hp,dh⟩;have WX:=bY dh HX5.o;have Ic:=ae WX;obtain⟨i0,i1,i2,i3,q0,q1,q2,q3⟩:=dw WX;have H6:=aM dh hp;clear dh hp WX);exact qcD
 |exact qjj):G:=h
theorem qdS(h:G:=by
 go_enter func21,ntmps21;go_wp2
 first
 |clear qjw;go_ret;exact⟨by rw[HE3.o];rfl,by rw[<-gh.o];exact HE.o.1⟩
 |rw[<-gh.o];clear e0 e1 e2 e3;go_loopw [5] (fun i wr=>∃k:Nat,k<=n1/\i=.int .i64 k/\Below W2.heap.size W2 wr/\x.fs.take k=y.fs.take k) (fun i _=>n1-(intOf i).toNat)
  case atStart=>exact⟨0,bn _,rfl,ar _ _,by simp⟩
  case round=>
   obtain⟨k,hk,rfl,aD,cr⟩:=hrel
   by_cases hlt:k<n1
   case pos=>
    have qx2:=();exact qjx
   obtain rfl:k=n1:=by omega
   have η:x.fs=y.fs:=by
    have h1:x.fs.take k=x.fs:=by rw[HN.o.1];exact dA
    have h2:y.fs.take k=y.fs:=by rw[HN.o.2.2.1];exact dA
    rw[<-h1,cr,h2]
   have⟨wo,IU⟩:=az wr;subst IU;have d0:=aa aD HE.o.2.1;have⟨HFe,X_⟩:=bi η aD;clear η aD cr;go_wp2;go_loopw [6] (fun i wr=>∃j:Nat,j<=n2/\i=.int .i64 j/\Below W2.heap.size W2 wr/\x.ts.take j=y.ts.take j) (fun i _=>n2-(intOf i).toNat)
   case atStart=>exact⟨0,bn _,rfl,X_.o,by simp⟩
   case round=>
    obtain⟨j,hj,rfl,aD,cr⟩:=hrel;clear d0;have d1:=aa aD HE.o.2.2.1
    by_cases fC:j<n2
    case pos=>
     have bA:j<x.ts.length:=by rw[<-HN.o.2.1];exact fC
     have lj:j<y.ts.length:=by rw[<-HN.o.2.2.2];exact fC
     obtain⟨⟨nx,tx⟩,uF⟩:∃z,z=x.ts[j]:=⟨_,rfl⟩;obtain⟨⟨ny,ty⟩,Xe⟩:∃z,z=y.ts[j]:=⟨_,rfl⟩;obtain⟨b,off,u,rfl,_,hu,c0,c1,c2,c3⟩:=HQ.o.2.1.get bA;obtain⟨b2,off2,v,rfl,_,hv,kK,lW,lX,Bu⟩:=HQ.o.2.2.2.get lj;have mR:=HF.o.2 _ (aH bA);rw[<-uF]at hu c0 mR;rw[<-Xe]at hv kK;simp only at hu hv c0 kK mR;have Cu:(j:Int)<(n2:Int):=by omega
     have⟨wz,hwz⟩:=az wr;subst hwz;obtain⟨S,hS⟩:∃S:World->Prop,S=fun Z=>Below W2.heap.size W2 Z:=⟨_,rfl⟩;have f0:∀Z,S Z->Z.cell? ⟨w.heap.size,1,none⟩=some (.slice (some ⟨b,off,none⟩) n2 qe)/\Z.cell? ⟨w.heap.size+1,1,none⟩=some (.slice (some ⟨b2,off2,none⟩) n2 re):=fun Z h=>by rw[hS]at h;exact⟨aa h HE.o.2.2.1,aa h HE.o.2.2.2.2⟩
     have f1:∀Z,S Z->Z.cell? ⟨b,off+j*4,none⟩=some (.string ⟨nx.toArray⟩)/\Z.cell? ⟨b,off+j*4+1,none⟩=some (.bool u.v)/\Z.cell? ⟨b,off+j*4+2,none⟩=some (.string u.n)/\Z.cell? ⟨b,off+j*4+3,none⟩=some (.slice u.a u.l u.c):=fun Z h=>by rw[hS]at h;exact⟨aa h c0,aa h c1,aa h c2,aa h c3⟩
     have f2:∀Z,S Z->Z.cell? ⟨b2,off2+j*4,none⟩=some (.string ⟨ny.toArray⟩)/\Z.cell? ⟨b2,off2+j*4+1,none⟩=some (.bool v.v)/\Z.cell? ⟨b2,off2+j*4+2,none⟩=some (.string v.n)/\Z.cell? ⟨b2,off2+j*4+3,none⟩=some (.slice v.a v.l v.c):=fun Z h=>by rw[hS]at h;exact⟨aa h kK,aa h lW,aa h lX,aa h Bu⟩
     have dW:S wz.drew:=by rw[hS];exact aD.drew
     have ⟨V,hV⟩:=az (kx [tx] [ty]);have K_:=ae (show ∀ (A:World),Below W2.heap.size W2 A->∀ BX BY:Nat,A.heap[BX]?=some (.cells #[.bool u.v,.string u.n,.slice u.a u.l u.c] 43 (0,0))->A.heap[BY]?=some (.cells #[.bool v.v,.string v.n,.slice v.a v.l v.c] 43 (0,0)) →
       Calls prog 19 #[.slice (some ⟨BX,0,none⟩) 1 1,.slice (some ⟨BY,0,none⟩) 1 1] A fun e w'=>e=.returned (.bool V)/\Below A.heap.size A w' from fun A hA BX BY hX hY=>by
      rw[hV];exact qi [tx] [ty] (fun _=>True) (fun _=>True) A _ 1 1 _ 1 1 ⟨by simp only[af];have:=mR.1;omega,by simp[d8];exact mR.2⟩ (Fd ((hu.later hA).move (fun _ _ _=>⟨trivial,rfl⟩)) trivial hX) (Fd ((hv.later hA).move (fun _ _ _=>⟨trivial,rfl⟩)) trivial hY))
     have⟨HV,HB,HT,c9⟩:=f8 hV aD cr hS;have HX:=aM uF Xe;clear hu hv hV aD cr mR c0 c1 c2 c3 kK lW lX Bu uF Xe hS;have jq:=fP
     by_cases nH:nx=ny
     case neg=>
      exact qhU
     subst nH;go_wp2;refine(wpIn_wide (n:=3)).1 ?_;exact qhe
    obtain rfl:j=n2:=by omega
    have hte:x.ts=y.ts:=by
     have h1:x.ts.take j=x.ts:=by rw[HN.o.2.1];exact dA
     have h2:y.ts.take j=y.ts:=by rw[HN.o.2.2.2];exact dA
     rw[<-h1,cr,h2]
    have HE3:=ae (show R=true from HR.o.2 (by
     cases x with
     |mk a b=>cases y with
      |mk c d=>simp only at HFe hte;rw[show a=c from HFe.o,show b=d from hte]))
    have HB:=ae aD;clear hte aD cr;go_wp2;go_ret;exact⟨by rw[HE3.o];rfl,HE.o.1.tr HB.o⟩):G:=h
theorem qgg(h:G:=by
 go_loopw [80] (fun i wr=>∃k:Nat,k<=k1/\i=.int .i64 k/\Below X4.heap.size X4 wr/\R=cX ps.reverse (xs.drop k) (ys.drop k)) (fun i _=>k1-(intOf i).toNat)
 case atStart=>exact⟨0,bn _,rfl,ar _ _,by simpa using Uh.o⟩
 first
 |clear qqC
  case round=>
   have qx3:=();exact qa7
 |case round=>
   exact qa7):G:=h
theorem qfx(h:G:=by
 obtain⟨qa,ql,qc,qb,qm,qe⟩:=q;obtain⟨ra,rl,rc,rb,rm,re⟩:=q';obtain rfl:=hq.1.len;obtain rfl:=hq.2.len;obtain rfl:=gY.1.len;obtain rfl:=gY.2.len;have⟨n1,eB⟩:=az x.fs.length;have⟨n2,jY⟩:=az x.ts.length
 first
 |clear qoc;have⟨m1,jQ⟩:=az y.fs.length;have⟨m2,sK⟩:=az y.ts.length;have qv1:=();exact qiH
 |have jQ:n1=y.fs.length:=eB.trans hl;have sK:n2=y.ts.length:=by rw[<-hts];exact jY
  exact qiH):G:=h
theorem qhL(h:G:=by
 have qx4:=();exact qaS):G:=h
theorem qjy(h:G:=by
 have za3:((m0:Int)!=(r4:Int))=false:=by simp;omega
 have za4:(m0==r4)=true:=by simpa using YC
 have Uh:=ae YC;clear YC;rw[dQ,show decide (k0<=r3)=true by simpa using dG,za4]at hM;simp only[dL]at hM
 by_cases gq:on=16
 first
 |clear qx5
  ·subst gq
   cases bq:xS a with
   |false=>
    have qh4:=();exact qbU
   |true=>
    have quF:=();exact qbU
  ·have zfC:((on:Int)==16)=false:=by simp;omega
   rw[show((on:Int)!=16)=true by simp;omega,Bool.true_or,dL]at hM;have qx6:=();exact qh5
 |·subst gq
   cases bq:xS a with
   |false=>
    have qh4:=();exact qbU
   |true=>
    exact qbU
  ·have zfC:((on:Int)==16)=false:=by simp;omega
   rw[show((on:Int)!=16)=true by simp;omega,Bool.true_or,dL]at hM;have qvD:=();exact qh6):G:=h
theorem qjz(h:G:=by
 rintro X Y hn ⟨k',Bv,yL,h1,h2,h3,h4,h5,h6,h7,h8⟩;have:=jk.o;have:=nZ.o.1;have:=nZ.o.2.1;exact⟨k',Bv,yL,h1,h2.nw hn (by omega) (by omega),h3,h4,h5,hn.cells h6,hn.cells h7,qh h8 hn⟩):G:=h
theorem qc1(h:G:=by
 simp only[gd.val,gd.cells];go_enter func48,ntmps48
 first
 |clear qx7;go_wp2;rw[<-kf.o];go_region
  all_goals
   rw[<-bp];clear bp;go_wp2;go_ret;exact dq.bad HE.o (by decide) (Kp.below cQ.o)
 |clear up;go_wp2;rw[<-kf.o];go_cut [5,6]from 17 to 27 (fun s5 s6 wx=>s5=.pointer (some ⟨W1.heap.size,0,none⟩)/\s6=.bool true/\wx=W2)
  case first=>
   go_region
   all_goals
    rw[<-bp];go_wp2_with fail;go_meet;exact⟨rfl,rfl,rfl⟩
  case rest=>
  obtain⟨h5,h6,hw⟩:=hcut;rw[h5,h6,hw];clear h5 h6 hw wc bp l1 l2 g0 g1 g3 g4 g5 P0 P1 P2 P3 P4 P5 P6 P7 P8;have⟨P0,P1,P2,P3,P4,P5,P6,P7⟩:=FP H2.o.2.2.2;have P8:=ao H2.o.2.2.2 8;obtain⟨e0,e1,e2,e3,_,_,_,_⟩:=dw H2.o.2.2.1
  cases I with
  |none=>
   have HE:=ae (show R=(k,70)from Oz.o);exact qjA
  |some im=>
  have zaW:=ae (show R=if fD dM f=0 then (if cI [] f im=true then (k,0) else (k,70))
   else match(match bG k.ts y with|some t=>some (t,k.ts)|none=>(fG f im dM).map fun t=>(t,iB y t k.ts))with
    |none=>(k,70)
    |some (t,ts)=>if(ag f+fD dM f*(ap t-1)!=ag im)=true then({k with ts:=ts },70)
     else if cI [] (gQ dM t f) im=true then({k with ts:=ts },0)else({k with ts:=ts },70)from Oz.o)
  have Rr:=ae (fun(V:World)(h:Below W2.heap.size W2 V)=>lk dM f Cq.o.1.fit _ V ⟨Ja,Jb,Jc,Jd,Je,Jf,Jg,Jh⟩ (Cq.o.2.later h));simp only[FQ.val]at Rr;have⟨n0,wE⟩:=az (fD dM f);rw[<-wE]at zaW Rr;have HN0:=ae wE;clear wE Oz;have d16:(16:Int)=16:=rfl;clear d16;go_upto_region 9 with(go_at_call 91;refine HC.o.mono ?_;rintro e w4 ⟨⟨⟨p0,p1,p2,p3,p4,p5,p6,p7⟩,rfl,hp⟩,aY⟩;have H4:=aM (hp _ rfl) aY;clear hp aY;simp only[Option.isSome]);exact qjB
 |rw[kf.o]at P0 P1 P2 P3 P4 P5 P6 P7 P8;go_wp2;rw[<-kf.o];go_ret;exact dq.good nF nT HE.o (Kp.below MX.o.1) (by omega) (by omega) MX.o.2):G:=h
theorem qbX(h:G:=by
 have g2:W6.cell? ⟨w.heap.size+1,2,none⟩=some (.slice ra k rc):=ao x6 2;have hz:=(bQ kJ.o)
 first
 |clear qvs;have h6:aN (w.heap.size<=·) W6 (TQ.val ⟨qv,⟨n.toArray⟩,ra,k,rc⟩) (.mk qv n a):=(HR.o.kp1 k6 (by omega)).term eQ.o.size;refine bX (v:=TQ.val ⟨qv,⟨n.toArray⟩,ra,k,rc⟩) (by simp[TQ.val,results,results53,go_sem,g0,g1,g2]) rfl ⟨⟨qv,⟨n.toArray⟩,ra,k,rc⟩,rfl,h6,Below.kp1 cR.o k6 (by omega)⟩
 |clear qvw
  first
  |clear qx9;have h6:aN (w.heap.size<=·) W6 (TQ.val ⟨false,⟨n.toArray⟩,ra,k,rc⟩) (.mk false n (a.map aU)):=(HR.o.kp1 k6 (by omega)).term eQ.o.size;refine bX (v:=TQ.val ⟨false,⟨n.toArray⟩,ra,k,rc⟩) (by simp[TQ.val,results,results69,go_sem,g0,g1,g2]) rfl (⟨⟨false,⟨n.toArray⟩,ra,k,rc⟩,rfl,h6,Below.kp1 cR.o k6 (by omega)⟩)
  |clear qya;have h6:aN (w.heap.size<=·) W6 (TQ.val ⟨false,⟨n.toArray⟩,ra,k,rc⟩) (.mk false n (a.map (ep f))):=(HR.o.kp1 k6 (by omega)).term eQ.o.size;refine bX (v:=TQ.val ⟨false,⟨n.toArray⟩,ra,k,rc⟩) (by simp[TQ.val,results,results154,go_sem,g0,g1,g2]) rfl (⟨⟨⟨false,⟨n.toArray⟩,ra,k,rc⟩,rfl,h6⟩,Below.kp1 cR.o k6 (by omega)⟩)
  |have h6:aN (w.heap.size<=·) W6 (TQ.val ⟨false,⟨n.toArray⟩,ra,k,rc⟩) (.mk false n (a.map (dK kd.ts sc))):=(HR.o.kp1 k6 (by omega)).term eQ.o.size;refine bX (v:=TQ.val ⟨false,⟨n.toArray⟩,ra,k,rc⟩) (by simp[TQ.val,results,results127,go_sem,g0,g1,g2]) rfl (⟨⟨⟨false,⟨n.toArray⟩,ra,k,rc⟩,rfl,h6⟩,Below.kp1 cR.o k6 (by omega)⟩)
 |clear qvy
  first
  |clear qyb;have h6:aN (w.heap.size<=·) W6 (TQ.val ⟨true,⟨n.toArray⟩,ra,k,rc⟩) (.mk true n (a.map aU)):=(HR.o.kp1 k6 (by omega)).term eQ.o.size;refine bX (v:=TQ.val ⟨true,⟨n.toArray⟩,ra,k,rc⟩) (by simp[TQ.val,results,results69,go_sem,g0,g1,g2]) rfl (⟨⟨true,⟨n.toArray⟩,ra,k,rc⟩,rfl,h6,Below.kp1 cR.o k6 (by omega)⟩)
  |clear qyc;have h6:aN (w.heap.size<=·) W6 (TQ.val ⟨true,⟨n.toArray⟩,ra,k,rc⟩) (.mk true n (a.map (ep f))):=(HR.o.kp1 k6 (by omega)).term eQ.o.size;refine bX (v:=TQ.val ⟨true,⟨n.toArray⟩,ra,k,rc⟩) (by simp[TQ.val,results,results154,go_sem,g0,g1,g2]) rfl (⟨⟨⟨true,⟨n.toArray⟩,ra,k,rc⟩,rfl,h6⟩,Below.kp1 cR.o k6 (by omega)⟩)
  |have h6:aN (w.heap.size<=·) W6 (TQ.val ⟨true,⟨n.toArray⟩,ra,k,rc⟩) (.mk true n (a.map (dK kd.ts sc))):=(HR.o.kp1 k6 (by omega)).term eQ.o.size;refine bX (v:=TQ.val ⟨true,⟨n.toArray⟩,ra,k,rc⟩) (by simp[TQ.val,results,results127,go_sem,g0,g1,g2]) rfl (⟨⟨⟨true,⟨n.toArray⟩,ra,k,rc⟩,rfl,h6⟩,Below.kp1 cR.o k6 (by omega)⟩)
 |have h6:aN (w.heap.size<=·) W6 (TQ.val ⟨true,⟨r.toArray⟩,ra,k,rc⟩) (.mk true r (a.map aU)):=(HR.o.kp1 k6 (by omega)).term eQ.o.size;refine bX (v:=TQ.val ⟨true,⟨r.toArray⟩,ra,k,rc⟩) (by simp[TQ.val,results,results69,go_sem,g0,g1,g2]) rfl (⟨⟨true,⟨r.toArray⟩,ra,k,rc⟩,rfl,h6,Below.kp1 cR.o k6 (by omega)⟩)):G:=h
theorem qex(h:G:=by
 have hz:=WJ.o;exact⟨hk.os.trans eQ.o.os,hk.tape.trans eQ.o.tape,hk.output.trans eQ.o.output,aR eQ.o.size hk.size,fun b hb=>(hk.same b (by omega) (by omega)).trans (eQ.o.block b hb)⟩):G:=h
theorem qhZ(h:G:=by
 have q3:=ao yE.b2 3;have zq3:=ai yE.b2 3;have⟨f0,f1,f2,f3⟩:=pC pF.b2;have⟨r0,r1,r2,r3⟩:=pC pF.b1;have z0:=ai pF.b1 0;have z1:=ai pF.b1 1;have z2:=ai pF.b1 2;have z3:=ai pF.b1 3;have⟨PD,HP⟩:=bi pF DX
 first
 |clear qux;have zas:=I0.o.lt;have qyd:=();exact qjC
 |have zas:=yF.o.lt;exact qjC):G:=h
theorem qaW(h:G:=by
 have gY:=hq1;simp only[iV,ak]at hw;simp only[il,ak]at hq1;simp only[a_]at hd
 first
 |clear Ss
  by_cases hq:br o=true
  ·obtain⟨rfl,g,rfl⟩:=rJ hq gY;have qye:=();exact qdT
  ·have hq:br o=false:=by simpa using hq
   rw[Aa hq];have ih:∀g∈s,_:=fun g hg=>jz k g x y ((kT s).1 hw.2 g hg) ((kg s).1 hq1.2 g hg) (by have:=mP s g hg;omega);refine⟨?_,?_,?_,?_⟩
   ·simp only[iV,ak];refine⟨yt (Pw y) a hw.1,(kT _).2 fun g hg=>?_⟩;have an:=();exact qbg
   ·simp only[il,hq,Bool.not_false,Bool.true_or,dL];refine(kg _).2 fun g hg=>?_;have it:=();exact qbg
   ·simp only[a_];rw[tL a hw.1,DF s (fun g hg=>(ih g hg).2.2.1)]
   ·simp only[ag];rw[tM a hw.1,DE s (fun g hg=>(ih g hg).2.2.2)]
 |clear ZU;simp only[ag]at hn
  by_cases hq:br o=true
  ·obtain⟨rfl,g,rfl⟩:=rJ hq gY;simp only[gy,hO,Bool.and_true,bl,ah]at hw hq1 hd hn;have qyg:=();exact qdU
  ·have hq:br o=false:=by simpa using hq
   rw[Aa hq];simp only[li,hq,bR,↓reduceIte,tK];rw[KV _ _ _ d s (fun g hg=>rL k g x u σ d ((kT s).1 hw.2 g hg) ((kg s).1 hq1.2 g hg) (by have:=mP s g hg;omega) (by have:=mQ s g hg;omega))]
 |clear I8;simp only[ag]at hs;simp only[mI,ak,bM]at hf
  by_cases hq:br o=true
  ·obtain⟨rfl,g,rfl⟩:=rJ hq gY;simp only[gy,hO,Bool.and_true,bl,ah,eu]at hw hq1 hd hs hf;have qyh:=();exact qdU
  ·have hq:br o=false:=by simpa using hq
   rw[Aa hq];simp only[mI,ak,bM];refine⟨hf.1,hf.2.1,DV hu a hf.2.2.1,tk.2 fun g hg=>?_⟩;have up:=();exact qbg
 |clear qnc
  by_cases hq:br o=true
  ·obtain⟨rfl,g,rfl⟩:=rJ hq gY;have qyj:=();exact qdT
  ·have hq:br o=false:=by simpa using hq
   rw[Aa hq];have h1:=D_ (x:=x) (u:=u) a;have h2:=Uf (φ:=h_ k x u) (U:=ap u) s (fun g hg=>yN k g x u ((kT s).1 hw.2 g hg) ((kg s).1 hq1.2 g hg) (by have:=mP s g hg;omega));simp only[ag,Nat.add_mul];omega
 |by_cases hq:br o=true
  ·obtain⟨rfl,g,rfl⟩:=rJ hq gY;exact qdT
  ·have hq:br o=false:=by simpa using hq
   rw[Aa hq];have ih:∀g∈s,_:=fun g hg=>rY hu k g x ((kT s).1 hw.2 g hg) ((kg s).1 hq1.2 g hg) (by have:=mP s g hg;omega);refine⟨?_,?_⟩
   ·simp only[iV,ak];refine⟨yt hu a hw.1,(kT _).2 fun g hg=>?_⟩;have an:=();exact qbg
   ·simp only[il,hq,Bool.not_false,Bool.true_or,dL];refine(kg _).2 fun g hg=>?_;exact qbg):G:=h
theorem qaB(h:G:=by
 refine hK _ _ (fun _=>by rw[c9.o];exact H7.o) (fun _=>?_)
 first
 |clear qyk;clear hK K g_ MW;have qyl:=();exact qdV
 |clear qym;clear hK K g_;refine cb 8 rfl fun K hK=>?_
  have qq8:=();exact qaa
 |clear qyn;clear hK K g_ MW CH;have qyo:=();exact qdV
 |clear qyp;clear hK K g_ x7 hp;refine cb 8 rfl fun K hK=>?_
  have qrj:=();exact qaa
 |clear qyq;clear hK K g_;refine cb 8 rfl fun K hK=>?_
  have qra:=();exact qaa
 |clear qyr;clear hK K g_ MW;exact qdV
 |clear qv7;clear hK K g_;refine cb 7 rfl fun K hK=>?_
  go_simp;refine aO.2 ((NT.o w5 H7.o).mono ?_);rintro _ w6 ⟨⟨⟨p0,p1,p2,p3,p4,p5,p6,p7⟩,rfl,hp⟩,dh⟩;have e9:=ae (H7.o.tr dh)
  first
  |clear qys;have qsP:=();exact qaN
  |have qsR:=();exact qaN
 |clear hK K g_;refine cb 9 rfl fun K hK=>?_
  go_simp;refine aO.2 ((HCt.o _ H7.o).mono ?_);rintro e w8 ⟨rfl,jc⟩;have H8:=ae (H7.o.tr jc);have q_:S w8:=by rw[c9.o];exact H8.o
  refine hK _ _ (fun _=>q_) (fun _=>?_);clear hK K jc;refine cb 10 rfl fun K hK=>?_;go_simp;refine hK _ _ (fun _=>q_) (fun _=>?_);clear hK K;refine cb 11 rfl fun K hK=>?_;go_simp;refine hK _ _ (fun _=>q_) (fun _=>?_);clear hK K;refine cb 12 rfl fun K hK=>?_;go_simp;refine hK _ _ (fun _=>q_) (fun _=>?_);clear hK K;refine cb 13 rfl fun K hK=>?_;have qrc:=();exact qaa):G:=h
theorem qjs(h:G:=by
 rw[dR.o,List.take_append_getElem dG]at h4;exact⟨k+1,by omega,by go_num,h4,((cR.o.trans (cd.mono Lg)).alloc (by omega) _).grown au (by simp;omega) (fun c hc=>(aE.lt c hc).1)⟩):G:=h
theorem qbW(h:G:=by
 exact h4.held (fun b hb _=>e_ _ _ _ _ (by have:=h.lt;simp;omega))):G:=h
theorem qbM(h:G:=by
 exact qhi):G:=h
theorem qjE(h:G:=by
 simp only[am];refine cb 6 rfl fun K hK=>?_;go_simp;refine aO.2 ((HCL.o W2.drew (cQ.o.drew)).mono ?_);rintro _ A ⟨ra,rc,rfl,hp,hA⟩;have cd:Below W2.heap.size W2 A:=((ar W2.heap.size W2).drew).trans hA
 first
 |clear qyt;have qyu:=();exact qdt
 |have H5:=aM hp cd;exact qdt):G:=h
theorem qh1(h:G:=by
 have HE:=ae (show R=true by rw[ht,iW (by rw[dN.o];exact aK _),ct];simp);have cR:=ae (cQ.o.trans (dS.mono (by omega)));exact qdc):G:=h
theorem qjA(h:G:=by
 go_wp2_with (go_at_call 91;refine HC.o.mono ?_;rintro e w4 ⟨⟨⟨p0,p1,p2,p3,p4,p5,p6,p7⟩,rfl,hp⟩,aY⟩;have H4:=ae aY;clear hp aY;simp only[Option.isSome]);go_ret
 first
 |clear up;exact dq.bad HE.o (by decide) (Kp.below ((H3.o.1.tr H4.o).alloc (H3.o.1.tr H4.o).size _))
 |exact dq.bad HE.o (by decide) (Kp.below ((H2.o.2.1.tr H4.o).alloc (H2.o.2.1.tr H4.o).size _))):G:=h
theorem qbN(h:G:=by
 injection e with e;obtain rfl:g=b:=e;rcases hg with hg|hg
 first
 |clear it
  ·exact hok.2 hg
  ·omega
 |·have:=hv g hg;omega
  ·omega):G:=h
theorem qdW(h:G:=by
 clear hM wk sM FK;have qpe:=();exact qaj):G:=h
theorem qe2(h:G:=by
 go_wp2;go_loopw [8] (fun i wr=>∃k:Nat,k<=k0/\i=.int .i64 k/\Below w.heap.size w wr/\∀t∈l.take k,pr t=false) (fun i _=>k0-(intOf i).toNat)
 case atStart=>exact⟨0,bn _,rfl,ar _ _,by simp⟩
 first
 |clear an
  case round=>
   obtain⟨k,hk,rfl,aD,iX⟩:=hrel
   by_cases hlt:k<k0
   ·have bA:=cG HK.o hlt;obtain⟨b,off,⟨xv,xn,xa,xl,xc⟩,rfl,hok,hx,c0,c1,c2⟩:=HV.o.get bA;simp only at c0 c1 c2;have qoR:=();exact qab
   ·obtain rfl:k=k0:=by omega
    have HE:=ae (show l.any pr=false by
     rw[HK.o,dA]at iX;rw[List.any_eq_false];intro t ht;rw[iX t ht];simp)
    have HB:=ae aD;clear aD iX;go_wp2;go_ret;exact⟨⟨_,rfl,by rw[HE.o];simp⟩,HB.o⟩
 |case round=>
   obtain⟨k,hk,rfl,aD,iX⟩:=hrel
   by_cases hlt:k<k0
   ·have bA:=cG HK.o hlt;obtain⟨b,off,rfl,hok,c0⟩:=HV.o.get bA;have d0:=aa aD c0;have CB:=HP.o l[k] wr (aH bA) aD;have Cu:(k:Int)<(k0:Int):=by omega
    cases hq:pr l[k]with
    |true=>
     rw[hq]at CB;have HC:=ae CB;have HE:=bS hq iX (jn bA);have it:=();exact qjF
    |false=>
     rw[hq]at CB;have HC:=ae CB;have Bl:=ae (zaJ bA iX hq);exact qjF
   ·obtain rfl:k=k0:=by omega
    have HE:=ae (show ∀ x∈l,pr x=false by
     rw[HK.o,dA]at iX;exact iX)
    have HB:=ae aD;clear aD iX;go_wp2;go_ret;exact⟨.inl ⟨rfl,HE.o⟩,HB.o⟩):G:=h
