/-
'fill' of package match.
-/
import Derived.Test.YtokemihbkeddoaaGreatDoorU15
namespace Go.Proofs.YtokemihbkeddoaaGreatDoor
open Go Go.RowKit Lib
set_option maxRecDepth 100000
set_option maxHeartbeats 64000000
variable {k:Bd} {c:List Str} {o:Int} {n:Str} {s:List Fm} {g:Fm}
section
attribute [local go_sem] Oper.semAt_some
def GU (W0:World) (kd:Bd) (kb:Nat) (s:Fm):Prop:=∀ (c L:List Str) (ok:Nat->Prop) (w:World) (vL:Value) (q:FQ),Below W0.heap.size W0 w->StrsN w vL L->L.length+nodesF s<=1000000->(∀ y,L.contains y=c.contains y)->FormV ok w q.val s →
 Calls Tryz.prog 72 #[.pointer (some ⟨kb,0,none⟩),q.val,vL] w fun e w'=>(∃p:FQ,e=.returned p.val/\FormV (w.heap.size<=·) w' p.val (cM kd c s))/\Below w.heap.size w w'
theorem EG {w V W6:World} {B:Nat} {p:FQ} {f:Fm} (hb:Below w.heap.size w V) (hB:w.heap.size<=B) (k6:Kp (fun b=>b=B) V W6) (hp:FormV (B<·) V p.val f):FormV (w.heap.size<=·) W6 p.val f/\Below w.heap.size w W6:=
 ⟨hp.move (fun b h hlt=>⟨by omega,k6.same b hlt (by omega)⟩),⟨k6.os.trans hb.os,k6.tape.trans hb.tape,k6.output.trans hb.output,aN hb.size k6.size,fun b h=>(k6.same b (bE h hb.size) (by omega)).trans (hb.block b h)⟩⟩
theorem Mo (W0:World) (mR:Nat->Prop) (kb mF mT nF nT:Nat) (kd:Bd) (dS:KnV mR goodF goodT W0 kb mF mT nF nT kd) (WB:World) (_:Tabs WB W0) (n:Str) (a:List Tm) (ss:List Fm) (hs:okF true (.mk 15 n a ss)=true) (_:nodesF (.mk 15 n a ss)<=400):GU W0 kd kb (.mk 15 n a ss):=by
 have pp286:=();exact pm286
theorem BA (W0:World) (mR:Nat->Prop) (kb mF mT nF nT:Nat) (kd:Bd) (dS:KnV mR goodF goodT W0 kb mF mT nF nT kd) (WB:World) (jc:Tabs WB W0) (n:Str) (a:List Tm) (ss:List Fm) (hs:okF true (.mk 16 n a ss)=true) (_:nodesF (.mk 16 n a ss)<=400):GU W0 kd kb (.mk 16 n a ss):=by
 exact pm286
theorem vS (W:World) (n:Str) (rb:Nat) (hrc:W.heap[rb]?=some (.cells #[.string ⟨n.toArray⟩] 9 (0,0))) (la:Option Addr) (l0 lc:Nat) (L:List Str) (sq:l0=L.length) (cm:L.length<=1000000) (hL:StrsN W (.slice la l0 lc) L) (ty:TypeId) :
  ∃v' w',(Builtin.append_ #[66,66] ty #[.slice la l0 l0,.slice (some ⟨rb,0,none⟩) 1 1]).run Tryz.prog W=.ok v' w'/\StrsN w' v' (L ++ [n])/\Below W.heap.size W w'/\∀ b,v'.ownBlock=some b->W.heap.size<=b/\b<w'.heap.size:=by
 obtain ⟨i0,hi,xH,uU,yi⟩:=info_parts yQ;obtain ⟨a',cap,hv,hc,rq⟩:=hL;obtain ⟨rfl,_,rfl⟩:la=a'/\l0=L.length/\lc=cap:=by injection hv with h1 h2 h3;exact ⟨h1,h2,h3⟩
 have hr:∃g cap w',(Builtin.append_ #[66,66] ty #[.slice la l0 l0,.slice (some ⟨rb,0,none⟩) 1 1]).run Tryz.prog W=.ok (.slice (some ⟨g,0,none⟩) (l0+1) cap) w'/\w'.ownsRow W.heap.size 9 1 (.slice (some ⟨g,0,none⟩) (l0+1) cap) (l0+1) (L.map encStr ++ [.string ⟨n.toArray⟩])/\W.grownBy w' none:=by
  rcases rq with ⟨h1,h2,h3⟩ | ⟨b,off,h1,h4⟩
  ·subst h1 h2;obtain rfl:l0=0:=sq;obtain ⟨g,cap,w',hr,h2,h3,_,_⟩:=run_append_lies (P:=Tryz.prog) W 66 ty W.heap.size 9 i0 (.string ByteArray.empty) 1 16 Tryz.underlying66 hi xH uU yi rfl (by decide) (.slice none 0 0) 0 [] (World.ownsRow_nil _ _ _ _) ⟨rb,0,none⟩ 1 1 [.string ⟨n.toArray⟩] rfl (c_ (cs:=#[.string ⟨n.toArray⟩]) (t:=9) (fr:=(0,0)) hrc) (by simp[Value.oneCell']) (by decide) (by unfold maxLen;omega) (by omega) (aI _) _ rfl;exact ⟨g,cap,w',hr,h2,h3⟩
  ·subst h1;obtain ⟨v',w',hr,h2,h3⟩:=run_append_arg_grows (P:=Tryz.prog) W 66 ty 9 i0 (.string ByteArray.empty) 1 16 Tryz.underlying66 hi xH uU yi rfl (by decide) ⟨b,off,none⟩ l0 l0 (L.map encStr) (by rw[List.length_map,sq];omega) (fun j u hu=>by
    rw[List.getElem?_map]at hu
    by_cases hj:j<L.length
    ·rw[gx hj]at hu;rw[vi];refine (h4 j hj).trans ?_;rw[<-hu];rfl
    ·rw[List.getElem?_eq_none (by omega)]at hu;cases hu) ⟨rb,0,none⟩ 1 1 [.string ⟨n.toArray⟩] rfl (c_ (cs:=#[.string ⟨n.toArray⟩]) (t:=9) (fr:=(0,0)) hrc) (by omega) (by unfold maxLen;omega) (by omega)
   obtain ⟨g,cap,rfl,_,_⟩:=h2.form (by omega);exact ⟨g,cap,w',hr,h2,h3⟩
 obtain ⟨g,cap,w',hr,h2,h3⟩:=hr;have hmp:L.map encStr ++ [.string ⟨n.toArray⟩]=(L ++ [n]).map encStr:=by rw[List.map_append];rfl
 rw[hmp]at h2;refine ⟨_,w',hr,StrsN.own h2,⟨h3.os,h3.tape,h3.output,h3.size,fun b hb=>h3.block b hb (by simp)⟩,fun b hb=>?_⟩;obtain rfl:g=b:=by simpa[Value.ownBlock] using hb
 exact h2.lt g rfl
theorem Aa (k:Bd) (c:List Str):∀ l,fp k c l=l.map (cM k c)
 | []=>rfl
 | t :: l=>by simp[fp,Aa k c l]
theorem Se {a:List Tm} (jW:o≠15) (fG:o≠16) (hq:bU o=false):cM k c (.mk o n a s)=.mk o n (a.map (cQ k.ts c)) (s.map (cM k c)):=by
 simp only[cM,aw jW,aw fG,hq,dE,if_false,ow,Aa]
theorem Sf (jW:o≠15) (fG:o≠16) (hq:bU o=true):cM k c (.mk o n [] [g])=nG o n [] (cM k (n :: c) g):=by
 simp only[cM,aw jW,aw fG,hq,if_true,fp,fk]
theorem JA (W0:World) (mR:Nat->Prop) (kb mF mT nF nT:Nat) (kd:Bd) (dS:KnV mR goodF goodT W0 kb mF mT nF nT kd) (WB:World) (jc:Tabs WB W0) (xS:bL kd=true) (fX:∀ x∈kd.ts,nodesT x.2<=1000) (WT:Int) (n:Str) (a:List Tm) (ss:List Fm) (jW:WT≠15) (fG:WT≠16) (hs:okF true (.mk WT n a ss)=true) (qJ:nodesF (.mk WT n a ss)<=400) (zaw:iM kd (.mk WT n a ss)=true) (hsz:tS kd (.mk WT n a ss)<=1000) (IH:∀ g∈ss,GU W0 kd kb g):GU W0 kd kb (.mk WT n a ss):=by
 exact pm154
theorem Mr (h:g∈s):tS k g<=pX k s:=by
 induction s with
 | nil=>cases h
 | cons u l ih=>
  unfold pX;rcases cY.1 h with rfl | h
  ·omega
  ·have:=ih h;omega
theorem GW (h:g∈s) (hk:jO k s=true):iM k g=true:=by
 induction s with
 | nil=>cases h
 | cons u l ih=>
  simp only[jO,ah]at hk;rcases cY.1 h with rfl | h
  ·exact hk.1
  ·exact ih h hk.2
theorem Sj {sc:Bool} (h:g∈s) (hk:dD sc s=true):okF sc g=true:=by
 induction s with
 | nil=>cases h
 | cons u l ih=>
  simp only[dD,ah]at hk;rcases cY.1 h with rfl | h
  ·exact hk.1
  ·exact ih h hk.2
theorem Pw (W0:World) (mR:Nat->Prop) (kb mF mT nF nT:Nat) (kd:Bd) (dS:KnV mR goodF goodT W0 kb mF mT nF nT kd) (WB:World) (jc:Tabs WB W0) (xS:bL kd=true) (fX:∀ x∈kd.ts,nodesT x.2<=1000):∀ s:Fm,okF true s=true->iM kd s=true->nodesF s<=400->tS kd s<=1000->GU W0 kd kb s:=by
 intro s
 induction s using Fm.ind with
 | h o n a ss ih=>
  intro hs hk hn hz
  by_cases jW:o=15
  ·subst jW;exact Mo W0 mR kb mF mT nF nT kd dS WB jc n a ss hs hn
  ·by_cases fG:o=16
   ·subst fG;exact BA W0 mR kb mF mT nF nT kd dS WB jc n a ss hs hn
   ·refine JA W0 mR kb mF mT nF nT kd dS WB jc xS fX o n a ss jW fG hs hn hk hz (fun g hg=>?_);have h1:=hs;simp only[okF,ah]at h1;have h2:=(oA jW fG hk).2;have h3:=jn hg;have h4:=Mr (k:=kd) hg;simp only[nodesF]at hn;unfold tS at hz;exact ih g hg (Sj hg h1.2.2.2.2) (GW hg h2) (by omega) (by omega)
theorem JB {b:Bd} {s:Fm} (h:pu b s=0):iM b s=true/\tS b s<=400:=by
 unfold pu at h;split at h
 ·cases h
 ·rename_i h1;split at h
  ·cases h
  ·split at h
   ·cases h
   ·rename_i h3;refine ⟨GH s [] (by simpa using h1),?_⟩;rw[C6]at h3;omega
theorem Px (WB:World) (s:Fm) (b:Bd) (hf:fitF s) (hb:BdFit b) (ok:Nat->Prop) (w:World) (q:FQ) (r:BQ) (hT:Tabs WB w) (hq:FormV ok w q.val s) (vP:BindV ok w r b) :
  Calls Tryz.prog 32 #[q.val,r.val] w fun e w'=>(∃p:FQ,e=.returned (.tuple #[p.val,.int .i64 (vX s b).2])/\FormV (w.heap.size<=·) w' p.val (vX s b).1)/\Below w.heap.size w w':=by
 obtain ⟨R,hR⟩:=am (vX s b);rw[<-hR];obtain ⟨W2,bm⟩:=am (((w.alloc (.cells #[.int .u8 q.o,.string q.n,.slice q.a q.l q.c,.slice q.b q.m q.e] 36)).alloc (.cells #[.slice r.a r.l r.c,.slice r.b r.m r.e] 26)).alloc (.cells #[.int .u8 0,.string ⟨#[]⟩,.slice none 0 0,.slice none 0 0] 36));have bD:=wX bm;have ig:=Hu bm;have x0:=xZ bm;have x1:=rj bm;have x2:=pg bm;have rC:=ae (zW WB s hf ok W2 (hT.next bD) q (hq.later bD));have Wx:=ae (fun (V:World) (h:Below W2.heap.size W2 V)=>vO WB b hb ok V (hT.next (bD.tr h)) r (vP.later (bD.tr h)));obtain ⟨gs,O3⟩:=am (eL s);obtain ⟨gv,ot⟩:=am (bL b);unfold vX at hR;rw[<-O3,<-ot]at hR;rw[<-O3]at rC;rw[<-ot]at Wx;have HB:=fh bD ig x0 x1 x2;have gK:=ae bm;have HA:=fh hT hq vP hf hb;have HG:=aG O3 ot;have HR:=ae hR;simp only[FQ.val,BQ.val]at rC Wx ⊢;obtain ⟨c0,c1,c2,c3,_,_,_,_⟩:=dp x0;rw[bm]at c0 c1 c2 c3;clear bm bD ig x0 x1 x2 hT hq vP hf hb O3 ot hR;have g_:=eM
 cases gs with
 | false=>
  have pp280:=();exact pm280
 | true=>
  cases gv with
  | false=>
   exact pm280
  | true=>
   have Q9:=HG.o.1.symm;simp only[eL,ah,bx]at Q9;have IL:=ae Q9;clear Q9;go_enter Tryz.func32,Tryz.ntmps32;go_upto_region 3 with (first | (rw[<-gK.o];go_at_call 26;refine rC.o.mono ?_;rintro e w3 ⟨rfl,aL⟩;have x3:=bR aL HB.o.2.2.2.1;have j0:=ai x3 0;have j1:=ai x3 1;have H3:=ae aL;clear aL x3) | (go_at_call 27;refine (Wx.o _ H3.o).mono ?_;rintro e w4 ⟨rfl,aP⟩;have H4:=ae (H3.o.tr aP);clear aP));clear c0 c1 c2 c3 j0 j1;have hkb:=wN b HA.o.2.2.2.2 HG.o.2.symm ok w4 r (HA.o.2.2.1.later (HB.o.1.tr H4.o));simp only[BQ.val]at hkb;have HKB:=ae hkb;have x4:=bR H4.o HB.o.2.2.2.1;obtain ⟨j0,j1⟩:=QV x4;clear hkb x4;go_upto_region 4 with (go_at_call 46;refine HKB.o.mono ?_;rintro e w5 ⟨rfl,dS,bj⟩;have H5:=bG (H4.o.tr bj) dS bj;clear dS bj);clear j0 j1;obtain ⟨er,M8⟩:=am (pu b s);have hck:=Mm _ _ _ _ _ _ b s IL.o.1 IL.o.2.1 ok w5 H5.o.2.1 q (HA.o.2.1.later (HB.o.1.tr H5.o.1));simp only[FQ.val,<-M8]at hck;have Yu:=ae hck;have x5:=bR H5.o.1 HB.o.2.2.1;obtain ⟨c0,c1,c2,c3,_,_,_,_⟩:=dp x5;have hR:=HR.o;rw[<-M8]at hR;obtain ⟨HEr,Ho⟩:=a_ M8 hR;clear hck M8 hR x5
   by_cases h0:er=0
   ·subst h0;have Oe:=JB HEr.o.symm;go_upto_region 7 with (go_at_call 71;refine Yu.o.mono ?_;rintro e w6 ⟨rfl,cR⟩;have H6:=ae cR;clear cR);clear c0 c1 c2 c3;have x6:=bR (H5.o.1.tr H6.o) HB.o.2.2.1;obtain ⟨c0,c1,c2,c3,_,_,_,_⟩:=dp x6;have qW:=Pw w6 _ _ _ _ _ _ b (H5.o.2.1.later H6.o) WB (HA.o.1.next (HB.o.1.tr (H5.o.1.tr H6.o))) HG.o.2.symm (fun x hx=>(HA.o.2.2.2.2.ts x hx).2.2) s IL.o.1 Oe.1 IL.o.2.1 (by have:=Oe.2;omega) [] [] ok w6 (.slice none 0 0) q (ak _ _) (StrsN.nil _) (by have:=IL.o.2.1;simp;omega) (fun _=>rfl) (HA.o.2.1.later (HB.o.1.tr (H5.o.1.tr H6.o)));have oc:=zL HG.o.2.symm (fun x hx=>(HA.o.2.2.2.2.ts x hx).2.2) s [] IL.o.1 Oe.1 (by have:=Oe.2;omega);obtain ⟨G,Si⟩:=am (cM b [] s);simp only[FQ.val,<-Si]at qW;rw[<-Si]at oc;have hR:=Ho.o;rw[aw (by simp),aw (by simp),<-Si]at hR;obtain ⟨Q_,HRG⟩:=a_ qW hR;have xE:=ae (show fitF G from ⟨by have:=Oe.2;omega,oc.2⟩);clear qW hR oc Si Oe x6;go_upto_region 8 with (go_at_call 72;refine Q_.o.mono ?_;rintro e w7 ⟨⟨⟨p0,p1,p2,p3,p4,p5,p6,p7⟩,rfl,hp⟩,fw⟩;have H7:=aG fw hp;clear fw hp);clear c0 c1 c2 c3;obtain ⟨W8,lr⟩:=am (w7.alloc (.cells #[.int .u8 p0,.string p1,.slice p2 p3 p4,.slice p5 p6 p7] 36));rw[<-lr];have gJ:=cZ lr;have y8:=cb lr;obtain ⟨k0,k1,k2,k3,_,_,_,_⟩:=dp y8;have sF:=HB.o.1.tr ((H5.o.1.tr H6.o).tr (H7.o.1.tr gJ));have WW:=vM WB G xE.o _ W8 (HA.o.1.next sF) ⟨p0,p1,p2,p3,p4,p5,p6,p7⟩ (H7.o.2.later gJ);simp only[FQ.val]at WW;obtain ⟨gr,RZ⟩:=am (dv G);rw[<-RZ]at WW;have hR:=HRG.o;rw[<-RZ]at hR;obtain ⟨HRt,pZ⟩:=a_ WW hR;have H8:=bG sF y8 (H7.o.2.later gJ);have T1:W2.heap.size<=w6.heap.size:=(H5.o.1.tr H6.o).size;have HS8:=ae T1;have x8:=bR ((H5.o.1.tr H6.o).tr (H7.o.1.tr gJ)) HB.o.2.2.2.2;have HX8:=ae x8;clear WW hR RZ gJ y8 sF lr T1 x8
    cases gr with
    | false=>
     have HE:=ae (show R=(j6,3) by rw[pZ.o];rfl);go_wp2_with (go_at_call 39;refine HRt.o.mono ?_;rintro e w9 ⟨rfl,lp⟩;have x9:=bR lp HX8.o;obtain ⟨i0,i1,i2,i3,z0,z1,z2,z3⟩:=dp x9;have Jz:=ae x9;have H9:=ae lp;clear lp x9);have pp181a:=();exact pm181
    | true=>
     have HE:=ae (show R=(G,0) by rw[pZ.o];rfl);go_wp2_with (go_at_call 39;refine HRt.o.mono ?_;rintro e w9 ⟨rfl,lp⟩;have x9:=bR lp HX8.o;obtain ⟨i0,i1,i2,i3,z0,z1,z2,z3⟩:=dp x9;have y9:=bR lp H8.o.2.1;obtain ⟨m0,m1,m2,m3,_,_,_,_⟩:=dp y9;have Jz:=ae x9;have H9:=aG lp (H8.o.2.2.later lp);clear lp x9 y9);have x6:=kP (v0:=.int .u8 p0) (v1:=.string p1) (v2:=.slice p2 p3 p4) (v3:=.slice p5 p6 p7) Jz.o;have k6:=dA (W:=w9) (b:=w.heap.size+1+1) (v0:=.int .u8 p0) (v1:=.string p1) (v2:=.slice p2 p3 p4) (v3:=.slice p5 p6 p7);obtain ⟨W6,da⟩:=am ((((w9.setCell ⟨w.heap.size+1+1,0,none⟩ (.int .u8 p0)).setCell ⟨w.heap.size+1+1,1,none⟩ (.string p1)).setCell ⟨w.heap.size+1+1,2,none⟩ (.slice p2 p3 p4)).setCell ⟨w.heap.size+1+1,3,none⟩ (.slice p5 p6 p7));rw[<-da]at x6 k6 ⊢;clear da;obtain ⟨g0,g1,g2,g3,_,_,_,_⟩:=dp x6;refine bJ (v:=.tuple #[FQ.val ⟨p0,p1,p2,p3,p4,p5,p6,p7⟩,.int .i64 0]) (by simp[FQ.val,results,Tryz.results32,go_sem,g0,g1,g2,g3]) rfl ⟨⟨⟨p0,p1,p2,p3,p4,p5,p6,p7⟩,(by rw[HE.o];try rfl),?_⟩,Below.kp1 (H8.o.1.tr H9.o.1) k6 (by omega)⟩;rw[HE.o];exact (H9.o.2.move (fun b hb hlt=>⟨by have h:w6.heap.size<=b:=hb;have:=HS8.o;have:=HB.o.1.size;omega,k6.same b hlt (by have h:w6.heap.size<=b:=hb;have:=HS8.o;have:=HB.o.2.1;omega)⟩))
   ·have i9:(er != 0)=true:=by simp[h0]
    have UU:¬er=0:=h0;have HE:=ae (show R=(j6,er) by rw[Ho.o];simp[h0]);go_wp2_with (go_at_call 71;refine Yu.o.mono ?_;rintro e w6 ⟨rfl,cR⟩;have x6:=bR (H5.o.1.tr cR) HB.o.2.2.2.2;obtain ⟨i0,i1,i2,i3,z0,z1,z2,z3⟩:=dp x6;have Jz:=ae x6;have H6:=ae cR;clear cR x6);have pp181b:=();exact pm181
