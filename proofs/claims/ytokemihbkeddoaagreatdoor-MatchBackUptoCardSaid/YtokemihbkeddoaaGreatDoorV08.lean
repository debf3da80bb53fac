/-
'fill' of package match.
-/
import Derived.Test.YtokemihbkeddoaaGreatDoorV07
namespace Go.Proofs.YtokemihbkeddoaaGreatDoor
open Go Go.RowKit Lib
set_option maxRecDepth 100000
set_option maxHeartbeats 64000000
variable {B n:Nat} {p q:FQ} {f g:Fm} {c:List Str} {s:List Fm} {v v0 v1 z0 z1 u:Value} {ok:Nat->Prop} {wM:Array TypeId} {W Wb:World}
section
attribute [local go_sem] Oper.semAt_some
def Kc (W0:World) (kd:Bd) (kb:Nat) (s:Fm):Prop:=∀ (c L:List Str) (ok:Nat->Prop) (w:World) (vL:Value) (q:FQ),Below W0.heap.size W0 w->StrsN w vL L->L.length+nodesF s<=1000000->(∀ y,L.contains y=c.contains y)->FormV ok w q.val s →
 Calls Tryz.prog 72 #[.pointer (some ⟨kb,0,none⟩),q.val,vL] w fun e w'=>(∃p:FQ,e=.returned p.val/\FormV (w.heap.size<=·) w' p.val (cw kd c s))/\Below w.heap.size w w'
theorem Hp {w V W6:World} (hb:Below w.heap.size w V) (hB:w.heap.size<=B) (k6:Kp (fun b=>b=B) V W6) (hp:FormV (B<·) V p.val f):FormV (w.heap.size<=·) W6 p.val f/\Below w.heap.size w W6:=
 ⟨hp.move (fun b h hlt=>⟨by omega,k6.same b hlt (by omega)⟩),⟨k6.os.trans hb.os,k6.tape.trans hb.tape,k6.output.trans hb.output,aN hb.size k6.size,fun b h=>(k6.same b (bJ h hb.size) (by omega)).trans (hb.block b h)⟩⟩
theorem PE (W0:World) (oz:Nat->Prop) (kb mF mT nF nT:Nat) (kd:Bd) (d_:KnV oz goodF goodT W0 kb mF mT nF nT kd) (WB:World) (_:Tabs WB W0) (n:Str) (a:List Tm) (ss:List Fm) (hs:okF true (.mk 15 n a ss)=true) (_:nodesF (.mk 15 n a ss)<=400):Kc W0 kd kb (.mk 15 n a ss):=by
 intro c L ok w vL q cZ hL VK Sc hq;have qnF:=();exact qcm
theorem EJ (W0:World) (oz:Nat->Prop) (kb mF mT nF nT:Nat) (kd:Bd) (d_:KnV oz goodF goodT W0 kb mF mT nF nT kd) (WB:World) (i8:Tabs WB W0) (n:Str) (a:List Tm) (ss:List Fm) (hs:okF true (.mk 16 n a ss)=true) (_:nodesF (.mk 16 n a ss)<=400):Kc W0 kd kb (.mk 16 n a ss):=by
 intro c L ok w vL q cZ hL VK Sc hq;have qnG:=();exact qcm
theorem yM (W:World) (n:Str) (rb:Nat) (hrc:W.heap[rb]?=some (.cells #[.string ⟨n.toArray⟩] 9 (0,0))) (la:Option Addr) (l0 lc:Nat) (L:List Str) (tf:l0=L.length) (bW:L.length<=1000000) (hL:StrsN W (.slice la l0 lc) L) (ty:TypeId) :
  ∃v' w',(Builtin.append_ #[66,66] ty #[.slice la l0 l0,.slice (some ⟨rb,0,none⟩) 1 1]).run Tryz.prog W=.ok v' w'/\StrsN w' v' (L ++ [n])/\Below W.heap.size W w'/\∀ b,v'.ownBlock=some b->W.heap.size<=b/\b<w'.heap.size:=by
 obtain ⟨i0,hi,Ar,xP,AT⟩:=info_parts vN;obtain ⟨a',cap,hv,hc,sY⟩:=hL;obtain ⟨rfl,_,rfl⟩:la=a'/\l0=L.length/\lc=cap:=by injection hv with h1 h2 h3;exact ⟨h1,h2,h3⟩
 have hr:∃g cap w',(Builtin.append_ #[66,66] ty #[.slice la l0 l0,.slice (some ⟨rb,0,none⟩) 1 1]).run Tryz.prog W=.ok (.slice (some ⟨g,0,none⟩) (l0+1) cap) w'/\w'.ownsRow W.heap.size 9 1 (.slice (some ⟨g,0,none⟩) (l0+1) cap) (l0+1) (L.map encStr ++ [.string ⟨n.toArray⟩])/\W.grownBy w' none:=by
  rcases sY with ⟨h1,h2,h3⟩ | ⟨b,off,h1,h4⟩
  ·subst h1 h2;obtain rfl:l0=0:=tf;obtain ⟨g,cap,w',hr,h2,h3,_,_⟩:=run_append_lies (P:=Tryz.prog) W 66 ty W.heap.size 9 i0 (.string ByteArray.empty) 1 16 Tryz.underlying66 hi Ar xP AT rfl (by decide) (.slice none 0 0) 0 [] (World.ownsRow_nil _ _ _ _) ⟨rb,0,none⟩ 1 1 [.string ⟨n.toArray⟩] rfl (cV (cs:=#[.string ⟨n.toArray⟩]) (t:=9) (fr:=(0,0)) hrc) (by simp[Value.oneCell']) (by decide) (by unfold maxLen;omega) (by omega) (aC _) _ rfl;exact ⟨g,cap,w',hr,h2,h3⟩
  ·subst h1;obtain ⟨v',w',hr,h2,h3⟩:=run_append_arg_grows (P:=Tryz.prog) W 66 ty 9 i0 (.string ByteArray.empty) 1 16 Tryz.underlying66 hi Ar xP AT rfl (by decide) ⟨b,off,none⟩ l0 l0 (L.map encStr) (by rw[List.length_map,tf];omega) (fun j u hu=>by
    rw[List.getElem?_map]at hu
    by_cases hj:j<L.length
    ·rw[io hj]at hu;rw[rY];refine (h4 j hj).trans ?_;rw[<-hu];rfl
    ·rw[List.getElem?_eq_none (by omega)]at hu;cases hu) ⟨rb,0,none⟩ 1 1 [.string ⟨n.toArray⟩] rfl (cV (cs:=#[.string ⟨n.toArray⟩]) (t:=9) (fr:=(0,0)) hrc) (by omega) (by unfold maxLen;omega) (by omega)
   exact qeC
 obtain ⟨g,cap,w',hr,h2,h3⟩:=hr;have qnH:=();exact qfc
theorem Dj (k:Bd) (c:List Str):∀ l,el k c l=l.map (cw k c)
 | []=>rfl
 | t :: l=>by simp[el,Dj k c l]
theorem Wv {k:Bd} {o:Int} {n:Str} {a:List Tm} (ja:o≠15) (h16:o≠16) (hq:bm o=false):cw k c (.mk o n a s)=.mk o n (a.map (da k.ts c)) (s.map (cw k c)):=by
 simp only[cw,ak ja,ak h16,hq,bO,if_false,pN,Dj]
theorem Ww {k:Bd} {o:Int} {n:Str} (ja:o≠15) (h16:o≠16) (hq:bm o=true):cw k c (.mk o n [] [g])=mW o n [] (cw k (n :: c) g):=by
 simp only[cw,ak ja,ak h16,hq,if_true,el,dZ]
theorem Mx (W0:World) (oz:Nat->Prop) (kb mF mT nF nT:Nat) (kd:Bd) (d_:KnV oz goodF goodT W0 kb mF mT nF nT kd) (WB:World) (i8:Tabs WB W0) (FU:validB kd=true) (eW:∀ x∈kd.ts,nodesT x.2<=1000) (Β:Int) (n:Str) (a:List Tm) (ss:List Fm) (ja:Β≠15) (h16:Β≠16) (hs:okF true (.mk Β n a ss)=true) (sf:nodesF (.mk Β n a ss)<=400) (zbR:iE kd (.mk Β n a ss)=true) (hsz:wG kd (.mk Β n a ss)<=1000) (IH:∀ g∈ss,Kc W0 kd kb g):Kc W0 kd kb (.mk Β n a ss):=by
 exact qbg
theorem PH {k:Bd} (h:g∈s):wG k g<=rD k s:=by
 induction s with
 | nil=>cases h
 | cons u l ih=>
  unfold rD;exact qbe
theorem Ke {k:Bd} (h:g∈s) (hk:iJ k s=true):iE k g=true:=by
 induction s with
 | nil=>cases h
 | cons u l ih=>
  simp only[iJ,ae]at hk;exact qfd
theorem WA {sc:Bool} (h:g∈s) (hk:dt sc s=true):okF sc g=true:=by
 induction s with
 | nil=>cases h
 | cons u l ih=>
  simp only[dt,ae]at hk;exact qfd
theorem Tf (W0:World) (oz:Nat->Prop) (kb mF mT nF nT:Nat) (kd:Bd) (d_:KnV oz goodF goodT W0 kb mF mT nF nT kd) (WB:World) (i8:Tabs WB W0) (FU:validB kd=true) (eW:∀ x∈kd.ts,nodesT x.2<=1000):∀ s:Fm,okF true s=true->iE kd s=true->nodesF s<=400->wG kd s<=1000->Kc W0 kd kb s:=by
 intro s
 induction s using Fm.ind with
 | h o n a ss ih=>
  intro hs hk hn hz
  by_cases ja:o=15
  ·subst ja;exact PE W0 oz kb mF mT nF nT kd d_ WB i8 n a ss hs hn
  ·by_cases h16:o=16
   ·subst h16;exact EJ W0 oz kb mF mT nF nT kd d_ WB i8 n a ss hs hn
   ·refine Mx W0 oz kb mF mT nF nT kd d_ WB i8 FU eW o n a ss ja h16 hs hn hk hz (fun g hg=>?_);have h1:=hs;simp only[okF,ae]at h1;have h2:=(ng ja h16 hk).2;have h3:=fO hg;have h4:=PH (k:=kd) hg;simp only[nodesF]at hn;unfold wG at hz;exact ih g hg (WA hg h1.2.2.2.2) (Ke hg h2) (by omega) (by omega)
theorem My {b:Bd} {s:Fm} (h:ph b s=0):iE b s=true/\wG b s<=400:=by
 unfold ph at h;split at h
 ·cases h
 ·rename_i h1;split at h
  ·cases h
  ·split at h
   ·cases h
   ·rename_i h3;refine ⟨Cx s [] (by simpa using h1),?_⟩;rw[FO]at h3;omega
theorem Tg (WB:World) (s:Fm) (b:Bd) (hf:fitF s) (hb:BdFit b) (ok:Nat->Prop) (w:World) (q:FQ) (r:BQ) (hT:Tabs WB w) (hq:FormV ok w q.val s) (Ao:BindV ok w r b) :
  Calls Tryz.prog 32 #[q.val,r.val] w fun e w'=>(∃p:FQ,e=.returned (.tuple #[p.val,.int .i64 (fillS s b).2])/\FormV (w.heap.size<=·) w' p.val (fillS s b).1)/\Below w.heap.size w w':=by
 have ⟨R,hR⟩:=aj (fillS s b);rw[<-hR];have ⟨W2,aZ⟩:=aj (((w.alloc (.cells #[.int .u8 q.o,.string q.n,.slice q.a q.l q.c,.slice q.b q.m q.e] 36)).alloc (.cells #[.slice r.a r.l r.c,.slice r.b r.m r.e] 26)).alloc (.cells #[.int .u8 0,.string ⟨#[]⟩,.slice none 0 0,.slice none 0 0] 36));have bG:=uS aZ;have gY:=Ir aZ;have x0:=yX aZ;have x1:=qN aZ;have x2:=oD aZ;have uP:=ab (C9 WB s hf ok W2 (hT.next bG) q (hq.later bG));have SL:=ab (fun (V:World) (h:Below W2.heap.size W2 V)=>yJ WB b hb ok V (hT.next (bG.tr h)) r (Ao.later (bG.tr h)));have ⟨gs,SM⟩:=aj (fM s);have ⟨gv,oy⟩:=aj (validB b);unfold fillS at hR;rw[<-SM,<-oy]at hR;rw[<-SM]at uP;rw[<-oy]at SL;have HB:=fG bG gY x0 x1 x2;have fj:=ab aZ;have HA:=fG hT hq Ao hf hb;have HG:=aA SM oy;have HR:=ab hR;simp only[FQ.val,BQ.val]at uP SL ⊢;obtain ⟨c0,c1,c2,c3,_,_,_,_⟩:=dc x0;rw[aZ]at c0 c1 c2 c3;clear aZ bG gY x0 x1 x2 hT hq Ao hf hb SM oy hR;have jx:=eU
 cases gs with
 | false=>
  have qnI:=();exact qfe
 | true=>
  cases gv with
  | false=>
   exact qfe
  | true=>
   have Vd:=HG.o.1.symm;simp only[fM,ae,br]at Vd;have LC:=ab Vd;clear Vd;go_enter Tryz.func32,Tryz.ntmps32;go_upto_region 3 with (first | (rw[<-fj.o];go_at_call 26;refine uP.o.mono ?_;rintro e w3 ⟨rfl,aG⟩;have x3:=bN aG HB.o.2.2.2.1;have j0:=ag x3 0;have j1:=ag x3 1;have H3:=ab aG;clear aG x3) | (go_at_call 27;refine (SL.o _ H3.o).mono ?_;rintro e w4 ⟨rfl,aR⟩;have H4:=ab (H3.o.tr aR);clear aR));clear c0 c1 c2 c3 j0 j1;have hkb:=zR b HA.o.2.2.2.2 HG.o.2.symm ok w4 r (HA.o.2.2.1.later (HB.o.1.tr H4.o));simp only[BQ.val]at hkb;have HKB:=ab hkb;have x4:=bN H4.o HB.o.2.2.2.1;have ⟨j0,j1⟩:=UW x4;clear hkb x4;go_upto_region 4 with (go_at_call 46;refine HKB.o.mono ?_;rintro e w5 ⟨rfl,d_,bh⟩;have H5:=bx (H4.o.tr bh) d_ bh;clear d_ bh);clear j0 j1;have ⟨er,QF⟩:=aj (ph b s);have hck:=PC _ _ _ _ _ _ b s LC.o.1 LC.o.2.1 ok w5 H5.o.2.1 q (HA.o.2.1.later (HB.o.1.tr H5.o.1));simp only[FQ.val,<-QF]at hck;have HCK:=ab hck;have x5:=bN H5.o.1 HB.o.2.2.1;obtain ⟨c0,c1,c2,c3,_,_,_,_⟩:=dc x5;have hR:=HR.o;rw[<-QF]at hR;have ⟨HEr,vV⟩:=aS QF hR;clear hck QF hR x5
   by_cases h0:er=0
   ·subst h0;have RH:=My HEr.o.symm;go_upto_region 7 with (go_at_call 71;refine HCK.o.mono ?_;rintro e w6 ⟨rfl,cF⟩;have H6:=ab cF;clear cF);clear c0 c1 c2 c3;have x6:=bN (H5.o.1.tr H6.o) HB.o.2.2.1;obtain ⟨c0,c1,c2,c3,_,_,_,_⟩:=dc x6;have uM:=Tf w6 _ _ _ _ _ _ b (H5.o.2.1.later H6.o) WB (HA.o.1.next (HB.o.1.tr (H5.o.1.tr H6.o))) HG.o.2.symm (fun x hx=>(HA.o.2.2.2.2.ts x hx).2.2) s LC.o.1 RH.1 LC.o.2.1 (by have:=RH.2;omega) [] [] ok w6 (.slice none 0 0) q (ai _ _) (StrsN.nil _) (by have:=LC.o.2.1;simp;omega) (fun _=>rfl) (HA.o.2.1.later (HB.o.1.tr (H5.o.1.tr H6.o)));have hbd:=CU HG.o.2.symm (fun x hx=>(HA.o.2.2.2.2.ts x hx).2.2) s [] LC.o.1 RH.1 (by have:=RH.2;omega);have ⟨G,Wz⟩:=aj (cw b [] s);simp only[FQ.val,<-Wz]at uM;rw[<-Wz]at hbd;have hR:=vV.o;rw[ak (by simp),ak (by simp),<-Wz]at hR;have ⟨ZF,HRG⟩:=aS uM hR;have Am:=ab (show fitF G from ⟨by have:=RH.2;omega,hbd.2⟩);clear uM hR hbd Wz RH x6;go_upto_region 8 with (go_at_call 72;refine ZF.o.mono ?_;rintro e w7 ⟨⟨⟨p0,p1,p2,p3,p4,p5,p6,p7⟩,rfl,hp⟩,fW⟩;have H7:=aA fW hp;clear fW hp);clear c0 c1 c2 c3;have ⟨W8,kV⟩:=aj (w7.alloc (.cells #[.int .u8 p0,.string p1,.slice p2 p3 p4,.slice p5 p6 p7] 36));rw[<-kV];have iA:=cM kV;have y8:=bS kV;obtain ⟨k0,k1,k2,k3,_,_,_,_⟩:=dc y8;have uC:=HB.o.1.tr ((H5.o.1.tr H6.o).tr (H7.o.1.tr iA));have hrt:=oZ WB G Am.o _ W8 (HA.o.1.next uC) ⟨p0,p1,p2,p3,p4,p5,p6,p7⟩ (H7.o.2.later iA);simp only[FQ.val]at hrt;have ⟨gr,We⟩:=aj (bT G);rw[<-We]at hrt;have hR:=HRG.o;rw[<-We]at hR;have ⟨HRt,rF⟩:=aS hrt hR;have H8:=bx uC y8 (H7.o.2.later iA);have WC:W2.heap.size<=w6.heap.size:=(H5.o.1.tr H6.o).size;have HS8:=ab WC;have x8:=bN ((H5.o.1.tr H6.o).tr (H7.o.1.tr iA)) HB.o.2.2.2.2;have HX8:=ab x8;clear hrt hR We iA y8 uC kV WC x8
    cases gr with
    | false=>
     have HE:=ab (show R=(jq,3) by rw[rF.o];rfl);go_wp2_with (go_at_call 39;refine HRt.o.mono ?_;rintro e w9 ⟨rfl,mz⟩;have x9:=bN mz HX8.o;obtain ⟨i0,i1,i2,i3,z0,z1,z2,z3⟩:=dc x9;have Mw:=ab x9;have H9:=ab mz;clear mz x9);have qnJ:=();exact qbl
    | true=>
     have HE:=ab (show R=(G,0) by rw[rF.o];rfl);go_wp2_with (go_at_call 39;refine HRt.o.mono ?_;rintro e w9 ⟨rfl,mz⟩;have x9:=bN mz HX8.o;obtain ⟨i0,i1,i2,i3,z0,z1,z2,z3⟩:=dc x9;have y9:=bN mz H8.o.2.1;obtain ⟨m0,m1,m2,m3,_,_,_,_⟩:=dc y9;have Mw:=ab x9;have H9:=aA mz (H8.o.2.2.later mz);clear mz x9 y9);have qnK:=();exact qcn
   ·have jb:(er != 0)=true:=by simp[h0]
    have Zr:¬er=0:=h0;have HE:=ab (show R=(jq,er) by rw[vV.o];simp[h0]);go_wp2_with (go_at_call 71;refine HCK.o.mono ?_;rintro e w6 ⟨rfl,cF⟩;have x6:=bN (H5.o.1.tr cF) HB.o.2.2.2.2;obtain ⟨i0,i1,i2,i3,z0,z1,z2,z3⟩:=dc x6;have Mw:=ab x6;have H6:=ab cF;clear cF x6);exact qbl
theorem PI (W0:World) (s f:Fm) (b:Bd) (hs:fitF s) (hf:fitF f) (hb:BdFit b) (ok OP ok3:Nat->Prop) (w:World) (p r:FQ) (q:BQ) (ht:Tabs W0 w) (hp:FormV ok w p.val s) (hr:FormV OP w r.val f) (Ao:BindV ok3 w q b) :
  Calls Tryz.prog 20 #[p.val,r.val,q.val] w fun e w'=>(∃x:BQ,e=.returned (.tuple #[x.val,.int .i64 (cP [(s,f)] b).2.2])/\BindV (w.heap.size<=·) w' x (cP [(s,f)] b).1)/\Below w.heap.size w w':=by
 have ⟨R,hR⟩:=aj (cP [(s,f)] b);rw[<-hR];obtain ⟨a0,a1,a2,a3,a4,a5,a6,a7⟩:=p;obtain ⟨b0,b1,b2,b3,b4,b5,b6,b7⟩:=r;obtain ⟨qa,ql,qc,qb,qm,qe⟩:=q;have ⟨W4,y_⟩:=aj ((((w.alloc (.cells #[.int .u8 a0,.string a1,.slice a2 a3 a4,.slice a5 a6 a7] 36)).alloc (.cells #[.int .u8 b0,.string b1,.slice b2 b3 b4,.slice b5 b6 b7] 36)).alloc (.cells #[.slice qa ql qc,.slice qb qm qe] 26)).alloc (.cells #[.slice none 0 0,.slice none 0 0] 26));have aR:=UT y_;have o9:=Zd y_;have x0:=QK y_;have x1:=Xs y_;have x2:=Xt y_;have x3:=QL y_;have ⟨W5,e_⟩:=aj (W4.alloc (.cells #[.int .u8 a0,.string a1,.slice a2 a3 a4,.slice a5 a6 a7,.int .u8 b0,.string b1,.slice b2 b3 b4,.slice b5 b6 b7] 50));have bh:=cM e_;have x5:=bS e_;have yN:=aR.tr bh;have lU:SPairsV (fun _=>True) W5 (.slice (some ⟨W4.heap.size,0,none⟩) [(s,f)].length 1) [(s,f)]:=by
  refine ⟨_,1,fun _=>⟨a0,a1,a2,a3,a4,a5,a6,a7⟩,fun _=>⟨b0,b1,b2,b3,b4,b5,b6,b7⟩,rfl,aC _,.inr ⟨_,0,rfl,trivial,fun j hj=>?_⟩,fun j hj=>?_⟩
  ·obtain rfl:j=0:=by simp at hj;omega
   exact ⟨ag x5 0,ag x5 1,ag x5 2,ag x5 3,ag x5 4,ag x5 5,ag x5 6,ag x5 7⟩
  ·obtain rfl:j=0:=by simp at hj;omega
   exact ⟨(hp.later yN).any,(hr.later yN).any⟩
 have CM:=zS W0 [(s,f)] b (by simp) (fun x hx=>by simp at hx;subst hx;exact ⟨hs,hf⟩) hb _ W5 _ 1 ⟨qa,ql,qc,qb,qm,qe⟩ (ht.next yN) lU (Ao.move (xH yN));rw[<-hR]at CM;simp only[BQ.val,eT,List.length_nil,Nat.zero_add]at CM;have ⟨HC,HW4,pH⟩:=cE CM y_ e_;have x35:=bN bh x3;have H5:=cq yN x35 o9 bh.size;obtain ⟨e0,e1,e2,e3,_,_,_,_⟩:=dc x0;obtain ⟨f0,f1,f2,f3,_,_,_,_⟩:=dc x1;obtain ⟨g0,g1,_,_⟩:=uz (bN bh x2);rw[e_]at g0 g1;clear hp hr Ao ht hb hs hf aR o9 x0 x1 x2 x3 x5 bh yN lU CM hR y_ e_ x35;simp only[FQ.val,BQ.val];go_enter Tryz.func20,Tryz.ntmps20;go_upto_region 1 with fail;rw[<-HW4.o];go_upto_region 2 with (rw[<-pH.o];go_at_call 15;refine HC.o.mono ?_;rintro e w6 ⟨⟨⟨p0,p1,p2,p3,p4,p5⟩,rfl,LZ⟩,cF⟩;have H6:=aA cF LZ;clear cF LZ);have ⟨W7,Nv⟩:=aj (w6.alloc (.cells #[.slice p0 p1 p2,.slice p3 p4 p5] 26));rw[<-Nv];have Ζ:=cM Nv;have x7:=bS Nv;have Mq:=H6.o.1.tr Ζ;have x37:=bN Mq H5.o.2.1;obtain ⟨y0,y1,z0,z1⟩:=uz x37;obtain ⟨v0,v1,_,_⟩:=uz x7;have H7:=bx x37 (H5.o.1.tr Mq) (H6.o.2.move (dI Ζ));have HX:=aA (bA H5.o.2.1) H5.o.1.size;clear e0 e1 e2 e3 f0 f1 f2 f3 g0 g1 Nv Ζ x7 Mq x37;go_wp2;obtain ⟨W8,kV,x8,k8,s0,s1⟩:=EH H7.o.1 (.slice p0 p1 p2) (.slice p3 p4 p5);rw[<-kV];refine bK (v:=.tuple #[BQ.val ⟨p0,p1,p2,p3,p4,p5⟩,.int .i64 R.2.2]) (by simp[BQ.val,results,Tryz.results20,go_sem,s0,s1]) rfl ⟨⟨⟨p0,p1,p2,p3,p4,p5⟩,rfl,H7.o.2.2.move (fun b hb hlt=>⟨aN HX.o.2 hb,k8.same b hlt (by have:=HX.o.1;omega)⟩)⟩,Below.kp1 H7.o.2.1 k8 (by omega)⟩
end
theorem wN {α:Type} {l m:List α} {k:Nat} (h:l.take k=m.take k) (hl:k<l.length) (hm:k<m.length) (he:l[k]=m[k]):l.take (k+1)=m.take (k+1):=by
 rw[mh hl,mh hm,h,he]
def N0 (l:List Tm):Prop:=∀ (m:List Tm) (ok ok':Nat->Prop) (w:World) (a:Option Addr) (n c:Nat) (a':Option Addr) (n' c':Nat),fitTs l->TermsV ok w (.slice a n c) l->TermsV ok' w (.slice a' n' c') m →
 Calls Tryz.prog 19 #[.slice a n c,.slice a' n' c'] w fun e w'=>e=.returned (.bool (iR l m))/\Below w.heap.size w w'
theorem Kf (l:List Tm) (ih:∀ t∈l,N0 t.a):N0 l:=by
 have qnL:=();exact qff
theorem PJ:∀ t:Tm,N0 t.a:=by
 intro t
 induction t using Tm.ind with
 | h v n a ih=>exact Kf a ih
theorem ov (l:List Tm):N0 l:=Kf l (fun t _=>PJ t)
def YB (t:Fm):Prop:=∀ (u:Fm) (ok ok':Nat->Prop) (w:World) (p q:FQ),fitF t->FormV ok w p.val t->FormV ok' w q.val u →
 Calls Tryz.prog 17 #[p.val,q.val] w fun e w'=>e=.returned (.bool (uV t u))/\Below w.heap.size w w'
def zbV (l:List Fm):Prop:=∀ (m:List Fm) (ok ok':Nat->Prop) (w:World) (a:Option Addr) (n c:Nat) (a':Option Addr) (n' c':Nat),fitFs l->FormsV ok w (.slice a n c) l->FormsV ok' w (.slice a' n' c') m →
 Calls Tryz.prog 52 #[.slice a n c,.slice a' n' c'] w fun e w'=>e=.returned (.bool (oF l m))/\Below w.heap.size w w'
theorem Th (l:List Fm) (ih:∀ t∈l,YB t):zbV l:=by
 exact qff
theorem Kg:∀ t:Fm,YB t:=by
 intro t
 induction t using Fm.ind with
 | h o n a s ih=>
  intro u ok ok' w p q ar hp hq;obtain ⟨o',n',a',s'⟩:=u;obtain ⟨po,pn,pa,pl,pc,pb,pm,pe⟩:=p;obtain ⟨qo,qn,qa,ql,qc,qb,qm,qe⟩:=q;obtain ⟨sa,ss,hs,bB,eb⟩:=aQ.1 hp;obtain ⟨sa',ss',Zh,Ti,Tj⟩:=aQ.1 hq;unfold FQ.val at hs Zh;simp only[cr,Array.mk.injEq,bP,and_true,Value.int.injEq,true_and,Value.string.injEq]at hs Zh;obtain ⟨rfl,rfl,rfl,rfl⟩:=hs;obtain ⟨rfl,rfl,rfl,rfl⟩:=Zh;have CT:=ab (fun (W:World) (hb:Below w.heap.size w W)=>ov a a' ok ok' W pa pl pc qa ql qc ar.args (bB.later hb) (Ti.later hb));have CF:=ab (fun (W:World) (hb:Below w.heap.size w W)=>Th s ih s' ok ok' W pb pm pe qb qm qe ar.subs (eb.later hb) (Tj.later hb));clear hp hq bB eb Ti Tj ar ih;unfold FQ.val uV;have ⟨T,hT⟩:=aj (iR a a');have ⟨F,hF⟩:=aj (oF s s');rw[<-hT]at CT ⊢;rw[<-hF]at CF ⊢;clear hT hF;have HB:=ab (show Below w.heap.size w ((w.alloc (.cells #[.int .u8 po,.string ⟨n.toArray⟩,.slice pa pl pc,.slice pb pm pe] 36)).alloc (.cells #[.int .u8 qo,.string ⟨n'.toArray⟩,.slice qa ql qc,.slice qb qm qe] 36)) from cI.alloc (by simp) _)
  by_cases ho:po=qo
  ·subst ho
   by_cases hn:n=n'
   ·subst hn;simp only[beq_self_eq_true,dz,Bool.and_self];have X0:((w.alloc (.cells #[.int .u8 po,.string ⟨n.toArray⟩,.slice pa pl pc,.slice pb pm pe] 36)).alloc (.cells #[.int .u8 po,.string ⟨n.toArray⟩,.slice qa ql qc,.slice qb qm qe] 36)).heap[w.heap.size]?=some (.cells #[.int .u8 po,.string ⟨n.toArray⟩,.slice pa pl pc,.slice pb pm pe] 36 (0,0)):=(bH _ _ _ (by simp)).trans (ah rfl);have X1:((w.alloc (.cells #[.int .u8 po,.string ⟨n.toArray⟩,.slice pa pl pc,.slice pb pm pe] 36)).alloc (.cells #[.int .u8 po,.string ⟨n.toArray⟩,.slice qa ql qc,.slice qb qm qe] 36)).heap[w.heap.size+1]?=some (.cells #[.int .u8 po,.string ⟨n.toArray⟩,.slice qa ql qc,.slice qb qm qe] 36 (0,0)):=ah (by simp);have HX:=aA X0 X1;clear X0 X1
    cases T with
    | false=>
     have qnM:=();exact qco
    | true=>
     cases F
     all_goals
      go_enter Tryz.func17,Tryz.ntmps17;go_wp2_with (first | (go_at_call 19;refine (CT.o _ HB.o).mono ?_;rintro e w1 ⟨rfl,hb1⟩;have p3:w1.cell? ⟨w.heap.size,3,none⟩=some (.slice pb pm pe):=ag (bN hb1 HX.o.1) 3;have q3:w1.cell? ⟨w.heap.size+1,3,none⟩=some (.slice qb qm qe):=ag (bN hb1 HX.o.2) 3;have H1:=ab hb1;clear hb1) | (go_at_call 52;refine (CF.o _ (HB.o.trans (H1.o.mono HB.o.size))).mono ?_;rintro e w2 ⟨rfl,bG⟩;have cv:=ab bG;clear bG));go_ret;exact ⟨rfl,(HB.o.trans (H1.o.mono HB.o.size)).trans (cv.o.mono (HB.o.trans (H1.o.mono HB.o.size)).size)⟩
   ·have eh:(n == n')=false:=by simpa using hn
    have e1:((po == po && n == n') && (T && F))=false:=by rw[eh];simp
    rw[e1];exact qco
  ·have ho1:(po == qo)=false:=by simpa using ho
   have e1:((po == qo && n == n') && (T && F))=false:=by rw[ho1];simp
   rw[e1];exact qco
section
attribute [local go_sem] Oper.semAt_some
structure Fact where
 p:Value->Bx->World->Prop
 st:∀ (v:Value) (γ:Bx) (w:World) (en:Bx) (w':World),Gr γ w en w'->p v γ w->p v en w'
def dR (l:List Fact) (k:Nat):Value->Bx->World->Prop:=(l.getD k ⟨fun _ _ _=>True,fun _ _ _ _ _ _ h=>h⟩).p
theorem wO (l:List Fact) (k:Nat) (v:Value) (γ:Bx) (w:World) (en:Bx) (w':World):Gr γ w en w'->dR l k v γ w->dR l k v en w':=(l.getD k _).st v γ w en w'
section facts
variable (L:Nat->Prop)
def N1 (s f:Fm) (v:Value) (γ:Bx) (w:World):Prop:=∃q r:FQ,v=.agg #[.int .u8 q.o,.string q.n,.slice q.a q.l q.c,.slice q.b q.m q.e,.int .u8 r.o,.string r.n,.slice r.a r.l r.c,.slice r.b r.m r.e]/\FormV (okB L γ w) w q.val s/\FormV (okB L γ w) w r.val f
def Mz (l:List (Fm×Fm)) (v:Value) (γ:Bx) (w:World):Prop:=∃a c,v=.slice a l.length c/\SPairsV (okB L γ w) w (.slice a l.length c) l
def FBG (n:Str) (f:Fm) (v:Value) (γ:Bx) (w:World):Prop:=∃q:FQ,v=.agg #[.string ⟨n.toArray⟩,.int .u8 q.o,.string q.n,.slice q.a q.l q.c,.slice q.b q.m q.e]/\FormV (okB L γ w) w q.val f
def TBG (n:Str) (t:Tm) (v:Value) (γ:Bx) (w:World):Prop:=∃q:TQ,v=.agg #[.string ⟨n.toArray⟩,.bool q.v,.string q.n,.slice q.a q.l q.c]/\TermV (okB L γ w) w q.val t
def Η (l:List (Str×Fm)) (v:Value) (γ:Bx) (w:World):Prop:=∃a c,v=.slice a l.length c/\FBindsV (okB L γ w) w (.slice a l.length c) l
def Θ (l:List (Str×Tm)) (v:Value) (γ:Bx) (w:World):Prop:=∃a c,v=.slice a l.length c/\TBindsV (okB L γ w) w (.slice a l.length c) l
def lV (x:Value):Fact:=⟨fun v _ _=>v=x,fun _ _ _ _ _ _ h=>h⟩
def ec (f:Fm):Fact:=⟨FormG L f,fun _ _ _ _ _ hG=>FormG.step hG⟩
def eO (t:Tm):Fact:=⟨TermG L t,fun _ _ _ _ _ hG=>TermG.step hG⟩
def Tk (l:List Fm):Fact:=⟨FormsG L l,fun _ _ _ _ _ hG=>FormsG.step hG⟩
def Tl (l:List Tm):Fact:=⟨TermsG L l,fun _ _ _ _ _ hG=>TermsG.step hG⟩
def i9 (b:Bd):Fact:=⟨BindG L b,fun _ _ _ _ _ hG=>BindG.step hG⟩
def zbW (s f:Fm):Fact:=⟨N1 L s f,fun _ _ _ _ _ hG ⟨q,r,e,h1,h2⟩=>⟨q,r,e,h1.move hG.holds,h2.move hG.holds⟩⟩
def Ι (l:List (Fm×Fm)):Fact:=⟨Mz L l,fun _ _ _ _ _ hG ⟨a,c,e,h⟩=>⟨a,c,e,h.move hG.holds⟩⟩
def fFB (n:Str) (f:Fm):Fact:=⟨FBG L n f,fun _ _ _ _ _ hG ⟨q,e,h⟩=>⟨q,e,h.move hG.holds⟩⟩
def fTB (n:Str) (t:Tm):Fact:=⟨TBG L n t,fun _ _ _ _ _ hG ⟨q,e,h⟩=>⟨q,e,h.move hG.holds⟩⟩
def zed (l:List (Str×Fm)):Fact:=⟨Η L l,fun _ _ _ _ _ hG ⟨a,c,e,h⟩=>⟨a,c,e,h.move hG.holds⟩⟩
def zee (l:List (Str×Tm)):Fact:=⟨Θ L l,fun _ _ _ _ _ hG ⟨a,c,e,h⟩=>⟨a,c,e,h.move hG.holds⟩⟩
def Dk (F:Fact) (r:List Value):Fact:=⟨fun v γ w=>∃u,v=.tuple (u :: r).toArray/\F.p u γ w,fun _ γ w en w' hG ⟨u,e,h⟩=>⟨u,e,F.st u γ w en w' hG h⟩⟩
def Hq (z:Array Value) (T:TypeId):Fact:=⟨BoxG z T,fun _ _ _ _ _ hG=>BoxG.step hG⟩
def yO (F:Fact) (T:TypeId):Fact:=⟨fun _ γ w=>SetG (fun cs γ w=>F.p (.agg cs) γ w) T γ w,fun _ γ w en w' hG h=>SetG.step (fun _ h=>F.st _ γ w en w' hG h) hG h⟩
end facts
section
variable {ops:Array Oper} {Q:Exit->Act->World->Prop} {a0:Act} {l:List Fact} {kA kS k:Nat} {M:Nat->Prop} {w0:World} {md:Region.Mode} {L:Nat->Prop}
abbrev cH (md:Region.Mode) (ops:Array Oper) (Q:Exit->Act->World->Prop) (a0:Act) (l:List Fact) (kA kS:Nat) (M:Nat->Prop) (w0:World) (k:Nat):Prop:=pd (dR l) (XP kA kS) (IG M w0) Gr Fence.wide 3 Tryz.prog md ops Q a0 k
abbrev DIn (md:Region.Mode) (ops:Array Oper) (a0:Act) (l:List Fact) (kA kS:Nat) (M:Nat->Prop) (w0:World) (k:Nat) (o:Oper) (a:Act) (γ:Bx) (w:World):Prop:=DagIn (dR l) (XP kA kS) (IG M w0) md ops a0 o k a γ w
def Dep (md:Region.Mode) (ops:Array Oper) (a0:Act) (l:List Fact) (kA kS:Nat) (M:Nat->Prop) (w0:World) (k:Nat) (o:Oper) (d:Nat) (p:Value->Bx->World->Prop):Prop:=∀ a γ w,DIn md ops a0 l kA kS M w0 k o a γ w->∃v,a.tmps[d]?=some v/\p v γ w
theorem aD {o oj:Oper} {d:Nat} {p:Value->Bx->World->Prop} (j:Nat) (hj:ops[j]?=some oj:=by rfl) (hd:oj.dst=some d:=by rfl) (hw:waitB md o j=true:=by kernel_rfl) (hp:dR l j=p:=by rfl):Dep md ops a0 l kA kS M w0 k o d p:=fun _ _ _ h=>hp ▸ h.val j oj d hj hd hw
theorem old {o:Oper} {d:Nat} (hv:a0.tmps[d]?=some v) (hf:freeB ops d=true:=by kernel_rfl):Dep md ops a0 l kA kS M w0 k o d (fun u _ _=>u=v):=fun _ _ _ h=>⟨v,(h.ou d hf).trans hv,rfl⟩
theorem ere {o oj:Oper} {d:Nat} (j:Nat) (hv:a0.tmps[d]?=some v) (hj:ops[j]?=some oj:=by rfl) (hd:oj.dst=some d:=by rfl) (hw:waitB md oj k=true:=by kernel_rfl):Dep md ops a0 l kA kS M w0 k o d (fun u _ _=>u=v):=fun _ _ _ h=>⟨v,(h.pre j oj d hj hd hw).trans hv,rfl⟩
theorem Dep.is {o:Oper} {d:Nat} {p:Value->Bx->World->Prop} (h:Dep md ops a0 l kA kS M w0 k o d p) {a:Act} {γ:Bx} {w:World} (aT:DIn md ops a0 l kA kS M w0 k o a γ w):∃v,a.tmps.getD d undef=v/\p v γ w:=by
 obtain ⟨v,h1,h2⟩:=h a γ w aT;exact ⟨v,aW h1,h2⟩
def Wt (md:Region.Mode) (ops:Array Oper) (a0:Act) (l:List Fact) (kA kS:Nat) (M:Nat->Prop) (w0:World) (k:Nat) (o:Oper):Prop:=∀ a γ w,DIn md ops a0 l kA kS M w0 k o a γ w->Region.wanted o (yielded ops a.tmps)=true
theorem Tn {o oj:Oper} {d:Nat} {b:Bool} (j:Nat) (hd:Dep md ops a0 l kA kS M w0 k o d (fun v _ _=>v=.bool b)) (hg:o.guard=some (j,b):=by rfl) (hj:ops[j]?=some oj:=by rfl) (KM:oj.dst=some d:=by rfl):Wt md ops a0 l kA kS M w0 k o:=by
 intro a γ w h;obtain ⟨v,h1,rfl⟩:=hd a γ w h;simp[Region.wanted,hg,yielded,hj,KM,h1]
theorem dP {o:Oper} {d:Nat} (hw:Wt md ops a0 l kA kS M w0 k o) (ho:ops[k]?=some o) (hd:o.dst=some d) (f:Nat)
  (h:∀ a γ w,DIn md ops a0 l kA kS M w0 k o a γ w->∃args,(execOp a.eval o).run Tryz.prog w=.ok (.enter f args) w/\Calls Tryz.prog f args w fun e w'=>(∃v,e=.returned v/\dR l k v γ w')/\Below w.heap.size w w'):cH md ops Q a0 l kA kS M w0 k:=
 EY ho hd (fun _=>trivial) rfl rfl (fun a γ w aT=>by
  obtain ⟨args,h1,h2⟩:=h a γ w aT;refine ⟨hw a γ w aT,f,args,h1,aH.2 (h2.mono ?_)⟩;rintro e w' ⟨⟨v,rfl,h3⟩,h4⟩;exact ⟨v,rfl,γ,Gr.keep h4,fun _ _ h=>h,h3⟩)
theorem dH {o:Oper} {d:Nat} (hw:Wt md ops a0 l kA kS M w0 k o) (ho:ops[k]?=some o) (hd:o.dst=some d)
  (h:∀ a γ w,DIn md ops a0 l kA kS M w0 k o a γ w->∃v,(execOp a.eval o).run Tryz.prog w=.ok (.value v) w/\dR l k v γ w):cH md ops Q a0 l kA kS M w0 k:=
 dK ho hd (fun _=>trivial) rfl (fun a γ w aT=>by
  obtain ⟨v,h1,h2⟩:=h a γ w aT;exact ⟨hw a γ w aT,v,γ,w,h1,Gr.refl,fun _ _ h=>h,h2⟩)
end
end
def mA:Str:=[63,65]
def mB:Str:=[63,66]
def mT:Str:=[63,116]
def cT (s:Str) (l:List Tm):Tm:=.mk false s l
def o_ (s:Str) (l:List Tm):Fm:=.mk 1 s l []
def zU (s:Str):Fm:=.mk 15 s [] []
def Κ (s x t:Str):Fm:=.mk 16 s [aP x,aP t] []
def awP:Fm:=o_ [80] []
def awQ:Fm:=o_ [81] []
def UO:Fm:=o_ [82] []
def Λ:Fm:=.mk 6 [] [] [zU mA,zU mB]
def Kh:Fm:=.mk 4 [] [] [awP,awQ]
def Μ:Fm:=.mk 6 [] [] [Kh,UO]
def YC:Fm:=.mk 8 [120] [] [zU mA]
def zbX:Fm:=.mk 9 [122] [] [o_ [82] [aP [121],aP [122]]]
def awr:Fm:=.mk 8 [121] [] [zbX]
def N3:Fm:=Κ mA [120] mT
def Dl:Tm:=cT [102] [cT [97] []]
def awG:Fm:=.mk 9 [122] [] [o_ [82] [Dl,aP [122]]]
def zef:Fm:=.mk 9 [122] [] [o_ [82] [aP [122],aP [122]]]
def EK:Fm:=.mk 9 [122] [] [o_ [82] [aP [63,120],aP [122]]]
def zeg:Fm:=o_ [80] [cT [97] []]
def zeh:Fm:=.mk 8 [120] [] [.mk 5 [] [] [zU mA,zU mB]]
def Ν:Fm:=o_ [80] [aP [121]]
def zbY:Fm:=.mk 8 [121] [] [.mk 5 [] [] [Ν,Ν]]
def zbZ:Fm:=o_ [80] [aP [63,120],aP [120]]
def To:Bd:=⟨[(mA,zbZ)],[(mT,aP [120])]⟩
def Ξ:Fm:=.mk 9 [120] [] [zU mA]
def Tp:Fm:=.mk 9 [120,49] [] [o_ [80] [aP [120,49],aP [120]]]
def Tq:Fm:=o_ [80] [aP [120],aP [120]]
theorem aw1:cP [(Λ,Μ)] ⟨[],[]⟩=(⟨[(mA,Kh),(mB,UO)],[]⟩,0,0):=by kernel_rfl
theorem aw2:cP [(YC,awr),(N3,awG)] ⟨[],[]⟩=(⟨[(mA,EK)],[(mT,Dl)]⟩,0,0):=by kernel_rfl
theorem aw3:cP [(YC,awr),(N3,zef)] ⟨[],[]⟩=(⟨[],[]⟩,1,70):=by kernel_rfl
theorem aw4:cP [(N3,zeg)] ⟨[],[]⟩=(⟨[],[]⟩,0,71):=by kernel_rfl
theorem aw5:cP [(zeh,zbY),(zU mA,Ν)] ⟨[],[]⟩=(⟨[],[]⟩,1,70):=by kernel_rfl
theorem aw6:fillS Ξ To=(Tp,0):=by kernel_rfl
theorem aw7:fillS N3 To=(Tq,0):=by kernel_rfl
theorem aw8:fillS (zU mA) To=(jq,72):=by kernel_rfl
theorem aw9:validB To=true:=by decide +kernel
theorem zei:uV UO UO=true:=by decide +kernel
theorem zej:uV EK EK=true:=by decide +kernel
theorem zek:iR [Dl] [Dl]=true:=by decide +kernel
theorem zel:uV Tp Tp=true:=by decide +kernel
theorem zem:uV Tq Tq=true:=by decide +kernel
section
attribute [local go_sem] Oper.semAt_some
section
variable {ops:Array Oper} {Q:Exit->Act->World->Prop} {a0:Act} {l:List Fact} {kA kS k:Nat} {M:Nat->Prop} {w0:World} {md:Region.Mode} {L:Nat->Prop}
theorem Dm {w:World} {s:Str} {a:Option Addr} {c:Nat} {ts:List Tm} (h:TermsV ok w (.slice a n c) ts):FormV ok w (FQ.val ⟨1,⟨s.toArray⟩,a,n,c,none,0,0⟩) (o_ s ts):=aQ.2 ⟨_,_,rfl,h,f8⟩
def YD (L M:Nat->Prop) (w0:World) (b:Nat):Prop:=L b/\b<w0.heap.size/\¬M b
theorem okB.old {γ:Bx} {w:World} (hI:IG M w0 γ w):gF (YD L M w0) (okB L γ w) w0 w:=fun b hb hlt=>
 ⟨⟨hb.1,bJ hlt hI.1.size,fun e=>by
  rcases (hI.2.1 b e).1 with h | h
  ·omega
  ·exact hb.2.2 h⟩,hI.1.same b hlt hb.2.2⟩
theorem Ki (s:Str)  {d:Nat} {ty:TypeId} {pos:String} {ee:Array Edge} {gu:Option (Nat×Bool)} {o:Oper} (ho:ops[k]?=some o:=by rfl) (eo:o=⟨some d,.call ⟨.value (.func 29),#[.const (.string ⟨s.toArray⟩)],wM⟩,ty,pos,ee,gu⟩:=by rfl) (hw:Wt md ops a0 l kA kS M w0 k o:=by exact fun _ _ _ _=>rfl) (hp:dR l k=(ec L (zU s)).p:=by rfl):cH md ops Q a0 l kA kS M w0 k:=
 by subst eo;have hp:dR l k=FormG L (zU s):=hp;exact dP hw ho rfl 29 (fun a γ w aT=>by
  refine ⟨#[.string ⟨s.toArray⟩],by go_simp,(ZM _ w).mono ?_⟩;rintro e w' ⟨rfl,hb⟩;exact ⟨⟨_,rfl,by rw[hp];exact ⟨⟨15,⟨s.toArray⟩,none,0,0,none,0,0⟩,rfl,aQ.2 ⟨_,_,rfl,cm,f8⟩⟩⟩,hb⟩)
theorem rK (s:Str)  {d:Nat} {ty:TypeId} {pos:String} {ee:Array Edge} {gu:Option (Nat×Bool)} {o:Oper} (ho:ops[k]?=some o:=by rfl) (eo:o=⟨some d,.call ⟨.value (.func 30),#[.const (.string ⟨s.toArray⟩)],wM⟩,ty,pos,ee,gu⟩:=by rfl) (hw:Wt md ops a0 l kA kS M w0 k o:=by exact fun _ _ _ _=>rfl) (hp:dR l k=(eO L (aP s)).p:=by rfl):cH md ops Q a0 l kA kS M w0 k:=
 by subst eo;have hp:dR l k=TermG L (aP s):=hp;exact dP hw ho rfl 30 (fun a γ w aT=>by
  refine ⟨#[.string ⟨s.toArray⟩],by go_simp,(LJ _ w).mono ?_⟩;rintro e w' ⟨rfl,hb⟩;exact ⟨⟨_,rfl,by rw[hp];exact ⟨⟨true,⟨s.toArray⟩,none,0,0⟩,rfl,aM.2 ⟨_,rfl,cm⟩⟩⟩,hb⟩)
theorem N4 (s:Str)  {d:Nat} {ty:TypeId} {pos:String} {ee:Array Edge} {gu:Option (Nat×Bool)} {o:Oper} (ho:ops[k]?=some o:=by rfl) (eo:o=⟨some d,.call ⟨.value (.func 24),#[.const (.string ⟨s.toArray⟩),.const (.slice none 0 0)],wM⟩,ty,pos,ee,gu⟩:=by rfl) (hw:Wt md ops a0 l kA kS M w0 k o:=by exact fun _ _ _ _=>rfl) (hp:dR l k=(ec L (o_ s [])).p:=by rfl):cH md ops Q a0 l kA kS M w0 k:=
 by subst eo;have hp:dR l k=FormG L (o_ s []):=hp;exact dP hw ho rfl 24 (fun a γ w aT=>by
  refine ⟨#[.string ⟨s.toArray⟩,.slice none 0 0],by go_simp,(GA _ _ _ _ w).mono ?_⟩;rintro e w' ⟨rfl,hb⟩;exact ⟨⟨_,rfl,by rw[hp];exact ⟨⟨1,⟨s.toArray⟩,none,0,0,none,0,0⟩,rfl,Dm cm⟩⟩,hb⟩)
theorem Tr (s:Str)  {d:Nat} {ty:TypeId} {pos:String} {ee:Array Edge} {gu:Option (Nat×Bool)} {o:Oper} (ho:ops[k]?=some o:=by rfl) (eo:o=⟨some d,.call ⟨.value (.func 31),#[.const (.string ⟨s.toArray⟩),.const (.slice none 0 0)],wM⟩,ty,pos,ee,gu⟩:=by rfl) (hw:Wt md ops a0 l kA kS M w0 k o:=by exact fun _ _ _ _=>rfl) (hp:dR l k=(eO L (cT s [])).p:=by rfl):cH md ops Q a0 l kA kS M w0 k:=
 by subst eo;have hp:dR l k=TermG L (cT s []):=hp;exact dP hw ho rfl 31 (fun a γ w aT=>by
  refine ⟨#[.string ⟨s.toArray⟩,.slice none 0 0],by go_simp,(LK _ _ _ _ w).mono ?_⟩;rintro e w' ⟨rfl,hb⟩;exact ⟨⟨_,rfl,by rw[hp];exact ⟨⟨false,⟨s.toArray⟩,none,0,0⟩,rfl,aM.2 ⟨_,rfl,cm⟩⟩⟩,hb⟩)
theorem Dn (s:Str) (ts:List Tm) (x:Nat) {d:Nat} {ty:TypeId} {pos:String} {ee:Array Edge} {gu:Option (Nat×Bool)}  {o:Oper} (hx:Dep md ops a0 l kA kS M w0 k o x (TermsG L ts)) (ho:ops[k]?=some o:=by rfl) (eo:o=⟨some d,.call ⟨.value (.func 24),#[.const (.string ⟨s.toArray⟩),.tmp x],wM⟩,ty,pos,ee,gu⟩:=by rfl) (hw:Wt md ops a0 l kA kS M w0 k o:=by exact fun _ _ _ _=>rfl) (hp:dR l k=(ec L (o_ s ts)).p:=by rfl):cH md ops Q a0 l kA kS M w0 k:=
 by subst eo;have hp:dR l k=FormG L (o_ s ts):=hp;exact dP hw ho rfl 24 (fun a γ w aT=>by
  obtain ⟨vx,ex,fx⟩:=hx.is aT;obtain ⟨ax,cx,rfl,hx⟩:=fx;refine ⟨#[.string ⟨s.toArray⟩,.slice ax ts.length cx],by go_simp,(GA _ _ _ _ w).mono ?_⟩;rintro e w' ⟨rfl,hb⟩;exact ⟨⟨_,rfl,by rw[hp];exact ⟨⟨1,⟨s.toArray⟩,ax,ts.length,cx,none,0,0⟩,rfl,Dm (hx.move (Gr.keep hb).holds)⟩⟩,hb⟩)
theorem zb0 (s:Str) (ts:List Tm) (x:Nat) {d:Nat} {ty:TypeId} {pos:String} {ee:Array Edge} {gu:Option (Nat×Bool)}  {o:Oper} (hx:Dep md ops a0 l kA kS M w0 k o x (TermsG L ts)) (ho:ops[k]?=some o:=by rfl) (eo:o=⟨some d,.call ⟨.value (.func 31),#[.const (.string ⟨s.toArray⟩),.tmp x],wM⟩,ty,pos,ee,gu⟩:=by rfl) (hw:Wt md ops a0 l kA kS M w0 k o:=by exact fun _ _ _ _=>rfl) (hp:dR l k=(eO L (cT s ts)).p:=by rfl):cH md ops Q a0 l kA kS M w0 k:=
 by subst eo;have hp:dR l k=TermG L (cT s ts):=hp;exact dP hw ho rfl 31 (fun a γ w aT=>by
  obtain ⟨vx,ex,fx⟩:=hx.is aT;obtain ⟨ax,cx,rfl,hx⟩:=fx;refine ⟨#[.string ⟨s.toArray⟩,.slice ax ts.length cx],by go_simp,(LK _ _ _ _ w).mono ?_⟩;rintro e w' ⟨rfl,hb⟩;exact ⟨⟨_,rfl,by rw[hp];exact ⟨⟨false,⟨s.toArray⟩,ax,ts.length,cx⟩,rfl,aM.2 ⟨_,rfl,hx.move (Gr.keep hb).holds⟩⟩⟩,hb⟩)
theorem nl (o:Int) (s:Str) (fs:List Fm) (x:Nat) {d:Nat} {ty:TypeId} {pos:String} {ee:Array Edge} {gu:Option (Nat×Bool)}  (hx:Dep md ops a0 l kA kS M w0 k ⟨some d,.call ⟨.value (.func 28),#[.const (.int .u8 o),.const (.string ⟨s.toArray⟩),.tmp x],wM⟩,ty,pos,ee,gu⟩ x (FormsG L fs)) (ho:ops[k]?=some ⟨some d,.call ⟨.value (.func 28),#[.const (.int .u8 o),.const (.string ⟨s.toArray⟩),.tmp x],wM⟩,ty,pos,ee,gu⟩:=by rfl) (hw:Wt md ops a0 l kA kS M w0 k ⟨some d,.call ⟨.value (.func 28),#[.const (.int .u8 o),.const (.string ⟨s.toArray⟩),.tmp x],wM⟩,ty,pos,ee,gu⟩:=by exact fun _ _ _ _=>rfl) (hp:dR l k=(ec L (.mk o s [] fs)).p:=by rfl):cH md ops Q a0 l kA kS M w0 k:=
 by have hp:dR l k=FormG L (.mk o s [] fs):=hp;exact dP hw ho rfl 28 (fun a γ w aT=>by
  obtain ⟨vx,ex,fx⟩:=hx.is aT;obtain ⟨ax,cx,rfl,hx⟩:=fx;refine ⟨#[.int .u8 o,.string ⟨s.toArray⟩,.slice ax fs.length cx],by go_simp,(Vh _ _ _ _ _ w).mono ?_⟩;rintro e w' ⟨rfl,hb⟩;exact ⟨⟨_,rfl,by rw[hp];exact ⟨⟨o,⟨s.toArray⟩,none,0,0,ax,fs.length,cx⟩,rfl,aQ.2 ⟨_,_,rfl,cm,hx.move (Gr.keep hb).holds⟩⟩⟩,hb⟩)
theorem FW {b:Nat} {T:TypeId} {x y:Tm} (p q:TQ) (c:Nat) (hb:W.heap[b]?=some (.cells #[.bool p.v,.string p.n,.slice p.a p.l p.c,.bool q.v,.string q.n,.slice q.a q.l q.c] T (0,0))) (hok:ok b) (hx:TermV ok W p.val x) (hy:TermV ok W q.val y):TermsV ok W (.slice (some ⟨b,0,none⟩) 2 c) [x,y]:=by
 have qnN:=();exact qfg
theorem FX {b:Nat} {T:TypeId} {x y:Fm} (p q:FQ) (c:Nat) (hb:W.heap[b]?=some (.cells #[.int .u8 p.o,.string p.n,.slice p.a p.l p.c,.slice p.b p.m p.e,.int .u8 q.o,.string q.n,.slice q.a q.l q.c,.slice q.b q.m q.e] T (0,0))) (hok:ok b) (hx:FormV ok W p.val x) (hy:FormV ok W q.val y):FormsV ok W (.slice (some ⟨b,0,none⟩) 2 c) [x,y]:=by
 exact qfg
theorem okB.here (hL:∀ b,w0.heap.size<=b->L b) {γ:Bx} {w:World} (hI:IG M w0 γ w) (o:Obj):okB L γ (w.alloc o) w.heap.size:=(okB.new hI (fun b hb=>hL b (aN hI.1.size hb)) (w':=w.alloc o) _ (aC _) (by simp)).1
theorem AH (s x t:Str)  {d:Nat} {ty:TypeId} {pos:String} {ee:Array Edge} {gu:Option (Nat×Bool)} (hL:∀ b,w0.heap.size<=b->L b) {o:Oper} (ho:ops[k]?=some o:=by rfl) (eo:o=⟨some d,.call ⟨.value (.func 35),#[.const (.string ⟨s.toArray⟩),.const (.string ⟨x.toArray⟩),.const (.string ⟨t.toArray⟩)],wM⟩,ty,pos,ee,gu⟩:=by rfl) (hw:Wt md ops a0 l kA kS M w0 k o:=by exact fun _ _ _ _=>rfl) (hp:dR l k=(ec L (Κ s x t)).p:=by rfl):cH md ops Q a0 l kA kS M w0 k:=
 by subst eo;have hp:dR l k=FormG L (Κ s x t):=hp;exact dP hw ho rfl 35 (fun a γ w aT=>by
  refine ⟨#[.string ⟨s.toArray⟩,.string ⟨x.toArray⟩,.string ⟨t.toArray⟩],by go_simp,(OO _ _ _ w).mono ?_⟩;rintro e w' ⟨⟨kk,c,rfl,hk,T,hc⟩,hb⟩;have Bv:=(okB.new aT.inv (L:=L) (fun b hb=>hL b (aN aT.inv.1.size hb)) kk hk (bA hc)).1;exact ⟨⟨_,rfl,by rw[hp];exact ⟨⟨16,⟨s.toArray⟩,some ⟨kk,0,none⟩,2,c,none,0,0⟩,rfl,aQ.2 ⟨_,_,rfl,FW ⟨true,⟨x.toArray⟩,none,0,0⟩ ⟨true,⟨t.toArray⟩,none,0,0⟩ c hc Bv (aM.2 ⟨_,rfl,cm⟩) (aM.2 ⟨_,rfl,cm⟩),f8⟩⟩⟩,hb⟩)
theorem wP (s f:Fm) (b b2:Bd) (i:Nat) (er:Int) (hR:cP [(s,f)] b=(b2,i,er)) (hs:fitF s) (hf:fitF f) (hb:BdFit b) (x:Nat) (y:Nat) (z:Nat) {d:Nat} {ty:TypeId} {pos:String} {ee:Array Edge} {gu:Option (Nat×Bool)} (hT:Tabs Wb w0) (hM:∀ b,M b->Wb.heap.size<=b) (hL:∀ b,w0.heap.size<=b->L b) {o:Oper} (hx:Dep md ops a0 l kA kS M w0 k o x (FormG L s)) (hy:Dep md ops a0 l kA kS M w0 k o y (FormG L f)) (hz:Dep md ops a0 l kA kS M w0 k o z (BindG L b)) (ho:ops[k]?=some o:=by rfl) (eo:o=⟨some d,.call ⟨.value (.func 20),#[.tmp x,.tmp y,.tmp z],wM⟩,ty,pos,ee,gu⟩:=by rfl) (hw:Wt md ops a0 l kA kS M w0 k o:=by exact fun _ _ _ _=>rfl) (hp:dR l k=(Dk (i9 L b2) [.int .i64 er]).p:=by rfl):cH md ops Q a0 l kA kS M w0 k:=
 by subst eo;exact dP hw ho rfl 20 (fun a γ w aT=>by
  obtain ⟨vx,ex,fx⟩:=hx.is aT;obtain ⟨vy,ey,fy⟩:=hy.is aT;obtain ⟨vz,ez,fz⟩:=hz.is aT;obtain ⟨qx,rfl,hx⟩:=fx;obtain ⟨qy,rfl,hy⟩:=fy;obtain ⟨qz,rfl,hz⟩:=fz;refine ⟨#[qx.val,qy.val,qz.val],by go_simp,(PI Wb s f b hs hf hb _ _ _ w qx qy qz (hT.kp aT.inv.1 hM) hx hy hz).mono ?_⟩;rw[hR];rintro e w' ⟨⟨u,rfl,hu⟩,hb⟩;exact ⟨⟨_,rfl,by rw[hp];exact ⟨_,rfl,u,rfl,hu.move (okB.new aT.inv (fun b hb=>hL b (aN aT.inv.1.size hb)))⟩⟩,hb⟩)
theorem uD (ps:List (Fm×Fm)) (b b2:Bd) (i:Nat) (er:Int) (hR:cP ps b=(b2,i,er)) (hl:ps.length<=8) (hs:∀ x∈ps,fitF x.1/\fitF x.2) (hb:BdFit b) (x:Nat) (z:Nat) {d:Nat} {ty:TypeId} {pos:String} {ee:Array Edge} {gu:Option (Nat×Bool)} (hT:Tabs Wb w0) (hM:∀ b,M b->Wb.heap.size<=b) (hL:∀ b,w0.heap.size<=b->L b) {o:Oper} (hx:Dep md ops a0 l kA kS M w0 k o x (Mz L ps)) (hz:Dep md ops a0 l kA kS M w0 k o z (BindG L b)) (ho:ops[k]?=some o:=by rfl) (eo:o=⟨some d,.call ⟨.value (.func 15),#[.tmp x,.tmp z],wM⟩,ty,pos,ee,gu⟩:=by rfl) (hw:Wt md ops a0 l kA kS M w0 k o:=by exact fun _ _ _ _=>rfl) (hp:dR l k=(Dk (i9 L b2) [.int .i64 (i:Int),.int .i64 er]).p:=by rfl):cH md ops Q a0 l kA kS M w0 k:=
 by subst eo;exact dP hw ho rfl 15 (fun a γ w aT=>by
  obtain ⟨vx,ex,fx⟩:=hx.is aT;obtain ⟨vz,ez,fz⟩:=hz.is aT;obtain ⟨ax,cx,rfl,hx⟩:=fx;obtain ⟨qz,rfl,hz⟩:=fz;refine ⟨#[.slice ax ps.length cx,qz.val],by go_simp,(zS Wb ps b hl hs hb (okB L γ w) w ax cx qz (hT.kp aT.inv.1 hM) hx hz).mono ?_⟩;rw[hR];rintro e w' ⟨⟨u,rfl,hu⟩,hb⟩;exact ⟨⟨_,rfl,by rw[hp];exact ⟨_,rfl,u,rfl,hu.move (okB.new aT.inv (fun b hb=>hL b (aN aT.inv.1.size hb)))⟩⟩,hb⟩)
theorem N5 (b:Bd) (n:Str) (hF:b.fs.length<=1000000) (ar:∀ x∈b.fs,fitF x.2) (x:Nat) {d:Nat} {ty:TypeId} {pos:String} {ee:Array Edge} {gu:Option (Nat×Bool)} (hL:∀ b,w0.heap.size<=b->L b) {o:Oper} (hx:Dep md ops a0 l kA kS M w0 k o x (BindG L b)) (ho:ops[k]?=some o:=by rfl) (eo:o=⟨some d,.call ⟨.value (.func 16),#[.tmp x,.const (.string ⟨n.toArray⟩)],wM⟩,ty,pos,ee,gu⟩:=by rfl) (hw:Wt md ops a0 l kA kS M w0 k o:=by exact fun _ _ _ _=>rfl) (hp:dR l k=(Dk (ec L ((getB b.fs n).getD jq)) [.bool (getB b.fs n).isSome]).p:=by rfl):cH md ops Q a0 l kA kS M w0 k:=
 by subst eo;exact dP hw ho rfl 16 (fun a γ w aT=>by
  obtain ⟨vx,ex,fx⟩:=hx.is aT;obtain ⟨qx,rfl,hx⟩:=fx;refine ⟨#[qx.val,.string ⟨n.toArray⟩],by go_simp,(FA b hF ar n _ w qx hx).mono ?_⟩;rintro e w' ⟨⟨u,rfl,hu⟩,hb⟩;exact ⟨⟨_,rfl,by rw[hp];exact ⟨_,rfl,u,rfl,hu.move (okB.new aT.inv (fun b hb=>hL b (aN aT.inv.1.size hb)))⟩⟩,hb⟩)
theorem WD (b:Bd) (n:Str) (hF:b.ts.length<=1000000) (ar:∀ x∈b.ts,fitT x.2) (x:Nat) {d:Nat} {ty:TypeId} {pos:String} {ee:Array Edge} {gu:Option (Nat×Bool)} (hL:∀ b,w0.heap.size<=b->L b) {o:Oper} (hx:Dep md ops a0 l kA kS M w0 k o x (BindG L b)) (ho:ops[k]?=some o:=by rfl) (eo:o=⟨some d,.call ⟨.value (.func 18),#[.tmp x,.const (.string ⟨n.toArray⟩)],wM⟩,ty,pos,ee,gu⟩:=by rfl) (hw:Wt md ops a0 l kA kS M w0 k o:=by exact fun _ _ _ _=>rfl) (hp:dR l k=(Dk (eO L ((getB b.ts n).getD Jz)) [.bool (getB b.ts n).isSome]).p:=by rfl):cH md ops Q a0 l kA kS M w0 k:=
 by subst eo;exact dP hw ho rfl 18 (fun a γ w aT=>by
  obtain ⟨vx,ex,fx⟩:=hx.is aT;obtain ⟨qx,rfl,hx⟩:=fx;refine ⟨#[qx.val,.string ⟨n.toArray⟩],by go_simp,(FB b hF ar n _ w qx hx).mono ?_⟩;rintro e w' ⟨⟨u,rfl,hu⟩,hb⟩;exact ⟨⟨_,rfl,by rw[hp];exact ⟨_,rfl,u,rfl,hu.move (okB.new aT.inv (fun b hb=>hL b (aN aT.inv.1.size hb)))⟩⟩,hb⟩)
theorem wQ (f g2:Fm) (hf:fitF f) (x:Nat) (y:Nat) {d:Nat} {ty:TypeId} {pos:String} {ee:Array Edge} {gu:Option (Nat×Bool)}  {o:Oper} (hx:Dep md ops a0 l kA kS M w0 k o x (FormG L f)) (hy:Dep md ops a0 l kA kS M w0 k o y (FormG L g2)) (ho:ops[k]?=some o:=by rfl) (eo:o=⟨some d,.call ⟨.value (.func 17),#[.tmp x,.tmp y],wM⟩,ty,pos,ee,gu⟩:=by rfl) (hw:Wt md ops a0 l kA kS M w0 k o:=by exact fun _ _ _ _=>rfl) (hp:dR l k=(lV (.bool (uV f g2))).p:=by rfl):cH md ops Q a0 l kA kS M w0 k:=
 by subst eo;have hp:dR l k=fun v _ _=>v=.bool (uV f g2):=hp;exact dP hw ho rfl 17 (fun a γ w aT=>by
  obtain ⟨vx,ex,fx⟩:=hx.is aT;obtain ⟨vy,ey,fy⟩:=hy.is aT;obtain ⟨qx,rfl,hx⟩:=fx;obtain ⟨qy,rfl,hy⟩:=fy;refine ⟨#[qx.val,qy.val],by go_simp,(Kg f g2 _ _ w qx qy hf hx hy).mono ?_⟩;rintro e w' ⟨rfl,hb⟩;exact ⟨⟨_,rfl,by rw[hp]⟩,hb⟩)
theorem Kj (f g2:List Tm) (hf:fitTs f) (x:Nat) (y:Nat) {d:Nat} {ty:TypeId} {pos:String} {ee:Array Edge} {gu:Option (Nat×Bool)}  {o:Oper} (hx:Dep md ops a0 l kA kS M w0 k o x (TermsG L f)) (hy:Dep md ops a0 l kA kS M w0 k o y (TermsG L g2)) (ho:ops[k]?=some o:=by rfl) (eo:o=⟨some d,.call ⟨.value (.func 19),#[.tmp x,.tmp y],wM⟩,ty,pos,ee,gu⟩:=by rfl) (hw:Wt md ops a0 l kA kS M w0 k o:=by exact fun _ _ _ _=>rfl) (hp:dR l k=(lV (.bool (iR f g2))).p:=by rfl):cH md ops Q a0 l kA kS M w0 k:=
 by subst eo;have hp:dR l k=fun v _ _=>v=.bool (iR f g2):=hp;exact dP hw ho rfl 19 (fun a γ w aT=>by
  obtain ⟨vx,ex,fx⟩:=hx.is aT;obtain ⟨vy,ey,fy⟩:=hy.is aT;obtain ⟨ax,cx,rfl,hx⟩:=fx;obtain ⟨ay,cy,rfl,hy⟩:=fy;refine ⟨#[.slice ax f.length cx,.slice ay g2.length cy],by go_simp,(ov f g2 _ _ w ax _ cx ay _ cy hf hx hy).mono ?_⟩;rintro e w' ⟨rfl,hb⟩;exact ⟨⟨_,rfl,by rw[hp]⟩,hb⟩)
theorem AI (s f:Fm) (b:Bd) (er:Int) (hR:fillS s b=(f,er)) (hs:fitF s) (hb:BdFit b) (x:Nat) (z:Nat) {d:Nat} {ty:TypeId} {pos:String} {ee:Array Edge} {gu:Option (Nat×Bool)} (hT:Tabs Wb w0) (hM:∀ b,M b->Wb.heap.size<=b) (hL:∀ b,w0.heap.size<=b->L b) {o:Oper} (hx:Dep md ops a0 l kA kS M w0 k o x (FormG L s)) (hz:Dep md ops a0 l kA kS M w0 k o z (BindG L b)) (ho:ops[k]?=some o:=by rfl) (eo:o=⟨some d,.call ⟨.value (.func 32),#[.tmp x,.tmp z],wM⟩,ty,pos,ee,gu⟩:=by rfl) (hw:Wt md ops a0 l kA kS M w0 k o:=by exact fun _ _ _ _=>rfl) (hp:dR l k=(Dk (ec L f) [.int .i64 er]).p:=by rfl):cH md ops Q a0 l kA kS M w0 k:=
 by subst eo;exact dP hw ho rfl 32 (fun a γ w aT=>by
  obtain ⟨vx,ex,fx⟩:=hx.is aT;obtain ⟨vz,ez,fz⟩:=hz.is aT;obtain ⟨qx,rfl,hx⟩:=fx;obtain ⟨qz,rfl,hz⟩:=fz;refine ⟨#[qx.val,qz.val],by go_simp,(Tg Wb s b hs hb (okB L γ w) w qx qz (hT.kp aT.inv.1 hM) hx hz).mono ?_⟩;rw[hR];rintro e w' ⟨⟨u,rfl,hu⟩,hb⟩;exact ⟨⟨_,rfl,by rw[hp];exact ⟨_,rfl,u,rfl,hu.move (okB.new aT.inv (fun b hb=>hL b (aN aT.inv.1.size hb)))⟩⟩,hb⟩)
theorem Ts (b:Bd) (hb:BdFit b) (x:Nat) {d:Nat} {ty:TypeId} {pos:String} {ee:Array Edge} {gu:Option (Nat×Bool)} (hT:Tabs Wb w0) (hM:∀ b,M b->Wb.heap.size<=b) {o:Oper} (hx:Dep md ops a0 l kA kS M w0 k o x (BindG L b)) (ho:ops[k]?=some o:=by rfl) (eo:o=⟨some d,.call ⟨.value (.func 27),#[.tmp x],wM⟩,ty,pos,ee,gu⟩:=by rfl) (hw:Wt md ops a0 l kA kS M w0 k o:=by exact fun _ _ _ _=>rfl) (hp:dR l k=(lV (.bool (validB b))).p:=by rfl):cH md ops Q a0 l kA kS M w0 k:=
 by subst eo;have hp:dR l k=fun v _ _=>v=.bool (validB b):=hp;exact dP hw ho rfl 27 (fun a γ w aT=>by
  obtain ⟨vx,ex,fx⟩:=hx.is aT;obtain ⟨qx,rfl,hx⟩:=fx;refine ⟨#[qx.val],by go_simp,(yJ Wb b hb (okB L γ w) w (hT.kp aT.inv.1 hM) qx hx).mono ?_⟩;rintro e w' ⟨rfl,hb⟩;exact ⟨⟨_,rfl,by rw[hp]⟩,hb⟩)
end
section
variable {ops:Array Oper} {Q:Exit->Act->World->Prop} {a0:Act} {l:List Fact} {kA kS k:Nat} {M:Nat->Prop} {w0:World} {md:Region.Mode} {L:Nat->Prop}
theorem uE {o:Oper} {d:Nat} (hw:Wt md ops a0 l kA kS M w0 k o) (ho:ops[k]?=some o) (hd:o.dst=some d)
  (h:∀ a γ w,DIn md ops a0 l kA kS M w0 k o a γ w->∃v cs T,(execOp a.eval o).run Tryz.prog w=.ok (.value v) (w.alloc (.cells cs T))/\dR l k v γ (w.alloc (.cells cs T))):cH md ops Q a0 l kA kS M w0 k:=
 dK ho hd (fun _=>trivial) rfl (fun a γ w aT=>by
  obtain ⟨v,cs,T,h1,h2⟩:=h a γ w aT;exact ⟨hw a γ w aT,v,γ,_,h1,Gr.keep cI,fun _ _ h=>h,h2⟩)
theorem me {γ:Bx} {w:World} (o:Obj):Gr γ w γ (w.alloc o):=Gr.keep cI
theorem MA {X:World} {c:Nat} {T:TypeId} (h:FormV ok X p.val f) (hB:ok B) (hx:X.heap[B]?=some (.cells #[.int .u8 p.o,.string p.n,.slice p.a p.l p.c,.slice p.b p.m p.e] T (0,0))):FormsV ok X (.slice (some ⟨B,0,none⟩) 1 c) [f]:=
 ⟨_,c,fun _=>p.val,rfl,.inr ⟨B,0,rfl,hB,fun j hj=>by
  obtain rfl:j=0:=by simpa using hj
  exact ⟨_,_,_,_,rfl,ag hx 0,ag hx 1,ag hx 2,ag hx 3⟩⟩,fun j hj=>by
  obtain rfl:j=0:=by simpa using hj
  exact h⟩
variable (hL:∀ b,w0.heap.size<=b->L b)
include hL
theorem gQ (f:Fm) (x:Nat) {d:Nat} {ty:TypeId} {pos:String} {ee:Array Edge} {gu:Option (Nat×Bool)} {o:Oper} (hx:Dep md ops a0 l kA kS M w0 k o x (FormG L f)) (ho:ops[k]?=some o:=by rfl) (eo:o=⟨some d,.buildSlice 34 1 #[(0,.tmp x)],ty,pos,ee,gu⟩:=by rfl) (hw:Wt md ops a0 l kA kS M w0 k o:=by exact fun _ _ _ _=>rfl) (hp:dR l k=(Tk L [f]).p:=by rfl):cH md ops Q a0 l kA kS M w0 k:=
 by subst eo;have hp:dR l k=FormsG L [f]:=hp;exact uE hw ho rfl (fun a γ w aT=>by
  obtain ⟨vx,ex,q,rfl,hq⟩:=hx a γ w aT;refine ⟨.slice (some ⟨w.heap.size,0,none⟩) 1 1,#[.int .u8 q.o,.string q.n,.slice q.a q.l q.c,.slice q.b q.m q.e],36,by simp only[FQ.val]at ex;go_simp,?_⟩;rw[hp];exact ⟨_,_,rfl,MA (hq.move (me _).holds) (okB.here hL aT.inv _) (ah rfl)⟩)
theorem rL (f f2:Fm) (x y:Nat) {d:Nat} {ty:TypeId} {pos:String} {ee:Array Edge} {gu:Option (Nat×Bool)} {o:Oper} (hx:Dep md ops a0 l kA kS M w0 k o x (FormG L f)) (hy:Dep md ops a0 l kA kS M w0 k o y (FormG L f2)) (ho:ops[k]?=some o:=by rfl) (eo:o=⟨some d,.buildSlice 34 2 #[(0,.tmp x),(1,.tmp y)],ty,pos,ee,gu⟩:=by rfl) (hw:Wt md ops a0 l kA kS M w0 k o:=by exact fun _ _ _ _=>rfl) (hp:dR l k=(Tk L [f,f2]).p:=by rfl):cH md ops Q a0 l kA kS M w0 k:=
 by subst eo;have hp:dR l k=FormsG L [f,f2]:=hp;exact uE hw ho rfl (fun a γ w aT=>by
  obtain ⟨vx,ex,q,rfl,hq⟩:=hx a γ w aT;obtain ⟨vy,ey,r,rfl,hr⟩:=hy a γ w aT;refine ⟨.slice (some ⟨w.heap.size,0,none⟩) 2 2,#[.int .u8 q.o,.string q.n,.slice q.a q.l q.c,.slice q.b q.m q.e,.int .u8 r.o,.string r.n,.slice r.a r.l r.c,.slice r.b r.m r.e],36,by simp only[FQ.val]at ex ey;go_simp,?_⟩;rw[hp];exact ⟨_,_,rfl,FX q r _ (ah rfl) (okB.here hL aT.inv _) (hq.move (me _).holds) (hr.move (me _).holds)⟩)
theorem jO (f:Tm) (x:Nat) {d:Nat} {ty:TypeId} {pos:String} {ee:Array Edge} {gu:Option (Nat×Bool)} {o:Oper} (hx:Dep md ops a0 l kA kS M w0 k o x (TermG L f)) (ho:ops[k]?=some o:=by rfl) (eo:o=⟨some d,.buildSlice 33 1 #[(0,.tmp x)],ty,pos,ee,gu⟩:=by rfl) (hw:Wt md ops a0 l kA kS M w0 k o:=by exact fun _ _ _ _=>rfl) (hp:dR l k=(Tl L [f]).p:=by rfl):cH md ops Q a0 l kA kS M w0 k:=
 by subst eo;have hp:dR l k=TermsG L [f]:=hp;exact uE hw ho rfl (fun a γ w aT=>by
  obtain ⟨vx,ex,q,rfl,hq⟩:=hx a γ w aT;refine ⟨.slice (some ⟨w.heap.size,0,none⟩) 1 1,#[.bool q.v,.string q.n,.slice q.a q.l q.c],43,by simp only[TQ.val]at ex;go_simp,?_⟩;rw[hp];exact ⟨_,_,rfl,TermsV.one 1 (hq.move (me _).holds) (okB.here hL aT.inv _) (ah rfl)⟩)
theorem nn (f f2:Tm) (x y:Nat) {d:Nat} {ty:TypeId} {pos:String} {ee:Array Edge} {gu:Option (Nat×Bool)} {o:Oper} (hx:Dep md ops a0 l kA kS M w0 k o x (TermG L f)) (hy:Dep md ops a0 l kA kS M w0 k o y (TermG L f2)) (ho:ops[k]?=some o:=by rfl) (eo:o=⟨some d,.buildSlice 33 2 #[(0,.tmp x),(1,.tmp y)],ty,pos,ee,gu⟩:=by rfl) (hw:Wt md ops a0 l kA kS M w0 k o:=by exact fun _ _ _ _=>rfl) (hp:dR l k=(Tl L [f,f2]).p:=by rfl):cH md ops Q a0 l kA kS M w0 k:=
 by subst eo;have hp:dR l k=TermsG L [f,f2]:=hp;exact uE hw ho rfl (fun a γ w aT=>by
  obtain ⟨vx,ex,q,rfl,hq⟩:=hx a γ w aT;obtain ⟨vy,ey,r,rfl,hr⟩:=hy a γ w aT;refine ⟨.slice (some ⟨w.heap.size,0,none⟩) 2 2,#[.bool q.v,.string q.n,.slice q.a q.l q.c,.bool r.v,.string r.n,.slice r.a r.l r.c],43,by simp only[TQ.val]at ex ey;go_simp,?_⟩;rw[hp];exact ⟨_,_,rfl,FW q r _ (ah rfl) (okB.here hL aT.inv _) (hq.move (me _).holds) (hr.move (me _).holds)⟩)
theorem Do (f f2 h1 h2:Fm) (x y:Nat) {d:Nat} {ty:TypeId} {pos:String} {ee:Array Edge} {gu:Option (Nat×Bool)} {o:Oper} (hx:Dep md ops a0 l kA kS M w0 k o x (N1 L f f2)) (hy:Dep md ops a0 l kA kS M w0 k o y (N1 L h1 h2)) (ho:ops[k]?=some o:=by rfl) (eo:o=⟨some d,.buildSlice 22 2 #[(0,.tmp x),(1,.tmp y)],ty,pos,ee,gu⟩:=by rfl) (hw:Wt md ops a0 l kA kS M w0 k o:=by exact fun _ _ _ _=>rfl) (hp:dR l k=(Ι L [(f,f2),(h1,h2)]).p:=by rfl):cH md ops Q a0 l kA kS M w0 k:=
 by subst eo;have hp:dR l k=Mz L [(f,f2),(h1,h2)]:=hp;exact uE hw ho rfl (fun a γ w aT=>by
  obtain ⟨vx,ex,q,r,rfl,hq,hr⟩:=hx a γ w aT;obtain ⟨vy,ey,q2,r2,rfl,Il,Rz⟩:=hy a γ w aT;refine ⟨.slice (some ⟨w.heap.size,0,none⟩) 2 2,#[.int .u8 q.o,.string q.n,.slice q.a q.l q.c,.slice q.b q.m q.e,.int .u8 r.o,.string r.n,.slice r.a r.l r.c,.slice r.b r.m r.e,.int .u8 q2.o,.string q2.n,.slice q2.a q2.l q2.c,.slice q2.b q2.m q2.e,.int .u8 r2.o,.string r2.n,.slice r2.a r2.l r2.c,.slice r2.b r2.m r2.e],50,by go_simp,?_⟩;rw[hp];have hx:=ah (w:=w) (o:=.cells #[.int .u8 q.o,.string q.n,.slice q.a q.l q.c,.slice q.b q.m q.e,.int .u8 r.o,.string r.n,.slice r.a r.l r.c,.slice r.b r.m r.e,.int .u8 q2.o,.string q2.n,.slice q2.a q2.l q2.c,.slice q2.b q2.m q2.e,.int .u8 r2.o,.string r2.n,.slice r2.a r2.l r2.c,.slice r2.b r2.m r2.e] 50) rfl;have C:=fun i=>aF hx i;refine ⟨_,_,rfl,some ⟨w.heap.size,0,none⟩,2,fun j=>if j=0 then q else q2,fun j=>if j=0 then r else r2,rfl,aC _,.inr ⟨w.heap.size,0,rfl,okB.here hL aT.inv _,fun j hj=>?_⟩,fun j hj=>?_⟩
  ·rcases j with _ | _ | j
   ·exact ⟨(C 0).trans rfl,(C 1).trans rfl,(C 2).trans rfl,(C 3).trans rfl,(C 4).trans rfl,(C 5).trans rfl,(C 6).trans rfl,(C 7).trans rfl⟩
   ·exact ⟨(C 8).trans rfl,(C 9).trans rfl,(C 10).trans rfl,(C 11).trans rfl,(C 12).trans rfl,(C 13).trans rfl,(C 14).trans rfl,(C 15).trans rfl⟩
   ·simp at hj;omega
  ·rcases j with _ | _ | j
   ·exact ⟨hq.move (me _).holds,hr.move (me _).holds⟩
   ·exact ⟨Il.move (me _).holds,Rz.move (me _).holds⟩
   ·simp at hj;omega)
end
section
variable {ops:Array Oper} {Q:Exit->Act->World->Prop} {a0:Act} {l:List Fact} {kA kS k:Nat} {M:Nat->Prop} {w0:World} {md:Region.Mode} {L:Nat->Prop}
abbrev ptr (b:Nat):Value:=.pointer (some ⟨b,0,none⟩)
theorem Tt (n:Str) (f:Fm) (x:Nat) {d:Nat} {ty:TypeId} {pos:String} {ee:Array Edge} {gu:Option (Nat×Bool)} (hL:∀ b,w0.heap.size<=b->L b) {o:Oper} (hx:Dep md ops a0 l kA kS M w0 k o x (FBG L n f)) (ho:ops[k]?=some o:=by rfl) (eo:o=⟨some d,.buildSlice 23 1 #[(0,.tmp x)],ty,pos,ee,gu⟩:=by rfl) (hw:Wt md ops a0 l kA kS M w0 k o:=by exact fun _ _ _ _=>rfl) (hp:dR l k=(zed L [(n,f)]).p:=by rfl):cH md ops Q a0 l kA kS M w0 k:=
 by subst eo;have hp:dR l k=Η L [(n,f)]:=hp;exact uE hw ho rfl (fun a γ w aT=>by
  obtain ⟨vx,ex,q,rfl,hq⟩:=hx a γ w aT;refine ⟨.slice (some ⟨w.heap.size,0,none⟩) 1 1,#[.string ⟨n.toArray⟩,.int .u8 q.o,.string q.n,.slice q.a q.l q.c,.slice q.b q.m q.e],40,by go_simp,?_⟩;rw[hp];have hx:=ah (w:=w) (o:=.cells #[.string ⟨n.toArray⟩,.int .u8 q.o,.string q.n,.slice q.a q.l q.c,.slice q.b q.m q.e] 40) rfl;have C:=fun i=>aF hx i;refine ⟨_,_,rfl,some ⟨w.heap.size,0,none⟩,1,fun _=>q,rfl,aC _,.inr ⟨w.heap.size,0,rfl,okB.here hL aT.inv _,fun j hj=>?_⟩,fun j hj=>?_⟩
  ·obtain rfl:j=0:=by simpa using hj
   exact ⟨(C 0).trans rfl,(C 1).trans rfl,(C 2).trans rfl,(C 3).trans rfl,(C 4).trans rfl⟩
  ·obtain rfl:j=0:=by simpa using hj
   exact hq.move (me _).holds)
theorem Tu (n:Str) (f:Tm) (x:Nat) {d:Nat} {ty:TypeId} {pos:String} {ee:Array Edge} {gu:Option (Nat×Bool)} (hL:∀ b,w0.heap.size<=b->L b) {o:Oper} (hx:Dep md ops a0 l kA kS M w0 k o x (TBG L n f)) (ho:ops[k]?=some o:=by rfl) (eo:o=⟨some d,.buildSlice 24 1 #[(0,.tmp x)],ty,pos,ee,gu⟩:=by rfl) (hw:Wt md ops a0 l kA kS M w0 k o:=by exact fun _ _ _ _=>rfl) (hp:dR l k=(zee L [(n,f)]).p:=by rfl):cH md ops Q a0 l kA kS M w0 k:=
 by subst eo;have hp:dR l k=Θ L [(n,f)]:=hp;exact uE hw ho rfl (fun a γ w aT=>by
  obtain ⟨vx,ex,q,rfl,hq⟩:=hx a γ w aT;refine ⟨.slice (some ⟨w.heap.size,0,none⟩) 1 1,#[.string ⟨n.toArray⟩,.bool q.v,.string q.n,.slice q.a q.l q.c],47,by go_simp,?_⟩;rw[hp];have hx:=ah (w:=w) (o:=.cells #[.string ⟨n.toArray⟩,.bool q.v,.string q.n,.slice q.a q.l q.c] 47) rfl;have C:=fun i=>aF hx i;refine ⟨_,_,rfl,some ⟨w.heap.size,0,none⟩,1,fun _=>q,rfl,aC _,.inr ⟨w.heap.size,0,rfl,okB.here hL aT.inv _,fun j hj=>?_⟩,fun j hj=>?_⟩
  ·obtain rfl:j=0:=by simpa using hj
   exact ⟨(C 0).trans rfl,(C 1).trans rfl,(C 2).trans rfl,(C 3).trans rfl⟩
  ·obtain rfl:j=0:=by simpa using hj
   exact hq.move (me _).holds)
theorem sw (f f2:Fm) (x:Nat) (y:Nat) {d:Nat} {ty:TypeId} {pos:String} {ee:Array Edge} {gu:Option (Nat×Bool)}  {o:Oper} (hx:Dep md ops a0 l kA kS M w0 k o x (FormG L f)) (hy:Dep md ops a0 l kA kS M w0 k o y (FormG L f2)) (ho:ops[k]?=some o:=by rfl) (eo:o=⟨some d,.build 50 #[(0,.tmp x),(1,.tmp y)],ty,pos,ee,gu⟩:=by rfl) (hw:Wt md ops a0 l kA kS M w0 k o:=by exact fun _ _ _ _=>rfl) (hp:dR l k=(zbW L f f2).p:=by rfl):cH md ops Q a0 l kA kS M w0 k:=
 by subst eo;have hp:dR l k=N1 L f f2:=hp;exact dH hw ho rfl (fun a γ w aT=>by
  obtain ⟨vx,ex,q,rfl,hq⟩:=hx a γ w aT;obtain ⟨vy,ey,r,rfl,hr⟩:=hy a γ w aT;exact ⟨.agg #[.int .u8 q.o,.string q.n,.slice q.a q.l q.c,.slice q.b q.m q.e,.int .u8 r.o,.string r.n,.slice r.a r.l r.c,.slice r.b r.m r.e],by simp only[FQ.val]at ex ey;go_simp,by rw[hp];exact ⟨q,r,rfl,hq,hr⟩⟩)
theorem zb1 (n:Str) (f:Fm) (x:Nat) {d:Nat} {ty:TypeId} {pos:String} {ee:Array Edge} {gu:Option (Nat×Bool)}  {o:Oper} (hx:Dep md ops a0 l kA kS M w0 k o x (FormG L f)) (ho:ops[k]?=some o:=by rfl) (eo:o=⟨some d,.build 40 #[(0,.const (.string ⟨n.toArray⟩)),(1,.tmp x)],ty,pos,ee,gu⟩:=by rfl) (hw:Wt md ops a0 l kA kS M w0 k o:=by exact fun _ _ _ _=>rfl) (hp:dR l k=(fFB L n f).p:=by rfl):cH md ops Q a0 l kA kS M w0 k:=
 by subst eo;have hp:dR l k=FBG L n f:=hp;exact dH hw ho rfl (fun a γ w aT=>by
  obtain ⟨vx,ex,q,rfl,hq⟩:=hx a γ w aT;exact ⟨.agg #[.string ⟨n.toArray⟩,.int .u8 q.o,.string q.n,.slice q.a q.l q.c,.slice q.b q.m q.e],by simp only[FQ.val]at ex;go_simp,by rw[hp];exact ⟨q,rfl,hq⟩⟩)
theorem zb2 (n:Str) (f:Tm) (x:Nat) {d:Nat} {ty:TypeId} {pos:String} {ee:Array Edge} {gu:Option (Nat×Bool)}  {o:Oper} (hx:Dep md ops a0 l kA kS M w0 k o x (TermG L f)) (ho:ops[k]?=some o:=by rfl) (eo:o=⟨some d,.build 47 #[(0,.const (.string ⟨n.toArray⟩)),(1,.tmp x)],ty,pos,ee,gu⟩:=by rfl) (hw:Wt md ops a0 l kA kS M w0 k o:=by exact fun _ _ _ _=>rfl) (hp:dR l k=(fTB L n f).p:=by rfl):cH md ops Q a0 l kA kS M w0 k:=
 by subst eo;have hp:dR l k=TBG L n f:=hp;exact dH hw ho rfl (fun a γ w aT=>by
  obtain ⟨vx,ex,q,rfl,hq⟩:=hx a γ w aT;exact ⟨.agg #[.string ⟨n.toArray⟩,.bool q.v,.string q.n,.slice q.a q.l q.c],by simp only[TQ.val]at ex;go_simp,by rw[hp];exact ⟨q,rfl,hq⟩⟩)
theorem WE (fs:List (Str×Fm)) (ts:List (Str×Tm)) (x:Nat) (y:Nat) {d:Nat} {ty:TypeId} {pos:String} {ee:Array Edge} {gu:Option (Nat×Bool)}  {o:Oper} (hx:Dep md ops a0 l kA kS M w0 k o x (Η L fs)) (hy:Dep md ops a0 l kA kS M w0 k o y (Θ L ts)) (ho:ops[k]?=some o:=by rfl) (eo:o=⟨some d,.build 26 #[(0,.tmp x),(1,.tmp y)],ty,pos,ee,gu⟩:=by rfl) (hw:Wt md ops a0 l kA kS M w0 k o:=by exact fun _ _ _ _=>rfl) (hp:dR l k=(i9 L ⟨fs,ts⟩).p:=by rfl):cH md ops Q a0 l kA kS M w0 k:=
 by subst eo;have hp:dR l k=BindG L ⟨fs,ts⟩:=hp;exact dH hw ho rfl (fun a γ w aT=>by
  obtain ⟨vx,ex,ax,cx,rfl,hx⟩:=hx a γ w aT;obtain ⟨vy,ey,ay,cy,rfl,hy⟩:=hy a γ w aT;exact ⟨BQ.val ⟨ax,fs.length,cx,ay,ts.length,cy⟩,by simp only[BQ.val];go_simp,by rw[hp];exact ⟨⟨ax,fs.length,cx,ay,ts.length,cy⟩,rfl,hx,hy⟩⟩)
theorem N6   {d:Nat} {ty:TypeId} {pos:String} {ee:Array Edge} {gu:Option (Nat×Bool)} {o:Oper} (ho:ops[k]?=some o:=by rfl) (eo:o=⟨some d,.build 26 #[],ty,pos,ee,gu⟩:=by rfl) (hw:Wt md ops a0 l kA kS M w0 k o:=by exact fun _ _ _ _=>rfl) (hp:dR l k=(i9 L ⟨[],[]⟩).p:=by rfl):cH md ops Q a0 l kA kS M w0 k:=
 by subst eo;have hp:dR l k=BindG L ⟨[],[]⟩:=hp;exact dH hw ho rfl (fun a γ w aT=>⟨BQ.val ⟨none,0,0,none,0,0⟩,by simp only[BQ.val];go_simp,by rw[hp];exact ⟨⟨none,0,0,none,0,0⟩,rfl,o6⟩⟩)
theorem Dp (q:FQ) (f:Fm) (x:Nat) {d:Nat} {ty:TypeId} {pos:String} {ee:Array Edge} {gu:Option (Nat×Bool)} {b:Nat} (hb:w0.heap[b]?=some (.cells #[.int .u8 q.o,.string q.n,.slice q.a q.l q.c,.slice q.b q.m q.e] 36 (0,0))) (hM:¬M b) (hv:FormV (YD L M w0) w0 q.val f) {o:Oper} (hx:Dep md ops a0 l kA kS M w0 k o x (fun v _ _=>v=ptr b)) (ho:ops[k]?=some o:=by rfl) (eo:o=⟨some d,.load 36 (.tmp x),ty,pos,ee,gu⟩:=by rfl) (hw:Wt md ops a0 l kA kS M w0 k o:=by exact fun _ _ _ _=>rfl) (hp:dR l k=(ec L f).p:=by rfl):cH md ops Q a0 l kA kS M w0 k:=
 by subst eo;have hp:dR l k=FormG L f:=hp;exact dH hw ho rfl (fun a γ w aT=>by
  obtain ⟨vx,ex,rfl⟩:=hx a γ w aT;have hk:=aT.inv.1;have C:=fun i v (h:w0.cell? ⟨b,i,none⟩=some v)=>hk.cell (a:=⟨b,i,none⟩) hM h;have c0:=C 0 _ (ag hb 0);have c1:=C 1 _ (ag hb 1);have c2:=C 2 _ (ag hb 2);have c3:=C 3 _ (ag hb 3);exact ⟨FQ.val q,by simp only[FQ.val];go_simp,by rw[hp];exact ⟨q,rfl,hv.move (okB.old aT.inv)⟩⟩)
theorem Tv (q:TQ) (f:Tm) (x:Nat) {d:Nat} {ty:TypeId} {pos:String} {ee:Array Edge} {gu:Option (Nat×Bool)} {b:Nat} (hb:w0.heap[b]?=some (.cells #[.bool q.v,.string q.n,.slice q.a q.l q.c] 43 (0,0))) (hM:¬M b) (hv:TermV (YD L M w0) w0 q.val f) {o:Oper} (hx:Dep md ops a0 l kA kS M w0 k o x (fun v _ _=>v=ptr b)) (ho:ops[k]?=some o:=by rfl) (eo:o=⟨some d,.load 43 (.tmp x),ty,pos,ee,gu⟩:=by rfl) (hw:Wt md ops a0 l kA kS M w0 k o:=by exact fun _ _ _ _=>rfl) (hp:dR l k=(eO L f).p:=by rfl):cH md ops Q a0 l kA kS M w0 k:=
 by subst eo;have hp:dR l k=TermG L f:=hp;exact dH hw ho rfl (fun a γ w aT=>by
  obtain ⟨vx,ex,rfl⟩:=hx a γ w aT;have hk:=aT.inv.1;have C:=fun i v (h:w0.cell? ⟨b,i,none⟩=some v)=>hk.cell (a:=⟨b,i,none⟩) hM h;have c0:=C 0 _ (ag hb 0);have c1:=C 1 _ (ag hb 1);have c2:=C 2 _ (ag hb 2);exact ⟨TQ.val q,by simp only[TQ.val];go_simp,by rw[hp];exact ⟨q,rfl,hv.move (okB.old aT.inv)⟩⟩)
theorem Dq (q:BQ) (f:Bd) (x:Nat) {d:Nat} {ty:TypeId} {pos:String} {ee:Array Edge} {gu:Option (Nat×Bool)} {b:Nat} (hb:w0.heap[b]?=some (.cells #[.slice q.a q.l q.c,.slice q.b q.m q.e] 26 (0,0))) (hM:¬M b) (hv:BindV (YD L M w0) w0 q f) {o:Oper} (hx:Dep md ops a0 l kA kS M w0 k o x (fun v _ _=>v=ptr b)) (ho:ops[k]?=some o:=by rfl) (eo:o=⟨some d,.load 26 (.tmp x),ty,pos,ee,gu⟩:=by rfl) (hw:Wt md ops a0 l kA kS M w0 k o:=by exact fun _ _ _ _=>rfl) (hp:dR l k=(i9 L f).p:=by rfl):cH md ops Q a0 l kA kS M w0 k:=
 by subst eo;have hp:dR l k=BindG L f:=hp;exact dH hw ho rfl (fun a γ w aT=>by
  obtain ⟨vx,ex,rfl⟩:=hx a γ w aT;have hk:=aT.inv.1;have C:=fun i v (h:w0.cell? ⟨b,i,none⟩=some v)=>hk.cell (a:=⟨b,i,none⟩) hM h;have c0:=C 0 _ (ag hb 0);have c1:=C 1 _ (ag hb 1);exact ⟨BQ.val q,by simp only[BQ.val];go_simp,by rw[hp];exact ⟨q,rfl,hv.move (okB.old aT.inv)⟩⟩)
theorem bM (F:Fact) (x:Nat) {d:Nat} {ty:TypeId} {pos:String} {ee:Array Edge} {gu:Option (Nat×Bool)}  {o:Oper} (hx:Dep md ops a0 l kA kS M w0 k o x (F.p)) (ho:ops[k]?=some o:=by rfl) (eo:o=⟨some d,.move (.tmp x),ty,pos,ee,gu⟩:=by rfl) (hw:Wt md ops a0 l kA kS M w0 k o:=by exact fun _ _ _ _=>rfl) (hp:dR l k=F.p:=by rfl):cH md ops Q a0 l kA kS M w0 k:=
 by subst eo;exact dH hw ho rfl (fun a γ w aT=>by
  obtain ⟨vx,ex,hf⟩:=hx a γ w aT;exact ⟨vx,by go_simp,by rw[hp];exact hf⟩)
theorem eP (F:Fact) (x:Nat) {d:Nat} {ty:TypeId} {pos:String} {ee:Array Edge} {gu:Option (Nat×Bool)}  {o:Oper} (hx:Dep md ops a0 l kA kS M w0 k o x (F.p)) (ho:ops[k]?=some o:=by rfl) (eo:o=⟨some d,.assign (.tmp x),ty,pos,ee,gu⟩:=by rfl) (hw:Wt md ops a0 l kA kS M w0 k o:=by exact fun _ _ _ _=>rfl) (hp:dR l k=F.p:=by rfl):cH md ops Q a0 l kA kS M w0 k:=
 by subst eo;exact dH hw ho rfl (fun a γ w aT=>by
  obtain ⟨vx,ex,hf⟩:=hx a γ w aT;exact ⟨vx,by go_simp,by rw[hp];exact hf⟩)
theorem gA (F:Fact) (r:List Value) (x:Nat) {d:Nat} {ty:TypeId} {pos:String} {ee:Array Edge} {gu:Option (Nat×Bool)}  {o:Oper} (hx:Dep md ops a0 l kA kS M w0 k o x ((Dk F r).p)) (ho:ops[k]?=some o:=by rfl) (eo:o=⟨some d,.extract (.tmp x) 0,ty,pos,ee,gu⟩:=by rfl) (hw:Wt md ops a0 l kA kS M w0 k o:=by exact fun _ _ _ _=>rfl) (hp:dR l k=F.p:=by rfl):cH md ops Q a0 l kA kS M w0 k:=
 by subst eo;exact dH hw ho rfl (fun a γ w aT=>by
  obtain ⟨vx,ex,u,rfl,hf⟩:=hx a γ w aT;exact ⟨u,by go_simp,by rw[hp];exact hf⟩)
theorem ii (F:Fact) (r:List Value) (i:Nat) (v:Value) (hv:r[i]?=some v) (x:Nat) {d:Nat} {ty:TypeId} {pos:String} {ee:Array Edge} {gu:Option (Nat×Bool)}  {o:Oper} (hx:Dep md ops a0 l kA kS M w0 k o x ((Dk F r).p)) (ho:ops[k]?=some o:=by rfl) (eo:o=⟨some d,.extract (.tmp x) (i+1),ty,pos,ee,gu⟩:=by rfl) (hw:Wt md ops a0 l kA kS M w0 k o:=by exact fun _ _ _ _=>rfl) (hp:dR l k=(lV v).p:=by rfl):cH md ops Q a0 l kA kS M w0 k:=
 by subst eo;have hp:dR l k=fun u _ _=>u=v:=hp;exact dH hw ho rfl (fun a γ w aT=>by
  obtain ⟨vx,ex,u,rfl,hf⟩:=hx a γ w aT;exact ⟨v,by go_simp,by rw[hp]⟩)
theorem jn (hk:k=kA)  {d:Nat} {ty:TypeId} {pos:String} {ee:Array Edge} {gu:Option (Nat×Bool)} {o:Oper} (ho:ops[k]?=some o:=by rfl) (eo:o=⟨some d,.alloc 36,ty,pos,ee,gu⟩:=by rfl) (hw:Wt md ops a0 l kA kS M w0 k o:=by exact fun _ _ _ _=>rfl) (hp:dR l k=(Hq #[.int .u8 0,.string ⟨#[]⟩,.slice none 0 0,.slice none 0 0] 36).p:=by rfl):cH md ops Q a0 l kA kS M w0 k:=
 by subst eo;exact dK ho rfl (fun _=>trivial) rfl (fun a γ w aT=>⟨hw a γ w aT,ptr w.heap.size,(some w.heap.size,false),w.alloc (.cells #[.int .u8 0,.string ⟨#[]⟩,.slice none 0 0,.slice none 0 0] 36),by go_simp,vP _ (aT.psi.1 hk),hk ▸ rZ,by rw[hp];exact vQ⟩)
theorem FY (hk:k=kA)  {d:Nat} {ty:TypeId} {pos:String} {ee:Array Edge} {gu:Option (Nat×Bool)} {o:Oper} (ho:ops[k]?=some o:=by rfl) (eo:o=⟨some d,.alloc 43,ty,pos,ee,gu⟩:=by rfl) (hw:Wt md ops a0 l kA kS M w0 k o:=by exact fun _ _ _ _=>rfl) (hp:dR l k=(Hq #[.bool false,.string ⟨#[]⟩,.slice none 0 0] 43).p:=by rfl):cH md ops Q a0 l kA kS M w0 k:=
 by subst eo;exact dK ho rfl (fun _=>trivial) rfl (fun a γ w aT=>⟨hw a γ w aT,ptr w.heap.size,(some w.heap.size,false),w.alloc (.cells #[.bool false,.string ⟨#[]⟩,.slice none 0 0] 43),by go_simp,vP _ (aT.psi.1 hk),hk ▸ rZ,by rw[hp];exact vQ⟩)
theorem mQ (hk:k=kA)  {d:Nat} {ty:TypeId} {pos:String} {ee:Array Edge} {gu:Option (Nat×Bool)} {o:Oper} (ho:ops[k]?=some o:=by rfl) (eo:o=⟨some d,.alloc 26,ty,pos,ee,gu⟩:=by rfl) (hw:Wt md ops a0 l kA kS M w0 k o:=by exact fun _ _ _ _=>rfl) (hp:dR l k=(Hq #[.slice none 0 0,.slice none 0 0] 26).p:=by rfl):cH md ops Q a0 l kA kS M w0 k:=
 by subst eo;exact dK ho rfl (fun _=>trivial) rfl (fun a γ w aT=>⟨hw a γ w aT,ptr w.heap.size,(some w.heap.size,false),w.alloc (.cells #[.slice none 0 0,.slice none 0 0] 26),by go_simp,vP _ (aT.psi.1 hk),hk ▸ rZ,by rw[hp];exact vQ⟩)
theorem zb3 {b:Nat} {a0 a1:Value} {T:TypeId} (h:W.heap[b]?=some (.cells #[a0,a1] T (0,0))):((W.setCell ⟨b,0,none⟩ v0).setCell ⟨b,1,none⟩ v1).heap[b]?=some (.cells #[v0,v1] T (0,0)):=by
 have h0:=bp (F:=0) h v0;exact (bp (F:=1) h0 v1).trans rfl
theorem N7 {b:Nat}:Kp (fun c=>c=b) W ((W.setCell ⟨b,0,none⟩ v0).setCell ⟨b,1,none⟩ v1):=
 ⟨rfl,rfl,rfl,by simp,fun c _ hc=>(eC _ _ _ _ (by simpa using hc)).trans (eC _ _ _ _ (by simpa using hc))⟩
theorem jo (f:Fm) (x:Nat) (y:Nat) {ty:TypeId} {pos:String} {ee:Array Edge} {gu:Option (Nat×Bool)} (hk:k=kS) {o:Oper} (hx:Dep md ops a0 l kA kS M w0 k o x (BoxG #[.int .u8 0,.string ⟨#[]⟩,.slice none 0 0,.slice none 0 0] 36)) (hy:Dep md ops a0 l kA kS M w0 k o y (FormG L f)) (ho:ops[k]?=some o:=by rfl) (eo:o=⟨none,.store 36 (.tmp x) (.tmp y),ty,pos,ee,gu⟩:=by rfl) (hw:Wt md ops a0 l kA kS M w0 k o:=by exact fun _ _ _ _=>rfl) (hp:dR l k=(yO (ec L f) 36).p:=by rfl):cH md ops Q a0 l kA kS M w0 k:=
 by subst eo;exact mE ho (fun _=>trivial) rfl (fun a γ w aT=>by
  obtain ⟨vx,ex,b,rfl,hb1,bG,aG⟩:=hx a γ w aT;obtain ⟨UN,Tc⟩:=γ;obtain rfl:Tc=false:=aT.psi.2 hk;obtain rfl:UN=some b:=hb1;have x:=aG rfl;obtain ⟨vy,ey,q,rfl,hq⟩:=hy a (some b,false) w aT;have c0:=ag x 0;have d0:=ac x 0;have c1:=ag x 1;have d1:=ac x 1;have c2:=ag x 2;have d2:=ac x 2;have c3:=ag x 3;have d3:=ac x 3;have k6:=dM (W:=w) (b:=b) (v0:=.int .u8 q.o) (v1:=.string q.n) (v2:=.slice q.a q.l q.c) (v3:=.slice q.b q.m q.e);have x6:=lZ (v0:=.int .u8 q.o) (v1:=.string q.n) (v2:=.slice q.a q.l q.c) (v3:=.slice q.b q.m q.e) x;refine ⟨hw a (some b,false) w aT,(some b,true),_,by simp only[FQ.val]at ey;go_simp,jU k6,hk ▸ oS,?_⟩;rw[hp];exact ⟨b,_,rfl,x6,⟨q,rfl,hq.move (jU k6).holds⟩⟩)
theorem FZ (f:Tm) (x:Nat) (y:Nat) {ty:TypeId} {pos:String} {ee:Array Edge} {gu:Option (Nat×Bool)} (hk:k=kS) {o:Oper} (hx:Dep md ops a0 l kA kS M w0 k o x (BoxG #[.bool false,.string ⟨#[]⟩,.slice none 0 0] 43)) (hy:Dep md ops a0 l kA kS M w0 k o y (TermG L f)) (ho:ops[k]?=some o:=by rfl) (eo:o=⟨none,.store 43 (.tmp x) (.tmp y),ty,pos,ee,gu⟩:=by rfl) (hw:Wt md ops a0 l kA kS M w0 k o:=by exact fun _ _ _ _=>rfl) (hp:dR l k=(yO (eO L f) 43).p:=by rfl):cH md ops Q a0 l kA kS M w0 k:=
 by subst eo;exact mE ho (fun _=>trivial) rfl (fun a γ w aT=>by
  obtain ⟨vx,ex,b,rfl,hb1,bG,aG⟩:=hx a γ w aT;obtain ⟨UN,Tc⟩:=γ;obtain rfl:Tc=false:=aT.psi.2 hk;obtain rfl:UN=some b:=hb1;have x:=aG rfl;obtain ⟨vy,ey,q,rfl,hq⟩:=hy a (some b,false) w aT;have c0:=ag x 0;have d0:=ac x 0;have c1:=ag x 1;have d1:=ac x 1;have c2:=ag x 2;have d2:=ac x 2;have k6:=eN (W:=w) (b:=b) (v0:=.bool q.v) (v1:=.string q.n) (v2:=.slice q.a q.l q.c);have x6:=qu (v0:=.bool q.v) (v1:=.string q.n) (v2:=.slice q.a q.l q.c) x;refine ⟨hw a (some b,false) w aT,(some b,true),_,by simp only[TQ.val]at ey;go_simp,jU k6,hk ▸ oS,?_⟩;rw[hp];exact ⟨b,_,rfl,x6,⟨q,rfl,hq.move (jU k6).holds⟩⟩)
theorem mR (f:Bd) (x:Nat) (y:Nat) {ty:TypeId} {pos:String} {ee:Array Edge} {gu:Option (Nat×Bool)} (hk:k=kS) {o:Oper} (hx:Dep md ops a0 l kA kS M w0 k o x (BoxG #[.slice none 0 0,.slice none 0 0] 26)) (hy:Dep md ops a0 l kA kS M w0 k o y (BindG L f)) (ho:ops[k]?=some o:=by rfl) (eo:o=⟨none,.store 26 (.tmp x) (.tmp y),ty,pos,ee,gu⟩:=by rfl) (hw:Wt md ops a0 l kA kS M w0 k o:=by exact fun _ _ _ _=>rfl) (hp:dR l k=(yO (i9 L f) 26).p:=by rfl):cH md ops Q a0 l kA kS M w0 k:=
 by subst eo;exact mE ho (fun _=>trivial) rfl (fun a γ w aT=>by
  obtain ⟨vx,ex,b,rfl,hb1,bG,aG⟩:=hx a γ w aT;obtain ⟨UN,Tc⟩:=γ;obtain rfl:Tc=false:=aT.psi.2 hk;obtain rfl:UN=some b:=hb1;have x:=aG rfl;obtain ⟨vy,ey,q,rfl,hq⟩:=hy a (some b,false) w aT;have c0:=ag x 0;have d0:=ac x 0;have c1:=ag x 1;have d1:=ac x 1;have k6:=N7 (W:=w) (b:=b) (v0:=.slice q.a q.l q.c) (v1:=.slice q.b q.m q.e);have x6:=zb3 (v0:=.slice q.a q.l q.c) (v1:=.slice q.b q.m q.e) x;refine ⟨hw a (some b,false) w aT,(some b,true),_,by simp only[BQ.val]at ey;go_simp,jU k6,hk ▸ oS,?_⟩;rw[hp];exact ⟨b,_,rfl,x6,⟨q,rfl,hq.move (jU k6).holds⟩⟩)
theorem MB (f:Fm) (x:Nat) (y:Nat) {ty:TypeId} {pos:String} {ee:Array Edge} {gu:Option (Nat×Bool)} (hk:k=kS) {b:Nat} {z2 z3:Value} (UH:w0.heap[b]?=some (.cells #[z0,z1,z2,z3] 36 (0,0))) (hMb:M b) {o:Oper} (hx:Dep md ops a0 l kA kS M w0 k o x (fun v _ _=>v=ptr b)) (hy:Dep md ops a0 l kA kS M w0 k o y (FormG L f)) (ho:ops[k]?=some o:=by rfl) (eo:o=⟨none,.store 36 (.tmp x) (.tmp y),ty,pos,ee,gu⟩:=by rfl) (hw:Wt md ops a0 l kA kS M w0 k o:=by exact fun _ _ _ _=>rfl) (hp:dR l k=(yO (ec L f) 36).p:=by rfl):cH md ops Q a0 l kA kS M w0 k:=
 by subst eo;exact mE ho (fun _=>trivial) rfl (fun a γ w aT=>by
  obtain ⟨vx,ex,rfl⟩:=hx a γ w aT;obtain ⟨UN,Tc⟩:=γ;obtain rfl:Tc=false:=aT.psi.2 hk;obtain rfl:UN=some b:=(aT.inv.2.2 b hMb).1;have x:=((aT.inv.2.2 b hMb).2 rfl).trans UH;obtain ⟨vy,ey,q,rfl,hq⟩:=hy a (some b,false) w aT;have c0:=ag x 0;have d0:=ac x 0;have c1:=ag x 1;have d1:=ac x 1;have c2:=ag x 2;have d2:=ac x 2;have c3:=ag x 3;have d3:=ac x 3;have k6:=dM (W:=w) (b:=b) (v0:=.int .u8 q.o) (v1:=.string q.n) (v2:=.slice q.a q.l q.c) (v3:=.slice q.b q.m q.e);have x6:=lZ (v0:=.int .u8 q.o) (v1:=.string q.n) (v2:=.slice q.a q.l q.c) (v3:=.slice q.b q.m q.e) x;refine ⟨hw a (some b,false) w aT,(some b,true),_,by simp only[FQ.val]at ey;go_simp,jU k6,hk ▸ oS,?_⟩;rw[hp];exact ⟨b,_,rfl,x6,⟨q,rfl,hq.move (jU k6).holds⟩⟩)
theorem MC (f:Bd) (x:Nat) (y:Nat) {ty:TypeId} {pos:String} {ee:Array Edge} {gu:Option (Nat×Bool)} (hk:k=kS) {b:Nat} (UH:w0.heap[b]?=some (.cells #[z0,z1] 26 (0,0))) (hMb:M b) {o:Oper} (hx:Dep md ops a0 l kA kS M w0 k o x (fun v _ _=>v=ptr b)) (hy:Dep md ops a0 l kA kS M w0 k o y (BindG L f)) (ho:ops[k]?=some o:=by rfl) (eo:o=⟨none,.store 26 (.tmp x) (.tmp y),ty,pos,ee,gu⟩:=by rfl) (hw:Wt md ops a0 l kA kS M w0 k o:=by exact fun _ _ _ _=>rfl) (hp:dR l k=(yO (i9 L f) 26).p:=by rfl):cH md ops Q a0 l kA kS M w0 k:=
 by subst eo;exact mE ho (fun _=>trivial) rfl (fun a γ w aT=>by
  obtain ⟨vx,ex,rfl⟩:=hx a γ w aT;obtain ⟨UN,Tc⟩:=γ;obtain rfl:Tc=false:=aT.psi.2 hk;obtain rfl:UN=some b:=(aT.inv.2.2 b hMb).1;have x:=((aT.inv.2.2 b hMb).2 rfl).trans UH;obtain ⟨vy,ey,q,rfl,hq⟩:=hy a (some b,false) w aT;have c0:=ag x 0;have d0:=ac x 0;have c1:=ag x 1;have d1:=ac x 1;have k6:=N7 (W:=w) (b:=b) (v0:=.slice q.a q.l q.c) (v1:=.slice q.b q.m q.e);have x6:=zb3 (v0:=.slice q.a q.l q.c) (v1:=.slice q.b q.m q.e) x;refine ⟨hw a (some b,false) w aT,(some b,true),_,by simp only[BQ.val]at ey;go_simp,jU k6,hk ▸ oS,?_⟩;rw[hp];exact ⟨b,_,rfl,x6,⟨q,rfl,hq.move (jU k6).holds⟩⟩)
theorem Ο {o:Oper} {d:Nat} (ho:ops[k]?=some o) (r:Value) (mV:∀ (a:Act) (w:World),(execOp a.eval o).run Tryz.prog w=.ok (.value r) w) (hd:o.dst=some d:=by rfl) (hw:Wt md ops a0 l kA kS M w0 k o:=by exact fun _ _ _ _=>rfl) (hp:dR l k=(lV r).p:=by rfl):cH md ops Q a0 l kA kS M w0 k:=
 dH hw ho hd (fun a _ w _=>⟨r,mV a w,by rw[hp];rfl⟩)
theorem Ρ {o:Oper} {d:Nat} (ho:ops[k]?=some o) (x:Nat) (u r:Value) (hx:Dep md ops a0 l kA kS M w0 k o x (fun v _ _=>v=u)) (mV:∀ (a:Act) (w:World),a.tmps[x]?=some u->a.tmps.getD x undef=u->(execOp a.eval o).run Tryz.prog w=.ok (.value r) w) (hd:o.dst=some d:=by rfl) (hw:Wt md ops a0 l kA kS M w0 k o:=by exact fun _ _ _ _=>rfl) (hp:dR l k=(lV r).p:=by rfl):cH md ops Q a0 l kA kS M w0 k:=
 dH hw ho hd (fun a γ w aT=>by
  obtain ⟨v,h1,rfl⟩:=hx a γ w aT;exact ⟨r,mV a w h1 (aW h1),by rw[hp];rfl⟩)
theorem MD {o:Oper} {d:Nat} (ho:ops[k]?=some o) (x y:Nat) (u u2 r:Value) (hx:Dep md ops a0 l kA kS M w0 k o x (fun v _ _=>v=u)) (hy:Dep md ops a0 l kA kS M w0 k o y (fun v _ _=>v=u2)) (mV:∀ (a:Act) (w:World),a.tmps[x]?=some u->a.tmps.getD x undef=u->a.tmps[y]?=some u2->a.tmps.getD y undef=u2->(execOp a.eval o).run Tryz.prog w=.ok (.value r) w) (hd:o.dst=some d:=by rfl) (hw:Wt md ops a0 l kA kS M w0 k o:=by exact fun _ _ _ _=>rfl) (hp:dR l k=(lV r).p:=by rfl):cH md ops Q a0 l kA kS M w0 k:=
 dH hw ho hd (fun a γ w aT=>by
  obtain ⟨v,h1,rfl⟩:=hx a γ w aT;obtain ⟨v2,h2,rfl⟩:=hy a γ w aT;exact ⟨r,mV a w h1 (aW h1) h2 (aW h2),by rw[hp];rfl⟩)
theorem dW {o:Oper} {d:Nat} (ho:ops[k]?=some o) (x:Nat) (r:Value) (hx:Dep md ops a0 l kA kS M w0 k o x (fun v _ _=>v=u)) (mV:∀ (a:Act) (w:World),a.tmps[x]?=some u->a.tmps.getD x undef=u->(execOp a.eval o).run Tryz.prog w=.ok (.value r) w:=by intro _ _ _ _;go_simp) (hd:o.dst=some d:=by rfl) (hw:Wt md ops a0 l kA kS M w0 k o:=by exact fun _ _ _ _=>rfl) (hp:dR l k=(lV r).p:=by rfl):cH md ops Q a0 l kA kS M w0 k:=
 Ρ ho x u r hx mV hd hw hp
theorem iL {o:Oper} {d:Nat} (ho:ops[k]?=some o) (x y:Nat) (r:Value) {u2:Value} (hx:Dep md ops a0 l kA kS M w0 k o x (fun v _ _=>v=u)) (hy:Dep md ops a0 l kA kS M w0 k o y (fun v _ _=>v=u2)) (mV:∀ (a:Act) (w:World),a.tmps[x]?=some u->a.tmps.getD x undef=u->a.tmps[y]?=some u2->a.tmps.getD y undef=u2->(execOp a.eval o).run Tryz.prog w=.ok (.value r) w:=by intro _ _ _ _ _ _;go_simp) (hd:o.dst=some d:=by rfl) (hw:Wt md ops a0 l kA kS M w0 k o:=by exact fun _ _ _ _=>rfl) (hp:dR l k=(lV r).p:=by rfl):cH md ops Q a0 l kA kS M w0 k:=
 MD ho x y u u2 r hx hy mV hd hw hp
end
end
def okS (L:Nat->Prop) (w:World) (b:Nat):Prop:=L b/\b<w.heap.size
structure LF (L:Nat->Prop) (a:Act) (w:World) (d b:Nat) (q:FQ) (f:Fm):Prop where
 slot:a.tmps[d]?=some (ptr b)
 box:w.heap[b]?=some (.cells #[.int .u8 q.o,.string q.n,.slice q.a q.l q.c,.slice q.b q.m q.e] 36 (0,0))
 val:FormV (okS L w) w q.val f
structure LT (L:Nat->Prop) (a:Act) (w:World) (d b:Nat) (q:TQ) (f:Tm):Prop where
 slot:a.tmps[d]?=some (ptr b)
 box:w.heap[b]?=some (.cells #[.bool q.v,.string q.n,.slice q.a q.l q.c] 43 (0,0))
 val:TermV (okS L w) w q.val f
structure LB (L:Nat->Prop) (a:Act) (w:World) (d b:Nat) (q:BQ) (f:Bd):Prop where
 slot:a.tmps[d]?=some (ptr b)
 box:w.heap[b]?=some (.cells #[.slice q.a q.l q.c,.slice q.b q.m q.e] 26 (0,0))
 val:BindV (okS L w) w q f
variable {L L' M:Nat->Prop} {a a':Act} {w w':World} {d b:Nat}
theorem okS.next (hk:Kp M w w') (hM:∀ c,L c->¬M c) (hL:∀ c,L c->c<w.heap.size->L' c):gF (okS L w) (okS L' w') w w':=fun c h hlt=>⟨⟨hL c h.1 hlt,bJ hlt hk.size⟩,hk.same c hlt (hM c h.1)⟩
theorem LF.next (h:LF L a w d b q f) (hs:a'.tmps[d]?=a.tmps[d]?) (hk:Kp M w w') (hb:¬M b) (hM:∀ c,L c->¬M c) (hL:∀ c,L c->c<w.heap.size->L' c):LF L' a' w' d b q f:=
 ⟨hs.trans h.slot,(hk.same _ (bA h.box) hb).trans h.box,h.val.move (okS.next hk hM hL)⟩
theorem LT.next {q:TQ} {f:Tm} (h:LT L a w d b q f) (hs:a'.tmps[d]?=a.tmps[d]?) (hk:Kp M w w') (hb:¬M b) (hM:∀ c,L c->¬M c) (hL:∀ c,L c->c<w.heap.size->L' c):LT L' a' w' d b q f:=
 ⟨hs.trans h.slot,(hk.same _ (bA h.box) hb).trans h.box,h.val.move (okS.next hk hM hL)⟩
theorem LB.next {q:BQ} {f:Bd} (h:LB L a w d b q f) (hs:a'.tmps[d]?=a.tmps[d]?) (hk:Kp M w w') (hb:¬M b) (hM:∀ c,L c->¬M c) (hL:∀ c,L c->c<w.heap.size->L' c):LB L' a' w' d b q f:=
 ⟨hs.trans h.slot,(hk.same _ (bA h.box) hb).trans h.box,h.val.move (okS.next hk hM hL)⟩
theorem LF.nx (h:LF L a w d b q f) (hs:a'.tmps[d]?=a.tmps[d]?) (hk:Kp M w w') (hM:∀ c,L c->¬M c) (hb:¬M b:=by exact fun h=>h):LF L a' w' d b q f:=h.next hs hk hb hM (fun _ h _=>h)
theorem LT.nx {q:TQ} {f:Tm} (h:LT L a w d b q f) (hs:a'.tmps[d]?=a.tmps[d]?) (hk:Kp M w w') (hM:∀ c,L c->¬M c) (hb:¬M b:=by exact fun h=>h):LT L a' w' d b q f:=h.next hs hk hb hM (fun _ h _=>h)
theorem LB.nx {q:BQ} {f:Bd} (h:LB L a w d b q f) (hs:a'.tmps[d]?=a.tmps[d]?) (hk:Kp M w w') (hM:∀ c,L c->¬M c) (hb:¬M b:=by exact fun h=>h):LB L a' w' d b q f:=h.next hs hk hb hM (fun _ h _=>h)
theorem okS.at (hM:∀ c,L c->¬M c):gF (okS L w) (YD L M w) w w:=fun c h _=>⟨⟨h.1,h.2,hM c h.1⟩,rfl⟩
theorem LF.at (h:LF L a w d b q f) (hM:∀ c,L c->¬M c):FormV (YD L M w) w q.val f:=h.val.move (okS.at hM)
theorem LT.at {q:TQ} {f:Tm} (h:LT L a w d b q f) (hM:∀ c,L c->¬M c):TermV (YD L M w) w q.val f:=h.val.move (okS.at hM)
theorem LB.at {q:BQ} {f:Bd} (h:LB L a w d b q f) (hM:∀ c,L c->¬M c):BindV (YD L M w) w q f:=h.val.move (okS.at hM)
theorem LF.drew (h:LF L a w d b q f):LF L a w.drew d b q f:=⟨h.slot,h.box,h.val.move (show gF (okS L w) (okS L w.drew) w w.drew from fun _ h _=>⟨h,rfl⟩)⟩
theorem LT.drew {q:TQ} {f:Tm} (h:LT L a w d b q f):LT L a w.drew d b q f:=⟨h.slot,h.box,h.val.move (show gF (okS L w) (okS L w.drew) w w.drew from fun _ h _=>⟨h,rfl⟩)⟩
theorem LB.drew {q:BQ} {f:Bd} (h:LB L a w d b q f):LB L a w.drew d b q f:=⟨h.slot,h.box,h.val.move (show gF (okS L w) (okS L w.drew) w w.drew from fun _ h _=>⟨h,rfl⟩)⟩
section
variable {ops:Array Oper} {Q:Exit->Act->World->Prop} {a0:Act} {id sz:Nat}
abbrev bC:Nat->Prop:=fun _=>False
abbrev Dr (b:Nat):Nat->Prop:=fun c=>c=b
theorem Tw (w:World):IG bC w (none,false) w:=⟨Kp.refl _,(fun _ h=>by cases h),fun _ h=>h.elim⟩
theorem Tx {w:World} {b:Nat} (h:b<w.heap.size):IG (Dr b) w (some b,false) w:=⟨Kp.refl _,(fun c e=>by cases e;exact ⟨.inr rfl,h⟩),fun c hc=>by
 have:c=b:=hc;subst this;exact ⟨rfl,fun _=>rfl⟩⟩
abbrev mf (ops:Array Oper) (a0:Act) (F:List Fact) (kA kS:Nat) (M:Nat->Prop) (w0:World) (a:Act) (γ:Bx) (w:World):Prop:=DagAt (dR F) (XP kA kS) (IG M w0) ops a0 (Array.replicate ops.size true) a γ w
theorem fw (F:List Fact) (kA kS:Nat) (hsz:a0.tmps.size=sz) (hd:K_ ops sz=true) (hm:(Tryz.prog.follows .mixedOrders && ops.toList.all mU)=true) (cD:∀ k,k<ops.size->cH .any ops (NP Q) a0 F kA kS bC w.drew k)
  (hQ:∀ a γ w',mf ops a0 F kA kS bC w.drew a γ w'->Q .normal a w'):(Code.region id ops true).wpIn Fence.wide 3 Tryz.prog Q a0 w:=
 lW _ _ _ Gr (none,false) hm hsz hd (Tw _) (fun _ _=>⟨fun _=>rfl,fun _=>rfl⟩) (fun _ _ _ _ hG h=>h.step hG) (wO F) cD hQ
theorem b8 (F:List Fact) (kA kS:Nat) (hsz:a0.tmps.size=sz) (hd:K_ ops sz=true) (cD:∀ k,k<ops.size->cH .any ops Q a0 F kA kS bC w k)
  (hQ:∀ a γ w',mf ops a0 F kA kS bC w a γ w'->Q .normal a w'):(Code.region id ops false).wpIn Fence.wide 3 Tryz.prog Q a0 w:=
 oE _ _ _ Gr (none,false) hsz hd (Tw _) (fun _ _=>⟨fun _=>rfl,fun _=>rfl⟩) (fun _ _ _ _ hG h=>h.step hG) (wO F) cD hQ
theorem Hr {b:Nat} (hb:b<w.heap.size) (F:List Fact) (kS:Nat) (hsz:a0.tmps.size=sz) (hd:K_ ops sz=true) (hm:(Tryz.prog.follows .mixedOrders && ops.toList.all mU)=true) (cD:∀ k,k<ops.size->cH .any ops (NP Q) a0 F ops.size kS (Dr b) w.drew k)
  (hQ:∀ a γ w',mf ops a0 F ops.size kS (Dr b) w.drew a γ w'->Q .normal a w'):(Code.region id ops true).wpIn Fence.wide 3 Tryz.prog Q a0 w:=
 lW _ _ _ Gr (some b,false) hm hsz hd (Tx hb) (fun _ hk=>⟨fun e=>absurd hk (by omega),fun _=>rfl⟩) (fun _ _ _ _ hG h=>h.step hG) (wO F) cD hQ
theorem Hs {b:Nat} (hb:b<w.heap.size) (F:List Fact) (kS:Nat) (hsz:a0.tmps.size=sz) (hd:K_ ops sz=true) (cD:∀ k,k<ops.size->cH .any ops Q a0 F ops.size kS (Dr b) w k)
  (hQ:∀ a γ w',mf ops a0 F ops.size kS (Dr b) w a γ w'->Q .normal a w'):(Code.region id ops false).wpIn Fence.wide 3 Tryz.prog Q a0 w:=
 oE _ _ _ Gr (some b,false) hsz hd (Tx hb) (fun _ hk=>⟨fun e=>absurd hk (by omega),fun _=>rfl⟩) (fun _ _ _ _ hG h=>h.step hG) (wO F) cD hQ
theorem rM {γ:Bx} {z:Array Value} {T:TypeId} (hs:a.tmps[d]?=some v) (hv:(Hq z T).p v γ w) (hf:(yO (ec L f) 36).p undef γ w) (hI:IG bC w' γ w):∃b q,LF (fun c=>L c/\c≠b) a w d b q f/\w'.heap.size<=b:=by
 have qnO:=();exact qcp
theorem Ty {γ:Bx} {f:Tm} {z:Array Value} {T:TypeId} (hs:a.tmps[d]?=some v) (hv:(Hq z T).p v γ w) (hf:(yO (eO L f) 43).p undef γ w) (hI:IG bC w' γ w):∃b q,LT (fun c=>L c/\c≠b) a w d b q f/\w'.heap.size<=b:=by
 have qnP:=();exact qcp
theorem Du {γ:Bx} {f:Bd} {z:Array Value} {T:TypeId} (hs:a.tmps[d]?=some v) (hv:(Hq z T).p v γ w) (hf:(yO (i9 L f) 26).p undef γ w) (hI:IG bC w' γ w):∃b q,LB (fun c=>L c/\c≠b) a w d b q f/\w'.heap.size<=b:=by
 exact qcp
theorem WF {γ:Bx} {b:Nat} (hs:a.tmps[d]?=some (ptr b)) (hf:(yO (ec L f) 36).p undef γ w) (hI:IG (Dr b) w' γ w):∃q,LF L a w d b q f:=by
 obtain ⟨b',cs,rfl,h3,q,hq,h4⟩:=hf;cases (hI.2.2 b rfl).1;simp only[FQ.val,cr]at hq;exact qfh
theorem WG {γ:Bx} {f:Bd} {b:Nat} (hs:a.tmps[d]?=some (ptr b)) (hf:(yO (i9 L f) 26).p undef γ w) (hI:IG (Dr b) w' γ w):∃q,LB L a w d b q f:=by
 obtain ⟨b',cs,rfl,h3,q,hq,h4⟩:=hf;cases (hI.2.2 b rfl).1;simp only[BQ.val,cr]at hq;exact qfh
end
section
variable {ops:Array Oper} {a0:Act} {Fs:List Fact} {kA kS:Nat} {M:Nat->Prop} {w0 wb:World} {γ:Bx} {x:Value}
theorem DagAt.n3 (h:mf ops a0 Fs kA kS bC w0 a γ w) (hs:a0.tmps.size=n) (hd:a0.defers=[]) (hB:Below wb.heap.size wb w0):a.tmps.size=n/\a.defers=[]/\Below wb.heap.size wb w:=
 ⟨h.sz.trans hs,h.df.trans hd,dE hB h.inv.1 (fun _ h=>h.elim)⟩
theorem DagAt.gv (h:mf ops a0 Fs kA kS M w0 a γ w) (k d:Nat) {o:Oper} (ho:ops[k]?=some o:=by rfl) (hd:o.dst=some d:=by rfl) (hp:dR Fs k=(lV x).p:=by rfl):a.tmps[d]?=some x:=by
 obtain ⟨v,e,f⟩:=h.get k o d ho hd;rw[hp]at f;rw[e,show v=x from f]
theorem LF.nz (F:LF L a0 w0 d b q f) (h:mf ops a0 Fs kA kS bC w0 a γ w) (hf:freeB ops d=true:=by kernel_rfl):LF L a w d b q f:=F.next (h.old d hf) h.inv.1 (fun h=>h) (fun _ _ h=>h) (fun _ h _=>h)
theorem LT.nz {q:TQ} {f:Tm} (F:LT L a0 w0 d b q f) (h:mf ops a0 Fs kA kS bC w0 a γ w) (hf:freeB ops d=true:=by kernel_rfl):LT L a w d b q f:=F.next (h.old d hf) h.inv.1 (fun h=>h) (fun _ _ h=>h) (fun _ h _=>h)
theorem LB.nz {q:BQ} {f:Bd} (F:LB L a0 w0 d b q f) (h:mf ops a0 Fs kA kS bC w0 a γ w) (hf:freeB ops d=true:=by kernel_rfl):LB L a w d b q f:=F.next (h.old d hf) h.inv.1 (fun h=>h) (fun _ _ h=>h) (fun _ h _=>h)
variable {o1 o2:Oper} {z:Array Value} {T:TypeId}
theorem DagAt.mkF (h:mf ops a0 Fs kA kS bC w0 a γ w) (k1 k2 d:Nat) (h1:ops[k1]?=some o1:=by rfl) (d1:o1.dst=some d:=by rfl) (p1:dR Fs k1=(Hq z T).p:=by rfl) (h2:ops[k2]?=some o2:=by rfl) (d2:o2.dst=none:=by rfl) (p2:dR Fs k2=(yO (ec L f) 36).p:=by rfl):∃b q,LF L a w d b q f:=by
 obtain ⟨v,t,f0⟩:=h.get k1 _ d h1 d1;rw[p1]at f0;obtain ⟨b,q,lz,_⟩:=rM t f0 (by have e:=h.did k2 _ h2 d2;rw[p2]at e;exact e) h.inv;exact qcq
theorem DagAt.mkT {f:Tm} (h:mf ops a0 Fs kA kS bC w0 a γ w) (k1 k2 d:Nat) (h1:ops[k1]?=some o1:=by rfl) (d1:o1.dst=some d:=by rfl) (p1:dR Fs k1=(Hq z T).p:=by rfl) (h2:ops[k2]?=some o2:=by rfl) (d2:o2.dst=none:=by rfl) (p2:dR Fs k2=(yO (eO L f) 43).p:=by rfl):∃b q,LT L a w d b q f:=by
 obtain ⟨v,t,f0⟩:=h.get k1 _ d h1 d1;rw[p1]at f0;obtain ⟨b,q,lz,_⟩:=Ty t f0 (by have e:=h.did k2 _ h2 d2;rw[p2]at e;exact e) h.inv;exact qcq
theorem DagAt.mkB {f:Bd} (h:mf ops a0 Fs kA kS bC w0 a γ w) (k1 k2 d:Nat) (h1:ops[k1]?=some o1:=by rfl) (d1:o1.dst=some d:=by rfl) (p1:dR Fs k1=(Hq z T).p:=by rfl) (h2:ops[k2]?=some o2:=by rfl) (d2:o2.dst=none:=by rfl) (p2:dR Fs k2=(yO (i9 L f) 26).p:=by rfl):∃b q,LB L a w d b q f:=by
 obtain ⟨v,t,f0⟩:=h.get k1 _ d h1 d1;rw[p1]at f0;obtain ⟨b,q,lz,_⟩:=Du t f0 (by have e:=h.did k2 _ h2 d2;rw[p2]at e;exact e) h.inv;exact qcq
end
theorem nk {k m:Nat} {P:Prop} (h:k+n<m) (e:m=n:=by rfl):P:=absurd h (by omega)
section
variable {ops:Array Oper} {Q:Exit->Act->World->Prop} {a0:Act} {l:List Fact} {kA kS k:Nat} {M:Nat->Prop} {w0:World} {md:Region.Mode} {L:Nat->Prop} {d b x:Nat} {ty:TypeId} {pos:String} {ee:Array Edge} {gu:Option (Nat×Bool)} {o oj:Oper}
theorem LF.ld (F:LF L a0 w0 x b q f) (ho:ops[k]?=some o:=by rfl) (eo:o=⟨some d,.load 36 (.tmp x),ty,pos,ee,gu⟩:=by rfl) (hw:Wt md ops a0 l kA kS bC w0 k o:=by exact fun _ _ _ _=>rfl) (hp:dR l k=(ec L f).p:=by rfl) (hf:freeB ops x=true:=by kernel_rfl):cH md ops Q a0 l kA kS bC w0 k:=Dp q f x F.box (fun h=>h) (F.at (fun _ _ h=>h)) (old F.slot hf) ho eo hw hp
theorem LT.ld {q:TQ} {f:Tm} (F:LT L a0 w0 x b q f) (ho:ops[k]?=some o:=by rfl) (eo:o=⟨some d,.load 43 (.tmp x),ty,pos,ee,gu⟩:=by rfl) (hw:Wt md ops a0 l kA kS bC w0 k o:=by exact fun _ _ _ _=>rfl) (hp:dR l k=(eO L f).p:=by rfl) (hf:freeB ops x=true:=by kernel_rfl):cH md ops Q a0 l kA kS bC w0 k:=Tv q f x F.box (fun h=>h) (F.at (fun _ _ h=>h)) (old F.slot hf) ho eo hw hp
theorem LB.ld {q:BQ} {f:Bd} (F:LB L a0 w0 x b q f) (ho:ops[k]?=some o:=by rfl) (eo:o=⟨some d,.load 26 (.tmp x),ty,pos,ee,gu⟩:=by rfl) (hw:Wt md ops a0 l kA kS bC w0 k o:=by exact fun _ _ _ _=>rfl) (hp:dR l k=(i9 L f).p:=by rfl) (hf:freeB ops x=true:=by kernel_rfl):cH md ops Q a0 l kA kS bC w0 k:=Dq q f x F.box (fun h=>h) (F.at (fun _ _ h=>h)) (old F.slot hf) ho eo hw hp
theorem wd {v:Bool} (j:Nat) (hg:o.guard=some (j,v):=by rfl) (hj:ops[j]?=some oj:=by rfl) (hd:oj.dst=some d:=by rfl) (hw:waitB md o j=true:=by kernel_rfl) (hp:dR l j=fun u _ _=>u=.bool v:=by rfl):Wt md ops a0 l kA kS M w0 k o:=Tn j (aD j hj hd hw hp) hg hj hd
theorem Kk (r:Value) (ho:ops[k]?=some o:=by rfl) (hd:o.dst=some d:=by rfl) (hw:Wt md ops a0 l kA kS M w0 k o:=by exact fun _ _ _ _=>rfl) (hp:dR l k=(lV r).p:=by rfl) (mV:∀ (a:Act) (w:World),(execOp a.eval o).run Tryz.prog w=.ok (.value r) w:=by intro _ _;go_simp):cH md ops Q a0 l kA kS M w0 k:=Ο ho r mV hd hw hp
