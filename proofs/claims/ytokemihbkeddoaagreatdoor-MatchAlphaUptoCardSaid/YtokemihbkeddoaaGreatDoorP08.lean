/-L-/
import Derived.Test.YtokemihbkeddoaaGreatDoorP07
open Go.Proofs.Tryz
namespace Go.Proofs.YtokemihbkeddoaaGreatDoor
open Go Go.RowKit Lib
set_option maxRecDepth 100000
set_option maxHeartbeats 0
variable{B n:Nat}{p q:FQ}{f g:Fm}{c:List aj}{s:List Fm}{v v0 v1 z0 z1 u:Value}{ok:Nat->Prop}{Cs:Array TypeId}{W Wb:World}
section
attribute [local go_sem] Oper.semAt_some
def Mj(W0:World)(kd:Bd)(kb:Nat)(s:Fm):Prop:=∀(c L:List aj)(ok:Nat->Prop)(w:World)(vL:Value)(q:FQ),Below W0.heap.size W0 w->js w vL L->L.length+ag s<=1000000->(∀y,L.contains y=c.contains y)->aC ok w q.val s→
 Calls prog 72 #[.pointer (some ⟨kb,0,none⟩),q.val,vL] w fun e w'=>(∃p:FQ,e=.returned p.val/\aC (w.heap.size<=·) w' p.val (dF kd c s))/\Below w.heap.size w w'
theorem JM{w V W6:World}(hb:Below w.heap.size w V)(hB:w.heap.size<=B)(k6:Kp (fun b=>b=B) V W6)(hp:aC (B<·) V p.val f):aC (w.heap.size<=·) W6 p.val f/\Below w.heap.size w W6:=
 ⟨hp.move (fun b h hlt=>⟨by omega,k6.same b hlt (by omega)⟩),⟨k6.os.trans hb.os,k6.tape.trans hb.tape,k6.output.trans hb.output,aR hb.size k6.size,fun b h=>(k6.same b (bP h hb.size) (by omega)).trans (hb.block b h)⟩⟩
theorem RV(W0:World)(qt:Nat->Prop)(kb mF mT nF nT:Nat)(kd:Bd)(eR:ly qt dx dV W0 kb mF mT nF nT kd)(WB:World)(_:gG WB W0)(n:aj)(a:List Tm)(ss:List Fm)(hs:gF true (.mk 15 n a ss)=true)(_:ag (.mk 15 n a ss)<=400):Mj W0 kd kb (.mk 15 n a ss):=by
 have qnU:=();exact qcC
theorem Gm(W0:World)(qt:Nat->Prop)(kb mF mT nF nT:Nat)(kd:Bd)(eR:ly qt dx dV W0 kb mF mT nF nT kd)(WB:World)(mY:gG WB W0)(n:aj)(a:List Tm)(ss:List Fm)(hs:gF true (.mk 16 n a ss)=true)(_:ag (.mk 16 n a ss)<=400):Mj W0 kd kb (.mk 16 n a ss):=by
 have qnV:=();exact qcC
theorem AD(W:World)(n:aj)(rb:Nat)(hrc:W.heap[rb]?=some (.cells #[.string ⟨n.toArray⟩] 9 (0,0)))(la:Option Addr)(l0 lc:Nat)(L:List aj)(wL:l0=L.length)(hlen:L.length<=1000000)(hL:js W (.slice la l0 lc) L)(ty:TypeId):
  ∃v' w',(Builtin.append_ #[66,66] ty #[.slice la l0 l0,.slice (some ⟨rb,0,none⟩) 1 1]).run prog W=.ok v' w'/\js w' v' (L++[n])/\Below W.heap.size W w'/\∀b,v'.ownBlock=some b->W.heap.size<=b/\b<w'.heap.size:=by
 obtain⟨i0,hi,AV,xV,B8⟩:=info_parts yz;obtain⟨a',cap,hv,hc,vG⟩:=hL;obtain⟨rfl,_,rfl⟩:la=a'/\l0=L.length/\lc=cap:=by injection hv with h1 h2 h3;exact⟨h1,h2,h3⟩
 have hr:∃g cap w',(Builtin.append_ #[66,66] ty #[.slice la l0 l0,.slice (some ⟨rb,0,none⟩) 1 1]).run prog W=.ok (.slice (some ⟨g,0,none⟩) (l0+1) cap) w'/\w'.ownsRow W.heap.size 9 1 (.slice (some ⟨g,0,none⟩) (l0+1) cap) (l0+1) (L.map encStr++[.string ⟨n.toArray⟩])/\W.grownBy w' none:=by
  rcases vG with⟨h1,h2,h3⟩|⟨b,off,h1,h4⟩
  ·subst h1 h2;obtain rfl:l0=0:=wL;obtain⟨g,cap,w',hr,h2,h3,_,_⟩:=run_append_lies (P:=prog) W 66 ty W.heap.size 9 i0 (.string ByteArray.empty) 1 16 underlying66 hi AV xV B8 rfl (by decide) (.slice none 0 0) 0 [] (World.ownsRow_nil _ _ _ _) ⟨rb,0,none⟩ 1 1 [.string ⟨n.toArray⟩] rfl (da (cs:=#[.string ⟨n.toArray⟩]) (t:=9) (fr:=(0,0)) hrc) (by simp[Value.oneCell']) (by decide) (by unfold maxLen;omega) (by omega) (aK _) _ rfl;exact⟨g,cap,w',hr,h2,h3⟩
  ·subst h1;obtain ⟨v',w',hr,h2,h3⟩:=run_append_arg_grows (P:=prog) W 66 ty 9 i0 (.string ByteArray.empty) 1 16 underlying66 hi AV xV B8 rfl (by decide) ⟨b,off,none⟩ l0 l0 (L.map encStr) (by rw[List.length_map,wL];omega) (fun j u hu=>by
    rw[List.getElem?_map]at hu
    by_cases hj:j<L.length
    ·rw[jn hj]at hu;rw[uJ];refine(h4 j hj).trans ?_;rw[<-hu];rfl
    ·rw[List.getElem?_eq_none (by omega)]at hu;cases hu) ⟨rb,0,none⟩ 1 1 [.string ⟨n.toArray⟩] rfl (da (cs:=#[.string ⟨n.toArray⟩]) (t:=9) (fr:=(0,0)) hrc) (by omega) (by unfold maxLen;omega) (by omega)
   exact qeP
 obtain⟨g,cap,w',hr,h2,h3⟩:=hr;have qnW:=();exact qfm
theorem E4(k:Bd)(c:List aj):∀l,iD k c l=l.map (dF k c)
 |[]=>rfl
 |t::l=>by simp[iD,E4 k c l]
theorem YT{k:Bd}{o:Int}{n:aj}{a:List Tm}(kL:o≠15)(gq:o≠16)(hq:br o=false):dF k c (.mk o n a s)=.mk o n (a.map (dK k.ts c)) (s.map (dF k c)):=by
 simp only[dF,aw kL,aw gq,hq,bR,if_false,rU,E4]
theorem YU{k:Bd}{o:Int}{n:aj}(kL:o≠15)(gq:o≠16)(hq:br o=true):dF k c (.mk o n [] [g])=rk o n [] (dF k (n::c) g):=by
 simp only[dF,aw kL,aw gq,hq,if_true,iD,iC]
theorem OF(W0:World)(qt:Nat->Prop)(kb mF mT nF nT:Nat)(kd:Bd)(eR:ly qt dx dV W0 kb mF mT nF nT kd)(WB:World)(mY:gG WB W0)(CX:bF kd=true)(hts:∀x∈kd.ts,ap x.2<=1000)(so0:Int)(n:aj)(a:List Tm)(ss:List Fm)(kL:so0≠15)(gq:so0≠16)(hs:gF true (.mk so0 n a ss)=true)(uM:ag (.mk so0 n a ss)<=400)(zdo:kD kd (.mk so0 n a ss)=true)(hsz:ze kd (.mk so0 n a ss)<=1000)(IH:∀g∈ss,Mj W0 kd kb g):Mj W0 kd kb (.mk so0 n a ss):=by
 have qnX:=();exact qaU
theorem RY{k:Bd}(h:g∈s):ze k g<=ud k s:=by
 induction s with
 |nil=>cases h
 |cons u l ih=>
  unfold ud;exact qbl
theorem Ml{k:Bd}(h:g∈s)(hk:me k s=true):kD k g=true:=by
 induction s with
 |nil=>cases h
 |cons u l ih=>
  simp only[me,ak]at hk;exact qfn
theorem YX{sc:Bool}(h:g∈s)(hk:dJ sc s=true):gF sc g=true:=by
 induction s with
 |nil=>cases h
 |cons u l ih=>
  simp only[dJ,ak]at hk;exact qfn
theorem Vv(W0:World)(qt:Nat->Prop)(kb mF mT nF nT:Nat)(kd:Bd)(eR:ly qt dx dV W0 kb mF mT nF nT kd)(WB:World)(mY:gG WB W0)(CX:bF kd=true)(hts:∀x∈kd.ts,ap x.2<=1000):∀s:Fm,gF true s=true->kD kd s=true->ag s<=400->ze kd s<=1000->Mj W0 kd kb s:=by
 intro s
 induction s using Fm.ind with
 |h o n a ss ih=>
  intro hs hk hn hz
  by_cases kL:o=15
  ·subst kL;exact RV W0 qt kb mF mT nF nT kd eR WB mY n a ss hs hn
  ·by_cases gq:o=16
   ·subst gq;exact Gm W0 qt kb mF mT nF nT kd eR WB mY n a ss hs hn
   ·refine OF W0 qt kb mF mT nF nT kd eR WB mY CX hts o n a ss kL gq hs hn hk hz (fun g hg=>?_);have h1:=hs;simp only[gF,ak]at h1;have h2:=(sd kL gq hk).2;have h3:=i9 hg;have h4:=RY (k:=kd) hg;simp only[ag]at hn;unfold ze at hz;exact ih g hg (YX hg h1.2.2.2.2) (Ml hg h2) (by omega) (by omega)
theorem OH{b:Bd}{s:Fm}(h:ti b s=0):kD b s=true/\ze b s<=400:=by
 unfold ti at h;split at h
 ·cases h
 ·rename_i h1;split at h
  ·cases h
  ·split at h
   ·cases h
   ·rename_i h3;refine⟨L5 s [] (by simpa using h1),?_⟩;rw[H']at h3;omega
theorem Vw(WB:World)(s:Fm)(b:Bd)(hf:cJ s)(hb:j9 b)(ok:Nat->Prop)(w:World)(q:FQ)(r:BQ)(hT:gG WB w)(hq:aC ok w q.val s)(AA:fH ok w r b):
  Calls prog 32 #[q.val,r.val] w fun e w'=>(∃p:FQ,e=.returned (.tuple #[p.val,.int .i64 (AU s b).2])/\aC (w.heap.size<=·) w' p.val (AU s b).1)/\Below w.heap.size w w':=by
 have⟨R,hR⟩:=az (AU s b);rw[<-hR];have⟨W2,bp⟩:=az (((w.alloc (.cells #[.int .u8 q.o,.string q.n,.slice q.a q.l q.c,.slice q.b q.m q.e] 36)).alloc (.cells #[.slice r.a r.l r.c,.slice r.b r.m r.e] 26)).alloc (.cells #[.int .u8 0,.string ⟨#[]⟩,.slice none 0 0,.slice none 0 0] 36));have bU:=xK bp;have iG:=Ki bp;have x0:=xM bp;have x1:=sy bp;have x2:=qw bp;have vQ:=ae (EU WB s hf ok W2 (hT.next bU) q (hq.later bU));have U4:=ae (fun(V:World)(h:Below W2.heap.size W2 V)=>Az WB b hb ok V (hT.next (bU.tr h)) r (AA.later (bU.tr h)));have⟨gs,U5⟩:=az (eS s);have⟨gv,rS⟩:=az (bF b);unfold AU at hR;rw[<-U5,<-rS]at hR;rw[<-U5]at vQ;rw[<-rS]at U4;have HB:=gN bU iG x0 x1 x2;have gh:=ae bp;have HA:=gN hT hq AA hf hb;have HG:=aM U5 rS;have HR:=ae hR;simp only[FQ.val,BQ.val]at vQ U4⊢;obtain⟨c0,c1,c2,c3,_,_,_,_⟩:=dw x0;rw[bp]at c0 c1 c2 c3;clear bp bU iG x0 x1 x2 hT hq AA hf hb U5 rS hR;have jq:=fP
 cases gs with
 |false=>
  have it:=();exact qfo
 |true=>
  cases gv with
  |false=>
   exact qfo
  |true=>
   have XA:=HG.o.1.symm;simp only[eS,ak,bM]at XA;have NG:=ae XA;clear XA;go_enter func32,ntmps32;go_upto_region 3 with(first|(rw[<-gh.o];go_at_call 26;refine vQ.o.mono ?_;rintro e w3 ⟨rfl,aS⟩;have x3:=bY aS HB.o.2.2.2.1;have j0:=ao x3 0;have j1:=ao x3 1;have H3:=ae aS;clear aS x3)|(go_at_call 27;refine(U4.o _ H3.o).mono ?_;rintro e w4 ⟨rfl,aY⟩;have H4:=ae (H3.o.tr aY);clear aY));clear c0 c1 c2 c3 j0 j1;have hkb:=BL b HA.o.2.2.2.2 HG.o.2.symm ok w4 r (HA.o.2.2.1.later (HB.o.1.tr H4.o));simp only[BQ.val]at hkb;have HKB:=ae hkb;have x4:=bY H4.o HB.o.2.2.2.1;have⟨j0,j1⟩:=QN x4;clear hkb x4;go_upto_region 4 with(go_at_call 46;refine HKB.o.mono ?_;rintro e w5 ⟨rfl,eR,bE⟩;have H5:=bS (H4.o.tr bE) eR bE;clear eR bE);clear j0 j1;have⟨er,SN⟩:=az (ti b s);have hck:=RR _ _ _ _ _ _ b s NG.o.1 NG.o.2.1 ok w5 H5.o.2.1 q (HA.o.2.1.later (HB.o.1.tr H5.o.1));simp only[FQ.val,<-SN]at hck;have HCK:=ae hck;have x5:=bY H5.o.1 HB.o.2.2.1;obtain⟨c0,c1,c2,c3,_,_,_,_⟩:=dw x5;have hR:=HR.o;rw[<-SN]at hR;have⟨HEr,yH⟩:=bi SN hR;clear hck SN hR x5
   by_cases h0:er=0
   ·subst h0;have TV:=OH HEr.o.symm;go_upto_region 7 with(go_at_call 71;refine HCK.o.mono ?_;rintro e w6 ⟨rfl,dh⟩;have H6:=ae dh;clear dh);clear c0 c1 c2 c3;have x6:=bY (H5.o.1.tr H6.o) HB.o.2.2.1;obtain⟨c0,c1,c2,c3,_,_,_,_⟩:=dw x6;have pM:=Vv w6 _ _ _ _ _ _ b (H5.o.2.1.later H6.o) WB (HA.o.1.next (HB.o.1.tr (H5.o.1.tr H6.o))) HG.o.2.symm (fun x hx=>(HA.o.2.2.2.2.ts x hx).2.2) s NG.o.1 TV.1 NG.o.2.1 (by have:=TV.2;omega) [] [] ok w6 (.slice none 0 0) q (ar _ _) (js.nil _) (by have:=NG.o.2.1;simp;omega) (fun _=>rfl) (HA.o.2.1.later (HB.o.1.tr (H5.o.1.tr H6.o)));have hbd:=EK HG.o.2.symm (fun x hx=>(HA.o.2.2.2.2.ts x hx).2.2) s [] NG.o.1 TV.1 (by have:=TV.2;omega);have⟨G,YW⟩:=az (dF b [] s);simp only[FQ.val,<-YW]at pM;rw[<-YW]at hbd;have hR:=yH.o;rw[aw (by simp),aw (by simp),<-YW]at hR;have⟨TC,HRG⟩:=bi pM hR;have Cq:=ae (show cJ G from⟨by have:=TV.2;omega,hbd.2⟩);clear pM hR hbd YW TV x6;go_upto_region 8 with(go_at_call 72;refine TC.o.mono ?_;rintro e w7 ⟨⟨⟨p0,p1,p2,p3,p4,p5,p6,p7⟩,rfl,hp⟩,g_⟩;have H7:=aM g_ hp;clear g_ hp);clear c0 c1 c2 c3;have⟨W8,kM⟩:=az (w7.alloc (.cells #[.int .u8 p0,.string p1,.slice p2 p3 p4,.slice p5 p6 p7] 36));rw[<-kM];have jc:=dj kM;have y8:=cA kM;obtain⟨k0,k1,k2,k3,_,_,_,_⟩:=dw y8;have xh:=HB.o.1.tr ((H5.o.1.tr H6.o).tr (H7.o.1.tr jc));have hrt:=oJ WB G Cq.o _ W8 (HA.o.1.next xh) ⟨p0,p1,p2,p3,p4,p5,p6,p7⟩ (H7.o.2.later jc);simp only[FQ.val]at hrt;have⟨gr,YD⟩:=az (bw G);rw[<-YD]at hrt;have hR:=HRG.o;rw[<-YD]at hR;have⟨HRt,ug⟩:=bi hrt hR;have H8:=bS xh y8 (H7.o.2.later jc);have SO:W2.heap.size<=w6.heap.size:=(H5.o.1.tr H6.o).size;have HS8:=ae SO;have x8:=bY ((H5.o.1.tr H6.o).tr (H7.o.1.tr jc)) HB.o.2.2.2.2;have HX8:=ae x8;clear hrt hR YD jc y8 xh kM SO x8
    cases gr with
    |false=>
     have HE:=ae (show R=(oN,3) by rw[ug.o];rfl);go_wp2_with (go_at_call 39;refine HRt.o.mono ?_;rintro e w9 ⟨rfl,oq⟩;have x9:=bY oq HX8.o;obtain⟨i0,i1,i2,i3,z0,z1,z2,z3⟩:=dw x9;have Ic:=ae x9;have H9:=ae oq;clear oq x9);have up:=();exact qbs
    |true=>
     have HE:=ae (show R=(G,0) by rw[ug.o];rfl);go_wp2_with (go_at_call 39;refine HRt.o.mono ?_;rintro e w9 ⟨rfl,oq⟩;have x9:=bY oq HX8.o;obtain⟨i0,i1,i2,i3,z0,z1,z2,z3⟩:=dw x9;have y9:=bY oq H8.o.2.1;obtain⟨m0,m1,m2,m3,_,_,_,_⟩:=dw y9;have Ic:=ae x9;have H9:=aM oq (H8.o.2.2.later oq);clear oq x9 y9);have up:=();exact qcD
   ·have jd:(er !=0)=true:=by simp[h0]
    have Ξ:¬er=0:=h0;have HE:=ae (show R=(oN,er) by rw[yH.o];simp[h0]);go_wp2_with (go_at_call 71;refine HCK.o.mono ?_;rintro e w6 ⟨rfl,dh⟩;have x6:=bY (H5.o.1.tr dh) HB.o.2.2.2.2;obtain⟨i0,i1,i2,i3,z0,z1,z2,z3⟩:=dw x6;have Ic:=ae x6;have H6:=ae dh;clear dh x6);exact qbs
theorem RZ(W0:World)(s f:Fm)(b:Bd)(hs:cJ s)(hf:cJ f)(hb:j9 b)(ok Q' ok3:Nat->Prop)(w:World)(p r:FQ)(q:BQ)(ht:gG W0 w)(hp:aC ok w p.val s)(hr:aC Q' w r.val f)(AA:fH ok3 w q b):
  Calls prog 20 #[p.val,r.val,q.val] w fun e w'=>(∃x:BQ,e=.returned (.tuple #[x.val,.int .i64 (bm [(s,f)] b).2.2])/\fH (w.heap.size<=·) w' x (bm [(s,f)] b).1)/\Below w.heap.size w w':=by
 have⟨R,hR⟩:=az (bm [(s,f)] b);rw[<-hR];obtain⟨a0,a1,a2,a3,a4,a5,a6,a7⟩:=p;obtain⟨b0,b1,b2,b3,b4,b5,b6,b7⟩:=r;obtain⟨qa,ql,qc,qb,qm,qe⟩:=q;have⟨W4,vE⟩:=az ((((w.alloc (.cells #[.int .u8 a0,.string a1,.slice a2 a3 a4,.slice a5 a6 a7] 36)).alloc (.cells #[.int .u8 b0,.string b1,.slice b2 b3 b4,.slice b5 b6 b7] 36)).alloc (.cells #[.slice qa ql qc,.slice qb qm qe] 26)).alloc (.cells #[.slice none 0 0,.slice none 0 0] 26));have aY:=Xj vE;have p_:=Β vE;have x0:=SV vE;have x1:=ZC vE;have x2:=ZD vE;have x3:=SW vE;have⟨W5,hZ⟩:=az (W4.alloc (.cells #[.int .u8 a0,.string a1,.slice a2 a3 a4,.slice a5 a6 a7,.int .u8 b0,.string b1,.slice b2 b3 b4,.slice b5 b6 b7] 50));have bE:=dj hZ;have x5:=cA hZ;have AE:=aY.tr bE;have oY:dZ (fun _=>True) W5 (.slice (some ⟨W4.heap.size,0,none⟩) [(s,f)].length 1) [(s,f)]:=by
  refine⟨_,1,fun _=>⟨a0,a1,a2,a3,a4,a5,a6,a7⟩,fun _=>⟨b0,b1,b2,b3,b4,b5,b6,b7⟩,rfl,aK _,.inr ⟨_,0,rfl,trivial,fun j hj=>?_⟩,fun j hj=>?_⟩
  ·obtain rfl:j=0:=by simp at hj;omega
   exact⟨ao x5 0,ao x5 1,ao x5 2,ao x5 3,ao x5 4,ao x5 5,ao x5 6,ao x5 7⟩
  ·obtain rfl:j=0:=by simp at hj;omega
   exact⟨(hp.later AE).any,(hr.later AE).any⟩
 have CM:=BM W0 [(s,f)] b (by simp) (fun x hx=>by simp at hx;subst hx;exact⟨hs,hf⟩) hb _ W5 _ 1 ⟨qa,ql,qc,qb,qm,qe⟩ (ht.next AE) oY (AA.move (zV AE));rw[<-hR]at CM;simp only[BQ.val,fB,List.length_nil,Nat.zero_add]at CM;have⟨HC,HW4,tS⟩:=cU CM vE hZ;have x35:=bY bE x3;have H5:=cH AE x35 p_ bE.size;obtain⟨e0,e1,e2,e3,_,_,_,_⟩:=dw x0;obtain⟨f0,f1,f2,f3,_,_,_,_⟩:=dw x1;obtain⟨g0,g1,_,_⟩:=w_ (bY bE x2);rw[hZ]at g0 g1;clear hp hr AA ht hb hs hf aY p_ x0 x1 x2 x3 x5 bE AE oY CM hR vE hZ x35;simp only[FQ.val,BQ.val];go_enter func20,ntmps20;go_upto_region 1 with fail;rw[<-HW4.o];go_upto_region 2 with(rw[<-tS.o];go_at_call 15;refine HC.o.mono ?_;rintro e w6 ⟨⟨⟨p0,p1,p2,p3,p4,p5⟩,rfl,N5⟩,dh⟩;have H6:=aM dh N5;clear dh N5);have⟨W7,PH⟩:=az (w6.alloc (.cells #[.slice p0 p1 p2,.slice p3 p4 p5] 26));rw[<-PH];have zbe:=dj PH;have x7:=cA PH;have OA:=H6.o.1.tr zbe;have x37:=bY OA H5.o.2.1;obtain⟨y0,y1,z0,z1⟩:=w_ x37;obtain⟨v0,v1,_,_⟩:=w_ x7;have H7:=bS x37 (H5.o.1.tr OA) (H6.o.2.move (dT zbe));have HX:=aM (bQ H5.o.2.1) H5.o.1.size;clear e0 e1 e2 e3 f0 f1 f2 f3 g0 g1 PH zbe x7 OA x37;go_wp2;obtain⟨W8,kM,x8,k8,s0,s1⟩:=Gj H7.o.1 (.slice p0 p1 p2) (.slice p3 p4 p5);rw[<-kM];refine bX (v:=.tuple #[BQ.val ⟨p0,p1,p2,p3,p4,p5⟩,.int .i64 R.2.2]) (by simp[BQ.val,results,results20,go_sem,s0,s1]) rfl ⟨⟨⟨p0,p1,p2,p3,p4,p5⟩,rfl,H7.o.2.2.move (fun b hb hlt=>⟨aR HX.o.2 hb,k8.same b hlt (by have:=HX.o.1;omega)⟩)⟩,Below.kp1 H7.o.2.1 k8 (by omega)⟩
end
theorem zo{α:Type}{l m:List α}{k:Nat}(h:l.take k=m.take k)(hl:k<l.length)(hm:k<m.length)(he:l[k]=m[k]):l.take (k+1)=m.take (k+1):=by
 rw[lq hl,lq hm,h,he]
def Qo(l:List Tm):Prop:=∀(m:List Tm)(ok ok':Nat->Prop)(w:World)(a:Option Addr)(n c:Nat)(a':Option Addr)(n' c':Nat),jE l->cB ok w (.slice a n c) l->cB ok' w (.slice a' n' c') m→
 Calls prog 19 #[.slice a n c,.slice a' n' c'] w fun e w'=>e=.returned (.bool (kx l m))/\Below w.heap.size w w'
theorem Mm(l:List Tm)(ih:∀t∈l,Qo t.a):Qo l:=by
 have qn1:=();exact qfp
theorem R1:∀t:Tm,Qo t.a:=by
 intro t
 induction t using Tm.ind with
 |h v n a ih=>exact Mm a ih
theorem qi(l:List Tm):Qo l:=Mm l (fun t _=>R1 t)
def _F(t:Fm):Prop:=∀(u:Fm)(ok ok':Nat->Prop)(w:World)(p q:FQ),cJ t->aC ok w p.val t->aC ok' w q.val u→
 Calls prog 17 #[p.val,q.val] w fun e w'=>e=.returned (.bool (zT t u))/\Below w.heap.size w w'
def zds(l:List Fm):Prop:=∀(m:List Fm)(ok ok':Nat->Prop)(w:World)(a:Option Addr)(n c:Nat)(a':Option Addr)(n' c':Nat),jp l->eL ok w (.slice a n c) l->eL ok' w (.slice a' n' c') m→
 Calls prog 52 #[.slice a n c,.slice a' n' c'] w fun e w'=>e=.returned (.bool (qC l m))/\Below w.heap.size w w'
theorem Vx(l:List Fm)(ih:∀t∈l,_F t):zds l:=by
 exact qfp
theorem Mn:∀t:Fm,_F t:=by
 intro t
 induction t using Fm.ind with
 |h o n a s ih=>
  intro u ok ok' w p q aI hp hq;obtain⟨o',n',a',s'⟩:=u;obtain⟨po,pn,pa,pl,pc,pb,pm,pe⟩:=p;obtain⟨qo,qn,qa,ql,qc,qb,qm,qe⟩:=q;obtain⟨sa,ss,hs,bN,em⟩:=aX.1 hp;obtain⟨sa',ss',hs',Vy,Vz⟩:=aX.1 hq;unfold FQ.val at hs hs';simp only[c_,Array.mk.injEq,cF,and_true,Value.int.injEq,true_and,Value.string.injEq]at hs hs';obtain⟨rfl,rfl,rfl,rfl⟩:=hs;obtain⟨rfl,rfl,rfl,rfl⟩:=hs';have CT:=ae (fun(W:World)(hb:Below w.heap.size w W)=>qi a a' ok ok' W pa pl pc qa ql qc aI.args (bN.later hb) (Vy.later hb));have CF:=ae (fun(W:World)(hb:Below w.heap.size w W)=>Vx s ih s' ok ok' W pb pm pe qb qm qe aI.subs (em.later hb) (Vz.later hb));clear hp hq bN em Vy Vz aI ih;unfold FQ.val zT;have⟨T,hT⟩:=az (kx a a');have⟨F,hF⟩:=az (qC s s');rw[<-hT]at CT⊢;rw[<-hF]at CF⊢;clear hT hF;have HB:=ae (show Below w.heap.size w ((w.alloc (.cells #[.int .u8 po,.string ⟨n.toArray⟩,.slice pa pl pc,.slice pb pm pe] 36)).alloc (.cells #[.int .u8 qo,.string ⟨n'.toArray⟩,.slice qa ql qc,.slice qb qm qe] 36))from dp.alloc (by simp) _)
  by_cases ho:po=qo
  ·subst ho
   by_cases hn:n=n'
   ·subst hn;simp only[beq_self_eq_true,dL,Bool.and_self];have X0:((w.alloc (.cells #[.int .u8 po,.string ⟨n.toArray⟩,.slice pa pl pc,.slice pb pm pe] 36)).alloc (.cells #[.int .u8 po,.string ⟨n.toArray⟩,.slice qa ql qc,.slice qb qm qe] 36)).heap[w.heap.size]?=some (.cells #[.int .u8 po,.string ⟨n.toArray⟩,.slice pa pl pc,.slice pb pm pe] 36 (0,0)):=(bZ _ _ _ (by simp)).trans (aq rfl);have X1:((w.alloc (.cells #[.int .u8 po,.string ⟨n.toArray⟩,.slice pa pl pc,.slice pb pm pe] 36)).alloc (.cells #[.int .u8 po,.string ⟨n.toArray⟩,.slice qa ql qc,.slice qb qm qe] 36)).heap[w.heap.size+1]?=some (.cells #[.int .u8 po,.string ⟨n.toArray⟩,.slice qa ql qc,.slice qb qm qe] 36 (0,0)):=aq (by simp);have HX:=aM X0 X1;clear X0 X1
    cases T with
    |false=>
     have an:=();exact qcE
    |true=>
     cases F
     all_goals
      go_enter func17,ntmps17;go_wp2_with (first|(go_at_call 19;refine(CT.o _ HB.o).mono ?_;rintro e w1 ⟨rfl,hb1⟩;have p3:w1.cell? ⟨w.heap.size,3,none⟩=some (.slice pb pm pe):=ao (bY hb1 HX.o.1) 3;have q3:w1.cell? ⟨w.heap.size+1,3,none⟩=some (.slice qb qm qe):=ao (bY hb1 HX.o.2) 3;have H1:=ae hb1;clear hb1)|(go_at_call 52;refine(CF.o _ (HB.o.trans (H1.o.mono HB.o.size))).mono ?_;rintro e w2 ⟨rfl,bU⟩;have cQ:=ae bU;clear bU));go_ret;exact⟨rfl,(HB.o.trans (H1.o.mono HB.o.size)).trans (cQ.o.mono (HB.o.trans (H1.o.mono HB.o.size)).size)⟩
   ·have eB:(n==n')=false:=by simpa using hn
    have e1:((po==po&&n==n')&&(T&&F))=false:=by rw[eB];simp
    rw[e1];exact qcE
  ·have ho1:(po==qo)=false:=by simpa using ho
   have e1:((po==qo&&n==n')&&(T&&F))=false:=by rw[ho1];simp
   rw[e1];exact qcE
section
attribute [local go_sem] Oper.semAt_some
structure gL where
 p:Value->Bx->World->Prop
 st:∀(v:Value)(γ:Bx)(w:World)(eZ:Bx)(w':World),Gr γ w eZ w'->p v γ w->p v eZ w'
def e8(l:List gL)(k:Nat):Value->Bx->World->Prop:=(l.getD k ⟨fun _ _ _=>True,fun _ _ _ _ _ _ h=>h⟩).p
theorem ur(l:List gL)(k:Nat)(v:Value)(γ:Bx)(w:World)(eZ:Bx)(w':World):Gr γ w eZ w'->e8 l k v γ w->e8 l k v eZ w':=(l.getD k _).st v γ w eZ w'
section facts
variable(L:Nat->Prop)
def Mo(s f:Fm)(v:Value)(γ:Bx)(w:World):Prop:=∃q r:FQ,v=.agg #[.int .u8 q.o,.string q.n,.slice q.a q.l q.c,.slice q.b q.m q.e,.int .u8 r.o,.string r.n,.slice r.a r.l r.c,.slice r.b r.m r.e]/\aC (nu L γ w) w q.val s/\aC (nu L γ w) w r.val f
def xj(l:List (Fm×Fm))(v:Value)(γ:Bx)(w:World):Prop:=∃a c,v=.slice a l.length c/\dZ (nu L γ w) w (.slice a l.length c) l
def FBG(n:aj)(f:Fm)(v:Value)(γ:Bx)(w:World):Prop:=∃q:FQ,v=.agg #[.string ⟨n.toArray⟩,.int .u8 q.o,.string q.n,.slice q.a q.l q.c,.slice q.b q.m q.e]/\aC (nu L γ w) w q.val f
def TBG(n:aj)(t:Tm)(v:Value)(γ:Bx)(w:World):Prop:=∃q:TQ,v=.agg #[.string ⟨n.toArray⟩,.bool q.v,.string q.n,.slice q.a q.l q.c]/\aN (nu L γ w) w q.val t
def zbf(l:List (aj×Fm))(v:Value)(γ:Bx)(w:World):Prop:=∃a c,v=.slice a l.length c/\et (nu L γ w) w (.slice a l.length c) l
def zbg(l:List (aj×Tm))(v:Value)(γ:Bx)(w:World):Prop:=∃a c,v=.slice a l.length c/\eI (nu L γ w) w (.slice a l.length c) l
def mZ(x:Value):gL:=⟨fun v _ _=>v=x,fun _ _ _ _ _ _ h=>h⟩
def fY(f:Fm):gL:=⟨gV L f,fun _ _ _ _ _ hG=>gV.step hG⟩
def ix(t:Tm):gL:=⟨pN L t,fun _ _ _ _ _ hG=>pN.step hG⟩
def VA(l:List Fm):gL:=⟨tQ L l,fun _ _ _ _ _ hG=>tQ.step hG⟩
def VB(l:List Tm):gL:=⟨oW L l,fun _ _ _ _ _ hG=>oW.step hG⟩
def jH(b:Bd):gL:=⟨l_ L b,fun _ _ _ _ _ hG=>l_.step hG⟩
def zdt(s f:Fm):gL:=⟨Mo L s f,fun _ _ _ _ _ hG ⟨q,r,e,h1,h2⟩=>⟨q,r,e,h1.move hG.holds,h2.move hG.holds⟩⟩
def OI(l:List (Fm×Fm)):gL:=⟨xj L l,fun _ _ _ _ _ hG ⟨a,c,e,h⟩=>⟨a,c,e,h.move hG.holds⟩⟩
def fFB(n:aj)(f:Fm):gL:=⟨FBG L n f,fun _ _ _ _ _ hG ⟨q,e,h⟩=>⟨q,e,h.move hG.holds⟩⟩
def fTB(n:aj)(t:Tm):gL:=⟨TBG L n t,fun _ _ _ _ _ hG ⟨q,e,h⟩=>⟨q,e,h.move hG.holds⟩⟩
def zfW(l:List (aj×Fm)):gL:=⟨zbf L l,fun _ _ _ _ _ hG ⟨a,c,e,h⟩=>⟨a,c,e,h.move hG.holds⟩⟩
def zfX(l:List (aj×Tm)):gL:=⟨zbg L l,fun _ _ _ _ _ hG ⟨a,c,e,h⟩=>⟨a,c,e,h.move hG.holds⟩⟩
def Mp(F:gL)(r:List Value):gL:=⟨fun v γ w=>∃u,v=.tuple (u::r).toArray/\F.p u γ w,fun _ γ w eZ w' hG ⟨u,e,h⟩=>⟨u,e,F.st u γ w eZ w' hG h⟩⟩
def OJ(z:Array Value)(T:TypeId):gL:=⟨DT z T,fun _ _ _ _ _ hG=>DT.step hG⟩
def E5(F:gL)(T:TypeId):gL:=⟨fun _ γ w=>NM (fun cs γ w=>F.p (.agg cs) γ w) T γ w,fun _ γ w eZ w' hG h=>NM.step (fun _ h=>F.st _ γ w eZ w' hG h) hG h⟩
end facts
section
variable{ops:Array Oper}{Q:Exit->Act->World->Prop}{a0:Act}{l:List gL}{kA kS k:Nat}{M:Nat->Prop}{w0:World}{md:Region.Mode}{L:Nat->Prop}
abbrev dC(md:Region.Mode)(ops:Array Oper)(Q:Exit->Act->World->Prop)(a0:Act)(l:List gL)(kA kS:Nat)(M:Nat->Prop)(w0:World)(k:Nat):Prop:=rh (e8 l) (Z4 kA kS) (IG M w0) Gr Fence.wide 3 prog md ops Q a0 k
abbrev DIn(md:Region.Mode)(ops:Array Oper)(a0:Act)(l:List gL)(kA kS:Nat)(M:Nat->Prop)(w0:World)(k:Nat)(o:Oper)(a:Act)(γ:Bx)(w:World):Prop:=GA (e8 l) (Z4 kA kS) (IG M w0) md ops a0 o k a γ w
def iP(md:Region.Mode)(ops:Array Oper)(a0:Act)(l:List gL)(kA kS:Nat)(M:Nat->Prop)(w0:World)(k:Nat)(o:Oper)(d:Nat)(p:Value->Bx->World->Prop):Prop:=∀a γ w,DIn md ops a0 l kA kS M w0 k o a γ w->∃v,a.tmps[d]?=some v/\p v γ w
theorem aZ{o oj:Oper}{d:Nat}{p:Value->Bx->World->Prop}(j:Nat)(hj:ops[j]?=some oj:=by rfl)(hd:oj.dst=some d:=by rfl)(hw:xQ md o j=true:=by kernel_rfl)(hp:e8 l j=p:=by rfl):iP md ops a0 l kA kS M w0 k o d p:=fun _ _ _ h=>hp▸h.val j oj d hj hd hw
theorem qj{o:Oper}{d:Nat}(hv:a0.tmps[d]?=some v)(hf:qA ops d=true:=by kernel_rfl):iP md ops a0 l kA kS M w0 k o d (fun u _ _=>u=v):=fun _ _ _ h=>⟨v,(h.ou d hf).trans hv,rfl⟩
theorem ere{o oj:Oper}{d:Nat}(j:Nat)(hv:a0.tmps[d]?=some v)(hj:ops[j]?=some oj:=by rfl)(hd:oj.dst=some d:=by rfl)(hw:xQ md oj k=true:=by kernel_rfl):iP md ops a0 l kA kS M w0 k o d (fun u _ _=>u=v):=fun _ _ _ h=>⟨v,(h.pre j oj d hj hd hw).trans hv,rfl⟩
theorem iP.is{o:Oper}{d:Nat}{p:Value->Bx->World->Prop}(h:iP md ops a0 l kA kS M w0 k o d p){a:Act}{γ:Bx}{w:World}(bq:DIn md ops a0 l kA kS M w0 k o a γ w):∃v,a.tmps.getD d undef=v/\p v γ w:=by
 obtain⟨v,h1,h2⟩:=h a γ w bq;exact⟨v,bL h1,h2⟩
def Wt(md:Region.Mode)(ops:Array Oper)(a0:Act)(l:List gL)(kA kS:Nat)(M:Nat->Prop)(w0:World)(k:Nat)(o:Oper):Prop:=∀a γ w,DIn md ops a0 l kA kS M w0 k o a γ w->Region.wanted o (yielded ops a.tmps)=true
theorem VC{o oj:Oper}{d:Nat}{b:Bool}(j:Nat)(hd:iP md ops a0 l kA kS M w0 k o d (fun v _ _=>v=.bool b))(hg:o.guard=some (j,b):=by rfl)(hj:ops[j]?=some oj:=by rfl)(MN:oj.dst=some d:=by rfl):Wt md ops a0 l kA kS M w0 k o:=by
 intro a γ w h;obtain⟨v,h1,rfl⟩:=hd a γ w h;simp[Region.wanted,hg,yielded,hj,MN,h1]
theorem fF{o:Oper}{d:Nat}(hw:Wt md ops a0 l kA kS M w0 k o)(ho:ops[k]?=some o)(hd:o.dst=some d)(f:Nat)
  (h:∀a γ w,DIn md ops a0 l kA kS M w0 k o a γ w->∃args,(execOp a.eval o).run prog w=.ok (.enter f args) w/\Calls prog f args w fun e w'=>(∃v,e=.returned v/\e8 l k v γ w')/\Below w.heap.size w w'):dC md ops Q a0 l kA kS M w0 k:=
 GG ho hd (fun _=>trivial) rfl rfl (fun a γ w bq=>by
  obtain⟨args,h1,h2⟩:=h a γ w bq;refine⟨hw a γ w bq,f,args,h1,aO.2 (h2.mono ?_)⟩;rintro e w' ⟨⟨v,rfl,h3⟩,h4⟩;exact⟨v,rfl,γ,Gr.keep h4,fun _ _ h=>h,h3⟩)
theorem fM{o:Oper}{d:Nat}(hw:Wt md ops a0 l kA kS M w0 k o)(ho:ops[k]?=some o)(hd:o.dst=some d)
  (h:∀a γ w,DIn md ops a0 l kA kS M w0 k o a γ w->∃v,(execOp a.eval o).run prog w=.ok (.value v) w/\e8 l k v γ w):dC md ops Q a0 l kA kS M w0 k:=
 d_ ho hd (fun _=>trivial) rfl (fun a γ w bq=>by
  obtain⟨v,h1,h2⟩:=h a γ w bq;exact⟨hw a γ w bq,v,γ,w,h1,Gr.refl,fun _ _ h=>h,h2⟩)
end
end
def mA:aj:=[63,65]
def mB:aj:=[63,66]
def mT:aj:=[63,116]
def cT(s:aj)(l:List Tm):Tm:=.mk false s l
def rg(s:aj)(l:List Tm):Fm:=.mk 1 s l []
def BO(s:aj):Fm:=.mk 15 s [] []
def zbh(s x t:aj):Fm:=.mk 16 s [bj x,bj t] []
def awP:Fm:=rg [80] []
def awQ:Fm:=rg [81] []
def W_:Fm:=rg [82] []
def zbi:Fm:=.mk 6 [] [] [BO mA,BO mB]
def Mq:Fm:=.mk 4 [] [] [awP,awQ]
def zbj:Fm:=.mk 6 [] [] [Mq,W_]
def _G:Fm:=.mk 8 [120] [] [BO mA]
def zdu:Fm:=.mk 9 [122] [] [rg [82] [bj [121],bj [122]]]
def awr:Fm:=.mk 8 [121] [] [zdu]
def Qp:Fm:=zbh mA [120] mT
def E6:Tm:=cT [102] [cT [97] []]
def awG:Fm:=.mk 9 [122] [] [rg [82] [E6,bj [122]]]
def zfY:Fm:=.mk 9 [122] [] [rg [82] [bj [122],bj [122]]]
def Gn:Fm:=.mk 9 [122] [] [rg [82] [bj [63,120],bj [122]]]
def zfZ:Fm:=rg [80] [cT [97] []]
def zf0:Fm:=.mk 8 [120] [] [.mk 5 [] [] [BO mA,BO mB]]
def zbk:Fm:=rg [80] [bj [121]]
def zdv:Fm:=.mk 8 [121] [] [.mk 5 [] [] [zbk,zbk]]
def zdw:Fm:=rg [80] [bj [63,120],bj [120]]
def VD:Bd:=⟨[(mA,zdw)],[(mT,bj [120])]⟩
def zbl:Fm:=.mk 9 [120] [] [BO mA]
def VE:Fm:=.mk 9 [120,49] [] [rg [80] [bj [120,49],bj [120]]]
def VF:Fm:=rg [80] [bj [120],bj [120]]
theorem aw1:bm [(zbi,zbj)] ⟨[],[]⟩=(⟨[(mA,Mq),(mB,W_)],[]⟩,0,0):=by kernel_rfl
theorem aw2:bm [(_G,awr),(Qp,awG)] ⟨[],[]⟩=(⟨[(mA,Gn)],[(mT,E6)]⟩,0,0):=by kernel_rfl
theorem aw3:bm [(_G,awr),(Qp,zfY)] ⟨[],[]⟩=(⟨[],[]⟩,1,70):=by kernel_rfl
theorem aw4:bm [(Qp,zfZ)] ⟨[],[]⟩=(⟨[],[]⟩,0,71):=by kernel_rfl
theorem aw5:bm [(zf0,zdv),(BO mA,zbk)] ⟨[],[]⟩=(⟨[],[]⟩,1,70):=by kernel_rfl
theorem aw6:AU zbl VD=(VE,0):=by kernel_rfl
theorem aw7:AU Qp VD=(VF,0):=by kernel_rfl
theorem aw8:AU (BO mA) VD=(oN,72):=by kernel_rfl
theorem aw9:bF VD=true:=by decide+kernel
theorem zf1:zT W_ W_=true:=by decide+kernel
theorem zf2:zT Gn Gn=true:=by decide+kernel
theorem zf3:kx [E6] [E6]=true:=by decide+kernel
theorem zf4:zT VE VE=true:=by decide+kernel
theorem zf5:zT VF VF=true:=by decide+kernel
section
attribute [local go_sem] Oper.semAt_some
section
variable{ops:Array Oper}{Q:Exit->Act->World->Prop}{a0:Act}{l:List gL}{kA kS k:Nat}{M:Nat->Prop}{w0:World}{md:Region.Mode}{L:Nat->Prop}
theorem E7{w:World}{s:aj}{a:Option Addr}{c:Nat}{ts:List Tm}(h:cB ok w (.slice a n c) ts):aC ok w (FQ.val ⟨1,⟨s.toArray⟩,a,n,c,none,0,0⟩) (rg s ts):=aX.2 ⟨_,_,rfl,h,iE⟩
def _H(L M:Nat->Prop)(w0:World)(b:Nat):Prop:=L b/\b<w0.heap.size/\¬M b
theorem nu.old{γ:Bx}{w:World}(hI:IG M w0 γ w):iN (_H L M w0) (nu L γ w) w0 w:=fun b hb hlt=>
 ⟨⟨hb.1,bP hlt hI.1.size,fun e=>by
  rcases(hI.2.1 b e).1 with h|h
  ·omega
  ·exact hb.2.2 h⟩,hI.1.same b hlt hb.2.2⟩
theorem Mr(s:aj){d:Nat}{ty:TypeId}{pos:String}{fw:Array Edge}{gu:Option (Nat×Bool)}{o:Oper}(ho:ops[k]?=some o:=by rfl)(eo:o=⟨some d,.call ⟨.value (.func 29),#[.const (.string ⟨s.toArray⟩)],Cs⟩,ty,pos,fw,gu⟩:=by rfl)(hw:Wt md ops a0 l kA kS M w0 k o:=by exact fun _ _ _ _=>rfl)(hp:e8 l k=(fY L (BO s)).p:=by rfl):dC md ops Q a0 l kA kS M w0 k:=
 by subst eo;have hp:e8 l k=gV L (BO s):=hp;exact fF hw ho rfl 29 (fun a γ w bq=>by
  refine⟨#[.string ⟨s.toArray⟩],by go_simp,(zal _ w).mono ?_⟩;rintro e w' ⟨rfl,hb⟩;exact⟨⟨_,rfl,by rw[hp];exact⟨⟨15,⟨s.toArray⟩,none,0,0,none,0,0⟩,rfl,aX.2 ⟨_,_,rfl,cE,iE⟩⟩⟩,hb⟩)
theorem ut(s:aj){d:Nat}{ty:TypeId}{pos:String}{fw:Array Edge}{gu:Option (Nat×Bool)}{o:Oper}(ho:ops[k]?=some o:=by rfl)(eo:o=⟨some d,.call ⟨.value (.func 30),#[.const (.string ⟨s.toArray⟩)],Cs⟩,ty,pos,fw,gu⟩:=by rfl)(hw:Wt md ops a0 l kA kS M w0 k o:=by exact fun _ _ _ _=>rfl)(hp:e8 l k=(ix L (bj s)).p:=by rfl):dC md ops Q a0 l kA kS M w0 k:=
 by subst eo;have hp:e8 l k=pN L (bj s):=hp;exact fF hw ho rfl 30 (fun a γ w bq=>by
  refine⟨#[.string ⟨s.toArray⟩],by go_simp,(NN _ w).mono ?_⟩;rintro e w' ⟨rfl,hb⟩;exact⟨⟨_,rfl,by rw[hp];exact⟨⟨true,⟨s.toArray⟩,none,0,0⟩,rfl,aW.2 ⟨_,rfl,cE⟩⟩⟩,hb⟩)
theorem Qq(s:aj){d:Nat}{ty:TypeId}{pos:String}{fw:Array Edge}{gu:Option (Nat×Bool)}{o:Oper}(ho:ops[k]?=some o:=by rfl)(eo:o=⟨some d,.call ⟨.value (.func 24),#[.const (.string ⟨s.toArray⟩),.const (.slice none 0 0)],Cs⟩,ty,pos,fw,gu⟩:=by rfl)(hw:Wt md ops a0 l kA kS M w0 k o:=by exact fun _ _ _ _=>rfl)(hp:e8 l k=(fY L (rg s [])).p:=by rfl):dC md ops Q a0 l kA kS M w0 k:=
 by subst eo;have hp:e8 l k=gV L (rg s []):=hp;exact fF hw ho rfl 24 (fun a γ w bq=>by
  refine⟨#[.string ⟨s.toArray⟩,.slice none 0 0],by go_simp,(IX _ _ _ _ w).mono ?_⟩;rintro e w' ⟨rfl,hb⟩;exact⟨⟨_,rfl,by rw[hp];exact⟨⟨1,⟨s.toArray⟩,none,0,0,none,0,0⟩,rfl,E7 cE⟩⟩,hb⟩)
theorem VG(s:aj){d:Nat}{ty:TypeId}{pos:String}{fw:Array Edge}{gu:Option (Nat×Bool)}{o:Oper}(ho:ops[k]?=some o:=by rfl)(eo:o=⟨some d,.call ⟨.value (.func 31),#[.const (.string ⟨s.toArray⟩),.const (.slice none 0 0)],Cs⟩,ty,pos,fw,gu⟩:=by rfl)(hw:Wt md ops a0 l kA kS M w0 k o:=by exact fun _ _ _ _=>rfl)(hp:e8 l k=(ix L (cT s [])).p:=by rfl):dC md ops Q a0 l kA kS M w0 k:=
 by subst eo;have hp:e8 l k=pN L (cT s []):=hp;exact fF hw ho rfl 31 (fun a γ w bq=>by
  refine⟨#[.string ⟨s.toArray⟩,.slice none 0 0],by go_simp,(NO _ _ _ _ w).mono ?_⟩;rintro e w' ⟨rfl,hb⟩;exact⟨⟨_,rfl,by rw[hp];exact⟨⟨false,⟨s.toArray⟩,none,0,0⟩,rfl,aW.2 ⟨_,rfl,cE⟩⟩⟩,hb⟩)
theorem E8(s:aj)(ts:List Tm)(x:Nat){d:Nat}{ty:TypeId}{pos:String}{fw:Array Edge}{gu:Option (Nat×Bool)}{o:Oper}(hx:iP md ops a0 l kA kS M w0 k o x (oW L ts))(ho:ops[k]?=some o:=by rfl)(eo:o=⟨some d,.call ⟨.value (.func 24),#[.const (.string ⟨s.toArray⟩),.tmp x],Cs⟩,ty,pos,fw,gu⟩:=by rfl)(hw:Wt md ops a0 l kA kS M w0 k o:=by exact fun _ _ _ _=>rfl)(hp:e8 l k=(fY L (rg s ts)).p:=by rfl):dC md ops Q a0 l kA kS M w0 k:=
 by subst eo;have hp:e8 l k=gV L (rg s ts):=hp;exact fF hw ho rfl 24 (fun a γ w bq=>by
  obtain⟨vx,ex,fx⟩:=hx.is bq;obtain⟨ax,cx,rfl,hx⟩:=fx;refine⟨#[.string ⟨s.toArray⟩,.slice ax ts.length cx],by go_simp,(IX _ _ _ _ w).mono ?_⟩;rintro e w' ⟨rfl,hb⟩;exact⟨⟨_,rfl,by rw[hp];exact⟨⟨1,⟨s.toArray⟩,ax,ts.length,cx,none,0,0⟩,rfl,E7 (hx.move (Gr.keep hb).holds)⟩⟩,hb⟩)
theorem zdx(s:aj)(ts:List Tm)(x:Nat){d:Nat}{ty:TypeId}{pos:String}{fw:Array Edge}{gu:Option (Nat×Bool)}{o:Oper}(hx:iP md ops a0 l kA kS M w0 k o x (oW L ts))(ho:ops[k]?=some o:=by rfl)(eo:o=⟨some d,.call ⟨.value (.func 31),#[.const (.string ⟨s.toArray⟩),.tmp x],Cs⟩,ty,pos,fw,gu⟩:=by rfl)(hw:Wt md ops a0 l kA kS M w0 k o:=by exact fun _ _ _ _=>rfl)(hp:e8 l k=(ix L (cT s ts)).p:=by rfl):dC md ops Q a0 l kA kS M w0 k:=
 by subst eo;have hp:e8 l k=pN L (cT s ts):=hp;exact fF hw ho rfl 31 (fun a γ w bq=>by
  obtain⟨vx,ex,fx⟩:=hx.is bq;obtain⟨ax,cx,rfl,hx⟩:=fx;refine⟨#[.string ⟨s.toArray⟩,.slice ax ts.length cx],by go_simp,(NO _ _ _ _ w).mono ?_⟩;rintro e w' ⟨rfl,hb⟩;exact⟨⟨_,rfl,by rw[hp];exact⟨⟨false,⟨s.toArray⟩,ax,ts.length,cx⟩,rfl,aW.2 ⟨_,rfl,hx.move (Gr.keep hb).holds⟩⟩⟩,hb⟩)
theorem pd(o:Int)(s:aj)(fs:List Fm)(x:Nat){d:Nat}{ty:TypeId}{pos:String}{fw:Array Edge}{gu:Option (Nat×Bool)}(hx:iP md ops a0 l kA kS M w0 k ⟨some d,.call ⟨.value (.func 28),#[.const (.int .u8 o),.const (.string ⟨s.toArray⟩),.tmp x],Cs⟩,ty,pos,fw,gu⟩ x (tQ L fs))(ho:ops[k]?=some ⟨some d,.call ⟨.value (.func 28),#[.const (.int .u8 o),.const (.string ⟨s.toArray⟩),.tmp x],Cs⟩,ty,pos,fw,gu⟩:=by rfl)(hw:Wt md ops a0 l kA kS M w0 k ⟨some d,.call ⟨.value (.func 28),#[.const (.int .u8 o),.const (.string ⟨s.toArray⟩),.tmp x],Cs⟩,ty,pos,fw,gu⟩:=by exact fun _ _ _ _=>rfl)(hp:e8 l k=(fY L (.mk o s [] fs)).p:=by rfl):dC md ops Q a0 l kA kS M w0 k:=
 by have hp:e8 l k=gV L (.mk o s [] fs):=hp;exact fF hw ho rfl 28 (fun a γ w bq=>by
  obtain⟨vx,ex,fx⟩:=hx.is bq;obtain⟨ax,cx,rfl,hx⟩:=fx;refine⟨#[.int .u8 o,.string ⟨s.toArray⟩,.slice ax fs.length cx],by go_simp,(XD _ _ _ _ _ w).mono ?_⟩;rintro e w' ⟨rfl,hb⟩;exact⟨⟨_,rfl,by rw[hp];exact⟨⟨o,⟨s.toArray⟩,none,0,0,ax,fs.length,cx⟩,rfl,aX.2 ⟨_,_,rfl,cE,hx.move (Gr.keep hb).holds⟩⟩⟩,hb⟩)
theorem If{b:Nat}{T:TypeId}{x y:Tm}(p q:TQ)(c:Nat)(hb:W.heap[b]?=some (.cells #[.bool p.v,.string p.n,.slice p.a p.l p.c,.bool q.v,.string q.n,.slice q.a q.l q.c] T (0,0)))(hok:ok b)(hx:aN ok W p.val x)(hy:aN ok W q.val y):cB ok W (.slice (some ⟨b,0,none⟩) 2 c) [x,y]:=by
 have an:=();exact qfq
theorem Ig{b:Nat}{T:TypeId}{x y:Fm}(p q:FQ)(c:Nat)(hb:W.heap[b]?=some (.cells #[.int .u8 p.o,.string p.n,.slice p.a p.l p.c,.slice p.b p.m p.e,.int .u8 q.o,.string q.n,.slice q.a q.l q.c,.slice q.b q.m q.e] T (0,0)))(hok:ok b)(hx:aC ok W p.val x)(hy:aC ok W q.val y):eL ok W (.slice (some ⟨b,0,none⟩) 2 c) [x,y]:=by
 exact qfq
theorem nu.here(hL:∀b,w0.heap.size<=b->L b){γ:Bx}{w:World}(hI:IG M w0 γ w)(o:Obj):nu L γ (w.alloc o) w.heap.size:=(nu.new hI (fun b hb=>hL b (aR hI.1.size hb)) (w':=w.alloc o) _ (aK _) (by simp)).1
theorem CZ(s x t:aj){d:Nat}{ty:TypeId}{pos:String}{fw:Array Edge}{gu:Option (Nat×Bool)}(hL:∀b,w0.heap.size<=b->L b){o:Oper}(ho:ops[k]?=some o:=by rfl)(eo:o=⟨some d,.call ⟨.value (.func 35),#[.const (.string ⟨s.toArray⟩),.const (.string ⟨x.toArray⟩),.const (.string ⟨t.toArray⟩)],Cs⟩,ty,pos,fw,gu⟩:=by rfl)(hw:Wt md ops a0 l kA kS M w0 k o:=by exact fun _ _ _ _=>rfl)(hp:e8 l k=(fY L (zbh s x t)).p:=by rfl):dC md ops Q a0 l kA kS M w0 k:=
 by subst eo;have hp:e8 l k=gV L (zbh s x t):=hp;exact fF hw ho rfl 35 (fun a γ w bq=>by
  refine⟨#[.string ⟨s.toArray⟩,.string ⟨x.toArray⟩,.string ⟨t.toArray⟩],by go_simp,(Q8 _ _ _ w).mono ?_⟩;rintro e w' ⟨⟨kk,c,rfl,hk,T,hc⟩,hb⟩;have DH:=(nu.new bq.inv (L:=L) (fun b hb=>hL b (aR bq.inv.1.size hb)) kk hk (bQ hc)).1;exact⟨⟨_,rfl,by rw[hp];exact⟨⟨16,⟨s.toArray⟩,some ⟨kk,0,none⟩,2,c,none,0,0⟩,rfl,aX.2 ⟨_,_,rfl,If ⟨true,⟨x.toArray⟩,none,0,0⟩ ⟨true,⟨t.toArray⟩,none,0,0⟩ c hc DH (aW.2 ⟨_,rfl,cE⟩) (aW.2 ⟨_,rfl,cE⟩),iE⟩⟩⟩,hb⟩)
theorem Ms(s f:Fm)(b b2:Bd)(i:Nat)(er:Int)(hR:bm [(s,f)] b=(b2,i,er))(hs:cJ s)(hf:cJ f)(hb:j9 b)(x:Nat)(y:Nat)(z:Nat){d:Nat}{ty:TypeId}{pos:String}{fw:Array Edge}{gu:Option (Nat×Bool)}(hT:gG Wb w0)(hM:∀b,M b->Wb.heap.size<=b)(hL:∀b,w0.heap.size<=b->L b){o:Oper}(hx:iP md ops a0 l kA kS M w0 k o x (gV L s))(hy:iP md ops a0 l kA kS M w0 k o y (gV L f))(hz:iP md ops a0 l kA kS M w0 k o z (l_ L b))(ho:ops[k]?=some o:=by rfl)(eo:o=⟨some d,.call ⟨.value (.func 20),#[.tmp x,.tmp y,.tmp z],Cs⟩,ty,pos,fw,gu⟩:=by rfl)(hw:Wt md ops a0 l kA kS M w0 k o:=by exact fun _ _ _ _=>rfl)(hp:e8 l k=(Mp (jH L b2) [.int .i64 er]).p:=by rfl):dC md ops Q a0 l kA kS M w0 k:=
 by subst eo;exact fF hw ho rfl 20 (fun a γ w bq=>by
  obtain⟨vx,ex,fx⟩:=hx.is bq;obtain⟨vy,ey,fy⟩:=hy.is bq;obtain⟨vz,ez,fz⟩:=hz.is bq;obtain⟨qx,rfl,hx⟩:=fx;obtain⟨qy,rfl,hy⟩:=fy;obtain⟨qz,rfl,hz⟩:=fz;refine⟨#[qx.val,qy.val,qz.val],by go_simp,(RZ Wb s f b hs hf hb _ _ _ w qx qy qz (hT.kp bq.inv.1 hM) hx hy hz).mono ?_⟩;rw[hR];rintro e w' ⟨⟨u,rfl,hu⟩,hb⟩;exact⟨⟨_,rfl,by rw[hp];exact⟨_,rfl,u,rfl,hu.move (nu.new bq.inv (fun b hb=>hL b (aR bq.inv.1.size hb)))⟩⟩,hb⟩)
theorem ph(ps:List (Fm×Fm))(b b2:Bd)(i:Nat)(er:Int)(hR:bm ps b=(b2,i,er))(hl:ps.length<=8)(hs:∀x∈ps,cJ x.1/\cJ x.2)(hb:j9 b)(x:Nat)(z:Nat){d:Nat}{ty:TypeId}{pos:String}{fw:Array Edge}{gu:Option (Nat×Bool)}(hT:gG Wb w0)(hM:∀b,M b->Wb.heap.size<=b)(hL:∀b,w0.heap.size<=b->L b){o:Oper}(hx:iP md ops a0 l kA kS M w0 k o x (xj L ps))(hz:iP md ops a0 l kA kS M w0 k o z (l_ L b))(ho:ops[k]?=some o:=by rfl)(eo:o=⟨some d,.call ⟨.value (.func 15),#[.tmp x,.tmp z],Cs⟩,ty,pos,fw,gu⟩:=by rfl)(hw:Wt md ops a0 l kA kS M w0 k o:=by exact fun _ _ _ _=>rfl)(hp:e8 l k=(Mp (jH L b2) [.int .i64 (i:Int),.int .i64 er]).p:=by rfl):dC md ops Q a0 l kA kS M w0 k:=
 by subst eo;exact fF hw ho rfl 15 (fun a γ w bq=>by
  obtain⟨vx,ex,fx⟩:=hx.is bq;obtain⟨vz,ez,fz⟩:=hz.is bq;obtain⟨ax,cx,rfl,hx⟩:=fx;obtain⟨qz,rfl,hz⟩:=fz;refine⟨#[.slice ax ps.length cx,qz.val],by go_simp,(BM Wb ps b hl hs hb (nu L γ w) w ax cx qz (hT.kp bq.inv.1 hM) hx hz).mono ?_⟩;rw[hR];rintro e w' ⟨⟨u,rfl,hu⟩,hb⟩;exact⟨⟨_,rfl,by rw[hp];exact⟨_,rfl,u,rfl,hu.move (nu.new bq.inv (fun b hb=>hL b (aR bq.inv.1.size hb)))⟩⟩,hb⟩)
theorem Qr(b:Bd)(n:aj)(hF:b.fs.length<=1000000)(aI:∀x∈b.fs,cJ x.2)(x:Nat){d:Nat}{ty:TypeId}{pos:String}{fw:Array Edge}{gu:Option (Nat×Bool)}(hL:∀b,w0.heap.size<=b->L b){o:Oper}(hx:iP md ops a0 l kA kS M w0 k o x (l_ L b))(ho:ops[k]?=some o:=by rfl)(eo:o=⟨some d,.call ⟨.value (.func 16),#[.tmp x,.const (.string ⟨n.toArray⟩)],Cs⟩,ty,pos,fw,gu⟩:=by rfl)(hw:Wt md ops a0 l kA kS M w0 k o:=by exact fun _ _ _ _=>rfl)(hp:e8 l k=(Mp (fY L ((bG b.fs n).getD oN)) [.bool (bG b.fs n).isSome]).p:=by rfl):dC md ops Q a0 l kA kS M w0 k:=
 by subst eo;exact fF hw ho rfl 16 (fun a γ w bq=>by
  obtain⟨vx,ex,fx⟩:=hx.is bq;obtain⟨qx,rfl,hx⟩:=fx;refine⟨#[qx.val,.string ⟨n.toArray⟩],by go_simp,(Rn b hF aI n _ w qx hx).mono ?_⟩;rintro e w' ⟨⟨u,rfl,hu⟩,hb⟩;exact⟨⟨_,rfl,by rw[hp];exact⟨_,rfl,u,rfl,hu.move (nu.new bq.inv (fun b hb=>hL b (aR bq.inv.1.size hb)))⟩⟩,hb⟩)
theorem YY(b:Bd)(n:aj)(hF:b.ts.length<=1000000)(aI:∀x∈b.ts,e7 x.2)(x:Nat){d:Nat}{ty:TypeId}{pos:String}{fw:Array Edge}{gu:Option (Nat×Bool)}(hL:∀b,w0.heap.size<=b->L b){o:Oper}(hx:iP md ops a0 l kA kS M w0 k o x (l_ L b))(ho:ops[k]?=some o:=by rfl)(eo:o=⟨some d,.call ⟨.value (.func 18),#[.tmp x,.const (.string ⟨n.toArray⟩)],Cs⟩,ty,pos,fw,gu⟩:=by rfl)(hw:Wt md ops a0 l kA kS M w0 k o:=by exact fun _ _ _ _=>rfl)(hp:e8 l k=(Mp (ix L ((bG b.ts n).getD PV)) [.bool (bG b.ts n).isSome]).p:=by rfl):dC md ops Q a0 l kA kS M w0 k:=
 by subst eo;exact fF hw ho rfl 18 (fun a γ w bq=>by
  obtain⟨vx,ex,fx⟩:=hx.is bq;obtain⟨qx,rfl,hx⟩:=fx;refine⟨#[qx.val,.string ⟨n.toArray⟩],by go_simp,(Ro b hF aI n _ w qx hx).mono ?_⟩;rintro e w' ⟨⟨u,rfl,hu⟩,hb⟩;exact⟨⟨_,rfl,by rw[hp];exact⟨_,rfl,u,rfl,hu.move (nu.new bq.inv (fun b hb=>hL b (aR bq.inv.1.size hb)))⟩⟩,hb⟩)
theorem C0(f g2:Fm)(hf:cJ f)(x:Nat)(y:Nat){d:Nat}{ty:TypeId}{pos:String}{fw:Array Edge}{gu:Option (Nat×Bool)}{o:Oper}(hx:iP md ops a0 l kA kS M w0 k o x (gV L f))(hy:iP md ops a0 l kA kS M w0 k o y (gV L g2))(ho:ops[k]?=some o:=by rfl)(eo:o=⟨some d,.call ⟨.value (.func 17),#[.tmp x,.tmp y],Cs⟩,ty,pos,fw,gu⟩:=by rfl)(hw:Wt md ops a0 l kA kS M w0 k o:=by exact fun _ _ _ _=>rfl)(hp:e8 l k=(mZ (.bool (zT f g2))).p:=by rfl):dC md ops Q a0 l kA kS M w0 k:=
 by subst eo;have hp:e8 l k=fun v _ _=>v=.bool (zT f g2):=hp;exact fF hw ho rfl 17 (fun a γ w bq=>by
  obtain⟨vx,ex,fx⟩:=hx.is bq;obtain⟨vy,ey,fy⟩:=hy.is bq;obtain⟨qx,rfl,hx⟩:=fx;obtain⟨qy,rfl,hy⟩:=fy;refine⟨#[qx.val,qy.val],by go_simp,(Mn f g2 _ _ w qx qy hf hx hy).mono ?_⟩;rintro e w' ⟨rfl,hb⟩;exact⟨⟨_,rfl,by rw[hp]⟩,hb⟩)
theorem VH(f g2:List Tm)(hf:jE f)(x:Nat)(y:Nat){d:Nat}{ty:TypeId}{pos:String}{fw:Array Edge}{gu:Option (Nat×Bool)}{o:Oper}(hx:iP md ops a0 l kA kS M w0 k o x (oW L f))(hy:iP md ops a0 l kA kS M w0 k o y (oW L g2))(ho:ops[k]?=some o:=by rfl)(eo:o=⟨some d,.call ⟨.value (.func 19),#[.tmp x,.tmp y],Cs⟩,ty,pos,fw,gu⟩:=by rfl)(hw:Wt md ops a0 l kA kS M w0 k o:=by exact fun _ _ _ _=>rfl)(hp:e8 l k=(mZ (.bool (kx f g2))).p:=by rfl):dC md ops Q a0 l kA kS M w0 k:=
 by subst eo;have hp:e8 l k=fun v _ _=>v=.bool (kx f g2):=hp;exact fF hw ho rfl 19 (fun a γ w bq=>by
  obtain⟨vx,ex,fx⟩:=hx.is bq;obtain⟨vy,ey,fy⟩:=hy.is bq;obtain⟨ax,cx,rfl,hx⟩:=fx;obtain⟨ay,cy,rfl,hy⟩:=fy;refine⟨#[.slice ax f.length cx,.slice ay g2.length cy],by go_simp,(qi f g2 _ _ w ax _ cx ay _ cy hf hx hy).mono ?_⟩;rintro e w' ⟨rfl,hb⟩;exact⟨⟨_,rfl,by rw[hp]⟩,hb⟩)
theorem JN(s f:Fm)(b:Bd)(er:Int)(hR:AU s b=(f,er))(hs:cJ s)(hb:j9 b)(x:Nat)(z:Nat){d:Nat}{ty:TypeId}{pos:String}{fw:Array Edge}{gu:Option (Nat×Bool)}(hT:gG Wb w0)(hM:∀b,M b->Wb.heap.size<=b)(hL:∀b,w0.heap.size<=b->L b){o:Oper}(hx:iP md ops a0 l kA kS M w0 k o x (gV L s))(hz:iP md ops a0 l kA kS M w0 k o z (l_ L b))(ho:ops[k]?=some o:=by rfl)(eo:o=⟨some d,.call ⟨.value (.func 32),#[.tmp x,.tmp z],Cs⟩,ty,pos,fw,gu⟩:=by rfl)(hw:Wt md ops a0 l kA kS M w0 k o:=by exact fun _ _ _ _=>rfl)(hp:e8 l k=(Mp (fY L f) [.int .i64 er]).p:=by rfl):dC md ops Q a0 l kA kS M w0 k:=
 by subst eo;exact fF hw ho rfl 32 (fun a γ w bq=>by
  obtain⟨vx,ex,fx⟩:=hx.is bq;obtain⟨vz,ez,fz⟩:=hz.is bq;obtain⟨qx,rfl,hx⟩:=fx;obtain⟨qz,rfl,hz⟩:=fz;refine⟨#[qx.val,qz.val],by go_simp,(Vw Wb s b hs hb (nu L γ w) w qx qz (hT.kp bq.inv.1 hM) hx hz).mono ?_⟩;rw[hR];rintro e w' ⟨⟨u,rfl,hu⟩,hb⟩;exact⟨⟨_,rfl,by rw[hp];exact⟨_,rfl,u,rfl,hu.move (nu.new bq.inv (fun b hb=>hL b (aR bq.inv.1.size hb)))⟩⟩,hb⟩)
theorem VI(b:Bd)(hb:j9 b)(x:Nat){d:Nat}{ty:TypeId}{pos:String}{fw:Array Edge}{gu:Option (Nat×Bool)}(hT:gG Wb w0)(hM:∀b,M b->Wb.heap.size<=b){o:Oper}(hx:iP md ops a0 l kA kS M w0 k o x (l_ L b))(ho:ops[k]?=some o:=by rfl)(eo:o=⟨some d,.call ⟨.value (.func 27),#[.tmp x],Cs⟩,ty,pos,fw,gu⟩:=by rfl)(hw:Wt md ops a0 l kA kS M w0 k o:=by exact fun _ _ _ _=>rfl)(hp:e8 l k=(mZ (.bool (bF b))).p:=by rfl):dC md ops Q a0 l kA kS M w0 k:=
 by subst eo;have hp:e8 l k=fun v _ _=>v=.bool (bF b):=hp;exact fF hw ho rfl 27 (fun a γ w bq=>by
  obtain⟨vx,ex,fx⟩:=hx.is bq;obtain⟨qx,rfl,hx⟩:=fx;refine⟨#[qx.val],by go_simp,(Az Wb b hb (nu L γ w) w (hT.kp bq.inv.1 hM) qx hx).mono ?_⟩;rintro e w' ⟨rfl,hb⟩;exact⟨⟨_,rfl,by rw[hp]⟩,hb⟩)
end
section
variable{ops:Array Oper}{Q:Exit->Act->World->Prop}{a0:Act}{l:List gL}{kA kS k:Nat}{M:Nat->Prop}{w0:World}{md:Region.Mode}{L:Nat->Prop}
theorem uw{o:Oper}{d:Nat}(hw:Wt md ops a0 l kA kS M w0 k o)(ho:ops[k]?=some o)(hd:o.dst=some d)
  (h:∀a γ w,DIn md ops a0 l kA kS M w0 k o a γ w->∃v cs T,(execOp a.eval o).run prog w=.ok (.value v) (w.alloc (.cells cs T))/\e8 l k v γ (w.alloc (.cells cs T))):dC md ops Q a0 l kA kS M w0 k:=
 d_ ho hd (fun _=>trivial) rfl (fun a γ w bq=>by
  obtain⟨v,cs,T,h1,h2⟩:=h a γ w bq;exact⟨hw a γ w bq,v,γ,_,h1,Gr.keep dp,fun _ _ h=>h,h2⟩)
theorem ml{γ:Bx}{w:World}(o:Obj):Gr γ w γ (w.alloc o):=Gr.keep dp
theorem OK{X:World}{c:Nat}{T:TypeId}(h:aC ok X p.val f)(hB:ok B)(hx:X.heap[B]?=some (.cells #[.int .u8 p.o,.string p.n,.slice p.a p.l p.c,.slice p.b p.m p.e] T (0,0))):eL ok X (.slice (some ⟨B,0,none⟩) 1 c) [f]:=
 ⟨_,c,fun _=>p.val,rfl,.inr ⟨B,0,rfl,hB,fun j hj=>by
  obtain rfl:j=0:=by simpa using hj
  exact⟨_,_,_,_,rfl,ao hx 0,ao hx 1,ao hx 2,ao hx 3⟩⟩,fun j hj=>by
  obtain rfl:j=0:=by simpa using hj
  exact h⟩
variable(hL:∀b,w0.heap.size<=b->L b)
include hL
theorem kV(f:Fm)(x:Nat){d:Nat}{ty:TypeId}{pos:String}{fw:Array Edge}{gu:Option (Nat×Bool)}{o:Oper}(hx:iP md ops a0 l kA kS M w0 k o x (gV L f))(ho:ops[k]?=some o:=by rfl)(eo:o=⟨some d,.buildSlice 34 1 #[(0,.tmp x)],ty,pos,fw,gu⟩:=by rfl)(hw:Wt md ops a0 l kA kS M w0 k o:=by exact fun _ _ _ _=>rfl)(hp:e8 l k=(VA L [f]).p:=by rfl):dC md ops Q a0 l kA kS M w0 k:=
 by subst eo;have hp:e8 l k=tQ L [f]:=hp;exact uw hw ho rfl (fun a γ w bq=>by
  obtain⟨vx,ex,q,rfl,hq⟩:=hx a γ w bq;refine⟨.slice (some ⟨w.heap.size,0,none⟩) 1 1,#[.int .u8 q.o,.string q.n,.slice q.a q.l q.c,.slice q.b q.m q.e],36,by simp only[FQ.val]at ex;go_simp,?_⟩;rw[hp];exact⟨_,_,rfl,OK (hq.move (ml _).holds) (nu.here hL bq.inv _) (aq rfl)⟩)
theorem ux(f f2:Fm)(x y:Nat){d:Nat}{ty:TypeId}{pos:String}{fw:Array Edge}{gu:Option (Nat×Bool)}{o:Oper}(hx:iP md ops a0 l kA kS M w0 k o x (gV L f))(hy:iP md ops a0 l kA kS M w0 k o y (gV L f2))(ho:ops[k]?=some o:=by rfl)(eo:o=⟨some d,.buildSlice 34 2 #[(0,.tmp x),(1,.tmp y)],ty,pos,fw,gu⟩:=by rfl)(hw:Wt md ops a0 l kA kS M w0 k o:=by exact fun _ _ _ _=>rfl)(hp:e8 l k=(VA L [f,f2]).p:=by rfl):dC md ops Q a0 l kA kS M w0 k:=
 by subst eo;have hp:e8 l k=tQ L [f,f2]:=hp;exact uw hw ho rfl (fun a γ w bq=>by
  obtain⟨vx,ex,q,rfl,hq⟩:=hx a γ w bq;obtain⟨vy,ey,r,rfl,hr⟩:=hy a γ w bq;refine⟨.slice (some ⟨w.heap.size,0,none⟩) 2 2,#[.int .u8 q.o,.string q.n,.slice q.a q.l q.c,.slice q.b q.m q.e,.int .u8 r.o,.string r.n,.slice r.a r.l r.c,.slice r.b r.m r.e],36,by simp only[FQ.val]at ex ey;go_simp,?_⟩;rw[hp];exact⟨_,_,rfl,Ig q r _ (aq rfl) (nu.here hL bq.inv _) (hq.move (ml _).holds) (hr.move (ml _).holds)⟩)
theorem nE(f:Tm)(x:Nat){d:Nat}{ty:TypeId}{pos:String}{fw:Array Edge}{gu:Option (Nat×Bool)}{o:Oper}(hx:iP md ops a0 l kA kS M w0 k o x (pN L f))(ho:ops[k]?=some o:=by rfl)(eo:o=⟨some d,.buildSlice 33 1 #[(0,.tmp x)],ty,pos,fw,gu⟩:=by rfl)(hw:Wt md ops a0 l kA kS M w0 k o:=by exact fun _ _ _ _=>rfl)(hp:e8 l k=(VB L [f]).p:=by rfl):dC md ops Q a0 l kA kS M w0 k:=
 by subst eo;have hp:e8 l k=oW L [f]:=hp;exact uw hw ho rfl (fun a γ w bq=>by
  obtain⟨vx,ex,q,rfl,hq⟩:=hx a γ w bq;refine⟨.slice (some ⟨w.heap.size,0,none⟩) 1 1,#[.bool q.v,.string q.n,.slice q.a q.l q.c],43,by simp only[TQ.val]at ex;go_simp,?_⟩;rw[hp];exact⟨_,_,rfl,cB.one 1 (hq.move (ml _).holds) (nu.here hL bq.inv _) (aq rfl)⟩)
theorem pi(f f2:Tm)(x y:Nat){d:Nat}{ty:TypeId}{pos:String}{fw:Array Edge}{gu:Option (Nat×Bool)}{o:Oper}(hx:iP md ops a0 l kA kS M w0 k o x (pN L f))(hy:iP md ops a0 l kA kS M w0 k o y (pN L f2))(ho:ops[k]?=some o:=by rfl)(eo:o=⟨some d,.buildSlice 33 2 #[(0,.tmp x),(1,.tmp y)],ty,pos,fw,gu⟩:=by rfl)(hw:Wt md ops a0 l kA kS M w0 k o:=by exact fun _ _ _ _=>rfl)(hp:e8 l k=(VB L [f,f2]).p:=by rfl):dC md ops Q a0 l kA kS M w0 k:=
 by subst eo;have hp:e8 l k=oW L [f,f2]:=hp;exact uw hw ho rfl (fun a γ w bq=>by
  obtain⟨vx,ex,q,rfl,hq⟩:=hx a γ w bq;obtain⟨vy,ey,r,rfl,hr⟩:=hy a γ w bq;refine⟨.slice (some ⟨w.heap.size,0,none⟩) 2 2,#[.bool q.v,.string q.n,.slice q.a q.l q.c,.bool r.v,.string r.n,.slice r.a r.l r.c],43,by simp only[TQ.val]at ex ey;go_simp,?_⟩;rw[hp];exact⟨_,_,rfl,If q r _ (aq rfl) (nu.here hL bq.inv _) (hq.move (ml _).holds) (hr.move (ml _).holds)⟩)
theorem E9(f f2 h1 h2:Fm)(x y:Nat){d:Nat}{ty:TypeId}{pos:String}{fw:Array Edge}{gu:Option (Nat×Bool)}{o:Oper}(hx:iP md ops a0 l kA kS M w0 k o x (Mo L f f2))(hy:iP md ops a0 l kA kS M w0 k o y (Mo L h1 h2))(ho:ops[k]?=some o:=by rfl)(eo:o=⟨some d,.buildSlice 22 2 #[(0,.tmp x),(1,.tmp y)],ty,pos,fw,gu⟩:=by rfl)(hw:Wt md ops a0 l kA kS M w0 k o:=by exact fun _ _ _ _=>rfl)(hp:e8 l k=(OI L [(f,f2),(h1,h2)]).p:=by rfl):dC md ops Q a0 l kA kS M w0 k:=
 by subst eo;have hp:e8 l k=xj L [(f,f2),(h1,h2)]:=hp;exact uw hw ho rfl (fun a γ w bq=>by
  obtain⟨vx,ex,q,r,rfl,hq,hr⟩:=hx a γ w bq;obtain⟨vy,ey,q2,r2,rfl,FI,TN⟩:=hy a γ w bq;refine⟨.slice (some ⟨w.heap.size,0,none⟩) 2 2,#[.int .u8 q.o,.string q.n,.slice q.a q.l q.c,.slice q.b q.m q.e,.int .u8 r.o,.string r.n,.slice r.a r.l r.c,.slice r.b r.m r.e,.int .u8 q2.o,.string q2.n,.slice q2.a q2.l q2.c,.slice q2.b q2.m q2.e,.int .u8 r2.o,.string r2.n,.slice r2.a r2.l r2.c,.slice r2.b r2.m r2.e],50,by go_simp,?_⟩;rw[hp];have hx:=aq (w:=w) (o:=.cells #[.int .u8 q.o,.string q.n,.slice q.a q.l q.c,.slice q.b q.m q.e,.int .u8 r.o,.string r.n,.slice r.a r.l r.c,.slice r.b r.m r.e,.int .u8 q2.o,.string q2.n,.slice q2.a q2.l q2.c,.slice q2.b q2.m q2.e,.int .u8 r2.o,.string r2.n,.slice r2.a r2.l r2.c,.slice r2.b r2.m r2.e] 50) rfl;have C:=fun i=>aT hx i;refine⟨_,_,rfl,some ⟨w.heap.size,0,none⟩,2,fun j=>if j=0 then q else q2,fun j=>if j=0 then r else r2,rfl,aK _,.inr ⟨w.heap.size,0,rfl,nu.here hL bq.inv _,fun j hj=>?_⟩,fun j hj=>?_⟩
  ·rcases j with _|_|j
   ·exact⟨(C 0).trans rfl,(C 1).trans rfl,(C 2).trans rfl,(C 3).trans rfl,(C 4).trans rfl,(C 5).trans rfl,(C 6).trans rfl,(C 7).trans rfl⟩
   ·exact⟨(C 8).trans rfl,(C 9).trans rfl,(C 10).trans rfl,(C 11).trans rfl,(C 12).trans rfl,(C 13).trans rfl,(C 14).trans rfl,(C 15).trans rfl⟩
   ·simp at hj;omega
  ·rcases j with _|_|j
   ·exact⟨hq.move (ml _).holds,hr.move (ml _).holds⟩
   ·exact⟨FI.move (ml _).holds,TN.move (ml _).holds⟩
   ·simp at hj;omega)
end
section
variable{ops:Array Oper}{Q:Exit->Act->World->Prop}{a0:Act}{l:List gL}{kA kS k:Nat}{M:Nat->Prop}{w0:World}{md:Region.Mode}{L:Nat->Prop}
abbrev OL(b:Nat):Value:=.pointer (some ⟨b,0,none⟩)
theorem VJ(n:aj)(f:Fm)(x:Nat){d:Nat}{ty:TypeId}{pos:String}{fw:Array Edge}{gu:Option (Nat×Bool)}(hL:∀b,w0.heap.size<=b->L b){o:Oper}(hx:iP md ops a0 l kA kS M w0 k o x (FBG L n f))(ho:ops[k]?=some o:=by rfl)(eo:o=⟨some d,.buildSlice 23 1 #[(0,.tmp x)],ty,pos,fw,gu⟩:=by rfl)(hw:Wt md ops a0 l kA kS M w0 k o:=by exact fun _ _ _ _=>rfl)(hp:e8 l k=(zfW L [(n,f)]).p:=by rfl):dC md ops Q a0 l kA kS M w0 k:=
 by subst eo;have hp:e8 l k=zbf L [(n,f)]:=hp;exact uw hw ho rfl (fun a γ w bq=>by
  obtain⟨vx,ex,q,rfl,hq⟩:=hx a γ w bq;refine⟨.slice (some ⟨w.heap.size,0,none⟩) 1 1,#[.string ⟨n.toArray⟩,.int .u8 q.o,.string q.n,.slice q.a q.l q.c,.slice q.b q.m q.e],40,by go_simp,?_⟩;rw[hp];have hx:=aq (w:=w) (o:=.cells #[.string ⟨n.toArray⟩,.int .u8 q.o,.string q.n,.slice q.a q.l q.c,.slice q.b q.m q.e] 40) rfl;have C:=fun i=>aT hx i;refine⟨_,_,rfl,some ⟨w.heap.size,0,none⟩,1,fun _=>q,rfl,aK _,.inr ⟨w.heap.size,0,rfl,nu.here hL bq.inv _,fun j hj=>?_⟩,fun j hj=>?_⟩
  ·obtain rfl:j=0:=by simpa using hj
   exact⟨(C 0).trans rfl,(C 1).trans rfl,(C 2).trans rfl,(C 3).trans rfl,(C 4).trans rfl⟩
  ·obtain rfl:j=0:=by simpa using hj
   exact hq.move (ml _).holds)
theorem VK(n:aj)(f:Tm)(x:Nat){d:Nat}{ty:TypeId}{pos:String}{fw:Array Edge}{gu:Option (Nat×Bool)}(hL:∀b,w0.heap.size<=b->L b){o:Oper}(hx:iP md ops a0 l kA kS M w0 k o x (TBG L n f))(ho:ops[k]?=some o:=by rfl)(eo:o=⟨some d,.buildSlice 24 1 #[(0,.tmp x)],ty,pos,fw,gu⟩:=by rfl)(hw:Wt md ops a0 l kA kS M w0 k o:=by exact fun _ _ _ _=>rfl)(hp:e8 l k=(zfX L [(n,f)]).p:=by rfl):dC md ops Q a0 l kA kS M w0 k:=
 by subst eo;have hp:e8 l k=zbg L [(n,f)]:=hp;exact uw hw ho rfl (fun a γ w bq=>by
  obtain⟨vx,ex,q,rfl,hq⟩:=hx a γ w bq;refine⟨.slice (some ⟨w.heap.size,0,none⟩) 1 1,#[.string ⟨n.toArray⟩,.bool q.v,.string q.n,.slice q.a q.l q.c],47,by go_simp,?_⟩;rw[hp];have hx:=aq (w:=w) (o:=.cells #[.string ⟨n.toArray⟩,.bool q.v,.string q.n,.slice q.a q.l q.c] 47) rfl;have C:=fun i=>aT hx i;refine⟨_,_,rfl,some ⟨w.heap.size,0,none⟩,1,fun _=>q,rfl,aK _,.inr ⟨w.heap.size,0,rfl,nu.here hL bq.inv _,fun j hj=>?_⟩,fun j hj=>?_⟩
  ·obtain rfl:j=0:=by simpa using hj
   exact⟨(C 0).trans rfl,(C 1).trans rfl,(C 2).trans rfl,(C 3).trans rfl⟩
  ·obtain rfl:j=0:=by simpa using hj
   exact hq.move (ml _).holds)
theorem sj(f f2:Fm)(x:Nat)(y:Nat){d:Nat}{ty:TypeId}{pos:String}{fw:Array Edge}{gu:Option (Nat×Bool)}{o:Oper}(hx:iP md ops a0 l kA kS M w0 k o x (gV L f))(hy:iP md ops a0 l kA kS M w0 k o y (gV L f2))(ho:ops[k]?=some o:=by rfl)(eo:o=⟨some d,.build 50 #[(0,.tmp x),(1,.tmp y)],ty,pos,fw,gu⟩:=by rfl)(hw:Wt md ops a0 l kA kS M w0 k o:=by exact fun _ _ _ _=>rfl)(hp:e8 l k=(zdt L f f2).p:=by rfl):dC md ops Q a0 l kA kS M w0 k:=
 by subst eo;have hp:e8 l k=Mo L f f2:=hp;exact fM hw ho rfl (fun a γ w bq=>by
  obtain⟨vx,ex,q,rfl,hq⟩:=hx a γ w bq;obtain⟨vy,ey,r,rfl,hr⟩:=hy a γ w bq;exact⟨.agg #[.int .u8 q.o,.string q.n,.slice q.a q.l q.c,.slice q.b q.m q.e,.int .u8 r.o,.string r.n,.slice r.a r.l r.c,.slice r.b r.m r.e],by simp only[FQ.val]at ex ey;go_simp,by rw[hp];exact⟨q,r,rfl,hq,hr⟩⟩)
theorem zdy(n:aj)(f:Fm)(x:Nat){d:Nat}{ty:TypeId}{pos:String}{fw:Array Edge}{gu:Option (Nat×Bool)}{o:Oper}(hx:iP md ops a0 l kA kS M w0 k o x (gV L f))(ho:ops[k]?=some o:=by rfl)(eo:o=⟨some d,.build 40 #[(0,.const (.string ⟨n.toArray⟩)),(1,.tmp x)],ty,pos,fw,gu⟩:=by rfl)(hw:Wt md ops a0 l kA kS M w0 k o:=by exact fun _ _ _ _=>rfl)(hp:e8 l k=(fFB L n f).p:=by rfl):dC md ops Q a0 l kA kS M w0 k:=
 by subst eo;have hp:e8 l k=FBG L n f:=hp;exact fM hw ho rfl (fun a γ w bq=>by
  obtain⟨vx,ex,q,rfl,hq⟩:=hx a γ w bq;exact⟨.agg #[.string ⟨n.toArray⟩,.int .u8 q.o,.string q.n,.slice q.a q.l q.c,.slice q.b q.m q.e],by simp only[FQ.val]at ex;go_simp,by rw[hp];exact⟨q,rfl,hq⟩⟩)
theorem zdz(n:aj)(f:Tm)(x:Nat){d:Nat}{ty:TypeId}{pos:String}{fw:Array Edge}{gu:Option (Nat×Bool)}{o:Oper}(hx:iP md ops a0 l kA kS M w0 k o x (pN L f))(ho:ops[k]?=some o:=by rfl)(eo:o=⟨some d,.build 47 #[(0,.const (.string ⟨n.toArray⟩)),(1,.tmp x)],ty,pos,fw,gu⟩:=by rfl)(hw:Wt md ops a0 l kA kS M w0 k o:=by exact fun _ _ _ _=>rfl)(hp:e8 l k=(fTB L n f).p:=by rfl):dC md ops Q a0 l kA kS M w0 k:=
 by subst eo;have hp:e8 l k=TBG L n f:=hp;exact fM hw ho rfl (fun a γ w bq=>by
  obtain⟨vx,ex,q,rfl,hq⟩:=hx a γ w bq;exact⟨.agg #[.string ⟨n.toArray⟩,.bool q.v,.string q.n,.slice q.a q.l q.c],by simp only[TQ.val]at ex;go_simp,by rw[hp];exact⟨q,rfl,hq⟩⟩)
theorem YZ(fs:List (aj×Fm))(ts:List (aj×Tm))(x:Nat)(y:Nat){d:Nat}{ty:TypeId}{pos:String}{fw:Array Edge}{gu:Option (Nat×Bool)}{o:Oper}(hx:iP md ops a0 l kA kS M w0 k o x (zbf L fs))(hy:iP md ops a0 l kA kS M w0 k o y (zbg L ts))(ho:ops[k]?=some o:=by rfl)(eo:o=⟨some d,.build 26 #[(0,.tmp x),(1,.tmp y)],ty,pos,fw,gu⟩:=by rfl)(hw:Wt md ops a0 l kA kS M w0 k o:=by exact fun _ _ _ _=>rfl)(hp:e8 l k=(jH L ⟨fs,ts⟩).p:=by rfl):dC md ops Q a0 l kA kS M w0 k:=
 by subst eo;have hp:e8 l k=l_ L ⟨fs,ts⟩:=hp;exact fM hw ho rfl (fun a γ w bq=>by
  obtain⟨vx,ex,ax,cx,rfl,hx⟩:=hx a γ w bq;obtain⟨vy,ey,ay,cy,rfl,hy⟩:=hy a γ w bq;exact⟨BQ.val ⟨ax,fs.length,cx,ay,ts.length,cy⟩,by simp only[BQ.val];go_simp,by rw[hp];exact⟨⟨ax,fs.length,cx,ay,ts.length,cy⟩,rfl,hx,hy⟩⟩)
theorem Y0{d:Nat}{ty:TypeId}{pos:String}{fw:Array Edge}{gu:Option (Nat×Bool)}{o:Oper}(ho:ops[k]?=some o:=by rfl)(eo:o=⟨some d,.build 26 #[],ty,pos,fw,gu⟩:=by rfl)(hw:Wt md ops a0 l kA kS M w0 k o:=by exact fun _ _ _ _=>rfl)(hp:e8 l k=(jH L ⟨[],[]⟩).p:=by rfl):dC md ops Q a0 l kA kS M w0 k:=
 by subst eo;have hp:e8 l k=l_ L ⟨[],[]⟩:=hp;exact fM hw ho rfl (fun a γ w bq=>⟨BQ.val ⟨none,0,0,none,0,0⟩,by simp only[BQ.val];go_simp,by rw[hp];exact⟨⟨none,0,0,none,0,0⟩,rfl,qW⟩⟩)
theorem zp(q:FQ)(f:Fm)(x:Nat){d:Nat}{ty:TypeId}{pos:String}{fw:Array Edge}{gu:Option (Nat×Bool)}{b:Nat}(hb:w0.heap[b]?=some (.cells #[.int .u8 q.o,.string q.n,.slice q.a q.l q.c,.slice q.b q.m q.e] 36 (0,0)))(hM:¬M b)(hv:aC (_H L M w0) w0 q.val f){o:Oper}(hx:iP md ops a0 l kA kS M w0 k o x (fun v _ _=>v=OL b))(ho:ops[k]?=some o:=by rfl)(eo:o=⟨some d,.load 36 (.tmp x),ty,pos,fw,gu⟩:=by rfl)(hw:Wt md ops a0 l kA kS M w0 k o:=by exact fun _ _ _ _=>rfl)(hp:e8 l k=(fY L f).p:=by rfl):dC md ops Q a0 l kA kS M w0 k:=
 by subst eo;have hp:e8 l k=gV L f:=hp;exact fM hw ho rfl (fun a γ w bq=>by
  obtain⟨vx,ex,rfl⟩:=hx a γ w bq;have hk:=bq.inv.1;have C:=fun i v (h:w0.cell? ⟨b,i,none⟩=some v)=>hk.cell (a:=⟨b,i,none⟩) hM h;have c0:=C 0 _ (ao hb 0);have c1:=C 1 _ (ao hb 1);have c2:=C 2 _ (ao hb 2);have c3:=C 3 _ (ao hb 3);exact⟨FQ.val q,by simp only[FQ.val];go_simp,by rw[hp];exact⟨q,rfl,hv.move (nu.old bq.inv)⟩⟩)
theorem VL(q:TQ)(f:Tm)(x:Nat){d:Nat}{ty:TypeId}{pos:String}{fw:Array Edge}{gu:Option (Nat×Bool)}{b:Nat}(hb:w0.heap[b]?=some (.cells #[.bool q.v,.string q.n,.slice q.a q.l q.c] 43 (0,0)))(hM:¬M b)(hv:aN (_H L M w0) w0 q.val f){o:Oper}(hx:iP md ops a0 l kA kS M w0 k o x (fun v _ _=>v=OL b))(ho:ops[k]?=some o:=by rfl)(eo:o=⟨some d,.load 43 (.tmp x),ty,pos,fw,gu⟩:=by rfl)(hw:Wt md ops a0 l kA kS M w0 k o:=by exact fun _ _ _ _=>rfl)(hp:e8 l k=(ix L f).p:=by rfl):dC md ops Q a0 l kA kS M w0 k:=
 by subst eo;have hp:e8 l k=pN L f:=hp;exact fM hw ho rfl (fun a γ w bq=>by
  obtain⟨vx,ex,rfl⟩:=hx a γ w bq;have hk:=bq.inv.1;have C:=fun i v (h:w0.cell? ⟨b,i,none⟩=some v)=>hk.cell (a:=⟨b,i,none⟩) hM h;have c0:=C 0 _ (ao hb 0);have c1:=C 1 _ (ao hb 1);have c2:=C 2 _ (ao hb 2);exact⟨TQ.val q,by simp only[TQ.val];go_simp,by rw[hp];exact⟨q,rfl,hv.move (nu.old bq.inv)⟩⟩)
theorem E'(q:BQ)(f:Bd)(x:Nat){d:Nat}{ty:TypeId}{pos:String}{fw:Array Edge}{gu:Option (Nat×Bool)}{b:Nat}(hb:w0.heap[b]?=some (.cells #[.slice q.a q.l q.c,.slice q.b q.m q.e] 26 (0,0)))(hM:¬M b)(hv:fH (_H L M w0) w0 q f){o:Oper}(hx:iP md ops a0 l kA kS M w0 k o x (fun v _ _=>v=OL b))(ho:ops[k]?=some o:=by rfl)(eo:o=⟨some d,.load 26 (.tmp x),ty,pos,fw,gu⟩:=by rfl)(hw:Wt md ops a0 l kA kS M w0 k o:=by exact fun _ _ _ _=>rfl)(hp:e8 l k=(jH L f).p:=by rfl):dC md ops Q a0 l kA kS M w0 k:=
 by subst eo;have hp:e8 l k=l_ L f:=hp;exact fM hw ho rfl (fun a γ w bq=>by
  obtain⟨vx,ex,rfl⟩:=hx a γ w bq;have hk:=bq.inv.1;have C:=fun i v (h:w0.cell? ⟨b,i,none⟩=some v)=>hk.cell (a:=⟨b,i,none⟩) hM h;have c0:=C 0 _ (ao hb 0);have c1:=C 1 _ (ao hb 1);exact⟨BQ.val q,by simp only[BQ.val];go_simp,by rw[hp];exact⟨q,rfl,hv.move (nu.old bq.inv)⟩⟩)
theorem cz(F:gL)(x:Nat){d:Nat}{ty:TypeId}{pos:String}{fw:Array Edge}{gu:Option (Nat×Bool)}{o:Oper}(hx:iP md ops a0 l kA kS M w0 k o x (F.p))(ho:ops[k]?=some o:=by rfl)(eo:o=⟨some d,.move (.tmp x),ty,pos,fw,gu⟩:=by rfl)(hw:Wt md ops a0 l kA kS M w0 k o:=by exact fun _ _ _ _=>rfl)(hp:e8 l k=F.p:=by rfl):dC md ops Q a0 l kA kS M w0 k:=
 by subst eo;exact fM hw ho rfl (fun a γ w bq=>by
  obtain⟨vx,ex,hf⟩:=hx a γ w bq;exact⟨vx,by go_simp,by rw[hp];exact hf⟩)
theorem fA(F:gL)(x:Nat){d:Nat}{ty:TypeId}{pos:String}{fw:Array Edge}{gu:Option (Nat×Bool)}{o:Oper}(hx:iP md ops a0 l kA kS M w0 k o x (F.p))(ho:ops[k]?=some o:=by rfl)(eo:o=⟨some d,.assign (.tmp x),ty,pos,fw,gu⟩:=by rfl)(hw:Wt md ops a0 l kA kS M w0 k o:=by exact fun _ _ _ _=>rfl)(hp:e8 l k=F.p:=by rfl):dC md ops Q a0 l kA kS M w0 k:=
 by subst eo;exact fM hw ho rfl (fun a γ w bq=>by
  obtain⟨vx,ex,hf⟩:=hx a γ w bq;exact⟨vx,by go_simp,by rw[hp];exact hf⟩)
theorem jI(F:gL)(r:List Value)(x:Nat){d:Nat}{ty:TypeId}{pos:String}{fw:Array Edge}{gu:Option (Nat×Bool)}{o:Oper}(hx:iP md ops a0 l kA kS M w0 k o x ((Mp F r).p))(ho:ops[k]?=some o:=by rfl)(eo:o=⟨some d,.extract (.tmp x) 0,ty,pos,fw,gu⟩:=by rfl)(hw:Wt md ops a0 l kA kS M w0 k o:=by exact fun _ _ _ _=>rfl)(hp:e8 l k=F.p:=by rfl):dC md ops Q a0 l kA kS M w0 k:=
 by subst eo;exact fM hw ho rfl (fun a γ w bq=>by
  obtain⟨vx,ex,u,rfl,hf⟩:=hx a γ w bq;exact⟨u,by go_simp,by rw[hp];exact hf⟩)
theorem jl(F:gL)(r:List Value)(i:Nat)(v:Value)(hv:r[i]?=some v)(x:Nat){d:Nat}{ty:TypeId}{pos:String}{fw:Array Edge}{gu:Option (Nat×Bool)}{o:Oper}(hx:iP md ops a0 l kA kS M w0 k o x ((Mp F r).p))(ho:ops[k]?=some o:=by rfl)(eo:o=⟨some d,.extract (.tmp x) (i+1),ty,pos,fw,gu⟩:=by rfl)(hw:Wt md ops a0 l kA kS M w0 k o:=by exact fun _ _ _ _=>rfl)(hp:e8 l k=(mZ v).p:=by rfl):dC md ops Q a0 l kA kS M w0 k:=
 by subst eo;have hp:e8 l k=fun u _ _=>u=v:=hp;exact fM hw ho rfl (fun a γ w bq=>by
  obtain⟨vx,ex,u,rfl,hf⟩:=hx a γ w bq;exact⟨v,by go_simp,by rw[hp]⟩)
theorem lD(hk:k=kA){d:Nat}{ty:TypeId}{pos:String}{fw:Array Edge}{gu:Option (Nat×Bool)}{o:Oper}(ho:ops[k]?=some o:=by rfl)(eo:o=⟨some d,.alloc 36,ty,pos,fw,gu⟩:=by rfl)(hw:Wt md ops a0 l kA kS M w0 k o:=by exact fun _ _ _ _=>rfl)(hp:e8 l k=(OJ #[.int .u8 0,.string ⟨#[]⟩,.slice none 0 0,.slice none 0 0] 36).p:=by rfl):dC md ops Q a0 l kA kS M w0 k:=
 by subst eo;exact d_ ho rfl (fun _=>trivial) rfl (fun a γ w bq=>⟨hw a γ w bq,OL w.heap.size,(some w.heap.size,false),w.alloc (.cells #[.int .u8 0,.string ⟨#[]⟩,.slice none 0 0,.slice none 0 0] 36),by go_simp,yC _ (bq.psi.1 hk),hk▸uK,by rw[hp];exact yD⟩)
theorem R2(hk:k=kA){d:Nat}{ty:TypeId}{pos:String}{fw:Array Edge}{gu:Option (Nat×Bool)}{o:Oper}(ho:ops[k]?=some o:=by rfl)(eo:o=⟨some d,.alloc 43,ty,pos,fw,gu⟩:=by rfl)(hw:Wt md ops a0 l kA kS M w0 k o:=by exact fun _ _ _ _=>rfl)(hp:e8 l k=(OJ #[.bool false,.string ⟨#[]⟩,.slice none 0 0] 43).p:=by rfl):dC md ops Q a0 l kA kS M w0 k:=
 by subst eo;exact d_ ho rfl (fun _=>trivial) rfl (fun a γ w bq=>⟨hw a γ w bq,OL w.heap.size,(some w.heap.size,false),w.alloc (.cells #[.bool false,.string ⟨#[]⟩,.slice none 0 0] 43),by go_simp,yC _ (bq.psi.1 hk),hk▸uK,by rw[hp];exact yD⟩)
theorem oK(hk:k=kA){d:Nat}{ty:TypeId}{pos:String}{fw:Array Edge}{gu:Option (Nat×Bool)}{o:Oper}(ho:ops[k]?=some o:=by rfl)(eo:o=⟨some d,.alloc 26,ty,pos,fw,gu⟩:=by rfl)(hw:Wt md ops a0 l kA kS M w0 k o:=by exact fun _ _ _ _=>rfl)(hp:e8 l k=(OJ #[.slice none 0 0,.slice none 0 0] 26).p:=by rfl):dC md ops Q a0 l kA kS M w0 k:=
 by subst eo;exact d_ ho rfl (fun _=>trivial) rfl (fun a γ w bq=>⟨hw a γ w bq,OL w.heap.size,(some w.heap.size,false),w.alloc (.cells #[.slice none 0 0,.slice none 0 0] 26),by go_simp,yC _ (bq.psi.1 hk),hk▸uK,by rw[hp];exact yD⟩)
theorem zdA{b:Nat}{a0 a1:Value}{T:TypeId}(h:W.heap[b]?=some (.cells #[a0,a1] T (0,0))):((W.setCell ⟨b,0,none⟩ v0).setCell ⟨b,1,none⟩ v1).heap[b]?=some (.cells #[v0,v1] T (0,0)):=by
 have h0:=bJ (F:=0) h v0;exact(bJ (F:=1) h0 v1).trans rfl
theorem Qs{b:Nat}:Kp (fun c=>c=b) W ((W.setCell ⟨b,0,none⟩ v0).setCell ⟨b,1,none⟩ v1):=
 ⟨rfl,rfl,rfl,by simp,fun c _ hc=>(e_ _ _ _ _ (by simpa using hc)).trans (e_ _ _ _ _ (by simpa using hc))⟩
theorem lE(f:Fm)(x:Nat)(y:Nat){ty:TypeId}{pos:String}{fw:Array Edge}{gu:Option (Nat×Bool)}(hk:k=kS){o:Oper}(hx:iP md ops a0 l kA kS M w0 k o x (DT #[.int .u8 0,.string ⟨#[]⟩,.slice none 0 0,.slice none 0 0] 36))(hy:iP md ops a0 l kA kS M w0 k o y (gV L f))(ho:ops[k]?=some o:=by rfl)(eo:o=⟨none,.store 36 (.tmp x) (.tmp y),ty,pos,fw,gu⟩:=by rfl)(hw:Wt md ops a0 l kA kS M w0 k o:=by exact fun _ _ _ _=>rfl)(hp:e8 l k=(E5 (fY L f) 36).p:=by rfl):dC md ops Q a0 l kA kS M w0 k:=
 by subst eo;exact ow ho (fun _=>trivial) rfl (fun a γ w bq=>by
  obtain⟨vx,ex,b,rfl,hb1,bU,aS⟩:=hx a γ w bq;obtain⟨Qn,RW⟩:=γ;obtain rfl:RW=false:=bq.psi.2 hk;obtain rfl:Qn=some b:=hb1;have x:=aS rfl;obtain⟨vy,ey,q,rfl,hq⟩:=hy a (some b,false) w bq;have c0:=ao x 0;have d0:=ai x 0;have c1:=ao x 1;have d1:=ai x 1;have c2:=ao x 2;have d2:=ai x 2;have c3:=ao x 3;have d3:=ai x 3;have k6:=ev (W:=w) (b:=b) (v0:=.int .u8 q.o) (v1:=.string q.n) (v2:=.slice q.a q.l q.c) (v3:=.slice q.b q.m q.e);have x6:=nJ (v0:=.int .u8 q.o) (v1:=.string q.n) (v2:=.slice q.a q.l q.c) (v3:=.slice q.b q.m q.e) x;refine⟨hw a (some b,false) w bq,(some b,true),_,by simp only[FQ.val]at ey;go_simp,kn k6,hk▸oX,?_⟩;rw[hp];exact⟨b,_,rfl,x6,⟨q,rfl,hq.move (kn k6).holds⟩⟩)
theorem R3(f:Tm)(x:Nat)(y:Nat){ty:TypeId}{pos:String}{fw:Array Edge}{gu:Option (Nat×Bool)}(hk:k=kS){o:Oper}(hx:iP md ops a0 l kA kS M w0 k o x (DT #[.bool false,.string ⟨#[]⟩,.slice none 0 0] 43))(hy:iP md ops a0 l kA kS M w0 k o y (pN L f))(ho:ops[k]?=some o:=by rfl)(eo:o=⟨none,.store 43 (.tmp x) (.tmp y),ty,pos,fw,gu⟩:=by rfl)(hw:Wt md ops a0 l kA kS M w0 k o:=by exact fun _ _ _ _=>rfl)(hp:e8 l k=(E5 (ix L f) 43).p:=by rfl):dC md ops Q a0 l kA kS M w0 k:=
 by subst eo;exact ow ho (fun _=>trivial) rfl (fun a γ w bq=>by
  obtain⟨vx,ex,b,rfl,hb1,bU,aS⟩:=hx a γ w bq;obtain⟨Qn,RW⟩:=γ;obtain rfl:RW=false:=bq.psi.2 hk;obtain rfl:Qn=some b:=hb1;have x:=aS rfl;obtain⟨vy,ey,q,rfl,hq⟩:=hy a (some b,false) w bq;have c0:=ao x 0;have d0:=ai x 0;have c1:=ao x 1;have d1:=ai x 1;have c2:=ao x 2;have d2:=ai x 2;have k6:=fW (W:=w) (b:=b) (v0:=.bool q.v) (v1:=.string q.n) (v2:=.slice q.a q.l q.c);have x6:=sN (v0:=.bool q.v) (v1:=.string q.n) (v2:=.slice q.a q.l q.c) x;refine⟨hw a (some b,false) w bq,(some b,true),_,by simp only[TQ.val]at ey;go_simp,kn k6,hk▸oX,?_⟩;rw[hp];exact⟨b,_,rfl,x6,⟨q,rfl,hq.move (kn k6).holds⟩⟩)
theorem oL(f:Bd)(x:Nat)(y:Nat){ty:TypeId}{pos:String}{fw:Array Edge}{gu:Option (Nat×Bool)}(hk:k=kS){o:Oper}(hx:iP md ops a0 l kA kS M w0 k o x (DT #[.slice none 0 0,.slice none 0 0] 26))(hy:iP md ops a0 l kA kS M w0 k o y (l_ L f))(ho:ops[k]?=some o:=by rfl)(eo:o=⟨none,.store 26 (.tmp x) (.tmp y),ty,pos,fw,gu⟩:=by rfl)(hw:Wt md ops a0 l kA kS M w0 k o:=by exact fun _ _ _ _=>rfl)(hp:e8 l k=(E5 (jH L f) 26).p:=by rfl):dC md ops Q a0 l kA kS M w0 k:=
 by subst eo;exact ow ho (fun _=>trivial) rfl (fun a γ w bq=>by
  obtain⟨vx,ex,b,rfl,hb1,bU,aS⟩:=hx a γ w bq;obtain⟨Qn,RW⟩:=γ;obtain rfl:RW=false:=bq.psi.2 hk;obtain rfl:Qn=some b:=hb1;have x:=aS rfl;obtain⟨vy,ey,q,rfl,hq⟩:=hy a (some b,false) w bq;have c0:=ao x 0;have d0:=ai x 0;have c1:=ao x 1;have d1:=ai x 1;have k6:=Qs (W:=w) (b:=b) (v0:=.slice q.a q.l q.c) (v1:=.slice q.b q.m q.e);have x6:=zdA (v0:=.slice q.a q.l q.c) (v1:=.slice q.b q.m q.e) x;refine⟨hw a (some b,false) w bq,(some b,true),_,by simp only[BQ.val]at ey;go_simp,kn k6,hk▸oX,?_⟩;rw[hp];exact⟨b,_,rfl,x6,⟨q,rfl,hq.move (kn k6).holds⟩⟩)
theorem OM(f:Fm)(x:Nat)(y:Nat){ty:TypeId}{pos:String}{fw:Array Edge}{gu:Option (Nat×Bool)}(hk:k=kS){b:Nat}{z2 z3:Value}(SH:w0.heap[b]?=some (.cells #[z0,z1,z2,z3] 36 (0,0)))(hMb:M b){o:Oper}(hx:iP md ops a0 l kA kS M w0 k o x (fun v _ _=>v=OL b))(hy:iP md ops a0 l kA kS M w0 k o y (gV L f))(ho:ops[k]?=some o:=by rfl)(eo:o=⟨none,.store 36 (.tmp x) (.tmp y),ty,pos,fw,gu⟩:=by rfl)(hw:Wt md ops a0 l kA kS M w0 k o:=by exact fun _ _ _ _=>rfl)(hp:e8 l k=(E5 (fY L f) 36).p:=by rfl):dC md ops Q a0 l kA kS M w0 k:=
 by subst eo;exact ow ho (fun _=>trivial) rfl (fun a γ w bq=>by
  obtain⟨vx,ex,rfl⟩:=hx a γ w bq;obtain⟨Qn,RW⟩:=γ;obtain rfl:RW=false:=bq.psi.2 hk;obtain rfl:Qn=some b:=(bq.inv.2.2 b hMb).1;have x:=((bq.inv.2.2 b hMb).2 rfl).trans SH;obtain⟨vy,ey,q,rfl,hq⟩:=hy a (some b,false) w bq;have c0:=ao x 0;have d0:=ai x 0;have c1:=ao x 1;have d1:=ai x 1;have c2:=ao x 2;have d2:=ai x 2;have c3:=ao x 3;have d3:=ai x 3;have k6:=ev (W:=w) (b:=b) (v0:=.int .u8 q.o) (v1:=.string q.n) (v2:=.slice q.a q.l q.c) (v3:=.slice q.b q.m q.e);have x6:=nJ (v0:=.int .u8 q.o) (v1:=.string q.n) (v2:=.slice q.a q.l q.c) (v3:=.slice q.b q.m q.e) x;refine⟨hw a (some b,false) w bq,(some b,true),_,by simp only[FQ.val]at ey;go_simp,kn k6,hk▸oX,?_⟩;rw[hp];exact⟨b,_,rfl,x6,⟨q,rfl,hq.move (kn k6).holds⟩⟩)
theorem ON(f:Bd)(x:Nat)(y:Nat){ty:TypeId}{pos:String}{fw:Array Edge}{gu:Option (Nat×Bool)}(hk:k=kS){b:Nat}(SH:w0.heap[b]?=some (.cells #[z0,z1] 26 (0,0)))(hMb:M b){o:Oper}(hx:iP md ops a0 l kA kS M w0 k o x (fun v _ _=>v=OL b))(hy:iP md ops a0 l kA kS M w0 k o y (l_ L f))(ho:ops[k]?=some o:=by rfl)(eo:o=⟨none,.store 26 (.tmp x) (.tmp y),ty,pos,fw,gu⟩:=by rfl)(hw:Wt md ops a0 l kA kS M w0 k o:=by exact fun _ _ _ _=>rfl)(hp:e8 l k=(E5 (jH L f) 26).p:=by rfl):dC md ops Q a0 l kA kS M w0 k:=
 by subst eo;exact ow ho (fun _=>trivial) rfl (fun a γ w bq=>by
  obtain⟨vx,ex,rfl⟩:=hx a γ w bq;obtain⟨Qn,RW⟩:=γ;obtain rfl:RW=false:=bq.psi.2 hk;obtain rfl:Qn=some b:=(bq.inv.2.2 b hMb).1;have x:=((bq.inv.2.2 b hMb).2 rfl).trans SH;obtain⟨vy,ey,q,rfl,hq⟩:=hy a (some b,false) w bq;have c0:=ao x 0;have d0:=ai x 0;have c1:=ao x 1;have d1:=ai x 1;have k6:=Qs (W:=w) (b:=b) (v0:=.slice q.a q.l q.c) (v1:=.slice q.b q.m q.e);have x6:=zdA (v0:=.slice q.a q.l q.c) (v1:=.slice q.b q.m q.e) x;refine⟨hw a (some b,false) w bq,(some b,true),_,by simp only[BQ.val]at ey;go_simp,kn k6,hk▸oX,?_⟩;rw[hp];exact⟨b,_,rfl,x6,⟨q,rfl,hq.move (kn k6).holds⟩⟩)
theorem zbm{o:Oper}{d:Nat}(ho:ops[k]?=some o)(r:Value)(nj:∀(a:Act)(w:World),(execOp a.eval o).run prog w=.ok (.value r) w)(hd:o.dst=some d:=by rfl)(hw:Wt md ops a0 l kA kS M w0 k o:=by exact fun _ _ _ _=>rfl)(hp:e8 l k=(mZ r).p:=by rfl):dC md ops Q a0 l kA kS M w0 k:=
 fM hw ho hd (fun a _ w _=>⟨r,nj a w,by rw[hp];rfl⟩)
theorem zbn{o:Oper}{d:Nat}(ho:ops[k]?=some o)(x:Nat)(u r:Value)(hx:iP md ops a0 l kA kS M w0 k o x (fun v _ _=>v=u))(nj:∀(a:Act)(w:World),a.tmps[x]?=some u->a.tmps.getD x undef=u->(execOp a.eval o).run prog w=.ok (.value r) w)(hd:o.dst=some d:=by rfl)(hw:Wt md ops a0 l kA kS M w0 k o:=by exact fun _ _ _ _=>rfl)(hp:e8 l k=(mZ r).p:=by rfl):dC md ops Q a0 l kA kS M w0 k:=
 fM hw ho hd (fun a γ w bq=>by
  obtain⟨v,h1,rfl⟩:=hx a γ w bq;exact⟨r,nj a w h1 (bL h1),by rw[hp];rfl⟩)
theorem zbo{o:Oper}{d:Nat}(ho:ops[k]?=some o)(x y:Nat)(u u2 r:Value)(hx:iP md ops a0 l kA kS M w0 k o x (fun v _ _=>v=u))(hy:iP md ops a0 l kA kS M w0 k o y (fun v _ _=>v=u2))(nj:∀(a:Act)(w:World),a.tmps[x]?=some u->a.tmps.getD x undef=u->a.tmps[y]?=some u2->a.tmps.getD y undef=u2->(execOp a.eval o).run prog w=.ok (.value r) w)(hd:o.dst=some d:=by rfl)(hw:Wt md ops a0 l kA kS M w0 k o:=by exact fun _ _ _ _=>rfl)(hp:e8 l k=(mZ r).p:=by rfl):dC md ops Q a0 l kA kS M w0 k:=
 fM hw ho hd (fun a γ w bq=>by
  obtain⟨v,h1,rfl⟩:=hx a γ w bq;obtain⟨v2,h2,rfl⟩:=hy a γ w bq;exact⟨r,nj a w h1 (bL h1) h2 (bL h2),by rw[hp];rfl⟩)
theorem jJ{o:Oper}{d:Nat}(ho:ops[k]?=some o)(x:Nat)(r:Value)(hx:iP md ops a0 l kA kS M w0 k o x (fun v _ _=>v=u))(nj:∀(a:Act)(w:World),a.tmps[x]?=some u->a.tmps.getD x undef=u->(execOp a.eval o).run prog w=.ok (.value r) w:=by intro _ _ _ _;go_simp)(hd:o.dst=some d:=by rfl)(hw:Wt md ops a0 l kA kS M w0 k o:=by exact fun _ _ _ _=>rfl)(hp:e8 l k=(mZ r).p:=by rfl):dC md ops Q a0 l kA kS M w0 k:=
 zbn ho x u r hx nj hd hw hp
theorem lF{o:Oper}{d:Nat}(ho:ops[k]?=some o)(x y:Nat)(r:Value){u2:Value}(hx:iP md ops a0 l kA kS M w0 k o x (fun v _ _=>v=u))(hy:iP md ops a0 l kA kS M w0 k o y (fun v _ _=>v=u2))(nj:∀(a:Act)(w:World),a.tmps[x]?=some u->a.tmps.getD x undef=u->a.tmps[y]?=some u2->a.tmps.getD y undef=u2->(execOp a.eval o).run prog w=.ok (.value r) w:=by intro _ _ _ _ _ _;go_simp)(hd:o.dst=some d:=by rfl)(hw:Wt md ops a0 l kA kS M w0 k o:=by exact fun _ _ _ _=>rfl)(hp:e8 l k=(mZ r).p:=by rfl):dC md ops Q a0 l kA kS M w0 k:=
 zbo ho x y u u2 r hx hy nj hd hw hp
end
end
def mt(L:Nat->Prop)(w:World)(b:Nat):Prop:=L b/\b<w.heap.size
structure LF(L:Nat->Prop)(a:Act)(w:World)(d b:Nat)(q:FQ)(f:Fm):Prop where
 slot:a.tmps[d]?=some (OL b)
 box:w.heap[b]?=some (.cells #[.int .u8 q.o,.string q.n,.slice q.a q.l q.c,.slice q.b q.m q.e] 36 (0,0))
 val:aC (mt L w) w q.val f
structure LT(L:Nat->Prop)(a:Act)(w:World)(d b:Nat)(q:TQ)(f:Tm):Prop where
 slot:a.tmps[d]?=some (OL b)
 box:w.heap[b]?=some (.cells #[.bool q.v,.string q.n,.slice q.a q.l q.c] 43 (0,0))
 val:aN (mt L w) w q.val f
structure LB(L:Nat->Prop)(a:Act)(w:World)(d b:Nat)(q:BQ)(f:Bd):Prop where
 slot:a.tmps[d]?=some (OL b)
 box:w.heap[b]?=some (.cells #[.slice q.a q.l q.c,.slice q.b q.m q.e] 26 (0,0))
 val:fH (mt L w) w q f
variable{L L' M:Nat->Prop}{a a':Act}{w w':World}{d b:Nat}
theorem mt.next(hk:Kp M w w')(hM:∀c,L c->¬M c)(hL:∀c,L c->c<w.heap.size->L' c):iN (mt L w) (mt L' w') w w':=fun c h hlt=>⟨⟨hL c h.1 hlt,bP hlt hk.size⟩,hk.same c hlt (hM c h.1)⟩
theorem LF.next(h:LF L a w d b q f)(hs:a'.tmps[d]?=a.tmps[d]?)(hk:Kp M w w')(hb:¬M b)(hM:∀c,L c->¬M c)(hL:∀c,L c->c<w.heap.size->L' c):LF L' a' w' d b q f:=
 ⟨hs.trans h.slot,(hk.same _ (bQ h.box) hb).trans h.box,h.val.move (mt.next hk hM hL)⟩
theorem LT.next{q:TQ}{f:Tm}(h:LT L a w d b q f)(hs:a'.tmps[d]?=a.tmps[d]?)(hk:Kp M w w')(hb:¬M b)(hM:∀c,L c->¬M c)(hL:∀c,L c->c<w.heap.size->L' c):LT L' a' w' d b q f:=
 ⟨hs.trans h.slot,(hk.same _ (bQ h.box) hb).trans h.box,h.val.move (mt.next hk hM hL)⟩
theorem LB.next{q:BQ}{f:Bd}(h:LB L a w d b q f)(hs:a'.tmps[d]?=a.tmps[d]?)(hk:Kp M w w')(hb:¬M b)(hM:∀c,L c->¬M c)(hL:∀c,L c->c<w.heap.size->L' c):LB L' a' w' d b q f:=
 ⟨hs.trans h.slot,(hk.same _ (bQ h.box) hb).trans h.box,h.val.move (mt.next hk hM hL)⟩
theorem LF.nx(h:LF L a w d b q f)(hs:a'.tmps[d]?=a.tmps[d]?)(hk:Kp M w w')(hM:∀c,L c->¬M c)(hb:¬M b:=by exact fun h=>h):LF L a' w' d b q f:=h.next hs hk hb hM (fun _ h _=>h)
theorem LT.nx{q:TQ}{f:Tm}(h:LT L a w d b q f)(hs:a'.tmps[d]?=a.tmps[d]?)(hk:Kp M w w')(hM:∀c,L c->¬M c)(hb:¬M b:=by exact fun h=>h):LT L a' w' d b q f:=h.next hs hk hb hM (fun _ h _=>h)
theorem LB.nx{q:BQ}{f:Bd}(h:LB L a w d b q f)(hs:a'.tmps[d]?=a.tmps[d]?)(hk:Kp M w w')(hM:∀c,L c->¬M c)(hb:¬M b:=by exact fun h=>h):LB L a' w' d b q f:=h.next hs hk hb hM (fun _ h _=>h)
theorem mt.at(hM:∀c,L c->¬M c):iN (mt L w) (_H L M w) w w:=fun c h _=>⟨⟨h.1,h.2,hM c h.1⟩,rfl⟩
theorem LF.at(h:LF L a w d b q f)(hM:∀c,L c->¬M c):aC (_H L M w) w q.val f:=h.val.move (mt.at hM)
theorem LT.at{q:TQ}{f:Tm}(h:LT L a w d b q f)(hM:∀c,L c->¬M c):aN (_H L M w) w q.val f:=h.val.move (mt.at hM)
theorem LB.at{q:BQ}{f:Bd}(h:LB L a w d b q f)(hM:∀c,L c->¬M c):fH (_H L M w) w q f:=h.val.move (mt.at hM)
theorem LF.drew(h:LF L a w d b q f):LF L a w.drew d b q f:=⟨h.slot,h.box,h.val.move (show iN (mt L w) (mt L w.drew) w w.drew from fun _ h _=>⟨h,rfl⟩)⟩
theorem LT.drew{q:TQ}{f:Tm}(h:LT L a w d b q f):LT L a w.drew d b q f:=⟨h.slot,h.box,h.val.move (show iN (mt L w) (mt L w.drew) w w.drew from fun _ h _=>⟨h,rfl⟩)⟩
theorem LB.drew{q:BQ}{f:Bd}(h:LB L a w d b q f):LB L a w.drew d b q f:=⟨h.slot,h.box,h.val.move (show iN (mt L w) (mt L w.drew) w w.drew from fun _ h _=>⟨h,rfl⟩)⟩
section
variable{ops:Array Oper}{Q:Exit->Act->World->Prop}{a0:Act}{id sz:Nat}
abbrev cf:Nat->Prop:=fun _=>False
abbrev E_(b:Nat):Nat->Prop:=fun c=>c=b
theorem VM(w:World):IG cf w (none,false) w:=⟨Kp.refl _,(fun _ h=>by cases h),fun _ h=>h.elim⟩
theorem VN{w:World}{b:Nat}(h:b<w.heap.size):IG (E_ b) w (some b,false) w:=⟨Kp.refl _,(fun c e=>by cases e;exact⟨.inr rfl,h⟩),fun c hc=>by
 have:c=b:=hc;subst this;exact⟨rfl,fun _=>rfl⟩⟩
abbrev pj(ops:Array Oper)(a0:Act)(F:List gL)(kA kS:Nat)(M:Nat->Prop)(w0:World)(a:Act)(γ:Bx)(w:World):Prop:=iY (e8 F) (Z4 kA kS) (IG M w0) ops a0 (Array.replicate ops.size true) a γ w
theorem kW(F:List gL)(kA kS:Nat)(hsz:a0.tmps.size=sz)(hd:Km ops sz=true)(hm:(prog.follows .mixedOrders&&ops.toList.all nh)=true)(cV:∀k,k<ops.size->dC .any ops (NP Q) a0 F kA kS cf w.drew k)
  (hQ:∀a γ w',pj ops a0 F kA kS cf w.drew a γ w'->Q .normal a w'):(Code.region id ops true).wpIn Fence.wide 3 prog Q a0 w:=
 kZ _ _ _ Gr (none,false) hm hsz hd (VM _) (fun _ _=>⟨fun _=>rfl,fun _=>rfl⟩) (fun _ _ _ _ hG h=>h.step hG) (ur F) cV hQ
theorem dv(F:List gL)(kA kS:Nat)(hsz:a0.tmps.size=sz)(hd:Km ops sz=true)(cV:∀k,k<ops.size->dC .any ops Q a0 F kA kS cf w k)
  (hQ:∀a γ w',pj ops a0 F kA kS cf w a γ w'->Q .normal a w'):(Code.region id ops false).wpIn Fence.wide 3 prog Q a0 w:=
 qB _ _ _ Gr (none,false) hsz hd (VM _) (fun _ _=>⟨fun _=>rfl,fun _=>rfl⟩) (fun _ _ _ _ hG h=>h.step hG) (ur F) cV hQ
theorem JO{b:Nat}(hb:b<w.heap.size)(F:List gL)(kS:Nat)(hsz:a0.tmps.size=sz)(hd:Km ops sz=true)(hm:(prog.follows .mixedOrders&&ops.toList.all nh)=true)(cV:∀k,k<ops.size->dC .any ops (NP Q) a0 F ops.size kS (E_ b) w.drew k)
  (hQ:∀a γ w',pj ops a0 F ops.size kS (E_ b) w.drew a γ w'->Q .normal a w'):(Code.region id ops true).wpIn Fence.wide 3 prog Q a0 w:=
 kZ _ _ _ Gr (some b,false) hm hsz hd (VN hb) (fun _ hk=>⟨fun e=>absurd hk (by omega),fun _=>rfl⟩) (fun _ _ _ _ hG h=>h.step hG) (ur F) cV hQ
theorem JP{b:Nat}(hb:b<w.heap.size)(F:List gL)(kS:Nat)(hsz:a0.tmps.size=sz)(hd:Km ops sz=true)(cV:∀k,k<ops.size->dC .any ops Q a0 F ops.size kS (E_ b) w k)
  (hQ:∀a γ w',pj ops a0 F ops.size kS (E_ b) w a γ w'->Q .normal a w'):(Code.region id ops false).wpIn Fence.wide 3 prog Q a0 w:=
 qB _ _ _ Gr (some b,false) hsz hd (VN hb) (fun _ hk=>⟨fun e=>absurd hk (by omega),fun _=>rfl⟩) (fun _ _ _ _ hG h=>h.step hG) (ur F) cV hQ
theorem uy{γ:Bx}{z:Array Value}{T:TypeId}(hs:a.tmps[d]?=some v)(hv:(OJ z T).p v γ w)(hf:(E5 (fY L f) 36).p undef γ w)(hI:IG cf w' γ w):∃b q,LF (fun c=>L c/\c≠b) a w d b q f/\w'.heap.size<=b:=by
 have an:=();exact qcF
theorem zbp{γ:Bx}{f:Tm}{z:Array Value}{T:TypeId}(hs:a.tmps[d]?=some v)(hv:(OJ z T).p v γ w)(hf:(E5 (ix L f) 43).p undef γ w)(hI:IG cf w' γ w):∃b q,LT (fun c=>L c/\c≠b) a w d b q f/\w'.heap.size<=b:=by
 have it:=();exact qcF
theorem Fa{γ:Bx}{f:Bd}{z:Array Value}{T:TypeId}(hs:a.tmps[d]?=some v)(hv:(OJ z T).p v γ w)(hf:(E5 (jH L f) 26).p undef γ w)(hI:IG cf w' γ w):∃b q,LB (fun c=>L c/\c≠b) a w d b q f/\w'.heap.size<=b:=by
 exact qcF
theorem Y1{γ:Bx}{b:Nat}(hs:a.tmps[d]?=some (OL b))(hf:(E5 (fY L f) 36).p undef γ w)(hI:IG (E_ b) w' γ w):∃q,LF L a w d b q f:=by
 obtain⟨b',cs,rfl,h3,q,hq,h4⟩:=hf;cases(hI.2.2 b rfl).1;simp only[FQ.val,c_]at hq;exact qfr
theorem Y2{γ:Bx}{f:Bd}{b:Nat}(hs:a.tmps[d]?=some (OL b))(hf:(E5 (jH L f) 26).p undef γ w)(hI:IG (E_ b) w' γ w):∃q,LB L a w d b q f:=by
 obtain⟨b',cs,rfl,h3,q,hq,h4⟩:=hf;cases(hI.2.2 b rfl).1;simp only[BQ.val,c_]at hq;exact qfr
end
section
variable{ops:Array Oper}{a0:Act}{Fs:List gL}{kA kS:Nat}{M:Nat->Prop}{w0 wb:World}{γ:Bx}{x:Value}
theorem iY.n3(h:pj ops a0 Fs kA kS cf w0 a γ w)(hs:a0.tmps.size=n)(hd:a0.defers=[])(hB:Below wb.heap.size wb w0):a.tmps.size=n/\a.defers=[]/\Below wb.heap.size wb w:=
 ⟨h.sz.trans hs,h.df.trans hd,en hB h.inv.1 (fun _ h=>h.elim)⟩
theorem iY.gv(h:pj ops a0 Fs kA kS M w0 a γ w)(k d:Nat){o:Oper}(ho:ops[k]?=some o:=by rfl)(hd:o.dst=some d:=by rfl)(hp:e8 Fs k=(mZ x).p:=by rfl):a.tmps[d]?=some x:=by
 obtain⟨v,e,f⟩:=h.get k o d ho hd;rw[hp]at f;rw[e,show v=x from f]
theorem LF.nz(F:LF L a0 w0 d b q f)(h:pj ops a0 Fs kA kS cf w0 a γ w)(hf:qA ops d=true:=by kernel_rfl):LF L a w d b q f:=F.next (h.old d hf) h.inv.1 (fun h=>h) (fun _ _ h=>h) (fun _ h _=>h)
theorem LT.nz{q:TQ}{f:Tm}(F:LT L a0 w0 d b q f)(h:pj ops a0 Fs kA kS cf w0 a γ w)(hf:qA ops d=true:=by kernel_rfl):LT L a w d b q f:=F.next (h.old d hf) h.inv.1 (fun h=>h) (fun _ _ h=>h) (fun _ h _=>h)
theorem LB.nz{q:BQ}{f:Bd}(F:LB L a0 w0 d b q f)(h:pj ops a0 Fs kA kS cf w0 a γ w)(hf:qA ops d=true:=by kernel_rfl):LB L a w d b q f:=F.next (h.old d hf) h.inv.1 (fun h=>h) (fun _ _ h=>h) (fun _ h _=>h)
variable{o1 o2:Oper}{z:Array Value}{T:TypeId}
theorem iY.mkB{f:Bd}(h:pj ops a0 Fs kA kS cf w0 a γ w)(k1 k2 d:Nat)(h1:ops[k1]?=some o1:=by rfl)(d1:o1.dst=some d:=by rfl)(p1:e8 Fs k1=(OJ z T).p:=by rfl)(h2:ops[k2]?=some o2:=by rfl)(d2:o2.dst=none:=by rfl)(p2:e8 Fs k2=(E5 (jH L f) 26).p:=by rfl):∃b q,LB L a w d b q f:=by
 obtain⟨v,t,f0⟩:=h.get k1 _ d h1 d1;rw[p1]at f0;obtain⟨b,q,lz,_⟩:=Fa t f0 (by have e:=h.did k2 _ h2 d2;rw[p2]at e;exact e) h.inv;exact⟨b,q,lz.next rfl (Kp.refl (M:=cf) _) (fun h=>h) (fun _ _ h=>h) (fun _ h _=>h.1)⟩
end
theorem nk{k m:Nat}{P:Prop}(h:k+n<m)(e:m=n:=by rfl):P:=absurd h (by omega)
section
variable{ops:Array Oper}{Q:Exit->Act->World->Prop}{a0:Act}{l:List gL}{kA kS k:Nat}{M:Nat->Prop}{w0:World}{md:Region.Mode}{L:Nat->Prop}{d b x:Nat}{ty:TypeId}{pos:String}{fw:Array Edge}{gu:Option (Nat×Bool)}{o oj:Oper}
theorem LF.ld(F:LF L a0 w0 x b q f)(ho:ops[k]?=some o:=by rfl)(eo:o=⟨some d,.load 36 (.tmp x),ty,pos,fw,gu⟩:=by rfl)(hw:Wt md ops a0 l kA kS cf w0 k o:=by exact fun _ _ _ _=>rfl)(hp:e8 l k=(fY L f).p:=by rfl)(hf:qA ops x=true:=by kernel_rfl):dC md ops Q a0 l kA kS cf w0 k:=zp q f x F.box (fun h=>h) (F.at (fun _ _ h=>h)) (qj F.slot hf) ho eo hw hp
theorem LT.ld{q:TQ}{f:Tm}(F:LT L a0 w0 x b q f)(ho:ops[k]?=some o:=by rfl)(eo:o=⟨some d,.load 43 (.tmp x),ty,pos,fw,gu⟩:=by rfl)(hw:Wt md ops a0 l kA kS cf w0 k o:=by exact fun _ _ _ _=>rfl)(hp:e8 l k=(ix L f).p:=by rfl)(hf:qA ops x=true:=by kernel_rfl):dC md ops Q a0 l kA kS cf w0 k:=VL q f x F.box (fun h=>h) (F.at (fun _ _ h=>h)) (qj F.slot hf) ho eo hw hp
theorem LB.ld{q:BQ}{f:Bd}(F:LB L a0 w0 x b q f)(ho:ops[k]?=some o:=by rfl)(eo:o=⟨some d,.load 26 (.tmp x),ty,pos,fw,gu⟩:=by rfl)(hw:Wt md ops a0 l kA kS cf w0 k o:=by exact fun _ _ _ _=>rfl)(hp:e8 l k=(jH L f).p:=by rfl)(hf:qA ops x=true:=by kernel_rfl):dC md ops Q a0 l kA kS cf w0 k:=E' q f x F.box (fun h=>h) (F.at (fun _ _ h=>h)) (qj F.slot hf) ho eo hw hp
theorem wd{v:Bool}(j:Nat)(hg:o.guard=some (j,v):=by rfl)(hj:ops[j]?=some oj:=by rfl)(hd:oj.dst=some d:=by rfl)(hw:xQ md o j=true:=by kernel_rfl)(hp:e8 l j=fun u _ _=>u=.bool v:=by rfl):Wt md ops a0 l kA kS M w0 k o:=VC j (aZ j hj hd hw hp) hg hj hd
theorem Ih(r:Value)(ho:ops[k]?=some o:=by rfl)(hd:o.dst=some d:=by rfl)(hw:Wt md ops a0 l kA kS M w0 k o:=by exact fun _ _ _ _=>rfl)(hp:e8 l k=(mZ r).p:=by rfl)(nj:∀(a:Act)(w:World),(execOp a.eval o).run prog w=.ok (.value r) w:=by intro _ _;go_simp):dC md ops Q a0 l kA kS M w0 k:=zbm ho r nj hd hw hp
