/-
'fill' of package match.
-/
import Derived.Test.YtokemihbkeddoaaGreatDoorV15
namespace Go.Proofs.YtokemihbkeddoaaGreatDoor
open Go Go.RowKit Lib
set_option maxRecDepth 100000
set_option maxHeartbeats 64000000
variable {k:Bd} {c:List Str} {o:Int} {n:Str} {s:List Fm} {g:Fm}
section
attribute [local go_sem] Oper.semAt_some
def Hq (W0:World) (kd:Bd) (kb:Nat) (s:Fm):Prop:=∀ (c L:List Str) (ok:Nat->Prop) (w:World) (vL:Value) (q:FQ),Below W0.heap.size W0 w->StrsN w vL L->L.length+nodesF s<=1000000->(∀ y,L.contains y=c.contains y)->FormV ok w q.val s →
 Calls Tryz.prog 72 #[.pointer (some ⟨kb,0,none⟩),q.val,vL] w fun e w'=>(∃p:FQ,e=.returned p.val/\FormV (w.heap.size<=·) w' p.val (cH kd c s))/\Below w.heap.size w w'
theorem E8 {w V W6:World} {B:Nat} {p:FQ} {f:Fm} (hb:Below w.heap.size w V) (hB:w.heap.size<=B) (k6:Kp (fun b=>b=B) V W6) (hp:FormV (B<·) V p.val f):FormV (w.heap.size<=·) W6 p.val f/\Below w.heap.size w W6:=
 ⟨hp.move (fun b h hlt=>⟨by omega,k6.same b hlt (by omega)⟩),⟨k6.os.trans hb.os,k6.tape.trans hb.tape,k6.output.trans hb.output,aQ hb.size k6.size,fun b h=>(k6.same b (bN h hb.size) (by omega)).trans (hb.block b h)⟩⟩
theorem ND (W0:World) (nr:Nat->Prop) (kb mF mT nF nT:Nat) (kd:Bd) (dV:KnV nr goodF goodT W0 kb mF mT nF nT kd) (WB:World) (_:Tabs WB W0) (n:Str) (a:List Tm) (ss:List Fm) (hs:okF true (.mk 15 n a ss)=true) (_:nodesF (.mk 15 n a ss)<=400):Hq W0 kd kb (.mk 15 n a ss):=by
 have pp291:=();exact pm291
theorem Co (W0:World) (nr:Nat->Prop) (kb mF mT nF nT:Nat) (kd:Bd) (dV:KnV nr goodF goodT W0 kb mF mT nF nT kd) (WB:World) (fw:Tabs WB W0) (n:Str) (a:List Tm) (ss:List Fm) (hs:okF true (.mk 16 n a ss)=true) (_:nodesF (.mk 16 n a ss)<=400):Hq W0 kd kb (.mk 16 n a ss):=by
 exact pm291
theorem wJ (W:World) (n:Str) (rb:Nat) (hrc:W.heap[rb]?=some (.cells #[.string ⟨n.toArray⟩] 9 (0,0))) (la:Option Addr) (l0 lc:Nat) (L:List Str) (vD:l0=L.length) (cf:L.length<=1000000) (hL:StrsN W (.slice la l0 lc) L) (ty:TypeId) :
  ∃v' w',(Builtin.append_ #[66,66] ty #[.slice la l0 l0,.slice (some ⟨rb,0,none⟩) 1 1]).run Tryz.prog W=.ok v' w'/\StrsN w' v' (L ++ [n])/\Below W.heap.size W w'/\∀ b,v'.ownBlock=some b->W.heap.size<=b/\b<w'.heap.size:=by
 obtain ⟨i0,hi,yF,vX,yX⟩:=info_parts zx;obtain ⟨a',cap,hv,hc,r'⟩:=hL;obtain ⟨rfl,_,rfl⟩:la=a'/\l0=L.length/\lc=cap:=by injection hv with h1 h2 h3;exact ⟨h1,h2,h3⟩
 have hr:∃g cap w',(Builtin.append_ #[66,66] ty #[.slice la l0 l0,.slice (some ⟨rb,0,none⟩) 1 1]).run Tryz.prog W=.ok (.slice (some ⟨g,0,none⟩) (l0+1) cap) w'/\w'.ownsRow W.heap.size 9 1 (.slice (some ⟨g,0,none⟩) (l0+1) cap) (l0+1) (L.map encStr ++ [.string ⟨n.toArray⟩])/\W.grownBy w' none:=by
  rcases r' with ⟨h1,h2,h3⟩ | ⟨b,off,h1,h4⟩
  ·subst h1 h2;obtain rfl:l0=0:=vD;obtain ⟨g,cap,w',hr,h2,h3,_,_⟩:=run_append_lies (P:=Tryz.prog) W 66 ty W.heap.size 9 i0 (.string ByteArray.empty) 1 16 Tryz.underlying66 hi yF vX yX rfl (by decide) (.slice none 0 0) 0 [] (World.ownsRow_nil _ _ _ _) ⟨rb,0,none⟩ 1 1 [.string ⟨n.toArray⟩] rfl (dj (cs:=#[.string ⟨n.toArray⟩]) (t:=9) (fr:=(0,0)) hrc) (by simp[Value.oneCell']) (by decide) (by unfold maxLen;omega) (by omega) (aF _) _ rfl;exact ⟨g,cap,w',hr,h2,h3⟩
  ·subst h1;obtain ⟨v',w',hr,h2,h3⟩:=run_append_arg_grows (P:=Tryz.prog) W 66 ty 9 i0 (.string ByteArray.empty) 1 16 Tryz.underlying66 hi yF vX yX rfl (by decide) ⟨b,off,none⟩ l0 l0 (L.map encStr) (by rw[List.length_map,vD];omega) (fun j u hu=>by
    rw[List.getElem?_map]at hu
    by_cases hj:j<L.length
    ·rw[gy hj]at hu;rw[we];refine (h4 j hj).trans ?_;rw[<-hu];rfl
    ·rw[List.getElem?_eq_none (by omega)]at hu;cases hu) ⟨rb,0,none⟩ 1 1 [.string ⟨n.toArray⟩] rfl (dj (cs:=#[.string ⟨n.toArray⟩]) (t:=9) (fr:=(0,0)) hrc) (by omega) (by unfold maxLen;omega) (by omega)
   obtain ⟨g,cap,rfl,_,_⟩:=h2.form (by omega);exact ⟨g,cap,w',hr,h2,h3⟩
 obtain ⟨g,cap,w',hr,h2,h3⟩:=hr;have hmp:L.map encStr ++ [.string ⟨n.toArray⟩]=(L ++ [n]).map encStr:=by rw[List.map_append];rfl
 rw[hmp]at h2;refine ⟨_,w',hr,StrsN.own h2,⟨h3.os,h3.tape,h3.output,h3.size,fun b hb=>h3.block b hb (by simp)⟩,fun b hb=>?_⟩;obtain rfl:g=b:=by simpa[Value.ownBlock] using hb
 exact h2.lt g rfl
theorem AE (k:Bd) (c:List Str):∀ l,eu k c l=l.map (cH k c)
 | []=>rfl
 | t :: l=>by simp[eu,AE k c l]
theorem TJ {a:List Tm} (kt:o≠15) (gW:o≠16) (hq:bD o=false):cH k c (.mk o n a s)=.mk o n (a.map (bY k.ts c)) (s.map (cH k c)):=by
 simp only[cH,aD kt,aD gW,hq,bZ,if_false,o7,AE]
theorem TK (kt:o≠15) (gW:o≠16) (hq:bD o=true):cH k c (.mk o n [] [g])=na o n [] (cH k (n :: c) g):=by
 simp only[cH,aD kt,aD gW,hq,if_true,eu,cR]
theorem Kq (W0:World) (nr:Nat->Prop) (kb mF mT nF nT:Nat) (kd:Bd) (dV:KnV nr goodF goodT W0 kb mF mT nF nT kd) (WB:World) (fw:Tabs WB W0) (DJ:validB kd=true) (fS:∀ x∈kd.ts,nodesT x.2<=1000) (Ye:Int) (n:Str) (a:List Tm) (ss:List Fm) (kt:Ye≠15) (gW:Ye≠16) (hs:okF true (.mk Ye n a ss)=true) (ry:nodesF (.mk Ye n a ss)<=400) (zbe:gX kd (.mk Ye n a ss)=true) (hsz:uN kd (.mk Ye n a ss)<=1000) (IH:∀ g∈ss,Hq W0 kd kb g):Hq W0 kd kb (.mk Ye n a ss):=by
 exact pm159
theorem NG (h:g∈s):uN k g<=qT k s:=by
 induction s with
 | nil=>cases h
 | cons u l ih=>
  unfold qT;rcases dw.1 h with rfl | h
  ·omega
  ·have:=ih h;omega
theorem Hs (h:g∈s) (hk:iP k s=true):gX k g=true:=by
 induction s with
 | nil=>cases h
 | cons u l ih=>
  simp only[iP,ae]at hk;rcases dw.1 h with rfl | h
  ·exact hk.1
  ·exact ih h hk.2
theorem TO {sc:Bool} (h:g∈s) (hk:cG sc s=true):okF sc g=true:=by
 induction s with
 | nil=>cases h
 | cons u l ih=>
  simp only[cG,ae]at hk;rcases dw.1 h with rfl | h
  ·exact hk.1
  ·exact ih h hk.2
theorem QZ (W0:World) (nr:Nat->Prop) (kb mF mT nF nT:Nat) (kd:Bd) (dV:KnV nr goodF goodT W0 kb mF mT nF nT kd) (WB:World) (fw:Tabs WB W0) (DJ:validB kd=true) (fS:∀ x∈kd.ts,nodesT x.2<=1000):∀ s:Fm,okF true s=true->gX kd s=true->nodesF s<=400->uN kd s<=1000->Hq W0 kd kb s:=by
 intro s
 induction s using Fm.ind with
 | h o n a ss ih=>
  intro hs hk hn hz
  by_cases kt:o=15
  ·subst kt;exact ND W0 nr kb mF mT nF nT kd dV WB fw n a ss hs hn
  ·by_cases gW:o=16
   ·subst gW;exact Co W0 nr kb mF mT nF nT kd dV WB fw n a ss hs hn
   ·refine Kq W0 nr kb mF mT nF nT kd dV WB fw DJ fS o n a ss kt gW hs hn hk hz (fun g hg=>?_);have h1:=hs;simp only[okF,ae]at h1;have h2:=(mx kt gW hk).2;have h3:=e9 hg;have h4:=NG (k:=kd) hg;simp only[nodesF]at hn;unfold uN at hz;exact ih g hg (TO hg h1.2.2.2.2) (Hs hg h2) (by omega) (by omega)
theorem Ks {b:Bd} {s:Fm} (h:lk b s=0):gX b s=true/\uN b s<=400:=by
 unfold lk at h;split at h
 ·cases h
 ·rename_i h1;split at h
  ·cases h
  ·split at h
   ·cases h
   ·rename_i h3;refine ⟨Ae s [] (by simpa using h1),?_⟩;rw[DF]at h3;omega
theorem Q0 (WB:World) (s:Fm) (b:Bd) (hf:fitF s) (hb:BdFit b) (ok:Nat->Prop) (w:World) (q:FQ) (r:BQ) (hT:Tabs WB w) (hq:FormV ok w q.val s) (yw:BindV ok w r b) :
  Calls Tryz.prog 32 #[q.val,r.val] w fun e w'=>(∃p:FQ,e=.returned (.tuple #[p.val,.int .i64 (kQ s b).2])/\FormV (w.heap.size<=·) w' p.val (kQ s b).1)/\Below w.heap.size w w':=by
 obtain ⟨R,hR⟩:=ao (kQ s b);rw[<-hR];obtain ⟨W2,bl⟩:=ao (((w.alloc (.cells #[.int .u8 q.o,.string q.n,.slice q.a q.l q.c,.slice q.b q.m q.e] 36)).alloc (.cells #[.slice r.a r.l r.c,.slice r.b r.m r.e] 26)).alloc (.cells #[.int .u8 0,.string ⟨#[]⟩,.slice none 0 0,.slice none 0 0] 36));have bF:=xW bl;have gV:=IX bl;have x0:=yN bl;have x1:=rW bl;have x2:=qd bl;have tE:=ab (tf WB s hf ok W2 (hT.next bF) q (hq.later bF));have XO:=ab (fun (V:World) (h:Below W2.heap.size W2 V)=>wG WB b hb ok V (hT.next (bF.tr h)) r (yw.later (bF.tr h)));obtain ⟨gs,Qx⟩:=ao (schemaF s);obtain ⟨gv,oZ⟩:=ao (validB b);unfold kQ at hR;rw[<-Qx,<-oZ]at hR;rw[<-Qx]at tE;rw[<-oZ]at XO;have HB:=fA bF gV x0 x1 x2;have gF:=ab bl;have HA:=fA hT hq yw hf hb;have HG:=aC Qx oZ;have HR:=ab hR;simp only[FQ.val,BQ.val]at tE XO ⊢;obtain ⟨c0,c1,c2,c3,_,_,_,_⟩:=dh x0;rw[bl]at c0 c1 c2 c3;clear bl bF gV x0 x1 x2 hT hq yw hf hb Qx oZ hR;have jH:=eU
 cases gs with
 | false=>
  have pp287:=();exact pm287
 | true=>
  cases gv with
  | false=>
   exact pm287
  | true=>
   have hsc:=HG.o.1.symm;simp only[schemaF,ae,bw]at hsc;have JC:=ab hsc;clear hsc;go_enter Tryz.func32,Tryz.ntmps32;go_upto_region 3 with (first | (rw[<-gF.o];go_at_call 26;refine tE.o.mono ?_;rintro e w3 ⟨rfl,aJ⟩;have x3:=bT aJ HB.o.2.2.2.1;have j0:=ah x3 0;have j1:=ah x3 1;have H3:=ab aJ;clear aJ x3) | (go_at_call 27;refine (XO.o _ H3.o).mono ?_;rintro e w4 ⟨rfl,aP⟩;have H4:=ab (H3.o.tr aP);clear aP));clear c0 c1 c2 c3 j0 j1;have hkb:=xJ b HA.o.2.2.2.2 HG.o.2.symm ok w4 r (HA.o.2.2.1.later (HB.o.1.tr H4.o));simp only[BQ.val]at hkb;have HKB:=ab hkb;have x4:=bT H4.o HB.o.2.2.2.1;obtain ⟨j0,j1⟩:=Sm x4;clear hkb x4;go_upto_region 4 with (go_at_call 46;refine HKB.o.mono ?_;rintro e w5 ⟨rfl,dV,bi⟩;have H5:=bE (H4.o.tr bi) dV bi;clear dV bi);clear j0 j1;obtain ⟨er,Ox⟩:=ao (lk b s);have Yh:=NB _ _ _ _ _ _ b s JC.o.1 JC.o.2.1 ok w5 H5.o.2.1 q (HA.o.2.1.later (HB.o.1.tr H5.o.1));simp only[FQ.val,<-Ox]at Yh;have ZG:=ab Yh;have x5:=bT H5.o.1 HB.o.2.2.1;obtain ⟨c0,c1,c2,c3,_,_,_,_⟩:=dh x5;have hR:=HR.o;rw[<-Ox]at hR;obtain ⟨HEr,IR⟩:=aZ Ox hR;clear Yh Ox hR x5
   by_cases h0:er=0
   ·subst h0;have PC:=Ks HEr.o.symm;go_upto_region 7 with (go_at_call 71;refine ZG.o.mono ?_;rintro e w6 ⟨rfl,cI⟩;have H6:=ab cI;clear cI);clear c0 c1 c2 c3;have x6:=bT (H5.o.1.tr H6.o) HB.o.2.2.1;obtain ⟨c0,c1,c2,c3,_,_,_,_⟩:=dh x6;have ug:=QZ w6 _ _ _ _ _ _ b (H5.o.2.1.later H6.o) WB (HA.o.1.next (HB.o.1.tr (H5.o.1.tr H6.o))) HG.o.2.symm (fun x hx=>(HA.o.2.2.2.2.ts x hx).2.2) s JC.o.1 PC.1 JC.o.2.1 (by have:=PC.2;omega) [] [] ok w6 (.slice none 0 0) q (ak _ _) (StrsN.nil _) (by have:=JC.o.2.1;simp;omega) (fun _=>rfl) (HA.o.2.1.later (HB.o.1.tr (H5.o.1.tr H6.o)));have hbd:=Ai HG.o.2.symm (fun x hx=>(HA.o.2.2.2.2.ts x hx).2.2) s [] JC.o.1 PC.1 (by have:=PC.2;omega);obtain ⟨G,TN⟩:=ao (cH b [] s);simp only[FQ.val,<-TN]at ug;rw[<-TN]at hbd;have hR:=IR.o;rw[aD (by simp),aD (by simp),<-TN]at hR;obtain ⟨HFl,HRG⟩:=aZ ug hR;have yt:=ab (show fitF G from ⟨by have:=PC.2;omega,hbd.2⟩);clear ug hR hbd TN PC x6;go_upto_region 8 with (go_at_call 72;refine HFl.o.mono ?_;rintro e w7 ⟨⟨⟨p0,p1,p2,p3,p4,p5,p6,p7⟩,rfl,hp⟩,fD⟩;have H7:=aC fD hp;clear fD hp);clear c0 c1 c2 c3;obtain ⟨W8,lQ⟩:=ao (w7.alloc (.cells #[.int .u8 p0,.string p1,.slice p2 p3 p4,.slice p5 p6 p7] 36));rw[<-lQ];have gS:=cX lQ;have y8:=bX lQ;obtain ⟨k0,k1,k2,k3,_,_,_,_⟩:=dh y8;have tg:=HB.o.1.tr ((H5.o.1.tr H6.o).tr (H7.o.1.tr gS));have hrt:=wE WB G yt.o _ W8 (HA.o.1.next tg) ⟨p0,p1,p2,p3,p4,p5,p6,p7⟩ (H7.o.2.later gS);simp only[FQ.val]at hrt;obtain ⟨gr,Tt⟩:=ao (dn G);rw[<-Tt]at hrt;have hR:=HRG.o;rw[<-Tt]at hR;obtain ⟨HRt,qV⟩:=aZ hrt hR;have H8:=bE tg y8 (H7.o.2.later gS);have Kt:W2.heap.size<=w6.heap.size:=(H5.o.1.tr H6.o).size;have HS8:=ab Kt;have x8:=bT ((H5.o.1.tr H6.o).tr (H7.o.1.tr gS)) HB.o.2.2.2.2;have HX8:=ab x8;clear hrt hR Tt gS y8 tg lQ Kt x8
    cases gr with
    | false=>
     have HE:=ab (show R=(gB,3) by rw[qV.o];rfl);go_wp2_with (go_at_call 39;refine HRt.o.mono ?_;rintro e w9 ⟨rfl,lO⟩;have x9:=bT lO HX8.o;obtain ⟨i0,i1,i2,i3,z0,z1,z2,z3⟩:=dh x9;have Kn:=ab x9;have H9:=ab lO;clear lO x9);have pp186a:=();exact pm186
    | true=>
     have HE:=ab (show R=(G,0) by rw[qV.o];rfl);go_wp2_with (go_at_call 39;refine HRt.o.mono ?_;rintro e w9 ⟨rfl,lO⟩;have x9:=bT lO HX8.o;obtain ⟨i0,i1,i2,i3,z0,z1,z2,z3⟩:=dh x9;have y9:=bT lO H8.o.2.1;obtain ⟨m0,m1,m2,m3,_,_,_,_⟩:=dh y9;have Kn:=ab x9;have H9:=aC lO (H8.o.2.2.later lO);clear lO x9 y9);have x6:=lm (v0:=.int .u8 p0) (v1:=.string p1) (v2:=.slice p2 p3 p4) (v3:=.slice p5 p6 p7) Kn.o;have k6:=dI (W:=w9) (b:=w.heap.size+1+1) (v0:=.int .u8 p0) (v1:=.string p1) (v2:=.slice p2 p3 p4) (v3:=.slice p5 p6 p7);obtain ⟨W6,cP⟩:=ao ((((w9.setCell ⟨w.heap.size+1+1,0,none⟩ (.int .u8 p0)).setCell ⟨w.heap.size+1+1,1,none⟩ (.string p1)).setCell ⟨w.heap.size+1+1,2,none⟩ (.slice p2 p3 p4)).setCell ⟨w.heap.size+1+1,3,none⟩ (.slice p5 p6 p7));rw[<-cP]at x6 k6 ⊢;clear cP;obtain ⟨g0,g1,g2,g3,_,_,_,_⟩:=dh x6;refine bI (v:=.tuple #[FQ.val ⟨p0,p1,p2,p3,p4,p5,p6,p7⟩,.int .i64 0]) (by simp[FQ.val,results,Tryz.results32,go_sem,g0,g1,g2,g3]) rfl ⟨⟨⟨p0,p1,p2,p3,p4,p5,p6,p7⟩,(by rw[HE.o];try rfl),?_⟩,Below.kp1 (H8.o.1.tr H9.o.1) k6 (by omega)⟩;rw[HE.o];exact (H9.o.2.move (fun b hb hlt=>⟨by have h:w6.heap.size<=b:=hb;have:=HS8.o;have:=HB.o.1.size;omega,k6.same b hlt (by have h:w6.heap.size<=b:=hb;have:=HS8.o;have:=HB.o.2.1;omega)⟩))
   ·have jD:(er != 0)=true:=by simp[h0]
    have V7:¬er=0:=h0;have HE:=ab (show R=(gB,er) by rw[IR.o];simp[h0]);go_wp2_with (go_at_call 71;refine ZG.o.mono ?_;rintro e w6 ⟨rfl,cI⟩;have x6:=bT (H5.o.1.tr cI) HB.o.2.2.2.2;obtain ⟨i0,i1,i2,i3,z0,z1,z2,z3⟩:=dh x6;have Kn:=ab x6;have H6:=ab cI;clear cI x6);have pp186b:=();exact pm186
