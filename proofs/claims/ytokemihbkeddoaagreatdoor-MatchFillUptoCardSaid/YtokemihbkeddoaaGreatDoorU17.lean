/-
'fill' of package match.
-/
import Derived.Test.YtokemihbkeddoaaGreatDoorU16
namespace Go.Proofs.YtokemihbkeddoaaGreatDoor
open Go Go.RowKit Lib
set_option maxRecDepth 100000
set_option maxHeartbeats 64000000
variable {k:Bd} {c:List Str} {o:Int} {n:Str} {s:List Fm} {g:Fm}
section
attribute [local go_sem] Oper.semAt_some
def IL (W0:World) (kd:Bd) (kb:Nat) (s:Fm):Prop:=∀ (c L:List Str) (ok:Nat->Prop) (w:World) (vL:Value) (q:FQ),Below W0.heap.size W0 w->StrsN w vL L->L.length+nodesF s<=1000000->(∀ y,L.contains y=c.contains y)->FormV ok w q.val s →
 Calls Tryz.prog 72 #[.pointer (some ⟨kb,0,none⟩),q.val,vL] w fun e w'=>(∃p:FQ,e=.returned p.val/\FormV (w.heap.size<=·) w' p.val (bV kd c s))/\Below w.heap.size w w'
theorem F3 {w V W6:World} {B:Nat} {p:FQ} {f:Fm} (hb:Below w.heap.size w V) (hB:w.heap.size<=B) (k6:Kp (fun b=>b=B) V W6) (hp:FormV (B<·) V p.val f):FormV (w.heap.size<=·) W6 p.val f/\Below w.heap.size w W6:=
 ⟨hp.move (fun b h hlt=>⟨by omega,k6.same b hlt (by omega)⟩),⟨k6.os.trans hb.os,k6.tape.trans hb.tape,k6.output.trans hb.output,aU hb.size k6.size,fun b h=>(k6.same b (bH h hb.size) (by omega)).trans (hb.block b h)⟩⟩
theorem NQ (W0:World) (nM:Nat->Prop) (kb mF mT nF nT:Nat) (kd:Bd) (dZ:KnV nM goodF goodT W0 kb mF mT nF nT kd) (WB:World) (_:Tabs WB W0) (n:Str) (a:List Tm) (ss:List Fm) (hs:okF true (.mk 15 n a ss)=true) (_:nodesF (.mk 15 n a ss)<=400):IL W0 kd kb (.mk 15 n a ss):=by
 have pp313:=();exact pm313
theorem Dx (W0:World) (nM:Nat->Prop) (kb mF mT nF nT:Nat) (kd:Bd) (dZ:KnV nM goodF goodT W0 kb mF mT nF nT kd) (WB:World) (lP:Tabs WB W0) (n:Str) (a:List Tm) (ss:List Fm) (hs:okF true (.mk 16 n a ss)=true) (_:nodesF (.mk 16 n a ss)<=400):IL W0 kd kb (.mk 16 n a ss):=by
 exact pm313
theorem xD (W:World) (n:Str) (rb:Nat) (hrc:W.heap[rb]?=some (.cells #[.string ⟨n.toArray⟩] 9 (0,0))) (la:Option Addr) (l0 lc:Nat) (L:List Str) (tD:l0=L.length) (hlen:L.length<=1000000) (hL:StrsN W (.slice la l0 lc) L) (ty:TypeId) :
  ∃v' w',(Builtin.append_ #[66,66] ty #[.slice la l0 l0,.slice (some ⟨rb,0,none⟩) 1 1]).run Tryz.prog W=.ok v' w'/\StrsN w' v' (L ++ [n])/\Below W.heap.size W w'/\∀ b,v'.ownBlock=some b->W.heap.size<=b/\b<w'.heap.size:=by
 obtain ⟨i0,hi,zp,wJ,zY⟩:=info_parts Aw;obtain ⟨a',cap,hv,hc,sB⟩:=hL;obtain ⟨rfl,_,rfl⟩:la=a'/\l0=L.length/\lc=cap:=by injection hv with h1 h2 h3;exact ⟨h1,h2,h3⟩
 have hr:∃g cap w',(Builtin.append_ #[66,66] ty #[.slice la l0 l0,.slice (some ⟨rb,0,none⟩) 1 1]).run Tryz.prog W=.ok (.slice (some ⟨g,0,none⟩) (l0+1) cap) w'/\w'.ownsRow W.heap.size 9 1 (.slice (some ⟨g,0,none⟩) (l0+1) cap) (l0+1) (L.map encStr ++ [.string ⟨n.toArray⟩])/\W.grownBy w' none:=by
  rcases sB with ⟨h1,h2,h3⟩ | ⟨b,off,h1,h4⟩
  ·subst h1 h2;obtain rfl:l0=0:=tD;obtain ⟨g,cap,w',hr,h2,h3,_,_⟩:=run_append_lies (P:=Tryz.prog) W 66 ty W.heap.size 9 i0 (.string ByteArray.empty) 1 16 Tryz.underlying66 hi zp wJ zY rfl (by decide) (.slice none 0 0) 0 [] (World.ownsRow_nil _ _ _ _) ⟨rb,0,none⟩ 1 1 [.string ⟨n.toArray⟩] rfl (dc (cs:=#[.string ⟨n.toArray⟩]) (t:=9) (fr:=(0,0)) hrc) (by simp[Value.oneCell']) (by decide) (by unfold maxLen;omega) (by omega) (aD _) _ rfl;exact ⟨g,cap,w',hr,h2,h3⟩
  ·subst h1;obtain ⟨v',w',hr,h2,h3⟩:=run_append_arg_grows (P:=Tryz.prog) W 66 ty 9 i0 (.string ByteArray.empty) 1 16 Tryz.underlying66 hi zp wJ zY rfl (by decide) ⟨b,off,none⟩ l0 l0 (L.map encStr) (by rw[List.length_map,tD];omega) (fun j u hu=>by
    rw[List.getElem?_map]at hu
    by_cases hj:j<L.length
    ·rw[gT hj]at hu;rw[wS];refine (h4 j hj).trans ?_;rw[<-hu];rfl
    ·rw[List.getElem?_eq_none (by omega)]at hu;cases hu) ⟨rb,0,none⟩ 1 1 [.string ⟨n.toArray⟩] rfl (dc (cs:=#[.string ⟨n.toArray⟩]) (t:=9) (fr:=(0,0)) hrc) (by omega) (by unfold maxLen;omega) (by omega)
   obtain ⟨g,cap,rfl,_,_⟩:=h2.form (by omega);exact ⟨g,cap,w',hr,h2,h3⟩
 obtain ⟨g,cap,w',hr,h2,h3⟩:=hr;have hmp:L.map encStr ++ [.string ⟨n.toArray⟩]=(L ++ [n]).map encStr:=by rw[List.map_append];rfl
 rw[hmp]at h2;refine ⟨_,w',hr,StrsN.own h2,⟨h3.os,h3.tape,h3.output,h3.size,fun b hb=>h3.block b hb (by simp)⟩,fun b hb=>?_⟩;obtain rfl:g=b:=by simpa[Value.ownBlock] using hb
 exact h2.lt g rfl
theorem BW (k:Bd) (c:List Str):∀ l,dS k c l=l.map (bV k c)
 | []=>rfl
 | t :: l=>by simp[dS,BW k c l]
theorem TC {a:List Tm} (eQ:o≠15) (dN:o≠16) (hq:bh o=false):bV k c (.mk o n a s)=.mk o n (a.map (cM k.ts c)) (s.map (bV k c)):=by
 simp only[bV,ak eQ,ak dN,hq,bW,if_false,ph,BW]
theorem TD (eQ:o≠15) (dN:o≠16) (hq:bh o=true):bV k c (.mk o n [] [g])=mt o n [] (bV k (n :: c) g):=by
 simp only[bV,ak eQ,ak dN,hq,if_true,dS,d_]
theorem KO (W0:World) (nM:Nat->Prop) (kb mF mT nF nT:Nat) (kd:Bd) (dZ:KnV nM goodF goodT W0 kb mF mT nF nT kd) (WB:World) (lP:Tabs WB W0) (zH:bw kd=true) (gz:∀ x∈kd.ts,nodesT x.2<=1000) (XX:Int) (n:Str) (a:List Tm) (ss:List Fm) (eQ:XX≠15) (dN:XX≠16) (hs:okF true (.mk XX n a ss)=true) (rI:nodesF (.mk XX n a ss)<=400) (za0:jc kd (.mk XX n a ss)=true) (hsz:vJ kd (.mk XX n a ss)<=1000) (IH:∀ g∈ss,IL W0 kd kb g):IL W0 kd kb (.mk XX n a ss):=by
 exact pm174
theorem NS (h:g∈s):vJ k g<=rg k s:=by
 induction s with
 | nil=>cases h
 | cons u l ih=>
  unfold rg;rcases cd.1 h with rfl | h
  ·omega
  ·have:=ih h;omega
theorem IN (h:g∈s) (hk:kv k s=true):jc k g=true:=by
 induction s with
 | nil=>cases h
 | cons u l ih=>
  simp only[kv,af]at hk;rcases cd.1 h with rfl | h
  ·exact hk.1
  ·exact ih h hk.2
theorem TH {sc:Bool} (h:g∈s) (hk:cW sc s=true):okF sc g=true:=by
 induction s with
 | nil=>cases h
 | cons u l ih=>
  simp only[cW,af]at hk;rcases cd.1 h with rfl | h
  ·exact hk.1
  ·exact ih h hk.2
theorem Q_ (W0:World) (nM:Nat->Prop) (kb mF mT nF nT:Nat) (kd:Bd) (dZ:KnV nM goodF goodT W0 kb mF mT nF nT kd) (WB:World) (lP:Tabs WB W0) (zH:bw kd=true) (gz:∀ x∈kd.ts,nodesT x.2<=1000):∀ s:Fm,okF true s=true->jc kd s=true->nodesF s<=400->vJ kd s<=1000->IL W0 kd kb s:=by
 intro s
 induction s using Fm.ind with
 | h o n a ss ih=>
  intro hs hk hn hz
  by_cases eQ:o=15
  ·subst eQ;exact NQ W0 nM kb mF mT nF nT kd dZ WB lP n a ss hs hn
  ·by_cases dN:o=16
   ·subst dN;exact Dx W0 nM kb mF mT nF nT kd dZ WB lP n a ss hs hn
   ·refine KO W0 nM kb mF mT nF nT kd dZ WB lP zH gz o n a ss eQ dN hs hn hk hz (fun g hg=>?_);have h1:=hs;simp only[okF,af]at h1;have h2:=(pt eQ dN hk).2;have h3:=jM hg;have h4:=NS (k:=kd) hg;simp only[nodesF]at hn;unfold vJ at hz;exact ih g hg (TH hg h1.2.2.2.2) (IN hg h2) (by omega) (by omega)
theorem KP {b:Bd} {s:Fm} (h:nA b s=0):jc b s=true/\vJ b s<=400:=by
 unfold nA at h;split at h
 ·cases h
 ·rename_i h1;split at h
  ·cases h
  ·split at h
   ·cases h
   ·rename_i h3;refine ⟨Iv s [] (by simpa using h1),?_⟩;rw[Ey]at h3;omega
theorem Ra (WB:World) (s:Fm) (b:Bd) (hf:fitF s) (hb:BdFit b) (ok:Nat->Prop) (w:World) (q:FQ) (r:BQ) (hT:Tabs WB w) (hq:FormV ok w q.val s) (xz:BindV ok w r b) :
  Calls Tryz.prog 32 #[q.val,r.val] w fun e w'=>(∃p:FQ,e=.returned (.tuple #[p.val,.int .i64 (sy s b).2])/\FormV (w.heap.size<=·) w' p.val (sy s b).1)/\Below w.heap.size w w':=by
 obtain ⟨R,hR⟩:=am (sy s b);rw[<-hR];obtain ⟨W2,a_⟩:=am (((w.alloc (.cells #[.int .u8 q.o,.string q.n,.slice q.a q.l q.c,.slice q.b q.m q.e] 36)).alloc (.cells #[.slice r.a r.l r.c,.slice r.b r.m r.e] 26)).alloc (.cells #[.int .u8 0,.string ⟨#[]⟩,.slice none 0 0,.slice none 0 0] 36));have bB:=yK a_;have iy:=Ji a_;have x0:=zO a_;have x1:=sk a_;have x2:=qi a_;have sI:=ac (BK WB s hf ok W2 (hT.next bB) q (hq.later bB));have XC:=ac (fun (V:World) (h:Below W2.heap.size W2 V)=>xy WB b hb ok V (hT.next (bB.tr h)) r (xz.later (bB.tr h)));obtain ⟨gs,QI⟩:=am (e9 s);obtain ⟨gv,pf⟩:=am (bw b);unfold sy at hR;rw[<-QI,<-pf]at hR;rw[<-QI]at sI;rw[<-pf]at XC;have HB:=fE bB iy x0 x1 x2;have fp:=ac a_;have HA:=fE hT hq xz hf hb;have HG:=aG QI pf;have HR:=ac hR;simp only[FQ.val,BQ.val]at sI XC ⊢;obtain ⟨c0,c1,c2,c3,_,_,_,_⟩:=dy x0;rw[a_]at c0 c1 c2 c3;clear a_ bB iy x0 x1 x2 hT hq xz hf hb QI pf hR;have iz:=fd
 cases gs with
 | false=>
  have pp305:=();exact pm305
 | true=>
  cases gv with
  | false=>
   exact pm305
  | true=>
   have Sw:=HG.o.1.symm;simp only[e9,af,bp]at Sw;have JV:=ac Sw;clear Sw;go_enter Tryz.func32,Tryz.ntmps32;go_upto_region 3 with (first | (rw[<-fp.o];go_at_call 26;refine sI.o.mono ?_;rintro e w3 ⟨rfl,aM⟩;have x3:=bJ aM HB.o.2.2.2.1;have j0:=ah x3 0;have j1:=ah x3 1;have H3:=ac aM;clear aM x3) | (go_at_call 27;refine (XC.o _ H3.o).mono ?_;rintro e w4 ⟨rfl,aO⟩;have H4:=ac (H3.o.tr aO);clear aO));clear c0 c1 c2 c3 j0 j1;have hkb:=yC b HA.o.2.2.2.2 HG.o.2.symm ok w4 r (HA.o.2.2.1.later (HB.o.1.tr H4.o));simp only[BQ.val]at hkb;have HKB:=ac hkb;have x4:=bJ H4.o HB.o.2.2.2.1;obtain ⟨j0,j1⟩:=Sh x4;clear hkb x4;go_upto_region 4 with (go_at_call 46;refine HKB.o.mono ?_;rintro e w5 ⟨rfl,dZ,bm⟩;have H5:=bF (H4.o.tr bm) dZ bm;clear dZ bm);clear j0 j1;obtain ⟨er,Ox⟩:=am (nA b s);have hck:=NN _ _ _ _ _ _ b s JV.o.1 JV.o.2.1 ok w5 H5.o.2.1 q (HA.o.2.1.later (HB.o.1.tr H5.o.1));simp only[FQ.val,<-Ox]at hck;have Zm:=ac hck;have x5:=bJ H5.o.1 HB.o.2.2.1;obtain ⟨c0,c1,c2,c3,_,_,_,_⟩:=dy x5;have hR:=HR.o;rw[<-Ox]at hR;obtain ⟨HEr,Jb⟩:=aW Ox hR;clear hck Ox hR x5
   by_cases h0:er=0
   ·subst h0;have PD:=KP HEr.o.symm;go_upto_region 7 with (go_at_call 71;refine Zm.o.mono ?_;rintro e w6 ⟨rfl,da⟩;have H6:=ac da;clear da);clear c0 c1 c2 c3;have x6:=bJ (H5.o.1.tr H6.o) HB.o.2.2.1;obtain ⟨c0,c1,c2,c3,_,_,_,_⟩:=dy x6;have r':=Q_ w6 _ _ _ _ _ _ b (H5.o.2.1.later H6.o) WB (HA.o.1.next (HB.o.1.tr (H5.o.1.tr H6.o))) HG.o.2.symm (fun x hx=>(HA.o.2.2.2.2.ts x hx).2.2) s JV.o.1 PD.1 JV.o.2.1 (by have:=PD.2;omega) [] [] ok w6 (.slice none 0 0) q (aj _ _) (StrsN.nil _) (by have:=JV.o.2.1;simp;omega) (fun _=>rfl) (HA.o.2.1.later (HB.o.1.tr (H5.o.1.tr H6.o)));have pU:=By HG.o.2.symm (fun x hx=>(HA.o.2.2.2.2.ts x hx).2.2) s [] JV.o.1 PD.1 (by have:=PD.2;omega);obtain ⟨G,TG⟩:=am (bV b [] s);simp only[FQ.val,<-TG]at r';rw[<-TG]at pU;have hR:=Jb.o;rw[ak (by simp),ak (by simp),<-TG]at hR;obtain ⟨Sy,HRG⟩:=aW r' hR;have zk:=ac (show fitF G from ⟨by have:=PD.2;omega,pU.2⟩);clear r' hR pU TG PD x6;go_upto_region 8 with (go_at_call 72;refine Sy.o.mono ?_;rintro e w7 ⟨⟨⟨p0,p1,p2,p3,p4,p5,p6,p7⟩,rfl,hp⟩,fW⟩;have H7:=aG fW hp;clear fW hp);clear c0 c1 c2 c3;obtain ⟨W8,l8⟩:=am (w7.alloc (.cells #[.int .u8 p0,.string p1,.slice p2 p3 p4,.slice p5 p6 p7] 36));rw[<-l8];have ic:=cV l8;have y8:=bU l8;obtain ⟨k0,k1,k2,k3,_,_,_,_⟩:=dy y8;have tR:=HB.o.1.tr ((H5.o.1.tr H6.o).tr (H7.o.1.tr ic));have hrt:=oB WB G zk.o _ W8 (HA.o.1.next tR) ⟨p0,p1,p2,p3,p4,p5,p6,p7⟩ (H7.o.2.later ic);simp only[FQ.val]at hrt;obtain ⟨gr,Ow⟩:=am (cf G);rw[<-Ow]at hrt;have hR:=HRG.o;rw[<-Ow]at hR;obtain ⟨HRt,rj⟩:=aW hrt hR;have H8:=bF tR y8 (H7.o.2.later ic);have Ve:W2.heap.size<=w6.heap.size:=(H5.o.1.tr H6.o).size;have HS8:=ac Ve;have x8:=bJ ((H5.o.1.tr H6.o).tr (H7.o.1.tr ic)) HB.o.2.2.2.2;have HX8:=ac x8;clear hrt hR Ow ic y8 tR l8 Ve x8
    cases gr with
    | false=>
     have HE:=ac (show R=(lg,3) by rw[rj.o];rfl);go_wp2_with (go_at_call 39;refine HRt.o.mono ?_;rintro e w9 ⟨rfl,l7⟩;have x9:=bJ l7 HX8.o;obtain ⟨i0,i1,i2,i3,z0,z1,z2,z3⟩:=dy x9;have KN:=ac x9;have H9:=ac l7;clear l7 x9);have pp204a:=();exact pm204
    | true=>
     have HE:=ac (show R=(G,0) by rw[rj.o];rfl);go_wp2_with (go_at_call 39;refine HRt.o.mono ?_;rintro e w9 ⟨rfl,l7⟩;have x9:=bJ l7 HX8.o;obtain ⟨i0,i1,i2,i3,z0,z1,z2,z3⟩:=dy x9;have y9:=bJ l7 H8.o.2.1;obtain ⟨m0,m1,m2,m3,_,_,_,_⟩:=dy y9;have KN:=ac x9;have H9:=aG l7 (H8.o.2.2.later l7);clear l7 x9 y9);have x6:=lA (v0:=.int .u8 p0) (v1:=.string p1) (v2:=.slice p2 p3 p4) (v3:=.slice p5 p6 p7) KN.o;have k6:=dL (W:=w9) (b:=w.heap.size+1+1) (v0:=.int .u8 p0) (v1:=.string p1) (v2:=.slice p2 p3 p4) (v3:=.slice p5 p6 p7);obtain ⟨W6,dm⟩:=am ((((w9.setCell ⟨w.heap.size+1+1,0,none⟩ (.int .u8 p0)).setCell ⟨w.heap.size+1+1,1,none⟩ (.string p1)).setCell ⟨w.heap.size+1+1,2,none⟩ (.slice p2 p3 p4)).setCell ⟨w.heap.size+1+1,3,none⟩ (.slice p5 p6 p7));rw[<-dm]at x6 k6 ⊢;clear dm;obtain ⟨g0,g1,g2,g3,_,_,_,_⟩:=dy x6;refine bI (v:=.tuple #[FQ.val ⟨p0,p1,p2,p3,p4,p5,p6,p7⟩,.int .i64 0]) (by simp[FQ.val,results,Tryz.results32,go_sem,g0,g1,g2,g3]) rfl ⟨⟨⟨p0,p1,p2,p3,p4,p5,p6,p7⟩,(by rw[HE.o];try rfl),?_⟩,Below.kp1 (H8.o.1.tr H9.o.1) k6 (by omega)⟩;rw[HE.o];exact (H9.o.2.move (fun b hb hlt=>⟨by have h:w6.heap.size<=b:=hb;have:=HS8.o;have:=HB.o.1.size;omega,k6.same b hlt (by have h:w6.heap.size<=b:=hb;have:=HS8.o;have:=HB.o.2.1;omega)⟩))
   ·have jZ:(er != 0)=true:=by simp[h0]
    have VR:¬er=0:=h0;have HE:=ac (show R=(lg,er) by rw[Jb.o];simp[h0]);go_wp2_with (go_at_call 71;refine Zm.o.mono ?_;rintro e w6 ⟨rfl,da⟩;have x6:=bJ (H5.o.1.tr da) HB.o.2.2.2.2;obtain ⟨i0,i1,i2,i3,z0,z1,z2,z3⟩:=dy x6;have KN:=ac x6;have H6:=ac da;clear da x6);have pp204b:=();exact pm204
