/-L-/
import Derived.Test.YtokemihbkeddoaaGreatDoorP08
open Go.Proofs.Tryz
namespace Go.Proofs.YtokemihbkeddoaaGreatDoor
open Go Go.RowKit Lib
set_option maxRecDepth 100000
set_option maxHeartbeats 0
variable{b:Bool}{a:Act}{d lo dl:Nat}{f:Fm}{left:Int}{v:Value}{o oj oi:Oper}{Cs:Array TypeId}{ty T T2:TypeId}{pos:String}{fw:Array Edge}{ts:List Fm}{W w4 w:World}{listed:Array Bool}{p:Pl}{α:Type}{m:List aj}
section
attribute [local go_sem] Oper.semAt_some
abbrev X0:Nat->Prop:=fun _=>True
abbrev X1(b:Nat):Nat->Prop:=fun c=>X0 c/\c≠b
abbrev X2(b d:Nat):Nat->Prop:=fun c=>X1 b c/\c≠d
theorem uR(h:b=true):(mZ (.bool true)).p=fun v _ _=>v=.bool b:=by subst h;rfl
theorem m4:j9 ⟨[],[]⟩:=⟨by decide,by decide,(fun _ h=>by cases h),fun _ h=>by cases h⟩
theorem zr:j9 VD:=⟨by decide,by decide,List.forall_mem_cons.2 ⟨⟨by decide,by decide,by decide⟩,fun _ h=>by cases h⟩,List.forall_mem_cons.2 ⟨⟨by decide,⟨by decide,by decide⟩,by decide⟩,fun _ h=>by cases h⟩⟩
theorem zbq:∀x∈([(mA,Mq),(mB,W_)]:List (aj×Fm)),cJ x.2:=List.forall_mem_cons.2 ⟨⟨by decide,by decide⟩,List.forall_mem_cons.2 ⟨⟨by decide,by decide⟩,fun _ h=>by cases h⟩⟩
theorem zbr:∀x∈([(mA,Gn)]:List (aj×Fm)),cJ x.2:=List.forall_mem_cons.2 ⟨⟨by decide,by decide⟩,fun _ h=>by cases h⟩
theorem zbs:∀x∈([(mT,E6)]:List (aj×Tm)),e7 x.2:=List.forall_mem_cons.2 ⟨⟨by decide,by decide⟩,fun _ h=>by cases h⟩
theorem JQ{a b c d:Fm}(ha:cJ a:=by exact⟨by decide,by decide⟩)(hb:cJ b:=by exact⟨by decide,by decide⟩)(hc:cJ c:=by exact⟨by decide,by decide⟩)(hd:cJ d:=by exact⟨by decide,by decide⟩):∀x∈[(a,b),(c,d)],cJ x.1/\cJ x.2:=List.forall_mem_cons.2 ⟨⟨ha,hb⟩,List.forall_mem_cons.2 ⟨⟨hc,hd⟩,fun _ h=>by cases h⟩⟩
theorem R4(WB w:World)(mY:gG WB w):Calls prog 12 #[] w fun e w'=>e=.returned (.bool true)/\Below w.heap.size w w':=by
 refine oM func12 ?_;refine(fun(A:Act)(hs:A.tmps.size=270)(hd:A.defers=[])=>?_:∀A:Act,A.tmps.size=270->A.defers=[]->Code.wpIn Fence.wide 3 _ _ _ A w) _ rfl rfl;have jq:=fP;have HB:Below w.heap.size w w:=ar _ _;have hT:=mY.next HB;have hL:∀c,w.heap.size<=c->X0 c:=fun _ _=>trivial;have mv:∀c,cf c->WB.heap.size<=c:=fun _ h=>h.elim;have jK:∀c,X0 c->¬cf c:=fun _ _ h=>h;refine dD (fun K hK=>?_);refine dv [_] 1 1 hs (by kernel_rfl) (fun|0,_=>Ih (.bool false)|k+1,hk=>nk hk) fun A0 γ W0 h=>?_;obtain⟨J_,hd0,X_⟩:=h.n3 hs hd HB;clear h;refine hK _ _ ?_;clear hT hL mv jK;have hT:=mY.next X_;have hL:∀c,W0.heap.size<=c->X0 c:=fun _ _=>trivial;have mv:∀c,cf c->WB.heap.size<=c:=fun _ h=>h.elim;have jK:∀c,X0 c->¬cf c:=fun _ _ h=>h;refine dD (fun K hK=>?_);refine dv [jH X0 (⟨[],[]⟩),_,_] 1 2 J_ (by kernel_rfl) (fun|0,_=>Y0|1,_=>oK rfl|2,_=>oL _ 1 21 rfl (aZ 1) (aZ 0)|k+3,hk=>nk hk) fun A1 γ W1 h=>?_;obtain⟨iZ,Xa,eQ⟩:=h.n3 J_ hd0 X_;obtain⟨vz,tz,fz⟩:=h.get 1 _ 1 rfl rfl;obtain⟨b1,q1,lz,S8⟩:=Fa tz fz (h.did 2 _ rfl rfl) h.inv;have Cd:w.heap.size<=b1:=by have h1:W0.heap.size<=b1:=S8;have h2:=X_.size;omega
 have VO:LB X0 A1 W1 1 b1 q1 _:=lz.next rfl (Kp.refl (M:=cf) _) (fun h=>h) (fun _ _ h=>h) (fun _ h _=>h.1);clear h;refine hK _ _ ?_;clear hT hL mv jK;have hT:=mY.next eQ.drew;have hL:∀c,W1.drew.heap.size<=c->X0 c:=fun _ _=>trivial;have mv:∀c,cf c->WB.heap.size<=c:=fun _ h=>h.elim;have jK:∀c,X0 c->¬cf c:=fun _ _ h=>h;refine dD (fun K hK=>?_);refine kW [fY X0 (BO [63,65]),fY X0 (BO [63,66]),_,_,fY X0 (rg [80] []),fY X0 (rg [81] []),_,_,fY X0 (rg [82] []),_,_,_,_,_,_,_,_,_,_] 16 17 iZ (by kernel_rfl) (by kernel_rfl) (fun|0,_=>Mr [63,65]|1,_=>Mr [63,66]|2,_=>ux hL _ _ 23 24 (aZ 0) (aZ 1)|3,_=>pd 6 [] [BO [63,65],BO [63,66]] 25 (aZ 2)|4,_=>Qq [80]|5,_=>Qq [81]|6,_=>ux hL _ _ 27 28 (aZ 4) (aZ 5)|7,_=>pd 4 [] [rg [80] [],rg [81] []] 29 (aZ 6)|8,_=>Qq [82]|9,_=>ux hL _ _ 30 31 (aZ 7) (aZ 8)|10,_=>pd 6 [] [Fm.mk 4 [] [] [rg [80] [],rg [81] []],rg [82] []] 32 (aZ 9)|11,_=>VO.drew.ld|12,_=>Ms _ _ _ _ _ _ aw1 ⟨by decide,by decide⟩ ⟨by decide,by decide⟩ m4 26 33 34 hT mv hL (aZ 3) (aZ 10) (aZ 11)|13,_=>cz _ 35 (aZ 12)|14,_=>jI _ _ 22 (aZ 13)|15,_=>jl (jH X0 (⟨[(mA,Mq),(mB,W_)],[]⟩)) [.int .i64 0] 0 (.int .i64 0) rfl 22 (aZ 13)|16,_=>oK rfl|17,_=>oL _ 2 36 rfl (aZ 16) (aZ 14)|18,_=>fA _ 37 (aZ 15)|k+19,hk=>nk hk) fun A2 γ W2 h=>?_;obtain⟨lw,ZH,cQ⟩:=h.n3 iZ Xa eQ.drew;obtain⟨vz,tz,fz⟩:=h.get 16 _ 2 rfl rfl;obtain⟨b2,q2,lz,WH⟩:=Fa tz fz (h.did 17 _ rfl rfl) h.inv;have _I:=VO.drew.next (L':=(X1 b2)) (h.od 1) h.inv.1 (fun h=>h) jK (fun c h hlt=>⟨h,fun e=>by have:W1.heap.size<=b2:=WH;have hlt:c<W1.heap.size:=hlt;omega⟩);have zdB:b2≠b1:=by have:=(bQ VO.drew.box);have h:W1.heap.size<=b2:=WH;have h2:b1<W1.heap.size:=this;omega
 have _J:b1≠b2:=fun e=>zdB e.symm;have SA:w.heap.size<=b2:=by have h1:W1.heap.size<=b2:=WH;have h2:=eQ.size;omega
 have Mt:LB (X1 b2) A2 W2 2 b2 q2 _:=lz;have fC:=(bQ Mt.box);have uz:=h.gv 18 3;clear h;refine hK _ _ ?_;clear hT hL mv jK;have hT:=mY.next cQ;have hL:∀c,W2.heap.size<=c->(X1 b2) c:=fun c hc=>⟨trivial,fun e=>by have:=(bQ Mt.box);have h:W2.heap.size<=c:=hc;omega⟩
 have mv:∀c,cf c->WB.heap.size<=c:=fun _ h=>h.elim;have jK:∀c,(X1 b2) c->¬cf c:=fun _ _ h=>h;refine dD (fun K hK=>?_);refine dv [_,_,_,_,_,_,_,_] 5 6 lw (by kernel_rfl) (fun|0,_=>Mt.ld|1,_=>Qr (⟨[(mA,Mq),(mB,W_)],[]⟩) [63,66] (by decide) zbq 39 hL (aZ 0)|2,_=>cz _ 40 (aZ 1)|3,_=>jI _ _ 38 (aZ 2)|4,_=>jl (fY (X1 b2) (W_)) [.bool true] 0 (.bool true) rfl 38 (aZ 2)|5,_=>lD rfl|6,_=>lE _ 4 41 rfl (aZ 5) (aZ 3)|7,_=>fA _ 42 (aZ 4)|k+8,hk=>nk hk) fun A3 γ W3 h=>?_;obtain⟨wA,Sz,bV⟩:=h.n3 lw ZH cQ;obtain⟨vz,tz,fz⟩:=h.get 5 _ 4 rfl rfl;obtain⟨b4,q4,lz,zF⟩:=uy tz fz (h.did 6 _ rfl rfl) h.inv;have zdC:=_I.next (L':=(X2 b2 b4)) (h.od 1) h.inv.1 (fun h=>h) jK (fun c h hlt=>⟨h,fun e=>by have:W2.heap.size<=b4:=zF;have hlt:c<W2.heap.size:=hlt;omega⟩);have Mu:=Mt.next (L':=(X2 b2 b4)) (h.od 2) h.inv.1 (fun h=>h) jK (fun c h hlt=>⟨h,fun e=>by have:W2.heap.size<=b4:=zF;have hlt:c<W2.heap.size:=hlt;omega⟩);have zdD:b4≠b1:=by have:=(bQ _I.box);have h:W2.heap.size<=b4:=zF;have h2:b1<W2.heap.size:=this;omega
 have zdE:b1≠b4:=fun e=>zdD e.symm;have _K:b4≠b2:=by have:=(bQ Mt.box);have h:W2.heap.size<=b4:=zF;have h2:b2<W2.heap.size:=this;omega
 have zdF:b2≠b4:=fun e=>_K e.symm;have SJ:w.heap.size<=b4:=by have h1:W2.heap.size<=b4:=zF;have h2:=cQ.size;omega
 have VP:LF (X2 b2 b4) A3 W3 4 b4 q4 _:=lz;have fC:=(bQ Mu.box);have lK:=(bQ VP.box);have uz:=h.ol 3 uz;have tz5:=h.gv 7 5;clear h;refine hK _ _ ?_;clear hT hL mv jK;have vC:q2.l=2:=by
  obtain⟨⟨fa,fc,_,he,_⟩,_⟩:=Mu.val;injection he
 have hT:=mY.next bV.drew;have hL:∀c,W3.drew.heap.size<=c->(X2 b2 b4) c:=fun c hc=>by have h:W3.heap.size<=c:=hc;exact⟨⟨trivial,by omega⟩,by omega⟩
 have mv:∀ c,cf c->WB.heap.size<=c:=fun _ h=>h.elim;have jK:∀ c,(X2 b2 b4) c->¬cf c:=fun _ _ h=>h;refine dD (fun K hK=>?_);refine dD (fun K2 hK2=>?_);refine kW  [mZ (.int .i64 0),
  mZ (.bool false),
  mZ (.bool false),
  mZ (.bool true),
  mZ (.bool false),
  mZ (.bool false),
  mZ (.bool false),
  fY (X2 b2 b4) (W_),
  fY (X2 b2 b4) (rg [82] []),
  mZ (.bool true),
  mZ (.bool false),
  mZ (.bool false),
  mZ (.bool false),
  mZ (.pointer (some ⟨b2,0,none⟩)),
  mZ (.slice q2.a 2 q2.c),
  mZ (.int .i64 2),
  mZ (.bool false),
  mZ (.bool false)]
  18 18 wA (by kernel_rfl) (by kernel_rfl) (fun k hk=>?_) (fun A4 γ W4 h=>?_)
 ·exact match k,hk with
  |0,_=>cz _ 3 (qj uz)
  |1,_=>jJ rfl 43 (.bool false) (aZ 0)
  |2,_=>cz _ 44 (aZ 1)
  |3,_=>cz _ 5 (qj tz5) (hw:=wd 2)
  |4,_=>jJ rfl 46 (.bool false) (aZ 3) (hw:=wd 2)
  |5,_=>lF rfl 45 47 (.bool false) (aZ 2) (aZ 4)
  |6,_=>cz _ 48 (aZ 5)
  |7,_=>VP.drew.ld (hw:=wd 6)
  |8,_=>Qq [82] (hw:=wd 6)
  |9,_=>C0 (W_) (rg [82] []) ⟨by decide,by decide⟩ 50 51 (aZ 7) (aZ 8) (hw:=wd 6) (hp:=(uR zf1))
  |10,_=>jJ rfl 52 (.bool false) (aZ 9) (hw:=wd 6)
  |11,_=>lF rfl 49 53 (.bool false) (aZ 6) (aZ 10)
  |12,_=>cz _ 54 (aZ 11)
  |13,_=>jJ rfl 2 (.pointer (some ⟨b2,0,none⟩)) (qj Mu.drew.slot) (hw:=wd 12)
  | 14,_=>fM (by exact VC 12 (aZ 12)) rfl rfl (fun a γ wz bq=>by
   obtain⟨v,e,rfl⟩:=bq.val 13 _ _ rfl rfl (by kernel_rfl);have e2:=bL e;have c:=bq.inv.1.cell (a:=⟨b2,0,none⟩) (fun h=>h) (ao Mu.drew.box 0);rw[vC]at c;exact⟨.slice q2.a 2 q2.c,by go_simp,rfl⟩)
  |15,_=>jJ rfl 57 (.int .i64 2) (aZ 14) (hw:=wd 12)
  |16,_=>jJ rfl 58 (.bool false) (aZ 15) (hw:=wd 12)
  |17,_=>lF rfl 55 59 (.bool false) (aZ 12) (aZ 16)
  |k+18,hk=>absurd hk (by simp)
 obtain⟨Bm,Xm,e9⟩:=h.n3 wA Sz bV.drew;have _L:=zdC.drew.nz h;have VQ:=Mu.drew.nz h;have VR:=VP.drew.nz h;have fC:=(bQ VQ.box);have lK:=(bQ VR.box);have uz:=h.ol 3 uz;have tc:=h.gv 17 60;clear h;refine hK2 _ _ ?_;refine wpIn_cond_false (bL tc) (wpIn_skip ?_);refine hK _ _ ?_;clear hT hL mv jK;have hT:=mY.next e9;have hL:∀c,W4.heap.size<=c->(X2 b2 b4) c:=fun c hc=>by have h:W4.heap.size<=c:=hc;exact⟨⟨trivial,by omega⟩,by omega⟩
 have mv:∀c,cf c->WB.heap.size<=c:=fun _ h=>h.elim;have jK:∀c,(X2 b2 b4) c->¬cf c:=fun _ _ h=>h;refine dD (fun K hK=>?_);refine dv [fY (X2 b2 b4) (BO [63,65]),_,_,_,_] 3 4 Bm (by kernel_rfl) (fun|0,_=>Mr [63,65]|1,_=>kV hL _ 61 (aZ 0)|2,_=>pd 8 [120] [BO [63,65]] 62 (aZ 1)|3,_=>lD rfl|4,_=>lE _ 6 63 rfl (aZ 3) (aZ 2)|k+5,hk=>nk hk) fun A6 γ W6 h=>?_;obtain⟨Re,hd6,NX⟩:=h.n3 Bm Xm e9;obtain⟨vz,tz,fz⟩:=h.get 3 _ 6 rfl rfl;obtain⟨b6,q6,lz,hg6⟩:=uy tz fz (h.did 4 _ rfl rfl) h.inv;have _M:=_L.nz h;have VS:=VQ.nz h;have VT:=VR.nz h;have zdG:b6≠b1:=by have:=(bQ _L.box);have h:W4.heap.size<=b6:=hg6;have h2:b1<W4.heap.size:=this;omega
 have zgx:b1≠b6:=fun e=>zdG e.symm;have VU:b6≠b2:=by have:=(bQ VQ.box);have h:W4.heap.size<=b6:=hg6;have h2:b2<W4.heap.size:=this;omega
 have zgy:b2≠b6:=fun e=>VU e.symm;have _N:b6≠b4:=by have:=(bQ VR.box);have h:W4.heap.size<=b6:=hg6;have h2:b4<W4.heap.size:=this;omega
 have zgz:b4≠b6:=fun e=>_N e.symm;have hw6:w.heap.size<=b6:=by have h1:W4.heap.size<=b6:=hg6;have h2:=e9.size;omega
 have _O:LF (X2 b2 b4) A6 W6 6 b6 q6 _:=lz.next rfl (Kp.refl (M:=cf) _) (fun h=>h) (fun _ _ h=>h) (fun _ h _=>h.1);have fC:=(bQ VS.box);have lK:=(bQ VT.box);have uz:=h.ol 3 uz;clear h;refine hK _ _ ?_;clear hT hL mv jK;have hT:=mY.next NX;have hL:∀c,W6.heap.size<=c->(X2 b2 b4) c:=fun c hc=>by have h:W6.heap.size<=c:=hc;exact⟨⟨trivial,by omega⟩,by omega⟩
 have mv:∀c,cf c->WB.heap.size<=c:=fun _ h=>h.elim;have jK:∀c,(X2 b2 b4) c->¬cf c:=fun _ _ h=>h;refine dD (fun K hK=>?_);refine dv [ix (X2 b2 b4) (bj [121]),ix (X2 b2 b4) (bj [122]),_,_,_,_,_,_,_,_] 8 9 Re (by kernel_rfl) (fun|0,_=>ut [121]|1,_=>ut [122]|2,_=>pi hL _ _ 64 65 (aZ 0) (aZ 1)|3,_=>E8 [82] [bj [121],bj [122]] 66 (aZ 2)|4,_=>kV hL _ 67 (aZ 3)|5,_=>pd 9 [122] [rg [82] [bj [121],bj [122]]] 68 (aZ 4)|6,_=>kV hL _ 69 (aZ 5)|7,_=>pd 8 [121] [Fm.mk 9 [122] [] [rg [82] [bj [121],bj [122]]]] 70 (aZ 6)|8,_=>lD rfl|9,_=>lE _ 7 71 rfl (aZ 8) (aZ 7)|k+10,hk=>nk hk) fun A7 γ W7 h=>?_;obtain⟨WT,hd7,_P⟩:=h.n3 Re hd6 NX;obtain⟨vz,tz,fz⟩:=h.get 8 _ 7 rfl rfl;obtain⟨b7,q7,lz,_Q⟩:=uy tz fz (h.did 9 _ rfl rfl) h.inv;have Qt:=_M.nz h;have Mv:=VS.nz h;have _R:=VT.nz h;have Qu:=_O.nz h;have zdH:b7≠b1:=by have:=(bQ _M.box);have h:W6.heap.size<=b7:=_Q;have h2:b1<W6.heap.size:=this;omega
 have zgA:b1≠b7:=fun e=>zdH e.symm;have VV:b7≠b2:=by have:=(bQ VS.box);have h:W6.heap.size<=b7:=_Q;have h2:b2<W6.heap.size:=this;omega
 have zgB:b2≠b7:=fun e=>VV e.symm;have _S:b7≠b4:=by have:=(bQ VT.box);have h:W6.heap.size<=b7:=_Q;have h2:b4<W6.heap.size:=this;omega
 have zgC:b4≠b7:=fun e=>_S e.symm;have zdI:b7≠b6:=by have:=(bQ _O.box);have h:W6.heap.size<=b7:=_Q;have h2:b6<W6.heap.size:=this;omega
 have zgD:b6≠b7:=fun e=>zdI e.symm;have hw7:w.heap.size<=b7:=by have h1:W6.heap.size<=b7:=_Q;have h2:=NX.size;omega
 have Qv:LF (X2 b2 b4) A7 W7 7 b7 q7 _:=lz.next rfl (Kp.refl (M:=cf) _) (fun h=>h) (fun _ _ h=>h) (fun _ h _=>h.1);have fC:=(bQ Mv.box);have lK:=(bQ _R.box);have uz:=h.ol 3 uz;clear h;refine hK _ _ ?_;clear hT hL mv jK;have hT:=mY.next _P.drew;have hL:∀c,W7.drew.heap.size<=c->(X2 b2 b4) c:=fun c hc=>by have h:W7.heap.size<=c:=hc;exact⟨⟨trivial,by omega⟩,by omega⟩
 have mv:∀c,E_ b2 c->WB.heap.size<=c:=fun c h=>by have h:c=b2:=h;subst h;have:=mY.size;omega
 have jK:∀c,(X2 b2 b4) c->¬E_ b2 c:=fun c h e=>h.1.2 e;refine dD (fun K hK=>?_);refine JO (bQ Mv.box) [_,_,_,_,ix (X2 b2 b4) (cT [97] []),_,_,ix (X2 b2 b4) (bj [122]),_,_,_,_,_,_,_,_,_,_,_,_,_,_,_] 20 WT (by kernel_rfl) (by kernel_rfl) (fun|0,_=>zp _ _ 6 Qu.drew.box (fun h=>VU h) (Qu.drew.at jK) (qj Qu.drew.slot)|1,_=>zp _ _ 7 Qv.drew.box (fun h=>VV h) (Qv.drew.at jK) (qj Qv.drew.slot)|2,_=>sj _ _ 73 74 (aZ 0) (aZ 1)|3,_=>CZ [63,65] [120] [63,116] hL|4,_=>VG [97]|5,_=>nE hL _ 77 (aZ 4)|6,_=>zdx [102] [cT [97] []] 78 (aZ 5)|7,_=>ut [122]|8,_=>pi hL _ _ 79 80 (aZ 6) (aZ 7)|9,_=>E8 [82] [cT [102] [cT [97] []],bj [122]] 81 (aZ 8)|10,_=>kV hL _ 82 (aZ 9)|11,_=>pd 9 [122] [rg [82] [cT [102] [cT [97] []],bj [122]]] 83 (aZ 10)|12,_=>sj _ _ 76 84 (aZ 3) (aZ 11)|13,_=>E9 hL _ _ _ _ 75 85 (aZ 2) (aZ 12)|14,_=>E' _ _ 1 Qt.drew.box (fun h=>_J h) (Qt.drew.at jK) (qj Qt.drew.slot)|15,_=>ph _ _ _ _ _ aw2 (by decide) JQ m4 86 87 hT mv hL (aZ 13) (aZ 14)|16,_=>cz _ 88 (aZ 15)|17,_=>jI _ _ 72 (aZ 16)|18,_=>jl (jH (X2 b2 b4) (⟨[(mA,Gn)],[(mT,E6)]⟩)) [.int .i64 0,.int .i64 0] 0 (.int .i64 0) rfl 72 (aZ 16)|19,_=>jl (jH (X2 b2 b4) (⟨[(mA,Gn)],[(mT,E6)]⟩)) [.int .i64 0,.int .i64 0] 1 (.int .i64 0) rfl 72 (aZ 16)|20,_=>ON _ 2 89 rfl Mv.drew.box rfl (qj Mv.drew.slot) (aZ 17)|21,_=>fA _ 90 (aZ 18)|22,_=>fA _ 91 (aZ 19)|k+23,hk=>nk hk) fun A8 γ W8 h=>?_;have SO:=h.sz.trans WT;have hd8:=h.df.trans hd7;have HB8:Below w.heap.size w W8:=en _P.drew h.inv.1 (fun c h=>by have h:c=b2:=h;subst h;omega);have _T:=Qt.drew.next (L':=(X2 b2 b4)) (h.od 1) h.inv.1 (fun h=>_J h) jK (fun _ h _=>h);obtain⟨q2,Qw⟩:=Y2 ((h.old 2 (by kernel_rfl)).trans Mv.slot) (h.did 20 _ rfl rfl) h.inv;have VW:=_R.drew.next (L':=(X2 b2 b4)) (h.od 4) h.inv.1 (fun h=>_K h) jK (fun _ h _=>h);have _U:=Qu.drew.next (L':=(X2 b2 b4)) (h.od 6) h.inv.1 (fun h=>VU h) jK (fun _ h _=>h);have _V:=Qv.drew.next (L':=(X2 b2 b4)) (h.od 7) h.inv.1 (fun h=>VV h) jK (fun _ h _=>h);have fC:=(bQ Qw.box);have lK:=(bQ VW.box);have uz:=h.gv 22 3;have Ct:=h.gv 21 8;clear h;refine hK _ _ ?_;clear hT hL mv jK;have hT:=mY.next HB8;have hL:∀c,W8.heap.size<=c->(X2 b2 b4) c:=fun c hc=>by have h:W8.heap.size<=c:=hc;exact⟨⟨trivial,by omega⟩,by omega⟩
 have mv:∀c,cf c->WB.heap.size<=c:=fun _ h=>h.elim;have jK:∀c,(X2 b2 b4) c->¬cf c:=fun _ _ h=>h;refine dD (fun K hK=>?_);refine dv [_,_,_,_,_,_,_,_] 5 6 SO (by kernel_rfl) (fun|0,_=>Qw.ld|1,_=>YY (⟨[(mA,Gn)],[(mT,E6)]⟩) [63,116] (by decide) zbs 93 hL (aZ 0)|2,_=>cz _ 94 (aZ 1)|3,_=>jI _ _ 92 (aZ 2)|4,_=>jl (ix (X2 b2 b4) (E6)) [.bool true] 0 (.bool true) rfl 92 (aZ 2)|5,_=>R2 rfl|6,_=>R3 _ 9 95 rfl (aZ 5) (aZ 3)|7,_=>fA _ 96 (aZ 4)|k+8,hk=>nk hk) fun A9 γ W9 h=>?_;obtain⟨Y3,hd9,Y4⟩:=h.n3 SO hd8 HB8;obtain⟨vz,tz,fz⟩:=h.get 5 _ 9 rfl rfl;obtain⟨b9,q9,lz,MV⟩:=zbp tz fz (h.did 6 _ rfl rfl) h.inv;have zdJ:=_T.nz h;have Qx:=Qw.nz h;have Mw:=VW.nz h;have zdK:=_U.nz h;have zdL:=_V.nz h;have zdM:b9≠b1:=by have:=(bQ _T.box);have h:W8.heap.size<=b9:=MV;have h2:b1<W8.heap.size:=this;omega
 have zgE:b1≠b9:=fun e=>zdM e.symm;have zdN:b9≠b2:=by have:=(bQ Qw.box);have h:W8.heap.size<=b9:=MV;have h2:b2<W8.heap.size:=this;omega
 have zgF:b2≠b9:=fun e=>zdN e.symm;have _W:b9≠b4:=by have:=(bQ VW.box);have h:W8.heap.size<=b9:=MV;have h2:b4<W8.heap.size:=this;omega
 have zgG:b4≠b9:=fun e=>_W e.symm;have zdO:b9≠b6:=by have:=(bQ _U.box);have h:W8.heap.size<=b9:=MV;have h2:b6<W8.heap.size:=this;omega
 have zgH:b6≠b9:=fun e=>zdO e.symm;have zdP:b9≠b7:=by have:=(bQ _V.box);have h:W8.heap.size<=b9:=MV;have h2:b7<W8.heap.size:=this;omega
 have zgI:b7≠b9:=fun e=>zdP e.symm;have hw9:w.heap.size<=b9:=by have h1:W8.heap.size<=b9:=MV;have h2:=HB8.size;omega
 have zdQ:LT (X2 b2 b4) A9 W9 9 b9 q9 _:=lz.next rfl (Kp.refl (M:=cf) _) (fun h=>h) (fun _ _ h=>h) (fun _ h _=>h.1);have fC:=(bQ Qx.box);have lK:=(bQ Mw.box);have uz:=h.ol 3 uz;have Ct:=h.ol 8 Ct;have zbt:=h.gv 7 10;clear h;refine hK _ _ ?_;clear hT hL mv jK;have hT:=mY.next Y4;have hL:∀c,W9.heap.size<=c->(X2 b2 b4) c:=fun c hc=>by have h:W9.heap.size<=c:=hc;exact⟨⟨trivial,by omega⟩,by omega⟩
 have mv:∀c,E_ b4 c->WB.heap.size<=c:=fun c h=>by have h:c=b4:=h;subst h;have:=mY.size;omega
 have jK:∀c,(X2 b2 b4) c->¬E_ b4 c:=fun c h e=>h.2 e;refine dD (fun K hK=>?_);refine JP (bQ Mw.box) [_,_,_,_,_,_] 5 Y3 (by kernel_rfl) (fun|0,_=>E' _ _ 2 Qx.box (fun h=>zdF h) (Qx.at jK) (qj Qx.slot)|1,_=>Qr (⟨[(mA,Gn)],[(mT,E6)]⟩) [63,65] (by decide) zbr 98 hL (aZ 0)|2,_=>cz _ 99 (aZ 1)|3,_=>jI _ _ 97 (aZ 2)|4,_=>jl (fY (X2 b2 b4) (Gn)) [.bool true] 0 (.bool true) rfl 97 (aZ 2)|5,_=>OM _ 4 100 rfl Mw.box rfl (qj Mw.slot) (aZ 3)|k+6,hk=>nk hk) fun A10 γ lB h=>?_;have Gp:=h.sz.trans Y3;have OO:=h.df.trans hd9;have JR:Below w.heap.size w lB:=en Y4 h.inv.1 (fun c h=>by have h:c=b4:=h;subst h;omega);have zbu:=zdJ.next (L':=(X2 b2 b4)) (h.od 1) h.inv.1 (fun h=>zdE h) jK (fun _ h _=>h);obtain⟨q4,VX⟩:=Y1 ((h.old 4 (by kernel_rfl)).trans Mw.slot) (h.did 5 _ rfl rfl) h.inv;have zbv:=zdK.next (L':=(X2 b2 b4)) (h.od 6) h.inv.1 (fun h=>_N h) jK (fun _ h _=>h);have zbw:=zdL.next (L':=(X2 b2 b4)) (h.od 7) h.inv.1 (fun h=>_S h) jK (fun _ h _=>h);have zbx:=zdQ.next (L':=(X2 b2 b4)) (h.od 9) h.inv.1 (fun h=>_W h) jK (fun _ h _=>h);have lK:=(bQ VX.box);have fC:b2<lB.heap.size:=bP fC h.inv.1.size;have uz:=h.ol 3 uz;have Ct:=h.ol 8 Ct;have zbt:=h.ol 10 zbt;clear h;refine hK _ _ ?_;clear hT hL mv jK;have hT:=mY.next JR.drew;have hL:∀c,lB.drew.heap.size<=c->(X2 b2 b4) c:=fun c hc=>by have h:lB.heap.size<=c:=hc;exact⟨⟨trivial,by omega⟩,by omega⟩
 have mv:∀c,cf c->WB.heap.size<=c:=fun _ h=>h.elim;have jK:∀c,(X2 b2 b4) c->¬cf c:=fun _ _ h=>h;refine dD (fun K hK=>?_);refine dD (fun K2 hK2=>?_);refine kW [_,_,_,_,_,_,_,_,_,_,_,_,_,ix (X2 b2 b4) (cT [97] []),_,_,_,_,_,_,_,_,ix (X2 b2 b4) (bj [63,120]),ix (X2 b2 b4) (bj [122]),_,_,_,_,_,_,_] 31 31 Gp (by kernel_rfl) (by kernel_rfl) (fun|0,_=>cz (mZ (.int .i64 0)) 3 (qj uz)|1,_=>jJ rfl 102 (.bool false) (aZ 0)|2,_=>cz _ 103 (aZ 1)|3,_=>cz (mZ (.int .i64 0)) 8 (qj Ct) (hw:=wd 2)|4,_=>jJ rfl 105 (.bool false) (aZ 3) (hw:=wd 2)|5,_=>lF rfl 104 106 (.bool false) (aZ 2) (aZ 4)|6,_=>cz _ 107 (aZ 5)|7,_=>cz (mZ (.bool true)) 10 (qj zbt) (hw:=wd 6)|8,_=>jJ rfl 109 (.bool false) (aZ 7) (hw:=wd 6)|9,_=>lF rfl 108 110 (.bool false) (aZ 6) (aZ 8)|10,_=>cz _ 111 (aZ 9)|11,_=>zbx.drew.ld (hw:=wd 10)|12,_=>nE hL _ 113 (aZ 11) (hw:=wd 10)|13,_=>VG [97] (hw:=wd 10)|14,_=>nE hL _ 115 (aZ 13) (hw:=wd 10)|15,_=>zdx [102] [cT [97] []] 116 (aZ 14) (hw:=wd 10)|16,_=>nE hL _ 117 (aZ 15) (hw:=wd 10)|17,_=>VH ([E6]) ([cT [102] [cT [97] []]]) ⟨by decide,by decide⟩ 114 118 (aZ 12) (aZ 16) (hw:=wd 10) (hp:=(uR zf3))|18,_=>jJ rfl 119 (.bool false) (aZ 17) (hw:=wd 10)|19,_=>lF rfl 112 120 (.bool false) (aZ 10) (aZ 18)|20,_=>cz _ 121 (aZ 19)|21,_=>VX.drew.ld (hw:=wd 20)|22,_=>ut [63,120] (hw:=wd 20)|23,_=>ut [122] (hw:=wd 20)|24,_=>pi hL _ _ 124 125 (aZ 22) (aZ 23) (hw:=wd 20)|25,_=>E8 [82] [bj [63,120],bj [122]] 126 (aZ 24) (hw:=wd 20)|26,_=>kV hL _ 127 (aZ 25) (hw:=wd 20)|27,_=>pd 9 [122] [rg [82] [bj [63,120],bj [122]]] 128 (aZ 26) (hw:=wd 20)|28,_=>C0 (Gn) (Fm.mk 9 [122] [] [rg [82] [bj [63,120],bj [122]]]) ⟨by decide,by decide⟩ 123 129 (aZ 21) (aZ 27) (hw:=wd 20) (hp:=(uR zf2))|29,_=>jJ rfl 130 (.bool false) (aZ 28) (hw:=wd 20)|30,_=>lF rfl 122 131 (.bool false) (aZ 20) (aZ 29)|k+31,hk=>nk hk) fun A11 γ zf h=>?_;obtain⟨U1,zby,Y5⟩:=h.n3 Gp OO JR.drew;have VY:=zbu.drew.nz h;have zbz:=zbv.drew.nz h;have zbA:=zbw.drew.nz h;have fC:b2<zf.heap.size:=bP fC h.inv.1.size;have lK:b4<zf.heap.size:=bP lK h.inv.1.size;have uz:=h.ol 3 uz;have Ct:=h.ol 8 Ct;have tc:=h.gv 30 132;clear h;refine hK2 _ _ ?_;refine wpIn_cond_false (bL tc) (wpIn_skip ?_);refine hK _ _ ?_;clear hT hL mv jK;have hT:=mY.next Y5.drew;have hL:∀c,zf.drew.heap.size<=c->(X2 b2 b4) c:=fun c hc=>by have h:zf.heap.size<=c:=hc;exact⟨⟨trivial,by omega⟩,by omega⟩
 have mv:∀c,cf c->WB.heap.size<=c:=fun _ h=>h.elim;have jK:∀c,(X2 b2 b4) c->¬cf c:=fun _ _ h=>h;refine dD (fun K hK=>?_);refine kW [_,_,_,_,ix (X2 b2 b4) (bj [122]),ix (X2 b2 b4) (bj [122]),_,_,_,_,_,_,_,_,_,_,_,_,_,_] 20 20 U1 (by kernel_rfl) (by kernel_rfl) (fun|0,_=>zbz.drew.ld|1,_=>zbA.drew.ld|2,_=>sj _ _ 134 135 (aZ 0) (aZ 1)|3,_=>CZ [63,65] [120] [63,116] hL|4,_=>ut [122]|5,_=>ut [122]|6,_=>pi hL _ _ 138 139 (aZ 4) (aZ 5)|7,_=>E8 [82] [bj [122],bj [122]] 140 (aZ 6)|8,_=>kV hL _ 141 (aZ 7)|9,_=>pd 9 [122] [rg [82] [bj [122],bj [122]]] 142 (aZ 8)|10,_=>sj _ _ 137 143 (aZ 3) (aZ 9)|11,_=>E9 hL _ _ _ _ 136 144 (aZ 2) (aZ 10)|12,_=>VY.drew.ld|13,_=>ph _ _ _ _ _ aw3 (by decide) JQ m4 145 146 hT mv hL (aZ 11) (aZ 12)|14,_=>cz _ 147 (aZ 13)|15,_=>jI _ _ 133 (aZ 14)|16,_=>jl (jH (X2 b2 b4) (⟨[],[]⟩)) [.int .i64 1,.int .i64 70] 0 (.int .i64 1) rfl 133 (aZ 14)|17,_=>jl (jH (X2 b2 b4) (⟨[],[]⟩)) [.int .i64 1,.int .i64 70] 1 (.int .i64 70) rfl 133 (aZ 14)|18,_=>fA _ 149 (aZ 16)|19,_=>fA _ 150 (aZ 17)|k+20,hk=>nk hk) fun A13 γ pB h=>?_;obtain⟨R6,Y6,jk⟩:=h.n3 U1 zby Y5.drew;have OP:=VY.drew.nz h;have fC:b2<pB.heap.size:=bP fC h.inv.1.size;have lK:b4<pB.heap.size:=bP lK h.inv.1.size;have uz:=h.gv 19 3;have Ct:=h.gv 18 8;clear h;refine hK _ _ ?_;clear hT hL mv jK;have hT:=mY.next jk.drew;have hL:∀c,pB.drew.heap.size<=c->(X2 b2 b4) c:=fun c hc=>by have h:pB.heap.size<=c:=hc;exact⟨⟨trivial,by omega⟩,by omega⟩
 have mv:∀c,cf c->WB.heap.size<=c:=fun _ h=>h.elim;have jK:∀c,(X2 b2 b4) c->¬cf c:=fun _ _ h=>h;refine dD (fun K hK=>?_);refine kW [_,ix (X2 b2 b4) (cT [97] []),_,_,_,_,_,_,_,_,_,_] 9 10 R6 (by kernel_rfl) (by kernel_rfl) (fun|0,_=>CZ [63,65] [120] [63,116] hL|1,_=>VG [97]|2,_=>nE hL _ 153 (aZ 1)|3,_=>E8 [80] [cT [97] []] 154 (aZ 2)|4,_=>OP.drew.ld|5,_=>Ms _ _ _ _ _ _ aw4 ⟨by decide,by decide⟩ ⟨by decide,by decide⟩ m4 152 155 156 hT mv hL (aZ 0) (aZ 3) (aZ 4)|6,_=>cz _ 157 (aZ 5)|7,_=>jI _ _ 151 (aZ 6)|8,_=>jl (jH (X2 b2 b4) (⟨[],[]⟩)) [.int .i64 71] 0 (.int .i64 71) rfl 151 (aZ 6)|9,_=>oK rfl|10,_=>oL _ 11 158 rfl (aZ 9) (aZ 7)|11,_=>fA _ 159 (aZ 8)|k+12,hk=>nk hk) fun A14 γ W14 h=>?_;obtain⟨R7,Y7,R8⟩:=h.n3 R6 Y6 jk.drew;obtain⟨vz,tz,fz⟩:=h.get 9 _ 11 rfl rfl;obtain⟨b11,q11,lz,zdR⟩:=Fa tz fz (h.did 10 _ rfl rfl) h.inv;have zbB:=OP.drew.nz h;have zbC:b11≠b1:=by have:=(bQ OP.drew.box);have h:pB.heap.size<=b11:=zdR;have h2:b1<pB.heap.size:=this;omega
 have zf6:b1≠b11:=fun e=>zbC e.symm;have zhe:w.heap.size<=b11:=by have h1:pB.heap.size<=b11:=zdR;have h2:=jk.size;omega
 have zeA:LB (X2 b2 b4) A14 W14 11 b11 q11 _:=lz.next rfl (Kp.refl (M:=cf) _) (fun h=>h) (fun _ _ h=>h) (fun _ h _=>h.1);have fC:b2<W14.heap.size:=bP fC h.inv.1.size;have lK:b4<W14.heap.size:=bP lK h.inv.1.size;have uz:=h.ol 3 uz;have Ct:=h.ol 8 Ct;have zf7:=h.gv 11 12;clear h;refine hK _ _ ?_;clear hT hL mv jK;have hT:=mY.next R8;have hL:∀c,W14.heap.size<=c->(X2 b2 b4) c:=fun c hc=>by have h:W14.heap.size<=c:=hc;exact⟨⟨trivial,by omega⟩,by omega⟩
 have mv:∀c,cf c->WB.heap.size<=c:=fun _ h=>h.elim;have jK:∀c,(X2 b2 b4) c->¬cf c:=fun _ _ h=>h;refine dD (fun K hK=>?_);refine dD (fun K2 hK2=>?_);refine dv [_,_,_,_,_,_,_,_,_,_] 10 10 R7 (by kernel_rfl) (fun|0,_=>cz (mZ (.int .i64 1)) 8 (qj Ct)|1,_=>jJ rfl 160 (.bool false) (aZ 0)|2,_=>cz _ 161 (aZ 1)|3,_=>cz (mZ (.int .i64 70)) 3 (qj uz) (hw:=wd 2)|4,_=>jJ rfl 163 (.bool false) (aZ 3) (hw:=wd 2)|5,_=>lF rfl 162 164 (.bool false) (aZ 2) (aZ 4)|6,_=>cz _ 165 (aZ 5)|7,_=>cz (mZ (.int .i64 71)) 12 (qj zf7) (hw:=wd 6)|8,_=>jJ rfl 167 (.bool false) (aZ 7) (hw:=wd 6)|9,_=>lF rfl 166 168 (.bool false) (aZ 6) (aZ 8)|k+10,hk=>nk hk) fun A15 γ _X h=>?_;obtain⟨zbD,zbE,VZ⟩:=h.n3 R7 Y7 R8;have V0:=zbB.nz h;have fC:b2<_X.heap.size:=bP fC h.inv.1.size;have lK:b4<_X.heap.size:=bP lK h.inv.1.size;have uz:=h.ol 3 uz;have Ct:=h.ol 8 Ct;have tc:=h.gv 9 169;clear h;refine hK2 _ _ ?_;refine wpIn_cond_false (bL tc) (wpIn_skip ?_);refine hK _ _ ?_;clear hT hL mv jK;have hT:=mY.next VZ;have hL:∀c,_X.heap.size<=c->(X2 b2 b4) c:=fun c hc=>by have h:_X.heap.size<=c:=hc;exact⟨⟨trivial,by omega⟩,by omega⟩
 have mv:∀c,cf c->WB.heap.size<=c:=fun _ h=>h.elim;have jK:∀c,(X2 b2 b4) c->¬cf c:=fun _ _ h=>h;refine dD (fun K hK=>?_);refine dv [fY (X2 b2 b4) (BO [63,65]),fY (X2 b2 b4) (BO [63,66]),_,_,_,_,_,_] 6 7 zbD (by kernel_rfl) (fun|0,_=>Mr [63,65]|1,_=>Mr [63,66]|2,_=>ux hL _ _ 170 171 (aZ 0) (aZ 1)|3,_=>pd 5 [] [BO [63,65],BO [63,66]] 172 (aZ 2)|4,_=>kV hL _ 173 (aZ 3)|5,_=>pd 8 [120] [Fm.mk 5 [] [] [BO [63,65],BO [63,66]]] 174 (aZ 4)|6,_=>lD rfl|7,_=>lE _ 13 175 rfl (aZ 6) (aZ 5)|k+8,hk=>nk hk) fun A17 γ W17 h=>?_;obtain⟨zdS,zf8,zdT⟩:=h.n3 zbD zbE VZ;obtain⟨vz,tz,fz⟩:=h.get 6 _ 13 rfl rfl;obtain⟨b13,q13,lz,zdU⟩:=uy tz fz (h.did 7 _ rfl rfl) h.inv;have zbF:=V0.nz h;have zbG:b13≠b1:=by have:=(bQ V0.box);have h:_X.heap.size<=b13:=zdU;have h2:b1<_X.heap.size:=this;omega
 have zf9:b1≠b13:=fun e=>zbG e.symm;have zhf:w.heap.size<=b13:=by have h1:_X.heap.size<=b13:=zdU;have h2:=VZ.size;omega
 have Y8:LF (X2 b2 b4) A17 W17 13 b13 q13 _:=lz.next rfl (Kp.refl (M:=cf) _) (fun h=>h) (fun _ _ h=>h) (fun _ h _=>h.1);have fC:b2<W17.heap.size:=bP fC h.inv.1.size;have lK:b4<W17.heap.size:=bP lK h.inv.1.size;have uz:=h.ol 3 uz;have Ct:=h.ol 8 Ct;clear h;refine hK _ _ ?_;clear hT hL mv jK;have hT:=mY.next zdT.drew;have hL:∀c,W17.drew.heap.size<=c->(X2 b2 b4) c:=fun c hc=>by have h:W17.heap.size<=c:=hc;exact⟨⟨trivial,by omega⟩,by omega⟩
 have mv:∀c,cf c->WB.heap.size<=c:=fun _ h=>h.elim;have jK:∀c,(X2 b2 b4) c->¬cf c:=fun _ _ h=>h;refine dD (fun K hK=>?_);refine kW [_,ix (X2 b2 b4) (bj [121]),_,_,ix (X2 b2 b4) (bj [121]),_,_,_,_,_,_,_,fY (X2 b2 b4) (BO [63,65]),ix (X2 b2 b4) (bj [121]),_,_,_,_,_,_,_,_,_,_,_,_] 26 26 zdS (by kernel_rfl) (by kernel_rfl) (fun|0,_=>Y8.drew.ld|1,_=>ut [121]|2,_=>nE hL _ 178 (aZ 1)|3,_=>E8 [80] [bj [121]] 179 (aZ 2)|4,_=>ut [121]|5,_=>nE hL _ 181 (aZ 4)|6,_=>E8 [80] [bj [121]] 182 (aZ 5)|7,_=>ux hL _ _ 180 183 (aZ 3) (aZ 6)|8,_=>pd 5 [] [rg [80] [bj [121]],rg [80] [bj [121]]] 184 (aZ 7)|9,_=>kV hL _ 185 (aZ 8)|10,_=>pd 8 [121] [Fm.mk 5 [] [] [rg [80] [bj [121]],rg [80] [bj [121]]]] 186 (aZ 9)|11,_=>sj _ _ 177 187 (aZ 0) (aZ 10)|12,_=>Mr [63,65]|13,_=>ut [121]|14,_=>nE hL _ 190 (aZ 13)|15,_=>E8 [80] [bj [121]] 191 (aZ 14)|16,_=>sj _ _ 189 192 (aZ 12) (aZ 15)|17,_=>E9 hL _ _ _ _ 188 193 (aZ 11) (aZ 16)|18,_=>zbF.drew.ld|19,_=>ph _ _ _ _ _ aw5 (by decide) JQ m4 194 195 hT mv hL (aZ 17) (aZ 18)|20,_=>cz _ 196 (aZ 19)|21,_=>jI _ _ 176 (aZ 20)|22,_=>jl (jH (X2 b2 b4) (⟨[],[]⟩)) [.int .i64 1,.int .i64 70] 0 (.int .i64 1) rfl 176 (aZ 20)|23,_=>jl (jH (X2 b2 b4) (⟨[],[]⟩)) [.int .i64 1,.int .i64 70] 1 (.int .i64 70) rfl 176 (aZ 20)|24,_=>fA _ 198 (aZ 22)|25,_=>fA _ 199 (aZ 23)|k+26,hk=>nk hk) fun A18 γ W18 h=>?_;obtain⟨zdV,zga,zbH⟩:=h.n3 zdS zf8 zdT.drew;have fC:b2<W18.heap.size:=bP fC h.inv.1.size;have lK:b4<W18.heap.size:=bP lK h.inv.1.size;have uz:=h.gv 25 3;have Ct:=h.gv 24 8;clear h;refine hK _ _ ?_;clear hT hL mv jK;have hT:=mY.next zbH;have hL:∀c,W18.heap.size<=c->(X2 b2 b4) c:=fun c hc=>by have h:W18.heap.size<=c:=hc;exact⟨⟨trivial,by omega⟩,by omega⟩
 have mv:∀c,cf c->WB.heap.size<=c:=fun _ h=>h.elim;have jK:∀c,(X2 b2 b4) c->¬cf c:=fun _ _ h=>h;refine dD (fun K hK=>?_);refine dv [ix (X2 b2 b4) (bj [63,120]),ix (X2 b2 b4) (bj [120]),_,_,_,_,ix (X2 b2 b4) (bj [120]),_,_,_,_,_] 10 11 zdV (by kernel_rfl) (fun|0,_=>ut [63,120]|1,_=>ut [120]|2,_=>pi hL _ _ 200 201 (aZ 0) (aZ 1)|3,_=>E8 [80] [bj [63,120],bj [120]] 202 (aZ 2)|4,_=>zdy [63,65] _ 203 (aZ 3)|5,_=>VJ _ _ 204 hL (aZ 4)|6,_=>ut [120]|7,_=>zdz [63,116] _ 206 (aZ 6)|8,_=>VK _ _ 207 hL (aZ 7)|9,_=>YZ _ _ 205 208 (aZ 5) (aZ 8)|10,_=>oK rfl|11,_=>oL _ 14 209 rfl (aZ 10) (aZ 9)|k+12,hk=>nk hk) fun A19 γ _Y h=>?_;obtain⟨zdW,zgb,zbI⟩:=h.n3 zdV zga zbH;obtain⟨vz,tz,fz⟩:=h.get 10 _ 14 rfl rfl;obtain⟨SP,q14,lz,zgc⟩:=Fa tz fz (h.did 11 _ rfl rfl) h.inv;have zhg:w.heap.size<=SP:=by have h1:W18.heap.size<=SP:=zgc;have h2:=zbH.size;omega
 have JS:LB (X2 b2 b4) A19 _Y 14 SP q14 _:=lz.next rfl (Kp.refl (M:=cf) _) (fun h=>h) (fun _ _ h=>h) (fun _ h _=>h.1);have fC:b2<_Y.heap.size:=bP fC h.inv.1.size;have lK:b4<_Y.heap.size:=bP lK h.inv.1.size;have uz:=h.ol 3 uz;have Ct:=h.ol 8 Ct;clear h;refine hK _ _ ?_;clear hT hL mv jK;have hT:=mY.next zbI.drew;have hL:∀c,_Y.drew.heap.size<=c->(X2 b2 b4) c:=fun c hc=>by have h:_Y.heap.size<=c:=hc;exact⟨⟨trivial,by omega⟩,by omega⟩
 have mv:∀c,cf c->WB.heap.size<=c:=fun _ h=>h.elim;have jK:∀c,(X2 b2 b4) c->¬cf c:=fun _ _ h=>h;refine dD (fun K hK=>?_);refine kW [fY (X2 b2 b4) (BO [63,65]),_,_,_,_,_,_,_,_,_,_] 8 9 zdW (by kernel_rfl) (by kernel_rfl) (fun|0,_=>Mr [63,65]|1,_=>kV hL _ 211 (aZ 0)|2,_=>pd 9 [120] [BO [63,65]] 212 (aZ 1)|3,_=>JS.drew.ld|4,_=>JN _ _ _ _ aw6 ⟨by decide,by decide⟩ zr 213 214 hT mv hL (aZ 2) (aZ 3)|5,_=>cz _ 215 (aZ 4)|6,_=>jI _ _ 210 (aZ 5)|7,_=>jl (fY (X2 b2 b4) (VE)) [.int .i64 0] 0 (.int .i64 0) rfl 210 (aZ 5)|8,_=>lD rfl|9,_=>lE _ 15 216 rfl (aZ 8) (aZ 6)|10,_=>fA _ 217 (aZ 7)|k+11,hk=>nk hk) fun A20 γ Xb h=>?_;obtain⟨zdX,zgd,zbJ⟩:=h.n3 zdW zgb zbI.drew;obtain⟨vz,tz,fz⟩:=h.get 8 _ 15 rfl rfl;obtain⟨SQ,q15,lz,zdY⟩:=uy tz fz (h.did 9 _ rfl rfl) h.inv;have JT:=JS.drew.nz h;have Y9:SQ≠SP:=by have:=(bQ JS.drew.box);have h:_Y.heap.size<=SQ:=zdY;have h2:SP<_Y.heap.size:=this;omega
 have zeB:SP≠SQ:=fun e=>Y9 e.symm;have zhh:w.heap.size<=SQ:=by have h1:_Y.heap.size<=SQ:=zdY;have h2:=zbI.size;omega
 have Qy:LF (X2 b2 b4) A20 Xb 15 SQ q15 _:=lz.next rfl (Kp.refl (M:=cf) _) (fun h=>h) (fun _ _ h=>h) (fun _ h _=>h.1);have fC:b2<Xb.heap.size:=bP fC h.inv.1.size;have lK:b4<Xb.heap.size:=bP lK h.inv.1.size;have uz:=h.ol 3 uz;have Ct:=h.ol 8 Ct;have V4:=h.gv 10 16;clear h;refine hK _ _ ?_;clear hT hL mv jK;have hT:=mY.next zbJ.drew;have hL:∀c,Xb.drew.heap.size<=c->(X2 b2 b4) c:=fun c hc=>by have h:Xb.heap.size<=c:=hc;exact⟨⟨trivial,by omega⟩,by omega⟩
 have mv:∀c,cf c->WB.heap.size<=c:=fun _ h=>h.elim;have jK:∀c,(X2 b2 b4) c->¬cf c:=fun _ _ h=>h;refine dD (fun K hK=>?_);refine kW [_,_,_,_,_,_,_,_,_] 6 7 zdX (by kernel_rfl) (by kernel_rfl) (fun|0,_=>CZ [63,65] [120] [63,116] hL|1,_=>JT.drew.ld|2,_=>JN _ _ _ _ aw7 ⟨by decide,by decide⟩ zr 219 220 hT mv hL (aZ 0) (aZ 1)|3,_=>cz _ 221 (aZ 2)|4,_=>jI _ _ 218 (aZ 3)|5,_=>jl (fY (X2 b2 b4) (VF)) [.int .i64 0] 0 (.int .i64 0) rfl 218 (aZ 3)|6,_=>lD rfl|7,_=>lE _ 17 222 rfl (aZ 6) (aZ 4)|8,_=>fA _ 223 (aZ 5)|k+9,hk=>nk hk) fun A21 γ SR h=>?_;obtain⟨zdZ,zge,zbK⟩:=h.n3 zdX zgd zbJ.drew;obtain⟨vz,tz,fz⟩:=h.get 6 _ 17 rfl rfl;obtain⟨SS,q17,lz,zbL⟩:=uy tz fz (h.did 7 _ rfl rfl) h.inv;have JU:=JT.drew.nz h;have Qz:=Qy.drew.nz h;have Y':SS≠SP:=by have:=(bQ JT.drew.box);have h:Xb.heap.size<=SS:=zbL;have h2:SP<Xb.heap.size:=this;omega
 have zeC:SP≠SS:=fun e=>Y' e.symm;have Y_:SS≠SQ:=by have:=(bQ Qy.drew.box);have h:Xb.heap.size<=SS:=zbL;have h2:SQ<Xb.heap.size:=this;omega
 have zeD:SQ≠SS:=fun e=>Y_ e.symm;have zhi:w.heap.size<=SS:=by have h1:Xb.heap.size<=SS:=zbL;have h2:=zbJ.size;omega
 have QA:LF (X2 b2 b4) A21 SR 17 SS q17 _:=lz.next rfl (Kp.refl (M:=cf) _) (fun h=>h) (fun _ _ h=>h) (fun _ h _=>h.1);have fC:b2<SR.heap.size:=bP fC h.inv.1.size;have lK:b4<SR.heap.size:=bP lK h.inv.1.size;have uz:=h.ol 3 uz;have Ct:=h.ol 8 Ct;have V4:=h.ol 16 V4;have zbM:=h.gv 8 18;clear h;refine hK _ _ ?_;clear hT hL mv jK;have hT:=mY.next zbK.drew;have hL:∀c,SR.drew.heap.size<=c->(X2 b2 b4) c:=fun c hc=>by have h:SR.heap.size<=c:=hc;exact⟨⟨trivial,by omega⟩,by omega⟩
 have mv:∀c,cf c->WB.heap.size<=c:=fun _ h=>h.elim;have jK:∀c,(X2 b2 b4) c->¬cf c:=fun _ _ h=>h;refine dD (fun K hK=>?_);refine kW [fY (X2 b2 b4) (BO [63,65]),_,_,_,_,_,_,_,_] 6 7 zdZ (by kernel_rfl) (by kernel_rfl) (fun|0,_=>Mr [63,65]|1,_=>JU.drew.ld|2,_=>JN _ _ _ _ aw8 ⟨by decide,by decide⟩ zr 225 226 hT mv hL (aZ 0) (aZ 1)|3,_=>cz _ 227 (aZ 2)|4,_=>jI _ _ 224 (aZ 3)|5,_=>jl (fY (X2 b2 b4) (oN)) [.int .i64 72] 0 (.int .i64 72) rfl 224 (aZ 3)|6,_=>lD rfl|7,_=>lE _ 19 228 rfl (aZ 6) (aZ 4)|8,_=>fA _ 229 (aZ 5)|k+9,hk=>nk hk) fun A22 γ W22 h=>?_;obtain⟨zd0,zgf,zd1⟩:=h.n3 zdZ zge zbK.drew;obtain⟨vz,tz,fz⟩:=h.get 6 _ 19 rfl rfl;obtain⟨ST,q19,lz,Za⟩:=uy tz fz (h.did 7 _ rfl rfl) h.inv;have Zb:=JU.drew.nz h;have Zc:=Qz.drew.nz h;have Zd:=QA.drew.nz h;have Ze:ST≠SP:=by have:=(bQ JU.drew.box);have h:SR.heap.size<=ST:=Za;have h2:SP<SR.heap.size:=this;omega
 have zeE:SP≠ST:=fun e=>Ze e.symm;have Zf:ST≠SQ:=by have:=(bQ Qz.drew.box);have h:SR.heap.size<=ST:=Za;have h2:SQ<SR.heap.size:=this;omega
 have zeF:SQ≠ST:=fun e=>Zf e.symm;have Zg:ST≠SS:=by have:=(bQ QA.drew.box);have h:SR.heap.size<=ST:=Za;have h2:SS<SR.heap.size:=this;omega
 have zeG:SS≠ST:=fun e=>Zg e.symm;have zhj:w.heap.size<=ST:=by have h1:SR.heap.size<=ST:=Za;have h2:=zbK.size;omega
 have zeH:LF (X2 b2 b4) A22 W22 19 ST q19 _:=lz.next rfl (Kp.refl (M:=cf) _) (fun h=>h) (fun _ _ h=>h) (fun _ h _=>h.1);have fC:b2<W22.heap.size:=bP fC h.inv.1.size;have lK:b4<W22.heap.size:=bP lK h.inv.1.size;have uz:=h.ol 3 uz;have Ct:=h.ol 8 Ct;have V4:=h.ol 16 V4;have zbM:=h.ol 18 zbM;have zgg:=h.gv 8 20;clear h;refine hK _ _ ?_;clear hT hL mv jK;have hT:=mY.next zd1.drew;have hL:∀c,W22.drew.heap.size<=c->(X2 b2 b4) c:=fun c hc=>by have h:W22.heap.size<=c:=hc;exact⟨⟨trivial,by omega⟩,by omega⟩
 have mv:∀c,cf c->WB.heap.size<=c:=fun _ h=>h.elim;have jK:∀c,(X2 b2 b4) c->¬cf c:=fun _ _ h=>h;refine dD (fun K hK=>?_);refine kW [_,_,_,_,_,_,_,_,_,_,_,_,_,_,_,_,ix (X2 b2 b4) (bj [120,49]),ix (X2 b2 b4) (bj [120]),_,_,_,_,_,_,_,_,ix (X2 b2 b4) (bj [120]),ix (X2 b2 b4) (bj [120]),_,_,_,_,_,_,_,_,_,_,_,_,_] 41 41 zd0 (by kernel_rfl) (by kernel_rfl) (fun|0,_=>cz (mZ (.int .i64 1)) 8 (qj Ct)|1,_=>jJ rfl 230 (.bool true) (aZ 0)|2,_=>cz _ 231 (aZ 1)|3,_=>cz (mZ (.int .i64 70)) 3 (qj uz) (hw:=wd 2)|4,_=>jJ rfl 233 (.bool true) (aZ 3) (hw:=wd 2)|5,_=>lF rfl 232 234 (.bool true) (aZ 2) (aZ 4)|6,_=>cz _ 235 (aZ 5)|7,_=>cz (mZ (.int .i64 0)) 16 (qj V4) (hw:=wd 6)|8,_=>jJ rfl 237 (.bool true) (aZ 7) (hw:=wd 6)|9,_=>lF rfl 236 238 (.bool true) (aZ 6) (aZ 8)|10,_=>cz _ 239 (aZ 9)|11,_=>cz (mZ (.int .i64 0)) 18 (qj zbM) (hw:=wd 10)|12,_=>jJ rfl 241 (.bool true) (aZ 11) (hw:=wd 10)|13,_=>lF rfl 240 242 (.bool true) (aZ 10) (aZ 12)|14,_=>cz _ 243 (aZ 13)|15,_=>Zc.drew.ld (hw:=wd 14)|16,_=>ut [120,49] (hw:=wd 14)|17,_=>ut [120] (hw:=wd 14)|18,_=>pi hL _ _ 246 247 (aZ 16) (aZ 17) (hw:=wd 14)|19,_=>E8 [80] [bj [120,49],bj [120]] 248 (aZ 18) (hw:=wd 14)|20,_=>kV hL _ 249 (aZ 19) (hw:=wd 14)|21,_=>pd 9 [120,49] [rg [80] [bj [120,49],bj [120]]] 250 (aZ 20) (hw:=wd 14)|22,_=>C0 (VE) (Fm.mk 9 [120,49] [] [rg [80] [bj [120,49],bj [120]]]) ⟨by decide,by decide⟩ 245 251 (aZ 15) (aZ 21) (hw:=wd 14) (hp:=(uR zf4))|23,_=>lF rfl 244 252 (.bool true) (aZ 14) (aZ 22)|24,_=>cz _ 253 (aZ 23)|25,_=>Zd.drew.ld (hw:=wd 24)|26,_=>ut [120] (hw:=wd 24)|27,_=>ut [120] (hw:=wd 24)|28,_=>pi hL _ _ 256 257 (aZ 26) (aZ 27) (hw:=wd 24)|29,_=>E8 [80] [bj [120],bj [120]] 258 (aZ 28) (hw:=wd 24)|30,_=>C0 (VF) (rg [80] [bj [120],bj [120]]) ⟨by decide,by decide⟩ 255 259 (aZ 25) (aZ 29) (hw:=wd 24) (hp:=(uR zf5))|31,_=>lF rfl 254 260 (.bool true) (aZ 24) (aZ 30)|32,_=>cz _ 261 (aZ 31)|33,_=>cz (mZ (.int .i64 72)) 20 (qj zgg) (hw:=wd 32)|34,_=>jJ rfl 263 (.bool true) (aZ 33) (hw:=wd 32)|35,_=>lF rfl 262 264 (.bool true) (aZ 32) (aZ 34)|36,_=>cz _ 265 (aZ 35)|37,_=>Zb.drew.ld (hw:=wd 36)|38,_=>VI _ zr 267 hT mv (aZ 37) (hw:=wd 36) (hp:=(uR aw9))|39,_=>lF rfl 266 268 (.bool true) (aZ 36) (aZ 38)|40,_=>fA _ 269 (aZ 39)|k+41,hk=>nk hk) fun A23 γ W23 h=>?_;obtain⟨zhk,zgh,zgi⟩:=h.n3 zd0 zgf zd1.drew;have fC:b2<W23.heap.size:=bP fC h.inv.1.size;have lK:b4<W23.heap.size:=bP lK h.inv.1.size;have tc:=h.gv 40 0;refine hK _ _ ?_;refine wpIn_ret ?_;refine bX (v:=.bool true) (by simp[results,results12,go_sem,tc]) zgh ⟨rfl,zgi⟩
end
theorem Fb{l:List Tm}(h:eC l=true){t:Tm}(ht:t∈l):lI t=true:=by
 induction l with
 |nil=>cases ht
 |cons u l ih=>
  simp only[eC,ak]at h;exact qfs
theorem Mx{l:List Fm}(h:gy l=true){t:Fm}(ht:t∈l):iV t=true:=by
 induction l with
 |nil=>cases ht
 |cons u l ih=>
  simp only[gy,ak]at h;exact qfs
def zgj(t:Tm):Prop:=∀(u:Tm)(ps:List (aj×aj))(v:Value)(ok ok':Nat->Prop)(w:World)(q q':TQ),ps.length<=1000000000->e7 t->lI t=true->aN ok w q.val t->aN ok' w q'.val u->cw w v ps→
 Calls prog 147 #[q.val,q'.val,v] w fun e w'=>e=.returned (.bool (gP ps.reverse t u))/\Below w.heap.size w w'
theorem My:∀t,zgj t:=by
 intro t
 induction t using Tm.ind with
 |h xv xn xa ih=>
 intro u ps v ok ok' w q q' hps hf CG hq gY hp;exact qcs
theorem Ii:(prog.info? 196).map (fun i=>(i.zero,i.size,i.bytes))=some (some (.agg #[.string ByteArray.empty,.string ByteArray.empty]),2,32):=by kernel_rfl
def zgl(t:Fm):Prop:=∀(u:Fm)(ps:List (aj×aj))(v:Value)(ok ok':Nat->Prop)(w:World)(q q':FQ),ps.length+fL t<=1000000000->cJ t->iV t=true->aC ok w q.val t->aC ok' w q'.val u->cw w v ps→
 Calls prog 83 #[q.val,q'.val,v] w fun e w'=>e=.returned (.bool (cI ps.reverse t u))/\Below w.heap.size w w'
theorem V5:∀t,zgl t:=by
 obtain⟨i0,hi,oO,jv,iG⟩:=info_parts Ii;intro t
 induction t using Fm.ind with
 |h uo xn xa xs ih=>
 intro u ps v ok ok' w q q' hps hf CG hq gY hp;exact qe0
def JV(f g:Fm):Bool:=bw f&&(bw g&&cI [] f g)
theorem R9(W0:World)(f g:Fm)(hf:cJ f)(hg:cJ g)(ok ok':Nat->Prop)(w:World)(ht:gG W0 w)(q q':FQ)(hq:aC ok w q.val f)(gY:aC ok' w q'.val g):
  Calls prog 38 #[q.val,q'.val] w fun e w'=>e=.returned (.bool (JV f g))/\Below w.heap.size w w':=by
 have⟨W2,bp⟩:=az ((w.alloc (.cells #[.int .u8 q.o,.string q.n,.slice q.a q.l q.c,.slice q.b q.m q.e] 36)).alloc (.cells #[.int .u8 q'.o,.string q'.n,.slice q'.a q'.l q'.c,.slice q'.b q'.m q'.e] 36));have hB:=mo bp;have HX:Hd (W2.heap[w.heap.size]?=some (.cells #[.int .u8 q.o,.string q.n,.slice q.a q.l q.c,.slice q.b q.m q.e] 36 (0,0))):=ae (by rw[bp];exact(bZ _ _ _ (by simp)).trans (aq rfl));have HY:Hd (W2.heap[w.heap.size+1]?=some (.cells #[.int .u8 q'.o,.string q'.n,.slice q'.a q'.l q'.c,.slice q'.b q'.m q'.e] 36 (0,0))):=ae (by rw[bp];exact aq (by simp));have C1:=oJ W0 f hf _ W2 (ht.next hB) q (hq.later hB);have C2:=fun(W:World)(h:Below W2.heap.size W2 W)=>oJ W0 g hg _ W ((ht.next hB).next h) q' ((gY.later hB).later h);have C3:=fun(hr:bw f=true)(W:World)(h:Below W2.heap.size W2 W)=>V5 f g [] (.slice none 0 0) _ _ W q q' (by have:=hf.1;simp[fL];omega) hf (oU f (by simp only[bw,ak]at hr;exact hr.1)) ((hq.later hB).later h) ((gY.later hB).later h) (cw.nil W);have⟨b1,hb1⟩:=az (bw f);have⟨b2,bU⟩:=az (bw g);have⟨b3,aS⟩:=az (cI [] f g);unfold JV;simp only[List.reverse_nil]at C3;rw[<-hb1]at C1 C3⊢;rw[<-bU]at C2⊢;rw[<-aS]at C3⊢;clear hb1 bU aS hq gY hf hg ht;have qn6:=();exact qft
mutual
def _Z:Tm->Nat|.mk _ n a=>1+n.length / 40+zs a
def zs:List Tm->Nat|[]=>0|t::l=>_Z t+zs l
end
mutual
def Xc:Fm->Nat|.mk _ n a s=>1+n.length / 40+zs a+zt s
def zt:List Fm->Nat|[]=>0|t::l=>Xc t+zt l
end
mutual
theorem zbN(p:Nat):∀t,kI p t=true->_Z t<=ap t*(1+p / 40)
 |.mk v n a,h=>by
  simp only[kI,ak,bM]at h;have h1:=C4 p a h.2;have h2:n.length / 40<=p / 40:=Nat.div_le_div_right h.1;have e:(af a+1)*(1+p / 40)=af a*(1+p / 40)+(1+p / 40):=by rw[Nat.add_mul,Nat.one_mul]
  unfold _Z ap;omega
theorem C4(p:Nat):∀l,d8 p l=true->zs l<=af l*(1+p / 40)
 |[],_=>by simp[zs]
 |t::l,h=>by
  simp only[d8,ak]at h;have h1:=zbN p t h.1;have h2:=C4 p l h.2;have e:(ap t+af l)*(1+p / 40)=ap t*(1+p / 40)+af l*(1+p / 40):=Nat.add_mul _ _ _;unfold zs af;omega
end
mutual
theorem V6(p:Nat):∀t,mI p t=true->Xc t<=ag t*(1+p / 40)
 |.mk o n a s,h=>by
  simp only[mI,ak,bM]at h;have h1:=C4 p a h.2.2.1;have h3:=JW p s h.2.2.2;have h2:n.length / 40<=p / 40:=Nat.div_le_div_right h.2.1;have e:(af a+ah s+1)*(1+p / 40)=af a*(1+p / 40)+ah s*(1+p / 40)+(1+p / 40):=by rw[Nat.add_mul,Nat.add_mul,Nat.one_mul]
  unfold Xc ag;omega
theorem JW(p:Nat):∀l,eu p l=true->zt l<=ah l*(1+p / 40)
 |[],_=>by simp[zt]
 |t::l,h=>by
  simp only[eu,ak]at h;have h1:=V6 p t h.1;have h2:=JW p l h.2;have e:(ag t+ah l)*(1+p / 40)=ag t*(1+p / 40)+ah l*(1+p / 40):=Nat.add_mul _ _ _;unfold zt ah;omega
end
theorem jE.sz{l:List Tm}(h:jE l):zs l<=100002000000:=aR (C4 _ l h.2) (by have:=h.1;omega)
theorem jp.sz{l:List Fm}(h:jp l):zt l<=100002000000:=aR (JW _ l h.2) (by have:=h.1;omega)
theorem cJ.sz(h:cJ f):Xc f<=100002000000:=aR (V6 _ f h.2) (by have:=h.1;omega)
mutual
def OQ:Tm->Int->Nat|.mk _ n a,left=>1+n.length / 40+kX a left 0
def kX:List Tm->Int->Nat->Nat
 |[],_,n=>n
 |t::r,left,n=>if(n:Int)<=left then kX r left (n+OQ t (left-n))else n
end
mutual
def Fc:Fm->Int->Nat|.mk _ n a s,left=>gA s left (1+n.length / 40+kX a left 0)
def gA:List Fm->Int->Nat->Nat
 |[],_,n=>n
 |t::r,left,n=>if(n:Int)<=left then gA r left (n+Fc t (left-n))else n
end
theorem OR(l:List Tm){n:Nat}(h:¬(n:Int)<=left):kX l left n=n:=by
 cases l<;>simp[kX,h]
theorem BP(l:List Fm){n:Nat}(h:¬(n:Int)<=left):gA l left n=n:=by
 cases l<;>simp[gA,h]
mutual
theorem Zh:∀(t:Tm)(left:Int),OQ t left<=_Z t/\((OQ t left:Int)<=left->OQ t left=_Z t)
 |.mk v n a,left=>by
  have h:=pk a left 0;unfold OQ _Z;constructor
  ·omega
  ·intro h2;have:=h.2.2 (by omega);omega
theorem pk:∀(l:List Tm)(left:Int)(n:Nat),n<=kX l left n/\kX l left n<=n+zs l/\((kX l left n:Int)<=left->kX l left n=n+zs l)
 |[],left,n=>by simp[kX,zs]
 |t::r,left,n=>by
  unfold kX zs
  by_cases hn:(n:Int)<=left
  ·rw[aG hn];have h1:=Zh t (left-n);have h2:=pk r left (n+OQ t (left-n));exact qfu
  ·rw[aw hn];exact⟨aK _,by omega,fun h=>absurd h hn⟩
end
mutual
theorem Zi:∀(t:Fm)(left:Int),Fc t left<=Xc t/\((Fc t left:Int)<=left->Fc t left=Xc t)
 |.mk o n a s,left=>by
  have h:=pk a left 0;have h1:=m5 s left (1+n.length / 40+kX a left 0);unfold Fc Xc;refine⟨by omega,fun h2=>?_⟩;have h3:=h1.2.2 h2;have h4:=h.2.2 (by omega);omega
theorem m5:∀(l:List Fm)(left:Int)(n:Nat),n<=gA l left n/\gA l left n<=n+zt l/\((gA l left n:Int)<=left->gA l left n=n+zt l)
 |[],left,n=>by simp[gA,zt]
 |t::r,left,n=>by
  unfold gA zt
  by_cases hn:(n:Int)<=left
  ·rw[aG hn];have h1:=Zi t (left-n);have h2:=m5 r left (n+Fc t (left-n));exact qfu
  ·rw[aw hn];exact⟨aK _,by omega,fun h=>absurd h hn⟩
end
def QB(l:List Tm):Prop:=∀(ok:Nat->Prop)(w:World)(a:Option Addr)(n c:Nat)(left:Int),jE l->cB ok w (.slice a n c) l->0<=left->left<=1000000000000→
 Calls prog 54 #[.slice a n c,.int .i64 left] w fun e w'=>e=.returned (.int .i64 (kX l left 0))/\Below w.heap.size w w'
theorem V7(n:Nat):Int.tdiv (n:Int) 40=((n / 40:Nat):Int):=by rw[Int.tdiv_eq_ediv_of_nonneg (by omega)];rfl
theorem Mz(l:List Tm)(ih:∀t∈l,QB t.a):QB l:=by
 intro ok w a n c left aI hl h0 h1;obtain rfl:=hl.len;have hlen:=aI.len;have hsz:=aI.sz;exact qe3
theorem R_:∀t:Tm,QB t.a:=by
 intro t
 induction t using Tm.ind with
 |h v n a ih=>exact Mz a ih
theorem V8(l:List Tm):QB l:=Mz l (fun t _=>R_ t)
theorem V9:∀(f:Fm),cJ f->∀(ok:Nat->Prop)(w:World)(q:FQ)(left:Int),aC ok w q.val f->0<=left->left<=1000000000000→
  Calls prog 23 #[q.val,.int .i64 left] w fun e w'=>e=.returned (.int .i64 (Fc f left))/\Below w.heap.size w w':=by
 intro t
 induction t using Fm.ind with
 |h o n a s ih=>
  intro aI ok w q left hq h0 h1;have qn7:=();exact qar
def nP(l:List Fm):Bool:=decide (gA l 500 0<=500)
theorem BR{l:List Fm}(h:nP l=true):zt l<=500:=by
 unfold nP at h;have h1:=(m5 l 500 0).2.2;simp only[bM]at h;have:=h1 (by omega);omega
theorem Ij(l:List Fm)(aI:jp l)(ok:Nat->Prop)(w:World)(a:Option Addr)(n c:Nat)(hl:eL ok w (.slice a n c) l):
  Calls prog 22 #[.slice a n c] w fun e w'=>e=.returned (.bool (nP l))/\Below w.heap.size w w':=by
 obtain rfl:=hl.len;have hlen:=aI.len;have zd3:=aI.sz;have⟨k0,cD⟩:=az l.length;rw[<-cD]at hlen⊢;have⟨dN,HL,HF⟩:=cU cD hl aI;clear cD hl aI;go_enter func22,ntmps22;go_wp2;go_loopw [3,4] (fun r i wr=>∃k m:Nat,k<=k0/\i=.int .i64 k/\r=.int .i64 m/\Below w.heap.size w wr/\gA l 500 0=gA (l.drop k) 500 m/\m<=100002000000) (fun _ i _=>k0-(intOf i).toNat)
 case atStart=>exact⟨0,0,bn _,rfl,rfl,ar _ _,by simp,by omega⟩
 case round=>
  obtain⟨k,m,hk,rfl,rfl,aD,hcut,FG⟩:=hrel
  by_cases hlt:k<k0
  ·by_cases te:(m:Int)<=500
   ·have bA:=cG dN.o hlt;obtain⟨b,off,u,rfl,_,hu,c0,c1,c2,c3⟩:=HL.o.get bA;have δ:l.drop k=l[k]::l.drop (k+1):=iL bA;rw[δ]at hcut;have qn8:=();exact qaK
   ·have LG:decide ((m:Int)<=500)=false:=by simp;omega
    have qn9:=();exact qcG
  ·obtain rfl:k=k0:=by omega
   have hd:l.drop k=[]:=by rw[dN.o];exact List.drop_length
   rw[hd]at hcut;have HE:=ae (show nP l=decide ((m:Int)<=500) by have e:gA l 500 0=m:=hcut;unfold nP;rw[e,iM];simp;omega);have Zj:=ae aD;clear hcut aD hd;go_wp2;go_ret;exact⟨aJ HE.o.symm,Zj.o⟩
section
attribute [local go_sem] Oper.semAt_some
def zgm:gL:=⟨fun _ _ _=>True,fun _ _ _ _ _ _ h=>h⟩
section
variable{ops:Array Oper}{Q:Exit->Act->World->Prop}{a0:Act}{l:List gL}{kA kS k:Nat}{M:Nat->Prop}{w0:World}{md:Region.Mode}{L:Nat->Prop}
theorem Sa(h:v≠.bool b):¬(match some v with|some (Value.bool b)=>some b|_=>none)=some b:=by
 intro e;split at e
 ·rename_i h1;cases h1;cases e;exact h rfl
 ·cases e
theorem Sb{x:Value}(b:Bool)(hx:x≠.bool b)(j:Nat)(hd:iP md ops a0 l kA kS M w0 k o d (fun v _ _=>v=x))(ho:ops[k]?=some o:=by rfl)(hg:o.guard=some (j,b):=by rfl)(hj:ops[j]?=some oj:=by rfl)(MN:oj.dst=some d:=by rfl)(hp:e8 l k=(mZ undef).p\/e8 l k=zgm.p):dC md ops Q a0 l kA kS M w0 k:=by
 exact qbi
theorem OS(b:Bool)(j:Nat)(hd:iP md ops a0 l kA kS M w0 k o d (fun v _ _=>v=.bool (!b)))(ho:ops[k]?=some o:=by rfl)(hg:o.guard=some (j,b):=by rfl)(hj:ops[j]?=some oj:=by rfl)(MN:oj.dst=some d:=by rfl)(hp:e8 l k=(mZ undef).p:=by rfl):dC md ops Q a0 l kA kS M w0 k:=
 Sb b (by cases b<;>simp) j hd ho hg hj MN (.inl hp)
theorem Wc{Wb:World}(hT:gG Wb w0)(hM:∀b,M b->Wb.heap.size<=b){gu:Option (Nat×Bool)}(ho:ops[k]?=some o:=by rfl)(eo:o=⟨some d,.call ⟨.value (.func 12),#[],Cs⟩,ty,pos,fw,gu⟩:=by rfl)(hw:Wt md ops a0 l kA kS M w0 k o:=by exact fun _ _ _ _=>rfl)(hp:e8 l k=(mZ (.bool true)).p:=by rfl):dC md ops Q a0 l kA kS M w0 k:=
 by subst eo;exact fF hw ho rfl 12 (fun a γ w bq=>by
  refine⟨#[],by go_simp,(R4 Wb w (hT.kp bq.inv.1 hM)).mono ?_⟩;rintro e w' ⟨rfl,hb⟩;exact⟨⟨_,rfl,by rw[hp];rfl⟩,hb⟩)
end
def vA(lo:Nat)(v:Value)(ts:List Fm)(W:World):Prop:=
 ∃qs:List FQ,qs.length=ts.length/\W.ownsRow lo 36 4 v ts.length (qs.flatMap FQ.cells)/\∀j (h:j<qs.length) (h2:j<ts.length),aC (fun b=>v.ownBlock≠some b) W qs[j].val ts[j]
theorem vA.nil(lo:Nat)(W:World):vA lo (.slice none 0 0) [] W:=⟨[],rfl,World.ownsRow_nil _ _ _ _,fun j h=>by simp at h⟩
theorem vA.slice(h:vA lo v ts W):∃a c,v=.slice a ts.length c:=by
 exact qcz
theorem vA.forms(h:vA lo v ts W):eL (fun _=>True) W v ts:=by
 exact qca
theorem vA.step{g cap k:Nat}{fs:List Fm}{W1:World}{qs ps:List FQ}(hk:qs.length=ts.length)(hp:ps.length=fs.length)(hb:Below W.heap.size W W1)
  (ht:∀j (h:j<qs.length) (h2:j<ts.length),aC (fun b=>v.ownBlock≠some b) W qs[j].val ts[j]) (hq:∀j (h:j<ps.length) (h2:j<fs.length),aC (fun b=>v.ownBlock≠some b) W1 ps[j].val fs[j])
  (aV:w4.ownsRow lo 36 4 (.slice (some ⟨g,0,none⟩) k cap) k (qs.flatMap FQ.cells++ps.flatMap FQ.cells)) (ke:k=ts.length+fs.length)
  (au:W1.grownBy w4 v.ownBlock) (hg:v.ownBlock=some g\/W1.heap.size<=g):vA lo (.slice (some ⟨g,0,none⟩) k cap) (ts++fs) w4:=by
 have hs:=hb.size;have vw:∀c,c<W1.heap.size->v.ownBlock≠some c->(Value.slice (some ⟨g,0,none⟩) k cap).ownBlock≠some c:=fun c hc hn e=>by
  injection e with e;obtain rfl:g=c:=e;rcases hg with hg|hg
  ·exact hn hg
  ·omega
 refine⟨qs++ps,by simp[hk,hp],by rw[List.flatMap_append,ei,<-ke];exact aV,fun j h1 h2=>?_⟩
 by_cases hj:j<qs.length
 ·rw[List.getElem_append_left hj,List.getElem_append_left (by omega)];exact(ht j hj (by omega)).move (fun b hok hlt=>⟨vw b (by omega) hok,(au.block b (by omega) (fun e=>hok e.symm)).trans (hb.block b hlt)⟩)
 ·rw[List.getElem_append_right (by omega),List.getElem_append_right (by omega)];simp only[hk];refine(hq (j-ts.length) (by simp at h1;omega) (by simp at h2;omega)).move (fun b hok hlt=>⟨vw b hlt hok,au.block b hlt (fun e=>hok e.symm)⟩)
theorem qk{F:Fence}{n:Nat}{Q:Exit->Act->World->Prop}{K:Act->World->Prop}(s x:Operand)(ho:o.op=.call {callee:=.builtin .append,args:=#[s,x],argTypes:=#[34,34] })
  (lo:Nat) (ra:Option Addr) (m rc:Nat) (ts fs:List Fm) (ps:List FQ) (wr V:World) (cs:Array Value) (ea:vA lo (.slice ra m rc) ts wr) (hm:ts.length=m) (hV:Below wr.heap.size wr V) (hlo:lo<=wr.heap.size) (hp:ps.length=fs.length) (qN:0<ps.length)
  (hq:∀j (h:j<ps.length) (h2:j<fs.length),aC (fun b=>(Value.slice ra m rc).ownBlock≠some b) V ps[j].val fs[j]) (hs:a.eval s=.slice ra m rc) (hx:a.eval x=.slice (some ⟨V.heap.size,0,none⟩) ps.length ps.length)
  (hcs:cs.toList=ps.flatMap FQ.cells) (zhl:m+ps.length<=4000000)
  (h:∀g cap w',vA lo (.slice (some ⟨g,0,none⟩) (m+ps.length) cap) (ts++fs) w'->(∀w0:World,Below w0.heap.size w0 V->w0.heap.size<=lo->Below w0.heap.size w0 w')->K (a.put o.dst (.slice (some ⟨g,0,none⟩) (m+ps.length) cap)) w'):
  o.wpIn F n prog a (V.alloc (.cells cs 36)) K Q:=by
 obtain⟨i0,hi,oO,jv,iG⟩:=info_parts ju;obtain⟨qs,eJ,aE,gM⟩:=ea;rw[hm]at eJ aE;have hsz:=hV.size;have hb1:Below wr.heap.size wr (V.alloc (.cells cs 36)):=hV.alloc hV.size _;have Ku:∀l:List FQ,(l.flatMap FQ.cells).length=l.length*4:=fun l=>by
  induction l with
  |nil=>rfl
  |cons x l ih=>simp only[List.flatMap_cons,ei,ih,fB,FQ.cells,List.length_nil];omega
 have zhm:cs=(ps.flatMap FQ.cells).toArray:=by rw[<-hcs]
 refine bz s x 34 ho lo 36 i0 (.agg #[.int .u8 0,.string ByteArray.empty,.slice none 0 0,.slice none 0 0]) 4 72 underlying34 hi oO jv iG rfl (by decide) (.slice ra m rc) m _ hs (bh aE (fun b _ hlt=>hb1.block b hlt)) ⟨V.heap.size,0,none⟩ ps.length ps.length (ps.flatMap FQ.cells) hx (Ku ps)
  (by rw[<-hcs];exact da (cs:=cs) (t:=36) (fr:=(0,0)) (fR V _)) ?_ qN (by unfold maxLen;omega) (by omega) (by simp;omega) (V.heap.size+1) (by simp) ?_
 ·intro u hu;obtain⟨z,_,hz⟩:=List.mem_flatMap.1 hu;simp only[FQ.cells,dc,List.not_mem_nil,or_false]at hz;rcases hz with rfl|rfl|rfl|rfl<;>rfl
 ·intro g eP w4 aV au hg _;refine h g eP w4 (vA.step (eJ.trans hm.symm) hp hb1 (fun j h1 h2=>gM j h1 h2) (fun j h1 h2=>(hq j h1 h2).move (fun c hc hlt=>⟨hc,bZ _ _ _ hlt⟩)) aV (by rw[hm,hp]) au (by rcases hg with h|h;exact .inl h;exact .inr (by simp;omega))) (fun w0 h0 hw0=>?_);exact(h0.alloc h0.size _).grown au (by have:=h0.size;simp;omega) (fun c hc=>aR hw0 (aE.lt c hc).1)
def JX(l:List (Fm×Fm)):Bool:=decide (l.length<=8)&&nP (cP (l.take 9))
theorem xk(l:List (Fm×Fm)):(cP l).length=2*l.length:=by
 induction l with
 |nil=>rfl
 |cons x l ih=>simp[cP]at ih⊢;omega
theorem MA{l:List (Fm×Fm)}{k:Nat}(h:k<l.length):cP (l.take (k+1))=cP (l.take k)++[l[k].1,l[k].2]:=by
 rw[lq h];simp only[cP,List.flatMap_append,List.flatMap_cons,List.flatMap_nil,List.append_nil]
theorem Sc{a b:List Fm}(h:jp (a++b)):jp a:=by
 obtain⟨h1,h2⟩:=h
 induction a with
 |nil=>exact⟨by simp[ah],by simp[eu]⟩
 |cons x a ih=>
  simp only[lL,ah,eu,ak]at h1 h2;have:=ih (by omega) h2.2;refine⟨?_,by simp[eu,h2.1,this.2]⟩;have e:∀c d:List Fm,ah (c++d)=ah c+ah d:=fun c d=>by
   induction c with
   |nil=>simp[ah]
   |cons y c ihc=>simp only[lL,ah,ihc];omega
  rw[e]at h1;simp only[ah];omega
theorem OT{l:List (Fm×Fm)}(h:jp (cP l))(k:Nat):jp (cP (l.take k)):=by
 have e:cP l=cP (l.take k)++cP (l.drop k):=by
  simp only[cP];rw[<-List.flatMap_append,List.take_append_drop]
 rw[e]at h;exact Sc h
theorem Zk(l:List (Fm×Fm))(aI:jp (cP l))(ok:Nat->Prop)(w:World)(la:Option Addr)(lc:Nat)(hl:dZ ok w (.slice la l.length lc) l):
  Calls prog 13 #[.slice la l.length lc] w fun e w'=>e=.returned (.bool (JX l))/\Below w.heap.size w w':=by
 have hln:2*l.length<=2000000:=by have:=aI.len;rw[xk]at this;exact this
 have I3:=hl.move (ok':=fun b=>b<w.heap.size) (fun b _ hlt=>⟨hlt,rfl⟩);have⟨R,hR⟩:=az (JX l);rw[<-hR];have⟨n1,eB⟩:=az l.length;rw[<-eB]at I3 hln⊢;obtain⟨i0,hi,oO,jv,iG⟩:=info_parts ju;have⟨HN,Cj,HLV,HF⟩:=f8 eB hR I3 aI;clear hl I3 eB hR aI;go_enter func13,ntmps13;go_wp2;go_loopw [3,4] (fun r i wr=>∃k:Nat,k<=n1/\k<=9/\i=.int .i64 k/\vA w.heap.size r (cP (l.take k)) wr/\Below w.heap.size w wr) (fun _ i _=>n1-(intOf i).toNat)
 case atStart=>exact⟨0,bn _,by omega,rfl,vA.nil _ _,ar _ _⟩
 case round=>
  obtain⟨k,hk,hk9,rfl,hR,aD⟩:=hrel;obtain⟨ra,rc,rfl⟩:=hR.slice
  by_cases hlt:k<n1/\k<9
  ·have bA:k<l.length:=by rw[<-HN.o];exact hlt.1
   obtain⟨b,off,p,q,rfl,hok,hp,hq,c0,c1,c2,c3,c4,c5,c6,c7⟩:=HLV.o.get bA;have hm:(cP (l.take k)).length=2*k:=by rw[xk,dO];omega
   rw[hm]at hR⊢;have Cu:(k:Int)<(n1:Int):=by omega
   have hkj:(k:Int)<9:=by omega
   have⟨wz,hwz⟩:=az wr;subst hwz;obtain⟨S,hS⟩:∃S:World->Prop,S=fun V=>Below w.heap.size w V:=⟨_,rfl⟩;have ff:∀V,S V->V.cell? ⟨b,off+k*8,none⟩=some (.int .u8 p.o)/\V.cell? ⟨b,off+k*8+1,none⟩=some (.string p.n)/\V.cell? ⟨b,off+k*8+2,none⟩=some (.slice p.a p.l p.c)/\V.cell? ⟨b,off+k*8+3,none⟩=some (.slice p.b p.m p.e):=fun V h=>by
    rw[hS]at h;exact⟨aa h c0,aa h c1,aa h c2,aa h c3⟩
   have fg:∀V,S V->V.cell? ⟨b,off+k*8+4,none⟩=some (.int .u8 q.o)/\V.cell? ⟨b,off+k*8+5,none⟩=some (.string q.n)/\V.cell? ⟨b,off+k*8+6,none⟩=some (.slice q.a q.l q.c)/\V.cell? ⟨b,off+k*8+7,none⟩=some (.slice q.b q.m q.e):=fun V h=>by
    rw[hS]at h;exact⟨aa h c4,aa h c5,aa h c6,aa h c7⟩
   have dW:S wz.drew:=by rw[hS];exact aD.drew
   have HP:=aM (hp.later aD) (hq.later aD);have⟨HB,HR,c9,HM⟩:=f8 aD hR hS hm;clear hS hR aD hp hq c0 c1 c2 c3 c4 c5 c6 c7 hm;go_wp2;refine(wpIn_wide (n:=3)).1 ?_;have jq:=fP;refine lM S 14 dW fun jO b_=>?_;refine bH 0 15 (.slice ra (2*k:Nat) rc) rfl b_ fun cK=>?_;simp only[am];refine bH 1 16 (.slice (some ⟨b,off,none⟩) n1 lc) rfl b_ fun cK=>?_;simp only[am];refine bH 2 17 (.int .i64 k) rfl b_ fun cK=>?_;simp only[am];refine bH 3 18 (.pointer (some ⟨b,off+k*8,none⟩)) rfl b_ fun cK=>?_;simp only[am];refine bH 4 19 (.pointer (some ⟨b,off+k*8,none⟩)) rfl b_ fun cK=>?_;simp only[am];refine di 5 20 (.agg #[.int .u8 p.o,.string p.n,.slice p.a p.l p.c,.slice p.b p.m p.e]) rfl (fun V hX=>by obtain⟨g0,g1,g2,g3⟩:=ff V hX;go_simp) b_ fun cK=>?_;simp only[am];refine bH 6 21 (.slice (some ⟨b,off,none⟩) n1 lc) rfl b_ fun cK=>?_;simp only[am];refine bH 7 22 (.int .i64 k) rfl b_ fun cK=>?_;simp only[am];refine bH 8 23 (.pointer (some ⟨b,off+k*8,none⟩)) rfl b_ fun cK=>?_;simp only[am];refine bH 9 24 (.pointer (some ⟨b,off+k*8+4,none⟩)) rfl b_ fun cK=>?_;simp only[am];refine di 10 25 (.agg #[.int .u8 q.o,.string q.n,.slice q.a q.l q.c,.slice q.b q.m q.e]) rfl (fun V hX=>by obtain⟨g0,g1,g2,g3⟩:=fg V hX;go_simp) b_ fun cK=>?_;have qoa:=();exact qbt
  ·have hm:(cP (l.take k)).length=2*k:=by rw[xk,dO];have:=HN.o;omega
   have ht9:cP (l.take k)=cP (l.take 9):=by
    congr 1
    by_cases h9:k=9
    ·rw[h9]
    ·rw[gB (by have:=HN.o;omega),gB (by have:=HN.o;omega)]
   rw[hm]at hR⊢;have Wd:=hR.forms;rw[ht9]at Wd;have pM:JX l=(decide (n1<=8)&&nP (cP (l.take 9))):=by unfold JX;rw[HN.o]
   have CS:=Ij (cP (l.take 9)) (OT HF.o 9) _ wr ra _ rc Wd;have⟨vQ,HB⟩:=bi CS aD;have TC:=ae (Cj.o.trans pM);clear hR Wd CS aD hm ht9 pM
   by_cases fC:k<n1
   ·obtain rfl:k=9:=by omega
    have h8:decide ((n1:Int)<=8)=false:=by simp;omega
    have Cu:((9:Nat):Int)<(n1:Int):=by omega
    have HE:=ae (show R=false by rw[TC.o,show decide (n1<=8)=false by simp;omega];rfl);go_wp2;go_ret;exact⟨by rw[HE.o];rfl,HB.o⟩
   ·obtain rfl:k=n1:=by omega
    by_cases h8:k<=8
    ·have h8':decide ((k:Int)<=8)=true:=by simp;omega
     have HE:=ae (show R=nP (cP (l.take 9)) by rw[TC.o,show decide (k<=8)=true by simp;omega];rfl);have an:=();exact qfv
    ·have h8':decide ((k:Int)<=8)=false:=by simp;omega
     have HE:=ae (show R=false by rw[TC.o,show decide (k<=8)=false by simp;omega];rfl);go_wp2;go_ret;exact⟨by rw[HE.o];rfl,HB.o⟩
def mm(b:List (aj×Fm)):List Fm:=b.flatMap fun x=>[x.2,.mk 1 x.1 [] []]
def nG(b:List (aj×Tm)):List Fm:=b.map fun x=>.mk 1 x.1 [x.2] []
def pt(b:Bd):Bool:=decide (b.fs.length<=10)&&(decide (b.ts.length<=10)&&nP (mm b.fs++nG b.ts))
theorem zu(l:List (aj×Fm)):(mm l).length=2*l.length:=by
 induction l with
 |nil=>rfl
 |cons x l ih=>simp[mm]at ih⊢;omega
theorem Sd{l:List (aj×Fm)}{k:Nat}(h:k<l.length):mm (l.take (k+1))=mm (l.take k)++[l[k].2,.mk 1 l[k].1 [] []]:=by
 rw[lq h];simp only[mm,List.flatMap_append,List.flatMap_cons,List.flatMap_nil,List.append_nil]
theorem Se{l:List (aj×Tm)}{k:Nat}(h:k<l.length):nG (l.take (k+1))=nG (l.take k)++[.mk 1 l[k].1 [l[k].2] []]:=by
 rw[lq h];simp only[nG,List.map_append,cM,List.map_nil]
theorem OU(bd:Bd)(hf1:bd.fs.length<=1000000)(YH:bd.ts.length<=1000000)(aI:bd.fs.length<=10->bd.ts.length<=10->jp (mm bd.fs++nG bd.ts))(ok:Nat->Prop)(w:World)(q:BQ)(hq:fH ok w q bd):
  Calls prog 14 #[q.val] w fun e w'=>e=.returned (.bool (pt bd))/\Below w.heap.size w w':=by
 have ε:=hq.move (ok':=fun b=>b<w.heap.size) (fun b _ hlt=>⟨hlt,rfl⟩);have⟨R,hR⟩:=az (pt bd);rw[<-hR];have⟨n1,eB⟩:=az bd.fs.length;have⟨n2,jY⟩:=az bd.ts.length;obtain⟨qa,ql,qc,qb,qm,qe⟩:=q;obtain rfl:=ε.1.len;obtain rfl:=ε.2.len;have hq1:et (fun b=>b<w.heap.size) w (.slice qa bd.fs.length qc) bd.fs:=ε.1;have FI:eI (fun b=>b<w.heap.size) w (.slice qb bd.ts.length qe) bd.ts:=ε.2;rw[<-eB]at hq1;rw[<-jY]at FI;obtain⟨i0,hi,oO,jv,iG⟩:=info_parts ju;have⟨W1,cC⟩:=az (w.alloc (.cells #[.slice qa n1 qc,.slice qb n2 qe] 26));have jN:=dj cC;have x1:=cA cC;have e0:W1.cell? ⟨w.heap.size,0,none⟩=some (.slice qa n1 qc):=aT x1 0;have e1:W1.cell? ⟨w.heap.size,1,none⟩=some (.slice qb n2 qe):=aT x1 1;have kf:=bS jN e0 e1;have⟨ζ,sU,Cb,Cj⟩:=f8 cC eB jY hR;have HQV:=aM hq1 FI;have lH:=ae aI;rw[cC]at e0 e1;clear hq ε hq1 FI hR aI eB jY cC jN x1;simp only[BQ.val];rw[<-sU.o,<-Cb.o]
 by_cases h10:n1<=10
 case neg=>
  have t1:decide ((10:Int)<(n1:Int))=true:=by simp;omega
  have HE:=ae (show R=false by rw[Cj.o];unfold pt;rw[<-sU.o];simp[h10]);have qfw:=();exact qcH
 have t1:decide ((10:Int)<(n1:Int))=false:=by simp;omega
 by_cases h20:n2<=10
 case neg=>
  have t2:decide ((10:Int)<(n2:Int))=true:=by simp;omega
  have HE:=ae (show R=false by rw[Cj.o];unfold pt;rw[<-Cb.o];simp[h20]);have qfw:=();exact qcH
 have t2:decide ((10:Int)<(n2:Int))=false:=by simp;omega
 have HE:=ae (show R=nP (mm bd.fs++nG bd.ts) by rw[Cj.o];unfold pt;rw[<-sU.o,<-Cb.o];simp[h10,h20]);have _q:=ae (lH.o (by rw[<-sU.o];exact h10) (by rw[<-Cb.o];exact h20));exact qcH
section
variable{F:Fence}{n:Nat}{P:Program}{ops:Array Oper}{Q:Exit->Act->World->Prop}{md:Region.Mode}{S:World->Prop}{e:Nat}
theorem OV(i d:Nat)(hi:ops[i]?=some oi)(hS:S w)
  (h:S w->ee F n P md ops Q S e dl (listed.setIfInBounds i true) {a with tmps:=a.tmps.setIfInBounds d undef } w)
  (tf:jS F ops:=by assumption)
  (hs:(Region.noSelect ops&&(Region.free md ops listed i&&((Region.ready md ops listed).contains i&&(Gy md ops e i&&uC md ops listed))))=true:=by kernel_rfl)
  (hQ:∀c a w,Q (.panic c) (a.put oi.dst undef) w->Q (.panic c) a w:=by exact fun _ _ _ h=>h) (zR:oi.dst=some d:=by rfl) (hw:Region.wanted oi (yielded ops a.tmps)=false:=by rfl)
  (FN:∀w,oi.about P w a.eval=none:=by exact fun _=>rfl):ee F n P md ops Q S e (dl+1) listed a w:=
 zcg d tf hi hs hQ zR hw FN hS h
theorem nnA(i d:Nat)(hi:ops[i]?=some oi)(hS:S w)
  (h:S w->ee F n P md ops Q S e dl (listed.setIfInBounds i true) {a with tmps:=a.tmps.setIfInBounds d undef } w) (hF:∀f,F.fn f:=by exact fun _=>trivial)
  (hr:Region.ready md ops listed=[i]:=by kernel_rfl) (zR:oi.dst=some d:=by rfl) (hw:Region.wanted oi (yielded ops a.tmps)=false:=by rfl):ee F n P md ops Q S e (dl+1) listed a w:=
 zch d hi hr zR hw (fun f _=>hF f) hS h
theorem twM(i j:Nat)(hi:ops[i]?=some oi)(hj:ops[j]?=some oj)
  (h1:∀K:Act->World->Prop,(∀a w,(i<e->S w)->((i<e->S w)->ee F n P md ops Q S e dl (listed.setIfInBounds i true) a w)->K a w)->Oper.wpIn F n P oi a w K Q)
  (h2:∀K:Act->World->Prop,(∀a w,(j<e->S w)->((j<e->S w)->ee F n P md ops Q S e dl (listed.setIfInBounds j true) a w)->K a w)->Oper.wpIn F n P oj a w K Q)
  (hr:Region.ready md ops listed=[i,j]:=by kernel_rfl) (hwi:Region.wanted oi (yielded ops a.tmps)=true:=by rfl) (X9:Region.wanted oj (yielded ops a.tmps)=true:=by rfl):ee F n P md ops Q S e (dl+1) listed a w:=by
 exact qe1
end
theorem Fd{ok:Nat->Prop}{X:World}{B c:Nat}{p:TQ}{f:Tm}(h:aN ok X p.val f)(hB:ok B)(hx:X.heap[B]?=some (.cells #[.bool p.v,.string p.n,.slice p.a p.l p.c] 43 (0,0))):cB ok X (.slice (some ⟨B,0,none⟩) 1 c) [f]:=
 ⟨_,c,fun _=>p.val,rfl,.inr ⟨B,0,rfl,hB,fun j hj=>by
  obtain rfl:j=0:=by simpa using hj
  exact⟨_,_,_,rfl,n8 hx⟩⟩,fun j hj=>by
  obtain rfl:j=0:=by simpa using hj
  exact h⟩
open Classical in
noncomputable def sameB (x y:Bd):Bool:=decide (x=y)
theorem Ik{x y:Bd}:sameB x y=true↔x=y:=by simp[sameB]
theorem sk{l m:List α}{k:Nat}(h:l.take k=m.take k)(hl:k<l.length)(hm:k<m.length)(e:l[k]=m[k]):l.take (k+1)=m.take (k+1):=by
 rw[lq hl,lq hm,h,e]
theorem Sf(x y:Bd)(hx1:x.fs.length<=1000000)(hx2:x.ts.length<=1000000)(hfx:∀f∈x.fs,cJ f.2)(htx:∀t∈x.ts,e7 t.2)(ok ok':Nat->Prop)(w:World)(q q':BQ)(hq:fH ok w q x)(gY:fH ok' w q' y):
  Calls prog 21 #[q.val,q'.val] w fun e w'=>e=.returned (.bool (sameB x y))/\Below w.heap.size w w':=by
 have⟨R,hR⟩:=az (sameB x y);have N8:R=true↔x=y:=by rw[hR];exact Ik
 rw[<-hR];clear hR;have qoc:=();exact qfx
section
variable{ops:Array Oper}{Q:Exit->Act->World->Prop}{a0:Act}{l:List gL}{kA kS k:Nat}{M:Nat->Prop}{w0:World}{md:Region.Mode}{L:Nat->Prop}
theorem OW(ps:List (Fm×Fm))(hf:jp (cP ps))(x:Nat){gu:Option (Nat×Bool)}(hx:iP md ops a0 l kA kS M w0 k o x (xj L ps))(ho:ops[k]?=some o:=by rfl)(eo:o=⟨some d,.call ⟨.value (.func 13),#[.tmp x],Cs⟩,ty,pos,fw,gu⟩:=by rfl)(hw:Wt md ops a0 l kA kS M w0 k o:=by exact fun _ _ _ _=>rfl)(hp:e8 l k=(mZ (.bool (JX ps))).p:=by rfl):dC md ops Q a0 l kA kS M w0 k:=
 by subst eo;exact fF hw ho rfl 13 (fun a γ w bq=>by
  obtain⟨vx,ex,fx⟩:=hx.is bq;obtain⟨ax,cx,rfl,hx⟩:=fx;refine⟨#[.slice ax ps.length cx],by go_simp,(Zk ps hf _ w ax cx hx).mono ?_⟩;rintro e w' ⟨rfl,hb⟩;exact⟨⟨_,rfl,by rw[hp];rfl⟩,hb⟩)
theorem Il(b:Bd)(h1:b.fs.length<=1000000)(h2:b.ts.length<=1000000)(hf:b.fs.length<=10->b.ts.length<=10->jp (mm b.fs++nG b.ts))(x:Nat){gu:Option (Nat×Bool)}(hx:iP md ops a0 l kA kS M w0 k o x (l_ L b))(ho:ops[k]?=some o:=by rfl)(eo:o=⟨some d,.call ⟨.value (.func 14),#[.tmp x],Cs⟩,ty,pos,fw,gu⟩:=by rfl)(hw:Wt md ops a0 l kA kS M w0 k o:=by exact fun _ _ _ _=>rfl)(hp:e8 l k=(mZ (.bool (pt b))).p:=by rfl):dC md ops Q a0 l kA kS M w0 k:=
 by subst eo;exact fF hw ho rfl 14 (fun a γ w bq=>by
  obtain⟨vx,ex,fx⟩:=hx.is bq;obtain⟨qx,rfl,hx⟩:=fx;refine⟨#[qx.val],by go_simp,(OU b h1 h2 hf _ w qx hx).mono ?_⟩;rintro e w' ⟨rfl,hb⟩;exact⟨⟨_,rfl,by rw[hp];rfl⟩,hb⟩)
theorem uA(ps:List (Fm×Fm))(x:Nat)(la:Option Addr)(lc:Nat)(P:dZ (mt L w0) w0 (.slice la ps.length lc) ps)(hM:∀c,L c->¬M c){gu:Option (Nat×Bool)}(hx:iP md ops a0 l kA kS M w0 k o x (fun v _ _=>v=.slice la ps.length lc))(ho:ops[k]?=some o:=by rfl)(eo:o=⟨some d,.move (.tmp x),ty,pos,fw,gu⟩:=by rfl)(hw:Wt md ops a0 l kA kS M w0 k o:=by exact fun _ _ _ _=>rfl)(hp:e8 l k=(OI L ps).p:=by rfl):dC md ops Q a0 l kA kS M w0 k:=
 by subst eo;have hp:e8 l k=xj L ps:=hp;exact fM hw ho rfl (fun a γ w bq=>by
  obtain⟨vx,ex,rfl⟩:=hx a γ w bq;exact⟨.slice la ps.length lc,by go_simp,by rw[hp];exact⟨la,lc,rfl,(P.move (mt.at hM)).move (nu.old bq.inv)⟩⟩)
theorem QC(f:Fm)(x:Nat)(b off:Nat)(q:FQ)(hf:aC (mt L w0) w0 q.val f)(c0:w0.cell? ⟨b,off,none⟩=some (.int .u8 q.o))(c1:w0.cell? ⟨b,off+1,none⟩=some (.string q.n))(c2:w0.cell? ⟨b,off+2,none⟩=some (.slice q.a q.l q.c))(c3:w0.cell? ⟨b,off+3,none⟩=some (.slice q.b q.m q.e))(hb:¬M b)(hM:∀c,L c->¬M c){gu:Option (Nat×Bool)}(hx:iP md ops a0 l kA kS M w0 k o x (fun v _ _=>v=.pointer (some ⟨b,off,none⟩)))(ho:ops[k]?=some o:=by rfl)(eo:o=⟨some d,.load 36 (.tmp x),ty,pos,fw,gu⟩:=by rfl)(hw:Wt md ops a0 l kA kS M w0 k o:=by exact fun _ _ _ _=>rfl)(hp:e8 l k=(fY L f).p:=by rfl):dC md ops Q a0 l kA kS M w0 k:=
 by subst eo;have hp:e8 l k=gV L f:=hp;exact fM hw ho rfl (fun a γ w bq=>by
  obtain⟨vx,ex,rfl⟩:=hx a γ w bq;have C:=fun i v (h:w0.cell? ⟨b,i,none⟩=some v)=>bq.inv.1.cell (a:=⟨b,i,none⟩) hb h;have c0:=C _ _ c0;have c1:=C _ _ c1;have c2:=C _ _ c2;have c3:=C _ _ c3;exact⟨FQ.val q,by simp only[FQ.val];go_simp,by rw[hp];exact⟨q,rfl,(hf.move (mt.at hM)).move (nu.old bq.inv)⟩⟩)
end
theorem np.more{m:Nat}{xs:List aj}{D:DataW Unit}(x:aj)(aE:W.ownsMap prog 9 (plainElem prog 4) m xs.length D)(uZ:∀x:aj,Maps.has D (.string x)=true↔x∈xs)(ws:∀x∈xs,∀d,D.atKey (.string x) d=.lit (.bool true))
  (h4:w4.ownsMap prog 9 (plainElem prog 4) m (xs.length+1) (D.put (.string x) (.lit (.bool true)))):np w4 m (xs++[x]).length (xs++[x]):=by
 have hM:=aE.isMap;refine⟨_,by rw[ei];exact h4,fun y=>?_,fun y hym d=>?_⟩
 ·by_cases hy:y=x
  ·subst hy;rw[Maps.has_put_same hM (by simp[WideAt.IsKeyLit])];simp
  ·rw[Maps.has_put_other (fun h=>hy (by injection h)),uZ];simp[hy]
 ·by_cases hy:y=x
  ·subst hy;rw[Maps.atKey_put_same hM (by simp[WideAt.IsKeyLit])]
  ·rw[Maps.atKey_put_other (fun h=>hy (by injection h))];exact ws y (by simpa[hy]using hym) d
section
variable{ops:Array Oper}{Q:Exit->Act->World->Prop}{a0:Act}{l:List gL}{kA kS k:Nat}{M:Nat->Prop}{w0:World}{md:Region.Mode}{L:Nat->Prop}
theorem Im(b:Bool)(x:Nat){gu:Option (Nat×Bool)}(hx:iP md ops a0 l kA kS M w0 k o x (fun v _ _=>v=.bool b))(ho:ops[k]?=some o:=by rfl)(eo:o=⟨some d,.unOp .not T (.tmp x),ty,pos,fw,gu⟩:=by rfl)(hw:Wt md ops a0 l kA kS M w0 k o:=by exact fun _ _ _ _=>rfl)(hp:e8 l k=(mZ (.bool (!b))).p:=by rfl):dC md ops Q a0 l kA kS M w0 k:=
 by subst eo;exact fM hw ho rfl (fun a γ w bq=>by
  obtain⟨v0,e0,h0⟩:=hx a γ w bq;rw[h0]at e0;have f0:=bL e0;exact⟨.bool (!b),by go_simp,by rw[hp];rfl⟩)
theorem iK(u:Value)(x:Nat){gu:Option (Nat×Bool)}(hx:iP md ops a0 l kA kS M w0 k o x (fun v _ _=>v=u))(ho:ops[k]?=some o:=by rfl)(eo:o=⟨some d,.move (.tmp x),ty,pos,fw,gu⟩:=by rfl)(hw:Wt md ops a0 l kA kS M w0 k o:=by exact fun _ _ _ _=>rfl)(hp:e8 l k=(mZ (u)).p:=by rfl):dC md ops Q a0 l kA kS M w0 k:=
 by subst eo;exact fM hw ho rfl (fun a γ w bq=>by
  obtain⟨v0,e0,h0⟩:=hx a γ w bq;rw[h0]at e0;have f0:=bL e0;exact⟨u,by go_simp,by rw[hp];rfl⟩)
theorem xm(u:Value)(x:Nat){gu:Option (Nat×Bool)}(hx:iP md ops a0 l kA kS M w0 k o x (fun v _ _=>v=u))(ho:ops[k]?=some o:=by rfl)(eo:o=⟨some d,.assign (.tmp x),ty,pos,fw,gu⟩:=by rfl)(hw:Wt md ops a0 l kA kS M w0 k o:=by exact fun _ _ _ _=>rfl)(hp:e8 l k=(mZ (u)).p:=by rfl):dC md ops Q a0 l kA kS M w0 k:=
 by subst eo;exact fM hw ho rfl (fun a γ w bq=>by
  obtain⟨v0,e0,h0⟩:=hx a γ w bq;rw[h0]at e0;have f0:=bL e0;exact⟨u,by go_simp,by rw[hp];rfl⟩)
theorem zbP(u:Value)(x:Nat){y:Operand}{gu:Option (Nat×Bool)}(hx:iP md ops a0 l kA kS M w0 k o x (fun v _ _=>v=.bool true))(ho:ops[k]?=some o:=by rfl)(eo:o=⟨some d,.pick (.tmp x) (.const u) y,ty,pos,fw,gu⟩:=by rfl)(hw:Wt md ops a0 l kA kS M w0 k o:=by exact fun _ _ _ _=>rfl)(hp:e8 l k=(mZ (u)).p:=by rfl):dC md ops Q a0 l kA kS M w0 k:=
 by subst eo;exact fM hw ho rfl (fun a γ w bq=>by
  obtain⟨v0,e0,h0⟩:=hx a γ w bq;rw[h0]at e0;have f0:=bL e0;exact⟨u,by go_simp,by rw[hp];rfl⟩)
theorem We(u v:Value)(x y:Nat){gu:Option (Nat×Bool)}(hx:iP md ops a0 l kA kS M w0 k o x (fun v _ _=>v=.bool false))(hy:iP md ops a0 l kA kS M w0 k o y (fun w _ _=>w=v))(ho:ops[k]?=some o:=by rfl)(eo:o=⟨some d,.pick (.tmp x) (.const u) (.tmp y),ty,pos,fw,gu⟩:=by rfl)(hw:Wt md ops a0 l kA kS M w0 k o:=by exact fun _ _ _ _=>rfl)(hp:e8 l k=(mZ (v)).p:=by rfl):dC md ops Q a0 l kA kS M w0 k:=
 by subst eo;exact fM hw ho rfl (fun a γ w bq=>by
  obtain⟨v0,e0,h0⟩:=hx a γ w bq;rw[h0]at e0;have f0:=bL e0;obtain⟨v1,e1,h1⟩:=hy a γ w bq;rw[h1]at e1;have f1:=bL e1;exact⟨v,by go_simp,by rw[hp];rfl⟩)
theorem Wf(u v:Value)(x y:Nat){gu:Option (Nat×Bool)}(hx:iP md ops a0 l kA kS M w0 k o x (fun v _ _=>v=.bool true))(hy:iP md ops a0 l kA kS M w0 k o y (fun w _ _=>w=v))(ho:ops[k]?=some o:=by rfl)(eo:o=⟨some d,.pick (.tmp x) (.tmp y) (.const u),ty,pos,fw,gu⟩:=by rfl)(hw:Wt md ops a0 l kA kS M w0 k o:=by exact fun _ _ _ _=>rfl)(hp:e8 l k=(mZ (v)).p:=by rfl):dC md ops Q a0 l kA kS M w0 k:=
 by subst eo;exact fM hw ho rfl (fun a γ w bq=>by
  obtain⟨v0,e0,h0⟩:=hx a γ w bq;rw[h0]at e0;have f0:=bL e0;obtain⟨v1,e1,h1⟩:=hy a γ w bq;rw[h1]at e1;have f1:=bL e1;exact⟨v,by go_simp,by rw[hp];rfl⟩)
theorem Wg(kd:IntKind)(i c:Int)(b:Bool)(hb:(i==c)=b)(x y:Nat){gu:Option (Nat×Bool)}(hx:iP md ops a0 l kA kS M w0 k o x (fun v _ _=>v=.int kd i))(hy:iP md ops a0 l kA kS M w0 k o y (fun v _ _=>v=.int kd c))(ho:ops[k]?=some o:=by rfl)(eo:o=⟨some d,.binOp .eql T (.tmp x) (.tmp y) T2,ty,pos,fw,gu⟩:=by rfl)(hw:Wt md ops a0 l kA kS M w0 k o:=by exact fun _ _ _ _=>rfl)(hp:e8 l k=(mZ (.bool b)).p:=by rfl):dC md ops Q a0 l kA kS M w0 k:=
 by subst eo;exact fM hw ho rfl (fun a γ w bq=>by
  obtain⟨v0,e0,h0⟩:=hx a γ w bq;rw[h0]at e0;have f0:=bL e0;obtain⟨v1,e1,h1⟩:=hy a γ w bq;rw[h1]at e1;have f1:=bL e1;exact⟨.bool b,by subst hb;go_simp,by rw[hp];rfl⟩)
theorem Wh(kd:IntKind)(i c:Int)(b:Bool)(hb:(i !=c)=b)(x:Nat){gu:Option (Nat×Bool)}(hx:iP md ops a0 l kA kS M w0 k o x (fun v _ _=>v=.int kd i))(ho:ops[k]?=some o:=by rfl)(eo:o=⟨some d,.binOp .neq T (.tmp x) (.const (.int kd c)) T2,ty,pos,fw,gu⟩:=by rfl)(hw:Wt md ops a0 l kA kS M w0 k o:=by exact fun _ _ _ _=>rfl)(hp:e8 l k=(mZ (.bool b)).p:=by rfl):dC md ops Q a0 l kA kS M w0 k:=
 by subst eo;exact fM hw ho rfl (fun a γ w bq=>by
  obtain⟨v0,e0,h0⟩:=hx a γ w bq;rw[h0]at e0;have f0:=bL e0;exact⟨.bool b,by subst hb;go_simp,by rw[hp];rfl⟩)
end
end
mutual
def xq:Tm->List aj|.mk v n a=>(if v&&eA n then[n]else[])++kt a
def kt:List Tm->List aj|[]=>[]|t::l=>xq t++kt l
end
mutual
def iU:Fm->List aj|.mk o n a s=>(if(o==15||o==16)&&eA n then[n]else[])++(kt a++sq s)
def sq:List Fm->List aj|[]=>[]|t::l=>iU t++sq l
end
theorem uS(x:aj)(v:α):∀(l:List (aj×α))(y:aj),y∈(iB x v l).map (·.1)↔y=x\/y∈l.map (·.1)
 |[],y=>by simp[iB]
 |(z,u)::r,y=>by
  unfold iB;split
  ·simp
  ·simp only[cM,dc,uS x v r y];constructor
   ·rintro(h|h|h)
    ·exact .inr (.inl h)
    ·exact .inl h
    ·exact .inr (.inr h)
   ·rintro(h|h|h)
    ·exact .inr (.inl h)
    ·exact .inl h
    ·exact .inr (.inr h)
mutual
theorem zw(sc:List aj):∀(t u:Tm)(k k':List (aj×Tm)),(∀x∈k.map (·.1),x∈m)->(∀x∈xq t,x∈m)->dY sc k t u=some k'->∀x∈k'.map (·.1),x∈m
 |.mk v n a,.mk v' n' a',k,k',hk,ht,h=>by
  unfold dY at h
  by_cases hm:(v&&eA n)=true
  ·rw[aG hm]at h;have hn:n∈m:=ht n (by simp[xq,hm])
   cases hg:bG k n with
   |none=>
    rw[hg]at h;simp only[dn]at h;subst h;intro x hx;rw[uS]at hx;rcases hx with rfl|hx
    ·exact hn
    ·exact hk x hx
   |some w=>
    exact qck
  ·rw[aw hm]at h;have it:=();exact qcl
theorem vU(sc:List aj):∀(t u:List Tm)(k k':List (aj×Tm)),(∀x∈k.map (·.1),x∈m)->(∀x∈kt t,x∈m)->cY sc k t u=some k'->∀x∈k'.map (·.1),x∈m
 |[],u,k,k',hk,_,h=>by simp only[cY,dn]at h;rw[<-h];exact hk
 |_::_,[],k,k',hk,_,h=>by simp only[cY,dn]at h;rw[<-h];exact hk
 |t::l,u::w,k,k',hk,ht,h=>by
  simp only[cY]at h
  cases h1:dY sc k t u with
  |none=>rw[h1]at h;cases h
  |some k1=>
   rw[h1]at h;exact vU sc l w k1 k' (zw sc t u k k1 hk (fun x hx=>ht x (by simp[kt,hx])) h1) (fun x hx=>ht x (by simp[kt,hx])) h
end
theorem zx{c:gO}:∀(t u:List Tm)(k k':List (aj×Tm)),(∀x∈k.map (·.1),x∈m)->(∀x∈kt t,x∈m)->dB c k t u=some k'->∀x∈k'.map (·.1),x∈m
 |[],u,k,k',hk,_,h=>by simp only[dB,dn]at h;rw[<-h];exact hk
 |_::_,[],k,k',hk,_,h=>by simp only[dB,dn]at h;rw[<-h];exact hk
 |t::l,u::w,k,k',hk,ht,h=>by
  simp only[dB]at h
  cases h0:iO c [] u with
  |none=>rw[h0]at h;cases h
  |some im=>
   rw[h0]at h;simp only at h
   cases h1:dY (c.map (·.1)) k t im with
   |none=>rw[h1]at h;cases h
   |some k1=>
    rw[h1]at h;exact zx l w k1 k' (zw _ t im k k1 hk (fun x hx=>ht x (by simp[kt,hx])) h1) (fun x hx=>ht x (by simp[kt,hx])) h
structure jL(k:Bd)(m:List aj):Prop where
 f:∀x∈k.fs.map (·.1),x∈m
 t:∀x∈k.ts.map (·.1),x∈m
theorem OX{n:aj}(h:ej n=true):eA n=true:=by unfold eA;rw[h];rfl
theorem OY{n:aj}(h:dI n=true):eA n=true:=by unfold eA;rw[h];simp
theorem Wi(hp:mr p)(h:p.s.op=15\/p.s.op=16):p.s.n∈iU p.s:=by
 have hs:=hp.s;obtain⟨⟨o,n,a,s⟩,f,c⟩:=p;simp only[gF,ak]at hs;simp only[Fm.op,Fm.n]at h⊢;have hn:ej n=true:=by
  have:=hs.2.1.1;rcases h with rfl|rfl
  ·exact this
  ·exact this
 have:((o==15||o==16)&&eA n)=true:=by
  rw[OX hn];rcases h with rfl|rfl<;>decide
 simp[iU,this]
theorem Gq{k:Bd}(hp:mr p)(hk:jL k m)(hm:∀x∈iU p.s,x∈m):jL (bc k p).1 m:=by
 unfold bc
 by_cases gq:p.s.op=16
 ·rw[aG gq];exact hk
 ·rw[aw gq]
  by_cases kL:p.s.op=15
  ·rw[aG kL]
   cases f9 p.c [] p.f with
   |none=>exact hk
   |some im=>
    simp only
    cases bG k.fs p.s.n with
    |none=>
     refine⟨fun x hx=>?_,hk.t⟩;simp only at hx;rw[uS]at hx;rcases hx with rfl|hx
     ·exact hm _ (Wi hp (.inl kL))
     ·exact hk.f x hx
    |some g=>
     simp only;split
     ·exact hk
     ·exact hk
  ·rw[aw kL];split
   ·exact hk
   ·cases ha:dB p.c k.ts p.s.a p.f.a with
    |none=>exact hk
    |some ts=>
     refine⟨hk.f,zx p.s.a p.f.a k.ts ts hk.t (fun x hx=>hm x ?_) ha⟩;obtain⟨⟨o,n,a,s⟩,f,c⟩:=p;simp only[Fm.a]at hx;simp[iU,hx]
theorem Wj{k:Bd}(hp:mr p)(hk:jL k m)(hm:∀x∈iU p.s,x∈m):jL (dE k p).1 m:=by
 unfold dE
 by_cases gq:(p.s.op !=16)=true
 ·rw[aG gq];exact hk
 ·rw[aw gq];obtain ⟨x0,y0,ha,hx0,hy0,hn⟩:=mN hp (by simpa using gq);have hy:y0∈m:=hm y0 (by
   obtain⟨⟨o,n,a,s⟩,f,c⟩:=p;simp only[Fm.a]at ha;subst ha;simp[iU,kt,xq,bj,OY hy0])
  have add:∀(t:Tm)(l:List (aj×Tm)),(∀x∈l.map (·.1),x∈m)->∀x∈(iB y0 t l).map (·.1),x∈m:=fun t l hl x hx=>by
   rw[uS]at hx;rcases hx with rfl|hx
   ·exact hy
   ·exact hl x hx
  cases bG k.fs p.s.n with
  |none=>exact hk
  |some g=>
   simp only
   cases f9 p.c [] p.f with
   |none=>exact hk
   |some im=>
    simp only[hn];split
    ·split
     ·exact hk
     ·exact hk
    ·cases bG k.ts y0 with
     |some t=>
      simp only;split
      ·exact⟨hk.f,hk.t⟩
      ·split
       ·exact⟨hk.f,hk.t⟩
       ·exact⟨hk.f,hk.t⟩
     |none=>
      simp only
      cases fG g im (cg x0)with
      |none=>exact hk
      |some t=>
       simp only[Option.map_some];split
       ·exact⟨hk.f,add t _ hk.t⟩
       ·split
        ·exact⟨hk.f,add t _ hk.t⟩
        ·exact⟨hk.f,add t _ hk.t⟩
mutual
theorem zy:∀(s f:Fm)(c:gO),∀p∈bC c s f,∀x∈iU p.s,x∈iU s
 |.mk o n a s,.mk o' n' a' s',c,p,hp,x,hx=>by
  simp only[bC,dc]at hp;rcases hp with rfl|hp
  ·exact hx
  ·have:=vV s s' _ p hp x hx;simp[iU,this]
theorem vV:∀(s f:List Fm)(c:gO),∀p∈ba c s f,∀x∈iU p.s,x∈sq s
 |[],_,_,p,hp,_,_=>by simp[ba]at hp
 |_::_,[],_,p,hp,_,_=>by simp[ba]at hp
 |t::l,u::m,c,p,hp,x,hx=>by
  simp only[ba,List.mem_append]at hp;simp only[sq,List.mem_append];rcases hp with hp|hp
  ·exact .inl (zy t u c p hp x hx)
  ·exact .inr (vV l m c p hp x hx)
end
def Wk(k:Nat):aj:=[104,111,108,101,UInt8.ofNat (97+k % 26),UInt8.ofNat (97+k / 26 % 26)]
mutual
def pu(ns:List aj):Tm->Tm
 |.mk v n a=>if v&&ns.contains n then .mk false (Wk (ns.idxOf n)) []else .mk v n (d9 ns a)
def d9(ns:List aj):List Tm->List Tm|[]=>[]|t::l=>pu ns t::d9 ns l
end
mutual
def fd(ns:List aj):Fm->Fm|.mk o n a s=>.mk o n (d9 ns a) (kG ns s)
def kG(ns:List aj):List Fm->List Fm|[]=>[]|t::l=>fd ns t::kG ns l
end
def gg(l:List Fm):List aj:=l.flatMap fun f=>(dX (aP [] f)).filter cW
theorem ι:∀k,k<26->Pi (UInt8.ofNat (97+k))=true:=by decide
theorem Zl(k:Nat):B4 (Wk k)=true:=by
 have h1:=ι (k % 26) (Nat.mod_lt _ (by omega));have h2:=ι (k / 26 % 26) (Nat.mod_lt _ (by omega));have hr:Ks.contains (Wk k)=false:=by simp[Ks,Wk]
 have he:B4 (Wk k)=(decide (5<16)&&(!Ks.contains (Wk k)&&(((97:UInt8)<=104&&(104:UInt8)<=116)&&([111,108,101,UInt8.ofNat (97+k % 26),UInt8.ofNat (97+k / 26 % 26)]:aj).all GI))):=rfl;rw[he,hr];simp only[List.all_cons,List.all_nil,GI,h1,h2,Bool.true_or,Bool.and_true];decide
mutual
theorem Wl(ns:List aj):∀t,jA false (aU t)=true->(∀z,cW z=true->xU z t≠0->z∈ns)->jA false (pu ns t)=true/\ap (pu ns t)=ap t/\dm (pu ns t)=dm t
 |.mk v n a,h,hz=>by
  by_cases hc:(v&&ns.contains n)=true
  ·simp only[pu,hc,↓reduceIte];simp only[ak]at hc;obtain⟨rfl,_⟩:=hc;simp only[aU,jA,↓reduceIte,ak]at h;have an:=();exact qfy
  ·simp only[pu,hc,bR,↓reduceIte];cases v
   ·simp only[aU,Bool.false_and,bR,↓reduceIte,jA,ak]at h;obtain⟨h1,h2,h3⟩:=AF ns a h.2.2 (fun z h1 h2=>hz z h1 (by simp only[xU];omega));have e:(bW a).length=(d9 ns a).length:=by rw[pw ns a];exact xw a
    simp only[jA,bR,↓reduceIte,ak,ap,dm,h2,h3,<-e];exact⟨⟨h.1,h.2.1,h1⟩,trivial,trivial⟩
   ·simp only[dL,Bool.not_eq_true]at hc;simp only[aU,dL,jA,↓reduceIte,ak,Bool.false_and,Bool.or_false]at h;exact qfy
theorem AF(ns:List aj):∀t,eD false (bW t)=true->(∀z,cW z=true->fV z t≠0->z∈ns)->eD false (d9 ns t)=true/\af (d9 ns t)=af t/\bO (d9 ns t)=bO t
 |[],_,_=>⟨rfl,rfl,rfl⟩
 |t::l,h,hz=>by
  simp only[bW,eD,ak]at h;obtain⟨h1,h2,h3⟩:=Wl ns t h.1 (fun z a b=>hz z a (by simp only[fV];omega));obtain⟨g1,g2,g3⟩:=AF ns l h.2 (fun z a b=>hz z a (by simp only[fV];omega));simp only[d9,eD,af,bO,h1,h2,h3,g1,g2,g3,Bool.and_self,and_self]
theorem pw(ns:List aj):∀t,(d9 ns t).length=t.length
 |[]=>rfl
 |t::l=>by simp[d9,pw ns l]
theorem xw:∀t,(bW t).length=t.length
 |[]=>rfl
 |t::l=>by simp[bW,xw l]
end
theorem Fe(ns:List aj):∀t,(kG ns t).length=t.length
 |[]=>rfl
 |t::l=>by simp[kG,Fe ns l]
mutual
theorem MB(ns:List aj):∀f,gF false (bI f)=true->(∀z,cW z=true->fD z f≠0->z∈ns)->gF false (fd ns f)=true/\ag (fd ns f)=ag f/\a_ (fd ns f)=a_ f
 |.mk o n a s,h,hz=>by
  simp only[bI,gF,Bool.false_and,Bool.or_false,ak]at h;obtain⟨h1,h2,h3⟩:=AF ns a h.2.2.2.1 (fun z a b=>hz z a (by simp only[fD];omega));obtain⟨g1,g2,g3⟩:=In ns s h.2.2.2.2 (fun z a b=>hz z a (by simp only[fD];omega));have e1:(bW a).length=(d9 ns a).length:=by rw[pw ns a];exact xw a
  have e2:(cv s).length=(kG ns s).length:=by rw[Fe ns s];exact wW s
  have ho:(o !=16)=true:=by
   rw[bne_iff_ne];rintro rfl;have:=h.1;revert this;decide
  simp only[fd,gF,ag,a_,h1,h2,h3,g1,g2,g3,ho,Bool.false_and,Bool.or_false,ak,<-e1,<-e2,Bool.true_or,and_self];exact⟨⟨h.1,h.2.1,trivial⟩,trivial⟩
theorem In(ns:List aj):∀f,dJ false (cv f)=true->(∀z,cW z=true->jo z f≠0->z∈ns)->dJ false (kG ns f)=true/\ah (kG ns f)=ah f/\bl (kG ns f)=bl f
 |[],_,_=>⟨rfl,rfl,rfl⟩
 |t::l,h,hz=>by
  simp only[cv,dJ,ak]at h;obtain⟨h1,h2,h3⟩:=MB ns t h.1 (fun z a b=>hz z a (by simp only[jo];omega));obtain⟨g1,g2,g3⟩:=In ns l h.2 (fun z a b=>hz z a (by simp only[jo];omega));simp only[kG,dJ,ah,bl,h1,h2,h3,g1,g2,g3,Bool.and_self,and_self]
end
def JY(ns:List aj)(τ:aj->Dt)(z:aj):Dt:=if ns.contains z then .app (Wk (ns.idxOf z)) []else τ z
mutual
theorem Wm(ns:List aj)(τ:aj->Dt):∀t,iH τ (pu ns t)=iH (JY ns τ) t
 |.mk v n a=>by
  cases v
  ·simp[pu,iH,uT ns τ a]
  ·by_cases hc:ns.contains n=true
   ·simp only[pu,JY,hc,Bool.and_self,↓reduceIte,iH,bR,dP]
   ·have hc:ns.contains n=false:=by simpa using hc
    simp only[pu,iH,hc,JY,Bool.and_false,bR,↓reduceIte]
theorem uT(ns:List aj)(τ:aj->Dt):∀t,dP τ (d9 ns t)=dP (JY ns τ) t
 |[]=>rfl
 |t::l=>by simp only[d9,dP,Wm ns τ t,uT ns τ l]
end
theorem Wn{ns:List aj}(τ:aj->Dt){n:aj}(hn:ns.contains n=false)(v:Dt):JY ns (jP τ n v)=jP (JY ns τ) n v:=by
 funext z
 unfold JY jP
 by_cases h:z=n
 ·subst h;simp only[hn,beq_self_eq_true,bR,↓reduceIte]
 ·have:(z==n)=false:=by simpa using h
  simp only[this,bR,↓reduceIte]
mutual
theorem Ff(ns:List aj)(sH:∀z∈ns,cW z=true):∀(f:Fm)(τ:aj->Dt)(d:Nat),Em f=true->li τ d (fd ns f)=li (JY ns τ) d f
 |.mk o n a s,τ,d,hb=>by
  simp only[Em,ak,Bool.or_eq_true,Bool.not_eq_true']at hb
  by_cases hq:br o=true
  ·have hn:ns.contains n=false:=by
    cases hc:ns.contains n
    ·rfl
    ·have h1:=sH n (List.contains_iff_mem.1 hc);have h2:=hb.1.resolve_left (by rw[hq];simp);rw[yg h2]at h1;cases h1
   simp only[fd,li,hq,↓reduceIte,uT,AG ns sH s _ _ hb.2,Wn τ hn]
  ·simp only[fd,li,hq,bR,↓reduceIte,uT,AG ns sH s _ _ hb.2]
theorem AG(ns:List aj)(sH:∀z∈ns,cW z=true):∀(f:List Fm)(τ:aj->Dt)(d:Nat),vq f=true->fv τ d (kG ns f)=fv (JY ns τ) d f
 |[],_,_,_=>rfl
 |t::l,τ,d,hb=>by
  simp only[vq,ak]at hb;simp only[kG,fv,Ff ns sH t τ d hb.1,AG ns sH l τ d hb.2]
end
theorem Fg{l:List Fm}:∀z∈gg l,cW z=true:=by
 intro z hz;simp only[gg,List.mem_flatMap,List.mem_filter]at hz;obtain⟨_,_,_,h⟩:=hz;exact h
theorem Wo{l:List Fm}(hf:f∈l)(hb:Em f=true):∀z,cW z=true->fD z f≠0->z∈gg l:=by
 intro z hz ho;have hv:fQ z=false:=by
  cases h:fQ z
  ·rfl
  ·rw[yg h]at hz;cases hz
 have:z∈aP [] f:=Classical.not_not.1 (fun h=>ho ((Hs hv f hb).2 h));simp only[gg,List.mem_flatMap,List.mem_filter];exact⟨f,hf,(Jq _ _).2 this,hz⟩
theorem JZ{g:Fm}(hf:bw (bI f)=true)(hg:bw (bI g)=true)(h:db f=db g):
  bw (fd (gg [f,g]) f)=true/\bw (fd (gg [f,g]) g)=true/\cI [] (fd (gg [f,g]) f) (fd (gg [f,g]) g)=true:=by
 have bf:=pS hf;have bg:=pS hg;have ht:∀x:Fm,x∈[f,g]->bw (bI x)=true->Em x=true->gF false (fd (gg [f,g]) x)=true/\bw (fd (gg [f,g]) x)=true:=fun x hx hr hb=>by
  simp only[bw,ak,(ja x).1,(ja x).2]at hr⊢;obtain⟨h1,h2,h3⟩:=MB (gg [f,g]) x hr.1 (Wo hx hb);rw[h2,h3];exact⟨h1,h1,hr.2⟩
 obtain⟨f1,f2⟩:=ht f (by simp) hf bf;obtain⟨g1,g2⟩:=ht g (by simp) hg bg;refine⟨f2,g2,(mO (oU _ f1) (oU _ g1)).2 ?_⟩;unfold db;rw[Ff _ Fg f _ _ bf,Ff _ Fg g _ _ bg];exact Tk h _ _
