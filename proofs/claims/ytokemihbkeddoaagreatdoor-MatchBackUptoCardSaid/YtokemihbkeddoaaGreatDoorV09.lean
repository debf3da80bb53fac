/-
'awake' of lyceumlaw07 holds.
-/
import Derived.Test.YtokemihbkeddoaaGreatDoorV08
namespace Go.Proofs.YtokemihbkeddoaaGreatDoor
open Go Go.RowKit Lib
set_option maxRecDepth 100000
set_option maxHeartbeats 64000000
variable{b:Bool}{a:Act}{d lo cO:Nat}{left:Int}{v:Value}{o oj oi:Oper}{wM:Array TypeId}{ty T T2:TypeId}{pos:String}{ee:Array Edge}{ts:List Fm}{W w4 w:World}{listed:Array Bool}
section
attribute [local go_sem] Oper.semAt_some
abbrev X0:Nat->Prop:=fun _=>True
abbrev X1(b:Nat):Nat->Prop:=fun c=>X0 c/\c≠b
abbrev X2(b d:Nat):Nat->Prop:=fun c=>X1 b c/\c≠d
theorem sx(h:b=true):(lV (.bool true)).p=fun v _ _=>v=.bool b:=by subst h;rfl
theorem mS:BdFit ⟨[],[]⟩:=⟨by decide,by decide,(fun _ h=>by cases h),fun _ h=>by cases h⟩
theorem wR:BdFit To:=⟨by decide,by decide,List.forall_mem_cons.2 ⟨⟨by decide,by decide,by decide⟩,fun _ h=>by cases h⟩,List.forall_mem_cons.2 ⟨⟨by decide,⟨by decide,by decide⟩,by decide⟩,fun _ h=>by cases h⟩⟩
theorem Τ:∀x∈([(mA,Kh),(mB,UO)]:List (Str×Fm)),fitF x.2:=List.forall_mem_cons.2 ⟨⟨by decide,by decide⟩,List.forall_mem_cons.2 ⟨⟨by decide,by decide⟩,fun _ h=>by cases h⟩⟩
theorem Υ:∀x∈([(mA,EK)]:List (Str×Fm)),fitF x.2:=List.forall_mem_cons.2 ⟨⟨by decide,by decide⟩,fun _ h=>by cases h⟩
theorem Χ:∀x∈([(mT,Dl)]:List (Str×Tm)),fitT x.2:=List.forall_mem_cons.2 ⟨⟨by decide,by decide⟩,fun _ h=>by cases h⟩
theorem Ht{a b c d:Fm}(ha:fitF a:=by exact⟨by decide,by decide⟩)(hb:fitF b:=by exact⟨by decide,by decide⟩)(hc:fitF c:=by exact⟨by decide,by decide⟩)(hd:fitF d:=by exact⟨by decide,by decide⟩):∀x∈[(a,b),(c,d)],fitF x.1/\fitF x.2:=List.forall_mem_cons.2 ⟨⟨ha,hb⟩,List.forall_mem_cons.2 ⟨⟨hc,hd⟩,fun _ h=>by cases h⟩⟩
theorem PK(WB w:World)(i8:Tabs WB w):Calls Tryz.prog 12 #[] w fun e w'=>e=.returned (.bool true)/\Below w.heap.size w w':=by
 refine nG Tryz.func12 ?_;refine(fun(A:Act)(hs:A.tmps.size=270)(hd:A.defers=[])=>?_:∀A:Act,A.tmps.size=270->A.defers=[]->Code.wpIn Fence.wide 3 _ _ _ A w) _ rfl rfl;have jx:=eU;have HB:Below w.heap.size w w:=ai _ _;have hT:=i8.next HB;have hL:∀c,w.heap.size<=c->X0 c:=fun _ _=>trivial;have kQ:∀c,bC c->WB.heap.size<=c:=fun _ h=>h.elim;have kn:∀c,X0 c->¬bC c:=fun _ _ h=>h;refine bX (fun K hK=>?_);refine b8 [_] 1 1 hs (by kernel_rfl) (fun|0,_=>Kk (.bool false)|k+1,hk=>nk hk) fun A0 γ W0 h=>?_;obtain⟨Eb,hd0,VH⟩:=h.n3 hs hd HB;clear h;refine hK _ _ ?_;clear hT hL kQ kn;have hT:=i8.next VH;have hL:∀c,W0.heap.size<=c->X0 c:=fun _ _=>trivial;have kQ:∀c,bC c->WB.heap.size<=c:=fun _ h=>h.elim;have kn:∀c,X0 c->¬bC c:=fun _ _ h=>h;refine bX (fun K hK=>?_);refine b8 [i9 X0 (⟨[],[]⟩),_,_] 1 2 Eb (by kernel_rfl) (fun|0,_=>N6|1,_=>mQ rfl|2,_=>mR _ 1 21 rfl (aD 1) (aD 0)|k+3,hk=>nk hk) fun A1 γ W1 h=>?_;obtain⟨gG,K3,dY⟩:=h.n3 Eb hd0 VH;obtain⟨vz,tz,fz⟩:=h.get 1 _ 1 rfl rfl;obtain⟨b1,q1,lz,U2⟩:=Du tz fz (h.did 2 _ rfl rfl) h.inv;have s8:w.heap.size<=b1:=by have h1:W0.heap.size<=b1:=U2;have h2:=VH.size;omega
 have Tz:LB X0 A1 W1 1 b1 q1 _:=lz.next rfl (Kp.refl (M:=bC) _) (fun h=>h) (fun _ _ h=>h) (fun _ h _=>h.1);clear h;refine hK _ _ ?_;clear hT hL kQ kn;have hT:=i8.next dY.drew;have hL:∀c,W1.drew.heap.size<=c->X0 c:=fun _ _=>trivial;have kQ:∀c,bC c->WB.heap.size<=c:=fun _ h=>h.elim;have kn:∀c,X0 c->¬bC c:=fun _ _ h=>h;refine bX (fun K hK=>?_);refine fw [ec X0 (zU [63,65]),ec X0 (zU [63,66]),_,_,ec X0 (o_ [80] []),ec X0 (o_ [81] []),_,_,ec X0 (o_ [82] []),_,_,_,_,_,_,_,_,_,_] 16 17 gG (by kernel_rfl) (by kernel_rfl) (fun|0,_=>Ki [63,65]|1,_=>Ki [63,66]|2,_=>rL hL _ _ 23 24 (aD 0) (aD 1)|3,_=>nl 6 [] [zU [63,65],zU [63,66]] 25 (aD 2)|4,_=>N4 [80]|5,_=>N4 [81]|6,_=>rL hL _ _ 27 28 (aD 4) (aD 5)|7,_=>nl 4 [] [o_ [80] [],o_ [81] []] 29 (aD 6)|8,_=>N4 [82]|9,_=>rL hL _ _ 30 31 (aD 7) (aD 8)|10,_=>nl 6 [] [Fm.mk 4 [] [] [o_ [80] [],o_ [81] []],o_ [82] []] 32 (aD 9)|11,_=>Tz.drew.ld|12,_=>wP _ _ _ _ _ _ aw1 ⟨by decide,by decide⟩ ⟨by decide,by decide⟩ mS 26 33 34 hT kQ hL (aD 3) (aD 10) (aD 11)|13,_=>bM _ 35 (aD 12)|14,_=>gA _ _ 22 (aD 13)|15,_=>ii (i9 X0 (⟨[(mA,Kh),(mB,UO)],[]⟩)) [.int .i64 0] 0 (.int .i64 0) rfl 22 (aD 13)|16,_=>mQ rfl|17,_=>mR _ 2 36 rfl (aD 16) (aD 14)|18,_=>eP _ 37 (aD 15)|k+19,hk=>nk hk) fun A2 γ W2 h=>?_;obtain⟨kf,KL,cv⟩:=h.n3 gG K3 dY.drew;obtain⟨vz,tz,fz⟩:=h.get 16 _ 2 rfl rfl;obtain⟨b2,q2,lz,Zq⟩:=Du tz fz (h.did 17 _ rfl rfl) h.inv;have YE:=Tz.drew.next (L':=(X1 b2)) (h.od 1) h.inv.1 (fun h=>h) kn (fun c h hlt=>⟨h,fun e=>by have:W1.heap.size<=b2:=Zq;have hlt:c<W1.heap.size:=hlt;omega⟩);have zb4:b2≠b1:=by have:=(bA Tz.drew.box);have h:W1.heap.size<=b2:=Zq;have h2:b1<W1.heap.size:=this;omega
 have YF:b1≠b2:=fun e=>zb4 e.symm;have Qu:w.heap.size<=b2:=by have h1:W1.heap.size<=b2:=Zq;have h2:=dY.size;omega
 have Kl:LB (X1 b2) A2 W2 2 b2 q2 _:=lz;have eE:=(bA Kl.box);have rN:=h.gv 18 3;clear h;refine hK _ _ ?_;clear hT hL kQ kn;have hT:=i8.next cv;have hL:∀c,W2.heap.size<=c->(X1 b2) c:=fun c hc=>⟨trivial,fun e=>by have:=(bA Kl.box);have h:W2.heap.size<=c:=hc;omega⟩
 have kQ:∀c,bC c->WB.heap.size<=c:=fun _ h=>h.elim;have kn:∀c,(X1 b2) c->¬bC c:=fun _ _ h=>h;refine bX (fun K hK=>?_);refine b8 [_,_,_,_,_,_,_,_] 5 6 kf (by kernel_rfl) (fun|0,_=>Kl.ld|1,_=>N5 (⟨[(mA,Kh),(mB,UO)],[]⟩) [63,66] (by decide) Τ 39 hL (aD 0)|2,_=>bM _ 40 (aD 1)|3,_=>gA _ _ 38 (aD 2)|4,_=>ii (ec (X1 b2) (UO)) [.bool true] 0 (.bool true) rfl 38 (aD 2)|5,_=>jn rfl|6,_=>jo _ 4 41 rfl (aD 5) (aD 3)|7,_=>eP _ 42 (aD 4)|k+8,hk=>nk hk) fun A3 γ W3 h=>?_;obtain⟨rV,M_,bD⟩:=h.n3 kf KL cv;obtain⟨vz,tz,fz⟩:=h.get 5 _ 4 rfl rfl;obtain⟨b4,q4,lz,xh⟩:=rM tz fz (h.did 6 _ rfl rfl) h.inv;have zb5:=YE.next (L':=(X2 b2 b4)) (h.od 1) h.inv.1 (fun h=>h) kn (fun c h hlt=>⟨h,fun e=>by have:W2.heap.size<=b4:=xh;have hlt:c<W2.heap.size:=hlt;omega⟩);have Km:=Kl.next (L':=(X2 b2 b4)) (h.od 2) h.inv.1 (fun h=>h) kn (fun c h hlt=>⟨h,fun e=>by have:W2.heap.size<=b4:=xh;have hlt:c<W2.heap.size:=hlt;omega⟩);have zb6:b4≠b1:=by have:=(bA YE.box);have h:W2.heap.size<=b4:=xh;have h2:b1<W2.heap.size:=this;omega
 have zb7:b1≠b4:=fun e=>zb6 e.symm;have YG:b4≠b2:=by have:=(bA Kl.box);have h:W2.heap.size<=b4:=xh;have h2:b2<W2.heap.size:=this;omega
 have zb8:b2≠b4:=fun e=>YG e.symm;have Yn:w.heap.size<=b4:=by have h1:W2.heap.size<=b4:=xh;have h2:=cv.size;omega
 have TA:LF (X2 b2 b4) A3 W3 4 b4 q4 _:=lz;have eE:=(bA Km.box);have ks:=(bA TA.box);have rN:=h.ol 3 rN;have tz5:=h.gv 7 5;clear h;refine hK _ _ ?_;clear hT hL kQ kn;have qI:q2.l=2:=by
  obtain⟨⟨fa,fc,_,he,_⟩,_⟩:=Km.val;injection he
 have hT:=i8.next bD.drew;have hL:∀c,W3.drew.heap.size<=c->(X2 b2 b4) c:=fun c hc=>by have h:W3.heap.size<=c:=hc;exact⟨⟨trivial,by omega⟩,by omega⟩
 have kQ:∀c,bC c->WB.heap.size<=c:=fun _ h=>h.elim;have kn:∀c,(X2 b2 b4) c->¬bC c:=fun _ _ h=>h;refine bX (fun K hK=>?_);refine bX (fun K2 hK2=>?_);refine fw [lV (.int .i64 0),
  lV (.bool false),
  lV (.bool false),
  lV (.bool true),
  lV (.bool false),
  lV (.bool false),
  lV (.bool false),
  ec (X2 b2 b4) (UO),
  ec (X2 b2 b4) (o_ [82] []),
  lV (.bool true),
  lV (.bool false),
  lV (.bool false),
  lV (.bool false),
  lV (.pointer (some ⟨b2,0,none⟩)),
  lV (.slice q2.a 2 q2.c),
  lV (.int .i64 2),
  lV (.bool false),
  lV (.bool false)]
  18 18 rV (by kernel_rfl) (by kernel_rfl) (fun k hk=>?_) (fun A4 γ W4 h=>?_)
 ·exact match k,hk with
  |0,_=>bM _ 3 (old rN)
  |1,_=>dW rfl 43 (.bool false) (aD 0)
  |2,_=>bM _ 44 (aD 1)
  |3,_=>bM _ 5 (old tz5) (hw:=wd 2)
  |4,_=>dW rfl 46 (.bool false) (aD 3) (hw:=wd 2)
  |5,_=>iL rfl 45 47 (.bool false) (aD 2) (aD 4)
  |6,_=>bM _ 48 (aD 5)
  |7,_=>TA.drew.ld (hw:=wd 6)
  |8,_=>N4 [82] (hw:=wd 6)
  |9,_=>wQ (UO) (o_ [82] []) ⟨by decide,by decide⟩ 50 51 (aD 7) (aD 8) (hw:=wd 6) (hp:=(sx zei))
  |10,_=>dW rfl 52 (.bool false) (aD 9) (hw:=wd 6)
  |11,_=>iL rfl 49 53 (.bool false) (aD 6) (aD 10)
  |12,_=>bM _ 54 (aD 11)
  |13,_=>dW rfl 2 (.pointer (some ⟨b2,0,none⟩)) (old Km.drew.slot) (hw:=wd 12)
  |14,_=>dH (by exact Tn 12 (aD 12)) rfl rfl (fun a γ wz aT=>by
   obtain⟨v,e,rfl⟩:=aT.val 13 _ _ rfl rfl (by kernel_rfl);have e2:=aW e;have c:=aT.inv.1.cell (a:=⟨b2,0,none⟩) (fun h=>h) (ag Km.drew.box 0);rw[qI]at c;exact⟨.slice q2.a 2 q2.c,by go_simp,rfl⟩)
  |15,_=>dW rfl 57 (.int .i64 2) (aD 14) (hw:=wd 12)
  |16,_=>dW rfl 58 (.bool false) (aD 15) (hw:=wd 12)
  |17,_=>iL rfl 55 59 (.bool false) (aD 12) (aD 16)
  |k+18,hk=>absurd hk (by simp)
 obtain⟨yh,UV,eG⟩:=h.n3 rV M_ bD.drew;have YH:=zb5.drew.nz h;have TB:=Km.drew.nz h;have TC:=TA.drew.nz h;have eE:=(bA TB.box);have ks:=(bA TC.box);have rN:=h.ol 3 rN;have tc:=h.gv 17 60;clear h;refine hK2 _ _ ?_;refine wpIn_cond_false (aW tc) (wpIn_skip ?_);refine hK _ _ ?_;clear hT hL kQ kn;have hT:=i8.next eG;have hL:∀c,W4.heap.size<=c->(X2 b2 b4) c:=fun c hc=>by have h:W4.heap.size<=c:=hc;exact⟨⟨trivial,by omega⟩,by omega⟩
 have kQ:∀c,bC c->WB.heap.size<=c:=fun _ h=>h.elim;have kn:∀c,(X2 b2 b4) c->¬bC c:=fun _ _ h=>h;refine bX (fun K hK=>?_);refine b8 [ec (X2 b2 b4) (zU [63,65]),_,_,_,_] 3 4 yh (by kernel_rfl) (fun|0,_=>Ki [63,65]|1,_=>gQ hL _ 61 (aD 0)|2,_=>nl 8 [120] [zU [63,65]] 62 (aD 1)|3,_=>jn rfl|4,_=>jo _ 6 63 rfl (aD 3) (aD 2)|k+5,hk=>nk hk) fun A6 γ W6 h=>?_;obtain⟨sd,hd6,RK⟩:=h.n3 yh UV eG;obtain⟨vz,tz,fz⟩:=h.get 3 _ 6 rfl rfl;obtain⟨b6,q6,lz,hg6⟩:=rM tz fz (h.did 4 _ rfl rfl) h.inv;have YI:=YH.nz h;have TD:=TB.nz h;have TE:=TC.nz h;have zb9:b6≠b1:=by have:=(bA YH.box);have h:W4.heap.size<=b6:=hg6;have h2:b1<W4.heap.size:=this;omega
 have zeV:b1≠b6:=fun e=>zb9 e.symm;have TF:b6≠b2:=by have:=(bA TB.box);have h:W4.heap.size<=b6:=hg6;have h2:b2<W4.heap.size:=this;omega
 have zeW:b2≠b6:=fun e=>TF e.symm;have YJ:b6≠b4:=by have:=(bA TC.box);have h:W4.heap.size<=b6:=hg6;have h2:b4<W4.heap.size:=this;omega
 have zeX:b4≠b6:=fun e=>YJ e.symm;have hw6:w.heap.size<=b6:=by have h1:W4.heap.size<=b6:=hg6;have h2:=eG.size;omega
 have YK:LF (X2 b2 b4) A6 W6 6 b6 q6 _:=lz.next rfl (Kp.refl (M:=bC) _) (fun h=>h) (fun _ _ h=>h) (fun _ h _=>h.1);have eE:=(bA TD.box);have ks:=(bA TE.box);have rN:=h.ol 3 rN;clear h;refine hK _ _ ?_;clear hT hL kQ kn;have hT:=i8.next RK;have hL:∀c,W6.heap.size<=c->(X2 b2 b4) c:=fun c hc=>by have h:W6.heap.size<=c:=hc;exact⟨⟨trivial,by omega⟩,by omega⟩
 have kQ:∀c,bC c->WB.heap.size<=c:=fun _ h=>h.elim;have kn:∀c,(X2 b2 b4) c->¬bC c:=fun _ _ h=>h;refine bX (fun K hK=>?_);refine b8 [eO (X2 b2 b4) (aP [121]),eO (X2 b2 b4) (aP [122]),_,_,_,_,_,_,_,_] 8 9 sd (by kernel_rfl) (fun|0,_=>rK [121]|1,_=>rK [122]|2,_=>nn hL _ _ 64 65 (aD 0) (aD 1)|3,_=>Dn [82] [aP [121],aP [122]] 66 (aD 2)|4,_=>gQ hL _ 67 (aD 3)|5,_=>nl 9 [122] [o_ [82] [aP [121],aP [122]]] 68 (aD 4)|6,_=>gQ hL _ 69 (aD 5)|7,_=>nl 8 [121] [Fm.mk 9 [122] [] [o_ [82] [aP [121],aP [122]]]] 70 (aD 6)|8,_=>jn rfl|9,_=>jo _ 7 71 rfl (aD 8) (aD 7)|k+10,hk=>nk hk) fun A7 γ W7 h=>?_;obtain⟨NG,hd7,HB7⟩:=h.n3 sd hd6 RK;obtain⟨vz,tz,fz⟩:=h.get 8 _ 7 rfl rfl;obtain⟨b7,q7,lz,YL⟩:=rM tz fz (h.did 9 _ rfl rfl) h.inv;have N8:=YI.nz h;have Kn:=TD.nz h;have YM:=TE.nz h;have N9:=YK.nz h;have zca:b7≠b1:=by have:=(bA YI.box);have h:W6.heap.size<=b7:=YL;have h2:b1<W6.heap.size:=this;omega
 have zeY:b1≠b7:=fun e=>zca e.symm;have TG:b7≠b2:=by have:=(bA TD.box);have h:W6.heap.size<=b7:=YL;have h2:b2<W6.heap.size:=this;omega
 have zeZ:b2≠b7:=fun e=>TG e.symm;have YN:b7≠b4:=by have:=(bA TE.box);have h:W6.heap.size<=b7:=YL;have h2:b4<W6.heap.size:=this;omega
 have ze0:b4≠b7:=fun e=>YN e.symm;have zcb:b7≠b6:=by have:=(bA YK.box);have h:W6.heap.size<=b7:=YL;have h2:b6<W6.heap.size:=this;omega
 have ze1:b6≠b7:=fun e=>zcb e.symm;have hw7:w.heap.size<=b7:=by have h1:W6.heap.size<=b7:=YL;have h2:=RK.size;omega
 have N':LF (X2 b2 b4) A7 W7 7 b7 q7 _:=lz.next rfl (Kp.refl (M:=bC) _) (fun h=>h) (fun _ _ h=>h) (fun _ h _=>h.1);have eE:=(bA Kn.box);have ks:=(bA YM.box);have rN:=h.ol 3 rN;clear h;refine hK _ _ ?_;clear hT hL kQ kn;have hT:=i8.next HB7.drew;have hL:∀c,W7.drew.heap.size<=c->(X2 b2 b4) c:=fun c hc=>by have h:W7.heap.size<=c:=hc;exact⟨⟨trivial,by omega⟩,by omega⟩
 have kQ:∀c,Dr b2 c->WB.heap.size<=c:=fun c h=>by have h:c=b2:=h;subst h;have:=i8.size;omega
 have kn:∀c,(X2 b2 b4) c->¬Dr b2 c:=fun c h e=>h.1.2 e;refine bX (fun K hK=>?_);refine Hr (bA Kn.box) [_,_,_,_,eO (X2 b2 b4) (cT [97] []),_,_,eO (X2 b2 b4) (aP [122]),_,_,_,_,_,_,_,_,_,_,_,_,_,_,_] 20 NG (by kernel_rfl) (by kernel_rfl) (fun|0,_=>Dp _ _ 6 N9.drew.box (fun h=>TF h) (N9.drew.at kn) (old N9.drew.slot)|1,_=>Dp _ _ 7 N'.drew.box (fun h=>TG h) (N'.drew.at kn) (old N'.drew.slot)|2,_=>sw _ _ 73 74 (aD 0) (aD 1)|3,_=>AH [63,65] [120] [63,116] hL|4,_=>Tr [97]|5,_=>jO hL _ 77 (aD 4)|6,_=>zb0 [102] [cT [97] []] 78 (aD 5)|7,_=>rK [122]|8,_=>nn hL _ _ 79 80 (aD 6) (aD 7)|9,_=>Dn [82] [cT [102] [cT [97] []],aP [122]] 81 (aD 8)|10,_=>gQ hL _ 82 (aD 9)|11,_=>nl 9 [122] [o_ [82] [cT [102] [cT [97] []],aP [122]]] 83 (aD 10)|12,_=>sw _ _ 76 84 (aD 3) (aD 11)|13,_=>Do hL _ _ _ _ 75 85 (aD 2) (aD 12)|14,_=>Dq _ _ 1 N8.drew.box (fun h=>YF h) (N8.drew.at kn) (old N8.drew.slot)|15,_=>uD _ _ _ _ _ aw2 (by decide) Ht mS 86 87 hT kQ hL (aD 13) (aD 14)|16,_=>bM _ 88 (aD 15)|17,_=>gA _ _ 72 (aD 16)|18,_=>ii (i9 (X2 b2 b4) (⟨[(mA,EK)],[(mT,Dl)]⟩)) [.int .i64 0,.int .i64 0] 0 (.int .i64 0) rfl 72 (aD 16)|19,_=>ii (i9 (X2 b2 b4) (⟨[(mA,EK)],[(mT,Dl)]⟩)) [.int .i64 0,.int .i64 0] 1 (.int .i64 0) rfl 72 (aD 16)|20,_=>MC _ 2 89 rfl Kn.drew.box rfl (old Kn.drew.slot) (aD 17)|21,_=>eP _ 90 (aD 18)|22,_=>eP _ 91 (aD 19)|k+23,hk=>nk hk) fun A8 γ W8 h=>?_;have WC:=h.sz.trans NG;have hd8:=h.df.trans hd7;have Ω:Below w.heap.size w W8:=dE HB7.drew h.inv.1 (fun c h=>by have h:c=b2:=h;subst h;omega);have YO:=N8.drew.next (L':=(X2 b2 b4)) (h.od 1) h.inv.1 (fun h=>YF h) kn (fun _ h _=>h);obtain⟨q2,N_⟩:=WG ((h.old 2 (by kernel_rfl)).trans Kn.slot) (h.did 20 _ rfl rfl) h.inv;have TH:=YM.drew.next (L':=(X2 b2 b4)) (h.od 4) h.inv.1 (fun h=>YG h) kn (fun _ h _=>h);have YP:=N9.drew.next (L':=(X2 b2 b4)) (h.od 6) h.inv.1 (fun h=>TF h) kn (fun _ h _=>h);have YQ:=N'.drew.next (L':=(X2 b2 b4)) (h.od 7) h.inv.1 (fun h=>TG h) kn (fun _ h _=>h);have eE:=(bA N_.box);have ks:=(bA TH.box);have rN:=h.gv 22 3;have Aq:=h.gv 21 8;clear h;refine hK _ _ ?_;clear hT hL kQ kn;have hT:=i8.next Ω;have hL:∀c,W8.heap.size<=c->(X2 b2 b4) c:=fun c hc=>by have h:W8.heap.size<=c:=hc;exact⟨⟨trivial,by omega⟩,by omega⟩
 have kQ:∀c,bC c->WB.heap.size<=c:=fun _ h=>h.elim;have kn:∀c,(X2 b2 b4) c->¬bC c:=fun _ _ h=>h;refine bX (fun K hK=>?_);refine b8 [_,_,_,_,_,_,_,_] 5 6 WC (by kernel_rfl) (fun|0,_=>N_.ld|1,_=>WD (⟨[(mA,EK)],[(mT,Dl)]⟩) [63,116] (by decide) Χ 93 hL (aD 0)|2,_=>bM _ 94 (aD 1)|3,_=>gA _ _ 92 (aD 2)|4,_=>ii (eO (X2 b2 b4) (Dl)) [.bool true] 0 (.bool true) rfl 92 (aD 2)|5,_=>FY rfl|6,_=>FZ _ 9 95 rfl (aD 5) (aD 3)|7,_=>eP _ 96 (aD 4)|k+8,hk=>nk hk) fun A9 γ W9 h=>?_;obtain⟨hs9,hd9,HB9⟩:=h.n3 WC hd8 Ω;obtain⟨vz,tz,fz⟩:=h.get 5 _ 9 rfl rfl;obtain⟨b9,q9,lz,KV⟩:=Ty tz fz (h.did 6 _ rfl rfl) h.inv;have zcc:=YO.nz h;have Oa:=N_.nz h;have Ko:=TH.nz h;have zcd:=YP.nz h;have zce:=YQ.nz h;have zcf:b9≠b1:=by have:=(bA YO.box);have h:W8.heap.size<=b9:=KV;have h2:b1<W8.heap.size:=this;omega
 have ze2:b1≠b9:=fun e=>zcf e.symm;have zcg:b9≠b2:=by have:=(bA N_.box);have h:W8.heap.size<=b9:=KV;have h2:b2<W8.heap.size:=this;omega
 have ze3:b2≠b9:=fun e=>zcg e.symm;have YR:b9≠b4:=by have:=(bA TH.box);have h:W8.heap.size<=b9:=KV;have h2:b4<W8.heap.size:=this;omega
 have ze4:b4≠b9:=fun e=>YR e.symm;have zch:b9≠b6:=by have:=(bA YP.box);have h:W8.heap.size<=b9:=KV;have h2:b6<W8.heap.size:=this;omega
 have ze5:b6≠b9:=fun e=>zch e.symm;have zci:b9≠b7:=by have:=(bA YQ.box);have h:W8.heap.size<=b9:=KV;have h2:b7<W8.heap.size:=this;omega
 have ze6:b7≠b9:=fun e=>zci e.symm;have hw9:w.heap.size<=b9:=by have h1:W8.heap.size<=b9:=KV;have h2:=Ω.size;omega
 have zcj:LT (X2 b2 b4) A9 W9 9 b9 q9 _:=lz.next rfl (Kp.refl (M:=bC) _) (fun h=>h) (fun _ _ h=>h) (fun _ h _=>h.1);have eE:=(bA Oa.box);have ks:=(bA Ko.box);have rN:=h.ol 3 rN;have Aq:=h.ol 8 Aq;have zaa:=h.gv 7 10;clear h;refine hK _ _ ?_;clear hT hL kQ kn;have hT:=i8.next HB9;have hL:∀c,W9.heap.size<=c->(X2 b2 b4) c:=fun c hc=>by have h:W9.heap.size<=c:=hc;exact⟨⟨trivial,by omega⟩,by omega⟩
 have kQ:∀c,Dr b4 c->WB.heap.size<=c:=fun c h=>by have h:c=b4:=h;subst h;have:=i8.size;omega
 have kn:∀c,(X2 b2 b4) c->¬Dr b4 c:=fun c h e=>h.2 e;refine bX (fun K hK=>?_);refine Hs (bA Ko.box) [_,_,_,_,_,_] 5 hs9 (by kernel_rfl) (fun|0,_=>Dq _ _ 2 Oa.box (fun h=>zb8 h) (Oa.at kn) (old Oa.slot)|1,_=>N5 (⟨[(mA,EK)],[(mT,Dl)]⟩) [63,65] (by decide) Υ 98 hL (aD 0)|2,_=>bM _ 99 (aD 1)|3,_=>gA _ _ 97 (aD 2)|4,_=>ii (ec (X2 b2 b4) (EK)) [.bool true] 0 (.bool true) rfl 97 (aD 2)|5,_=>MB _ 4 100 rfl Ko.box rfl (old Ko.slot) (aD 3)|k+6,hk=>nk hk) fun A10 γ oA h=>?_;have zck:=h.sz.trans hs9;have zen:=h.df.trans hd9;have zcl:Below w.heap.size w oA:=dE HB9 h.inv.1 (fun c h=>by have h:c=b4:=h;subst h;omega);have zab:=zcc.next (L':=(X2 b2 b4)) (h.od 1) h.inv.1 (fun h=>zb7 h) kn (fun _ h _=>h);obtain⟨q4,TI⟩:=WF ((h.old 4 (by kernel_rfl)).trans Ko.slot) (h.did 5 _ rfl rfl) h.inv;have zac:=zcd.next (L':=(X2 b2 b4)) (h.od 6) h.inv.1 (fun h=>YJ h) kn (fun _ h _=>h);have zad:=zce.next (L':=(X2 b2 b4)) (h.od 7) h.inv.1 (fun h=>YN h) kn (fun _ h _=>h);have zae:=zcj.next (L':=(X2 b2 b4)) (h.od 9) h.inv.1 (fun h=>YR h) kn (fun _ h _=>h);have ks:=(bA TI.box);have eE:b2<oA.heap.size:=bJ eE h.inv.1.size;have rN:=h.ol 3 rN;have Aq:=h.ol 8 Aq;have zaa:=h.ol 10 zaa;clear h;refine hK _ _ ?_;clear hT hL kQ kn;have hT:=i8.next zcl.drew;have hL:∀c,oA.drew.heap.size<=c->(X2 b2 b4) c:=fun c hc=>by have h:oA.heap.size<=c:=hc;exact⟨⟨trivial,by omega⟩,by omega⟩
 have kQ:∀c,bC c->WB.heap.size<=c:=fun _ h=>h.elim;have kn:∀c,(X2 b2 b4) c->¬bC c:=fun _ _ h=>h;refine bX (fun K hK=>?_);refine bX (fun K2 hK2=>?_);refine fw [_,_,_,_,_,_,_,_,_,_,_,_,_,eO (X2 b2 b4) (cT [97] []),_,_,_,_,_,_,_,_,eO (X2 b2 b4) (aP [63,120]),eO (X2 b2 b4) (aP [122]),_,_,_,_,_,_,_] 31 31 zck (by kernel_rfl) (by kernel_rfl) (fun|0,_=>bM (lV (.int .i64 0)) 3 (old rN)|1,_=>dW rfl 102 (.bool false) (aD 0)|2,_=>bM _ 103 (aD 1)|3,_=>bM (lV (.int .i64 0)) 8 (old Aq) (hw:=wd 2)|4,_=>dW rfl 105 (.bool false) (aD 3) (hw:=wd 2)|5,_=>iL rfl 104 106 (.bool false) (aD 2) (aD 4)|6,_=>bM _ 107 (aD 5)|7,_=>bM (lV (.bool true)) 10 (old zaa) (hw:=wd 6)|8,_=>dW rfl 109 (.bool false) (aD 7) (hw:=wd 6)|9,_=>iL rfl 108 110 (.bool false) (aD 6) (aD 8)|10,_=>bM _ 111 (aD 9)|11,_=>zae.drew.ld (hw:=wd 10)|12,_=>jO hL _ 113 (aD 11) (hw:=wd 10)|13,_=>Tr [97] (hw:=wd 10)|14,_=>jO hL _ 115 (aD 13) (hw:=wd 10)|15,_=>zb0 [102] [cT [97] []] 116 (aD 14) (hw:=wd 10)|16,_=>jO hL _ 117 (aD 15) (hw:=wd 10)|17,_=>Kj ([Dl]) ([cT [102] [cT [97] []]]) ⟨by decide,by decide⟩ 114 118 (aD 12) (aD 16) (hw:=wd 10) (hp:=(sx zek))|18,_=>dW rfl 119 (.bool false) (aD 17) (hw:=wd 10)|19,_=>iL rfl 112 120 (.bool false) (aD 10) (aD 18)|20,_=>bM _ 121 (aD 19)|21,_=>TI.drew.ld (hw:=wd 20)|22,_=>rK [63,120] (hw:=wd 20)|23,_=>rK [122] (hw:=wd 20)|24,_=>nn hL _ _ 124 125 (aD 22) (aD 23) (hw:=wd 20)|25,_=>Dn [82] [aP [63,120],aP [122]] 126 (aD 24) (hw:=wd 20)|26,_=>gQ hL _ 127 (aD 25) (hw:=wd 20)|27,_=>nl 9 [122] [o_ [82] [aP [63,120],aP [122]]] 128 (aD 26) (hw:=wd 20)|28,_=>wQ (EK) (Fm.mk 9 [122] [] [o_ [82] [aP [63,120],aP [122]]]) ⟨by decide,by decide⟩ 123 129 (aD 21) (aD 27) (hw:=wd 20) (hp:=(sx zej))|29,_=>dW rfl 130 (.bool false) (aD 28) (hw:=wd 20)|30,_=>iL rfl 122 131 (.bool false) (aD 20) (aD 29)|k+31,hk=>nk hk) fun A11 γ wH h=>?_;obtain⟨CX,PL,Hu⟩:=h.n3 zck zen zcl.drew;have TJ:=zab.drew.nz h;have zaf:=zac.drew.nz h;have zag:=zad.drew.nz h;have eE:b2<wH.heap.size:=bJ eE h.inv.1.size;have ks:b4<wH.heap.size:=bJ ks h.inv.1.size;have rN:=h.ol 3 rN;have Aq:=h.ol 8 Aq;have tc:=h.gv 30 132;clear h;refine hK2 _ _ ?_;refine wpIn_cond_false (aW tc) (wpIn_skip ?_);refine hK _ _ ?_;clear hT hL kQ kn;have hT:=i8.next Hu.drew;have hL:∀c,wH.drew.heap.size<=c->(X2 b2 b4) c:=fun c hc=>by have h:wH.heap.size<=c:=hc;exact⟨⟨trivial,by omega⟩,by omega⟩
 have kQ:∀c,bC c->WB.heap.size<=c:=fun _ h=>h.elim;have kn:∀c,(X2 b2 b4) c->¬bC c:=fun _ _ h=>h;refine bX (fun K hK=>?_);refine fw [_,_,_,_,eO (X2 b2 b4) (aP [122]),eO (X2 b2 b4) (aP [122]),_,_,_,_,_,_,_,_,_,_,_,_,_,_] 20 20 CX (by kernel_rfl) (by kernel_rfl) (fun|0,_=>zaf.drew.ld|1,_=>zag.drew.ld|2,_=>sw _ _ 134 135 (aD 0) (aD 1)|3,_=>AH [63,65] [120] [63,116] hL|4,_=>rK [122]|5,_=>rK [122]|6,_=>nn hL _ _ 138 139 (aD 4) (aD 5)|7,_=>Dn [82] [aP [122],aP [122]] 140 (aD 6)|8,_=>gQ hL _ 141 (aD 7)|9,_=>nl 9 [122] [o_ [82] [aP [122],aP [122]]] 142 (aD 8)|10,_=>sw _ _ 137 143 (aD 3) (aD 9)|11,_=>Do hL _ _ _ _ 136 144 (aD 2) (aD 10)|12,_=>TJ.drew.ld|13,_=>uD _ _ _ _ _ aw3 (by decide) Ht mS 145 146 hT kQ hL (aD 11) (aD 12)|14,_=>bM _ 147 (aD 13)|15,_=>gA _ _ 133 (aD 14)|16,_=>ii (i9 (X2 b2 b4) (⟨[],[]⟩)) [.int .i64 1,.int .i64 70] 0 (.int .i64 1) rfl 133 (aD 14)|17,_=>ii (i9 (X2 b2 b4) (⟨[],[]⟩)) [.int .i64 1,.int .i64 70] 1 (.int .i64 70) rfl 133 (aD 14)|18,_=>eP _ 149 (aD 16)|19,_=>eP _ 150 (aD 17)|k+20,hk=>nk hk) fun A13 γ m8 h=>?_;obtain⟨WH,TK,ig⟩:=h.n3 CX PL Hu.drew;have ME:=TJ.drew.nz h;have eE:b2<m8.heap.size:=bJ eE h.inv.1.size;have ks:b4<m8.heap.size:=bJ ks h.inv.1.size;have rN:=h.gv 19 3;have Aq:=h.gv 18 8;clear h;refine hK _ _ ?_;clear hT hL kQ kn;have hT:=i8.next ig.drew;have hL:∀c,m8.drew.heap.size<=c->(X2 b2 b4) c:=fun c hc=>by have h:m8.heap.size<=c:=hc;exact⟨⟨trivial,by omega⟩,by omega⟩
 have kQ:∀c,bC c->WB.heap.size<=c:=fun _ h=>h.elim;have kn:∀c,(X2 b2 b4) c->¬bC c:=fun _ _ h=>h;refine bX (fun K hK=>?_);refine fw [_,eO (X2 b2 b4) (cT [97] []),_,_,_,_,_,_,_,_,_,_] 9 10 WH (by kernel_rfl) (by kernel_rfl) (fun|0,_=>AH [63,65] [120] [63,116] hL|1,_=>Tr [97]|2,_=>jO hL _ 153 (aD 1)|3,_=>Dn [80] [cT [97] []] 154 (aD 2)|4,_=>ME.drew.ld|5,_=>wP _ _ _ _ _ _ aw4 ⟨by decide,by decide⟩ ⟨by decide,by decide⟩ mS 152 155 156 hT kQ hL (aD 0) (aD 3) (aD 4)|6,_=>bM _ 157 (aD 5)|7,_=>gA _ _ 151 (aD 6)|8,_=>ii (i9 (X2 b2 b4) (⟨[],[]⟩)) [.int .i64 71] 0 (.int .i64 71) rfl 151 (aD 6)|9,_=>mQ rfl|10,_=>mR _ 11 158 rfl (aD 9) (aD 7)|11,_=>eP _ 159 (aD 8)|k+12,hk=>nk hk) fun A14 γ W14 h=>?_;obtain⟨TL,WI,TM⟩:=h.n3 WH TK ig.drew;obtain⟨vz,tz,fz⟩:=h.get 9 _ 11 rfl rfl;obtain⟨b11,q11,lz,zcm⟩:=Du tz fz (h.did 10 _ rfl rfl) h.inv;have zah:=ME.drew.nz h;have zai:b11≠b1:=by have:=(bA ME.drew.box);have h:m8.heap.size<=b11:=zcm;have h2:b1<m8.heap.size:=this;omega
 have zeo:b1≠b11:=fun e=>zai e.symm;have zfC:w.heap.size<=b11:=by have h1:m8.heap.size<=b11:=zcm;have h2:=ig.size;omega
 have zcS:LB (X2 b2 b4) A14 W14 11 b11 q11 _:=lz.next rfl (Kp.refl (M:=bC) _) (fun h=>h) (fun _ _ h=>h) (fun _ h _=>h.1);have eE:b2<W14.heap.size:=bJ eE h.inv.1.size;have ks:b4<W14.heap.size:=bJ ks h.inv.1.size;have rN:=h.ol 3 rN;have Aq:=h.ol 8 Aq;have zep:=h.gv 11 12;clear h;refine hK _ _ ?_;clear hT hL kQ kn;have hT:=i8.next TM;have hL:∀c,W14.heap.size<=c->(X2 b2 b4) c:=fun c hc=>by have h:W14.heap.size<=c:=hc;exact⟨⟨trivial,by omega⟩,by omega⟩
 have kQ:∀c,bC c->WB.heap.size<=c:=fun _ h=>h.elim;have kn:∀c,(X2 b2 b4) c->¬bC c:=fun _ _ h=>h;refine bX (fun K hK=>?_);refine bX (fun K2 hK2=>?_);refine b8 [_,_,_,_,_,_,_,_,_,_] 10 10 TL (by kernel_rfl) (fun|0,_=>bM (lV (.int .i64 1)) 8 (old Aq)|1,_=>dW rfl 160 (.bool false) (aD 0)|2,_=>bM _ 161 (aD 1)|3,_=>bM (lV (.int .i64 70)) 3 (old rN) (hw:=wd 2)|4,_=>dW rfl 163 (.bool false) (aD 3) (hw:=wd 2)|5,_=>iL rfl 162 164 (.bool false) (aD 2) (aD 4)|6,_=>bM _ 165 (aD 5)|7,_=>bM (lV (.int .i64 71)) 12 (old zep) (hw:=wd 6)|8,_=>dW rfl 167 (.bool false) (aD 7) (hw:=wd 6)|9,_=>iL rfl 166 168 (.bool false) (aD 6) (aD 8)|k+10,hk=>nk hk) fun A15 γ K5 h=>?_;obtain⟨Kr,PM,Hv⟩:=h.n3 TL WI TM;have TN:=zah.nz h;have eE:b2<K5.heap.size:=bJ eE h.inv.1.size;have ks:b4<K5.heap.size:=bJ ks h.inv.1.size;have rN:=h.ol 3 rN;have Aq:=h.ol 8 Aq;have tc:=h.gv 9 169;clear h;refine hK2 _ _ ?_;refine wpIn_cond_false (aW tc) (wpIn_skip ?_);refine hK _ _ ?_;clear hT hL kQ kn;have hT:=i8.next Hv;have hL:∀c,K5.heap.size<=c->(X2 b2 b4) c:=fun c hc=>by have h:K5.heap.size<=c:=hc;exact⟨⟨trivial,by omega⟩,by omega⟩
 have kQ:∀c,bC c->WB.heap.size<=c:=fun _ h=>h.elim;have kn:∀c,(X2 b2 b4) c->¬bC c:=fun _ _ h=>h;refine bX (fun K hK=>?_);refine b8 [ec (X2 b2 b4) (zU [63,65]),ec (X2 b2 b4) (zU [63,66]),_,_,_,_,_,_] 6 7 Kr (by kernel_rfl) (fun|0,_=>Ki [63,65]|1,_=>Ki [63,66]|2,_=>rL hL _ _ 170 171 (aD 0) (aD 1)|3,_=>nl 5 [] [zU [63,65],zU [63,66]] 172 (aD 2)|4,_=>gQ hL _ 173 (aD 3)|5,_=>nl 8 [120] [Fm.mk 5 [] [] [zU [63,65],zU [63,66]]] 174 (aD 4)|6,_=>jn rfl|7,_=>jo _ 13 175 rfl (aD 6) (aD 5)|k+8,hk=>nk hk) fun A17 γ TO h=>?_;obtain⟨PN,WJ,PO⟩:=h.n3 Kr PM Hv;obtain⟨vz,tz,fz⟩:=h.get 6 _ 13 rfl rfl;obtain⟨b13,q13,lz,zcn⟩:=rM tz fz (h.did 7 _ rfl rfl) h.inv;have zaj:=TN.nz h;have zak:b13≠b1:=by have:=(bA TN.box);have h:K5.heap.size<=b13:=zcn;have h2:b1<K5.heap.size:=this;omega
 have zeq:b1≠b13:=fun e=>zak e.symm;have zfD:w.heap.size<=b13:=by have h1:K5.heap.size<=b13:=zcn;have h2:=Hv.size;omega
 have WK:LF (X2 b2 b4) A17 TO 13 b13 q13 _:=lz.next rfl (Kp.refl (M:=bC) _) (fun h=>h) (fun _ _ h=>h) (fun _ h _=>h.1);have eE:b2<TO.heap.size:=bJ eE h.inv.1.size;have ks:b4<TO.heap.size:=bJ ks h.inv.1.size;have rN:=h.ol 3 rN;have Aq:=h.ol 8 Aq;clear h;refine hK _ _ ?_;clear hT hL kQ kn;have hT:=i8.next PO.drew;have hL:∀c,TO.drew.heap.size<=c->(X2 b2 b4) c:=fun c hc=>by have h:TO.heap.size<=c:=hc;exact⟨⟨trivial,by omega⟩,by omega⟩
 have kQ:∀c,bC c->WB.heap.size<=c:=fun _ h=>h.elim;have kn:∀c,(X2 b2 b4) c->¬bC c:=fun _ _ h=>h;refine bX (fun K hK=>?_);refine fw [_,eO (X2 b2 b4) (aP [121]),_,_,eO (X2 b2 b4) (aP [121]),_,_,_,_,_,_,_,ec (X2 b2 b4) (zU [63,65]),eO (X2 b2 b4) (aP [121]),_,_,_,_,_,_,_,_,_,_,_,_] 26 26 PN (by kernel_rfl) (by kernel_rfl) (fun|0,_=>WK.drew.ld|1,_=>rK [121]|2,_=>jO hL _ 178 (aD 1)|3,_=>Dn [80] [aP [121]] 179 (aD 2)|4,_=>rK [121]|5,_=>jO hL _ 181 (aD 4)|6,_=>Dn [80] [aP [121]] 182 (aD 5)|7,_=>rL hL _ _ 180 183 (aD 3) (aD 6)|8,_=>nl 5 [] [o_ [80] [aP [121]],o_ [80] [aP [121]]] 184 (aD 7)|9,_=>gQ hL _ 185 (aD 8)|10,_=>nl 8 [121] [Fm.mk 5 [] [] [o_ [80] [aP [121]],o_ [80] [aP [121]]]] 186 (aD 9)|11,_=>sw _ _ 177 187 (aD 0) (aD 10)|12,_=>Ki [63,65]|13,_=>rK [121]|14,_=>jO hL _ 190 (aD 13)|15,_=>Dn [80] [aP [121]] 191 (aD 14)|16,_=>sw _ _ 189 192 (aD 12) (aD 15)|17,_=>Do hL _ _ _ _ 188 193 (aD 11) (aD 16)|18,_=>zaj.drew.ld|19,_=>uD _ _ _ _ _ aw5 (by decide) Ht mS 194 195 hT kQ hL (aD 17) (aD 18)|20,_=>bM _ 196 (aD 19)|21,_=>gA _ _ 176 (aD 20)|22,_=>ii (i9 (X2 b2 b4) (⟨[],[]⟩)) [.int .i64 1,.int .i64 70] 0 (.int .i64 1) rfl 176 (aD 20)|23,_=>ii (i9 (X2 b2 b4) (⟨[],[]⟩)) [.int .i64 1,.int .i64 70] 1 (.int .i64 70) rfl 176 (aD 20)|24,_=>eP _ 198 (aD 22)|25,_=>eP _ 199 (aD 23)|k+26,hk=>nk hk) fun A18 γ W18 h=>?_;obtain⟨PP,WL,MF⟩:=h.n3 PN WJ PO.drew;have eE:b2<W18.heap.size:=bJ eE h.inv.1.size;have ks:b4<W18.heap.size:=bJ ks h.inv.1.size;have rN:=h.gv 25 3;have Aq:=h.gv 24 8;clear h;refine hK _ _ ?_;clear hT hL kQ kn;have hT:=i8.next MF;have hL:∀c,W18.heap.size<=c->(X2 b2 b4) c:=fun c hc=>by have h:W18.heap.size<=c:=hc;exact⟨⟨trivial,by omega⟩,by omega⟩
 have kQ:∀c,bC c->WB.heap.size<=c:=fun _ h=>h.elim;have kn:∀c,(X2 b2 b4) c->¬bC c:=fun _ _ h=>h;refine bX (fun K hK=>?_);refine b8 [eO (X2 b2 b4) (aP [63,120]),eO (X2 b2 b4) (aP [120]),_,_,_,_,eO (X2 b2 b4) (aP [120]),_,_,_,_,_] 10 11 PP (by kernel_rfl) (fun|0,_=>rK [63,120]|1,_=>rK [120]|2,_=>nn hL _ _ 200 201 (aD 0) (aD 1)|3,_=>Dn [80] [aP [63,120],aP [120]] 202 (aD 2)|4,_=>zb1 [63,65] _ 203 (aD 3)|5,_=>Tt _ _ 204 hL (aD 4)|6,_=>rK [120]|7,_=>zb2 [63,116] _ 206 (aD 6)|8,_=>Tu _ _ 207 hL (aD 7)|9,_=>WE _ _ 205 208 (aD 5) (aD 8)|10,_=>mQ rfl|11,_=>mR _ 14 209 rfl (aD 10) (aD 9)|k+12,hk=>nk hk) fun A19 γ YS h=>?_;obtain⟨zco,zer,zal⟩:=h.n3 PP WL MF;obtain⟨vz,tz,fz⟩:=h.get 10 _ 14 rfl rfl;obtain⟨QG,q14,lz,zes⟩:=Du tz fz (h.did 11 _ rfl rfl) h.inv;have zfE:w.heap.size<=QG:=by have h1:W18.heap.size<=QG:=zes;have h2:=MF.size;omega
 have Hw:LB (X2 b2 b4) A19 YS 14 QG q14 _:=lz.next rfl (Kp.refl (M:=bC) _) (fun h=>h) (fun _ _ h=>h) (fun _ h _=>h.1);have eE:b2<YS.heap.size:=bJ eE h.inv.1.size;have ks:b4<YS.heap.size:=bJ ks h.inv.1.size;have rN:=h.ol 3 rN;have Aq:=h.ol 8 Aq;clear h;refine hK _ _ ?_;clear hT hL kQ kn;have hT:=i8.next zal.drew;have hL:∀c,YS.drew.heap.size<=c->(X2 b2 b4) c:=fun c hc=>by have h:YS.heap.size<=c:=hc;exact⟨⟨trivial,by omega⟩,by omega⟩
 have kQ:∀c,bC c->WB.heap.size<=c:=fun _ h=>h.elim;have kn:∀c,(X2 b2 b4) c->¬bC c:=fun _ _ h=>h;refine bX (fun K hK=>?_);refine fw [ec (X2 b2 b4) (zU [63,65]),_,_,_,_,_,_,_,_,_,_] 8 9 zco (by kernel_rfl) (by kernel_rfl) (fun|0,_=>Ki [63,65]|1,_=>gQ hL _ 211 (aD 0)|2,_=>nl 9 [120] [zU [63,65]] 212 (aD 1)|3,_=>Hw.drew.ld|4,_=>AI _ _ _ _ aw6 ⟨by decide,by decide⟩ wR 213 214 hT kQ hL (aD 2) (aD 3)|5,_=>bM _ 215 (aD 4)|6,_=>gA _ _ 210 (aD 5)|7,_=>ii (ec (X2 b2 b4) (Tp)) [.int .i64 0] 0 (.int .i64 0) rfl 210 (aD 5)|8,_=>jn rfl|9,_=>jo _ 15 216 rfl (aD 8) (aD 6)|10,_=>eP _ 217 (aD 7)|k+11,hk=>nk hk) fun A20 γ TP h=>?_;obtain⟨TR,WM,PQ⟩:=h.n3 zco zer zal.drew;obtain⟨vz,tz,fz⟩:=h.get 8 _ 15 rfl rfl;obtain⟨PR,q15,lz,zcp⟩:=rM tz fz (h.did 9 _ rfl rfl) h.inv;have Hx:=Hw.drew.nz h;have WN:PR≠QG:=by have:=(bA Hw.drew.box);have h:YS.heap.size<=PR:=zcp;have h2:QG<YS.heap.size:=this;omega
 have zcT:QG≠PR:=fun e=>WN e.symm;have zfF:w.heap.size<=PR:=by have h1:YS.heap.size<=PR:=zcp;have h2:=zal.size;omega
 have Ob:LF (X2 b2 b4) A20 TP 15 PR q15 _:=lz.next rfl (Kp.refl (M:=bC) _) (fun h=>h) (fun _ _ h=>h) (fun _ h _=>h.1);have eE:b2<TP.heap.size:=bJ eE h.inv.1.size;have ks:b4<TP.heap.size:=bJ ks h.inv.1.size;have rN:=h.ol 3 rN;have Aq:=h.ol 8 Aq;have TS:=h.gv 10 16;clear h;refine hK _ _ ?_;clear hT hL kQ kn;have hT:=i8.next PQ.drew;have hL:∀c,TP.drew.heap.size<=c->(X2 b2 b4) c:=fun c hc=>by have h:TP.heap.size<=c:=hc;exact⟨⟨trivial,by omega⟩,by omega⟩
 have kQ:∀c,bC c->WB.heap.size<=c:=fun _ h=>h.elim;have kn:∀c,(X2 b2 b4) c->¬bC c:=fun _ _ h=>h;refine bX (fun K hK=>?_);refine fw [_,_,_,_,_,_,_,_,_] 6 7 TR (by kernel_rfl) (by kernel_rfl) (fun|0,_=>AH [63,65] [120] [63,116] hL|1,_=>Hx.drew.ld|2,_=>AI _ _ _ _ aw7 ⟨by decide,by decide⟩ wR 219 220 hT kQ hL (aD 0) (aD 1)|3,_=>bM _ 221 (aD 2)|4,_=>gA _ _ 218 (aD 3)|5,_=>ii (ec (X2 b2 b4) (Tq)) [.int .i64 0] 0 (.int .i64 0) rfl 218 (aD 3)|6,_=>jn rfl|7,_=>jo _ 17 222 rfl (aD 6) (aD 4)|8,_=>eP _ 223 (aD 5)|k+9,hk=>nk hk) fun A21 γ EL h=>?_;obtain⟨Ks,PS,Hy⟩:=h.n3 TR WM PQ.drew;obtain⟨vz,tz,fz⟩:=h.get 6 _ 17 rfl rfl;obtain⟨QH,q17,lz,zam⟩:=rM tz fz (h.did 7 _ rfl rfl) h.inv;have Hz:=Hx.drew.nz h;have Oc:=Ob.drew.nz h;have WO:QH≠QG:=by have:=(bA Hx.drew.box);have h:TP.heap.size<=QH:=zam;have h2:QG<TP.heap.size:=this;omega
 have zcU:QG≠QH:=fun e=>WO e.symm;have WP:QH≠PR:=by have:=(bA Ob.drew.box);have h:TP.heap.size<=QH:=zam;have h2:PR<TP.heap.size:=this;omega
 have zcV:PR≠QH:=fun e=>WP e.symm;have zfG:w.heap.size<=QH:=by have h1:TP.heap.size<=QH:=zam;have h2:=PQ.size;omega
 have Od:LF (X2 b2 b4) A21 EL 17 QH q17 _:=lz.next rfl (Kp.refl (M:=bC) _) (fun h=>h) (fun _ _ h=>h) (fun _ h _=>h.1);have eE:b2<EL.heap.size:=bJ eE h.inv.1.size;have ks:b4<EL.heap.size:=bJ ks h.inv.1.size;have rN:=h.ol 3 rN;have Aq:=h.ol 8 Aq;have TS:=h.ol 16 TS;have zan:=h.gv 8 18;clear h;refine hK _ _ ?_;clear hT hL kQ kn;have hT:=i8.next Hy.drew;have hL:∀c,EL.drew.heap.size<=c->(X2 b2 b4) c:=fun c hc=>by have h:EL.heap.size<=c:=hc;exact⟨⟨trivial,by omega⟩,by omega⟩
 have kQ:∀c,bC c->WB.heap.size<=c:=fun _ h=>h.elim;have kn:∀c,(X2 b2 b4) c->¬bC c:=fun _ _ h=>h;refine bX (fun K hK=>?_);refine fw [ec (X2 b2 b4) (zU [63,65]),_,_,_,_,_,_,_,_] 6 7 Ks (by kernel_rfl) (by kernel_rfl) (fun|0,_=>Ki [63,65]|1,_=>Hz.drew.ld|2,_=>AI _ _ _ _ aw8 ⟨by decide,by decide⟩ wR 225 226 hT kQ hL (aD 0) (aD 1)|3,_=>bM _ 227 (aD 2)|4,_=>gA _ _ 224 (aD 3)|5,_=>ii (ec (X2 b2 b4) (jq)) [.int .i64 72] 0 (.int .i64 72) rfl 224 (aD 3)|6,_=>jn rfl|7,_=>jo _ 19 228 rfl (aD 6) (aD 4)|8,_=>eP _ 229 (aD 5)|k+9,hk=>nk hk) fun A22 γ W22 h=>?_;obtain⟨WQ,zao,WR⟩:=h.n3 Ks PS Hy.drew;obtain⟨vz,tz,fz⟩:=h.get 6 _ 19 rfl rfl;obtain⟨QI,q19,lz,WS⟩:=rM tz fz (h.did 7 _ rfl rfl) h.inv;have WT:=Hz.drew.nz h;have WU:=Oc.drew.nz h;have WV:=Od.drew.nz h;have WW:QI≠QG:=by have:=(bA Hz.drew.box);have h:EL.heap.size<=QI:=WS;have h2:QG<EL.heap.size:=this;omega
 have zcW:QG≠QI:=fun e=>WW e.symm;have WX:QI≠PR:=by have:=(bA Oc.drew.box);have h:EL.heap.size<=QI:=WS;have h2:PR<EL.heap.size:=this;omega
 have zcX:PR≠QI:=fun e=>WX e.symm;have WY:QI≠QH:=by have:=(bA Od.drew.box);have h:EL.heap.size<=QI:=WS;have h2:QH<EL.heap.size:=this;omega
 have zcY:QH≠QI:=fun e=>WY e.symm;have zfH:w.heap.size<=QI:=by have h1:EL.heap.size<=QI:=WS;have h2:=Hy.size;omega
 have zcZ:LF (X2 b2 b4) A22 W22 19 QI q19 _:=lz.next rfl (Kp.refl (M:=bC) _) (fun h=>h) (fun _ _ h=>h) (fun _ h _=>h.1);have eE:b2<W22.heap.size:=bJ eE h.inv.1.size;have ks:b4<W22.heap.size:=bJ ks h.inv.1.size;have rN:=h.ol 3 rN;have Aq:=h.ol 8 Aq;have TS:=h.ol 16 TS;have zan:=h.ol 18 zan;have zet:=h.gv 8 20;clear h;refine hK _ _ ?_;clear hT hL kQ kn;have hT:=i8.next WR.drew;have hL:∀c,W22.drew.heap.size<=c->(X2 b2 b4) c:=fun c hc=>by have h:W22.heap.size<=c:=hc;exact⟨⟨trivial,by omega⟩,by omega⟩
 have kQ:∀c,bC c->WB.heap.size<=c:=fun _ h=>h.elim;have kn:∀c,(X2 b2 b4) c->¬bC c:=fun _ _ h=>h;refine bX (fun K hK=>?_);refine fw [_,_,_,_,_,_,_,_,_,_,_,_,_,_,_,_,eO (X2 b2 b4) (aP [120,49]),eO (X2 b2 b4) (aP [120]),_,_,_,_,_,_,_,_,eO (X2 b2 b4) (aP [120]),eO (X2 b2 b4) (aP [120]),_,_,_,_,_,_,_,_,_,_,_,_,_] 41 41 WQ (by kernel_rfl) (by kernel_rfl) (fun|0,_=>bM (lV (.int .i64 1)) 8 (old Aq)|1,_=>dW rfl 230 (.bool true) (aD 0)|2,_=>bM _ 231 (aD 1)|3,_=>bM (lV (.int .i64 70)) 3 (old rN) (hw:=wd 2)|4,_=>dW rfl 233 (.bool true) (aD 3) (hw:=wd 2)|5,_=>iL rfl 232 234 (.bool true) (aD 2) (aD 4)|6,_=>bM _ 235 (aD 5)|7,_=>bM (lV (.int .i64 0)) 16 (old TS) (hw:=wd 6)|8,_=>dW rfl 237 (.bool true) (aD 7) (hw:=wd 6)|9,_=>iL rfl 236 238 (.bool true) (aD 6) (aD 8)|10,_=>bM _ 239 (aD 9)|11,_=>bM (lV (.int .i64 0)) 18 (old zan) (hw:=wd 10)|12,_=>dW rfl 241 (.bool true) (aD 11) (hw:=wd 10)|13,_=>iL rfl 240 242 (.bool true) (aD 10) (aD 12)|14,_=>bM _ 243 (aD 13)|15,_=>WU.drew.ld (hw:=wd 14)|16,_=>rK [120,49] (hw:=wd 14)|17,_=>rK [120] (hw:=wd 14)|18,_=>nn hL _ _ 246 247 (aD 16) (aD 17) (hw:=wd 14)|19,_=>Dn [80] [aP [120,49],aP [120]] 248 (aD 18) (hw:=wd 14)|20,_=>gQ hL _ 249 (aD 19) (hw:=wd 14)|21,_=>nl 9 [120,49] [o_ [80] [aP [120,49],aP [120]]] 250 (aD 20) (hw:=wd 14)|22,_=>wQ (Tp) (Fm.mk 9 [120,49] [] [o_ [80] [aP [120,49],aP [120]]]) ⟨by decide,by decide⟩ 245 251 (aD 15) (aD 21) (hw:=wd 14) (hp:=(sx zel))|23,_=>iL rfl 244 252 (.bool true) (aD 14) (aD 22)|24,_=>bM _ 253 (aD 23)|25,_=>WV.drew.ld (hw:=wd 24)|26,_=>rK [120] (hw:=wd 24)|27,_=>rK [120] (hw:=wd 24)|28,_=>nn hL _ _ 256 257 (aD 26) (aD 27) (hw:=wd 24)|29,_=>Dn [80] [aP [120],aP [120]] 258 (aD 28) (hw:=wd 24)|30,_=>wQ (Tq) (o_ [80] [aP [120],aP [120]]) ⟨by decide,by decide⟩ 255 259 (aD 25) (aD 29) (hw:=wd 24) (hp:=(sx zem))|31,_=>iL rfl 254 260 (.bool true) (aD 24) (aD 30)|32,_=>bM _ 261 (aD 31)|33,_=>bM (lV (.int .i64 72)) 20 (old zet) (hw:=wd 32)|34,_=>dW rfl 263 (.bool true) (aD 33) (hw:=wd 32)|35,_=>iL rfl 262 264 (.bool true) (aD 32) (aD 34)|36,_=>bM _ 265 (aD 35)|37,_=>WT.drew.ld (hw:=wd 36)|38,_=>Ts _ wR 267 hT kQ (aD 37) (hw:=wd 36) (hp:=(sx aw9))|39,_=>iL rfl 266 268 (.bool true) (aD 36) (aD 38)|40,_=>eP _ 269 (aD 39)|k+41,hk=>nk hk) fun A23 γ YT h=>?_;obtain⟨WZ,W_,TT⟩:=h.n3 WQ zao WR.drew;have eE:b2<YT.heap.size:=bJ eE h.inv.1.size;have ks:b4<YT.heap.size:=bJ ks h.inv.1.size;have tc:=h.gv 40 0;refine hK _ _ ?_;refine wpIn_ret ?_;refine bK (v:=.bool true) (by simp[results,Tryz.results12,go_sem,tc]) W_ ⟨rfl,TT⟩
end
theorem Dv{l:List Tm}(h:dO l=true){t:Tm}(ht:t∈l):jL t=true:=by
 induction l with
 |nil=>cases ht
 |cons u l ih=>
  simp only[dO,ae]at h;exact qfi
theorem Kt{l:List Fm}(h:eR l=true){t:Fm}(ht:t∈l):gS t=true:=by
 induction l with
 |nil=>cases ht
 |cons u l ih=>
  simp only[eR,ae]at h;exact qfi
def zeu(t:Tm):Prop:=∀(u:Tm)(ps:List (Str×Str))(v:Value)(ok ok':Nat->Prop)(w:World)(q q':TQ),ps.length<=1000000000->fitT t->jL t=true->TermV ok w q.val t->TermV ok' w q'.val u->PairsV w v ps→
 Calls Tryz.prog 147 #[q.val,q'.val,v] w fun e w'=>e=.returned (.bool (fZ ps.reverse t u))/\Below w.heap.size w w'
theorem Ku:∀t,zeu t:=by
 intro t
 induction t using Tm.ind with
 |h xv xn xa ih=>
 intro u ps v ok ok' w q q' iG hf AA hq iN hp;exact qcd
theorem PU:(Tryz.prog.info? 196).map (fun i=>(i.zero,i.size,i.bytes))=some (some (.agg #[.string ByteArray.empty,.string ByteArray.empty]),2,32):=by kernel_rfl
def zew(t:Fm):Prop:=∀(u:Fm)(ps:List (Str×Str))(v:Value)(ok ok':Nat->Prop)(w:World)(q q':FQ),ps.length+eI t<=1000000000->fitF t->gS t=true->FormV ok w q.val t->FormV ok' w q'.val u->PairsV w v ps→
 Calls Tryz.prog 83 #[q.val,q'.val,v] w fun e w'=>e=.returned (.bool (cg ps.reverse t u))/\Below w.heap.size w w'
theorem TU:∀t,zew t:=by
 obtain⟨i0,hi,ow,iM,gY⟩:=info_parts PU;intro t
 induction t using Fm.ind with
 |h uo xn xa xs ih=>
 intro u ps v ok ok' w q q' iG hf AA hq iN hp;exact qeO
def H'(f g:Fm):Bool:=bT f&&(bT g&&cg [] f g)
theorem PV(W0:World)(f g:Fm)(hf:fitF f)(hg:fitF g)(ok ok':Nat->Prop)(w:World)(ht:Tabs W0 w)(q q':FQ)(hq:FormV ok w q.val f)(iN:FormV ok' w q'.val g):
  Calls Tryz.prog 38 #[q.val,q'.val] w fun e w'=>e=.returned (.bool (H' f g))/\Below w.heap.size w w':=by
 have⟨W2,aZ⟩:=aj ((w.alloc (.cells #[.int .u8 q.o,.string q.n,.slice q.a q.l q.c,.slice q.b q.m q.e] 36)).alloc (.cells #[.int .u8 q'.o,.string q'.n,.slice q'.a q'.l q'.c,.slice q'.b q'.m q'.e] 36));have hB:=k_ aZ;have HX:Hd (W2.heap[w.heap.size]?=some (.cells #[.int .u8 q.o,.string q.n,.slice q.a q.l q.c,.slice q.b q.m q.e] 36 (0,0))):=ab (by rw[aZ];exact(bH _ _ _ (by simp)).trans (ah rfl));have HY:Hd (W2.heap[w.heap.size+1]?=some (.cells #[.int .u8 q'.o,.string q'.n,.slice q'.a q'.l q'.c,.slice q'.b q'.m q'.e] 36 (0,0))):=ab (by rw[aZ];exact ah (by simp));have C1:=oZ W0 f hf _ W2 (ht.next hB) q (hq.later hB);have C2:=fun(W:World)(h:Below W2.heap.size W2 W)=>oZ W0 g hg _ W ((ht.next hB).next h) q' ((iN.later hB).later h);have C3:=fun(hr:bT f=true)(W:World)(h:Below W2.heap.size W2 W)=>TU f g [] (.slice none 0 0) _ _ W q q' (by have:=hf.1;simp[eI];omega) hf (oh f (by simp only[bT,ae]at hr;exact hr.1)) ((hq.later hB).later h) ((iN.later hB).later h) (PairsV.nil W);have⟨b1,hb1⟩:=aj (bT f);have⟨b2,bG⟩:=aj (bT g);have⟨b3,aG⟩:=aj (cg [] f g);unfold H';simp only[List.reverse_nil]at C3;rw[<-hb1]at C1 C3⊢;rw[<-bG]at C2⊢;rw[<-aG]at C3⊢;clear hb1 bG aG hq iN hf hg ht;have qnQ:=();exact qfj
mutual
def YU:Tm->Nat|.mk _ n a=>1+n.length / 40+wS a
def wS:List Tm->Nat|[]=>0|t::l=>YU t+wS l
end
mutual
def UP:Fm->Nat|.mk _ n a s=>1+n.length / 40+wS a+wT s
def wT:List Fm->Nat|[]=>0|t::l=>UP t+wT l
end
mutual
theorem zap(p:Nat):∀t,jJ p t=true->YU t<=nodesT t*(1+p / 40)
 |.mk v n a,h=>by
  simp only[jJ,ae,br]at h;have h1:=AJ p a h.2;have h2:n.length / 40<=p / 40:=Nat.div_le_div_right h.1;have e:(nodesTs a+1)*(1+p / 40)=nodesTs a*(1+p / 40)+(1+p / 40):=by rw[Nat.add_mul,Nat.one_mul]
  unfold YU nodesT;omega
theorem AJ(p:Nat):∀l,nmTs p l=true->wS l<=nodesTs l*(1+p / 40)
 |[],_=>by simp[wS]
 |t::l,h=>by
  simp only[nmTs,ae]at h;have h1:=zap p t h.1;have h2:=AJ p l h.2;have e:(nodesT t+nodesTs l)*(1+p / 40)=nodesT t*(1+p / 40)+nodesTs l*(1+p / 40):=Nat.add_mul _ _ _;unfold wS nodesTs;omega
end
mutual
theorem TV(p:Nat):∀t,li p t=true->UP t<=nodesF t*(1+p / 40)
 |.mk o n a s,h=>by
  simp only[li,ae,br]at h;have h1:=AJ p a h.2.2.1;have h3:=H_ p s h.2.2.2;have h2:n.length / 40<=p / 40:=Nat.div_le_div_right h.2.1;have e:(nodesTs a+nodesFs s+1)*(1+p / 40)=nodesTs a*(1+p / 40)+nodesFs s*(1+p / 40)+(1+p / 40):=by rw[Nat.add_mul,Nat.add_mul,Nat.one_mul]
  unfold UP nodesF;omega
theorem H_(p:Nat):∀l,nmFs p l=true->wT l<=nodesFs l*(1+p / 40)
 |[],_=>by simp[wT]
 |t::l,h=>by
  simp only[nmFs,ae]at h;have h1:=TV p t h.1;have h2:=H_ p l h.2;have e:(nodesF t+nodesFs l)*(1+p / 40)=nodesF t*(1+p / 40)+nodesFs l*(1+p / 40):=Nat.add_mul _ _ _;unfold wT nodesFs;omega
end
theorem fitTs.sz{l:List Tm}(h:fitTs l):wS l<=100002000000:=aN (AJ _ l h.2) (by have:=h.1;omega)
theorem fitFs.sz{l:List Fm}(h:fitFs l):wT l<=100002000000:=aN (H_ _ l h.2) (by have:=h.1;omega)
theorem fitF.sz{f:Fm}(h:fitF f):UP f<=100002000000:=aN (TV _ f h.2) (by have:=h.1;omega)
mutual
def MG:Tm->Int->Nat|.mk _ n a,left=>1+n.length / 40+jP a left 0
def jP:List Tm->Int->Nat->Nat
 |[],_,n=>n
 |t::r,left,n=>if(n:Int)<=left then jP r left (n+MG t (left-n))else n
end
mutual
def Dw:Fm->Int->Nat|.mk _ n a s,left=>eY s left (1+n.length / 40+jP a left 0)
def eY:List Fm->Int->Nat->Nat
 |[],_,n=>n
 |t::r,left,n=>if(n:Int)<=left then eY r left (n+Dw t (left-n))else n
end
theorem MH(l:List Tm){n:Nat}(h:¬(n:Int)<=left):jP l left n=n:=by
 cases l<;>simp[jP,h]
theorem zV(l:List Fm){n:Nat}(h:¬(n:Int)<=left):eY l left n=n:=by
 cases l<;>simp[eY,h]
mutual
theorem Xa:∀(t:Tm)(left:Int),MG t left<=YU t/\((MG t left:Int)<=left->MG t left=YU t)
 |.mk v n a,left=>by
  have h:=np a left 0;unfold MG YU;constructor
  ·omega
  ·intro h2;have:=h.2.2 (by omega);omega
theorem np:∀(l:List Tm)(left:Int)(n:Nat),n<=jP l left n/\jP l left n<=n+wS l/\((jP l left n:Int)<=left->jP l left n=n+wS l)
 |[],left,n=>by simp[jP,wS]
 |t::r,left,n=>by
  unfold jP wS
  by_cases hn:(n:Int)<=left
  ·rw[aw hn];have h1:=Xa t (left-n);have h2:=np r left (n+MG t (left-n));exact qfk
  ·rw[ak hn];exact⟨aC _,by omega,fun h=>absurd h hn⟩
end
mutual
theorem Xb:∀(t:Fm)(left:Int),Dw t left<=UP t/\((Dw t left:Int)<=left->Dw t left=UP t)
 |.mk o n a s,left=>by
  have h:=np a left 0;have h1:=lw s left (1+n.length / 40+jP a left 0);unfold Dw UP;refine⟨by omega,fun h2=>?_⟩;have h3:=h1.2.2 h2;have h4:=h.2.2 (by omega);omega
theorem lw:∀(l:List Fm)(left:Int)(n:Nat),n<=eY l left n/\eY l left n<=n+wT l/\((eY l left n:Int)<=left->eY l left n=n+wT l)
 |[],left,n=>by simp[eY,wT]
 |t::r,left,n=>by
  unfold eY wT
  by_cases hn:(n:Int)<=left
  ·rw[aw hn];have h1:=Xb t (left-n);have h2:=lw r left (n+Dw t (left-n));exact qfk
  ·rw[ak hn];exact⟨aC _,by omega,fun h=>absurd h hn⟩
end
def Oe(l:List Tm):Prop:=∀(ok:Nat->Prop)(w:World)(a:Option Addr)(n c:Nat)(left:Int),fitTs l->TermsV ok w (.slice a n c) l->0<=left->left<=1000000000000→
 Calls Tryz.prog 54 #[.slice a n c,.int .i64 left] w fun e w'=>e=.returned (.int .i64 (jP l left 0))/\Below w.heap.size w w'
theorem TW(n:Nat):Int.tdiv (n:Int) 40=((n / 40:Nat):Int):=by rw[Int.tdiv_eq_ediv_of_nonneg (by omega)];rfl
theorem Kv(l:List Tm)(ih:∀t∈l,Oe t.a):Oe l:=by
 intro ok w a n c left ar hl h0 h1;obtain rfl:=hl.len;have bW:=ar.len;have hsz:=ar.sz;exact qeR
theorem PW:∀t:Tm,Oe t.a:=by
 intro t
 induction t using Tm.ind with
 |h v n a ih=>exact Kv a ih
theorem TX(l:List Tm):Oe l:=Kv l (fun t _=>PW t)
theorem TY:∀(f:Fm),fitF f->∀(ok:Nat->Prop)(w:World)(q:FQ)(left:Int),FormV ok w q.val f->0<=left->left<=1000000000000→
  Calls Tryz.prog 23 #[q.val,.int .i64 left] w fun e w'=>e=.returned (.int .i64 (Dw f left))/\Below w.heap.size w w':=by
 intro t
 induction t using Fm.ind with
 |h o n a s ih=>
  intro ar ok w q left hq h0 h1;have qnR:=();exact qas
def mg(l:List Fm):Bool:=decide (eY l 500 0<=500)
theorem Kw{l:List Fm}(h:mg l=true):wT l<=500:=by
 unfold mg at h;have h1:=(lw l 500 0).2.2;simp only[br]at h;have:=h1 (by omega);omega
theorem F0(l:List Fm)(ar:fitFs l)(ok:Nat->Prop)(w:World)(a:Option Addr)(n c:Nat)(hl:FormsV ok w (.slice a n c) l):
  Calls Tryz.prog 22 #[.slice a n c] w fun e w'=>e=.returned (.bool (mg l))/\Below w.heap.size w w':=by
 obtain rfl:=hl.len;have bW:=ar.len;have zcr:=ar.sz;have⟨k0,cd⟩:=aj l.length;rw[<-cd]at bW⊢;have⟨du,HL,HF⟩:=cE cd hl ar;clear cd hl ar;go_enter Tryz.func22,Tryz.ntmps22;go_wp2;go_loopw [3,4] (fun r i wr=>∃k m:Nat,k<=k0/\i=.int .i64 k/\r=.int .i64 m/\Below w.heap.size w wr/\eY l 500 0=eY (l.drop k) 500 m/\m<=100002000000) (fun _ i _=>k0-(intOf i).toNat)
 case atStart=>exact⟨0,0,aX _,rfl,rfl,ai _ _,by simp,by omega⟩
 case round=>
  obtain⟨k,m,hk,rfl,rfl,aq,hcut,DW⟩:=hrel
  by_cases hlt:k<k0
  ·by_cases ro:(m:Int)<=500
   ·have bj:=cb du.o hlt;obtain⟨b,off,u,rfl,_,hu,c0,c1,c2,c3⟩:=HL.o.get bj;have YV:l.drop k=l[k]::l.drop (k+1):=gB bj;rw[YV]at hcut;have qnS:=();exact qaI
   ·have JG:decide ((m:Int)<=500)=false:=by simp;omega
    have qnT:=();exact qcr
  ·obtain rfl:k=k0:=by omega
   have hd:l.drop k=[]:=by rw[du.o];exact List.drop_length
   rw[hd]at hcut;have HE:=ab (show mg l=decide ((m:Int)<=500) by have e:eY l 500 0=m:=hcut;unfold mg;rw[e,ip];simp;omega);have Xc:=ab aq;clear hcut aq hd;go_wp2;go_ret;exact⟨az HE.o.symm,Xc.o⟩
section
attribute [local go_sem] Oper.semAt_some
def zex:Fact:=⟨fun _ _ _=>True,fun _ _ _ _ _ _ h=>h⟩
def zcs(L:Nat->Prop)(l:List Str):Fact:=⟨StrsG L l,fun _ _ _ _ _ hG=>StrsG.step hG⟩
section
variable{ops:Array Oper}{Q:Exit->Act->World->Prop}{a0:Act}{l:List Fact}{kA kS k:Nat}{M:Nat->Prop}{w0:World}{md:Region.Mode}{L:Nat->Prop}
theorem PX(h:v≠.bool b):¬(match some v with|some (Value.bool b)=>some b|_=>none)=some b:=by
 intro e;split at e
 ·rename_i h1;cases h1;cases e;exact h rfl
 ·cases e
theorem PY{x:Value}(b:Bool)(hx:x≠.bool b)(j:Nat)(hd:Dep md ops a0 l kA kS M w0 k o d (fun v _ _=>v=x))(ho:ops[k]?=some o:=by rfl)(hg:o.guard=some (j,b):=by rfl)(hj:ops[j]?=some oj:=by rfl)(KM:oj.dst=some d:=by rfl)(hp:dR l k=(lV undef).p\/dR l k=zex.p):cH md ops Q a0 l kA kS M w0 k:=by
 exact qbb
theorem Dy(b:Bool)(j:Nat)(hd:Dep md ops a0 l kA kS M w0 k o d (fun v _ _=>v=.bool (!b)))(ho:ops[k]?=some o:=by rfl)(hg:o.guard=some (j,b):=by rfl)(hj:ops[j]?=some oj:=by rfl)(KM:oj.dst=some d:=by rfl)(hp:dR l k=(lV undef).p:=by rfl):cH md ops Q a0 l kA kS M w0 k:=
 PY b (by cases b<;>simp) j hd ho hg hj KM (.inl hp)
theorem T0{Wb:World}(hT:Tabs Wb w0)(hM:∀b,M b->Wb.heap.size<=b){gu:Option (Nat×Bool)}(ho:ops[k]?=some o:=by rfl)(eo:o=⟨some d,.call ⟨.value (.func 12),#[],wM⟩,ty,pos,ee,gu⟩:=by rfl)(hw:Wt md ops a0 l kA kS M w0 k o:=by exact fun _ _ _ _=>rfl)(hp:dR l k=(lV (.bool true)).p:=by rfl):cH md ops Q a0 l kA kS M w0 k:=
 by subst eo;exact dP hw ho rfl 12 (fun a γ w aT=>by
  refine⟨#[],by go_simp,(PK Wb w (hT.kp aT.inv.1 hM)).mono ?_⟩;rintro e w' ⟨rfl,hb⟩;exact⟨⟨_,rfl,by rw[hp];rfl⟩,hb⟩)
theorem Dz(fs:List Fm)(hf:fitFs fs)(x:Nat){gu:Option (Nat×Bool)}(hx:Dep md ops a0 l kA kS M w0 k o x (FormsG L fs))(ho:ops[k]?=some o:=by rfl)(eo:o=⟨some d,.call ⟨.value (.func 22),#[.tmp x],wM⟩,ty,pos,ee,gu⟩:=by rfl)(hw:Wt md ops a0 l kA kS M w0 k o:=by exact fun _ _ _ _=>rfl)(hp:dR l k=(lV (.bool (mg fs))).p:=by rfl):cH md ops Q a0 l kA kS M w0 k:=
 by subst eo;exact dP hw ho rfl 22 (fun a γ w aT=>by
  obtain⟨vx,ex,fx⟩:=hx.is aT;obtain⟨ax,cx,rfl,hx⟩:=fx;refine⟨#[.slice ax fs.length cx],by go_simp,(F0 fs hf _ w ax _ cx hx).mono ?_⟩;rintro e w' ⟨rfl,hb⟩;exact⟨⟨_,rfl,by rw[hp];rfl⟩,hb⟩)
end
def RowX(lo:Nat)(v:Value)(ts:List Fm)(W:World):Prop:=
 ∃qs:List FQ,qs.length=ts.length/\W.ownsRow lo 36 4 v ts.length (qs.flatMap FQ.cells)/\∀j (h:j<qs.length) (h2:j<ts.length),FormV (fun b=>v.ownBlock≠some b) W qs[j].val ts[j]
theorem RowX.nil(lo:Nat)(W:World):RowX lo (.slice none 0 0) [] W:=⟨[],rfl,World.ownsRow_nil _ _ _ _,fun j h=>by simp at h⟩
theorem RowX.slice(h:RowX lo v ts W):∃a c,v=.slice a ts.length c:=by
 exact qcj
theorem RowX.forms(h:RowX lo v ts W):FormsV (fun _=>True) W v ts:=by
 exact qbX
theorem RowX.step{g cap k:Nat}{fs:List Fm}{W1:World}{qs ps:List FQ}(hk:qs.length=ts.length)(hp:ps.length=fs.length)(hb:Below W.heap.size W W1)
  (ht:∀j (h:j<qs.length) (h2:j<ts.length),FormV (fun b=>v.ownBlock≠some b) W qs[j].val ts[j]) (hq:∀j (h:j<ps.length) (h2:j<fs.length),FormV (fun b=>v.ownBlock≠some b) W1 ps[j].val fs[j])
  (aO:w4.ownsRow lo 36 4 (.slice (some ⟨g,0,none⟩) k cap) k (qs.flatMap FQ.cells++ps.flatMap FQ.cells)) (iO:k=ts.length+fs.length)
  (am:W1.grownBy w4 v.ownBlock) (hg:v.ownBlock=some g\/W1.heap.size<=g):RowX lo (.slice (some ⟨g,0,none⟩) k cap) (ts++fs) w4:=by
 have hs:=hb.size;have Dx:∀c,c<W1.heap.size->v.ownBlock≠some c->(Value.slice (some ⟨g,0,none⟩) k cap).ownBlock≠some c:=fun c hc hn e=>by
  injection e with e;obtain rfl:g=c:=e;rcases hg with hg|hg
  ·exact hn hg
  ·omega
 refine⟨qs++ps,by simp[hk,hp],by rw[List.flatMap_append,cU,<-iO];exact aO,fun j h1 h2=>?_⟩
 by_cases hj:j<qs.length
 ·rw[List.getElem_append_left hj,List.getElem_append_left (by omega)];exact(ht j hj (by omega)).move (fun b hok hlt=>⟨Dx b (by omega) hok,(am.block b (by omega) (fun e=>hok e.symm)).trans (hb.block b hlt)⟩)
 ·rw[List.getElem_append_right (by omega),List.getElem_append_right (by omega)];simp only[hk];refine(hq (j-ts.length) (by simp at h1;omega) (by simp at h2;omega)).move (fun b hok hlt=>⟨Dx b hlt hok,am.block b hlt (fun e=>hok e.symm)⟩)
theorem tp{F:Fence}{n:Nat}{Q:Exit->Act->World->Prop}{K:Act->World->Prop}(s x:Operand)(ho:o.op=.call {callee:=.builtin .append,args:=#[s,x],argTypes:=#[34,34] })
  (lo:Nat) (ra:Option Addr) (m rc:Nat) (ts fs:List Fm) (ps:List FQ) (wr V:World) (cs:Array Value) (de:RowX lo (.slice ra m rc) ts wr) (hm:ts.length=m) (hV:Below wr.heap.size wr V) (hlo:lo<=wr.heap.size) (hp:ps.length=fs.length) (oQ:0<ps.length)
  (hq:∀j (h:j<ps.length) (h2:j<fs.length),FormV (fun b=>(Value.slice ra m rc).ownBlock≠some b) V ps[j].val fs[j]) (hs:a.eval s=.slice ra m rc) (hx:a.eval x=.slice (some ⟨V.heap.size,0,none⟩) ps.length ps.length)
  (hcs:cs.toList=ps.flatMap FQ.cells) (zfI:m+ps.length<=4000000)
  (h:∀g cap w',RowX lo (.slice (some ⟨g,0,none⟩) (m+ps.length) cap) (ts++fs) w'->(∀w0:World,Below w0.heap.size w0 V->w0.heap.size<=lo->Below w0.heap.size w0 w')->K (a.put o.dst (.slice (some ⟨g,0,none⟩) (m+ps.length) cap)) w'):
  o.wpIn F n Tryz.prog a (V.alloc (.cells cs 36)) K Q:=by
 obtain⟨i0,hi,ow,iM,gY⟩:=info_parts j9;obtain⟨qs,eu,au,gd⟩:=de;rw[hm]at eu au;have hsz:=hV.size;have hb1:Below wr.heap.size wr (V.alloc (.cells cs 36)):=hV.alloc hV.size _;have IC:∀l:List FQ,(l.flatMap FQ.cells).length=l.length*4:=fun l=>by
  induction l with
  |nil=>rfl
  |cons x l ih=>simp only[List.flatMap_cons,cU,ih,eT,FQ.cells,List.length_nil];omega
 have zfJ:cs=(ps.flatMap FQ.cells).toArray:=by rw[<-hcs]
 refine bq s x 34 ho lo 36 i0 (.agg #[.int .u8 0,.string ByteArray.empty,.slice none 0 0,.slice none 0 0]) 4 72 Tryz.underlying34 hi ow iM gY rfl (by decide) (.slice ra m rc) m _ hs (ba au (fun b _ hlt=>hb1.block b hlt)) ⟨V.heap.size,0,none⟩ ps.length ps.length (ps.flatMap FQ.cells) hx (IC ps)
  (by rw[<-hcs];exact cV (cs:=cs) (t:=36) (fr:=(0,0)) (fD V _)) ?_ oQ (by unfold maxLen;omega) (by omega) (by simp;omega) (V.heap.size+1) (by simp) ?_
 ·intro u hu;obtain⟨z,_,hz⟩:=List.mem_flatMap.1 hu;simp only[FQ.cells,cG,List.not_mem_nil,or_false]at hz;rcases hz with rfl|rfl|rfl|rfl<;>rfl
 ·intro g eF w4 aO am hg _;refine h g eF w4 (RowX.step (eu.trans hm.symm) hp hb1 (fun j h1 h2=>gd j h1 h2) (fun j h1 h2=>(hq j h1 h2).move (fun c hc hlt=>⟨hc,bH _ _ _ hlt⟩)) aO (by rw[hm,hp]) am (by rcases hg with h|h;exact .inl h;exact .inr (by simp;omega))) (fun w0 h0 hw0=>?_);exact(h0.alloc h0.size _).grown am (by have:=h0.size;simp;omega) (fun c hc=>aN hw0 (au.lt c hc).1)
def kT(b:List (Str×Fm)):List Fm:=b.flatMap fun x=>[x.2,.mk 1 x.1 [] []]
def lS(b:List (Str×Tm)):List Fm:=b.map fun x=>.mk 1 x.1 [x.2] []
def nr(b:Bd):Bool:=decide (b.fs.length<=10)&&(decide (b.ts.length<=10)&&mg (kT b.fs++lS b.ts))
theorem wU(l:List (Str×Fm)):(kT l).length=2*l.length:=by
 induction l with
 |nil=>rfl
 |cons x l ih=>simp[kT]at ih⊢;omega
theorem PZ{l:List (Str×Fm)}{k:Nat}(h:k<l.length):kT (l.take (k+1))=kT (l.take k)++[l[k].2,.mk 1 l[k].1 [] []]:=by
 rw[mh h];simp only[kT,List.flatMap_append,List.flatMap_cons,List.flatMap_nil,List.append_nil]
theorem P9{l:List (Str×Tm)}{k:Nat}(h:k<l.length):lS (l.take (k+1))=lS (l.take k)++[.mk 1 l[k].1 [l[k].2] []]:=by
 rw[mh h];simp only[lS,List.map_append,cC,List.map_nil]
theorem MI(bd:Bd)(hf1:bd.fs.length<=1000000)(UL:bd.ts.length<=1000000)(ar:bd.fs.length<=10->bd.ts.length<=10->fitFs (kT bd.fs++lS bd.ts))(ok:Nat->Prop)(w:World)(q:BQ)(hq:BindV ok w q bd):
  Calls Tryz.prog 14 #[q.val] w fun e w'=>e=.returned (.bool (nr bd))/\Below w.heap.size w w':=by
 have iN:=hq.move (ok':=fun b=>b<w.heap.size) (fun b _ hlt=>⟨hlt,rfl⟩);have⟨R,hR⟩:=aj (nr bd);rw[<-hR];have⟨k0,eh⟩:=aj bd.fs.length;have⟨n2,i_⟩:=aj bd.ts.length;obtain⟨qa,ql,qc,qb,qm,qe⟩:=q;obtain rfl:=iN.1.len;obtain rfl:=iN.2.len;have hq1:FBindsV (fun b=>b<w.heap.size) w (.slice qa bd.fs.length qc) bd.fs:=iN.1;have Il:TBindsV (fun b=>b<w.heap.size) w (.slice qb bd.ts.length qe) bd.ts:=iN.2;rw[<-eh]at hq1;rw[<-i_]at Il;obtain⟨i0,hi,ow,iM,gY⟩:=info_parts j9;have⟨W1,bY⟩:=aj (w.alloc (.cells #[.slice qa k0 qc,.slice qb n2 qe] 26));have jf:=cM bY;have x1:=bS bY;have e0:W1.cell? ⟨w.heap.size,0,none⟩=some (.slice qa k0 qc):=aF x1 0;have e1:W1.cell? ⟨w.heap.size,1,none⟩=some (.slice qb n2 qe):=aF x1 1;have jt:=bx jf e0 e1;have⟨HWW,qE,xU,BE⟩:=eD bY eh i_ hR;have HQV:=aA hq1 Il;have jw:=ab ar;rw[bY]at e0 e1;clear hq iN hq1 Il hR ar eh i_ bY jf x1;simp only[BQ.val];rw[<-qE.o,<-xU.o]
 by_cases h10:k0<=10
 case neg=>
  have t1:decide ((10:Int)<(k0:Int))=true:=by simp;omega
  have HE:=ab (show R=false by rw[BE.o];unfold nr;rw[<-qE.o];simp[h10]);have qfl:=();exact qcs
 have t1:decide ((10:Int)<(k0:Int))=false:=by simp;omega
 by_cases h20:n2<=10
 case neg=>
  have t2:decide ((10:Int)<(n2:Int))=true:=by simp;omega
  have HE:=ab (show R=false by rw[BE.o];unfold nr;rw[<-xU.o];simp[h20]);have qfl:=();exact qcs
 have t2:decide ((10:Int)<(n2:Int))=false:=by simp;omega
 have HE:=ab (show R=mg (kT bd.fs++lS bd.ts) by rw[BE.o];unfold nr;rw[<-qE.o,<-xU.o];simp[h10,h20]);have Yl:=ab (jw.o (by rw[<-qE.o];exact h10) (by rw[<-xU.o];exact h20));exact qcs
section
variable{F:Fence}{n:Nat}{P:Program}{ops:Array Oper}{Q:Exit->Act->World->Prop}{md:Region.Mode}{S:World->Prop}{e:Nat}
theorem MJ(i d:Nat)(hi:ops[i]?=some oi)(hS:S w)
  (h:S w->dG F n P md ops Q S e cO (listed.setIfInBounds i true) {a with tmps:=a.tmps.setIfInBounds d undef } w)
  (qO:iQ F ops:=by assumption)
  (hs:(Region.noSelect ops&&(Region.free md ops listed i&&((Region.ready md ops listed).contains i&&(ET md ops e i&&rS md ops listed))))=true:=by kernel_rfl)
  (hQ:∀c a w,Q (.panic c) (a.put oi.dst undef) w->Q (.panic c) a w:=by exact fun _ _ _ h=>h) (xE:oi.dst=some d:=by rfl) (hw:Region.wanted oi (yielded ops a.tmps)=false:=by rfl)
  (D2:∀w,oi.about P w a.eval=none:=by exact fun _=>rfl):dG F n P md ops Q S e (cO+1) listed a w:=
 zaJ d qO hi hs hQ xE hw D2 hS h
theorem nnA(i d:Nat)(hi:ops[i]?=some oi)(hS:S w)
  (h:S w->dG F n P md ops Q S e cO (listed.setIfInBounds i true) {a with tmps:=a.tmps.setIfInBounds d undef } w) (hF:∀f,F.fn f:=by exact fun _=>trivial)
  (hr:Region.ready md ops listed=[i]:=by kernel_rfl) (xE:oi.dst=some d:=by rfl) (hw:Region.wanted oi (yielded ops a.tmps)=false:=by rfl):dG F n P md ops Q S e (cO+1) listed a w:=
 zaK d hi hr xE hw (fun f _=>hF f) hS h
theorem twM(i j:Nat)(hi:ops[i]?=some oi)(hj:ops[j]?=some oj)
  (h1:∀K:Act->World->Prop,(∀a w,(i<e->S w)->((i<e->S w)->dG F n P md ops Q S e cO (listed.setIfInBounds i true) a w)->K a w)->Oper.wpIn F n P oi a w K Q)
  (h2:∀K:Act->World->Prop,(∀a w,(j<e->S w)->((j<e->S w)->dG F n P md ops Q S e cO (listed.setIfInBounds j true) a w)->K a w)->Oper.wpIn F n P oj a w K Q)
  (hr:Region.ready md ops listed=[i,j]:=by kernel_rfl) (hwi:Region.wanted oi (yielded ops a.tmps)=true:=by rfl) (hwj:Region.wanted oj (yielded ops a.tmps)=true:=by rfl):dG F n P md ops Q S e (cO+1) listed a w:=by
 exact qeP
end
theorem DA{ok:Nat->Prop}{X:World}{B c:Nat}{p:TQ}{f:Tm}(h:TermV ok X p.val f)(hB:ok B)(hx:X.heap[B]?=some (.cells #[.bool p.v,.string p.n,.slice p.a p.l p.c] 43 (0,0))):TermsV ok X (.slice (some ⟨B,0,none⟩) 1 c) [f]:=
 ⟨_,c,fun _=>p.val,rfl,.inr ⟨B,0,rfl,hB,fun j hj=>by
  obtain rfl:j=0:=by simpa using hj
  exact⟨_,_,_,rfl,mq hx⟩⟩,fun j hj=>by
  obtain rfl:j=0:=by simpa using hj
  exact h⟩
open Classical in
noncomputable def sameB (x y:Bd):Bool:=decide (x=y)
theorem F1{x y:Bd}:sameB x y=true↔x=y:=by simp[sameB]
theorem pW{α:Type}{l m:List α}{k:Nat}(h:l.take k=m.take k)(hl:k<l.length)(hm:k<m.length)(e:l[k]=m[k]):l.take (k+1)=m.take (k+1):=by
 rw[mh hl,mh hm,h,e]
theorem P'(x y:Bd)(sZ:x.fs.length<=1000000)(pw:x.ts.length<=1000000)(hfx:∀f∈x.fs,fitF f.2)(htx:∀t∈x.ts,fitT t.2)(ok ok':Nat->Prop)(w:World)(q q':BQ)(hq:BindV ok w q x)(iN:BindV ok' w q' y):
  Calls Tryz.prog 21 #[q.val,q'.val] w fun e w'=>e=.returned (.bool (sameB x y))/\Below w.heap.size w w':=by
 have⟨R,hR⟩:=aj (sameB x y);have L3:R=true↔x=y:=by rw[hR];exact F1
 rw[<-hR];clear hR;obtain⟨qa,ql,qc,qb,qm,qe⟩:=q;obtain⟨ra,rl,rc,rb,rm,re⟩:=q';obtain rfl:=hq.1.len;obtain rfl:=hq.2.len;obtain rfl:=iN.1.len;obtain rfl:=iN.2.len;have⟨k0,eh⟩:=aj x.fs.length;have⟨n2,i_⟩:=aj x.ts.length;have⟨m1,iI⟩:=aj y.fs.length;have⟨m2,sO⟩:=aj y.ts.length;have hq1:FBindsV ok w (.slice qa x.fs.length qc) x.fs:=hq.1;have Il:TBindsV ok w (.slice qb x.ts.length qe) x.ts:=hq.2;have Rj:FBindsV ok' w (.slice ra y.fs.length rc) y.fs:=iN.1;have hq4:TBindsV ok' w (.slice rb y.ts.length re) y.ts:=iN.2;rw[<-eh]at hq1 sZ;rw[<-i_]at Il pw;rw[<-iI]at Rj;rw[<-sO]at hq4;simp only[BQ.val];rw[<-eh,<-i_,<-iI,<-sO];have⟨W2,aZ⟩:=aj ((w.alloc (.cells #[.slice qa k0 qc,.slice qb n2 qe] 26)).alloc (.cells #[.slice ra m1 rc,.slice rb m2 re] 26));have eV:Below w.heap.size w W2:=k_ aZ;have x0:W2.heap[w.heap.size]?=some (.cells #[.slice qa k0 qc,.slice qb n2 qe] 26 (0,0)):=qM aZ;have x1:W2.heap[w.heap.size+1]?=some (.cells #[.slice ra m1 rc,.slice rb m2 re] 26 (0,0)):=jH aZ;have⟨e0,e1⟩:=UW x0;have⟨e2,e3⟩:=UW x1;have fj:=ab aZ;have HE:=fG eV e0 e1 e2 e3;have HQ:=cq (hq1.later eV) (Il.later eV) (Rj.later eV) (hq4.later eV);have HN:=cq eh i_ iI sO;have HF:=aA hfx htx;have HR:=ab L3;rw[aZ]at e0 e1 e2 e3;clear hq iN hq1 Il Rj hq4 hfx htx L3 aZ eV x0 x1 eh i_ iI sO;have gV:(¬x=y)->R=false:=fun h=>by
  cases hr:R with
  |false=>rfl
  |true=>exact absurd (HR.o.1 hr) h
 have BH:=ab gV;clear gV
 by_cases h1:k0=m1
 case neg=>
  have t1:((k0:Int)==(m1:Int))=false:=by simp;omega
  have t2:((k0:Int)!=(m1:Int))=true:=by simp;omega
  have HE3:=ab (BH.o fun h=>by subst h;exact h1 (by rw[HN.o.1,HN.o.2.2.1]));have qfm:=();exact qct
 subst h1
 by_cases h2:n2=m2
 case neg=>
  have t1:((n2:Int)==(m2:Int))=false:=by simp;omega
  have t2:((n2:Int)!=(m2:Int))=true:=by simp;omega
  have HE3:=ab (BH.o fun h=>by subst h;exact h2 (by rw[HN.o.2.1,HN.o.2.2.2]));have qfm:=();exact qct
 subst h2;exact qct
section
variable{ops:Array Oper}{Q:Exit->Act->World->Prop}{a0:Act}{l:List Fact}{kA kS k:Nat}{M:Nat->Prop}{w0:World}{md:Region.Mode}{L:Nat->Prop}
theorem F3(b:Bd)(h1:b.fs.length<=1000000)(h2:b.ts.length<=1000000)(hf:b.fs.length<=10->b.ts.length<=10->fitFs (kT b.fs++lS b.ts))(x:Nat){gu:Option (Nat×Bool)}(hx:Dep md ops a0 l kA kS M w0 k o x (BindG L b))(ho:ops[k]?=some o:=by rfl)(eo:o=⟨some d,.call ⟨.value (.func 14),#[.tmp x],wM⟩,ty,pos,ee,gu⟩:=by rfl)(hw:Wt md ops a0 l kA kS M w0 k o:=by exact fun _ _ _ _=>rfl)(hp:dR l k=(lV (.bool (nr b))).p:=by rfl):cH md ops Q a0 l kA kS M w0 k:=
 by subst eo;exact dP hw ho rfl 14 (fun a γ w aT=>by
  obtain⟨vx,ex,fx⟩:=hx.is aT;obtain⟨qx,rfl,hx⟩:=fx;refine⟨#[qx.val],by go_simp,(MI b h1 h2 hf _ w qx hx).mono ?_⟩;rintro e w' ⟨rfl,hb⟩;exact⟨⟨_,rfl,by rw[hp];rfl⟩,hb⟩)
theorem T1(b b2:Bd)(hb:BdFit b)(x y:Nat){gu:Option (Nat×Bool)}(hx:Dep md ops a0 l kA kS M w0 k o x (BindG L b))(hy:Dep md ops a0 l kA kS M w0 k o y (BindG L b2))(ho:ops[k]?=some o:=by rfl)(eo:o=⟨some d,.call ⟨.value (.func 21),#[.tmp x,.tmp y],wM⟩,ty,pos,ee,gu⟩:=by rfl)(hw:Wt md ops a0 l kA kS M w0 k o:=by exact fun _ _ _ _=>rfl)(hp:dR l k=(lV (.bool (sameB b b2))).p:=by rfl):cH md ops Q a0 l kA kS M w0 k:=
 by subst eo;exact dP hw ho rfl 21 (fun a γ w aT=>by
  obtain⟨vx,ex,fx⟩:=hx.is aT;obtain⟨vy,ey,fy⟩:=hy.is aT;obtain⟨qx,rfl,hx⟩:=fx;obtain⟨qy,rfl,hy⟩:=fy;refine⟨#[qx.val,qy.val],by go_simp,(P' b b2 (by have:=hb.lf;omega) (by have:=hb.lt;omega) (fun x hx=>(hb.fs x hx).2) (fun x hx=>(hb.ts x hx).2.1) _ _ w qx qy hx hy).mono ?_⟩;rintro e w' ⟨rfl,hb⟩;exact⟨⟨_,rfl,by rw[hp];rfl⟩,hb⟩)
theorem Xd(f:Fm)(x:Nat)(b off:Nat)(q:FQ)(hf:FormV (okS L w0) w0 q.val f)(c0:w0.cell? ⟨b,off,none⟩=some (.int .u8 q.o))(c1:w0.cell? ⟨b,off+1,none⟩=some (.string q.n))(c2:w0.cell? ⟨b,off+2,none⟩=some (.slice q.a q.l q.c))(c3:w0.cell? ⟨b,off+3,none⟩=some (.slice q.b q.m q.e))(hb:¬M b)(hM:∀c,L c->¬M c){gu:Option (Nat×Bool)}(hx:Dep md ops a0 l kA kS M w0 k o x (fun v _ _=>v=.pointer (some ⟨b,off,none⟩)))(ho:ops[k]?=some o:=by rfl)(eo:o=⟨some d,.load 36 (.tmp x),ty,pos,ee,gu⟩:=by rfl)(hw:Wt md ops a0 l kA kS M w0 k o:=by exact fun _ _ _ _=>rfl)(hp:dR l k=(ec L f).p:=by rfl):cH md ops Q a0 l kA kS M w0 k:=
 by subst eo;have hp:dR l k=FormG L f:=hp;exact dH hw ho rfl (fun a γ w aT=>by
  obtain⟨vx,ex,rfl⟩:=hx a γ w aT;have C:=fun i v (h:w0.cell? ⟨b,i,none⟩=some v)=>aT.inv.1.cell (a:=⟨b,i,none⟩) hb h;have c0:=C _ _ c0;have c1:=C _ _ c1;have c2:=C _ _ c2;have c3:=C _ _ c3;exact⟨FQ.val q,by simp only[FQ.val];go_simp,by rw[hp];exact⟨q,rfl,(hf.move (okS.at hM)).move (okB.old aT.inv)⟩⟩)
end
mutual
def UQ:Tm->List Str
 |.mk v n a=>(if(v&&dl n)=true then[n]else[])++j5 a
def j5:List Tm->List Str
 |[]=>[]
 |t::l=>UQ t++j5 l
end
theorem F4:∀{a:List Tm}{j:Nat}(h:j<a.length),j5 (a.take (j+1))=j5 (a.take j)++UQ a[j]
 |t::a,0,_=>by simp[j5]
 |t::a,j+1,h=>by
  have:=F4 (a:=a) (j:=j) (by simpa using h);simp only[List.take_succ_cons,j5,this,List.getElem_cons_succ,List.append_assoc]
mutual
theorem T3:∀t:Tm,(UQ t).length<=nodesT t
 |.mk v n a=>by
  have:=pX a;simp only[UQ,nodesT,cU];split<;>simp <;>omega
theorem pX:∀l:List Tm,(j5 l).length<=nodesTs l
 |[]=>by simp[j5]
 |t::l=>by
  have:=T3 t;have:=pX l;simp only[j5,nodesTs,cU];omega
end
theorem SetW.more{m:Nat}{xs:List Str}{D:DataW Unit}(x:Str)(au:W.ownsMap Tryz.prog 9 (plainElem Tryz.prog 4) m xs.length D)(pz:∀x:Str,Maps.has D (.string x)=true↔x∈xs)(qA:∀x∈xs,∀d,D.atKey (.string x) d=.lit (.bool true))
  (h4:w4.ownsMap Tryz.prog 9 (plainElem Tryz.prog 4) m (xs.length+1) (D.put (.string x) (.lit (.bool true)))):SetW w4 m (xs++[x]).length (xs++[x]):=by
 have hM:=au.isMap;refine⟨_,by rw[cU];exact h4,fun y=>?_,fun y hym d=>?_⟩
 ·by_cases hy:y=x
  ·subst hy;rw[Maps.has_put_same hM (by simp[WideAt.IsKeyLit])];simp
  ·rw[Maps.has_put_other (fun h=>hy (by injection h)),pz];simp[hy]
 ·by_cases hy:y=x
  ·subst hy;rw[Maps.atKey_put_same hM (by simp[WideAt.IsKeyLit])]
  ·rw[Maps.atKey_put_other (fun h=>hy (by injection h))];exact qA y (by simpa[hy]using hym) d
theorem yP:∀(N:Nat)(l:List Tm),nodesTs l<=N->fitTs l->∀(ok:Nat->Prop)(pre:List Str)(m:Nat)(w:World)(a:Option Addr)(c:Nat),SetW w m pre.length pre->TermsV ok w (.slice a l.length c) l->(∀b,ok b->b≠m)->pre.length+nodesTs l<=4000000→
  Calls Tryz.prog 132 #[.slice a l.length c,.map (some m)] w fun e w'=>e=.returned (.tuple #[])/\SetW w' m (pre++j5 l).length (pre++j5 l)/\Kp (fun b=>b=m) w w':=by
 intro N
 induction N using Nat.strongRecOn with
 |ind N ih=>
 intro l hN hf ok pre m w a c hs hv hok bW;have Io:=hf.len;have⟨n1,eh⟩:=aj l.length;rw[<-eh]at hv Io⊢;have⟨HV,HS,HF,qY,fd,ko⟩:=QJ hv hs hf bW ih hok;have HN:=aA eh hN;clear hv hs hf bW ih hok eh hN;go_enter Tryz.func132,Tryz.ntmps132;go_wp2;go_loopw [8] (fun i wr=>∃j:Nat,j<=n1/\i=.int .i64 j/\SetW wr m (pre++j5 (l.take j)).length (pre++j5 (l.take j))/\Kp (fun b=>b=m) w wr) (fun i _=>n1-(intOf i).toNat)
 case atStart=>exact⟨0,aX _,rfl,by simpa[j5]using HS.o,Kp.refl _⟩
 case round=>
  have qnU:=();exact qbm
mutual
def Kx:Fm->List Str
 |.mk o n a s=>(if((o==15||o==16)&&dl n)=true then[n]else[])++j5 a++lx s
def lx:List Fm->List Str
 |[]=>[]
 |t::l=>Kx t++lx l
end
theorem sy:∀{a:List Fm}{j:Nat}(h:j<a.length),lx (a.take (j+1))=lx (a.take j)++Kx a[j]
 |t::a,0,_=>by simp[lx]
 |t::a,j+1,h=>by
  have:=sy (a:=a) (j:=j) (by simpa using h);simp only[List.take_succ_cons,lx,this,List.getElem_cons_succ,List.append_assoc]
mutual
theorem ML:∀t:Fm,(Kx t).length<=nodesF t
 |.mk o n a s=>by
  have:=pX a;have:=wV s;simp only[Kx,nodesF,cU];split<;>simp <;>omega
theorem wV:∀l:List Fm,(lx l).length<=nodesFs l
 |[]=>by simp[lx]
 |t::l=>by
  have:=ML t;have:=wV l;simp only[lx,nodesFs,cU];omega
end
theorem Ia:∀(N:Nat)(f:Fm),nodesF f<=N->fitF f->∀(ok:Nat->Prop)(pre:List Str)(m:Nat)(w:World)(q:FQ),SetW w m pre.length pre->FormV ok w q.val f->(∀b,ok b->b≠m)->pre.length+nodesF f<=4000000→
  Calls Tryz.prog 73 #[q.val,.map (some m)] w fun e w'=>e=.returned (.tuple #[])/\SetW w' m (pre++Kx f).length (pre++Kx f)/\Kp (fun b=>b=m) w w':=by
 intro N
 induction N using Nat.strongRecOn with
 |ind N ih=>
 intro f hN hf ok pre m w q hs hq hok bW;obtain⟨o,n,a,s⟩:=f;obtain⟨qo,qn,qa,ql,qc,qb,qm,qe⟩:=q;obtain⟨v1,v2,h1,iu,lU⟩:=aQ.1 hq;exact qah
end
section
attribute [local go_sem] Oper.semAt_some run_makeMap
theorem P_(t:Fm)(ar:fitF t)(ok:Nat->Prop)(w:World)(q:FQ)(hq:FormV ok w q.val t):
  Calls Tryz.prog 33 #[q.val] w fun e w'=>(∃v,e=.returned v/\RowS w.heap.size w' v (di (Kx t)))/\RowKit.Below w.heap.size w w':=by
 have hq:=hq.lt;have nO:(Kx t).length<=2000000:=aN (ML t) ar.1;have⟨W1,bY⟩:=aj (w.alloc (.cells #[.int .u8 q.o,.string q.n,.slice q.a q.l q.c,.slice q.b q.m q.e] 36));have hb1:RowKit.Below w.heap.size w W1:=by rw[bY];exact cI
 have iM:=Gb bY;have sZ:=bS bY;have⟨W2,aZ⟩:=aj (W1.alloc (.map #[] 0));have bG:RowKit.Below w.heap.size w W2:=by rw[aZ];exact hb1.alloc hb1.size _
 have Eb:SetW W2 W1.heap.size ([]:List Str).length []:=by
  rw[aZ];exact⟨_,World.ownsMap_made W1 _ _ _,fun x=>by simp[Maps.has],fun x hx=>by simp at hx⟩
 have pw:W2.heap[w.heap.size]?=some (.cells #[.int .u8 q.o,.string q.n,.slice q.a q.l q.c,.slice q.b q.m q.e] 36 (0,0)):=by
  have oX:RowKit.Below W1.heap.size W1 W2:=by rw[aZ];exact cI
  exact(oX.block _ (by omega)).trans sZ
 have C:=Ia (nodesF t) t (aC _) ar (fun b=>b<w.heap.size) [] W1.heap.size W2 q Eb ((hq.later bG).move (fun b hb _=>⟨hb,rfl⟩)) (fun b hb=>by omega) (by have:=ar.1;simp;omega);simp only[sS]at C;rw[iM]at C;have gY:W2.heap.size=w.heap.size+2:=by rw[aZ];simp;omega
 have HC:=ab C;have cv:=aA bG gY;have fj:=ab (bY▸aZ);have⟨Va,HX⟩:=aS nO pw;rw[aZ,bY]at HC;obtain⟨qo,qn,qa,ql,qc,qb,qm,qe⟩:=q;simp only[FQ.val]at HC⊢;simp only at HX;clear C hb1 bG bY aZ nO sZ pw hq ar iM gY Eb;go_enter Tryz.func33,Tryz.ntmps33;go_wp2_with (first|(go_at_call 73;refine HC.o.mono ?_;rintro e w3 ⟨rfl,rV,jr⟩;have H3:=aA rV jr;clear rV jr)|(go_at_call 75;refine(Bm _ _).mono ?_;rintro e w4 ⟨rfl,rfl⟩)|(go_at_call 74;refine(tS _ _ _ Va.o _ H3.o.1).mono ?_;rintro e w5 ⟨v5,rfl,KR,bh⟩;have H5:=aA KR bh;clear KR bh));go_ret;have ia:RowKit.Below w.heap.size w w3:=by
  have hk:Kp (fun b=>b=w.heap.size+1) W2 w3:=by rw[fj.o];exact H3.o.2
  have hz:=cv.o.2;exact⟨hk.os.trans cv.o.1.os,hk.tape.trans cv.o.1.tape,hk.output.trans cv.o.1.output,aN cv.o.1.size hk.size,fun b hb=>(hk.same b (by omega) (by omega)).trans (cv.o.1.block b hb)⟩
 exact qfn
end
section
attribute [local go_sem] Oper.semAt_some
section
variable{ops:Array Oper}{Q:Exit->Act->World->Prop}{a0:Act}{l:List Fact}{kA kS k:Nat}{M:Nat->Prop}{w0:World}{md:Region.Mode}{L:Nat->Prop}
theorem T5{gu:Option (Nat×Bool)}(ho:ops[k]?=some o:=by rfl)(eo:o=⟨some d,.build 36 #[],ty,pos,ee,gu⟩:=by rfl)(hw:Wt md ops a0 l kA kS M w0 k o:=by exact fun _ _ _ _=>rfl)(hp:dR l k=(ec L jq).p:=by rfl):cH md ops Q a0 l kA kS M w0 k:=
 by subst eo;have hp:dR l k=FormG L jq:=hp;exact dH hw ho rfl (fun a γ w aT=>⟨FQ.val ⟨0,⟨#[]⟩,none,0,0,none,0,0⟩,by simp only[FQ.val];go_simp,by rw[hp];exact⟨_,rfl,aQ.2 ⟨_,_,rfl,cm,f8⟩⟩⟩)
theorem rO(b:Bool)(x:Nat){gu:Option (Nat×Bool)}(hx:Dep md ops a0 l kA kS M w0 k o x (fun v _ _=>v=.bool b))(ho:ops[k]?=some o:=by rfl)(eo:o=⟨some d,.unOp .not T (.tmp x),ty,pos,ee,gu⟩:=by rfl)(hw:Wt md ops a0 l kA kS M w0 k o:=by exact fun _ _ _ _=>rfl)(hp:dR l k=(lV (.bool (!b))).p:=by rfl):cH md ops Q a0 l kA kS M w0 k:=
 by subst eo;exact dH hw ho rfl (fun a γ w aT=>by
  obtain⟨v0,e0,h0⟩:=hx a γ w aT;rw[h0]at e0;have f0:=aW e0;exact⟨.bool (!b),by go_simp,by rw[hp];rfl⟩)
theorem d8(u:Value)(x:Nat){gu:Option (Nat×Bool)}(hx:Dep md ops a0 l kA kS M w0 k o x (fun v _ _=>v=u))(ho:ops[k]?=some o:=by rfl)(eo:o=⟨some d,.move (.tmp x),ty,pos,ee,gu⟩:=by rfl)(hw:Wt md ops a0 l kA kS M w0 k o:=by exact fun _ _ _ _=>rfl)(hp:dR l k=(lV (u)).p:=by rfl):cH md ops Q a0 l kA kS M w0 k:=
 by subst eo;exact dH hw ho rfl (fun a γ w aT=>by
  obtain⟨v0,e0,h0⟩:=hx a γ w aT;rw[h0]at e0;have f0:=aW e0;exact⟨u,by go_simp,by rw[hp];rfl⟩)
theorem nu(u:Value)(x:Nat){gu:Option (Nat×Bool)}(hx:Dep md ops a0 l kA kS M w0 k o x (fun v _ _=>v=u))(ho:ops[k]?=some o:=by rfl)(eo:o=⟨some d,.assign (.tmp x),ty,pos,ee,gu⟩:=by rfl)(hw:Wt md ops a0 l kA kS M w0 k o:=by exact fun _ _ _ _=>rfl)(hp:dR l k=(lV (u)).p:=by rfl):cH md ops Q a0 l kA kS M w0 k:=
 by subst eo;exact dH hw ho rfl (fun a γ w aT=>by
  obtain⟨v0,e0,h0⟩:=hx a γ w aT;rw[h0]at e0;have f0:=aW e0;exact⟨u,by go_simp,by rw[hp];rfl⟩)
theorem T6(u:Value)(x:Nat){y:Operand}{gu:Option (Nat×Bool)}(hx:Dep md ops a0 l kA kS M w0 k o x (fun v _ _=>v=.bool true))(ho:ops[k]?=some o:=by rfl)(eo:o=⟨some d,.pick (.tmp x) (.const u) y,ty,pos,ee,gu⟩:=by rfl)(hw:Wt md ops a0 l kA kS M w0 k o:=by exact fun _ _ _ _=>rfl)(hp:dR l k=(lV (u)).p:=by rfl):cH md ops Q a0 l kA kS M w0 k:=
 by subst eo;exact dH hw ho rfl (fun a γ w aT=>by
  obtain⟨v0,e0,h0⟩:=hx a γ w aT;rw[h0]at e0;have f0:=aW e0;exact⟨u,by go_simp,by rw[hp];rfl⟩)
theorem yQ(u v:Value)(x y:Nat){gu:Option (Nat×Bool)}(hx:Dep md ops a0 l kA kS M w0 k o x (fun v _ _=>v=.bool false))(hy:Dep md ops a0 l kA kS M w0 k o y (fun w _ _=>w=v))(ho:ops[k]?=some o:=by rfl)(eo:o=⟨some d,.pick (.tmp x) (.const u) (.tmp y),ty,pos,ee,gu⟩:=by rfl)(hw:Wt md ops a0 l kA kS M w0 k o:=by exact fun _ _ _ _=>rfl)(hp:dR l k=(lV (v)).p:=by rfl):cH md ops Q a0 l kA kS M w0 k:=
 by subst eo;exact dH hw ho rfl (fun a γ w aT=>by
  obtain⟨v0,e0,h0⟩:=hx a γ w aT;rw[h0]at e0;have f0:=aW e0;obtain⟨v1,e1,h1⟩:=hy a γ w aT;rw[h1]at e1;have f1:=aW e1;exact⟨v,by go_simp,by rw[hp];rfl⟩)
theorem T7(u v:Value)(x y:Nat){gu:Option (Nat×Bool)}(hx:Dep md ops a0 l kA kS M w0 k o x (fun v _ _=>v=.bool true))(hy:Dep md ops a0 l kA kS M w0 k o y (fun w _ _=>w=v))(ho:ops[k]?=some o:=by rfl)(eo:o=⟨some d,.pick (.tmp x) (.tmp y) (.const u),ty,pos,ee,gu⟩:=by rfl)(hw:Wt md ops a0 l kA kS M w0 k o:=by exact fun _ _ _ _=>rfl)(hp:dR l k=(lV (v)).p:=by rfl):cH md ops Q a0 l kA kS M w0 k:=
 by subst eo;exact dH hw ho rfl (fun a γ w aT=>by
  obtain⟨v0,e0,h0⟩:=hx a γ w aT;rw[h0]at e0;have f0:=aW e0;obtain⟨v1,e1,h1⟩:=hy a γ w aT;rw[h1]at e1;have f1:=aW e1;exact⟨v,by go_simp,by rw[hp];rfl⟩)
theorem DB(kd:IntKind)(i c:Int)(b:Bool)(hb:(i==c)=b)(x:Nat){gu:Option (Nat×Bool)}(hx:Dep md ops a0 l kA kS M w0 k o x (fun v _ _=>v=.int kd i))(ho:ops[k]?=some o:=by rfl)(eo:o=⟨some d,.binOp .eql T (.tmp x) (.const (.int kd c)) T2,ty,pos,ee,gu⟩:=by rfl)(hw:Wt md ops a0 l kA kS M w0 k o:=by exact fun _ _ _ _=>rfl)(hp:dR l k=(lV (.bool b)).p:=by rfl):cH md ops Q a0 l kA kS M w0 k:=
 by subst eo;exact dH hw ho rfl (fun a γ w aT=>by
  obtain⟨v0,e0,h0⟩:=hx a γ w aT;rw[h0]at e0;have f0:=aW e0;exact⟨.bool b,by subst hb;go_simp,by rw[hp];rfl⟩)
theorem DC(kd:IntKind)(i c:Int)(b:Bool)(hb:(i !=c)=b)(x:Nat){gu:Option (Nat×Bool)}(hx:Dep md ops a0 l kA kS M w0 k o x (fun v _ _=>v=.int kd i))(ho:ops[k]?=some o:=by rfl)(eo:o=⟨some d,.binOp .neq T (.tmp x) (.const (.int kd c)) T2,ty,pos,ee,gu⟩:=by rfl)(hw:Wt md ops a0 l kA kS M w0 k o:=by exact fun _ _ _ _=>rfl)(hp:dR l k=(lV (.bool b)).p:=by rfl):cH md ops Q a0 l kA kS M w0 k:=
 by subst eo;exact dH hw ho rfl (fun a γ w aT=>by
  obtain⟨v0,e0,h0⟩:=hx a γ w aT;rw[h0]at e0;have f0:=aW e0;exact⟨.bool b,by subst hb;go_simp,by rw[hp];rfl⟩)
theorem T8(f:Fm)(hf:fitF f)(x:Nat)(hL:∀b,w0.heap.size<=b->L b){gu:Option (Nat×Bool)}(hx:Dep md ops a0 l kA kS M w0 k o x (FormG L f))(ho:ops[k]?=some o:=by rfl)(eo:o=⟨some d,.call ⟨.value (.func 33),#[.tmp x],wM⟩,ty,pos,ee,gu⟩:=by rfl)(hw:Wt md ops a0 l kA kS M w0 k o:=by exact fun _ _ _ _=>rfl)(hp:dR l k=(zcs L (di (Kx f))).p:=by rfl):cH md ops Q a0 l kA kS M w0 k:=
 by subst eo;exact dP hw ho rfl 33 (fun a γ w aT=>by
  obtain⟨vx,ex,fx⟩:=hx.is aT;obtain⟨qx,rfl,hx⟩:=fx;refine⟨#[qx.val],by go_simp,(P_ f hf _ w qx hx).mono ?_⟩;rintro e w' ⟨⟨v,rfl,hv⟩,hb⟩;exact⟨⟨_,rfl,by rw[hp];exact hv.strs.move (okB.new aT.inv (fun b hb=>hL b (aN aT.inv.1.size hb)))⟩,hb⟩)
