/-
'awake' of lyceumlaw07 holds.
-/
import Derived.Test.YtokemihbkeddoaaGreatDoorU17
namespace Go.Proofs.YtokemihbkeddoaaGreatDoor
open Go Go.RowKit Lib
set_option maxRecDepth 100000
set_option maxHeartbeats 64000000
variable {b:Bool} {d n:Nat} {left:Int} {o oj:Oper}
section
attribute [local go_sem] Oper.semAt_some
abbrev X0:Nat->Prop:=fun _=>True
abbrev X1 (b:Nat):Nat->Prop:=fun c=>X0 c/\c≠b
abbrev X2 (b d:Nat):Nat->Prop:=fun c=>X1 b c/\c≠d
theorem qQ (h:b=true):(bn (.bool true)).p=fun v _ _=>v=.bool b:=by subst h;rfl
theorem nC:BdFit ⟨[],[]⟩:=⟨by decide,by decide,(fun _ h=>by cases h),fun _ h=>by cases h⟩
theorem t4:BdFit PB:=⟨by decide,by decide,List.forall_mem_cons.2 ⟨⟨by decide,by decide,by decide⟩,fun _ h=>by cases h⟩,List.forall_mem_cons.2 ⟨⟨by decide,⟨by decide,by decide⟩,by decide⟩,fun _ h=>by cases h⟩⟩
theorem Xe:∀ x∈([(mA,rF),(mB,EH)]:List (Str×Fm)),fitF x.2:=List.forall_mem_cons.2 ⟨⟨by decide,by decide⟩,List.forall_mem_cons.2 ⟨⟨by decide,by decide⟩,fun _ h=>by cases h⟩⟩
theorem Xf:∀ x∈([(mA,mW)]:List (Str×Fm)),fitF x.2:=List.forall_mem_cons.2 ⟨⟨by decide,by decide⟩,fun _ h=>by cases h⟩
theorem Xg:∀ x∈([(mT,l8)]:List (Str×Tm)),fitT x.2:=List.forall_mem_cons.2 ⟨⟨by decide,by decide⟩,fun _ h=>by cases h⟩
theorem EL {a b c d:Fm} (ha:fitF a:=by exact ⟨by decide,by decide⟩) (hb:fitF b:=by exact ⟨by decide,by decide⟩) (hc:fitF c:=by exact ⟨by decide,by decide⟩) (hd:fitF d:=by exact ⟨by decide,by decide⟩):∀ x∈[(a,b),(c,d)],fitF x.1/\fitF x.2:=List.forall_mem_cons.2 ⟨⟨ha,hb⟩,List.forall_mem_cons.2 ⟨⟨hc,hd⟩,fun _ h=>by cases h⟩⟩
theorem Mw (WB w:World) (jc:Tabs WB w):Calls Tryz.prog 12 #[] w fun e w'=>e=.returned (.bool true)/\Below w.heap.size w w':=by
 refine ml Tryz.func12 ?_;refine (fun (A:Act) (hs:A.tmps.size=270) (hd:A.defers=[])=>?_:∀ A:Act,A.tmps.size=270->A.defers=[]->Code.wpIn Fence.wide 3 _ _ _ A w) _ rfl rfl;have g_:=eM;have HB:Below w.heap.size w w:=ak _ _;have hT:Tabs WB w:=jc.next (HB);have hL:∀ c,w.heap.size<=c->X0 c:=fun _ _=>trivial;have kx:∀ c,b8 c->WB.heap.size<=c:=fun _ h=>h.elim;have bW:∀ c,X0 c->¬b8 c:=fun _ _ h=>h;refine bM (fun K hK=>?_);refine bO  [bn (.bool false)]
  1 1 hs (by kernel_rfl) (fun k hk=>?_) (fun A0 γ W0 h=>?_)
 ·exact match k,hk with
  | 0,_=>sH rfl (.bool false) (fun _ _=>by go_simp)
  | k+1,hk=>absurd hk (by simp)
 have Ii:=h.sz.trans hs;have hd0:=h.df.trans hd;have RC:Below w.heap.size w W0:=aD HB h.inv.1 (fun _ h=>h.elim);clear h;refine hK _ _ ?_;clear hT hL kx bW;have hT:Tabs WB W0:=jc.next (RC);have hL:∀ c,W0.heap.size<=c->X0 c:=fun _ _=>trivial;have kx:∀ c,b8 c->WB.heap.size<=c:=fun _ h=>h.elim;have bW:∀ c,X0 c->¬b8 c:=fun _ _ h=>h;refine bM (fun K hK=>?_);refine bO  [bF X0 (⟨[],[]⟩),
  l7 #[.slice none 0 0,.slice none 0 0] 26,
  jT (bF X0 (⟨[],[]⟩)) 26]
  1 2 Ii (by kernel_rfl) (fun k hk=>?_) (fun A1 γ W1 h=>?_)
 ·exact match k,hk with
  | 0,_=>Sm
  | 1,_=>ko rfl
  | 2,_=>kr _ 1 21 rfl (aq 1) (aq 0)
  | k+3,hk=>absurd hk (by simp)
 have iP:=h.sz.trans Ii;have KY:=h.df.trans hd0;have d_:Below w.heap.size w W1:=aD RC h.inv.1 (fun _ h=>h.elim);obtain ⟨vz,tz,fz⟩:=h.get 1 _ 1 rfl rfl;obtain ⟨b1,q1,lz,Ns⟩:=sI tz fz (h.did 2 _ rfl rfl) h.inv;have xh:w.heap.size<=b1:=by have h1:W0.heap.size<=b1:=Ns;have h2:=RC.size;omega
 have G3:LB X0 A1 W1 1 b1 q1 _:=lz.next rfl (Kp.refl (M:=b8) _) (fun h=>h) (fun _ _ h=>h) (fun _ h _=>h.1);clear h;refine hK _ _ ?_;clear hT hL kx bW;have hT:Tabs WB W1.drew:=jc.next (d_.drew);have hL:∀ c,W1.drew.heap.size<=c->X0 c:=fun _ _=>trivial;have kx:∀ c,b8 c->WB.heap.size<=c:=fun _ h=>h.elim;have bW:∀ c,X0 c->¬b8 c:=fun _ _ h=>h;refine bM (fun K hK=>?_);refine eK  [bi X0 (jY [63,65]),
  bi X0 (jY [63,66]),
  jj X0 [jY [63,65],jY [63,66]],
  bi X0 (Fm.mk 6 [] [] [jY [63,65],jY [63,66]]),
  bi X0 (eo [80] []),
  bi X0 (eo [81] []),
  jj X0 [eo [80] [],eo [81] []],
  bi X0 (Fm.mk 4 [] [] [eo [80] [],eo [81] []]),
  bi X0 (eo [82] []),
  jj X0 [Fm.mk 4 [] [] [eo [80] [],eo [81] []],eo [82] []],
  bi X0 (Fm.mk 6 [] [] [Fm.mk 4 [] [] [eo [80] [],eo [81] []],eo [82] []]),
  bF X0 (⟨[],[]⟩),
  fY (bF X0 (⟨[(mA,rF),(mB,EH)],[]⟩)) [.int .i64 0],
  fY (bF X0 (⟨[(mA,rF),(mB,EH)],[]⟩)) [.int .i64 0],
  bF X0 (⟨[(mA,rF),(mB,EH)],[]⟩),
  bn (.int .i64 0),
  l7 #[.slice none 0 0,.slice none 0 0] 26,
  jT (bF X0 (⟨[(mA,rF),(mB,EH)],[]⟩)) 26,
  bn (.int .i64 0)]
  16 17 iP (by kernel_rfl) (by kernel_rfl) (fun k hk=>?_) (fun A2 γ W2 h=>?_)
 ·exact match k,hk with
  | 0,_=>GZ [63,65]
  | 1,_=>GZ [63,66]
  | 2,_=>qk hL _ _ 23 24 (aq 0) (aq 1)
  | 3,_=>l9 6 [] [jY [63,65],jY [63,66]] 25 (aq 2)
  | 4,_=>KV [80]
  | 5,_=>KV [81]
  | 6,_=>qk hL _ _ 27 28 (aq 4) (aq 5)
  | 7,_=>l9 4 [] [eo [80] [],eo [81] []] 29 (aq 6)
  | 8,_=>KV [82]
  | 9,_=>qk hL _ _ 30 31 (aq 7) (aq 8)
  | 10,_=>l9 6 [] [Fm.mk 4 [] [] [eo [80] [],eo [81] []],eo [82] []] 32 (aq 9)
  | 11,_=>dq _ _ 1 G3.drew.box (fun h=>h) (G3.drew.at bW) (old G3.drew.slot)
  | 12,_=>Ae _ _ _ _ _ _ aw1 ⟨by decide,by decide⟩ ⟨by decide,by decide⟩ nC 26 33 34 hT kx hL (aq 3) (aq 10) (aq 11)
  | 13,_=>aF _ 35 (aq 12)
  | 14,_=>fM _ _ 22 (aq 13)
  | 15,_=>fC (bF X0 (⟨[(mA,rF),(mB,EH)],[]⟩)) [.int .i64 0] 0 (.int .i64 0) rfl 22 (aq 13)
  | 16,_=>ko rfl
  | 17,_=>kr _ 2 36 rfl (aq 16) (aq 14)
  | 18,_=>bY _ 37 (aq 15)
  | k+19,hk=>absurd hk (by simp)
 have kK:=h.sz.trans iP;have Nh:=h.df.trans KY;have cO:Below w.heap.size w W2:=aD d_.drew h.inv.1 (fun _ h=>h.elim);obtain ⟨vz,tz,fz⟩:=h.get 16 _ 2 rfl rfl;obtain ⟨b2,q2,lz,S6⟩:=sI tz fz (h.did 17 _ rfl rfl) h.inv;have T5:=G3.drew.next (L':=(X1 b2)) (h.old 1 (by kernel_rfl)) h.inv.1 (fun h=>h) bW (fun c h hlt=>⟨h,fun e=>by have:W1.heap.size<=b2:=S6;have hlt:c<W1.heap.size:=hlt;omega⟩);have zaI:b2≠b1:=by have:=(bz G3.drew.box);have h:W1.heap.size<=b2:=S6;have h2:b1<W1.heap.size:=this;omega
 have T6:b1≠b2:=fun e=>zaI e.symm;have MT:w.heap.size<=b2:=by have h1:W1.heap.size<=b2:=S6;have h2:=d_.size;omega
 have Ai:LB (X1 b2) A2 W2 2 b2 q2 _:=lz;have eA:=(bz Ai.box);obtain ⟨Xh,qq,Xi⟩:=h.get 18 _ 3 rfl rfl;obtain rfl:Xh=.int .i64 0:=Xi;clear h;refine hK _ _ ?_;clear hT hL kx bW;have hT:Tabs WB W2:=jc.next (cO);have hL:∀ c,W2.heap.size<=c->(X1 b2) c:=fun c hc=>⟨trivial,fun e=>by have:=(bz Ai.box);have h:W2.heap.size<=c:=hc;omega⟩
 have kx:∀ c,b8 c->WB.heap.size<=c:=fun _ h=>h.elim;have bW:∀ c,(X1 b2) c->¬b8 c:=fun _ _ h=>h;refine bM (fun K hK=>?_);refine bO  [bF (X1 b2) (⟨[(mA,rF),(mB,EH)],[]⟩),
  fY (bi (X1 b2) (EH)) [.bool true],
  fY (bi (X1 b2) (EH)) [.bool true],
  bi (X1 b2) (EH),
  bn (.bool true),
  l7 #[.int .u8 0,.string ⟨#[]⟩,.slice none 0 0,.slice none 0 0] 36,
  jT (bi (X1 b2) (EH)) 36,
  bn (.bool true)]
  5 6 kK (by kernel_rfl) (fun k hk=>?_) (fun A3 γ W3 h=>?_)
 ·exact match k,hk with
  | 0,_=>dq _ _ 2 Ai.box (fun h=>h) (Ai.at bW) (old Ai.slot)
  | 1,_=>KW (⟨[(mA,rF),(mB,EH)],[]⟩) [63,66] (by decide) Xe 39 hL (aq 0)
  | 2,_=>aF _ 40 (aq 1)
  | 3,_=>fM _ _ 38 (aq 2)
  | 4,_=>fC (bi (X1 b2) (EH)) [.bool true] 0 (.bool true) rfl 38 (aq 2)
  | 5,_=>ju rfl
  | 6,_=>jv _ 4 41 rfl (aq 5) (aq 3)
  | 7,_=>bY _ 42 (aq 4)
  | k+8,hk=>absurd hk (by simp)
 have uz:=h.sz.trans kK;have MS:=h.df.trans Nh;have bQ:Below w.heap.size w W3:=aD cO h.inv.1 (fun _ h=>h.elim);obtain ⟨vz,tz,fz⟩:=h.get 5 _ 4 rfl rfl;obtain ⟨b4,q4,lz,uy⟩:=qp tz fz (h.did 6 _ rfl rfl) h.inv;have zaJ:=T5.next (L':=(X2 b2 b4)) (h.old 1 (by kernel_rfl)) h.inv.1 (fun h=>h) bW (fun c h hlt=>⟨h,fun e=>by have:W2.heap.size<=b4:=uy;have hlt:c<W2.heap.size:=hlt;omega⟩);have G4:=Ai.next (L':=(X2 b2 b4)) (h.old 2 (by kernel_rfl)) h.inv.1 (fun h=>h) bW (fun c h hlt=>⟨h,fun e=>by have:W2.heap.size<=b4:=uy;have hlt:c<W2.heap.size:=hlt;omega⟩);have zaK:b4≠b1:=by have:=(bz T5.box);have h:W2.heap.size<=b4:=uy;have h2:b1<W2.heap.size:=this;omega
 have zaL:b1≠b4:=fun e=>zaK e.symm;have T7:b4≠b2:=by have:=(bz Ai.box);have h:W2.heap.size<=b4:=uy;have h2:b2<W2.heap.size:=this;omega
 have zaM:b2≠b4:=fun e=>T7 e.symm;have TN:w.heap.size<=b4:=by have h1:W2.heap.size<=b4:=uy;have h2:=cO.size;omega
 have G5:LF (X2 b2 b4) A3 W3 4 b4 q4 _:=lz;have eA:=(bz G4.box);have jy:=(bz G5.box);have qq:=h.ol 3 qq;obtain ⟨vz5,tz5,fz5⟩:=h.get 7 _ 5 rfl rfl;obtain rfl:vz5=.bool true:=fz5;clear h;refine hK _ _ ?_;clear hT hL kx bW;have rK:q2.l=2:=by
  obtain ⟨⟨fa,fc,_,he,_⟩,_⟩:=G4.val;injection he
 have hT:Tabs WB W3.drew:=jc.next (bQ.drew);have hL:∀ c,W3.drew.heap.size<=c->(X2 b2 b4) c:=fun c hc=>by have h:W3.heap.size<=c:=hc;exact ⟨⟨trivial,by omega⟩,by omega⟩
 have kx:∀ c,b8 c->WB.heap.size<=c:=fun _ h=>h.elim;have bW:∀ c,(X2 b2 b4) c->¬b8 c:=fun _ _ h=>h;refine bM (fun K hK=>?_);refine bM (fun K2 hK2=>?_);refine eK  [bn (.int .i64 0),
  bn (.bool false),
  bn (.bool false),
  bn (.bool true),
  bn (.bool false),
  bn (.bool false),
  bn (.bool false),
  bi (X2 b2 b4) (EH),
  bi (X2 b2 b4) (eo [82] []),
  bn (.bool true),
  bn (.bool false),
  bn (.bool false),
  bn (.bool false),
  bn (.pointer (some ⟨b2,0,none⟩)),
  bn (.slice q2.a 2 q2.c),
  bn (.int .i64 2),
  bn (.bool false),
  bn (.bool false)]
  18 18 uz (by kernel_rfl) (by kernel_rfl) (fun k hk=>?_) (fun A4 γ W4 h=>?_)
 ·exact match k,hk with
  | 0,_=>aF _ 3 (old qq)
  | 1,_=>cr rfl 43 (.bool false) (aq 0)
  | 2,_=>aF _ 44 (aq 1)
  | 3,_=>aF _ 5 (old tz5) (hw:=aJ 2 (aq 2))
  | 4,_=>cr rfl 46 (.bool false) (aq 3) (hw:=aJ 2 (aq 2))
  | 5,_=>ep rfl 45 47 (.bool false) (aq 2) (aq 4)
  | 6,_=>aF _ 48 (aq 5)
  | 7,_=>iY _ _ 4 G5.drew.box (fun h=>h) (G5.drew.at bW) (old G5.drew.slot) (hw:=aJ 6 (aq 6))
  | 8,_=>KV [82] (hw:=aJ 6 (aq 6))
  | 9,_=>tZ (EH) (eo [82] []) ⟨by decide,by decide⟩ 50 51 (aq 7) (aq 8) (hw:=aJ 6 (aq 6)) (hp:=(qQ zcW))
  | 10,_=>cr rfl 52 (.bool false) (aq 9) (hw:=aJ 6 (aq 6))
  | 11,_=>ep rfl 49 53 (.bool false) (aq 6) (aq 10)
  | 12,_=>aF _ 54 (aq 11)
  | 13,_=>cr rfl 2 (.pointer (some ⟨b2,0,none⟩)) (old G4.drew.slot) (hw:=aJ 12 (aq 12))
  | 14,_=>eJ (by exact aJ 12 (aq 12)) rfl rfl (fun a γ wz aU=>by
   obtain ⟨v,e,rfl⟩:=aU.val 13 _ _ rfl rfl (by kernel_rfl);have e2:=bg e;have c:=aU.inv.1.cell (a:=⟨b2,0,none⟩) (fun h=>h) (ai G4.drew.box 0);rw[rK]at c;exact ⟨.slice q2.a 2 q2.c,by go_simp,rfl⟩)
  | 15,_=>cr rfl 57 (.int .i64 2) (aq 14) (hw:=aJ 12 (aq 12))
  | 16,_=>cr rfl 58 (.bool false) (aq 15) (hw:=aJ 12 (aq 12))
  | 17,_=>ep rfl 55 59 (.bool false) (aq 12) (aq 16)
  | k+18,hk=>absurd hk (by simp)
 have DZ:=h.sz.trans uz;have Qz:=h.df.trans MS;have eG:Below w.heap.size w W4:=aD bQ.drew h.inv.1 (fun _ h=>h.elim);have T8:=zaJ.drew.nx (h.od 1) h.inv.1 bW;have PK:=G4.drew.nx (h.od 2) h.inv.1 bW;have PL:=G5.drew.nx (h.od 4) h.inv.1 bW;have eA:=(bz PK.box);have jy:=(bz PL.box);have qq:=h.ol 3 qq;obtain ⟨vc,tc,fc⟩:=h.get 17 _ 60 rfl rfl;obtain rfl:vc=.bool false:=fc;clear h;refine hK2 _ _ ?_;refine wpIn_cond_false (bg tc) (wpIn_skip ?_);refine hK _ _ ?_;clear hT hL kx bW;have hT:Tabs WB W4:=jc.next (eG);have hL:∀ c,W4.heap.size<=c->(X2 b2 b4) c:=fun c hc=>by have h:W4.heap.size<=c:=hc;exact ⟨⟨trivial,by omega⟩,by omega⟩
 have kx:∀ c,b8 c->WB.heap.size<=c:=fun _ h=>h.elim;have bW:∀ c,(X2 b2 b4) c->¬b8 c:=fun _ _ h=>h;refine bM (fun K hK=>?_);refine bO  [bi (X2 b2 b4) (jY [63,65]),
  jj (X2 b2 b4) [jY [63,65]],
  bi (X2 b2 b4) (Fm.mk 8 [120] [] [jY [63,65]]),
  l7 #[.int .u8 0,.string ⟨#[]⟩,.slice none 0 0,.slice none 0 0] 36,
  jT (bi (X2 b2 b4) (Fm.mk 8 [120] [] [jY [63,65]])) 36]
  3 4 DZ (by kernel_rfl) (fun k hk=>?_) (fun A6 γ W6 h=>?_)
 ·exact match k,hk with
  | 0,_=>GZ [63,65]
  | 1,_=>iW hL _ 61 (aq 0)
  | 2,_=>l9 8 [120] [jY [63,65]] 62 (aq 1)
  | 3,_=>ju rfl
  | 4,_=>jv _ 6 63 rfl (aq 3) (aq 2)
  | k+5,hk=>absurd hk (by simp)
 have Hp:=h.sz.trans DZ;have hd6:=h.df.trans Qz;have Oi:Below w.heap.size w W6:=aD eG h.inv.1 (fun _ h=>h.elim);obtain ⟨vz,tz,fz⟩:=h.get 3 _ 6 rfl rfl;obtain ⟨b6,q6,lz,hg6⟩:=qp tz fz (h.did 4 _ rfl rfl) h.inv;have T9:=T8.nx (h.od 1) h.inv.1 bW;have PM:=PK.nx (h.od 2) h.inv.1 bW;have PN:=PL.nx (h.od 4) h.inv.1 bW;have zaN:b6≠b1:=by have:=(bz T8.box);have h:W4.heap.size<=b6:=hg6;have h2:b1<W4.heap.size:=this;omega
 have zdL:b1≠b6:=fun e=>zaN e.symm;have PO:b6≠b2:=by have:=(bz PK.box);have h:W4.heap.size<=b6:=hg6;have h2:b2<W4.heap.size:=this;omega
 have zdM:b2≠b6:=fun e=>PO e.symm;have T':b6≠b4:=by have:=(bz PL.box);have h:W4.heap.size<=b6:=hg6;have h2:b4<W4.heap.size:=this;omega
 have zdN:b4≠b6:=fun e=>T' e.symm;have hw6:w.heap.size<=b6:=by have h1:W4.heap.size<=b6:=hg6;have h2:=eG.size;omega
 have T_:LF (X2 b2 b4) A6 W6 6 b6 q6 _:=lz.next rfl (Kp.refl (M:=b8) _) (fun h=>h) (fun _ _ h=>h) (fun _ h _=>h.1);have eA:=(bz PM.box);have jy:=(bz PN.box);have qq:=h.ol 3 qq;clear h;refine hK _ _ ?_;clear hT hL kx bW;have hT:Tabs WB W6:=jc.next (Oi);have hL:∀ c,W6.heap.size<=c->(X2 b2 b4) c:=fun c hc=>by have h:W6.heap.size<=c:=hc;exact ⟨⟨trivial,by omega⟩,by omega⟩
 have kx:∀ c,b8 c->WB.heap.size<=c:=fun _ h=>h.elim;have bW:∀ c,(X2 b2 b4) c->¬b8 c:=fun _ _ h=>h;refine bM (fun K hK=>?_);refine bO  [dP (X2 b2 b4) (ap [121]),
  dP (X2 b2 b4) (ap [122]),
  ie (X2 b2 b4) [ap [121],ap [122]],
  bi (X2 b2 b4) (eo [82] [ap [121],ap [122]]),
  jj (X2 b2 b4) [eo [82] [ap [121],ap [122]]],
  bi (X2 b2 b4) (Fm.mk 9 [122] [] [eo [82] [ap [121],ap [122]]]),
  jj (X2 b2 b4) [Fm.mk 9 [122] [] [eo [82] [ap [121],ap [122]]]],
  bi (X2 b2 b4) (Fm.mk 8 [121] [] [Fm.mk 9 [122] [] [eo [82] [ap [121],ap [122]]]]),
  l7 #[.int .u8 0,.string ⟨#[]⟩,.slice none 0 0,.slice none 0 0] 36,
  jT (bi (X2 b2 b4) (Fm.mk 8 [121] [] [Fm.mk 9 [122] [] [eo [82] [ap [121],ap [122]]]])) 36]
  8 9 Hp (by kernel_rfl) (fun k hk=>?_) (fun A7 γ W7 h=>?_)
 ·exact match k,hk with
  | 0,_=>qi [121]
  | 1,_=>qi [122]
  | 2,_=>ma hL _ _ 64 65 (aq 0) (aq 1)
  | 3,_=>Ad [82] [ap [121],ap [122]] 66 (aq 2)
  | 4,_=>iW hL _ 67 (aq 3)
  | 5,_=>l9 9 [122] [eo [82] [ap [121],ap [122]]] 68 (aq 4)
  | 6,_=>iW hL _ 69 (aq 5)
  | 7,_=>l9 8 [121] [Fm.mk 9 [122] [] [eo [82] [ap [121],ap [122]]]] 70 (aq 6)
  | 8,_=>ju rfl
  | 9,_=>jv _ 7 71 rfl (aq 8) (aq 7)
  | k+10,hk=>absurd hk (by simp)
 have Z_:=h.sz.trans Hp;have hd7:=h.df.trans hd6;have HB7:Below w.heap.size w W7:=aD Oi h.inv.1 (fun _ h=>h.elim);obtain ⟨vz,tz,fz⟩:=h.get 8 _ 7 rfl rfl;obtain ⟨b7,q7,lz,hg7⟩:=qp tz fz (h.did 9 _ rfl rfl) h.inv;have KZ:=T9.nx (h.od 1) h.inv.1 bW;have G6:=PM.nx (h.od 2) h.inv.1 bW;have Ua:=PN.nx (h.od 4) h.inv.1 bW;have K1:=T_.nx (h.od 6) h.inv.1 bW;have zaO:b7≠b1:=by have:=(bz T9.box);have h:W6.heap.size<=b7:=hg7;have h2:b1<W6.heap.size:=this;omega
 have zdO:b1≠b7:=fun e=>zaO e.symm;have PP:b7≠b2:=by have:=(bz PM.box);have h:W6.heap.size<=b7:=hg7;have h2:b2<W6.heap.size:=this;omega
 have zdP:b2≠b7:=fun e=>PP e.symm;have Ub:b7≠b4:=by have:=(bz PN.box);have h:W6.heap.size<=b7:=hg7;have h2:b4<W6.heap.size:=this;omega
 have zdQ:b4≠b7:=fun e=>Ub e.symm;have zaP:b7≠b6:=by have:=(bz T_.box);have h:W6.heap.size<=b7:=hg7;have h2:b6<W6.heap.size:=this;omega
 have zdR:b6≠b7:=fun e=>zaP e.symm;have hw7:w.heap.size<=b7:=by have h1:W6.heap.size<=b7:=hg7;have h2:=Oi.size;omega
 have K3:LF (X2 b2 b4) A7 W7 7 b7 q7 _:=lz.next rfl (Kp.refl (M:=b8) _) (fun h=>h) (fun _ _ h=>h) (fun _ h _=>h.1);have eA:=(bz G6.box);have jy:=(bz Ua.box);have qq:=h.ol 3 qq;clear h;refine hK _ _ ?_;clear hT hL kx bW;have hT:Tabs WB W7.drew:=jc.next (HB7.drew);have hL:∀ c,W7.drew.heap.size<=c->(X2 b2 b4) c:=fun c hc=>by have h:W7.heap.size<=c:=hc;exact ⟨⟨trivial,by omega⟩,by omega⟩
 have kx:∀ c,Ag b2 c->WB.heap.size<=c:=fun c h=>by have h:c=b2:=h;subst h;have:=jc.size;omega
 have bW:∀ c,(X2 b2 b4) c->¬Ag b2 c:=fun c h e=>h.1.2 e;refine bM (fun K hK=>?_);refine EJ (bz G6.box) [bi (X2 b2 b4) (Fm.mk 8 [120] [] [jY [63,65]]),
  bi (X2 b2 b4) (Fm.mk 8 [121] [] [Fm.mk 9 [122] [] [eo [82] [ap [121],ap [122]]]]),
  Ab (X2 b2 b4) (Fm.mk 8 [120] [] [jY [63,65]]) (Fm.mk 8 [121] [] [Fm.mk 9 [122] [] [eo [82] [ap [121],ap [122]]]]),
  bi (X2 b2 b4) (BB [63,65] [120] [63,116]),
  dP (X2 b2 b4) (cT [97] []),
  ie (X2 b2 b4) [cT [97] []],
  dP (X2 b2 b4) (cT [102] [cT [97] []]),
  dP (X2 b2 b4) (ap [122]),
  ie (X2 b2 b4) [cT [102] [cT [97] []],ap [122]],
  bi (X2 b2 b4) (eo [82] [cT [102] [cT [97] []],ap [122]]),
  jj (X2 b2 b4) [eo [82] [cT [102] [cT [97] []],ap [122]]],
  bi (X2 b2 b4) (Fm.mk 9 [122] [] [eo [82] [cT [102] [cT [97] []],ap [122]]]),
  Ab (X2 b2 b4) (BB [63,65] [120] [63,116]) (Fm.mk 9 [122] [] [eo [82] [cT [102] [cT [97] []],ap [122]]]),
  oE (X2 b2 b4) [(Fm.mk 8 [120] [] [jY [63,65]],Fm.mk 8 [121] [] [Fm.mk 9 [122] [] [eo [82] [ap [121],ap [122]]]]),(BB [63,65] [120] [63,116],Fm.mk 9 [122] [] [eo [82] [cT [102] [cT [97] []],ap [122]]])],
  bF (X2 b2 b4) (⟨[],[]⟩),
  fY (bF (X2 b2 b4) (⟨[(mA,mW)],[(mT,l8)]⟩)) [.int .i64 0,.int .i64 0],
  fY (bF (X2 b2 b4) (⟨[(mA,mW)],[(mT,l8)]⟩)) [.int .i64 0,.int .i64 0],
  bF (X2 b2 b4) (⟨[(mA,mW)],[(mT,l8)]⟩),
  bn (.int .i64 0),
  bn (.int .i64 0),
  jT (bF (X2 b2 b4) (⟨[(mA,mW)],[(mT,l8)]⟩)) 26,
  bn (.int .i64 0),
  bn (.int .i64 0)]
  20 Z_ (by kernel_rfl) (by kernel_rfl) (fun k hk=>?_) (fun A8 γ W8 h=>?_)
 ·exact match k,hk with
  | 0,_=>iY _ _ 6 K1.drew.box (fun h=>PO h) (K1.drew.at bW) (old K1.drew.slot)
  | 1,_=>iY _ _ 7 K3.drew.box (fun h=>PP h) (K3.drew.at bW) (old K3.drew.slot)
  | 2,_=>qP _ _ 73 74 (aq 0) (aq 1)
  | 3,_=>xV [63,65] [120] [63,116] hL
  | 4,_=>PC [97]
  | 5,_=>iX hL _ 77 (aq 4)
  | 6,_=>zaE [102] [cT [97] []] 78 (aq 5)
  | 7,_=>qi [122]
  | 8,_=>ma hL _ _ 79 80 (aq 6) (aq 7)
  | 9,_=>Ad [82] [cT [102] [cT [97] []],ap [122]] 81 (aq 8)
  | 10,_=>iW hL _ 82 (aq 9)
  | 11,_=>l9 9 [122] [eo [82] [cT [102] [cT [97] []],ap [122]]] 83 (aq 10)
  | 12,_=>qP _ _ 76 84 (aq 3) (aq 11)
  | 13,_=>Af hL _ _ _ _ 75 85 (aq 2) (aq 12)
  | 14,_=>dq _ _ 1 KZ.drew.box (fun h=>T6 h) (KZ.drew.at bW) (old KZ.drew.slot)
  | 15,_=>l_ _ _ _ _ _ aw2 (by decide) EL nC 86 87 hT kx hL (aq 13) (aq 14)
  | 16,_=>aF _ 88 (aq 15)
  | 17,_=>fM _ _ 72 (aq 16)
  | 18,_=>fC (bF (X2 b2 b4) (⟨[(mA,mW)],[(mT,l8)]⟩)) [.int .i64 0,.int .i64 0] 0 (.int .i64 0) rfl 72 (aq 16)
  | 19,_=>fC (bF (X2 b2 b4) (⟨[(mA,mW)],[(mT,l8)]⟩)) [.int .i64 0,.int .i64 0] 1 (.int .i64 0) rfl 72 (aq 16)
  | 20,_=>JE _ 2 89 rfl G6.drew.box rfl (old G6.drew.slot) (aq 17)
  | 21,_=>bY _ 90 (aq 18)
  | 22,_=>bY _ 91 (aq 19)
  | k+23,hk=>absurd hk (by simp)
 have T1:=h.sz.trans Z_;have hd8:=h.df.trans hd7;have YL:Below w.heap.size w W8:=aD HB7.drew h.inv.1 (fun c h=>by have h:c=b2:=h;subst h;omega);have Uc:=KZ.drew.next (L':=(X2 b2 b4)) (h.old 1 (by kernel_rfl)) h.inv.1 (fun h=>T6 h) bW (fun _ h _=>h);obtain ⟨q2,De⟩:=So ((h.old 2 (by kernel_rfl)).trans G6.slot) (h.did 20 _ rfl rfl) h.inv;have PQ:=Ua.drew.next (L':=(X2 b2 b4)) (h.old 4 (by kernel_rfl)) h.inv.1 (fun h=>T7 h) bW (fun _ h _=>h);have Ud:=K1.drew.next (L':=(X2 b2 b4)) (h.old 6 (by kernel_rfl)) h.inv.1 (fun h=>PO h) bW (fun _ h _=>h);have Ue:=K3.drew.next (L':=(X2 b2 b4)) (h.old 7 (by kernel_rfl)) h.inv.1 (fun h=>PP h) bW (fun _ h _=>h);have eA:=(bz De.box);have jy:=(bz PQ.box);obtain ⟨Xh,qq,Xi⟩:=h.get 22 _ 3 rfl rfl;obtain rfl:Xh=.int .i64 0:=Xi;obtain ⟨vz8,xG,fz8⟩:=h.get 21 _ 8 rfl rfl;obtain rfl:vz8=.int .i64 0:=fz8;clear h;refine hK _ _ ?_;clear hT hL kx bW;have hT:Tabs WB W8:=jc.next (YL);have hL:∀ c,W8.heap.size<=c->(X2 b2 b4) c:=fun c hc=>by have h:W8.heap.size<=c:=hc;exact ⟨⟨trivial,by omega⟩,by omega⟩
 have kx:∀ c,b8 c->WB.heap.size<=c:=fun _ h=>h.elim;have bW:∀ c,(X2 b2 b4) c->¬b8 c:=fun _ _ h=>h;refine bM (fun K hK=>?_);refine bO  [bF (X2 b2 b4) (⟨[(mA,mW)],[(mT,l8)]⟩),
  fY (dP (X2 b2 b4) (l8)) [.bool true],
  fY (dP (X2 b2 b4) (l8)) [.bool true],
  dP (X2 b2 b4) (l8),
  bn (.bool true),
  l7 #[.bool false,.string ⟨#[]⟩,.slice none 0 0] 43,
  jT (dP (X2 b2 b4) (l8)) 43,
  bn (.bool true)]
  5 6 T1 (by kernel_rfl) (fun k hk=>?_) (fun A9 γ W9 h=>?_)
 ·exact match k,hk with
  | 0,_=>dq _ _ 2 De.box (fun h=>h) (De.at bW) (old De.slot)
  | 1,_=>Sk (⟨[(mA,mW)],[(mT,l8)]⟩) [63,116] (by decide) Xg 93 hL (aq 0)
  | 2,_=>aF _ 94 (aq 1)
  | 3,_=>fM _ _ 92 (aq 2)
  | 4,_=>fC (dP (X2 b2 b4) (l8)) [.bool true] 0 (.bool true) rfl 92 (aq 2)
  | 5,_=>Dc rfl
  | 6,_=>Dd _ 9 95 rfl (aq 5) (aq 3)
  | 7,_=>bY _ 96 (aq 4)
  | k+8,hk=>absurd hk (by simp)
 have Uf:=h.sz.trans T1;have hd9:=h.df.trans hd8;have Ug:Below w.heap.size w W9:=aD YL h.inv.1 (fun _ h=>h.elim);obtain ⟨vz,tz,fz⟩:=h.get 5 _ 9 rfl rfl;obtain ⟨b9,q9,lz,Hn⟩:=PJ tz fz (h.did 6 _ rfl rfl) h.inv;have zaQ:=Uc.nx (h.od 1) h.inv.1 bW;have K4:=De.nx (h.od 2) h.inv.1 bW;have G7:=PQ.nx (h.od 4) h.inv.1 bW;have zaR:=Ud.nx (h.od 6) h.inv.1 bW;have zaS:=Ue.nx (h.od 7) h.inv.1 bW;have zaT:b9≠b1:=by have:=(bz Uc.box);have h:W8.heap.size<=b9:=Hn;have h2:b1<W8.heap.size:=this;omega
 have zdS:b1≠b9:=fun e=>zaT e.symm;have zaU:b9≠b2:=by have:=(bz De.box);have h:W8.heap.size<=b9:=Hn;have h2:b2<W8.heap.size:=this;omega
 have zdT:b2≠b9:=fun e=>zaU e.symm;have Uh:b9≠b4:=by have:=(bz PQ.box);have h:W8.heap.size<=b9:=Hn;have h2:b4<W8.heap.size:=this;omega
 have zdU:b4≠b9:=fun e=>Uh e.symm;have zaV:b9≠b6:=by have:=(bz Ud.box);have h:W8.heap.size<=b9:=Hn;have h2:b6<W8.heap.size:=this;omega
 have zdV:b6≠b9:=fun e=>zaV e.symm;have zaW:b9≠b7:=by have:=(bz Ue.box);have h:W8.heap.size<=b9:=Hn;have h2:b7<W8.heap.size:=this;omega
 have zdW:b7≠b9:=fun e=>zaW e.symm;have hw9:w.heap.size<=b9:=by have h1:W8.heap.size<=b9:=Hn;have h2:=YL.size;omega
 have zaX:LT (X2 b2 b4) A9 W9 9 b9 q9 _:=lz.next rfl (Kp.refl (M:=b8) _) (fun h=>h) (fun _ _ h=>h) (fun _ h _=>h.1);have eA:=(bz K4.box);have jy:=(bz G7.box);have qq:=h.ol 3 qq;have xG:=h.ol 8 xG;obtain ⟨zc1,Xj,zc2⟩:=h.get 7 _ 10 rfl rfl;obtain rfl:zc1=.bool true:=zc2;clear h;refine hK _ _ ?_;clear hT hL kx bW;have hT:Tabs WB W9:=jc.next (Ug);have hL:∀ c,W9.heap.size<=c->(X2 b2 b4) c:=fun c hc=>by have h:W9.heap.size<=c:=hc;exact ⟨⟨trivial,by omega⟩,by omega⟩
 have kx:∀ c,Ag b4 c->WB.heap.size<=c:=fun c h=>by have h:c=b4:=h;subst h;have:=jc.size;omega
 have bW:∀ c,(X2 b2 b4) c->¬Ag b4 c:=fun c h e=>h.2 e;refine bM (fun K hK=>?_);refine EK (bz G7.box) [bF (X2 b2 b4) (⟨[(mA,mW)],[(mT,l8)]⟩),
  fY (bi (X2 b2 b4) (mW)) [.bool true],
  fY (bi (X2 b2 b4) (mW)) [.bool true],
  bi (X2 b2 b4) (mW),
  bn (.bool true),
  jT (bi (X2 b2 b4) (mW)) 36]
  5 Uf (by kernel_rfl) (fun k hk=>?_) (fun A10 γ mS h=>?_)
 ·exact match k,hk with
  | 0,_=>dq _ _ 2 K4.box (fun h=>zaM h) (K4.at bW) (old K4.slot)
  | 1,_=>KW (⟨[(mA,mW)],[(mT,l8)]⟩) [63,65] (by decide) Xf 98 hL (aq 0)
  | 2,_=>aF _ 99 (aq 1)
  | 3,_=>fM _ _ 97 (aq 2)
  | 4,_=>fC (bi (X2 b2 b4) (mW)) [.bool true] 0 (.bool true) rfl 97 (aq 2)
  | 5,_=>JD _ 4 100 rfl G7.box rfl (old G7.slot) (aq 3)
  | k+6,hk=>absurd hk (by simp)
 have zaY:=h.sz.trans Uf;have zc3:=h.df.trans hd9;have zaZ:Below w.heap.size w mS:=aD Ug h.inv.1 (fun c h=>by have h:c=b4:=h;subst h;omega);have Xk:=zaQ.next (L':=(X2 b2 b4)) (h.old 1 (by kernel_rfl)) h.inv.1 (fun h=>zaL h) bW (fun _ h _=>h);obtain ⟨q4,EM⟩:=Sn ((h.old 4 (by kernel_rfl)).trans G7.slot) (h.did 5 _ rfl rfl) h.inv;have Xl:=zaR.next (L':=(X2 b2 b4)) (h.old 6 (by kernel_rfl)) h.inv.1 (fun h=>T' h) bW (fun _ h _=>h);have Xm:=zaS.next (L':=(X2 b2 b4)) (h.old 7 (by kernel_rfl)) h.inv.1 (fun h=>Ub h) bW (fun _ h _=>h);have JG:=zaX.next (L':=(X2 b2 b4)) (h.old 9 (by kernel_rfl)) h.inv.1 (fun h=>Uh h) bW (fun _ h _=>h);have jy:=(bz EM.box);have eA:b2<mS.heap.size:=bE eA h.inv.1.size;have qq:=h.ol 3 qq;have xG:=h.ol 8 xG;have Xj:=h.ol 10 Xj;clear h;refine hK _ _ ?_;clear hT hL kx bW;have hT:Tabs WB mS.drew:=jc.next (zaZ.drew);have hL:∀ c,mS.drew.heap.size<=c->(X2 b2 b4) c:=fun c hc=>by have h:mS.heap.size<=c:=hc;exact ⟨⟨trivial,by omega⟩,by omega⟩
 have kx:∀ c,b8 c->WB.heap.size<=c:=fun _ h=>h.elim;have bW:∀ c,(X2 b2 b4) c->¬b8 c:=fun _ _ h=>h;refine bM (fun K hK=>?_);refine bM (fun K2 hK2=>?_);refine eK  [bn (.int .i64 0),
  bn (.bool false),
  bn (.bool false),
  bn (.int .i64 0),
  bn (.bool false),
  bn (.bool false),
  bn (.bool false),
  bn (.bool true),
  bn (.bool false),
  bn (.bool false),
  bn (.bool false),
  dP (X2 b2 b4) (l8),
  ie (X2 b2 b4) [l8],
  dP (X2 b2 b4) (cT [97] []),
  ie (X2 b2 b4) [cT [97] []],
  dP (X2 b2 b4) (cT [102] [cT [97] []]),
  ie (X2 b2 b4) [cT [102] [cT [97] []]],
  bn (.bool true),
  bn (.bool false),
  bn (.bool false),
  bn (.bool false),
  bi (X2 b2 b4) (mW),
  dP (X2 b2 b4) (ap [63,120]),
  dP (X2 b2 b4) (ap [122]),
  ie (X2 b2 b4) [ap [63,120],ap [122]],
  bi (X2 b2 b4) (eo [82] [ap [63,120],ap [122]]),
  jj (X2 b2 b4) [eo [82] [ap [63,120],ap [122]]],
  bi (X2 b2 b4) (Fm.mk 9 [122] [] [eo [82] [ap [63,120],ap [122]]]),
  bn (.bool true),
  bn (.bool false),
  bn (.bool false)]
  31 31 zaY (by kernel_rfl) (by kernel_rfl) (fun k hk=>?_) (fun A11 γ mj h=>?_)
 ·exact match k,hk with
  | 0,_=>aF _ 3 (old qq)
  | 1,_=>cr rfl 102 (.bool false) (aq 0)
  | 2,_=>aF _ 103 (aq 1)
  | 3,_=>aF _ 8 (old xG) (hw:=aJ 2 (aq 2))
  | 4,_=>cr rfl 105 (.bool false) (aq 3) (hw:=aJ 2 (aq 2))
  | 5,_=>ep rfl 104 106 (.bool false) (aq 2) (aq 4)
  | 6,_=>aF _ 107 (aq 5)
  | 7,_=>aF _ 10 (old Xj) (hw:=aJ 6 (aq 6))
  | 8,_=>cr rfl 109 (.bool false) (aq 7) (hw:=aJ 6 (aq 6))
  | 9,_=>ep rfl 108 110 (.bool false) (aq 6) (aq 8)
  | 10,_=>aF _ 111 (aq 9)
  | 11,_=>G1 _ _ 9 JG.drew.box (fun h=>h) (JG.drew.at bW) (old JG.drew.slot) (hw:=aJ 10 (aq 10))
  | 12,_=>iX hL _ 113 (aq 11) (hw:=aJ 10 (aq 10))
  | 13,_=>PC [97] (hw:=aJ 10 (aq 10))
  | 14,_=>iX hL _ 115 (aq 13) (hw:=aJ 10 (aq 10))
  | 15,_=>zaE [102] [cT [97] []] 116 (aq 14) (hw:=aJ 10 (aq 10))
  | 16,_=>iX hL _ 117 (aq 15) (hw:=aJ 10 (aq 10))
  | 17,_=>G0 ([l8]) ([cT [102] [cT [97] []]]) ⟨by decide,by decide⟩ 114 118 (aq 12) (aq 16) (hw:=aJ 10 (aq 10)) (hp:=(qQ zcY))
  | 18,_=>cr rfl 119 (.bool false) (aq 17) (hw:=aJ 10 (aq 10))
  | 19,_=>ep rfl 112 120 (.bool false) (aq 10) (aq 18)
  | 20,_=>aF _ 121 (aq 19)
  | 21,_=>iY _ _ 4 EM.drew.box (fun h=>h) (EM.drew.at bW) (old EM.drew.slot) (hw:=aJ 20 (aq 20))
  | 22,_=>qi [63,120] (hw:=aJ 20 (aq 20))
  | 23,_=>qi [122] (hw:=aJ 20 (aq 20))
  | 24,_=>ma hL _ _ 124 125 (aq 22) (aq 23) (hw:=aJ 20 (aq 20))
  | 25,_=>Ad [82] [ap [63,120],ap [122]] 126 (aq 24) (hw:=aJ 20 (aq 20))
  | 26,_=>iW hL _ 127 (aq 25) (hw:=aJ 20 (aq 20))
  | 27,_=>l9 9 [122] [eo [82] [ap [63,120],ap [122]]] 128 (aq 26) (hw:=aJ 20 (aq 20))
  | 28,_=>tZ (mW) (Fm.mk 9 [122] [] [eo [82] [ap [63,120],ap [122]]]) ⟨by decide,by decide⟩ 123 129 (aq 21) (aq 27) (hw:=aJ 20 (aq 20)) (hp:=(qQ zcX))
  | 29,_=>cr rfl 130 (.bool false) (aq 28) (hw:=aJ 20 (aq 20))
  | 30,_=>ep rfl 122 131 (.bool false) (aq 20) (aq 29)
  | k+31,hk=>absurd hk (by simp)
 have Jt:=h.sz.trans zaY;have Xn:=h.df.trans zc3;have PS:Below w.heap.size w mj:=aD zaZ.drew h.inv.1 (fun _ h=>h.elim);have EN:=Xk.drew.nx (h.od 1) h.inv.1 bW;have JH:=Xl.drew.nx (h.od 6) h.inv.1 bW;have JI:=Xm.drew.nx (h.od 7) h.inv.1 bW;have eA:b2<mj.heap.size:=bE eA h.inv.1.size;have jy:b4<mj.heap.size:=bE jy h.inv.1.size;have qq:=h.ol 3 qq;have xG:=h.ol 8 xG;obtain ⟨vc,tc,fc⟩:=h.get 30 _ 132 rfl rfl;obtain rfl:vc=.bool false:=fc;clear h;refine hK2 _ _ ?_;refine wpIn_cond_false (bg tc) (wpIn_skip ?_);refine hK _ _ ?_;clear hT hL kx bW;have hT:Tabs WB mj.drew:=jc.next (PS.drew);have hL:∀ c,mj.drew.heap.size<=c->(X2 b2 b4) c:=fun c hc=>by have h:mj.heap.size<=c:=hc;exact ⟨⟨trivial,by omega⟩,by omega⟩
 have kx:∀ c,b8 c->WB.heap.size<=c:=fun _ h=>h.elim;have bW:∀ c,(X2 b2 b4) c->¬b8 c:=fun _ _ h=>h;refine bM (fun K hK=>?_);refine eK  [bi (X2 b2 b4) (Fm.mk 8 [120] [] [jY [63,65]]),
  bi (X2 b2 b4) (Fm.mk 8 [121] [] [Fm.mk 9 [122] [] [eo [82] [ap [121],ap [122]]]]),
  Ab (X2 b2 b4) (Fm.mk 8 [120] [] [jY [63,65]]) (Fm.mk 8 [121] [] [Fm.mk 9 [122] [] [eo [82] [ap [121],ap [122]]]]),
  bi (X2 b2 b4) (BB [63,65] [120] [63,116]),
  dP (X2 b2 b4) (ap [122]),
  dP (X2 b2 b4) (ap [122]),
  ie (X2 b2 b4) [ap [122],ap [122]],
  bi (X2 b2 b4) (eo [82] [ap [122],ap [122]]),
  jj (X2 b2 b4) [eo [82] [ap [122],ap [122]]],
  bi (X2 b2 b4) (Fm.mk 9 [122] [] [eo [82] [ap [122],ap [122]]]),
  Ab (X2 b2 b4) (BB [63,65] [120] [63,116]) (Fm.mk 9 [122] [] [eo [82] [ap [122],ap [122]]]),
  oE (X2 b2 b4) [(Fm.mk 8 [120] [] [jY [63,65]],Fm.mk 8 [121] [] [Fm.mk 9 [122] [] [eo [82] [ap [121],ap [122]]]]),(BB [63,65] [120] [63,116],Fm.mk 9 [122] [] [eo [82] [ap [122],ap [122]]])],
  bF (X2 b2 b4) (⟨[],[]⟩),
  fY (bF (X2 b2 b4) (⟨[],[]⟩)) [.int .i64 1,.int .i64 70],
  fY (bF (X2 b2 b4) (⟨[],[]⟩)) [.int .i64 1,.int .i64 70],
  bF (X2 b2 b4) (⟨[],[]⟩),
  bn (.int .i64 1),
  bn (.int .i64 70),
  bn (.int .i64 1),
  bn (.int .i64 70)]
  20 20 Jt (by kernel_rfl) (by kernel_rfl) (fun k hk=>?_) (fun A13 γ lq h=>?_)
 ·exact match k,hk with
  | 0,_=>iY _ _ 6 JH.drew.box (fun h=>h) (JH.drew.at bW) (old JH.drew.slot)
  | 1,_=>iY _ _ 7 JI.drew.box (fun h=>h) (JI.drew.at bW) (old JI.drew.slot)
  | 2,_=>qP _ _ 134 135 (aq 0) (aq 1)
  | 3,_=>xV [63,65] [120] [63,116] hL
  | 4,_=>qi [122]
  | 5,_=>qi [122]
  | 6,_=>ma hL _ _ 138 139 (aq 4) (aq 5)
  | 7,_=>Ad [82] [ap [122],ap [122]] 140 (aq 6)
  | 8,_=>iW hL _ 141 (aq 7)
  | 9,_=>l9 9 [122] [eo [82] [ap [122],ap [122]]] 142 (aq 8)
  | 10,_=>qP _ _ 137 143 (aq 3) (aq 9)
  | 11,_=>Af hL _ _ _ _ 136 144 (aq 2) (aq 10)
  | 12,_=>dq _ _ 1 EN.drew.box (fun h=>h) (EN.drew.at bW) (old EN.drew.slot)
  | 13,_=>l_ _ _ _ _ _ aw3 (by decide) EL nC 145 146 hT kx hL (aq 11) (aq 12)
  | 14,_=>aF _ 147 (aq 13)
  | 15,_=>fM _ _ 133 (aq 14)
  | 16,_=>fC (bF (X2 b2 b4) (⟨[],[]⟩)) [.int .i64 1,.int .i64 70] 0 (.int .i64 1) rfl 133 (aq 14)
  | 17,_=>fC (bF (X2 b2 b4) (⟨[],[]⟩)) [.int .i64 1,.int .i64 70] 1 (.int .i64 70) rfl 133 (aq 14)
  | 18,_=>bY _ 149 (aq 16)
  | 19,_=>bY _ 150 (aq 17)
  | k+20,hk=>absurd hk (by simp)
 have Sp:=h.sz.trans Jt;have Xo:=h.df.trans Xn;have gM:Below w.heap.size w lq:=aD PS.drew h.inv.1 (fun _ h=>h.elim);have Aj:=EN.drew.nx (h.od 1) h.inv.1 bW;have eA:b2<lq.heap.size:=bE eA h.inv.1.size;have jy:b4<lq.heap.size:=bE jy h.inv.1.size;obtain ⟨Xh,qq,Xi⟩:=h.get 19 _ 3 rfl rfl;obtain rfl:Xh=.int .i64 70:=Xi;obtain ⟨vz8,xG,fz8⟩:=h.get 18 _ 8 rfl rfl;obtain rfl:vz8=.int .i64 1:=fz8;clear h;refine hK _ _ ?_;clear hT hL kx bW;have hT:Tabs WB lq.drew:=jc.next (gM.drew);have hL:∀ c,lq.drew.heap.size<=c->(X2 b2 b4) c:=fun c hc=>by have h:lq.heap.size<=c:=hc;exact ⟨⟨trivial,by omega⟩,by omega⟩
 have kx:∀ c,b8 c->WB.heap.size<=c:=fun _ h=>h.elim;have bW:∀ c,(X2 b2 b4) c->¬b8 c:=fun _ _ h=>h;refine bM (fun K hK=>?_);refine eK  [bi (X2 b2 b4) (BB [63,65] [120] [63,116]),
  dP (X2 b2 b4) (cT [97] []),
  ie (X2 b2 b4) [cT [97] []],
  bi (X2 b2 b4) (eo [80] [cT [97] []]),
  bF (X2 b2 b4) (⟨[],[]⟩),
  fY (bF (X2 b2 b4) (⟨[],[]⟩)) [.int .i64 71],
  fY (bF (X2 b2 b4) (⟨[],[]⟩)) [.int .i64 71],
  bF (X2 b2 b4) (⟨[],[]⟩),
  bn (.int .i64 71),
  l7 #[.slice none 0 0,.slice none 0 0] 26,
  jT (bF (X2 b2 b4) (⟨[],[]⟩)) 26,
  bn (.int .i64 71)]
  9 10 Sp (by kernel_rfl) (by kernel_rfl) (fun k hk=>?_) (fun A14 γ Sq h=>?_)
 ·exact match k,hk with
  | 0,_=>xV [63,65] [120] [63,116] hL
  | 1,_=>PC [97]
  | 2,_=>iX hL _ 153 (aq 1)
  | 3,_=>Ad [80] [cT [97] []] 154 (aq 2)
  | 4,_=>dq _ _ 1 Aj.drew.box (fun h=>h) (Aj.drew.at bW) (old Aj.drew.slot)
  | 5,_=>Ae _ _ _ _ _ _ aw4 ⟨by decide,by decide⟩ ⟨by decide,by decide⟩ nC 152 155 156 hT kx hL (aq 0) (aq 3) (aq 4)
  | 6,_=>aF _ 157 (aq 5)
  | 7,_=>fM _ _ 151 (aq 6)
  | 8,_=>fC (bF (X2 b2 b4) (⟨[],[]⟩)) [.int .i64 71] 0 (.int .i64 71) rfl 151 (aq 6)
  | 9,_=>ko rfl
  | 10,_=>kr _ 11 158 rfl (aq 9) (aq 7)
  | 11,_=>bY _ 159 (aq 8)
  | k+12,hk=>absurd hk (by simp)
 have PU:=h.sz.trans Sp;have Sr:=h.df.trans Xo;have PV:Below w.heap.size w Sq:=aD gM.drew h.inv.1 (fun _ h=>h.elim);obtain ⟨vz,tz,fz⟩:=h.get 9 _ 11 rfl rfl;obtain ⟨YM,q11,lz,za0⟩:=sI tz fz (h.did 10 _ rfl rfl) h.inv;have Xp:=Aj.drew.nx (h.od 1) h.inv.1 bW;have Xq:YM≠b1:=by have:=(bz Aj.drew.box);have h:lq.heap.size<=YM:=za0;have h2:b1<lq.heap.size:=this;omega
 have zc4:b1≠YM:=fun e=>Xq e.symm;have zes:w.heap.size<=YM:=by have h1:lq.heap.size<=YM:=za0;have h2:=gM.size;omega
 have zbu:LB (X2 b2 b4) A14 Sq 11 YM q11 _:=lz.next rfl (Kp.refl (M:=b8) _) (fun h=>h) (fun _ _ h=>h) (fun _ h _=>h.1);have eA:b2<Sq.heap.size:=bE eA h.inv.1.size;have jy:b4<Sq.heap.size:=bE jy h.inv.1.size;have qq:=h.ol 3 qq;have xG:=h.ol 8 xG;obtain ⟨zc5,zc6,zc7⟩:=h.get 11 _ 12 rfl rfl;obtain rfl:zc5=.int .i64 71:=zc7;clear h;refine hK _ _ ?_;clear hT hL kx bW;have hT:Tabs WB Sq:=jc.next (PV);have hL:∀ c,Sq.heap.size<=c->(X2 b2 b4) c:=fun c hc=>by have h:Sq.heap.size<=c:=hc;exact ⟨⟨trivial,by omega⟩,by omega⟩
 have kx:∀ c,b8 c->WB.heap.size<=c:=fun _ h=>h.elim;have bW:∀ c,(X2 b2 b4) c->¬b8 c:=fun _ _ h=>h;refine bM (fun K hK=>?_);refine bM (fun K2 hK2=>?_);refine bO  [bn (.int .i64 1),
  bn (.bool false),
  bn (.bool false),
  bn (.int .i64 70),
  bn (.bool false),
  bn (.bool false),
  bn (.bool false),
  bn (.int .i64 71),
  bn (.bool false),
  bn (.bool false)]
  10 10 PU (by kernel_rfl) (fun k hk=>?_) (fun A15 γ wQ h=>?_)
 ·exact match k,hk with
  | 0,_=>aF _ 8 (old xG)
  | 1,_=>cr rfl 160 (.bool false) (aq 0)
  | 2,_=>aF _ 161 (aq 1)
  | 3,_=>aF _ 3 (old qq) (hw:=aJ 2 (aq 2))
  | 4,_=>cr rfl 163 (.bool false) (aq 3) (hw:=aJ 2 (aq 2))
  | 5,_=>ep rfl 162 164 (.bool false) (aq 2) (aq 4)
  | 6,_=>aF _ 165 (aq 5)
  | 7,_=>aF _ 12 (old zc6) (hw:=aJ 6 (aq 6))
  | 8,_=>cr rfl 167 (.bool false) (aq 7) (hw:=aJ 6 (aq 6))
  | 9,_=>ep rfl 166 168 (.bool false) (aq 6) (aq 8)
  | k+10,hk=>absurd hk (by simp)
 have G8:=h.sz.trans PU;have PW:=h.df.trans Sr;have EO:Below w.heap.size w wQ:=aD PV h.inv.1 (fun _ h=>h.elim);have PX:=Xp.nx (h.od 1) h.inv.1 bW;have eA:b2<wQ.heap.size:=bE eA h.inv.1.size;have jy:b4<wQ.heap.size:=bE jy h.inv.1.size;have qq:=h.ol 3 qq;have xG:=h.ol 8 xG;obtain ⟨vc,tc,fc⟩:=h.get 9 _ 169 rfl rfl;obtain rfl:vc=.bool false:=fc;clear h;refine hK2 _ _ ?_;refine wpIn_cond_false (bg tc) (wpIn_skip ?_);refine hK _ _ ?_;clear hT hL kx bW;have hT:Tabs WB wQ:=jc.next (EO);have hL:∀ c,wQ.heap.size<=c->(X2 b2 b4) c:=fun c hc=>by have h:wQ.heap.size<=c:=hc;exact ⟨⟨trivial,by omega⟩,by omega⟩
 have kx:∀ c,b8 c->WB.heap.size<=c:=fun _ h=>h.elim;have bW:∀ c,(X2 b2 b4) c->¬b8 c:=fun _ _ h=>h;refine bM (fun K hK=>?_);refine bO  [bi (X2 b2 b4) (jY [63,65]),
  bi (X2 b2 b4) (jY [63,66]),
  jj (X2 b2 b4) [jY [63,65],jY [63,66]],
  bi (X2 b2 b4) (Fm.mk 5 [] [] [jY [63,65],jY [63,66]]),
  jj (X2 b2 b4) [Fm.mk 5 [] [] [jY [63,65],jY [63,66]]],
  bi (X2 b2 b4) (Fm.mk 8 [120] [] [Fm.mk 5 [] [] [jY [63,65],jY [63,66]]]),
  l7 #[.int .u8 0,.string ⟨#[]⟩,.slice none 0 0,.slice none 0 0] 36,
  jT (bi (X2 b2 b4) (Fm.mk 8 [120] [] [Fm.mk 5 [] [] [jY [63,65],jY [63,66]]])) 36]
  6 7 G8 (by kernel_rfl) (fun k hk=>?_) (fun A17 γ Ak h=>?_)
 ·exact match k,hk with
  | 0,_=>GZ [63,65]
  | 1,_=>GZ [63,66]
  | 2,_=>qk hL _ _ 170 171 (aq 0) (aq 1)
  | 3,_=>l9 5 [] [jY [63,65],jY [63,66]] 172 (aq 2)
  | 4,_=>iW hL _ 173 (aq 3)
  | 5,_=>l9 8 [120] [Fm.mk 5 [] [] [jY [63,65],jY [63,66]]] 174 (aq 4)
  | 6,_=>ju rfl
  | 7,_=>jv _ 13 175 rfl (aq 6) (aq 5)
  | k+8,hk=>absurd hk (by simp)
 have PY:=h.sz.trans G8;have Xr:=h.df.trans PW;have PZ:Below w.heap.size w Ak:=aD EO h.inv.1 (fun _ h=>h.elim);obtain ⟨vz,tz,fz⟩:=h.get 6 _ 13 rfl rfl;obtain ⟨YN,q13,lz,za1⟩:=qp tz fz (h.did 7 _ rfl rfl) h.inv;have JJ:=PX.nx (h.od 1) h.inv.1 bW;have Xs:YN≠b1:=by have:=(bz PX.box);have h:wQ.heap.size<=YN:=za1;have h2:b1<wQ.heap.size:=this;omega
 have zc8:b1≠YN:=fun e=>Xs e.symm;have zet:w.heap.size<=YN:=by have h1:wQ.heap.size<=YN:=za1;have h2:=EO.size;omega
 have EP:LF (X2 b2 b4) A17 Ak 13 YN q13 _:=lz.next rfl (Kp.refl (M:=b8) _) (fun h=>h) (fun _ _ h=>h) (fun _ h _=>h.1);have eA:b2<Ak.heap.size:=bE eA h.inv.1.size;have jy:b4<Ak.heap.size:=bE jy h.inv.1.size;have qq:=h.ol 3 qq;have xG:=h.ol 8 xG;clear h;refine hK _ _ ?_;clear hT hL kx bW;have hT:Tabs WB Ak.drew:=jc.next (PZ.drew);have hL:∀ c,Ak.drew.heap.size<=c->(X2 b2 b4) c:=fun c hc=>by have h:Ak.heap.size<=c:=hc;exact ⟨⟨trivial,by omega⟩,by omega⟩
 have kx:∀ c,b8 c->WB.heap.size<=c:=fun _ h=>h.elim;have bW:∀ c,(X2 b2 b4) c->¬b8 c:=fun _ _ h=>h;refine bM (fun K hK=>?_);refine eK  [bi (X2 b2 b4) (Fm.mk 8 [120] [] [Fm.mk 5 [] [] [jY [63,65],jY [63,66]]]),
  dP (X2 b2 b4) (ap [121]),
  ie (X2 b2 b4) [ap [121]],
  bi (X2 b2 b4) (eo [80] [ap [121]]),
  dP (X2 b2 b4) (ap [121]),
  ie (X2 b2 b4) [ap [121]],
  bi (X2 b2 b4) (eo [80] [ap [121]]),
  jj (X2 b2 b4) [eo [80] [ap [121]],eo [80] [ap [121]]],
  bi (X2 b2 b4) (Fm.mk 5 [] [] [eo [80] [ap [121]],eo [80] [ap [121]]]),
  jj (X2 b2 b4) [Fm.mk 5 [] [] [eo [80] [ap [121]],eo [80] [ap [121]]]],
  bi (X2 b2 b4) (Fm.mk 8 [121] [] [Fm.mk 5 [] [] [eo [80] [ap [121]],eo [80] [ap [121]]]]),
  Ab (X2 b2 b4) (Fm.mk 8 [120] [] [Fm.mk 5 [] [] [jY [63,65],jY [63,66]]]) (Fm.mk 8 [121] [] [Fm.mk 5 [] [] [eo [80] [ap [121]],eo [80] [ap [121]]]]),
  bi (X2 b2 b4) (jY [63,65]),
  dP (X2 b2 b4) (ap [121]),
  ie (X2 b2 b4) [ap [121]],
  bi (X2 b2 b4) (eo [80] [ap [121]]),
  Ab (X2 b2 b4) (jY [63,65]) (eo [80] [ap [121]]),
  oE (X2 b2 b4) [(Fm.mk 8 [120] [] [Fm.mk 5 [] [] [jY [63,65],jY [63,66]]],Fm.mk 8 [121] [] [Fm.mk 5 [] [] [eo [80] [ap [121]],eo [80] [ap [121]]]]),(jY [63,65],eo [80] [ap [121]])],
  bF (X2 b2 b4) (⟨[],[]⟩),
  fY (bF (X2 b2 b4) (⟨[],[]⟩)) [.int .i64 1,.int .i64 70],
  fY (bF (X2 b2 b4) (⟨[],[]⟩)) [.int .i64 1,.int .i64 70],
  bF (X2 b2 b4) (⟨[],[]⟩),
  bn (.int .i64 1),
  bn (.int .i64 70),
  bn (.int .i64 1),
  bn (.int .i64 70)]
  26 26 PY (by kernel_rfl) (by kernel_rfl) (fun k hk=>?_) (fun A18 γ QQ h=>?_)
 ·exact match k,hk with
  | 0,_=>iY _ _ 13 EP.drew.box (fun h=>h) (EP.drew.at bW) (old EP.drew.slot)
  | 1,_=>qi [121]
  | 2,_=>iX hL _ 178 (aq 1)
  | 3,_=>Ad [80] [ap [121]] 179 (aq 2)
  | 4,_=>qi [121]
  | 5,_=>iX hL _ 181 (aq 4)
  | 6,_=>Ad [80] [ap [121]] 182 (aq 5)
  | 7,_=>qk hL _ _ 180 183 (aq 3) (aq 6)
  | 8,_=>l9 5 [] [eo [80] [ap [121]],eo [80] [ap [121]]] 184 (aq 7)
  | 9,_=>iW hL _ 185 (aq 8)
  | 10,_=>l9 8 [121] [Fm.mk 5 [] [] [eo [80] [ap [121]],eo [80] [ap [121]]]] 186 (aq 9)
  | 11,_=>qP _ _ 177 187 (aq 0) (aq 10)
  | 12,_=>GZ [63,65]
  | 13,_=>qi [121]
  | 14,_=>iX hL _ 190 (aq 13)
  | 15,_=>Ad [80] [ap [121]] 191 (aq 14)
  | 16,_=>qP _ _ 189 192 (aq 12) (aq 15)
  | 17,_=>Af hL _ _ _ _ 188 193 (aq 11) (aq 16)
  | 18,_=>dq _ _ 1 JJ.drew.box (fun h=>h) (JJ.drew.at bW) (old JJ.drew.slot)
  | 19,_=>l_ _ _ _ _ _ aw5 (by decide) EL nC 194 195 hT kx hL (aq 17) (aq 18)
  | 20,_=>aF _ 196 (aq 19)
  | 21,_=>fM _ _ 176 (aq 20)
  | 22,_=>fC (bF (X2 b2 b4) (⟨[],[]⟩)) [.int .i64 1,.int .i64 70] 0 (.int .i64 1) rfl 176 (aq 20)
  | 23,_=>fC (bF (X2 b2 b4) (⟨[],[]⟩)) [.int .i64 1,.int .i64 70] 1 (.int .i64 70) rfl 176 (aq 20)
  | 24,_=>bY _ 198 (aq 22)
  | 25,_=>bY _ 199 (aq 23)
  | k+26,hk=>absurd hk (by simp)
 have P9:=h.sz.trans PY;have Xt:=h.df.trans Xr;have Mx:Below w.heap.size w QQ:=aD PZ.drew h.inv.1 (fun _ h=>h.elim);have eA:b2<QQ.heap.size:=bE eA h.inv.1.size;have jy:b4<QQ.heap.size:=bE jy h.inv.1.size;obtain ⟨Xh,qq,Xi⟩:=h.get 25 _ 3 rfl rfl;obtain rfl:Xh=.int .i64 70:=Xi;obtain ⟨vz8,xG,fz8⟩:=h.get 24 _ 8 rfl rfl;obtain rfl:vz8=.int .i64 1:=fz8;clear h;refine hK _ _ ?_;clear hT hL kx bW;have hT:Tabs WB QQ:=jc.next (Mx);have hL:∀ c,QQ.heap.size<=c->(X2 b2 b4) c:=fun c hc=>by have h:QQ.heap.size<=c:=hc;exact ⟨⟨trivial,by omega⟩,by omega⟩
 have kx:∀ c,b8 c->WB.heap.size<=c:=fun _ h=>h.elim;have bW:∀ c,(X2 b2 b4) c->¬b8 c:=fun _ _ h=>h;refine bM (fun K hK=>?_);refine bO  [dP (X2 b2 b4) (ap [63,120]),
  dP (X2 b2 b4) (ap [120]),
  ie (X2 b2 b4) [ap [63,120],ap [120]],
  bi (X2 b2 b4) (eo [80] [ap [63,120],ap [120]]),
  fFB (X2 b2 b4) [63,65] (eo [80] [ap [63,120],ap [120]]),
  zcR (X2 b2 b4) [([63,65],eo [80] [ap [63,120],ap [120]])],
  dP (X2 b2 b4) (ap [120]),
  fTB (X2 b2 b4) [63,116] (ap [120]),
  zcS (X2 b2 b4) [([63,116],ap [120])],
  bF (X2 b2 b4) (⟨[([63,65],eo [80] [ap [63,120],ap [120]])],[([63,116],ap [120])]⟩),
  l7 #[.slice none 0 0,.slice none 0 0] 26,
  jT (bF (X2 b2 b4) (⟨[([63,65],eo [80] [ap [63,120],ap [120]])],[([63,116],ap [120])]⟩)) 26]
  10 11 P9 (by kernel_rfl) (fun k hk=>?_) (fun A19 γ M9 h=>?_)
 ·exact match k,hk with
  | 0,_=>qi [63,120]
  | 1,_=>qi [120]
  | 2,_=>ma hL _ _ 200 201 (aq 0) (aq 1)
  | 3,_=>Ad [80] [ap [63,120],ap [120]] 202 (aq 2)
  | 4,_=>zaF [63,65] _ 203 (aq 3)
  | 5,_=>PE _ _ 204 hL (aq 4)
  | 6,_=>qi [120]
  | 7,_=>zaG [63,116] _ 206 (aq 6)
  | 8,_=>PG _ _ 207 hL (aq 7)
  | 9,_=>Sl _ _ 205 208 (aq 5) (aq 8)
  | 10,_=>ko rfl
  | 11,_=>kr _ 14 209 rfl (aq 10) (aq 9)
  | k+12,hk=>absurd hk (by simp)
 have Ss:=h.sz.trans P9;have Xu:=h.df.trans Xt;have P':Below w.heap.size w M9:=aD Mx h.inv.1 (fun _ h=>h.elim);obtain ⟨vz,tz,fz⟩:=h.get 10 _ 14 rfl rfl;obtain ⟨M_,q14,lz,zc9⟩:=sI tz fz (h.did 11 _ rfl rfl) h.inv;have zeu:w.heap.size<=M_:=by have h1:QQ.heap.size<=M_:=zc9;have h2:=Mx.size;omega
 have t5:LB (X2 b2 b4) A19 M9 14 M_ q14 _:=lz.next rfl (Kp.refl (M:=b8) _) (fun h=>h) (fun _ _ h=>h) (fun _ h _=>h.1);have eA:b2<M9.heap.size:=bE eA h.inv.1.size;have jy:b4<M9.heap.size:=bE jy h.inv.1.size;have qq:=h.ol 3 qq;have xG:=h.ol 8 xG;clear h;refine hK _ _ ?_;clear hT hL kx bW;have hT:Tabs WB M9.drew:=jc.next (P'.drew);have hL:∀ c,M9.drew.heap.size<=c->(X2 b2 b4) c:=fun c hc=>by have h:M9.heap.size<=c:=hc;exact ⟨⟨trivial,by omega⟩,by omega⟩
 have kx:∀ c,b8 c->WB.heap.size<=c:=fun _ h=>h.elim;have bW:∀ c,(X2 b2 b4) c->¬b8 c:=fun _ _ h=>h;refine bM (fun K hK=>?_);refine eK  [bi (X2 b2 b4) (jY [63,65]),
  jj (X2 b2 b4) [jY [63,65]],
  bi (X2 b2 b4) (Fm.mk 9 [120] [] [jY [63,65]]),
  bF (X2 b2 b4) (⟨[([63,65],eo [80] [ap [63,120],ap [120]])],[([63,116],ap [120])]⟩),
  fY (bi (X2 b2 b4) (BC)) [.int .i64 0],
  fY (bi (X2 b2 b4) (BC)) [.int .i64 0],
  bi (X2 b2 b4) (BC),
  bn (.int .i64 0),
  l7 #[.int .u8 0,.string ⟨#[]⟩,.slice none 0 0,.slice none 0 0] 36,
  jT (bi (X2 b2 b4) (BC)) 36,
  bn (.int .i64 0)]
  8 9 Ss (by kernel_rfl) (by kernel_rfl) (fun k hk=>?_) (fun A20 γ JK h=>?_)
 ·exact match k,hk with
  | 0,_=>GZ [63,65]
  | 1,_=>iW hL _ 211 (aq 0)
  | 2,_=>l9 9 [120] [jY [63,65]] 212 (aq 1)
  | 3,_=>dq _ _ 14 t5.drew.box (fun h=>h) (t5.drew.at bW) (old t5.drew.slot)
  | 4,_=>EI _ _ _ _ aw6 ⟨by decide,by decide⟩ t4 213 214 hT kx hL (aq 2) (aq 3)
  | 5,_=>aF _ 215 (aq 4)
  | 6,_=>fM _ _ 210 (aq 5)
  | 7,_=>fC (bi (X2 b2 b4) (BC)) [.int .i64 0] 0 (.int .i64 0) rfl 210 (aq 5)
  | 8,_=>ju rfl
  | 9,_=>jv _ 15 216 rfl (aq 8) (aq 6)
  | 10,_=>bY _ 217 (aq 7)
  | k+11,hk=>absurd hk (by simp)
 have P_:=h.sz.trans Ss;have Xv:=h.df.trans Xu;have My:Below w.heap.size w JK:=aD P'.drew h.inv.1 (fun _ h=>h.elim);obtain ⟨vz,tz,fz⟩:=h.get 8 _ 15 rfl rfl;obtain ⟨Na,q15,lz,za2⟩:=qp tz fz (h.did 9 _ rfl rfl) h.inv;have t_:=t5.drew.nx (h.od 14) h.inv.1 bW;have St:Na≠M_:=by have:=(bz t5.drew.box);have h:M9.heap.size<=Na:=za2;have h2:M_<M9.heap.size:=this;omega
 have zbv:M_≠Na:=fun e=>St e.symm;have zev:w.heap.size<=Na:=by have h1:M9.heap.size<=Na:=za2;have h2:=P'.size;omega
 have K5:LF (X2 b2 b4) A20 JK 15 Na q15 _:=lz.next rfl (Kp.refl (M:=b8) _) (fun h=>h) (fun _ _ h=>h) (fun _ h _=>h.1);have eA:b2<JK.heap.size:=bE eA h.inv.1.size;have jy:b4<JK.heap.size:=bE jy h.inv.1.size;have qq:=h.ol 3 qq;have xG:=h.ol 8 xG;obtain ⟨zda,Qa,zdb⟩:=h.get 10 _ 16 rfl rfl;obtain rfl:zda=.int .i64 0:=zdb;clear h;refine hK _ _ ?_;clear hT hL kx bW;have hT:Tabs WB JK.drew:=jc.next (My.drew);have hL:∀ c,JK.drew.heap.size<=c->(X2 b2 b4) c:=fun c hc=>by have h:JK.heap.size<=c:=hc;exact ⟨⟨trivial,by omega⟩,by omega⟩
 have kx:∀ c,b8 c->WB.heap.size<=c:=fun _ h=>h.elim;have bW:∀ c,(X2 b2 b4) c->¬b8 c:=fun _ _ h=>h;refine bM (fun K hK=>?_);refine eK  [bi (X2 b2 b4) (BB [63,65] [120] [63,116]),
  bF (X2 b2 b4) (⟨[([63,65],eo [80] [ap [63,120],ap [120]])],[([63,116],ap [120])]⟩),
  fY (bi (X2 b2 b4) (BD)) [.int .i64 0],
  fY (bi (X2 b2 b4) (BD)) [.int .i64 0],
  bi (X2 b2 b4) (BD),
  bn (.int .i64 0),
  l7 #[.int .u8 0,.string ⟨#[]⟩,.slice none 0 0,.slice none 0 0] 36,
  jT (bi (X2 b2 b4) (BD)) 36,
  bn (.int .i64 0)]
  6 7 P_ (by kernel_rfl) (by kernel_rfl) (fun k hk=>?_) (fun A21 γ BE h=>?_)
 ·exact match k,hk with
  | 0,_=>xV [63,65] [120] [63,116] hL
  | 1,_=>dq _ _ 14 t_.drew.box (fun h=>h) (t_.drew.at bW) (old t_.drew.slot)
  | 2,_=>EI _ _ _ _ aw7 ⟨by decide,by decide⟩ t4 219 220 hT kx hL (aq 0) (aq 1)
  | 3,_=>aF _ 221 (aq 2)
  | 4,_=>fM _ _ 218 (aq 3)
  | 5,_=>fC (bi (X2 b2 b4) (BD)) [.int .i64 0] 0 (.int .i64 0) rfl 218 (aq 3)
  | 6,_=>ju rfl
  | 7,_=>jv _ 17 222 rfl (aq 6) (aq 4)
  | 8,_=>bY _ 223 (aq 5)
  | k+9,hk=>absurd hk (by simp)
 have Qb:=h.sz.trans P_;have Su:=h.df.trans Xv;have JL:Below w.heap.size w BE:=aD My.drew h.inv.1 (fun _ h=>h.elim);obtain ⟨vz,tz,fz⟩:=h.get 6 _ 17 rfl rfl;obtain ⟨Nb,q17,lz,Xw⟩:=qp tz fz (h.did 7 _ rfl rfl) h.inv;have ud:=t_.drew.nx (h.od 14) h.inv.1 bW;have K6:=K5.drew.nx (h.od 15) h.inv.1 bW;have Sv:Nb≠M_:=by have:=(bz t_.drew.box);have h:JK.heap.size<=Nb:=Xw;have h2:M_<JK.heap.size:=this;omega
 have zbw:M_≠Nb:=fun e=>Sv e.symm;have Sw:Nb≠Na:=by have:=(bz K5.drew.box);have h:JK.heap.size<=Nb:=Xw;have h2:Na<JK.heap.size:=this;omega
 have zbx:Na≠Nb:=fun e=>Sw e.symm;have zew:w.heap.size<=Nb:=by have h1:JK.heap.size<=Nb:=Xw;have h2:=My.size;omega
 have K7:LF (X2 b2 b4) A21 BE 17 Nb q17 _:=lz.next rfl (Kp.refl (M:=b8) _) (fun h=>h) (fun _ _ h=>h) (fun _ h _=>h.1);have eA:b2<BE.heap.size:=bE eA h.inv.1.size;have jy:b4<BE.heap.size:=bE jy h.inv.1.size;have qq:=h.ol 3 qq;have xG:=h.ol 8 xG;have Qa:=h.ol 16 Qa;obtain ⟨zdc,Xx,zdd⟩:=h.get 8 _ 18 rfl rfl;obtain rfl:zdc=.int .i64 0:=zdd;clear h;refine hK _ _ ?_;clear hT hL kx bW;have hT:Tabs WB BE.drew:=jc.next (JL.drew);have hL:∀ c,BE.drew.heap.size<=c->(X2 b2 b4) c:=fun c hc=>by have h:BE.heap.size<=c:=hc;exact ⟨⟨trivial,by omega⟩,by omega⟩
 have kx:∀ c,b8 c->WB.heap.size<=c:=fun _ h=>h.elim;have bW:∀ c,(X2 b2 b4) c->¬b8 c:=fun _ _ h=>h;refine bM (fun K hK=>?_);refine eK  [bi (X2 b2 b4) (jY [63,65]),
  bF (X2 b2 b4) (⟨[([63,65],eo [80] [ap [63,120],ap [120]])],[([63,116],ap [120])]⟩),
  fY (bi (X2 b2 b4) (j6)) [.int .i64 72],
  fY (bi (X2 b2 b4) (j6)) [.int .i64 72],
  bi (X2 b2 b4) (j6),
  bn (.int .i64 72),
  l7 #[.int .u8 0,.string ⟨#[]⟩,.slice none 0 0,.slice none 0 0] 36,
  jT (bi (X2 b2 b4) (j6)) 36,
  bn (.int .i64 72)]
  6 7 Qb (by kernel_rfl) (by kernel_rfl) (fun k hk=>?_) (fun A22 γ Dg h=>?_)
 ·exact match k,hk with
  | 0,_=>GZ [63,65]
  | 1,_=>dq _ _ 14 ud.drew.box (fun h=>h) (ud.drew.at bW) (old ud.drew.slot)
  | 2,_=>EI _ _ _ _ aw8 ⟨by decide,by decide⟩ t4 225 226 hT kx hL (aq 0) (aq 1)
  | 3,_=>aF _ 227 (aq 2)
  | 4,_=>fM _ _ 224 (aq 3)
  | 5,_=>fC (bi (X2 b2 b4) (j6)) [.int .i64 72] 0 (.int .i64 72) rfl 224 (aq 3)
  | 6,_=>ju rfl
  | 7,_=>jv _ 19 228 rfl (aq 6) (aq 4)
  | 8,_=>bY _ 229 (aq 5)
  | k+9,hk=>absurd hk (by simp)
 have ER:=h.sz.trans Qb;have Mz:=h.df.trans Su;have G9:Below w.heap.size w Dg:=aD JL.drew h.inv.1 (fun _ h=>h.elim);obtain ⟨vz,tz,fz⟩:=h.get 6 _ 19 rfl rfl;obtain ⟨Nc,q19,lz,Sx⟩:=qp tz fz (h.did 7 _ rfl rfl) h.inv;have ES:=ud.drew.nx (h.od 14) h.inv.1 bW;have ET:=K6.drew.nx (h.od 15) h.inv.1 bW;have EU:=K7.drew.nx (h.od 17) h.inv.1 bW;have Sy:Nc≠M_:=by have:=(bz ud.drew.box);have h:BE.heap.size<=Nc:=Sx;have h2:M_<BE.heap.size:=this;omega
 have zby:M_≠Nc:=fun e=>Sy e.symm;have Sz:Nc≠Na:=by have:=(bz K6.drew.box);have h:BE.heap.size<=Nc:=Sx;have h2:Na<BE.heap.size:=this;omega
 have zbz:Na≠Nc:=fun e=>Sz e.symm;have SA:Nc≠Nb:=by have:=(bz K7.drew.box);have h:BE.heap.size<=Nc:=Sx;have h2:Nb<BE.heap.size:=this;omega
 have zbA:Nb≠Nc:=fun e=>SA e.symm;have zex:w.heap.size<=Nc:=by have h1:BE.heap.size<=Nc:=Sx;have h2:=JL.size;omega
 have zbB:LF (X2 b2 b4) A22 Dg 19 Nc q19 _:=lz.next rfl (Kp.refl (M:=b8) _) (fun h=>h) (fun _ _ h=>h) (fun _ h _=>h.1);have eA:b2<Dg.heap.size:=bE eA h.inv.1.size;have jy:b4<Dg.heap.size:=bE jy h.inv.1.size;have qq:=h.ol 3 qq;have xG:=h.ol 8 xG;have Qa:=h.ol 16 Qa;have Xx:=h.ol 18 Xx;obtain ⟨zde,zdf,zdg⟩:=h.get 8 _ 20 rfl rfl;obtain rfl:zde=.int .i64 72:=zdg;clear h;refine hK _ _ ?_;clear hT hL kx bW;have hT:Tabs WB Dg.drew:=jc.next (G9.drew);have hL:∀ c,Dg.drew.heap.size<=c->(X2 b2 b4) c:=fun c hc=>by have h:Dg.heap.size<=c:=hc;exact ⟨⟨trivial,by omega⟩,by omega⟩
 have kx:∀ c,b8 c->WB.heap.size<=c:=fun _ h=>h.elim;have bW:∀ c,(X2 b2 b4) c->¬b8 c:=fun _ _ h=>h;refine bM (fun K hK=>?_);refine eK  [bn (.int .i64 1),
  bn (.bool true),
  bn (.bool true),
  bn (.int .i64 70),
  bn (.bool true),
  bn (.bool true),
  bn (.bool true),
  bn (.int .i64 0),
  bn (.bool true),
  bn (.bool true),
  bn (.bool true),
  bn (.int .i64 0),
  bn (.bool true),
  bn (.bool true),
  bn (.bool true),
  bi (X2 b2 b4) (BC),
  dP (X2 b2 b4) (ap [120,49]),
  dP (X2 b2 b4) (ap [120]),
  ie (X2 b2 b4) [ap [120,49],ap [120]],
  bi (X2 b2 b4) (eo [80] [ap [120,49],ap [120]]),
  jj (X2 b2 b4) [eo [80] [ap [120,49],ap [120]]],
  bi (X2 b2 b4) (Fm.mk 9 [120,49] [] [eo [80] [ap [120,49],ap [120]]]),
  bn (.bool true),
  bn (.bool true),
  bn (.bool true),
  bi (X2 b2 b4) (BD),
  dP (X2 b2 b4) (ap [120]),
  dP (X2 b2 b4) (ap [120]),
  ie (X2 b2 b4) [ap [120],ap [120]],
  bi (X2 b2 b4) (eo [80] [ap [120],ap [120]]),
  bn (.bool true),
  bn (.bool true),
  bn (.bool true),
  bn (.int .i64 72),
  bn (.bool true),
  bn (.bool true),
  bn (.bool true),
  bF (X2 b2 b4) (⟨[([63,65],eo [80] [ap [63,120],ap [120]])],[([63,116],ap [120])]⟩),
  bn (.bool true),
  bn (.bool true),
  bn (.bool true)]
  41 41 ER (by kernel_rfl) (by kernel_rfl) (fun k hk=>?_) (fun A23 γ W23 h=>?_)
 ·exact match k,hk with
  | 0,_=>aF _ 8 (old xG)
  | 1,_=>cr rfl 230 (.bool true) (aq 0)
  | 2,_=>aF _ 231 (aq 1)
  | 3,_=>aF _ 3 (old qq) (hw:=aJ 2 (aq 2))
  | 4,_=>cr rfl 233 (.bool true) (aq 3) (hw:=aJ 2 (aq 2))
  | 5,_=>ep rfl 232 234 (.bool true) (aq 2) (aq 4)
  | 6,_=>aF _ 235 (aq 5)
  | 7,_=>aF _ 16 (old Qa) (hw:=aJ 6 (aq 6))
  | 8,_=>cr rfl 237 (.bool true) (aq 7) (hw:=aJ 6 (aq 6))
  | 9,_=>ep rfl 236 238 (.bool true) (aq 6) (aq 8)
  | 10,_=>aF _ 239 (aq 9)
  | 11,_=>aF _ 18 (old Xx) (hw:=aJ 10 (aq 10))
  | 12,_=>cr rfl 241 (.bool true) (aq 11) (hw:=aJ 10 (aq 10))
  | 13,_=>ep rfl 240 242 (.bool true) (aq 10) (aq 12)
  | 14,_=>aF _ 243 (aq 13)
  | 15,_=>iY _ _ 15 ET.drew.box (fun h=>h) (ET.drew.at bW) (old ET.drew.slot) (hw:=aJ 14 (aq 14))
  | 16,_=>qi [120,49] (hw:=aJ 14 (aq 14))
  | 17,_=>qi [120] (hw:=aJ 14 (aq 14))
  | 18,_=>ma hL _ _ 246 247 (aq 16) (aq 17) (hw:=aJ 14 (aq 14))
  | 19,_=>Ad [80] [ap [120,49],ap [120]] 248 (aq 18) (hw:=aJ 14 (aq 14))
  | 20,_=>iW hL _ 249 (aq 19) (hw:=aJ 14 (aq 14))
  | 21,_=>l9 9 [120,49] [eo [80] [ap [120,49],ap [120]]] 250 (aq 20) (hw:=aJ 14 (aq 14))
  | 22,_=>tZ (BC) (Fm.mk 9 [120,49] [] [eo [80] [ap [120,49],ap [120]]]) ⟨by decide,by decide⟩ 245 251 (aq 15) (aq 21) (hw:=aJ 14 (aq 14)) (hp:=(qQ zcZ))
  | 23,_=>ep rfl 244 252 (.bool true) (aq 14) (aq 22)
  | 24,_=>aF _ 253 (aq 23)
  | 25,_=>iY _ _ 17 EU.drew.box (fun h=>h) (EU.drew.at bW) (old EU.drew.slot) (hw:=aJ 24 (aq 24))
  | 26,_=>qi [120] (hw:=aJ 24 (aq 24))
  | 27,_=>qi [120] (hw:=aJ 24 (aq 24))
  | 28,_=>ma hL _ _ 256 257 (aq 26) (aq 27) (hw:=aJ 24 (aq 24))
  | 29,_=>Ad [80] [ap [120],ap [120]] 258 (aq 28) (hw:=aJ 24 (aq 24))
  | 30,_=>tZ (BD) (eo [80] [ap [120],ap [120]]) ⟨by decide,by decide⟩ 255 259 (aq 25) (aq 29) (hw:=aJ 24 (aq 24)) (hp:=(qQ zc0))
  | 31,_=>ep rfl 254 260 (.bool true) (aq 24) (aq 30)
  | 32,_=>aF _ 261 (aq 31)
  | 33,_=>aF _ 20 (old zdf) (hw:=aJ 32 (aq 32))
  | 34,_=>cr rfl 263 (.bool true) (aq 33) (hw:=aJ 32 (aq 32))
  | 35,_=>ep rfl 262 264 (.bool true) (aq 32) (aq 34)
  | 36,_=>aF _ 265 (aq 35)
  | 37,_=>dq _ _ 14 ES.drew.box (fun h=>h) (ES.drew.at bW) (old ES.drew.slot) (hw:=aJ 36 (aq 36))
  | 38,_=>PD _ t4 267 hT kx (aq 37) (hw:=aJ 36 (aq 36)) (hp:=(qQ aw9))
  | 39,_=>ep rfl 266 268 (.bool true) (aq 36) (aq 38)
  | 40,_=>bY _ 269 (aq 39)
  | k+41,hk=>absurd hk (by simp)
 have za3:=h.sz.trans ER;have Xy:=h.df.trans Mz;have Xz:Below w.heap.size w W23:=aD G9.drew h.inv.1 (fun _ h=>h.elim);have eA:b2<W23.heap.size:=bE eA h.inv.1.size;have jy:b4<W23.heap.size:=bE jy h.inv.1.size;obtain ⟨vc,tc,fc⟩:=h.get 40 _ 0 rfl rfl;obtain rfl:vc=.bool true:=fc;refine hK _ _ ?_;refine wpIn_ret ?_;refine bJ (v:=.bool true) (by simp[results,Tryz.results12,go_sem,tc]) Xy ⟨rfl,Xz⟩
end
mutual
def Ui:Tm->Nat | .mk _ n a=>1+n.length / 40+uf a
def uf:List Tm->Nat | []=>0 | t :: l=>Ui t+uf l
end
mutual
def QR:Fm->Nat | .mk _ n a s=>1+n.length / 40+uf a+ug s
def ug:List Fm->Nat | []=>0 | t :: l=>QR t+ug l
end
mutual
theorem XA (p:Nat):∀ t,jw p t=true->Ui t<=nodesT t * (1+p / 40)
 | .mk v n a,h=>by
  simp only[jw,ah,bx]at h;have h1:=xW p a h.2;have h2:n.length / 40<=p / 40:=Nat.div_le_div_right h.1;have e:(nodesTs a+1) * (1+p / 40)=nodesTs a * (1+p / 40)+(1+p / 40):=by rw[Nat.add_mul,Nat.one_mul]
  unfold Ui nodesT;omega
theorem xW (p:Nat):∀ l,nmTs p l=true->uf l<=nodesTs l * (1+p / 40)
 | [],_=>by simp[uf]
 | t :: l,h=>by
  simp only[nmTs,ah]at h;have h1:=XA p t h.1;have h2:=xW p l h.2;have e:(nodesT t+nodesTs l) * (1+p / 40)=nodesT t * (1+p / 40)+nodesTs l * (1+p / 40):=Nat.add_mul _ _ _;unfold uf nodesTs;omega
end
mutual
theorem Qc (p:Nat):∀ t,kJ p t=true->QR t<=nodesF t * (1+p / 40)
 | .mk o n a s,h=>by
  simp only[kJ,ah,bx]at h;have h1:=xW p a h.2.2.1;have h3:=EV p s h.2.2.2;have h2:n.length / 40<=p / 40:=Nat.div_le_div_right h.2.1;have e:(nodesTs a+nodesFs s+1) * (1+p / 40)=nodesTs a * (1+p / 40)+nodesFs s * (1+p / 40)+(1+p / 40):=by rw[Nat.add_mul,Nat.add_mul,Nat.one_mul]
  unfold QR nodesF;omega
theorem EV (p:Nat):∀ l,nmFs p l=true->ug l<=nodesFs l * (1+p / 40)
 | [],_=>by simp[ug]
 | t :: l,h=>by
  simp only[nmFs,ah]at h;have h1:=Qc p t h.1;have h2:=EV p l h.2;have e:(nodesF t+nodesFs l) * (1+p / 40)=nodesF t * (1+p / 40)+nodesFs l * (1+p / 40):=Nat.add_mul _ _ _;unfold ug nodesFs;omega
end
theorem fitTs.sz {l:List Tm} (h:fitTs l):uf l<=100002000000:=aN (xW _ l h.2) (by have:=h.1;omega)
theorem fitFs.sz {l:List Fm} (h:fitFs l):ug l<=100002000000:=aN (EV _ l h.2) (by have:=h.1;omega)
theorem fitF.sz {f:Fm} (h:fitF f):QR f<=100002000000:=aN (Qc _ f h.2) (by have:=h.1;omega)
mutual
def JM:Tm->Int->Nat | .mk _ n a,left=>1+n.length / 40+iZ a left 0
def iZ:List Tm->Int->Nat->Nat
 | [],_,n=>n
 | t :: r,left,n=>if (n:Int)<=left then iZ r left (n+JM t (left - n)) else n
end
mutual
def Al:Fm->Int->Nat | .mk _ n a s,left=>eE s left (1+n.length / 40+iZ a left 0)
def eE:List Fm->Int->Nat->Nat
 | [],_,n=>n
 | t :: r,left,n=>if (n:Int)<=left then eE r left (n+Al t (left - n)) else n
end
theorem JN (l:List Tm) (h:¬(n:Int)<=left):iZ l left n=n:=by
 cases l <;> simp[iZ,h]
theorem wR (l:List Fm) (h:¬(n:Int)<=left):eE l left n=n:=by
 cases l <;> simp[eE,h]
mutual
theorem SB:∀ (t:Tm) (left:Int),JM t left<=Ui t/\((JM t left:Int)<=left->JM t left=Ui t)
 | .mk v n a,left=>by
  have h:=mc a left 0;unfold JM Ui;constructor
  ·omega
  ·intro h2;have:=h.2.2 (by omega);omega
theorem mc:∀ (l:List Tm) (left:Int) (n:Nat),n<=iZ l left n/\iZ l left n<=n+uf l/\((iZ l left n:Int)<=left->iZ l left n=n+uf l)
 | [],left,n=>by simp[iZ,uf]
 | t :: r,left,n=>by
  unfold iZ uf
  by_cases hn:(n:Int)<=left
  ·rw[aH hn];have h1:=SB t (left - n);have h2:=mc r left (n+JM t (left - n));refine ⟨by omega,by omega,fun h=>?_⟩;have h3:=h2.2.2 h;have h4:=h1.2 (by omega);omega
  ·rw[aw hn];exact ⟨aI _,by omega,fun h=>absurd h hn⟩
end
mutual
theorem SC:∀ (t:Fm) (left:Int),Al t left<=QR t/\((Al t left:Int)<=left->Al t left=QR t)
 | .mk o n a s,left=>by
  have h:=mc a left 0;have h1:=ks s left (1+n.length / 40+iZ a left 0);unfold Al QR;refine ⟨by omega,fun h2=>?_⟩;have h3:=h1.2.2 h2;have h4:=h.2.2 (by omega);omega
theorem ks:∀ (l:List Fm) (left:Int) (n:Nat),n<=eE l left n/\eE l left n<=n+ug l/\((eE l left n:Int)<=left->eE l left n=n+ug l)
 | [],left,n=>by simp[eE,ug]
 | t :: r,left,n=>by
  unfold eE ug
  by_cases hn:(n:Int)<=left
  ·rw[aH hn];have h1:=SC t (left - n);have h2:=ks r left (n+Al t (left - n));refine ⟨by omega,by omega,fun h=>?_⟩;have h3:=h2.2.2 h;have h4:=h1.2 (by omega);omega
  ·rw[aw hn];exact ⟨aI _,by omega,fun h=>absurd h hn⟩
end
def K8 (l:List Tm):Prop:=∀ (ok:Nat->Prop) (w:World) (a:Option Addr) (n c:Nat) (left:Int),fitTs l->TermsV ok w (.slice a n c) l->0<=left->left<=1000000000000 →
 Calls Tryz.prog 54 #[.slice a n c,.int .i64 left] w fun e w'=>e=.returned (.int .i64 (iZ l left 0))/\Below w.heap.size w w'
theorem Qd (n:Nat):Int.tdiv (n:Int) 40=((n / 40:Nat):Int):=by rw[Int.tdiv_eq_ediv_of_nonneg (by omega)];rfl
theorem G' (l:List Tm) (ih:∀ t∈l,K8 t.a):K8 l:=by
 intro ok w a n c left az hl h0 h1;obtain rfl:=hl.len;have cm:=az.len;have hsz:=az.sz;exact pm290
theorem MA:∀ t:Tm,K8 t.a:=by
 intro t
 induction t using Tm.ind with
 | h v n a ih=>exact G' a ih
theorem Qe (l:List Tm):K8 l:=G' l (fun t _=>MA t)
theorem Qf:∀ (f:Fm),fitF f->∀ (ok:Nat->Prop) (w:World) (q:FQ) (left:Int),FormV ok w q.val f->0<=left->left<=1000000000000 →
  Calls Tryz.prog 23 #[q.val,.int .i64 left] w fun e w'=>e=.returned (.int .i64 (Al f left))/\Below w.heap.size w w':=by
 intro t
 induction t using Fm.ind with
 | h o n a s ih=>
  intro az ok w q left hq h0 h1;exact pm21
def kV (l:List Fm):Bool:=decide (eE l 500 0<=500)
theorem wS {l:List Fm} (h:kV l=true):ug l<=500:=by
 unfold kV at h;have h1:=(ks l 500 0).2.2;simp only[bx]at h;have:=h1 (by omega);omega
theorem Dh (l:List Fm) (az:fitFs l) (ok:Nat->Prop) (w:World) (a:Option Addr) (n c:Nat) (hl:FormsV ok w (.slice a n c) l) :
  Calls Tryz.prog 22 #[.slice a n c] w fun e w'=>e=.returned (.bool (kV l))/\Below w.heap.size w w':=by
 obtain rfl:=hl.len;have cm:=az.len;have za4:=az.sz;obtain ⟨k0,cg⟩:=am l.length;rw[<-cg]at cm ⊢;obtain ⟨dB,HL,HF⟩:=cG cg hl az;clear cg hl az;go_enter Tryz.func22,Tryz.ntmps22;go_wp2;go_loopw [3,4] (fun r i wr=>∃k m:Nat,k<=k0/\i=.int .i64 k/\r=.int .i64 m/\Below w.heap.size w wr/\eE l 500 0=eE (l.drop k) 500 m/\m<=100002000000) (fun _ i _=>k0 - (intOf i).toNat)
 case atStart=>exact ⟨0,0,bc _,rfl,rfl,ak _ _,by simp,by omega⟩
 case round=>
  obtain ⟨k,m,hk,rfl,rfl,ar,hcut,AB⟩:=hrel
  by_cases hlt:k<k0
  ·by_cases uF:(m:Int)<=500
   ·have bp:=cF dB.o hlt;obtain ⟨b,off,u,rfl,_,hu,c0,c1,c2,c3⟩:=HL.o.get bp;have Uj:l.drop k=l[k] :: l.drop (k+1):=fO bp;rw[Uj]at hcut;obtain ⟨d0,d1,d2,d3⟩:=mG ar c0 c1 c2 c3;obtain ⟨M,hM⟩:=am (Al l[k] (500 - m));have CC:=Qf l[k] (HF.o.mem (aA bp)) ok wr u (500 - m) (hu.later ar) (by omega) (by omega);rw[<-hM]at CC;have rh:eE l 500 0=eE (l.drop (k+1)) 500 (m+M):=by
     rw[hcut];simp only[eE,aH uF];rw[hM]
    have Jf:m+M<=100002000000:=by
     have h5:=(ks l 500 0).2.1;have h6:=(ks (l.drop (k+1)) 500 (m+M)).1;omega
    exact pm95
   ·have Gx:decide ((m:Int)<=500)=false:=by simp;omega
    have E7:decide ((k:Int)<(k0:Int))=true:=by simp;omega
    have HE:=ae (show kV l=false by unfold kV;rw[hcut.trans (wR _ uF)];simp;omega);have SD:=ae ar;clear hcut ar;go_wp2;go_ret;exact ⟨aO HE.o.symm,SD.o⟩
  ·obtain rfl:k=k0:=by omega
   have hd:l.drop k=[]:=by rw[dB.o];exact List.drop_length
   rw[hd]at hcut;have HE:=ae (show kV l=decide ((m:Int)<=500) by have e:eE l 500 0=m:=hcut;unfold kV;rw[e,gy];simp;omega);have SD:=ae ar;clear hcut ar hd;go_wp2;go_ret;exact ⟨aO HE.o.symm,SD.o⟩
section
attribute [local go_sem] Oper.semAt_some
def zdh:Fact:=⟨fun _ _ _=>True,fun _ _ _ _ _ _ h=>h⟩
section
variable {ops:Array Oper} {Q:Exit->Act->World->Prop} {a0:Act} {l:List Fact} {kA kS k:Nat} {M:Nat->Prop} {w0:World} {md:Region.Mode} {L:Nat->Prop}
theorem MB {v:Value} (h:v≠.bool b):¬(match some v with | some (Value.bool b)=>some b | _=>none)=some b:=by
 intro e;split at e
 ·rename_i h1;cases h1;cases e;exact h rfl
 ·cases e
theorem MC {x:Value} (b:Bool) (hx:x≠.bool b) (j:Nat) (hd:Dep md ops a0 l kA kS M w0 k o d (fun v _ _=>v=x)) (ho:ops[k]?=some o:=by rfl) (hg:o.guard=some (j,b):=by rfl) (hj:ops[j]?=some oj:=by rfl) (Hg:oj.dst=some d:=by rfl) (hp:gN l k=(bn undef).p\/gN l k=zdh.p):de md ops Q a0 l kA kS M w0 k:=by
 exact pm179
theorem JO (b:Bool) (j:Nat) (hd:Dep md ops a0 l kA kS M w0 k o d (fun v _ _=>v=.bool (!b))) (ho:ops[k]?=some o:=by rfl) (hg:o.guard=some (j,b):=by rfl) (hj:ops[j]?=some oj:=by rfl) (Hg:oj.dst=some d:=by rfl) (hp:gN l k=(bn undef).p:=by rfl):de md ops Q a0 l kA kS M w0 k:=
 MC b (by cases b <;> simp) j hd ho hg hj Hg (.inl hp)
theorem Qh {Wb:World} (hT:Tabs Wb w0) (hM:∀ b,M b->Wb.heap.size<=b) {ic:Array TypeId} {ty:TypeId} {pos:String} {ce:Array Edge} {g:Option (Nat×Bool)}   (ho:ops[k]?=some ⟨some d,.call ⟨.value (.func 12),#[],ic⟩,ty,pos,ce,g⟩:=by rfl) (hw:Wt md ops a0 l kA kS M w0 k ⟨some d,.call ⟨.value (.func 12),#[],ic⟩,ty,pos,ce,g⟩:=by exact fun _ _ _ _=>rfl) (hp:gN l k=(bn (.bool true)).p:=by rfl):de md ops Q a0 l kA kS M w0 k:=
 dY hw ho rfl 12 (fun a γ w aU=>by
  refine ⟨#[],by go_simp,(Mw Wb w (hT.kp aU.inv.1 hM)).mono ?_⟩;rintro e w' ⟨rfl,hb⟩;exact ⟨⟨_,rfl,by rw[hp];rfl⟩,hb⟩)
