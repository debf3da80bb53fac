/-
'awake' of lyceumlaw07 holds.
-/
import Derived.Test.YtokemihbkeddoaaGreatDoorU18
namespace Go.Proofs.YtokemihbkeddoaaGreatDoor
open Go Go.RowKit Lib
set_option maxRecDepth 100000
set_option maxHeartbeats 64000000
section
attribute [local go_sem] Oper.semAt_some
abbrev X0:Nat->Prop:=fun _=>True
abbrev X1 (b:Nat):Nat->Prop:=fun c=>X0 c/\c≠b
abbrev X2 (b d:Nat):Nat->Prop:=fun c=>X1 b c/\c≠d
theorem rS {b:Bool} (h:b=true):(cA (.bool true)).p=fun v _ _=>v=.bool b:=by subst h;rfl
theorem mo:BdFit ⟨[],[]⟩:=⟨by decide,by decide,(fun _ h=>by cases h),fun _ h=>by cases h⟩
theorem vS:BdFit Re:=⟨by decide,by decide,List.forall_mem_cons.2 ⟨⟨by decide,by decide,by decide⟩,fun _ h=>by cases h⟩,List.forall_mem_cons.2 ⟨⟨by decide,⟨by decide,by decide⟩,by decide⟩,fun _ h=>by cases h⟩⟩
theorem Ye:∀ x∈([(mA,sM),(mB,F4)]:List (Str×Fm)),fitF x.2:=List.forall_mem_cons.2 ⟨⟨by decide,by decide⟩,List.forall_mem_cons.2 ⟨⟨by decide,by decide⟩,fun _ h=>by cases h⟩⟩
theorem Yf:∀ x∈([(mA,nQ)]:List (Str×Fm)),fitF x.2:=List.forall_mem_cons.2 ⟨⟨by decide,by decide⟩,fun _ h=>by cases h⟩
theorem Yg:∀ x∈([(mT,mS)]:List (Str×Tm)),fitT x.2:=List.forall_mem_cons.2 ⟨⟨by decide,by decide⟩,fun _ h=>by cases h⟩
theorem F' {a b c d:Fm} (ha:fitF a:=by exact ⟨by decide,by decide⟩) (hb:fitF b:=by exact ⟨by decide,by decide⟩) (hc:fitF c:=by exact ⟨by decide,by decide⟩) (hd:fitF d:=by exact ⟨by decide,by decide⟩):∀ x∈[(a,b),(c,d)],fitF x.1/\fitF x.2:=List.forall_mem_cons.2 ⟨⟨ha,hb⟩,List.forall_mem_cons.2 ⟨⟨hc,hd⟩,fun _ h=>by cases h⟩⟩
theorem NZ (WB w:World) (lP:Tabs WB w):Calls Tryz.prog 12 #[] w fun e w'=>e=.returned (.bool true)/\Below w.heap.size w w':=by
 refine m4 Tryz.func12 ?_;refine (fun (A:Act) (hs:A.tmps.size=270) (hd:A.defers=[])=>?_:∀ A:Act,A.tmps.size=270->A.defers=[]->Code.wpIn Fence.wide 3 _ _ _ A w) _ rfl rfl;have iz:=fd;have HB:Below w.heap.size w w:=aj _ _;have hT:Tabs WB w:=lP.next (HB);have hL:∀ c,w.heap.size<=c->X0 c:=fun _ _=>trivial;have kT:∀ c,ct c->WB.heap.size<=c:=fun _ h=>h.elim;have dl:∀ c,X0 c->¬ct c:=fun _ _ h=>h;refine cZ (fun K hK=>?_);refine dn  [cA (.bool false)]
  1 1 hs (by kernel_rfl) (fun k hk=>?_) (fun A0 γ W0 h=>?_)
 ·exact match k,hk with
  | 0,_=>F5 rfl (.bool false) (fun _ _=>by go_simp)
  | k+1,hk=>absurd hk (by simp)
 have Jz:=h.sz.trans hs;have hd0:=h.df.trans hd;have S6:Below w.heap.size w W0:=aQ HB h.inv.1 (fun _ h=>h.elim);clear h;refine hK _ _ ?_;clear hT hL kT dl;have hT:Tabs WB W0:=lP.next (S6);have hL:∀ c,W0.heap.size<=c->X0 c:=fun _ _=>trivial;have kT:∀ c,ct c->WB.heap.size<=c:=fun _ h=>h.elim;have dl:∀ c,X0 c->¬ct c:=fun _ _ h=>h;refine cZ (fun K hK=>?_);refine dn  [cm X0 (⟨[],[]⟩),
  oD #[.slice none 0 0,.slice none 0 0] 26,
  ln (cm X0 (⟨[],[]⟩)) 26]
  1 2 Jz (by kernel_rfl) (fun k hk=>?_) (fun A1 γ W1 h=>?_)
 ·exact match k,hk with
  | 0,_=>Mg
  | 1,_=>oE rfl
  | 2,_=>oF _ 1 21 rfl (aF 1) (aF 0)
  | k+3,hk=>absurd hk (by simp)
 have gY:=h.sz.trans Jz;have Yh:=h.df.trans hd0;have ec:Below w.heap.size w W1:=aQ S6 h.inv.1 (fun _ h=>h.elim);obtain ⟨vz,tz,fz⟩:=h.get 1 _ 1 rfl rfl;obtain ⟨b1,q1,lz,OR⟩:=B9 tz fz (h.did 2 _ rfl rfl) h.inv;have yR:w.heap.size<=b1:=by have h1:W0.heap.size<=b1:=OR;have h2:=S6.size;omega
 have IU:LB X0 A1 W1 1 b1 q1 _:=lz.next rfl (Kp.refl (M:=ct) _) (fun h=>h) (fun _ _ h=>h) (fun _ h _=>h.1);clear h;refine hK _ _ ?_;clear hT hL kT dl;have hT:Tabs WB W1.drew:=lP.next (ec.drew);have hL:∀ c,W1.drew.heap.size<=c->X0 c:=fun _ _=>trivial;have kT:∀ c,ct c->WB.heap.size<=c:=fun _ h=>h.elim;have dl:∀ c,X0 c->¬ct c:=fun _ _ h=>h;refine cZ (fun K hK=>?_);refine g_  [bn X0 (kC [63,65]),
  bn X0 (kC [63,66]),
  jH X0 [kC [63,65],kC [63,66]],
  bn X0 (Fm.mk 6 [] [] [kC [63,65],kC [63,66]]),
  bn X0 (eB [80] []),
  bn X0 (eB [81] []),
  jH X0 [eB [80] [],eB [81] []],
  bn X0 (Fm.mk 4 [] [] [eB [80] [],eB [81] []]),
  bn X0 (eB [82] []),
  jH X0 [Fm.mk 4 [] [] [eB [80] [],eB [81] []],eB [82] []],
  bn X0 (Fm.mk 6 [] [] [Fm.mk 4 [] [] [eB [80] [],eB [81] []],eB [82] []]),
  cm X0 (⟨[],[]⟩),
  jh (cm X0 (⟨[(mA,sM),(mB,F4)],[]⟩)) [.int .i64 0],
  jh (cm X0 (⟨[(mA,sM),(mB,F4)],[]⟩)) [.int .i64 0],
  cm X0 (⟨[(mA,sM),(mB,F4)],[]⟩),
  cA (.int .i64 0),
  oD #[.slice none 0 0,.slice none 0 0] 26,
  ln (cm X0 (⟨[(mA,sM),(mB,F4)],[]⟩)) 26,
  cA (.int .i64 0)]
  16 17 gY (by kernel_rfl) (by kernel_rfl) (fun k hk=>?_) (fun A2 γ W2 h=>?_)
 ·exact match k,hk with
  | 0,_=>IR [63,65]
  | 1,_=>IR [63,66]
  | 2,_=>ru hL _ _ 23 24 (aF 0) (aF 1)
  | 3,_=>mU 6 [] [kC [63,65],kC [63,66]] 25 (aF 2)
  | 4,_=>Me [80]
  | 5,_=>Me [81]
  | 6,_=>ru hL _ _ 27 28 (aF 4) (aF 5)
  | 7,_=>mU 4 [] [eB [80] [],eB [81] []] 29 (aF 6)
  | 8,_=>Me [82]
  | 9,_=>ru hL _ _ 30 31 (aF 7) (aF 8)
  | 10,_=>mU 6 [] [Fm.mk 4 [] [] [eB [80] [],eB [81] []],eB [82] []] 32 (aF 9)
  | 11,_=>ef _ _ 1 IU.drew.box (fun h=>h) (IU.drew.at dl) (old IU.drew.slot)
  | 12,_=>IS _ _ _ _ _ _ aw1 ⟨by decide,by decide⟩ ⟨by decide,by decide⟩ mo 26 33 34 hT kT hL (aF 3) (aF 10) (aF 11)
  | 13,_=>bc _ 35 (aF 12)
  | 14,_=>iX _ _ 22 (aF 13)
  | 15,_=>iI (cm X0 (⟨[(mA,sM),(mB,F4)],[]⟩)) [.int .i64 0] 0 (.int .i64 0) rfl 22 (aF 13)
  | 16,_=>oE rfl
  | 17,_=>oF _ 2 36 rfl (aF 16) (aF 14)
  | 18,_=>dq _ 37 (aF 15)
  | k+19,hk=>absurd hk (by simp)
 have jP:=h.sz.trans gY;have Uf:=h.df.trans Yh;have cw:Below w.heap.size w W2:=aQ ec.drew h.inv.1 (fun _ h=>h.elim);obtain ⟨vz,tz,fz⟩:=h.get 16 _ 2 rfl rfl;obtain ⟨b2,q2,lz,Ul⟩:=B9 tz fz (h.did 17 _ rfl rfl) h.inv;have Vi:=IU.drew.next (L':=(X1 b2)) (h.old 1 (by kernel_rfl)) h.inv.1 (fun h=>h) dl (fun c h hlt=>⟨h,fun e=>by have:W1.heap.size<=b2:=Ul;have hlt:c<W1.heap.size:=hlt;omega⟩);have zbc:b2≠b1:=by have:=(bz IU.drew.box);have h:W1.heap.size<=b2:=Ul;have h2:b1<W1.heap.size:=this;omega
 have Vj:b1≠b2:=fun e=>zbc e.symm;have Oi:w.heap.size<=b2:=by have h1:W1.heap.size<=b2:=Ul;have h2:=ec.size;omega
 have B_:LB (X1 b2) A2 W2 2 b2 q2 _:=lz;have eJ:=(bz B_.box);obtain ⟨Yi,rx,Yj⟩:=h.get 18 _ 3 rfl rfl;obtain rfl:Yi=.int .i64 0:=Yj;clear h;refine hK _ _ ?_;clear hT hL kT dl;have hT:Tabs WB W2:=lP.next (cw);have hL:∀ c,W2.heap.size<=c->(X1 b2) c:=fun c hc=>⟨trivial,fun e=>by have:=(bz B_.box);have h:W2.heap.size<=c:=hc;omega⟩
 have kT:∀ c,ct c->WB.heap.size<=c:=fun _ h=>h.elim;have dl:∀ c,(X1 b2) c->¬ct c:=fun _ _ h=>h;refine cZ (fun K hK=>?_);refine dn  [cm (X1 b2) (⟨[(mA,sM),(mB,F4)],[]⟩),
  jh (bn (X1 b2) (F4)) [.bool true],
  jh (bn (X1 b2) (F4)) [.bool true],
  bn (X1 b2) (F4),
  cA (.bool true),
  oD #[.int .u8 0,.string ⟨#[]⟩,.slice none 0 0,.slice none 0 0] 36,
  ln (bn (X1 b2) (F4)) 36,
  cA (.bool true)]
  5 6 jP (by kernel_rfl) (fun k hk=>?_) (fun A3 γ W3 h=>?_)
 ·exact match k,hk with
  | 0,_=>ef _ _ 2 B_.box (fun h=>h) (B_.at dl) (old B_.slot)
  | 1,_=>Mf (⟨[(mA,sM),(mB,F4)],[]⟩) [63,66] (by decide) Ye 39 hL (aF 0)
  | 2,_=>bc _ 40 (aF 1)
  | 3,_=>iX _ _ 38 (aF 2)
  | 4,_=>iI (bn (X1 b2) (F4)) [.bool true] 0 (.bool true) rfl 38 (aF 2)
  | 5,_=>jX rfl
  | 6,_=>jY _ 4 41 rfl (aF 5) (aF 3)
  | 7,_=>dq _ 42 (aF 4)
  | k+8,hk=>absurd hk (by simp)
 have wh:=h.sz.trans jP;have Sf:=h.df.trans Uf;have bD:Below w.heap.size w W3:=aQ cw h.inv.1 (fun _ h=>h.elim);obtain ⟨vz,tz,fz⟩:=h.get 5 _ 4 rfl rfl;obtain ⟨b4,q4,lz,wg⟩:=rv tz fz (h.did 6 _ rfl rfl) h.inv;have zbd:=Vi.next (L':=(X2 b2 b4)) (h.old 1 (by kernel_rfl)) h.inv.1 (fun h=>h) dl (fun c h hlt=>⟨h,fun e=>by have:W2.heap.size<=b4:=wg;have hlt:c<W2.heap.size:=hlt;omega⟩);have IV:=B_.next (L':=(X2 b2 b4)) (h.old 2 (by kernel_rfl)) h.inv.1 (fun h=>h) dl (fun c h hlt=>⟨h,fun e=>by have:W2.heap.size<=b4:=wg;have hlt:c<W2.heap.size:=hlt;omega⟩);have zbe:b4≠b1:=by have:=(bz Vi.box);have h:W2.heap.size<=b4:=wg;have h2:b1<W2.heap.size:=this;omega
 have zbf:b1≠b4:=fun e=>zbe e.symm;have Vk:b4≠b2:=by have:=(bz B_.box);have h:W2.heap.size<=b4:=wg;have h2:b2<W2.heap.size:=this;omega
 have zbg:b2≠b4:=fun e=>Vk e.symm;have U0:w.heap.size<=b4:=by have h1:W2.heap.size<=b4:=wg;have h2:=cw.size;omega
 have IW:LF (X2 b2 b4) A3 W3 4 b4 q4 _:=lz;have eJ:=(bz IV.box);have j8:=(bz IW.box);have rx:=h.ol 3 rx;obtain ⟨vz5,tz5,fz5⟩:=h.get 7 _ 5 rfl rfl;obtain rfl:vz5=.bool true:=fz5;clear h;refine hK _ _ ?_;clear hT hL kT dl;have sr:q2.l=2:=by
  obtain ⟨⟨fa,fc,_,he,_⟩,_⟩:=IV.val;injection he
 have hT:Tabs WB W3.drew:=lP.next (bD.drew);have hL:∀ c,W3.drew.heap.size<=c->(X2 b2 b4) c:=fun c hc=>by have h:W3.heap.size<=c:=hc;exact ⟨⟨trivial,by omega⟩,by omega⟩
 have kT:∀ c,ct c->WB.heap.size<=c:=fun _ h=>h.elim;have dl:∀ c,(X2 b2 b4) c->¬ct c:=fun _ _ h=>h;refine cZ (fun K hK=>?_);refine cZ (fun K2 hK2=>?_);refine g_  [cA (.int .i64 0),
  cA (.bool false),
  cA (.bool false),
  cA (.bool true),
  cA (.bool false),
  cA (.bool false),
  cA (.bool false),
  bn (X2 b2 b4) (F4),
  bn (X2 b2 b4) (eB [82] []),
  cA (.bool true),
  cA (.bool false),
  cA (.bool false),
  cA (.bool false),
  cA (.pointer (some ⟨b2,0,none⟩)),
  cA (.slice q2.a 2 q2.c),
  cA (.int .i64 2),
  cA (.bool false),
  cA (.bool false)]
  18 18 wh (by kernel_rfl) (by kernel_rfl) (fun k hk=>?_) (fun A4 γ W4 h=>?_)
 ·exact match k,hk with
  | 0,_=>bc _ 3 (old rx)
  | 1,_=>et rfl 43 (.bool false) (aF 0)
  | 2,_=>bc _ 44 (aF 1)
  | 3,_=>bc _ 5 (old tz5) (hw:=ba 2 (aF 2))
  | 4,_=>et rfl 46 (.bool false) (aF 3) (hw:=ba 2 (aF 2))
  | 5,_=>iJ rfl 45 47 (.bool false) (aF 2) (aF 4)
  | 6,_=>bc _ 48 (aF 5)
  | 7,_=>jq _ _ 4 IW.drew.box (fun h=>h) (IW.drew.at dl) (old IW.drew.slot) (hw:=ba 6 (aF 6))
  | 8,_=>Me [82] (hw:=ba 6 (aF 6))
  | 9,_=>zK (F4) (eB [82] []) ⟨by decide,by decide⟩ 50 51 (aF 7) (aF 8) (hw:=ba 6 (aF 6)) (hp:=(rS zdn))
  | 10,_=>et rfl 52 (.bool false) (aF 9) (hw:=ba 6 (aF 6))
  | 11,_=>iJ rfl 49 53 (.bool false) (aF 6) (aF 10)
  | 12,_=>bc _ 54 (aF 11)
  | 13,_=>et rfl 2 (.pointer (some ⟨b2,0,none⟩)) (old IV.drew.slot) (hw:=ba 12 (aF 12))
  | 14,_=>ij (by exact ba 12 (aF 12)) rfl rfl (fun a γ wz bl=>by
   obtain ⟨v,e,rfl⟩:=bl.val 13 _ _ rfl rfl (by kernel_rfl);have e2:=bP e;have c:=bl.inv.1.cell (a:=⟨b2,0,none⟩) (fun h=>h) (ah IV.drew.box 0);rw[sr]at c;exact ⟨.slice q2.a 2 q2.c,by go_simp,rfl⟩)
  | 15,_=>et rfl 57 (.int .i64 2) (aF 14) (hw:=ba 12 (aF 12))
  | 16,_=>et rfl 58 (.bool false) (aF 15) (hw:=ba 12 (aF 12))
  | 17,_=>iJ rfl 55 59 (.bool false) (aF 12) (aF 16)
  | k+18,hk=>absurd hk (by simp)
 have Fg:=h.sz.trans wh;have Sg:=h.df.trans Sf;have ei:Below w.heap.size w W4:=aQ bD.drew h.inv.1 (fun _ h=>h.elim);have Vl:=zbd.drew.nx (h.od 1) h.inv.1 dl;have Rm:=IV.drew.nx (h.od 2) h.inv.1 dl;have Rn:=IW.drew.nx (h.od 4) h.inv.1 dl;have eJ:=(bz Rm.box);have j8:=(bz Rn.box);have rx:=h.ol 3 rx;obtain ⟨vc,tc,fc⟩:=h.get 17 _ 60 rfl rfl;obtain rfl:vc=.bool false:=fc;clear h;refine hK2 _ _ ?_;refine wpIn_cond_false (bP tc) (wpIn_skip ?_);refine hK _ _ ?_;clear hT hL kT dl;have hT:Tabs WB W4:=lP.next (ei);have hL:∀ c,W4.heap.size<=c->(X2 b2 b4) c:=fun c hc=>by have h:W4.heap.size<=c:=hc;exact ⟨⟨trivial,by omega⟩,by omega⟩
 have kT:∀ c,ct c->WB.heap.size<=c:=fun _ h=>h.elim;have dl:∀ c,(X2 b2 b4) c->¬ct c:=fun _ _ h=>h;refine cZ (fun K hK=>?_);refine dn  [bn (X2 b2 b4) (kC [63,65]),
  jH (X2 b2 b4) [kC [63,65]],
  bn (X2 b2 b4) (Fm.mk 8 [120] [] [kC [63,65]]),
  oD #[.int .u8 0,.string ⟨#[]⟩,.slice none 0 0,.slice none 0 0] 36,
  ln (bn (X2 b2 b4) (Fm.mk 8 [120] [] [kC [63,65]])) 36]
  3 4 Fg (by kernel_rfl) (fun k hk=>?_) (fun A6 γ W6 h=>?_)
 ·exact match k,hk with
  | 0,_=>IR [63,65]
  | 1,_=>jp hL _ 61 (aF 0)
  | 2,_=>mU 8 [120] [kC [63,65]] 62 (aF 1)
  | 3,_=>jX rfl
  | 4,_=>jY _ 6 63 rfl (aF 3) (aF 2)
  | k+5,hk=>absurd hk (by simp)
 have Jc:=h.sz.trans Fg;have hd6:=h.df.trans Sg;have PH:Below w.heap.size w W6:=aQ ei h.inv.1 (fun _ h=>h.elim);obtain ⟨vz,tz,fz⟩:=h.get 3 _ 6 rfl rfl;obtain ⟨b6,q6,lz,hg6⟩:=rv tz fz (h.did 4 _ rfl rfl) h.inv;have Vm:=Vl.nx (h.od 1) h.inv.1 dl;have Ro:=Rm.nx (h.od 2) h.inv.1 dl;have Rp:=Rn.nx (h.od 4) h.inv.1 dl;have zbh:b6≠b1:=by have:=(bz Vl.box);have h:W4.heap.size<=b6:=hg6;have h2:b1<W4.heap.size:=this;omega
 have zd4:b1≠b6:=fun e=>zbh e.symm;have Rq:b6≠b2:=by have:=(bz Rm.box);have h:W4.heap.size<=b6:=hg6;have h2:b2<W4.heap.size:=this;omega
 have zd5:b2≠b6:=fun e=>Rq e.symm;have Vn:b6≠b4:=by have:=(bz Rn.box);have h:W4.heap.size<=b6:=hg6;have h2:b4<W4.heap.size:=this;omega
 have zd6:b4≠b6:=fun e=>Vn e.symm;have hw6:w.heap.size<=b6:=by have h1:W4.heap.size<=b6:=hg6;have h2:=ei.size;omega
 have Vo:LF (X2 b2 b4) A6 W6 6 b6 q6 _:=lz.next rfl (Kp.refl (M:=ct) _) (fun h=>h) (fun _ _ h=>h) (fun _ h _=>h.1);have eJ:=(bz Ro.box);have j8:=(bz Rp.box);have rx:=h.ol 3 rx;clear h;refine hK _ _ ?_;clear hT hL kT dl;have hT:Tabs WB W6:=lP.next (PH);have hL:∀ c,W6.heap.size<=c->(X2 b2 b4) c:=fun c hc=>by have h:W6.heap.size<=c:=hc;exact ⟨⟨trivial,by omega⟩,by omega⟩
 have kT:∀ c,ct c->WB.heap.size<=c:=fun _ h=>h.elim;have dl:∀ c,(X2 b2 b4) c->¬ct c:=fun _ _ h=>h;refine cZ (fun K hK=>?_);refine dn  [e8 (X2 b2 b4) (ao [121]),
  e8 (X2 b2 b4) (ao [122]),
  jI (X2 b2 b4) [ao [121],ao [122]],
  bn (X2 b2 b4) (eB [82] [ao [121],ao [122]]),
  jH (X2 b2 b4) [eB [82] [ao [121],ao [122]]],
  bn (X2 b2 b4) (Fm.mk 9 [122] [] [eB [82] [ao [121],ao [122]]]),
  jH (X2 b2 b4) [Fm.mk 9 [122] [] [eB [82] [ao [121],ao [122]]]],
  bn (X2 b2 b4) (Fm.mk 8 [121] [] [Fm.mk 9 [122] [] [eB [82] [ao [121],ao [122]]]]),
  oD #[.int .u8 0,.string ⟨#[]⟩,.slice none 0 0,.slice none 0 0] 36,
  ln (bn (X2 b2 b4) (Fm.mk 8 [121] [] [Fm.mk 9 [122] [] [eB [82] [ao [121],ao [122]]]])) 36]
  8 9 Jc (by kernel_rfl) (fun k hk=>?_) (fun A7 γ W7 h=>?_)
 ·exact match k,hk with
  | 0,_=>rt [121]
  | 1,_=>rt [122]
  | 2,_=>mV hL _ _ 64 65 (aF 0) (aF 1)
  | 3,_=>B4 [82] [ao [121],ao [122]] 66 (aF 2)
  | 4,_=>jp hL _ 67 (aF 3)
  | 5,_=>mU 9 [122] [eB [82] [ao [121],ao [122]]] 68 (aF 4)
  | 6,_=>jp hL _ 69 (aF 5)
  | 7,_=>mU 8 [121] [Fm.mk 9 [122] [] [eB [82] [ao [121],ao [122]]]] 70 (aF 6)
  | 8,_=>jX rfl
  | 9,_=>jY _ 7 71 rfl (aF 8) (aF 7)
  | k+10,hk=>absurd hk (by simp)
 have hs7:=h.sz.trans Jc;have hd7:=h.df.trans hd6;have HB7:Below w.heap.size w W7:=aQ PH h.inv.1 (fun _ h=>h.elim);obtain ⟨vz,tz,fz⟩:=h.get 8 _ 7 rfl rfl;obtain ⟨b7,q7,lz,hg7⟩:=rv tz fz (h.did 9 _ rfl rfl) h.inv;have Mi:=Vm.nx (h.od 1) h.inv.1 dl;have IX:=Ro.nx (h.od 2) h.inv.1 dl;have Vp:=Rp.nx (h.od 4) h.inv.1 dl;have Mj:=Vo.nx (h.od 6) h.inv.1 dl;have zbi:b7≠b1:=by have:=(bz Vm.box);have h:W6.heap.size<=b7:=hg7;have h2:b1<W6.heap.size:=this;omega
 have zd7:b1≠b7:=fun e=>zbi e.symm;have Rr:b7≠b2:=by have:=(bz Ro.box);have h:W6.heap.size<=b7:=hg7;have h2:b2<W6.heap.size:=this;omega
 have zd8:b2≠b7:=fun e=>Rr e.symm;have Vq:b7≠b4:=by have:=(bz Rp.box);have h:W6.heap.size<=b7:=hg7;have h2:b4<W6.heap.size:=this;omega
 have zd9:b4≠b7:=fun e=>Vq e.symm;have zbj:b7≠b6:=by have:=(bz Vo.box);have h:W6.heap.size<=b7:=hg7;have h2:b6<W6.heap.size:=this;omega
 have zea:b6≠b7:=fun e=>zbj e.symm;have hw7:w.heap.size<=b7:=by have h1:W6.heap.size<=b7:=hg7;have h2:=PH.size;omega
 have Mk:LF (X2 b2 b4) A7 W7 7 b7 q7 _:=lz.next rfl (Kp.refl (M:=ct) _) (fun h=>h) (fun _ _ h=>h) (fun _ h _=>h.1);have eJ:=(bz IX.box);have j8:=(bz Vp.box);have rx:=h.ol 3 rx;clear h;refine hK _ _ ?_;clear hT hL kT dl;have hT:Tabs WB W7.drew:=lP.next (HB7.drew);have hL:∀ c,W7.drew.heap.size<=c->(X2 b2 b4) c:=fun c hc=>by have h:W7.heap.size<=c:=hc;exact ⟨⟨trivial,by omega⟩,by omega⟩
 have kT:∀ c,B8 b2 c->WB.heap.size<=c:=fun c h=>by have h:c=b2:=h;subst h;have:=lP.size;omega
 have dl:∀ c,(X2 b2 b4) c->¬B8 b2 c:=fun c h e=>h.1.2 e;refine cZ (fun K hK=>?_);refine F7 (bz IX.box) [bn (X2 b2 b4) (Fm.mk 8 [120] [] [kC [63,65]]),
  bn (X2 b2 b4) (Fm.mk 8 [121] [] [Fm.mk 9 [122] [] [eB [82] [ao [121],ao [122]]]]),
  EE (X2 b2 b4) (Fm.mk 8 [120] [] [kC [63,65]]) (Fm.mk 8 [121] [] [Fm.mk 9 [122] [] [eB [82] [ao [121],ao [122]]]]),
  bn (X2 b2 b4) (Dy [63,65] [120] [63,116]),
  e8 (X2 b2 b4) (cT [97] []),
  jI (X2 b2 b4) [cT [97] []],
  e8 (X2 b2 b4) (cT [102] [cT [97] []]),
  e8 (X2 b2 b4) (ao [122]),
  jI (X2 b2 b4) [cT [102] [cT [97] []],ao [122]],
  bn (X2 b2 b4) (eB [82] [cT [102] [cT [97] []],ao [122]]),
  jH (X2 b2 b4) [eB [82] [cT [102] [cT [97] []],ao [122]]],
  bn (X2 b2 b4) (Fm.mk 9 [122] [] [eB [82] [cT [102] [cT [97] []],ao [122]]]),
  EE (X2 b2 b4) (Dy [63,65] [120] [63,116]) (Fm.mk 9 [122] [] [eB [82] [cT [102] [cT [97] []],ao [122]]]),
  tS (X2 b2 b4) [(Fm.mk 8 [120] [] [kC [63,65]],Fm.mk 8 [121] [] [Fm.mk 9 [122] [] [eB [82] [ao [121],ao [122]]]]),(Dy [63,65] [120] [63,116],Fm.mk 9 [122] [] [eB [82] [cT [102] [cT [97] []],ao [122]]])],
  cm (X2 b2 b4) (⟨[],[]⟩),
  jh (cm (X2 b2 b4) (⟨[(mA,nQ)],[(mT,mS)]⟩)) [.int .i64 0,.int .i64 0],
  jh (cm (X2 b2 b4) (⟨[(mA,nQ)],[(mT,mS)]⟩)) [.int .i64 0,.int .i64 0],
  cm (X2 b2 b4) (⟨[(mA,nQ)],[(mT,mS)]⟩),
  cA (.int .i64 0),
  cA (.int .i64 0),
  ln (cm (X2 b2 b4) (⟨[(mA,nQ)],[(mT,mS)]⟩)) 26,
  cA (.int .i64 0),
  cA (.int .i64 0)]
  20 hs7 (by kernel_rfl) (by kernel_rfl) (fun k hk=>?_) (fun A8 γ W8 h=>?_)
 ·exact match k,hk with
  | 0,_=>jq _ _ 6 Mj.drew.box (fun h=>Rq h) (Mj.drew.at dl) (old Mj.drew.slot)
  | 1,_=>jq _ _ 7 Mk.drew.box (fun h=>Rr h) (Mk.drew.at dl) (old Mk.drew.slot)
  | 2,_=>rR _ _ 73 74 (aF 0) (aF 1)
  | 3,_=>zJ [63,65] [120] [63,116] hL
  | 4,_=>Rf [97]
  | 5,_=>lp hL _ 77 (aF 4)
  | 6,_=>za8 [102] [cT [97] []] 78 (aF 5)
  | 7,_=>rt [122]
  | 8,_=>mV hL _ _ 79 80 (aF 6) (aF 7)
  | 9,_=>B4 [82] [cT [102] [cT [97] []],ao [122]] 81 (aF 8)
  | 10,_=>jp hL _ 82 (aF 9)
  | 11,_=>mU 9 [122] [eB [82] [cT [102] [cT [97] []],ao [122]]] 83 (aF 10)
  | 12,_=>rR _ _ 76 84 (aF 3) (aF 11)
  | 13,_=>B7 hL _ _ _ _ 75 85 (aF 2) (aF 12)
  | 14,_=>ef _ _ 1 Mi.drew.box (fun h=>Vj h) (Mi.drew.at dl) (old Mi.drew.slot)
  | 15,_=>pA _ _ _ _ _ aw2 (by decide) F' mo 86 87 hT kT hL (aF 13) (aF 14)
  | 16,_=>bc _ 88 (aF 15)
  | 17,_=>iX _ _ 72 (aF 16)
  | 18,_=>iI (cm (X2 b2 b4) (⟨[(mA,nQ)],[(mT,mS)]⟩)) [.int .i64 0,.int .i64 0] 0 (.int .i64 0) rfl 72 (aF 16)
  | 19,_=>iI (cm (X2 b2 b4) (⟨[(mA,nQ)],[(mT,mS)]⟩)) [.int .i64 0,.int .i64 0] 1 (.int .i64 0) rfl 72 (aF 16)
  | 20,_=>KS _ 2 89 rfl IX.drew.box rfl (old IX.drew.slot) (aF 17)
  | 21,_=>dq _ 90 (aF 18)
  | 22,_=>dq _ 91 (aF 19)
  | k+23,hk=>absurd hk (by simp)
 have Ve:=h.sz.trans hs7;have hd8:=h.df.trans hd7;have ZD:Below w.heap.size w W8:=aQ HB7.drew h.inv.1 (fun c h=>by have h:c=b2:=h;subst h;omega);have Vr:=Mi.drew.next (L':=(X2 b2 b4)) (h.old 1 (by kernel_rfl)) h.inv.1 (fun h=>Vj h) dl (fun _ h _=>h);obtain ⟨q2,EG⟩:=TL ((h.old 2 (by kernel_rfl)).trans IX.slot) (h.did 20 _ rfl rfl) h.inv;have Rs:=Vp.drew.next (L':=(X2 b2 b4)) (h.old 4 (by kernel_rfl)) h.inv.1 (fun h=>Vk h) dl (fun _ h _=>h);have Vs:=Mj.drew.next (L':=(X2 b2 b4)) (h.old 6 (by kernel_rfl)) h.inv.1 (fun h=>Rq h) dl (fun _ h _=>h);have Vt:=Mk.drew.next (L':=(X2 b2 b4)) (h.old 7 (by kernel_rfl)) h.inv.1 (fun h=>Rr h) dl (fun _ h _=>h);have eJ:=(bz EG.box);have j8:=(bz Rs.box);obtain ⟨Yi,rx,Yj⟩:=h.get 22 _ 3 rfl rfl;obtain rfl:Yi=.int .i64 0:=Yj;obtain ⟨vz8,zo,fz8⟩:=h.get 21 _ 8 rfl rfl;obtain rfl:vz8=.int .i64 0:=fz8;clear h;refine hK _ _ ?_;clear hT hL kT dl;have hT:Tabs WB W8:=lP.next (ZD);have hL:∀ c,W8.heap.size<=c->(X2 b2 b4) c:=fun c hc=>by have h:W8.heap.size<=c:=hc;exact ⟨⟨trivial,by omega⟩,by omega⟩
 have kT:∀ c,ct c->WB.heap.size<=c:=fun _ h=>h.elim;have dl:∀ c,(X2 b2 b4) c->¬ct c:=fun _ _ h=>h;refine cZ (fun K hK=>?_);refine dn  [cm (X2 b2 b4) (⟨[(mA,nQ)],[(mT,mS)]⟩),
  jh (e8 (X2 b2 b4) (mS)) [.bool true],
  jh (e8 (X2 b2 b4) (mS)) [.bool true],
  e8 (X2 b2 b4) (mS),
  cA (.bool true),
  oD #[.bool false,.string ⟨#[]⟩,.slice none 0 0] 43,
  ln (e8 (X2 b2 b4) (mS)) 43,
  cA (.bool true)]
  5 6 Ve (by kernel_rfl) (fun k hk=>?_) (fun A9 γ W9 h=>?_)
 ·exact match k,hk with
  | 0,_=>ef _ _ 2 EG.box (fun h=>h) (EG.at dl) (old EG.slot)
  | 1,_=>TI (⟨[(mA,nQ)],[(mT,mS)]⟩) [63,116] (by decide) Yg 93 hL (aF 0)
  | 2,_=>bc _ 94 (aF 1)
  | 3,_=>iX _ _ 92 (aF 2)
  | 4,_=>iI (e8 (X2 b2 b4) (mS)) [.bool true] 0 (.bool true) rfl 92 (aF 2)
  | 5,_=>NX rfl
  | 6,_=>NY _ 9 95 rfl (aF 5) (aF 3)
  | 7,_=>dq _ 96 (aF 4)
  | k+8,hk=>absurd hk (by simp)
 have Vu:=h.sz.trans Ve;have hd9:=h.df.trans hd8;have Vv:Below w.heap.size w W9:=aQ ZD h.inv.1 (fun _ h=>h.elim);obtain ⟨vz,tz,fz⟩:=h.get 5 _ 9 rfl rfl;obtain ⟨b9,q9,lz,Ja⟩:=Yd tz fz (h.did 6 _ rfl rfl) h.inv;have zbk:=Vr.nx (h.od 1) h.inv.1 dl;have Ml:=EG.nx (h.od 2) h.inv.1 dl;have IY:=Rs.nx (h.od 4) h.inv.1 dl;have zbl:=Vs.nx (h.od 6) h.inv.1 dl;have zbm:=Vt.nx (h.od 7) h.inv.1 dl;have zbn:b9≠b1:=by have:=(bz Vr.box);have h:W8.heap.size<=b9:=Ja;have h2:b1<W8.heap.size:=this;omega
 have zeb:b1≠b9:=fun e=>zbn e.symm;have zbo:b9≠b2:=by have:=(bz EG.box);have h:W8.heap.size<=b9:=Ja;have h2:b2<W8.heap.size:=this;omega
 have zec:b2≠b9:=fun e=>zbo e.symm;have Vw:b9≠b4:=by have:=(bz Rs.box);have h:W8.heap.size<=b9:=Ja;have h2:b4<W8.heap.size:=this;omega
 have zed:b4≠b9:=fun e=>Vw e.symm;have zbp:b9≠b6:=by have:=(bz Vs.box);have h:W8.heap.size<=b9:=Ja;have h2:b6<W8.heap.size:=this;omega
 have zee:b6≠b9:=fun e=>zbp e.symm;have zbq:b9≠b7:=by have:=(bz Vt.box);have h:W8.heap.size<=b9:=Ja;have h2:b7<W8.heap.size:=this;omega
 have zef:b7≠b9:=fun e=>zbq e.symm;have hw9:w.heap.size<=b9:=by have h1:W8.heap.size<=b9:=Ja;have h2:=ZD.size;omega
 have zbr:LT (X2 b2 b4) A9 W9 9 b9 q9 _:=lz.next rfl (Kp.refl (M:=ct) _) (fun h=>h) (fun _ _ h=>h) (fun _ h _=>h.1);have eJ:=(bz Ml.box);have j8:=(bz IY.box);have rx:=h.ol 3 rx;have zo:=h.ol 8 zo;obtain ⟨zds,Yk,zdt⟩:=h.get 7 _ 10 rfl rfl;obtain rfl:zds=.bool true:=zdt;clear h;refine hK _ _ ?_;clear hT hL kT dl;have hT:Tabs WB W9:=lP.next (Vv);have hL:∀ c,W9.heap.size<=c->(X2 b2 b4) c:=fun c hc=>by have h:W9.heap.size<=c:=hc;exact ⟨⟨trivial,by omega⟩,by omega⟩
 have kT:∀ c,B8 b4 c->WB.heap.size<=c:=fun c h=>by have h:c=b4:=h;subst h;have:=lP.size;omega
 have dl:∀ c,(X2 b2 b4) c->¬B8 b4 c:=fun c h e=>h.2 e;refine cZ (fun K hK=>?_);refine F8 (bz IY.box) [cm (X2 b2 b4) (⟨[(mA,nQ)],[(mT,mS)]⟩),
  jh (bn (X2 b2 b4) (nQ)) [.bool true],
  jh (bn (X2 b2 b4) (nQ)) [.bool true],
  bn (X2 b2 b4) (nQ),
  cA (.bool true),
  ln (bn (X2 b2 b4) (nQ)) 36]
  5 Vu (by kernel_rfl) (fun k hk=>?_) (fun A10 γ m_ h=>?_)
 ·exact match k,hk with
  | 0,_=>ef _ _ 2 Ml.box (fun h=>zbg h) (Ml.at dl) (old Ml.slot)
  | 1,_=>Mf (⟨[(mA,nQ)],[(mT,mS)]⟩) [63,65] (by decide) Yf 98 hL (aF 0)
  | 2,_=>bc _ 99 (aF 1)
  | 3,_=>iX _ _ 97 (aF 2)
  | 4,_=>iI (bn (X2 b2 b4) (nQ)) [.bool true] 0 (.bool true) rfl 97 (aF 2)
  | 5,_=>KR _ 4 100 rfl IY.box rfl (old IY.slot) (aF 3)
  | k+6,hk=>absurd hk (by simp)
 have TM:=h.sz.trans Vu;have Yl:=h.df.trans hd9;have TN:Below w.heap.size w m_:=aQ Vv h.inv.1 (fun c h=>by have h:c=b4:=h;subst h;omega);have Ym:=zbk.next (L':=(X2 b2 b4)) (h.old 1 (by kernel_rfl)) h.inv.1 (fun h=>zbf h) dl (fun _ h _=>h);obtain ⟨q4,F_⟩:=TK ((h.old 4 (by kernel_rfl)).trans IY.slot) (h.did 5 _ rfl rfl) h.inv;have Yn:=zbl.next (L':=(X2 b2 b4)) (h.old 6 (by kernel_rfl)) h.inv.1 (fun h=>Vn h) dl (fun _ h _=>h);have Yo:=zbm.next (L':=(X2 b2 b4)) (h.old 7 (by kernel_rfl)) h.inv.1 (fun h=>Vq h) dl (fun _ h _=>h);have KT:=zbr.next (L':=(X2 b2 b4)) (h.old 9 (by kernel_rfl)) h.inv.1 (fun h=>Vw h) dl (fun _ h _=>h);have j8:=(bz F_.box);have eJ:b2<m_.heap.size:=bH eJ h.inv.1.size;have rx:=h.ol 3 rx;have zo:=h.ol 8 zo;have Yk:=h.ol 10 Yk;clear h;refine hK _ _ ?_;clear hT hL kT dl;have hT:Tabs WB m_.drew:=lP.next (TN.drew);have hL:∀ c,m_.drew.heap.size<=c->(X2 b2 b4) c:=fun c hc=>by have h:m_.heap.size<=c:=hc;exact ⟨⟨trivial,by omega⟩,by omega⟩
 have kT:∀ c,ct c->WB.heap.size<=c:=fun _ h=>h.elim;have dl:∀ c,(X2 b2 b4) c->¬ct c:=fun _ _ h=>h;refine cZ (fun K hK=>?_);refine cZ (fun K2 hK2=>?_);refine g_  [cA (.int .i64 0),
  cA (.bool false),
  cA (.bool false),
  cA (.int .i64 0),
  cA (.bool false),
  cA (.bool false),
  cA (.bool false),
  cA (.bool true),
  cA (.bool false),
  cA (.bool false),
  cA (.bool false),
  e8 (X2 b2 b4) (mS),
  jI (X2 b2 b4) [mS],
  e8 (X2 b2 b4) (cT [97] []),
  jI (X2 b2 b4) [cT [97] []],
  e8 (X2 b2 b4) (cT [102] [cT [97] []]),
  jI (X2 b2 b4) [cT [102] [cT [97] []]],
  cA (.bool true),
  cA (.bool false),
  cA (.bool false),
  cA (.bool false),
  bn (X2 b2 b4) (nQ),
  e8 (X2 b2 b4) (ao [63,120]),
  e8 (X2 b2 b4) (ao [122]),
  jI (X2 b2 b4) [ao [63,120],ao [122]],
  bn (X2 b2 b4) (eB [82] [ao [63,120],ao [122]]),
  jH (X2 b2 b4) [eB [82] [ao [63,120],ao [122]]],
  bn (X2 b2 b4) (Fm.mk 9 [122] [] [eB [82] [ao [63,120],ao [122]]]),
  cA (.bool true),
  cA (.bool false),
  cA (.bool false)]
  31 31 TM (by kernel_rfl) (by kernel_rfl) (fun k hk=>?_) (fun A11 γ nN h=>?_)
 ·exact match k,hk with
  | 0,_=>bc _ 3 (old rx)
  | 1,_=>et rfl 102 (.bool false) (aF 0)
  | 2,_=>bc _ 103 (aF 1)
  | 3,_=>bc _ 8 (old zo) (hw:=ba 2 (aF 2))
  | 4,_=>et rfl 105 (.bool false) (aF 3) (hw:=ba 2 (aF 2))
  | 5,_=>iJ rfl 104 106 (.bool false) (aF 2) (aF 4)
  | 6,_=>bc _ 107 (aF 5)
  | 7,_=>bc _ 10 (old Yk) (hw:=ba 6 (aF 6))
  | 8,_=>et rfl 109 (.bool false) (aF 7) (hw:=ba 6 (aF 6))
  | 9,_=>iJ rfl 108 110 (.bool false) (aF 6) (aF 8)
  | 10,_=>bc _ 111 (aF 9)
  | 11,_=>Rj _ _ 9 KT.drew.box (fun h=>h) (KT.drew.at dl) (old KT.drew.slot) (hw:=ba 10 (aF 10))
  | 12,_=>lp hL _ 113 (aF 11) (hw:=ba 10 (aF 10))
  | 13,_=>Rf [97] (hw:=ba 10 (aF 10))
  | 14,_=>lp hL _ 115 (aF 13) (hw:=ba 10 (aF 10))
  | 15,_=>za8 [102] [cT [97] []] 116 (aF 14) (hw:=ba 10 (aF 10))
  | 16,_=>lp hL _ 117 (aF 15) (hw:=ba 10 (aF 10))
  | 17,_=>Rg ([mS]) ([cT [102] [cT [97] []]]) ⟨by decide,by decide⟩ 114 118 (aF 12) (aF 16) (hw:=ba 10 (aF 10)) (hp:=(rS zdp))
  | 18,_=>et rfl 119 (.bool false) (aF 17) (hw:=ba 10 (aF 10))
  | 19,_=>iJ rfl 112 120 (.bool false) (aF 10) (aF 18)
  | 20,_=>bc _ 121 (aF 19)
  | 21,_=>jq _ _ 4 F_.drew.box (fun h=>h) (F_.drew.at dl) (old F_.drew.slot) (hw:=ba 20 (aF 20))
  | 22,_=>rt [63,120] (hw:=ba 20 (aF 20))
  | 23,_=>rt [122] (hw:=ba 20 (aF 20))
  | 24,_=>mV hL _ _ 124 125 (aF 22) (aF 23) (hw:=ba 20 (aF 20))
  | 25,_=>B4 [82] [ao [63,120],ao [122]] 126 (aF 24) (hw:=ba 20 (aF 20))
  | 26,_=>jp hL _ 127 (aF 25) (hw:=ba 20 (aF 20))
  | 27,_=>mU 9 [122] [eB [82] [ao [63,120],ao [122]]] 128 (aF 26) (hw:=ba 20 (aF 20))
  | 28,_=>zK (nQ) (Fm.mk 9 [122] [] [eB [82] [ao [63,120],ao [122]]]) ⟨by decide,by decide⟩ 123 129 (aF 21) (aF 27) (hw:=ba 20 (aF 20)) (hp:=(rS zdo))
  | 29,_=>et rfl 130 (.bool false) (aF 28) (hw:=ba 20 (aF 20))
  | 30,_=>iJ rfl 122 131 (.bool false) (aF 20) (aF 29)
  | k+31,hk=>absurd hk (by simp)
 have KH:=h.sz.trans TM;have Yp:=h.df.trans Yl;have Rt:Below w.heap.size w nN:=aQ TN.drew h.inv.1 (fun _ h=>h.elim);have Ga:=Ym.drew.nx (h.od 1) h.inv.1 dl;have KU:=Yn.drew.nx (h.od 6) h.inv.1 dl;have KV:=Yo.drew.nx (h.od 7) h.inv.1 dl;have eJ:b2<nN.heap.size:=bH eJ h.inv.1.size;have j8:b4<nN.heap.size:=bH j8 h.inv.1.size;have rx:=h.ol 3 rx;have zo:=h.ol 8 zo;obtain ⟨vc,tc,fc⟩:=h.get 30 _ 132 rfl rfl;obtain rfl:vc=.bool false:=fc;clear h;refine hK2 _ _ ?_;refine wpIn_cond_false (bP tc) (wpIn_skip ?_);refine hK _ _ ?_;clear hT hL kT dl;have hT:Tabs WB nN.drew:=lP.next (Rt.drew);have hL:∀ c,nN.drew.heap.size<=c->(X2 b2 b4) c:=fun c hc=>by have h:nN.heap.size<=c:=hc;exact ⟨⟨trivial,by omega⟩,by omega⟩
 have kT:∀ c,ct c->WB.heap.size<=c:=fun _ h=>h.elim;have dl:∀ c,(X2 b2 b4) c->¬ct c:=fun _ _ h=>h;refine cZ (fun K hK=>?_);refine g_  [bn (X2 b2 b4) (Fm.mk 8 [120] [] [kC [63,65]]),
  bn (X2 b2 b4) (Fm.mk 8 [121] [] [Fm.mk 9 [122] [] [eB [82] [ao [121],ao [122]]]]),
  EE (X2 b2 b4) (Fm.mk 8 [120] [] [kC [63,65]]) (Fm.mk 8 [121] [] [Fm.mk 9 [122] [] [eB [82] [ao [121],ao [122]]]]),
  bn (X2 b2 b4) (Dy [63,65] [120] [63,116]),
  e8 (X2 b2 b4) (ao [122]),
  e8 (X2 b2 b4) (ao [122]),
  jI (X2 b2 b4) [ao [122],ao [122]],
  bn (X2 b2 b4) (eB [82] [ao [122],ao [122]]),
  jH (X2 b2 b4) [eB [82] [ao [122],ao [122]]],
  bn (X2 b2 b4) (Fm.mk 9 [122] [] [eB [82] [ao [122],ao [122]]]),
  EE (X2 b2 b4) (Dy [63,65] [120] [63,116]) (Fm.mk 9 [122] [] [eB [82] [ao [122],ao [122]]]),
  tS (X2 b2 b4) [(Fm.mk 8 [120] [] [kC [63,65]],Fm.mk 8 [121] [] [Fm.mk 9 [122] [] [eB [82] [ao [121],ao [122]]]]),(Dy [63,65] [120] [63,116],Fm.mk 9 [122] [] [eB [82] [ao [122],ao [122]]])],
  cm (X2 b2 b4) (⟨[],[]⟩),
  jh (cm (X2 b2 b4) (⟨[],[]⟩)) [.int .i64 1,.int .i64 70],
  jh (cm (X2 b2 b4) (⟨[],[]⟩)) [.int .i64 1,.int .i64 70],
  cm (X2 b2 b4) (⟨[],[]⟩),
  cA (.int .i64 1),
  cA (.int .i64 70),
  cA (.int .i64 1),
  cA (.int .i64 70)]
  20 20 KH (by kernel_rfl) (by kernel_rfl) (fun k hk=>?_) (fun A13 γ mL h=>?_)
 ·exact match k,hk with
  | 0,_=>jq _ _ 6 KU.drew.box (fun h=>h) (KU.drew.at dl) (old KU.drew.slot)
  | 1,_=>jq _ _ 7 KV.drew.box (fun h=>h) (KV.drew.at dl) (old KV.drew.slot)
  | 2,_=>rR _ _ 134 135 (aF 0) (aF 1)
  | 3,_=>zJ [63,65] [120] [63,116] hL
  | 4,_=>rt [122]
  | 5,_=>rt [122]
  | 6,_=>mV hL _ _ 138 139 (aF 4) (aF 5)
  | 7,_=>B4 [82] [ao [122],ao [122]] 140 (aF 6)
  | 8,_=>jp hL _ 141 (aF 7)
  | 9,_=>mU 9 [122] [eB [82] [ao [122],ao [122]]] 142 (aF 8)
  | 10,_=>rR _ _ 137 143 (aF 3) (aF 9)
  | 11,_=>B7 hL _ _ _ _ 136 144 (aF 2) (aF 10)
  | 12,_=>ef _ _ 1 Ga.drew.box (fun h=>h) (Ga.drew.at dl) (old Ga.drew.slot)
  | 13,_=>pA _ _ _ _ _ aw3 (by decide) F' mo 145 146 hT kT hL (aF 11) (aF 12)
  | 14,_=>bc _ 147 (aF 13)
  | 15,_=>iX _ _ 133 (aF 14)
  | 16,_=>iI (cm (X2 b2 b4) (⟨[],[]⟩)) [.int .i64 1,.int .i64 70] 0 (.int .i64 1) rfl 133 (aF 14)
  | 17,_=>iI (cm (X2 b2 b4) (⟨[],[]⟩)) [.int .i64 1,.int .i64 70] 1 (.int .i64 70) rfl 133 (aF 14)
  | 18,_=>dq _ 149 (aF 16)
  | 19,_=>dq _ 150 (aF 17)
  | k+20,hk=>absurd hk (by simp)
 have zbs:=h.sz.trans KH;have zdu:=h.df.trans Yp;have iH:Below w.heap.size w mL:=aQ Rt.drew h.inv.1 (fun _ h=>h.elim);have Ca:=Ga.drew.nx (h.od 1) h.inv.1 dl;have eJ:b2<mL.heap.size:=bH eJ h.inv.1.size;have j8:b4<mL.heap.size:=bH j8 h.inv.1.size;obtain ⟨Yi,rx,Yj⟩:=h.get 19 _ 3 rfl rfl;obtain rfl:Yi=.int .i64 70:=Yj;obtain ⟨vz8,zo,fz8⟩:=h.get 18 _ 8 rfl rfl;obtain rfl:vz8=.int .i64 1:=fz8;clear h;refine hK _ _ ?_;clear hT hL kT dl;have hT:Tabs WB mL.drew:=lP.next (iH.drew);have hL:∀ c,mL.drew.heap.size<=c->(X2 b2 b4) c:=fun c hc=>by have h:mL.heap.size<=c:=hc;exact ⟨⟨trivial,by omega⟩,by omega⟩
 have kT:∀ c,ct c->WB.heap.size<=c:=fun _ h=>h.elim;have dl:∀ c,(X2 b2 b4) c->¬ct c:=fun _ _ h=>h;refine cZ (fun K hK=>?_);refine g_  [bn (X2 b2 b4) (Dy [63,65] [120] [63,116]),
  e8 (X2 b2 b4) (cT [97] []),
  jI (X2 b2 b4) [cT [97] []],
  bn (X2 b2 b4) (eB [80] [cT [97] []]),
  cm (X2 b2 b4) (⟨[],[]⟩),
  jh (cm (X2 b2 b4) (⟨[],[]⟩)) [.int .i64 71],
  jh (cm (X2 b2 b4) (⟨[],[]⟩)) [.int .i64 71],
  cm (X2 b2 b4) (⟨[],[]⟩),
  cA (.int .i64 71),
  oD #[.slice none 0 0,.slice none 0 0] 26,
  ln (cm (X2 b2 b4) (⟨[],[]⟩)) 26,
  cA (.int .i64 71)]
  9 10 zbs (by kernel_rfl) (by kernel_rfl) (fun k hk=>?_) (fun A14 γ TO h=>?_)
 ·exact match k,hk with
  | 0,_=>zJ [63,65] [120] [63,116] hL
  | 1,_=>Rf [97]
  | 2,_=>lp hL _ 153 (aF 1)
  | 3,_=>B4 [80] [cT [97] []] 154 (aF 2)
  | 4,_=>ef _ _ 1 Ca.drew.box (fun h=>h) (Ca.drew.at dl) (old Ca.drew.slot)
  | 5,_=>IS _ _ _ _ _ _ aw4 ⟨by decide,by decide⟩ ⟨by decide,by decide⟩ mo 152 155 156 hT kT hL (aF 0) (aF 3) (aF 4)
  | 6,_=>bc _ 157 (aF 5)
  | 7,_=>iX _ _ 151 (aF 6)
  | 8,_=>iI (cm (X2 b2 b4) (⟨[],[]⟩)) [.int .i64 71] 0 (.int .i64 71) rfl 151 (aF 6)
  | 9,_=>oE rfl
  | 10,_=>oF _ 11 158 rfl (aF 9) (aF 7)
  | 11,_=>dq _ 159 (aF 8)
  | k+12,hk=>absurd hk (by simp)
 have Yq:=h.sz.trans zbs;have Yr:=h.df.trans zdu;have TP:Below w.heap.size w TO:=aQ iH.drew h.inv.1 (fun _ h=>h.elim);obtain ⟨vz,tz,fz⟩:=h.get 9 _ 11 rfl rfl;obtain ⟨ZE,q11,lz,zbt⟩:=B9 tz fz (h.did 10 _ rfl rfl) h.inv;have Ys:=Ca.drew.nx (h.od 1) h.inv.1 dl;have Yt:ZE≠b1:=by have:=(bz Ca.drew.box);have h:mL.heap.size<=ZE:=zbt;have h2:b1<mL.heap.size:=this;omega
 have zdv:b1≠ZE:=fun e=>Yt e.symm;have zeL:w.heap.size<=ZE:=by have h1:mL.heap.size<=ZE:=zbt;have h2:=iH.size;omega
 have zbV:LB (X2 b2 b4) A14 TO 11 ZE q11 _:=lz.next rfl (Kp.refl (M:=ct) _) (fun h=>h) (fun _ _ h=>h) (fun _ h _=>h.1);have eJ:b2<TO.heap.size:=bH eJ h.inv.1.size;have j8:b4<TO.heap.size:=bH j8 h.inv.1.size;have rx:=h.ol 3 rx;have zo:=h.ol 8 zo;obtain ⟨zdw,zdx,zdy⟩:=h.get 11 _ 12 rfl rfl;obtain rfl:zdw=.int .i64 71:=zdy;clear h;refine hK _ _ ?_;clear hT hL kT dl;have hT:Tabs WB TO:=lP.next (TP);have hL:∀ c,TO.heap.size<=c->(X2 b2 b4) c:=fun c hc=>by have h:TO.heap.size<=c:=hc;exact ⟨⟨trivial,by omega⟩,by omega⟩
 have kT:∀ c,ct c->WB.heap.size<=c:=fun _ h=>h.elim;have dl:∀ c,(X2 b2 b4) c->¬ct c:=fun _ _ h=>h;refine cZ (fun K hK=>?_);refine cZ (fun K2 hK2=>?_);refine dn  [cA (.int .i64 1),
  cA (.bool false),
  cA (.bool false),
  cA (.int .i64 70),
  cA (.bool false),
  cA (.bool false),
  cA (.bool false),
  cA (.int .i64 71),
  cA (.bool false),
  cA (.bool false)]
  10 10 Yq (by kernel_rfl) (fun k hk=>?_) (fun A15 γ TR h=>?_)
 ·exact match k,hk with
  | 0,_=>bc _ 8 (old zo)
  | 1,_=>et rfl 160 (.bool false) (aF 0)
  | 2,_=>bc _ 161 (aF 1)
  | 3,_=>bc _ 3 (old rx) (hw:=ba 2 (aF 2))
  | 4,_=>et rfl 163 (.bool false) (aF 3) (hw:=ba 2 (aF 2))
  | 5,_=>iJ rfl 162 164 (.bool false) (aF 2) (aF 4)
  | 6,_=>bc _ 165 (aF 5)
  | 7,_=>bc _ 12 (old zdx) (hw:=ba 6 (aF 6))
  | 8,_=>et rfl 167 (.bool false) (aF 7) (hw:=ba 6 (aF 6))
  | 9,_=>iJ rfl 166 168 (.bool false) (aF 6) (aF 8)
  | k+10,hk=>absurd hk (by simp)
 have zbu:=h.sz.trans Yq;have zdz:=h.df.trans Yr;have Yu:Below w.heap.size w TR:=aQ TP h.inv.1 (fun _ h=>h.elim);have Ru:=Ys.nx (h.od 1) h.inv.1 dl;have eJ:b2<TR.heap.size:=bH eJ h.inv.1.size;have j8:b4<TR.heap.size:=bH j8 h.inv.1.size;have rx:=h.ol 3 rx;have zo:=h.ol 8 zo;obtain ⟨vc,tc,fc⟩:=h.get 9 _ 169 rfl rfl;obtain rfl:vc=.bool false:=fc;clear h;refine hK2 _ _ ?_;refine wpIn_cond_false (bP tc) (wpIn_skip ?_);refine hK _ _ ?_;clear hT hL kT dl;have hT:Tabs WB TR:=lP.next (Yu);have hL:∀ c,TR.heap.size<=c->(X2 b2 b4) c:=fun c hc=>by have h:TR.heap.size<=c:=hc;exact ⟨⟨trivial,by omega⟩,by omega⟩
 have kT:∀ c,ct c->WB.heap.size<=c:=fun _ h=>h.elim;have dl:∀ c,(X2 b2 b4) c->¬ct c:=fun _ _ h=>h;refine cZ (fun K hK=>?_);refine dn  [bn (X2 b2 b4) (kC [63,65]),
  bn (X2 b2 b4) (kC [63,66]),
  jH (X2 b2 b4) [kC [63,65],kC [63,66]],
  bn (X2 b2 b4) (Fm.mk 5 [] [] [kC [63,65],kC [63,66]]),
  jH (X2 b2 b4) [Fm.mk 5 [] [] [kC [63,65],kC [63,66]]],
  bn (X2 b2 b4) (Fm.mk 8 [120] [] [Fm.mk 5 [] [] [kC [63,65],kC [63,66]]]),
  oD #[.int .u8 0,.string ⟨#[]⟩,.slice none 0 0,.slice none 0 0] 36,
  ln (bn (X2 b2 b4) (Fm.mk 8 [120] [] [Fm.mk 5 [] [] [kC [63,65],kC [63,66]]])) 36]
  6 7 zbu (by kernel_rfl) (fun k hk=>?_) (fun A17 γ Yv h=>?_)
 ·exact match k,hk with
  | 0,_=>IR [63,65]
  | 1,_=>IR [63,66]
  | 2,_=>ru hL _ _ 170 171 (aF 0) (aF 1)
  | 3,_=>mU 5 [] [kC [63,65],kC [63,66]] 172 (aF 2)
  | 4,_=>jp hL _ 173 (aF 3)
  | 5,_=>mU 8 [120] [Fm.mk 5 [] [] [kC [63,65],kC [63,66]]] 174 (aF 4)
  | 6,_=>jX rfl
  | 7,_=>jY _ 13 175 rfl (aF 6) (aF 5)
  | k+8,hk=>absurd hk (by simp)
 have zbv:=h.sz.trans zbu;have zdA:=h.df.trans zdz;have zbw:Below w.heap.size w Yv:=aQ Yu h.inv.1 (fun _ h=>h.elim);obtain ⟨vz,tz,fz⟩:=h.get 6 _ 13 rfl rfl;obtain ⟨ZF,q13,lz,zbx⟩:=rv tz fz (h.did 7 _ rfl rfl) h.inv;have KW:=Ru.nx (h.od 1) h.inv.1 dl;have Yw:ZF≠b1:=by have:=(bz Ru.box);have h:TR.heap.size<=ZF:=zbx;have h2:b1<TR.heap.size:=this;omega
 have zdB:b1≠ZF:=fun e=>Yw e.symm;have zeM:w.heap.size<=ZF:=by have h1:TR.heap.size<=ZF:=zbx;have h2:=Yu.size;omega
 have Gb:LF (X2 b2 b4) A17 Yv 13 ZF q13 _:=lz.next rfl (Kp.refl (M:=ct) _) (fun h=>h) (fun _ _ h=>h) (fun _ h _=>h.1);have eJ:b2<Yv.heap.size:=bH eJ h.inv.1.size;have j8:b4<Yv.heap.size:=bH j8 h.inv.1.size;have rx:=h.ol 3 rx;have zo:=h.ol 8 zo;clear h;refine hK _ _ ?_;clear hT hL kT dl;have hT:Tabs WB Yv.drew:=lP.next (zbw.drew);have hL:∀ c,Yv.drew.heap.size<=c->(X2 b2 b4) c:=fun c hc=>by have h:Yv.heap.size<=c:=hc;exact ⟨⟨trivial,by omega⟩,by omega⟩
 have kT:∀ c,ct c->WB.heap.size<=c:=fun _ h=>h.elim;have dl:∀ c,(X2 b2 b4) c->¬ct c:=fun _ _ h=>h;refine cZ (fun K hK=>?_);refine g_  [bn (X2 b2 b4) (Fm.mk 8 [120] [] [Fm.mk 5 [] [] [kC [63,65],kC [63,66]]]),
  e8 (X2 b2 b4) (ao [121]),
  jI (X2 b2 b4) [ao [121]],
  bn (X2 b2 b4) (eB [80] [ao [121]]),
  e8 (X2 b2 b4) (ao [121]),
  jI (X2 b2 b4) [ao [121]],
  bn (X2 b2 b4) (eB [80] [ao [121]]),
  jH (X2 b2 b4) [eB [80] [ao [121]],eB [80] [ao [121]]],
  bn (X2 b2 b4) (Fm.mk 5 [] [] [eB [80] [ao [121]],eB [80] [ao [121]]]),
  jH (X2 b2 b4) [Fm.mk 5 [] [] [eB [80] [ao [121]],eB [80] [ao [121]]]],
  bn (X2 b2 b4) (Fm.mk 8 [121] [] [Fm.mk 5 [] [] [eB [80] [ao [121]],eB [80] [ao [121]]]]),
  EE (X2 b2 b4) (Fm.mk 8 [120] [] [Fm.mk 5 [] [] [kC [63,65],kC [63,66]]]) (Fm.mk 8 [121] [] [Fm.mk 5 [] [] [eB [80] [ao [121]],eB [80] [ao [121]]]]),
  bn (X2 b2 b4) (kC [63,65]),
  e8 (X2 b2 b4) (ao [121]),
  jI (X2 b2 b4) [ao [121]],
  bn (X2 b2 b4) (eB [80] [ao [121]]),
  EE (X2 b2 b4) (kC [63,65]) (eB [80] [ao [121]]),
  tS (X2 b2 b4) [(Fm.mk 8 [120] [] [Fm.mk 5 [] [] [kC [63,65],kC [63,66]]],Fm.mk 8 [121] [] [Fm.mk 5 [] [] [eB [80] [ao [121]],eB [80] [ao [121]]]]),(kC [63,65],eB [80] [ao [121]])],
  cm (X2 b2 b4) (⟨[],[]⟩),
  jh (cm (X2 b2 b4) (⟨[],[]⟩)) [.int .i64 1,.int .i64 70],
  jh (cm (X2 b2 b4) (⟨[],[]⟩)) [.int .i64 1,.int .i64 70],
  cm (X2 b2 b4) (⟨[],[]⟩),
  cA (.int .i64 1),
  cA (.int .i64 70),
  cA (.int .i64 1),
  cA (.int .i64 70)]
  26 26 zbv (by kernel_rfl) (by kernel_rfl) (fun k hk=>?_) (fun A18 γ Yx h=>?_)
 ·exact match k,hk with
  | 0,_=>jq _ _ 13 Gb.drew.box (fun h=>h) (Gb.drew.at dl) (old Gb.drew.slot)
  | 1,_=>rt [121]
  | 2,_=>lp hL _ 178 (aF 1)
  | 3,_=>B4 [80] [ao [121]] 179 (aF 2)
  | 4,_=>rt [121]
  | 5,_=>lp hL _ 181 (aF 4)
  | 6,_=>B4 [80] [ao [121]] 182 (aF 5)
  | 7,_=>ru hL _ _ 180 183 (aF 3) (aF 6)
  | 8,_=>mU 5 [] [eB [80] [ao [121]],eB [80] [ao [121]]] 184 (aF 7)
  | 9,_=>jp hL _ 185 (aF 8)
  | 10,_=>mU 8 [121] [Fm.mk 5 [] [] [eB [80] [ao [121]],eB [80] [ao [121]]]] 186 (aF 9)
  | 11,_=>rR _ _ 177 187 (aF 0) (aF 10)
  | 12,_=>IR [63,65]
  | 13,_=>rt [121]
  | 14,_=>lp hL _ 190 (aF 13)
  | 15,_=>B4 [80] [ao [121]] 191 (aF 14)
  | 16,_=>rR _ _ 189 192 (aF 12) (aF 15)
  | 17,_=>B7 hL _ _ _ _ 188 193 (aF 11) (aF 16)
  | 18,_=>ef _ _ 1 KW.drew.box (fun h=>h) (KW.drew.at dl) (old KW.drew.slot)
  | 19,_=>pA _ _ _ _ _ aw5 (by decide) F' mo 194 195 hT kT hL (aF 17) (aF 18)
  | 20,_=>bc _ 196 (aF 19)
  | 21,_=>iX _ _ 176 (aF 20)
  | 22,_=>iI (cm (X2 b2 b4) (⟨[],[]⟩)) [.int .i64 1,.int .i64 70] 0 (.int .i64 1) rfl 176 (aF 20)
  | 23,_=>iI (cm (X2 b2 b4) (⟨[],[]⟩)) [.int .i64 1,.int .i64 70] 1 (.int .i64 70) rfl 176 (aF 20)
  | 24,_=>dq _ 198 (aF 22)
  | 25,_=>dq _ 199 (aF 23)
  | k+26,hk=>absurd hk (by simp)
 have zby:=h.sz.trans zbv;have zdC:=h.df.trans zdA;have Yy:Below w.heap.size w Yx:=aQ zbw.drew h.inv.1 (fun _ h=>h.elim);have eJ:b2<Yx.heap.size:=bH eJ h.inv.1.size;have j8:b4<Yx.heap.size:=bH j8 h.inv.1.size;obtain ⟨Yi,rx,Yj⟩:=h.get 25 _ 3 rfl rfl;obtain rfl:Yi=.int .i64 70:=Yj;obtain ⟨vz8,zo,fz8⟩:=h.get 24 _ 8 rfl rfl;obtain rfl:vz8=.int .i64 1:=fz8;clear h;refine hK _ _ ?_;clear hT hL kT dl;have hT:Tabs WB Yx:=lP.next (Yy);have hL:∀ c,Yx.heap.size<=c->(X2 b2 b4) c:=fun c hc=>by have h:Yx.heap.size<=c:=hc;exact ⟨⟨trivial,by omega⟩,by omega⟩
 have kT:∀ c,ct c->WB.heap.size<=c:=fun _ h=>h.elim;have dl:∀ c,(X2 b2 b4) c->¬ct c:=fun _ _ h=>h;refine cZ (fun K hK=>?_);refine dn  [e8 (X2 b2 b4) (ao [63,120]),
  e8 (X2 b2 b4) (ao [120]),
  jI (X2 b2 b4) [ao [63,120],ao [120]],
  bn (X2 b2 b4) (eB [80] [ao [63,120],ao [120]]),
  fFB (X2 b2 b4) [63,65] (eB [80] [ao [63,120],ao [120]]),
  zdi (X2 b2 b4) [([63,65],eB [80] [ao [63,120],ao [120]])],
  e8 (X2 b2 b4) (ao [120]),
  fTB (X2 b2 b4) [63,116] (ao [120]),
  zdj (X2 b2 b4) [([63,116],ao [120])],
  cm (X2 b2 b4) (⟨[([63,65],eB [80] [ao [63,120],ao [120]])],[([63,116],ao [120])]⟩),
  oD #[.slice none 0 0,.slice none 0 0] 26,
  ln (cm (X2 b2 b4) (⟨[([63,65],eB [80] [ao [63,120],ao [120]])],[([63,116],ao [120])]⟩)) 26]
  10 11 zby (by kernel_rfl) (fun k hk=>?_) (fun A19 γ R9 h=>?_)
 ·exact match k,hk with
  | 0,_=>rt [63,120]
  | 1,_=>rt [120]
  | 2,_=>mV hL _ _ 200 201 (aF 0) (aF 1)
  | 3,_=>B4 [80] [ao [63,120],ao [120]] 202 (aF 2)
  | 4,_=>za9 [63,65] _ 203 (aF 3)
  | 5,_=>Rh _ _ 204 hL (aF 4)
  | 6,_=>rt [120]
  | 7,_=>zba [63,116] _ 206 (aF 6)
  | 8,_=>Ri _ _ 207 hL (aF 7)
  | 9,_=>TJ _ _ 205 208 (aF 5) (aF 8)
  | 10,_=>oE rfl
  | 11,_=>oF _ 14 209 rfl (aF 10) (aF 9)
  | k+12,hk=>absurd hk (by simp)
 have zbz:=h.sz.trans zby;have zdD:=h.df.trans zdC;have Yz:Below w.heap.size w R9:=aQ Yy h.inv.1 (fun _ h=>h.elim);obtain ⟨vz,tz,fz⟩:=h.get 10 _ 14 rfl rfl;obtain ⟨Oy,q14,lz,zdE⟩:=B9 tz fz (h.did 11 _ rfl rfl) h.inv;have zeN:w.heap.size<=Oy:=by have h1:Yx.heap.size<=Oy:=zdE;have h2:=Yy.size;omega
 have vT:LB (X2 b2 b4) A19 R9 14 Oy q14 _:=lz.next rfl (Kp.refl (M:=ct) _) (fun h=>h) (fun _ _ h=>h) (fun _ h _=>h.1);have eJ:b2<R9.heap.size:=bH eJ h.inv.1.size;have j8:b4<R9.heap.size:=bH j8 h.inv.1.size;have rx:=h.ol 3 rx;have zo:=h.ol 8 zo;clear h;refine hK _ _ ?_;clear hT hL kT dl;have hT:Tabs WB R9.drew:=lP.next (Yz.drew);have hL:∀ c,R9.drew.heap.size<=c->(X2 b2 b4) c:=fun c hc=>by have h:R9.heap.size<=c:=hc;exact ⟨⟨trivial,by omega⟩,by omega⟩
 have kT:∀ c,ct c->WB.heap.size<=c:=fun _ h=>h.elim;have dl:∀ c,(X2 b2 b4) c->¬ct c:=fun _ _ h=>h;refine cZ (fun K hK=>?_);refine g_  [bn (X2 b2 b4) (kC [63,65]),
  jH (X2 b2 b4) [kC [63,65]],
  bn (X2 b2 b4) (Fm.mk 9 [120] [] [kC [63,65]]),
  cm (X2 b2 b4) (⟨[([63,65],eB [80] [ao [63,120],ao [120]])],[([63,116],ao [120])]⟩),
  jh (bn (X2 b2 b4) (Dz)) [.int .i64 0],
  jh (bn (X2 b2 b4) (Dz)) [.int .i64 0],
  bn (X2 b2 b4) (Dz),
  cA (.int .i64 0),
  oD #[.int .u8 0,.string ⟨#[]⟩,.slice none 0 0,.slice none 0 0] 36,
  ln (bn (X2 b2 b4) (Dz)) 36,
  cA (.int .i64 0)]
  8 9 zbz (by kernel_rfl) (by kernel_rfl) (fun k hk=>?_) (fun A20 γ Oz h=>?_)
 ·exact match k,hk with
  | 0,_=>IR [63,65]
  | 1,_=>jp hL _ 211 (aF 0)
  | 2,_=>mU 9 [120] [kC [63,65]] 212 (aF 1)
  | 3,_=>ef _ _ 14 vT.drew.box (fun h=>h) (vT.drew.at dl) (old vT.drew.slot)
  | 4,_=>zL _ _ _ _ aw6 ⟨by decide,by decide⟩ vS 213 214 hT kT hL (aF 2) (aF 3)
  | 5,_=>bc _ 215 (aF 4)
  | 6,_=>iX _ _ 210 (aF 5)
  | 7,_=>iI (bn (X2 b2 b4) (Dz)) [.int .i64 0] 0 (.int .i64 0) rfl 210 (aF 5)
  | 8,_=>jX rfl
  | 9,_=>jY _ 15 216 rfl (aF 8) (aF 6)
  | 10,_=>dq _ 217 (aF 7)
  | k+11,hk=>absurd hk (by simp)
 have zbA:=h.sz.trans zbz;have zdF:=h.df.trans zdD;have YA:Below w.heap.size w Oz:=aQ Yz.drew h.inv.1 (fun _ h=>h.elim);obtain ⟨vz,tz,fz⟩:=h.get 8 _ 15 rfl rfl;obtain ⟨OA,q15,lz,zbB⟩:=rv tz fz (h.did 9 _ rfl rfl) h.inv;have vU:=vT.drew.nx (h.od 14) h.inv.1 dl;have TS:OA≠Oy:=by have:=(bz vT.drew.box);have h:R9.heap.size<=OA:=zbB;have h2:Oy<R9.heap.size:=this;omega
 have zbW:Oy≠OA:=fun e=>TS e.symm;have zeO:w.heap.size<=OA:=by have h1:R9.heap.size<=OA:=zbB;have h2:=Yz.size;omega
 have Mm:LF (X2 b2 b4) A20 Oz 15 OA q15 _:=lz.next rfl (Kp.refl (M:=ct) _) (fun h=>h) (fun _ _ h=>h) (fun _ h _=>h.1);have eJ:b2<Oz.heap.size:=bH eJ h.inv.1.size;have j8:b4<Oz.heap.size:=bH j8 h.inv.1.size;have rx:=h.ol 3 rx;have zo:=h.ol 8 zo;obtain ⟨zdG,Rv,zdH⟩:=h.get 10 _ 16 rfl rfl;obtain rfl:zdG=.int .i64 0:=zdH;clear h;refine hK _ _ ?_;clear hT hL kT dl;have hT:Tabs WB Oz.drew:=lP.next (YA.drew);have hL:∀ c,Oz.drew.heap.size<=c->(X2 b2 b4) c:=fun c hc=>by have h:Oz.heap.size<=c:=hc;exact ⟨⟨trivial,by omega⟩,by omega⟩
 have kT:∀ c,ct c->WB.heap.size<=c:=fun _ h=>h.elim;have dl:∀ c,(X2 b2 b4) c->¬ct c:=fun _ _ h=>h;refine cZ (fun K hK=>?_);refine g_  [bn (X2 b2 b4) (Dy [63,65] [120] [63,116]),
  cm (X2 b2 b4) (⟨[([63,65],eB [80] [ao [63,120],ao [120]])],[([63,116],ao [120])]⟩),
  jh (bn (X2 b2 b4) (DA)) [.int .i64 0],
  jh (bn (X2 b2 b4) (DA)) [.int .i64 0],
  bn (X2 b2 b4) (DA),
  cA (.int .i64 0),
  oD #[.int .u8 0,.string ⟨#[]⟩,.slice none 0 0,.slice none 0 0] 36,
  ln (bn (X2 b2 b4) (DA)) 36,
  cA (.int .i64 0)]
  6 7 zbA (by kernel_rfl) (by kernel_rfl) (fun k hk=>?_) (fun A21 γ Mn h=>?_)
 ·exact match k,hk with
  | 0,_=>zJ [63,65] [120] [63,116] hL
  | 1,_=>ef _ _ 14 vU.drew.box (fun h=>h) (vU.drew.at dl) (old vU.drew.slot)
  | 2,_=>zL _ _ _ _ aw7 ⟨by decide,by decide⟩ vS 219 220 hT kT hL (aF 0) (aF 1)
  | 3,_=>bc _ 221 (aF 2)
  | 4,_=>iX _ _ 218 (aF 3)
  | 5,_=>iI (bn (X2 b2 b4) (DA)) [.int .i64 0] 0 (.int .i64 0) rfl 218 (aF 3)
  | 6,_=>jX rfl
  | 7,_=>jY _ 17 222 rfl (aF 6) (aF 4)
  | 8,_=>dq _ 223 (aF 5)
  | k+9,hk=>absurd hk (by simp)
 have zbC:=h.sz.trans zbA;have zdI:=h.df.trans zdF;have YB:Below w.heap.size w Mn:=aQ YA.drew h.inv.1 (fun _ h=>h.elim);obtain ⟨vz,tz,fz⟩:=h.get 6 _ 17 rfl rfl;obtain ⟨OB,q17,lz,YC⟩:=rv tz fz (h.did 7 _ rfl rfl) h.inv;have vV:=vU.drew.nx (h.od 14) h.inv.1 dl;have Mo:=Mm.drew.nx (h.od 15) h.inv.1 dl;have TT:OB≠Oy:=by have:=(bz vU.drew.box);have h:Oz.heap.size<=OB:=YC;have h2:Oy<Oz.heap.size:=this;omega
 have zbX:Oy≠OB:=fun e=>TT e.symm;have TU:OB≠OA:=by have:=(bz Mm.drew.box);have h:Oz.heap.size<=OB:=YC;have h2:OA<Oz.heap.size:=this;omega
 have zbY:OA≠OB:=fun e=>TU e.symm;have zeP:w.heap.size<=OB:=by have h1:Oz.heap.size<=OB:=YC;have h2:=YA.size;omega
 have Mp:LF (X2 b2 b4) A21 Mn 17 OB q17 _:=lz.next rfl (Kp.refl (M:=ct) _) (fun h=>h) (fun _ _ h=>h) (fun _ h _=>h.1);have eJ:b2<Mn.heap.size:=bH eJ h.inv.1.size;have j8:b4<Mn.heap.size:=bH j8 h.inv.1.size;have rx:=h.ol 3 rx;have zo:=h.ol 8 zo;have Rv:=h.ol 16 Rv;obtain ⟨zdJ,YD,zdK⟩:=h.get 8 _ 18 rfl rfl;obtain rfl:zdJ=.int .i64 0:=zdK;clear h;refine hK _ _ ?_;clear hT hL kT dl;have hT:Tabs WB Mn.drew:=lP.next (YB.drew);have hL:∀ c,Mn.drew.heap.size<=c->(X2 b2 b4) c:=fun c hc=>by have h:Mn.heap.size<=c:=hc;exact ⟨⟨trivial,by omega⟩,by omega⟩
 have kT:∀ c,ct c->WB.heap.size<=c:=fun _ h=>h.elim;have dl:∀ c,(X2 b2 b4) c->¬ct c:=fun _ _ h=>h;refine cZ (fun K hK=>?_);refine g_  [bn (X2 b2 b4) (kC [63,65]),
  cm (X2 b2 b4) (⟨[([63,65],eB [80] [ao [63,120],ao [120]])],[([63,116],ao [120])]⟩),
  jh (bn (X2 b2 b4) (lg)) [.int .i64 72],
  jh (bn (X2 b2 b4) (lg)) [.int .i64 72],
  bn (X2 b2 b4) (lg),
  cA (.int .i64 72),
  oD #[.int .u8 0,.string ⟨#[]⟩,.slice none 0 0,.slice none 0 0] 36,
  ln (bn (X2 b2 b4) (lg)) 36,
  cA (.int .i64 72)]
  6 7 zbC (by kernel_rfl) (by kernel_rfl) (fun k hk=>?_) (fun A22 γ YE h=>?_)
 ·exact match k,hk with
  | 0,_=>IR [63,65]
  | 1,_=>ef _ _ 14 vV.drew.box (fun h=>h) (vV.drew.at dl) (old vV.drew.slot)
  | 2,_=>zL _ _ _ _ aw8 ⟨by decide,by decide⟩ vS 225 226 hT kT hL (aF 0) (aF 1)
  | 3,_=>bc _ 227 (aF 2)
  | 4,_=>iX _ _ 224 (aF 3)
  | 5,_=>iI (bn (X2 b2 b4) (lg)) [.int .i64 72] 0 (.int .i64 72) rfl 224 (aF 3)
  | 6,_=>jX rfl
  | 7,_=>jY _ 19 228 rfl (aF 6) (aF 4)
  | 8,_=>dq _ 229 (aF 5)
  | k+9,hk=>absurd hk (by simp)
 have zbD:=h.sz.trans zbC;have zdL:=h.df.trans zdI;have zbE:Below w.heap.size w YE:=aQ YB.drew h.inv.1 (fun _ h=>h.elim);obtain ⟨vz,tz,fz⟩:=h.get 6 _ 19 rfl rfl;obtain ⟨OC,q19,lz,TV⟩:=rv tz fz (h.did 7 _ rfl rfl) h.inv;have Gc:=vV.drew.nx (h.od 14) h.inv.1 dl;have Gd:=Mo.drew.nx (h.od 15) h.inv.1 dl;have Ge:=Mp.drew.nx (h.od 17) h.inv.1 dl;have TW:OC≠Oy:=by have:=(bz vV.drew.box);have h:Mn.heap.size<=OC:=TV;have h2:Oy<Mn.heap.size:=this;omega
 have zbZ:Oy≠OC:=fun e=>TW e.symm;have TX:OC≠OA:=by have:=(bz Mo.drew.box);have h:Mn.heap.size<=OC:=TV;have h2:OA<Mn.heap.size:=this;omega
 have zb0:OA≠OC:=fun e=>TX e.symm;have TY:OC≠OB:=by have:=(bz Mp.drew.box);have h:Mn.heap.size<=OC:=TV;have h2:OB<Mn.heap.size:=this;omega
 have zb1:OB≠OC:=fun e=>TY e.symm;have zeQ:w.heap.size<=OC:=by have h1:Mn.heap.size<=OC:=TV;have h2:=YB.size;omega
 have zb2:LF (X2 b2 b4) A22 YE 19 OC q19 _:=lz.next rfl (Kp.refl (M:=ct) _) (fun h=>h) (fun _ _ h=>h) (fun _ h _=>h.1);have eJ:b2<YE.heap.size:=bH eJ h.inv.1.size;have j8:b4<YE.heap.size:=bH j8 h.inv.1.size;have rx:=h.ol 3 rx;have zo:=h.ol 8 zo;have Rv:=h.ol 16 Rv;have YD:=h.ol 18 YD;obtain ⟨zdM,zdN,zdO⟩:=h.get 8 _ 20 rfl rfl;obtain rfl:zdM=.int .i64 72:=zdO;clear h;refine hK _ _ ?_;clear hT hL kT dl;have hT:Tabs WB YE.drew:=lP.next (zbE.drew);have hL:∀ c,YE.drew.heap.size<=c->(X2 b2 b4) c:=fun c hc=>by have h:YE.heap.size<=c:=hc;exact ⟨⟨trivial,by omega⟩,by omega⟩
 have kT:∀ c,ct c->WB.heap.size<=c:=fun _ h=>h.elim;have dl:∀ c,(X2 b2 b4) c->¬ct c:=fun _ _ h=>h;refine cZ (fun K hK=>?_);refine g_  [cA (.int .i64 1),
  cA (.bool true),
  cA (.bool true),
  cA (.int .i64 70),
  cA (.bool true),
  cA (.bool true),
  cA (.bool true),
  cA (.int .i64 0),
  cA (.bool true),
  cA (.bool true),
  cA (.bool true),
  cA (.int .i64 0),
  cA (.bool true),
  cA (.bool true),
  cA (.bool true),
  bn (X2 b2 b4) (Dz),
  e8 (X2 b2 b4) (ao [120,49]),
  e8 (X2 b2 b4) (ao [120]),
  jI (X2 b2 b4) [ao [120,49],ao [120]],
  bn (X2 b2 b4) (eB [80] [ao [120,49],ao [120]]),
  jH (X2 b2 b4) [eB [80] [ao [120,49],ao [120]]],
  bn (X2 b2 b4) (Fm.mk 9 [120,49] [] [eB [80] [ao [120,49],ao [120]]]),
  cA (.bool true),
  cA (.bool true),
  cA (.bool true),
  bn (X2 b2 b4) (DA),
  e8 (X2 b2 b4) (ao [120]),
  e8 (X2 b2 b4) (ao [120]),
  jI (X2 b2 b4) [ao [120],ao [120]],
  bn (X2 b2 b4) (eB [80] [ao [120],ao [120]]),
  cA (.bool true),
  cA (.bool true),
  cA (.bool true),
  cA (.int .i64 72),
  cA (.bool true),
  cA (.bool true),
  cA (.bool true),
  cm (X2 b2 b4) (⟨[([63,65],eB [80] [ao [63,120],ao [120]])],[([63,116],ao [120])]⟩),
  cA (.bool true),
  cA (.bool true),
  cA (.bool true)]
  41 41 zbD (by kernel_rfl) (by kernel_rfl) (fun k hk=>?_) (fun A23 γ W23 h=>?_)
 ·exact match k,hk with
  | 0,_=>bc _ 8 (old zo)
  | 1,_=>et rfl 230 (.bool true) (aF 0)
  | 2,_=>bc _ 231 (aF 1)
  | 3,_=>bc _ 3 (old rx) (hw:=ba 2 (aF 2))
  | 4,_=>et rfl 233 (.bool true) (aF 3) (hw:=ba 2 (aF 2))
  | 5,_=>iJ rfl 232 234 (.bool true) (aF 2) (aF 4)
  | 6,_=>bc _ 235 (aF 5)
  | 7,_=>bc _ 16 (old Rv) (hw:=ba 6 (aF 6))
  | 8,_=>et rfl 237 (.bool true) (aF 7) (hw:=ba 6 (aF 6))
  | 9,_=>iJ rfl 236 238 (.bool true) (aF 6) (aF 8)
  | 10,_=>bc _ 239 (aF 9)
  | 11,_=>bc _ 18 (old YD) (hw:=ba 10 (aF 10))
  | 12,_=>et rfl 241 (.bool true) (aF 11) (hw:=ba 10 (aF 10))
  | 13,_=>iJ rfl 240 242 (.bool true) (aF 10) (aF 12)
  | 14,_=>bc _ 243 (aF 13)
  | 15,_=>jq _ _ 15 Gd.drew.box (fun h=>h) (Gd.drew.at dl) (old Gd.drew.slot) (hw:=ba 14 (aF 14))
  | 16,_=>rt [120,49] (hw:=ba 14 (aF 14))
  | 17,_=>rt [120] (hw:=ba 14 (aF 14))
  | 18,_=>mV hL _ _ 246 247 (aF 16) (aF 17) (hw:=ba 14 (aF 14))
  | 19,_=>B4 [80] [ao [120,49],ao [120]] 248 (aF 18) (hw:=ba 14 (aF 14))
  | 20,_=>jp hL _ 249 (aF 19) (hw:=ba 14 (aF 14))
  | 21,_=>mU 9 [120,49] [eB [80] [ao [120,49],ao [120]]] 250 (aF 20) (hw:=ba 14 (aF 14))
  | 22,_=>zK (Dz) (Fm.mk 9 [120,49] [] [eB [80] [ao [120,49],ao [120]]]) ⟨by decide,by decide⟩ 245 251 (aF 15) (aF 21) (hw:=ba 14 (aF 14)) (hp:=(rS zdq))
  | 23,_=>iJ rfl 244 252 (.bool true) (aF 14) (aF 22)
  | 24,_=>bc _ 253 (aF 23)
  | 25,_=>jq _ _ 17 Ge.drew.box (fun h=>h) (Ge.drew.at dl) (old Ge.drew.slot) (hw:=ba 24 (aF 24))
  | 26,_=>rt [120] (hw:=ba 24 (aF 24))
  | 27,_=>rt [120] (hw:=ba 24 (aF 24))
  | 28,_=>mV hL _ _ 256 257 (aF 26) (aF 27) (hw:=ba 24 (aF 24))
  | 29,_=>B4 [80] [ao [120],ao [120]] 258 (aF 28) (hw:=ba 24 (aF 24))
  | 30,_=>zK (DA) (eB [80] [ao [120],ao [120]]) ⟨by decide,by decide⟩ 255 259 (aF 25) (aF 29) (hw:=ba 24 (aF 24)) (hp:=(rS zdr))
  | 31,_=>iJ rfl 254 260 (.bool true) (aF 24) (aF 30)
  | 32,_=>bc _ 261 (aF 31)
  | 33,_=>bc _ 20 (old zdN) (hw:=ba 32 (aF 32))
  | 34,_=>et rfl 263 (.bool true) (aF 33) (hw:=ba 32 (aF 32))
  | 35,_=>iJ rfl 262 264 (.bool true) (aF 32) (aF 34)
  | 36,_=>bc _ 265 (aF 35)
  | 37,_=>ef _ _ 14 Gc.drew.box (fun h=>h) (Gc.drew.at dl) (old Gc.drew.slot) (hw:=ba 36 (aF 36))
  | 38,_=>IT _ vS 267 hT kT (aF 37) (hw:=ba 36 (aF 36)) (hp:=(rS aw9))
  | 39,_=>iJ rfl 266 268 (.bool true) (aF 36) (aF 38)
  | 40,_=>dq _ 269 (aF 39)
  | k+41,hk=>absurd hk (by simp)
 have zeR:=h.sz.trans zbD;have zdP:=h.df.trans zdL;have zdQ:Below w.heap.size w W23:=aQ zbE.drew h.inv.1 (fun _ h=>h.elim);have eJ:b2<W23.heap.size:=bH eJ h.inv.1.size;have j8:b4<W23.heap.size:=bH j8 h.inv.1.size;obtain ⟨vc,tc,fc⟩:=h.get 40 _ 0 rfl rfl;obtain rfl:vc=.bool true:=fc;refine hK _ _ ?_;refine wpIn_ret ?_;refine bI (v:=.bool true) (by simp[results,Tryz.results12,go_sem,tc]) zdP ⟨rfl,zdQ⟩
