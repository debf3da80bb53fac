/-
'awake' of lyceumlaw07 holds.
-/
import Derived.Test.YtokemihbkeddoaaGreatDoorV17
namespace Go.Proofs.YtokemihbkeddoaaGreatDoor
open Go Go.RowKit Lib
set_option maxRecDepth 100000
set_option maxHeartbeats 64000000
variable {b:Bool} {d n lo:Nat} {left:Int} {v:Value} {o oj:Oper} {vJ:Array TypeId} {ty:TypeId} {pos:String} {gK:Array Edge} {ts:List Fm} {W:World}
section
attribute [local go_sem] Oper.semAt_some
abbrev X0:Nat->Prop:=fun _=>True
abbrev X1 (b:Nat):Nat->Prop:=fun c=>X0 c/\c≠b
abbrev X2 (b d:Nat):Nat->Prop:=fun c=>X1 b c/\c≠d
theorem rF (h:b=true):(aE (.bool true)).p=fun v _ _=>v=.bool b:=by subst h;rfl
theorem iS:BdFit ⟨[],[]⟩:=⟨by decide,by decide,(fun _ h=>by cases h),fun _ h=>by cases h⟩
theorem uY:BdFit Q4:=⟨by decide,by decide,List.forall_mem_cons.2 ⟨⟨by decide,by decide,by decide⟩,fun _ h=>by cases h⟩,List.forall_mem_cons.2 ⟨⟨by decide,⟨by decide,by decide⟩,by decide⟩,fun _ h=>by cases h⟩⟩
theorem Yr:∀ x∈([(mA,sk),(mB,E')]:List (Str×Fm)),fitF x.2:=List.forall_mem_cons.2 ⟨⟨by decide,by decide⟩,List.forall_mem_cons.2 ⟨⟨by decide,by decide⟩,fun _ h=>by cases h⟩⟩
theorem Ys:∀ x∈([(mA,nz)]:List (Str×Fm)),fitF x.2:=List.forall_mem_cons.2 ⟨⟨by decide,by decide⟩,fun _ h=>by cases h⟩
theorem Yt:∀ x∈([(mT,mC)]:List (Str×Tm)),fitT x.2:=List.forall_mem_cons.2 ⟨⟨by decide,by decide⟩,fun _ h=>by cases h⟩
theorem Fb {a b c d:Fm} (ha:fitF a:=by exact ⟨by decide,by decide⟩) (hb:fitF b:=by exact ⟨by decide,by decide⟩) (hc:fitF c:=by exact ⟨by decide,by decide⟩) (hd:fitF d:=by exact ⟨by decide,by decide⟩):∀ x∈[(a,b),(c,d)],fitF x.1/\fitF x.2:=List.forall_mem_cons.2 ⟨⟨ha,hb⟩,List.forall_mem_cons.2 ⟨⟨hc,hd⟩,fun _ h=>by cases h⟩⟩
theorem NO (WB w:World) (fw:Tabs WB w):Calls Tryz.prog 12 #[] w fun e w'=>e=.returned (.bool true)/\Below w.heap.size w w':=by
 refine mM Tryz.func12 ?_;refine (fun (A:Act) (hs:A.tmps.size=270) (hd:A.defers=[])=>?_:∀ A:Act,A.tmps.size=270->A.defers=[]->Code.wpIn Fence.wide 3 _ _ _ A w) _ rfl rfl;have jH:=eU;have HB:Below w.heap.size w w:=ak _ _;have hT:Tabs WB w:=fw.next (HB);have hL:∀ c,w.heap.size<=c->X0 c:=fun _ _=>trivial;have jq:∀ c,bQ c->WB.heap.size<=c:=fun _ h=>h.elim;have cq:∀ c,X0 c->¬bQ c:=fun _ _ h=>h;refine bA (fun K hK=>?_);refine aY  [aE (.bool false)]
  1 1 hs (by kernel_rfl) (fun k hk=>?_) (fun A0 γ W0 h=>?_)
 ·exact match k,hk with
  | 0,_=>th rfl (.bool false) (fun _ _=>by go_simp)
  | k+1,hk=>absurd hk (by simp)
 have FD:=h.sz.trans hs;have hd0:=h.df.trans hd;have S9:Below w.heap.size w W0:=aq HB h.inv.1 (fun _ h=>h.elim);clear h;refine hK _ _ ?_;clear hT hL jq cq;have hT:Tabs WB W0:=fw.next (S9);have hL:∀ c,W0.heap.size<=c->X0 c:=fun _ _=>trivial;have jq:∀ c,bQ c->WB.heap.size<=c:=fun _ h=>h.elim;have cq:∀ c,X0 c->¬bQ c:=fun _ _ h=>h;refine bA (fun K hK=>?_);refine aY  [bG X0 (⟨[],[]⟩),
  mP #[.slice none 0 0,.slice none 0 0] 26,
  gL (bG X0 (⟨[],[]⟩)) 26]
  1 2 FD (by kernel_rfl) (fun k hk=>?_) (fun A1 γ W1 h=>?_)
 ·exact match k,hk with
  | 0,_=>uX
  | 1,_=>ot rfl
  | 2,_=>ov _ 1 21 rfl (af 1) (af 0)
  | k+3,hk=>absurd hk (by simp)
 have gx:=h.sz.trans FD;have Oz:=h.df.trans hd0;have dO:Below w.heap.size w W1:=aq S9 h.inv.1 (fun _ h=>h.elim);obtain ⟨vz,tz,fz⟩:=h.get 1 _ 1 rfl rfl;obtain ⟨b1,q1,lz,St⟩:=AI tz fz (h.did 2 _ rfl rfl) h.inv;have ye:w.heap.size<=b1:=by have h1:W0.heap.size<=b1:=St;have h2:=S9.size;omega
 have Hy:LB X0 A1 W1 1 b1 q1 _:=lz.next rfl (Kp.refl (M:=bQ) _) (fun h=>h) (fun _ _ h=>h) (fun _ h _=>h.1);clear h;refine hK _ _ ?_;clear hT hL jq cq;have hT:Tabs WB W1.drew:=fw.next (dO.drew);have hL:∀ c,W1.drew.heap.size<=c->X0 c:=fun _ _=>trivial;have jq:∀ c,bQ c->WB.heap.size<=c:=fun _ h=>h.elim;have cq:∀ c,X0 c->¬bQ c:=fun _ _ h=>h;refine bA (fun K hK=>?_);refine iz  [aI X0 (ji [63,65]),
  aI X0 (ji [63,66]),
  eP X0 [ji [63,65],ji [63,66]],
  aI X0 (Fm.mk 6 [] [] [ji [63,65],ji [63,66]]),
  aI X0 (em [80] []),
  aI X0 (em [81] []),
  eP X0 [em [80] [],em [81] []],
  aI X0 (Fm.mk 4 [] [] [em [80] [],em [81] []]),
  aI X0 (em [82] []),
  eP X0 [Fm.mk 4 [] [] [em [80] [],em [81] []],em [82] []],
  aI X0 (Fm.mk 6 [] [] [Fm.mk 4 [] [] [em [80] [],em [81] []],em [82] []]),
  bG X0 (⟨[],[]⟩),
  iy (bG X0 (⟨[(mA,sk),(mB,E')],[]⟩)) [.int .i64 0],
  iy (bG X0 (⟨[(mA,sk),(mB,E')],[]⟩)) [.int .i64 0],
  bG X0 (⟨[(mA,sk),(mB,E')],[]⟩),
  aE (.int .i64 0),
  mP #[.slice none 0 0,.slice none 0 0] 26,
  gL (bG X0 (⟨[(mA,sk),(mB,E')],[]⟩)) 26,
  aE (.int .i64 0)]
  16 17 gx (by kernel_rfl) (by kernel_rfl) (fun k hk=>?_) (fun A2 γ W2 h=>?_)
 ·exact match k,hk with
  | 0,_=>AG [63,65]
  | 1,_=>AG [63,66]
  | 2,_=>rd hL _ _ 23 24 (af 0) (af 1)
  | 3,_=>kz 6 [] [ji [63,65],ji [63,66]] 25 (af 2)
  | 4,_=>DL [80]
  | 5,_=>DL [81]
  | 6,_=>rd hL _ _ 27 28 (af 4) (af 5)
  | 7,_=>kz 4 [] [em [80] [],em [81] []] 29 (af 6)
  | 8,_=>DL [82]
  | 9,_=>rd hL _ _ 30 31 (af 7) (af 8)
  | 10,_=>kz 6 [] [Fm.mk 4 [] [] [em [80] [],em [81] []],em [82] []] 32 (af 9)
  | 11,_=>cZ _ _ 1 Hy.drew.box (fun h=>h) (Hy.drew.at cq) (old Hy.drew.slot)
  | 12,_=>Hv _ _ _ _ _ _ aw1 ⟨by decide,by decide⟩ ⟨by decide,by decide⟩ iS 26 33 34 hT jq hL (af 3) (af 10) (af 11)
  | 13,_=>bP _ 35 (af 12)
  | 14,_=>ia _ _ 22 (af 13)
  | 15,_=>gY (bG X0 (⟨[(mA,sk),(mB,E')],[]⟩)) [.int .i64 0] 0 (.int .i64 0) rfl 22 (af 13)
  | 16,_=>ot rfl
  | 17,_=>ov _ 2 36 rfl (af 16) (af 14)
  | 18,_=>bq _ 37 (af 15)
  | k+19,hk=>absurd hk (by simp)
 have lg:=h.sz.trans gx;have Uk:=h.df.trans Oz;have cJ:Below w.heap.size w W2:=aq dO.drew h.inv.1 (fun _ h=>h.elim);obtain ⟨vz,tz,fz⟩:=h.get 16 _ 2 rfl rfl;obtain ⟨b2,q2,lz,V6⟩:=AI tz fz (h.did 17 _ rfl rfl) h.inv;have Vp:=Hy.drew.next (L':=(X1 b2)) (h.old 1 (by kernel_rfl)) h.inv.1 (fun h=>h) cq (fun c h hlt=>⟨h,fun e=>by have:W1.heap.size<=b2:=V6;have hlt:c<W1.heap.size:=hlt;omega⟩);have zbo:b2≠b1:=by have:=(bn Hy.drew.box);have h:W1.heap.size<=b2:=V6;have h2:b1<W1.heap.size:=this;omega
 have Vq:b1≠b2:=fun e=>zbo e.symm;have Ok:w.heap.size<=b2:=by have h1:W1.heap.size<=b2:=V6;have h2:=dO.size;omega
 have AJ:LB (X1 b2) A2 W2 2 b2 q2 _:=lz;have eJ:=(bn AJ.box);obtain ⟨Yu,rf,Yv⟩:=h.get 18 _ 3 rfl rfl;obtain rfl:Yu=.int .i64 0:=Yv;clear h;refine hK _ _ ?_;clear hT hL jq cq;have hT:Tabs WB W2:=fw.next (cJ);have hL:∀ c,W2.heap.size<=c->(X1 b2) c:=fun c hc=>⟨trivial,fun e=>by have:=(bn AJ.box);have h:W2.heap.size<=c:=hc;omega⟩
 have jq:∀ c,bQ c->WB.heap.size<=c:=fun _ h=>h.elim;have cq:∀ c,(X1 b2) c->¬bQ c:=fun _ _ h=>h;refine bA (fun K hK=>?_);refine aY  [bG (X1 b2) (⟨[(mA,sk),(mB,E')],[]⟩),
  iy (aI (X1 b2) (E')) [.bool true],
  iy (aI (X1 b2) (E')) [.bool true],
  aI (X1 b2) (E'),
  aE (.bool true),
  mP #[.int .u8 0,.string ⟨#[]⟩,.slice none 0 0,.slice none 0 0] 36,
  gL (aI (X1 b2) (E')) 36,
  aE (.bool true)]
  5 6 lg (by kernel_rfl) (fun k hk=>?_) (fun A3 γ W3 h=>?_)
 ·exact match k,hk with
  | 0,_=>cZ _ _ 2 AJ.box (fun h=>h) (AJ.at cq) (old AJ.slot)
  | 1,_=>L3 (⟨[(mA,sk),(mB,E')],[]⟩) [63,66] (by decide) Yr 39 hL (af 0)
  | 2,_=>bP _ 40 (af 1)
  | 3,_=>ia _ _ 38 (af 2)
  | 4,_=>gY (aI (X1 b2) (E')) [.bool true] 0 (.bool true) rfl 38 (af 2)
  | 5,_=>gT rfl
  | 6,_=>gU _ 4 41 rfl (af 5) (af 3)
  | 7,_=>bq _ 42 (af 4)
  | k+8,hk=>absurd hk (by simp)
 have nE:=h.sz.trans lg;have FA:=h.df.trans Uk;have bM:Below w.heap.size w W3:=aq cJ h.inv.1 (fun _ h=>h.elim);obtain ⟨vz,tz,fz⟩:=h.get 5 _ 4 rfl rfl;obtain ⟨b4,q4,lz,vA⟩:=nA tz fz (h.did 6 _ rfl rfl) h.inv;have zbp:=Vp.next (L':=(X2 b2 b4)) (h.old 1 (by kernel_rfl)) h.inv.1 (fun h=>h) cq (fun c h hlt=>⟨h,fun e=>by have:W2.heap.size<=b4:=vA;have hlt:c<W2.heap.size:=hlt;omega⟩);have Hz:=AJ.next (L':=(X2 b2 b4)) (h.old 2 (by kernel_rfl)) h.inv.1 (fun h=>h) cq (fun c h hlt=>⟨h,fun e=>by have:W2.heap.size<=b4:=vA;have hlt:c<W2.heap.size:=hlt;omega⟩);have zbq:b4≠b1:=by have:=(bn Vp.box);have h:W2.heap.size<=b4:=vA;have h2:b1<W2.heap.size:=this;omega
 have zbr:b1≠b4:=fun e=>zbq e.symm;have Vr:b4≠b2:=by have:=(bn AJ.box);have h:W2.heap.size<=b4:=vA;have h2:b2<W2.heap.size:=this;omega
 have zbs:b2≠b4:=fun e=>Vr e.symm;have Tb:w.heap.size<=b4:=by have h1:W2.heap.size<=b4:=vA;have h2:=cJ.size;omega
 have H':LF (X2 b2 b4) A3 W3 4 b4 q4 _:=lz;have eJ:=(bn Hz.box);have jR:=(bn H'.box);have rf:=h.ol 3 rf;obtain ⟨vz5,tz5,fz5⟩:=h.get 7 _ 5 rfl rfl;obtain rfl:vz5=.bool true:=fz5;clear h;refine hK _ _ ?_;clear hT hL jq cq;have sx:q2.l=2:=by
  obtain ⟨⟨fa,fc,_,he,_⟩,_⟩:=Hz.val;injection he
 have hT:Tabs WB W3.drew:=fw.next (bM.drew);have hL:∀ c,W3.drew.heap.size<=c->(X2 b2 b4) c:=fun c hc=>by have h:W3.heap.size<=c:=hc;exact ⟨⟨trivial,by omega⟩,by omega⟩
 have jq:∀ c,bQ c->WB.heap.size<=c:=fun _ h=>h.elim;have cq:∀ c,(X2 b2 b4) c->¬bQ c:=fun _ _ h=>h;refine bA (fun K hK=>?_);refine bA (fun K2 hK2=>?_);refine iz  [aE (.int .i64 0),
  aE (.bool false),
  aE (.bool false),
  aE (.bool true),
  aE (.bool false),
  aE (.bool false),
  aE (.bool false),
  aI (X2 b2 b4) (E'),
  aI (X2 b2 b4) (em [82] []),
  aE (.bool true),
  aE (.bool false),
  aE (.bool false),
  aE (.bool false),
  aE (.pointer (some ⟨b2,0,none⟩)),
  aE (.slice q2.a 2 q2.c),
  aE (.int .i64 2),
  aE (.bool false),
  aE (.bool false)]
  18 18 nE (by kernel_rfl) (by kernel_rfl) (fun k hk=>?_) (fun A4 γ W4 h=>?_)
 ·exact match k,hk with
  | 0,_=>bP _ 3 (old rf)
  | 1,_=>f9 rfl 43 (.bool false) (af 0)
  | 2,_=>bP _ 44 (af 1)
  | 3,_=>bP _ 5 (old tz5) (hw:=ai 2 (af 2))
  | 4,_=>f9 rfl 46 (.bool false) (af 3) (hw:=ai 2 (af 2))
  | 5,_=>lA rfl 45 47 (.bool false) (af 2) (af 4)
  | 6,_=>bP _ 48 (af 5)
  | 7,_=>cB _ _ 4 H'.drew.box (fun h=>h) (H'.drew.at cq) (old H'.drew.slot) (hw:=ai 6 (af 6))
  | 8,_=>DL [82] (hw:=ai 6 (af 6))
  | 9,_=>uU (E') (em [82] []) ⟨by decide,by decide⟩ 50 51 (af 7) (af 8) (hw:=ai 6 (af 6)) (hp:=(rF zdw))
  | 10,_=>f9 rfl 52 (.bool false) (af 9) (hw:=ai 6 (af 6))
  | 11,_=>lA rfl 49 53 (.bool false) (af 6) (af 10)
  | 12,_=>bP _ 54 (af 11)
  | 13,_=>f9 rfl 2 (.pointer (some ⟨b2,0,none⟩)) (old Hz.drew.slot) (hw:=ai 12 (af 12))
  | 14,_=>dC (by exact ai 12 (af 12)) rfl rfl (fun a γ wz aO=>by
   obtain ⟨v,e,rfl⟩:=aO.val 13 _ _ rfl rfl (by kernel_rfl);have e2:=aG e;have c:=aO.inv.1.cell (a:=⟨b2,0,none⟩) (fun h=>h) (ah Hz.drew.box 0);rw[sx]at c;exact ⟨.slice q2.a 2 q2.c,by go_simp,rfl⟩)
  | 15,_=>f9 rfl 57 (.int .i64 2) (af 14) (hw:=ai 12 (af 12))
  | 16,_=>f9 rfl 58 (.bool false) (af 15) (hw:=ai 12 (af 12))
  | 17,_=>lA rfl 55 59 (.bool false) (af 12) (af 16)
  | k+18,hk=>absurd hk (by simp)
 have wh:=h.sz.trans nE;have Mw:=h.df.trans FA;have eL:Below w.heap.size w W4:=aq bM.drew h.inv.1 (fun _ h=>h.elim);have Vs:=zbp.drew.nx (h.od 1) h.inv.1 cq;have Q':=Hz.drew.nx (h.od 2) h.inv.1 cq;have Q_:=H'.drew.nx (h.od 4) h.inv.1 cq;have eJ:=(bn Q'.box);have jR:=(bn Q_.box);have rf:=h.ol 3 rf;obtain ⟨vc,tc,fc⟩:=h.get 17 _ 60 rfl rfl;obtain rfl:vc=.bool false:=fc;clear h;refine hK2 _ _ ?_;refine wpIn_cond_false (aG tc) (wpIn_skip ?_);refine hK _ _ ?_;clear hT hL jq cq;have hT:Tabs WB W4:=fw.next (eL);have hL:∀ c,W4.heap.size<=c->(X2 b2 b4) c:=fun c hc=>by have h:W4.heap.size<=c:=hc;exact ⟨⟨trivial,by omega⟩,by omega⟩
 have jq:∀ c,bQ c->WB.heap.size<=c:=fun _ h=>h.elim;have cq:∀ c,(X2 b2 b4) c->¬bQ c:=fun _ _ h=>h;refine bA (fun K hK=>?_);refine aY  [aI (X2 b2 b4) (ji [63,65]),
  eP (X2 b2 b4) [ji [63,65]],
  aI (X2 b2 b4) (Fm.mk 8 [120] [] [ji [63,65]]),
  mP #[.int .u8 0,.string ⟨#[]⟩,.slice none 0 0,.slice none 0 0] 36,
  gL (aI (X2 b2 b4) (Fm.mk 8 [120] [] [ji [63,65]])) 36]
  3 4 wh (by kernel_rfl) (fun k hk=>?_) (fun A6 γ W6 h=>?_)
 ·exact match k,hk with
  | 0,_=>AG [63,65]
  | 1,_=>eb hL _ 61 (af 0)
  | 2,_=>kz 8 [120] [ji [63,65]] 62 (af 1)
  | 3,_=>gT rfl
  | 4,_=>gU _ 6 63 rfl (af 3) (af 2)
  | k+5,hk=>absurd hk (by simp)
 have qJ:=h.sz.trans wh;have ZY:=h.df.trans Mw;have Oo:Below w.heap.size w W6:=aq eL h.inv.1 (fun _ h=>h.elim);obtain ⟨vz,tz,fz⟩:=h.get 3 _ 6 rfl rfl;obtain ⟨b6,q6,lz,hg6⟩:=nA tz fz (h.did 4 _ rfl rfl) h.inv;have Vt:=Vs.nx (h.od 1) h.inv.1 cq;have Ra:=Q'.nx (h.od 2) h.inv.1 cq;have Rb:=Q_.nx (h.od 4) h.inv.1 cq;have zbt:b6≠b1:=by have:=(bn Vs.box);have h:W4.heap.size<=b6:=hg6;have h2:b1<W4.heap.size:=this;omega
 have zed:b1≠b6:=fun e=>zbt e.symm;have Rc:b6≠b2:=by have:=(bn Q'.box);have h:W4.heap.size<=b6:=hg6;have h2:b2<W4.heap.size:=this;omega
 have zee:b2≠b6:=fun e=>Rc e.symm;have Vu:b6≠b4:=by have:=(bn Q_.box);have h:W4.heap.size<=b6:=hg6;have h2:b4<W4.heap.size:=this;omega
 have zef:b4≠b6:=fun e=>Vu e.symm;have hw6:w.heap.size<=b6:=by have h1:W4.heap.size<=b6:=hg6;have h2:=eL.size;omega
 have Vv:LF (X2 b2 b4) A6 W6 6 b6 q6 _:=lz.next rfl (Kp.refl (M:=bQ) _) (fun h=>h) (fun _ _ h=>h) (fun _ h _=>h.1);have eJ:=(bn Ra.box);have jR:=(bn Rb.box);have rf:=h.ol 3 rf;clear h;refine hK _ _ ?_;clear hT hL jq cq;have hT:Tabs WB W6:=fw.next (Oo);have hL:∀ c,W6.heap.size<=c->(X2 b2 b4) c:=fun c hc=>by have h:W6.heap.size<=c:=hc;exact ⟨⟨trivial,by omega⟩,by omega⟩
 have jq:∀ c,bQ c->WB.heap.size<=c:=fun _ h=>h.elim;have cq:∀ c,(X2 b2 b4) c->¬bQ c:=fun _ _ h=>h;refine bA (fun K hK=>?_);refine aY  [eq (X2 b2 b4) (am [121]),
  eq (X2 b2 b4) (am [122]),
  je (X2 b2 b4) [am [121],am [122]],
  aI (X2 b2 b4) (em [82] [am [121],am [122]]),
  eP (X2 b2 b4) [em [82] [am [121],am [122]]],
  aI (X2 b2 b4) (Fm.mk 9 [122] [] [em [82] [am [121],am [122]]]),
  eP (X2 b2 b4) [Fm.mk 9 [122] [] [em [82] [am [121],am [122]]]],
  aI (X2 b2 b4) (Fm.mk 8 [121] [] [Fm.mk 9 [122] [] [em [82] [am [121],am [122]]]]),
  mP #[.int .u8 0,.string ⟨#[]⟩,.slice none 0 0,.slice none 0 0] 36,
  gL (aI (X2 b2 b4) (Fm.mk 8 [121] [] [Fm.mk 9 [122] [] [em [82] [am [121],am [122]]]])) 36]
  8 9 qJ (by kernel_rfl) (fun k hk=>?_) (fun A7 γ W7 h=>?_)
 ·exact match k,hk with
  | 0,_=>ph [121]
  | 1,_=>ph [122]
  | 2,_=>mD hL _ _ 64 65 (af 0) (af 1)
  | 3,_=>yz [82] [am [121],am [122]] 66 (af 2)
  | 4,_=>eb hL _ 67 (af 3)
  | 5,_=>kz 9 [122] [em [82] [am [121],am [122]]] 68 (af 4)
  | 6,_=>eb hL _ 69 (af 5)
  | 7,_=>kz 8 [121] [Fm.mk 9 [122] [] [em [82] [am [121],am [122]]]] 70 (af 6)
  | 8,_=>gT rfl
  | 9,_=>gU _ 7 71 rfl (af 8) (af 7)
  | k+10,hk=>absurd hk (by simp)
 have Nb:=h.sz.trans qJ;have hd7:=h.df.trans ZY;have HB7:Below w.heap.size w W7:=aq Oo h.inv.1 (fun _ h=>h.elim);obtain ⟨vz,tz,fz⟩:=h.get 8 _ 7 rfl rfl;obtain ⟨b7,q7,lz,hg7⟩:=nA tz fz (h.did 9 _ rfl rfl) h.inv;have L6:=Vt.nx (h.od 1) h.inv.1 cq;have H_:=Ra.nx (h.od 2) h.inv.1 cq;have Vw:=Rb.nx (h.od 4) h.inv.1 cq;have L8:=Vv.nx (h.od 6) h.inv.1 cq;have zbu:b7≠b1:=by have:=(bn Vt.box);have h:W6.heap.size<=b7:=hg7;have h2:b1<W6.heap.size:=this;omega
 have zeg:b1≠b7:=fun e=>zbu e.symm;have Rd:b7≠b2:=by have:=(bn Ra.box);have h:W6.heap.size<=b7:=hg7;have h2:b2<W6.heap.size:=this;omega
 have zeh:b2≠b7:=fun e=>Rd e.symm;have Vx:b7≠b4:=by have:=(bn Rb.box);have h:W6.heap.size<=b7:=hg7;have h2:b4<W6.heap.size:=this;omega
 have zei:b4≠b7:=fun e=>Vx e.symm;have zbv:b7≠b6:=by have:=(bn Vv.box);have h:W6.heap.size<=b7:=hg7;have h2:b6<W6.heap.size:=this;omega
 have zej:b6≠b7:=fun e=>zbv e.symm;have hw7:w.heap.size<=b7:=by have h1:W6.heap.size<=b7:=hg7;have h2:=Oo.size;omega
 have L9:LF (X2 b2 b4) A7 W7 7 b7 q7 _:=lz.next rfl (Kp.refl (M:=bQ) _) (fun h=>h) (fun _ _ h=>h) (fun _ h _=>h.1);have eJ:=(bn H_.box);have jR:=(bn Vw.box);have rf:=h.ol 3 rf;clear h;refine hK _ _ ?_;clear hT hL jq cq;have hT:Tabs WB W7.drew:=fw.next (HB7.drew);have hL:∀ c,W7.drew.heap.size<=c->(X2 b2 b4) c:=fun c hc=>by have h:W7.heap.size<=c:=hc;exact ⟨⟨trivial,by omega⟩,by omega⟩
 have jq:∀ c,pt b2 c->WB.heap.size<=c:=fun c h=>by have h:c=b2:=h;subst h;have:=fw.size;omega
 have cq:∀ c,(X2 b2 b4) c->¬pt b2 c:=fun c h e=>h.1.2 e;refine bA (fun K hK=>?_);refine Fa (bn H_.box) [aI (X2 b2 b4) (Fm.mk 8 [120] [] [ji [63,65]]),
  aI (X2 b2 b4) (Fm.mk 8 [121] [] [Fm.mk 9 [122] [] [em [82] [am [121],am [122]]]]),
  xO (X2 b2 b4) (Fm.mk 8 [120] [] [ji [63,65]]) (Fm.mk 8 [121] [] [Fm.mk 9 [122] [] [em [82] [am [121],am [122]]]]),
  aI (X2 b2 b4) (Cp [63,65] [120] [63,116]),
  eq (X2 b2 b4) (cT [97] []),
  je (X2 b2 b4) [cT [97] []],
  eq (X2 b2 b4) (cT [102] [cT [97] []]),
  eq (X2 b2 b4) (am [122]),
  je (X2 b2 b4) [cT [102] [cT [97] []],am [122]],
  aI (X2 b2 b4) (em [82] [cT [102] [cT [97] []],am [122]]),
  eP (X2 b2 b4) [em [82] [cT [102] [cT [97] []],am [122]]],
  aI (X2 b2 b4) (Fm.mk 9 [122] [] [em [82] [cT [102] [cT [97] []],am [122]]]),
  xO (X2 b2 b4) (Cp [63,65] [120] [63,116]) (Fm.mk 9 [122] [] [em [82] [cT [102] [cT [97] []],am [122]]]),
  E9 (X2 b2 b4) [(Fm.mk 8 [120] [] [ji [63,65]],Fm.mk 8 [121] [] [Fm.mk 9 [122] [] [em [82] [am [121],am [122]]]]),(Cp [63,65] [120] [63,116],Fm.mk 9 [122] [] [em [82] [cT [102] [cT [97] []],am [122]]])],
  bG (X2 b2 b4) (⟨[],[]⟩),
  iy (bG (X2 b2 b4) (⟨[(mA,nz)],[(mT,mC)]⟩)) [.int .i64 0,.int .i64 0],
  iy (bG (X2 b2 b4) (⟨[(mA,nz)],[(mT,mC)]⟩)) [.int .i64 0,.int .i64 0],
  bG (X2 b2 b4) (⟨[(mA,nz)],[(mT,mC)]⟩),
  aE (.int .i64 0),
  aE (.int .i64 0),
  gL (bG (X2 b2 b4) (⟨[(mA,nz)],[(mT,mC)]⟩)) 26,
  aE (.int .i64 0),
  aE (.int .i64 0)]
  20 Nb (by kernel_rfl) (by kernel_rfl) (fun k hk=>?_) (fun A8 γ W8 h=>?_)
 ·exact match k,hk with
  | 0,_=>cB _ _ 6 L8.drew.box (fun h=>Rc h) (L8.drew.at cq) (old L8.drew.slot)
  | 1,_=>cB _ _ 7 L9.drew.box (fun h=>Rd h) (L9.drew.at cq) (old L9.drew.slot)
  | 2,_=>m4 _ _ 73 74 (af 0) (af 1)
  | 3,_=>yK [63,65] [120] [63,116] hL
  | 4,_=>L2 [97]
  | 5,_=>km hL _ 77 (af 4)
  | 6,_=>zbm [102] [cT [97] []] 78 (af 5)
  | 7,_=>ph [122]
  | 8,_=>mD hL _ _ 79 80 (af 6) (af 7)
  | 9,_=>yz [82] [cT [102] [cT [97] []],am [122]] 81 (af 8)
  | 10,_=>eb hL _ 82 (af 9)
  | 11,_=>kz 9 [122] [em [82] [cT [102] [cT [97] []],am [122]]] 83 (af 10)
  | 12,_=>m4 _ _ 76 84 (af 3) (af 11)
  | 13,_=>uW hL _ _ _ _ 75 85 (af 2) (af 12)
  | 14,_=>cZ _ _ 1 L6.drew.box (fun h=>Vq h) (L6.drew.at cq) (old L6.drew.slot)
  | 15,_=>pi _ _ _ _ _ aw2 (by decide) Fb iS 86 87 hT jq hL (af 13) (af 14)
  | 16,_=>bP _ 88 (af 15)
  | 17,_=>ia _ _ 72 (af 16)
  | 18,_=>gY (bG (X2 b2 b4) (⟨[(mA,nz)],[(mT,mC)]⟩)) [.int .i64 0,.int .i64 0] 0 (.int .i64 0) rfl 72 (af 16)
  | 19,_=>gY (bG (X2 b2 b4) (⟨[(mA,nz)],[(mT,mC)]⟩)) [.int .i64 0,.int .i64 0] 1 (.int .i64 0) rfl 72 (af 16)
  | 20,_=>Kx _ 2 89 rfl H_.drew.box rfl (old H_.drew.slot) (af 17)
  | 21,_=>bq _ 90 (af 18)
  | 22,_=>bq _ 91 (af 19)
  | k+23,hk=>absurd hk (by simp)
 have Kt:=h.sz.trans Nb;have Vy:=h.df.trans hd7;have OA:Below w.heap.size w W8:=aq HB7.drew h.inv.1 (fun c h=>by have h:c=b2:=h;subst h;omega);have Vz:=L6.drew.next (L':=(X2 b2 b4)) (h.old 1 (by kernel_rfl)) h.inv.1 (fun h=>Vq h) cq (fun _ h _=>h);obtain ⟨q2,DN⟩:=rE ((h.old 2 (by kernel_rfl)).trans H_.slot) (h.did 20 _ rfl rfl) h.inv;have Re:=Vw.drew.next (L':=(X2 b2 b4)) (h.old 4 (by kernel_rfl)) h.inv.1 (fun h=>Vr h) cq (fun _ h _=>h);have VA:=L8.drew.next (L':=(X2 b2 b4)) (h.old 6 (by kernel_rfl)) h.inv.1 (fun h=>Rc h) cq (fun _ h _=>h);have VB:=L9.drew.next (L':=(X2 b2 b4)) (h.old 7 (by kernel_rfl)) h.inv.1 (fun h=>Rd h) cq (fun _ h _=>h);have eJ:=(bn DN.box);have jR:=(bn Re.box);obtain ⟨Yu,rf,Yv⟩:=h.get 22 _ 3 rfl rfl;obtain rfl:Yu=.int .i64 0:=Yv;obtain ⟨vz8,yA,fz8⟩:=h.get 21 _ 8 rfl rfl;obtain rfl:vz8=.int .i64 0:=fz8;clear h;refine hK _ _ ?_;clear hT hL jq cq;have hT:Tabs WB W8:=fw.next (OA);have hL:∀ c,W8.heap.size<=c->(X2 b2 b4) c:=fun c hc=>by have h:W8.heap.size<=c:=hc;exact ⟨⟨trivial,by omega⟩,by omega⟩
 have jq:∀ c,bQ c->WB.heap.size<=c:=fun _ h=>h.elim;have cq:∀ c,(X2 b2 b4) c->¬bQ c:=fun _ _ h=>h;refine bA (fun K hK=>?_);refine aY  [bG (X2 b2 b4) (⟨[(mA,nz)],[(mT,mC)]⟩),
  iy (eq (X2 b2 b4) (mC)) [.bool true],
  iy (eq (X2 b2 b4) (mC)) [.bool true],
  eq (X2 b2 b4) (mC),
  aE (.bool true),
  mP #[.bool false,.string ⟨#[]⟩,.slice none 0 0] 43,
  gL (eq (X2 b2 b4) (mC)) 43,
  aE (.bool true)]
  5 6 Kt (by kernel_rfl) (fun k hk=>?_) (fun A9 γ W9 h=>?_)
 ·exact match k,hk with
  | 0,_=>cZ _ _ 2 DN.box (fun h=>h) (DN.at cq) (old DN.slot)
  | 1,_=>TR (⟨[(mA,nz)],[(mT,mC)]⟩) [63,116] (by decide) Yt 93 hL (af 0)
  | 2,_=>bP _ 94 (af 1)
  | 3,_=>ia _ _ 92 (af 2)
  | 4,_=>gY (eq (X2 b2 b4) (mC)) [.bool true] 0 (.bool true) rfl 92 (af 2)
  | 5,_=>NM rfl
  | 6,_=>NN _ 9 95 rfl (af 5) (af 3)
  | 7,_=>bq _ 96 (af 4)
  | k+8,hk=>absurd hk (by simp)
 have hs9:=h.sz.trans Kt;have hd9:=h.df.trans Vy;have HB9:Below w.heap.size w W9:=aq OA h.inv.1 (fun _ h=>h.elim);obtain ⟨vz,tz,fz⟩:=h.get 5 _ 9 rfl rfl;obtain ⟨b9,q9,lz,IQ⟩:=Yq tz fz (h.did 6 _ rfl rfl) h.inv;have zbw:=Vz.nx (h.od 1) h.inv.1 cq;have L_:=DN.nx (h.od 2) h.inv.1 cq;have Ia:=Re.nx (h.od 4) h.inv.1 cq;have zbx:=VA.nx (h.od 6) h.inv.1 cq;have zby:=VB.nx (h.od 7) h.inv.1 cq;have zbz:b9≠b1:=by have:=(bn Vz.box);have h:W8.heap.size<=b9:=IQ;have h2:b1<W8.heap.size:=this;omega
 have zek:b1≠b9:=fun e=>zbz e.symm;have zbA:b9≠b2:=by have:=(bn DN.box);have h:W8.heap.size<=b9:=IQ;have h2:b2<W8.heap.size:=this;omega
 have zel:b2≠b9:=fun e=>zbA e.symm;have VC:b9≠b4:=by have:=(bn Re.box);have h:W8.heap.size<=b9:=IQ;have h2:b4<W8.heap.size:=this;omega
 have zem:b4≠b9:=fun e=>VC e.symm;have zbB:b9≠b6:=by have:=(bn VA.box);have h:W8.heap.size<=b9:=IQ;have h2:b6<W8.heap.size:=this;omega
 have zen:b6≠b9:=fun e=>zbB e.symm;have zbC:b9≠b7:=by have:=(bn VB.box);have h:W8.heap.size<=b9:=IQ;have h2:b7<W8.heap.size:=this;omega
 have zeo:b7≠b9:=fun e=>zbC e.symm;have hw9:w.heap.size<=b9:=by have h1:W8.heap.size<=b9:=IQ;have h2:=OA.size;omega
 have zbD:LT (X2 b2 b4) A9 W9 9 b9 q9 _:=lz.next rfl (Kp.refl (M:=bQ) _) (fun h=>h) (fun _ _ h=>h) (fun _ h _=>h.1);have eJ:=(bn L_.box);have jR:=(bn Ia.box);have rf:=h.ol 3 rf;have yA:=h.ol 8 yA;obtain ⟨zdB,Yw,zdC⟩:=h.get 7 _ 10 rfl rfl;obtain rfl:zdB=.bool true:=zdC;clear h;refine hK _ _ ?_;clear hT hL jq cq;have hT:Tabs WB W9:=fw.next (HB9);have hL:∀ c,W9.heap.size<=c->(X2 b2 b4) c:=fun c hc=>by have h:W9.heap.size<=c:=hc;exact ⟨⟨trivial,by omega⟩,by omega⟩
 have jq:∀ c,pt b4 c->WB.heap.size<=c:=fun c h=>by have h:c=b4:=h;subst h;have:=fw.size;omega
 have cq:∀ c,(X2 b2 b4) c->¬pt b4 c:=fun c h e=>h.2 e;refine bA (fun K hK=>?_);refine eH (bn Ia.box) [bG (X2 b2 b4) (⟨[(mA,nz)],[(mT,mC)]⟩),
  iy (aI (X2 b2 b4) (nz)) [.bool true],
  iy (aI (X2 b2 b4) (nz)) [.bool true],
  aI (X2 b2 b4) (nz),
  aE (.bool true),
  gL (aI (X2 b2 b4) (nz)) 36]
  5 hs9 (by kernel_rfl) (fun k hk=>?_) (fun A10 γ ly h=>?_)
 ·exact match k,hk with
  | 0,_=>cZ _ _ 2 L_.box (fun h=>zbs h) (L_.at cq) (old L_.slot)
  | 1,_=>L3 (⟨[(mA,nz)],[(mT,mC)]⟩) [63,65] (by decide) Ys 98 hL (af 0)
  | 2,_=>bP _ 99 (af 1)
  | 3,_=>ia _ _ 97 (af 2)
  | 4,_=>gY (aI (X2 b2 b4) (nz)) [.bool true] 0 (.bool true) rfl 97 (af 2)
  | 5,_=>pk _ 4 100 rfl Ia.box rfl (old Ia.slot) (af 3)
  | k+6,hk=>absurd hk (by simp)
 have yB:=h.sz.trans hs9;have Ib:=h.df.trans hd9;have AK:Below w.heap.size w ly:=aq HB9 h.inv.1 (fun c h=>by have h:c=b4:=h;subst h;omega);have Yx:=zbw.next (L':=(X2 b2 b4)) (h.old 1 (by kernel_rfl)) h.inv.1 (fun h=>zbr h) cq (fun _ h _=>h);obtain ⟨q4,Fc⟩:=yL ((h.old 4 (by kernel_rfl)).trans Ia.slot) (h.did 5 _ rfl rfl) h.inv;have Yy:=zbx.next (L':=(X2 b2 b4)) (h.old 6 (by kernel_rfl)) h.inv.1 (fun h=>Vu h) cq (fun _ h _=>h);have Yz:=zby.next (L':=(X2 b2 b4)) (h.old 7 (by kernel_rfl)) h.inv.1 (fun h=>Vx h) cq (fun _ h _=>h);have Ky:=zbD.next (L':=(X2 b2 b4)) (h.old 9 (by kernel_rfl)) h.inv.1 (fun h=>VC h) cq (fun _ h _=>h);have jR:=(bn Fc.box);have eJ:b2<ly.heap.size:=bN eJ h.inv.1.size;have rf:=h.ol 3 rf;have yA:=h.ol 8 yA;have Yw:=h.ol 10 Yw;clear h;refine hK _ _ ?_;clear hT hL jq cq;have hT:Tabs WB ly.drew:=fw.next (AK.drew);have hL:∀ c,ly.drew.heap.size<=c->(X2 b2 b4) c:=fun c hc=>by have h:ly.heap.size<=c:=hc;exact ⟨⟨trivial,by omega⟩,by omega⟩
 have jq:∀ c,bQ c->WB.heap.size<=c:=fun _ h=>h.elim;have cq:∀ c,(X2 b2 b4) c->¬bQ c:=fun _ _ h=>h;refine bA (fun K hK=>?_);refine bA (fun K2 hK2=>?_);refine iz  [aE (.int .i64 0),
  aE (.bool false),
  aE (.bool false),
  aE (.int .i64 0),
  aE (.bool false),
  aE (.bool false),
  aE (.bool false),
  aE (.bool true),
  aE (.bool false),
  aE (.bool false),
  aE (.bool false),
  eq (X2 b2 b4) (mC),
  je (X2 b2 b4) [mC],
  eq (X2 b2 b4) (cT [97] []),
  je (X2 b2 b4) [cT [97] []],
  eq (X2 b2 b4) (cT [102] [cT [97] []]),
  je (X2 b2 b4) [cT [102] [cT [97] []]],
  aE (.bool true),
  aE (.bool false),
  aE (.bool false),
  aE (.bool false),
  aI (X2 b2 b4) (nz),
  eq (X2 b2 b4) (am [63,120]),
  eq (X2 b2 b4) (am [122]),
  je (X2 b2 b4) [am [63,120],am [122]],
  aI (X2 b2 b4) (em [82] [am [63,120],am [122]]),
  eP (X2 b2 b4) [em [82] [am [63,120],am [122]]],
  aI (X2 b2 b4) (Fm.mk 9 [122] [] [em [82] [am [63,120],am [122]]]),
  aE (.bool true),
  aE (.bool false),
  aE (.bool false)]
  31 31 yB (by kernel_rfl) (by kernel_rfl) (fun k hk=>?_) (fun A11 γ sj h=>?_)
 ·exact match k,hk with
  | 0,_=>bP _ 3 (old rf)
  | 1,_=>f9 rfl 102 (.bool false) (af 0)
  | 2,_=>bP _ 103 (af 1)
  | 3,_=>bP _ 8 (old yA) (hw:=ai 2 (af 2))
  | 4,_=>f9 rfl 105 (.bool false) (af 3) (hw:=ai 2 (af 2))
  | 5,_=>lA rfl 104 106 (.bool false) (af 2) (af 4)
  | 6,_=>bP _ 107 (af 5)
  | 7,_=>bP _ 10 (old Yw) (hw:=ai 6 (af 6))
  | 8,_=>f9 rfl 109 (.bool false) (af 7) (hw:=ai 6 (af 6))
  | 9,_=>lA rfl 108 110 (.bool false) (af 6) (af 8)
  | 10,_=>bP _ 111 (af 9)
  | 11,_=>Q7 _ _ 9 Ky.drew.box (fun h=>h) (Ky.drew.at cq) (old Ky.drew.slot) (hw:=ai 10 (af 10))
  | 12,_=>km hL _ 113 (af 11) (hw:=ai 10 (af 10))
  | 13,_=>L2 [97] (hw:=ai 10 (af 10))
  | 14,_=>km hL _ 115 (af 13) (hw:=ai 10 (af 10))
  | 15,_=>zbm [102] [cT [97] []] 116 (af 14) (hw:=ai 10 (af 10))
  | 16,_=>km hL _ 117 (af 15) (hw:=ai 10 (af 10))
  | 17,_=>Q5 ([mC]) ([cT [102] [cT [97] []]]) ⟨by decide,by decide⟩ 114 118 (af 12) (af 16) (hw:=ai 10 (af 10)) (hp:=(rF zdy))
  | 18,_=>f9 rfl 119 (.bool false) (af 17) (hw:=ai 10 (af 10))
  | 19,_=>lA rfl 112 120 (.bool false) (af 10) (af 18)
  | 20,_=>bP _ 121 (af 19)
  | 21,_=>cB _ _ 4 Fc.drew.box (fun h=>h) (Fc.drew.at cq) (old Fc.drew.slot) (hw:=ai 20 (af 20))
  | 22,_=>ph [63,120] (hw:=ai 20 (af 20))
  | 23,_=>ph [122] (hw:=ai 20 (af 20))
  | 24,_=>mD hL _ _ 124 125 (af 22) (af 23) (hw:=ai 20 (af 20))
  | 25,_=>yz [82] [am [63,120],am [122]] 126 (af 24) (hw:=ai 20 (af 20))
  | 26,_=>eb hL _ 127 (af 25) (hw:=ai 20 (af 20))
  | 27,_=>kz 9 [122] [em [82] [am [63,120],am [122]]] 128 (af 26) (hw:=ai 20 (af 20))
  | 28,_=>uU (nz) (Fm.mk 9 [122] [] [em [82] [am [63,120],am [122]]]) ⟨by decide,by decide⟩ 123 129 (af 21) (af 27) (hw:=ai 20 (af 20)) (hp:=(rF zdx))
  | 29,_=>f9 rfl 130 (.bool false) (af 28) (hw:=ai 20 (af 20))
  | 30,_=>lA rfl 122 131 (.bool false) (af 20) (af 29)
  | k+31,hk=>absurd hk (by simp)
 have Tn:=h.sz.trans yB;have zdD:=h.df.trans Ib;have zbE:Below w.heap.size w sj:=aq AK.drew h.inv.1 (fun _ h=>h.elim);have Fd:=Yx.drew.nx (h.od 1) h.inv.1 cq;have Kz:=Yy.drew.nx (h.od 6) h.inv.1 cq;have KA:=Yz.drew.nx (h.od 7) h.inv.1 cq;have eJ:b2<sj.heap.size:=bN eJ h.inv.1.size;have jR:b4<sj.heap.size:=bN jR h.inv.1.size;have rf:=h.ol 3 rf;have yA:=h.ol 8 yA;obtain ⟨vc,tc,fc⟩:=h.get 30 _ 132 rfl rfl;obtain rfl:vc=.bool false:=fc;clear h;refine hK2 _ _ ?_;refine wpIn_cond_false (aG tc) (wpIn_skip ?_);refine hK _ _ ?_;clear hT hL jq cq;have hT:Tabs WB sj.drew:=fw.next (zbE.drew);have hL:∀ c,sj.drew.heap.size<=c->(X2 b2 b4) c:=fun c hc=>by have h:sj.heap.size<=c:=hc;exact ⟨⟨trivial,by omega⟩,by omega⟩
 have jq:∀ c,bQ c->WB.heap.size<=c:=fun _ h=>h.elim;have cq:∀ c,(X2 b2 b4) c->¬bQ c:=fun _ _ h=>h;refine bA (fun K hK=>?_);refine iz  [aI (X2 b2 b4) (Fm.mk 8 [120] [] [ji [63,65]]),
  aI (X2 b2 b4) (Fm.mk 8 [121] [] [Fm.mk 9 [122] [] [em [82] [am [121],am [122]]]]),
  xO (X2 b2 b4) (Fm.mk 8 [120] [] [ji [63,65]]) (Fm.mk 8 [121] [] [Fm.mk 9 [122] [] [em [82] [am [121],am [122]]]]),
  aI (X2 b2 b4) (Cp [63,65] [120] [63,116]),
  eq (X2 b2 b4) (am [122]),
  eq (X2 b2 b4) (am [122]),
  je (X2 b2 b4) [am [122],am [122]],
  aI (X2 b2 b4) (em [82] [am [122],am [122]]),
  eP (X2 b2 b4) [em [82] [am [122],am [122]]],
  aI (X2 b2 b4) (Fm.mk 9 [122] [] [em [82] [am [122],am [122]]]),
  xO (X2 b2 b4) (Cp [63,65] [120] [63,116]) (Fm.mk 9 [122] [] [em [82] [am [122],am [122]]]),
  E9 (X2 b2 b4) [(Fm.mk 8 [120] [] [ji [63,65]],Fm.mk 8 [121] [] [Fm.mk 9 [122] [] [em [82] [am [121],am [122]]]]),(Cp [63,65] [120] [63,116],Fm.mk 9 [122] [] [em [82] [am [122],am [122]]])],
  bG (X2 b2 b4) (⟨[],[]⟩),
  iy (bG (X2 b2 b4) (⟨[],[]⟩)) [.int .i64 1,.int .i64 70],
  iy (bG (X2 b2 b4) (⟨[],[]⟩)) [.int .i64 1,.int .i64 70],
  bG (X2 b2 b4) (⟨[],[]⟩),
  aE (.int .i64 1),
  aE (.int .i64 70),
  aE (.int .i64 1),
  aE (.int .i64 70)]
  20 20 Tn (by kernel_rfl) (by kernel_rfl) (fun k hk=>?_) (fun A13 γ lP h=>?_)
 ·exact match k,hk with
  | 0,_=>cB _ _ 6 Kz.drew.box (fun h=>h) (Kz.drew.at cq) (old Kz.drew.slot)
  | 1,_=>cB _ _ 7 KA.drew.box (fun h=>h) (KA.drew.at cq) (old KA.drew.slot)
  | 2,_=>m4 _ _ 134 135 (af 0) (af 1)
  | 3,_=>yK [63,65] [120] [63,116] hL
  | 4,_=>ph [122]
  | 5,_=>ph [122]
  | 6,_=>mD hL _ _ 138 139 (af 4) (af 5)
  | 7,_=>yz [82] [am [122],am [122]] 140 (af 6)
  | 8,_=>eb hL _ 141 (af 7)
  | 9,_=>kz 9 [122] [em [82] [am [122],am [122]]] 142 (af 8)
  | 10,_=>m4 _ _ 137 143 (af 3) (af 9)
  | 11,_=>uW hL _ _ _ _ 136 144 (af 2) (af 10)
  | 12,_=>cZ _ _ 1 Fd.drew.box (fun h=>h) (Fd.drew.at cq) (old Fd.drew.slot)
  | 13,_=>pi _ _ _ _ _ aw3 (by decide) Fb iS 145 146 hT jq hL (af 11) (af 12)
  | 14,_=>bP _ 147 (af 13)
  | 15,_=>ia _ _ 133 (af 14)
  | 16,_=>gY (bG (X2 b2 b4) (⟨[],[]⟩)) [.int .i64 1,.int .i64 70] 0 (.int .i64 1) rfl 133 (af 14)
  | 17,_=>gY (bG (X2 b2 b4) (⟨[],[]⟩)) [.int .i64 1,.int .i64 70] 1 (.int .i64 70) rfl 133 (af 14)
  | 18,_=>bq _ 149 (af 16)
  | 19,_=>bq _ 150 (af 17)
  | k+20,hk=>absurd hk (by simp)
 have zbF:=h.sz.trans Tn;have zdE:=h.df.trans zdD;have ix:Below w.heap.size w lP:=aq zbE.drew h.inv.1 (fun _ h=>h.elim);have AL:=Fd.drew.nx (h.od 1) h.inv.1 cq;have eJ:b2<lP.heap.size:=bN eJ h.inv.1.size;have jR:b4<lP.heap.size:=bN jR h.inv.1.size;obtain ⟨Yu,rf,Yv⟩:=h.get 19 _ 3 rfl rfl;obtain rfl:Yu=.int .i64 70:=Yv;obtain ⟨vz8,yA,fz8⟩:=h.get 18 _ 8 rfl rfl;obtain rfl:vz8=.int .i64 1:=fz8;clear h;refine hK _ _ ?_;clear hT hL jq cq;have hT:Tabs WB lP.drew:=fw.next (ix.drew);have hL:∀ c,lP.drew.heap.size<=c->(X2 b2 b4) c:=fun c hc=>by have h:lP.heap.size<=c:=hc;exact ⟨⟨trivial,by omega⟩,by omega⟩
 have jq:∀ c,bQ c->WB.heap.size<=c:=fun _ h=>h.elim;have cq:∀ c,(X2 b2 b4) c->¬bQ c:=fun _ _ h=>h;refine bA (fun K hK=>?_);refine iz  [aI (X2 b2 b4) (Cp [63,65] [120] [63,116]),
  eq (X2 b2 b4) (cT [97] []),
  je (X2 b2 b4) [cT [97] []],
  aI (X2 b2 b4) (em [80] [cT [97] []]),
  bG (X2 b2 b4) (⟨[],[]⟩),
  iy (bG (X2 b2 b4) (⟨[],[]⟩)) [.int .i64 71],
  iy (bG (X2 b2 b4) (⟨[],[]⟩)) [.int .i64 71],
  bG (X2 b2 b4) (⟨[],[]⟩),
  aE (.int .i64 71),
  mP #[.slice none 0 0,.slice none 0 0] 26,
  gL (bG (X2 b2 b4) (⟨[],[]⟩)) 26,
  aE (.int .i64 71)]
  9 10 zbF (by kernel_rfl) (by kernel_rfl) (fun k hk=>?_) (fun A14 γ Ma h=>?_)
 ·exact match k,hk with
  | 0,_=>yK [63,65] [120] [63,116] hL
  | 1,_=>L2 [97]
  | 2,_=>km hL _ 153 (af 1)
  | 3,_=>yz [80] [cT [97] []] 154 (af 2)
  | 4,_=>cZ _ _ 1 AL.drew.box (fun h=>h) (AL.drew.at cq) (old AL.drew.slot)
  | 5,_=>Hv _ _ _ _ _ _ aw4 ⟨by decide,by decide⟩ ⟨by decide,by decide⟩ iS 152 155 156 hT jq hL (af 0) (af 3) (af 4)
  | 6,_=>bP _ 157 (af 5)
  | 7,_=>ia _ _ 151 (af 6)
  | 8,_=>gY (bG (X2 b2 b4) (⟨[],[]⟩)) [.int .i64 71] 0 (.int .i64 71) rfl 151 (af 6)
  | 9,_=>ot rfl
  | 10,_=>ov _ 11 158 rfl (af 9) (af 7)
  | 11,_=>bq _ 159 (af 8)
  | k+12,hk=>absurd hk (by simp)
 have yC:=h.sz.trans zbF;have Ic:=h.df.trans zdE;have AM:Below w.heap.size w Ma:=aq ix.drew h.inv.1 (fun _ h=>h.elim);obtain ⟨vz,tz,fz⟩:=h.get 9 _ 11 rfl rfl;obtain ⟨ZZ,q11,lz,zbG⟩:=AI tz fz (h.did 10 _ rfl rfl) h.inv;have YA:=AL.drew.nx (h.od 1) h.inv.1 cq;have YB:ZZ≠b1:=by have:=(bn AL.drew.box);have h:lP.heap.size<=ZZ:=zbG;have h2:b1<lP.heap.size:=this;omega
 have zdF:b1≠ZZ:=fun e=>YB e.symm;have zeV:w.heap.size<=ZZ:=by have h1:lP.heap.size<=ZZ:=zbG;have h2:=ix.size;omega
 have zb7:LB (X2 b2 b4) A14 Ma 11 ZZ q11 _:=lz.next rfl (Kp.refl (M:=bQ) _) (fun h=>h) (fun _ _ h=>h) (fun _ h _=>h.1);have eJ:b2<Ma.heap.size:=bN eJ h.inv.1.size;have jR:b4<Ma.heap.size:=bN jR h.inv.1.size;have rf:=h.ol 3 rf;have yA:=h.ol 8 yA;obtain ⟨zdG,zdH,zdI⟩:=h.get 11 _ 12 rfl rfl;obtain rfl:zdG=.int .i64 71:=zdI;clear h;refine hK _ _ ?_;clear hT hL jq cq;have hT:Tabs WB Ma:=fw.next (AM);have hL:∀ c,Ma.heap.size<=c->(X2 b2 b4) c:=fun c hc=>by have h:Ma.heap.size<=c:=hc;exact ⟨⟨trivial,by omega⟩,by omega⟩
 have jq:∀ c,bQ c->WB.heap.size<=c:=fun _ h=>h.elim;have cq:∀ c,(X2 b2 b4) c->¬bQ c:=fun _ _ h=>h;refine bA (fun K hK=>?_);refine bA (fun K2 hK2=>?_);refine aY  [aE (.int .i64 1),
  aE (.bool false),
  aE (.bool false),
  aE (.int .i64 70),
  aE (.bool false),
  aE (.bool false),
  aE (.bool false),
  aE (.int .i64 71),
  aE (.bool false),
  aE (.bool false)]
  10 10 yC (by kernel_rfl) (fun k hk=>?_) (fun A15 γ Rf h=>?_)
 ·exact match k,hk with
  | 0,_=>bP _ 8 (old yA)
  | 1,_=>f9 rfl 160 (.bool false) (af 0)
  | 2,_=>bP _ 161 (af 1)
  | 3,_=>bP _ 3 (old rf) (hw:=ai 2 (af 2))
  | 4,_=>f9 rfl 163 (.bool false) (af 3) (hw:=ai 2 (af 2))
  | 5,_=>lA rfl 162 164 (.bool false) (af 2) (af 4)
  | 6,_=>bP _ 165 (af 5)
  | 7,_=>bP _ 12 (old zdH) (hw:=ai 6 (af 6))
  | 8,_=>f9 rfl 167 (.bool false) (af 7) (hw:=ai 6 (af 6))
  | 9,_=>lA rfl 166 168 (.bool false) (af 6) (af 8)
  | k+10,hk=>absurd hk (by simp)
 have zbH:=h.sz.trans yC;have zdJ:=h.df.trans Ic;have YC:Below w.heap.size w Rf:=aq AM h.inv.1 (fun _ h=>h.elim);have Rg:=YA.nx (h.od 1) h.inv.1 cq;have eJ:b2<Rf.heap.size:=bN eJ h.inv.1.size;have jR:b4<Rf.heap.size:=bN jR h.inv.1.size;have rf:=h.ol 3 rf;have yA:=h.ol 8 yA;obtain ⟨vc,tc,fc⟩:=h.get 9 _ 169 rfl rfl;obtain rfl:vc=.bool false:=fc;clear h;refine hK2 _ _ ?_;refine wpIn_cond_false (aG tc) (wpIn_skip ?_);refine hK _ _ ?_;clear hT hL jq cq;have hT:Tabs WB Rf:=fw.next (YC);have hL:∀ c,Rf.heap.size<=c->(X2 b2 b4) c:=fun c hc=>by have h:Rf.heap.size<=c:=hc;exact ⟨⟨trivial,by omega⟩,by omega⟩
 have jq:∀ c,bQ c->WB.heap.size<=c:=fun _ h=>h.elim;have cq:∀ c,(X2 b2 b4) c->¬bQ c:=fun _ _ h=>h;refine bA (fun K hK=>?_);refine aY  [aI (X2 b2 b4) (ji [63,65]),
  aI (X2 b2 b4) (ji [63,66]),
  eP (X2 b2 b4) [ji [63,65],ji [63,66]],
  aI (X2 b2 b4) (Fm.mk 5 [] [] [ji [63,65],ji [63,66]]),
  eP (X2 b2 b4) [Fm.mk 5 [] [] [ji [63,65],ji [63,66]]],
  aI (X2 b2 b4) (Fm.mk 8 [120] [] [Fm.mk 5 [] [] [ji [63,65],ji [63,66]]]),
  mP #[.int .u8 0,.string ⟨#[]⟩,.slice none 0 0,.slice none 0 0] 36,
  gL (aI (X2 b2 b4) (Fm.mk 8 [120] [] [Fm.mk 5 [] [] [ji [63,65],ji [63,66]]])) 36]
  6 7 zbH (by kernel_rfl) (fun k hk=>?_) (fun A17 γ TT h=>?_)
 ·exact match k,hk with
  | 0,_=>AG [63,65]
  | 1,_=>AG [63,66]
  | 2,_=>rd hL _ _ 170 171 (af 0) (af 1)
  | 3,_=>kz 5 [] [ji [63,65],ji [63,66]] 172 (af 2)
  | 4,_=>eb hL _ 173 (af 3)
  | 5,_=>kz 8 [120] [Fm.mk 5 [] [] [ji [63,65],ji [63,66]]] 174 (af 4)
  | 6,_=>gT rfl
  | 7,_=>gU _ 13 175 rfl (af 6) (af 5)
  | k+8,hk=>absurd hk (by simp)
 have zbI:=h.sz.trans zbH;have zdK:=h.df.trans zdJ;have zbJ:Below w.heap.size w TT:=aq YC h.inv.1 (fun _ h=>h.elim);obtain ⟨vz,tz,fz⟩:=h.get 6 _ 13 rfl rfl;obtain ⟨Z0,q13,lz,zbK⟩:=nA tz fz (h.did 7 _ rfl rfl) h.inv;have KB:=Rg.nx (h.od 1) h.inv.1 cq;have YD:Z0≠b1:=by have:=(bn Rg.box);have h:Rf.heap.size<=Z0:=zbK;have h2:b1<Rf.heap.size:=this;omega
 have zdL:b1≠Z0:=fun e=>YD e.symm;have zeW:w.heap.size<=Z0:=by have h1:Rf.heap.size<=Z0:=zbK;have h2:=YC.size;omega
 have Fe:LF (X2 b2 b4) A17 TT 13 Z0 q13 _:=lz.next rfl (Kp.refl (M:=bQ) _) (fun h=>h) (fun _ _ h=>h) (fun _ h _=>h.1);have eJ:b2<TT.heap.size:=bN eJ h.inv.1.size;have jR:b4<TT.heap.size:=bN jR h.inv.1.size;have rf:=h.ol 3 rf;have yA:=h.ol 8 yA;clear h;refine hK _ _ ?_;clear hT hL jq cq;have hT:Tabs WB TT.drew:=fw.next (zbJ.drew);have hL:∀ c,TT.drew.heap.size<=c->(X2 b2 b4) c:=fun c hc=>by have h:TT.heap.size<=c:=hc;exact ⟨⟨trivial,by omega⟩,by omega⟩
 have jq:∀ c,bQ c->WB.heap.size<=c:=fun _ h=>h.elim;have cq:∀ c,(X2 b2 b4) c->¬bQ c:=fun _ _ h=>h;refine bA (fun K hK=>?_);refine iz  [aI (X2 b2 b4) (Fm.mk 8 [120] [] [Fm.mk 5 [] [] [ji [63,65],ji [63,66]]]),
  eq (X2 b2 b4) (am [121]),
  je (X2 b2 b4) [am [121]],
  aI (X2 b2 b4) (em [80] [am [121]]),
  eq (X2 b2 b4) (am [121]),
  je (X2 b2 b4) [am [121]],
  aI (X2 b2 b4) (em [80] [am [121]]),
  eP (X2 b2 b4) [em [80] [am [121]],em [80] [am [121]]],
  aI (X2 b2 b4) (Fm.mk 5 [] [] [em [80] [am [121]],em [80] [am [121]]]),
  eP (X2 b2 b4) [Fm.mk 5 [] [] [em [80] [am [121]],em [80] [am [121]]]],
  aI (X2 b2 b4) (Fm.mk 8 [121] [] [Fm.mk 5 [] [] [em [80] [am [121]],em [80] [am [121]]]]),
  xO (X2 b2 b4) (Fm.mk 8 [120] [] [Fm.mk 5 [] [] [ji [63,65],ji [63,66]]]) (Fm.mk 8 [121] [] [Fm.mk 5 [] [] [em [80] [am [121]],em [80] [am [121]]]]),
  aI (X2 b2 b4) (ji [63,65]),
  eq (X2 b2 b4) (am [121]),
  je (X2 b2 b4) [am [121]],
  aI (X2 b2 b4) (em [80] [am [121]]),
  xO (X2 b2 b4) (ji [63,65]) (em [80] [am [121]]),
  E9 (X2 b2 b4) [(Fm.mk 8 [120] [] [Fm.mk 5 [] [] [ji [63,65],ji [63,66]]],Fm.mk 8 [121] [] [Fm.mk 5 [] [] [em [80] [am [121]],em [80] [am [121]]]]),(ji [63,65],em [80] [am [121]])],
  bG (X2 b2 b4) (⟨[],[]⟩),
  iy (bG (X2 b2 b4) (⟨[],[]⟩)) [.int .i64 1,.int .i64 70],
  iy (bG (X2 b2 b4) (⟨[],[]⟩)) [.int .i64 1,.int .i64 70],
  bG (X2 b2 b4) (⟨[],[]⟩),
  aE (.int .i64 1),
  aE (.int .i64 70),
  aE (.int .i64 1),
  aE (.int .i64 70)]
  26 26 zbI (by kernel_rfl) (by kernel_rfl) (fun k hk=>?_) (fun A18 γ Mb h=>?_)
 ·exact match k,hk with
  | 0,_=>cB _ _ 13 Fe.drew.box (fun h=>h) (Fe.drew.at cq) (old Fe.drew.slot)
  | 1,_=>ph [121]
  | 2,_=>km hL _ 178 (af 1)
  | 3,_=>yz [80] [am [121]] 179 (af 2)
  | 4,_=>ph [121]
  | 5,_=>km hL _ 181 (af 4)
  | 6,_=>yz [80] [am [121]] 182 (af 5)
  | 7,_=>rd hL _ _ 180 183 (af 3) (af 6)
  | 8,_=>kz 5 [] [em [80] [am [121]],em [80] [am [121]]] 184 (af 7)
  | 9,_=>eb hL _ 185 (af 8)
  | 10,_=>kz 8 [121] [Fm.mk 5 [] [] [em [80] [am [121]],em [80] [am [121]]]] 186 (af 9)
  | 11,_=>m4 _ _ 177 187 (af 0) (af 10)
  | 12,_=>AG [63,65]
  | 13,_=>ph [121]
  | 14,_=>km hL _ 190 (af 13)
  | 15,_=>yz [80] [am [121]] 191 (af 14)
  | 16,_=>m4 _ _ 189 192 (af 12) (af 15)
  | 17,_=>uW hL _ _ _ _ 188 193 (af 11) (af 16)
  | 18,_=>cZ _ _ 1 KB.drew.box (fun h=>h) (KB.drew.at cq) (old KB.drew.slot)
  | 19,_=>pi _ _ _ _ _ aw5 (by decide) Fb iS 194 195 hT jq hL (af 17) (af 18)
  | 20,_=>bP _ 196 (af 19)
  | 21,_=>ia _ _ 176 (af 20)
  | 22,_=>gY (bG (X2 b2 b4) (⟨[],[]⟩)) [.int .i64 1,.int .i64 70] 0 (.int .i64 1) rfl 176 (af 20)
  | 23,_=>gY (bG (X2 b2 b4) (⟨[],[]⟩)) [.int .i64 1,.int .i64 70] 1 (.int .i64 70) rfl 176 (af 20)
  | 24,_=>bq _ 198 (af 22)
  | 25,_=>bq _ 199 (af 23)
  | k+26,hk=>absurd hk (by simp)
 have yD:=h.sz.trans zbI;have Ie:=h.df.trans zdK;have yE:Below w.heap.size w Mb:=aq zbJ.drew h.inv.1 (fun _ h=>h.elim);have eJ:b2<Mb.heap.size:=bN eJ h.inv.1.size;have jR:b4<Mb.heap.size:=bN jR h.inv.1.size;obtain ⟨Yu,rf,Yv⟩:=h.get 25 _ 3 rfl rfl;obtain rfl:Yu=.int .i64 70:=Yv;obtain ⟨vz8,yA,fz8⟩:=h.get 24 _ 8 rfl rfl;obtain rfl:vz8=.int .i64 1:=fz8;clear h;refine hK _ _ ?_;clear hT hL jq cq;have hT:Tabs WB Mb:=fw.next (yE);have hL:∀ c,Mb.heap.size<=c->(X2 b2 b4) c:=fun c hc=>by have h:Mb.heap.size<=c:=hc;exact ⟨⟨trivial,by omega⟩,by omega⟩
 have jq:∀ c,bQ c->WB.heap.size<=c:=fun _ h=>h.elim;have cq:∀ c,(X2 b2 b4) c->¬bQ c:=fun _ _ h=>h;refine bA (fun K hK=>?_);refine aY  [eq (X2 b2 b4) (am [63,120]),
  eq (X2 b2 b4) (am [120]),
  je (X2 b2 b4) [am [63,120],am [120]],
  aI (X2 b2 b4) (em [80] [am [63,120],am [120]]),
  fFB (X2 b2 b4) [63,65] (em [80] [am [63,120],am [120]]),
  NK (X2 b2 b4) [([63,65],em [80] [am [63,120],am [120]])],
  eq (X2 b2 b4) (am [120]),
  fTB (X2 b2 b4) [63,116] (am [120]),
  Yj (X2 b2 b4) [([63,116],am [120])],
  bG (X2 b2 b4) (⟨[([63,65],em [80] [am [63,120],am [120]])],[([63,116],am [120])]⟩),
  mP #[.slice none 0 0,.slice none 0 0] 26,
  gL (bG (X2 b2 b4) (⟨[([63,65],em [80] [am [63,120],am [120]])],[([63,116],am [120])]⟩)) 26]
  10 11 yD (by kernel_rfl) (fun k hk=>?_) (fun A19 γ OB h=>?_)
 ·exact match k,hk with
  | 0,_=>ph [63,120]
  | 1,_=>ph [120]
  | 2,_=>mD hL _ _ 200 201 (af 0) (af 1)
  | 3,_=>yz [80] [am [63,120],am [120]] 202 (af 2)
  | 4,_=>Hx [63,65] _ 203 (af 3)
  | 5,_=>Hw _ _ 204 hL (af 4)
  | 6,_=>ph [120]
  | 7,_=>Q6 [63,116] _ 206 (af 6)
  | 8,_=>AH _ _ 207 hL (af 7)
  | 9,_=>TS _ _ 205 208 (af 5) (af 8)
  | 10,_=>ot rfl
  | 11,_=>ov _ 14 209 rfl (af 10) (af 9)
  | k+12,hk=>absurd hk (by simp)
 have zbL:=h.sz.trans yD;have zdM:=h.df.trans Ie;have YE:Below w.heap.size w OB:=aq yE h.inv.1 (fun _ h=>h.elim);obtain ⟨vz,tz,fz⟩:=h.get 10 _ 14 rfl rfl;obtain ⟨NQ,q14,lz,zdN⟩:=AI tz fz (h.did 11 _ rfl rfl) h.inv;have zeX:w.heap.size<=NQ:=by have h1:Mb.heap.size<=NQ:=zdN;have h2:=yE.size;omega
 have uZ:LB (X2 b2 b4) A19 OB 14 NQ q14 _:=lz.next rfl (Kp.refl (M:=bQ) _) (fun h=>h) (fun _ _ h=>h) (fun _ h _=>h.1);have eJ:b2<OB.heap.size:=bN eJ h.inv.1.size;have jR:b4<OB.heap.size:=bN jR h.inv.1.size;have rf:=h.ol 3 rf;have yA:=h.ol 8 yA;clear h;refine hK _ _ ?_;clear hT hL jq cq;have hT:Tabs WB OB.drew:=fw.next (YE.drew);have hL:∀ c,OB.drew.heap.size<=c->(X2 b2 b4) c:=fun c hc=>by have h:OB.heap.size<=c:=hc;exact ⟨⟨trivial,by omega⟩,by omega⟩
 have jq:∀ c,bQ c->WB.heap.size<=c:=fun _ h=>h.elim;have cq:∀ c,(X2 b2 b4) c->¬bQ c:=fun _ _ h=>h;refine bA (fun K hK=>?_);refine iz  [aI (X2 b2 b4) (ji [63,65]),
  eP (X2 b2 b4) [ji [63,65]],
  aI (X2 b2 b4) (Fm.mk 9 [120] [] [ji [63,65]]),
  bG (X2 b2 b4) (⟨[([63,65],em [80] [am [63,120],am [120]])],[([63,116],am [120])]⟩),
  iy (aI (X2 b2 b4) (Cq)) [.int .i64 0],
  iy (aI (X2 b2 b4) (Cq)) [.int .i64 0],
  aI (X2 b2 b4) (Cq),
  aE (.int .i64 0),
  mP #[.int .u8 0,.string ⟨#[]⟩,.slice none 0 0,.slice none 0 0] 36,
  gL (aI (X2 b2 b4) (Cq)) 36,
  aE (.int .i64 0)]
  8 9 zbL (by kernel_rfl) (by kernel_rfl) (fun k hk=>?_) (fun A20 γ FP h=>?_)
 ·exact match k,hk with
  | 0,_=>AG [63,65]
  | 1,_=>eb hL _ 211 (af 0)
  | 2,_=>kz 9 [120] [ji [63,65]] 212 (af 1)
  | 3,_=>cZ _ _ 14 uZ.drew.box (fun h=>h) (uZ.drew.at cq) (old uZ.drew.slot)
  | 4,_=>uV _ _ _ _ aw6 ⟨by decide,by decide⟩ uY 213 214 hT jq hL (af 2) (af 3)
  | 5,_=>bP _ 215 (af 4)
  | 6,_=>ia _ _ 210 (af 5)
  | 7,_=>gY (aI (X2 b2 b4) (Cq)) [.int .i64 0] 0 (.int .i64 0) rfl 210 (af 5)
  | 8,_=>gT rfl
  | 9,_=>gU _ 15 216 rfl (af 8) (af 6)
  | 10,_=>bq _ 217 (af 7)
  | k+11,hk=>absurd hk (by simp)
 have If:=h.sz.trans zbL;have Rh:=h.df.trans zdM;have KC:Below w.heap.size w FP:=aq YE.drew h.inv.1 (fun _ h=>h.elim);obtain ⟨vz,tz,fz⟩:=h.get 8 _ 15 rfl rfl;obtain ⟨OC,q15,lz,zbM⟩:=nA tz fz (h.did 9 _ rfl rfl) h.inv;have u_:=uZ.drew.nx (h.od 14) h.inv.1 cq;have TU:OC≠NQ:=by have:=(bn uZ.drew.box);have h:OB.heap.size<=OC:=zbM;have h2:NQ<OB.heap.size:=this;omega
 have zb8:NQ≠OC:=fun e=>TU e.symm;have zeY:w.heap.size<=OC:=by have h1:OB.heap.size<=OC:=zbM;have h2:=YE.size;omega
 have Mc:LF (X2 b2 b4) A20 FP 15 OC q15 _:=lz.next rfl (Kp.refl (M:=bQ) _) (fun h=>h) (fun _ _ h=>h) (fun _ h _=>h.1);have eJ:b2<FP.heap.size:=bN eJ h.inv.1.size;have jR:b4<FP.heap.size:=bN jR h.inv.1.size;have rf:=h.ol 3 rf;have yA:=h.ol 8 yA;obtain ⟨zdO,Ri,zdP⟩:=h.get 10 _ 16 rfl rfl;obtain rfl:zdO=.int .i64 0:=zdP;clear h;refine hK _ _ ?_;clear hT hL jq cq;have hT:Tabs WB FP.drew:=fw.next (KC.drew);have hL:∀ c,FP.drew.heap.size<=c->(X2 b2 b4) c:=fun c hc=>by have h:FP.heap.size<=c:=hc;exact ⟨⟨trivial,by omega⟩,by omega⟩
 have jq:∀ c,bQ c->WB.heap.size<=c:=fun _ h=>h.elim;have cq:∀ c,(X2 b2 b4) c->¬bQ c:=fun _ _ h=>h;refine bA (fun K hK=>?_);refine iz  [aI (X2 b2 b4) (Cp [63,65] [120] [63,116]),
  bG (X2 b2 b4) (⟨[([63,65],em [80] [am [63,120],am [120]])],[([63,116],am [120])]⟩),
  iy (aI (X2 b2 b4) (Cr)) [.int .i64 0],
  iy (aI (X2 b2 b4) (Cr)) [.int .i64 0],
  aI (X2 b2 b4) (Cr),
  aE (.int .i64 0),
  mP #[.int .u8 0,.string ⟨#[]⟩,.slice none 0 0,.slice none 0 0] 36,
  gL (aI (X2 b2 b4) (Cr)) 36,
  aE (.int .i64 0)]
  6 7 If (by kernel_rfl) (by kernel_rfl) (fun k hk=>?_) (fun A21 γ IV h=>?_)
 ·exact match k,hk with
  | 0,_=>yK [63,65] [120] [63,116] hL
  | 1,_=>cZ _ _ 14 u_.drew.box (fun h=>h) (u_.drew.at cq) (old u_.drew.slot)
  | 2,_=>uV _ _ _ _ aw7 ⟨by decide,by decide⟩ uY 219 220 hT jq hL (af 0) (af 1)
  | 3,_=>bP _ 221 (af 2)
  | 4,_=>ia _ _ 218 (af 3)
  | 5,_=>gY (aI (X2 b2 b4) (Cr)) [.int .i64 0] 0 (.int .i64 0) rfl 218 (af 3)
  | 6,_=>gT rfl
  | 7,_=>gU _ 17 222 rfl (af 6) (af 4)
  | 8,_=>bq _ 223 (af 5)
  | k+9,hk=>absurd hk (by simp)
 have zbN:=h.sz.trans If;have zdQ:=h.df.trans Rh;have YF:Below w.heap.size w IV:=aq KC.drew h.inv.1 (fun _ h=>h.elim);obtain ⟨vz,tz,fz⟩:=h.get 6 _ 17 rfl rfl;obtain ⟨OD,q17,lz,YG⟩:=nA tz fz (h.did 7 _ rfl rfl) h.inv;have vd:=u_.drew.nx (h.od 14) h.inv.1 cq;have Md:=Mc.drew.nx (h.od 15) h.inv.1 cq;have TV:OD≠NQ:=by have:=(bn u_.drew.box);have h:FP.heap.size<=OD:=YG;have h2:NQ<FP.heap.size:=this;omega
 have zb9:NQ≠OD:=fun e=>TV e.symm;have TW:OD≠OC:=by have:=(bn Mc.drew.box);have h:FP.heap.size<=OD:=YG;have h2:OC<FP.heap.size:=this;omega
 have zca:OC≠OD:=fun e=>TW e.symm;have zeZ:w.heap.size<=OD:=by have h1:FP.heap.size<=OD:=YG;have h2:=KC.size;omega
 have Me:LF (X2 b2 b4) A21 IV 17 OD q17 _:=lz.next rfl (Kp.refl (M:=bQ) _) (fun h=>h) (fun _ _ h=>h) (fun _ h _=>h.1);have eJ:b2<IV.heap.size:=bN eJ h.inv.1.size;have jR:b4<IV.heap.size:=bN jR h.inv.1.size;have rf:=h.ol 3 rf;have yA:=h.ol 8 yA;have Ri:=h.ol 16 Ri;obtain ⟨zdR,YH,zdS⟩:=h.get 8 _ 18 rfl rfl;obtain rfl:zdR=.int .i64 0:=zdS;clear h;refine hK _ _ ?_;clear hT hL jq cq;have hT:Tabs WB IV.drew:=fw.next (YF.drew);have hL:∀ c,IV.drew.heap.size<=c->(X2 b2 b4) c:=fun c hc=>by have h:IV.heap.size<=c:=hc;exact ⟨⟨trivial,by omega⟩,by omega⟩
 have jq:∀ c,bQ c->WB.heap.size<=c:=fun _ h=>h.elim;have cq:∀ c,(X2 b2 b4) c->¬bQ c:=fun _ _ h=>h;refine bA (fun K hK=>?_);refine iz  [aI (X2 b2 b4) (ji [63,65]),
  bG (X2 b2 b4) (⟨[([63,65],em [80] [am [63,120],am [120]])],[([63,116],am [120])]⟩),
  iy (aI (X2 b2 b4) (gB)) [.int .i64 72],
  iy (aI (X2 b2 b4) (gB)) [.int .i64 72],
  aI (X2 b2 b4) (gB),
  aE (.int .i64 72),
  mP #[.int .u8 0,.string ⟨#[]⟩,.slice none 0 0,.slice none 0 0] 36,
  gL (aI (X2 b2 b4) (gB)) 36,
  aE (.int .i64 72)]
  6 7 zbN (by kernel_rfl) (by kernel_rfl) (fun k hk=>?_) (fun A22 γ Se h=>?_)
 ·exact match k,hk with
  | 0,_=>AG [63,65]
  | 1,_=>cZ _ _ 14 vd.drew.box (fun h=>h) (vd.drew.at cq) (old vd.drew.slot)
  | 2,_=>uV _ _ _ _ aw8 ⟨by decide,by decide⟩ uY 225 226 hT jq hL (af 0) (af 1)
  | 3,_=>bP _ 227 (af 2)
  | 4,_=>ia _ _ 224 (af 3)
  | 5,_=>gY (aI (X2 b2 b4) (gB)) [.int .i64 72] 0 (.int .i64 72) rfl 224 (af 3)
  | 6,_=>gT rfl
  | 7,_=>gU _ 19 228 rfl (af 6) (af 4)
  | 8,_=>bq _ 229 (af 5)
  | k+9,hk=>absurd hk (by simp)
 have NR:=h.sz.trans zbN;have TX:=h.df.trans zdQ;have NS:Below w.heap.size w Se:=aq YF.drew h.inv.1 (fun _ h=>h.elim);obtain ⟨vz,tz,fz⟩:=h.get 6 _ 19 rfl rfl;obtain ⟨OE,q19,lz,TY⟩:=nA tz fz (h.did 7 _ rfl rfl) h.inv;have Ff:=vd.drew.nx (h.od 14) h.inv.1 cq;have Fg:=Md.drew.nx (h.od 15) h.inv.1 cq;have Fh:=Me.drew.nx (h.od 17) h.inv.1 cq;have TZ:OE≠NQ:=by have:=(bn vd.drew.box);have h:IV.heap.size<=OE:=TY;have h2:NQ<IV.heap.size:=this;omega
 have zcb:NQ≠OE:=fun e=>TZ e.symm;have T0:OE≠OC:=by have:=(bn Md.drew.box);have h:IV.heap.size<=OE:=TY;have h2:OC<IV.heap.size:=this;omega
 have zcc:OC≠OE:=fun e=>T0 e.symm;have T1:OE≠OD:=by have:=(bn Me.drew.box);have h:IV.heap.size<=OE:=TY;have h2:OD<IV.heap.size:=this;omega
 have zcd:OD≠OE:=fun e=>T1 e.symm;have ze0:w.heap.size<=OE:=by have h1:IV.heap.size<=OE:=TY;have h2:=YF.size;omega
 have zce:LF (X2 b2 b4) A22 Se 19 OE q19 _:=lz.next rfl (Kp.refl (M:=bQ) _) (fun h=>h) (fun _ _ h=>h) (fun _ h _=>h.1);have eJ:b2<Se.heap.size:=bN eJ h.inv.1.size;have jR:b4<Se.heap.size:=bN jR h.inv.1.size;have rf:=h.ol 3 rf;have yA:=h.ol 8 yA;have Ri:=h.ol 16 Ri;have YH:=h.ol 18 YH;obtain ⟨zdT,zdU,zdV⟩:=h.get 8 _ 20 rfl rfl;obtain rfl:zdT=.int .i64 72:=zdV;clear h;refine hK _ _ ?_;clear hT hL jq cq;have hT:Tabs WB Se.drew:=fw.next (NS.drew);have hL:∀ c,Se.drew.heap.size<=c->(X2 b2 b4) c:=fun c hc=>by have h:Se.heap.size<=c:=hc;exact ⟨⟨trivial,by omega⟩,by omega⟩
 have jq:∀ c,bQ c->WB.heap.size<=c:=fun _ h=>h.elim;have cq:∀ c,(X2 b2 b4) c->¬bQ c:=fun _ _ h=>h;refine bA (fun K hK=>?_);refine iz  [aE (.int .i64 1),
  aE (.bool true),
  aE (.bool true),
  aE (.int .i64 70),
  aE (.bool true),
  aE (.bool true),
  aE (.bool true),
  aE (.int .i64 0),
  aE (.bool true),
  aE (.bool true),
  aE (.bool true),
  aE (.int .i64 0),
  aE (.bool true),
  aE (.bool true),
  aE (.bool true),
  aI (X2 b2 b4) (Cq),
  eq (X2 b2 b4) (am [120,49]),
  eq (X2 b2 b4) (am [120]),
  je (X2 b2 b4) [am [120,49],am [120]],
  aI (X2 b2 b4) (em [80] [am [120,49],am [120]]),
  eP (X2 b2 b4) [em [80] [am [120,49],am [120]]],
  aI (X2 b2 b4) (Fm.mk 9 [120,49] [] [em [80] [am [120,49],am [120]]]),
  aE (.bool true),
  aE (.bool true),
  aE (.bool true),
  aI (X2 b2 b4) (Cr),
  eq (X2 b2 b4) (am [120]),
  eq (X2 b2 b4) (am [120]),
  je (X2 b2 b4) [am [120],am [120]],
  aI (X2 b2 b4) (em [80] [am [120],am [120]]),
  aE (.bool true),
  aE (.bool true),
  aE (.bool true),
  aE (.int .i64 72),
  aE (.bool true),
  aE (.bool true),
  aE (.bool true),
  bG (X2 b2 b4) (⟨[([63,65],em [80] [am [63,120],am [120]])],[([63,116],am [120])]⟩),
  aE (.bool true),
  aE (.bool true),
  aE (.bool true)]
  41 41 NR (by kernel_rfl) (by kernel_rfl) (fun k hk=>?_) (fun A23 γ YI h=>?_)
 ·exact match k,hk with
  | 0,_=>bP _ 8 (old yA)
  | 1,_=>f9 rfl 230 (.bool true) (af 0)
  | 2,_=>bP _ 231 (af 1)
  | 3,_=>bP _ 3 (old rf) (hw:=ai 2 (af 2))
  | 4,_=>f9 rfl 233 (.bool true) (af 3) (hw:=ai 2 (af 2))
  | 5,_=>lA rfl 232 234 (.bool true) (af 2) (af 4)
  | 6,_=>bP _ 235 (af 5)
  | 7,_=>bP _ 16 (old Ri) (hw:=ai 6 (af 6))
  | 8,_=>f9 rfl 237 (.bool true) (af 7) (hw:=ai 6 (af 6))
  | 9,_=>lA rfl 236 238 (.bool true) (af 6) (af 8)
  | 10,_=>bP _ 239 (af 9)
  | 11,_=>bP _ 18 (old YH) (hw:=ai 10 (af 10))
  | 12,_=>f9 rfl 241 (.bool true) (af 11) (hw:=ai 10 (af 10))
  | 13,_=>lA rfl 240 242 (.bool true) (af 10) (af 12)
  | 14,_=>bP _ 243 (af 13)
  | 15,_=>cB _ _ 15 Fg.drew.box (fun h=>h) (Fg.drew.at cq) (old Fg.drew.slot) (hw:=ai 14 (af 14))
  | 16,_=>ph [120,49] (hw:=ai 14 (af 14))
  | 17,_=>ph [120] (hw:=ai 14 (af 14))
  | 18,_=>mD hL _ _ 246 247 (af 16) (af 17) (hw:=ai 14 (af 14))
  | 19,_=>yz [80] [am [120,49],am [120]] 248 (af 18) (hw:=ai 14 (af 14))
  | 20,_=>eb hL _ 249 (af 19) (hw:=ai 14 (af 14))
  | 21,_=>kz 9 [120,49] [em [80] [am [120,49],am [120]]] 250 (af 20) (hw:=ai 14 (af 14))
  | 22,_=>uU (Cq) (Fm.mk 9 [120,49] [] [em [80] [am [120,49],am [120]]]) ⟨by decide,by decide⟩ 245 251 (af 15) (af 21) (hw:=ai 14 (af 14)) (hp:=(rF zdz))
  | 23,_=>lA rfl 244 252 (.bool true) (af 14) (af 22)
  | 24,_=>bP _ 253 (af 23)
  | 25,_=>cB _ _ 17 Fh.drew.box (fun h=>h) (Fh.drew.at cq) (old Fh.drew.slot) (hw:=ai 24 (af 24))
  | 26,_=>ph [120] (hw:=ai 24 (af 24))
  | 27,_=>ph [120] (hw:=ai 24 (af 24))
  | 28,_=>mD hL _ _ 256 257 (af 26) (af 27) (hw:=ai 24 (af 24))
  | 29,_=>yz [80] [am [120],am [120]] 258 (af 28) (hw:=ai 24 (af 24))
  | 30,_=>uU (Cr) (em [80] [am [120],am [120]]) ⟨by decide,by decide⟩ 255 259 (af 25) (af 29) (hw:=ai 24 (af 24)) (hp:=(rF zdA))
  | 31,_=>lA rfl 254 260 (.bool true) (af 24) (af 30)
  | 32,_=>bP _ 261 (af 31)
  | 33,_=>bP _ 20 (old zdU) (hw:=ai 32 (af 32))
  | 34,_=>f9 rfl 263 (.bool true) (af 33) (hw:=ai 32 (af 32))
  | 35,_=>lA rfl 262 264 (.bool true) (af 32) (af 34)
  | 36,_=>bP _ 265 (af 35)
  | 37,_=>cZ _ _ 14 Ff.drew.box (fun h=>h) (Ff.drew.at cq) (old Ff.drew.slot) (hw:=ai 36 (af 36))
  | 38,_=>q_ _ uY 267 hT jq (af 37) (hw:=ai 36 (af 36)) (hp:=(rF aw9))
  | 39,_=>lA rfl 266 268 (.bool true) (af 36) (af 38)
  | 40,_=>bq _ 269 (af 39)
  | k+41,hk=>absurd hk (by simp)
 have KD:=h.sz.trans NR;have NT:=h.df.trans TX;have Ig:Below w.heap.size w YI:=aq NS.drew h.inv.1 (fun _ h=>h.elim);have eJ:b2<YI.heap.size:=bN eJ h.inv.1.size;have jR:b4<YI.heap.size:=bN jR h.inv.1.size;obtain ⟨vc,tc,fc⟩:=h.get 40 _ 0 rfl rfl;obtain rfl:vc=.bool true:=fc;refine hK _ _ ?_;refine wpIn_ret ?_;refine bI (v:=.bool true) (by simp[results,Tryz.results12,go_sem,tc]) NT ⟨rfl,Ig⟩
end
mutual
def VD:Tm->Nat | .mk _ n a=>1+n.length / 40+vh a
def vh:List Tm->Nat | []=>0 | t :: l=>VD t+vh l
end
mutual
def Sf:Fm->Nat | .mk _ n a s=>1+n.length / 40+vh a+vi s
def vi:List Fm->Nat | []=>0 | t :: l=>Sf t+vi l
end
mutual
theorem YJ (p:Nat):∀ t,jN p t=true->VD t<=nodesT t * (1+p / 40)
 | .mk v n a,h=>by
  simp only[jN,ae,bw]at h;have h1:=yM p a h.2;have h2:n.length / 40<=p / 40:=Nat.div_le_div_right h.1;have e:(nodesTs a+1) * (1+p / 40)=nodesTs a * (1+p / 40)+(1+p / 40):=by rw[Nat.add_mul,Nat.one_mul]
  unfold VD nodesT;omega
theorem yM (p:Nat):∀ l,nmTs p l=true->vh l<=nodesTs l * (1+p / 40)
 | [],_=>by simp[vh]
 | t :: l,h=>by
  simp only[nmTs,ae]at h;have h1:=YJ p t h.1;have h2:=yM p l h.2;have e:(nodesT t+nodesTs l) * (1+p / 40)=nodesT t * (1+p / 40)+nodesTs l * (1+p / 40):=Nat.add_mul _ _ _;unfold vh nodesTs;omega
end
mutual
theorem Rj (p:Nat):∀ t,kT p t=true->Sf t<=nodesF t * (1+p / 40)
 | .mk o n a s,h=>by
  simp only[kT,ae,bw]at h;have h1:=yM p a h.2.2.1;have h3:=Fi p s h.2.2.2;have h2:n.length / 40<=p / 40:=Nat.div_le_div_right h.2.1;have e:(nodesTs a+nodesFs s+1) * (1+p / 40)=nodesTs a * (1+p / 40)+nodesFs s * (1+p / 40)+(1+p / 40):=by rw[Nat.add_mul,Nat.add_mul,Nat.one_mul]
  unfold Sf nodesF;omega
theorem Fi (p:Nat):∀ l,nmFs p l=true->vi l<=nodesFs l * (1+p / 40)
 | [],_=>by simp[vi]
 | t :: l,h=>by
  simp only[nmFs,ae]at h;have h1:=Rj p t h.1;have h2:=Fi p l h.2;have e:(nodesF t+nodesFs l) * (1+p / 40)=nodesF t * (1+p / 40)+nodesFs l * (1+p / 40):=Nat.add_mul _ _ _;unfold vi nodesFs;omega
end
theorem fitTs.sz {l:List Tm} (h:fitTs l):vh l<=100002000000:=aQ (yM _ l h.2) (by have:=h.1;omega)
theorem fitFs.sz {l:List Fm} (h:fitFs l):vi l<=100002000000:=aQ (Fi _ l h.2) (by have:=h.1;omega)
theorem fitF.sz {f:Fm} (h:fitF f):Sf f<=100002000000:=aQ (Rj _ f h.2) (by have:=h.1;omega)
mutual
def KE:Tm->Int->Nat | .mk _ n a,left=>1+n.length / 40+jr a left 0
def jr:List Tm->Int->Nat->Nat
 | [],_,n=>n
 | t :: r,left,n=>if (n:Int)<=left then jr r left (n+KE t (left - n)) else n
end
mutual
def AN:Fm->Int->Nat | .mk _ n a s,left=>eI s left (1+n.length / 40+jr a left 0)
def eI:List Fm->Int->Nat->Nat
 | [],_,n=>n
 | t :: r,left,n=>if (n:Int)<=left then eI r left (n+AN t (left - n)) else n
end
theorem KF (l:List Tm) (h:¬(n:Int)<=left):jr l left n=n:=by
 cases l <;> simp[jr,h]
theorem xP (l:List Fm) (h:¬(n:Int)<=left):eI l left n=n:=by
 cases l <;> simp[eI,h]
mutual
theorem T3:∀ (t:Tm) (left:Int),KE t left<=VD t/\((KE t left:Int)<=left->KE t left=VD t)
 | .mk v n a,left=>by
  have h:=mE a left 0;unfold KE VD;constructor
  ·omega
  ·intro h2;have:=h.2.2 (by omega);omega
theorem mE:∀ (l:List Tm) (left:Int) (n:Nat),n<=jr l left n/\jr l left n<=n+vh l/\((jr l left n:Int)<=left->jr l left n=n+vh l)
 | [],left,n=>by simp[jr,vh]
 | t :: r,left,n=>by
  unfold jr vh
  by_cases hn:(n:Int)<=left
  ·rw[aX hn];have h1:=T3 t (left - n);have h2:=mE r left (n+KE t (left - n));refine ⟨by omega,by omega,fun h=>?_⟩;have h3:=h2.2.2 h;have h4:=h1.2 (by omega);omega
  ·rw[aD hn];exact ⟨aF _,by omega,fun h=>absurd h hn⟩
end
mutual
theorem T4:∀ (t:Fm) (left:Int),AN t left<=Sf t/\((AN t left:Int)<=left->AN t left=Sf t)
 | .mk o n a s,left=>by
  have h:=mE a left 0;have h1:=kK s left (1+n.length / 40+jr a left 0);unfold AN Sf;refine ⟨by omega,fun h2=>?_⟩;have h3:=h1.2.2 h2;have h4:=h.2.2 (by omega);omega
theorem kK:∀ (l:List Fm) (left:Int) (n:Nat),n<=eI l left n/\eI l left n<=n+vi l/\((eI l left n:Int)<=left->eI l left n=n+vi l)
 | [],left,n=>by simp[eI,vi]
 | t :: r,left,n=>by
  unfold eI vi
  by_cases hn:(n:Int)<=left
  ·rw[aX hn];have h1:=T4 t (left - n);have h2:=kK r left (n+AN t (left - n));refine ⟨by omega,by omega,fun h=>?_⟩;have h3:=h2.2.2 h;have h4:=h1.2 (by omega);omega
  ·rw[aD hn];exact ⟨aF _,by omega,fun h=>absurd h hn⟩
end
def Mf (l:List Tm):Prop:=∀ (ok:Nat->Prop) (w:World) (a:Option Addr) (n c:Nat) (left:Int),fitTs l->TermsV ok w (.slice a n c) l->0<=left->left<=1000000000000 →
 Calls Tryz.prog 54 #[.slice a n c,.int .i64 left] w fun e w'=>e=.returned (.int .i64 (jr l left 0))/\Below w.heap.size w w'
theorem Rk (n:Nat):Int.tdiv (n:Int) 40=((n / 40:Nat):Int):=by rw[Int.tdiv_eq_ediv_of_nonneg (by omega)];rfl
theorem Ih (l:List Tm) (ih:∀ t∈l,Mf t.a):Mf l:=by
 intro ok w a n c left aA hl h0 h1;obtain rfl:=hl.len;have cf:=aA.len;have hsz:=aA.sz;exact pm296
theorem NU:∀ t:Tm,Mf t.a:=by
 intro t
 induction t using Tm.ind with
 | h v n a ih=>exact Ih a ih
theorem Rl (l:List Tm):Mf l:=Ih l (fun t _=>NU t)
theorem Rm:∀ (f:Fm),fitF f->∀ (ok:Nat->Prop) (w:World) (q:FQ) (left:Int),FormV ok w q.val f->0<=left->left<=1000000000000 →
  Calls Tryz.prog 23 #[q.val,.int .i64 left] w fun e w'=>e=.returned (.int .i64 (AN f left))/\Below w.heap.size w w':=by
 intro t
 induction t using Fm.ind with
 | h o n a s ih=>
  intro aA ok w q left hq h0 h1;exact pm22
def ls (l:List Fm):Bool:=decide (eI l 500 0<=500)
theorem Ii {l:List Fm} (h:ls l=true):vi l<=500:=by
 unfold ls at h;have h1:=(kK l 500 0).2.2;simp only[bw]at h;have:=h1 (by omega);omega
theorem DO (l:List Fm) (aA:fitFs l) (ok:Nat->Prop) (w:World) (a:Option Addr) (n c:Nat) (hl:FormsV ok w (.slice a n c) l) :
  Calls Tryz.prog 22 #[.slice a n c] w fun e w'=>e=.returned (.bool (ls l))/\Below w.heap.size w w':=by
 obtain rfl:=hl.len;have cf:=aA.len;have zbO:=aA.sz;obtain ⟨k0,cg⟩:=ao l.length;rw[<-cg]at cf ⊢;obtain ⟨dJ,HL,HF⟩:=cD cg hl aA;clear cg hl aA;go_enter Tryz.func22,Tryz.ntmps22;go_wp2;go_loopw [3,4] (fun r i wr=>∃k m:Nat,k<=k0/\i=.int .i64 k/\r=.int .i64 m/\Below w.heap.size w wr/\eI l 500 0=eI (l.drop k) 500 m/\m<=100002000000) (fun _ i _=>k0 - (intOf i).toNat)
 case atStart=>exact ⟨0,0,bc _,rfl,rfl,ak _ _,by simp,by omega⟩
 case round=>
  obtain ⟨k,m,hk,rfl,rfl,ar,hcut,Bn⟩:=hrel
  by_cases hlt:k<k0
  ·by_cases pS:(m:Int)<=500
   ·have br:=ct dJ.o hlt;obtain ⟨b,off,u,rfl,_,hu,c0,c1,c2,c3⟩:=HL.o.get br;have VE:l.drop k=l[k] :: l.drop (k+1):=fN br;rw[VE]at hcut;obtain ⟨d0,d1,d2,d3⟩:=nb ar c0 c1 c2 c3;obtain ⟨M,hM⟩:=ao (AN l[k] (500 - m));have CC:=Rm l[k] (HF.o.mem (az br)) ok wr u (500 - m) (hu.later ar) (by omega) (by omega);rw[<-hM]at CC;have AO:eI l 500 0=eI (l.drop (k+1)) 500 (m+M):=by
     rw[hcut];simp only[eI,aX pS];rw[hM]
    have J8:m+M<=100002000000:=by
     have h5:=(kK l 500 0).2.1;have h6:=(kK (l.drop (k+1)) 500 (m+M)).1;omega
    exact pm98
   ·have G5:decide ((m:Int)<=500)=false:=by simp;omega
    have FE:decide ((k:Int)<(k0:Int))=true:=by simp;omega
    have HE:=ab (show ls l=false by unfold ls;rw[hcut.trans (xP _ pS)];simp;omega);have OF:=ab ar;clear hcut ar;go_wp2;go_ret;exact ⟨aK HE.o.symm,OF.o⟩
  ·obtain rfl:k=k0:=by omega
   have hd:l.drop k=[]:=by rw[dJ.o];exact List.drop_length
   rw[hd]at hcut;have HE:=ab (show ls l=decide ((m:Int)<=500) by have e:eI l 500 0=m:=hcut;unfold ls;rw[e,gA];simp;omega);have OF:=ab ar;clear hcut ar hd;go_wp2;go_ret;exact ⟨aK HE.o.symm,OF.o⟩
section
attribute [local go_sem] Oper.semAt_some
def zdW:Fact:=⟨fun _ _ _=>True,fun _ _ _ _ _ _ h=>h⟩
def sq (L:Nat->Prop) (l:List Str):Fact:=⟨StrsG L l,fun _ _ _ _ _ hG=>StrsG.step hG⟩
section
variable {ops:Array Oper} {Q:Exit->Act->World->Prop} {a0:Act} {l:List Fact} {kA kS k:Nat} {M:Nat->Prop} {w0:World} {md:Region.Mode} {L:Nat->Prop}
theorem NV (h:v≠.bool b):¬(match some v with | some (Value.bool b)=>some b | _=>none)=some b:=by
 intro e;split at e
 ·rename_i h1;cases h1;cases e;exact h rfl
 ·cases e
theorem DP {x:Value} (b:Bool) (hx:x≠.bool b) (j:Nat) (hd:Dep md ops a0 l kA kS M w0 k o d (fun v _ _=>v=x)) (ho:ops[k]?=some o:=by rfl) (hg:o.guard=some (j,b):=by rfl) (hj:ops[j]?=some oj:=by rfl) (Fz:oj.dst=some d:=by rfl) (hp:e6 l k=(aE undef).p\/e6 l k=zdW.p):cz md ops Q a0 l kA kS M w0 k:=by
 exact pm184
theorem dv (b:Bool) (j:Nat) (hd:Dep md ops a0 l kA kS M w0 k o d (fun v _ _=>v=.bool (!b))) (ho:ops[k]?=some o:=by rfl) (hg:o.guard=some (j,b):=by rfl) (hj:ops[j]?=some oj:=by rfl) (Fz:oj.dst=some d:=by rfl) (hp:e6 l k=(aE undef).p:=by rfl):cz md ops Q a0 l kA kS M w0 k:=
 DP b (by cases b <;> simp) j hd ho hg hj Fz (.inl hp)
theorem m5 (b:Bool) (j:Nat) (hd:Dep md ops a0 l kA kS M w0 k o d (fun v _ _=>v=undef)) (ho:ops[k]?=some o:=by rfl) (hg:o.guard=some (j,b):=by rfl) (hj:ops[j]?=some oj:=by rfl) (Fz:oj.dst=some d:=by rfl) (hp:e6 l k=(aE undef).p:=by rfl):cz md ops Q a0 l kA kS M w0 k:=
 DP b (by simp[undef]) j hd ho hg hj Fz (.inl hp)
theorem Ro {Wb:World} (hT:Tabs Wb w0) (hM:∀ b,M b->Wb.heap.size<=b) {gu:Option (Nat×Bool)} (ho:ops[k]?=some o:=by rfl) (eo:o=⟨some d,.call ⟨.value (.func 12),#[],vJ⟩,ty,pos,gK,gu⟩:=by rfl) (hw:Wt md ops a0 l kA kS M w0 k o:=by exact fun _ _ _ _=>rfl) (hp:e6 l k=(aE (.bool true)).p:=by rfl):cz md ops Q a0 l kA kS M w0 k:=
 by subst eo;exact dR hw ho rfl 12 (fun a γ w aO=>by
  refine ⟨#[],by go_simp,(NO Wb w (hT.kp aO.inv.1 hM)).mono ?_⟩;rintro e w' ⟨rfl,hb⟩;exact ⟨⟨_,rfl,by rw[hp];rfl⟩,hb⟩)
theorem rg (fs:List Fm) (hf:fitFs fs) (x:Nat) {gu:Option (Nat×Bool)}  (hx:Dep md ops a0 l kA kS M w0 k o x (FormsG L fs)) (ho:ops[k]?=some o:=by rfl) (eo:o=⟨some d,.call ⟨.value (.func 22),#[.tmp x],vJ⟩,ty,pos,gK,gu⟩:=by rfl) (hw:Wt md ops a0 l kA kS M w0 k o:=by exact fun _ _ _ _=>rfl) (hp:e6 l k=(aE (.bool (ls fs))).p:=by rfl):cz md ops Q a0 l kA kS M w0 k:=
 by subst eo;exact dR hw ho rfl 22 (fun a γ w aO=>by
  obtain ⟨vx,ex,fx⟩:=hx.is aO;obtain ⟨ax,cx,rfl,hx⟩:=fx;refine ⟨#[.slice ax fs.length cx],by go_simp,(DO fs hf _ w ax _ cx hx).mono ?_⟩;rintro e w' ⟨rfl,hb⟩;exact ⟨⟨_,rfl,by rw[hp];rfl⟩,hb⟩)
end
def RowX (lo:Nat) (v:Value) (ts:List Fm) (W:World):Prop:=
 ∃qs:List FQ,qs.length=ts.length/\W.ownsRow lo 36 4 v ts.length (qs.flatMap FQ.cells)/\∀ j (h:j<qs.length) (h2:j<ts.length),FormV (fun b=>v.ownBlock≠some b) W qs[j].val ts[j]
theorem RowX.nil (lo:Nat) (W:World):RowX lo (.slice none 0 0) [] W:=⟨[],rfl,World.ownsRow_nil _ _ _ _,fun j h=>by simp at h⟩
theorem RowX.slice (h:RowX lo v ts W):∃a c,v=.slice a ts.length c:=by
 obtain ⟨qs,_,ho,_⟩:=h;exact pm182
theorem RowX.forms (h:RowX lo v ts W):FormsV (fun _=>True) W v ts:=by
 exact pm246
theorem RowX.step {g cap k:Nat} {fs:List Fm} {W1 w4:World} {qs ps:List FQ} (hk:qs.length=ts.length) (hp:ps.length=fs.length) (hb:Below W.heap.size W W1)
  (ht:∀ j (h:j<qs.length) (h2:j<ts.length),FormV (fun b=>v.ownBlock≠some b) W qs[j].val ts[j]) (hq:∀ j (h:j<ps.length) (h2:j<fs.length),FormV (fun b=>v.ownBlock≠some b) W1 ps[j].val fs[j])
  (aR:w4.ownsRow lo 36 4 (.slice (some ⟨g,0,none⟩) k cap) k (qs.flatMap FQ.cells ++ ps.flatMap FQ.cells)) (fW:k=ts.length+fs.length)
  (ap:W1.grownBy w4 v.ownBlock) (hg:v.ownBlock=some g\/W1.heap.size<=g):RowX lo (.slice (some ⟨g,0,none⟩) k cap) (ts ++ fs) w4:=by
 have hs:=hb.size;have AO:∀ c,c<W1.heap.size->v.ownBlock≠some c->(Value.slice (some ⟨g,0,none⟩) k cap).ownBlock≠some c:=fun c hc hn e=>by
  injection e with e;obtain rfl:g=c:=e;rcases hg with hg | hg
  ·exact hn hg
  ·omega
 refine ⟨qs ++ ps,by simp[hk,hp],by rw[List.flatMap_append,di,<-fW];exact aR,fun j h1 h2=>?_⟩
 by_cases hj:j<qs.length
 ·rw[List.getElem_append_left hj,List.getElem_append_left (by omega)];exact (ht j hj (by omega)).move (fun b hok hlt=>⟨AO b (by omega) hok,(ap.block b (by omega) (fun e=>hok e.symm)).trans (hb.block b hlt)⟩)
 ·rw[List.getElem_append_right (by omega),List.getElem_append_right (by omega)];simp only[hk];refine (hq (j - ts.length) (by simp at h1;omega) (by simp at h2;omega)).move (fun b hok hlt=>⟨AO b hlt hok,ap.block b hlt (fun e=>hok e.symm)⟩)
theorem sr {F:Fence} {Q:Exit->Act->World->Prop} {a:Act} {K:Act->World->Prop} (s x:Operand) (ho:o.op=.call { callee:=.builtin .append,args:=#[s,x],argTypes:=#[34,34] })
  (lo:Nat) (ra:Option Addr) (m rc:Nat) (ts fs:List Fm) (ps:List FQ) (wr V:World) (cs:Array Value) (dp:RowX lo (.slice ra m rc) ts wr) (hm:ts.length=m) (hV:Below wr.heap.size wr V) (hlo:lo<=wr.heap.size) (hp:ps.length=fs.length) (nj:0<ps.length)
  (hq:∀ j (h:j<ps.length) (h2:j<fs.length),FormV (fun b=>(Value.slice ra m rc).ownBlock≠some b) V ps[j].val fs[j]) (hs:a.eval s=.slice ra m rc) (hx:a.eval x=.slice (some ⟨V.heap.size,0,none⟩) ps.length ps.length)
  (hcs:cs.toList=ps.flatMap FQ.cells) (ze1:m+ps.length<=4000000)
  (h:∀ g cap w',RowX lo (.slice (some ⟨g,0,none⟩) (m+ps.length) cap) (ts ++ fs) w'->(∀ w0:World,Below w0.heap.size w0 V->w0.heap.size<=lo->Below w0.heap.size w0 w')->K (a.put o.dst (.slice (some ⟨g,0,none⟩) (m+ps.length) cap)) w') :
  o.wpIn F n Tryz.prog a (V.alloc (.cells cs 36)) K Q:=by
 obtain ⟨i0,hi,pF,iq,gV⟩:=info_parts kC;obtain ⟨qs,ew,au,gh⟩:=dp;rw[hm]at ew au;have hsz:=hV.size;have hb1:Below wr.heap.size wr (V.alloc (.cells cs 36)):=hV.alloc hV.size _;have FZ:∀ l:List FQ,(l.flatMap FQ.cells).length=l.length * 4:=fun l=>by
  induction l with
  | nil=>rfl
  | cons x l ih=>simp only[List.flatMap_cons,di,ih,fF,FQ.cells,List.length_nil];omega
 have ze2:cs=(ps.flatMap FQ.cells).toArray:=by rw[<-hcs]
 refine bB s x 34 ho lo 36 i0 (.agg #[.int .u8 0,.string ByteArray.empty,.slice none 0 0,.slice none 0 0]) 4 72 Tryz.underlying34 hi pF iq gV rfl (by decide) (.slice ra m rc) m _ hs (bh au (fun b _ hlt=>hb1.block b hlt)) ⟨V.heap.size,0,none⟩ ps.length ps.length (ps.flatMap FQ.cells) hx (FZ ps)
  (by rw[<-hcs];exact dj (cs:=cs) (t:=36) (fr:=(0,0)) (fO V _)) ?_ nj (by unfold maxLen;omega) (by omega) (by simp;omega) (V.heap.size+1) (by simp) ?_
 ·intro u hu;obtain ⟨z,_,hz⟩:=List.mem_flatMap.1 hu;simp only[FQ.cells,dw,List.not_mem_nil,or_false]at hz;rcases hz with rfl | rfl | rfl | rfl <;> rfl
 ·intro g eG w4 aR ap hg _;refine h g eG w4 (RowX.step (ew.trans hm.symm) hp hb1 (fun j h1 h2=>gh j h1 h2) (fun j h1 h2=>(hq j h1 h2).move (fun c hc hlt=>⟨hc,bK _ _ _ hlt⟩)) aR (by rw[hm,hp]) ap (by rcases hg with h | h;exact .inl h;exact .inr (by simp;omega))) (fun w0 h0 hw0=>?_);exact (h0.alloc h0.size _).grown ap (by have:=h0.size;simp;omega) (fun c hc=>aQ hw0 (au.lt c hc).1)
