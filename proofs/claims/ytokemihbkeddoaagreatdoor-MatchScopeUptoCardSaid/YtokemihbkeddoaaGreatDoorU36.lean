/-
'awake' of lyceumlaw07 holds. (Printed by gen_mawake.py.)
-/
import Derived.Test.YtokemihbkeddoaaGreatDoorU00
import Derived.Test.YtokemihbkeddoaaGreatDoorU35
namespace Go.Proofs.YtokemihbkeddoaaGreatDoor
open Go Go.RowKit Lib
set_option maxRecDepth 100000
set_option maxHeartbeats 64000000
section
attribute [local go_sem] Oper.semAt_some
abbrev X0:Nat->Prop:=fun _=>True
abbrev X1 (b:Nat):Nat->Prop:=fun c=>X0 c/\c≠b
abbrev X2 (b d:Nat):Nat->Prop:=fun c=>X1 b c/\c≠d
theorem pH {b:Bool} (h:b=true):(aE (.bool true)).p=fun v _ _=>v=.bool b:=by subst h;rfl
theorem iL:BdFit ⟨[],[]⟩:=⟨by decide,by decide,(fun _ h=>by cases h),fun _ h=>by cases h⟩
theorem sO:BdFit N7:=⟨by decide,by decide,List.forall_mem_cons.2 ⟨⟨by decide,by decide,by decide⟩,fun _ h=>by cases h⟩,List.forall_mem_cons.2 ⟨⟨by decide,⟨by decide,by decide⟩,by decide⟩,fun _ h=>by cases h⟩⟩
theorem UH:∀ x∈([(mA,nL),(mB,zm)]:List (Str×Fm)),fitF x.2:=List.forall_mem_cons.2 ⟨⟨by decide,by decide⟩,List.forall_mem_cons.2 ⟨⟨by decide,by decide⟩,fun _ h=>by cases h⟩⟩
theorem UI:∀ x∈([(mA,km)]:List (Str×Fm)),fitF x.2:=List.forall_mem_cons.2 ⟨⟨by decide,by decide⟩,fun _ h=>by cases h⟩
theorem UJ:∀ x∈([(mT,jH)]:List (Str×Tm)),fitT x.2:=List.forall_mem_cons.2 ⟨⟨by decide,by decide⟩,fun _ h=>by cases h⟩
theorem Dn {a b c d:Fm} (ha:fitF a:=by exact ⟨by decide,by decide⟩) (hb:fitF b:=by exact ⟨by decide,by decide⟩) (hc:fitF c:=by exact ⟨by decide,by decide⟩) (hd:fitF d:=by exact ⟨by decide,by decide⟩):∀ x∈[(a,b),(c,d)],fitF x.1/\fitF x.2:=List.forall_mem_cons.2 ⟨⟨ha,hb⟩,List.forall_mem_cons.2 ⟨⟨hc,hd⟩,fun _ h=>by cases h⟩⟩
theorem K1 (WB w:World) (iU:Tabs WB w):Calls Tryz.prog 12 #[] w fun e w'=>e=.returned (.bool true)/\Below w.heap.size w w':=by
 refine (callsIn_wide (n:=3)).1 ?_
 refine callsIn_of_wp Tryz.func12 rfl trivial ?_ rfl
 refine (fun (A:Act) (hs:A.tmps.size=270) (hd:A.defers=[])=>?_:∀ A:Act,A.tmps.size=270->A.defers=[]->Code.wpIn Fence.wide 3 _ _ _ A w) _ rfl rfl
 have jb:∀ f,Fence.wide.fn f:=fun _=>trivial
 have HB:Below w.heap.size w w:=Below.refl _ _
 have hT:Tabs WB w:=iU.next (HB)
 have hL:∀ c,w.heap.size<=c->X0 c:=fun _ _=>trivial
 have js:∀ c,bL c->WB.heap.size<=c:=fun _ h=>h.elim
 have bB:∀ c,X0 c->¬bL c:=fun _ _ h=>h
 refine wpIn_seq_k (fun K hK=>?_)
 refine bX  [aE (.bool false)]
  1 1 hs (by kernel_rfl) (fun k hk=>?_) (fun A0 γ W0 h=>?_)
 ·match k,hk with
  | 0,_=>exact zs rfl (.bool false) (fun _ _=>by go_simp)
  | k+1,hk=>exact absurd hk (by simp)
 have Gq:=h.sz.trans hs
 have hd0:=h.df.trans hd
 have XM:Below w.heap.size w W0:=aG HB h.inv.1 (fun _ h=>h.elim)
 clear h
 refine hK _ _ ?_
 clear hT hL js bB
 have hT:Tabs WB W0:=iU.next (XM)
 have hL:∀ c,W0.heap.size<=c->X0 c:=fun _ _=>trivial
 have js:∀ c,bL c->WB.heap.size<=c:=fun _ h=>h.elim
 have bB:∀ c,X0 c->¬bL c:=fun _ _ h=>h
 refine wpIn_seq_k (fun K hK=>?_)
 refine bX  [bi X0 (⟨[],[]⟩),
  lO #[.slice none 0 0,.slice none 0 0] 26,
  jv (bi X0 (⟨[],[]⟩)) 26]
  1 2 Gq (by kernel_rfl) (fun k hk=>?_) (fun A1 γ W1 h=>?_)
 ·match k,hk with
  | 0,_=>exact wH
  | 1,_=>exact jI rfl
  | 2,_=>exact jJ _ 1 21 rfl (am 1) (am 0)
  | k+3,hk=>exact absurd hk (by simp)
 have gu:=h.sz.trans Gq
 have V0:=h.df.trans hd0
 have dG:Below w.heap.size w W1:=aG XM h.inv.1 (fun _ h=>h.elim)
 obtain ⟨vz,tz,fz⟩:=h.get 1 _ 1 rfl rfl
 obtain ⟨b1,q1,lz,O6⟩:=ri tz fz (h.did 2 _ rfl rfl) h.inv
 have vP:w.heap.size<=b1:=by have h1:W0.heap.size<=b1:=O6;have h2:=XM.size;omega
 have Fv:LB X0 A1 W1 1 b1 q1 _:=lz.next rfl (Kp.refl (M:=bL) _) (fun h=>h) (fun _ _ h=>h) (fun _ h _=>h.1)
 clear h
 refine hK _ _ ?_
 clear hT hL js bB
 have hT:Tabs WB W1.drew:=iU.next (dG.drew)
 have hL:∀ c,W1.drew.heap.size<=c->X0 c:=fun _ _=>trivial
 have js:∀ c,bL c->WB.heap.size<=c:=fun _ h=>h.elim
 have bB:∀ c,X0 c->¬bL c:=fun _ _ h=>h
 refine wpIn_seq_k (fun K hK=>?_)
 refine dM  [aH X0 (ec [63,65]),
  aH X0 (ec [63,66]),
  dL X0 [ec [63,65],ec [63,66]],
  aH X0 (Fm.mk 6 [] [] [ec [63,65],ec [63,66]]),
  aH X0 (dR [80] []),
  aH X0 (dR [81] []),
  dL X0 [dR [80] [],dR [81] []],
  aH X0 (Fm.mk 4 [] [] [dR [80] [],dR [81] []]),
  aH X0 (dR [82] []),
  dL X0 [Fm.mk 4 [] [] [dR [80] [],dR [81] []],dR [82] []],
  aH X0 (Fm.mk 6 [] [] [Fm.mk 4 [] [] [dR [80] [],dR [81] []],dR [82] []]),
  bi X0 (⟨[],[]⟩),
  d9 (bi X0 (⟨[(mA,nL),(mB,zm)],[]⟩)) [.int .i64 0],
  d9 (bi X0 (⟨[(mA,nL),(mB,zm)],[]⟩)) [.int .i64 0],
  bi X0 (⟨[(mA,nL),(mB,zm)],[]⟩),
  aE (.int .i64 0),
  lO #[.slice none 0 0,.slice none 0 0] 26,
  jv (bi X0 (⟨[(mA,nL),(mB,zm)],[]⟩)) 26,
  aE (.int .i64 0)]
  16 17 gu (by kernel_rfl) (by kernel_rfl) (fun k hk=>?_) (fun A2 γ W2 h=>?_)
 ·match k,hk with
  | 0,_=>exact sM [63,65]
  | 1,_=>exact sM [63,66]
  | 2,_=>exact fU hL _ _ 23 24 (am 0) (am 1)
  | 3,_=>exact gQ 6 [] [ec [63,65],ec [63,66]] 25 (am 2)
  | 4,_=>exact Jn [80]
  | 5,_=>exact Jn [81]
  | 6,_=>exact fU hL _ _ 27 28 (am 4) (am 5)
  | 7,_=>exact gQ 4 [] [dR [80] [],dR [81] []] 29 (am 6)
  | 8,_=>exact Jn [82]
  | 9,_=>exact fU hL _ _ 30 31 (am 7) (am 8)
  | 10,_=>exact gQ 6 [] [Fm.mk 4 [] [] [dR [80] [],dR [81] []],dR [82] []] 32 (am 9)
  | 11,_=>exact fV _ _ 1 Fv.drew.box (fun h=>h) (Fv.drew.at bB) (old Fv.drew.slot)
  | 12,_=>exact o9 _ _ _ _ _ _ aw1 ⟨by decide,by decide⟩ ⟨by decide,by decide⟩ iL 26 33 34 hT js hL (am 3) (am 10) (am 11)
  | 13,_=>exact au (d9 (bi X0 (⟨[(mA,nL),(mB,zm)],[]⟩)) [.int .i64 0]) 35 (am 12)
  | 14,_=>exact gq (bi X0 (⟨[(mA,nL),(mB,zm)],[]⟩)) [.int .i64 0] 22 (am 13)
  | 15,_=>exact gD (bi X0 (⟨[(mA,nL),(mB,zm)],[]⟩)) [.int .i64 0] 0 (.int .i64 0) rfl 22 (am 13)
  | 16,_=>exact jI rfl
  | 17,_=>exact jJ _ 2 36 rfl (am 16) (am 14)
  | 18,_=>exact bF (aE (.int .i64 0)) 37 (am 15)
  | k+19,hk=>exact absurd hk (by simp)
 have iD:=h.sz.trans gu
 have Q3:=h.df.trans V0
 have bZ:Below w.heap.size w W2:=aG dG.drew h.inv.1 (fun _ h=>h.elim)
 obtain ⟨vz,tz,fz⟩:=h.get 16 _ 2 rfl rfl
 obtain ⟨b2,q2,lz,SE⟩:=ri tz fz (h.did 17 _ rfl rfl) h.inv
 have R7:=Fv.drew.next (L':=(X1 b2)) (h.old 1 (by kernel_rfl)) h.inv.1 (fun h=>h) bB (fun c h hlt=>⟨h,fun e=>by have:W1.heap.size<=b2:=SE;have hlt:c<W1.heap.size:=hlt;omega⟩)
 have Zb:b2≠b1:=by have:=(bl Fv.drew.box);have h:W1.heap.size<=b2:=SE;have h2:b1<W1.heap.size:=this;omega
 have R8:b1≠b2:=fun e=>Zb e.symm
 have Lh:w.heap.size<=b2:=by have h1:W1.heap.size<=b2:=SE;have h2:=dG.size;omega
 have zu:LB (X1 b2) A2 W2 2 b2 q2 _:=lz
 have e9:=(bl zu.box)
 obtain ⟨UK,pd,UL⟩:=h.get 18 _ 3 rfl rfl
 obtain rfl:UK=.int .i64 0:=UL
 clear h
 refine hK _ _ ?_
 clear hT hL js bB
 have hT:Tabs WB W2:=iU.next (bZ)
 have hL:∀ c,W2.heap.size<=c->(X1 b2) c:=fun c hc=>⟨trivial,fun e=>by have:=(bl zu.box);have h:W2.heap.size<=c:=hc;omega⟩
 have js:∀ c,bL c->WB.heap.size<=c:=fun _ h=>h.elim
 have bB:∀ c,(X1 b2) c->¬bL c:=fun _ _ h=>h
 refine wpIn_seq_k (fun K hK=>?_)
 refine bX  [bi (X1 b2) (⟨[(mA,nL),(mB,zm)],[]⟩),
  d9 (aH (X1 b2) (zm)) [.bool true],
  d9 (aH (X1 b2) (zm)) [.bool true],
  aH (X1 b2) (zm),
  aE (.bool true),
  lO #[.int .u8 0,.string ⟨#[]⟩,.slice none 0 0,.slice none 0 0] 36,
  jv (aH (X1 b2) (zm)) 36,
  aE (.bool true)]
  5 6 iD (by kernel_rfl) (fun k hk=>?_) (fun A3 γ W3 h=>?_)
 ·match k,hk with
  | 0,_=>exact fV _ _ 2 zu.box (fun h=>h) (zu.at bB) (old zu.slot)
  | 1,_=>exact Jo (⟨[(mA,nL),(mB,zm)],[]⟩) [63,66] (by decide) UH 39 hL (am 0)
  | 2,_=>exact au (d9 (aH (X1 b2) (zm)) [.bool true]) 40 (am 1)
  | 3,_=>exact gq (aH (X1 b2) (zm)) [.bool true] 38 (am 2)
  | 4,_=>exact gD (aH (X1 b2) (zm)) [.bool true] 0 (.bool true) rfl 38 (am 2)
  | 5,_=>exact iJ rfl
  | 6,_=>exact iK _ 4 41 rfl (am 5) (am 3)
  | 7,_=>exact bF (aE (.bool true)) 42 (am 4)
  | k+8,hk=>exact absurd hk (by simp)
 have uG:=h.sz.trans iD
 have Sw:=h.df.trans Q3
 have bp:Below w.heap.size w W3:=aG bZ h.inv.1 (fun _ h=>h.elim)
 obtain ⟨vz,tz,fz⟩:=h.get 5 _ 4 rfl rfl
 obtain ⟨b4,q4,lz,sT⟩:=o_ tz fz (h.did 6 _ rfl rfl) h.inv
 have Zc:=R7.next (L':=(X2 b2 b4)) (h.old 1 (by kernel_rfl)) h.inv.1 (fun h=>h) bB (fun c h hlt=>⟨h,fun e=>by have:W2.heap.size<=b4:=sT;have hlt:c<W2.heap.size:=hlt;omega⟩)
 have Fw:=zu.next (L':=(X2 b2 b4)) (h.old 2 (by kernel_rfl)) h.inv.1 (fun h=>h) bB (fun c h hlt=>⟨h,fun e=>by have:W2.heap.size<=b4:=sT;have hlt:c<W2.heap.size:=hlt;omega⟩)
 have Zd:b4≠b1:=by have:=(bl R7.box);have h:W2.heap.size<=b4:=sT;have h2:b1<W2.heap.size:=this;omega
 have Ze:b1≠b4:=fun e=>Zd e.symm
 have R9:b4≠b2:=by have:=(bl zu.box);have h:W2.heap.size<=b4:=sT;have h2:b2<W2.heap.size:=this;omega
 have Zf:b2≠b4:=fun e=>R9 e.symm
 have RN:w.heap.size<=b4:=by have h1:W2.heap.size<=b4:=sT;have h2:=bZ.size;omega
 have Fx:LF (X2 b2 b4) A3 W3 4 b4 q4 _:=lz
 have e9:=(bl Fw.box)
 have iQ:=(bl Fx.box)
 have pd:=h.ol 3 pd
 obtain ⟨vz5,tz5,fz5⟩:=h.get 7 _ 5 rfl rfl
 obtain rfl:vz5=.bool true:=fz5
 clear h
 refine hK _ _ ?_
 clear hT hL js bB
 have pT:q2.l=2:=by
  obtain ⟨⟨fa,fc,_,he,_⟩,_⟩:=Fw.val
  injection he
 have hT:Tabs WB W3.drew:=iU.next (bp.drew)
 have hL:∀ c,W3.drew.heap.size<=c->(X2 b2 b4) c:=fun c hc=>by have h:W3.heap.size<=c:=hc;exact ⟨⟨trivial,by omega⟩,by omega⟩
 have js:∀ c,bL c->WB.heap.size<=c:=fun _ h=>h.elim
 have bB:∀ c,(X2 b2 b4) c->¬bL c:=fun _ _ h=>h
 refine wpIn_seq_k (fun K hK=>?_)
 refine wpIn_seq_k (fun K2 Zg=>?_)
 refine dM  [aE (.int .i64 0),
  aE (.bool false),
  aE (.bool false),
  aE (.bool true),
  aE (.bool false),
  aE (.bool false),
  aE (.bool false),
  aH (X2 b2 b4) (zm),
  aH (X2 b2 b4) (dR [82] []),
  aE (.bool true),
  aE (.bool false),
  aE (.bool false),
  aE (.bool false),
  aE (.pointer (some ⟨b2,0,none⟩)),
  aE (.slice q2.a 2 q2.c),
  aE (.int .i64 2),
  aE (.bool false),
  aE (.bool false)]
  18 18 uG (by kernel_rfl) (by kernel_rfl) (fun k hk=>?_) (fun A4 γ W4 h=>?_)
 ·match k,hk with
  | 0,_=>exact au (aE (.int .i64 0)) 3 (old pd)
  | 1,_=>exact bG rfl 43 (.int .i64 0) (.bool false) (am 0) (fun _ _ _ _=>by go_simp)
  | 2,_=>exact au (aE (.bool false)) 44 (am 1)
  | 3,_=>exact au (aE (.bool true)) 5 (old tz5) (hw:=aw 2 (am 2))
  | 4,_=>exact bG rfl 46 (.bool true) (.bool false) (am 3) (fun _ _ _ _=>by go_simp) (hw:=aw 2 (am 2))
  | 5,_=>exact cr rfl 45 47 (.bool false) (.bool false) (.bool false) (am 2) (am 4) (fun _ _ _ _ _ _=>by go_simp)
  | 6,_=>exact au (aE (.bool false)) 48 (am 5)
  | 7,_=>exact cd _ _ 4 Fx.drew.box (fun h=>h) (Fx.drew.at bB) (old Fx.drew.slot) (hw:=aw 6 (am 6))
  | 8,_=>exact Jn [82] (hw:=aw 6 (am 6))
  | 9,_=>exact sN (zm) (dR [82] []) ⟨by decide,by decide⟩ 50 51 (am 7) (am 8) (hw:=aw 6 (am 6)) (hp:=(pH zbC))
  | 10,_=>exact bG rfl 52 (.bool true) (.bool false) (am 9) (fun _ _ _ _=>by go_simp) (hw:=aw 6 (am 6))
  | 11,_=>exact cr rfl 49 53 (.bool false) (.bool false) (.bool false) (am 6) (am 10) (fun _ _ _ _ _ _=>by go_simp)
  | 12,_=>exact au (aE (.bool false)) 54 (am 11)
  | 13,_=>exact bG rfl 2 (ptr b2) (.pointer (some ⟨b2,0,none⟩)) (old Fw.drew.slot) (fun _ _ _ _=>by go_simp) (hw:=aw 12 (am 12))
  | 14,_=>exact eV (by exact aw 12 (am 12)) rfl rfl (fun a γ wz aW=>by
   obtain ⟨v,e,rfl⟩:=aW.val 13 _ _ rfl rfl (by kernel_rfl)
   have e2:=bw e
   have c:=aW.inv.1.cell (a:=⟨b2,0,none⟩) (fun h=>h) (ai Fw.drew.box 0)
   rw[pT]at c
   exact ⟨.slice q2.a 2 q2.c,by go_simp,rfl⟩)
  | 15,_=>exact bG rfl 57 (.slice q2.a 2 q2.c) (.int .i64 2) (am 14) (fun _ _ _ _=>by go_simp) (hw:=aw 12 (am 12))
  | 16,_=>exact bG rfl 58 (.int .i64 2) (.bool false) (am 15) (fun _ _ _ _=>by go_simp) (hw:=aw 12 (am 12))
  | 17,_=>exact cr rfl 55 59 (.bool false) (.bool false) (.bool false) (am 12) (am 16) (fun _ _ _ _ _ _=>by go_simp)
  | k+18,hk=>exact absurd hk (by simp)
 have uM:=h.sz.trans uG
 have LJ:=h.df.trans Sw
 have em:Below w.heap.size w W4:=aG bp.drew h.inv.1 (fun _ h=>h.elim)
 have R_:=Zc.drew.nx (h.od 1) h.inv.1 bB
 have Oe:=Fw.drew.nx (h.od 2) h.inv.1 bB
 have Of:=Fx.drew.nx (h.od 4) h.inv.1 bB
 have e9:=(bl Oe.box)
 have iQ:=(bl Of.box)
 have pd:=h.ol 3 pd
 obtain ⟨vc,tc,fc⟩:=h.get 17 _ 60 rfl rfl
 obtain rfl:vc=.bool false:=fc
 clear h
 refine Zg _ _ ?_
 refine wpIn_cond_false (bw tc) (wpIn_skip ?_)
 refine hK _ _ ?_
 clear hT hL js bB
 have hT:Tabs WB W4:=iU.next (em)
 have hL:∀ c,W4.heap.size<=c->(X2 b2 b4) c:=fun c hc=>by have h:W4.heap.size<=c:=hc;exact ⟨⟨trivial,by omega⟩,by omega⟩
 have js:∀ c,bL c->WB.heap.size<=c:=fun _ h=>h.elim
 have bB:∀ c,(X2 b2 b4) c->¬bL c:=fun _ _ h=>h
 refine wpIn_seq_k (fun K hK=>?_)
 refine bX  [aH (X2 b2 b4) (ec [63,65]),
  dL (X2 b2 b4) [ec [63,65]],
  aH (X2 b2 b4) (Fm.mk 8 [120] [] [ec [63,65]]),
  lO #[.int .u8 0,.string ⟨#[]⟩,.slice none 0 0,.slice none 0 0] 36,
  jv (aH (X2 b2 b4) (Fm.mk 8 [120] [] [ec [63,65]])) 36]
  3 4 uM (by kernel_rfl) (fun k hk=>?_) (fun A6 γ W6 h=>?_)
 ·match k,hk with
  | 0,_=>exact sM [63,65]
  | 1,_=>exact eL hL _ 61 (am 0)
  | 2,_=>exact gQ 8 [120] [ec [63,65]] 62 (am 1)
  | 3,_=>exact iJ rfl
  | 4,_=>exact iK _ 6 63 rfl (am 3) (am 2)
  | k+5,hk=>exact absurd hk (by simp)
 have Kc:=h.sz.trans uM
 have hd6:=h.df.trans LJ
 have Rx:Below w.heap.size w W6:=aG em h.inv.1 (fun _ h=>h.elim)
 obtain ⟨vz,tz,fz⟩:=h.get 3 _ 6 rfl rfl
 obtain ⟨b6,q6,lz,hg6⟩:=o_ tz fz (h.did 4 _ rfl rfl) h.inv
 have Sa:=R_.nx (h.od 1) h.inv.1 bB
 have Og:=Oe.nx (h.od 2) h.inv.1 bB
 have Oh:=Of.nx (h.od 4) h.inv.1 bB
 have Zh:b6≠b1:=by have:=(bl R_.box);have h:W4.heap.size<=b6:=hg6;have h2:b1<W4.heap.size:=this;omega
 have zca:b1≠b6:=fun e=>Zh e.symm
 have Oi:b6≠b2:=by have:=(bl Oe.box);have h:W4.heap.size<=b6:=hg6;have h2:b2<W4.heap.size:=this;omega
 have zcb:b2≠b6:=fun e=>Oi e.symm
 have Sb:b6≠b4:=by have:=(bl Of.box);have h:W4.heap.size<=b6:=hg6;have h2:b4<W4.heap.size:=this;omega
 have zcc:b4≠b6:=fun e=>Sb e.symm
 have hw6:w.heap.size<=b6:=by have h1:W4.heap.size<=b6:=hg6;have h2:=em.size;omega
 have Sc:LF (X2 b2 b4) A6 W6 6 b6 q6 _:=lz.next rfl (Kp.refl (M:=bL) _) (fun h=>h) (fun _ _ h=>h) (fun _ h _=>h.1)
 have e9:=(bl Og.box)
 have iQ:=(bl Oh.box)
 have pd:=h.ol 3 pd
 clear h
 refine hK _ _ ?_
 clear hT hL js bB
 have hT:Tabs WB W6:=iU.next (Rx)
 have hL:∀ c,W6.heap.size<=c->(X2 b2 b4) c:=fun c hc=>by have h:W6.heap.size<=c:=hc;exact ⟨⟨trivial,by omega⟩,by omega⟩
 have js:∀ c,bL c->WB.heap.size<=c:=fun _ h=>h.elim
 have bB:∀ c,(X2 b2 b4) c->¬bL c:=fun _ _ h=>h
 refine wpIn_seq_k (fun K hK=>?_)
 refine bX  [dV (X2 b2 b4) (ap [121]),
  dV (X2 b2 b4) (ap [122]),
  ix (X2 b2 b4) [ap [121],ap [122]],
  aH (X2 b2 b4) (dR [82] [ap [121],ap [122]]),
  dL (X2 b2 b4) [dR [82] [ap [121],ap [122]]],
  aH (X2 b2 b4) (Fm.mk 9 [122] [] [dR [82] [ap [121],ap [122]]]),
  dL (X2 b2 b4) [Fm.mk 9 [122] [] [dR [82] [ap [121],ap [122]]]],
  aH (X2 b2 b4) (Fm.mk 8 [121] [] [Fm.mk 9 [122] [] [dR [82] [ap [121],ap [122]]]]),
  lO #[.int .u8 0,.string ⟨#[]⟩,.slice none 0 0,.slice none 0 0] 36,
  jv (aH (X2 b2 b4) (Fm.mk 8 [121] [] [Fm.mk 9 [122] [] [dR [82] [ap [121],ap [122]]]])) 36]
  8 9 Kc (by kernel_rfl) (fun k hk=>?_) (fun A7 γ W7 h=>?_)
 ·match k,hk with
  | 0,_=>exact o7 [121]
  | 1,_=>exact o7 [122]
  | 2,_=>exact lB hL _ _ 64 65 (am 0) (am 1)
  | 3,_=>exact zp [82] [ap [121],ap [122]] 66 (am 2)
  | 4,_=>exact eL hL _ 67 (am 3)
  | 5,_=>exact gQ 9 [122] [dR [82] [ap [121],ap [122]]] 68 (am 4)
  | 6,_=>exact eL hL _ 69 (am 5)
  | 7,_=>exact gQ 8 [121] [Fm.mk 9 [122] [] [dR [82] [ap [121],ap [122]]]] 70 (am 6)
  | 8,_=>exact iJ rfl
  | 9,_=>exact iK _ 7 71 rfl (am 8) (am 7)
  | k+10,hk=>exact absurd hk (by simp)
 have Ty:=h.sz.trans Kc
 have hd7:=h.df.trans hd6
 have Zi:Below w.heap.size w W7:=aG Rx h.inv.1 (fun _ h=>h.elim)
 obtain ⟨vz,tz,fz⟩:=h.get 8 _ 7 rfl rfl
 obtain ⟨b7,q7,lz,Zj⟩:=o_ tz fz (h.did 9 _ rfl rfl) h.inv
 have Jq:=Sa.nx (h.od 1) h.inv.1 bB
 have Fy:=Og.nx (h.od 2) h.inv.1 bB
 have Sd:=Oh.nx (h.od 4) h.inv.1 bB
 have Jr:=Sc.nx (h.od 6) h.inv.1 bB
 have Zk:b7≠b1:=by have:=(bl Sa.box);have h:W6.heap.size<=b7:=Zj;have h2:b1<W6.heap.size:=this;omega
 have zcd:b1≠b7:=fun e=>Zk e.symm
 have Oj:b7≠b2:=by have:=(bl Og.box);have h:W6.heap.size<=b7:=Zj;have h2:b2<W6.heap.size:=this;omega
 have zce:b2≠b7:=fun e=>Oj e.symm
 have Se:b7≠b4:=by have:=(bl Oh.box);have h:W6.heap.size<=b7:=Zj;have h2:b4<W6.heap.size:=this;omega
 have zcf:b4≠b7:=fun e=>Se e.symm
 have Zl:b7≠b6:=by have:=(bl Sc.box);have h:W6.heap.size<=b7:=Zj;have h2:b6<W6.heap.size:=this;omega
 have zcg:b6≠b7:=fun e=>Zl e.symm
 have hw7:w.heap.size<=b7:=by have h1:W6.heap.size<=b7:=Zj;have h2:=Rx.size;omega
 have Js:LF (X2 b2 b4) A7 W7 7 b7 q7 _:=lz.next rfl (Kp.refl (M:=bL) _) (fun h=>h) (fun _ _ h=>h) (fun _ h _=>h.1)
 have e9:=(bl Fy.box)
 have iQ:=(bl Sd.box)
 have pd:=h.ol 3 pd
 clear h
 refine hK _ _ ?_
 clear hT hL js bB
 have hT:Tabs WB W7.drew:=iU.next (Zi.drew)
 have hL:∀ c,W7.drew.heap.size<=c->(X2 b2 b4) c:=fun c hc=>by have h:W7.heap.size<=c:=hc;exact ⟨⟨trivial,by omega⟩,by omega⟩
 have js:∀ c,zt b2 c->WB.heap.size<=c:=fun c h=>by have h:c=b2:=h;subst h;have:=iU.size;omega
 have bB:∀ c,(X2 b2 b4) c->¬zt b2 c:=fun c h e=>h.1.2 e
 refine wpIn_seq_k (fun K hK=>?_)
 refine Dl (bl Fy.box) [aH (X2 b2 b4) (Fm.mk 8 [120] [] [ec [63,65]]),
  aH (X2 b2 b4) (Fm.mk 8 [121] [] [Fm.mk 9 [122] [] [dR [82] [ap [121],ap [122]]]]),
  Bz (X2 b2 b4) (Fm.mk 8 [120] [] [ec [63,65]]) (Fm.mk 8 [121] [] [Fm.mk 9 [122] [] [dR [82] [ap [121],ap [122]]]]),
  aH (X2 b2 b4) (Ax [63,65] [120] [63,116]),
  dV (X2 b2 b4) (cT [97] []),
  ix (X2 b2 b4) [cT [97] []],
  dV (X2 b2 b4) (cT [102] [cT [97] []]),
  dV (X2 b2 b4) (ap [122]),
  ix (X2 b2 b4) [cT [102] [cT [97] []],ap [122]],
  aH (X2 b2 b4) (dR [82] [cT [102] [cT [97] []],ap [122]]),
  dL (X2 b2 b4) [dR [82] [cT [102] [cT [97] []],ap [122]]],
  aH (X2 b2 b4) (Fm.mk 9 [122] [] [dR [82] [cT [102] [cT [97] []],ap [122]]]),
  Bz (X2 b2 b4) (Ax [63,65] [120] [63,116]) (Fm.mk 9 [122] [] [dR [82] [cT [102] [cT [97] []],ap [122]]]),
  H' (X2 b2 b4) [(Fm.mk 8 [120] [] [ec [63,65]],Fm.mk 8 [121] [] [Fm.mk 9 [122] [] [dR [82] [ap [121],ap [122]]]]),(Ax [63,65] [120] [63,116],Fm.mk 9 [122] [] [dR [82] [cT [102] [cT [97] []],ap [122]]])],
  bi (X2 b2 b4) (⟨[],[]⟩),
  d9 (bi (X2 b2 b4) (⟨[(mA,km)],[(mT,jH)]⟩)) [.int .i64 0,.int .i64 0],
  d9 (bi (X2 b2 b4) (⟨[(mA,km)],[(mT,jH)]⟩)) [.int .i64 0,.int .i64 0],
  bi (X2 b2 b4) (⟨[(mA,km)],[(mT,jH)]⟩),
  aE (.int .i64 0),
  aE (.int .i64 0),
  jv (bi (X2 b2 b4) (⟨[(mA,km)],[(mT,jH)]⟩)) 26,
  aE (.int .i64 0),
  aE (.int .i64 0)]
  20 Ty (by kernel_rfl) (by kernel_rfl) (fun k hk=>?_) (fun A8 γ W8 h=>?_)
 ·match k,hk with
  | 0,_=>exact cd _ _ 6 Jr.drew.box (fun h=>Oi h) (Jr.drew.at bB) (old Jr.drew.slot)
  | 1,_=>exact cd _ _ 7 Js.drew.box (fun h=>Oj h) (Js.drew.at bB) (old Js.drew.slot)
  | 2,_=>exact pG _ _ 73 74 (am 0) (am 1)
  | 3,_=>exact wG [63,65] [120] [63,116] hL
  | 4,_=>exact N8 [97]
  | 5,_=>exact jZ hL _ 77 (am 4)
  | 6,_=>exact Y8 [102] [cT [97] []] 78 (am 5)
  | 7,_=>exact o7 [122]
  | 8,_=>exact lB hL _ _ 79 80 (am 6) (am 7)
  | 9,_=>exact zp [82] [cT [102] [cT [97] []],ap [122]] 81 (am 8)
  | 10,_=>exact eL hL _ 82 (am 9)
  | 11,_=>exact gQ 9 [122] [dR [82] [cT [102] [cT [97] []],ap [122]]] 83 (am 10)
  | 12,_=>exact pG _ _ 76 84 (am 3) (am 11)
  | 13,_=>exact zr hL _ _ _ _ 75 85 (am 2) (am 12)
  | 14,_=>exact fV _ _ 1 Jq.drew.box (fun h=>R8 h) (Jq.drew.at bB) (old Jq.drew.slot)
  | 15,_=>exact rg _ _ _ _ _ aw2 (by decide) Dn iL 86 87 hT js hL (am 13) (am 14)
  | 16,_=>exact au (d9 (bi (X2 b2 b4) (⟨[(mA,km)],[(mT,jH)]⟩)) [.int .i64 0,.int .i64 0]) 88 (am 15)
  | 17,_=>exact gq (bi (X2 b2 b4) (⟨[(mA,km)],[(mT,jH)]⟩)) [.int .i64 0,.int .i64 0] 72 (am 16)
  | 18,_=>exact gD (bi (X2 b2 b4) (⟨[(mA,km)],[(mT,jH)]⟩)) [.int .i64 0,.int .i64 0] 0 (.int .i64 0) rfl 72 (am 16)
  | 19,_=>exact gD (bi (X2 b2 b4) (⟨[(mA,km)],[(mT,jH)]⟩)) [.int .i64 0,.int .i64 0] 1 (.int .i64 0) rfl 72 (am 16)
  | 20,_=>exact Ib _ 2 89 rfl Fy.drew.box rfl (old Fy.drew.slot) (am 17)
  | 21,_=>exact bF (aE (.int .i64 0)) 90 (am 18)
  | 22,_=>exact bF (aE (.int .i64 0)) 91 (am 19)
  | k+23,hk=>exact absurd hk (by simp)
 have R4:=h.sz.trans Ty
 have hd8:=h.df.trans hd7
 have V4:Below w.heap.size w W8:=aG Zi.drew h.inv.1 (fun c h=>by have h:c=b2:=h;subst h;omega)
 have Sf:=Jq.drew.next (L':=(X2 b2 b4)) (h.old 1 (by kernel_rfl)) h.inv.1 (fun h=>R8 h) bB (fun _ h _=>h)
 obtain ⟨q2,BB⟩:=QE ((h.old 2 (by kernel_rfl)).trans Fy.slot) (h.did 20 _ rfl rfl) h.inv
 have Ok:=Sd.drew.next (L':=(X2 b2 b4)) (h.old 4 (by kernel_rfl)) h.inv.1 (fun h=>R9 h) bB (fun _ h _=>h)
 have Sg:=Jr.drew.next (L':=(X2 b2 b4)) (h.old 6 (by kernel_rfl)) h.inv.1 (fun h=>Oi h) bB (fun _ h _=>h)
 have Sh:=Js.drew.next (L':=(X2 b2 b4)) (h.old 7 (by kernel_rfl)) h.inv.1 (fun h=>Oj h) bB (fun _ h _=>h)
 have e9:=(bl BB.box)
 have iQ:=(bl Ok.box)
 obtain ⟨UK,pd,UL⟩:=h.get 22 _ 3 rfl rfl
 obtain rfl:UK=.int .i64 0:=UL
 obtain ⟨Zm,wu,Zn⟩:=h.get 21 _ 8 rfl rfl
 obtain rfl:Zm=.int .i64 0:=Zn
 clear h
 refine hK _ _ ?_
 clear hT hL js bB
 have hT:Tabs WB W8:=iU.next (V4)
 have hL:∀ c,W8.heap.size<=c->(X2 b2 b4) c:=fun c hc=>by have h:W8.heap.size<=c:=hc;exact ⟨⟨trivial,by omega⟩,by omega⟩
 have js:∀ c,bL c->WB.heap.size<=c:=fun _ h=>h.elim
 have bB:∀ c,(X2 b2 b4) c->¬bL c:=fun _ _ h=>h
 refine wpIn_seq_k (fun K hK=>?_)
 refine bX  [bi (X2 b2 b4) (⟨[(mA,km)],[(mT,jH)]⟩),
  d9 (dV (X2 b2 b4) (jH)) [.bool true],
  d9 (dV (X2 b2 b4) (jH)) [.bool true],
  dV (X2 b2 b4) (jH),
  aE (.bool true),
  lO #[.bool false,.string ⟨#[]⟩,.slice none 0 0] 43,
  jv (dV (X2 b2 b4) (jH)) 43,
  aE (.bool true)]
  5 6 R4 (by kernel_rfl) (fun k hk=>?_) (fun A9 γ W9 h=>?_)
 ·match k,hk with
  | 0,_=>exact fV _ _ 2 BB.box (fun h=>h) (BB.at bB) (old BB.slot)
  | 1,_=>exact QB (⟨[(mA,km)],[(mT,jH)]⟩) [63,116] (by decide) UJ 93 hL (am 0)
  | 2,_=>exact au (d9 (dV (X2 b2 b4) (jH)) [.bool true]) 94 (am 1)
  | 3,_=>exact gq (dV (X2 b2 b4) (jH)) [.bool true] 92 (am 2)
  | 4,_=>exact gD (dV (X2 b2 b4) (jH)) [.bool true] 0 (.bool true) rfl 92 (am 2)
  | 5,_=>exact KY rfl
  | 6,_=>exact KZ _ 9 95 rfl (am 5) (am 3)
  | 7,_=>exact bF (aE (.bool true)) 96 (am 4)
  | k+8,hk=>exact absurd hk (by simp)
 have F1:=h.sz.trans R4
 have QF:=h.df.trans hd8
 have F2:Below w.heap.size w W9:=aG V4 h.inv.1 (fun _ h=>h.elim)
 obtain ⟨vz,tz,fz⟩:=h.get 5 _ 9 rfl rfl
 obtain ⟨b9,q9,lz,FV⟩:=UG tz fz (h.did 6 _ rfl rfl) h.inv
 have Zo:=Sf.nx (h.od 1) h.inv.1 bB
 have Jt:=BB.nx (h.od 2) h.inv.1 bB
 have Fz:=Ok.nx (h.od 4) h.inv.1 bB
 have Zp:=Sg.nx (h.od 6) h.inv.1 bB
 have Zq:=Sh.nx (h.od 7) h.inv.1 bB
 have Zr:b9≠b1:=by have:=(bl Sf.box);have h:W8.heap.size<=b9:=FV;have h2:b1<W8.heap.size:=this;omega
 have zch:b1≠b9:=fun e=>Zr e.symm
 have Zs:b9≠b2:=by have:=(bl BB.box);have h:W8.heap.size<=b9:=FV;have h2:b2<W8.heap.size:=this;omega
 have zci:b2≠b9:=fun e=>Zs e.symm
 have Si:b9≠b4:=by have:=(bl Ok.box);have h:W8.heap.size<=b9:=FV;have h2:b4<W8.heap.size:=this;omega
 have zcj:b4≠b9:=fun e=>Si e.symm
 have Zt:b9≠b6:=by have:=(bl Sg.box);have h:W8.heap.size<=b9:=FV;have h2:b6<W8.heap.size:=this;omega
 have zck:b6≠b9:=fun e=>Zt e.symm
 have Zu:b9≠b7:=by have:=(bl Sh.box);have h:W8.heap.size<=b9:=FV;have h2:b7<W8.heap.size:=this;omega
 have zcl:b7≠b9:=fun e=>Zu e.symm
 have hw9:w.heap.size<=b9:=by have h1:W8.heap.size<=b9:=FV;have h2:=V4.size;omega
 have Zv:LT (X2 b2 b4) A9 W9 9 b9 q9 _:=lz.next rfl (Kp.refl (M:=bL) _) (fun h=>h) (fun _ _ h=>h) (fun _ h _=>h.1)
 have e9:=(bl Jt.box)
 have iQ:=(bl Fz.box)
 have pd:=h.ol 3 pd
 have wu:=h.ol 8 wu
 obtain ⟨zbH,UM,zbI⟩:=h.get 7 _ 10 rfl rfl
 obtain rfl:zbH=.bool true:=zbI
 clear h
 refine hK _ _ ?_
 clear hT hL js bB
 have hT:Tabs WB W9:=iU.next (F2)
 have hL:∀ c,W9.heap.size<=c->(X2 b2 b4) c:=fun c hc=>by have h:W9.heap.size<=c:=hc;exact ⟨⟨trivial,by omega⟩,by omega⟩
 have js:∀ c,zt b4 c->WB.heap.size<=c:=fun c h=>by have h:c=b4:=h;subst h;have:=iU.size;omega
 have bB:∀ c,(X2 b2 b4) c->¬zt b4 c:=fun c h e=>h.2 e
 refine wpIn_seq_k (fun K hK=>?_)
 refine Dm (bl Fz.box) [bi (X2 b2 b4) (⟨[(mA,km)],[(mT,jH)]⟩),
  d9 (aH (X2 b2 b4) (km)) [.bool true],
  d9 (aH (X2 b2 b4) (km)) [.bool true],
  aH (X2 b2 b4) (km),
  aE (.bool true),
  jv (aH (X2 b2 b4) (km)) 36]
  5 F1 (by kernel_rfl) (fun k hk=>?_) (fun A10 γ kJ h=>?_)
 ·match k,hk with
  | 0,_=>exact fV _ _ 2 Jt.box (fun h=>Zf h) (Jt.at bB) (old Jt.slot)
  | 1,_=>exact Jo (⟨[(mA,km)],[(mT,jH)]⟩) [63,65] (by decide) UI 98 hL (am 0)
  | 2,_=>exact au (d9 (aH (X2 b2 b4) (km)) [.bool true]) 99 (am 1)
  | 3,_=>exact gq (aH (X2 b2 b4) (km)) [.bool true] 97 (am 2)
  | 4,_=>exact gD (aH (X2 b2 b4) (km)) [.bool true] 0 (.bool true) rfl 97 (am 2)
  | 5,_=>exact Ia _ 4 100 rfl Fz.box rfl (old Fz.slot) (am 3)
  | k+6,hk=>exact absurd hk (by simp)
 have FA:=h.sz.trans F1
 have Ic:=h.df.trans QF
 have FB:Below w.heap.size w kJ:=aG F2 h.inv.1 (fun c h=>by have h:c=b4:=h;subst h;omega)
 have UN:=Zo.next (L':=(X2 b2 b4)) (h.old 1 (by kernel_rfl)) h.inv.1 (fun h=>Ze h) bB (fun _ h _=>h)
 obtain ⟨q4,Do⟩:=QD ((h.old 4 (by kernel_rfl)).trans Fz.slot) (h.did 5 _ rfl rfl) h.inv
 have UO:=Zp.next (L':=(X2 b2 b4)) (h.old 6 (by kernel_rfl)) h.inv.1 (fun h=>Sb h) bB (fun _ h _=>h)
 have UP:=Zq.next (L':=(X2 b2 b4)) (h.old 7 (by kernel_rfl)) h.inv.1 (fun h=>Se h) bB (fun _ h _=>h)
 have Ie:=Zv.next (L':=(X2 b2 b4)) (h.old 9 (by kernel_rfl)) h.inv.1 (fun h=>Si h) bB (fun _ h _=>h)
 have iQ:=(bl Do.box)
 have e9:b2<kJ.heap.size:=Nat.lt_of_lt_of_le e9 h.inv.1.size
 have pd:=h.ol 3 pd
 have wu:=h.ol 8 wu
 have UM:=h.ol 10 UM
 clear h
 refine hK _ _ ?_
 clear hT hL js bB
 have hT:Tabs WB kJ.drew:=iU.next (FB.drew)
 have hL:∀ c,kJ.drew.heap.size<=c->(X2 b2 b4) c:=fun c hc=>by have h:kJ.heap.size<=c:=hc;exact ⟨⟨trivial,by omega⟩,by omega⟩
 have js:∀ c,bL c->WB.heap.size<=c:=fun _ h=>h.elim
 have bB:∀ c,(X2 b2 b4) c->¬bL c:=fun _ _ h=>h
 refine wpIn_seq_k (fun K hK=>?_)
 refine wpIn_seq_k (fun K2 Zg=>?_)
 refine dM  [aE (.int .i64 0),
  aE (.bool false),
  aE (.bool false),
  aE (.int .i64 0),
  aE (.bool false),
  aE (.bool false),
  aE (.bool false),
  aE (.bool true),
  aE (.bool false),
  aE (.bool false),
  aE (.bool false),
  dV (X2 b2 b4) (jH),
  ix (X2 b2 b4) [jH],
  dV (X2 b2 b4) (cT [97] []),
  ix (X2 b2 b4) [cT [97] []],
  dV (X2 b2 b4) (cT [102] [cT [97] []]),
  ix (X2 b2 b4) [cT [102] [cT [97] []]],
  aE (.bool true),
  aE (.bool false),
  aE (.bool false),
  aE (.bool false),
  aH (X2 b2 b4) (km),
  dV (X2 b2 b4) (ap [63,120]),
  dV (X2 b2 b4) (ap [122]),
  ix (X2 b2 b4) [ap [63,120],ap [122]],
  aH (X2 b2 b4) (dR [82] [ap [63,120],ap [122]]),
  dL (X2 b2 b4) [dR [82] [ap [63,120],ap [122]]],
  aH (X2 b2 b4) (Fm.mk 9 [122] [] [dR [82] [ap [63,120],ap [122]]]),
  aE (.bool true),
  aE (.bool false),
  aE (.bool false)]
  31 31 FA (by kernel_rfl) (by kernel_rfl) (fun k hk=>?_) (fun A11 γ ny h=>?_)
 ·match k,hk with
  | 0,_=>exact au (aE (.int .i64 0)) 3 (old pd)
  | 1,_=>exact bG rfl 102 (.int .i64 0) (.bool false) (am 0) (fun _ _ _ _=>by go_simp)
  | 2,_=>exact au (aE (.bool false)) 103 (am 1)
  | 3,_=>exact au (aE (.int .i64 0)) 8 (old wu) (hw:=aw 2 (am 2))
  | 4,_=>exact bG rfl 105 (.int .i64 0) (.bool false) (am 3) (fun _ _ _ _=>by go_simp) (hw:=aw 2 (am 2))
  | 5,_=>exact cr rfl 104 106 (.bool false) (.bool false) (.bool false) (am 2) (am 4) (fun _ _ _ _ _ _=>by go_simp)
  | 6,_=>exact au (aE (.bool false)) 107 (am 5)
  | 7,_=>exact au (aE (.bool true)) 10 (old UM) (hw:=aw 6 (am 6))
  | 8,_=>exact bG rfl 109 (.bool true) (.bool false) (am 7) (fun _ _ _ _=>by go_simp) (hw:=aw 6 (am 6))
  | 9,_=>exact cr rfl 108 110 (.bool false) (.bool false) (.bool false) (am 6) (am 8) (fun _ _ _ _ _ _=>by go_simp)
  | 10,_=>exact au (aE (.bool false)) 111 (am 9)
  | 11,_=>exact Ob _ _ 9 Ie.drew.box (fun h=>h) (Ie.drew.at bB) (old Ie.drew.slot) (hw:=aw 10 (am 10))
  | 12,_=>exact jZ hL _ 113 (am 11) (hw:=aw 10 (am 10))
  | 13,_=>exact N8 [97] (hw:=aw 10 (am 10))
  | 14,_=>exact jZ hL _ 115 (am 13) (hw:=aw 10 (am 10))
  | 15,_=>exact Y8 [102] [cT [97] []] 116 (am 14) (hw:=aw 10 (am 10))
  | 16,_=>exact jZ hL _ 117 (am 15) (hw:=aw 10 (am 10))
  | 17,_=>exact N9 ([jH]) ([cT [102] [cT [97] []]]) ⟨by decide,by decide⟩ 114 118 (am 12) (am 16) (hw:=aw 10 (am 10)) (hp:=(pH zbE))
  | 18,_=>exact bG rfl 119 (.bool true) (.bool false) (am 17) (fun _ _ _ _=>by go_simp) (hw:=aw 10 (am 10))
  | 19,_=>exact cr rfl 112 120 (.bool false) (.bool false) (.bool false) (am 10) (am 18) (fun _ _ _ _ _ _=>by go_simp)
  | 20,_=>exact au (aE (.bool false)) 121 (am 19)
  | 21,_=>exact cd _ _ 4 Do.drew.box (fun h=>h) (Do.drew.at bB) (old Do.drew.slot) (hw:=aw 20 (am 20))
  | 22,_=>exact o7 [63,120] (hw:=aw 20 (am 20))
  | 23,_=>exact o7 [122] (hw:=aw 20 (am 20))
  | 24,_=>exact lB hL _ _ 124 125 (am 22) (am 23) (hw:=aw 20 (am 20))
  | 25,_=>exact zp [82] [ap [63,120],ap [122]] 126 (am 24) (hw:=aw 20 (am 20))
  | 26,_=>exact eL hL _ 127 (am 25) (hw:=aw 20 (am 20))
  | 27,_=>exact gQ 9 [122] [dR [82] [ap [63,120],ap [122]]] 128 (am 26) (hw:=aw 20 (am 20))
  | 28,_=>exact sN (km) (Fm.mk 9 [122] [] [dR [82] [ap [63,120],ap [122]]]) ⟨by decide,by decide⟩ 123 129 (am 21) (am 27) (hw:=aw 20 (am 20)) (hp:=(pH zbD))
  | 29,_=>exact bG rfl 130 (.bool true) (.bool false) (am 28) (fun _ _ _ _=>by go_simp) (hw:=aw 20 (am 20))
  | 30,_=>exact cr rfl 122 131 (.bool false) (.bool false) (.bool false) (am 20) (am 29) (fun _ _ _ _ _ _=>by go_simp)
  | k+31,hk=>exact absurd hk (by simp)
 have uf:=h.sz.trans FA
 have If:=h.df.trans Ic
 have zw:Below w.heap.size w ny:=aG FB.drew h.inv.1 (fun _ h=>h.elim)
 have Dp:=UN.drew.nx (h.od 1) h.inv.1 bB
 have Ig:=UO.drew.nx (h.od 6) h.inv.1 bB
 have Ih:=UP.drew.nx (h.od 7) h.inv.1 bB
 have e9:b2<ny.heap.size:=Nat.lt_of_lt_of_le e9 h.inv.1.size
 have iQ:b4<ny.heap.size:=Nat.lt_of_lt_of_le iQ h.inv.1.size
 have pd:=h.ol 3 pd
 have wu:=h.ol 8 wu
 obtain ⟨vc,tc,fc⟩:=h.get 30 _ 132 rfl rfl
 obtain rfl:vc=.bool false:=fc
 clear h
 refine Zg _ _ ?_
 refine wpIn_cond_false (bw tc) (wpIn_skip ?_)
 refine hK _ _ ?_
 clear hT hL js bB
 have hT:Tabs WB ny.drew:=iU.next (zw.drew)
 have hL:∀ c,ny.drew.heap.size<=c->(X2 b2 b4) c:=fun c hc=>by have h:ny.heap.size<=c:=hc;exact ⟨⟨trivial,by omega⟩,by omega⟩
 have js:∀ c,bL c->WB.heap.size<=c:=fun _ h=>h.elim
 have bB:∀ c,(X2 b2 b4) c->¬bL c:=fun _ _ h=>h
 refine wpIn_seq_k (fun K hK=>?_)
 refine dM  [aH (X2 b2 b4) (Fm.mk 8 [120] [] [ec [63,65]]),
  aH (X2 b2 b4) (Fm.mk 8 [121] [] [Fm.mk 9 [122] [] [dR [82] [ap [121],ap [122]]]]),
  Bz (X2 b2 b4) (Fm.mk 8 [120] [] [ec [63,65]]) (Fm.mk 8 [121] [] [Fm.mk 9 [122] [] [dR [82] [ap [121],ap [122]]]]),
  aH (X2 b2 b4) (Ax [63,65] [120] [63,116]),
  dV (X2 b2 b4) (ap [122]),
  dV (X2 b2 b4) (ap [122]),
  ix (X2 b2 b4) [ap [122],ap [122]],
  aH (X2 b2 b4) (dR [82] [ap [122],ap [122]]),
  dL (X2 b2 b4) [dR [82] [ap [122],ap [122]]],
  aH (X2 b2 b4) (Fm.mk 9 [122] [] [dR [82] [ap [122],ap [122]]]),
  Bz (X2 b2 b4) (Ax [63,65] [120] [63,116]) (Fm.mk 9 [122] [] [dR [82] [ap [122],ap [122]]]),
  H' (X2 b2 b4) [(Fm.mk 8 [120] [] [ec [63,65]],Fm.mk 8 [121] [] [Fm.mk 9 [122] [] [dR [82] [ap [121],ap [122]]]]),(Ax [63,65] [120] [63,116],Fm.mk 9 [122] [] [dR [82] [ap [122],ap [122]]])],
  bi (X2 b2 b4) (⟨[],[]⟩),
  d9 (bi (X2 b2 b4) (⟨[],[]⟩)) [.int .i64 1,.int .i64 70],
  d9 (bi (X2 b2 b4) (⟨[],[]⟩)) [.int .i64 1,.int .i64 70],
  bi (X2 b2 b4) (⟨[],[]⟩),
  aE (.int .i64 1),
  aE (.int .i64 70),
  aE (.int .i64 1),
  aE (.int .i64 70)]
  20 20 uf (by kernel_rfl) (by kernel_rfl) (fun k hk=>?_) (fun A13 γ fv h=>?_)
 ·match k,hk with
  | 0,_=>exact cd _ _ 6 Ig.drew.box (fun h=>h) (Ig.drew.at bB) (old Ig.drew.slot)
  | 1,_=>exact cd _ _ 7 Ih.drew.box (fun h=>h) (Ih.drew.at bB) (old Ih.drew.slot)
  | 2,_=>exact pG _ _ 134 135 (am 0) (am 1)
  | 3,_=>exact wG [63,65] [120] [63,116] hL
  | 4,_=>exact o7 [122]
  | 5,_=>exact o7 [122]
  | 6,_=>exact lB hL _ _ 138 139 (am 4) (am 5)
  | 7,_=>exact zp [82] [ap [122],ap [122]] 140 (am 6)
  | 8,_=>exact eL hL _ 141 (am 7)
  | 9,_=>exact gQ 9 [122] [dR [82] [ap [122],ap [122]]] 142 (am 8)
  | 10,_=>exact pG _ _ 137 143 (am 3) (am 9)
  | 11,_=>exact zr hL _ _ _ _ 136 144 (am 2) (am 10)
  | 12,_=>exact fV _ _ 1 Dp.drew.box (fun h=>h) (Dp.drew.at bB) (old Dp.drew.slot)
  | 13,_=>exact rg _ _ _ _ _ aw3 (by decide) Dn iL 145 146 hT js hL (am 11) (am 12)
  | 14,_=>exact au (d9 (bi (X2 b2 b4) (⟨[],[]⟩)) [.int .i64 1,.int .i64 70]) 147 (am 13)
  | 15,_=>exact gq (bi (X2 b2 b4) (⟨[],[]⟩)) [.int .i64 1,.int .i64 70] 133 (am 14)
  | 16,_=>exact gD (bi (X2 b2 b4) (⟨[],[]⟩)) [.int .i64 1,.int .i64 70] 0 (.int .i64 1) rfl 133 (am 14)
  | 17,_=>exact gD (bi (X2 b2 b4) (⟨[],[]⟩)) [.int .i64 1,.int .i64 70] 1 (.int .i64 70) rfl 133 (am 14)
  | 18,_=>exact bF (aE (.int .i64 1)) 149 (am 16)
  | 19,_=>exact bF (aE (.int .i64 70)) 150 (am 17)
  | k+20,hk=>exact absurd hk (by simp)
 have zx:=h.sz.trans uf
 have Ii:=h.df.trans If
 have eJ:Below w.heap.size w fv:=aG zw.drew h.inv.1 (fun _ h=>h.elim)
 have zy:=Dp.drew.nx (h.od 1) h.inv.1 bB
 have e9:b2<fv.heap.size:=Nat.lt_of_lt_of_le e9 h.inv.1.size
 have iQ:b4<fv.heap.size:=Nat.lt_of_lt_of_le iQ h.inv.1.size
 obtain ⟨UK,pd,UL⟩:=h.get 19 _ 3 rfl rfl
 obtain rfl:UK=.int .i64 70:=UL
 obtain ⟨Zm,wu,Zn⟩:=h.get 18 _ 8 rfl rfl
 obtain rfl:Zm=.int .i64 1:=Zn
 clear h
 refine hK _ _ ?_
 clear hT hL js bB
 have hT:Tabs WB fv.drew:=iU.next (eJ.drew)
 have hL:∀ c,fv.drew.heap.size<=c->(X2 b2 b4) c:=fun c hc=>by have h:fv.heap.size<=c:=hc;exact ⟨⟨trivial,by omega⟩,by omega⟩
 have js:∀ c,bL c->WB.heap.size<=c:=fun _ h=>h.elim
 have bB:∀ c,(X2 b2 b4) c->¬bL c:=fun _ _ h=>h
 refine wpIn_seq_k (fun K hK=>?_)
 refine dM  [aH (X2 b2 b4) (Ax [63,65] [120] [63,116]),
  dV (X2 b2 b4) (cT [97] []),
  ix (X2 b2 b4) [cT [97] []],
  aH (X2 b2 b4) (dR [80] [cT [97] []]),
  bi (X2 b2 b4) (⟨[],[]⟩),
  d9 (bi (X2 b2 b4) (⟨[],[]⟩)) [.int .i64 71],
  d9 (bi (X2 b2 b4) (⟨[],[]⟩)) [.int .i64 71],
  bi (X2 b2 b4) (⟨[],[]⟩),
  aE (.int .i64 71),
  lO #[.slice none 0 0,.slice none 0 0] 26,
  jv (bi (X2 b2 b4) (⟨[],[]⟩)) 26,
  aE (.int .i64 71)]
  9 10 zx (by kernel_rfl) (by kernel_rfl) (fun k hk=>?_) (fun A14 γ K3 h=>?_)
 ·match k,hk with
  | 0,_=>exact wG [63,65] [120] [63,116] hL
  | 1,_=>exact N8 [97]
  | 2,_=>exact jZ hL _ 153 (am 1)
  | 3,_=>exact zp [80] [cT [97] []] 154 (am 2)
  | 4,_=>exact fV _ _ 1 zy.drew.box (fun h=>h) (zy.drew.at bB) (old zy.drew.slot)
  | 5,_=>exact o9 _ _ _ _ _ _ aw4 ⟨by decide,by decide⟩ ⟨by decide,by decide⟩ iL 152 155 156 hT js hL (am 0) (am 3) (am 4)
  | 6,_=>exact au (d9 (bi (X2 b2 b4) (⟨[],[]⟩)) [.int .i64 71]) 157 (am 5)
  | 7,_=>exact gq (bi (X2 b2 b4) (⟨[],[]⟩)) [.int .i64 71] 151 (am 6)
  | 8,_=>exact gD (bi (X2 b2 b4) (⟨[],[]⟩)) [.int .i64 71] 0 (.int .i64 71) rfl 151 (am 6)
  | 9,_=>exact jI rfl
  | 10,_=>exact jJ _ 11 158 rfl (am 9) (am 7)
  | 11,_=>exact bF (aE (.int .i64 71)) 159 (am 8)
  | k+12,hk=>exact absurd hk (by simp)
 have pp300:=();exact pm300
end
end Go.Proofs.YtokemihbkeddoaaGreatDoor
