/-
The walk of MatchMore of lyceumlaw07.
-/
import Derived.Test.YtokemihbkeddoaaGreatDoorRows
import Derived.Test.YtokemihbkeddoaaGreatDoorU19
namespace Go.Proofs.YtokemihbkeddoaaGreatDoor
open Go Go.RowKit Lib
set_option maxRecDepth 100000
set_option maxHeartbeats 64000000
variable {L:Nat->Prop} {a:Act} {w:World} {d b:Nat} {q:BQ} {f:Bd}
section
attribute [local go_sem] Oper.semAt_some
abbrev Lt (n:Nat):Nat->Prop:=fun c=>c<n
theorem LB.weak (h:LB L a w d b q f):LB X0 a w d b q f:=⟨h.slot,h.box,h.val.move (fun _ h _=>⟨⟨trivial,h.2⟩,rfl⟩)⟩
theorem LB.lt {n:Nat} (h:LB L a w d b q f) (hn:w.heap.size<=n):LB (Lt n) a w d b q f:=⟨h.slot,h.box,h.val.move (fun _ h hlt=>⟨⟨bE hlt hn,h.2⟩,rfl⟩)⟩
structure MoreA (w0:World) (la:Option Addr) (lc:Nat) (l:List (Fm×Fm)) (bd kd:Bd) (b3 b5:Nat) (q3 q5:BQ) (s i:Nat) (a:Act) (W:World):Prop where
 hs:a.tmps.size=159
 hd:a.defers=[]
 HB:Below w0.heap.size w0 W
 ti:a.tmps[s]?=some (.int .i64 i)
 t0:a.tmps[0]?=some (.slice la l.length lc)
 B3:LB X0 a W 3 b3 q3 bd
 B5:LB X0 a W 5 b5 q5 kd
 P0:SPairsV (okS X0 W) W (.slice la l.length lc) l
structure MoreC (w0:World) (la:Option Addr) (lc:Nat) (l:List (Fm×Fm)) (kd:Bd) (b5:Nat) (q5:BQ) (N j:Nat) (v14:Value) (a:Act) (W:World):Prop where
 hs:a.tmps.size=159
 hd:a.defers=[]
 HB:Below w0.heap.size w0 W
 t15:a.tmps[15]?=some (.int .i64 ((l.length:Int) - 1 - j))
 t14:a.tmps[14]?=some v14
 t0:a.tmps[0]?=some (.slice la l.length lc)
 B5:LB (Lt N) a W 5 b5 q5 kd
 P0:SPairsV (okS (Lt N) W) W (.slice la l.length lc) l
 R14:RowP N v14 (l.reverse.take j) W
theorem E1 (WB:World) (l:List (Fm×Fm)) (bd:Bd) (qW:fitFs (cz l)) (hb1:bd.fs.length<=1000000) (bD:bd.ts.length<=1000000) (vj:bd.fs.length<=10->bd.ts.length<=10->fitFs (jV bd.fs ++ kI bd.ts)) (ok ok':Nat->Prop) (w:World) (jc:Tabs WB w) (la:Option Addr) (lc:Nat) (q:BQ) (hl:SPairsV ok w (.slice la l.length lc) l) (hq:BindV ok' w q bd) :
  Calls Tryz.prog 3 #[.slice la l.length lc,q.val] w fun e w'=>e=.returned (.bool true)/\Below w.heap.size w w':=by
 obtain ⟨qa,ql,qc,qb,qm,qe⟩:=q;obtain rfl:=hq.1.len;obtain rfl:=hq.2.len;obtain ⟨W2,bm⟩:=am (w.alloc (.cells #[.slice qa bd.fs.length qc,.slice qb bd.ts.length qe] 26));have HB:=cZ bm;have hx:=cb bm;have hlw:SPairsV (fun b=>b<w.heap.size) w (.slice la l.length lc) l:=hl.move (fun _ _ h=>⟨h,rfl⟩);have hqw:BindV (fun b=>b<w.heap.size) w ⟨qa,bd.fs.length,qc,qb,bd.ts.length,qe⟩ bd:=hq.move (fun _ _ h=>⟨h,rfl⟩);have P0:SPairsV (okS X0 W2) W2 (.slice la l.length lc) l:=(hlw.later HB).move (fun _ h hlt=>⟨⟨trivial,hlt⟩,rfl⟩);have hvb:BindV (okS X0 W2) W2 ⟨qa,bd.fs.length,qc,qb,bd.ts.length,qe⟩ bd:=(hqw.later HB).move (fun _ h hlt=>⟨⟨trivial,hlt⟩,rfl⟩);clear hl hq hlw hqw;simp only[BQ.val];refine ml Tryz.func3 ?_;simp only[Tryz.ntmps3,Nat.reduceAdd,Nat.reduceSub,kM];refine bM (fun K hK=>?_);refine wpIn_region_lit ?_
 iterate 7 gi_step
 refine hK _ _ ?_;rw[<-bm];refine (fun (A:Act) (hs:A.tmps.size=159) (hd:A.defers=[]) (t0:A.tmps[0]?=some (.slice la l.length lc)) (t3:A.tmps[3]?=some (ptr w.heap.size))=>?_:∀ A:Act,A.tmps.size=159->A.defers=[]->A.tmps[0]?=some (.slice la l.length lc)->A.tmps[3]?=some (ptr w.heap.size)->Code.wpIn Fence.wide 3 _ _ _ A W2) _ rfl rfl rfl rfl;clear hK K;obtain ⟨b3,aL⟩:=am w.heap.size;rw[<-aL]at hx t3;clear aL;obtain ⟨q3,DT⟩:=am (⟨qa,bd.fs.length,qc,qb,bd.ts.length,qe⟩:BQ);have B3:LB X0 A W2 3 b3 q3 bd:=by rw[DT];exact ⟨t3,hx,hvb⟩
 clear t3 hx hvb bm;have kx:∀ c,b8 c->WB.heap.size<=c:=fun _ h=>h.elim;have bW:∀ c,X0 c->¬b8 c:=fun _ _ h=>h;have hL:∀ {u:World} (c),u.heap.size<=c->X0 c:=fun _ _=>trivial;have hT:Tabs WB W2:=jc.next (HB);refine bM (fun K1a za6=>?_);refine bM (fun K1b za7=>?_);refine bO [bn (.bool true),
  bn (.bool false)]
  2 2 hs (by kernel_rfl) (fun k hk=>?_) (fun A1 γ W1 h=>?_)
 ·exact match k,hk with
  | 0,_=>Qh hT kx
  | 1,_=>cr rfl 21 (.bool false) (aq 0)
  | k+2,hk=>absurd hk (by simp)
 have iP:=h.sz.trans hs;have KY:=h.df.trans hd;have d_:Below w.heap.size w W1:=aD HB h.inv.1 (fun _ h=>h.elim);have B3:=B3.nx (h.od 3) h.inv.1 bW;have t0:=h.ol 0 t0;have P0:=P0.move (okS.next (L':=X0) h.inv.1 bW (fun _ h _=>h));clear hT;obtain ⟨vz,tc,fz⟩:=h.get 1 _ 22 rfl rfl;obtain rfl:vz=.bool false:=fz;clear h;refine za7 _ _ ?_;refine wpIn_cond_false (bg tc) (wpIn_skip ?_);refine za6 _ _ ?_;clear za6 za7 K1a K1b tc
 by_cases g_:EW l=true
 case neg=>
  have g_:EW l=false:=by simpa using g_
  have hT:Tabs WB W1:=jc.next (d_);refine bM (fun K3a SK=>?_);refine bM (fun K3b ML=>?_);refine bO [oE X0 l,
   bn (.bool false),
   bn (.bool true),
   bn (.bool true),
   bn undef,
   bn undef,
   bn undef,
   bn (.bool true)]
   8 8 iP (by kernel_rfl) (fun k hk=>?_) (fun A3 γ W3 h=>?_)
  ·exact match k,hk with
   | 0,_=>qr l 0 la lc P0 bW (old t0)
   | 1,_=>JS l qW 23 (aq 0) (hp:=SJ g_)
   | 2,_=>cr rfl 24 (.bool true) (aq 1)
   | 3,_=>aF _ 25 (aq 2)
   | 4,_=>JO false 3 (aq 3)
   | 5,_=>JO false 3 (aq 3)
   | 6,_=>JO false 3 (aq 3)
   | 7,_=>cr rfl 26 (.bool true) (aq 3)
   | k+8,hk=>absurd hk (by simp)
  have uz:=h.sz.trans iP;have MS:=h.df.trans KY;have bQ:Below w.heap.size w W3:=aD d_ h.inv.1 (fun _ h=>h.elim);have B3:=B3.nx (h.od 3) h.inv.1 bW;have t0:=h.ol 0 t0;have P0:=P0.move (okS.next (L':=X0) h.inv.1 bW (fun _ h _=>h));clear hT;obtain ⟨vz,tc,fz⟩:=h.get 7 _ 30 rfl rfl;obtain rfl:vz=.bool true:=fz;clear h;refine ML _ _ ?_;refine wpIn_cond_true (bg tc) ?_;have hT:Tabs WB W3:=jc.next (bQ);refine bM (fun K4a XH=>?_);refine bO [bn (.bool true)]
   1 1 uz (by kernel_rfl) (fun k hk=>?_) (fun A4 γ W4 h=>?_)
  ·exact match k,hk with
   | 0,_=>sH rfl (.bool true) (fun _ _=>by go_simp)
   | k+1,hk=>absurd hk (by simp)
  have DZ:=h.sz.trans uz;have Qz:=h.df.trans MS;have eG:Below w.heap.size w W4:=aD bQ h.inv.1 (fun _ h=>h.elim);have B3:=B3.nx (h.od 3) h.inv.1 bW;have t0:=h.ol 0 t0;have P0:=P0.move (okS.next (L':=X0) h.inv.1 bW (fun _ h _=>h));clear hT;obtain ⟨vz,tr,fz⟩:=h.get 0 _ 4 rfl rfl;obtain rfl:vz=.bool true:=fz;refine XH _ _ ?_;refine wpIn_ret ?_
  try simp only[Exit.then]
  exact pm282
 by_cases xy:me bd=true
 case neg=>
  have xy:me bd=false:=by simpa using xy
  have hT:Tabs WB W1:=jc.next (d_);refine bM (fun K3a SK=>?_);refine bM (fun K3b ML=>?_);refine bO [oE X0 l,
   bn (.bool true),
   bn (.bool false),
   bn (.bool false),
   bF X0 (bd),
   bn (.bool false),
   bn (.bool true),
   bn (.bool true)]
   8 8 iP (by kernel_rfl) (fun k hk=>?_) (fun A3 γ W3 h=>?_)
  ·exact match k,hk with
   | 0,_=>qr l 0 la lc P0 bW (old t0)
   | 1,_=>JS l qW 23 (aq 0) (hp:=SJ g_)
   | 2,_=>cr rfl 24 (.bool false) (aq 1)
   | 3,_=>aF _ 25 (aq 2)
   | 4,_=>dq _ _ 3 B3.box (fun h=>h) (B3.at bW) (old B3.slot) (hw:=aJ 3 (aq 3))
   | 5,_=>Di bd hb1 bD vj 27 (aq 4) (hw:=aJ 3 (aq 3)) (hp:=SJ xy)
   | 6,_=>cr rfl 28 (.bool true) (aq 5) (hw:=aJ 3 (aq 3))
   | 7,_=>ep rfl 26 29 (.bool true) (aq 3) (aq 6)
   | k+8,hk=>absurd hk (by simp)
  have uz:=h.sz.trans iP;have MS:=h.df.trans KY;have bQ:Below w.heap.size w W3:=aD d_ h.inv.1 (fun _ h=>h.elim);have B3:=B3.nx (h.od 3) h.inv.1 bW;have t0:=h.ol 0 t0;have P0:=P0.move (okS.next (L':=X0) h.inv.1 bW (fun _ h _=>h));clear hT;obtain ⟨vz,tc,fz⟩:=h.get 7 _ 30 rfl rfl;obtain rfl:vz=.bool true:=fz;clear h;refine ML _ _ ?_;refine wpIn_cond_true (bg tc) ?_;have hT:Tabs WB W3:=jc.next (bQ);refine bM (fun K4a XH=>?_);refine bO [bn (.bool true)]
   1 1 uz (by kernel_rfl) (fun k hk=>?_) (fun A4 γ W4 h=>?_)
  ·exact match k,hk with
   | 0,_=>sH rfl (.bool true) (fun _ _=>by go_simp)
   | k+1,hk=>absurd hk (by simp)
  have DZ:=h.sz.trans uz;have Qz:=h.df.trans MS;have eG:Below w.heap.size w W4:=aD bQ h.inv.1 (fun _ h=>h.elim);have B3:=B3.nx (h.od 3) h.inv.1 bW;have t0:=h.ol 0 t0;have P0:=P0.move (okS.next (L':=X0) h.inv.1 bW (fun _ h _=>h));clear hT;obtain ⟨vz,tr,fz⟩:=h.get 0 _ 4 rfl rfl;obtain rfl:vz=.bool true:=fz;refine XH _ _ ?_;refine wpIn_ret ?_
  try simp only[Exit.then]
  exact pm282
 have hT:Tabs WB W1:=jc.next (d_);refine bM (fun K3a SK=>?_);refine bM (fun K3b ML=>?_);refine bO [oE X0 l,
  bn (.bool true),
  bn (.bool false),
  bn (.bool false),
  bF X0 (bd),
  bn (.bool true),
  bn (.bool false),
  bn (.bool false)]
  8 8 iP (by kernel_rfl) (fun k hk=>?_) (fun A3 γ W3 h=>?_)
 ·exact match k,hk with
  | 0,_=>qr l 0 la lc P0 bW (old t0)
  | 1,_=>JS l qW 23 (aq 0) (hp:=SJ g_)
  | 2,_=>cr rfl 24 (.bool false) (aq 1)
  | 3,_=>aF _ 25 (aq 2)
  | 4,_=>dq _ _ 3 B3.box (fun h=>h) (B3.at bW) (old B3.slot) (hw:=aJ 3 (aq 3))
  | 5,_=>Di bd hb1 bD vj 27 (aq 4) (hw:=aJ 3 (aq 3)) (hp:=SJ xy)
  | 6,_=>cr rfl 28 (.bool false) (aq 5) (hw:=aJ 3 (aq 3))
  | 7,_=>ep rfl 26 29 (.bool false) (aq 3) (aq 6)
  | k+8,hk=>absurd hk (by simp)
 have uz:=h.sz.trans iP;have MS:=h.df.trans KY;have bQ:Below w.heap.size w W3:=aD d_ h.inv.1 (fun _ h=>h.elim);have B3:=B3.nx (h.od 3) h.inv.1 bW;have t0:=h.ol 0 t0;have P0:=P0.move (okS.next (L':=X0) h.inv.1 bW (fun _ h _=>h));clear hT;obtain ⟨vz,tc,fz⟩:=h.get 7 _ 30 rfl rfl;obtain rfl:vz=.bool false:=fz;clear h;refine ML _ _ ?_;refine wpIn_cond_false (bg tc) (wpIn_skip ?_);refine SK _ _ ?_;clear SK ML K3a K3b tc;obtain ⟨hl8,xJ⟩:=SI g_;have sy:bd.fs.length<=10/\bd.ts.length<=10:=by
  simp only[me,ah,bx]at xy;exact ⟨xy.1,xy.2.1⟩
 have oc:BdFit bd:=(JX xy (vj sy.1 sy.2)).1;have gU:∀ x∈l,fitF x.1/\fitF x.2:=fun x hx=>⟨qW.mem (Ar hx).1,qW.mem (Ar hx).2⟩
 obtain ⟨kd,ri,er,hM⟩:∃kd ri er,cd l bd=(kd,ri,er):=⟨_,_,_,rfl⟩;clear g_ xy;have hT:Tabs WB W3:=jc.next (bQ);refine bM (fun K5a za8=>?_);refine bO [oE X0 l,
  bF X0 (bd),
  fY (bF X0 (kd)) [.int .i64 (ri:Nat),.int .i64 er],
  fY (bF X0 (kd)) [.int .i64 (ri:Nat),.int .i64 er],
  bF X0 (kd),
  bn (.int .i64 (ri:Nat)),
  bn (.int .i64 er),
  l7 #[.slice none 0 0,.slice none 0 0] 26,
  jT (bF X0 (kd)) 26,
  bn (.int .i64 (ri:Nat)),
  bn (.int .i64 er)]
  7 8 uz (by kernel_rfl) (fun k hk=>?_) (fun A5 γ W5 h=>?_)
 ·exact match k,hk with
  | 0,_=>qr l 0 la lc P0 bW (old t0)
  | 1,_=>dq _ _ 3 B3.box (fun h=>h) (B3.at bW) (old B3.slot)
  | 2,_=>l_ _ _ _ _ _ hM hl8 gU oc 32 33 hT kx hL (aq 0) (aq 1)
  | 3,_=>aF _ 34 (aq 2)
  | 4,_=>fM _ _ 31 (aq 3)
  | 5,_=>fC (bF X0 (kd)) [.int .i64 (ri:Nat),.int .i64 er] 0 (.int .i64 (ri:Nat)) rfl 31 (aq 3)
  | 6,_=>fC (bF X0 (kd)) [.int .i64 (ri:Nat),.int .i64 er] 1 (.int .i64 er) rfl 31 (aq 3)
  | 7,_=>ko rfl
  | 8,_=>kr _ 5 35 rfl (aq 7) (aq 4)
  | 9,_=>bY _ 36 (aq 5)
  | 10,_=>bY _ 37 (aq 6)
  | k+11,hk=>absurd hk (by simp)
 have MY:=h.sz.trans uz;have hd5:=h.df.trans MS;have wn:Below w.heap.size w W5:=aD bQ h.inv.1 (fun _ h=>h.elim);have B3:=B3.nx (h.od 3) h.inv.1 bW;have t0:=h.ol 0 t0;have P0:=P0.move (okS.next (L':=X0) h.inv.1 bW (fun _ h _=>h));obtain ⟨vz,tz,fz⟩:=h.get 7 _ 5 rfl rfl;obtain ⟨b5,q5,lz,_⟩:=sI tz fz (h.did 8 _ rfl rfl) h.inv;have B5:=lz.next (L':=X0) rfl (Kp.refl (M:=b8) _) (fun h=>h) (fun _ _ h=>h) (fun _ h _=>h.1);clear vz tz fz lz;clear hT;obtain ⟨vz,t7,fz⟩:=h.get 10 _ 7 rfl rfl;obtain rfl:vz=.int .i64 er:=fz;clear h;refine za8 _ _ ?_;clear za8 K5a
 by_cases hz:er=0
 case neg=>
  have i_:(er == 0)=false:=by simpa using hz
  have ig:(er != 0)=true:=by simpa using hz
  have hT:Tabs WB W5:=jc.next (wn);refine bM (fun K6a XI=>?_);refine bM (fun K6b SL=>?_);refine bO [bn (.int .i64 er),
   bn (.bool true)]
   2 2 MY (by kernel_rfl) (fun k hk=>?_) (fun A6 γ W6 h=>?_)
  ·exact match k,hk with
   | 0,_=>aF _ 7 (old t7)
   | 1,_=>cr rfl 38 (.bool true) (aq 0)
   | k+2,hk=>absurd hk (by simp)
  have Hp:=h.sz.trans MY;have hd6:=h.df.trans hd5;have Oi:Below w.heap.size w W6:=aD wn h.inv.1 (fun _ h=>h.elim);have B3:=B3.nx (h.od 3) h.inv.1 bW;have B5:=B5.nx (h.od 5) h.inv.1 bW;have t0:=h.ol 0 t0;have t7:=h.ol 7 t7;have P0:=P0.move (okS.next (L':=X0) h.inv.1 bW (fun _ h _=>h));clear hT;obtain ⟨vz,tc,fz⟩:=h.get 1 _ 39 rfl rfl;obtain rfl:vz=.bool true:=fz;clear h;refine SL _ _ ?_;refine wpIn_cond_true (bg tc) ?_;have hT:Tabs WB W6:=jc.next (Oi);refine bM (fun K7a zdi=>?_);refine bO [bn (.bool true)]
   1 1 Hp (by kernel_rfl) (fun k hk=>?_) (fun A7 γ W7 h=>?_)
  ·exact match k,hk with
   | 0,_=>sH rfl (.bool true) (fun _ _=>by go_simp)
   | k+1,hk=>absurd hk (by simp)
  have Z_:=h.sz.trans Hp;have hd7:=h.df.trans hd6;have HB7:Below w.heap.size w W7:=aD Oi h.inv.1 (fun _ h=>h.elim);have B3:=B3.nx (h.od 3) h.inv.1 bW;have B5:=B5.nx (h.od 5) h.inv.1 bW;have t0:=h.ol 0 t0;have t7:=h.ol 7 t7;have P0:=P0.move (okS.next (L':=X0) h.inv.1 bW (fun _ h _=>h));clear hT;obtain ⟨vz,tr,fz⟩:=h.get 0 _ 4 rfl rfl;obtain rfl:vz=.bool true:=fz;refine zdi _ _ ?_;refine wpIn_ret ?_
  try simp only[Exit.then]
  exact bJ (v:=.bool true) (by simp[results,Tryz.results3,go_sem,tr]) hd7 ⟨rfl,HB7⟩
 subst hz;have hT:Tabs WB W5:=jc.next (wn);refine bM (fun K6a XI=>?_);refine bM (fun K6b SL=>?_);refine bO [bn (.int .i64 0),
  bn (.bool false)]
  2 2 MY (by kernel_rfl) (fun k hk=>?_) (fun A6 γ W6 h=>?_)
 ·exact match k,hk with
  | 0,_=>aF _ 7 (old t7)
  | 1,_=>cr rfl 38 (.bool false) (aq 0)
  | k+2,hk=>absurd hk (by simp)
 have Hp:=h.sz.trans MY;have hd6:=h.df.trans hd5;have Oi:Below w.heap.size w W6:=aD wn h.inv.1 (fun _ h=>h.elim);have B3:=B3.nx (h.od 3) h.inv.1 bW;have B5:=B5.nx (h.od 5) h.inv.1 bW;have t0:=h.ol 0 t0;have t7:=h.ol 7 t7;have P0:=P0.move (okS.next (L':=X0) h.inv.1 bW (fun _ h _=>h));clear hT;obtain ⟨vz,tc,fz⟩:=h.get 1 _ 39 rfl rfl;obtain rfl:vz=.bool false:=fz;clear h;refine SL _ _ ?_;refine wpIn_cond_false (bg tc) (wpIn_skip ?_);refine XI _ _ ?_;clear XI SL K6a K6b tc;clear t7;have pd:BdFit kd:=BH hM xJ oc sy.1 sy.2;have xk:=rv hM;have Qr:=nV hM;have Uk:∀ m:List (Fm×Fm),(∀ x∈m,x∈l)->cd m kd=(kd,0,0):=fun m hm=>DJ hM xk hm;have SM:=Qr.1;simp only[bL,ah]at SM;have En:∀ (j:Nat) (hj:j<bd.fs.length),getB kd.fs bd.fs[j].1=some bd.fs[j].2:=fun j hj=>Qr.2.2.2.1.f _ _ (xQ (fW (iz SM.2.1)) hj);have Ht:∀ (j:Nat) (hj:j<bd.ts.length),getB kd.ts bd.ts[j].1=some bd.ts[j].2:=fun j hj=>Qr.2.2.2.1.t _ _ (xQ (fW (iz SM.2.2)) hj);have zeA:=Qr.2.1;clear hM Qr SM;have hT:Tabs WB W6:=jc.next (Oi);refine bM (fun K8a za9=>?_);refine bM (fun K8b zba=>?_);refine bO [bn (.int .i64 0)]
  1 1 Hp (by kernel_rfl) (fun k hk=>?_) (fun A8 γ W8 h=>?_)
 ·exact match k,hk with
  | 0,_=>sH rfl (.int .i64 0) (fun _ _=>by go_simp)
  | k+1,hk=>absurd hk (by simp)
 have T1:=h.sz.trans Hp;have hd8:=h.df.trans hd6;have YL:Below w.heap.size w W8:=aD Oi h.inv.1 (fun _ h=>h.elim);have B3:=B3.nx (h.od 3) h.inv.1 bW;have B5:=B5.nx (h.od 5) h.inv.1 bW;have t0:=h.ol 0 t0;have P0:=P0.move (okS.next (L':=X0) h.inv.1 bW (fun _ h _=>h));have RI:=h.inv.1;clear hT;obtain ⟨vz,ti,fz⟩:=h.get 0 _ 8 rfl rfl;obtain rfl:vz=.int .i64 0:=fz;clear h;refine zba _ _ ?_;clear zba K8b;refine wpIn_block ?_;refine wpIn_loop (fun a W=>∃i,i<=bd.fs.length/\MoreA w la lc l bd kd b3 b5 q3 q5 8 i a W) (fun a _=>bd.fs.length - (intOf (a.tmps.getD 8 undef)).toNat) ⟨0,bc _,⟨T1,hd8,YL,ti,t0,B3,B5,P0⟩⟩ ?_;clear T1 hd8 YL ti t0 B3 B5 P0;rintro a W ⟨i,hi,⟨hs,hd,HB,ti,t0,B3,B5,P0⟩⟩;rw[bg ti];have c8:W.cell? ⟨b3,0,none⟩=some (.slice qa bd.fs.length qc):=(aE B3.box 0).trans (by rw[DT];rfl)
 by_cases hlt:i<bd.fs.length
 case pos=>
  have KY:decide ((i:Int)<(bd.fs.length:Int))=true:=by simp;omega
  have hd0:decide ((i:Int)<0)=false:=by simp
  have hT:Tabs WB W:=jc.next (HB);refine bM (fun K9a SN=>?_);refine bM (fun K9b Qs=>?_);refine bO [bn (.int .i64 i),
   bn (.pointer (some ⟨b3,0,none⟩)),
   bn (.slice qa bd.fs.length qc),
   bn (.int .i64 bd.fs.length),
   bn (.bool true)]
   5 5 hs (by kernel_rfl) (fun k hk=>?_) (fun A9 γ W9 h=>?_)
  ·exact match k,hk with
   | 0,_=>aF _ 8 (old ti)
   | 1,_=>cr rfl 3 (.pointer (some ⟨b3,0,none⟩)) (old B3.slot)
   | 2,_=>ui 41 b3 0 (.slice qa bd.fs.length qc) c8 (fun h=>h) (aq 1)
   | 3,_=>cr rfl 42 (.int .i64 bd.fs.length) (aq 2)
   | 4,_=>ep rfl 40 43 (.bool true) (aq 0) (aq 3)
   | k+5,hk=>absurd hk (by simp)
  have Uf:=h.sz.trans hs;have hd9:=h.df.trans hd;have Ug:Below w.heap.size w W9:=aD HB h.inv.1 (fun _ h=>h.elim);have pp214a:=();exact pm214
 have KY:decide ((i:Int)<(bd.fs.length:Int))=false:=by simp;omega
 have hT:Tabs WB W:=jc.next (HB);refine bM (fun K9a SN=>?_);refine bM (fun K9b Qs=>?_);refine bO [bn (.int .i64 i),
  bn (.pointer (some ⟨b3,0,none⟩)),
  bn (.slice qa bd.fs.length qc),
  bn (.int .i64 bd.fs.length),
  bn (.bool false)]
  5 5 hs (by kernel_rfl) (fun k hk=>?_) (fun A9 γ W9 h=>?_)
 ·exact match k,hk with
  | 0,_=>aF _ 8 (old ti)
  | 1,_=>cr rfl 3 (.pointer (some ⟨b3,0,none⟩)) (old B3.slot)
  | 2,_=>ui 41 b3 0 (.slice qa bd.fs.length qc) c8 (fun h=>h) (aq 1)
  | 3,_=>cr rfl 42 (.int .i64 bd.fs.length) (aq 2)
  | 4,_=>ep rfl 40 43 (.bool false) (aq 0) (aq 3)
  | k+5,hk=>absurd hk (by simp)
 have Uf:=h.sz.trans hs;have hd9:=h.df.trans hd;have Ug:Below w.heap.size w W9:=aD HB h.inv.1 (fun _ h=>h.elim);have B3:=B3.nx (h.od 3) h.inv.1 bW;have B5:=B5.nx (h.od 5) h.inv.1 bW;have t0:=h.ol 0 t0;have ti:=h.ol 8 ti;have P0:=P0.move (okS.next (L':=X0) h.inv.1 bW (fun _ h _=>h));have hk9:=h.inv.1;clear hT;obtain ⟨vz,tc,fz⟩:=h.get 4 _ 44 rfl rfl;obtain rfl:vz=.bool false:=fz;clear h;refine Qs _ _ ?_;refine wpIn_cond_false (bg tc) (wpIn_exit ?_);simp only[Exit.then,Exit.inBlock,↓reduceIte];refine za9 _ _ ?_;clear SN Qs K9a K9b tc za9 K8a ti KY hlt hi c8;have hT:Tabs WB W9:=jc.next (Ug);refine bM (fun zdm Un=>?_);refine bM (fun zdn Uo=>?_);refine bO [bn (.int .i64 0)]
  1 1 Uf (by kernel_rfl) (fun k hk=>?_) (fun A14 γ Sq h=>?_)
 ·exact match k,hk with
  | 0,_=>sH rfl (.int .i64 0) (fun _ _=>by go_simp)
  | k+1,hk=>absurd hk (by simp)
 have PU:=h.sz.trans Uf;have Sr:=h.df.trans hd9;have PV:Below w.heap.size w Sq:=aD Ug h.inv.1 (fun _ h=>h.elim);have B3:=B3.nx (h.od 3) h.inv.1 bW;have B5:=B5.nx (h.od 5) h.inv.1 bW;have t0:=h.ol 0 t0;have P0:=P0.move (okS.next (L':=X0) h.inv.1 bW (fun _ h _=>h));have zeD:=h.inv.1;clear hT;obtain ⟨vz,ti,fz⟩:=h.get 0 _ 11 rfl rfl;obtain rfl:vz=.int .i64 0:=fz;clear h;refine Uo _ _ ?_;clear Uo zdn;refine wpIn_block ?_;refine wpIn_loop (fun a W=>∃i,i<=bd.ts.length/\MoreA w la lc l bd kd b3 b5 q3 q5 11 i a W) (fun a _=>bd.ts.length - (intOf (a.tmps.getD 11 undef)).toNat) ⟨0,bc _,⟨PU,Sr,PV,ti,t0,B3,B5,P0⟩⟩ ?_;clear PU Sr PV ti t0 B3 B5 P0;rintro a W ⟨i,hi,⟨hs,hd,HB,ti,t0,B3,B5,P0⟩⟩;rw[bg ti];have c14:W.cell? ⟨b3,1,none⟩=some (.slice qb bd.ts.length qe):=(aE B3.box 1).trans (by rw[DT];rfl)
 by_cases hlt:i<bd.ts.length
 case pos=>
  have KY:decide ((i:Int)<(bd.ts.length:Int))=true:=by simp;omega
  have hd0:decide ((i:Int)<0)=false:=by simp
  have hT:Tabs WB W:=jc.next (HB);refine bM (fun XJ K_=>?_);refine bM (fun XK He=>?_);refine bO [bn (.int .i64 i),
   bn (.pointer (some ⟨b3,1,none⟩)),
   bn (.slice qb bd.ts.length qe),
   bn (.int .i64 bd.ts.length),
   bn (.bool true)]
   5 5 hs (by kernel_rfl) (fun k hk=>?_) (fun A15 γ wQ h=>?_)
  ·exact match k,hk with
   | 0,_=>aF _ 11 (old ti)
   | 1,_=>cr rfl 3 (.pointer (some ⟨b3,1,none⟩)) (old B3.slot)
   | 2,_=>uj 72 b3 1 (.slice qb bd.ts.length qe) c14 (fun h=>h) (aq 1)
   | 3,_=>cr rfl 73 (.int .i64 bd.ts.length) (aq 2)
   | 4,_=>ep rfl 71 74 (.bool true) (aq 0) (aq 3)
   | k+5,hk=>absurd hk (by simp)
  have G8:=h.sz.trans hs;have PW:=h.df.trans hd;have EO:Below w.heap.size w wQ:=aD HB h.inv.1 (fun _ h=>h.elim);have pp214b:=();exact pm214
 have KY:decide ((i:Int)<(bd.ts.length:Int))=false:=by simp;omega
 have hT:Tabs WB W:=jc.next (HB);refine bM (fun XJ K_=>?_);refine bM (fun XK He=>?_);refine bO [bn (.int .i64 i),
  bn (.pointer (some ⟨b3,1,none⟩)),
  bn (.slice qb bd.ts.length qe),
  bn (.int .i64 bd.ts.length),
  bn (.bool false)]
  5 5 hs (by kernel_rfl) (fun k hk=>?_) (fun A15 γ wQ h=>?_)
 ·exact match k,hk with
  | 0,_=>aF _ 11 (old ti)
  | 1,_=>cr rfl 3 (.pointer (some ⟨b3,1,none⟩)) (old B3.slot)
  | 2,_=>uj 72 b3 1 (.slice qb bd.ts.length qe) c14 (fun h=>h) (aq 1)
  | 3,_=>cr rfl 73 (.int .i64 bd.ts.length) (aq 2)
  | 4,_=>ep rfl 71 74 (.bool false) (aq 0) (aq 3)
  | k+5,hk=>absurd hk (by simp)
 have G8:=h.sz.trans hs;have PW:=h.df.trans hd;have EO:Below w.heap.size w wQ:=aD HB h.inv.1 (fun _ h=>h.elim);have B3:=B3.nx (h.od 3) h.inv.1 bW;have B5:=B5.nx (h.od 5) h.inv.1 bW;have t0:=h.ol 0 t0;have ti:=h.ol 11 ti;have P0:=P0.move (okS.next (L':=X0) h.inv.1 bW (fun _ h _=>h));have zdo:=h.inv.1;clear hT;obtain ⟨vz,tc,fz⟩:=h.get 4 _ 75 rfl rfl;obtain rfl:vz=.bool false:=fz;clear h;refine He _ _ ?_;refine wpIn_cond_false (bg tc) (wpIn_exit ?_);simp only[Exit.then,Exit.inBlock,↓reduceIte];refine Un _ _ ?_;clear K_ He XJ XK tc Un zdm ti KY hlt hi c14;have hT:Tabs WB wQ:=jc.next (EO);refine bM (fun zds Us=>?_);refine bO [bn (.slice none 0 0)]
  1 1 G8 (by kernel_rfl) (fun k hk=>?_) (fun A20 γ JK h=>?_)
 ·exact match k,hk with
  | 0,_=>sH rfl (.slice none 0 0) (fun _ _=>by go_simp)
  | k+1,hk=>absurd hk (by simp)
 have P_:=h.sz.trans G8;have Xv:=h.df.trans PW;have My:Below w.heap.size w JK:=aD EO h.inv.1 (fun _ h=>h.elim);have B3:=B3.nx (h.od 3) h.inv.1 bW;have B5:=B5.nx (h.od 5) h.inv.1 bW;have t0:=h.ol 0 t0;have P0:=P0.move (okS.next (L':=X0) h.inv.1 bW (fun _ h _=>h));have zeG:=h.inv.1;clear hT;obtain ⟨vz,t14,fz⟩:=h.get 0 _ 14 rfl rfl;obtain rfl:vz=.slice none 0 0:=fz;clear h;refine Us _ _ ?_;clear Us zds;have MW:IntKind.i64.wrap ((l.length:Int) - 1)=(l.length:Int) - 1 - ((0:Nat):Int):=by rw[fQ _ (by omega)];simp
 have hT:Tabs WB JK:=jc.next (My);refine bM (fun zdt Ut=>?_);refine bM (fun zdu Uu=>?_);refine bO [bn (.slice la l.length lc),
  bn (.int .i64 l.length),
  bn (.int .i64 ((l.length:Int) - 1 - ((0:Nat):Int))),
  bn (.int .i64 ((l.length:Int) - 1 - ((0:Nat):Int)))]
  4 4 P_ (by kernel_rfl) (fun k hk=>?_) (fun A21 γ BE h=>?_)
 ·exact match k,hk with
  | 0,_=>aF _ 0 (old t0)
  | 1,_=>cr rfl 104 (.int .i64 l.length) (aq 0)
  | 2,_=>JF rfl 105 (.int .i64 l.length) (.int .i64 ((l.length:Int) - 1 - ((0:Nat):Int))) (aq 1) (fun _ _ _ _=>by simp only[<-MW];go_simp)
  | 3,_=>bY _ 106 (aq 2)
  | k+4,hk=>absurd hk (by simp)
 have Qb:=h.sz.trans P_;have Su:=h.df.trans Xv;have JL:Below w.heap.size w BE:=aD My h.inv.1 (fun _ h=>h.elim);have B3:=B3.nx (h.od 3) h.inv.1 bW;have B5:=B5.nx (h.od 5) h.inv.1 bW;have t0:=h.ol 0 t0;have t14:=h.ol 14 t14;have P0:=P0.move (okS.next (L':=X0) h.inv.1 bW (fun _ h _=>h));have zeH:=h.inv.1;clear hT;obtain ⟨vz,t15,fz⟩:=h.get 3 _ 15 rfl rfl;obtain rfl:vz=.int .i64 ((l.length:Int) - 1 - ((0:Nat):Int)):=fz;clear h MW;refine Uu _ _ ?_;clear Uu zdu;obtain ⟨N,hN⟩:=am BE.heap.size;have hNw:w.heap.size<=N:=by rw[hN];exact JL.size
 have bj:b5<N:=by rw[hN];exact (bz B5.box)
 have B5:=B5.lt (n:=N) (by omega);have P0:SPairsV (okS (Lt N) BE) BE (.slice la l.length lc) l:=P0.move (fun _ h hlt=>⟨⟨by show _<N;omega,h.2⟩,rfl⟩);have R14:RowP N (.slice none 0 0) (l.reverse.take 0) BE:=by simpa using RowP.nil N BE
 clear B3;refine wpIn_block ?_;refine wpIn_loop (fun a W=>∃j v14,j<=l.length/\N<=W.heap.size/\MoreC w la lc l kd b5 q5 N j v14 a W) (fun a _=>(intOf (a.tmps.getD 15 undef)+1).toNat) ⟨0,_,bc _,by omega,⟨Qb,Su,JL,t15,t14,t0,B5,P0,R14⟩⟩ ?_;clear Qb Su JL t15 t14 t0 B5 P0 R14;rintro a W ⟨j,v14,hj,hNW,⟨hs,hd,HB,t15,t14,t0,B5,P0,R14⟩⟩;rw[bg t15]
 by_cases hlt:j<l.length
 case pos=>
  obtain ⟨m0,eh⟩:∃m0,j+1+m0=l.length:=⟨l.length - j - 1,by omega⟩;have KQ:(l.length:Int) - 1 - (j:Int)=(m0:Nat):=by omega
  have bp:m0<l.length:=by omega
  rw[KQ]at t15 ⊢;have KY:decide ((m0:Int) ≥ 0)=true:=by simp
  have Nh:decide ((0:Int)<=m0)=true:=by simp
  have MS:decide ((m0:Int)<0)=false:=by simp
  have Qz:decide ((m0:Int)<(l.length:Int))=true:=by simp;omega
  have hT:Tabs WB W:=jc.next (HB);refine bM (fun XM La=>?_);refine bM (fun XN Hf=>?_);refine bO [bn (.int .i64 (m0:Nat)),
   bn (.bool true)]
   2 2 hs (by kernel_rfl) (fun k hk=>?_) (fun A22 γ Dg h=>?_)
  ·exact match k,hk with
   | 0,_=>aF _ 15 (old t15)
   | 1,_=>cr rfl 107 (.bool true) (aq 0)
   | k+2,hk=>absurd hk (by simp)
  have ER:=h.sz.trans hs;have Mz:=h.df.trans hd;have G9:Below w.heap.size w Dg:=aD HB h.inv.1 (fun _ h=>h.elim);have B5:=B5.next (L':=(Lt N)) (h.old 5 (by kernel_rfl)) h.inv.1 (fun h=>h) (fun _ _ h=>h) (fun _ h _=>h);have t0:=h.ol 0 t0;have t14:=h.ol 14 t14;have t15:=h.ol 15 t15;have P0:=P0.move (okS.next (L':=(Lt N)) h.inv.1 (fun _ _ h=>h) (fun _ h _=>h));have R14:=R14.kept (fun c hc=>h.inv.1.same c hc (fun h=>h));have zbd:=h.inv.1;clear hT;obtain ⟨vz,tc,fz⟩:=h.get 1 _ 108 rfl rfl;obtain rfl:vz=.bool true:=fz;clear h;refine Hf _ _ ?_;refine wpIn_cond_true (bg tc) (wpIn_skip ?_);refine La _ _ ?_;clear La Hf XM XN tc;refine bM (fun Kq hKq=>?_);refine wpIn_block ?_;have au:=R14.lt;have HNW:N<=Dg.heap.size:=aN hNW zbd.size;obtain ⟨gb,go,p,q,UL,Yb,hp,hq,c0,c1,c2,c3,c4,c5,c6,c7⟩:=P0.get bp;obtain ⟨⟨f,f2⟩,MH⟩:∃x,x=l[m0]:=⟨_,rfl⟩;rw[<-MH]at hp hq;simp only at hp hq;have gW:(f,f2)∈l:=MH ▸ aA bp;have MX:=gU _ gW;simp only at MX;have CX:=t0;rw[UL]at CX;obtain ⟨L,hL'⟩:∃L:Nat->Prop,L=fun c=>v14.ownBlock≠some c:=⟨_,rfl⟩;have hpL:FormV (okS L Dg) Dg p.val f:=hp.move (fun c h _=>⟨⟨by rw[hL'];exact fun e=>by have:=(au c e).1;have:c<N:=h.1;omega,h.2⟩,rfl⟩);have hqL:FormV (okS L Dg) Dg q.val f2:=hq.move (fun c h _=>⟨⟨by rw[hL'];exact fun e=>by have:=(au c e).1;have:c<N:=h.1;omega,h.2⟩,rfl⟩);have hnN:∀ c,c<N->¬Ob v14.ownBlock c:=fun c h e=>by have:=(au c e).1;omega
  have hgN:¬Ob v14.ownBlock gb:=hnN gb Yb.1;have hLO:∀ c,L c->¬Ob v14.ownBlock c:=fun c h e=>by rw[hL']at h;exact h e
  have hLn:∀ c,Dg.heap.size<=c->L c:=fun c h=>by rw[hL'];exact fun e=>by have:=(au c e).2;omega
  have wM:(l.reverse.take j).length<=1000000:=by simp;omega
  refine bM (fun zdv Uv=>?_);refine EZ (fun b hb=>(au b hb).2) [bn (v14),
   bn (.slice (some ⟨gb,go,none⟩) l.length lc),
   bn (.int .i64 (m0:Nat)),
   bn (.pointer (some ⟨gb,go+m0 * 8,none⟩)),
   Ab L f f2,
   oE L [(f,f2)],
   Qn N (l.reverse.take j ++ [(f,f2)]),
   Qn N (l.reverse.take j ++ [(f,f2)])]
   6 ER (by kernel_rfl) (fun k hk=>?_) (fun A24 γ Dm h=>?_)
  ·exact match k,hk with
   | 0,_=>aF (bn (v14)) 14 (ere 7 t14)
   | 1,_=>aF _ 0 (old CX)
   | 2,_=>aF _ 15 (old t15)
   | 3,_=>ep rfl 112 113 (.pointer (some ⟨gb,go+m0 * 8,none⟩)) (aq 1) (aq 2)
   | 4,_=>Ql f f2 114 gb (go+m0 * 8) p q hpL hqL c0 c1 c2 c3 c4 c5 c6 c7 hgN hLO (aq 3)
   | 5,_=>Qm f f2 115 hLn (aq 4)
   | 6,_=>SG _ _ N v14 R14 HNW wM 111 116 rfl rfl rfl (fun h=>by simp[kAo,h]) (aq 0) (aq 5)
   | 7,_=>bY _ 117 (aq 6)
   | k+8,hk=>absurd hk (by simp)
  have zbe:=h.sz.trans ER;have zdw:=h.df.trans Mz;have SP:=h.inv.1;have zbf:Below w.heap.size w Dm:=aD G9 SP (fun c hc=>aN hNw (au c hc).1);have B5:=B5.next (L':=Lt N) (h.old 5 (by kernel_rfl)) SP (hnN b5 bj) hnN (fun _ h _=>h);have t0:=h.ol 0 t0;have t15:=h.ol 15 t15;have P0:=P0.move (okS.next (L':=Lt N) SP hnN (fun _ h _=>h));obtain ⟨vz,t14,fz⟩:=h.get 7 _ 14 rfl rfl;obtain ⟨_,_,R14,_,_⟩:=fz;have zbg:N<=Dm.heap.size:=aN HNW SP.size;have hrj:l.reverse.take (j+1)=l.reverse.take j ++ [(f,f2)]:=by
   rw[mt (by simpa using hlt),List.getElem_reverse,MH];congr 3;omega
  rw[<-hrj]at R14;clear h ER Mz G9 hpL hqL hgN hLO hLn wM hp hq Yb c0 c1 c2 c3 c4 c5 c6 c7 au hrj hL' CX;refine Uv _ _ ?_;clear Uv zdv;obtain ⟨gb,go,p,q,UL,Yb,hp,hq,c0,c1,c2,c3,c4,c5,c6,c7⟩:=P0.get bp;rw[<-MH]at hp hq;simp only at hp hq;have CX:=t0;rw[UL]at CX;have To:FormV (okS X0 Dm.drew) Dm.drew p.val f:=hp.move (show dW (okS (Lt N) Dm) (okS X0 Dm.drew) Dm Dm.drew from fun _ h _=>⟨⟨trivial,h.2⟩,rfl⟩);have mM:FormV (okS X0 Dm.drew) Dm.drew q.val f2:=hq.move (show dW (okS (Lt N) Dm) (okS X0 Dm.drew) Dm Dm.drew from fun _ h _=>⟨⟨trivial,h.2⟩,rfl⟩);have Uw:=B5.weak.drew;have hT:Tabs WB Dm.drew:=jc.next (zbf.drew);have B5:=B5.drew;have P0:=P0.move (show dW (okS (Lt N) Dm) (okS (Lt N) Dm.drew) Dm Dm.drew from fun _ h _=>⟨h,rfl⟩);have R14:=R14.kept (W':=Dm.drew) (fun _ _=>rfl);refine bM (fun zdx Ux=>?_);refine eK [bn (.slice (some ⟨gb,go,none⟩) l.length lc),
   bn (.int .i64 (m0:Nat)),
   bn (.pointer (some ⟨gb,go+m0 * 8,none⟩)),
   bn (.pointer (some ⟨gb,go+m0 * 8,none⟩)),
   bi X0 f,
   bn (.slice (some ⟨gb,go,none⟩) l.length lc),
   bn (.int .i64 (m0:Nat)),
   bn (.pointer (some ⟨gb,go+m0 * 8,none⟩)),
   bn (.pointer (some ⟨gb,go+m0 * 8+4,none⟩)),
   bi X0 f2,
   bF X0 (kd),
   fY (bF X0 kd) [.int .i64 0],
   fY (bF X0 kd) [.int .i64 0],
   bF X0 kd,
   bn (.int .i64 0),
   l7 #[.slice none 0 0,.slice none 0 0] 26,
   jT (bF X0 kd) 26,
   bn (.int .i64 0)]
   15 16 zbe (by kernel_rfl) (by kernel_rfl) (fun k hk=>?_) (fun A25 γ W25 h=>?_)
  ·exact match k,hk with
   | 0,_=>aF _ 0 (old CX)
   | 1,_=>aF _ 15 (old t15)
   | 2,_=>ep rfl 119 120 (.pointer (some ⟨gb,go+m0 * 8,none⟩)) (aq 0) (aq 1)
   | 3,_=>cr rfl 121 (.pointer (some ⟨gb,go+m0 * 8,none⟩)) (aq 2)
   | 4,_=>EX f 122 gb (go+m0 * 8) p To c0 c1 c2 c3 (fun h=>h) bW (aq 3)
   | 5,_=>aF _ 0 (old CX)
   | 6,_=>aF _ 15 (old t15)
   | 7,_=>ep rfl 124 125 (.pointer (some ⟨gb,go+m0 * 8,none⟩)) (aq 5) (aq 6)
   | 8,_=>cr rfl 126 (.pointer (some ⟨gb,go+m0 * 8+4,none⟩)) (aq 7)
   | 9,_=>EX f2 127 gb (go+m0 * 8+4) q mM c4 c5 c6 c7 (fun h=>h) bW (aq 8)
   | 10,_=>dq _ _ 5 Uw.box (fun h=>h) (Uw.at bW) (old Uw.slot)
   | 11,_=>Ae f f2 kd kd 0 0 (Uk [(f,f2)] (by simpa using gW)) MX.1 MX.2 pd 123 128 129 hT kx hL (aq 4) (aq 9) (aq 10)
   | 12,_=>aF _ 130 (aq 11)
   | 13,_=>fM _ _ 118 (aq 12)
   | 14,_=>fC (bF X0 kd) [.int .i64 0] 0 (.int .i64 0) rfl 118 (aq 12)
   | 15,_=>ko rfl
   | 16,_=>kr _ 16 131 rfl (aq 15) (aq 13)
   | 17,_=>bY _ 132 (aq 14)
   | k+18,hk=>absurd hk (by simp)
  have zbh:=h.sz.trans zbe;have zdy:=h.df.trans zdw;have zbi:Below w.heap.size w W25:=aD zbf.drew h.inv.1 (fun _ h=>h.elim);have B5:=B5.next (L':=(Lt N)) (h.old 5 (by kernel_rfl)) h.inv.1 (fun h=>h) (fun _ _ h=>h) (fun _ h _=>h);have t0:=h.ol 0 t0;have t14:=h.ol 14 t14;have t15:=h.ol 15 t15;have P0:=P0.move (okS.next (L':=(Lt N)) h.inv.1 (fun _ _ h=>h) (fun _ h _=>h));have R14:=R14.kept (fun c hc=>h.inv.1.same c hc (fun h=>h));obtain ⟨vz,tz,fz⟩:=h.get 15 _ 16 rfl rfl;obtain ⟨b16,q16,lz,_⟩:=sI tz fz (h.did 16 _ rfl rfl) h.inv;have B16:=lz.next (L':=X0) rfl (Kp.refl (M:=b8) _) (fun h=>h) (fun _ _ h=>h) (fun _ h _=>h.1);clear vz tz fz lz;have zdz:=h.inv.1;clear hT;obtain ⟨vz,t17,fz⟩:=h.get 17 _ 17 rfl rfl;obtain rfl:vz=.int .i64 0:=fz;clear h hp hq To mM c0 c1 c2 c3 c4 c5 c6 c7 Uw CX;refine Ux _ _ ?_;clear Ux zdx;have Uw:=B5.weak;have hT:Tabs WB W25:=jc.next (zbi);refine bM (fun zdA Uy=>?_);refine bO [bn (.int .i64 0),
   bn (.bool false),
   bn (.bool false),
   bF X0 (kd),
   bF X0 (kd),
   bn (.bool true),
   bn (.bool false),
   bn (.bool false)]
   8 8 zbh (by kernel_rfl) (fun k hk=>?_) (fun A26 γ W26 h=>?_)
  ·exact match k,hk with
   | 0,_=>aF _ 17 (old t17)
   | 1,_=>cr rfl 133 (.bool false) (aq 0)
   | 2,_=>aF _ 134 (aq 1)
   | 3,_=>dq _ _ 16 B16.box (fun h=>h) (B16.at bW) (old B16.slot) (hw:=aJ 2 (aq 2))
   | 4,_=>dq _ _ 5 Uw.box (fun h=>h) (Uw.at bW) (old Uw.slot) (hw:=aJ 2 (aq 2))
   | 5,_=>Ha kd kd pd 136 137 (aq 3) (aq 4) (hw:=aJ 2 (aq 2)) (hp:=SJ (vT.2 rfl))
   | 6,_=>cr rfl 138 (.bool false) (aq 5) (hw:=aJ 2 (aq 2))
   | 7,_=>ep rfl 135 139 (.bool false) (aq 2) (aq 6)
   | k+8,hk=>absurd hk (by simp)
  have zbj:=h.sz.trans zbh;have zdB:=h.df.trans zdy;have zbk:Below w.heap.size w W26:=aD zbi h.inv.1 (fun _ h=>h.elim);have B5:=B5.next (L':=(Lt N)) (h.old 5 (by kernel_rfl)) h.inv.1 (fun h=>h) (fun _ _ h=>h) (fun _ h _=>h);have B16:=B16.nx (h.od 16) h.inv.1 bW;have t0:=h.ol 0 t0;have t14:=h.ol 14 t14;have t15:=h.ol 15 t15;have t17:=h.ol 17 t17;have P0:=P0.move (okS.next (L':=(Lt N)) h.inv.1 (fun _ _ h=>h) (fun _ h _=>h));have R14:=R14.kept (fun c hc=>h.inv.1.same c hc (fun h=>h));have zdC:=h.inv.1;clear hT;obtain ⟨vz,tc,fz⟩:=h.get 7 _ 140 rfl rfl;obtain rfl:vz=.bool false:=fz;clear h;refine Uy _ _ ?_;refine wpIn_cond_false (bg tc) (wpIn_skip ?_);clear Uy zdA tc;simp only[Exit.inBlock,Exit.then];refine hKq _ _ ?_;have MW:IntKind.i64.wrap ((m0:Int) - 1)=(l.length:Int) - 1 - ((j+1:Nat):Int):=by rw[fQ _ (by omega)];omega
  have zbl:N<=W26.heap.size:=aN zbg (aN zdz.size zdC.size);have hT:Tabs WB W26:=jc.next (zbk);refine bO [bn (.int .i64 (m0:Nat)),
   bn (.int .i64 ((l.length:Int) - 1 - ((j+1:Nat):Int))),
   bn (.int .i64 ((l.length:Int) - 1 - ((j+1:Nat):Int)))]
   3 3 zbj (by kernel_rfl) (fun k hk=>?_) (fun A23 γ W23 h=>?_)
  ·exact match k,hk with
   | 0,_=>aF (bn (.int .i64 (m0:Nat))) 15 (ere 2 t15)
   | 1,_=>JF rfl 109 (.int .i64 (m0:Nat)) (.int .i64 ((l.length:Int) - 1 - ((j+1:Nat):Int))) (aq 0) (fun _ _ _ _=>by simp only[<-MW];go_simp)
   | 2,_=>bY _ 110 (aq 1)
   | k+3,hk=>absurd hk (by simp)
  have za3:=h.sz.trans zbj;have Xy:=h.df.trans zdB;have Xz:Below w.heap.size w W23:=aD zbk h.inv.1 (fun _ h=>h.elim);have B5:=B5.next (L':=(Lt N)) (h.old 5 (by kernel_rfl)) h.inv.1 (fun h=>h) (fun _ _ h=>h) (fun _ h _=>h);have t0:=h.ol 0 t0;have t14:=h.ol 14 t14;have P0:=P0.move (okS.next (L':=(Lt N)) h.inv.1 (fun _ _ h=>h) (fun _ h _=>h));have R14:=R14.kept (fun c hc=>h.inv.1.same c hc (fun h=>h));have zdD:=h.inv.1;clear hT;obtain ⟨vz,t15,fz⟩:=h.get 2 _ 15 rfl rfl;obtain rfl:vz=.int .i64 ((l.length:Int) - 1 - ((j+1:Nat):Int)):=fz;simp only[Exit.then];refine ⟨⟨j+1,_,hlt,aN zbl zdD.size,⟨za3,Xy,Xz,t15,t14,t0,B5,P0,R14⟩⟩,?_⟩;rw[bg t15];simp only[intOf];omega
 obtain rfl:j=l.length:=by omega
 have KQ:(l.length:Int) - 1 - (l.length:Int)=-1:=by omega
 rw[KQ]at t15;have KY:decide ((-1:Int) ≥ 0)=false:=by simp
 have Nh:decide ((0:Int)<=-1)=false:=by simp
 have MS:decide ((-1:Int)<0)=true:=by simp
 have hT:Tabs WB W:=jc.next (HB);refine bM (fun XM La=>?_);refine bM (fun XN Hf=>?_);refine bO [bn (.int .i64 (-1)),
  bn (.bool false)]
  2 2 hs (by kernel_rfl) (fun k hk=>?_) (fun A22 γ Dg h=>?_)
 ·exact match k,hk with
  | 0,_=>aF _ 15 (old t15)
  | 1,_=>cr rfl 107 (.bool false) (aq 0)
  | k+2,hk=>absurd hk (by simp)
 have ER:=h.sz.trans hs;have Mz:=h.df.trans hd;have G9:Below w.heap.size w Dg:=aD HB h.inv.1 (fun _ h=>h.elim);have B5:=B5.next (L':=(Lt N)) (h.old 5 (by kernel_rfl)) h.inv.1 (fun h=>h) (fun _ _ h=>h) (fun _ h _=>h);have t0:=h.ol 0 t0;have t14:=h.ol 14 t14;have t15:=h.ol 15 t15;have P0:=P0.move (okS.next (L':=(Lt N)) h.inv.1 (fun _ _ h=>h) (fun _ h _=>h));have R14:=R14.kept (fun c hc=>h.inv.1.same c hc (fun h=>h));have zbd:=h.inv.1;clear hT;obtain ⟨vz,tc,fz⟩:=h.get 1 _ 108 rfl rfl;obtain rfl:vz=.bool false:=fz;clear h;refine Hf _ _ ?_;refine wpIn_cond_false (bg tc) (wpIn_exit ?_);simp only[Exit.then,Exit.inBlock,↓reduceIte];refine Ut _ _ ?_;clear La Hf XM XN Ut zdt tc KY Nh MS KQ t15;have WW:l.reverse.take l.length=l.reverse:=by rw[f8 (by simp)]
 rw[WW]at R14;obtain ⟨ra,rc,rfl,PR⟩:=R14.pairs;have P14:SPairsV (okS X0 Dg) Dg (.slice ra l.reverse.length rc) l.reverse:=PR.move (fun _ h _=>⟨⟨trivial,h⟩,rfl⟩);have B5:=B5.weak;clear R14 PR P0 WW;have zdE:l.reverse.length<=8:=by simpa using hl8
 have zdF:∀ x∈l.reverse,fitF x.1/\fitF x.2:=fun x hx=>gU x (by simpa using hx);have hT:Tabs WB Dg:=jc.next (G9);refine bM (fun zdG Uz=>?_);refine bO [oE X0 l.reverse,
  bF X0 (kd),
  fY (bF X0 (kd)) [.int .i64 ((0:Nat):Int),.int .i64 0],
  fY (bF X0 (kd)) [.int .i64 ((0:Nat):Int),.int .i64 0],
  bF X0 (kd),
  bn (.int .i64 ((0:Nat):Int)),
  bn (.int .i64 0),
  l7 #[.slice none 0 0,.slice none 0 0] 26,
  jT (bF X0 (kd)) 26,
  bn (.int .i64 ((0:Nat):Int)),
  bn (.int .i64 0)]
  7 8 ER (by kernel_rfl) (fun k hk=>?_) (fun A28 γ W28 h=>?_)
 ·exact match k,hk with
  | 0,_=>qr l.reverse 14 ra rc P14 bW (old t14)
  | 1,_=>dq _ _ 5 B5.box (fun h=>h) (B5.at bW) (old B5.slot)
  | 2,_=>l_ _ _ _ _ _ (Uk l.reverse (fun x hx=>by simpa using hx)) zdE zdF pd 142 143 hT kx hL (aq 0) (aq 1)
  | 3,_=>aF _ 144 (aq 2)
  | 4,_=>fM _ _ 141 (aq 3)
  | 5,_=>fC (bF X0 (kd)) [.int .i64 ((0:Nat):Int),.int .i64 0] 0 (.int .i64 ((0:Nat):Int)) rfl 141 (aq 3)
  | 6,_=>fC (bF X0 (kd)) [.int .i64 ((0:Nat):Int),.int .i64 0] 1 (.int .i64 0) rfl 141 (aq 3)
  | 7,_=>ko rfl
  | 8,_=>kr _ 18 145 rfl (aq 7) (aq 4)
  | 9,_=>bY _ 146 (aq 5)
  | 10,_=>bY _ 147 (aq 6)
  | k+11,hk=>absurd hk (by simp)
 have zbm:=h.sz.trans ER;have zdH:=h.df.trans Mz;have zbn:Below w.heap.size w W28:=aD G9 h.inv.1 (fun _ h=>h.elim);have B5:=B5.nx (h.od 5) h.inv.1 bW;have t0:=h.ol 0 t0;have t14:=h.ol 14 t14;have P14:=P14.move (okS.next (L':=X0) h.inv.1 bW (fun _ h _=>h));obtain ⟨vz,tz,fz⟩:=h.get 7 _ 18 rfl rfl;obtain ⟨b18,q18,lz,_⟩:=sI tz fz (h.did 8 _ rfl rfl) h.inv;have B18:=lz.next (L':=X0) rfl (Kp.refl (M:=b8) _) (fun h=>h) (fun _ _ h=>h) (fun _ h _=>h.1);clear vz tz fz lz;have zeI:=h.inv.1;clear hT;obtain ⟨vz,t19,fz⟩:=h.get 9 _ 19 rfl rfl;obtain rfl:vz=.int .i64 ((0:Nat):Int):=fz;obtain ⟨vz,t20,fz⟩:=h.get 10 _ 20 rfl rfl;obtain rfl:vz=.int .i64 0:=fz;clear h;refine Uz _ _ ?_;clear Uz zdG;have hT:Tabs WB W28:=jc.next (zbn);refine bM (fun zeJ zbo=>?_);refine bO [bn (.int .i64 0),
  bn (.bool true),
  bn (.bool true),
  bn (.int .i64 ((0:Nat):Int)),
  bn (.bool true),
  bn (.bool true),
  bn (.bool true),
  bF X0 (kd),
  bF X0 (kd),
  bn (.bool true),
  bn (.bool true),
  bn (.bool true)]
  12 12 zbm (by kernel_rfl) (fun k hk=>?_) (fun A29 γ W29 h=>?_)
 ·exact match k,hk with
  | 0,_=>aF _ 20 (old t20)
  | 1,_=>cr rfl 148 (.bool true) (aq 0)
  | 2,_=>aF _ 149 (aq 1)
  | 3,_=>aF _ 19 (old t19) (hw:=aJ 2 (aq 2))
  | 4,_=>cr rfl 151 (.bool true) (aq 3) (hw:=aJ 2 (aq 2))
  | 5,_=>ep rfl 150 152 (.bool true) (aq 2) (aq 4)
  | 6,_=>aF _ 153 (aq 5)
  | 7,_=>dq _ _ 18 B18.box (fun h=>h) (B18.at bW) (old B18.slot) (hw:=aJ 6 (aq 6))
  | 8,_=>dq _ _ 5 B5.box (fun h=>h) (B5.at bW) (old B5.slot) (hw:=aJ 6 (aq 6))
  | 9,_=>Ha kd kd pd 155 156 (aq 7) (aq 8) (hw:=aJ 6 (aq 6)) (hp:=SJ (vT.2 rfl))
  | 10,_=>ep rfl 154 157 (.bool true) (aq 6) (aq 9)
  | 11,_=>bY _ 158 (aq 10)
  | k+12,hk=>absurd hk (by simp)
 have zeK:=h.sz.trans zbm;have zdI:=h.df.trans zdH;have zdJ:Below w.heap.size w W29:=aD zbn h.inv.1 (fun _ h=>h.elim);have B5:=B5.nx (h.od 5) h.inv.1 bW;have B18:=B18.nx (h.od 18) h.inv.1 bW;have t0:=h.ol 0 t0;have t14:=h.ol 14 t14;have t19:=h.ol 19 t19;have t20:=h.ol 20 t20;have P14:=P14.move (okS.next (L':=X0) h.inv.1 bW (fun _ h _=>h));have zeL:=h.inv.1;clear hT;obtain ⟨vz,tr,fz⟩:=h.get 11 _ 4 rfl rfl;obtain rfl:vz=.bool true:=fz;refine zbo _ _ ?_;refine wpIn_ret ?_
 try simp only[Exit.then]
 exact bJ (v:=.bool true) (by simp[results,Tryz.results3,go_sem,tr]) zdI ⟨rfl,zdJ⟩
end
end Go.Proofs.YtokemihbkeddoaaGreatDoor
namespace Go.Proofs.YtokemihbkeddoaaGreatDoor
set_option maxRecDepth 100000
set_option maxHeartbeats 64000000
open Go Go.RowKit Go.Lib Go.ChangeShapes
def lst:List (String×DataW Unit):=[("math/bits.deBruijn32tab",Rows.laid_math_bits_deBruijn32tab),("math/bits.deBruijn64tab",Rows.laid_math_bits_deBruijn64tab),("internal/strconv.uint64pow10",Rows.laid_internal_strconv_uint64pow10),("lyceum/syntax.rows",Rows.laid_lyceum_syntax_rows)]
def XO (r:Bool×Bool×Nat×Nat×Nat):DataW Unit:=.agg [.lit (.bool r.1),.lit (.bool r.2.1),.lit (.int .u8 (r.2.2.1:Nat)),.lit (.int .i64 (r.2.2.2.1:Nat)),.lit (.int .i64 (r.2.2.2.2:Nat))]
theorem XP:(Rows.laid_internal_strconv_uint64pow10:DataW Unit)=tabData .u64 pow10Tab:=by kernel_rfl
theorem SQ:(Rows.laid_lyceum_syntax_rows:DataW Unit)=.agg ((List.range 17).map fun (o:Nat)=>XO (rowOp o)):=by kernel_rfl
theorem UA:Tryz.prog.globalNamed "lyceum/syntax.rows"=some 0:=by kernel_rfl
theorem XQ:(Tryz.prog.globals[0]?).map (·.type)=some 174:=by kernel_rfl
theorem zbp:(Tryz.prog.globals[2]?).map (·.type)=some 304:=by kernel_rfl
theorem XR:Tryz.prog.cellsOf 173=5:=by kernel_rfl
theorem SR:Tryz.prog.cellsOf 304=20:=by kernel_rfl
theorem Qt:Tryz.prog.cellsOf 275=1:=by kernel_rfl
section
variable {W:World} {base cw:Nat} {sp:Nat->Bool} {held:Bool} {cs:List Value} {p:List MemPlace} {enc:TypeId×Value->Unit}
theorem zbq {α:Type} {l:List α} (h:l.length=5):∃a b c d e,l=[a,b,c,d,e]:=by
 match l,h with
 | [a,b,c,d,e],_=>exact ⟨a,b,c,d,e,rfl⟩
theorem MM {r:Bool×Bool×Nat×Nat×Nat} (h:DataW.trod enc Tryz.prog W base sp held cw 173 cs=some (XO r,p)):cs=[.bool r.1,.bool r.2.1,.int .u8 (r.2.2.1:Nat),.int .i64 (r.2.2.2.1:Nat),.int .i64 (r.2.2.2.2:Nat)]:=by
 obtain ⟨xs,n,_,hx,cm,uW,hf⟩:=DataW.trod_struct Tryz.underlying173 h;obtain ⟨c0,c1,c2,c3,c4,rfl⟩:=zbq (cm.trans (by kernel_rfl));obtain ⟨x0,x1,x2,x3,x4,rfl⟩:=zbq (uW.trans (by kernel_rfl));have h0:DataW.trod enc Tryz.prog W base sp held n 4 [c0]=some x0:=hf 0 _ rfl;have h1:DataW.trod enc Tryz.prog W base sp held n 4 [c1]=some x1:=hf 1 _ rfl;have h2:DataW.trod enc Tryz.prog W base sp held n 5 [c2]=some x2:=hf 2 _ rfl;have h3:DataW.trod enc Tryz.prog W base sp held n 3 [c3]=some x3:=hf 3 _ rfl;have h4:DataW.trod enc Tryz.prog W base sp held n 3 [c4]=some x4:=hf 4 _ rfl;obtain ⟨b0,e0,rfl⟩:=DataW.trod_bool Tryz.underlying4 h0;obtain ⟨b1,e1,rfl⟩:=DataW.trod_bool Tryz.underlying4 h1;obtain ⟨z2,e2,rfl,_⟩:=DataW.trod_int Tryz.underlying5 h2;obtain ⟨z3,e3,rfl,_⟩:=DataW.trod_int Tryz.underlying3 h3;obtain ⟨z4,e4,rfl,_⟩:=DataW.trod_int Tryz.underlying3 h4;have:=congrArg Prod.fst hx;simp[XO]at this e0 e1 e2 e3 e4;obtain ⟨g0,g1,g2,g3,g4⟩:=this;subst e0 e1 e2 e3 e4;rw[g0,g1,g2,g3,g4]
theorem E2 {f:Nat->DataW Unit} (h:DataW.trod enc Tryz.prog W base sp held cw 174 cs=some (.agg ((List.range 17).map f),p)):∀ o,o<17->∃n p',DataW.trod enc Tryz.prog W base sp held n 173 ((cs.drop (o * 5)).take 5)=some (f o,p'):=by
 intro o ho
 cases cw with
 | zero=>simp[DataW.trod]at h
 | succ cw=>
  simp only[DataW.trod,Tryz.underlying174,XR]at h;split at h
  ·obtain ⟨xs,hm,hx⟩:=Option.map_eq_some_iff.1 h;obtain ⟨b,hb,hf⟩:=mapM_at hm o o (by simp[ho]);have h2:xs.map (·.1)=(List.range 17).map f:=by
    have:=congrArg Prod.fst hx;simpa using this
   have h3:=congrArg (·[o]?) h2;simp[hb,ho]at h3;exact ⟨cw,b.2,by rw[hf,<-h3]⟩
  ·cases h
end
theorem BI {W:World} (hL:laidMet Tryz.prog lst W):Tabs0 W:=by
 refine ⟨?_,fun o ho=>?_⟩
 ·obtain ⟨g',t',cs,cw,p,hg,ht,XS,hd⟩:=laidMet.reads hL (n:="internal/strconv.uint64pow10") (d:=Rows.laid_internal_strconv_uint64pow10) (.tail _ (.tail _ (.head _)));obtain rfl:=Option.some.inj (US.symm.trans hg);obtain rfl:=Option.some.inj (zbp.symm.trans ht);rw[XP]at hd;unfold TabIs;rw[XS,<-cells_of_tab Tryz.underlying304 Tryz.underlying275 Qt SR hd]
 ·obtain ⟨g',t',cs,cw,p,hg,ht,XS,hd⟩:=laidMet.reads hL (n:="lyceum/syntax.rows") (d:=Rows.laid_lyceum_syntax_rows) (.tail _ (.tail _ (.tail _ (.head _))));obtain rfl:=Option.some.inj (UA.symm.trans hg);obtain rfl:=Option.some.inj (XQ.symm.trans ht);rw[SQ]at hd;obtain ⟨n,p',h⟩:=E2 hd o ho;have hc:=MM h;have Li:∀ j,j<5->W.cell? ⟨0,o * 5+j,none⟩=((cs.toList.drop (o * 5)).take 5)[j]?:=fun j hj=>by
   rw[World.var?_cell UA XS (o * 5+j),List.getElem?_take_of_lt hj,List.getElem?_drop];simp
  rw[hc]at Li;exact ⟨Li 0 (by omega),Li 1 (by omega),Li 2 (by omega),Li 3 (by omega),Li 4 (by omega)⟩
noncomputable def laidWorld (os:Os):World:=
 let w0:=World.holding Tryz.prog os ⟨#[],#[],[]⟩
 let put (h:Array Obj) (g:Nat) (cs:Array Value):Array Obj:=h.modify g fun
  | .cells _ t XT=>.cells cs t XT
  | o=>o
 let ints (d:DataW Unit) (k:IntKind):Array Value:=match d with
  | .agg l=>(l.map fun | .lit (.int _ z)=>Value.int k z | _=>undef).toArray
  | _=>#[]
 let h1:=put w0.heap 3 (ints Rows.laid_math_bits_deBruijn32tab .u8)
 let h2:=put h1 4 (ints Rows.laid_math_bits_deBruijn64tab .u8)
 let h3:=put h2 2 (ints Rows.laid_internal_strconv_uint64pow10 .u64)
 let h4:=put h3 0 ((List.range 17).flatMap fun (o:Nat)=>[.bool (rowOp o).1,.bool (rowOp o).2.1,.int .u8 ((rowOp o).2.2.1:Nat),.int .i64 ((rowOp o).2.2.2.1:Nat),.int .i64 ((rowOp o).2.2.2.2:Nat)]).toArray
 { w0 with heap:=h4 }
theorem Qu (os:Os) (args:Array Value):laidMet Tryz.prog lst ((laidWorld os).forCall (fun _ _=>0) ⟨#[],args,[]⟩).memory:=
 laidMet_of_run' 8 (by kernel_rfl) (by kernel_rfl)
