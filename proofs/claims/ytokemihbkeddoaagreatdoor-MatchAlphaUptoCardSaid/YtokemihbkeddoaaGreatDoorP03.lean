/-L-/
import Derived.Test.YtokemihbkeddoaaGreatDoorP02
open Go.Proofs.Tryz
namespace Go.Proofs.YtokemihbkeddoaaGreatDoor
open Go Go.RowKit Lib
set_option maxRecDepth 100000
set_option maxHeartbeats 0
variable{W W' W0:World}{b bs pre:List aj}{x:aj}{u:Tm}{k p m n B mb l s:Nat}{α:Type}{M:Nat->Prop}
section
attribute [local go_sem] Oper.semAt_some
mutual
theorem G9:∀f:Fm,cJ f->∀x∈mK f,cJ x
 |.mk o n a s,h,x,hx=>by
  unfold mK at hx;rcases dc.1 hx with rfl|hx
  ·exact h
  ·exact DU s h.subs x hx
theorem DU:∀l:List Fm,jp l->∀x∈eK l,cJ x
 |[],_,x,hx=>by simp[eK]at hx
 |t::l,h,x,hx=>by
  unfold eK at hx;rcases List.mem_append.1 hx with hx|hx
  ·exact G9 t (h.mem (by simp)) x hx
  ·exact DU l ⟨aR (by simp[ah]) h.1,tk.2 (fun u hu=>tk.1 h.2 u (by simp[hu]))⟩ x hx
end
theorem TK(q:FQ)(w:World):
  Calls prog 86 #[q.val] w fun e w'=>e=.returned (.func (.func 150) #[] #[.pointer (some ⟨w.heap.size,0,none⟩)])/\w'=w.alloc (.cells #[.int .u8 q.o,.string q.n,.slice q.a q.l q.c,.slice q.b q.m q.e] 36):=by
 obtain⟨o,n,a,l,c,b,m,e⟩:=q;unfold FQ.val;go_enter func86,ntmps86;go_wp2;go_ret;exact⟨rfl,rfl⟩
theorem TL(f:Fm)(aI:cJ f)(M:Nat->Prop)(B X:Nat)(w:World)(q:FQ)(hX:w.heap[X]?=some (.cells #[.int .u8 q.o,.string q.n,.slice q.a q.l q.c,.slice q.b q.m q.e] 36 (0,0)))(MP:¬M X)(hq:aC (fun b=>b<B/\¬M b) w q.val f):
  M8 M False prog 150 #[.pointer (some ⟨X,0,none⟩)] (mK f) (ZO M B) w:=by
 have GB:=();exact qcj
theorem Q7(f:Fm)(aI:cJ f)(ok:Nat->Prop)(w:World)(q:FQ)(hq:aC ok w q.val f):
  Calls prog 167 #[q.val,.int .i64 9223372036854775807] w fun e w'=>e=.returned (.int .i64 (ag f))/\Below w.heap.size w w':=by
 have hq:=hq.lt;have zgY:=aI.1;have⟨lH,HQ⟩:=bi aI hq;clear aI hq;refine Pb ?_;refine callsIn_of_wp_marks func167 rfl trivial ?_ rfl;simp only[ntmps167,Nat.reduceAdd,Nat.reduceSub,ng];have jq:=fP;unfold FQ.val;gi_wp2_with (gi_at_call 86;refine aO.2 ((TK q _).mono ?_);rintro e w' ⟨rfl,rfl⟩);have⟨w1,Cd⟩:=az ((((w.alloc (.cells #[.int .u8 q.o,.string q.n,.slice q.a q.l q.c,.slice q.b q.m q.e] 36)).alloc (.cells #[.int .i64 9223372036854775807] 3)).alloc (.cells #[.int .i64 0] 3)).alloc (.cells #[.int .u8 q.o,.string q.n,.slice q.a q.l q.c,.slice q.b q.m q.e] 36));have hb1:=Xj Cd;have jv:=Β Cd;have xL:Ca (w.heap.size+1) 9223372036854775807 w1:=by rw[Cd];exact(bZ _ _ _ (by simp)).trans ((bZ _ _ _ (by simp)).trans (aq (by simp)))
 have xN:Ca (w.heap.size+1+1) 0 w1:=by rw[Cd];exact(bZ _ _ _ (by simp)).trans (aq (by simp))
 have xX:=SW Cd;rw[<-Cd];clear Cd;have hq1:aC (fun b=>b<w1.heap.size/\¬(b=w.heap.size+1+1)) w1 q.val f:=(HQ.o.later hb1).move (fun b hb hlt=>⟨⟨hlt,by omega⟩,rfl⟩);have rn:=TL f lH.o (fun b=>b=w.heap.size+1+1) w1.heap.size (w.heap.size+1+1+1) w1 q xX (by omega) hq1;have⟨ze2,eQ,WJ,HL,HN⟩:=sL rn hb1 jv xL xN;have hNl:w.heap.size+1+1<w1.heap.size:=by omega
 have zcH:=ae hNl;clear rn hb1 jv xL xN xX hq1 hNl;have eg:∀args W,(callFunc 150 args).run prog W=.ok (.enter 150 args) W:=enters_of func150 (by kernel_rfl) rfl;refine je rfl eg (fun b hb=>by subst hb;exact zcH.o) ze2.o (fun _ _ _ h=>by obtain⟨v,rfl,_⟩:=h;rfl)
  (fun pre X=>Ca (w.heap.size+1+1) (sO pre) X/\Kp (fun b=>b=w.heap.size+1+1) w1 X) (fun _ _ _=>False) (fun s=>?hI) (fun _ _ _ _ _ h=>h.elim) ⟨by simpa[sO]using HN.o,Kp.refl _⟩ ?round ?done (fun _ _ _ _ h=>h.elim)
 case hI=>
  rintro X Y hn ⟨h1,h2⟩;exact⟨(hn.old zcH.o (bQ h1)).trans h1,hn.os.trans h2.os,hn.tape.trans h2.tape,hn.output.trans h2.output,aR h2.size hn.size,fun b hb hm=>(hn.old hb (bP hb h2.size)).trans (h2.same b hb hm)⟩
 case done=>
  rintro D X hD ⟨hn,bD⟩ _ hd;rw[wl]at hn;have c0:=hn.c0;have⟨HK,HD⟩:=bi bD hd;clear hn bD hd;gi_wp2;refine⟨by simp,.inl ⟨_,_,rfl,run_takeDeferred HD.o,?_⟩⟩;refine⟨.int .i64 (ag f),by simp[results,results167,go_sem],rfl,?_⟩;have hk:=IA (.deferred none) HK.o hD;exact qex
 case round=>
  rintro l pre vs x W hl Ce ⟨hn,bD⟩ ⟨u,rfl,hu⟩ _ dU;have⟨HU,Cb,HK,HLr,qG⟩:=sL hu hn bD Ce dU;clear hn bD hu Ce dU;unfold FQ.val;gi_wp2;have hB:Below W.heap.size W (W.alloc (.cells #[.int .u8 u.o,.string u.n,.slice u.a u.l u.c,.slice u.b u.m u.e] 36)):=dp;refine⟨Kp.below hB,⟨Cb.o.later hB,HK.o.trans (Kp.below hB)⟩,fun W2 jr jY ke=>?_⟩;have FH:W2.heap[W.heap.size]?=some (.cells #[.int .u8 u.o,.string u.n,.slice u.a u.l u.c,.slice u.b u.m u.e] 36 (0,0)):=(jr.same _ (by obtain⟨r,hr⟩:=HLr.o;have:=(bQ hr);omega)).trans (aq rfl);have Ck:aC (fun b=>b<w1.heap.size/\¬(b=w.heap.size+1+1)) W2 u.val x:=((HU.o.later hB).move (ok':=fun b=>b<w1.heap.size/\¬(b=w.heap.size+1+1)) (fun b hb hlt=>⟨hb,jr.same b (by omega)⟩));have hL2:Ca (w.heap.size+1) 9223372036854775807 W2:=HL.o.kp ke (by omega);have hf:=G9 f lH.o x (qG.o.subset (by simp));have qY:=Xs qG.o;rw[wl,pI]at qY;obtain⟨⟨xo,xn,xa,xs⟩,hx⟩:∃y,x=y:=⟨_,rfl⟩;have aE:sO (pre++[x])=sO pre+(1+af xa):=by rw[pI,hx];simp[sO,Fm.a]
  have ho1:sO [x]=1+af xa:=by rw[hx];simp[sO,Fm.a]
  rw[ho1]at qY;rw[hx]at Ck hf;obtain⟨uo,un,ua,ul,uc,ub,um,ue⟩:=u;obtain⟨va,vs2,FI,gH,DI⟩:=aX.1 Ck;simp only[FQ.val,c_,Array.mk.injEq,cF,and_true,Value.int.injEq,true_and,Value.string.injEq]at FI;obtain⟨rfl,rfl,rfl,rfl⟩:=FI;have⟨P,hP⟩:=az (sO pre);have⟨m,hm⟩:=az (af xa);rw[<-hP]at jY;have Lc:sO (pre++[x])=P+(1+m):=by rw[aE,hP,hm]
  have Cl:P+(1+m)<=2000000:=by rw[hP,hm];omega
  have bp:w1.heap.size<=W2.heap.size:=ke.size;have CC:=fun(W3:World)(h:Kp (fun b=>b=w.heap.size+1+1) W2 W3)(hN:Ca (w.heap.size+1+1) (P+1) W3)=>De xa (w.heap.size+1+1) (w.heap.size+1) (fun b=>b<w1.heap.size/\¬(b=w.heap.size+1+1)) (P+1) W3 ua ul uc (by omega) hf.args (gH.move (fun b hb hlt=>⟨hb,h.same b hlt hb.2⟩)) (fun b hb=>hb.2) hN (hL2.kp h (by omega)) (by omega) (by omega);rw[<-hm]at CC;have C3:=CC (W2.setCell ⟨w.heap.size+1+1,0,none⟩ (.int .i64 (P+1))) (rx _) (jY.set _);have HC3:=ae C3;have cN:=jY.c0;have cL:=hL2.c0;have cx2:W2.cell? ⟨W.heap.size,2,none⟩=some (.slice ua ul uc):=ao FH 2;have zN:=ai jY 0;have zgZ:¬w.heap.size+1=w.heap.size+1+1:=by omega
  have zg0:¬W.heap.size=w.heap.size+1+1:=by have:=HK.o.size;have:=WJ.o;omega
  have⟨HL2,HK2,HO,HE2⟩:=f8 hL2 ke Lc Cl;clear C3 CC jY hL2 gH DI Ck hf hx aE ho1 qY FH hP hm Lc ke;have zeR:decide ((9223372036854775807:Int)<(P:Int)+1+(m:Int))=false:=by simp;have:=HE2.o;omega
  have Z5:∀f,(Fence.wide.inRound l).fn f:=fun _=>trivial;gi_wp2_with (gi_at_call 230;refine CallsIn.inRound l (aO.2 (HC3.o.mono ?_));rintro e w4 ⟨rfl,nV,G'⟩;have c4:=G'.c0;have l4:=(HL2.o.kp ((rx _).trans nV) (by omega)).c0;have HK4:=ae nV;have HN4:=ae G';clear nV G');refine⟨(rx _).trans HK4.o,?_,HK2.o.trans ((rx _).trans HK4.o)⟩;rw[HO.o,show((P+(1+m):Nat):Int)=(P:Int)+1+(m:Int) by omega];exact HN4.o
theorem mV(f:Fm)(aI:cJ f)(ok:Nat->Prop)(w:World)(q:FQ)(hq:aC ok w q.val f):
  Calls prog 99 #[q.val] w fun e w'=>e=.returned (.int .i64 (ag f))/\Below w.heap.size w w':=by
 have hb1:Below w.heap.size w (w.alloc (.cells #[.int .u8 q.o,.string q.n,.slice q.a q.l q.c,.slice q.b q.m q.e] 36)):=dp;have C1:=Q7 f aI ok _ q (hq.later hb1);have⟨HB,HC⟩:=bi hb1 C1;clear hb1 C1 hq;unfold FQ.val at HC⊢;go_enter func99,ntmps99;go_wp2_with (go_at_call 167;refine HC.o.mono ?_;rintro e w2 ⟨rfl,bU⟩);go_ret;exact⟨rfl,HB.o.trans (bU.mono (by simp))⟩
theorem cB.one{ok:Nat->Prop}{b:Nat}{q:TQ}{t:Tm}{T:TypeId}{fr:Nat×Nat}(c:Nat)(ht:aN ok W q.val t)(hb:ok b)(ea:W.heap[b]?=some (.cells #[.bool q.v,.string q.n,.slice q.a q.l q.c] T fr)):
  cB ok W (.slice (some ⟨b,0,none⟩) 1 c) [t]:=by
 refine⟨_,c,fun _=>q.val,rfl,.inr ⟨b,0,rfl,hb,fun j hj=>?_⟩,fun j hj=>?_⟩
 ·simp at hj;subst hj;exact⟨_,_,_,rfl,ao ea 0,ao ea 1,ao ea 2⟩
 ·simp at hj;subst hj;exact ht
theorem eL.zero(ok:Nat->Prop)(W:World):eL ok W (.slice none 0 0) []:=⟨none,0,fun _=>.bool true,rfl,.inl rfl,fun j h=>by simp at h⟩
theorem nd(t:Tm)(aI:e7 t)(hn:ap t<2000000)(ok:Nat->Prop)(w:World)(q:TQ)(hq:aN ok w q.val t):
  Calls prog 100 #[q.val] w fun e w'=>e=.returned (.int .i64 (ap t))/\Below w.heap.size w w':=by
 have hb1:Below w.heap.size w (w.alloc (.cells #[.bool q.v,.string q.n,.slice q.a q.l q.c] 43)):=dp;have bU:Below w.heap.size w ((w.alloc (.cells #[.bool q.v,.string q.n,.slice q.a q.l q.c] 43)).alloc (.cells #[.bool q.v,.string q.n,.slice q.a q.l q.c] 43)):=hb1.alloc (by simp) _;have hr:((w.alloc (.cells #[.bool q.v,.string q.n,.slice q.a q.l q.c] 43)).alloc (.cells #[.bool q.v,.string q.n,.slice q.a q.l q.c] 43)).heap[w.heap.size+1]?=some (.cells #[.bool q.v,.string q.n,.slice q.a q.l q.c] 43 (0,0)):=aq (by simp);have hf:cJ (.mk 0 [] [t] []):=⟨by have:=aI.1;simp[ag,af,ah];omega,by have:=aI.2;simp[mI,d8,eu,this]⟩;have hv:aC (fun _=>True) ((w.alloc (.cells #[.bool q.v,.string q.n,.slice q.a q.l q.c] 43)).alloc (.cells #[.bool q.v,.string q.n,.slice q.a q.l q.c] 43)) (FQ.val ⟨0,⟨#[]⟩,some ⟨w.heap.size+1,0,none⟩,1,1,none,0,0⟩) (.mk 0 [] [t] []):=
  aX.2 ⟨_,_,rfl,cB.one 1 ((hq.later bU).move (fun b _ _=>⟨trivial,rfl⟩)) trivial hr,eL.zero _ _⟩
 have C1:=mV _ hf _ _ _ hv;have nH:ag (.mk 0 [] [t] [])=ap t+1:=by simp[ag,af,ah];try omega
 rw[nH]at C1;have⟨HB,HC,HN⟩:=cU bU C1 hn;clear hb1 bU hr hf hv C1 hq aI nH hn;unfold TQ.val;unfold FQ.val at HC;go_enter func100,ntmps100;go_wp2_with (go_at_call 99;refine HC.o.mono ?_;rintro e w2 ⟨rfl,bU⟩;have bV:=ae bU;clear bU);have hwr:wrap64 ((ap t:Int))=(ap t:Int):=Go.IntWalk.wrap64_in _ (by have:=HN.o;omega);simp only[hwr];exact qeQ
theorem NN(s:ByteArray)(w:World):
  Calls prog 30 #[.string s] w fun e w'=>e=.returned (.agg #[.bool true,.string s,.slice none 0 0])/\Below w.heap.size w w':=by
 go_enter func30,ntmps30;go_wp2;refine bX (v:=.agg #[.bool true,.string s,.slice none 0 0]) (by simp[results,results30,go_sem]) rfl ⟨rfl,?_⟩;exact dp
theorem NO(s:ByteArray)(a:Option Addr)(l c:Nat)(w:World):
  Calls prog 31 #[.string s,.slice a l c] w fun e w'=>e=.returned (.agg #[.bool false,.string s,.slice a l c])/\Below w.heap.size w w':=by
 go_enter func31,ntmps31;go_wp2;refine bX (v:=.agg #[.bool false,.string s,.slice a l c]) (by simp[results,results31,go_sem]) rfl ⟨rfl,?_⟩;exact dp
theorem IX(s:ByteArray)(a:Option Addr)(l c:Nat)(w:World):
  Calls prog 24 #[.string s,.slice a l c] w fun e w'=>e=.returned (.agg #[.int .u8 1,.string s,.slice a l c,.slice none 0 0])/\Below w.heap.size w w':=by
 go_enter func24,ntmps24;go_wp2;refine bX (v:=.agg #[.int .u8 1,.string s,.slice a l c,.slice none 0 0]) (by simp[results,results24,go_sem]) rfl ⟨rfl,?_⟩;exact dp
theorem XD(o:Int)(s:ByteArray)(a:Option Addr)(l c:Nat)(w:World):
  Calls prog 28 #[.int .u8 o,.string s,.slice a l c] w fun e w'=>e=.returned (.agg #[.int .u8 o,.string s,.slice none 0 0,.slice a l c])/\Below w.heap.size w w':=by
 go_enter func28,ntmps28;go_wp2;refine bX (v:=.agg #[.int .u8 o,.string s,.slice none 0 0,.slice a l c]) (by simp[results,results28,go_sem]) rfl ⟨rfl,?_⟩;exact dp
theorem zal(s:ByteArray)(w:World):
  Calls prog 29 #[.string s] w fun e w'=>e=.returned (.agg #[.int .u8 15,.string s,.slice none 0 0,.slice none 0 0])/\Below w.heap.size w w':=by
 go_enter func29,ntmps29;go_wp2;refine bX (v:=.agg #[.int .u8 15,.string s,.slice none 0 0,.slice none 0 0]) (by simp[results,results29,go_sem]) rfl ⟨rfl,?_⟩;exact dp
theorem Q8(s x t:ByteArray)(w:World):
  Calls prog 35 #[.string s,.string x,.string t] w fun e w'=>(∃k c,e=.returned (.agg #[.int .u8 16,.string s,.slice (some ⟨k,0,none⟩) 2 c,.slice none 0 0])/\w.heap.size<=k/\∃T,w'.heap[k]?=some (.cells #[.bool true,.string x,.slice none 0 0,.bool true,.string t,.slice none 0 0] T (0,0)))/\Below w.heap.size w w':=by
 go_enter func35,ntmps35;go_wp2_with fail;refine(NN _ _).mono ?_;rintro e w1 ⟨rfl,hb1⟩;go_wp2_with fail;refine(NN _ _).mono ?_;rintro e w2 ⟨rfl,bU⟩;have x0:(w.alloc (.cells #[.int .u8 0,.string ⟨#[]⟩,.slice none 0 0,.slice none 0 0] 36)).heap[w.heap.size]?=some (.cells #[.int .u8 0,.string ⟨#[]⟩,.slice none 0 0,.slice none 0 0] 36 (0,0)):=aq rfl;have hb:Below (w.alloc (.cells #[.int .u8 0,.string ⟨#[]⟩,.slice none 0 0,.slice none 0 0] 36)).heap.size (w.alloc (.cells #[.int .u8 0,.string ⟨#[]⟩,.slice none 0 0,.slice none 0 0] 36)) w2:=hb1.trans (bU.mono hb1.size);have x2:=bY hb x0;have hsz:w.heap.size<w2.heap.size:=(bQ x2);have⟨W3,ec⟩:=az (w2.alloc (.cells #[.bool true,.string x,.slice none 0 0,.bool true,.string t,.slice none 0 0] 43));have x3:W3.heap[w.heap.size]?=some (.cells #[.int .u8 0,.string ⟨#[]⟩,.slice none 0 0,.slice none 0 0] 36 (0,0)):=by rw[ec];exact(bZ _ _ _ hsz).trans x2
 have y3:=cA ec;have aS:Below w.heap.size w W3:=by rw[ec];exact((((ar w.heap.size w).alloc (aK _) _).trans (hb.mono (by simp)))).alloc (by omega) _
 have⟨c0,c1,c2,c3⟩:=pC x3;have z0:=ai x3 0;have z1:=ai x3 1;have z2:=ai x3 2;have z3:=ai x3 3;obtain⟨W4,vE,x4,k4,g0⟩:=tP x3 (.int .u8 16) (.string s) (.slice (some ⟨w2.heap.size,0,none⟩) 2 2) (.slice none 0 0);rw[ec]at c0 c1 c2 c3 z0 z1 z2 z3;have H:=ae (Xf ec vE g0 k4 aS y3 hsz);clear hb1 bU x0 hb x2 x3 y3 aS x4 k4 g0 ec vE hsz;go_wp2_with fail;rw[<-H.o.1,<-H.o.2.1];obtain⟨g0,g1,g2,g3⟩:=H.o.2.2.1;have hk:=H.o.2.2.2.1;have aS:=H.o.2.2.2.2.1;have hlt:=H.o.2.2.2.2.2.2;refine bX (v:=.agg #[.int .u8 16,.string s,.slice (some ⟨w2.heap.size,0,none⟩) 2 2,.slice none 0 0]) (by simp[results,results35,go_sem,g0,g1,g2,g3]) rfl ⟨⟨_,_,rfl,by omega,_,(hk.same _ (bQ H.o.2.2.2.2.2.1) (by omega)).trans H.o.2.2.2.2.2.1⟩,?_⟩;exact⟨hk.os.trans aS.os,hk.tape.trans aS.tape,hk.output.trans aS.output,aR aS.size hk.size,fun b hb=>(hk.same b (bP hb aS.size) (by omega)).trans (aS.block b hb)⟩
end
section
attribute [local go_sem] Oper.semAt_some run_makeMap
structure Q9(t:Value×Value×Value)(x:aj)(u:Tm)(w:World)(k:Nat)(wr:World):Prop where
 below:Below w.heap.size w wr
 b0:wr.heap[w.heap.size]?=some (.cells #[t.1,t.2.1,t.2.2] 43 (0,0))
 b1:wr.heap[w.heap.size+1]?=some (.cells #[.bool false,.string ⟨#[]⟩,.slice none 0 0] 43 (0,0))
 b3:wr.heap[w.heap.size+3]?=some (.cells #[.map (some (w.heap.size+2))] 146 (0,0))
 mp:ms prog 9 (IT w) wr (w.heap.size+2) k (if k=0 then[]else[(x,u)])
theorem Q9.later{t:Value×Value×Value}{w wr w':World}(h:Q9 t x u w k wr)(hb:Below wr.heap.size wr w'):Q9 t x u w k w':=
 ⟨h.below.tr hb,bY hb h.b0,bY hb h.b1,bY hb h.b3,h.mp.move (hb.block _ h.mp.lt) (fun _ _ _ _ h=>h)⟩
theorem Ld(t:Tm)(aI:e7 t)(x:aj)(hx:x.length<=2000000)(u:Tm)(hfu:e7 u)(ok Q':Nat->Prop)(w:World)(q uq:TQ)(b off c:Nat)(hq:aN ok w q.val t)(hu:aN Q' w uq.val u)
  (c0:w.cell? ⟨b,off,none⟩=some (.string ⟨x.toArray⟩)) (c1:w.cell? ⟨b,off+1,none⟩=some (.bool uq.v)) (c2:w.cell? ⟨b,off+2,none⟩=some (.string uq.n)) (c3:w.cell? ⟨b,off+3,none⟩=some (.slice uq.a uq.l uq.c)):
  Calls prog 168 #[q.val,.slice (some ⟨b,off,none⟩) 1 c] w fun e w'=>(∃p:TQ,e=.returned p.val/\aN (w.heap.size<=·) w' p.val (nl x u t))/\Below w.heap.size w w':=by
 obtain⟨qv,qn,qa,ql,qc⟩:=q;obtain⟨uv,un,ua,ul,uc⟩:=uq;have⟨W1,cC⟩:=az ((((w.alloc (.cells #[.bool qv,.string qn,.slice qa ql qc] 43)).alloc (.cells #[.bool false,.string ⟨#[]⟩,.slice none 0 0] 43)).alloc (.map #[] 0)).alloc (.cells #[.map (some (w.heap.size+2))] 146));have hI:Q9 (.bool qv,.string qn,.slice qa ql qc) x u w 0 W1:=by
  rw[cC];refine⟨((dp.alloc (by simp) _).alloc (by simp;omega) _).alloc (by simp;omega) _,?_,?_,aq (by simp),?_⟩
  ·exact(bZ _ _ _ (by simp;omega)).trans ((bZ _ _ _ (by simp;omega)).trans ((bZ _ _ _ (by simp)).trans (aq rfl)))
  ·exact(bZ _ _ _ (by simp)).trans ((bZ _ _ _ (by simp)).trans (aq (by simp)))
  ·have h:=ms.made (P:=prog) (k:=9) (V:=IT w) ((w.alloc (.cells #[.bool qv,.string qn,.slice qa ql qc] 43)).alloc (.cells #[.bool false,.string ⟨#[]⟩,.slice none 0 0] 43));simp only[World.size_alloc]at h;exact h.move (bZ _ _ _ (by simp)) (fun _ _ _ _ h=>h)
 have⟨HI,kf,HQ,HU⟩:=f8 hI cC hq hu;have HC:=cH c0 c1 c2 c3;have lH:=aM aI hfu;clear hI cC hq hu c0 c1 c2 c3 aI hfu;have qmV:=();exact qeR
end
theorem rM{t:List aj}(h:t.length<10^14):(dy t).length<=2000000:=by
 obtain⟨j,h1,qY,he,_⟩:=qL t (by omega);rw[he];unfold ig;have:=Cz 20 j 15 (by omega) (by omega);simp;omega
mutual
theorem XF{x:aj}(hu:kI p u=true):∀t,kI p t=true->kI p (nl x u t)=true
 |.mk v n a,h=>by
  simp only[kI,ak,bM]at h;have ih:=DV (x:=x) hu a h.2;unfold fU at ih;unfold nl at ih⊢;rw[ep]
  cases v with
  |false=>
   simp only[bR,if_false,kI,ak,bM];exact⟨h.1,by rw[gJ];exact ih⟩
  |true=>
   simp only[if_true]
   by_cases hx:(n==x)=true
   ·simp only[hx,if_true];exact hu
   ·have hx:(n==x)=false:=by simpa using hx
    simp only[hx,bR,if_false,kI,ak,bM];exact⟨h.1,by rw[gJ];exact ih⟩
theorem DV{x:aj}(hu:kI p u=true):∀l,d8 p l=true->d8 p (fU x u l)=true
 |[],_=>by simp[fU,d8]
 |t::l,h=>by
  simp only[d8,ak]at h;have h1:=XF (x:=x) hu t h.1;have h2:=DV (x:=x) hu l h.2;unfold fU at h2⊢;simp only[cM,d8,ak];exact⟨h1,h2⟩
end
theorem Af{y:aj}(h:y.length<=2000000):kI 2000000 (bj y)=true:=by simp[bj,kI,d8,h]
theorem rN:∀(k:Nat)(f:Fm)(x:aj)(u:Tm),iV f=true->il f=true->a_ f<=k->ag f+ap u<10^10->mI 2000000 f=true->kI 2000000 u=true->mI 2000000 (h_ k x u f)=true
 |0,f,x,u,hw,hq,hd,hs,hf,hu=>by have:=oB f;omega
 |k+1,.mk o n a s,x,u,hw,hq1,hd,hs,hf,hu=>by
  have AW:=hf;have I8:=();exact qaW
theorem NQ{a:List aj}(ha:a.length<10^18)(hb:b.length<10^18)(ha2:(dX a).length<10^18)(bU:(dX b).length<10^18):dy (dX a++dX b)=dy (a++b):=
 GW (by simp;omega) (by simp;omega) (fun x=>by simp[eG])
theorem gp(l:List aj):(dX l).length<=l.length:=by
 unfold dX
 induction l with
 |nil=>simp
 |cons x l ih=>
  have h:∀(m:List aj),(vZ x m).length<=m.length+1:=fun m=>by
   induction m with
   |nil=>simp[vZ]
   |cons y m ih2=>
    unfold vZ;split
    ·simp
    ·split
     ·simp
     ·simp;omega
  simp only[List.foldr_cons,fB];have:=h (List.foldr vZ [] l);omega
theorem om(l:List aj)(x:aj):(dX l).contains x=l.contains x:=by
 rw[iM];simp[eG]
section
attribute [local go_sem] Oper.semAt_some
abbrev frV(c0 c1:Nat):Value:=.func (.func 213) #[] #[.pointer (some ⟨c0,0,none⟩),.pointer (some ⟨c1,0,none⟩)]
def FrG(M:Nat->Prop)(c0 c1:Nat)(J:List aj->World->Prop)(xs:List aj):Prop:=∀(pre:List aj)(x:aj)(W1:World),J pre W1->(pre++[x]) <+: xs→
 Calls prog 213 #[.string ⟨x.toArray⟩,.pointer (some ⟨c0,0,none⟩),.pointer (some ⟨c1,0,none⟩)] W1 fun e W'=>e=.returned (.bool true)/\J (pre++[x]) W'/\Kp M W1 W'
theorem DW(c0 c1:Nat):∀(t:Tm),e7 t->∀(M:Nat->Prop)(B:Nat)(J:List aj->World->Prop)(xs pre:List aj)(W:World)(q:TQ),(∀b,M b->b<W.heap.size)->(∀s,jT W.heap.size (J s))->FrG M c0 c1 J xs->aN (fun b=>b<B/\¬M b) W q.val t->(pre++aL t) <+: xs->J pre W→
  Calls prog 214 #[q.val,frV c0 c1] W fun e W'=>e=.returned (.bool true)/\J (pre++aL t) W'/\Kp M W W':=by
 intro t
 induction t using Tm.ind with
 |h v n a ih=>
  intro aI M B J xs pre W q hM hJ hY hq dU hj;obtain⟨qv,qn,qa,ql,qc⟩:=q;obtain⟨sa,hs,bN⟩:=aW.1 hq;have qmX:=();exact qam
end
theorem zam{P:Program}{k:TypeId}{β:Type}{V:Value->α->Prop}{V':Value->β->Prop}{n':Nat}{l:List (aj×α)}{l':List (aj×β)}(h:W.grownBy W' (some m))(hm:ms P k V W m n l)(hm':ms P k V' W' m n' l')(hB:B<=m):Nw B W W':=by
 obtain⟨D,⟨es,Dh,h1,_⟩,_⟩:=hm;obtain⟨D',⟨Xx,zaa,h1',_⟩,_⟩:=hm';refine⟨h.os,h.tape,h.output,h.size,fun b hb=>?_⟩
 by_cases e:b=m
 ·subst e;exact .inr ⟨hB,⟨_,h1,rfl⟩,_,h1',rfl⟩
 ·exact .inl (h.block b hb (fun h=>by cases h;exact e rfl))
def gz(W:World)(m n:Nat)(bs:List aj):Prop:=∃l:List (aj×Nat),ms prog 9 (fun v (c:Nat)=>v=.int .i64 (c:Int)) W m n l/\∀x,(bG l x).getD 0=bs.count x
theorem gz.lt(h:gz W m n bs):m<W.heap.size:=by obtain⟨l,h,_⟩:=h;exact h.lt
theorem gz.same(h:gz W m n bs)(hb:W'.heap[m]?=W.heap[m]?):gz W' m n bs:=by
 obtain⟨l,h,hx⟩:=h;exact⟨l,h.move hb (fun _ _ _ _ h=>h),hx⟩
theorem gz.made(w:World):gz (w.alloc (.map #[] 0)) w.heap.size 0 []:=⟨[],ms.made w,fun x=>by simp[bG]⟩
theorem gz.look(h:gz W m n bs)(hx:x.length<=2000000):
  ∀W':World,W'.heap[m]?=W.heap[m]?->(Instr.lookup 198 (.map (some m)) (.string ⟨x.toArray⟩) false).run prog W'=.ok (.int .i64 (bs.count x:Int)) W':=by
 obtain⟨l,h,hl⟩:=h;intro W' hW;have hz:∀w,(zeroValue 3).run prog w=.ok (.int .i64 0) w:=fun w=>by kernel_rfl
 have hc:=hl x;rcases h.look underlying9 underlying198 hz hx with⟨hn,hr⟩|⟨a,v,hs,rfl,hr⟩
 ·rw[hn]at hc;rw[<-hc];exact(hr W' hW).2
 ·rw[hs]at hc;rw[<-hc];exact(hr W' hW).2
theorem gz.store{bs':List aj}(h:gz W m n bs)(hn:n<4000000)(hx:x.length<=2000000)(hb:∀y,y≠x->bs'.count y=bs.count y):
  ∃w',(Instr.mapUpdate 198 (.map (some m)) (.string ⟨x.toArray⟩) (.int .i64 (bs'.count x:Int))).run prog W=.ok () w'/\gz w' m (n+1) bs'/\W.grownBy w' (some m)/\w'.heap.size=W.heap.size/\∀B,B<=m->Nw B W w':=by
 obtain ⟨l,h,hl⟩:=h;obtain ⟨w',hr,hm,hg,hs⟩:=h.store underlying9 underlying198 hn hx (v:=.int .i64 (bs'.count x:Int)) (a:=bs'.count x) (l':=(x,bs'.count x) :: l) (V':=fun v (c:Nat)=>v=.int .i64 (c:Int)) rfl (fun _ _ _ _ _ h=>h) (fun y=>by
  rw[bG]
  by_cases e:y=x
  ·subst e;simp
  ·rw[aw e];rw[aw (by simpa using fun h=>e h.symm)])
 refine⟨w',hr,⟨_,hm,fun y=>?_⟩,hg,hs,fun B hB=>zam hg h hm hB⟩;rw[bG]
 by_cases e:y=x
 ·subst e;simp
 ·rw[aw (by simpa using fun h=>e h.symm),hl y,hb y e]
section
attribute [local go_sem] Oper.semAt_some
theorem zan(mb n c0 c1:Nat)(bs:List aj)(x:aj)(hx:x.length<=2000000)(W:World)(h0:W.cell? ⟨c0,0,none⟩=some (.map (some mb)))(hb:gz W mb n bs)(hc:0<bs.count x):
  Calls prog 213 #[.string ⟨x.toArray⟩,.pointer (some ⟨c0,0,none⟩),.pointer (some ⟨c1,0,none⟩)] W fun e w'=>e=.returned (.bool true)/\w'=W:=by
 have hr:=hb.look hx W rfl;have⟨k,hk⟩:=az (bs.count x);rw[<-hk]at hr hc;have hd:decide ((0:Int)<(k:Int))=true:=by simp;omega
 have ZH:(0:Int)<(k:Int):=by omega
 clear hb hk hc;go_enter func213,ntmps213;go_wp2;go_ret;exact⟨rfl,rfl⟩
theorem XG(mb n l c0 c1:Nat)(bs:List aj)(x:aj)(hx:x.length<=2000000)(W:World)(R:World->Prop)(h0:W.cell? ⟨c0,0,none⟩=some (.map (some mb)))(h1:W.cell? ⟨c1,0,none⟩=some (.func (.yield l) #[] #[]))(hb:gz W mb n bs)(hc:bs.count x=0)
  (hy:YieldAt Fence.wide 0 prog l #[.string ⟨x.toArray⟩] W fun e W'=>e=.returned (.bool true)/\R W'):
  Calls prog 213 #[.string ⟨x.toArray⟩,.pointer (some ⟨c0,0,none⟩),.pointer (some ⟨c1,0,none⟩)] W fun e w'=>e=.returned (.bool true)/\R w':=by
 have hr:=hb.look hx W rfl;rw[hc]at hr;have hr:(Instr.lookup 198 (.map (some mb)) (.string ⟨x.toArray⟩) false).run prog W=.ok (.int .i64 0) W:=hr;obtain⟨fn,tmps,assign,body,hy,KG⟩:=lu 2 hy;clear hb hc;refine oM func213 ?_;simp only[ntmps213,Nat.reduceAdd,Nat.reduceSub,ng];have jq:=fP;gi_wp2;refine KG.mono ?_;rintro e W2 ⟨rfl,hR⟩;have HR:=ae hR;clear hR KG hy hr;gi_wp2;go_ret;exact⟨rfl,HR.o⟩
structure FrJ(J:List aj->World->Prop)(pre:List aj)(M:Nat->Prop)(W0:World)(mb n:Nat)(bs:List aj)(l s:Nat)(p:List aj)(X:World):Prop where
 j:J (pre++p.filter (fun x=>!bs.contains x)) X
 kp:Kp M W0 X
 bd:gz X mb n bs
 b1:X.heap[s+1]?=some (.cells #[.map (some mb)] 198 (0,0))
 b2:X.heap[s+2]?=some (.cells #[.func (.yield l) #[] #[]] 113 (0,0))
theorem TM{X Y:World}(h:Kp M W0 X)(hn:Nw B X Y)(hB:W0.heap.size<=B):Kp M W0 Y:=
 ⟨hn.os.trans h.os,hn.tape.trans h.tape,hn.output.trans h.output,aR h.size hn.size,fun b hb hm=>(hn.old (by omega) (bP hb h.size)).trans (h.same b hb hm)⟩
theorem FrJ.abides{J:List aj->World->Prop}(hJ:∀s,jT W0.heap.size (J s))(h0:W0.heap.size<=B)(hm:mb<B)(hs:s+2<B)(p:List aj):jT B (FrJ J pre M W0 mb n bs l s p):=by
 intro X Y hn h;exact⟨(hJ _).mono h0 X Y hn h.j,TM h.kp hn h0,h.bd.same (hn.old hm h.bd.lt),(hn.old (by omega) (bQ h.b1)).trans h.b1,(hn.old (by omega) (bQ h.b2)).trans h.b2⟩
theorem F6(g:α->Bool){a b:List α}(h:a <+: b):a.filter g <+: b.filter g:=by
 obtain⟨r,rfl⟩:=h;rw[List.filter_append];exact⟨_,rfl⟩
theorem NR{p:List α}{x:α}{xs:List α}(h:(p++[x]) <+: xs):x∈xs:=h.subset (by simp)
theorem zao{J:List aj->World->Prop}{xs:List aj}{a:List Tm}(hM:∀b,M b->b<W0.heap.size)(FG:W0.heap.size<=mb)(hs:W0.heap.size<=s)(hY:wm M l J Dg xs W0)(aI:jE a)
  (dU:(pre++(aF a).filter (fun x=>!bs.contains x)) <+: xs):FrG (fun b=>M b\/b=mb) (s+1) (s+2) (FrJ J pre M W0 mb n bs l s) (aF a):=by
 intro p x W1 h hp;have hxm:=NR hp;have z8:x.length<=2000000:=qJ a aI.2 x hxm;have c0:W1.cell? ⟨s+1,0,none⟩=some (.map (some mb)):=ao h.b1 0;have c1:W1.cell? ⟨s+2,0,none⟩=some (.func (.yield l) #[] #[]):=ao h.b2 0
 by_cases hc:bs.contains x=true
 ·have hm:x∈bs:=by simpa using hc
  have hf:(p++[x]).filter (fun x=>!bs.contains x)=p.filter (fun x=>!bs.contains x):=by simp[List.filter_append,hm]
  refine(zan mb n (s+1) (s+2) bs x z8 W1 c0 h.bd (List.count_pos_iff.2 (by simpa using hc))).mono ?_;rintro e w' ⟨rfl,rfl⟩;exact⟨rfl,⟨by rw[hf];exact h.j,h.kp,h.bd,h.b1,h.b2⟩,Kp.refl _⟩
 ·have hm:¬x∈bs:=by simpa using hc
  have hf:(p++[x]).filter (fun x=>!bs.contains x)=p.filter (fun x=>!bs.contains x)++[x]:=by simp[List.filter_append,hm]
  have hpx:(pre++p.filter (fun x=>!bs.contains x)++[x]) <+: xs:=by
   have h1:=F6 (fun x=>!bs.contains x) hp;rw[hf]at h1;obtain⟨r,hr⟩:=h1;rw[<-hr]at dU;obtain⟨r2,TN⟩:=dU;exact⟨r++r2,by rw[<-TN];simp⟩
  have hy:=hY (pre ++ p.filter (fun x=>!bs.contains x)) #[.string ⟨x.toArray⟩] x W1 h.j h.kp rfl hpx;refine (XG mb n l (s+1) (s+2) bs x z8 W1 (fun W'=>J (pre ++ p.filter (fun x=>!bs.contains x) ++ [x]) W'/\Kp M W1 W') c0 c1 h.bd (by
   rw[List.count_eq_zero];simpa using hc) hy).mono ?_
  rintro e w' ⟨rfl,hj,hk⟩;have dQ:∀b,W0.heap.size<=b->¬M b:=fun b hb h=>by have:=hM b h;omega
  have l1:=(bQ h.b1);have l2:=(bQ h.b2);refine⟨rfl,⟨by rw[hf,<-List.append_assoc];exact hj,h.kp.trans hk,h.bd.same (hk.same mb h.bd.lt (dQ mb FG)),(hk.same _ l1 (dQ _ (by omega))).trans h.b1,(hk.same _ l2 (dQ _ (by omega))).trans h.b2⟩,hk.mono (fun b _ hb=>.inl hb)⟩
theorem qP{l:List Fm}{k:Nat}(h:k<l.length):bK b (l.take (k+1))=bK b (l.take k)++aP b l[k]:=by
 induction l generalizing k with
 |nil=>simp at h
 |cons t l ih=>
  cases k with
  |zero=>simp[bK]
  |succ k=>have:=ih (k:=k) (by simpa using h);simp[bK]at this⊢;rw[this]
theorem qd(b:List aj):∀l m,bK b (l++m)=bK b l++bK b m
 |[],m=>rfl
 |t::l,m=>by simp[bK,qd b l m]
theorem XH(mb n s:Nat)(bs:List aj)(x:aj)(hx:x.length<=2000000)(hn:n<4000000)(hl:bs.length<=4000000)(u:FrameMode)(W:World)(h0:W.cell? ⟨s+1,0,none⟩=some (.map (some mb)))(h1:W.cell? ⟨s,1,none⟩=some (.string ⟨x.toArray⟩))(hb:gz W mb n (x::bs)):
  CallsD prog 215 #[.pointer (some ⟨s+1,0,none⟩),.pointer (some ⟨s,0,none⟩)] u W fun e u' w'=>u'=u/\(e=.returned (.tuple #[])/\gz w' mb (n+1) bs/\W.grownBy w' (some mb)/\w'.heap.size=W.heap.size/\∀B,B<=mb->Nw B W w'):=by
 have hr:=hb.look hx W rfl;obtain⟨w4,cV,aY,zF,Bm,G'⟩:=hb.store (bs':=bs) hn hx (fun y hy=>by rw[List.count_cons_of_ne];exact fun h=>hy h.symm);have hcl:bs.count x<=4000000:=aR List.count_le_length hl;rw[List.count_cons_self]at hr;have⟨k,hk⟩:=az (bs.count x);rw[<-hk]at hr cV hcl;have hr:(Instr.lookup 198 (.map (some mb)) (.string ⟨x.toArray⟩) false).run prog W=.ok (.int .i64 ((k:Int)+1)) W:=by rw[hr];rfl
 have HQ:=cH aY zF Bm G';clear hb hk aY zF Bm G' hl;go_enter_d func215,ntmps215;go_wp2;go_end0;exact⟨rfl,HQ.o⟩
end
end Go.Proofs.YtokemihbkeddoaaGreatDoor
namespace Go.Proofs.YtokemihbkeddoaaGreatDoor
open Go Go.RowKit Go.Maps Go.Sort Go.Shelf
attribute [local go_sem] Oper.semAt_some
theorem F8:∀(f:Fm),cJ f->∀(M:Nat->Prop)(B l:Nat)(J:List aj->World->Prop)(xs pre:List aj)(W0 W:World)(q:FQ)(mb n:Nat)(bs:List aj),(∀b,M b->b<W0.heap.size)->W0.heap.size<=mb->(∀s,jT W0.heap.size (J s))->wm M l J Dg xs W0->aC (fun b=>b<B/\¬M b) W0 q.val f→
  Kp M W0 W->gz W mb n bs->n+2*ag f<4000000->bs.length+ag f<=4000000->(pre++aP bs f) <+: xs->J pre W→
  Calls prog 149 #[q.val,.map (some mb),.func (.yield l) #[] #[]] W fun e W'=>e=.returned (.bool true)/\J (pre++aP bs f) W'/\Kp M W0 W'/\(∃n',n'<=n+2*ag f/\gz W' mb n' bs)/\Kp (fun b=>M b\/b=mb) W W':=by
 intro f
 induction f using Fm.ind with
 |h o nm a ss ih=>
 intro aI M B l J xs pre W0 W q mb n bs hM FG hJ hY hq hk hb hn Nn dU hj;exact qeM
theorem vN(q:FQ)(w:World):
  Calls prog 85 #[q.val] w fun e w'=>e=.returned (.func (.func 148) #[] #[.pointer (some ⟨w.heap.size,0,none⟩)])/\w'=w.alloc (.cells #[.int .u8 q.o,.string q.n,.slice q.a q.l q.c,.slice q.b q.m q.e] 36):=by
 obtain⟨o,n,a,l,c,b,m,e⟩:=q;unfold FQ.val;go_enter func85,ntmps85;go_wp2;go_ret;exact⟨rfl,rfl⟩
attribute [local go_sem] run_makeMap in
theorem vO(f:Fm)(aI:cJ f)(Kc:ag f<=1000000)(M:Nat->Prop)(B X:Nat)(w:World)(q:FQ)(hX:w.heap[X]?=some (.cells #[.int .u8 q.o,.string q.n,.slice q.a q.l q.c,.slice q.b q.m q.e] 36 (0,0)))(MP:¬M X)(hq:aC (fun b=>b<B/\¬M b) w q.val f):
  M8 M False prog 148 #[.pointer (some ⟨X,0,none⟩)] (aP [] f) Dg w:=by
 exact qcj
theorem Ag{bs:List aj}{l:List Tm}{x:aj}(h:x∈(aF l).filter (fun x=>!bs.contains x)):x∈aF l:=(List.mem_filter.1 h).1
mutual
theorem oo{p:Nat}:∀(f:Fm)(b:List aj),mI p f=true->∀x∈aP b f,x.length<=p
 |.mk o n a s,b,h,x,hx=>by
  simp only[mI,ak]at h;unfold aP at hx;rcases List.mem_append.1 hx with hx|hx
  ·exact qJ a h.2.2.1 x (Ag hx)
  ·exact Le s _ h.2.2.2 x hx
theorem Le{p:Nat}:∀(l:List Fm)(b:List aj),eu p l=true->∀x∈bK b l,x.length<=p
 |[],_,_,x,hx=>by simp[bK]at hx
 |t::l,b,h,x,hx=>by
  simp only[eu,ak]at h;unfold bK at hx;rcases List.mem_append.1 hx with hx|hx
  ·exact oo t b h.1 x hx
  ·exact Le l b h.2 x hx
end
theorem tR(t:Fm)(aI:cJ t)(Kc:ag t<=1000000)(ok:Nat->Prop)(w:World)(q:FQ)(hq:aC ok w q.val t):
  Calls prog 40 #[q.val] w fun e w'=>(∃v,e=.returned v/\Nm w.heap.size w' v (dX (aP [] t)))/\RowKit.Below w.heap.size w w':=by
 have hq:=hq.lt;have qY:(aP [] t).length<=2000000:=aR (fI t []) aI.1;have⟨W2,bp⟩:=az ((w.alloc (.cells #[.int .u8 q.o,.string q.n,.slice q.a q.l q.c,.slice q.b q.m q.e] 36)).alloc (.cells #[.int .u8 q.o,.string q.n,.slice q.a q.l q.c,.slice q.b q.m q.e] 36));exact qeI
end Go.Proofs.YtokemihbkeddoaaGreatDoor
namespace Go.Proofs.YtokemihbkeddoaaGreatDoor
open Go Go.RowKit Lib
set_option maxRecDepth 100000
set_option maxHeartbeats 0
variable{lo B c i b kb mF mT nF nT:Nat}{W X w Y W' A C:World}{ok M:Nat->Prop}{o0 ou o1 o2:Obj}{T:TypeId}{v:Value}{t:Fm}{l:List Tm}{r:List Nat}{o:Option Nat}{x:aj}{PF:Fm->Prop}{PT:Tm->Prop}{k:Bd}
section
attribute [local go_sem] Oper.semAt_some
theorem dH.made(cur:Array Value)(cap:Nat)(hb:lo<=W.heap.size)(hm:cap<=maxLen)(hs:cur.size=cap*3):dH lo (.slice (some ⟨W.heap.size,0,none⟩) 0 cap) [] (W.alloc (.cells cur 43)):=
 ⟨[],rfl,World.ownsRow_made W cur cap hb hm hs,fun j h=>by simp at h⟩
theorem eO.made(cur:Array Value)(cap:Nat)(hb:lo<=W.heap.size)(hm:cap<=maxLen)(hs:cur.size=cap*4):eO lo (.slice (some ⟨W.heap.size,0,none⟩) 0 cap) [] (W.alloc (.cells cur 36)):=
 ⟨[],rfl,World.ownsRow_made W cur cap hb hm hs,fun j h=>by simp at h⟩
def Z7(t:Tm):Prop:=∀(ok:Nat->Prop)(w:World)(q:TQ),aN ok w q.val t->Calls prog 107 #[q.val] w fun e w'=>∃p:TQ,e=.returned p.val/\aN (w.heap.size<=·) w' p.val t/\Below w.heap.size w w'
theorem vP(l:List Tm)(aI:jE l)(XI:∀t∈l,Z7 t)(ok:Nat->Prop)(w:World)(a:Option Addr)(n c:Nat)(hv:cB ok w (.slice a n c) l):
  Calls prog 106 #[.slice a n c,.func (.func 107) #[] #[]] w fun e w'=>∃a' c',e=.returned (.slice a' l.length c')/\cB (w.heap.size<=·) w' (.slice a' l.length c') l/\Below w.heap.size w w':=by
 have qmY:=();exact qeS
def Z8(t:Fm):Prop:=∀(ok:Nat->Prop)(w:World)(q:FQ),aC ok w q.val t->Calls prog 51 #[q.val] w fun e w'=>∃p:FQ,e=.returned p.val/\aC (w.heap.size<=·) w' p.val t/\Below w.heap.size w w'
theorem F9(l:List Fm)(aI:jp l)(XI:∀t∈l,Z8 t)(ok:Nat->Prop)(w:World)(a:Option Addr)(n c:Nat)(hv:eL ok w (.slice a n c) l):
  Calls prog 108 #[.slice a n c,.func (.func 51) #[] #[]] w fun e w'=>∃a' c',e=.returned (.slice a' l.length c')/\eL (w.heap.size<=·) w' (.slice a' l.length c') l/\Below w.heap.size w w':=by
 obtain⟨i0,hi,oO,jv,iG⟩:=info_parts ju;obtain rfl:=hv.len;have hlen:=aI.len
 by_cases h0:l=[]
 ·subst h0;go_enter func108,ntmps108;go_wp2;go_ret;exact⟨none,0,rfl,iE,ar _ _⟩
 ·have⟨k0,cD⟩:=az l.length;exact qeT
theorem F':∀(t:Tm),e7 t->Z7 t:=by
 intro t
 induction t using Tm.ind with
 |h v n a ih=>
  intro aI ok w q hq;have qmZ:=();exact qaH
theorem qQ:∀(t:Fm),cJ t->Z8 t:=by
 intro t
 induction t using Fm.ind with
 |h o n a s ih=>
  intro aI ok w q hq;have qm0:=();exact qar
theorem uL{p:FQ}{f:Fm}(h:aC ok X p.val f)(hB:ok B)(hx:X.heap[B]?=some (.cells #[.int .u8 p.o,.string p.n,.slice p.a p.l p.c,.slice p.b p.m p.e] 36 (0,0))):eL ok X (.slice (some ⟨B,0,none⟩) 1 c) [f]:=
 ⟨_,c,fun _=>p.val,rfl,.inr ⟨B,0,rfl,hB,fun j hj=>by
  obtain rfl:j=0:=by simpa using hj
  exact⟨_,_,_,_,rfl,ao hx 0,ao hx 1,ao hx 2,ao hx 3⟩⟩,fun j hj=>by
  obtain rfl:j=0:=by simpa using hj
  exact h⟩
structure wN(w:World)(o0 ou o1 o2:Obj)(X:World):Prop where
 below:Below w.heap.size w X
 b0:X.heap[w.heap.size]?=some o0
 bu:X.heap[w.heap.size+1]?=some ou
 b1:X.heap[w.heap.size+1+1]?=some o1
 b2:X.heap[w.heap.size+1+1+1]?=some o2
theorem wN.keep(h:wN w o0 ou o1 o2 X)(h1:Y.os=X.os)(h2:Y.tape=X.tape)(h3:Y.output=X.output)(h4:X.heap.size<=Y.heap.size)(h5:∀b,b<=w.heap.size+3->Y.heap[b]?=X.heap[b]?):wN w o0 ou o1 o2 Y:=
 ⟨⟨h1.trans h.below.os,h2.trans h.below.tape,h3.trans h.below.output,aR h.below.size h4,fun b hb=>(h5 b (by omega)).trans (h.below.block b hb)⟩,(h5 _ (by omega)).trans h.b0,(h5 _ (by omega)).trans h.bu,(h5 _ (by omega)).trans h.b1,(h5 _ (by omega)).trans h.b2⟩
theorem wN.lt(h:wN w o0 ou o1 o2 X):w.heap.size+3<X.heap.size:=(bQ h.b2)
theorem wN.later(h:wN w o0 ou o1 o2 X)(hb:Below X.heap.size X Y):wN w o0 ou o1 o2 Y:=
 h.keep hb.os hb.tape hb.output hb.size (fun b bU=>hb.block b (by have:=h.lt;omega))
theorem wN.grown(h:wN w o0 ou o1 o2 X){bo:Option Nat}(hg:X.grownBy Y bo)(kC:∀b,bo=some b->w.heap.size+3<b):wN w o0 ou o1 o2 Y:=
 h.keep hg.os hg.tape hg.output hg.size (fun b bU=>hg.block b (by have:=h.lt;omega) (fun e=>by have:=kC b e.symm;omega))
theorem wN.setR{cs:Array Value}(h:wN w o0 ou o1 (.cells cs T (0,0)) X)(F:Nat)(v:Value):wN w o0 ou o1 (.cells (cs.setIfInBounds F v) T (0,0)) (X.setCell ⟨w.heap.size+1+1+1,F,none⟩ v):=
 ⟨⟨h.below.os,h.below.tape,h.below.output,by simpa using h.below.size,fun b hb=>(e_ _ _ _ _ (by simp <;>omega)).trans (h.below.block b hb)⟩,(e_ _ _ _ _ (by simp <;>omega)).trans h.b0,(e_ _ _ _ _ (by simp <;>omega)).trans h.bu,(e_ _ _ _ _ (by simp)).trans h.b1,bJ h.b2 v⟩
def zaq(kk:Nat):Prop:=∀(W0:World)(f:Fm)(nx:aj)(z:Tm),cJ f->ag f<=100000->iV f=true->il f=true->a_ f<=kk->nx.length<=2000000->e7 z->ap z<=100000->∀(ok Q':Nat->Prop)(w:World)(q:FQ)(zq:TQ),gG W0 w->aC ok w q.val f->aN Q' w zq.val z→
 Calls prog 101 #[q.val,.string ⟨nx.toArray⟩,zq.val] w fun e w'=>(∃p:FQ,e=.returned p.val/\aC (w.heap.size<=·) w' p.val (h_ kk nx z f))/\Below w.heap.size w w'
theorem zar(kk:Nat)(IH:zaq kk):zaq (kk+1):=by
 have qm1:=();exact qaU
theorem Lk:∀k,zaq k
 |0=>fun W0 f nx z _ _ _ _ hd=>by have:=oB f;omega
 |k+1=>zar k (Lk k)
theorem yG(W0:World)(f:Fm)(nx:aj)(z:Tm)(hf:cJ f)(hn:ag f<=100000)(hw:iV f=true)(hq:il f=true)(hx:nx.length<=2000000)(hz:e7 z)(MT:ap z<=100000)(ok Q':Nat->Prop)(w:World)(q:FQ)(zq:TQ)(hT:gG W0 w)(h:aC ok w q.val f)(h2:aN Q' w zq.val z):
  Calls prog 101 #[q.val,.string ⟨nx.toArray⟩,zq.val] w fun e w'=>(∃p:FQ,e=.returned p.val/\aC (w.heap.size<=·) w' p.val (gQ nx z f))/\Below w.heap.size w w':=
 Lk (a_ f) W0 f nx z hf hn hw hq (aK _) hx hz MT ok Q' w q zq hT h h2
theorem aC.kp3(h:aC (fun b=>b<B/\¬M b/\ok b) W v t)(hk:Kp M W W'):aC (fun b=>b<B/\¬M b/\ok b) W' v t:=h.move (fun b hb hlt=>⟨hb,hk.same b hlt hb.2.1⟩)
theorem NU(o:Int)(n:aj)(a:List Tm)(s:List Fm)(i:Nat)(r:List Nat)(ins:List aj):ls (.mk o n a s) (i::r) ins=match s[i]? with|some g=>ls g r (if br o then n::ins else ins)|none=>none:=rfl
theorem DY(h:r≠[]):kP l (i::r)=match l[i]? with|some t=>kP t.a r|none=>none:=by
 cases r with
 |nil=>exact absurd rfl h
 |cons j r=>rfl
theorem NV(h:l[i]?=none):kP l (i::r)=none:=by
 cases r with
 |nil=>exact h
 |cons j r=>rw[DY (by simp),h]
theorem qR{B:World}(h:Kp M A B)(hg:B.grownBy C o)(ho:∀g,o=some g->A.heap.size<=g):Kp M A C:=
 ⟨hg.os.trans h.os,hg.tape.trans h.tape,hg.output.trans h.output,aR h.size hg.size,fun b hb hm=>(hg.block b (bP hb h.size) (fun e=>by have:=ho b (by first|exact e|exact e.symm);omega)).trans (h.same b hb hm)⟩
theorem zcQ{B:World}(h:Below A.heap.size A B)(hg:B.grownBy C o)(ho:∀g,o=some g->lo<=g):Kp (fun b=>lo<=b) A C:=
 ⟨hg.os.trans h.os,hg.tape.trans h.tape,hg.output.trans h.output,aR h.size hg.size,fun b hb hm=>(hg.block b (bP hb h.size) (fun e=>by have:=ho b (by first|exact e|exact e.symm);omega)).trans (h.block b hb)⟩
theorem gj.apart{l:List Nat}(h:gj W v l){off:Nat}{n:Nat}(hv:v=.slice (some ⟨b,off,none⟩) n c)(jd:l≠[]){o:Int}{s:ByteArray}{a1 a2:Option Addr}{n1 c1 n2 c2:Nat}(hx:W.heap[B]?=some (.cells #[.int .u8 o,.string s,.slice a1 n1 c1,.slice a2 n2 c2] T (0,0))):b≠B:=by
 rintro rfl;obtain⟨a,cap,ll,_,h⟩:=h;rcases h with h|⟨b2,off2,ha,hc⟩
 ·exact jd h
 ·rw[ha,hv]at ll;injection ll with h1 _ _;injection h1 with h1;injection h1 with h1 h2;subst h1 h2;have h0:=hc 0 (jR.2 jd);rw[aT hx]at h0
  match hk:off+0,h0 with
  |0,h=>simp at h
  |1,h=>simp at h
  |2,h=>simp at h
  |3,h=>simp at h
  |n+4,h=>simp at h
theorem DZ(h:W.heap[b]?=some (.cells #[.string ⟨x.toArray⟩] T (0,0))):fJ (fun _=>True) W (.slice (some ⟨b,0,none⟩) 1 1) [x]:=
 ⟨_,1,rfl,aK _,.inr ⟨b,0,rfl,trivial,fun j hj=>by simp at hj;subst hj;exact ao h 0⟩⟩
theorem Rb(f im:Fm)(x:aj)(SD:cJ f)(hfi:cJ im)(hp:(lN x f).isSome=true)(ok:Nat->Prop)(w:World)(q r:FQ)(hq:aC ok w q.val f)(hr:aC ok w r.val im):
  Calls prog 98 #[q.val,r.val,.string ⟨x.toArray⟩] w fun e w'=>(∃p:TQ,e=.returned (.tuple #[p.val,.bool (fG f im x).isSome])/\∀u,fG f im x=some u->aN (fun b=>b<w.heap.size/\ok b) w' p.val u)/\Below w.heap.size w w':=by
 obtain⟨⟨p,pq⟩,oA⟩:=Option.isSome_iff_exists.1 hp;obtain⟨hpq,oe,zcR⟩:=yx f _ oA;have vD:=SD.1;simp only at hpq oe zcR;have⟨R,hR⟩:=az (fG f im x);have tN:=hR;unfold fG at tN;rw[oA]at tN;simp only at tN;rw[<-hR];obtain⟨M,hM⟩:∃M:Nat->Prop,M=fun b=>b=w.heap.size+1:=⟨_,rfl⟩;have⟨W3,ec⟩:=az (((w.alloc (.cells #[.int .u8 q.o,.string q.n,.slice q.a q.l q.c,.slice q.b q.m q.e] 36)).alloc (.cells #[.int .u8 r.o,.string r.n,.slice r.a r.l r.c,.slice r.b r.m r.e] 36)).alloc (.cells #[.bool false,.string ⟨#[]⟩,.slice none 0 0] 43));have aS:=xK ec;have sP:=Ki ec;have x1:=sy ec;have x2:=qw ec;have x0:=xM ec;have CC:=Tt f x ok W3 q SD (hq.later aS);rw[oA]at CC;simp only[Option.map,Option.getD]at CC;have jm:aC (fun b=>b<w.heap.size/\¬M b/\ok b) w r.val im:=hr.move (fun b hok hlt=>⟨⟨hlt,by rw[hM];simp;omega,hok⟩,rfl⟩);obtain⟨q0,q1,q2,q3,q4,q5,q6,q7⟩:=q;obtain⟨r0,r1,r2,r3,r4,r5,r6,r7⟩:=r;have⟨n1,eB⟩:=az p.length;have⟨n2,jY⟩:=az pq.length;have Rc:n1<=2000000:=by omega
 have XP:n2<=2000000:=by omega
 have⟨HC,HR⟩:=bi CC tN;have HM:=bS hM sP aS;have HN:=bS eB jY hpq;have _b:=aM jm hfi;have HX:=bS x0 x1 x2;have Ci:=ae ec;simp only at Ci HX _b HC;clear CC tN hM sP aS eB jY hpq jm hfi x0 x1 x2 ec hR hq hr SD hp oA oe zcR vD;unfold FQ.val at HC _b⊢;go_enter func98,ntmps98;go_wp2_with (rw[<-Ci.o];go_at_call 165;refine HC.o.mono ?_;rintro e w4 ⟨⟨v1,v2,rfl,h1,h2⟩,aY⟩;obtain⟨a1,k1,rfl⟩:=h1.slice;obtain⟨a2,k2,rfl⟩:=h2.slice;simp only[]at h1 h2⊢;have H4:=bS h1 h2 aY;rw[<-HN.o.1,<-HN.o.2.1];clear h1 h2 aY);go_loopw [10,27] (fun v i wr=>∃(k:Nat)(cur:Fm)(ins:List aj)(c:FQ),k<=n1/\i=.int .i64 k/\Kp M w4 wr/\wr.heap[w.heap.size+1]?=some (.cells #[.int .u8 c.o,.string c.n,.slice c.a c.l c.c,.slice c.b c.m c.e] 36 (0,0))/\aC (fun b=>b<w.heap.size/\¬M b/\ok b) wr c.val cur/\cJ cur/\fK w4.heap.size wr v ins.reverse/\ins.length<=k/\ls im p []=ls cur (p.drop k) ins) (fun _ i _=>n1-(intOf i).toNat)
 case atStart=>exact⟨0,im,[],⟨r0,r1,r2,r3,r4,r5,r6,r7⟩,bn _,rfl,Kp.refl _,(H4.o.2.2.block _ (by have:=HM.o.2.1;omega)).trans HX.o.2.1,(_b.o.1.later HM.o.2.2).later (H4.o.2.2.mono (by have:=HM.o.2.1;omega)),_b.o.2,fK.nil _ _,bn _,by simp⟩
 case round=>
  obtain⟨k,cur,ins,c,hk,rfl,bD,Bo,hcv,hfc,aE,Rd,MU⟩:=hrel
  by_cases hlt:k<n1
  ·have FO:=cG HN.o.1 hlt;have jd:p≠[]:=fun h=>by rw[h]at FO;simp at FO
   obtain⟨b,off,rfl,hcs⟩:=H4.o.1.get jd;have xV:b≠w.heap.size+1:=H4.o.1.apart rfl jd ((H4.o.2.2.block _ (by have:=HM.o.2.1;omega)).trans HX.o.2.1);have ci:wr.cell? ⟨b,off+k,none⟩=some (.int .i64 (p[k]:Nat)):=bD.cell (by rw[HM.o.1];exact xV) (hcs k FO);have⟨i0,sB⟩:=az (p[k]);rw[<-sB]at ci;obtain⟨co,cn,cas,nY⟩:=cur;rw[iL FO,NU,<-sB]at MU;have qm2:=();exact qeU
  ·obtain rfl:k=n1:=by omega
   have hdn:p.drop k=[]:=by rw[HN.o.1];exact List.drop_length
   rw[hdn]at MU;obtain⟨co,cn,cas,nY⟩:=cur;exact qeU
def T4(ok:Nat->Prop)(PF:Fm->Prop)(W:World)(v:Value)(t:Fm):Prop:=∃q:FQ,v=q.val/\aC ok W q.val t/\PF t
def PJ(ok:Nat->Prop)(PT:Tm->Prop)(W:World)(v:Value)(t:Tm):Prop:=∃q:TQ,v=q.val/\aN ok W q.val t/\PT t
structure ly(ok:Nat->Prop)(PF:Fm->Prop)(PT:Tm->Prop)(W:World)(kb mF mT nF nT:Nat)(k:Bd):Prop where
 box:W.heap[kb]?=some (.cells #[.map (some mF),.map (some mT)] 148 (0,0))
 fs:ms prog 9 (T4 ok PF W) W mF nF k.fs
 ts:ms prog 9 (PJ ok PT W) W mT nT k.ts
 ne1:mF≠mT
 ne2:kb≠mF
 ne3:kb≠mT
theorem ly.move{ok':Nat->Prop}(h:ly ok PF PT W kb mF mT nF nT k)(hb:iN ok ok' W W')(h1:W'.heap[kb]?=W.heap[kb]?)(h2:W'.heap[mF]?=W.heap[mF]?)(h3:W'.heap[mT]?=W.heap[mT]?):ly ok' PF PT W' kb mF mT nF nT k:=
 ⟨h1.trans h.box,h.fs.move h2 (fun _ _ _ _ ⟨q,e,hv,hp⟩=>⟨q,e,hv.move hb,hp⟩),h.ts.move h3 (fun _ _ _ _ ⟨q,e,hv,hp⟩=>⟨q,e,hv.move hb,hp⟩),h.ne1,h.ne2,h.ne3⟩
theorem ly.ltb(h:ly ok PF PT W kb mF mT nF nT k):kb<W.heap.size:=(bQ h.box)
theorem ly.later(h:ly ok PF PT W kb mF mT nF nT k)(hb:Below W.heap.size W W'):ly ok PF PT W' kb mF mT nF nT k:=
 h.move (dT hb) (hb.block _ h.ltb) (hb.block _ h.fs.lt) (hb.block _ h.ts.lt)
theorem ly.storeF(h:ly ok PF PT W kb mF mT nF nT k)(hok:¬ok mF)(hn:nF<4000000)(hx:x.length<=2000000){q:FQ}(hq:aC ok W q.val t)(hp:PF t){l':List (aj×Fm)}(hl:∀y,bG l' y=if y=x then some t else bG k.fs y):
  ∃w',(Instr.mapUpdate 145 (.map (some mF)) (.string ⟨x.toArray⟩) q.val).run prog W=.ok () w'/\ly ok PF PT w' kb mF mT (nF+1) nT ⟨l',k.ts⟩/\Kp (fun b=>b=mF) W w'/\w'.heap.size=W.heap.size:=by
 obtain⟨w',hr,hm,hg,hs⟩:=h.fs.store underlying9 underlying145 hn hx (v:=q.val) (a:=t) (l':=l') (V':=T4 ok PF W) ⟨q,rfl,hq,hp⟩ (fun _ _ _ _ _ h=>h) hl;have kp:Kp (fun b=>b=mF) W w':=Kp.grown hg rfl;have an:=();exact qeV
theorem ly.storeT(h:ly ok PF PT W kb mF mT nF nT k)(hok:¬ok mT)(hn:nT<4000000)(hx:x.length<=2000000){q:TQ}{t:Tm}(hq:aN ok W q.val t)(hp:PT t){l':List (aj×Tm)}(hl:∀y,bG l' y=if y=x then some t else bG k.ts y):
  ∃w',(Instr.mapUpdate 146 (.map (some mT)) (.string ⟨x.toArray⟩) q.val).run prog W=.ok () w'/\ly ok PF PT w' kb mF mT nF (nT+1) ⟨k.fs,l'⟩/\Kp (fun b=>b=mT) W w'/\w'.heap.size=W.heap.size:=by
 obtain⟨w',hr,hm,hg,hs⟩:=h.ts.store underlying9 underlying146 hn hx (v:=q.val) (a:=t) (l':=l') (V':=PJ ok PT W) ⟨q,rfl,hq,hp⟩ (fun _ _ _ _ _ h=>h) hl;have kp:Kp (fun b=>b=mT) W w':=Kp.grown hg rfl;exact qeV
theorem Ai{α:Type}{l:List (aj×α)}(hd:(l.map (·.1)).Nodup){k:Nat}(hk:k<l.length)(y:aj):bG (l.take (k+1)) y=if y=l[k].1 then some l[k].2 else bG (l.take k) y:=by
 rw[List.take_add_one,jn hk];have zff:∀(a:List (aj×α))(x:aj×α),bG (a++[x]) y=match bG a y with|some v=>some v|none=>if x.1=y then some x.2 else none:=by
  intro a x
  induction a with
  |nil=>obtain⟨x1,x2⟩:=x;simp[bG]
  |cons z a ih=>
   obtain⟨z1,z2⟩:=z;simp only[lL,bG]
   by_cases hz:(z1==y)=true
   ·simp[hz]
   ·simp only[hz];simpa using ih
 show bG (l.take k++[l[k]]) y=_;rw[zff]
 by_cases hy:y=l[k].1
 ·have hn:bG (l.take k) y=none:=by
   rw[jy];intro hm;rw[hy]at hm;have h2:l.map (·.1)=(l.take k).map (·.1)++l[k].1::(l.drop (k+1)).map (·.1):=by
    have h3:l=l.take k++l[k]::l.drop (k+1):=by rw[<-iL hk];exact(List.take_append_drop k l).symm
    have h4:=congrArg (List.map (·.1)) h3;rw[List.map_append,cM]at h4;exact h4
   rw[h2]at hd;exact(List.nodup_append.1 hd).2.2 _ hm _ (by simp) rfl
  rw[hn,aG hy,aG hy.symm]
 ·rw[aw hy,aw (fun h=>hy h.symm)];cases bG (l.take k) y<;>rfl
end
section
attribute [local go_sem] Oper.semAt_some
attribute [local go_sem] run_makeMap
theorem Lm(b:Bd)(hF:b.fs.length<=1000000)(hT:b.ts.length<=1000000)(vh:∀x∈b.fs,x.1.length<=2000000)(tC:∀x∈b.ts,x.1.length<=2000000)(hdF:(b.fs.map (·.1)).Nodup)(hdT:(b.ts.map (·.1)).Nodup)(PF:Fm->Prop)(PT:Tm->Prop)(hPF:∀x∈b.fs,PF x.2)(_g:∀x∈b.ts,PT x.2)(ok:Nat->Prop)(w:World)(q:BQ)(hq:fH ok w q b):
  Calls prog 46 #[q.val] w fun e w'=>e=.returned (.pointer (some ⟨w.heap.size+1+1+1,0,none⟩))/\ly (fun b=>b<w.heap.size) PF PT w' (w.heap.size+1+1+1) (w.heap.size+1) (w.heap.size+1+1) b.fs.length b.ts.length b/\Below w.heap.size w w':=by
 have hq:=hq.move (ok':=fun b=>b<w.heap.size) (fun b _ hlt=>⟨hlt,rfl⟩);have qm4:=();exact qeW
