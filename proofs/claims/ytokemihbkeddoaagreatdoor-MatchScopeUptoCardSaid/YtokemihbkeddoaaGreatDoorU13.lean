/-
Contracts of 'count','Nodes' of package syntax,and of match's 'termNodes'.
Contracts of the makers of terms and formulas in lyceumlaw07.
The contract of 'PutTerm' of package subst at one name.
Plain facts for the walk of 'put': names stay short.
'visitTerm' of package subst with the function value that 'visitForm' hands to it.
The map of bound names: how often each is bound.
'visitForm','freeNames' of package subst: the iterator of a formula's free variables.
-/
import Derived.Test.YtokemihbkeddoaaGreatDoorU00
import Derived.Test.YtokemihbkeddoaaGreatDoorU06
import Derived.Test.YtokemihbkeddoaaGreatDoorU07
import Derived.Shelf.Abstract
import Derived.Test.YtokemihbkeddoaaGreatDoorU10
import Derived.Test.YtokemihbkeddoaaGreatDoorU08
import Derived.Test.YtokemihbkeddoaaGreatDoorU02
import Derived.Defers
namespace Go.Proofs.YtokemihbkeddoaaGreatDoor
open Go Go.RowKit Lib
set_option maxRecDepth 100000
set_option maxHeartbeats 64000000
section
attribute [local go_sem] Oper.semAt_some
mutual
theorem AX:∀ f:Fm,fitF f->∀ x∈jB f,fitF x
 | .mk o n a s,h,x,hx=>by
  unfold jB at hx
  rcases List.mem_cons.1 hx with rfl | hx
  ·exact h
  ·exact xZ s h.subs x hx
theorem xZ:∀ l:List Fm,fitFs l->∀ x∈dn l,fitF x
 | [],_,x,hx=>by simp[dn]at hx
 | t :: l,h,x,hx=>by
  unfold dn at hx
  rcases List.mem_append.1 hx with hx | hx
  ·exact AX t (h.mem (by simp)) x hx
  ·exact xZ l ⟨Nat.le_trans (by simp[ah]) h.1,ov.2 (fun u hu=>ov.1 h.2 u (by simp[hu]))⟩ x hx
end
theorem Mq (q:FQ) (w:World) :
  Calls Tryz.prog 86 #[q.val] w fun e w'=>e=.returned (.func (.func 150) #[] #[.pointer (some ⟨w.heap.size,0,none⟩)])/\w'=w.alloc (.cells #[.int .u8 q.o,.string q.n,.slice q.a q.l q.c,.slice q.b q.m q.e] 36):=by
 obtain ⟨o,n,a,l,c,b,m,e⟩:=q
 unfold FQ.val
 go_enter Tryz.func86,Tryz.ntmps86
 go_wp2
 go_ret
 exact ⟨rfl,rfl⟩
theorem Mr (f:Fm) (aD:fitF f) (M:Nat->Prop) (B X:Nat) (w:World) (q:FQ) (hX:w.heap[X]?=some (.cells #[.int .u8 q.o,.string q.n,.slice q.a q.l q.c,.slice q.b q.m q.e] 36 (0,0))) (FP:¬M X) (hq:FormV (fun b=>b<B/\¬M b) w q.val f) :
  Gb M False Tryz.prog 150 #[.pointer (some ⟨X,0,none⟩)] (jB f) (Q9 M B) w:=by
 have pp232b:=();exact pm232
theorem J5 (f:Fm) (aD:fitF f) (ok:Nat->Prop) (w:World) (q:FQ) (hq:FormV ok w q.val f) :
  Calls Tryz.prog 167 #[q.val,.int .i64 9223372036854775807] w fun e w'=>e=.returned (.int .i64 (nodesF f))/\Below w.heap.size w w':=by
 have hq:=hq.lt
 have zcB:=aD.1
 obtain ⟨mW,HQ⟩:=aS aD hq
 clear aD hq
 refine (callsIn_wide (n:=3)).1 ?_
 refine callsIn_of_wp_marks Tryz.func167 rfl trivial ?_ rfl
 simp only[Tryz.ntmps167,List.size_toArray,List.length_cons,List.length_nil,Nat.reduceAdd,Nat.reduceSub,Array.replicate_succ,Array.replicate_zero,List.push_toArray,List.append_toArray,List.nil_append,List.cons_append]
 have jb:∀ f,Fence.wide.fn f:=fun _=>trivial
 unfold FQ.val
 gi_wp2_with (gi_at_call 86;refine callsIn_wide.2 ((Mq q _).mono ?_);rintro e w' ⟨rfl,rfl⟩)
 obtain ⟨w1,vP⟩:=ao ((((w.alloc (.cells #[.int .u8 q.o,.string q.n,.slice q.a q.l q.c,.slice q.b q.m q.e] 36)).alloc (.cells #[.int .i64 9223372036854775807] 3)).alloc (.cells #[.int .i64 0] 3)).alloc (.cells #[.int .u8 q.o,.string q.n,.slice q.a q.l q.c,.slice q.b q.m q.e] 36))
 have hb1:=OZ vP
 have jS:=Sq vP
 have xL:NAt (w.heap.size+1) 9223372036854775807 w1:=by rw[vP];exact (Below.heap_alloc _ _ _ (by simp)).trans ((Below.heap_alloc _ _ _ (by simp)).trans (aj (by simp)))
 have xN:NAt (w.heap.size+1+1) 0 w1:=by rw[vP];exact (Below.heap_alloc _ _ _ (by simp)).trans (aj (by simp))
 have xX:=LA vP
 rw[<-vP]
 clear vP
 have hq1:FormV (fun b=>b<w1.heap.size/\¬(b=w.heap.size+1+1)) w1 q.val f:=(HQ.o.later hb1).move (fun b hb hlt=>⟨⟨hlt,by omega⟩,rfl⟩)
 have mR:=Mr f mW.o (fun b=>b=w.heap.size+1+1) w1.heap.size (w.heap.size+1+1+1) w1 q xX (by omega) hq1
 obtain ⟨zaE,dG,OI,HL,HN⟩:=vD mR hb1 jS xL xN
 have hNl:w.heap.size+1+1<w1.heap.size:=by omega
 have WT:=ab hNl
 clear mR hb1 jS xL xN xX hq1 hNl
 have eg:∀ args W,(callFunc 150 args).run Tryz.prog W=.ok (.enter 150 args) W:=enters_of Tryz.func150 (by kernel_rfl) rfl
 refine fE rfl eg (fun b hb=>by subst hb;exact WT.o) zaE.o (fun _ _ _ h=>by obtain ⟨v,rfl,_⟩:=h;rfl)
  (fun pre X=>NAt (w.heap.size+1+1) (nO pre) X/\Kp (fun b=>b=w.heap.size+1+1) w1 X) (fun _ _ _=>False) (fun s=>?hI) (fun _ _ _ _ _ h=>h.elim) ⟨by simpa[nO] using HN.o,Kp.refl _⟩ ?round ?done (fun _ _ _ _ h=>h.elim)
 case hI=>
  rintro X Y hn ⟨h1,h2⟩
  exact ⟨(hn.old WT.o (bl h1)).trans h1,hn.os.trans h2.os,hn.tape.trans h2.tape,hn.output.trans h2.output,Nat.le_trans h2.size hn.size,fun b hb hm=>(hn.old hb (Nat.lt_of_lt_of_le hb h2.size)).trans (h2.same b hb hm)⟩
 case done=>
  rintro D X hD ⟨hn,aZ⟩ _ hd
  rw[qC]at hn
  have c0:=hn.c0
  obtain ⟨HK,HD⟩:=aS aZ hd
  clear hn aZ hd
  gi_wp2
  refine ⟨by simp,.inl ⟨_,_,rfl,run_takeDeferred HD.o,?_⟩⟩
  refine ⟨.int .i64 (nodesF f),by simp[results,Tryz.results167,go_sem],rfl,?_⟩
  have hk:=BL (.deferred none) HK.o hD
  exact pm179
 case round=>
  rintro l pre vs x W hl vQ ⟨hn,aZ⟩ ⟨u,rfl,hu⟩ _ cV
  obtain ⟨HU,OG,HK,HLr,mw⟩:=vD hu hn aZ vQ cV
  clear hn aZ hu vQ cV
  unfold FQ.val
  gi_wp2
  have hB:Below W.heap.size W (W.alloc (.cells #[.int .u8 u.o,.string u.n,.slice u.a u.l u.c,.slice u.b u.m u.e] 36)):=ct
  refine ⟨Kp.below hB,⟨OG.o.later hB,HK.o.trans (Kp.below hB)⟩,fun W2 fT lH gX=>?_⟩
  have zH:W2.heap[W.heap.size]?=some (.cells #[.int .u8 u.o,.string u.n,.slice u.a u.l u.c,.slice u.b u.m u.e] 36 (0,0)):=(fT.same _ (by obtain ⟨r,hr⟩:=HLr.o;have:=(bl hr);omega)).trans (aj rfl)
  have vY:FormV (fun b=>b<w1.heap.size/\¬(b=w.heap.size+1+1)) W2 u.val x:=((HU.o.later hB).move (ok':=fun b=>b<w1.heap.size/\¬(b=w.heap.size+1+1)) (fun b hb hlt=>⟨hb,fT.same b (by omega)⟩))
  have hL2:NAt (w.heap.size+1) 9223372036854775807 W2:=HL.o.kp gX (by omega)
  have hf:=AX f mW.o x (mw.o.subset (by simp))
  have nM:=O7 mw.o
  rw[qC,lS]at nM
  obtain ⟨⟨xo,xn,xa,xs⟩,hx⟩:∃y,x=y:=⟨_,rfl⟩
  have aC:nO (pre ++ [x])=nO pre+(1+ac xa):=by rw[lS,hx];simp[nO,Fm.a]
  have WU:nO [x]=1+ac xa:=by rw[hx];simp[nO,Fm.a]
  rw[WU]at nM
  rw[hx]at vY hf
  obtain ⟨uo,un,ua,ul,uc,ub,um,ue⟩:=u
  obtain ⟨va,vs2,OJ,ej,xG⟩:=aQ.1 vY
  simp only[FQ.val,Value.agg.injEq,Array.mk.injEq,List.cons.injEq,and_true,Value.int.injEq,true_and,Value.string.injEq]at OJ
  obtain ⟨rfl,rfl,rfl,rfl⟩:=OJ
  obtain ⟨P,hP⟩:=ao (nO pre)
  obtain ⟨m,hm⟩:=ao (ac xa)
  rw[<-hP]at lH
  have Rk:nO (pre ++ [x])=P+(1+m):=by rw[aC,hP,hm]
  have vZ:P+(1+m)<=2000000:=by rw[hP,hm];omega
  have aY:w1.heap.size<=W2.heap.size:=gX.size
  have CC:=fun (W3:World) (h:Kp (fun b=>b=w.heap.size+1+1) W2 W3) (hN:NAt (w.heap.size+1+1) (P+1) W3)=>wX xa (w.heap.size+1+1) (w.heap.size+1) (fun b=>b<w1.heap.size/\¬(b=w.heap.size+1+1)) (P+1) W3 ua ul uc (by omega) hf.args (ej.move (fun b hb hlt=>⟨hb,h.same b hlt hb.2⟩)) (fun b hb=>hb.2) hN (hL2.kp h (by omega)) (by omega) (by omega)
  rw[<-hm]at CC
  have C3:=CC (W2.setCell ⟨w.heap.size+1+1,0,none⟩ (.int .i64 (P+1))) (mZ _) (lH.set _)
  have HC3:=ab C3
  have cN:=lH.c0
  have cL:=hL2.c0
  have cx2:W2.cell? ⟨W.heap.size,2,none⟩=some (.slice ua ul uc):=ai zH 2
  have zN:=ae lH 0
  have zcC:¬w.heap.size+1=w.heap.size+1+1:=by omega
  have zcD:¬W.heap.size=w.heap.size+1+1:=by have:=HK.o.size;have:=OI.o;omega
  obtain ⟨HL2,Wy,HO,HE2⟩:=eA hL2 gX Rk vZ
  clear C3 CC lH hL2 ej xG vY hf hx aC WU nM zH hP hm Rk gX
  have zas:decide ((9223372036854775807:Int)<(P:Int)+1+(m:Int))=false:=by simp;have:=HE2.o;omega
  have WV:∀ f,(Fence.wide.inRound l).fn f:=fun _=>trivial
  gi_wp2_with (gi_at_call 230;refine CallsIn.inRound l (callsIn_wide.2 (HC3.o.mono ?_));rintro e w4 ⟨rfl,ku,FT⟩;have c4:=FT.c0;have l4:=(HL2.o.kp ((mZ _).trans ku) (by omega)).c0;have WW:=ab ku;have HN4:=ab FT;clear ku FT)
  refine ⟨(mZ _).trans WW.o,?_,Wy.o.trans ((mZ _).trans WW.o)⟩
  rw[HO.o,show ((P+(1+m):Nat):Int)=(P:Int)+1+(m:Int) by omega]
  exact HN4.o
theorem jF (f:Fm) (aD:fitF f) (ok:Nat->Prop) (w:World) (q:FQ) (hq:FormV ok w q.val f) :
  Calls Tryz.prog 99 #[q.val] w fun e w'=>e=.returned (.int .i64 (nodesF f))/\Below w.heap.size w w':=by
 have hb1:Below w.heap.size w (w.alloc (.cells #[.int .u8 q.o,.string q.n,.slice q.a q.l q.c,.slice q.b q.m q.e] 36)):=ct
 have C1:=J5 f aD ok _ q (hq.later hb1)
 obtain ⟨HB,HC⟩:=aS hb1 C1
 clear hb1 C1 hq
 unfold FQ.val at HC ⊢
 go_enter Tryz.func99,Tryz.ntmps99
 go_wp2_with (go_at_call 167;refine HC.o.mono ?_;rintro e w2 ⟨rfl,bA⟩)
 go_ret
 exact ⟨rfl,HB.o.trans (bA.mono (by simp))⟩
theorem TermsV.one {ok:Nat->Prop} {W:World} {b:Nat} {q:TQ} {t:Tm} {T:TypeId} {fr:Nat×Nat} (c:Nat) (ht:TermV ok W q.val t) (hb:ok b) (gJ:W.heap[b]?=some (.cells #[.bool q.v,.string q.n,.slice q.a q.l q.c] T fr)) :
  TermsV ok W (.slice (some ⟨b,0,none⟩) 1 c) [t]:=by
 refine ⟨_,c,fun _=>q.val,rfl,.inr ⟨b,0,rfl,hb,fun j hj=>?_⟩,fun j hj=>?_⟩
 ·simp at hj;subst hj
  exact ⟨_,_,_,rfl,ai gJ 0,ai gJ 1,ai gJ 2⟩
 ·simp at hj;subst hj;exact ht
theorem FormsV.zero (ok:Nat->Prop) (W:World):FormsV ok W (.slice none 0 0) []:=⟨none,0,fun _=>.bool true,rfl,.inl rfl,fun j h=>by simp at h⟩
theorem jO (t:Tm) (aD:fitT t) (hn:nodesT t<2000000) (ok:Nat->Prop) (w:World) (q:TQ) (hq:TermV ok w q.val t) :
  Calls Tryz.prog 100 #[q.val] w fun e w'=>e=.returned (.int .i64 (nodesT t))/\Below w.heap.size w w':=by
 have hb1:Below w.heap.size w (w.alloc (.cells #[.bool q.v,.string q.n,.slice q.a q.l q.c] 43)):=ct
 have bA:Below w.heap.size w ((w.alloc (.cells #[.bool q.v,.string q.n,.slice q.a q.l q.c] 43)).alloc (.cells #[.bool q.v,.string q.n,.slice q.a q.l q.c] 43)):=hb1.alloc (by simp) _
 have hr:((w.alloc (.cells #[.bool q.v,.string q.n,.slice q.a q.l q.c] 43)).alloc (.cells #[.bool q.v,.string q.n,.slice q.a q.l q.c] 43)).heap[w.heap.size+1]?=some (.cells #[.bool q.v,.string q.n,.slice q.a q.l q.c] 43 (0,0)):=aj (by simp)
 have hf:fitF (.mk 0 [] [t] []):=⟨by have:=aD.1;simp[nodesF,ac,ah];omega,by have:=aD.2;simp[ks,dF,fd,this]⟩
 have hv:FormV (fun _=>True) ((w.alloc (.cells #[.bool q.v,.string q.n,.slice q.a q.l q.c] 43)).alloc (.cells #[.bool q.v,.string q.n,.slice q.a q.l q.c] 43)) (FQ.val ⟨0,⟨#[]⟩,some ⟨w.heap.size+1,0,none⟩,1,1,none,0,0⟩) (.mk 0 [] [t] []):=
  aQ.2 ⟨_,_,rfl,TermsV.one 1 ((hq.later bA).move (fun b _ _=>⟨trivial,rfl⟩)) trivial hr,FormsV.zero _ _⟩
 have C1:=jF _ hf _ _ _ hv
 have nN:nodesF (.mk 0 [] [t] [])=nodesT t+1:=by simp[nodesF,ac,ah];try omega
 rw[nN]at C1
 obtain ⟨HB,HC,HN⟩:=cf bA C1 hn
 clear hb1 bA hr hf hv C1 hq aD nN hn
 unfold TQ.val
 unfold FQ.val at HC
 go_enter Tryz.func100,Tryz.ntmps100
 go_wp2_with (go_at_call 99;refine HC.o.mono ?_;rintro e w2 ⟨rfl,bA⟩;have bZ:=ab bA;clear bA)
 have Vp:wrap64 ((nodesT t:Int))=(nodesT t:Int):=Go.IntWalk.wrap64_in _ (by have:=HN.o;omega)
 simp only[Vp]
 go_ret
 exact ⟨rfl,HB.o.trans (bZ.o.mono (by simp;omega))⟩
theorem GT (s:ByteArray) (w:World) :
  Calls Tryz.prog 30 #[.string s] w fun e w'=>e=.returned (.agg #[.bool true,.string s,.slice none 0 0])/\Below w.heap.size w w':=by
 go_enter Tryz.func30,Tryz.ntmps30
 go_wp2
 refine bodyPost_ret (v:=.agg #[.bool true,.string s,.slice none 0 0]) (by simp[results,Tryz.results30,go_sem]) rfl ⟨rfl,?_⟩
 exact ct
theorem Ms (s:ByteArray) (a:Option Addr) (l c:Nat) (w:World) :
  Calls Tryz.prog 31 #[.string s,.slice a l c] w fun e w'=>e=.returned (.agg #[.bool false,.string s,.slice a l c])/\Below w.heap.size w w':=by
 go_enter Tryz.func31,Tryz.ntmps31
 go_wp2
 refine bodyPost_ret (v:=.agg #[.bool false,.string s,.slice a l c]) (by simp[results,Tryz.results31,go_sem]) rfl ⟨rfl,?_⟩
 exact ct
theorem Mt (s:ByteArray) (a:Option Addr) (l c:Nat) (w:World) :
  Calls Tryz.prog 24 #[.string s,.slice a l c] w fun e w'=>e=.returned (.agg #[.int .u8 1,.string s,.slice a l c,.slice none 0 0])/\Below w.heap.size w w':=by
 go_enter Tryz.func24,Tryz.ntmps24
 go_wp2
 refine bodyPost_ret (v:=.agg #[.int .u8 1,.string s,.slice a l c,.slice none 0 0]) (by simp[results,Tryz.results24,go_sem]) rfl ⟨rfl,?_⟩
 exact ct
theorem IW (o:Int) (s:ByteArray) (a:Option Addr) (l c:Nat) (w:World) :
  Calls Tryz.prog 28 #[.int .u8 o,.string s,.slice a l c] w fun e w'=>e=.returned (.agg #[.int .u8 o,.string s,.slice none 0 0,.slice a l c])/\Below w.heap.size w w':=by
 go_enter Tryz.func28,Tryz.ntmps28
 go_wp2
 refine bodyPost_ret (v:=.agg #[.int .u8 o,.string s,.slice none 0 0,.slice a l c]) (by simp[results,Tryz.results28,go_sem]) rfl ⟨rfl,?_⟩
 exact ct
theorem S3 (s:ByteArray) (w:World) :
  Calls Tryz.prog 29 #[.string s] w fun e w'=>e=.returned (.agg #[.int .u8 15,.string s,.slice none 0 0,.slice none 0 0])/\Below w.heap.size w w':=by
 go_enter Tryz.func29,Tryz.ntmps29
 go_wp2
 refine bodyPost_ret (v:=.agg #[.int .u8 15,.string s,.slice none 0 0,.slice none 0 0]) (by simp[results,Tryz.results29,go_sem]) rfl ⟨rfl,?_⟩
 exact ct
theorem xW {X:World} {B:Nat} {c0 c1 c2 c3:Value} {T:TypeId} (hx:X.heap[B]?=some (.cells #[c0,c1,c2,c3] T (0,0))) (v0 v1 v2 v3:Value):∃W6,W6=(((X.setCell ⟨B,0,none⟩ v0).setCell ⟨B,1,none⟩ v1).setCell ⟨B,2,none⟩ v2).setCell ⟨B,3,none⟩ v3/\W6.heap[B]?=some (.cells #[v0,v1,v2,v3] T (0,0))/\Kp (fun b=>b=B) X W6/\(W6.cell? ⟨B,0,none⟩=some v0/\W6.cell? ⟨B,1,none⟩=some v1/\W6.cell? ⟨B,2,none⟩=some v2/\W6.cell? ⟨B,3,none⟩=some v3):=by
 have h0:=aV (F:=0) hx v0
 have h1:=aV (F:=1) h0 v1
 have h2:=aV (F:=2) h1 v2
 have h3:=(aV (F:=3) h2 v3).trans rfl
 exact ⟨_,rfl,h3,⟨rfl,rfl,rfl,by simp,fun c _ hc=>(Below.heap_setCell _ _ _ _ (by simpa using hc)).trans ((Below.heap_setCell _ _ _ _ (by simpa using hc)).trans ((Below.heap_setCell _ _ _ _ (by simpa using hc)).trans (Below.heap_setCell _ _ _ _ (by simpa using hc))))⟩,ai h3 0,ai h3 1,ai h3 2,ai h3 3⟩
theorem J6 (s x t:ByteArray) (w:World) :
  Calls Tryz.prog 35 #[.string s,.string x,.string t] w fun e w'=>(∃k c,e=.returned (.agg #[.int .u8 16,.string s,.slice (some ⟨k,0,none⟩) 2 c,.slice none 0 0])/\w.heap.size<=k/\∃T,w'.heap[k]?=some (.cells #[.bool true,.string x,.slice none 0 0,.bool true,.string t,.slice none 0 0] T (0,0)))/\Below w.heap.size w w':=by
 go_enter Tryz.func35,Tryz.ntmps35
 go_wp2_with fail
 refine (GT _ _).mono ?_
 rintro e w1 ⟨rfl,hb1⟩
 go_wp2_with fail
 refine (GT _ _).mono ?_
 rintro e w2 ⟨rfl,bA⟩
 have x0:(w.alloc (.cells #[.int .u8 0,.string ⟨#[]⟩,.slice none 0 0,.slice none 0 0] 36)).heap[w.heap.size]?=some (.cells #[.int .u8 0,.string ⟨#[]⟩,.slice none 0 0,.slice none 0 0] 36 (0,0)):=aj rfl
 have hb:Below (w.alloc (.cells #[.int .u8 0,.string ⟨#[]⟩,.slice none 0 0,.slice none 0 0] 36)).heap.size (w.alloc (.cells #[.int .u8 0,.string ⟨#[]⟩,.slice none 0 0,.slice none 0 0] 36)) w2:=hb1.trans (bA.mono hb1.size)
 have x2:=bC hb x0
 have hsz:w.heap.size<w2.heap.size:=(bl x2)
 obtain ⟨W3,cZ⟩:=ao (w2.alloc (.cells #[.bool true,.string x,.slice none 0 0,.bool true,.string t,.slice none 0 0] 43))
 have x3:W3.heap[w.heap.size]?=some (.cells #[.int .u8 0,.string ⟨#[]⟩,.slice none 0 0,.slice none 0 0] 36 (0,0)):=by rw[cZ];exact (Below.heap_alloc _ _ _ hsz).trans x2
 have y3:=bN cZ
 have aJ:Below w.heap.size w W3:=by rw[cZ];exact ((((Below.refl w.heap.size w).alloc (Nat.le_refl _) _).trans (hb.mono (by simp)))).alloc (by omega) _
 obtain ⟨c0,c1,c2,c3⟩:=lF x3
 have z0:=ae x3 0
 have z1:=ae x3 1
 have z2:=ae x3 2
 have z3:=ae x3 3
 obtain ⟨W4,uy,x4,k4,g0⟩:=xW x3 (.int .u8 16) (.string s) (.slice (some ⟨w2.heap.size,0,none⟩) 2 2) (.slice none 0 0)
 rw[cZ]at c0 c1 c2 c3 z0 z1 z2 z3
 have H:=ab (OX cZ uy g0 k4 aJ y3 hsz)
 clear hb1 bA x0 hb x2 x3 y3 aJ x4 k4 g0 cZ uy hsz
 go_wp2_with fail
 rw[<-H.o.1,<-H.o.2.1]
 obtain ⟨g0,g1,g2,g3⟩:=H.o.2.2.1
 have hk:=H.o.2.2.2.1
 have aJ:=H.o.2.2.2.2.1
 have hlt:=H.o.2.2.2.2.2.2
 refine bodyPost_ret (v:=.agg #[.int .u8 16,.string s,.slice (some ⟨w2.heap.size,0,none⟩) 2 2,.slice none 0 0]) (by simp[results,Tryz.results35,go_sem,g0,g1,g2,g3]) rfl ⟨⟨_,_,rfl,by omega,_,(hk.same _ (bl H.o.2.2.2.2.2.1) (by omega)).trans H.o.2.2.2.2.2.1⟩,?_⟩
 exact ⟨hk.os.trans aJ.os,hk.tape.trans aJ.tape,hk.output.trans aJ.output,Nat.le_trans aJ.size hk.size,fun b hb=>(hk.same b (Nat.lt_of_lt_of_le hb aJ.size) (by omega)).trans (aJ.block b hb)⟩
end
section
attribute [local go_sem] Oper.semAt_some run_makeMap
structure PutI (t:Value×Value×Value) (x:Str) (u:Tm) (w:World) (k:Nat) (wr:World):Prop where
 below:Below w.heap.size w wr
 b0:wr.heap[w.heap.size]?=some (.cells #[t.1,t.2.1,t.2.2] 43 (0,0))
 b1:wr.heap[w.heap.size+1]?=some (.cells #[.bool false,.string ⟨#[]⟩,.slice none 0 0] 43 (0,0))
 b3:wr.heap[w.heap.size+3]?=some (.cells #[.map (some (w.heap.size+2))] 146 (0,0))
 mp:MapV Tryz.prog 9 (TermIn w) wr (w.heap.size+2) k (if k=0 then [] else [(x,u)])
theorem PutI.later {t:Value×Value×Value} {x:Str} {u:Tm} {w wr w':World} {k:Nat} (h:PutI t x u w k wr) (hb:Below wr.heap.size wr w'):PutI t x u w k w':=
 ⟨h.below.tr hb,bC hb h.b0,bC hb h.b1,bC hb h.b3,h.mp.move (hb.block _ h.mp.lt) (fun _ _ _ _ h=>h)⟩
theorem Ex (t:Tm) (aD:fitT t) (x:Str) (hx:x.length<=2000000) (u:Tm) (hfu:fitT u) (ok J7:Nat->Prop) (w:World) (q uq:TQ) (b off c:Nat) (hq:TermV ok w q.val t) (hu:TermV J7 w uq.val u)
  (c0:w.cell? ⟨b,off,none⟩=some (.string ⟨x.toArray⟩)) (c1:w.cell? ⟨b,off+1,none⟩=some (.bool uq.v)) (c2:w.cell? ⟨b,off+2,none⟩=some (.string uq.n)) (c3:w.cell? ⟨b,off+3,none⟩=some (.slice uq.a uq.l uq.c)) :
  Calls Tryz.prog 168 #[q.val,.slice (some ⟨b,off,none⟩) 1 c] w fun e w'=>(∃p:TQ,e=.returned p.val/\TermV (w.heap.size<=·) w' p.val (jQ x u t))/\Below w.heap.size w w':=by
 obtain ⟨qv,qn,qa,ql,qc⟩:=q
 obtain ⟨uv,un,ua,ul,uc⟩:=uq
 obtain ⟨W1,bQ⟩:=ao ((((w.alloc (.cells #[.bool qv,.string qn,.slice qa ql qc] 43)).alloc (.cells #[.bool false,.string ⟨#[]⟩,.slice none 0 0] 43)).alloc (.map #[] 0)).alloc (.cells #[.map (some (w.heap.size+2))] 146))
 have hI:PutI (.bool qv,.string qn,.slice qa ql qc) x u w 0 W1:=by
  rw[bQ]
  refine ⟨((ct.alloc (by simp) _).alloc (by simp;omega) _).alloc (by simp;omega) _,?_,?_,aj (by simp),?_⟩
  ·exact (Below.heap_alloc _ _ _ (by simp;omega)).trans ((Below.heap_alloc _ _ _ (by simp;omega)).trans ((Below.heap_alloc _ _ _ (by simp)).trans (aj rfl)))
  ·exact (Below.heap_alloc _ _ _ (by simp)).trans ((Below.heap_alloc _ _ _ (by simp)).trans (aj (by simp)))
  ·have h:=MapV.made (P:=Tryz.prog) (k:=9) (V:=TermIn w) ((w.alloc (.cells #[.bool qv,.string qn,.slice qa ql qc] 43)).alloc (.cells #[.bool false,.string ⟨#[]⟩,.slice none 0 0] 43))
   simp only[World.size_alloc]at h
   exact h.move (Below.heap_alloc _ _ _ (by simp)) (fun _ _ _ _ h=>h)
 obtain ⟨HI,lI,HQ,HU⟩:=eA hI bQ hq hu
 have HC:=ce c0 c1 c2 c3
 have mW:=aF aD hfu
 clear hI bQ hq hu c0 c1 c2 c3 aD hfu
 have hmf:∀ (fn:Fn) (first cap:Array Value) (w:World),(Instr.makeFunc fn first cap).run Tryz.prog w=.ok (.func fn first cap) w:=fun _ _ _ _=>rfl
 unfold TQ.val
 simp only
 go_enter Tryz.func168,Tryz.ntmps168
 go_wp2
 rw[<-lI.o]
 go_loopw [13] (fun i wr=>∃k:Nat,k<=1/\i=.int .i64 k/\PutI (.bool qv,.string qn,.slice qa ql qc) x u w k wr) (fun i _=>1 - (intOf i).toNat)
 case atStart=>exact ⟨0,by omega,rfl,HI.o⟩
 case round=>
  obtain ⟨k,hk,rfl,hI⟩:=hrel
  by_cases hlt:k<1
  ·obtain rfl:k=0:=by omega
   obtain ⟨d0,d1,d2,d3⟩:=lg hI.below HC.o.1 HC.o.2.1 HC.o.2.2.1 HC.o.2.2.2
   obtain ⟨A1,DF⟩:=ao (wr.alloc (.cells #[.string ⟨x.toArray⟩,.bool uv,.string un,.slice ua ul uc] 143))
   obtain ⟨A2,bY⟩:=ao (A1.alloc (.cells #[.bool false,.string ⟨#[]⟩,.slice none 0 0] 43))
   have b1:=cB DF
   have b2:=cB bY
   have hI1:=hI.later b1
   have hI2:=hI1.later b2
   have x1:=bN DF
   have o0:A1.cell? ⟨wr.heap.size,0,none⟩=some (.string ⟨x.toArray⟩):=ai x1 0
   have o1:A1.cell? ⟨wr.heap.size,1,none⟩=some (.bool uv):=ai x1 1
   have o2:A1.cell? ⟨wr.heap.size,2,none⟩=some (.string un):=ai x1 2
   have o3:A1.cell? ⟨wr.heap.size,3,none⟩=some (.slice ua ul uc):=ai x1 3
   obtain ⟨p0,p1,p2,p3⟩:=lg b2 o0 o1 o2 o3
   have m1:A1.cell? ⟨w.heap.size+3,0,none⟩=some (.map (some (w.heap.size+2))):=ai hI1.b3 0
   have m2:=aa b2 m1
   have hr:(Instr.lookup 146 (.map (some (w.heap.size+2))) (.string ⟨x.toArray⟩) true).run Tryz.prog A1=.ok (.tuple #[.agg #[.bool false,.string ⟨#[]⟩,.slice none 0 0],.bool false]) A1:=by
    rcases hI1.mp.look Tryz.underlying9 Tryz.underlying146 iG hx with ⟨_,hr⟩ | ⟨u',v,hs,_⟩
    ·exact (hr A1 rfl).1
    ·simp[getB]at hs
   obtain ⟨w4,cw,hm4,sT,uM⟩:=hI2.mp.store Tryz.underlying9 Tryz.underlying146 (by omega) hx (v:=.agg #[.bool uv,.string un,.slice ua ul uc]) (a:=u) (l':=[(x,u)]) (V':=TermIn w) ⟨⟨uv,un,ua,ul,uc⟩,rfl,HU.o.any⟩ (fun _ _ _ _ _ h=>h) (fun y=>by
    by_cases e:y=x
    ·subst e;simp[getB]
    ·have e2:¬x=y:=fun h=>e h.symm
     simp[getB,e,e2])
   have ku:∀ b,b<A2.heap.size->b≠w.heap.size+2->w4.heap[b]?=A2.heap[b]?:=fun b hb jt=>sT.block b hb (fun h=>by cases h;exact jt rfl)
   have hI4:PutI (.bool qv,.string qn,.slice qa ql qc) x u w 1 w4:=⟨⟨sT.os.trans hI2.below.os,sT.tape.trans hI2.below.tape,sT.output.trans hI2.below.output,by have:=hI2.below.size;omega,fun b hb=>(ku b (Nat.lt_of_lt_of_le hb hI2.below.size) (by omega)).trans (hI2.below.block b hb)⟩,
    (ku _ (bl hI2.b0) (by omega)).trans hI2.b0,(ku _ (bl hI2.b1) (by omega)).trans hI2.b1,(ku _ (bl hI2.b3) (by omega)).trans hI2.b3,by simpa using hm4⟩
   have HI4:=ab hI4
   rw[bY]at m2 p0 p1 p2 p3 cw
   rw[DF]at hr cw m1 m2 o0 o1 o2 o3 p0 p1 p2 p3
   clear hI hI1 hI2 hI4 hm4 sT uM ku x1 b1 b2 DF bY
   go_wp2
   go_roundw
   case rel=>exact ⟨1,by omega,by go_num,HI4.o⟩
   case measure=>simp[intOf]
  ·obtain rfl:k=1:=by omega
   have C:=xJ 232 #[.pointer (some ⟨w.heap.size+3,0,none⟩)] Eu _ wr (J1 w wr hI.below (w.heap.size+3) (w.heap.size+2) 1 [(x,u)] (ai hI.b3 0) (by simpa using hI.mp)) (fun n u' h=>by
    have fO:u=u':=by
     simp only[getB]at h
     split at h
     ·injection h
     ·cases h
    subst fO
    exact fun ok W q hq=>J0 _ mW.o.2 ok W q hq) t mW.o.1 ok wr ⟨qv,qn,qa,ql,qc⟩ (Below.refl _ _) (HQ.o.later hI.below)
   have J8:(fun n=>getB [(x,u)] n)=(fun n=>if n == x then some u else none):=by
    funext n
    simp only[getB]
    by_cases e:x=n
    ·subst e;simp
    ·have e2:¬n=x:=fun h=>e h.symm
     simp[e,e2]
   rw[J8]at C
   simp only[TQ.val]at C
   obtain ⟨e0,e1,e2⟩:=lE hI.b0
   obtain ⟨HC,HY⟩:=aS C hI
   clear C hI J8
   go_wp2_with (go_at_call 154;refine HC.o.mono ?_;rintro e w5 ⟨⟨p5,rfl,nU⟩,a_⟩;obtain ⟨pv,pn,pa,pl,pc⟩:=p5;simp only at nU ⊢;have x1:=(HY.o.later a_).b1;have e0:=ai x1 0;have e1:=ai x1 1;have e2:=ai x1 2;have z0:=ae x1 0;have z1:=ae x1 1;have z2:=ae x1 2;have H5:=ce nU (HY.o.below.tr a_) x1 a_.size;clear a_ nU x1)
   have hz:=HY.o.below.size
   have Pg:=(bl HY.o.b1)
   exact pm73
end
theorem nb {t:List Str} (h:t.length<10 ^ 14):(dq t).length<=2000000:=by
 obtain ⟨j,h1,nM,he,_⟩:=rJ t (by omega)
 rw[he]
 unfold gg
 have:=B7 20 j 15 (by omega) (by omega)
 simp;omega
mutual
theorem Ph {p:Nat} {x:Str} {u:Tm} (hu:iS p u=true):∀ t,iS p t=true->iS p (jQ x u t)=true
 | .mk v n a,h=>by
  have pp295b:=();exact pm295
theorem x_ {p:Nat} {x:Str} {u:Tm} (hu:iS p u=true):∀ l,dF p l=true->dF p (dP x u l)=true
 | [],_=>by simp[dP,dF]
 | t :: l,h=>by
  simp only[dF,Bool.and_eq_true]at h
  have h1:=Ph (x:=x) hu t h.1
  have h2:=x_ (x:=x) hu l h.2
  unfold dP at h2 ⊢
  simp only[List.map_cons,dF,Bool.and_eq_true]
  exact ⟨h1,h2⟩
end
theorem tM {y:Str} (h:y.length<=2000000):iS 2000000 (ap y)=true:=by simp[ap,iS,dF,h]
theorem nc:∀ (k:Nat) (f:Fm) (x:Str) (u:Tm),iF f=true->qone f=true->depthF f<=k->nodesF f+nodesT u<10 ^ 10->ks 2000000 f=true->iS 2000000 u=true->ks 2000000 (ep k x u f)=true
 | 0,f,x,u,hw,hq,hd,hs,hf,hu=>by have:=kU f;omega
 | k+1,.mk o n a s,x,u,hw,hq1,hd,hs,hf,hu=>by
  have Ge:=hf
  have pp116c:=();exact pm116
theorem GU {a b:List Str} (ha:a.length<10 ^ 18) (hb:b.length<10 ^ 18) (ha2:(de a).length<10 ^ 18) (bA:(de b).length<10 ^ 18):dq (de a ++ de b)=dq (a ++ b):=
 AP (by simp;omega) (by simp;omega) (fun x=>by simp[dj])
theorem ei (l:List Str):(de l).length<=l.length:=by
 unfold de
 induction l with
 | nil=>simp
 | cons x l ih=>
  have h:∀ (m:List Str),(vH x m).length<=m.length+1:=fun m=>by
   induction m with
   | nil=>simp[vH]
   | cons y m ih2=>
    unfold vH
    split
    ·simp
    ·split
     ·simp
     ·simp;omega
  simp only[List.foldr_cons,List.length_cons]
  have:=h (List.foldr vH [] l)
  omega
theorem jk (l:List Str) (x:Str):(de l).contains x=l.contains x:=by
 rw[Bool.eq_iff_iff]
 simp[dj]
section
attribute [local go_sem] Oper.semAt_some
abbrev frV (c0 c1:Nat):Value:=.func (.func 213) #[] #[.pointer (some ⟨c0,0,none⟩),.pointer (some ⟨c1,0,none⟩)]
def FrG (M:Nat->Prop) (c0 c1:Nat) (J:List Str->World->Prop) (xs:List Str):Prop:=∀ (pre:List Str) (x:Str) (W1:World),J pre W1->(pre ++ [x]) <+: xs →
 Calls Tryz.prog 213 #[.string ⟨x.toArray⟩,.pointer (some ⟨c0,0,none⟩),.pointer (some ⟨c1,0,none⟩)] W1 fun e W'=>e=.returned (.bool true)/\J (pre ++ [x]) W'/\Kp M W1 W'
theorem yb (c0 c1:Nat):∀ (t:Tm),fitT t->∀ (M:Nat->Prop) (B:Nat) (J:List Str->World->Prop) (xs pre:List Str) (W:World) (q:TQ),(∀ b,M b->b<W.heap.size)->(∀ s,Abides W.heap.size (J s))->FrG M c0 c1 J xs->TermV (fun b=>b<B/\¬M b) W q.val t->(pre ++ aI t) <+: xs->J pre W →
  Calls Tryz.prog 214 #[q.val,frV c0 c1] W fun e W'=>e=.returned (.bool true)/\J (pre ++ aI t) W'/\Kp M W W':=by
 intro t
 induction t using Tm.ind with
 | h v n a ih=>
  intro aD M B J xs pre W q hM hJ hG hq cV hj
  obtain ⟨qv,qn,qa,ql,qc⟩:=q
  obtain ⟨sa,hs,bD⟩:=aP.1 hq
  have pp35g:=();exact pm35
end
theorem S4 {P:Program} {k:TypeId} {α β:Type} {V:Value->α->Prop} {V':Value->β->Prop} {W W':World} {m n n' B:Nat} {l:List (Str×α)} {l':List (Str×β)} (h:W.grownBy W' (some m)) (hm:MapV P k V W m n l) (Pi:MapV P k V' W' m n' l') (hB:B<=m):Nw B W W':=by
 obtain ⟨D,⟨es,wZ,h1,_⟩,_⟩:=hm
 obtain ⟨D',⟨Pa,SM,SL,_⟩,_⟩:=Pi
 refine ⟨h.os,h.tape,h.output,h.size,fun b hb=>?_⟩
 by_cases e:b=m
 ·subst e
  exact .inr ⟨hB,⟨_,h1,rfl⟩,_,SL,rfl⟩
 ·exact .inl (h.block b hb (fun h=>by cases h;exact e rfl))
def BoundW (W:World) (m n:Nat) (bs:List Str):Prop:=∃l:List (Str×Nat),MapV Tryz.prog 9 (fun v (c:Nat)=>v=.int .i64 (c:Int)) W m n l/\∀ x,(getB l x).getD 0=bs.count x
theorem BoundW.lt {W:World} {m n:Nat} {bs:List Str} (h:BoundW W m n bs):m<W.heap.size:=by obtain ⟨l,h,_⟩:=h;exact h.lt
theorem BoundW.same {W W':World} {m n:Nat} {bs:List Str} (h:BoundW W m n bs) (hb:W'.heap[m]?=W.heap[m]?):BoundW W' m n bs:=by
 obtain ⟨l,h,hx⟩:=h
 exact ⟨l,h.move hb (fun _ _ _ _ h=>h),hx⟩
theorem BoundW.made (w:World):BoundW (w.alloc (.map #[] 0)) w.heap.size 0 []:=⟨[],MapV.made w,fun x=>by simp[getB]⟩
theorem BoundW.look {W:World} {m n:Nat} {bs:List Str} (h:BoundW W m n bs) {x:Str} (hx:x.length<=2000000) :
  ∀ W':World,W'.heap[m]?=W.heap[m]?->(Instr.lookup 198 (.map (some m)) (.string ⟨x.toArray⟩) false).run Tryz.prog W'=.ok (.int .i64 (bs.count x:Int)) W':=by
 obtain ⟨l,h,hl⟩:=h
 intro W' hW
 have hz:∀ w,(zeroValue 3).run Tryz.prog w=.ok (.int .i64 0) w:=fun w=>by kernel_rfl
 have hc:=hl x
 rcases h.look Tryz.underlying9 Tryz.underlying198 hz hx with ⟨hn,hr⟩ | ⟨a,v,hs,rfl,hr⟩
 ·rw[hn]at hc
  rw[<-hc]
  exact (hr W' hW).2
 ·rw[hs]at hc
  rw[<-hc]
  exact (hr W' hW).2
theorem BoundW.store {W:World} {m n:Nat} {bs bs':List Str} (h:BoundW W m n bs) (hn:n<4000000) {x:Str} (hx:x.length<=2000000) (hb:∀ y,y≠x->bs'.count y=bs.count y) :
  ∃w',(Instr.mapUpdate 198 (.map (some m)) (.string ⟨x.toArray⟩) (.int .i64 (bs'.count x:Int))).run Tryz.prog W=.ok () w'/\BoundW w' m (n+1) bs'/\W.grownBy w' (some m)/\w'.heap.size=W.heap.size/\∀ B,B<=m->Nw B W w':=by
 obtain ⟨l,h,hl⟩:=h
 obtain ⟨w',hr,hm,hg,hs⟩:=h.store Tryz.underlying9 Tryz.underlying198 hn hx (v:=.int .i64 (bs'.count x:Int)) (a:=bs'.count x) (l':=(x,bs'.count x) :: l) (V':=fun v (c:Nat)=>v=.int .i64 (c:Int)) rfl (fun _ _ _ _ _ h=>h) (fun y=>by
  rw[getB]
  by_cases e:y=x
  ·subst e;simp
  ·rw[if_neg e];rw[if_neg (by simpa using fun h=>e h.symm)])
 refine ⟨w',hr,⟨_,hm,fun y=>?_⟩,hg,hs,fun B hB=>S4 hg h hm hB⟩
 rw[getB]
 by_cases e:y=x
 ·subst e;simp
 ·rw[if_neg (by simpa using fun h=>e h.symm),hl y,hb y e]
section
attribute [local go_sem] Oper.semAt_some
theorem S5 (mb n c0 c1:Nat) (bs:List Str) (x:Str) (hx:x.length<=2000000) (W:World) (h0:W.cell? ⟨c0,0,none⟩=some (.map (some mb))) (hb:BoundW W mb n bs) (hc:0<bs.count x) :
  Calls Tryz.prog 213 #[.string ⟨x.toArray⟩,.pointer (some ⟨c0,0,none⟩),.pointer (some ⟨c1,0,none⟩)] W fun e w'=>e=.returned (.bool true)/\w'=W:=by
 have hr:=hb.look hx W rfl
 obtain ⟨k,hk⟩:=ao (bs.count x)
 rw[<-hk]at hr hc
 have hd:decide ((0:Int)<(k:Int))=true:=by simp;omega
 have Q3:(0:Int)<(k:Int):=by omega
 clear hb hk hc
 go_enter Tryz.func213,Tryz.ntmps213
 go_wp2
 go_ret
 exact ⟨rfl,rfl⟩
theorem Pj (mb n l c0 c1:Nat) (bs:List Str) (x:Str) (hx:x.length<=2000000) (W:World) (R:World->Prop) (h0:W.cell? ⟨c0,0,none⟩=some (.map (some mb))) (h1:W.cell? ⟨c1,0,none⟩=some (.func (.yield l) #[] #[])) (hb:BoundW W mb n bs) (hc:bs.count x=0)
  (hy:YieldAt Fence.wide 0 Tryz.prog l #[.string ⟨x.toArray⟩] W fun e W'=>e=.returned (.bool true)/\R W') :
  Calls Tryz.prog 213 #[.string ⟨x.toArray⟩,.pointer (some ⟨c0,0,none⟩),.pointer (some ⟨c1,0,none⟩)] W fun e w'=>e=.returned (.bool true)/\R w':=by
 have hr:=hb.look hx W rfl
 rw[hc]at hr
 have hr:(Instr.lookup 198 (.map (some mb)) (.string ⟨x.toArray⟩) false).run Tryz.prog W=.ok (.int .i64 0) W:=hr
 obtain ⟨fn,tmps,assign,body,hy,D5⟩:=iz 2 hy
 clear hb hc
 refine (callsIn_wide (n:=3)).1 ?_
 refine callsIn_of_wp Tryz.func213 rfl trivial ?_ rfl
 simp only[Tryz.ntmps213,List.size_toArray,List.length_cons,List.length_nil,Nat.reduceAdd,Nat.reduceSub,Array.replicate_succ,Array.replicate_zero,List.push_toArray,List.append_toArray,List.nil_append,List.cons_append]
 have jb:∀ f,Fence.wide.fn f:=fun _=>trivial
 gi_wp2
 refine D5.mono ?_
 rintro e W2 ⟨rfl,hR⟩
 have HR:=ab hR
 clear hR D5 hy hr
 gi_wp2
 go_ret
 exact ⟨rfl,HR.o⟩
structure FrJ (J:List Str->World->Prop) (pre:List Str) (M:Nat->Prop) (W0:World) (mb n:Nat) (bs:List Str) (l s:Nat) (p:List Str) (X:World):Prop where
 j:J (pre ++ p.filter (fun x=>!bs.contains x)) X
 kp:Kp M W0 X
 bd:BoundW X mb n bs
 b1:X.heap[s+1]?=some (.cells #[.map (some mb)] 198 (0,0))
 b2:X.heap[s+2]?=some (.cells #[.func (.yield l) #[] #[]] 113 (0,0))
theorem Mu {M:Nat->Prop} {W0 X Y:World} {B:Nat} (h:Kp M W0 X) (hn:Nw B X Y) (hB:W0.heap.size<=B):Kp M W0 Y:=
 ⟨hn.os.trans h.os,hn.tape.trans h.tape,hn.output.trans h.output,Nat.le_trans h.size hn.size,fun b hb hm=>(hn.old (by omega) (Nat.lt_of_lt_of_le hb h.size)).trans (h.same b hb hm)⟩
theorem FrJ.abides {J:List Str->World->Prop} {pre:List Str} {M:Nat->Prop} {W0:World} {mb n:Nat} {bs:List Str} {l s:Nat} {B:Nat} (hJ:∀ s,Abides W0.heap.size (J s)) (h0:W0.heap.size<=B) (hm:mb<B) (hs:s+2<B) (p:List Str):Abides B (FrJ J pre M W0 mb n bs l s p):=by
 intro X Y hn h
 exact ⟨(hJ _).mono h0 X Y hn h.j,Mu h.kp hn h0,h.bd.same (hn.old hm h.bd.lt),(hn.old (by omega) (bl h.b1)).trans h.b1,(hn.old (by omega) (bl h.b2)).trans h.b2⟩
theorem Aa {α:Type} (g:α->Bool) {a b:List α} (h:a <+: b):a.filter g <+: b.filter g:=by
 obtain ⟨r,rfl⟩:=h
 rw[List.filter_append]
 exact ⟨_,rfl⟩
theorem GV {α:Type} {p:List α} {x:α} {xs:List α} (h:(p ++ [x]) <+: xs):x∈xs:=h.subset (by simp)
theorem S6 {J:List Str->World->Prop} {pre xs:List Str} {M:Nat->Prop} {W0:World} {mb n:Nat} {bs:List Str} {l s:Nat} {a:List Tm} (hM:∀ b,M b->b<W0.heap.size) (zG:W0.heap.size<=mb) (hs:W0.heap.size<=s) (hY:YieldK M l J wY xs W0) (aD:fitTs a)
  (cV:(pre ++ (ar a).filter (fun x=>!bs.contains x)) <+: xs):FrG (fun b=>M b\/b=mb) (s+1) (s+2) (FrJ J pre M W0 mb n bs l s) (ar a):=by
 intro p x W1 h hp
 have Z':=GV hp
 have BV:x.length<=2000000:=mC a aD.2 x Z'
 have c0:W1.cell? ⟨s+1,0,none⟩=some (.map (some mb)):=ai h.b1 0
 have c1:W1.cell? ⟨s+2,0,none⟩=some (.func (.yield l) #[] #[]):=ai h.b2 0
 by_cases hc:bs.contains x=true
 ·have hm:x∈bs:=by simpa using hc
  have hf:(p ++ [x]).filter (fun x=>!bs.contains x)=p.filter (fun x=>!bs.contains x):=by simp[List.filter_append,hm]
  refine (S5 mb n (s+1) (s+2) bs x BV W1 c0 h.bd (List.count_pos_iff.2 (by simpa using hc))).mono ?_
  rintro e w' ⟨rfl,rfl⟩
  exact ⟨rfl,⟨by rw[hf];exact h.j,h.kp,h.bd,h.b1,h.b2⟩,Kp.refl _⟩
 ·have hm:¬x∈bs:=by simpa using hc
  have hf:(p ++ [x]).filter (fun x=>!bs.contains x)=p.filter (fun x=>!bs.contains x) ++ [x]:=by simp[List.filter_append,hm]
  have hpx:(pre ++ p.filter (fun x=>!bs.contains x) ++ [x]) <+: xs:=by
   have h1:=Aa (fun x=>!bs.contains x) hp
   rw[hf]at h1
   obtain ⟨r,hr⟩:=h1
   rw[<-hr]at cV
   obtain ⟨r2,OK⟩:=cV
   exact ⟨r ++ r2,by rw[<-OK];simp⟩
  have hy:=hY (pre ++ p.filter (fun x=>!bs.contains x)) #[.string ⟨x.toArray⟩] x W1 h.j h.kp rfl hpx
  refine (Pj mb n l (s+1) (s+2) bs x BV W1 (fun W'=>J (pre ++ p.filter (fun x=>!bs.contains x) ++ [x]) W'/\Kp M W1 W') c0 c1 h.bd (by
   rw[List.count_eq_zero];simpa using hc) hy).mono ?_
  rintro e w' ⟨rfl,hj,hk⟩
  have c9:∀ b,W0.heap.size<=b->¬M b:=fun b hb h=>by have:=hM b h;omega
  have l1:=(bl h.b1)
  have l2:=(bl h.b2)
  refine ⟨rfl,⟨by rw[hf,<-List.append_assoc];exact hj,h.kp.trans hk,h.bd.same (hk.same mb h.bd.lt (c9 mb zG)),(hk.same _ l1 (c9 _ (by omega))).trans h.b1,(hk.same _ l2 (c9 _ (by omega))).trans h.b2⟩,hk.mono (fun b _ hb=>.inl hb)⟩
theorem mH {b:List Str} {l:List Fm} {k:Nat} (h:k<l.length):bj b (l.take (k+1))=bj b (l.take k) ++ aO b l[k]:=by
 induction l generalizing k with
 | nil=>simp at h
 | cons t l ih=>
  cases k with
  | zero=>simp[bj]
  | succ k=>have:=ih (k:=k) (by simpa using h);simp[bj]at this ⊢;rw[this]
theorem mc (b:List Str):∀ l m,bj b (l ++ m)=bj b l ++ bj b m
 | [],m=>rfl
 | t :: l,m=>by simp[bj,mc b l m]
theorem Pk (mb n s:Nat) (bs:List Str) (x:Str) (hx:x.length<=2000000) (hn:n<4000000) (hl:bs.length<=4000000) (u:FrameMode) (W:World) (h0:W.cell? ⟨s+1,0,none⟩=some (.map (some mb))) (h1:W.cell? ⟨s,1,none⟩=some (.string ⟨x.toArray⟩)) (hb:BoundW W mb n (x :: bs)) :
  CallsD Tryz.prog 215 #[.pointer (some ⟨s+1,0,none⟩),.pointer (some ⟨s,0,none⟩)] u W fun e u' w'=>u'=u/\(e=.returned (.tuple #[])/\BoundW w' mb (n+1) bs/\W.grownBy w' (some mb)/\w'.heap.size=W.heap.size/\∀ B,B<=mb->Nw B W w'):=by
 have hr:=hb.look hx W rfl
 obtain ⟨w4,cw,aN,sT,uM,FT⟩:=hb.store (bs':=bs) hn hx (fun y hy=>by rw[List.count_cons_of_ne];exact fun h=>hy h.symm)
 have hcl:bs.count x<=4000000:=Nat.le_trans List.count_le_length hl
 rw[List.count_cons_self]at hr
 obtain ⟨k,hk⟩:=ao (bs.count x)
 rw[<-hk]at hr cw hcl
 have hr:(Instr.lookup 198 (.map (some mb)) (.string ⟨x.toArray⟩) false).run Tryz.prog W=.ok (.int .i64 ((k:Int)+1)) W:=by rw[hr];rfl
 have HQ:=ce aN sT uM FT
 clear hb hk aN sT uM FT hl
 go_enter_d Tryz.func215,Tryz.ntmps215
 go_wp2
 go_end0
 exact ⟨rfl,HQ.o⟩
end
end Go.Proofs.YtokemihbkeddoaaGreatDoor
