/-
'check' of package match. (Printed by gen_mcheck.py.)
-/
import Derived.Test.YtokemihbkeddoaaGreatDoorU00
import Derived.Test.YtokemihbkeddoaaGreatDoorU24
import Derived.Test.YtokemihbkeddoaaGreatDoorU25
import Derived.Test.YtokemihbkeddoaaGreatDoorU29
namespace Go.Proofs.YtokemihbkeddoaaGreatDoor
open Go Go.RowKit Lib
set_option maxRecDepth 100000
set_option maxHeartbeats 64000000
section
attribute [local go_sem] Oper.semAt_some
mutual
theorem nC:∀ (s f:Fm) (c:Sco),okF true s=true->∀ p∈bE c s f,okF true p.s=true
 | .mk o n a l,.mk o' n' a' l',c,h,p,hp=>by
  simp only[bE,List.mem_cons]at hp
  rcases hp with rfl | hp
  ·exact h
  ·simp only[okF,Bool.and_eq_true]at h
   exact vq l l' _ h.2.2.2.2 p hp
theorem vq:∀ (s f:List Fm) (c:Sco),cX true s=true->∀ p∈aT c s f,okF true p.s=true
 | [],_,c,_,p,hp=>by simp[aT]at hp
 | _ :: _,[],c,_,p,hp=>by simp[aT]at hp
 | t :: l,u :: m,c,h,p,hp=>by
  simp only[cX,Bool.and_eq_true]at h
  simp only[aT,List.mem_append]at hp
  rcases hp with hp | hp
  ·exact nC t u c h.1 p hp
  ·exact vq l m c h.2 p hp
end
theorem NJ {lN:Nat->Prop} {W:World} {kb mF mT nF nT:Nat} {k:Bd} (dw:KnV lN goodF goodT W kb mF mT nF nT k) (s:Fm) (hs:okF true s=true) (pA:nodesF s<=400):kr k s<=1000000:=by
 obtain ⟨o,n,a,l⟩:=s
 have hn:=yO (gB _ hs)
 rw[EZ]
 have h1:nodesF (formOf k.fs n)<=400:=by obtain ⟨q,_,_,h,_⟩:=dw.formOf (x:=n) (by have:=hn.2.1;omega);exact h
 split
 ·omega
 ·split
  ·rename_i iE
   subst iE
   obtain ⟨x,y,rfl,hx,hy,hi⟩:=iH hs
   rw[hi]
   have h2:=nn (cH x) (formOf k.fs n)
   have h3:=jG dw (x:=y) (by have:=fK hy;omega)
   have:gF (cH x) (formOf k.fs n) * (nodesT (termOf k.ts y) - 1)<=400 * 1000:=Nat.mul_le_mul (by omega) (by omega)
   simp only
   omega
  ·have h4:=pC (fun x hx=>jG dw (x:=x) hx) a (ev (by omega) a hn.2.2.1)
   have h5:ac a<=400:=by simp only[nodesF]at pA;omega
   omega
theorem sJ {α:Type} {f:α->Bool} {l:List α} {x:α} (h:l.any f=false):(l ++ [x]).any f=f x:=by simp[h]
theorem Jj {α:Type} {f:α->Bool} {l m:List α} (h:l <+: m) (hl:l.any f=true):m.any f=true:=by
 obtain ⟨r,rfl⟩:=h
 simp[hl]
theorem Qk {l m:List Nat} (h:l <+: m):l.sum<=m.sum:=by
 obtain ⟨r,rfl⟩:=h
 simp
theorem KO (lN:Nat->Prop) (kb mF mT nF nT:Nat) (kd:Bd) (s:Fm) (hs:okF true s=true) (pA:nodesF s<=400) (ok:Nat->Prop) (w:World) (dw:KnV lN goodF goodT w kb mF mT nF nT kd) (q:FQ) (hq:FormV ok w q.val s) :
  Calls Tryz.prog 71 #[.pointer (some ⟨kb,0,none⟩),q.val] w fun e w'=>e=.returned (.int .i64 (oq kd s))/\Below w.heap.size w w':=by
 have hq:=hq.lt
 have aD:fitF s:=⟨by omega,jR (by omega) s (gB _ hs)⟩
 obtain ⟨R,hR⟩:=ao (oq kd s)
 rw[<-hR]
 unfold oq at hR
 obtain ⟨so,sn,sa,sl,sc,sb,sm,se⟩:=q
 obtain ⟨W1,bQ⟩:=ao (((w.alloc (.cells #[.pointer (some ⟨kb,0,none⟩)] 80)).alloc (.cells #[.int .u8 so,.string sn,.slice sa sl sc,.slice sb sm se] 36)).alloc (.cells #[.int .i64 0] 30))
 have hb1:=vF bQ
 have jS:=F6 bQ
 have xk1:=wK bQ
 have xs1:=pR bQ
 have xr1:=oa bQ
 have HP:=eO hs pA aD dw hq
 have H1:=eO hb1 jS xk1 xs1 xr1
 obtain ⟨lI,HR⟩:=aS bQ hR
 clear hs pA aD dw hq hb1 jS xk1 xs1 xr1 bQ hR
 refine (callsIn_wide (n:=3)).1 ?_
 refine callsIn_of_wp_marks Tryz.func71 rfl trivial ?_ rfl
 simp only[FQ.val,Tryz.ntmps71,List.size_toArray,List.length_cons,List.length_nil,Nat.reduceAdd,Nat.reduceSub,Array.replicate_succ,Array.replicate_zero,List.push_toArray,List.append_toArray,List.nil_append,List.cons_append]
 have jb:∀ f,Fence.wide.fn f:=fun _=>trivial
 obtain ⟨d0,d1,d2,d3⟩:=lF H1.o.2.2.2.1
 rw[lI.o]at d0 d1 d2 d3
 have Yv:=ab (show w.heap.size≠w.heap.size+1+1 by omega)
 have VQ:=eO H1.o.1 H1.o.2.2.1 H1.o.2.2.2.1 H1.o.2.2.2.2 (Marks.nil w.heap.size W1)
 obtain ⟨Ql,NK⟩:∃bad:Pl->Bool,bad=fun p=>gU kd p.s:=⟨_,rfl⟩
 have Yw:=ab (show ∀ p,gU kd p.s=Ql p from fun p=>by rw[NK])
 have Qm:=ab NK
 clear NK
 obtain ⟨Qn,NL⟩:∃bad:Pl->Bool,bad=fun p=>AE kd p:=⟨_,rfl⟩
 have Yx:=ab (show ∀ p,AE kd p=Qn p from fun p=>by rw[NL])
 have Uk:=ab NL
 clear NL
 obtain ⟨Dh,NM⟩:∃bad:Pl->Nat,bad=fun p=>kr kd p.s:=⟨_,rfl⟩
 have RY:=ab (show ∀ p,kr kd p.s=Dh p from fun p=>by rw[NM])
 have Yy:=ab NM
 clear NM
 obtain ⟨V1,VR⟩:=ao (gp W1 ⟨so,sn,sa,sl,sc,sb,sm,se⟩ ⟨so,sn,sa,sl,sc,sb,sm,se⟩)
 obtain ⟨M1,Ua⟩:∃M:Nat->Prop,M=(fun b=>b=w.heap.size+1+1):=⟨_,rfl⟩
 have IS:Below W1.heap.size W1 V1:=by rw[VR];exact eU _ _ _
 have jS:V1.heap.size=W1.heap.size+2:=by rw[VR,jn]
 have xX1:V1.heap[W1.heap.size]?=some (.cells #[.int .u8 so,.string sn,.slice sa sl sc,.slice sb sm se] 36 (0,0)):=by rw[VR];exact jX _ _ _
 have xY1:V1.heap[W1.heap.size+1]?=some (.cells #[.int .u8 so,.string sn,.slice sa sl sc,.slice sb sm se] 36 (0,0)):=by rw[VR];exact jY _ _ _
 have Qo:=VQ.o.1.tr IS
 have zbf:=(bl VQ.o.2.2.2.1)
 have NN:∀ b,M1 b->w.heap.size<=b/\b<W1.heap.size:=fun b hb=>by rw[Ua]at hb;subst hb;omega
 have Ul:FormV (fun b=>b<V1.heap.size/\¬M1 b) V1 (FQ.val ⟨so,sn,sa,sl,sc,sb,sm,se⟩) s:=HP.o.2.2.2.2.move (fun b hb hlt=>⟨⟨Nat.lt_of_lt_of_le hb Qo.size,fun hm=>by have:=(NN b hm).1;omega⟩,Qo.block b hlt⟩)
 have RZ:=lA s s HP.o.2.2.1 (by have:=HP.o.2.1;omega) M1 V1.heap.size W1.heap.size (W1.heap.size+1) V1 ⟨so,sn,sa,sl,sc,sb,sm,se⟩ ⟨so,sn,sa,sl,sc,sb,sm,se⟩ xX1 (fun h=>by have:=(NN _ h).2;omega) xY1 (fun h=>by have:=(NN _ h).2;omega) Ul Ul
 obtain ⟨zbg,Qp,Cq⟩:=cf RZ NN Ua
 have GG:=ce Qo jS (bC IS VQ.o.2.1) (bC IS VQ.o.2.2.2.1)
 have Hv1:=aF IS (VQ.o.2.2.2.2.move (fun D _ hd=>(IS.block D (bl hd)).trans hd))
 have zbh:=ab VR
 clear VR Ua IS jS xX1 xY1 Qo zbf NN Ul RZ
 gi_wp2_with fail
 refine callsIn_wide.2 ((ly ⟨so,sn,sa,sl,sc,sb,sm,se⟩ ⟨so,sn,sa,sl,sc,sb,sm,se⟩ _).mono ?_)
 rintro e w' ⟨rfl,rfl⟩
 try clear d0 d1 d2 d3
 rw[<-lI.o]
 rw[<-zbh.o]
 gi_wp2_with fail
 have eg:∀ args W,(callFunc 102 args).run Tryz.prog W=.ok (.enter 102 args) W:=enters_of Tryz.func102 (by kernel_rfl) rfl
 refine fE rfl eg (fun b hb=>by have:=(Qp.o b hb).2;have:=GG.o.2.1;omega) zbg.o (fun _ _ _ h=>by obtain ⟨q,ps,rfl,_⟩:=h;rfl)
  (fun pre X=>pre.any Ql=false/\X.heap[w.heap.size+1+1]?=some (.cells #[.int .i64 0] 30 (0,0))/\Kp M1 V1 X)
  (fun c pre X=>c=.ret/\pre.any Ql=true/\X.heap[w.heap.size+1+1]?=some (.cells #[.int .i64 6] 30 (0,0))/\Kp M1 V1 X)
  (fun s=>?hI1) (fun c s=>?hIx1) ⟨rfl,GG.o.2.2.2,Kp.refl _⟩ ?round1 ?done1 ?stop1
 case hI1=>
  rintro X Y hn ⟨h1,h2,h3⟩
  exact ⟨h1,hn.cells h2,mg h3 hn⟩
 case hIx1=>
  exact pm307
 case round1=>
  rintro lR pre vs x W hl vQ ⟨h1,h2,h3⟩ ⟨q,ps,rfl,Ji,kP,rj,Ag,gh⟩ DD cV
  have pp26a:=();exact pm26
 case done1=>
  rintro D X hD ⟨h1,h2,h3⟩ Um hd
  obtain ⟨X2,hX⟩:=ao X
  rw[<-hX]at h2 h3 Um hd ⊢
  clear hX X
  have zj:Below w.heap.size w X2:=aG GG.o.1 h3 (fun b hb=>(Qp.o b hb).1)
  have jq:Marks w.heap.size X2 _:=Hv1.o.2.more (w':=X2) (fun E hE hx=>(h3.same E (bl hx) (fun hm=>by rw[Cq.o]at hm;subst hm;rw[GG.o.2.2.2]at hx;cases hx)).trans hx) hD (Nat.le_trans GG.o.1.size hD) hd
  have Yz:=(h3.same _ (bl GG.o.2.2.1) (fun h=>by have:=Yv.o;rw[Cq.o]at h;omega)).trans GG.o.2.2.1
  have Un:=bC Hv1.o.1 VQ.o.2.2.1
  have Uo:=(h3.same _ (bl Un) (fun h=>by rw[Cq.o]at h;omega)).trans Un
  have HA1:=ab h1
  have pZ:=eO zj Yz Uo h2 jq
  obtain ⟨d0,d1,d2,d3⟩:=lF Uo
  clear h1 h2 h3 Um hd zj jq Yz Un Uo hD
  obtain ⟨V2,VS⟩:=ao (gp X2 ⟨so,sn,sa,sl,sc,sb,sm,se⟩ ⟨so,sn,sa,sl,sc,sb,sm,se⟩)
  obtain ⟨M2,hM2⟩:∃M:Nat->Prop,M=(fun b=>b=w.heap.size+1+1):=⟨_,rfl⟩
  have iW:Below X2.heap.size X2 V2:=by rw[VS];exact eU _ _ _
  have hO:V2.heap.size=X2.heap.size+2:=by rw[VS,jn]
  have xX2:V2.heap[X2.heap.size]?=some (.cells #[.int .u8 so,.string sn,.slice sa sl sc,.slice sb sm se] 36 (0,0)):=by rw[VS];exact jX _ _ _
  have xY2:V2.heap[X2.heap.size+1]?=some (.cells #[.int .u8 so,.string sn,.slice sa sl sc,.slice sb sm se] 36 (0,0)):=by rw[VS];exact jY _ _ _
  have Qr:=pZ.o.1.tr iW
  have zbi:=(bl pZ.o.2.2.2.1)
  have NQ:∀ b,M2 b->w.heap.size<=b/\b<X2.heap.size:=fun b hb=>by rw[hM2]at hb;subst hb;omega
  have Uq:FormV (fun b=>b<V2.heap.size/\¬M2 b) V2 (FQ.val ⟨so,sn,sa,sl,sc,sb,sm,se⟩) s:=HP.o.2.2.2.2.move (fun b hb hlt=>⟨⟨Nat.lt_of_lt_of_le hb Qr.size,fun hm=>by have:=(NQ b hm).1;omega⟩,Qr.block b hlt⟩)
  have R2:=lA s s HP.o.2.2.1 (by have:=HP.o.2.1;omega) M2 V2.heap.size X2.heap.size (X2.heap.size+1) V2 ⟨so,sn,sa,sl,sc,sb,sm,se⟩ ⟨so,sn,sa,sl,sc,sb,sm,se⟩ xX2 (fun h=>by have:=(NQ _ h).2;omega) xY2 (fun h=>by have:=(NQ _ h).2;omega) Uq Uq
  obtain ⟨zbj,Qs,VT⟩:=cf R2 NQ hM2
  have Et:=ce Qr hO (bC iW pZ.o.2.1) (bC iW pZ.o.2.2.2.1)
  have Hv2:=aF iW (pZ.o.2.2.2.2.move (fun D _ hd=>(iW.block D (bl hd)).trans hd))
  have zbk:=ab VS
  clear VS hM2 iW hO xX2 xY2 Qr zbi NQ Uq R2
  gi_wp2_with fail
  refine callsIn_wide.2 ((ly ⟨so,sn,sa,sl,sc,sb,sm,se⟩ ⟨so,sn,sa,sl,sc,sb,sm,se⟩ _).mono ?_)
  rintro e w' ⟨rfl,rfl⟩
  try clear d0 d1 d2 d3
  rw[<-zbk.o]
  gi_wp2_with fail
  have eg:∀ args W,(callFunc 102 args).run Tryz.prog W=.ok (.enter 102 args) W:=enters_of Tryz.func102 (by kernel_rfl) rfl
  refine fE rfl eg (fun b hb=>by have:=(Qs.o b hb).2;have:=Et.o.2.1;omega) zbj.o (fun _ _ _ h=>by obtain ⟨q,ps,rfl,_⟩:=h;rfl)
   (fun pre X=>pre.any Qn=false/\X.heap[w.heap.size+1+1]?=some (.cells #[.int .i64 0] 30 (0,0))/\Kp M2 V2 X)
   (fun c pre X=>c=.ret/\pre.any Qn=true/\X.heap[w.heap.size+1+1]?=some (.cells #[.int .i64 72] 30 (0,0))/\Kp M2 V2 X)
   (fun s=>?hI2) (fun c s=>?hIx2) ⟨rfl,Et.o.2.2.2,Kp.refl _⟩ ?round2 ?done2 ?stop2
  case hI2=>
   rintro X Y hn ⟨h1,h2,h3⟩
   exact ⟨h1,hn.cells h2,mg h3 hn⟩
  case hIx2=>
   exact pm307
  case round2=>
   rintro lR pre vs x W hl vQ ⟨h1,h2,h3⟩ ⟨q,ps,rfl,Ji,kP,rj,Ag,gh⟩ DD cV
   have pp26b:=();exact pm26
  case done2=>
   rintro D X hD ⟨h1,h2,h3⟩ Um hd
   obtain ⟨X3,hX⟩:=ao X
   rw[<-hX]at h2 h3 Um hd ⊢
   clear hX X
   have zj:Below w.heap.size w X3:=aG Et.o.1 h3 (fun b hb=>(Qs.o b hb).1)
   have jq:Marks w.heap.size X3 _:=Hv2.o.2.more (w':=X3) (fun E hE hx=>(h3.same E (bl hx) (fun hm=>by rw[VT.o]at hm;subst hm;rw[Et.o.2.2.2]at hx;cases hx)).trans hx) hD (Nat.le_trans Et.o.1.size hD) hd
   have Yz:=(h3.same _ (bl Et.o.2.2.1) (fun h=>by have:=Yv.o;rw[VT.o]at h;omega)).trans Et.o.2.2.1
   have Un:=bC Hv2.o.1 pZ.o.2.2.1
   have Uo:=(h3.same _ (bl Un) (fun h=>by rw[VT.o]at h;omega)).trans Un
   have Ws:=ab h1
   have VU:=eO zj Yz Uo h2 jq
   obtain ⟨d0,d1,d2,d3⟩:=lF Uo
   clear h1 h2 h3 Um hd zj jq Yz Un Uo hD
   obtain ⟨nB,YA⟩:=ao X3.heap.size
   obtain ⟨X4,VV⟩:=ao (X3.alloc (.cells #[.int .i64 0] 3))
   have zZ:=cB VV
   have MG:X4.heap.size=nB+1:=by rw[VV,YA];simp
   have Ur:X4.heap[nB]?=some (.cells #[.int .i64 0] 3 (0,0)):=by rw[VV,YA];exact aj rfl
   have MH:=(bl VU.o.2.2.2.1)
   have HnB:=ab (show w.heap.size+1+1<nB/\nB+1=X4.heap.size by rw[MG,YA];exact ⟨MH,rfl⟩)
   have xs4:=bC zZ VU.o.2.2.1
   have YB:=eO (VU.o.1.tr zZ) (bC zZ VU.o.2.1) xs4 ((zZ.block _ MH).trans VU.o.2.2.2.1) (VU.o.2.2.2.2.move (fun D _ hd=>(zZ.block D (bl hd)).trans hd))
   obtain ⟨HnU,HX4⟩:=aS Ur VV
   clear d0 d1 d2 d3
   obtain ⟨d0,d1,d2,d3⟩:=lF xs4
   rw[VV]at d0 d1 d2 d3
   have zbl:=ab YA
   clear YA VV zZ MG Ur MH xs4
   obtain ⟨V3,VW⟩:=ao (gp X4 ⟨so,sn,sa,sl,sc,sb,sm,se⟩ ⟨so,sn,sa,sl,sc,sb,sm,se⟩)
   obtain ⟨M3,hM3⟩:∃M:Nat->Prop,M=(fun b=>b=w.heap.size+1+1\/b=nB):=⟨_,rfl⟩
   have Us:Below X4.heap.size X4 V3:=by rw[VW];exact eU _ _ _
   have nP:V3.heap.size=X4.heap.size+2:=by rw[VW,jn]
   have xX3:V3.heap[X4.heap.size]?=some (.cells #[.int .u8 so,.string sn,.slice sa sl sc,.slice sb sm se] 36 (0,0)):=by rw[VW];exact jX _ _ _
   have xY3:V3.heap[X4.heap.size+1]?=some (.cells #[.int .u8 so,.string sn,.slice sa sl sc,.slice sb sm se] 36 (0,0)):=by rw[VW];exact jY _ _ _
   have Qt:=YB.o.1.tr Us
   have zbm:=(bl YB.o.2.2.2.1)
   have NR:∀ b,M3 b->w.heap.size<=b/\b<X4.heap.size:=fun b hb=>by rw[hM3]at hb;have:=HnB.o;rcases hb with rfl | rfl <;> omega
   have Ut:FormV (fun b=>b<V3.heap.size/\¬M3 b) V3 (FQ.val ⟨so,sn,sa,sl,sc,sb,sm,se⟩) s:=HP.o.2.2.2.2.move (fun b hb hlt=>⟨⟨Nat.lt_of_lt_of_le hb Qt.size,fun hm=>by have:=(NR b hm).1;omega⟩,Qt.block b hlt⟩)
   have R3:=lA s s HP.o.2.2.1 (by have:=HP.o.2.1;omega) M3 V3.heap.size X4.heap.size (X4.heap.size+1) V3 ⟨so,sn,sa,sl,sc,sb,sm,se⟩ ⟨so,sn,sa,sl,sc,sb,sm,se⟩ xX3 (fun h=>by have:=(NR _ h).2;omega) xY3 (fun h=>by have:=(NR _ h).2;omega) Ut Ut
   obtain ⟨zbn,Qu,YC⟩:=cf R3 NR hM3
   have NS:=ce Qt nP (bC Us YB.o.2.1) (bC Us YB.o.2.2.2.1)
   have Hv3:=aF Us (YB.o.2.2.2.2.move (fun D _ hd=>(Us.block D (bl hd)).trans hd))
   have zbo:=ab VW
   have HnV:=ab (bC Us HnU.o)
   clear VW hM3 Us nP xX3 xY3 Qt zbm NR Ut R3
   gi_wp2_with fail
   refine callsIn_wide.2 ((ly ⟨so,sn,sa,sl,sc,sb,sm,se⟩ ⟨so,sn,sa,sl,sc,sb,sm,se⟩ _).mono ?_)
   rintro e w' ⟨rfl,rfl⟩
   try clear d0 d1 d2 d3
   rw[<-zbl.o,<-HX4.o]
   rw[<-zbo.o]
   gi_wp2_with fail
   have eg:∀ args W,(callFunc 102 args).run Tryz.prog W=.ok (.enter 102 args) W:=enters_of Tryz.func102 (by kernel_rfl) rfl
   refine fE rfl eg (fun b hb=>by have:=(Qu.o b hb).2;have:=NS.o.2.1;omega) zbn.o (fun _ _ _ h=>by obtain ⟨q,ps,rfl,_⟩:=h;rfl)
    (fun pre X=>(pre.map Dh).sum<=400/\X.heap[nB]?=some (.cells #[.int .i64 ((pre.map Dh).sum:Nat)] 3 (0,0))/\X.heap[w.heap.size+1+1]?=some (.cells #[.int .i64 0] 30 (0,0))/\Kp M3 V3 X)
    (fun c pre X=>c=.ret/\400<(pre.map Dh).sum/\X.heap[w.heap.size+1+1]?=some (.cells #[.int .i64 3] 30 (0,0))/\Kp M3 V3 X)
    (fun s=>?hI3) (fun c s=>?hIx3) ⟨by simp,by simpa using HnV.o,NS.o.2.2.2,Kp.refl _⟩ ?round3 ?done3 ?stop3
   case hI3=>
    rintro X Y hn ⟨h1,h2,h3,h4⟩
    exact ⟨h1,hn.cells h2,hn.cells h3,mg h4 hn⟩
   case hIx3=>
    exact pm307
   case round3=>
    rintro lR pre vs x W hl vQ ⟨h1,h2,h3,h4⟩ ⟨q,ps,rfl,Ji,kP,rj,Ag,gh⟩ DD cV
    have pp26c:=();exact pm26
   case done3=>
    rintro D X hD ⟨h1,h2,h3,h4⟩ Um hd
    have HE:=ab (show R=0 by rw[HR.o,if_neg (by rw[<-Qm.o,HA1.o];simp),if_neg (by have h:=Ws.o;rw[Uk.o]at h;rw[h];simp),if_neg (by rw[<-Yy.o];omega)])
    have pp124:=();exact pm124
   case stop3=>
    rintro D c pre X _ hD cV ⟨rfl,h2,h3,h4⟩ hd
    exact pm124
  case stop2=>
   rintro D c pre X _ hD cV ⟨rfl,h2,h3,h4⟩ hd
   have zj:Below w.heap.size w X:=aG Et.o.1 h4 (fun b hb=>(Qs.o b hb).1)
   have jq:Marks w.heap.size X _:=Hv2.o.2.more (w':=X) (fun E hE hx=>(h4.same E (bl hx) (fun hm=>by rw[VT.o]at hm;subst hm;rw[Et.o.2.2.2]at hx;cases hx)).trans hx) hD (Nat.le_trans Et.o.1.size hD) hd
   have HE:=ab (show R=72 by rw[HR.o,if_neg (by rw[<-Qm.o,HA1.o];simp),if_pos (by have:=Jj cV h2;rwa [Uk.o]at this)])
   have pp229:=();exact pm229
 case stop1=>
  rintro D c pre X _ hD cV ⟨rfl,h2,h3,h4⟩ hd
  have zj:Below w.heap.size w X:=aG GG.o.1 h4 (fun b hb=>(Qp.o b hb).1)
  have jq:Marks w.heap.size X _:=Hv1.o.2.more (w':=X) (fun E hE hx=>(h4.same E (bl hx) (fun hm=>by rw[Cq.o]at hm;subst hm;rw[GG.o.2.2.2]at hx;cases hx)).trans hx) hD (Nat.le_trans GG.o.1.size hD) hd
  have HE:=ab (show R=6 by rw[HR.o,if_pos (by rw[<-Qm.o];exact Jj cV h2)])
  exact pm229
end
end Go.Proofs.YtokemihbkeddoaaGreatDoor
