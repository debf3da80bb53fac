/-
'Matches' of package match. (Printed by gen_mmatches.py.)
-/
import Derived.Test.YtokemihbkeddoaaGreatDoorU00
import Derived.Test.YtokemihbkeddoaaGreatDoorU28
namespace Go.Proofs.YtokemihbkeddoaaGreatDoor
open Go Go.RowKit Lib
set_option maxRecDepth 100000
set_option maxHeartbeats 64000000
section
attribute [local go_sem] Oper.semAt_some
theorem ze {P:Program} {w:World} {a:Addr} {m:Mode} (f:Fn) (xs ys:Array Value):(store a (.func f xs ys) m).run P w=stored P w a (.func f xs ys) m:=run_store P w a _ m rfl
attribute [local go_sem] ze
theorem gN {W:World} {b:Nat} {a0 v:Value} {T:TypeId} (h:W.heap[b]?=some (.cells #[a0] T (0,0))):(W.setCell ⟨b,0,none⟩ v).heap[b]?=some (.cells #[v] T (0,0)):=(aV (F:=0) h v).trans rfl
theorem gO {W:World} {b:Nat} {v:Value}:Kp (fun c=>c=b) W (W.setCell ⟨b,0,none⟩ v):=
 ⟨rfl,rfl,rfl,by simp,fun c _ hc=>Below.heap_setCell _ _ _ _ (by simpa using hc)⟩
theorem ic {w X Y:World} (h:Below w.heap.size w X) (hn:Nw w.heap.size X Y):Below w.heap.size w Y:=
 ⟨hn.os.trans h.os,hn.tape.trans h.tape,hn.output.trans h.output,Nat.le_trans h.size hn.size,fun b hb=>(hn.old hb (Nat.lt_of_lt_of_le hb h.size)).trans (h.block b hb)⟩
theorem aG {M:Nat->Prop} {w X Y:World} (h:Below w.heap.size w X) (k:Kp M X Y) (hM:∀ b,M b->w.heap.size<=b):Below w.heap.size w Y:=
 ⟨k.os.trans h.os,k.tape.trans h.tape,k.output.trans h.output,Nat.le_trans h.size k.size,fun b hb=>(k.same b (Nat.lt_of_lt_of_le hb h.size) (fun hm=>by have:=hM b hm;omega)).trans (h.block b hb)⟩
theorem sG {l:List (Fm×Fm)} {b:Bd} {i:Nat} (hv:bU b=true) (h:eZ 0 l=some i):cJ l b=(⟨[],[]⟩,i,2):=by
 unfold cJ
 rw[hv,h];rfl
theorem Db {l:List (Fm×Fm)} {b:Bd} (hv:bU b=true) (h:eZ 0 l=none):cJ l b=match fw cm 0 b l with
   | (k,i,e)=>if e≠0 then (⟨[],[]⟩,i,e) else match fw gP 0 k l with
    | (k',i',e')=>if e'≠0 then (⟨[],[]⟩,i',e') else (k',0,0):=by
 unfold cJ
 rw[hv,h];rfl
theorem vp (W0:World) (l:List (Fm×Fm)) (b:Bd) (hl:l.length<=8) (uJ:∀ x∈l,fitF x.1/\fitF x.2) (hb:BdFit b) (ok:Nat->Prop) (w:World) (la:Option Addr) (lc:Nat) (q:BQ) (ht:Tabs W0 w) (MF:SPairsV ok w (.slice la l.length lc) l) (wm:BindV ok w q b) :
  Calls Tryz.prog 15 #[.slice la l.length lc,q.val] w fun e w'=>(∃p:BQ,e=.returned (.tuple #[p.val,.int .i64 ((cJ l b).2.1:Nat),.int .i64 (cJ l b).2.2])/\BindV (w.heap.size<=·) w' p (cJ l b).1)/\Below w.heap.size w w':=by
 obtain ⟨R,hR⟩:=ao (cJ l b)
 rw[<-hR]
 have MF:=MF.move (ok':=fun b=>b<w.heap.size) (fun b _ hlt=>⟨hlt,rfl⟩)
 have wm:=wm.move (ok':=fun b=>b<w.heap.size) (fun b _ hlt=>⟨hlt,rfl⟩)
 obtain ⟨n1,dT⟩:=ao l.length
 rw[<-dT]at hl MF
 rw[<-dT]
 obtain ⟨W2,aY⟩:=ao ((w.alloc (.cells #[.slice q.a q.l q.c,.slice q.b q.m q.e] 26)).alloc (.cells #[.slice none 0 0,.slice none 0 0] 26))
 have bA:=j7 aY
 have hO:=vE aY
 have x0:=rm aY
 have x1:=iV aY
 have CV:=uh W0 b hb _ W2 (ht.next bA) q (wm.move (cU bA))
 obtain ⟨bv,T9⟩:=ao (bU b)
 rw[<-T9]at CV
 have HV:=eO MF wm ht hb uJ
 have H2:=ce bA hO x0 x1
 obtain ⟨eN,HR,HN,Jg⟩:=eA aY hR dT T9
 obtain ⟨qa,ql,qc,qb,qm,qe⟩:=q
 simp only[BQ.val]at CV
 have T':=ab CV
 obtain ⟨c0,c1,_,_⟩:=qY x0
 simp only at eN c0 c1
 rw[aY]at c0 c1
 simp only at c0 c1
 clear MF wm ht hb uJ bA hO x0 x1 aY hR dT CV T9
 refine (callsIn_wide (n:=3)).1 ?_
 refine callsIn_of_wp_marks Tryz.func15 rfl trivial ?_ rfl
 simp only[BQ.val,Tryz.ntmps15,List.size_toArray,List.length_cons,List.length_nil,Nat.reduceAdd,Nat.reduceSub,Array.replicate_succ,Array.replicate_zero,List.push_toArray,List.append_toArray,List.nil_append,List.cons_append]
 have jb:∀ f,Fence.wide.fn f:=fun _=>trivial
 gi_wp2_with fail
 rw[<-eN.o]
 rw[<-eN.o]at c0 c1
 refine Hv ?_
 cases bv with
 | false=>
  have HE:=ab (show R=(⟨[],[]⟩,0,2) by rw[HR.o];unfold cJ;rw[<-Jg.o];rfl)
  gi_wp2_with (gi_at_call 27;refine callsIn_wide.2 (T'.o.mono ?_);rintro e w3 ⟨rfl,aJ⟩;have Lq:=bC aJ H2.o.2.2.2;obtain ⟨y0,y1,z0,z1⟩:=qY Lq;have H3:=aF aJ Lq;clear aJ Lq)
  obtain ⟨W8,kH,x8,k8,g0,g1⟩:=Au H3.o.2 (.slice none 0 0) (.slice none 0 0)
  rw[<-kH,Exit.noGoto_ret]
  have rf:Below w.heap.size w W8:=Below.kp1 (H2.o.1.tr H3.o.1) k8 (by omega)
  refine dI (B:=w.heap.size) (Marks.nil _ _) (fun w' hn=>?_)
  have h0:=hn.cell g0
  have h1:=hn.cell g1
  refine ⟨.tuple #[.agg #[.slice none 0 0,.slice none 0 0],.int .i64 0,.int .i64 2],by simp[results,Tryz.results15,go_sem,h0,h1],⟨⟨⟨none,0,0,none,0,0⟩,by (rw[HE.o];try rfl),by rw[HE.o];exact mN⟩,ic rf hn⟩⟩
 | true=>
 gi_wp2_with (gi_at_call 27;refine callsIn_wide.2 (T'.o.mono ?_);rintro e w3 ⟨rfl,aJ⟩;have Lq:=bC aJ H2.o.2.2.2;have X':=bC aJ H2.o.2.2.1;have H3:=bx aJ Lq X';clear aJ Lq X')
 clear c0 c1
 have bp:=ab (H2.o.1.tr H3.o.1)
 gi_loopw [23] (fun i wr=>∃j:Nat,j<=n1/\i=.int .i64 j/\Below w3.heap.size w3 wr/\eZ 0 l=eZ j (l.drop j)) (fun i _=>n1 - (intOf i).toNat)
 case atStart=>exact ⟨0,Nat.zero_le _,rfl,Below.refl _ _,by simp⟩
 case round=>
  obtain ⟨j,hj,rfl,az,fL⟩:=hrel
  have ma:Below w.heap.size w wr:=bp.o.tr az
  by_cases hlt:j<n1
  ·have j5:=bR HN.o hlt
   have pp259:=();exact pm259
  ·obtain rfl:n1=j:=by omega
   have hbp:=fL
   rw[List.drop_eq_nil_of_le (by rw[<-HN.o];exact Nat.le_refl _)]at hbp
   have Vn:=ab (show eZ 0 l=none from hbp)
   have Pu:=Db Jg.o.symm Vn.o
   rw[<-HR.o]at Pu
   have Cb:=ab Pu
   obtain ⟨wo,Me⟩:=ao wr
   subst Me
   have x0o:=bC az H3.o.2.2
   have x1o:=bC az H3.o.2.1
   obtain ⟨e0,e1,_,_⟩:=qY x0o
   have CK:=vk b HV.o.2.2.2.1 Jg.o.symm _ wo ⟨qa,ql,qc,qb,qm,qe⟩ (HV.o.2.1.move (cU ma))
   simp only[BQ.val]at CK
   have VH:=ab CK
   have HO:=aF ma x1o
   clear az ma fL hbp Pu CK x0o x1o
   gi_wp2_with (gi_at_call 46;refine callsIn_wide.2 (VH.o.mono ?_);rintro e w6 ⟨rfl,dw,cD⟩;have H6:=aF dw cD;clear dw cD)
   refine Fo ?_
   obtain ⟨kJ,wl⟩:=ao ((w6.alloc (.cells #[.int .i64 0] 3)).alloc (.cells #[.int .i64 0] 30))
   rw[<-wl]
   obtain ⟨K0,RW⟩:=ao wo.heap.size
   obtain ⟨aB,VM⟩:=ao w6.heap.size
   have Jh:=j7 wl
   have Yj:kJ.heap.size=aB+2:=by rw[wl,VM];simp
   have xa:kJ.heap[aB]?=some (.cells #[.int .i64 0] 3 (0,0)):=by rw[wl,VM];exact (Below.heap_alloc _ _ _ (by simp)).trans (aj rfl)
   have xe:kJ.heap[aB+1]?=some (.cells #[.int .i64 0] 30 (0,0)):=by rw[wl,VM];exact aj (by simp)
   have VN:K0+3<aB:=by rw[RW,VM];have:=H6.o.1.ltb;omega
   have HKw:=ab (show w.heap.size+1<K0 by rw[RW];exact (bl HO.o.2))
   have RX:Below w.heap.size w kJ:=(HO.o.1.tr H6.o.2).tr Jh
   have hwK:w.heap.size<=K0:=by rw[RW];exact HO.o.1.size
   obtain ⟨M,hM⟩:∃M:Nat->Prop,M=fun b=>b=K0+1\/b=K0+1+1\/b=aB\/b=aB+1:=⟨_,rfl⟩
   have Bt:KnV (fun b=>¬M b) goodF goodT kJ (K0+1+1+1) (K0+1) (K0+1+1) b.fs.length b.ts.length b:=by
    have h:=H6.o.1.later Jh
    rw[<-RW]at h
    exact h.move (fun b hb _=>⟨by rw[hM];omega,rfl⟩) rfl rfl rfl
   have Yk:=bC (H6.o.2.tr Jh) HO.o.2
   rw[<-RW,<-VM]
   have kz:=eO Yj VN RX hwK Yk
   have H0:=bx xa xe Bt
   have HM:=ab hM
   clear wl Jh Yj xa xe VN RX hwK hM Bt Yk RW VM e0 e1
   gi_wp2_with fail
   refine kl [48,49,50,13,51,52,53,54,55,56,57,14,15,58,59,60,61,62,70,71] 48 (fun us ds wr=>∃i:Nat,i<=2/\us 48=.int .i64 i/\Marks kJ.heap.size wr ds/\Kp M kJ wr/\wr.heap[aB+1]?=some (.cells #[.int .i64 0] 30 (0,0))/\wr.heap[aB]?=some (.cells #[.int .i64 0] 3 (0,0)) ∧
    ∃(k:Bd) (nF nT:Nat),KnV (fun b=>¬M b) goodF goodT wr (K0+1+1+1) (K0+1) (K0+1+1) nF nT k/\nF<=1000+i * 3200/\nT<=1000+i * 1280000/\bU k=true/\(i=0->k=b)/\(i=1->fw cm 0 b l=(k,0,0))/\(i=2->∃k1,fw cm 0 b l=(k1,0,0)/\fw gP 0 k1 l=(k,0,0))) (fun v=>2 - (intOf v).toNat) (by simp) (by decide) ?start2 ?round2
   case start2=>
    exact ⟨0,by omega,rfl,Marks.nil _ _,Kp.refl _,H0.o.2.1,H0.o.1,b,_,_,H0.o.2.2,by have:=HV.o.2.2.2.1.lf;omega,by have:=HV.o.2.2.2.1.lt;omega,Jg.o.symm,fun _=>rfl,fun h=>by omega,fun h=>by omega⟩
   case round2=>
    intro us ds wr hrel
    obtain ⟨i,hi,hu,uA,aZ,DJ,ej,k,nF,nT,dw,pN,oA,Bw,nZ,Yl,sU⟩:=hrel
    simp only[gZ,List.setIfInBounds_toArray,List.set_cons_zero,List.set_cons_succ]
    rw[hu]
    have zS:∀ b,M b->w.heap.size<=b:=fun b hb=>by rw[HM.o]at hb;have:=kz.o.2.2.2.1;have:=kz.o.2.1;omega
    have Ua:¬M (w.heap.size+1):=by rw[HM.o];have:=kz.o.2.2.2.1;have:=kz.o.2.1;have:=(bl kz.o.2.2.2.2);have:=HKw.o;omega
    have VO:=aG kz.o.2.2.1 aZ zS
    have VP:=(aZ.same _ (bl kz.o.2.2.2.2) Ua).trans kz.o.2.2.2.2
    have zJ:=aF zS Ua
    clear zS Ua
    rcases (show i=2\/i=0\/i=1 by omega) with rfl | rfl | rfl
    ·obtain ⟨k1,RM,ye⟩:=sU rfl
     have HE:=ab (show R=(k,0,0) by rw[Cb.o,RM];simp only[ne_eq,not_true_eq_false,↓reduceIte];rw[ye];simp)
     have e0:=ai DJ 0
     have CB:=Fi k Bw goodF goodT (fun _ h=>h.fit) (fun _ h=>h.fit) _ wr _ _ _ nF nT dw (by omega) (by omega)
     have HCB:=ab CB
     have HX:=bx VP VO uA
     clear DJ ej aZ dw CB VP VO uA RM ye nZ Yl sU
     gi_wp2_with (gi_at_call 50;refine callsIn_wide.2 (HCB.o.mono ?_);rintro e w7 ⟨⟨⟨p0,p1,p2,p3,p4,p5⟩,rfl,G5⟩,eT⟩;have T_:=bC eT HX.o.1;obtain ⟨y0,y1,z0,z1⟩:=qY T_;have H7:=bx T_ eT G5;clear T_ eT G5;simp only[BQ.val])
     obtain ⟨W8,kH,x8,k8,g0,g1⟩:=Au H7.o.1 (.slice p0 p1 p2) (.slice p3 p4 p5)
     rw[<-kH,Exit.noGoto_ret]
     have rf:Below w.heap.size w W8:=Below.kp1 (HX.o.2.1.tr H7.o.2.1) k8 (by omega)
     have zcO:=(bl HX.o.1)
     refine dI (B:=kJ.heap.size) (HX.o.2.2.move (fun D hD hd=>(k8.same D (Nat.lt_of_lt_of_le (bl hd) H7.o.2.1.size) (by have:=(bl kz.o.2.2.2.2);omega)).trans ((H7.o.2.1.block D (bl hd)).trans hd))) (fun w' hn=>?_)
     have h0:=hn.cell g0
     have h1:=hn.cell g1
     refine ⟨.tuple #[.agg #[.slice p0 p1 p2,.slice p3 p4 p5],.int .i64 0,.int .i64 0],by simp[results,Tryz.results15,go_sem,h0,h1],⟨⟨⟨p0,p1,p2,p3,p4,p5⟩,by (rw[HE.o];try rfl),?_⟩,ic rf (hn.mono kz.o.2.2.1.size)⟩⟩
     rw[HE.o]
     exact (H7.o.2.2.move (fun b hb hlt=>⟨Nat.le_trans HX.o.2.1.size hb,k8.same b hlt (by omega)⟩)).nw hn
    ·have Vw:=ab (ET W0)
     have e0:=ai DJ 0
     obtain ⟨ny,oV⟩:=ao (wr.alloc (.cells #[(.func (.func 47) #[.pointer (some ⟨K0+1+1+1,0,none⟩)] #[])] 82))
     have o6:=cB oV
     have Qc:=bN oV
     have Nx:=bC o6 DJ
     have pp92:=();exact pm92
    ·have Vw:=ab (KH W0)
     have e0:=ai DJ 0
     obtain ⟨ny,oV⟩:=ao (wr.alloc (.cells #[(.func (.func 48) #[.pointer (some ⟨K0+1+1+1,0,none⟩)] #[])] 82))
     have o6:=cB oV
     have Qc:=bN oV
     have Nx:=bC o6 DJ
     exact pm92
end
end Go.Proofs.YtokemihbkeddoaaGreatDoor
