/-
'Matches' of package match.
-/
import Derived.Test.YtokemihbkeddoaaGreatDoorU14
import Derived.Test.YtokemihbkeddoaaGreatDoorU12
namespace Go.Proofs.YtokemihbkeddoaaGreatDoor
open Go Go.RowKit Lib
set_option maxRecDepth 100000
set_option maxHeartbeats 64000000
variable {w W X Y:World} {b:Nat} {v:Value} {α:Type}
section
attribute [local go_sem] Oper.semAt_some
theorem z6 {P:Program} {a:Addr} {m:Mode} (f:Fn) (xs ys:Array Value):(store a (.func f xs ys) m).run P w=stored P w a (.func f xs ys) m:=run_store P w a _ m rfl
attribute [local go_sem] z6
theorem iA {a0:Value} {T:TypeId} (h:W.heap[b]?=some (.cells #[a0] T (0,0))):(W.setCell ⟨b,0,none⟩ v).heap[b]?=some (.cells #[v] T (0,0)):=(bq (F:=0) h v).trans rfl
theorem iB:Kp (fun c=>c=b) W (W.setCell ⟨b,0,none⟩ v):=
 ⟨rfl,rfl,rfl,by simp,fun c _ hc=>ei _ _ _ _ (by simpa using hc)⟩
theorem iV (h:Below w.heap.size w X) (hn:Nw w.heap.size X Y):Below w.heap.size w Y:=
 ⟨hn.os.trans h.os,hn.tape.trans h.tape,hn.output.trans h.output,aN h.size hn.size,fun b hb=>(hn.old hb (bE hb h.size)).trans (h.block b hb)⟩
theorem aD {M:Nat->Prop} (h:Below w.heap.size w X) (k:Kp M X Y) (hM:∀ b,M b->w.heap.size<=b):Below w.heap.size w Y:=
 ⟨k.os.trans h.os,k.tape.trans h.tape,k.output.trans h.output,aN h.size k.size,fun b hb=>(k.same b (bE hb h.size) (fun hm=>by have:=hM b hm;omega)).trans (h.block b hb)⟩
theorem tT {l:List (Fm×Fm)} {b:Bd} {i:Nat} (hv:bL b=true) (h:fH 0 l=some i):cd l b=(⟨[],[]⟩,i,2):=by
 unfold cd;rw[hv,h];rfl
theorem Ez {l:List (Fm×Fm)} {b:Bd} (hv:bL b=true) (h:fH 0 l=none):cd l b=match d8 bV 0 b l with
   | (k,i,e)=>if e≠0 then (⟨[],[]⟩,i,e) else match d8 eF 0 k l with
    | (k',i',e')=>if e'≠0 then (⟨[],[]⟩,i',e') else (k',0,0):=by
 unfold cd;rw[hv,h];rfl
theorem wO (W0:World) (l:List (Fm×Fm)) (b:Bd) (hl:l.length<=8) (qW:∀ x∈l,fitF x.1/\fitF x.2) (hb:BdFit b) (ok:Nat->Prop) (w:World) (la:Option Addr) (lc:Nat) (q:BQ) (ht:Tabs W0 w) (IZ:SPairsV ok w (.slice la l.length lc) l) (vP:BindV ok w q b) :
  Calls Tryz.prog 15 #[.slice la l.length lc,q.val] w fun e w'=>(∃p:BQ,e=.returned (.tuple #[p.val,.int .i64 ((cd l b).2.1:Nat),.int .i64 (cd l b).2.2])/\BindV (w.heap.size<=·) w' p (cd l b).1)/\Below w.heap.size w w':=by
 obtain ⟨R,hR⟩:=am (cd l b);rw[<-hR];have IZ:=IZ.move (ok':=fun b=>b<w.heap.size) (fun b _ hlt=>⟨hlt,rfl⟩);have vP:=vP.move (ok':=fun b=>b<w.heap.size) (fun b _ hlt=>⟨hlt,rfl⟩);obtain ⟨n1,dX⟩:=am l.length;rw[<-dX]at hl IZ;rw[<-dX];obtain ⟨W2,bm⟩:=am ((w.alloc (.cells #[.slice q.a q.l q.c,.slice q.b q.m q.e] 26)).alloc (.cells #[.slice none 0 0,.slice none 0 0] 26));have bD:=lF bm;have ig:=wW bm;have x0:=sQ bm;have x1:=jA bm;have CV:=vO W0 b hb _ W2 (ht.next bD) q (vP.move (dm bD));obtain ⟨bv,Ww⟩:=am (bL b);rw[<-Ww]at CV;have HV:=fh IZ vP ht hb qW;have H2:=cC bD ig x0 x1;obtain ⟨gK,HR,HN,KN⟩:=eW bm hR dX Ww;obtain ⟨qa,ql,qc,qb,qm,qe⟩:=q;simp only[BQ.val]at CV;have Wx:=ae CV;obtain ⟨c0,c1,_,_⟩:=sB x0;simp only at gK c0 c1;rw[bm]at c0 c1;simp only at c0 c1;clear IZ vP ht hb qW bD ig x0 x1 bm hR dX CV Ww;refine J5 ?_;refine callsIn_of_wp_marks Tryz.func15 rfl trivial ?_ rfl;simp only[BQ.val,Tryz.ntmps15,Nat.reduceAdd,Nat.reduceSub,kM];have g_:=eM;gi_wp2_with fail;rw[<-gK.o];rw[<-gK.o]at c0 c1;refine Jy ?_
 cases bv with
 | false=>
  have HE:=ae (show R=(⟨[],[]⟩,0,2) by rw[HR.o];unfold cd;rw[<-KN.o];rfl);gi_wp2_with (gi_at_call 27;refine aK.2 (Wx.o.mono ?_);rintro e w3 ⟨rfl,aL⟩;have M7:=bR aL H2.o.2.2.2;obtain ⟨y0,y1,z0,z1⟩:=sB M7;have H3:=aG aL M7;clear aL M7);obtain ⟨W8,lr,x8,k8,g0,g1⟩:=By H3.o.2 (.slice none 0 0) (.slice none 0 0);rw[<-lr,Exit.noGoto_ret];have sF:Below w.heap.size w W8:=Below.kp1 (H2.o.1.tr H3.o.1) k8 (by omega);refine ef (B:=w.heap.size) (Marks.nil _ _) (fun w' hn=>?_);have h0:=hn.cell g0;have h1:=hn.cell g1;refine ⟨.tuple #[.agg #[.slice none 0 0,.slice none 0 0],.int .i64 0,.int .i64 2],by simp[results,Tryz.results15,go_sem,h0,h1],⟨⟨⟨none,0,0,none,0,0⟩,by (rw[HE.o];try rfl),by rw[HE.o];exact nA⟩,iV sF hn⟩⟩
 | true=>
 gi_wp2_with (gi_at_call 27;refine aK.2 (Wx.o.mono ?_);rintro e w3 ⟨rfl,aL⟩;have M7:=bR aL H2.o.2.2.2;have x03:=bR aL H2.o.2.2.1;have H3:=bG aL M7 x03;clear aL M7 x03);clear c0 c1;have bQ:=ae (H2.o.1.tr H3.o.1);gi_loopw [23] (fun i wr=>∃j:Nat,j<=n1/\i=.int .i64 j/\Below w3.heap.size w3 wr/\fH 0 l=fH j (l.drop j)) (fun i _=>n1 - (intOf i).toNat)
 case atStart=>exact ⟨0,bc _,rfl,ak _ _,by simp⟩
 case round=>
  obtain ⟨j,hj,rfl,ar,gw⟩:=hrel;have mO:Below w.heap.size w wr:=bQ.o.tr ar
  by_cases hlt:j<n1
  ·have le:=cF HN.o hlt;have pp240:=();exact pm240
  ·obtain rfl:n1=j:=by omega
   have hbp:=gw;rw[iS (by rw[<-HN.o];exact aI _)]at hbp;have X':=ae (show fH 0 l=none from hbp);have Ro:=Ez KN.o.symm X'.o;rw[<-HR.o]at Ro;have xr:=ae Ro;obtain ⟨wo,IJ⟩:=am wr;subst IJ;have x0o:=bR ar H3.o.2.2;have x1o:=bR ar H3.o.2.1;obtain ⟨e0,e1,_,_⟩:=sB x0o;have CK:=wN b HV.o.2.2.2.1 KN.o.symm _ wo ⟨qa,ql,qc,qb,qm,qe⟩ (HV.o.2.1.move (dm mO));simp only[BQ.val]at CK;have Yu:=ae CK;have HO:=aG mO x1o;clear ar mO gw hbp Ro CK x0o x1o;gi_wp2_with (gi_at_call 46;refine aK.2 (Yu.o.mono ?_);rintro e w6 ⟨rfl,dS,cR⟩;have H6:=aG dS cR;clear dS cR);refine GR ?_;obtain ⟨mS,xF⟩:=am ((w6.alloc (.cells #[.int .i64 0] 3)).alloc (.cells #[.int .i64 0] 30));rw[<-xF];obtain ⟨K0,TU⟩:=am wo.heap.size;obtain ⟨aB,Yy⟩:=am w6.heap.size;have KO:=lF xF;have zaq:mS.heap.size=aB+2:=by rw[xF,Yy];simp
   have xa:mS.heap[aB]?=some (.cells #[.int .i64 0] 3 (0,0)):=by rw[xF,Yy];exact (bI _ _ _ (by simp)).trans (aj rfl)
   have xe:mS.heap[aB+1]?=some (.cells #[.int .i64 0] 30 (0,0)):=by rw[xF,Yy];exact aj (by simp)
   have Yz:K0+3<aB:=by rw[TU,Yy];have:=H6.o.1.ltb;omega
   have HKw:=ae (show w.heap.size+1<K0 by rw[TU];exact (bz HO.o.2));have TV:Below w.heap.size w mS:=(HO.o.1.tr H6.o.2).tr KO;have hwK:w.heap.size<=K0:=by rw[TU];exact HO.o.1.size
   obtain ⟨M,hM⟩:∃M:Nat->Prop,M=fun b=>b=K0+1\/b=K0+1+1\/b=aB\/b=aB+1:=⟨_,rfl⟩;have C7:KnV (fun b=>¬M b) goodF goodT mS (K0+1+1+1) (K0+1) (K0+1+1) b.fs.length b.ts.length b:=by
    have h:=H6.o.1.later KO;rw[<-TU]at h;exact h.move (fun b hb _=>⟨by rw[hM];omega,rfl⟩) rfl rfl rfl
   have zar:=bR (H6.o.2.tr KO) HO.o.2;rw[<-TU,<-Yy];have ld:=fh zaq Yz TV hwK zar;have H0:=bG xa xe C7;have HM:=ae hM;clear xF KO zaq xa xe Yz TV hwK hM C7 zar TU Yy e0 e1;gi_wp2_with fail;refine kU [48,49,50,13,51,52,53,54,55,56,57,14,15,58,59,60,61,62,70,71] 48 (fun us ds wr=>∃i:Nat,i<=2/\us 48=.int .i64 i/\Marks mS.heap.size wr ds/\Kp M mS wr/\wr.heap[aB+1]?=some (.cells #[.int .i64 0] 30 (0,0))/\wr.heap[aB]?=some (.cells #[.int .i64 0] 3 (0,0)) ∧
    ∃(k:Bd) (nF nT:Nat),KnV (fun b=>¬M b) goodF goodT wr (K0+1+1+1) (K0+1) (K0+1+1) nF nT k/\nF<=1000+i * 3200/\nT<=1000+i * 1280000/\bL k=true/\(i=0->k=b)/\(i=1->d8 bV 0 b l=(k,0,0))/\(i=2->∃k1,d8 bV 0 b l=(k1,0,0)/\d8 eF 0 k1 l=(k,0,0))) (fun v=>2 - (intOf v).toNat) (by simp) (by decide) ?start2 ?round2
   case start2=>
    exact ⟨0,by omega,rfl,Marks.nil _ _,Kp.refl _,H0.o.2.1,H0.o.1,b,_,_,H0.o.2.2,by have:=HV.o.2.2.2.1.lf;omega,by have:=HV.o.2.2.2.1.lt;omega,KN.o.symm,fun _=>rfl,fun h=>by omega,fun h=>by omega⟩
   case round2=>
    intro us ds wr hrel;obtain ⟨i,hi,hu,wa,bh,Ff,fL,k,nF,nT,dS,qY,pE,xS,o6,hi1,uB⟩:=hrel;simp only[iN,List.setIfInBounds_toArray,List.set_cons_zero,List.set_cons_succ];rw[hu];have AQ:∀ b,M b->w.heap.size<=b:=fun b hb=>by rw[HM.o]at hb;have:=ld.o.2.2.2.1;have:=ld.o.2.1;omega
    have R1:¬M (w.heap.size+1):=by rw[HM.o];have:=ld.o.2.2.2.1;have:=ld.o.2.1;have:=(bz ld.o.2.2.2.2);have:=HKw.o;omega
    have YA:=aD ld.o.2.2.1 bh AQ;have YB:=(bh.same _ (bz ld.o.2.2.2.2) R1).trans ld.o.2.2.2.2;have AG:=aG AQ R1;clear AQ R1;rcases (show i=2\/i=0\/i=1 by omega) with rfl | rfl | rfl
    ·obtain ⟨k1,QK,ze⟩:=uB rfl;have HE:=ae (show R=(k,0,0) by rw[xr.o,QK];simp only[ne_eq,not_true_eq_false,↓reduceIte];rw[ze];simp);have e0:=ai Ff 0;have CB:=GN k xS goodF goodT (fun _ h=>h.fit) (fun _ h=>h.fit) _ wr _ _ _ nF nT dS (by omega) (by omega);have HCB:=ae CB;have HX:=bG YB YA wa;clear Ff fL bh dS CB YB YA wa QK ze o6 hi1 uB;gi_wp2_with (gi_at_call 50;refine aK.2 (HCB.o.mono ?_);rintro e w7 ⟨⟨⟨p0,p1,p2,p3,p4,p5⟩,rfl,I6⟩,fw⟩;have Wy:=bR fw HX.o.1;obtain ⟨y0,y1,z0,z1⟩:=sB Wy;have H7:=bG Wy fw I6;clear Wy fw I6;simp only[BQ.val]);obtain ⟨W8,lr,x8,k8,g0,g1⟩:=By H7.o.1 (.slice p0 p1 p2) (.slice p3 p4 p5);rw[<-lr,Exit.noGoto_ret];have sF:Below w.heap.size w W8:=Below.kp1 (HX.o.2.1.tr H7.o.2.1) k8 (by omega);have zep:=(bz HX.o.1);refine ef (B:=mS.heap.size) (HX.o.2.2.move (fun D hD hd=>(k8.same D (bE (bz hd) H7.o.2.1.size) (by have:=(bz ld.o.2.2.2.2);omega)).trans ((H7.o.2.1.block D (bz hd)).trans hd))) (fun w' hn=>?_);have h0:=hn.cell g0;have h1:=hn.cell g1;refine ⟨.tuple #[.agg #[.slice p0 p1 p2,.slice p3 p4 p5],.int .i64 0,.int .i64 0],by simp[results,Tryz.results15,go_sem,h0,h1],⟨⟨⟨p0,p1,p2,p3,p4,p5⟩,by (rw[HE.o];try rfl),?_⟩,iV sF (hn.mono ld.o.2.2.1.size)⟩⟩;rw[HE.o];exact (H7.o.2.2.move (fun b hb hlt=>⟨aN HX.o.2.1.size hb,k8.same b hlt (by omega)⟩)).nw hn
    ·have Yj:=ae (Gk W0);have e0:=ai Ff 0;obtain ⟨mj,pY⟩:=am (wr.alloc (.cells #[(.func (.func 47) #[.pointer (some ⟨K0+1+1+1,0,none⟩)] #[])] 82));have qg:=cZ pY;have RW:=cb pY;have O5:=bR qg Ff;have pp71:=();exact pm71
    ·have Yj:=ae (Me W0);have e0:=ai Ff 0;obtain ⟨mj,pY⟩:=am (wr.alloc (.cells #[(.func (.func 48) #[.pointer (some ⟨K0+1+1+1,0,none⟩)] #[])] 82));have qg:=cZ pY;have RW:=cb pY;have O5:=bR qg Ff;exact pm71
mutual
theorem oD:∀ (s f:Fm) (c:Sco),okF true s=true->∀ p∈bA c s f,okF true p.s=true
 | .mk o n a l,.mk o' n' a' l',c,h,p,hp=>by
  simp only[bA,cY]at hp;rcases hp with rfl | hp
  ·exact h
  ·simp only[okF,ah]at h;exact wP l l' _ h.2.2.2.2 p hp
theorem wP:∀ (s f:List Fm) (c:Sco),dD true s=true->∀ p∈aT c s f,okF true p.s=true
 | [],_,c,_,p,hp=>by simp[aT]at hp
 | _ :: _,[],c,_,p,hp=>by simp[aT]at hp
 | t :: l,u :: m,c,h,p,hp=>by
  simp only[dD,ah]at h;simp only[aT,List.mem_append]at hp;rcases hp with hp | hp
  ·exact oD t u c h.1 p hp
  ·exact wP l m c h.2 p hp
end
theorem Pg {mR:Nat->Prop} {kb mF mT nF nT:Nat} {k:Bd} (dS:KnV mR goodF goodT W kb mF mT nF nT k) (s:Fm) (hs:okF true s=true) (qJ:nodesF s<=400):kX k s<=1000000:=by
 obtain ⟨o,n,a,l⟩:=s;have hn:=zK (ia _ hs);rw[Gu];have h1:nodesF (formOf k.fs n)<=400:=by obtain ⟨q,_,_,h,_⟩:=dS.formOf (x:=n) (by have:=hn.2.1;omega);exact h
 split
 ·omega
 ·split
  ·rename_i fG;subst fG;obtain ⟨x,y,rfl,hx,hy,hi⟩:=js hs;rw[hi];have h2:=ov (dc x) (formOf k.fs n);have h3:=kn dS (x:=y) (by have:=fA hy;omega);have:gY (dc x) (formOf k.fs n) * (nodesT (termOf k.ts y) - 1)<=400 * 1000:=Nat.mul_le_mul (by omega) (by omega);simp only;omega
  ·have h4:=qL (fun x hx=>kn dS (x:=x) hx) a (dQ (by omega) a hn.2.2.1);have h5:nodesTs a<=400:=by simp only[nodesF]at qJ;omega
   omega
theorem tW {f:α->Bool} {l:List α} {x:α} (h:l.any f=false):(l ++ [x]).any f=f x:=by simp[h]
theorem KR {f:α->Bool} {l m:List α} (h:l <+: m) (hl:l.any f=true):m.any f=true:=by
 obtain ⟨r,rfl⟩:=h;simp[hl]
theorem R4 {l m:List Nat} (h:l <+: m):l.sum<=m.sum:=by
 obtain ⟨r,rfl⟩:=h;simp
theorem Mm (mR:Nat->Prop) (kb mF mT nF nT:Nat) (kd:Bd) (s:Fm) (hs:okF true s=true) (qJ:nodesF s<=400) (ok:Nat->Prop) (w:World) (dS:KnV mR goodF goodT w kb mF mT nF nT kd) (q:FQ) (hq:FormV ok w q.val s) :
  Calls Tryz.prog 71 #[.pointer (some ⟨kb,0,none⟩),q.val] w fun e w'=>e=.returned (.int .i64 (pu kd s))/\Below w.heap.size w w':=by
 have hq:=hq.lt;have az:fitF s:=⟨by omega,gz (by omega) s (ia _ hs)⟩;obtain ⟨R,hR⟩:=am (pu kd s);rw[<-hR];unfold pu at hR;obtain ⟨so,sn,sa,sl,sc,sb,sm,se⟩:=q;obtain ⟨W1,bX⟩:=am (((w.alloc (.cells #[.pointer (some ⟨kb,0,none⟩)] 80)).alloc (.cells #[.int .u8 so,.string sn,.slice sa sl sc,.slice sb sm se] 36)).alloc (.cells #[.int .i64 0] 30));have hb1:=wX bX;have i_:=Hu bX;have xk1:=xZ bX;have xs1:=rj bX;have xr1:=pg bX;have HP:=fh hs qJ az dS hq;have H1:=fh hb1 i_ xk1 xs1 xr1;obtain ⟨iR,HR⟩:=a_ bX hR;clear hs qJ az dS hq hb1 i_ xk1 xs1 xr1 bX hR;refine J5 ?_;refine callsIn_of_wp_marks Tryz.func71 rfl trivial ?_ rfl;simp only[FQ.val,Tryz.ntmps71,Nat.reduceAdd,Nat.reduceSub,kM];have g_:=eM;obtain ⟨d0,d1,d2,d3⟩:=mm H1.o.2.2.2.1;rw[iR.o]at d0 d1 d2 d3;have HMk:=ae (show w.heap.size≠w.heap.size+1+1 by omega);have YC:=fh H1.o.1 H1.o.2.2.1 H1.o.2.2.2.1 H1.o.2.2.2.2 (Marks.nil w.heap.size W1);obtain ⟨R5,Ph⟩:∃bad:Pl->Bool,bad=fun p=>iJ kd p.s:=⟨_,rfl⟩;have zas:=ae (show ∀ p,iJ kd p.s=R5 p from fun p=>by rw[Ph]);have R6:=ae Ph;clear Ph;obtain ⟨R7,Pi⟩:∃bad:Pl->Bool,bad=fun p=>BZ kd p:=⟨_,rfl⟩;have zat:=ae (show ∀ p,BZ kd p=R7 p from fun p=>by rw[Pi]);have WI:=ae Pi;clear Pi;obtain ⟨EF,Pj⟩:∃bad:Pl->Nat,bad=fun p=>kX kd p.s:=⟨_,rfl⟩;have TW:=ae (show ∀ p,kX kd p.s=EF p from fun p=>by rw[Pj]);have zau:=ae Pj;clear Pj;obtain ⟨V1,YD⟩:=am (gT W1 ⟨so,sn,sa,sl,sc,sb,sm,se⟩ ⟨so,sn,sa,sl,sc,sb,sm,se⟩);obtain ⟨M1,R1⟩:∃M:Nat->Prop,M=(fun b=>b=w.heap.size+1+1):=⟨_,rfl⟩;have Kv:Below W1.heap.size W1 V1:=by rw[YD];exact fB _ _ _
 have i_:V1.heap.size=W1.heap.size+2:=by rw[YD,jP]
 have xX1:V1.heap[W1.heap.size]?=some (.cells #[.int .u8 so,.string sn,.slice sa sl sc,.slice sb sm se] 36 (0,0)):=by rw[YD];exact kG _ _ _
 have xY1:V1.heap[W1.heap.size+1]?=some (.cells #[.int .u8 so,.string sn,.slice sa sl sc,.slice sb sm se] 36 (0,0)):=by rw[YD];exact kH _ _ _
 have R8:=YC.o.1.tr Kv;have zcz:=(bz YC.o.2.2.2.1);have Pk:∀ b,M1 b->w.heap.size<=b/\b<W1.heap.size:=fun b hb=>by rw[R1]at hb;subst hb;omega
 have WJ:FormV (fun b=>b<V1.heap.size/\¬M1 b) V1 (FQ.val ⟨so,sn,sa,sl,sc,sb,sm,se⟩) s:=HP.o.2.2.2.2.move (fun b hb hlt=>⟨⟨bE hb R8.size,fun hm=>by have:=(Pk b hm).1;omega⟩,R8.block b hlt⟩);have TX:=lZ s s HP.o.2.2.1 (by have:=HP.o.2.1;omega) M1 V1.heap.size W1.heap.size (W1.heap.size+1) V1 ⟨so,sn,sa,sl,sc,sb,sm,se⟩ ⟨so,sn,sa,sl,sc,sb,sm,se⟩ xX1 (fun h=>by have:=(Pk _ h).2;omega) xY1 (fun h=>by have:=(Pk _ h).2;omega) WJ WJ;obtain ⟨zcA,R9,Hq⟩:=cG TX Pk R1;have Iy:=cC R8 i_ (bR Kv YC.o.2.1) (bR Kv YC.o.2.2.2.1);have Hv1:=aG Kv (YC.o.2.2.2.2.move (fun D _ hd=>(Kv.block D (bz hd)).trans hd));have zcB:=ae YD;clear YD R1 Kv i_ xX1 xY1 R8 zcz Pk WJ TX;gi_wp2_with fail;refine aK.2 ((lY ⟨so,sn,sa,sl,sc,sb,sm,se⟩ ⟨so,sn,sa,sl,sc,sb,sm,se⟩ _).mono ?_);rintro e w' ⟨rfl,rfl⟩
 try clear d0 d1 d2 d3
 rw[<-iR.o];rw[<-zcB.o];gi_wp2_with fail;have eg:∀ args W,(callFunc 102 args).run Tryz.prog W=.ok (.enter 102 args) W:=enters_of Tryz.func102 (by kernel_rfl) rfl;refine gi rfl eg (fun b hb=>by have:=(R9.o b hb).2;have:=Iy.o.2.1;omega) zcA.o (fun _ _ _ h=>by obtain ⟨q,ps,rfl,_⟩:=h;rfl)
  (fun pre X=>pre.any R5=false/\X.heap[w.heap.size+1+1]?=some (.cells #[.int .i64 0] 30 (0,0))/\Kp M1 V1 X)
  (fun c pre X=>c=.ret/\pre.any R5=true/\X.heap[w.heap.size+1+1]?=some (.cells #[.int .i64 6] 30 (0,0))/\Kp M1 V1 X)
  (fun s=>?hI1) (fun c s=>?hIx1) ⟨rfl,Iy.o.2.2.2,Kp.refl _⟩ ?round1 ?done1 ?stop1
 case hI1=>
  rintro X Y hn ⟨h1,h2,h3⟩;exact ⟨h1,hn.cells h2,mU h3 hn⟩
 case hIx1=>
  exact pm289
 case round1=>
  rintro lR pre vs x W hl xj ⟨h1,h2,h3⟩ ⟨q,ps,rfl,KP,mq,sO,Bl,gU⟩ E5 dn;have pp18a:=();exact pm18
 case done1=>
  rintro D X hD ⟨h1,h2,h3⟩ WK hd;obtain ⟨X2,hX⟩:=am X;rw[<-hX]at h2 h3 WK hd ⊢;clear hX X;have z_:Below w.heap.size w X2:=aD Iy.o.1 h3 (fun b hb=>(R9.o b hb).1);have jS:Marks w.heap.size X2 _:=Hv1.o.2.more (w':=X2) (fun E hE hx=>(h3.same E (bz hx) (fun hm=>by rw[Hq.o]at hm;subst hm;rw[Iy.o.2.2.2]at hx;cases hx)).trans hx) hD (aN Iy.o.1.size hD) hd;have xkX:=(h3.same _ (bz Iy.o.2.2.1) (fun h=>by have:=HMk.o;rw[Hq.o]at h;omega)).trans Iy.o.2.2.1;have WL:=bR Hv1.o.1 YC.o.2.2.1;have WM:=(h3.same _ (bz WL) (fun h=>by rw[Hq.o]at h;omega)).trans WL;have HA1:=ae h1;have AC:=fh z_ xkX WM h2 jS;obtain ⟨d0,d1,d2,d3⟩:=mm WM;clear h1 h2 h3 WK hd z_ jS xkX WL WM hD;obtain ⟨V2,YE⟩:=am (gT X2 ⟨so,sn,sa,sl,sc,sb,sm,se⟩ ⟨so,sn,sa,sl,sc,sb,sm,se⟩);obtain ⟨M2,hM2⟩:∃M:Nat->Prop,M=(fun b=>b=w.heap.size+1+1):=⟨_,rfl⟩;have jd:Below X2.heap.size X2 V2:=by rw[YE];exact fB _ _ _
  have ig:V2.heap.size=X2.heap.size+2:=by rw[YE,jP]
  have xX2:V2.heap[X2.heap.size]?=some (.cells #[.int .u8 so,.string sn,.slice sa sl sc,.slice sb sm se] 36 (0,0)):=by rw[YE];exact kG _ _ _
  have xY2:V2.heap[X2.heap.size+1]?=some (.cells #[.int .u8 so,.string sn,.slice sa sl sc,.slice sb sm se] 36 (0,0)):=by rw[YE];exact kH _ _ _
  have Sa:=AC.o.1.tr jd;have zcC:=(bz AC.o.2.2.2.1);have Pn:∀ b,M2 b->w.heap.size<=b/\b<X2.heap.size:=fun b hb=>by rw[hM2]at hb;subst hb;omega
  have WN:FormV (fun b=>b<V2.heap.size/\¬M2 b) V2 (FQ.val ⟨so,sn,sa,sl,sc,sb,sm,se⟩) s:=HP.o.2.2.2.2.move (fun b hb hlt=>⟨⟨bE hb Sa.size,fun hm=>by have:=(Pn b hm).1;omega⟩,Sa.block b hlt⟩);have TZ:=lZ s s HP.o.2.2.1 (by have:=HP.o.2.1;omega) M2 V2.heap.size X2.heap.size (X2.heap.size+1) V2 ⟨so,sn,sa,sl,sc,sb,sm,se⟩ ⟨so,sn,sa,sl,sc,sb,sm,se⟩ xX2 (fun h=>by have:=(Pn _ h).2;omega) xY2 (fun h=>by have:=(Pn _ h).2;omega) WN WN;obtain ⟨zcD,Sb,YF⟩:=cG TZ Pn hM2;have F0:=cC Sa ig (bR jd AC.o.2.1) (bR jd AC.o.2.2.2.1);have Hv2:=aG jd (AC.o.2.2.2.2.move (fun D _ hd=>(jd.block D (bz hd)).trans hd));have zcE:=ae YE;clear YE hM2 jd ig xX2 xY2 Sa zcC Pn WN TZ;gi_wp2_with fail;refine aK.2 ((lY ⟨so,sn,sa,sl,sc,sb,sm,se⟩ ⟨so,sn,sa,sl,sc,sb,sm,se⟩ _).mono ?_);rintro e w' ⟨rfl,rfl⟩
  try clear d0 d1 d2 d3
  rw[<-zcE.o];gi_wp2_with fail;have eg:∀ args W,(callFunc 102 args).run Tryz.prog W=.ok (.enter 102 args) W:=enters_of Tryz.func102 (by kernel_rfl) rfl;refine gi rfl eg (fun b hb=>by have:=(Sb.o b hb).2;have:=F0.o.2.1;omega) zcD.o (fun _ _ _ h=>by obtain ⟨q,ps,rfl,_⟩:=h;rfl)
   (fun pre X=>pre.any R7=false/\X.heap[w.heap.size+1+1]?=some (.cells #[.int .i64 0] 30 (0,0))/\Kp M2 V2 X)
   (fun c pre X=>c=.ret/\pre.any R7=true/\X.heap[w.heap.size+1+1]?=some (.cells #[.int .i64 72] 30 (0,0))/\Kp M2 V2 X)
   (fun s=>?hI2) (fun c s=>?hIx2) ⟨rfl,F0.o.2.2.2,Kp.refl _⟩ ?round2 ?done2 ?stop2
  case hI2=>
   rintro X Y hn ⟨h1,h2,h3⟩;exact ⟨h1,hn.cells h2,mU h3 hn⟩
  case hIx2=>
   exact pm289
  case round2=>
   rintro lR pre vs x W hl xj ⟨h1,h2,h3⟩ ⟨q,ps,rfl,KP,mq,sO,Bl,gU⟩ E5 dn;have pp18b:=();exact pm18
  case done2=>
   rintro D X hD ⟨h1,h2,h3⟩ WK hd;obtain ⟨X3,hX⟩:=am X;rw[<-hX]at h2 h3 WK hd ⊢;clear hX X;have z_:Below w.heap.size w X3:=aD F0.o.1 h3 (fun b hb=>(Sb.o b hb).1);have jS:Marks w.heap.size X3 _:=Hv2.o.2.more (w':=X3) (fun E hE hx=>(h3.same E (bz hx) (fun hm=>by rw[YF.o]at hm;subst hm;rw[F0.o.2.2.2]at hx;cases hx)).trans hx) hD (aN F0.o.1.size hD) hd;have xkX:=(h3.same _ (bz F0.o.2.2.1) (fun h=>by have:=HMk.o;rw[YF.o]at h;omega)).trans F0.o.2.2.1;have WL:=bR Hv2.o.1 AC.o.2.2.1;have WM:=(h3.same _ (bz WL) (fun h=>by rw[YF.o]at h;omega)).trans WL;have Y9:=ae h1;have YG:=fh z_ xkX WM h2 jS;obtain ⟨d0,d1,d2,d3⟩:=mm WM;clear h1 h2 h3 WK hd z_ jS xkX WL WM hD;obtain ⟨nB,hnB⟩:=am X3.heap.size;obtain ⟨X4,YH⟩:=am (X3.alloc (.cells #[.int .i64 0] 3));have AW:=cZ YH;have Oj:X4.heap.size=nB+1:=by rw[YH,hnB];simp
   have WO:X4.heap[nB]?=some (.cells #[.int .i64 0] 3 (0,0)):=by rw[YH,hnB];exact aj rfl
   have Ok:=(bz YG.o.2.2.2.1);have HnB:=ae (show w.heap.size+1+1<nB/\nB+1=X4.heap.size by rw[Oj,hnB];exact ⟨Ok,rfl⟩);have xs4:=bR AW YG.o.2.2.1;have HU3:=fh (YG.o.1.tr AW) (bR AW YG.o.2.1) xs4 ((AW.block _ Ok).trans YG.o.2.2.2.1) (YG.o.2.2.2.2.move (fun D _ hd=>(AW.block D (bz hd)).trans hd));obtain ⟨HnU,HX4⟩:=a_ WO YH;clear d0 d1 d2 d3;obtain ⟨d0,d1,d2,d3⟩:=mm xs4;rw[YH]at d0 d1 d2 d3;have zcF:=ae hnB;clear hnB YH AW Oj WO Ok xs4;obtain ⟨V3,YI⟩:=am (gT X4 ⟨so,sn,sa,sl,sc,sb,sm,se⟩ ⟨so,sn,sa,sl,sc,sb,sm,se⟩);obtain ⟨M3,hM3⟩:∃M:Nat->Prop,M=(fun b=>b=w.heap.size+1+1\/b=nB):=⟨_,rfl⟩;have WP:Below X4.heap.size X4 V3:=by rw[YI];exact fB _ _ _
   have oR:V3.heap.size=X4.heap.size+2:=by rw[YI,jP]
   have xX3:V3.heap[X4.heap.size]?=some (.cells #[.int .u8 so,.string sn,.slice sa sl sc,.slice sb sm se] 36 (0,0)):=by rw[YI];exact kG _ _ _
   have xY3:V3.heap[X4.heap.size+1]?=some (.cells #[.int .u8 so,.string sn,.slice sa sl sc,.slice sb sm se] 36 (0,0)):=by rw[YI];exact kH _ _ _
   have Sc:=HU3.o.1.tr WP;have zcG:=(bz HU3.o.2.2.2.1);have Po:∀ b,M3 b->w.heap.size<=b/\b<X4.heap.size:=fun b hb=>by rw[hM3]at hb;have:=HnB.o;rcases hb with rfl | rfl <;> omega
   have WQ:FormV (fun b=>b<V3.heap.size/\¬M3 b) V3 (FQ.val ⟨so,sn,sa,sl,sc,sb,sm,se⟩) s:=HP.o.2.2.2.2.move (fun b hb hlt=>⟨⟨bE hb Sc.size,fun hm=>by have:=(Po b hm).1;omega⟩,Sc.block b hlt⟩);have T0:=lZ s s HP.o.2.2.1 (by have:=HP.o.2.1;omega) M3 V3.heap.size X4.heap.size (X4.heap.size+1) V3 ⟨so,sn,sa,sl,sc,sb,sm,se⟩ ⟨so,sn,sa,sl,sc,sb,sm,se⟩ xX3 (fun h=>by have:=(Po _ h).2;omega) xY3 (fun h=>by have:=(Po _ h).2;omega) WQ WQ;obtain ⟨zcH,Sd,HM3⟩:=cG T0 Po hM3;have Pp:=cC Sc oR (bR WP HU3.o.2.1) (bR WP HU3.o.2.2.2.1);have Hv3:=aG WP (HU3.o.2.2.2.2.move (fun D _ hd=>(WP.block D (bz hd)).trans hd));have zcI:=ae YI;have HnV:=ae (bR WP HnU.o);clear YI hM3 WP oR xX3 xY3 Sc zcG Po WQ T0;gi_wp2_with fail;refine aK.2 ((lY ⟨so,sn,sa,sl,sc,sb,sm,se⟩ ⟨so,sn,sa,sl,sc,sb,sm,se⟩ _).mono ?_);rintro e w' ⟨rfl,rfl⟩
   try clear d0 d1 d2 d3
   rw[<-zcF.o,<-HX4.o];rw[<-zcI.o];gi_wp2_with fail;have eg:∀ args W,(callFunc 102 args).run Tryz.prog W=.ok (.enter 102 args) W:=enters_of Tryz.func102 (by kernel_rfl) rfl;refine gi rfl eg (fun b hb=>by have:=(Sd.o b hb).2;have:=Pp.o.2.1;omega) zcH.o (fun _ _ _ h=>by obtain ⟨q,ps,rfl,_⟩:=h;rfl)
    (fun pre X=>(pre.map EF).sum<=400/\X.heap[nB]?=some (.cells #[.int .i64 ((pre.map EF).sum:Nat)] 3 (0,0))/\X.heap[w.heap.size+1+1]?=some (.cells #[.int .i64 0] 30 (0,0))/\Kp M3 V3 X)
    (fun c pre X=>c=.ret/\400<(pre.map EF).sum/\X.heap[w.heap.size+1+1]?=some (.cells #[.int .i64 3] 30 (0,0))/\Kp M3 V3 X)
    (fun s=>?hI3) (fun c s=>?hIx3) ⟨by simp,by simpa using HnV.o,Pp.o.2.2.2,Kp.refl _⟩ ?round3 ?done3 ?stop3
   case hI3=>
    rintro X Y hn ⟨h1,h2,h3,h4⟩;exact ⟨h1,hn.cells h2,hn.cells h3,mU h4 hn⟩
   case hIx3=>
    exact pm289
   case round3=>
    rintro lR pre vs x W hl xj ⟨h1,h2,h3,h4⟩ ⟨q,ps,rfl,KP,mq,sO,Bl,gU⟩ E5 dn;have pp18c:=();exact pm18
   case done3=>
    rintro D X hD ⟨h1,h2,h3,h4⟩ WK hd;have HE:=ae (show R=0 by rw[HR.o,aw (by rw[<-R6.o,HA1.o];simp),aw (by have h:=Y9.o;rw[WI.o]at h;rw[h];simp),aw (by rw[<-zau.o];omega)]);have pp105:=();exact pm105
   case stop3=>
    rintro D c pre X _ hD dn ⟨rfl,h2,h3,h4⟩ hd;exact pm105
  case stop2=>
   rintro D c pre X _ hD dn ⟨rfl,h2,h3,h4⟩ hd;have z_:Below w.heap.size w X:=aD F0.o.1 h4 (fun b hb=>(Sb.o b hb).1);have jS:Marks w.heap.size X _:=Hv2.o.2.more (w':=X) (fun E hE hx=>(h4.same E (bz hx) (fun hm=>by rw[YF.o]at hm;subst hm;rw[F0.o.2.2.2]at hx;cases hx)).trans hx) hD (aN F0.o.1.size hD) hd;have HE:=ae (show R=72 by rw[HR.o,aw (by rw[<-R6.o,HA1.o];simp),aH (by have:=KR dn h2;rwa [WI.o]at this)]);have pp202:=();exact pm202
 case stop1=>
  rintro D c pre X _ hD dn ⟨rfl,h2,h3,h4⟩ hd;have z_:Below w.heap.size w X:=aD Iy.o.1 h4 (fun b hb=>(R9.o b hb).1);have jS:Marks w.heap.size X _:=Hv1.o.2.more (w':=X) (fun E hE hx=>(h4.same E (bz hx) (fun hm=>by rw[Hq.o]at hm;subst hm;rw[Iy.o.2.2.2]at hx;cases hx)).trans hx) hD (aN Iy.o.1.size hD) hd;have HE:=ae (show R=6 by rw[HR.o,aH (by rw[<-R6.o];exact KR dn h2)]);exact pm202
