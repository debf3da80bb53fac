/-
'Matches' of package match.
-/
import Derived.Test.YtokemihbkeddoaaGreatDoorU15
import Derived.Test.YtokemihbkeddoaaGreatDoorU12
import Derived.Test.YtokemihbkeddoaaGreatDoorU13
namespace Go.Proofs.YtokemihbkeddoaaGreatDoor
open Go Go.RowKit Lib
set_option maxRecDepth 100000
set_option maxHeartbeats 64000000
variable {w W X Y:World} {b:Nat} {v:Value} {α:Type}
section
attribute [local go_sem] Oper.semAt_some
theorem BO {P:Program} {a:Addr} {m:Mode} (f:Fn) (xs ys:Array Value):(store a (.func f xs ys) m).run P w=stored P w a (.func f xs ys) m:=run_store P w a _ m rfl
attribute [local go_sem] BO
theorem iV {a0:Value} {T:TypeId} (h:W.heap[b]?=some (.cells #[a0] T (0,0))):(W.setCell ⟨b,0,none⟩ v).heap[b]?=some (.cells #[v] T (0,0)):=(aY (F:=0) h v).trans rfl
theorem iW:Kp (fun c=>c=b) W (W.setCell ⟨b,0,none⟩ v):=
 ⟨rfl,rfl,rfl,by simp,fun c _ hc=>dV _ _ _ _ (by simpa using hc)⟩
theorem jo (h:Below w.heap.size w X) (hn:Nw w.heap.size X Y):Below w.heap.size w Y:=
 ⟨hn.os.trans h.os,hn.tape.trans h.tape,hn.output.trans h.output,aU h.size hn.size,fun b hb=>(hn.old hb (bH hb h.size)).trans (h.block b hb)⟩
theorem aQ {M:Nat->Prop} (h:Below w.heap.size w X) (k:Kp M X Y) (hM:∀ b,M b->w.heap.size<=b):Below w.heap.size w Y:=
 ⟨k.os.trans h.os,k.tape.trans h.tape,k.output.trans h.output,aU h.size k.size,fun b hb=>(k.same b (bH hb h.size) (fun hm=>by have:=hM b hm;omega)).trans (h.block b hb)⟩
theorem vK {l:List (Fm×Fm)} {b:Bd} {i:Nat} (hv:bw b=true) (h:gg 0 l=some i):cg l b=(⟨[],[]⟩,i,2):=by
 unfold cg;rw[hv,h];rfl
theorem FX {l:List (Fm×Fm)} {b:Bd} (hv:bw b=true) (h:gg 0 l=none):cg l b=match ew bK 0 b l with
   | (k,i,e)=>if e≠0 then (⟨[],[]⟩,i,e) else match ew ev 0 k l with
    | (k',i',e')=>if e'≠0 then (⟨[],[]⟩,i',e') else (k',0,0):=by
 unfold cg;rw[hv,h];rfl
theorem yD (W0:World) (l:List (Fm×Fm)) (b:Bd) (hl:l.length<=8) (r':∀ x∈l,fitF x.1/\fitF x.2) (hb:BdFit b) (ok:Nat->Prop) (w:World) (la:Option Addr) (lc:Nat) (q:BQ) (ht:Tabs W0 w) (J9:SPairsV ok w (.slice la l.length lc) l) (xz:BindV ok w q b) :
  Calls Tryz.prog 15 #[.slice la l.length lc,q.val] w fun e w'=>(∃p:BQ,e=.returned (.tuple #[p.val,.int .i64 ((cg l b).2.1:Nat),.int .i64 (cg l b).2.2])/\BindV (w.heap.size<=·) w' p (cg l b).1)/\Below w.heap.size w w':=by
 obtain ⟨R,hR⟩:=am (cg l b);rw[<-hR];have J9:=J9.move (ok':=fun b=>b<w.heap.size) (fun b _ hlt=>⟨hlt,rfl⟩);have xz:=xz.move (ok':=fun b=>b<w.heap.size) (fun b _ hlt=>⟨hlt,rfl⟩);obtain ⟨n1,ea⟩:=am l.length;rw[<-ea]at hl J9;rw[<-ea];obtain ⟨W2,a_⟩:=am ((w.alloc (.cells #[.slice q.a q.l q.c,.slice q.b q.m q.e] 26)).alloc (.cells #[.slice none 0 0,.slice none 0 0] 26));have bB:=lv a_;have iy:=yJ a_;have x0:=t_ a_;have x1:=j_ a_;have CV:=xy W0 b hb _ W2 (ht.next bB) q (xz.move (dw bB));obtain ⟨bv,XB⟩:=am (bw b);rw[<-XB]at CV;have HV:=fE J9 xz ht hb r';have H2:=cG bB iy x0 x1;obtain ⟨fp,HR,HN,L8⟩:=eH a_ hR ea XB;obtain ⟨qa,ql,qc,qb,qm,qe⟩:=q;simp only[BQ.val]at CV;have XC:=ac CV;obtain ⟨c0,c1,_,_⟩:=tN x0;simp only at fp c0 c1;rw[a_]at c0 c1;simp only at c0 c1;clear J9 xz ht hb r' bB iy x0 x1 a_ hR ea CV XB;refine Lh ?_;refine callsIn_of_wp_marks Tryz.func15 rfl trivial ?_ rfl;simp only[BQ.val,Tryz.ntmps15,Nat.reduceAdd,Nat.reduceSub,lu];have iz:=fd;gi_wp2_with fail;rw[<-fp.o];rw[<-fp.o]at c0 c1;refine KL ?_
 cases bv with
 | false=>
  have HE:=ac (show R=(⟨[],[]⟩,0,2) by rw[HR.o];unfold cg;rw[<-L8.o];rfl);gi_wp2_with (gi_at_call 27;refine aK.2 (XC.o.mono ?_);rintro e w3 ⟨rfl,aM⟩;have Ov:=bJ aM H2.o.2.2.2;obtain ⟨y0,y1,z0,z1⟩:=tN Ov;have H3:=aG aM Ov;clear aM Ov);obtain ⟨W8,l8,x8,k8,g0,g1⟩:=Dv H3.o.2 (.slice none 0 0) (.slice none 0 0);rw[<-l8,Exit.noGoto_ret];have tR:Below w.heap.size w W8:=Below.kp1 (H2.o.1.tr H3.o.1) k8 (by omega);refine em (B:=w.heap.size) (Marks.nil _ _) (fun w' hn=>?_);have h0:=hn.cell g0;have h1:=hn.cell g1;refine ⟨.tuple #[.agg #[.slice none 0 0,.slice none 0 0],.int .i64 0,.int .i64 2],by simp[results,Tryz.results15,go_sem,h0,h1],⟨⟨⟨none,0,0,none,0,0⟩,by (rw[HE.o];try rfl),by rw[HE.o];exact oC⟩,jo tR hn⟩⟩
 | true=>
 gi_wp2_with (gi_at_call 27;refine aK.2 (XC.o.mono ?_);rintro e w3 ⟨rfl,aM⟩;have Ov:=bJ aM H2.o.2.2.2;have x03:=bJ aM H2.o.2.2.1;have H3:=bF aM Ov x03;clear aM Ov x03);clear c0 c1;have bD:=ac (H2.o.1.tr H3.o.1);gi_loopw [23] (fun i wr=>∃j:Nat,j<=n1/\i=.int .i64 j/\Below w3.heap.size w3 wr/\gg 0 l=gg j (l.drop j)) (fun i _=>n1 - (intOf i).toNat)
 case atStart=>exact ⟨0,aX _,rfl,aj _ _,by simp⟩
 case round=>
  obtain ⟨j,hj,rfl,ar,gP⟩:=hrel;have nJ:Below w.heap.size w wr:=bD.o.tr ar
  by_cases hlt:j<n1
  ·have lr:=ce HN.o hlt;have pp263:=();exact pm263
  ·obtain rfl:n1=j:=by omega
   have hbp:=gP;rw[gD (by rw[<-HN.o];exact aD _)]at hbp;have Y1:=ac (show gg 0 l=none from hbp);have SN:=FX L8.o.symm Y1.o;rw[<-HR.o]at SN;have y_:=ac SN;obtain ⟨wo,JT⟩:=am wr;subst JT;have x0o:=bJ ar H3.o.2.2;have x1o:=bJ ar H3.o.2.1;obtain ⟨e0,e1,_,_⟩:=tN x0o;have CK:=yC b HV.o.2.2.2.1 L8.o.symm _ wo ⟨qa,ql,qc,qb,qm,qe⟩ (HV.o.2.1.move (dw nJ));simp only[BQ.val]at CK;have Zm:=ac CK;have HO:=aG nJ x1o;clear ar nJ gP hbp SN CK x0o x1o;gi_wp2_with (gi_at_call 46;refine aK.2 (Zm.o.mono ?_);rintro e w6 ⟨rfl,dZ,da⟩;have H6:=aG dZ da;clear dZ da);refine II ?_;obtain ⟨m_,zm⟩:=am ((w6.alloc (.cells #[.int .i64 0] 3)).alloc (.cells #[.int .i64 0] 30));rw[<-zm];obtain ⟨K0,U9⟩:=am wo.heap.size;obtain ⟨aB,Zq⟩:=am w6.heap.size;have L9:=lv zm;have zaU:m_.heap.size=aB+2:=by rw[zm,Zq];simp
   have xa:m_.heap[aB]?=some (.cells #[.int .i64 0] 3 (0,0)):=by rw[zm,Zq];exact (bE _ _ _ (by simp)).trans (ai rfl)
   have xe:m_.heap[aB+1]?=some (.cells #[.int .i64 0] 30 (0,0)):=by rw[zm,Zq];exact ai (by simp)
   have Zr:K0+3<aB:=by rw[U9,Zq];have:=H6.o.1.ltb;omega
   have HKw:=ac (show w.heap.size+1<K0 by rw[U9];exact (bz HO.o.2));have U':Below w.heap.size w m_:=(HO.o.1.tr H6.o.2).tr L9;have hwK:w.heap.size<=K0:=by rw[U9];exact HO.o.1.size
   obtain ⟨M,hM⟩:∃M:Nat->Prop,M=fun b=>b=K0+1\/b=K0+1+1\/b=aB\/b=aB+1:=⟨_,rfl⟩;have Ez:KnV (fun b=>¬M b) goodF goodT m_ (K0+1+1+1) (K0+1) (K0+1+1) b.fs.length b.ts.length b:=by
    have h:=H6.o.1.later L9;rw[<-U9]at h;exact h.move (fun b hb _=>⟨by rw[hM];omega,rfl⟩) rfl rfl rfl
   have zaV:=bJ (H6.o.2.tr L9) HO.o.2;rw[<-U9,<-Zq];have lO:=fE zaU Zr U' hwK zaV;have H0:=bF xa xe Ez;have HM:=ac hM;clear zm L9 zaU xa xe Zr U' hwK hM Ez zaV U9 Zq e0 e1;gi_wp2_with fail;refine lD [48,49,50,13,51,52,53,54,55,56,57,14,15,58,59,60,61,62,70,71] 48 (fun us ds wr=>∃i:Nat,i<=2/\us 48=.int .i64 i/\Marks m_.heap.size wr ds/\Kp M m_ wr/\wr.heap[aB+1]?=some (.cells #[.int .i64 0] 30 (0,0))/\wr.heap[aB]?=some (.cells #[.int .i64 0] 3 (0,0)) ∧
    ∃(k:Bd) (nF nT:Nat),KnV (fun b=>¬M b) goodF goodT wr (K0+1+1+1) (K0+1) (K0+1+1) nF nT k/\nF<=1000+i * 3200/\nT<=1000+i * 1280000/\bw k=true/\(i=0->k=b)/\(i=1->ew bK 0 b l=(k,0,0))/\(i=2->∃k1,ew bK 0 b l=(k1,0,0)/\ew ev 0 k1 l=(k,0,0))) (fun v=>2 - (intOf v).toNat) (by simp) (by decide) ?start2 ?round2
   case start2=>
    exact ⟨0,by omega,rfl,Marks.nil _ _,Kp.refl _,H0.o.2.1,H0.o.1,b,_,_,H0.o.2.2,by have:=HV.o.2.2.2.1.lf;omega,by have:=HV.o.2.2.2.1.lt;omega,L8.o.symm,fun _=>rfl,fun h=>by omega,fun h=>by omega⟩
   case round2=>
    intro us ds wr hrel;obtain ⟨i,hi,hu,xK,bj,Gw,e_,k,nF,nT,dZ,sd,qC,zH,p9,hi1,wi⟩:=hrel;simp only[jd,List.setIfInBounds_toArray,List.set_cons_zero,List.set_cons_succ];rw[hu];have CY:∀ b,M b->w.heap.size<=b:=fun b hb=>by rw[HM.o]at hb;have:=lO.o.2.2.2.1;have:=lO.o.2.1;omega
    have Tn:¬M (w.heap.size+1):=by rw[HM.o];have:=lO.o.2.2.2.1;have:=lO.o.2.1;have:=(bz lO.o.2.2.2.2);have:=HKw.o;omega
    have Zs:=aQ lO.o.2.2.1 bj CY;have Zt:=(bj.same _ (bz lO.o.2.2.2.2) Tn).trans lO.o.2.2.2.2;have Cx:=aG CY Tn;clear CY Tn;rcases (show i=2\/i=0\/i=1 by omega) with rfl | rfl | rfl
    ·obtain ⟨k1,Ot,AK⟩:=wi rfl;have HE:=ac (show R=(k,0,0) by rw[y_.o,Ot];simp only[ne_eq,not_true_eq_false,↓reduceIte];rw[AK];simp);have e0:=ah Gw 0;have CB:=IC k zH goodF goodT (fun _ h=>h.fit) (fun _ h=>h.fit) _ wr _ _ _ nF nT dZ (by omega) (by omega);have HCB:=ac CB;have HX:=bF Zt Zs xK;clear Gw e_ bj dZ CB Zt Zs xK Ot AK p9 hi1 wi;gi_wp2_with (gi_at_call 50;refine aK.2 (HCB.o.mono ?_);rintro e w7 ⟨⟨⟨p0,p1,p2,p3,p4,p5⟩,rfl,Kc⟩,fW⟩;have XD:=bJ fW HX.o.1;obtain ⟨y0,y1,z0,z1⟩:=tN XD;have H7:=bF XD fW Kc;clear XD fW Kc;simp only[BQ.val]);obtain ⟨W8,l8,x8,k8,g0,g1⟩:=Dv H7.o.1 (.slice p0 p1 p2) (.slice p3 p4 p5);rw[<-l8,Exit.noGoto_ret];have tR:Below w.heap.size w W8:=Below.kp1 (HX.o.2.1.tr H7.o.2.1) k8 (by omega);have zeI:=(bz HX.o.1);refine em (B:=m_.heap.size) (HX.o.2.2.move (fun D hD hd=>(k8.same D (bH (bz hd) H7.o.2.1.size) (by have:=(bz lO.o.2.2.2.2);omega)).trans ((H7.o.2.1.block D (bz hd)).trans hd))) (fun w' hn=>?_);have h0:=hn.cell g0;have h1:=hn.cell g1;refine ⟨.tuple #[.agg #[.slice p0 p1 p2,.slice p3 p4 p5],.int .i64 0,.int .i64 0],by simp[results,Tryz.results15,go_sem,h0,h1],⟨⟨⟨p0,p1,p2,p3,p4,p5⟩,by (rw[HE.o];try rfl),?_⟩,jo tR (hn.mono lO.o.2.2.1.size)⟩⟩;rw[HE.o];exact (H7.o.2.2.move (fun b hb hlt=>⟨aU HX.o.2.1.size hb,k8.same b hlt (by omega)⟩)).nw hn
    ·have Zb:=ac (Ia W0);have e0:=ah Gw 0;obtain ⟨nN,rh⟩:=am (wr.alloc (.cells #[(.func (.func 47) #[.pointer (some ⟨K0+1+1+1,0,none⟩)] #[])] 82));have rq:=cV rh;have Tj:=bU rh;have QK:=bJ rq Gw;have pp84:=();exact pm84
    ·have Zb:=ac (NG W0);have e0:=ah Gw 0;obtain ⟨nN,rh⟩:=am (wr.alloc (.cells #[(.func (.func 48) #[.pointer (some ⟨K0+1+1+1,0,none⟩)] #[])] 82));have rq:=cV rh;have Tj:=bU rh;have QK:=bJ rq Gw;exact pm84
mutual
theorem pz:∀ (s f:Fm) (c:Sco),okF true s=true->∀ p∈aR c s f,okF true p.s=true
 | .mk o n a l,.mk o' n' a' l',c,h,p,hp=>by
  simp only[aR,cd]at hp;rcases hp with rfl | hp
  ·exact h
  ·simp only[okF,af]at h;exact yE l l' _ h.2.2.2.2 p hp
theorem yE:∀ (s f:List Fm) (c:Sco),cW true s=true->∀ p∈aE c s f,okF true p.s=true
 | [],_,c,_,p,hp=>by simp[aE]at hp
 | _ :: _,[],c,_,p,hp=>by simp[aE]at hp
 | t :: l,u :: m,c,h,p,hp=>by
  simp only[cW,af]at h;simp only[aE,List.mem_append]at hp;rcases hp with hp | hp
  ·exact pz t u c h.1 p hp
  ·exact yE l m c h.2 p hp
end
theorem QV {nM:Nat->Prop} {kb mF mT nF nT:Nat} {k:Bd} (dZ:KnV nM goodF goodT W kb mF mT nF nT k) (s:Fm) (hs:okF true s=true) (rI:nodesF s<=400):gW k s<=1000000:=by
 obtain ⟨o,n,a,l⟩:=s;have hn:=Bw (ig _ hs);rw[Ii];have h1:nodesF (formOf k.fs n)<=400:=by obtain ⟨q,_,_,h,_⟩:=dZ.formOf (x:=n) (by have:=hn.2.1;omega);exact h
 split
 ·omega
 ·split
  ·rename_i dN;subst dN;obtain ⟨x,y,rfl,hx,hy,hi⟩:=jU hs;rw[hi];have h2:=pg (bQ x) (formOf k.fs n);have h3:=kP dZ (x:=y) (by have:=fX hy;omega);have:fG (bQ x) (formOf k.fs n) * (nodesT (termOf k.ts y) - 1)<=400 * 1000:=Nat.mul_le_mul (by omega) (by omega);simp only;omega
  ·have h4:=rK (fun x hx=>kP dZ (x:=x) hx) a (dX (by omega) a hn.2.2.1);have h5:nodesTs a<=400:=by simp only[nodesF]at rI;omega
   omega
theorem vO {f:α->Bool} {l:List α} {x:α} (h:l.any f=false):(l ++ [x]).any f=f x:=by simp[h]
theorem Ma {f:α->Bool} {l m:List α} (h:l <+: m) (hl:l.any f=true):m.any f=true:=by
 obtain ⟨r,rfl⟩:=h;simp[hl]
theorem Tr {l m:List Nat} (h:l <+: m):l.sum<=m.sum:=by
 obtain ⟨r,rfl⟩:=h;simp
theorem NN (nM:Nat->Prop) (kb mF mT nF nT:Nat) (kd:Bd) (s:Fm) (hs:okF true s=true) (rI:nodesF s<=400) (ok:Nat->Prop) (w:World) (dZ:KnV nM goodF goodT w kb mF mT nF nT kd) (q:FQ) (hq:FormV ok w q.val s) :
  Calls Tryz.prog 71 #[.pointer (some ⟨kb,0,none⟩),q.val] w fun e w'=>e=.returned (.int .i64 (nA kd s))/\Below w.heap.size w w':=by
 have hq:=hq.lt;have hfit:fitF s:=⟨by omega,gq (by omega) s (ig _ hs)⟩;obtain ⟨R,hR⟩:=am (nA kd s);rw[<-hR];unfold nA at hR;obtain ⟨so,sn,sa,sl,sc,sb,sm,se⟩:=q;obtain ⟨W1,bY⟩:=am (((w.alloc (.cells #[.pointer (some ⟨kb,0,none⟩)] 80)).alloc (.cells #[.int .u8 so,.string sn,.slice sa sl sc,.slice sb sm se] 36)).alloc (.cells #[.int .i64 0] 30));have hb1:=yK bY;have ju:=Ji bY;have xk1:=zO bY;have xs1:=sk bY;have xr1:=qi bY;have HP:=fE hs rI hfit dZ hq;have H1:=fE hb1 ju xk1 xs1 xr1;obtain ⟨jj,HR⟩:=aW bY hR;clear hs rI hfit dZ hq hb1 ju xk1 xs1 xr1 bY hR;refine Lh ?_;refine callsIn_of_wp_marks Tryz.func71 rfl trivial ?_ rfl;simp only[FQ.val,Tryz.ntmps71,Nat.reduceAdd,Nat.reduceSub,lu];have iz:=fd;obtain ⟨d0,d1,d2,d3⟩:=m5 H1.o.2.2.2.1;rw[jj.o]at d0 d1 d2 d3;have HMk:=ac (show w.heap.size≠w.heap.size+1+1 by omega);have Zu:=fE H1.o.1 H1.o.2.2.1 H1.o.2.2.2.1 H1.o.2.2.2.2 (Marks.nil w.heap.size W1);obtain ⟨Ts,QW⟩:∃bad:Pl->Bool,bad=fun p=>gH kd p.s:=⟨_,rfl⟩;have zaW:=ac (show ∀ p,gH kd p.s=Ts p from fun p=>by rw[QW]);have Tt:=ac QW;clear QW;obtain ⟨Tu,QX⟩:∃bad:Pl->Bool,bad=fun p=>sx kd p:=⟨_,rfl⟩;have zaX:=ac (show ∀ p,sx kd p=Tu p from fun p=>by rw[QX]);have XM:=ac QX;clear QX;obtain ⟨F2,QY⟩:∃bad:Pl->Nat,bad=fun p=>gW kd p.s:=⟨_,rfl⟩;have U_:=ac (show ∀ p,gW kd p.s=F2 p from fun p=>by rw[QY]);have zaY:=ac QY;clear QY;obtain ⟨V1,Zv⟩:=am (iq W1 ⟨so,sn,sa,sl,sc,sb,sm,se⟩ ⟨so,sn,sa,sl,sc,sb,sm,se⟩);obtain ⟨M1,Tn⟩:∃M:Nat->Prop,M=(fun b=>b=w.heap.size+1+1):=⟨_,rfl⟩;have LH:Below W1.heap.size W1 V1:=by rw[Zv];exact fY _ _ _
 have ju:V1.heap.size=W1.heap.size+2:=by rw[Zv,kw]
 have xX1:V1.heap[W1.heap.size]?=some (.cells #[.int .u8 so,.string sn,.slice sa sl sc,.slice sb sm se] 36 (0,0)):=by rw[Zv];exact ll _ _ _
 have xY1:V1.heap[W1.heap.size+1]?=some (.cells #[.int .u8 so,.string sn,.slice sa sl sc,.slice sb sm se] 36 (0,0)):=by rw[Zv];exact lm _ _ _
 have Tv:=Zu.o.1.tr LH;have zc0:=(bz Zu.o.2.2.2.1);have QZ:∀ b,M1 b->w.heap.size<=b/\b<W1.heap.size:=fun b hb=>by rw[Tn]at hb;subst hb;omega
 have XN:FormV (fun b=>b<V1.heap.size/\¬M1 b) V1 (FQ.val ⟨so,sn,sa,sl,sc,sb,sm,se⟩) s:=HP.o.2.2.2.2.move (fun b hb hlt=>⟨⟨bH hb Tv.size,fun hm=>by have:=(QZ b hm).1;omega⟩,Tv.block b hlt⟩);have Va:=mR s s HP.o.2.2.1 (by have:=HP.o.2.1;omega) M1 V1.heap.size W1.heap.size (W1.heap.size+1) V1 ⟨so,sn,sa,sl,sc,sb,sm,se⟩ ⟨so,sn,sa,sl,sc,sb,sm,se⟩ xX1 (fun h=>by have:=(QZ _ h).2;omega) xY1 (fun h=>by have:=(QZ _ h).2;omega) XN XN;obtain ⟨zc1,Tw,Fu⟩:=cH Va QZ Tn;have JO:=cG Tv ju (bJ LH Zu.o.2.1) (bJ LH Zu.o.2.2.2.1);have Hv1:=aG LH (Zu.o.2.2.2.2.move (fun D _ hd=>(LH.block D (bz hd)).trans hd));have zc2:=ac Zv;clear Zv Tn LH ju xX1 xY1 Tv zc0 QZ XN Va;gi_wp2_with fail;refine aK.2 ((mQ ⟨so,sn,sa,sl,sc,sb,sm,se⟩ ⟨so,sn,sa,sl,sc,sb,sm,se⟩ _).mono ?_);rintro e w' ⟨rfl,rfl⟩
 try clear d0 d1 d2 d3
 rw[<-jj.o];rw[<-zc2.o];gi_wp2_with fail;have eg:∀ args W,(callFunc 102 args).run Tryz.prog W=.ok (.enter 102 args) W:=enters_of Tryz.func102 (by kernel_rfl) rfl;refine gJ rfl eg (fun b hb=>by have:=(Tw.o b hb).2;have:=JO.o.2.1;omega) zc1.o (fun _ _ _ h=>by obtain ⟨q,ps,rfl,_⟩:=h;rfl)
  (fun pre X=>pre.any Ts=false/\X.heap[w.heap.size+1+1]?=some (.cells #[.int .i64 0] 30 (0,0))/\Kp M1 V1 X)
  (fun c pre X=>c=.ret/\pre.any Ts=true/\X.heap[w.heap.size+1+1]?=some (.cells #[.int .i64 6] 30 (0,0))/\Kp M1 V1 X)
  (fun s=>?hI1) (fun c s=>?hIx1) ⟨rfl,JO.o.2.2.2,Kp.refl _⟩ ?round1 ?done1 ?stop1
 case hI1=>
  rintro X Y hn ⟨h1,h2,h3⟩;exact ⟨h1,hn.cells h2,nO h3 hn⟩
 case hIx1=>
  exact pm316
 case round1=>
  rintro lR pre vs x W hl yS ⟨h1,h2,h3⟩ ⟨q,ps,rfl,L_,mg,tY,Dj,gX⟩ Gm dx;have pp21a:=();exact pm21
 case done1=>
  rintro D X hD ⟨h1,h2,h3⟩ XO hd;obtain ⟨X2,hX⟩:=am X;rw[<-hX]at h2 h3 XO hd ⊢;clear hX X;have BV:Below w.heap.size w X2:=aQ JO.o.1 h3 (fun b hb=>(Tw.o b hb).1);have kz:Marks w.heap.size X2 _:=Hv1.o.2.more (w':=X2) (fun E hE hx=>(h3.same E (bz hx) (fun hm=>by rw[Fu.o]at hm;subst hm;rw[JO.o.2.2.2]at hx;cases hx)).trans hx) hD (aU JO.o.1.size hD) hd;have xkX:=(h3.same _ (bz JO.o.2.2.1) (fun h=>by have:=HMk.o;rw[Fu.o]at h;omega)).trans JO.o.2.2.1;have XP:=bJ Hv1.o.1 Zu.o.2.2.1;have XQ:=(h3.same _ (bz XP) (fun h=>by rw[Fu.o]at h;omega)).trans XP;have HA1:=ac h1;have sF:=fE BV xkX XQ h2 kz;obtain ⟨d0,d1,d2,d3⟩:=m5 XQ;clear h1 h2 h3 XO hd BV kz xkX XP XQ hD;obtain ⟨V2,Zw⟩:=am (iq X2 ⟨so,sn,sa,sl,sc,sb,sm,se⟩ ⟨so,sn,sa,sl,sc,sb,sm,se⟩);obtain ⟨M2,hM2⟩:∃M:Nat->Prop,M=(fun b=>b=w.heap.size+1+1):=⟨_,rfl⟩;have jy:Below X2.heap.size X2 V2:=by rw[Zw];exact fY _ _ _
  have iy:V2.heap.size=X2.heap.size+2:=by rw[Zw,kw]
  have xX2:V2.heap[X2.heap.size]?=some (.cells #[.int .u8 so,.string sn,.slice sa sl sc,.slice sb sm se] 36 (0,0)):=by rw[Zw];exact ll _ _ _
  have xY2:V2.heap[X2.heap.size+1]?=some (.cells #[.int .u8 so,.string sn,.slice sa sl sc,.slice sb sm se] 36 (0,0)):=by rw[Zw];exact lm _ _ _
  have Ty:=sF.o.1.tr jy;have zc3:=(bz sF.o.2.2.2.1);have Q1:∀ b,M2 b->w.heap.size<=b/\b<X2.heap.size:=fun b hb=>by rw[hM2]at hb;subst hb;omega
  have XR:FormV (fun b=>b<V2.heap.size/\¬M2 b) V2 (FQ.val ⟨so,sn,sa,sl,sc,sb,sm,se⟩) s:=HP.o.2.2.2.2.move (fun b hb hlt=>⟨⟨bH hb Ty.size,fun hm=>by have:=(Q1 b hm).1;omega⟩,Ty.block b hlt⟩);have Vc:=mR s s HP.o.2.2.1 (by have:=HP.o.2.1;omega) M2 V2.heap.size X2.heap.size (X2.heap.size+1) V2 ⟨so,sn,sa,sl,sc,sb,sm,se⟩ ⟨so,sn,sa,sl,sc,sb,sm,se⟩ xX2 (fun h=>by have:=(Q1 _ h).2;omega) xY2 (fun h=>by have:=(Q1 _ h).2;omega) XR XR;obtain ⟨zc4,Tz,Zx⟩:=cH Vc Q1 hM2;have He:=cG Ty iy (bJ jy sF.o.2.1) (bJ jy sF.o.2.2.2.1);have Hv2:=aG jy (sF.o.2.2.2.2.move (fun D _ hd=>(jy.block D (bz hd)).trans hd));have zc5:=ac Zw;clear Zw hM2 jy iy xX2 xY2 Ty zc3 Q1 XR Vc;gi_wp2_with fail;refine aK.2 ((mQ ⟨so,sn,sa,sl,sc,sb,sm,se⟩ ⟨so,sn,sa,sl,sc,sb,sm,se⟩ _).mono ?_);rintro e w' ⟨rfl,rfl⟩
  try clear d0 d1 d2 d3
  rw[<-zc5.o];gi_wp2_with fail;have eg:∀ args W,(callFunc 102 args).run Tryz.prog W=.ok (.enter 102 args) W:=enters_of Tryz.func102 (by kernel_rfl) rfl;refine gJ rfl eg (fun b hb=>by have:=(Tz.o b hb).2;have:=He.o.2.1;omega) zc4.o (fun _ _ _ h=>by obtain ⟨q,ps,rfl,_⟩:=h;rfl)
   (fun pre X=>pre.any Tu=false/\X.heap[w.heap.size+1+1]?=some (.cells #[.int .i64 0] 30 (0,0))/\Kp M2 V2 X)
   (fun c pre X=>c=.ret/\pre.any Tu=true/\X.heap[w.heap.size+1+1]?=some (.cells #[.int .i64 72] 30 (0,0))/\Kp M2 V2 X)
   (fun s=>?hI2) (fun c s=>?hIx2) ⟨rfl,He.o.2.2.2,Kp.refl _⟩ ?round2 ?done2 ?stop2
  case hI2=>
   rintro X Y hn ⟨h1,h2,h3⟩;exact ⟨h1,hn.cells h2,nO h3 hn⟩
  case hIx2=>
   exact pm316
  case round2=>
   rintro lR pre vs x W hl yS ⟨h1,h2,h3⟩ ⟨q,ps,rfl,L_,mg,tY,Dj,gX⟩ Gm dx;have pp21b:=();exact pm21
  case done2=>
   rintro D X hD ⟨h1,h2,h3⟩ XO hd;obtain ⟨X3,hX⟩:=am X;rw[<-hX]at h2 h3 XO hd ⊢;clear hX X;have BV:Below w.heap.size w X3:=aQ He.o.1 h3 (fun b hb=>(Tz.o b hb).1);have kz:Marks w.heap.size X3 _:=Hv2.o.2.more (w':=X3) (fun E hE hx=>(h3.same E (bz hx) (fun hm=>by rw[Zx.o]at hm;subst hm;rw[He.o.2.2.2]at hx;cases hx)).trans hx) hD (aU He.o.1.size hD) hd;have xkX:=(h3.same _ (bz He.o.2.2.1) (fun h=>by have:=HMk.o;rw[Zx.o]at h;omega)).trans He.o.2.2.1;have XP:=bJ Hv2.o.1 sF.o.2.2.1;have XQ:=(h3.same _ (bz XP) (fun h=>by rw[Zx.o]at h;omega)).trans XP;have Z2:=ac h1;have Zy:=fE BV xkX XQ h2 kz;obtain ⟨d0,d1,d2,d3⟩:=m5 XQ;clear h1 h2 h3 XO hd BV kz xkX XP XQ hD;obtain ⟨nB,hnB⟩:=am X3.heap.size;obtain ⟨X4,Zz⟩:=am (X3.alloc (.cells #[.int .i64 0] 3));have C6:=cV Zz;have PI:X4.heap.size=nB+1:=by rw[Zz,hnB];simp
   have XS:X4.heap[nB]?=some (.cells #[.int .i64 0] 3 (0,0)):=by rw[Zz,hnB];exact ai rfl
   have PJ:=(bz Zy.o.2.2.2.1);have HnB:=ac (show w.heap.size+1+1<nB/\nB+1=X4.heap.size by rw[PI,hnB];exact ⟨PJ,rfl⟩);have xs4:=bJ C6 Zy.o.2.2.1;have HU3:=fE (Zy.o.1.tr C6) (bJ C6 Zy.o.2.1) xs4 ((C6.block _ PJ).trans Zy.o.2.2.2.1) (Zy.o.2.2.2.2.move (fun D _ hd=>(C6.block D (bz hd)).trans hd));obtain ⟨HnU,HX4⟩:=aW XS Zz;clear d0 d1 d2 d3;obtain ⟨d0,d1,d2,d3⟩:=m5 xs4;rw[Zz]at d0 d1 d2 d3;have zc6:=ac hnB;clear hnB Zz C6 PI XS PJ xs4;obtain ⟨V3,ZA⟩:=am (iq X4 ⟨so,sn,sa,sl,sc,sb,sm,se⟩ ⟨so,sn,sa,sl,sc,sb,sm,se⟩);obtain ⟨M3,hM3⟩:∃M:Nat->Prop,M=(fun b=>b=w.heap.size+1+1\/b=nB):=⟨_,rfl⟩;have XT:Below X4.heap.size X4 V3:=by rw[ZA];exact fY _ _ _
   have pP:V3.heap.size=X4.heap.size+2:=by rw[ZA,kw]
   have xX3:V3.heap[X4.heap.size]?=some (.cells #[.int .u8 so,.string sn,.slice sa sl sc,.slice sb sm se] 36 (0,0)):=by rw[ZA];exact ll _ _ _
   have xY3:V3.heap[X4.heap.size+1]?=some (.cells #[.int .u8 so,.string sn,.slice sa sl sc,.slice sb sm se] 36 (0,0)):=by rw[ZA];exact lm _ _ _
   have TA:=HU3.o.1.tr XT;have zc7:=(bz HU3.o.2.2.2.1);have Q2:∀ b,M3 b->w.heap.size<=b/\b<X4.heap.size:=fun b hb=>by rw[hM3]at hb;have:=HnB.o;rcases hb with rfl | rfl <;> omega
   have XU:FormV (fun b=>b<V3.heap.size/\¬M3 b) V3 (FQ.val ⟨so,sn,sa,sl,sc,sb,sm,se⟩) s:=HP.o.2.2.2.2.move (fun b hb hlt=>⟨⟨bH hb TA.size,fun hm=>by have:=(Q2 b hm).1;omega⟩,TA.block b hlt⟩);have Vd:=mR s s HP.o.2.2.1 (by have:=HP.o.2.1;omega) M3 V3.heap.size X4.heap.size (X4.heap.size+1) V3 ⟨so,sn,sa,sl,sc,sb,sm,se⟩ ⟨so,sn,sa,sl,sc,sb,sm,se⟩ xX3 (fun h=>by have:=(Q2 _ h).2;omega) xY3 (fun h=>by have:=(Q2 _ h).2;omega) XU XU;obtain ⟨zc8,TB,HM3⟩:=cH Vd Q2 hM3;have Q3:=cG TA pP (bJ XT HU3.o.2.1) (bJ XT HU3.o.2.2.2.1);have Hv3:=aG XT (HU3.o.2.2.2.2.move (fun D _ hd=>(XT.block D (bz hd)).trans hd));have zc9:=ac ZA;have HnV:=ac (bJ XT HnU.o);clear ZA hM3 XT pP xX3 xY3 TA zc7 Q2 XU Vd;gi_wp2_with fail;refine aK.2 ((mQ ⟨so,sn,sa,sl,sc,sb,sm,se⟩ ⟨so,sn,sa,sl,sc,sb,sm,se⟩ _).mono ?_);rintro e w' ⟨rfl,rfl⟩
   try clear d0 d1 d2 d3
   rw[<-zc6.o,<-HX4.o];rw[<-zc9.o];gi_wp2_with fail;have eg:∀ args W,(callFunc 102 args).run Tryz.prog W=.ok (.enter 102 args) W:=enters_of Tryz.func102 (by kernel_rfl) rfl;refine gJ rfl eg (fun b hb=>by have:=(TB.o b hb).2;have:=Q3.o.2.1;omega) zc8.o (fun _ _ _ h=>by obtain ⟨q,ps,rfl,_⟩:=h;rfl)
    (fun pre X=>(pre.map F2).sum<=400/\X.heap[nB]?=some (.cells #[.int .i64 ((pre.map F2).sum:Nat)] 3 (0,0))/\X.heap[w.heap.size+1+1]?=some (.cells #[.int .i64 0] 30 (0,0))/\Kp M3 V3 X)
    (fun c pre X=>c=.ret/\400<(pre.map F2).sum/\X.heap[w.heap.size+1+1]?=some (.cells #[.int .i64 3] 30 (0,0))/\Kp M3 V3 X)
    (fun s=>?hI3) (fun c s=>?hIx3) ⟨by simp,by simpa using HnV.o,Q3.o.2.2.2,Kp.refl _⟩ ?round3 ?done3 ?stop3
   case hI3=>
    rintro X Y hn ⟨h1,h2,h3,h4⟩;exact ⟨h1,hn.cells h2,hn.cells h3,nO h4 hn⟩
   case hIx3=>
    exact pm316
   case round3=>
    rintro lR pre vs x W hl yS ⟨h1,h2,h3,h4⟩ ⟨q,ps,rfl,L_,mg,tY,Dj,gX⟩ Gm dx;have pp21c:=();exact pm21
   case done3=>
    rintro D X hD ⟨h1,h2,h3,h4⟩ XO hd;have HE:=ac (show R=0 by rw[HR.o,ak (by rw[<-Tt.o,HA1.o];simp),ak (by have h:=Z2.o;rw[XM.o]at h;rw[h];simp),ak (by rw[<-zaY.o];omega)]);have pp118:=();exact pm118
   case stop3=>
    rintro D c pre X _ hD dx ⟨rfl,h2,h3,h4⟩ hd;exact pm118
  case stop2=>
   rintro D c pre X _ hD dx ⟨rfl,h2,h3,h4⟩ hd;have BV:Below w.heap.size w X:=aQ He.o.1 h4 (fun b hb=>(Tz.o b hb).1);have kz:Marks w.heap.size X _:=Hv2.o.2.more (w':=X) (fun E hE hx=>(h4.same E (bz hx) (fun hm=>by rw[Zx.o]at hm;subst hm;rw[He.o.2.2.2]at hx;cases hx)).trans hx) hD (aU He.o.1.size hD) hd;have HE:=ac (show R=72 by rw[HR.o,ak (by rw[<-Tt.o,HA1.o];simp),au (by have:=Ma dx h2;rwa [XM.o]at this)]);have pp226:=();exact pm226
 case stop1=>
  rintro D c pre X _ hD dx ⟨rfl,h2,h3,h4⟩ hd;have BV:Below w.heap.size w X:=aQ JO.o.1 h4 (fun b hb=>(Tw.o b hb).1);have kz:Marks w.heap.size X _:=Hv1.o.2.more (w':=X) (fun E hE hx=>(h4.same E (bz hx) (fun hm=>by rw[Fu.o]at hm;subst hm;rw[JO.o.2.2.2]at hx;cases hx)).trans hx) hD (aU JO.o.1.size hD) hd;have HE:=ac (show R=6 by rw[HR.o,au (by rw[<-Tt.o];exact Ma dx h2)]);exact pm226
