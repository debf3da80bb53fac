/-
'Matches' of package match.
-/
import Derived.Test.YtokemihbkeddoaaGreatDoorV14
import Derived.Test.YtokemihbkeddoaaGreatDoorV12
namespace Go.Proofs.YtokemihbkeddoaaGreatDoor
open Go Go.RowKit Lib
set_option maxRecDepth 100000
set_option maxHeartbeats 64000000
variable {w W X Y:World} {b:Nat} {v:Value} {α:Type}
section
attribute [local go_sem] Oper.semAt_some
theorem Ax {P:Program} {a:Addr} {m:Mode} (f:Fn) (xs ys:Array Value):(store a (.func f xs ys) m).run P w=stored P w a (.func f xs ys) m:=run_store P w a _ m rfl
attribute [local go_sem] Ax
theorem iQ {a0:Value} {T:TypeId} (h:W.heap[b]?=some (.cells #[a0] T (0,0))):(W.setCell ⟨b,0,none⟩ v).heap[b]?=some (.cells #[v] T (0,0)):=(bm (F:=0) h v).trans rfl
theorem iR:Kp (fun c=>c=b) W (W.setCell ⟨b,0,none⟩ v):=
 ⟨rfl,rfl,rfl,by simp,fun c _ hc=>d9 _ _ _ _ (by simpa using hc)⟩
theorem jp (h:Below w.heap.size w X) (hn:Nw w.heap.size X Y):Below w.heap.size w Y:=
 ⟨hn.os.trans h.os,hn.tape.trans h.tape,hn.output.trans h.output,aQ h.size hn.size,fun b hb=>(hn.old hb (bN hb h.size)).trans (h.block b hb)⟩
theorem aq {M:Nat->Prop} (h:Below w.heap.size w X) (k:Kp M X Y) (hM:∀ b,M b->w.heap.size<=b):Below w.heap.size w Y:=
 ⟨k.os.trans h.os,k.tape.trans h.tape,k.output.trans h.output,aQ h.size k.size,fun b hb=>(k.same b (bN hb h.size) (fun hm=>by have:=hM b hm;omega)).trans (h.block b hb)⟩
theorem uO {l:List (Fm×Fm)} {b:Bd} {i:Nat} (hv:validB b=true) (h:e8 0 l=some i):dq l b=(⟨[],[]⟩,i,2):=by
 unfold dq;rw[hv,h];rfl
theorem E2 {l:List (Fm×Fm)} {b:Bd} (hv:validB b=true) (h:e8 0 l=none):dq l b=match jV d_ 0 b l with
   | (k,i,e)=>if e≠0 then (⟨[],[]⟩,i,e) else match jV kP 0 k l with
    | (k',i',e')=>if e'≠0 then (⟨[],[]⟩,i',e') else (k',0,0):=by
 unfold dq;rw[hv,h];rfl
theorem xK (W0:World) (l:List (Fm×Fm)) (b:Bd) (hl:l.length<=8) (ug:∀ x∈l,fitF x.1/\fitF x.2) (hb:BdFit b) (ok:Nat->Prop) (w:World) (la:Option Addr) (lc:Nat) (q:BQ) (ht:Tabs W0 w) (PG:SPairsV ok w (.slice la l.length lc) l) (yw:BindV ok w q b) :
  Calls Tryz.prog 15 #[.slice la l.length lc,q.val] w fun e w'=>(∃p:BQ,e=.returned (.tuple #[p.val,.int .i64 ((dq l b).2.1:Nat),.int .i64 (dq l b).2.2])/\BindV (w.heap.size<=·) w' p (dq l b).1)/\Below w.heap.size w w':=by
 obtain ⟨R,hR⟩:=ao (dq l b);rw[<-hR];have PG:=PG.move (ok':=fun b=>b<w.heap.size) (fun b _ hlt=>⟨hlt,rfl⟩);have yw:=yw.move (ok':=fun b=>b<w.heap.size) (fun b _ hlt=>⟨hlt,rfl⟩);obtain ⟨n1,dT⟩:=ao l.length;rw[<-dT]at hl PG;rw[<-dT];obtain ⟨W2,bl⟩:=ao ((w.alloc (.cells #[.slice q.a q.l q.c,.slice q.b q.m q.e] 26)).alloc (.cells #[.slice none 0 0,.slice none 0 0] 26));have bF:=lB bl;have gV:=xV bl;have x0:=rV bl;have x1:=jC bl;have CV:=wG W0 b hb _ W2 (ht.next bF) q (yw.move (dr bF));obtain ⟨bv,XN⟩:=ao (validB b);rw[<-XN]at CV;have HV:=fA PG yw ht hb ug;have H2:=cC bF gV x0 x1;obtain ⟨gF,HR,HN,LU⟩:=eR bl hR dT XN;obtain ⟨qa,ql,qc,qb,qm,qe⟩:=q;simp only[BQ.val]at CV;have XO:=ab CV;obtain ⟨c0,c1,_,_⟩:=tb x0;simp only at gF c0 c1;rw[bl]at c0 c1;simp only at c0 c1;clear PG yw ht hb ug bF gV x0 x1 bl hR dT CV XN;refine K_ ?_;refine callsIn_of_wp_marks Tryz.func15 rfl trivial ?_ rfl;simp only[BQ.val,Tryz.ntmps15,Nat.reduceAdd,Nat.reduceSub,li];have jH:=eU;gi_wp2_with fail;rw[<-gF.o];rw[<-gF.o]at c0 c1;refine Km ?_
 cases bv with
 | false=>
  have HE:=ab (show R=(⟨[],[]⟩,0,2) by rw[HR.o];unfold dq;rw[<-LU.o];rfl);gi_wp2_with (gi_at_call 27;refine aL.2 (XO.o.mono ?_);rintro e w3 ⟨rfl,aJ⟩;have Ow:=bT aJ H2.o.2.2.2;obtain ⟨y0,y1,z0,z1⟩:=tb Ow;have H3:=aC aJ Ow;clear aJ Ow);obtain ⟨W8,lQ,x8,k8,g0,g1⟩:=Cm H3.o.2 (.slice none 0 0) (.slice none 0 0);rw[<-lQ,Exit.noGoto_ret];have tg:Below w.heap.size w W8:=Below.kp1 (H2.o.1.tr H3.o.1) k8 (by omega);refine ei (B:=w.heap.size) (Marks.nil _ _) (fun w' hn=>?_);have h0:=hn.cell g0;have h1:=hn.cell g1;refine ⟨.tuple #[.agg #[.slice none 0 0,.slice none 0 0],.int .i64 0,.int .i64 2],by simp[results,Tryz.results15,go_sem,h0,h1],⟨⟨⟨none,0,0,none,0,0⟩,by (rw[HE.o];try rfl),by rw[HE.o];exact oq⟩,jp tg hn⟩⟩
 | true=>
 gi_wp2_with (gi_at_call 27;refine aL.2 (XO.o.mono ?_);rintro e w3 ⟨rfl,aJ⟩;have Ow:=bT aJ H2.o.2.2.2;have x03:=bT aJ H2.o.2.2.1;have H3:=bE aJ Ow x03;clear aJ Ow x03);clear c0 c1;have bM:=ab (H2.o.1.tr H3.o.1);gi_loopw [23] (fun i wr=>∃j:Nat,j<=n1/\i=.int .i64 j/\Below w3.heap.size w3 wr/\e8 0 l=e8 j (l.drop j)) (fun i _=>n1 - (intOf i).toNat)
 case atStart=>exact ⟨0,bc _,rfl,ak _ _,by simp⟩
 case round=>
  obtain ⟨j,hj,rfl,ar,gt⟩:=hrel;have nl:Below w.heap.size w wr:=bM.o.tr ar
  by_cases hlt:j<n1
  ·have lC:=ct HN.o hlt;have pp245:=();exact pm245
  ·obtain rfl:n1=j:=by omega
   have hbp:=gt;rw[jk (by rw[<-HN.o];exact aF _)]at hbp;have Zl:=ab (show e8 0 l=none from hbp);have SS:=E2 LU.o.symm Zl.o;rw[<-HR.o]at SS;have zD:=ab SS;obtain ⟨wo,JB⟩:=ao wr;subst JB;have x0o:=bT ar H3.o.2.2;have x1o:=bT ar H3.o.2.1;obtain ⟨e0,e1,_,_⟩:=tb x0o;have CK:=xJ b HV.o.2.2.2.1 LU.o.symm _ wo ⟨qa,ql,qc,qb,qm,qe⟩ (HV.o.2.1.move (dr nl));simp only[BQ.val]at CK;have ZG:=ab CK;have HO:=aC nl x1o;clear ar nl gt hbp SS CK x0o x1o;gi_wp2_with (gi_at_call 46;refine aL.2 (ZG.o.mono ?_);rintro e w6 ⟨rfl,dV,cI⟩;have H6:=aC dV cI;clear dV cI);refine Hm ?_;obtain ⟨ly,yu⟩:=ao ((w6.alloc (.cells #[.int .i64 0] 3)).alloc (.cells #[.int .i64 0] 30));rw[<-yu];obtain ⟨K0,Vg⟩:=ao wo.heap.size;obtain ⟨aB,ZK⟩:=ao w6.heap.size;have LV:=lB yu;have za8:ly.heap.size=aB+2:=by rw[yu,ZK];simp
   have xa:ly.heap[aB]?=some (.cells #[.int .i64 0] 3 (0,0)):=by rw[yu,ZK];exact (bK _ _ _ (by simp)).trans (aj rfl)
   have xe:ly.heap[aB+1]?=some (.cells #[.int .i64 0] 30 (0,0)):=by rw[yu,ZK];exact aj (by simp)
   have ZL:K0+3<aB:=by rw[Vg,ZK];have:=H6.o.1.ltb;omega
   have HKw:=ab (show w.heap.size+1<K0 by rw[Vg];exact (bn HO.o.2));have Vh:Below w.heap.size w ly:=(HO.o.1.tr H6.o.2).tr LV;have hwK:w.heap.size<=K0:=by rw[Vg];exact HO.o.1.size
   obtain ⟨M,hM⟩:∃M:Nat->Prop,M=fun b=>b=K0+1\/b=K0+1+1\/b=aB\/b=aB+1:=⟨_,rfl⟩;have DG:KnV (fun b=>¬M b) goodF goodT ly (K0+1+1+1) (K0+1) (K0+1+1) b.fs.length b.ts.length b:=by
    have h:=H6.o.1.later LV;rw[<-Vg]at h;exact h.move (fun b hb _=>⟨by rw[hM];omega,rfl⟩) rfl rfl rfl
   have za9:=bT (H6.o.2.tr LV) HO.o.2;rw[<-Vg,<-ZK];have lx:=fA za8 ZL Vh hwK za9;have H0:=bE xa xe DG;have HM:=ab hM;clear yu LV za8 xa xe ZL Vh hwK hM DG za9 Vg ZK e0 e1;gi_wp2_with fail;refine lr [48,49,50,13,51,52,53,54,55,56,57,14,15,58,59,60,61,62,70,71] 48 (fun us ds wr=>∃i:Nat,i<=2/\us 48=.int .i64 i/\Marks ly.heap.size wr ds/\Kp M ly wr/\wr.heap[aB+1]?=some (.cells #[.int .i64 0] 30 (0,0))/\wr.heap[aB]?=some (.cells #[.int .i64 0] 3 (0,0)) ∧
    ∃(k:Bd) (nF nT:Nat),KnV (fun b=>¬M b) goodF goodT wr (K0+1+1+1) (K0+1) (K0+1+1) nF nT k/\nF<=1000+i * 3200/\nT<=1000+i * 1280000/\validB k=true/\(i=0->k=b)/\(i=1->jV d_ 0 b l=(k,0,0))/\(i=2->∃k1,jV d_ 0 b l=(k1,0,0)/\jV kP 0 k1 l=(k,0,0))) (fun v=>2 - (intOf v).toNat) (by simp) (by decide) ?start2 ?round2
   case start2=>
    exact ⟨0,by omega,rfl,Marks.nil _ _,Kp.refl _,H0.o.2.1,H0.o.1,b,_,_,H0.o.2.2,by have:=HV.o.2.2.2.1.lf;omega,by have:=HV.o.2.2.2.1.lt;omega,LU.o.symm,fun _=>rfl,fun h=>by omega,fun h=>by omega⟩
   case round2=>
    intro us ds wr hrel;obtain ⟨i,hi,hu,wV,bj,FO,fL,k,nF,nT,dV,rP,qw,DJ,pY,hi1,tY⟩:=hrel;simp only[jc,List.setIfInBounds_toArray,List.set_cons_zero,List.set_cons_succ];rw[hu];have BD:∀ b,M b->w.heap.size<=b:=fun b hb=>by rw[HM.o]at hb;have:=lx.o.2.2.2.1;have:=lx.o.2.1;omega
    have Tu:¬M (w.heap.size+1):=by rw[HM.o];have:=lx.o.2.2.2.1;have:=lx.o.2.1;have:=(bn lx.o.2.2.2.2);have:=HKw.o;omega
    have ZM:=aq lx.o.2.2.1 bj BD;have ZN:=(bj.same _ (bn lx.o.2.2.2.2) Tu).trans lx.o.2.2.2.2;have Bs:=aC BD Tu;clear BD Tu;rcases (show i=2\/i=0\/i=1 by omega) with rfl | rfl | rfl
    ·obtain ⟨k1,U',zM⟩:=tY rfl;have HE:=ab (show R=(k,0,0) by rw[zD.o,U'];simp only[ne_eq,not_true_eq_false,↓reduceIte];rw[zM];simp);have e0:=ah FO 0;have CB:=Hi k DJ goodF goodT (fun _ h=>h.fit) (fun _ h=>h.fit) _ wr _ _ _ nF nT dV (by omega) (by omega);have HCB:=ab CB;have HX:=bE ZN ZM wV;clear FO fL bj dV CB ZN ZM wV U' zM pY hi1 tY;gi_wp2_with (gi_at_call 50;refine aL.2 (HCB.o.mono ?_);rintro e w7 ⟨⟨⟨p0,p1,p2,p3,p4,p5⟩,rfl,JX⟩,fD⟩;have XP:=bT fD HX.o.1;obtain ⟨y0,y1,z0,z1⟩:=tb XP;have H7:=bE XP fD JX;clear XP fD JX;simp only[BQ.val]);obtain ⟨W8,lQ,x8,k8,g0,g1⟩:=Cm H7.o.1 (.slice p0 p1 p2) (.slice p3 p4 p5);rw[<-lQ,Exit.noGoto_ret];have tg:Below w.heap.size w W8:=Below.kp1 (HX.o.2.1.tr H7.o.2.1) k8 (by omega);have zeS:=(bn HX.o.1);refine ei (B:=ly.heap.size) (HX.o.2.2.move (fun D hD hd=>(k8.same D (bN (bn hd) H7.o.2.1.size) (by have:=(bn lx.o.2.2.2.2);omega)).trans ((H7.o.2.1.block D (bn hd)).trans hd))) (fun w' hn=>?_);have h0:=hn.cell g0;have h1:=hn.cell g1;refine ⟨.tuple #[.agg #[.slice p0 p1 p2,.slice p3 p4 p5],.int .i64 0,.int .i64 0],by simp[results,Tryz.results15,go_sem,h0,h1],⟨⟨⟨p0,p1,p2,p3,p4,p5⟩,by (rw[HE.o];try rfl),?_⟩,jp tg (hn.mono lx.o.2.2.1.size)⟩⟩;rw[HE.o];exact (H7.o.2.2.move (fun b hb hlt=>⟨aQ HX.o.2.1.size hb,k8.same b hlt (by omega)⟩)).nw hn
    ·have Zu:=ab (GU W0);have e0:=ah FO 0;obtain ⟨sj,qU⟩:=ao (wr.alloc (.cells #[(.func (.func 47) #[.pointer (some ⟨K0+1+1+1,0,none⟩)] #[])] 82));have qZ:=cX qU;have Tq:=bX qU;have Qz:=bT qZ FO;have pp72:=();exact pm72
    ·have Zu:=ab (Nu W0);have e0:=ah FO 0;obtain ⟨sj,qU⟩:=ao (wr.alloc (.cells #[(.func (.func 48) #[.pointer (some ⟨K0+1+1+1,0,none⟩)] #[])] 82));have qZ:=cX qU;have Tq:=bX qU;have Qz:=bT qZ FO;exact pm72
mutual
theorem pg:∀ (s f:Fm) (c:Sco),okF true s=true->∀ p∈bJ c s f,okF true p.s=true
 | .mk o n a l,.mk o' n' a' l',c,h,p,hp=>by
  simp only[bJ,dw]at hp;rcases hp with rfl | hp
  ·exact h
  ·simp only[okF,ae]at h;exact xM l l' _ h.2.2.2.2 p hp
theorem xM:∀ (s f:List Fm) (c:Sco),cG true s=true->∀ p∈aU c s f,okF true p.s=true
 | [],_,c,_,p,hp=>by simp[aU]at hp
 | _ :: _,[],c,_,p,hp=>by simp[aU]at hp
 | t :: l,u :: m,c,h,p,hp=>by
  simp only[cG,ae]at h;simp only[aU,List.mem_append]at hp;rcases hp with hp | hp
  ·exact pg t u c h.1 p hp
  ·exact xM l m c h.2 p hp
end
theorem QK {nr:Nat->Prop} {kb mF mT nF nT:Nat} {k:Bd} (dV:KnV nr goodF goodT W kb mF mT nF nT k) (s:Fm) (hs:okF true s=true) (ry:nodesF s<=400):jF k s<=1000000:=by
 obtain ⟨o,n,a,l⟩:=s;have hn:=Ah (iu _ hs);rw[G0];have h1:nodesF (formOf k.fs n)<=400:=by obtain ⟨q,_,_,h,_⟩:=dV.formOf (x:=n) (by have:=hn.2.1;omega);exact h
 split
 ·omega
 ·split
  ·rename_i gW;subst gW;obtain ⟨x,y,rfl,hx,hy,hi⟩:=jL hs;rw[hi];have h2:=o6 (cM x) (formOf k.fs n);have h3:=kJ dV (x:=y) (by have:=gp hy;omega);have:iC (cM x) (formOf k.fs n) * (nodesT (termOf k.ts y) - 1)<=400 * 1000:=Nat.mul_le_mul (by omega) (by omega);simp only;omega
  ·have h4:=rB (fun x hx=>kJ dV (x:=x) hx) a (dS (by omega) a hn.2.2.1);have h5:nodesTs a<=400:=by simp only[nodesF]at ry;omega
   omega
theorem uR {f:α->Bool} {l:List α} {x:α} (h:l.any f=false):(l ++ [x]).any f=f x:=by simp[h]
theorem LX {f:α->Bool} {l m:List α} (h:l <+: m) (hl:l.any f=true):m.any f=true:=by
 obtain ⟨r,rfl⟩:=h;simp[hl]
theorem Ty {l m:List Nat} (h:l <+: m):l.sum<=m.sum:=by
 obtain ⟨r,rfl⟩:=h;simp
theorem NB (nr:Nat->Prop) (kb mF mT nF nT:Nat) (kd:Bd) (s:Fm) (hs:okF true s=true) (ry:nodesF s<=400) (ok:Nat->Prop) (w:World) (dV:KnV nr goodF goodT w kb mF mT nF nT kd) (q:FQ) (hq:FormV ok w q.val s) :
  Calls Tryz.prog 71 #[.pointer (some ⟨kb,0,none⟩),q.val] w fun e w'=>e=.returned (.int .i64 (lk kd s))/\Below w.heap.size w w':=by
 have hq:=hq.lt;have aA:fitF s:=⟨by omega,jX (by omega) s (iu _ hs)⟩;obtain ⟨R,hR⟩:=ao (lk kd s);rw[<-hR];unfold lk at hR;obtain ⟨so,sn,sa,sl,sc,sb,sm,se⟩:=q;obtain ⟨W1,bR⟩:=ao (((w.alloc (.cells #[.pointer (some ⟨kb,0,none⟩)] 80)).alloc (.cells #[.int .u8 so,.string sn,.slice sa sl sc,.slice sb sm se] 36)).alloc (.cells #[.int .i64 0] 30));have hb1:=xW bR;have iq:=IX bR;have xk1:=yN bR;have xs1:=rW bR;have xr1:=qd bR;have HP:=fA hs ry aA dV hq;have H1:=fA hb1 iq xk1 xs1 xr1;obtain ⟨iW,HR⟩:=aZ bR hR;clear hs ry aA dV hq hb1 iq xk1 xs1 xr1 bR hR;refine K_ ?_;refine callsIn_of_wp_marks Tryz.func71 rfl trivial ?_ rfl;simp only[FQ.val,Tryz.ntmps71,Nat.reduceAdd,Nat.reduceSub,li];have jH:=eU;obtain ⟨d0,d1,d2,d3⟩:=mi H1.o.2.2.2.1;rw[iW.o]at d0 d1 d2 d3;have HMk:=ab (show w.heap.size≠w.heap.size+1+1 by omega);have ZO:=fA H1.o.1 H1.o.2.2.1 H1.o.2.2.2.1 H1.o.2.2.2.2 (Marks.nil w.heap.size W1);obtain ⟨Tz,QL⟩:∃bad:Pl->Bool,bad=fun p=>eV kd p.s:=⟨_,rfl⟩;have zba:=ab (show ∀ p,eV kd p.s=Tz p from fun p=>by rw[QL]);have TA:=ab QL;clear QL;obtain ⟨TB,QM⟩:∃bad:Pl->Bool,bad=fun p=>tK kd p:=⟨_,rfl⟩;have zbb:=ab (show ∀ p,tK kd p=TB p from fun p=>by rw[QM]);have XZ:=ab QM;clear QM;obtain ⟨E7,QN⟩:∃bad:Pl->Nat,bad=fun p=>jF kd p.s:=⟨_,rfl⟩;have Vi:=ab (show ∀ p,jF kd p.s=E7 p from fun p=>by rw[QN]);have zbc:=ab QN;clear QN;obtain ⟨V1,ZP⟩:=ao (h_ W1 ⟨so,sn,sa,sl,sc,sb,sm,se⟩ ⟨so,sn,sa,sl,sc,sb,sm,se⟩);obtain ⟨M1,Tu⟩:∃M:Nat->Prop,M=(fun b=>b=w.heap.size+1+1):=⟨_,rfl⟩;have Lw:Below W1.heap.size W1 V1:=by rw[ZP];exact fE _ _ _
 have iq:V1.heap.size=W1.heap.size+2:=by rw[ZP,kg]
 have xX1:V1.heap[W1.heap.size]?=some (.cells #[.int .u8 so,.string sn,.slice sa sl sc,.slice sb sm se] 36 (0,0)):=by rw[ZP];exact kZ _ _ _
 have xY1:V1.heap[W1.heap.size+1]?=some (.cells #[.int .u8 so,.string sn,.slice sa sl sc,.slice sb sm se] 36 (0,0)):=by rw[ZP];exact k_ _ _ _
 have TC:=ZO.o.1.tr Lw;have zdb:=(bn ZO.o.2.2.2.1);have QO:∀ b,M1 b->w.heap.size<=b/\b<W1.heap.size:=fun b hb=>by rw[Tu]at hb;subst hb;omega
 have X6:FormV (fun b=>b<V1.heap.size/\¬M1 b) V1 (FQ.val ⟨so,sn,sa,sl,sc,sb,sm,se⟩) s:=HP.o.2.2.2.2.move (fun b hb hlt=>⟨⟨bN hb TC.size,fun hm=>by have:=(QO b hm).1;omega⟩,TC.block b hlt⟩);have Vj:=mz s s HP.o.2.2.1 (by have:=HP.o.2.1;omega) M1 V1.heap.size W1.heap.size (W1.heap.size+1) V1 ⟨so,sn,sa,sl,sc,sb,sm,se⟩ ⟨so,sn,sa,sl,sc,sb,sm,se⟩ xX1 (fun h=>by have:=(QO _ h).2;omega) xY1 (fun h=>by have:=(QO _ h).2;omega) X6 X6;obtain ⟨zdc,TD,IS⟩:=cD Vj QO Tu;have Jq:=cC TC iq (bT Lw ZO.o.2.1) (bT Lw ZO.o.2.2.2.1);have Hv1:=aC Lw (ZO.o.2.2.2.2.move (fun D _ hd=>(Lw.block D (bn hd)).trans hd));have zdd:=ab ZP;clear ZP Tu Lw iq xX1 xY1 TC zdb QO X6 Vj;gi_wp2_with fail;refine aL.2 ((my ⟨so,sn,sa,sl,sc,sb,sm,se⟩ ⟨so,sn,sa,sl,sc,sb,sm,se⟩ _).mono ?_);rintro e w' ⟨rfl,rfl⟩
 try clear d0 d1 d2 d3
 rw[<-iW.o];rw[<-zdd.o];gi_wp2_with fail;have eg:∀ args W,(callFunc 102 args).run Tryz.prog W=.ok (.enter 102 args) W:=enters_of Tryz.func102 (by kernel_rfl) rfl;refine gd rfl eg (fun b hb=>by have:=(TD.o b hb).2;have:=Jq.o.2.1;omega) zdc.o (fun _ _ _ h=>by obtain ⟨q,ps,rfl,_⟩:=h;rfl)
  (fun pre X=>pre.any Tz=false/\X.heap[w.heap.size+1+1]?=some (.cells #[.int .i64 0] 30 (0,0))/\Kp M1 V1 X)
  (fun c pre X=>c=.ret/\pre.any Tz=true/\X.heap[w.heap.size+1+1]?=some (.cells #[.int .i64 6] 30 (0,0))/\Kp M1 V1 X)
  (fun s=>?hI1) (fun c s=>?hIx1) ⟨rfl,Jq.o.2.2.2,Kp.refl _⟩ ?round1 ?done1 ?stop1
 case hI1=>
  rintro X Y hn ⟨h1,h2,h3⟩;exact ⟨h1,hn.cells h2,nu h3 hn⟩
 case hIx1=>
  exact pm294
 case round1=>
  rintro lR pre vs x W hl yf ⟨h1,h2,h3⟩ ⟨q,ps,rfl,LW,lJ,tF,B_,iF⟩ FB dt;have pp19a:=();exact pm19
 case done1=>
  rintro D X hD ⟨h1,h2,h3⟩ X7 hd;obtain ⟨X2,hX⟩:=ao X;rw[<-hX]at h2 h3 X7 hd ⊢;clear hX X;have AC:Below w.heap.size w X2:=aq Jq.o.1 h3 (fun b hb=>(TD.o b hb).1);have kl:Marks w.heap.size X2 _:=Hv1.o.2.more (w':=X2) (fun E hE hx=>(h3.same E (bn hx) (fun hm=>by rw[IS.o]at hm;subst hm;rw[Jq.o.2.2.2]at hx;cases hx)).trans hx) hD (aQ Jq.o.1.size hD) hd;have xkX:=(h3.same _ (bn Jq.o.2.2.1) (fun h=>by have:=HMk.o;rw[IS.o]at h;omega)).trans Jq.o.2.2.1;have X8:=bT Hv1.o.1 ZO.o.2.2.1;have X9:=(h3.same _ (bn X8) (fun h=>by rw[IS.o]at h;omega)).trans X8;have HA1:=ab h1;have Bo:=fA AC xkX X9 h2 kl;obtain ⟨d0,d1,d2,d3⟩:=mi X9;clear h1 h2 h3 X7 hd AC kl xkX X8 X9 hD;obtain ⟨V2,ZQ⟩:=ao (h_ X2 ⟨so,sn,sa,sl,sc,sb,sm,se⟩ ⟨so,sn,sa,sl,sc,sb,sm,se⟩);obtain ⟨M2,hM2⟩:∃M:Nat->Prop,M=(fun b=>b=w.heap.size+1+1):=⟨_,rfl⟩;have jS:Below X2.heap.size X2 V2:=by rw[ZQ];exact fE _ _ _
  have gV:V2.heap.size=X2.heap.size+2:=by rw[ZQ,kg]
  have xX2:V2.heap[X2.heap.size]?=some (.cells #[.int .u8 so,.string sn,.slice sa sl sc,.slice sb sm se] 36 (0,0)):=by rw[ZQ];exact kZ _ _ _
  have xY2:V2.heap[X2.heap.size+1]?=some (.cells #[.int .u8 so,.string sn,.slice sa sl sc,.slice sb sm se] 36 (0,0)):=by rw[ZQ];exact k_ _ _ _
  have TF:=Bo.o.1.tr jS;have zde:=(bn Bo.o.2.2.2.1);have QQ:∀ b,M2 b->w.heap.size<=b/\b<X2.heap.size:=fun b hb=>by rw[hM2]at hb;subst hb;omega
  have X':FormV (fun b=>b<V2.heap.size/\¬M2 b) V2 (FQ.val ⟨so,sn,sa,sl,sc,sb,sm,se⟩) s:=HP.o.2.2.2.2.move (fun b hb hlt=>⟨⟨bN hb TF.size,fun hm=>by have:=(QQ b hm).1;omega⟩,TF.block b hlt⟩);have Vl:=mz s s HP.o.2.2.1 (by have:=HP.o.2.1;omega) M2 V2.heap.size X2.heap.size (X2.heap.size+1) V2 ⟨so,sn,sa,sl,sc,sb,sm,se⟩ ⟨so,sn,sa,sl,sc,sb,sm,se⟩ xX2 (fun h=>by have:=(QQ _ h).2;omega) xY2 (fun h=>by have:=(QQ _ h).2;omega) X' X';obtain ⟨zdf,TG,ZR⟩:=cD Vl QQ hM2;have Gx:=cC TF gV (bT jS Bo.o.2.1) (bT jS Bo.o.2.2.2.1);have Hv2:=aC jS (Bo.o.2.2.2.2.move (fun D _ hd=>(jS.block D (bn hd)).trans hd));have zdg:=ab ZQ;clear ZQ hM2 jS gV xX2 xY2 TF zde QQ X' Vl;gi_wp2_with fail;refine aL.2 ((my ⟨so,sn,sa,sl,sc,sb,sm,se⟩ ⟨so,sn,sa,sl,sc,sb,sm,se⟩ _).mono ?_);rintro e w' ⟨rfl,rfl⟩
  try clear d0 d1 d2 d3
  rw[<-zdg.o];gi_wp2_with fail;have eg:∀ args W,(callFunc 102 args).run Tryz.prog W=.ok (.enter 102 args) W:=enters_of Tryz.func102 (by kernel_rfl) rfl;refine gd rfl eg (fun b hb=>by have:=(TG.o b hb).2;have:=Gx.o.2.1;omega) zdf.o (fun _ _ _ h=>by obtain ⟨q,ps,rfl,_⟩:=h;rfl)
   (fun pre X=>pre.any TB=false/\X.heap[w.heap.size+1+1]?=some (.cells #[.int .i64 0] 30 (0,0))/\Kp M2 V2 X)
   (fun c pre X=>c=.ret/\pre.any TB=true/\X.heap[w.heap.size+1+1]?=some (.cells #[.int .i64 72] 30 (0,0))/\Kp M2 V2 X)
   (fun s=>?hI2) (fun c s=>?hIx2) ⟨rfl,Gx.o.2.2.2,Kp.refl _⟩ ?round2 ?done2 ?stop2
  case hI2=>
   rintro X Y hn ⟨h1,h2,h3⟩;exact ⟨h1,hn.cells h2,nu h3 hn⟩
  case hIx2=>
   exact pm294
  case round2=>
   rintro lR pre vs x W hl yf ⟨h1,h2,h3⟩ ⟨q,ps,rfl,LW,lJ,tF,B_,iF⟩ FB dt;have pp19b:=();exact pm19
  case done2=>
   rintro D X hD ⟨h1,h2,h3⟩ X7 hd;obtain ⟨X3,hX⟩:=ao X;rw[<-hX]at h2 h3 X7 hd ⊢;clear hX X;have AC:Below w.heap.size w X3:=aq Gx.o.1 h3 (fun b hb=>(TG.o b hb).1);have kl:Marks w.heap.size X3 _:=Hv2.o.2.more (w':=X3) (fun E hE hx=>(h3.same E (bn hx) (fun hm=>by rw[ZR.o]at hm;subst hm;rw[Gx.o.2.2.2]at hx;cases hx)).trans hx) hD (aQ Gx.o.1.size hD) hd;have xkX:=(h3.same _ (bn Gx.o.2.2.1) (fun h=>by have:=HMk.o;rw[ZR.o]at h;omega)).trans Gx.o.2.2.1;have X8:=bT Hv2.o.1 Bo.o.2.2.1;have X9:=(h3.same _ (bn X8) (fun h=>by rw[ZR.o]at h;omega)).trans X8;have HA2:=ab h1;have ZS:=fA AC xkX X9 h2 kl;obtain ⟨d0,d1,d2,d3⟩:=mi X9;clear h1 h2 h3 X7 hd AC kl xkX X8 X9 hD;obtain ⟨nB,hnB⟩:=ao X3.heap.size;obtain ⟨X4,ZT⟩:=ao (X3.alloc (.cells #[.int .i64 0] 3));have BL:=cX ZT;have PH:X4.heap.size=nB+1:=by rw[ZT,hnB];simp
   have X_:X4.heap[nB]?=some (.cells #[.int .i64 0] 3 (0,0)):=by rw[ZT,hnB];exact aj rfl
   have JR:=(bn ZS.o.2.2.2.1);have HnB:=ab (show w.heap.size+1+1<nB/\nB+1=X4.heap.size by rw[PH,hnB];exact ⟨JR,rfl⟩);have xs4:=bT BL ZS.o.2.2.1;have HU3:=fA (ZS.o.1.tr BL) (bT BL ZS.o.2.1) xs4 ((BL.block _ JR).trans ZS.o.2.2.2.1) (ZS.o.2.2.2.2.move (fun D _ hd=>(BL.block D (bn hd)).trans hd));obtain ⟨HnU,HX4⟩:=aZ X_ ZT;clear d0 d1 d2 d3;obtain ⟨d0,d1,d2,d3⟩:=mi xs4;rw[ZT]at d0 d1 d2 d3;have zdh:=ab hnB;clear hnB ZT BL PH X_ JR xs4;obtain ⟨V3,ZU⟩:=ao (h_ X4 ⟨so,sn,sa,sl,sc,sb,sm,se⟩ ⟨so,sn,sa,sl,sc,sb,sm,se⟩);obtain ⟨M3,hM3⟩:∃M:Nat->Prop,M=(fun b=>b=w.heap.size+1+1\/b=nB):=⟨_,rfl⟩;have Ya:Below X4.heap.size X4 V3:=by rw[ZU];exact fE _ _ _
   have pN:V3.heap.size=X4.heap.size+2:=by rw[ZU,kg]
   have xX3:V3.heap[X4.heap.size]?=some (.cells #[.int .u8 so,.string sn,.slice sa sl sc,.slice sb sm se] 36 (0,0)):=by rw[ZU];exact kZ _ _ _
   have xY3:V3.heap[X4.heap.size+1]?=some (.cells #[.int .u8 so,.string sn,.slice sa sl sc,.slice sb sm se] 36 (0,0)):=by rw[ZU];exact k_ _ _ _
   have TH:=HU3.o.1.tr Ya;have zdi:=(bn HU3.o.2.2.2.1);have QR:∀ b,M3 b->w.heap.size<=b/\b<X4.heap.size:=fun b hb=>by rw[hM3]at hb;have:=HnB.o;rcases hb with rfl | rfl <;> omega
   have Yb:FormV (fun b=>b<V3.heap.size/\¬M3 b) V3 (FQ.val ⟨so,sn,sa,sl,sc,sb,sm,se⟩) s:=HP.o.2.2.2.2.move (fun b hb hlt=>⟨⟨bN hb TH.size,fun hm=>by have:=(QR b hm).1;omega⟩,TH.block b hlt⟩);have Vm:=mz s s HP.o.2.2.1 (by have:=HP.o.2.1;omega) M3 V3.heap.size X4.heap.size (X4.heap.size+1) V3 ⟨so,sn,sa,sl,sc,sb,sm,se⟩ ⟨so,sn,sa,sl,sc,sb,sm,se⟩ xX3 (fun h=>by have:=(QR _ h).2;omega) xY3 (fun h=>by have:=(QR _ h).2;omega) Yb Yb;obtain ⟨zdj,TI,HM3⟩:=cD Vm QR hM3;have QS:=cC TH pN (bT Ya HU3.o.2.1) (bT Ya HU3.o.2.2.2.1);have Hv3:=aC Ya (HU3.o.2.2.2.2.move (fun D _ hd=>(Ya.block D (bn hd)).trans hd));have zdk:=ab ZU;have HnV:=ab (bT Ya HnU.o);clear ZU hM3 Ya pN xX3 xY3 TH zdi QR Yb Vm;gi_wp2_with fail;refine aL.2 ((my ⟨so,sn,sa,sl,sc,sb,sm,se⟩ ⟨so,sn,sa,sl,sc,sb,sm,se⟩ _).mono ?_);rintro e w' ⟨rfl,rfl⟩
   try clear d0 d1 d2 d3
   rw[<-zdh.o,<-HX4.o];rw[<-zdk.o];gi_wp2_with fail;have eg:∀ args W,(callFunc 102 args).run Tryz.prog W=.ok (.enter 102 args) W:=enters_of Tryz.func102 (by kernel_rfl) rfl;refine gd rfl eg (fun b hb=>by have:=(TI.o b hb).2;have:=QS.o.2.1;omega) zdj.o (fun _ _ _ h=>by obtain ⟨q,ps,rfl,_⟩:=h;rfl)
    (fun pre X=>(pre.map E7).sum<=400/\X.heap[nB]?=some (.cells #[.int .i64 ((pre.map E7).sum:Nat)] 3 (0,0))/\X.heap[w.heap.size+1+1]?=some (.cells #[.int .i64 0] 30 (0,0))/\Kp M3 V3 X)
    (fun c pre X=>c=.ret/\400<(pre.map E7).sum/\X.heap[w.heap.size+1+1]?=some (.cells #[.int .i64 3] 30 (0,0))/\Kp M3 V3 X)
    (fun s=>?hI3) (fun c s=>?hIx3) ⟨by simp,by simpa using HnV.o,QS.o.2.2.2,Kp.refl _⟩ ?round3 ?done3 ?stop3
   case hI3=>
    rintro X Y hn ⟨h1,h2,h3,h4⟩;exact ⟨h1,hn.cells h2,hn.cells h3,nu h4 hn⟩
   case hIx3=>
    exact pm294
   case round3=>
    rintro lR pre vs x W hl yf ⟨h1,h2,h3,h4⟩ ⟨q,ps,rfl,LW,lJ,tF,B_,iF⟩ FB dt;have pp19c:=();exact pm19
   case done3=>
    rintro D X hD ⟨h1,h2,h3,h4⟩ X7 hd;have HE:=ab (show R=0 by rw[HR.o,aD (by rw[<-TA.o,HA1.o];simp),aD (by have h:=HA2.o;rw[XZ.o]at h;rw[h];simp),aD (by rw[<-zbc.o];omega)]);have pp109:=();exact pm109
   case stop3=>
    rintro D c pre X _ hD dt ⟨rfl,h2,h3,h4⟩ hd;exact pm109
  case stop2=>
   rintro D c pre X _ hD dt ⟨rfl,h2,h3,h4⟩ hd;have AC:Below w.heap.size w X:=aq Gx.o.1 h4 (fun b hb=>(TG.o b hb).1);have kl:Marks w.heap.size X _:=Hv2.o.2.more (w':=X) (fun E hE hx=>(h4.same E (bn hx) (fun hm=>by rw[ZR.o]at hm;subst hm;rw[Gx.o.2.2.2]at hx;cases hx)).trans hx) hD (aQ Gx.o.1.size hD) hd;have HE:=ab (show R=72 by rw[HR.o,aD (by rw[<-TA.o,HA1.o];simp),aX (by have:=LX dt h2;rwa [XZ.o]at this)]);have pp207:=();exact pm207
 case stop1=>
  rintro D c pre X _ hD dt ⟨rfl,h2,h3,h4⟩ hd;have AC:Below w.heap.size w X:=aq Jq.o.1 h4 (fun b hb=>(TD.o b hb).1);have kl:Marks w.heap.size X _:=Hv1.o.2.more (w':=X) (fun E hE hx=>(h4.same E (bn hx) (fun hm=>by rw[IS.o]at hm;subst hm;rw[Jq.o.2.2.2]at hx;cases hx)).trans hx) hD (aQ Jq.o.1.size hD) hd;have HE:=ab (show R=6 by rw[HR.o,aX (by rw[<-TA.o];exact LX dt h2)]);exact pm207
