/-
The contract of 'Small' of lyceumlaw07.
-/
import Derived.Test.YtokemihbkeddoaaGreatDoorV18
namespace Go.Proofs.YtokemihbkeddoaaGreatDoor
open Go Go.RowKit Lib
set_option maxRecDepth 100000
set_option maxHeartbeats 64000000
variable {cE d:Nat} {listed:Array Bool} {a:Act} {w:World} {oi o:Oper} {vJ:Array TypeId} {ty:TypeId} {pos:String} {gK:Array Edge}
section
attribute [local go_sem] Oper.semAt_some
def kn (b:List (Str×Fm)):List Fm:=b.flatMap fun x=>[x.2,.mk 1 x.1 [] []]
def ld (b:List (Str×Tm)):List Fm:=b.map fun x=>.mk 1 x.1 [x.2] []
def mG (b:Bd):Bool:=decide (b.fs.length<=10) && (decide (b.ts.length<=10) && ls (kn b.fs ++ ld b.ts))
theorem vj (l:List (Str×Fm)):(kn l).length=2 * l.length:=by
 induction l with
 | nil=>rfl
 | cons x l ih=>simp[kn]at ih ⊢;omega
theorem NW {l:List (Str×Fm)} {k:Nat} (h:k<l.length):kn (l.take (k+1))=kn (l.take k) ++ [l[k].2,.mk 1 l[k].1 [] []]:=by
 rw[mQ h];simp only[kn,List.flatMap_append,List.flatMap_cons,List.flatMap_nil,List.append_nil]
theorem NX {l:List (Str×Tm)} {k:Nat} (h:k<l.length):ld (l.take (k+1))=ld (l.take k) ++ [.mk 1 l[k].1 [l[k].2] []]:=by
 rw[mQ h];simp only[ld,List.map_append,cU,List.map_nil]
theorem KG (bd:Bd) (hf1:bd.fs.length<=1000000) (Sd:bd.ts.length<=1000000) (aA:bd.fs.length<=10->bd.ts.length<=10->fitFs (kn bd.fs ++ ld bd.ts)) (ok:Nat->Prop) (w:World) (q:BQ) (hq:BindV ok w q bd) :
  Calls Tryz.prog 14 #[q.val] w fun e w'=>e=.returned (.bool (mG bd))/\Below w.heap.size w w':=by
 have hqv:=hq.move (ok':=fun b=>b<w.heap.size) (fun b _ hlt=>⟨hlt,rfl⟩);obtain ⟨R,hR⟩:=ao (mG bd);rw[<-hR];obtain ⟨n1,dT⟩:=ao bd.fs.length;obtain ⟨n2,ks⟩:=ao bd.ts.length;obtain ⟨qa,ql,qc,qb,qm,qe⟩:=q;obtain rfl:=hqv.1.len;obtain rfl:=hqv.2.len;have hq1:FBindsV (fun b=>b<w.heap.size) w (.slice qa bd.fs.length qc) bd.fs:=hqv.1;have FJ:TBindsV (fun b=>b<w.heap.size) w (.slice qb bd.ts.length qe) bd.ts:=hqv.2;rw[<-dT]at hq1;rw[<-ks]at FJ;obtain ⟨i0,hi,pF,iq,gV⟩:=info_parts kC;obtain ⟨W1,bR⟩:=ao (w.alloc (.cells #[.slice qa n1 qc,.slice qb n2 qe] 26));have iJ:=cX bR;have x1:=bX bR;have e0:W1.cell? ⟨w.heap.size,0,none⟩=some (.slice qa n1 qc):=aH x1 0;have e1:W1.cell? ⟨w.heap.size,1,none⟩=some (.slice qb n2 qe):=aH x1 1;have iW:=bE iJ e0 e1;obtain ⟨HWW,pR,FC,zD⟩:=eR bR dT ks hR;have HQV:=aC hq1 FJ;have ng:=ab aA;rw[bR]at e0 e1;clear hq hqv hq1 FJ hR aA dT ks bR iJ x1;simp only[BQ.val];rw[<-pR.o,<-FC.o]
 by_cases h10:n1<=10
 case neg=>
  have t1:decide ((10:Int)<(n1:Int))=true:=by simp;omega
  have HE:=ab (show R=false by rw[zD.o];unfold mG;rw[<-pR.o];simp[h10]);exact pm200
 have t1:decide ((10:Int)<(n1:Int))=false:=by simp;omega
 by_cases h20:n2<=10
 case neg=>
  have t2:decide ((10:Int)<(n2:Int))=true:=by simp;omega
  have HE:=ab (show R=false by rw[zD.o];unfold mG;rw[<-FC.o];simp[h20]);exact pm200
 have t2:decide ((10:Int)<(n2:Int))=false:=by simp;omega
 have HE:=ab (show R=ls (kn bd.fs ++ ld bd.ts) by rw[zD.o];unfold mG;rw[<-pR.o,<-FC.o];simp[h10,h20]);have U8:=ab (ng.o (by rw[<-pR.o];exact h10) (by rw[<-FC.o];exact h20));go_enter Tryz.func14,Tryz.ntmps14;go_wp2;rw[<-HWW.o];clear e0 e1;go_loopw [3,4] (fun r i wr=>∃k:Nat,k<=n1/\i=.int .i64 k/\RowX W1.heap.size r (kn (bd.fs.take k)) wr/\Below W1.heap.size W1 wr) (fun _ i _=>n1 - (intOf i).toNat)
 case atStart=>exact ⟨0,bc _,rfl,RowX.nil _ _,ak _ _⟩
 case round=>
  obtain ⟨k,hk,rfl,hR,ar⟩:=hrel;obtain ⟨ra,rc,rfl⟩:=hR.slice
  by_cases hlt:k<n1
  case pos=>
   have br:k<bd.fs.length:=by rw[<-pR.o];exact hlt
   obtain ⟨⟨nm,fm⟩,sW⟩:∃x,x=bd.fs[k]:=⟨_,rfl⟩;obtain ⟨b,off,x,rfl,hok,hx,c0,c1,c2,c3,c4⟩:=(HQV.o.1).get br;rw[<-sW]at hx c0;simp only at hx c0;have hm:(kn (bd.fs.take k)).length=2 * k:=by rw[vj,dX];omega
   obtain ⟨M,YL⟩:=ao (2 * k);rw[hm,<-YL]at hR ⊢;rw[<-YL]at hm;have DZ:(k:Int)<(n1:Int):=by omega
   have pp281:=();exact pm281
  obtain rfl:k=n1:=by omega
  obtain ⟨wo,JB⟩:=ao wr;subst JB;have hm:(kn (bd.fs.take k)).length=2 * k:=by rw[vj,dX];have:=pR.o;omega
  rw[hm]at hR ⊢;rw[ii (by rw[<-pR.o];exact aF _)]at hR;have d0:=aa ar iW.o.2.1;obtain ⟨Zn,S9⟩:=aZ hR ar;clear hR ar hm;go_wp2;go_loopw [3,5] (fun r i wr=>∃j:Nat,j<=n2/\i=.int .i64 j/\RowX W1.heap.size r (kn bd.fs ++ ld (bd.ts.take j)) wr/\Below W1.heap.size W1 wr) (fun _ i _=>n2 - (intOf i).toNat)
  case atStart=>exact ⟨0,bc _,rfl,by simpa[ld] using Zn.o,S9.o⟩
  case round=>
   obtain ⟨j,hj,rfl,hR,ar⟩:=hrel;obtain ⟨ra,rc,rfl⟩:=hR.slice;clear d0
   by_cases eJ:j<n2
   case pos=>
    have br:j<bd.ts.length:=by rw[<-FC.o];exact eJ
    obtain ⟨⟨nm,tm⟩,sW⟩:∃x,x=bd.ts[j]:=⟨_,rfl⟩;obtain ⟨b,off,x,rfl,hok,hx,c0,c1,c2,c3⟩:=(HQV.o.2).get br;rw[<-sW]at hx c0;simp only at hx c0;have hm:(kn bd.fs ++ ld (bd.ts.take j)).length=2 * k+j:=by rw[di,vj,<-pR.o];simp[ld];omega
    obtain ⟨M,YL⟩:=ao (2 * k+j);rw[hm,<-YL]at hR ⊢;rw[<-YL]at hm;have DZ:(j:Int)<(n2:Int):=by omega
    exact pm281
   obtain rfl:j=n2:=by omega
   have hm:(kn bd.fs ++ ld (bd.ts.take j)).length=2 * k+j:=by rw[di,vj,<-pR.o];simp[ld];have:=FC.o;omega
   rw[hm]at hR ⊢;rw[ii (by rw[<-FC.o];exact aF _)]at hR;have d0:=aa ar iW.o.2.2;have CS:=DO (kn bd.fs ++ ld bd.ts) U8.o _ wr ra _ rc hR.forms;obtain ⟨tE,HB⟩:=aZ CS ar;clear hR CS ar hm;go_wp2_with (go_at_call 22;refine tE.o.mono ?_;rintro e w' ⟨rfl,hb⟩;have lw:=ab hb;clear hb);go_ret;exact ⟨by rw[HE.o];rfl,(iW.o.1.tr HB.o).tr lw.o⟩
section
variable {F:Fence} {n:Nat} {P:Program} {ops:Array Oper} {Q:Exit->Act->World->Prop} {md:Region.Mode} {S:World->Prop} {e:Nat}
theorem KH (i d:Nat) (hi:ops[i]?=some oi) (hS:S w)
  (h:S w->dz F n P md ops Q S e cE (listed.setIfInBounds i true) { a with tmps:=a.tmps.setIfInBounds d undef } w)
  (qg:il F ops:=by assumption)
  (hs:(Region.noSelect ops && (Region.free md ops listed i && ((Region.ready md ops listed).contains i && (CO md ops e i && rk md ops listed))))=true:=by kernel_rfl)
  (hQ:∀ c a w,Q (.panic c) (a.put oi.dst undef) w->Q (.panic c) a w:=by exact fun _ _ _ h=>h) (vN:oi.dst=some d:=by rfl) (hw:Region.wanted oi (yielded ops a.tmps)=false:=by rfl)
  (Bv:∀ w,oi.about P w a.eval=none:=by exact fun _=>rfl):dz F n P md ops Q S e (cE+1) listed a w:=
 Z' d qg hi hs hQ vN hw Bv hS h
theorem nnA (i d:Nat) (hi:ops[i]?=some oi) (hS:S w)
  (h:S w->dz F n P md ops Q S e cE (listed.setIfInBounds i true) { a with tmps:=a.tmps.setIfInBounds d undef } w) (hF:∀ f,F.fn f:=by exact fun _=>trivial)
  (hr:Region.ready md ops listed=[i]:=by kernel_rfl) (vN:oi.dst=some d:=by rfl) (hw:Region.wanted oi (yielded ops a.tmps)=false:=by rfl):dz F n P md ops Q S e (cE+1) listed a w:=
 Z_ d hi hr vN hw (fun f _=>hF f) hS h
theorem twM (i j:Nat) {oj:Oper} (hi:ops[i]?=some oi) (hj:ops[j]?=some oj)
  (h1:∀ K:Act->World->Prop,(∀ a w,(i<e->S w)->((i<e->S w)->dz F n P md ops Q S e cE (listed.setIfInBounds i true) a w)->K a w)->Oper.wpIn F n P oi a w K Q)
  (h2:∀ K:Act->World->Prop,(∀ a w,(j<e->S w)->((j<e->S w)->dz F n P md ops Q S e cE (listed.setIfInBounds j true) a w)->K a w)->Oper.wpIn F n P oj a w K Q)
  (hr:Region.ready md ops listed=[i,j]:=by kernel_rfl) (hwi:Region.wanted oi (yielded ops a.tmps)=true:=by rfl) (hwj:Region.wanted oj (yielded ops a.tmps)=true:=by rfl):dz F n P md ops Q S e (cE+1) listed a w:=by
 exact pm100
end
theorem AP {ok:Nat->Prop} {X:World} {B c:Nat} {p:TQ} {f:Tm} (h:TermV ok X p.val f) (hB:ok B) (hx:X.heap[B]?=some (.cells #[.bool p.v,.string p.n,.slice p.a p.l p.c] 43 (0,0))):TermsV ok X (.slice (some ⟨B,0,none⟩) 1 c) [f]:=
 ⟨_,c,fun _=>p.val,rfl,.inr ⟨B,0,rfl,hB,fun j hj=>by
  obtain rfl:j=0:=by simpa using hj
  exact ⟨_,_,_,rfl,lE hx⟩⟩,fun j hj=>by
  obtain rfl:j=0:=by simpa using hj
  exact h⟩
open Classical in
noncomputable def sameB (x y:Bd):Bool:=decide (x=y)
theorem rG {x y:Bd}:sameB x y=true ↔ x=y:=by simp[sameB]
theorem pu {α:Type} {l m:List α} {k:Nat} (h:l.take k=m.take k) (hl:k<l.length) (hm:k<m.length) (e:l[k]=m[k]):l.take (k+1)=m.take (k+1):=by
 rw[mQ hl,mQ hm,h,e]
theorem NY (x y:Bd) (tP:x.fs.length<=1000000) (oL:x.ts.length<=1000000) (hfx:∀ f∈x.fs,fitF f.2) (htx:∀ t∈x.ts,fitT t.2) (ok ok':Nat->Prop) (w:World) (q q':BQ) (hq:BindV ok w q x) (oy:BindV ok' w q' y) :
  Calls Tryz.prog 21 #[q.val,q'.val] w fun e w'=>e=.returned (.bool (sameB x y))/\Below w.heap.size w w':=by
 obtain ⟨R,hR⟩:=ao (sameB x y);have J2:R=true ↔ x=y:=by rw[hR];exact rG
 rw[<-hR];clear hR;obtain ⟨qa,ql,qc,qb,qm,qe⟩:=q;obtain ⟨ra,rl,rc,rb,rm,re⟩:=q';obtain rfl:=hq.1.len;obtain rfl:=hq.2.len;obtain rfl:=oy.1.len;obtain rfl:=oy.2.len;obtain ⟨n1,dT⟩:=ao x.fs.length;obtain ⟨n2,ks⟩:=ao x.ts.length;obtain ⟨m1,jh⟩:=ao y.fs.length;obtain ⟨m2,rR⟩:=ao y.ts.length;have hq1:FBindsV ok w (.slice qa x.fs.length qc) x.fs:=hq.1;have FJ:TBindsV ok w (.slice qb x.ts.length qe) x.ts:=hq.2;have Pc:FBindsV ok' w (.slice ra y.fs.length rc) y.fs:=oy.1;have hq4:TBindsV ok' w (.slice rb y.ts.length re) y.ts:=oy.2;rw[<-dT]at hq1 tP;rw[<-ks]at FJ oL;rw[<-jh]at Pc;rw[<-rR]at hq4;simp only[BQ.val];rw[<-dT,<-ks,<-jh,<-rR];obtain ⟨W2,bl⟩:=ao ((w.alloc (.cells #[.slice qa n1 qc,.slice qb n2 qe] 26)).alloc (.cells #[.slice ra m1 rc,.slice rb m2 re] 26));have fH:Below w.heap.size w W2:=lB bl;have x0:W2.heap[w.heap.size]?=some (.cells #[.slice qa n1 qc,.slice qb n2 qe] 26 (0,0)):=rV bl;have x1:W2.heap[w.heap.size+1]?=some (.cells #[.slice ra m1 rc,.slice rb m2 re] 26 (0,0)):=jC bl;obtain ⟨e0,e1⟩:=Sm x0;obtain ⟨e2,e3⟩:=Sm x1;have gF:=ab bl;have HE:=fA fH e0 e1 e2 e3;have HQ:=cC (hq1.later fH) (FJ.later fH) (Pc.later fH) (hq4.later fH);have HN:=cC dT ks jh rR;have HF:=aC hfx htx;have HR:=ab J2;rw[bl]at e0 e1 e2 e3;clear hq oy hq1 FJ Pc hq4 hfx htx J2 bl fH x0 x1 dT ks jh rR;have fZ:(¬x=y)->R=false:=fun h=>by
  cases hr:R with
  | false=>rfl
  | true=>exact absurd (HR.o.1 hr) h
 have zF:=ab fZ;clear fZ
 by_cases h1:n1=m1
 case neg=>
  have t1:((n1:Int) == (m1:Int))=false:=by simp;omega
  have t2:((n1:Int) != (m1:Int))=true:=by simp;omega
  have HZ:=ab (zF.o fun h=>by subst h;exact h1 (by rw[HN.o.1,HN.o.2.2.1]));exact pm206
 subst h1
 by_cases h2:n2=m2
 case neg=>
  have t1:((n2:Int) == (m2:Int))=false:=by simp;omega
  have t2:((n2:Int) != (m2:Int))=true:=by simp;omega
  have HZ:=ab (zF.o fun h=>by subst h;exact h2 (by rw[HN.o.2.1,HN.o.2.2.2]));exact pm206
 subst h2;go_enter Tryz.func21,Tryz.ntmps21;go_wp2;rw[<-gF.o];clear e0 e1 e2 e3;go_loopw [5] (fun i wr=>∃k:Nat,k<=n1/\i=.int .i64 k/\Below W2.heap.size W2 wr/\x.fs.take k=y.fs.take k) (fun i _=>n1 - (intOf i).toNat)
 case atStart=>exact ⟨0,bc _,rfl,ak _ _,by simp⟩
 case round=>
  obtain ⟨k,hk,rfl,ar,cb⟩:=hrel
  by_cases hlt:k<n1
  case pos=>
   have br:k<x.fs.length:=by rw[<-HN.o.1];exact hlt
   have nk:k<y.fs.length:=by rw[<-HN.o.2.2.1];exact hlt
   obtain ⟨⟨nx,fx⟩,sJ⟩:∃z,z=x.fs[k]:=⟨_,rfl⟩;obtain ⟨⟨ny,fy⟩,YN⟩:∃z,z=y.fs[k]:=⟨_,rfl⟩;obtain ⟨b,off,u,rfl,_,hu,c0,c1,c2,c3,c4⟩:=HQ.o.1.get br;obtain ⟨b',nh,u',rfl,_,iA,mI,nU,nV,GR,c4'⟩:=HQ.o.2.2.1.get nk;have rt:=HF.o.1 _ (az br);rw[<-sJ]at hu c0 rt;rw[<-YN]at iA mI;simp only at hu iA c0 mI rt;have f0:=fun z:Later wr=>z.get (aa ar HE.o.2.1);have f1:=fun z:Later wr=>z.get (aa ar HE.o.2.2.2.1);have f2:=fun z:Later wr=>z.get (aa ar c0);have f3:=fun z:Later wr=>z.get (aa ar c1);have f4:=fun z:Later wr=>z.get (aa ar c2);have f5:=fun z:Later wr=>z.get (aa ar c3);have f6:=fun z:Later wr=>z.get (aa ar c4);have g2:=fun z:Later wr=>z.get (aa ar mI);have g3:=fun z:Later wr=>z.get (aa ar nU);have g4:=fun z:Later wr=>z.get (aa ar nV);have g5:=fun z:Later wr=>z.get (aa ar GR);have g6:=fun z:Later wr=>z.get (aa ar c4');have d0:=aa ar HE.o.2.1;have DZ:(k:Int)<(n1:Int):=by omega
   have CC:=fun (z:Later wr)=>Hu fx fy ok ok' z.w u u' rt ((hu.later ar).later z.below) ((iA.later ar).later z.below);obtain ⟨V,hV⟩:=ao (vP fx fy);rw[<-hV]at CC;obtain ⟨HC,HV,HB,HT⟩:=eR CC hV ar cb;have HX:=aC sJ YN;clear hu iA hV ar cb rt CC c0 c1 c2 c3 c4 mI nU nV GR c4' sJ YN
   by_cases mm:nx=ny
   case neg=>
    have pp175:=();exact pm175
   subst mm;exact pm103
  obtain rfl:k=n1:=by omega
  have hfe:x.fs=y.fs:=by
   have h1:x.fs.take k=x.fs:=by rw[HN.o.1];exact cO
   have h2:y.fs.take k=y.fs:=by rw[HN.o.2.2.1];exact cO
   rw[<-h1,cb,h2]
  obtain ⟨wo,JB⟩:=ao wr;subst JB;have d0:=aa ar HE.o.2.1;obtain ⟨HFe,S9⟩:=aZ hfe ar;clear hfe ar cb;go_wp2;go_loopw [6] (fun i wr=>∃j:Nat,j<=n2/\i=.int .i64 j/\Below W2.heap.size W2 wr/\x.ts.take j=y.ts.take j) (fun i _=>n2 - (intOf i).toNat)
  case atStart=>exact ⟨0,bc _,rfl,S9.o,by simp⟩
  case round=>
   obtain ⟨j,hj,rfl,ar,cb⟩:=hrel;clear d0;have d1:=aa ar HE.o.2.2.1
   by_cases eJ:j<n2
   case pos=>
    have br:j<x.ts.length:=by rw[<-HN.o.2.1];exact eJ
    have nk:j<y.ts.length:=by rw[<-HN.o.2.2.2];exact eJ
    obtain ⟨⟨nx,tx⟩,sJ⟩:∃z,z=x.ts[j]:=⟨_,rfl⟩;obtain ⟨⟨ny,ty⟩,YN⟩:∃z,z=y.ts[j]:=⟨_,rfl⟩;obtain ⟨b,off,u,rfl,_,hu,c0,c1,c2,c3⟩:=HQ.o.2.1.get br;obtain ⟨b2,off2,v,rfl,_,hv,mI,nU,nV,GR⟩:=HQ.o.2.2.2.get nk;have rt:=HF.o.2 _ (az br);rw[<-sJ]at hu c0 rt;rw[<-YN]at hv mI;simp only at hu hv c0 mI rt;have DZ:(j:Int)<(n2:Int):=by omega
    obtain ⟨wz,hwz⟩:=ao wr;subst hwz;obtain ⟨S,hS⟩:∃S:World->Prop,S=fun Z=>Below W2.heap.size W2 Z:=⟨_,rfl⟩;have f0:∀ Z,S Z->Z.cell? ⟨w.heap.size,1,none⟩=some (.slice (some ⟨b,off,none⟩) n2 qe)/\Z.cell? ⟨w.heap.size+1,1,none⟩=some (.slice (some ⟨b2,off2,none⟩) n2 re):=fun Z h=>by rw[hS]at h;exact ⟨aa h HE.o.2.2.1,aa h HE.o.2.2.2.2⟩
    have f1:∀ Z,S Z->Z.cell? ⟨b,off+j * 4,none⟩=some (.string ⟨nx.toArray⟩)/\Z.cell? ⟨b,off+j * 4+1,none⟩=some (.bool u.v)/\Z.cell? ⟨b,off+j * 4+2,none⟩=some (.string u.n)/\Z.cell? ⟨b,off+j * 4+3,none⟩=some (.slice u.a u.l u.c):=fun Z h=>by rw[hS]at h;exact ⟨aa h c0,aa h c1,aa h c2,aa h c3⟩
    have f2:∀ Z,S Z->Z.cell? ⟨b2,off2+j * 4,none⟩=some (.string ⟨ny.toArray⟩)/\Z.cell? ⟨b2,off2+j * 4+1,none⟩=some (.bool v.v)/\Z.cell? ⟨b2,off2+j * 4+2,none⟩=some (.string v.n)/\Z.cell? ⟨b2,off2+j * 4+3,none⟩=some (.slice v.a v.l v.c):=fun Z h=>by rw[hS]at h;exact ⟨aa h mI,aa h nU,aa h nV,aa h GR⟩
    have dW:S wz.drew:=by rw[hS];exact ar.drew
    obtain ⟨V,hV⟩:=ao (jm [tx] [ty]);have Gz:=ab (show ∀ (A:World),Below W2.heap.size W2 A->∀ BX BY:Nat,A.heap[BX]?=some (.cells #[.bool u.v,.string u.n,.slice u.a u.l u.c] 43 (0,0))->A.heap[BY]?=some (.cells #[.bool v.v,.string v.n,.slice v.a v.l v.c] 43 (0,0)) →
      Calls Tryz.prog 19 #[.slice (some ⟨BX,0,none⟩) 1 1,.slice (some ⟨BY,0,none⟩) 1 1] A fun e w'=>e=.returned (.bool V)/\Below A.heap.size A w' from fun A hA BX BY hX hY=>by
     rw[hV];exact nv [tx] [ty] (fun _=>True) (fun _=>True) A _ 1 1 _ 1 1 ⟨by simp only[nodesTs];have:=rt.1;omega,by simp[nmTs];exact rt.2⟩ (AP ((hu.later hA).move (fun _ _ _=>⟨trivial,rfl⟩)) trivial hX) (AP ((hv.later hA).move (fun _ _ _=>⟨trivial,rfl⟩)) trivial hY))
    obtain ⟨HV,HB,HT,du⟩:=eR hV ar cb hS;have HX:=aC sJ YN;clear hu hv hV ar cb rt c0 c1 c2 c3 mI nU nV GR sJ YN hS;have jH:=eU
    by_cases mm:nx=ny
    case neg=>
     exact pm175
    subst mm;go_wp2;refine (wpIn_wide (n:=3)).1 ?_;refine lV S 31 dW fun jO bW=>?_;refine bL 0 66 (.pointer (some ⟨w.heap.size,1,none⟩)) rfl bW fun cF=>?_;simp only[ag];exact pm53
   obtain rfl:j=n2:=by omega
   have YO:x.ts=y.ts:=by
    have h1:x.ts.take j=x.ts:=by rw[HN.o.2.1];exact cO
    have h2:y.ts.take j=y.ts:=by rw[HN.o.2.2.2];exact cO
    rw[<-h1,cb,h2]
   have HZ:=ab (show R=true from HR.o.2 (by
    cases x with
    | mk a b=>cases y with
     | mk c d=>simp only at HFe YO;rw[show a=c from HFe.o,show b=d from YO]))
   have HB:=ab ar;clear YO ar cb;go_wp2;go_ret;exact ⟨by rw[HZ.o];rfl,HE.o.1.tr HB.o⟩
section
variable {ops:Array Oper} {Q:Exit->Act->World->Prop} {a0:Act} {l:List Fact} {kA kS k:Nat} {M:Nat->Prop} {w0:World} {md:Region.Mode} {L:Nat->Prop}
theorem rH (b:Bd) (h1:b.fs.length<=1000000) (h2:b.ts.length<=1000000) (hf:b.fs.length<=10->b.ts.length<=10->fitFs (kn b.fs ++ ld b.ts)) (x:Nat) {gu:Option (Nat×Bool)} (hx:Dep md ops a0 l kA kS M w0 k o x (BindG L b)) (ho:ops[k]?=some o:=by rfl) (eo:o=⟨some d,.call ⟨.value (.func 14),#[.tmp x],vJ⟩,ty,pos,gK,gu⟩:=by rfl) (hw:Wt md ops a0 l kA kS M w0 k o:=by exact fun _ _ _ _=>rfl) (hp:e6 l k=(aE (.bool (mG b))).p:=by rfl):cz md ops Q a0 l kA kS M w0 k:=
 by subst eo;exact dR hw ho rfl 14 (fun a γ w aO=>by
  obtain ⟨vx,ex,fx⟩:=hx.is aO;obtain ⟨qx,rfl,hx⟩:=fx;refine ⟨#[qx.val],by go_simp,(KG b h1 h2 hf _ w qx hx).mono ?_⟩;rintro e w' ⟨rfl,hb⟩;exact ⟨⟨_,rfl,by rw[hp];rfl⟩,hb⟩)
theorem AQ (b b2:Bd) (hb:BdFit b) (x y:Nat) {gu:Option (Nat×Bool)} (hx:Dep md ops a0 l kA kS M w0 k o x (BindG L b)) (hy:Dep md ops a0 l kA kS M w0 k o y (BindG L b2)) (ho:ops[k]?=some o:=by rfl) (eo:o=⟨some d,.call ⟨.value (.func 21),#[.tmp x,.tmp y],vJ⟩,ty,pos,gK,gu⟩:=by rfl) (hw:Wt md ops a0 l kA kS M w0 k o:=by exact fun _ _ _ _=>rfl) (hp:e6 l k=(aE (.bool (sameB b b2))).p:=by rfl):cz md ops Q a0 l kA kS M w0 k:=
 by subst eo;exact dR hw ho rfl 21 (fun a γ w aO=>by
  obtain ⟨vx,ex,fx⟩:=hx.is aO;obtain ⟨vy,ey,fy⟩:=hy.is aO;obtain ⟨qx,rfl,hx⟩:=fx;obtain ⟨qy,rfl,hy⟩:=fy;refine ⟨#[qx.val,qy.val],by go_simp,(NY b b2 (by have:=hb.lf;omega) (by have:=hb.lt;omega) (fun x hx=>(hb.fs x hx).2) (fun x hx=>(hb.ts x hx).2.1) _ _ w qx qy hx hy).mono ?_⟩;rintro e w' ⟨rfl,hb⟩;exact ⟨⟨_,rfl,by rw[hp];rfl⟩,hb⟩)
end
mutual
def Sg:Tm->List Str
 | .mk v n a=>(if (v && da n)=true then [n] else []) ++ js a
def js:List Tm->List Str
 | []=>[]
 | t :: l=>Sg t ++ js l
end
theorem DQ:∀ {a:List Tm} {j:Nat} (h:j<a.length),js (a.take (j+1))=js (a.take j) ++ Sg a[j]
 | t :: a,0,_=>by simp[js]
 | t :: a,j+1,h=>by
  have:=DQ (a:=a) (j:=j) (by simpa using h);simp only[List.take_succ_cons,js,this,List.getElem_cons_succ,List.append_assoc]
mutual
theorem Rp:∀ t:Tm,(Sg t).length<=nodesT t
 | .mk v n a=>by
  have:=pw a;simp only[Sg,nodesT,di];split <;> simp <;> omega
theorem pw:∀ l:List Tm,(js l).length<=nodesTs l
 | []=>by simp[js]
 | t :: l=>by
  have:=Rp t;have:=pw l;simp only[js,nodesTs,di];omega
end
theorem SetW.more {W:World} {m:Nat} {xs:List Str} {D:DataW Unit} (x:Str) {w4:World} (au:W.ownsMap Tryz.prog 9 (plainElem Tryz.prog 4) m xs.length D) (oM:∀ x:Str,Maps.has D (.string x)=true ↔ x∈xs) (mn:∀ x∈xs,∀ d,D.atKey (.string x) d=.lit (.bool true))
  (h4:w4.ownsMap Tryz.prog 9 (plainElem Tryz.prog 4) m (xs.length+1) (D.put (.string x) (.lit (.bool true)))):SetW w4 m (xs ++ [x]).length (xs ++ [x]):=by
 have hM:=au.isMap;refine ⟨_,by rw[di];exact h4,fun y=>?_,fun y hym d=>?_⟩
 ·by_cases hy:y=x
  ·subst hy;rw[Maps.has_put_same hM (by simp[WideAt.IsKeyLit])];simp
  ·rw[Maps.has_put_other (fun h=>hy (by injection h)),oM];simp[hy]
 ·by_cases hy:y=x
  ·subst hy;rw[Maps.atKey_put_same hM (by simp[WideAt.IsKeyLit])]
  ·rw[Maps.atKey_put_other (fun h=>hy (by injection h))];exact mn y (by simpa[hy] using hym) d
theorem wK:∀ (N:Nat) (l:List Tm),nodesTs l<=N->fitTs l->∀ (ok:Nat->Prop) (pre:List Str) (m:Nat) (w:World) (a:Option Addr) (c:Nat),SetW w m pre.length pre->TermsV ok w (.slice a l.length c) l->(∀ b,ok b->b≠m)->pre.length+nodesTs l<=4000000 →
  Calls Tryz.prog 132 #[.slice a l.length c,.map (some m)] w fun e w'=>e=.returned (.tuple #[])/\SetW w' m (pre ++ js l).length (pre ++ js l)/\Kp (fun b=>b=m) w w':=by
 intro N
 induction N using Nat.strongRecOn with
 | ind N ih=>
 intro l hN hf ok pre m w a c hs hv hok cf;have P':=hf.len;obtain ⟨n1,dT⟩:=ao l.length;rw[<-dT]at hv P' ⊢;obtain ⟨HV,HS,HF,tR,fd,jP⟩:=Sj hv hs hf cf ih hok;have HN:=aC dT hN;clear hv hs hf cf ih hok dT hN;go_enter Tryz.func132,Tryz.ntmps132;go_wp2;go_loopw [8] (fun i wr=>∃j:Nat,j<=n1/\i=.int .i64 j/\SetW wr m (pre ++ js (l.take j)).length (pre ++ js (l.take j))/\Kp (fun b=>b=m) w wr) (fun i _=>n1 - (intOf i).toNat)
 case atStart=>exact ⟨0,bc _,rfl,by simpa[js] using HS.o,Kp.refl _⟩
 case round=>
  obtain ⟨j,hj,rfl,dp,hk⟩:=hrel
  by_cases hlt:j<n1
  ·have ic:=ct HN.o.1 hlt;obtain ⟨b1,o1,⟨xv,xn,xa,xl,xc⟩,rfl,hok,hx,c0,c1,c2⟩:=HV.o.get ic;have ky:=HF.o.mem (az ic);have pV:=s7 (az ic);have iY:=DQ ic;have nC:=pw (l.take j);have ur:=fT (a:=l) (j:=j);have d0:=hk.cell (a:=⟨b1,o1+j * 3,none⟩) (jP.o b1 hok) c0;have d1:=hk.cell (a:=⟨b1,o1+j * 3+1,none⟩) (jP.o b1 hok) c1;have d2:=hk.cell (a:=⟨b1,o1+j * 3+2,none⟩) (jP.o b1 hok) c2;obtain ⟨⟨v,n,a'⟩,YO⟩:∃t,t=l[j]:=⟨_,rfl⟩;rw[<-YO]at hx ky pV iY;obtain ⟨s1,h1,gI⟩:=aV.1 hx;have pp153b:=();exact pm153
  ·obtain rfl:n1=j:=by omega
   have cb:l.take n1=l:=by rw[HN.o.1];exact cO
   rw[cb]at dp;have HK:=aC dp hk;clear dp hk cb;go_wp2;go_end0;exact ⟨rfl,HK.o.1,HK.o.2⟩
mutual
def pX:Fm->List Str
 | .mk o n a s=>(if ((o == 15 || o == 16) && da n)=true then [n] else []) ++ js a ++ kw s
def kw:List Fm->List Str
 | []=>[]
 | t :: l=>pX t ++ kw l
end
theorem rI:∀ {a:List Fm} {j:Nat} (h:j<a.length),kw (a.take (j+1))=kw (a.take j) ++ pX a[j]
 | t :: a,0,_=>by simp[kw]
 | t :: a,j+1,h=>by
  have:=rI (a:=a) (j:=j) (by simpa using h);simp only[List.take_succ_cons,kw,this,List.getElem_cons_succ,List.append_assoc]
mutual
theorem KJ:∀ t:Fm,(pX t).length<=nodesF t
 | .mk o n a s=>by
  have:=pw a;have:=vk s;simp only[pX,nodesF,di];split <;> simp <;> omega
theorem vk:∀ l:List Fm,(kw l).length<=nodesFs l
 | []=>by simp[kw]
 | t :: l=>by
  have:=KJ t;have:=vk l;simp only[kw,nodesFs,di];omega
end
theorem Fj:∀ (N:Nat) (f:Fm),nodesF f<=N->fitF f->∀ (ok:Nat->Prop) (pre:List Str) (m:Nat) (w:World) (q:FQ),SetW w m pre.length pre->FormV ok w q.val f->(∀ b,ok b->b≠m)->pre.length+nodesF f<=4000000 →
  Calls Tryz.prog 73 #[q.val,.map (some m)] w fun e w'=>e=.returned (.tuple #[])/\SetW w' m (pre ++ pX f).length (pre ++ pX f)/\Kp (fun b=>b=m) w w':=by
 intro N
 induction N using Nat.strongRecOn with
 | ind N ih=>
 intro f hN hf ok pre m w q hs hq hok cf;obtain ⟨o,n,a,s⟩:=f;obtain ⟨qo,qn,qa,ql,qc,qb,qm,qe⟩:=q;obtain ⟨v1,v2,h1,gI,lh⟩:=aW.1 hq;exact pm32
end
section
attribute [local go_sem] Oper.semAt_some run_makeMap
theorem NZ (t:Fm) (aA:fitF t) (ok:Nat->Prop) (w:World) (q:FQ) (hq:FormV ok w q.val t) :
  Calls Tryz.prog 33 #[q.val] w fun e w'=>(∃v,e=.returned v/\RowS w.heap.size w' v (cm (pX t)))/\RowKit.Below w.heap.size w w':=by
 have hq:=hq.lt;have nC:(pX t).length<=2000000:=aQ (KJ t) aA.1;obtain ⟨W1,bR⟩:=ao (w.alloc (.cells #[.int .u8 q.o,.string q.n,.slice q.a q.l q.c,.slice q.b q.m q.e] 36));have hb1:RowKit.Below w.heap.size w W1:=by rw[bR];exact cQ
 have iq:=DY bR;have tP:=bX bR;obtain ⟨W2,bl⟩:=ao (W1.alloc (.map #[] 0));have bF:RowKit.Below w.heap.size w W2:=by rw[bl];exact hb1.alloc hb1.size _
 have FD:SetW W2 W1.heap.size ([]:List Str).length []:=by
  rw[bl];exact ⟨_,World.ownsMap_made W1 _ _ _,fun x=>by simp[Maps.has],fun x hx=>by simp at hx⟩
 have oL:W2.heap[w.heap.size]?=some (.cells #[.int .u8 q.o,.string q.n,.slice q.a q.l q.c,.slice q.b q.m q.e] 36 (0,0)):=by
  have om:RowKit.Below W1.heap.size W1 W2:=by rw[bl];exact cQ
  exact (om.block _ (by omega)).trans tP
 have C:=Fj (nodesF t) t (aF _) aA (fun b=>b<w.heap.size) [] W1.heap.size W2 q FD ((hq.later bF).move (fun b hb _=>⟨hb,rfl⟩)) (fun b hb=>by omega) (by have:=aA.1;simp;omega);simp only[rU]at C;rw[iq]at C;have gV:W2.heap.size=w.heap.size+2:=by rw[bl];simp;omega
 have HC:=ab C;have cJ:=aC bF gV;have gF:=ab (bR ▸ bl);obtain ⟨SA,HX⟩:=aZ nC oL;rw[bl,bR]at HC;obtain ⟨qo,qn,qa,ql,qc,qb,qm,qe⟩:=q;simp only[FQ.val]at HC ⊢;simp only at HX;clear C hb1 bF bR bl nC tP oL hq aA iq gV FD;go_enter Tryz.func33,Tryz.ntmps33;go_wp2_with (first | (go_at_call 73;refine HC.o.mono ?_;rintro e w3 ⟨rfl,nE,iV⟩;have H3:=aC nE iV;clear nE iV) | (go_at_call 75;refine (zm _ _).mono ?_;rintro e w4 ⟨rfl,rfl⟩) | (go_at_call 74;refine (sM _ _ _ SA.o _ H3.o.1).mono ?_;rintro e w5 ⟨v5,rfl,IL,bi⟩;have H5:=aC IL bi;clear IL bi));go_ret;have gi:RowKit.Below w.heap.size w w3:=by
  have hk:Kp (fun b=>b=w.heap.size+1) W2 w3:=by rw[gF.o];exact H3.o.2
  have hz:=cJ.o.2;exact ⟨hk.os.trans cJ.o.1.os,hk.tape.trans cJ.o.1.tape,hk.output.trans cJ.o.1.output,aQ cJ.o.1.size hk.size,fun b hb=>(hk.same b (by omega) (by omega)).trans (cJ.o.1.block b hb)⟩
 exact ⟨⟨v5,rfl,ownsRow_base_a H5.o.1.1 gi.size,H5.o.1.2⟩,gi.trans (H5.o.2.mono gi.size)⟩
