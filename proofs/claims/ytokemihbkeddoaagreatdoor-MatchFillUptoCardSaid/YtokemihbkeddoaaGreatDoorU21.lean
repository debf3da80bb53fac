/-
The contract of 'Small' of lyceumlaw07.
-/
import Derived.Test.YtokemihbkeddoaaGreatDoorRows
import Derived.Test.YtokemihbkeddoaaGreatDoorU20
namespace Go.Proofs.YtokemihbkeddoaaGreatDoor
open Go Go.RowKit Lib
set_option maxRecDepth 100000
set_option maxHeartbeats 64000000
variable {cD d i:Nat} {listed:Array Bool} {a:Act} {w:World} {oi:Oper} {c:Sco} {p:Pl} {α:Type} {jf:Array TypeId} {ty:TypeId} {pos:String} {cU:Array Edge} {m:List Str} {b:Bd}
section
attribute [local go_sem] Oper.semAt_some
def kB (b:List (Str×Fm)):List Fm:=b.flatMap fun x=>[x.2,.mk 1 x.1 [] []]
def lq (b:List (Str×Tm)):List Fm:=b.map fun x=>.mk 1 x.1 [x.2] []
def mX (b:Bd):Bool:=decide (b.fs.length<=10) && (decide (b.ts.length<=10) && lF (kB b.fs ++ lq b.ts))
theorem vY (l:List (Str×Fm)):(kB l).length=2 * l.length:=by
 induction l with
 | nil=>rfl
 | cons x l ih=>simp[kB]at ih ⊢;omega
theorem N7 {l:List (Str×Fm)} {k:Nat} (h:k<l.length):kB (l.take (k+1))=kB (l.take k) ++ [l[k].2,.mk 1 l[k].1 [] []]:=by
 rw[nV h];simp only[kB,List.flatMap_append,List.flatMap_cons,List.flatMap_nil,List.append_nil]
theorem N8 {l:List (Str×Tm)} {k:Nat} (h:k<l.length):lq (l.take (k+1))=lq (l.take k) ++ [.mk 1 l[k].1 [l[k].2] []]:=by
 rw[nV h];simp only[lq,List.map_append,cz,List.map_nil]
theorem K3 (bd:Bd) (ZG:bd.fs.length<=1000000) (KM:bd.ts.length<=1000000) (hfit:bd.fs.length<=10->bd.ts.length<=10->fitFs (kB bd.fs ++ lq bd.ts)) (ok:Nat->Prop) (w:World) (q:BQ) (hq:BindV ok w q bd) :
  Calls Tryz.prog 14 #[q.val] w fun e w'=>e=.returned (.bool (mX bd))/\Below w.heap.size w w':=by
 have hqv:=hq.move (ok':=fun b=>b<w.heap.size) (fun b _ hlt=>⟨hlt,rfl⟩);obtain ⟨R,hR⟩:=am (mX bd);rw[<-hR];obtain ⟨n1,ea⟩:=am bd.fs.length;obtain ⟨n2,kY⟩:=am bd.ts.length;obtain ⟨qa,ql,qc,qb,qm,qe⟩:=q;obtain rfl:=hqv.1.len;obtain rfl:=hqv.2.len;have hq1:FBindsV (fun b=>b<w.heap.size) w (.slice qa bd.fs.length qc) bd.fs:=hqv.1;have Gq:TBindsV (fun b=>b<w.heap.size) w (.slice qb bd.ts.length qe) bd.ts:=hqv.2;rw[<-ea]at hq1;rw[<-kY]at Gq;obtain ⟨i0,hi,oM,ju,iy⟩:=info_parts jL;obtain ⟨W1,bY⟩:=am (w.alloc (.cells #[.slice qa n1 qc,.slice qb n2 qe] 26));have iN:=cV bY;have x1:=bU bY;have e0:W1.cell? ⟨w.heap.size,0,none⟩=some (.slice qa n1 qc):=aI x1 0;have e1:W1.cell? ⟨w.heap.size,1,none⟩=some (.slice qb n2 qe):=aI x1 1;have jj:=bF iN e0 e1;obtain ⟨HWW,pT,Gn,y_⟩:=eH bY ea kY hR;have HQV:=aG hq1 Gq;have nG:=ac hfit;rw[bY]at e0 e1;clear hq hqv hq1 Gq hR hfit ea kY bY iN x1;simp only[BQ.val];rw[<-pT.o,<-Gn.o]
 by_cases h10:n1<=10
 case neg=>
  have t1:decide ((10:Int)<(n1:Int))=true:=by simp;omega
  have HE:=ac (show R=false by rw[y_.o];unfold mX;rw[<-pT.o];simp[h10]);exact pm220
 have t1:decide ((10:Int)<(n1:Int))=false:=by simp;omega
 by_cases h20:n2<=10
 case neg=>
  have t2:decide ((10:Int)<(n2:Int))=true:=by simp;omega
  have HE:=ac (show R=false by rw[y_.o];unfold mX;rw[<-Gn.o];simp[h20]);exact pm220
 have t2:decide ((10:Int)<(n2:Int))=false:=by simp;omega
 have HE:=ac (show R=lF (kB bd.fs ++ lq bd.ts) by rw[y_.o];unfold mX;rw[<-pT.o,<-Gn.o];simp[h10,h20]);have UY:=ac (nG.o (by rw[<-pT.o];exact h10) (by rw[<-Gn.o];exact h20));go_enter Tryz.func14,Tryz.ntmps14;go_wp2;rw[<-HWW.o];clear e0 e1;go_loopw [3,4] (fun r i wr=>∃k:Nat,k<=n1/\i=.int .i64 k/\RowX W1.heap.size r (kB (bd.fs.take k)) wr/\Below W1.heap.size W1 wr) (fun _ i _=>n1 - (intOf i).toNat)
 case atStart=>exact ⟨0,aX _,rfl,RowX.nil _ _,aj _ _⟩
 case round=>
  obtain ⟨k,hk,rfl,hR,ar⟩:=hrel;obtain ⟨ra,rc,rfl⟩:=hR.slice
  by_cases hlt:k<n1
  case pos=>
   have bg:k<bd.fs.length:=by rw[<-pT.o];exact hlt
   obtain ⟨⟨nm,fm⟩,uM⟩:∃x,x=bd.fs[k]:=⟨_,rfl⟩;obtain ⟨b,off,x,rfl,hok,hx,c0,c1,c2,c3,c4⟩:=(HQV.o.1).get bg;rw[<-uM]at hx c0;simp only at hx c0;have hm:(kB (bd.fs.take k)).length=2 * k:=by rw[vY,dT];omega
   obtain ⟨M,YI⟩:=am (2 * k);rw[hm,<-YI]at hR ⊢;rw[<-YI]at hm;have DK:(k:Int)<(n1:Int):=by omega
   have pp306:=();exact pm306
  obtain rfl:k=n1:=by omega
  obtain ⟨wo,JT⟩:=am wr;subst JT;have hm:(kB (bd.fs.take k)).length=2 * k:=by rw[vY,dT];have:=pT.o;omega
  rw[hm]at hR ⊢;rw[gU (by rw[<-pT.o];exact aD _)]at hR;have d0:=aa ar jj.o.2.1;obtain ⟨Y3,S6⟩:=aW hR ar;clear hR ar hm;go_wp2;go_loopw [3,5] (fun r i wr=>∃j:Nat,j<=n2/\i=.int .i64 j/\RowX W1.heap.size r (kB bd.fs ++ lq (bd.ts.take j)) wr/\Below W1.heap.size W1 wr) (fun _ i _=>n2 - (intOf i).toNat)
  case atStart=>exact ⟨0,aX _,rfl,by simpa[lq] using Y3.o,S6.o⟩
  case round=>
   obtain ⟨j,hj,rfl,hR,ar⟩:=hrel;obtain ⟨ra,rc,rfl⟩:=hR.slice;clear d0
   by_cases eJ:j<n2
   case pos=>
    have bg:j<bd.ts.length:=by rw[<-Gn.o];exact eJ
    obtain ⟨⟨nm,tm⟩,uM⟩:∃x,x=bd.ts[j]:=⟨_,rfl⟩;obtain ⟨b,off,x,rfl,hok,hx,c0,c1,c2,c3⟩:=(HQV.o.2).get bg;rw[<-uM]at hx c0;simp only at hx c0;have hm:(kB bd.fs ++ lq (bd.ts.take j)).length=2 * k+j:=by rw[dO,vY,<-pT.o];simp[lq];omega
    obtain ⟨M,YI⟩:=am (2 * k+j);rw[hm,<-YI]at hR ⊢;rw[<-YI]at hm;have DK:(j:Int)<(n2:Int):=by omega
    exact pm306
   obtain rfl:j=n2:=by omega
   have hm:(kB bd.fs ++ lq (bd.ts.take j)).length=2 * k+j:=by rw[dO,vY,<-pT.o];simp[lq];have:=Gn.o;omega
   rw[hm]at hR ⊢;rw[gU (by rw[<-Gn.o];exact aD _)]at hR;have d0:=aa ar jj.o.2.2;have CS:=EH (kB bd.fs ++ lq bd.ts) UY.o _ wr ra _ rc hR.forms;obtain ⟨sI,HB⟩:=aW CS ar;clear hR CS ar hm;exact pm265
section
variable {F:Fence} {n:Nat} {P:Program} {ops:Array Oper} {Q:Exit->Act->World->Prop} {md:Region.Mode} {S:World->Prop} {e:Nat}
theorem K4 (i d:Nat) (hi:ops[i]?=some oi) (hS:S w)
  (h:S w->dC F n P md ops Q S e cD (listed.setIfInBounds i true) { a with tmps:=a.tmps.setIfInBounds d undef } w)
  (qj:iu F ops:=by assumption)
  (hs:(Region.noSelect ops && (Region.free md ops listed i && ((Region.ready md ops listed).contains i && (DI md ops e i && rA md ops listed))))=true:=by kernel_rfl)
  (hQ:∀ c a w,Q (.panic c) (a.put oi.dst undef) w->Q (.panic c) a w:=by exact fun _ _ _ h=>h) (wy:oi.dst=some d:=by rfl) (hw:Region.wanted oi (yielded ops a.tmps)=false:=by rfl)
  (Cz:∀ w,oi.about P w a.eval=none:=by exact fun _=>rfl):dC F n P md ops Q S e (cD+1) listed a w:=
 ZN d qj hi hs hQ wy hw Cz hS h
theorem nnA (i d:Nat) (hi:ops[i]?=some oi) (hS:S w)
  (h:S w->dC F n P md ops Q S e cD (listed.setIfInBounds i true) { a with tmps:=a.tmps.setIfInBounds d undef } w) (hF:∀ f,F.fn f:=by exact fun _=>trivial)
  (hr:Region.ready md ops listed=[i]:=by kernel_rfl) (wy:oi.dst=some d:=by rfl) (hw:Region.wanted oi (yielded ops a.tmps)=false:=by rfl):dC F n P md ops Q S e (cD+1) listed a w:=
 ZO d hi hr wy hw (fun f _=>hF f) hS h
theorem twM (i j:Nat) {oj:Oper} (hi:ops[i]?=some oi) (hj:ops[j]?=some oj)
  (h1:∀ K:Act->World->Prop,(∀ a w,(i<e->S w)->((i<e->S w)->dC F n P md ops Q S e cD (listed.setIfInBounds i true) a w)->K a w)->Oper.wpIn F n P oi a w K Q)
  (h2:∀ K:Act->World->Prop,(∀ a w,(j<e->S w)->((j<e->S w)->dC F n P md ops Q S e cD (listed.setIfInBounds j true) a w)->K a w)->Oper.wpIn F n P oj a w K Q)
  (hr:Region.ready md ops listed=[i,j]:=by kernel_rfl) (hwi:Region.wanted oi (yielded ops a.tmps)=true:=by rfl) (hwj:Region.wanted oj (yielded ops a.tmps)=true:=by rfl):dC F n P md ops Q S e (cD+1) listed a w:=by
 exact pm110
end
theorem Cf {ok:Nat->Prop} {X:World} {B c:Nat} {p:TQ} {f:Tm} (h:TermV ok X p.val f) (hB:ok B) (hx:X.heap[B]?=some (.cells #[.bool p.v,.string p.n,.slice p.a p.l p.c] 43 (0,0))):TermsV ok X (.slice (some ⟨B,0,none⟩) 1 c) [f]:=
 ⟨_,c,fun _=>p.val,rfl,.inr ⟨B,0,rfl,hB,fun j hj=>by
  obtain rfl:j=0:=by simpa using hj
  exact ⟨_,_,_,rfl,lQ hx⟩⟩,fun j hj=>by
  obtain rfl:j=0:=by simpa using hj
  exact h⟩
open Classical in
noncomputable def sameB (x y:Bd):Bool:=decide (x=y)
theorem EI {x y:Bd}:sameB x y=true ↔ x=y:=by simp[sameB]
theorem pB {l m:List α} {k:Nat} (h:l.take k=m.take k) (hl:k<l.length) (hm:k<m.length) (e:l[k]=m[k]):l.take (k+1)=m.take (k+1):=by
 rw[nV hl,nV hm,h,e]
theorem N9 (x y:Bd) (rY:x.fs.length<=1000000) (qg:x.ts.length<=1000000) (Z4:∀ f∈x.fs,fitF f.2) (htx:∀ t∈x.ts,fitT t.2) (ok ok':Nat->Prop) (w:World) (q q':BQ) (hq:BindV ok w q x) (ip:BindV ok' w q' y) :
  Calls Tryz.prog 21 #[q.val,q'.val] w fun e w'=>e=.returned (.bool (sameB x y))/\Below w.heap.size w w':=by
 obtain ⟨R,hR⟩:=am (sameB x y);have Kf:R=true ↔ x=y:=by rw[hR];exact EI
 rw[<-hR];clear hR;obtain ⟨qa,ql,qc,qb,qm,qe⟩:=q;obtain ⟨ra,rl,rc,rb,rm,re⟩:=q';obtain rfl:=hq.1.len;obtain rfl:=hq.2.len;obtain rfl:=ip.1.len;obtain rfl:=ip.2.len;obtain ⟨n1,ea⟩:=am x.fs.length;obtain ⟨n2,kY⟩:=am x.ts.length;obtain ⟨m1,ii⟩:=am y.fs.length;obtain ⟨m2,oy⟩:=am y.ts.length;have hq1:FBindsV ok w (.slice qa x.fs.length qc) x.fs:=hq.1;have Gq:TBindsV ok w (.slice qb x.ts.length qe) x.ts:=hq.2;have Pe:FBindsV ok' w (.slice ra y.fs.length rc) y.fs:=ip.1;have hq4:TBindsV ok' w (.slice rb y.ts.length re) y.ts:=ip.2;rw[<-ea]at hq1 rY;rw[<-kY]at Gq qg;rw[<-ii]at Pe;rw[<-oy]at hq4;simp only[BQ.val];rw[<-ea,<-kY,<-ii,<-oy];obtain ⟨W2,a_⟩:=am ((w.alloc (.cells #[.slice qa n1 qc,.slice qb n2 qe] 26)).alloc (.cells #[.slice ra m1 rc,.slice rb m2 re] 26));have f9:Below w.heap.size w W2:=lv a_;have x0:W2.heap[w.heap.size]?=some (.cells #[.slice qa n1 qc,.slice qb n2 qe] 26 (0,0)):=t_ a_;have x1:W2.heap[w.heap.size+1]?=some (.cells #[.slice ra m1 rc,.slice rb m2 re] 26 (0,0)):=j_ a_;obtain ⟨e0,e1⟩:=Sh x0;obtain ⟨e2,e3⟩:=Sh x1;have fp:=ac a_;have HE:=fE f9 e0 e1 e2 e3;have HQ:=cG (hq1.later f9) (Gq.later f9) (Pe.later f9) (hq4.later f9);have HN:=cG ea kY ii oy;have HF:=aG Z4 htx;have HR:=ac Kf;rw[a_]at e0 e1 e2 e3;clear hq ip hq1 Gq Pe hq4 Z4 htx Kf a_ f9 x0 x1 ea kY ii oy;have gE:(¬x=y)->R=false:=fun h=>by
  cases hr:R with
  | false=>rfl
  | true=>exact absurd (HR.o.1 hr) h
 have AD:=ac gE;clear gE
 by_cases h1:n1=m1
 case neg=>
  have t1:((n1:Int) == (m1:Int))=false:=by simp;omega
  have t2:((n1:Int) != (m1:Int))=true:=by simp;omega
  have HZ:=ac (AD.o fun h=>by subst h;exact h1 (by rw[HN.o.1,HN.o.2.2.1]));exact pm225
 subst h1
 by_cases h2:n2=m2
 case neg=>
  have t1:((n2:Int) == (m2:Int))=false:=by simp;omega
  have t2:((n2:Int) != (m2:Int))=true:=by simp;omega
  have HZ:=ac (AD.o fun h=>by subst h;exact h2 (by rw[HN.o.2.1,HN.o.2.2.2]));exact pm225
 subst h2;go_enter Tryz.func21,Tryz.ntmps21;go_wp2;rw[<-fp.o];clear e0 e1 e2 e3;go_loopw [5] (fun i wr=>∃k:Nat,k<=n1/\i=.int .i64 k/\Below W2.heap.size W2 wr/\x.fs.take k=y.fs.take k) (fun i _=>n1 - (intOf i).toNat)
 case atStart=>exact ⟨0,aX _,rfl,aj _ _,by simp⟩
 case round=>
  obtain ⟨k,hk,rfl,ar,cB⟩:=hrel
  by_cases hlt:k<n1
  case pos=>
   have bg:k<x.fs.length:=by rw[<-HN.o.1];exact hlt
   have kt:k<y.fs.length:=by rw[<-HN.o.2.2.1];exact hlt
   obtain ⟨⟨nx,fx⟩,s8⟩:∃z,z=x.fs[k]:=⟨_,rfl⟩;obtain ⟨⟨ny,fy⟩,YK⟩:∃z,z=y.fs[k]:=⟨_,rfl⟩;obtain ⟨b,off,u,rfl,_,hu,c0,c1,c2,c3,c4⟩:=HQ.o.1.get bg;obtain ⟨b',jD,u',rfl,_,gu,j6,kG,kH,AY,c4'⟩:=HQ.o.2.2.1.get kt;have lX:=HF.o.1 _ (aw bg);rw[<-s8]at hu c0 lX;rw[<-YK]at gu j6;simp only at hu gu c0 j6 lX;have f0:=fun z:Later wr=>z.get (aa ar HE.o.2.1);have f1:=fun z:Later wr=>z.get (aa ar HE.o.2.2.2.1);have f2:=fun z:Later wr=>z.get (aa ar c0);have f3:=fun z:Later wr=>z.get (aa ar c1);have f4:=fun z:Later wr=>z.get (aa ar c2);have f5:=fun z:Later wr=>z.get (aa ar c3);have f6:=fun z:Later wr=>z.get (aa ar c4);have g2:=fun z:Later wr=>z.get (aa ar j6);have g3:=fun z:Later wr=>z.get (aa ar kG);have g4:=fun z:Later wr=>z.get (aa ar kH);have g5:=fun z:Later wr=>z.get (aa ar AY);have g6:=fun z:Later wr=>z.get (aa ar c4');have d0:=aa ar HE.o.2.1;have DK:(k:Int)<(n1:Int):=by omega
   have CC:=fun (z:Later wr)=>IQ fx fy ok ok' z.w u u' lX ((hu.later ar).later z.below) ((gu.later ar).later z.below);obtain ⟨V,hV⟩:=am (yL fx fy);rw[<-hV]at CC;obtain ⟨HC,HV,HB,HT⟩:=eH CC hV ar cB;have HX:=aG s8 YK;clear hu gu hV ar cB lX CC c0 c1 c2 c3 c4 j6 kG kH AY c4' s8 YK
   by_cases my:nx=ny
   case neg=>
    have pp193:=();exact pm193
   subst my;exact pm114
  obtain rfl:k=n1:=by omega
  have ZH:x.fs=y.fs:=by
   have h1:x.fs.take k=x.fs:=by rw[HN.o.1];exact cY
   have h2:y.fs.take k=y.fs:=by rw[HN.o.2.2.1];exact cY
   rw[<-h1,cB,h2]
  obtain ⟨wo,JT⟩:=am wr;subst JT;have d0:=aa ar HE.o.2.1;obtain ⟨HFe,S6⟩:=aW ZH ar;clear ZH ar cB;go_wp2;go_loopw [6] (fun i wr=>∃j:Nat,j<=n2/\i=.int .i64 j/\Below W2.heap.size W2 wr/\x.ts.take j=y.ts.take j) (fun i _=>n2 - (intOf i).toNat)
  case atStart=>exact ⟨0,aX _,rfl,S6.o,by simp⟩
  case round=>
   obtain ⟨j,hj,rfl,ar,cB⟩:=hrel;clear d0;have d1:=aa ar HE.o.2.2.1
   by_cases eJ:j<n2
   case pos=>
    have bg:j<x.ts.length:=by rw[<-HN.o.2.1];exact eJ
    have kt:j<y.ts.length:=by rw[<-HN.o.2.2.2];exact eJ
    obtain ⟨⟨nx,tx⟩,s8⟩:∃z,z=x.ts[j]:=⟨_,rfl⟩;obtain ⟨⟨ny,ty⟩,YK⟩:∃z,z=y.ts[j]:=⟨_,rfl⟩;obtain ⟨b,off,u,rfl,_,hu,c0,c1,c2,c3⟩:=HQ.o.2.1.get bg;obtain ⟨b2,off2,v,rfl,_,hv,j6,kG,kH,AY⟩:=HQ.o.2.2.2.get kt;have lX:=HF.o.2 _ (aw bg);rw[<-s8]at hu c0 lX;rw[<-YK]at hv j6;simp only at hu hv c0 j6 lX;have DK:(j:Int)<(n2:Int):=by omega
    obtain ⟨wz,YH⟩:=am wr;subst YH;obtain ⟨S,hS⟩:∃S:World->Prop,S=fun Z=>Below W2.heap.size W2 Z:=⟨_,rfl⟩;have f0:∀ Z,S Z->Z.cell? ⟨w.heap.size,1,none⟩=some (.slice (some ⟨b,off,none⟩) n2 qe)/\Z.cell? ⟨w.heap.size+1,1,none⟩=some (.slice (some ⟨b2,off2,none⟩) n2 re):=fun Z h=>by rw[hS]at h;exact ⟨aa h HE.o.2.2.1,aa h HE.o.2.2.2.2⟩
    have f1:∀ Z,S Z->Z.cell? ⟨b,off+j * 4,none⟩=some (.string ⟨nx.toArray⟩)/\Z.cell? ⟨b,off+j * 4+1,none⟩=some (.bool u.v)/\Z.cell? ⟨b,off+j * 4+2,none⟩=some (.string u.n)/\Z.cell? ⟨b,off+j * 4+3,none⟩=some (.slice u.a u.l u.c):=fun Z h=>by rw[hS]at h;exact ⟨aa h c0,aa h c1,aa h c2,aa h c3⟩
    have f2:∀ Z,S Z->Z.cell? ⟨b2,off2+j * 4,none⟩=some (.string ⟨ny.toArray⟩)/\Z.cell? ⟨b2,off2+j * 4+1,none⟩=some (.bool v.v)/\Z.cell? ⟨b2,off2+j * 4+2,none⟩=some (.string v.n)/\Z.cell? ⟨b2,off2+j * 4+3,none⟩=some (.slice v.a v.l v.c):=fun Z h=>by rw[hS]at h;exact ⟨aa h j6,aa h kG,aa h kH,aa h AY⟩
    have dU:S wz.drew:=by rw[hS];exact ar.drew
    obtain ⟨V,hV⟩:=am (jl [tx] [ty]);have Hh:=ac (show ∀ (A:World),Below W2.heap.size W2 A->∀ BX BY:Nat,A.heap[BX]?=some (.cells #[.bool u.v,.string u.n,.slice u.a u.l u.c] 43 (0,0))->A.heap[BY]?=some (.cells #[.bool v.v,.string v.n,.slice v.a v.l v.c] 43 (0,0)) →
      Calls Tryz.prog 19 #[.slice (some ⟨BX,0,none⟩) 1 1,.slice (some ⟨BY,0,none⟩) 1 1] A fun e w'=>e=.returned (.bool V)/\Below A.heap.size A w' from fun A hA BX BY hX hY=>by
     rw[hV];exact nP [tx] [ty] (fun _=>True) (fun _=>True) A _ 1 1 _ 1 1 ⟨by simp only[nodesTs];have:=lX.1;omega,by simp[nmTs];exact lX.2⟩ (Cf ((hu.later hA).move (fun _ _ _=>⟨trivial,rfl⟩)) trivial hX) (Cf ((hv.later hA).move (fun _ _ _=>⟨trivial,rfl⟩)) trivial hY))
    obtain ⟨HV,HB,HT,dp⟩:=eH hV ar cB hS;have HX:=aG s8 YK;clear hu hv hV ar cB lX c0 c1 c2 c3 j6 kG kH AY s8 YK hS;have iz:=fd
    by_cases my:nx=ny
    case neg=>
     exact pm193
    subst my;go_wp2;refine (wpIn_wide (n:=3)).1 ?_;refine lH S 31 dU fun jC bN=>?_;refine bC 0 66 (.pointer (some ⟨w.heap.size,1,none⟩)) rfl bN fun cr=>?_;simp only[ag];exact pm58
   obtain rfl:j=n2:=by omega
   have hte:x.ts=y.ts:=by
    have h1:x.ts.take j=x.ts:=by rw[HN.o.2.1];exact cY
    have h2:y.ts.take j=y.ts:=by rw[HN.o.2.2.2];exact cY
    rw[<-h1,cB,h2]
   have HZ:=ac (show R=true from HR.o.2 (by
    cases x with
    | mk a b=>cases y with
     | mk c d=>simp only at HFe hte;rw[show a=c from HFe.o,show b=d from hte]))
   have HB:=ac ar;clear hte ar cB;go_wp2;go_ret;exact ⟨by rw[HZ.o];rfl,HE.o.1.tr HB.o⟩
section
variable {ops:Array Oper} {Q:Exit->Act->World->Prop} {a0:Act} {l:List Fact} {kA kS k:Nat} {M:Nat->Prop} {w0:World} {md:Region.Mode} {L:Nat->Prop}
theorem K5 (ps:List (Fm×Fm)) (hf:fitFs (cE ps)) (x:Nat) {g:Option (Nat×Bool)} (hx:Dep md ops a0 l kA kS M w0 k ⟨some d,.call ⟨.value (.func 13),#[.tmp x],jf⟩,ty,pos,cU,g⟩ x (BZ L ps)) (ho:ops[k]?=some ⟨some d,.call ⟨.value (.func 13),#[.tmp x],jf⟩,ty,pos,cU,g⟩:=by rfl) (hw:Wt md ops a0 l kA kS M w0 k ⟨some d,.call ⟨.value (.func 13),#[.tmp x],jf⟩,ty,pos,cU,g⟩:=by exact fun _ _ _ _=>rfl) (hp:jg l k=(cA (.bool (Gg ps))).p:=by rfl):dM md ops Q a0 l kA kS M w0 k:=
 en hw ho rfl 13 (fun a γ w bl=>by
  obtain ⟨vx,ex,fx⟩:=hx.is bl;obtain ⟨ax,cx,rfl,hx⟩:=fx;refine ⟨#[.slice ax ps.length cx],by go_simp,(T2 ps hf _ w ax cx hx).mono ?_⟩;rintro e w' ⟨rfl,hb⟩;exact ⟨⟨_,rfl,by rw[hp];rfl⟩,hb⟩)
theorem EJ (b:Bd) (h1:b.fs.length<=1000000) (h2:b.ts.length<=1000000) (hf:b.fs.length<=10->b.ts.length<=10->fitFs (kB b.fs ++ lq b.ts)) (x:Nat) {g:Option (Nat×Bool)} (hx:Dep md ops a0 l kA kS M w0 k ⟨some d,.call ⟨.value (.func 14),#[.tmp x],jf⟩,ty,pos,cU,g⟩ x (BindG L b)) (ho:ops[k]?=some ⟨some d,.call ⟨.value (.func 14),#[.tmp x],jf⟩,ty,pos,cU,g⟩:=by rfl) (hw:Wt md ops a0 l kA kS M w0 k ⟨some d,.call ⟨.value (.func 14),#[.tmp x],jf⟩,ty,pos,cU,g⟩:=by exact fun _ _ _ _=>rfl) (hp:jg l k=(cA (.bool (mX b))).p:=by rfl):dM md ops Q a0 l kA kS M w0 k:=
 en hw ho rfl 14 (fun a γ w bl=>by
  obtain ⟨vx,ex,fx⟩:=hx.is bl;obtain ⟨qx,rfl,hx⟩:=fx;refine ⟨#[qx.val],by go_simp,(K3 b h1 h2 hf _ w qx hx).mono ?_⟩;rintro e w' ⟨rfl,hb⟩;exact ⟨⟨_,rfl,by rw[hp];rfl⟩,hb⟩)
theorem RF (b b2:Bd) (hb:BdFit b) (x y:Nat) {g:Option (Nat×Bool)} (hx:Dep md ops a0 l kA kS M w0 k ⟨some d,.call ⟨.value (.func 21),#[.tmp x,.tmp y],jf⟩,ty,pos,cU,g⟩ x (BindG L b)) (hy:Dep md ops a0 l kA kS M w0 k ⟨some d,.call ⟨.value (.func 21),#[.tmp x,.tmp y],jf⟩,ty,pos,cU,g⟩ y (BindG L b2)) (ho:ops[k]?=some ⟨some d,.call ⟨.value (.func 21),#[.tmp x,.tmp y],jf⟩,ty,pos,cU,g⟩:=by rfl) (hw:Wt md ops a0 l kA kS M w0 k ⟨some d,.call ⟨.value (.func 21),#[.tmp x,.tmp y],jf⟩,ty,pos,cU,g⟩:=by exact fun _ _ _ _=>rfl) (hp:jg l k=(cA (.bool (sameB b b2))).p:=by rfl):dM md ops Q a0 l kA kS M w0 k:=
 en hw ho rfl 21 (fun a γ w bl=>by
  obtain ⟨vx,ex,fx⟩:=hx.is bl;obtain ⟨vy,ey,fy⟩:=hy.is bl;obtain ⟨qx,rfl,hx⟩:=fx;obtain ⟨qy,rfl,hy⟩:=fy;refine ⟨#[qx.val,qy.val],by go_simp,(N9 b b2 (by have:=hb.lf;omega) (by have:=hb.lt;omega) (fun x hx=>(hb.fs x hx).2) (fun x hx=>(hb.ts x hx).2.1) _ _ w qx qy hx hy).mono ?_⟩;rintro e w' ⟨rfl,hb⟩;exact ⟨⟨_,rfl,by rw[hp];rfl⟩,hb⟩)
theorem vZ (ps:List (Fm×Fm)) (x:Nat) (la:Option Addr) (lc:Nat) (P:SPairsV (okS L w0) w0 (.slice la ps.length lc) ps) (hM:∀ c,L c->¬M c) {g:Option (Nat×Bool)} (hx:Dep md ops a0 l kA kS M w0 k ⟨some d,.move (.tmp x),ty,pos,cU,g⟩ x (fun v _ _=>v=.slice la ps.length lc)) (ho:ops[k]?=some ⟨some d,.move (.tmp x),ty,pos,cU,g⟩:=by rfl) (hw:Wt md ops a0 l kA kS M w0 k ⟨some d,.move (.tmp x),ty,pos,cU,g⟩:=by exact fun _ _ _ _=>rfl) (hp:jg l k=BZ L ps:=by rfl):dM md ops Q a0 l kA kS M w0 k:=
 ij hw ho rfl (fun a γ w bl=>by
  obtain ⟨vx,ex,rfl⟩:=hx a γ w bl;exact ⟨.slice la ps.length lc,by go_simp,by rw[hp];exact ⟨la,lc,rfl,(P.move (okS.at hM)).move (okB.old bl.inv)⟩⟩)
theorem Mr (f:Fm) (x:Nat) (b off:Nat) (q:FQ) (hf:FormV (okS L w0) w0 q.val f) (c0:w0.cell? ⟨b,off,none⟩=some (.int .u8 q.o)) (c1:w0.cell? ⟨b,off+1,none⟩=some (.string q.n)) (c2:w0.cell? ⟨b,off+2,none⟩=some (.slice q.a q.l q.c)) (c3:w0.cell? ⟨b,off+3,none⟩=some (.slice q.b q.m q.e)) (hb:¬M b) (hM:∀ c,L c->¬M c) {g:Option (Nat×Bool)} (hx:Dep md ops a0 l kA kS M w0 k ⟨some d,.load 36 (.tmp x),ty,pos,cU,g⟩ x (fun v _ _=>v=.pointer (some ⟨b,off,none⟩))) (ho:ops[k]?=some ⟨some d,.load 36 (.tmp x),ty,pos,cU,g⟩:=by rfl) (hw:Wt md ops a0 l kA kS M w0 k ⟨some d,.load 36 (.tmp x),ty,pos,cU,g⟩:=by exact fun _ _ _ _=>rfl) (hp:jg l k=FormG L f:=by rfl):dM md ops Q a0 l kA kS M w0 k:=
 ij hw ho rfl (fun a γ w bl=>by
  obtain ⟨vx,ex,rfl⟩:=hx a γ w bl;have C:=fun i v (h:w0.cell? ⟨b,i,none⟩=some v)=>bl.inv.1.cell (a:=⟨b,i,none⟩) hb h;have c0:=C _ _ c0;have c1:=C _ _ c1;have c2:=C _ _ c2;have c3:=C _ _ c3;exact ⟨FQ.val q,by simp only[FQ.val];go_simp,by rw[hp];exact ⟨q,rfl,(hf.move (okS.at hM)).move (okB.old bl.inv)⟩⟩)
end
end
/-! metavariables -/
mutual
def tV:Tm->List Str | .mk v n a=>(if v && dz n then [n] else []) ++ iY a
def iY:List Tm->List Str | []=>[] | t :: l=>tV t ++ iY l
end
mutual
def gB:Fm->List Str | .mk o n a s=>(if (o == 15 || o == 16) && dz n then [n] else []) ++ (iY a ++ pC s)
def pC:List Fm->List Str | []=>[] | t :: l=>gB t ++ pC l
end
theorem rT (x:Str) (v:α):∀ (l:List (Str×α)) (y:Str),y∈(fS x v l).map (·.1) ↔ y=x\/y∈l.map (·.1)
 | [],y=>by simp[fS]
 | (z,u) :: r,y=>by
  unfold fS;split
  ·simp
  ·simp only[cz,cd,rT x v r y];constructor
   ·rintro (h | h | h)
    ·exact .inr (.inl h)
    ·exact .inl h
    ·exact .inr (.inr h)
   ·rintro (h | h | h)
    ·exact .inr (.inl h)
    ·exact .inl h
    ·exact .inr (.inr h)
mutual
theorem v_ (sc:List Str):∀ (t u:Tm) (k k':List (Str×Tm)),(∀ x∈k.map (·.1),x∈m)->(∀ x∈tV t,x∈m)->cJ sc k t u=some k'->∀ x∈k'.map (·.1),x∈m
 | .mk v n a,.mk v' n' a',k,k',hk,ht,h=>by
  unfold cJ at h
  by_cases hm:(v && dz n)=true
  ·rw[au hm]at h;have hn:n∈m:=ht n (by simp[tV,hm])
   cases hg:getB k n with
   | none=>
    rw[hg]at h;simp only[cX]at h;subst h;intro x hx;rw[rT]at hx;rcases hx with rfl | hx
    ·exact hn
    ·exact hk x hx
   | some w=>
    rw[hg]at h;simp only at h;split at h
    ·cases h;exact hk
    ·cases h
  ·rw[ak hm]at h;split at h
   ·split at h
    ·cases h;exact hk
    ·cases h
   ·split at h
    ·cases h
    ·exact sN sc a a' k k' hk (fun x hx=>ht x (by simp[tV,hx])) h
theorem sN (sc:List Str):∀ (t u:List Tm) (k k':List (Str×Tm)),(∀ x∈k.map (·.1),x∈m)->(∀ x∈iY t,x∈m)->bR sc k t u=some k'->∀ x∈k'.map (·.1),x∈m
 | [],u,k,k',hk,_,h=>by simp only[bR,cX]at h;rw[<-h];exact hk
 | _ :: _,[],k,k',hk,_,h=>by simp only[bR,cX]at h;rw[<-h];exact hk
 | t :: l,u :: w,k,k',hk,ht,h=>by
  simp only[bR]at h
  cases h1:cJ sc k t u with
  | none=>rw[h1]at h;cases h
  | some k1=>
   rw[h1]at h;exact sN sc l w k1 k' (v_ sc t u k k1 hk (fun x hx=>ht x (by simp[iY,hx])) h1) (fun x hx=>ht x (by simp[iY,hx])) h
end
theorem wa:∀ (t u:List Tm) (k k':List (Str×Tm)),(∀ x∈k.map (·.1),x∈m)->(∀ x∈iY t,x∈m)->cK c k t u=some k'->∀ x∈k'.map (·.1),x∈m
 | [],u,k,k',hk,_,h=>by simp only[cK,cX]at h;rw[<-h];exact hk
 | _ :: _,[],k,k',hk,_,h=>by simp only[cK,cX]at h;rw[<-h];exact hk
 | t :: l,u :: w,k,k',hk,ht,h=>by
  simp only[cK]at h
  cases h0:ir c [] u with
  | none=>rw[h0]at h;cases h
  | some im=>
   rw[h0]at h;simp only at h
   cases h1:cJ (c.map (·.1)) k t im with
   | none=>rw[h1]at h;cases h
   | some k1=>
    rw[h1]at h;exact wa l w k1 k' (v_ _ t im k k1 hk (fun x hx=>ht x (by simp[iY,hx])) h1) (fun x hx=>ht x (by simp[iY,hx])) h
structure NamesIn (k:Bd) (m:List Str):Prop where
 f:∀ x∈k.fs.map (·.1),x∈m
 t:∀ x∈k.ts.map (·.1),x∈m
theorem K6 {n:Str} (h:dF n=true):dz n=true:=by unfold dz;rw[h];rfl
theorem K7 {n:Str} (h:c9 n=true):dz n=true:=by unfold dz;rw[h];simp
theorem RG (hp:PlOk p) (h:p.s.op=15\/p.s.op=16):p.s.n∈gB p.s:=by
 have hs:=hp.s;obtain ⟨⟨o,n,a,s⟩,f,c⟩:=p;simp only[okF,af]at hs;simp only[Fm.op,Fm.n]at h ⊢;have hn:dF n=true:=by
  have:=hs.2.1.1;rcases h with rfl | rfl
  ·exact this
  ·exact this
 have:((o == 15 || o == 16) && dz n)=true:=by
  rw[K6 hn];rcases h with rfl | rfl <;> decide
 simp[gB,this]
theorem DB {k:Bd} (hp:PlOk p) (hk:NamesIn k m) (hm:∀ x∈gB p.s,x∈m):NamesIn (bK k p).1 m:=by
 unfold bK
 by_cases dN:p.s.op=16
 ·rw[au dN];exact hk
 ·rw[ak dN]
  by_cases eQ:p.s.op=15
  ·rw[au eQ]
   cases eT p.c [] p.f with
   | none=>exact hk
   | some im=>
    simp only
    cases getB k.fs p.s.n with
    | none=>
     refine ⟨fun x hx=>?_,hk.t⟩;simp only at hx;rw[rT]at hx;rcases hx with rfl | hx
     ·exact hm _ (RG hp (.inl eQ))
     ·exact hk.f x hx
    | some g=>
     simp only;split
     ·exact hk
     ·exact hk
  ·rw[ak eQ];split
   ·exact hk
   ·cases ha:cK p.c k.ts p.s.a p.f.a with
    | none=>exact hk
    | some ts=>
     refine ⟨hk.f,wa p.s.a p.f.a k.ts ts hk.t (fun x hx=>hm x ?_) ha⟩;obtain ⟨⟨o,n,a,s⟩,f,c⟩:=p;simp only[Fm.a]at hx;simp[gB,hx]
theorem RH {k:Bd} (hp:PlOk p) (hk:NamesIn k m) (hm:∀ x∈gB p.s,x∈m):NamesIn (ev k p).1 m:=by
 unfold ev
 by_cases dN:(p.s.op != 16)=true
 ·rw[au dN];exact hk
 ·rw[ak dN];obtain ⟨x0,y0,ha,Y5,hy0,hn⟩:=iA hp (by simpa using dN);have hy:y0∈m:=hm y0 (by
   obtain ⟨⟨o,n,a,s⟩,f,c⟩:=p;simp only[Fm.a]at ha;subst ha;simp[gB,iY,tV,ao,K7 hy0])
  have add:∀ (t:Tm) (l:List (Str×Tm)),(∀ x∈l.map (·.1),x∈m)->∀ x∈(fS y0 t l).map (·.1),x∈m:=fun t l hl x hx=>by
   rw[rT]at hx;rcases hx with rfl | hx
   ·exact hy
   ·exact hl x hx
  cases getB k.fs p.s.n with
  | none=>exact hk
  | some g=>
   simp only
   cases eT p.c [] p.f with
   | none=>exact hk
   | some im=>
    simp only[hn];split
    ·split
     ·exact hk
     ·exact hk
    ·cases getB k.ts y0 with
     | some t=>
      simp only;split
      ·exact ⟨hk.f,hk.t⟩
      ·split
       ·exact ⟨hk.f,hk.t⟩
       ·exact ⟨hk.f,hk.t⟩
     | none=>
      simp only
      cases ie g im (bQ x0) with
      | none=>exact hk
      | some t=>
       simp only[Option.map_some];split
       ·exact ⟨hk.f,add t _ hk.t⟩
       ·split
        ·exact ⟨hk.f,add t _ hk.t⟩
        ·exact ⟨hk.f,add t _ hk.t⟩
mutual
theorem wb:∀ (s f:Fm) (c:Sco),∀ p∈aR c s f,∀ x∈gB p.s,x∈gB s
 | .mk o n a s,.mk o' n' a' s',c,p,hp,x,hx=>by
  simp only[aR,cd]at hp;rcases hp with rfl | hp
  ·exact hx
  ·have:=sO s s' _ p hp x hx;simp[gB,this]
theorem sO:∀ (s f:List Fm) (c:Sco),∀ p∈aE c s f,∀ x∈gB p.s,x∈pC s
 | [],_,_,p,hp,_,_=>by simp[aE]at hp
 | _ :: _,[],_,p,hp,_,_=>by simp[aE]at hp
 | t :: l,u :: m,c,p,hp,x,hx=>by
  simp only[aE,List.mem_append]at hp;simp only[pC,List.mem_append];rcases hp with hp | hp
  ·exact .inl (wb t u c p hp x hx)
  ·exact .inr (sO l m c p hp x hx)
end
theorem Cg {P:Str×Tm->Prop} (x:Str) (v:Tm):∀ l:List (Str×Tm),(∀ y∈l,P y)->P (x,v)->∀ y∈fS x v l,P y
 | [],_,hv,y,hy=>by simp only[fS,cd,List.not_mem_nil,or_false]at hy;rw[hy];exact hv
 | (z,u) :: r,hl,hv,y,hy=>by
  unfold fS at hy;split at hy
  ·rcases cd.1 hy with rfl | hy
   ·exact hv
   ·exact hl y hy
  ·rcases cd.1 hy with rfl | hy
   ·exact hl _ (f8 ..)
   ·exact Cg x v r (fun y hy=>hl y (fD _ hy)) hv y hy
def EK (k:List (Str×Tm)):Prop:=∀ y∈k,nodesT y.2<=1000
mutual
theorem EL (sc:List Str):∀ (t u:Tm) (k k':List (Str×Tm)),EK k->nodesT u<=1000->cJ sc k t u=some k'->EK k'
 | .mk v n a,.mk v' n' a',k,k',hk,hu,h=>by
  unfold cJ at h
  by_cases hm:(v && dz n)=true
  ·rw[au hm]at h
   cases hg:getB k n with
   | none=>
    rw[hg]at h;simp only[cX]at h;subst h;exact Cg n _ k hk hu
   | some w=>
    rw[hg]at h;simp only at h;split at h
    ·cases h;exact hk
    ·cases h
  ·rw[ak hm]at h;split at h
   ·split at h
    ·cases h;exact hk
    ·cases h
   ·split at h
    ·cases h
    ·exact Ch sc a a' k k' hk (by simp only[nodesT]at hu;omega) h
theorem Ch (sc:List Str):∀ (t u:List Tm) (k k':List (Str×Tm)),EK k->nodesTs u<=1000->bR sc k t u=some k'->EK k'
 | [],u,k,k',hk,_,h=>by simp only[bR,cX]at h;rw[<-h];exact hk
 | _ :: _,[],k,k',hk,_,h=>by simp only[bR,cX]at h;rw[<-h];exact hk
 | t :: l,u :: w,k,k',hk,hu,h=>by
  simp only[bR]at h;simp only[nodesTs]at hu
  cases h1:cJ sc k t u with
  | none=>rw[h1]at h;cases h
  | some k1=>
   rw[h1]at h;exact Ch sc l w k1 k' (EL sc t u k k1 hk (by omega) h1) (by omega) h
end
theorem EM:∀ (t u:List Tm) (k k':List (Str×Tm)),EK k->(∀ x∈u,∀ im,ir c [] x=some im->nodesT im<=1000)->cK c k t u=some k'->EK k'
 | [],u,k,k',hk,_,h=>by simp only[cK,cX]at h;rw[<-h];exact hk
 | _ :: _,[],k,k',hk,_,h=>by simp only[cK,cX]at h;rw[<-h];exact hk
 | t :: l,u :: w,k,k',hk,hu,h=>by
  simp only[cK]at h
  cases h0:ir c [] u with
  | none=>rw[h0]at h;cases h
  | some im=>
   rw[h0]at h;simp only at h
   cases h1:cJ (c.map (·.1)) k t im with
   | none=>rw[h1]at h;cases h
   | some k1=>
    rw[h1]at h;exact EM l w k1 k' (EL _ t im k k1 hk (hu u (f8 ..) im h0) h1) (fun x hx=>hu x (fD _ hx)) h
theorem K8 {k:Bd} (hp:PlOk p) (hk:EK k.ts):EK (bK k p).1.ts:=by
 unfold bK
 by_cases dN:p.s.op=16
 ·rw[au dN];exact hk
 ·rw[ak dN]
  by_cases eQ:p.s.op=15
  ·rw[au eQ]
   cases eT p.c [] p.f with
   | none=>exact hk
   | some im=>
    simp only
    cases getB k.fs p.s.n with
    | none=>exact hk
    | some g=>
     simp only;split
     ·exact hk
     ·exact hk
  ·rw[ak eQ];split
   ·exact hk
   ·cases ha:cK p.c k.ts p.s.a p.f.a with
    | none=>exact hk
    | some ts=>exact EM p.s.a p.f.a k.ts ts hk (fun x hx im h=>(El hp hx h).2) ha
theorem T3 {k:Bd} (hp:PlOk p) (hk:EK k.ts):EK (ev k p).1.ts:=by
 unfold ev;split
 ·exact hk
 ·cases getB k.fs p.s.n with
  | none=>exact hk
  | some g=>
   simp only
   cases hi:eT p.c [] p.f with
   | none=>exact hk
   | some im=>
    simp only;have hg:=AX hp hi;split
    ·split
     ·exact hk
     ·exact hk
    ·cases getB k.ts (aJ p.s).2 with
     | some t=>
      simp only;split
      ·exact hk
      ·split
       ·exact hk
       ·exact hk
     | none=>
      simp only
      cases hf:ie g im (aJ p.s).1 with
      | none=>exact hk
      | some t=>
       have ht:=Cg (P:=fun y=>nodesT y.2<=1000) (aJ p.s).2 t k.ts hk (AW hg.ok hg.nodes hf).2;simp only[Option.map_some];split
       ·exact ht
       ·split
        ·exact ht
        ·exact ht
theorem RI {step:Bd->Pl->Bd×Int} (hs:∀ k p,PlOk p->EK k.ts->EK (step k p).1.ts) (hn:∀ k p,PlOk p->NamesIn k m->(∀ x∈gB p.s,x∈m)->NamesIn (step k p).1 m):∀ (l:List Pl) (k:Bd),(∀ p∈l,PlOk p/\∀ x∈gB p.s,x∈m)->EK k.ts->NamesIn k m->EK (gC step k l).1.ts/\NamesIn (gC step k l).1 m
 | [],k,_,h1,h2=>⟨h1,h2⟩
 | p :: l,k,h,h1,h2=>by
  obtain ⟨hp,hm⟩:=h p (f8 ..);have a:=hs k p hp h1;have b:=hn k p hp h2 hm;simp only[gC];split
  ·exact RI hs hn l _ (fun q hq=>h q (fD _ hq)) a b
  ·exact ⟨a,b⟩
theorem Gh {step:Bd->Pl->Bd×Int} (hs:∀ k p,PlOk p->EK k.ts->EK (step k p).1.ts) (hn:∀ k p,PlOk p->NamesIn k m->(∀ x∈gB p.s,x∈m)->NamesIn (step k p).1 m):∀ (l:List (Fm×Fm)) (i:Nat) (k:Bd),(∀ x∈l,(e9 x.1 && cf x.2)=true/\∀ y∈gB x.1,y∈m)->EK k.ts->NamesIn k m->EK (ew step i k l).1.ts/\NamesIn (ew step i k l).1 m
 | [],_,k,_,h1,h2=>⟨h1,h2⟩
 | (s,f) :: l,i,k,h,h1,h2=>by
  obtain ⟨hp,hm⟩:=h (s,f) (f8 ..);have hr:=RI hs hn (aR [] s f) k (fun p hp'=>⟨jQ s f [] (tb hp) p hp',fun x hx=>hm x (wb s f [] p hp' x hx)⟩) h1 h2;simp only[ew];split
  ·exact Gh hs hn l _ _ (fun x hx=>h x (fD _ hx)) hr.1 hr.2
  ·exact hr
mutual
theorem K_:∀ t,(tV t).length<=nodesT t
 | .mk v n a=>by
  have:=ry a;unfold tV nodesT;split <;> simp <;> omega
theorem ry:∀ t,(iY t).length<=nodesTs t
 | []=>by simp[iY]
 | t :: l=>by
  have:=K_ t;have:=ry l;simp only[iY,nodesTs,dO];omega
end
mutual
theorem Ci:∀ t,(gB t).length<=nodesF t
 | .mk o n a s=>by
  have:=ry a;have:=yH s;unfold gB nodesF;split <;> simp <;> omega
theorem yH:∀ t,(pC t).length<=nodesFs t
 | []=>by simp[pC]
 | t :: l=>by
  have:=Ci t;have:=yH l;simp only[pC,nodesFs,dO];omega
end
mutual
theorem N':∀ t,nodesT t<=Vx t
 | .mk v n a=>by have:=tW a;unfold nodesT Vx;omega
theorem tW:∀ t,nodesTs t<=vW t
 | []=>by simp[nodesTs]
 | t :: l=>by have:=N' t;have:=tW l;simp only[nodesTs,vW];omega
end
mutual
theorem N_:∀ t,nodesF t<=R_ t
 | .mk o n a s=>by have:=tW a;have:=pD s;unfold nodesF R_;omega
theorem pD:∀ t,nodesFs t<=vX t
 | []=>by simp[nodesFs]
 | t :: l=>by have:=N_ t;have:=pD l;simp only[nodesFs,vX];omega
end
theorem Cj:∀ {l:List Fm} {f:Fm},f∈l->nodesF f<=nodesFs l
 | y :: c,f,h=>by
  simp only[nodesFs];rcases cd.1 h with rfl | h
  ·omega
  ·have:=Cj h;omega
theorem yI:∀ l:List (Fm×Fm),(l.flatMap fun x=>gB x.1).length<=nodesFs (cE l)
 | []=>by simp[cE]
 | x :: l=>by
  have h1:=yI l;have h2:=Ci x.1;simp only[List.flatMap_cons,dO,cE,lG,sj,nodesFs]at h1 ⊢;omega
theorem La (h:mX b=true) (hfit:fitFs (kB b.fs ++ lq b.ts)):BdFit b/\b.fs.length<=10/\b.ts.length<=10:=by
 simp only[mX,af,bp]at h;obtain ⟨h1,h2,h3⟩:=h;have hsz:=yG h3;have zu:=pD (kB b.fs ++ lq b.ts);have ii:∀ x∈b.fs,x.2∈kB b.fs ++ lq b.ts/\Fm.mk 1 x.1 [] []∈kB b.fs ++ lq b.ts:=fun x hx=>by
  refine ⟨List.mem_append.2 (.inl ?_),List.mem_append.2 (.inl ?_)⟩ <;> exact List.mem_flatMap.2 ⟨x,hx,by simp⟩
 have oy:∀ x∈b.ts,Fm.mk 1 x.1 [x.2] []∈kB b.fs ++ lq b.ts:=fun x hx=>List.mem_append.2 (.inr (List.mem_map.2 ⟨x,hx,rfl⟩));refine ⟨⟨by omega,by omega,fun x hx=>?_,fun x hx=>?_⟩,h1,h2⟩
 ·have a:=hfit.mem (ii x hx).1;have c:=(hfit.mem (ii x hx).2).2;simp only[ls,af,bp]at c;exact ⟨c.2.1,a⟩
 ·have a:=hfit.mem (oy x hx);have c:=a.2;have d:=Cj (oy x hx);simp only[ls,nmTs,af,bp]at c;simp only[nodesF,nodesTs]at d;exact ⟨c.2.1,⟨by omega,c.2.2.1.1⟩,by omega⟩
theorem T4 {l:List (Fm×Fm)} (h:Gg l=true):l.length<=8/\nodesFs (cE l)<=500:=by
 simp only[Gg,af,bp]at h;have h2:=h.2;rw[gU (by omega)]at h2;have a:=yG h2;have b:=pD (cE l);exact ⟨h.1,by omega⟩
theorem DC {l:List (Fm×Fm)} {k:Bd} (h:cg l b=(k,i,0)) (hl:nodesFs (cE l)<=500) (hb:BdFit b) (h1:b.fs.length<=10) (h2:b.ts.length<=10):BdFit k:=by
 have zH:=nH h;obtain ⟨hvb,hok,_,_,_⟩:=mD h;obtain ⟨m,hm⟩:=am (b.fs.map (·.1) ++ (b.ts.map (·.1) ++ l.flatMap fun x=>gB x.1));have wn:m.length<=520:=by
  have:=yI l;rw[hm];simp only[dO,List.length_map];omega
 have hk:EK k.ts/\NamesIn k m:=by
  have hx:∀ x∈l,(e9 x.1 && cf x.2)=true/\∀ y∈gB x.1,y∈m:=fun x hx=>⟨hok x hx,fun y hy=>by
   rw[hm];exact List.mem_append.2 (.inr (List.mem_append.2 (.inr (List.mem_flatMap.2 ⟨x,hx,hy⟩))))⟩
  have Oo:EK b.ts:=fun y hy=>(hb.ts y hy).2.2;have ti:NamesIn b m:=⟨fun x hx=>by rw[hm];exact List.mem_append.2 (.inl hx),fun x hx=>by rw[hm];exact List.mem_append.2 (.inr (List.mem_append.2 (.inl hx)))⟩;have p1:=Gh (step:=bK) (fun k p=>K8) (fun k p=>DB) l 0 b hx Oo ti;unfold cg at h;simp only[hvb,Bool.not_true,bW,↓reduceIte,(iP l 0).2 hok]at h
  cases e1:ew bK 0 b l with
  | mk k1 x1=>
   obtain ⟨i1,r1⟩:=x1;rw[e1]at h p1;simp only at h;split at h
   ·rename_i jZ;injection h with _ h;injection h with _ h;exact absurd h jZ
   ·have p2:=Gh (step:=ev) (fun k p=>T3) (fun k p=>RH) l 0 k1 hx p1.1 p1.2
    cases e2:ew ev 0 k1 l with
    | mk k2 x2=>
     obtain ⟨i2,r2⟩:=x2;rw[e2]at h p2;simp only at h;split at h
     ·rename_i jZ;injection h with _ h;injection h with _ h;exact absurd h jZ
     ·injection h with h _;subst h;exact p2
 have jy:=zH;simp only[bw,af]at jy;have l1:=zy _ m (iB (kQ jy.2.1)) hk.2.f;have l2:=zy _ m (iB (kQ jy.2.2)) hk.2.t;simp only[List.length_map]at l1 l2;refine ⟨by omega,by omega,fun x hx=>?_,fun x hx=>?_⟩
 ·have a:=LS zH x hx;exact ⟨by have:=tF a.2;omega,a.1.fit⟩
 ·have a:=zB zH hk.1 x hx;exact ⟨by have:=fX a.2;omega,a.1.fit,hk.1 x hx⟩
theorem Vz {b c:Bool} (h:b=c):(cA (.bool c)).p=(cA (.bool b)).p:=by rw[h]
theorem I3 {l:List (Fm×Fm)} {k:Bd} {e:Int} (h:cg l b=(k,i,e)) (he:e≠0):k=⟨[],[]⟩:=by
 unfold cg at h;split at h
 ·cases h;rfl
 ·split at h
  ·cases h;rfl
  ·split at h;split at h
   ·cases h;rfl
   ·split at h;split at h
    ·cases h;rfl
    ·cases h;exact absurd rfl he
theorem Ck {l:List (Fm×Fm)} {x:Fm×Fm} (h:x∈l):x.1∈cE l/\x.2∈cE l:=by
 simp only[cE,List.mem_flatMap];exact ⟨⟨x,h,by simp⟩,⟨x,h,by simp⟩⟩
theorem Oa {f:Fm} (h:cf f=true):fitF f:=by
 have h1:=h;simp only[cf,af,bp]at h1;exact ⟨by omega,gq (by omega) f (ig _ h1.1)⟩
section
attribute [local go_sem] Oper.semAt_some
structure FillI (w0:World) (la:Option Addr) (lc:Nat) (l:List (Fm×Fm)) (kd:Bd) (b5:Nat) (q5:BQ) (i:Nat) (a:Act) (W:World):Prop where
 hs:a.tmps.size=63
 hd:a.defers=[]
 HB:Below w0.heap.size w0 W
 t8:a.tmps[8]?=some (.int .i64 i)
 t0:a.tmps[0]?=some (.slice la l.length lc)
 B5:LB X0 a W 5 b5 q5 kd
 P0:SPairsV (okS X0 W) W (.slice la l.length lc) l
theorem Gi (WB:World) (l:List (Fm×Fm)) (bd:Bd) (r':fitFs (cE l)) (hb1:bd.fs.length<=1000000) (bB:bd.ts.length<=1000000) (wT:bd.fs.length<=10->bd.ts.length<=10->fitFs (kB bd.fs ++ lq bd.ts)) (ok ok':Nat->Prop) (w:World) (lP:Tabs WB w) (la:Option Addr) (lc:Nat) (q:BQ) (hl:SPairsV ok w (.slice la l.length lc) l) (hq:BindV ok' w q bd) :
  Calls Tryz.prog 7 #[.slice la l.length lc,q.val] w fun e w'=>e=.returned (.bool true)/\Below w.heap.size w w':=by
 obtain ⟨W2,a_⟩:=am (w.alloc (.cells #[.slice q.a q.l q.c,.slice q.b q.m q.e] 26));have HB:=cV a_;have hx:=bU a_;have hlw:SPairsV (fun b=>b<w.heap.size) w (.slice la l.length lc) l:=hl.move (fun _ _ h=>⟨h,rfl⟩);have hqw:BindV (fun b=>b<w.heap.size) w q bd:=hq.move (fun _ _ h=>⟨h,rfl⟩);have P0:SPairsV (okS X0 W2) W2 (.slice la l.length lc) l:=(hlw.later HB).move (fun _ h hlt=>⟨⟨trivial,hlt⟩,rfl⟩);have hvb:BindV (okS X0 W2) W2 q bd:=(hqw.later HB).move (fun _ h hlt=>⟨⟨trivial,hlt⟩,rfl⟩);clear hl hq hlw hqw;simp only[BQ.val];refine m4 Tryz.func7 ?_;simp only[Tryz.ntmps7,Nat.reduceAdd,Nat.reduceSub,lu];refine cZ (fun K hK=>?_);refine wpIn_region_lit ?_
 iterate 7 gi_step
 refine hK _ _ ?_;rw[<-a_];refine (fun (A:Act) (hs:A.tmps.size=63) (hd:A.defers=[]) (t0:A.tmps[0]?=some (.slice la l.length lc)) (t3:A.tmps[3]?=some (ptr w.heap.size))=>?_:∀ A:Act,A.tmps.size=63->A.defers=[]->A.tmps[0]?=some (.slice la l.length lc)->A.tmps[3]?=some (ptr w.heap.size)->Code.wpIn Fence.wide 3 _ _ _ A W2) _ rfl rfl rfl rfl;clear hK K;have B3:LB X0 A W2 3 w.heap.size q bd:=⟨t3,hx,hvb⟩;clear t3 hx hvb a_;have kT:∀ c,ct c->WB.heap.size<=c:=fun _ h=>h.elim;have dl:∀ c,X0 c->¬ct c:=fun _ _ h=>h;have hL:∀ {u:World} (c),u.heap.size<=c->X0 c:=fun _ _=>trivial;have hT:Tabs WB W2:=lP.next (HB);refine cZ (fun K1a zbH=>?_);refine cZ (fun K1b zbI=>?_);refine dn [cA (.bool true),
  cA (.bool false)]
  2 2 hs (by kernel_rfl) (fun k hk=>?_) (fun A1 γ W1 h=>?_)
 ·exact match k,hk with
  | 0,_=>RC hT kT
  | 1,_=>et rfl 11 (.bool false) (aF 0)
  | k+2,hk=>absurd hk (by simp)
 have gY:=h.sz.trans hs;have Yh:=h.df.trans hd;have ec:Below w.heap.size w W1:=aQ HB h.inv.1 (fun _ h=>h.elim);have B3:=B3.nx (h.od 3) h.inv.1 dl;have t0:=h.ol 0 t0;have P0:=P0.move (okS.next (L':=X0) h.inv.1 dl (fun _ h _=>h));clear hT;obtain ⟨vz,tc,fz⟩:=h.get 1 _ 12 rfl rfl;obtain rfl:vz=.bool false:=fz;clear h;refine zbI _ _ ?_;refine wpIn_cond_false (bP tc) (wpIn_skip ?_);refine zbH _ _ ?_;clear zbH zbI K1a K1b tc
 by_cases iz:Gg l=true
 case neg=>
  have iz:Gg l=false:=by simpa using iz
  have hT:Tabs WB W1:=lP.next (ec);refine cZ (fun K3a T5=>?_);refine cZ (fun K3b Ob=>?_);refine dn [tS X0 l,
   cA (.bool false),
   cA (.bool true),
   cA (.bool true),
   cA undef,
   cA undef,
   cA undef,
   cA (.bool true)]
   8 8 gY (by kernel_rfl) (fun k hk=>?_) (fun A3 γ W3 h=>?_)
  ·exact match k,hk with
   | 0,_=>vZ l 0 la lc P0 dl (old t0)
   | 1,_=>K5 l r' 13 (aF 0) (hp:=Vz iz)
   | 2,_=>et rfl 14 (.bool true) (aF 1)
   | 3,_=>bc _ 15 (aF 2)
   | 4,_=>KZ false 3 (aF 3)
   | 5,_=>KZ false 3 (aF 3)
   | 6,_=>KZ false 3 (aF 3)
   | 7,_=>et rfl 16 (.bool true) (aF 3)
   | k+8,hk=>absurd hk (by simp)
  have wh:=h.sz.trans gY;have Sf:=h.df.trans Yh;have bD:Below w.heap.size w W3:=aQ ec h.inv.1 (fun _ h=>h.elim);have B3:=B3.nx (h.od 3) h.inv.1 dl;have t0:=h.ol 0 t0;have P0:=P0.move (okS.next (L':=X0) h.inv.1 dl (fun _ h _=>h));clear hT;obtain ⟨vz,tc,fz⟩:=h.get 7 _ 20 rfl rfl;obtain rfl:vz=.bool true:=fz;clear h;refine Ob _ _ ?_;refine wpIn_cond_true (bP tc) ?_;have hT:Tabs WB W3:=lP.next (bD);refine cZ (fun K4a YL=>?_);refine dn [cA (.bool true)]
   1 1 wh (by kernel_rfl) (fun k hk=>?_) (fun A4 γ W4 h=>?_)
  ·exact match k,hk with
   | 0,_=>F5 rfl (.bool true) (fun _ _=>by go_simp)
   | k+1,hk=>absurd hk (by simp)
  have Fg:=h.sz.trans wh;have Sg:=h.df.trans Sf;have ei:Below w.heap.size w W4:=aQ bD h.inv.1 (fun _ h=>h.elim);have B3:=B3.nx (h.od 3) h.inv.1 dl;have t0:=h.ol 0 t0;have P0:=P0.move (okS.next (L':=X0) h.inv.1 dl (fun _ h _=>h));clear hT;obtain ⟨vz,tr,fz⟩:=h.get 0 _ 4 rfl rfl;obtain rfl:vz=.bool true:=fz;refine YL _ _ ?_;refine wpIn_ret ?_
  try simp only[Exit.then]
  exact pm307
 by_cases ze:mX bd=true
 case neg=>
  have ze:mX bd=false:=by simpa using ze
  have hT:Tabs WB W1:=lP.next (ec);refine cZ (fun K3a T5=>?_);refine cZ (fun K3b Ob=>?_);refine dn [tS X0 l,
   cA (.bool true),
   cA (.bool false),
   cA (.bool false),
   cm X0 (bd),
   cA (.bool false),
   cA (.bool true),
   cA (.bool true)]
   8 8 gY (by kernel_rfl) (fun k hk=>?_) (fun A3 γ W3 h=>?_)
  ·exact match k,hk with
   | 0,_=>vZ l 0 la lc P0 dl (old t0)
   | 1,_=>K5 l r' 13 (aF 0) (hp:=Vz iz)
   | 2,_=>et rfl 14 (.bool false) (aF 1)
   | 3,_=>bc _ 15 (aF 2)
   | 4,_=>ef _ _ 3 B3.box (fun h=>h) (B3.at dl) (old B3.slot) (hw:=ba 3 (aF 3))
   | 5,_=>EJ bd hb1 bB wT 17 (aF 4) (hw:=ba 3 (aF 3)) (hp:=Vz ze)
   | 6,_=>et rfl 18 (.bool true) (aF 5) (hw:=ba 3 (aF 3))
   | 7,_=>iJ rfl 16 19 (.bool true) (aF 3) (aF 6)
   | k+8,hk=>absurd hk (by simp)
  have wh:=h.sz.trans gY;have Sf:=h.df.trans Yh;have bD:Below w.heap.size w W3:=aQ ec h.inv.1 (fun _ h=>h.elim);have B3:=B3.nx (h.od 3) h.inv.1 dl;have t0:=h.ol 0 t0;have P0:=P0.move (okS.next (L':=X0) h.inv.1 dl (fun _ h _=>h));clear hT;obtain ⟨vz,tc,fz⟩:=h.get 7 _ 20 rfl rfl;obtain rfl:vz=.bool true:=fz;clear h;refine Ob _ _ ?_;refine wpIn_cond_true (bP tc) ?_;have hT:Tabs WB W3:=lP.next (bD);refine cZ (fun K4a YL=>?_);refine dn [cA (.bool true)]
   1 1 wh (by kernel_rfl) (fun k hk=>?_) (fun A4 γ W4 h=>?_)
  ·exact match k,hk with
   | 0,_=>F5 rfl (.bool true) (fun _ _=>by go_simp)
   | k+1,hk=>absurd hk (by simp)
  have Fg:=h.sz.trans wh;have Sg:=h.df.trans Sf;have ei:Below w.heap.size w W4:=aQ bD h.inv.1 (fun _ h=>h.elim);have B3:=B3.nx (h.od 3) h.inv.1 dl;have t0:=h.ol 0 t0;have P0:=P0.move (okS.next (L':=X0) h.inv.1 dl (fun _ h _=>h));clear hT;obtain ⟨vz,tr,fz⟩:=h.get 0 _ 4 rfl rfl;obtain rfl:vz=.bool true:=fz;refine YL _ _ ?_;refine wpIn_ret ?_
  try simp only[Exit.then]
  exact pm307
 have hT:Tabs WB W1:=lP.next (ec);refine cZ (fun K3a T5=>?_);refine cZ (fun K3b Ob=>?_);refine dn [tS X0 l,
  cA (.bool true),
  cA (.bool false),
  cA (.bool false),
  cm X0 (bd),
  cA (.bool true),
  cA (.bool false),
  cA (.bool false)]
  8 8 gY (by kernel_rfl) (fun k hk=>?_) (fun A3 γ W3 h=>?_)
 ·exact match k,hk with
  | 0,_=>vZ l 0 la lc P0 dl (old t0)
  | 1,_=>K5 l r' 13 (aF 0) (hp:=Vz iz)
  | 2,_=>et rfl 14 (.bool false) (aF 1)
  | 3,_=>bc _ 15 (aF 2)
  | 4,_=>ef _ _ 3 B3.box (fun h=>h) (B3.at dl) (old B3.slot) (hw:=ba 3 (aF 3))
  | 5,_=>EJ bd hb1 bB wT 17 (aF 4) (hw:=ba 3 (aF 3)) (hp:=Vz ze)
  | 6,_=>et rfl 18 (.bool false) (aF 5) (hw:=ba 3 (aF 3))
  | 7,_=>iJ rfl 16 19 (.bool false) (aF 3) (aF 6)
  | k+8,hk=>absurd hk (by simp)
 have wh:=h.sz.trans gY;have Sf:=h.df.trans Yh;have bD:Below w.heap.size w W3:=aQ ec h.inv.1 (fun _ h=>h.elim);have B3:=B3.nx (h.od 3) h.inv.1 dl;have t0:=h.ol 0 t0;have P0:=P0.move (okS.next (L':=X0) h.inv.1 dl (fun _ h _=>h));clear hT;obtain ⟨vz,tc,fz⟩:=h.get 7 _ 20 rfl rfl;obtain rfl:vz=.bool false:=fz;clear h;refine Ob _ _ ?_;refine wpIn_cond_false (bP tc) (wpIn_skip ?_);refine T5 _ _ ?_;clear T5 Ob K3a K3b tc;obtain ⟨hl8,zu⟩:=T4 iz;have tI:bd.fs.length<=10/\bd.ts.length<=10:=by
  simp only[mX,af,bp]at ze;exact ⟨ze.1,ze.2.1⟩
 have pU:BdFit bd:=(La ze (wT tI.1 tI.2)).1;have gX:∀ x∈l,fitF x.1/\fitF x.2:=fun x hx=>⟨r'.mem (Ck hx).1,r'.mem (Ck hx).2⟩
 obtain ⟨kd,ri,er,hM⟩:∃kd ri er,cg l bd=(kd,ri,er):=⟨_,_,_,rfl⟩;clear iz ze;have hT:Tabs WB W3:=lP.next (bD);refine cZ (fun K5a zbJ=>?_);refine dn [tS X0 l,
  cm X0 (bd),
  jh (cm X0 (kd)) [.int .i64 (ri:Nat),.int .i64 er],
  jh (cm X0 (kd)) [.int .i64 (ri:Nat),.int .i64 er],
  cm X0 (kd),
  cA (.int .i64 (ri:Nat)),
  cA (.int .i64 er),
  oD #[.slice none 0 0,.slice none 0 0] 26,
  ln (cm X0 (kd)) 26,
  cA (.int .i64 (ri:Nat)),
  cA (.int .i64 er)]
  7 8 wh (by kernel_rfl) (fun k hk=>?_) (fun A5 γ W5 h=>?_)
 ·exact match k,hk with
  | 0,_=>vZ l 0 la lc P0 dl (old t0)
  | 1,_=>ef _ _ 3 B3.box (fun h=>h) (B3.at dl) (old B3.slot)
  | 2,_=>pA _ _ _ _ _ hM hl8 gX pU 22 23 hT kT hL (aF 0) (aF 1)
  | 3,_=>bc _ 24 (aF 2)
  | 4,_=>iX _ _ 21 (aF 3)
  | 5,_=>iI (cm X0 (kd)) [.int .i64 (ri:Nat),.int .i64 er] 0 (.int .i64 (ri:Nat)) rfl 21 (aF 3)
  | 6,_=>iI (cm X0 (kd)) [.int .i64 (ri:Nat),.int .i64 er] 1 (.int .i64 er) rfl 21 (aF 3)
  | 7,_=>oE rfl
  | 8,_=>oF _ 5 25 rfl (aF 7) (aF 4)
  | 9,_=>dq _ 26 (aF 5)
  | 10,_=>dq _ 27 (aF 6)
  | k+11,hk=>absurd hk (by simp)
 have J4:=h.sz.trans wh;have hd5:=h.df.trans Sf;have yb:Below w.heap.size w W5:=aQ bD h.inv.1 (fun _ h=>h.elim);have B3:=B3.nx (h.od 3) h.inv.1 dl;have t0:=h.ol 0 t0;have P0:=P0.move (okS.next (L':=X0) h.inv.1 dl (fun _ h _=>h));obtain ⟨vz,tz,fz⟩:=h.get 7 _ 5 rfl rfl;obtain ⟨b5,q5,lz,_⟩:=B9 tz fz (h.did 8 _ rfl rfl) h.inv;have B5:=lz.next (L':=X0) rfl (Kp.refl (M:=ct) _) (fun h=>h) (fun _ _ h=>h) (fun _ h _=>h.1);clear vz tz fz lz;clear hT;obtain ⟨vz,t7,fz⟩:=h.get 10 _ 7 rfl rfl;obtain rfl:vz=.int .i64 er:=fz;clear h;refine zbJ _ _ ?_;clear zbJ K5a;clear B3
 by_cases hz:er=0
 case neg=>
  have ju:(er == 0)=false:=by simpa using hz
  have iy:(er != 0)=true:=by simpa using hz
  have bX:kd=⟨[],[]⟩:=I3 hM hz;subst bX;have hT:Tabs WB W5:=lP.next (yb);refine cZ (fun K6a YM=>?_);refine cZ (fun K6b T6=>?_);refine dn [cA (.int .i64 er),
   cA (.bool true)]
   2 2 J4 (by kernel_rfl) (fun k hk=>?_) (fun A6 γ W6 h=>?_)
  ·exact match k,hk with
   | 0,_=>bc _ 7 (old t7)
   | 1,_=>et rfl 28 (.bool true) (aF 0)
   | k+2,hk=>absurd hk (by simp)
  have Jc:=h.sz.trans J4;have hd6:=h.df.trans hd5;have PH:Below w.heap.size w W6:=aQ yb h.inv.1 (fun _ h=>h.elim);have B5:=B5.nx (h.od 5) h.inv.1 dl;have t0:=h.ol 0 t0;have t7:=h.ol 7 t7;have P0:=P0.move (okS.next (L':=X0) h.inv.1 dl (fun _ h _=>h));clear hT;obtain ⟨vz,tc,fz⟩:=h.get 1 _ 29 rfl rfl;obtain rfl:vz=.bool true:=fz;clear h;refine T6 _ _ ?_;refine wpIn_cond_true (bP tc) ?_;have hT:Tabs WB W6:=lP.next (PH);refine cZ (fun K7a zdV=>?_);refine dn [cm X0 (⟨[],[]⟩),
   cm X0 (⟨[],[]⟩),
   cA (.bool true),
   cA (.bool true)]
   4 4 Jc (by kernel_rfl) (fun k hk=>?_) (fun A7 γ W7 h=>?_)
  ·exact match k,hk with
   | 0,_=>ef _ _ 5 B5.box (fun h=>h) (B5.at dl) (old B5.slot)
   | 1,_=>Mg
   | 2,_=>RF ⟨[],[]⟩ ⟨[],[]⟩ mo 30 31 (aF 0) (aF 1) (hp:=Vz (EI.2 rfl))
   | 3,_=>dq _ 32 (aF 2)
   | k+4,hk=>absurd hk (by simp)
  have hs7:=h.sz.trans Jc;have hd7:=h.df.trans hd6;have HB7:Below w.heap.size w W7:=aQ PH h.inv.1 (fun _ h=>h.elim);have B5:=B5.nx (h.od 5) h.inv.1 dl;have t0:=h.ol 0 t0;have t7:=h.ol 7 t7;have P0:=P0.move (okS.next (L':=X0) h.inv.1 dl (fun _ h _=>h));clear hT;obtain ⟨vz,tr,fz⟩:=h.get 3 _ 4 rfl rfl;obtain rfl:vz=.bool true:=fz;refine zdV _ _ ?_;refine wpIn_ret ?_
  try simp only[Exit.then]
  exact bI (v:=.bool true) (by simp[results,Tryz.results7,go_sem,tr]) hd7 ⟨rfl,HB7⟩
 subst hz;have hT:Tabs WB W5:=lP.next (yb);refine cZ (fun K6a YM=>?_);refine cZ (fun K6b T6=>?_);refine dn [cA (.int .i64 0),
  cA (.bool false)]
  2 2 J4 (by kernel_rfl) (fun k hk=>?_) (fun A6 γ W6 h=>?_)
 ·exact match k,hk with
  | 0,_=>bc _ 7 (old t7)
  | 1,_=>et rfl 28 (.bool false) (aF 0)
  | k+2,hk=>absurd hk (by simp)
 have Jc:=h.sz.trans J4;have hd6:=h.df.trans hd5;have PH:Below w.heap.size w W6:=aQ yb h.inv.1 (fun _ h=>h.elim);have B5:=B5.nx (h.od 5) h.inv.1 dl;have t0:=h.ol 0 t0;have t7:=h.ol 7 t7;have P0:=P0.move (okS.next (L':=X0) h.inv.1 dl (fun _ h _=>h));clear hT;obtain ⟨vz,tc,fz⟩:=h.get 1 _ 29 rfl rfl;obtain rfl:vz=.bool false:=fz;clear h;refine T6 _ _ ?_;refine wpIn_cond_false (bP tc) (wpIn_skip ?_);refine YM _ _ ?_;clear YM T6 K6a K6b tc;clear t7;have tZ:BdFit kd:=DC hM zu pU tI.1 tI.2;have yT:=nH hM;have zbK:=FP hM;have zdW:=(mD hM).2.1;clear hM;have hT:Tabs WB W6:=lP.next (PH);refine cZ (fun K8a zbL=>?_);refine cZ (fun K8b zbM=>?_);refine dn [cA (.int .i64 0)]
  1 1 Jc (by kernel_rfl) (fun k hk=>?_) (fun A8 γ W8 h=>?_)
 ·exact match k,hk with
  | 0,_=>F5 rfl (.int .i64 0) (fun _ _=>by go_simp)
  | k+1,hk=>absurd hk (by simp)
 have Ve:=h.sz.trans Jc;have hd8:=h.df.trans hd6;have ZD:Below w.heap.size w W8:=aQ PH h.inv.1 (fun _ h=>h.elim);have B5:=B5.nx (h.od 5) h.inv.1 dl;have t0:=h.ol 0 t0;have P0:=P0.move (okS.next (L':=X0) h.inv.1 dl (fun _ h _=>h));clear hT;obtain ⟨vz,t8,fz⟩:=h.get 0 _ 8 rfl rfl;obtain rfl:vz=.int .i64 0:=fz;clear h;refine zbM _ _ ?_;clear zbM K8b;refine wpIn_block ?_;refine wpIn_loop (fun a W=>∃i,i<=l.length/\FillI w la lc l kd b5 q5 i a W) (fun a _=>l.length - (intOf (a.tmps.getD 8 undef)).toNat) ⟨0,aX _,⟨Ve,hd8,ZD,t8,t0,B5,P0⟩⟩ ?_;clear Ve hd8 ZD t8 t0 B5 P0;rintro a W ⟨i,hi,⟨hs,hd,HB,t8,t0,B5,P0⟩⟩;rw[bP t8]
 by_cases hlt:i<l.length
 case pos=>
  have Yh:decide ((i:Int)<(l.length:Int))=true:=by simp;omega
  have hd0:decide ((i:Int)<0)=false:=by simp
  have hT:Tabs WB W:=lP.next (HB);refine cZ (fun K9a T7=>?_);refine cZ (fun K9b RJ=>?_);refine dn [cA (.int .i64 i),
   cA (.slice la l.length lc),
   cA (.int .i64 l.length),
   cA (.bool true)]
   4 4 hs (by kernel_rfl) (fun k hk=>?_) (fun A9 γ W9 h=>?_)
  ·exact match k,hk with
   | 0,_=>bc _ 8 (old t8)
   | 1,_=>bc _ 0 (old t0)
   | 2,_=>et rfl 34 (.int .i64 l.length) (aF 1)
   | 3,_=>iJ rfl 33 35 (.bool true) (aF 0) (aF 2)
   | k+4,hk=>absurd hk (by simp)
  have Vu:=h.sz.trans hs;have hd9:=h.df.trans hd;have Vv:Below w.heap.size w W9:=aQ HB h.inv.1 (fun _ h=>h.elim);have B5:=B5.nx (h.od 5) h.inv.1 dl;have t0:=h.ol 0 t0;have t8:=h.ol 8 t8;have P0:=P0.move (okS.next (L':=X0) h.inv.1 dl (fun _ h _=>h));clear hT;obtain ⟨vz,tc,fz⟩:=h.get 3 _ 36 rfl rfl;obtain rfl:vz=.bool true:=fz;clear h;refine RJ _ _ ?_;refine wpIn_cond_true (bP tc) (wpIn_skip ?_);refine T7 _ _ ?_;clear T7 RJ K9a K9b tc;refine cZ (fun K10 zdX=>?_);refine wpIn_block ?_;obtain ⟨g,hg,Ow,hga⟩:=zbK _ (aw hlt);have hok:=zdW _ (aw hlt);simp only[af]at hok;obtain ⟨⟨fs,ff⟩,ZH⟩:∃x,x=l[i]:=⟨_,rfl⟩;have hpf:=gX _ (aw hlt);rw[<-ZH]at hg hga hok hpf;simp only at hg hga hok hpf;have Qa:Cc g ff=true:=by simp[Cc,Ow,hok.2,hga]
  have Qb:fitF g:=Oa Ow;obtain ⟨rb,ro,qs,qf,rfl,_,Ct,Hk,c0,c1,c2,c3,c4,c5,c6,c7⟩:=P0.get hlt;rw[<-ZH]at Ct Hk;simp only at Ct Hk;have zdY:FormV (okS X0 W9.drew) W9.drew qs.val fs:=Ct.move (show fk (okS X0 W9) (okS X0 W9.drew) W9 W9.drew from fun _ h _=>⟨h,rfl⟩);have hT:Tabs WB W9.drew:=lP.next (Vv.drew);have B5:=B5.drew;have P0:=P0.move (show fk (okS X0 W9) (okS X0 W9.drew) W9 W9.drew from fun _ h _=>⟨h,rfl⟩);refine cZ (fun zdZ VA=>?_);refine g_ [cA (.slice (some ⟨rb,ro,none⟩) l.length lc),
   cA (.int .i64 i),
   cA (.pointer (some ⟨rb,ro+i * 8,none⟩)),
   cA (.pointer (some ⟨rb,ro+i * 8,none⟩)),
   bn X0 (fs),
   cm X0 (kd),
   jh (bn X0 (g)) [.int .i64 0],
   jh (bn X0 (g)) [.int .i64 0],
   bn X0 (g),
   cA (.int .i64 0),
   oD #[.int .u8 0,.string ⟨#[]⟩,.slice none 0 0,.slice none 0 0] 36,
   ln (bn X0 (g)) 36,
   cA (.int .i64 0)]
   10 11 Vu (by kernel_rfl) (by kernel_rfl) (fun k hk=>?_) (fun A11 γ nN h=>?_)
  ·exact match k,hk with
   | 0,_=>bc _ 0 (old t0)
   | 1,_=>bc _ 8 (old t8)
   | 2,_=>iJ rfl 40 41 (.pointer (some ⟨rb,ro+i * 8,none⟩)) (aF 0) (aF 1)
   | 3,_=>et rfl 42 (.pointer (some ⟨rb,ro+i * 8,none⟩)) (aF 2)
   | 4,_=>Mr fs 43 rb (ro+i * 8) qs zdY c0 c1 c2 c3 (fun h=>h) dl (aF 3)
   | 5,_=>ef _ _ 5 B5.box (fun h=>h) (B5.at dl) (old B5.slot)
   | 6,_=>zL _ _ _ _ hg hpf.1 tZ 44 45 hT kT hL (aF 4) (aF 5)
   | 7,_=>bc _ 46 (aF 6)
   | 8,_=>iX _ _ 39 (aF 7)
   | 9,_=>iI (bn X0 (g)) [.int .i64 0] 0 (.int .i64 0) rfl 39 (aF 7)
   | 10,_=>jX rfl
   | 11,_=>jY _ 9 47 rfl (aF 10) (aF 8)
   | 12,_=>dq _ 48 (aF 9)
   | k+13,hk=>absurd hk (by simp)
  have KH:=h.sz.trans Vu;have Yp:=h.df.trans hd9;have Rt:Below w.heap.size w nN:=aQ Vv.drew h.inv.1 (fun _ h=>h.elim);have B5:=B5.nx (h.od 5) h.inv.1 dl;have t0:=h.ol 0 t0;have t8:=h.ol 8 t8;have P0:=P0.move (okS.next (L':=X0) h.inv.1 dl (fun _ h _=>h));obtain ⟨vz,tz,fz⟩:=h.get 10 _ 9 rfl rfl;obtain ⟨b9,q9,lz,_⟩:=rv tz fz (h.did 11 _ rfl rfl) h.inv;have F9:=lz.next (L':=X0) rfl (Kp.refl (M:=ct) _) (fun h=>h) (fun _ _ h=>h) (fun _ h _=>h.1);clear vz tz fz lz;clear hT;obtain ⟨vz,t10,fz⟩:=h.get 12 _ 10 rfl rfl;obtain rfl:vz=.int .i64 0:=fz;clear h;refine VA _ _ ?_;clear VA zdZ;obtain ⟨_,_,qs2,qf2,MJ,_,_,KM,_,_,_,_,e4,e5,e6,e7⟩:=P0.get hlt;injection MJ with MJ;injection MJ with MJ ho2 _;subst MJ ho2;rw[<-ZH]at KM;simp only at KM;have zd0:FormV (okS X0 nN.drew) nN.drew qf2.val ff:=KM.move (show fk (okS X0 nN) (okS X0 nN.drew) nN nN.drew from fun _ h _=>⟨h,rfl⟩);have hT:Tabs WB nN.drew:=lP.next (Rt.drew);have B5:=B5.drew;have F9:=F9.drew;have P0:=P0.move (show fk (okS X0 nN) (okS X0 nN.drew) nN nN.drew from fun _ h _=>⟨h,rfl⟩);refine cZ (fun zd1 VB=>?_);refine g_ [cA (.int .i64 0),
   cA (.bool false),
   cA (.bool false),
   bn X0 (g),
   cA (.slice (some ⟨rb,ro,none⟩) l.length lc),
   cA (.int .i64 i),
   cA (.pointer (some ⟨rb,ro+i * 8,none⟩)),
   cA (.pointer (some ⟨rb,ro+i * 8+4,none⟩)),
   bn X0 (ff),
   cA (.bool true),
   cA (.bool false),
   cA (.bool false)]
   12 12 KH (by kernel_rfl) (by kernel_rfl) (fun k hk=>?_) (fun A12 γ W12 h=>?_)
  ·exact match k,hk with
   | 0,_=>bc _ 10 (old t10)
   | 1,_=>et rfl 49 (.bool false) (aF 0)
   | 2,_=>bc _ 50 (aF 1)
   | 3,_=>jq _ _ 9 F9.box (fun h=>h) (F9.at dl) (old F9.slot) (hw:=ba 2 (aF 2))
   | 4,_=>bc _ 0 (old t0) (hw:=ba 2 (aF 2))
   | 5,_=>bc _ 8 (old t8) (hw:=ba 2 (aF 2))
   | 6,_=>iJ rfl 53 54 (.pointer (some ⟨rb,ro+i * 8,none⟩)) (aF 4) (aF 5) (hw:=ba 2 (aF 2))
   | 7,_=>et rfl 55 (.pointer (some ⟨rb,ro+i * 8+4,none⟩)) (aF 6) (hw:=ba 2 (aF 2))
   | 8,_=>Mr ff 56 rb (ro+i * 8+4) qf2 zd0 e4 e5 e6 e7 (fun h=>h) dl (aF 7) (hw:=ba 2 (aF 2))
   | 9,_=>RD g ff Qb hpf.2 52 57 hT kT (aF 3) (aF 8) (hw:=ba 2 (aF 2)) (hp:=Vz Qa)
   | 10,_=>et rfl 58 (.bool false) (aF 9) (hw:=ba 2 (aF 2))
   | 11,_=>iJ rfl 51 59 (.bool false) (aF 2) (aF 10)
   | k+12,hk=>absurd hk (by simp)
  have zbN:=h.sz.trans KH;have zd2:=h.df.trans Yp;have zbO:Below w.heap.size w W12:=aQ Rt.drew h.inv.1 (fun _ h=>h.elim);have B5:=B5.nx (h.od 5) h.inv.1 dl;have F9:=F9.nx (h.od 9) h.inv.1 dl;have t0:=h.ol 0 t0;have t8:=h.ol 8 t8;have t10:=h.ol 10 t10;have P0:=P0.move (okS.next (L':=X0) h.inv.1 dl (fun _ h _=>h));clear hT;obtain ⟨vz,tc,fz⟩:=h.get 11 _ 60 rfl rfl;obtain rfl:vz=.bool false:=fz;clear h;refine VB _ _ ?_;refine wpIn_cond_false (bP tc) (wpIn_skip ?_);clear VB zd1 tc;simp only[Exit.inBlock,Exit.then];refine zdX _ _ ?_;have Y4:IntKind.i64.wrap ((i:Int)+1)=((i+1:Nat):Int):=by rw[ik _ (by omega)];simp
  have hT:Tabs WB W12:=lP.next (zbO);refine dn [cA (.int .i64 i),
   cA (.int .i64 ((i+1:Nat):Int)),
   cA (.int .i64 ((i+1:Nat):Int))]
   3 3 zbN (by kernel_rfl) (fun k hk=>?_) (fun A10 γ m_ h=>?_)
  ·exact match k,hk with
   | 0,_=>bc (cA (.int .i64 i)) 8 (ere 2 t8)
   | 1,_=>et rfl 37 (.int .i64 ((i+1:Nat):Int)) (aF 0)
   | 2,_=>dq _ 38 (aF 1)
   | k+3,hk=>absurd hk (by simp)
  have TM:=h.sz.trans zbN;have Yl:=h.df.trans zd2;have TN:Below w.heap.size w m_:=aQ zbO h.inv.1 (fun _ h=>h.elim);have B5:=B5.nx (h.od 5) h.inv.1 dl;have t0:=h.ol 0 t0;have P0:=P0.move (okS.next (L':=X0) h.inv.1 dl (fun _ h _=>h));clear hT;obtain ⟨vz,t8,fz⟩:=h.get 2 _ 8 rfl rfl;obtain rfl:vz=.int .i64 ((i+1:Nat):Int):=fz;simp only[Exit.then];refine ⟨⟨i+1,hlt,⟨TM,Yl,TN,t8,t0,B5,P0⟩⟩,?_⟩;rw[bP t8];simp only[intOf,Int.toNat_natCast];omega
 have Yh:decide ((i:Int)<(l.length:Int))=false:=by simp;omega
 have hT:Tabs WB W:=lP.next (HB);refine cZ (fun K9a T7=>?_);refine cZ (fun K9b RJ=>?_);refine dn [cA (.int .i64 i),
  cA (.slice la l.length lc),
  cA (.int .i64 l.length),
  cA (.bool false)]
  4 4 hs (by kernel_rfl) (fun k hk=>?_) (fun A9 γ W9 h=>?_)
 ·exact match k,hk with
  | 0,_=>bc _ 8 (old t8)
  | 1,_=>bc _ 0 (old t0)
  | 2,_=>et rfl 34 (.int .i64 l.length) (aF 1)
  | 3,_=>iJ rfl 33 35 (.bool false) (aF 0) (aF 2)
  | k+4,hk=>absurd hk (by simp)
 have Vu:=h.sz.trans hs;have hd9:=h.df.trans hd;have Vv:Below w.heap.size w W9:=aQ HB h.inv.1 (fun _ h=>h.elim);have B5:=B5.nx (h.od 5) h.inv.1 dl;have t0:=h.ol 0 t0;have t8:=h.ol 8 t8;have P0:=P0.move (okS.next (L':=X0) h.inv.1 dl (fun _ h _=>h));clear hT;obtain ⟨vz,tc,fz⟩:=h.get 3 _ 36 rfl rfl;obtain rfl:vz=.bool false:=fz;clear h;refine RJ _ _ ?_;refine wpIn_cond_false (bP tc) (wpIn_exit ?_);simp only[Exit.then,Exit.inBlock,↓reduceIte];refine zbL _ _ ?_;clear T7 RJ K9a K9b tc zbL K8a;have hT:Tabs WB W9:=lP.next (Vv);refine cZ (fun zeU zbP=>?_);refine dn [cm X0 (kd),
  cA (.bool true),
  cA (.bool true)]
  3 3 Vu (by kernel_rfl) (fun k hk=>?_) (fun A14 γ TO h=>?_)
 ·exact match k,hk with
  | 0,_=>ef _ _ 5 B5.box (fun h=>h) (B5.at dl) (old B5.slot)
  | 1,_=>IT kd tZ 61 hT kT (aF 0) (hp:=Vz yT)
  | 2,_=>dq _ 62 (aF 1)
  | k+3,hk=>absurd hk (by simp)
 have Yq:=h.sz.trans Vu;have Yr:=h.df.trans hd9;have TP:Below w.heap.size w TO:=aQ Vv h.inv.1 (fun _ h=>h.elim);have B5:=B5.nx (h.od 5) h.inv.1 dl;have t0:=h.ol 0 t0;have t8:=h.ol 8 t8;have P0:=P0.move (okS.next (L':=X0) h.inv.1 dl (fun _ h _=>h));clear hT;obtain ⟨vz,tr,fz⟩:=h.get 2 _ 4 rfl rfl;obtain rfl:vz=.bool true:=fz;refine zbP _ _ ?_;refine wpIn_ret ?_
 try simp only[Exit.then]
 exact bI (v:=.bool true) (by simp[results,Tryz.results7,go_sem,tr]) Yr ⟨rfl,TP⟩
end
end Go.Proofs.YtokemihbkeddoaaGreatDoor
namespace Go.Proofs.YtokemihbkeddoaaGreatDoor
set_option maxRecDepth 100000
set_option maxHeartbeats 64000000
open Go Go.RowKit Go.Lib Go.ChangeShapes
def lst:List (String×DataW Unit):=[("math/bits.deBruijn32tab",Rows.laid_math_bits_deBruijn32tab),("math/bits.deBruijn64tab",Rows.laid_math_bits_deBruijn64tab),("internal/strconv.uint64pow10",Rows.laid_internal_strconv_uint64pow10),("lyceum/syntax.rows",Rows.laid_lyceum_syntax_rows)]
def YN (r:Bool×Bool×Nat×Nat×Nat):DataW Unit:=.agg [.lit (.bool r.1),.lit (.bool r.2.1),.lit (.int .u8 (r.2.2.1:Nat)),.lit (.int .i64 (r.2.2.2.1:Nat)),.lit (.int .i64 (r.2.2.2.2:Nat))]
theorem YO:(Rows.laid_internal_strconv_uint64pow10:DataW Unit)=tabData .u64 pow10Tab:=by kernel_rfl
theorem T8:(Rows.laid_lyceum_syntax_rows:DataW Unit)=.agg ((List.range 17).map fun (o:Nat)=>YN (rowOp o)):=by kernel_rfl
theorem VC:Tryz.prog.globalNamed "lyceum/syntax.rows"=some 0:=by kernel_rfl
theorem YP:(Tryz.prog.globals[0]?).map (·.type)=some 174:=by kernel_rfl
theorem zbQ:(Tryz.prog.globals[2]?).map (·.type)=some 304:=by kernel_rfl
theorem YQ:Tryz.prog.cellsOf 173=5:=by kernel_rfl
theorem T9:Tryz.prog.cellsOf 304=20:=by kernel_rfl
theorem RK:Tryz.prog.cellsOf 275=1:=by kernel_rfl
section
variable {W:World} {base cD:Nat} {sp:Nat->Bool} {held:Bool} {cs:List Value} {p:List MemPlace} {enc:TypeId×Value->Unit}
theorem zbR {α:Type} {l:List α} (h:l.length=5):∃a b c d e,l=[a,b,c,d,e]:=by
 match l,h with
 | [a,b,c,d,e],_=>exact ⟨a,b,c,d,e,rfl⟩
theorem Oc {r:Bool×Bool×Nat×Nat×Nat} (h:DataW.trod enc Tryz.prog W base sp held cD 173 cs=some (YN r,p)):cs=[.bool r.1,.bool r.2.1,.int .u8 (r.2.2.1:Nat),.int .i64 (r.2.2.2.1:Nat),.int .i64 (r.2.2.2.2:Nat)]:=by
 obtain ⟨xs,n,_,hx,hlen,wM,hf⟩:=DataW.trod_struct Tryz.underlying173 h;obtain ⟨c0,c1,c2,c3,c4,rfl⟩:=zbR (hlen.trans (by kernel_rfl));obtain ⟨x0,x1,x2,x3,x4,rfl⟩:=zbR (wM.trans (by kernel_rfl));have h0:DataW.trod enc Tryz.prog W base sp held n 4 [c0]=some x0:=hf 0 _ rfl;have h1:DataW.trod enc Tryz.prog W base sp held n 4 [c1]=some x1:=hf 1 _ rfl;have h2:DataW.trod enc Tryz.prog W base sp held n 5 [c2]=some x2:=hf 2 _ rfl;have h3:DataW.trod enc Tryz.prog W base sp held n 3 [c3]=some x3:=hf 3 _ rfl;have h4:DataW.trod enc Tryz.prog W base sp held n 3 [c4]=some x4:=hf 4 _ rfl;obtain ⟨b0,e0,rfl⟩:=DataW.trod_bool Tryz.underlying4 h0;obtain ⟨b1,e1,rfl⟩:=DataW.trod_bool Tryz.underlying4 h1;obtain ⟨z2,e2,rfl,_⟩:=DataW.trod_int Tryz.underlying5 h2;obtain ⟨z3,e3,rfl,_⟩:=DataW.trod_int Tryz.underlying3 h3;obtain ⟨z4,e4,rfl,_⟩:=DataW.trod_int Tryz.underlying3 h4;have:=congrArg Prod.fst hx;simp[YN]at this e0 e1 e2 e3 e4;obtain ⟨g0,g1,g2,g3,g4⟩:=this;subst e0 e1 e2 e3 e4;rw[g0,g1,g2,g3,g4]
theorem Gj {f:Nat->DataW Unit} (h:DataW.trod enc Tryz.prog W base sp held cD 174 cs=some (.agg ((List.range 17).map f),p)):∀ o,o<17->∃n p',DataW.trod enc Tryz.prog W base sp held n 173 ((cs.drop (o * 5)).take 5)=some (f o,p'):=by
 intro o ho
 cases cD with
 | zero=>simp[DataW.trod]at h
 | succ cD=>
  simp only[DataW.trod,Tryz.underlying174,YQ]at h;split at h
  ·obtain ⟨xs,hm,hx⟩:=Option.map_eq_some_iff.1 h;obtain ⟨b,hb,hf⟩:=mapM_at hm o o (by simp[ho]);have h2:xs.map (·.1)=(List.range 17).map f:=by
    have:=congrArg Prod.fst hx;simpa using this
   have h3:=congrArg (·[o]?) h2;simp[hb,ho]at h3;exact ⟨cD,b.2,by rw[hf,<-h3]⟩
  ·cases h
end
theorem DD {W:World} (hL:laidMet Tryz.prog lst W):Tabs0 W:=by
 refine ⟨?_,fun o ho=>?_⟩
 ·obtain ⟨g',t',cs,cD,p,hg,ht,Nu,hd⟩:=laidMet.reads hL (n:="internal/strconv.uint64pow10") (d:=Rows.laid_internal_strconv_uint64pow10) (.tail _ (.tail _ (.head _)));obtain rfl:=Option.some.inj (VP.symm.trans hg);obtain rfl:=Option.some.inj (zbQ.symm.trans ht);rw[YO]at hd;unfold TabIs;rw[Nu,<-cells_of_tab Tryz.underlying304 Tryz.underlying275 RK T9 hd]
 ·obtain ⟨g',t',cs,cD,p,hg,ht,Nu,hd⟩:=laidMet.reads hL (n:="lyceum/syntax.rows") (d:=Rows.laid_lyceum_syntax_rows) (.tail _ (.tail _ (.tail _ (.head _))));obtain rfl:=Option.some.inj (VC.symm.trans hg);obtain rfl:=Option.some.inj (YP.symm.trans ht);rw[T8]at hd;obtain ⟨n,p',h⟩:=Gj hd o ho;have hc:=Oc h;have Jm:∀ j,j<5->W.cell? ⟨0,o * 5+j,none⟩=((cs.toList.drop (o * 5)).take 5)[j]?:=fun j hj=>by
   rw[World.var?_cell VC Nu (o * 5+j),List.getElem?_take_of_lt hj,List.getElem?_drop];simp
  rw[hc]at Jm;exact ⟨Jm 0 (by omega),Jm 1 (by omega),Jm 2 (by omega),Jm 3 (by omega),Jm 4 (by omega)⟩
noncomputable def laidWorld (os:Os):World:=
 let w0:=World.holding Tryz.prog os ⟨#[],#[],[]⟩
 let put (h:Array Obj) (g:Nat) (cs:Array Value):Array Obj:=h.modify g fun
  | .cells _ t YR=>.cells cs t YR
  | o=>o
 let ints (d:DataW Unit) (k:IntKind):Array Value:=match d with
  | .agg l=>(l.map fun | .lit (.int _ z)=>Value.int k z | _=>undef).toArray
  | _=>#[]
 let h1:=put w0.heap 3 (ints Rows.laid_math_bits_deBruijn32tab .u8)
 let h2:=put h1 4 (ints Rows.laid_math_bits_deBruijn64tab .u8)
 let h3:=put h2 2 (ints Rows.laid_internal_strconv_uint64pow10 .u64)
 let h4:=put h3 0 ((List.range 17).flatMap fun (o:Nat)=>[.bool (rowOp o).1,.bool (rowOp o).2.1,.int .u8 ((rowOp o).2.2.1:Nat),.int .i64 ((rowOp o).2.2.2.1:Nat),.int .i64 ((rowOp o).2.2.2.2:Nat)]).toArray
 { w0 with heap:=h4 }
theorem RL (os:Os) (args:Array Value):laidMet Tryz.prog lst ((laidWorld os).forCall (fun _ _=>0) ⟨#[],args,[]⟩).memory:=
 laidMet_of_run' 8 (by kernel_rfl) (by kernel_rfl)
