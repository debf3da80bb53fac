/-
The iterator of a term's names.
-/
import Derived.Test.YtokemihbkeddoaaGreatDoorShelf
import Derived.Test.YtokemihbkeddoaaGreatDoorU02
namespace Go.Proofs.YtokemihbkeddoaaGreatDoor
open Go Go.RowKit Lib
set_option maxRecDepth 100000
set_option maxHeartbeats 64000000
variable {l:List Fm} {k m i:Nat} {ok:Nat->Prop} {W:World} {v:Value} {t:Tm} {sc:Bool} {n x s:Str} {xs:List Str} {α:Type} {b:Bd} {c:Sco} {f im:Fm} {p:Pl}
section
attribute [local go_sem] Oper.semAt_some
theorem e6 {l:List Tm} {k:Nat} (h:k<l.length):aC (l.take (k+1))=aC (l.take k) ++ aQ l[k]:=by
 induction l generalizing k with
 | nil=>simp at h
 | cons t l ih=>
  cases k with
  | zero=>simp[aC]
  | succ k=>have:=ih (k:=k) (by simpa using h);simp[aC]at this ⊢;rw[this]
theorem fU:∀ l m,aC (l ++ m)=aC l ++ aC m
 | [],m=>rfl
 | t :: l,m=>by simp[aC,fU l m]
def yp (_:World) (vs:Array Value) (x:Str):Prop:=vs=#[.string ⟨x.toArray⟩]
theorem AR:∀ (t:Tm),fitT t->∀ (M:Nat->Prop) (B l:Nat) (J:List Str->World->Prop) (xs pre:List Str) (W:World) (q:TQ),(∀ b,M b->b<W.heap.size)->(∀ s,Abides W.heap.size (J s))->YieldK M l J yp xs W->TermV (fun b=>b<B/\¬M b) W q.val t->(pre ++ aQ t) <+: xs->J pre W →
  Calls Tryz.prog 214 #[q.val,.func (.yield l) #[] #[]] W fun e W'=>e=.returned (.bool true)/\J (pre ++ aQ t) W'/\Kp M W W':=by
 intro t
 induction t using Tm.ind with
 | h v n a ih=>
  intro az M B l J xs pre W q hM hJ hY hq dn hj;obtain ⟨qv,qn,qa,ql,qc⟩:=q;obtain ⟨sa,hs,bK⟩:=aV.1 hq;have pp37d:=();exact pm37
theorem AS (q:TQ) (w:World) :
  Calls Tryz.prog 220 #[q.val] w fun e w'=>e=.returned (.func (.func 270) #[] #[.pointer (some ⟨w.heap.size,0,none⟩)])/\w'=w.alloc (.cells #[.bool q.v,.string q.n,.slice q.a q.l q.c] 43):=by
 obtain ⟨v,n,a,l,c⟩:=q;unfold TQ.val;go_enter Tryz.func220,Tryz.ntmps220;go_wp2;go_ret;exact ⟨rfl,rfl⟩
theorem AT (t:Tm) (az:fitT t) (M:Nat->Prop) (B X:Nat) (w:World) (q:TQ) (hX:w.heap[X]?=some (.cells #[.bool q.v,.string q.n,.slice q.a q.l q.c] 43 (0,0))) (Hj:¬M X) (hq:TermV (fun b=>b<B/\¬M b) w q.val t) :
  Hx M False Tryz.prog 270 #[.pointer (some ⟨X,0,none⟩)] (aQ t) yp w:=by
 have pp206a:=();exact pm206
end
theorem TermV.lt (h:TermV ok W v t):TermV (fun b=>b<W.heap.size) W v t:=h.move (fun _ _ hlt=>⟨hlt,rfl⟩)
theorem FormV.lt {t:Fm} (h:FormV ok W v t):FormV (fun b=>b<W.heap.size) W v t:=h.move (fun _ _ hlt=>⟨hlt,rfl⟩)
theorem Ny (t:Tm) (hf:fitT t) (ok:Nat->Prop) (w:World) (q:TQ) (hq:TermV ok w q.val t) :
  Calls Tryz.prog 68 #[q.val] w fun e w'=>e=.returned (.bool (jZ false t))/\Below w.heap.size w w':=by
 have hn:=hf.1;have hdn:=pD t;obtain ⟨W2,bm⟩:=am ((w.alloc (.cells #[.bool q.v,.string q.n,.slice q.a q.l q.c] 43)).alloc (.cells #[.bool false,.int .i64 9223372036854775807,.int .i64 9223372036854775807] 111));have hB:=lF bm;have hJ:JAt (w.heap.size+1) false 9223372036854775807 9223372036854775807 W2:=by rw[bm];exact aj (by simp)
 have C:=Nr t hf _ (w.heap.size+1) false 9223372036854775807 9223372036854775807 1 W2 q (hq.lt.later hB) (fun b hb=>by omega) hJ (by omega) (by omega) (by omega) (by omega) (by omega);have hb:(jZ false t && (decide ((nodesT t:Int)<=9223372036854775807) && decide (1+(dj t:Int)<=9223372036854775807+1)))=jZ false t:=by
  have e1:decide ((nodesT t:Int)<=9223372036854775807)=true:=by simp;omega
  have e2:decide (1+(dj t:Int)<=9223372036854775807+1)=true:=by simp;omega
  rw[e1,e2];simp
 rw[hb]at C;obtain ⟨HC,HB⟩:=a_ C hB;clear C hB hJ hb hn hdn hq hf;have HW:=ae bm;rw[bm]at HC;clear bm;unfold TQ.val at HC ⊢;obtain ⟨bb,cI⟩:=am (jZ false t);rw[<-cI]at HC ⊢;clear cI;cases bb
 all_goals
  go_enter Tryz.func68,Tryz.ntmps68;go_wp2_with (go_at_call 122;refine HC.o.mono ?_;rintro e w3 ⟨rfl,j5,_⟩;have mo:=ae j5;clear j5);go_ret;refine ⟨rfl,?_⟩;rw[<-HW.o]at mo;exact Below.kp1 HB.o mo.o (by omega)
theorem qB (s:Nat) (hs:s<4) (n:Str) (hn:n.length<=1000000000) (w:World) :
  Calls Tryz.prog 116 #[.int .u8 s,.string ⟨n.toArray⟩] w fun e w'=>e=.returned (.bool (pj s n))/\Below w.heap.size w w':=by
 have rq:s=0\/s=1\/s=2\/s=3:=by omega
 rcases rq with rfl | rfl | rfl | rfl
 ·go_enter Tryz.func116,Tryz.ntmps116;go_wp2;go_ret;exact ⟨rfl,ak _ _⟩
 ·go_enter Tryz.func116,Tryz.ntmps116;go_wp2_with (go_at_call 120;refine (mH n _ hn).mono ?_;rintro e w' ⟨rfl,hb⟩);go_ret;exact ⟨rfl,hb⟩
 ·go_enter Tryz.func116,Tryz.ntmps116;go_wp2_with (go_at_call 152;refine (ik n _ hn).mono ?_;rintro e w' ⟨rfl,hb⟩);go_ret;exact ⟨rfl,hb⟩
 ·go_enter Tryz.func116,Tryz.ntmps116;go_wp2_with (go_at_call 185;refine (mJ n _ hn).mono ?_;rintro e w' ⟨rfl,hb⟩);go_ret;exact ⟨rfl,hb⟩
theorem Nz {l:List Tm} (h:l.length≠2):sT l=false:=by
 match l with
 | []=>rfl
 | [_]=>rfl
 | [_,_]=>exact absurd rfl h
 | _ :: _ :: _ :: _=>rfl
theorem lk (l:List Tm) (hf:fitTs l) (ok:Nat->Prop) (a:Option Addr) (n c:Nat) (w:World) (hv:TermsV ok w (.slice a n c) l) :
  Calls Tryz.prog 117 #[.slice a n c] w fun e w'=>e=.returned (.bool (sT l))/\Below w.heap.size w w':=by
 obtain rfl:=hv.len
 by_cases hl:l.length=2
 ·obtain ⟨x,y,rfl⟩:∃x y,l=[x,y]:=by
   match l,hl with
   | [x,y],_=>exact ⟨x,y,rfl⟩
  obtain ⟨b,off,u,rfl,_,hu,c0,c1,c2⟩:=hv.get (j:=0) (by simp);obtain ⟨b',mL,u',cI,_,iF,mg,nd,ne⟩:=hv.get (j:=1) (by simp);simp only[dN,Addr.mk.injEq,and_true]at cI;obtain ⟨rfl,rfl⟩:=cI;simp only[List.getElem_cons_zero,List.getElem_cons_succ]at hu iF;have Y_:=hf.mem (t:=x) (by simp);have hfy:=hf.mem (t:=y) (by simp);obtain ⟨xv,xn,xa⟩:=x;obtain ⟨yv,yn,ya⟩:=y;obtain ⟨s1,h1,_⟩:=aV.1 hu;obtain ⟨s2,h2,_⟩:=aV.1 iF;have wg:=Y_.name;have sN:=hfy.name;have o9:xn.length<=1000000000:=by omega
  have hy2:yn.length<=1000000000:=by omega
  obtain ⟨uv,un,ua,ul,uc⟩:=u;obtain ⟨vv,vn,va,vl,vc⟩:=u';have pp75a:=();exact pm75
 ·rw[Nz hl];have rK:((l.length:Int) == 2)=false:=by simp;omega
  have HV:=ae hv;clear hv hf;obtain ⟨n,hn⟩:=am l.length;rw[<-hn]at rK hl ⊢;clear hn HV;go_enter Tryz.func117,Tryz.ntmps117;go_wp2;go_ret;exact ⟨rfl,ak _ _⟩
def Za (W0:World) (t:Fm):Prop:=∀ (ok:Nat->Prop) (J:Nat) (sc:Bool) (left br ba:Int) (w:World) (q:FQ),Tabs W0 w->W0.heap.size<=J->FormV ok w q.val t->(∀ b,ok b->b≠J)->JAt J sc left br w->0<=left->left<=9223372036854775807->br<=9223372036854775807->1<=ba->ba+nodesF t<=100000000 →
 Calls Tryz.prog 64 #[.pointer (some ⟨J,0,none⟩),q.val,.int .i64 ba] w (JPost J sc left br (nodesF t) (okF sc t && (decide ((nodesF t:Int)<=left) && decide (ba+depthF t<=br+1))) w)
theorem en {k:Nat} (h:k<l.length):nodesFs (l.take (k+1))=nodesFs (l.take k)+nodesF l[k]:=by
 induction l generalizing k with
 | nil=>simp at h
 | cons t l ih=>
  cases k with
  | zero=>simp[nodesFs]
  | succ k=>have:=ih (k:=k) (by simpa using h);simp[nodesFs]at this ⊢;omega
theorem gR {k:Nat} (h:k<l.length):aY (l.take (k+1))=max (aY (l.take k)) (depthF l[k]):=by
 induction l generalizing k with
 | nil=>simp at h
 | cons t l ih=>
  cases k with
  | zero=>simp[aY]
  | succ k=>have:=ih (k:=k) (by simpa using h);simp[aY]at this ⊢;omega
theorem jI {k:Nat} (h:k<l.length):dD sc (l.take (k+1))=(dD sc (l.take k) && okF sc l[k]):=by
 induction l generalizing k with
 | nil=>simp at h
 | cons t l ih=>
  cases k with
  | zero=>simp[dD]
  | succ k=>have:=ih (k:=k) (by simpa using h);simp[dD]at this ⊢;rw[this,Bool.and_assoc]
theorem cD (l:List Fm) (k:Nat):nodesFs (l.take k)<=nodesFs l:=by
 induction l generalizing k with
 | nil=>simp
 | cons t l ih=>cases k with
  | zero=>simp[nodesFs]
  | succ k=>have:=ih k;simp[nodesFs];omega
theorem mx {k:Nat} (h:k<l.length):depthF l[k]<=aY l:=by
 induction l generalizing k with
 | nil=>simp at h
 | cons t l ih=>
  cases k with
  | zero=>simp[aY];omega
  | succ k=>have:=ih (k:=k) (by simpa using h);simp[aY];omega
theorem sY {k:Nat} (h:k<l.length) (hf:okF sc l[k]=false):dD sc l=false:=by
 induction l generalizing k with
 | nil=>simp at h
 | cons t l ih=>
  cases k with
  | zero=>simp at hf;simp[dD,hf]
  | succ k=>have:=ih (k:=k) (by simpa using h) (by simpa using hf);simp[dD,this]
theorem Ls {o:Int} (h:17<=o):rowOp o=(false,false,0,0,0):=by
 unfold rowOp;simp[show o≠1 by omega,show o≠2 by omega,show o≠8 by omega,show o≠9 by omega,show o≠3 by omega,show ¬o<=13 by omega,show ¬o<=7 by omega,show o≠14 by omega,show o≠15 by omega,show o≠16 by omega]
theorem Ig (o:Int):(rowOp o).2.2.1<4/\(rowOp o).2.2.2.1<=4/\(rowOp o).2.2.2.2<=2:=by
 unfold rowOp
 repeat' split
 all_goals simp
theorem Q4 (sc:Bool) (o:Int) (n:Str) (a:List Tm) (s:List Fm) (left br ba:Int) :
  (okF sc (.mk o n a s) && (decide ((nodesF (.mk o n a s):Int)<=left) && decide (ba+depthF (.mk o n a s)<=br+1))) =
  (((rowOp o).1 || (sc && (rowOp o).2.1)) && ((pj (rowOp o).2.2.1 n && (decide (a.length<=(rowOp o).2.2.2.1) && s.length == (rowOp o).2.2.2.2)) && ((o != 16 || sT a) && ((eu sc a && (decide ((nodesTs a:Int)<=left - 1) && decide (ba+1+bH a<=br+1))) && (dD sc s && (decide ((nodesFs s:Int)<=left - 1 - nodesTs a) && decide (ba+1+aY s<=br+1))))))):=by
 have e1:decide ((nodesF (.mk o n a s):Int)<=left)=(decide ((nodesTs a:Int)<=left - 1) && decide ((nodesFs s:Int)<=left - 1 - nodesTs a)):=by
  rw[gy,ah,bx,bx,bx];unfold nodesF;omega
 have e2:decide (ba+depthF (.mk o n a s)<=br+1)=(decide (ba+1+bH a<=br+1) && decide (ba+1+aY s<=br+1)):=by
  rw[gy,ah,bx,bx,bx];unfold depthF;omega
 rw[e1,e2];unfold okF;generalize decide ((nodesTs a:Int)<=left - 1)=x1;generalize decide ((nodesFs s:Int)<=left - 1 - nodesTs a)=x2;generalize decide (ba+1+bH a<=br+1)=x3;generalize decide (ba+1+aY s<=br+1)=x4;generalize eu sc a=x5;generalize dD sc s=x6;generalize ((rowOp o).1 || (sc && (rowOp o).2.1))=x7;generalize (pj (rowOp o).2.2.1 n && (decide (a.length<=(rowOp o).2.2.2.1) && s.length == (rowOp o).2.2.2.2))=x8;generalize (o != 16 || sT a)=x9;revert x1 x2 x3 x4 x5 x6 x7 x8 x9;decide
section
attribute [local go_sem] Oper.semAt_some run_makeMap
def SetW (W:World) (m n:Nat) (xs:List Str):Prop:=∃D:DataW Unit,W.ownsMap Tryz.prog 9 (plainElem Tryz.prog 4) m n D/\(∀ x:Str,Maps.has D (.string x)=true ↔ x∈xs)/\∀ x∈xs,∀ d,D.atKey (.string x) d=.lit (.bool true)
theorem SetW.same {W':World} {n:Nat} (h:SetW W m n xs) (hb:W'.heap[m]?=W.heap[m]?):SetW W' m n xs:=by
 obtain ⟨D,⟨es,yq,h1,F,h2,h3⟩,hx⟩:=h;exact ⟨D,⟨es,yq,hb.trans h1,F,h2,h3⟩,hx⟩
theorem SetW.lt {n:Nat} (h:SetW W m n xs):m<W.heap.size:=by
 obtain ⟨D,h,_⟩:=h;exact h.lt
theorem DH (xs:List Str) (cm:xs.length<=2000000) (dG:∀ x∈xs,x.length<=2000000) (gf:Nat) (lb:Array Value) (w:World) (eg:∀ args W,(callFunc gf args).run Tryz.prog W=.ok (.enter gf args) W)
  (nH:∀ w1,Below w.heap.size w w1->w.heap.size<w1.heap.size->Hx (fun b=>b=w.heap.size) False Tryz.prog gf lb xs yp w1) :
  Calls Tryz.prog 84 #[.func (.func gf) #[] lb] w fun e w'=>e=.returned (.map (some w.heap.size))/\SetW w' w.heap.size xs.length xs/\Below w.heap.size w w':=by
 obtain ⟨xg,Ih,Zb⟩:=cG cm dG nH;clear cm dG nH;refine J5 ?_;refine callsIn_of_wp_marks Tryz.func84 rfl trivial ?_ rfl;simp only[Tryz.ntmps84,Nat.reduceAdd,Nat.reduceSub,kM];have g_:=eM;gi_wp2;obtain ⟨w1,xh⟩:=am ((w.alloc (.map #[] 0)).alloc (.cells #[.map (some w.heap.size)] 118));have hb1:=lF xh;have i_:=wW xh;have Ii:SetW w1 w.heap.size 0 []:=by
  rw[xh];exact ⟨_,(World.ownsMap_made w _ _ _).alloc _,fun x=>by simp[Maps.has],fun x hx=>by simp at hx⟩
 have xB:=jA xh;rw[<-xh];clear xh;obtain ⟨d_,QB,HS0,HXB⟩:=eW hb1 i_ Ii xB;clear hb1 i_ Ii xB;refine gi rfl eg (fun b hb=>by subst hb;have:=QB.o;omega) (Zb.o w1 d_.o (by have:=QB.o;omega)) (fun _ _ _ h=>by cases h;rfl)
  (fun pre X=>SetW X w.heap.size pre.length pre/\Kp (fun b=>b=w.heap.size) w1 X) (fun _ _ _=>False) (fun s=>?hI) (fun _ _ _ _ _ h=>h.elim) ⟨HS0.o,Kp.refl _⟩ ?round ?done (fun _ _ _ _ h=>h.elim)
 case hI=>
  rintro X Y hn ⟨h1,h2⟩;have hl:=h1.lt;have hz:=QB.o;exact ⟨h1.same (hn.old (by omega) hl),hn.os.trans h2.os,hn.tape.trans h2.tape,hn.output.trans h2.output,aN h2.size hn.size,fun b hb hm=>(hn.old hb (bE hb h2.size)).trans (h2.same b hb hm)⟩
 case done=>
  rintro D X hD ⟨hs,bh⟩ _ hd;have c0:X.cell? ⟨w.heap.size+1,0,none⟩=some (.map (some w.heap.size)):=ai ((bh.same _ (by have:=QB.o;omega) (by omega)).trans HXB.o) 0;obtain ⟨HS,HK,HD,Zc⟩:=eW hs bh hd hD;clear hs bh hd hD;gi_wp2;refine ⟨by simp,.inl ⟨_,_,rfl,run_takeDeferred HD.o,?_⟩⟩;refine ⟨.map (some w.heap.size),by simp[results,Tryz.results84,go_sem],rfl,?_,?_⟩
  ·exact HS.o.same (m6 (by have:=QB.o;have:=Zc.o;omega))
  ·have hk:=Dy (.deferred none) HK.o Zc.o;exact pm159
 case round=>
  rintro l pre vs x W hl xj ⟨hs,bh⟩ hat _ dn;cases hat;obtain ⟨HS,HK,HLr,nc⟩:=eW hs bh xj dn;clear hs bh xj dn;gi_wp2;refine ⟨Kp.refl _,⟨HS.o,HK.o⟩,fun W2 gB kK io=>?_⟩;have hxm:x∈xs:=nc.o.subset (by simp);have uW:(⟨x.toArray⟩:ByteArray).size<=maxLen:=by have:=Ih.o x hxm;have e:(⟨x.toArray⟩:ByteArray).size=x.length:=rfl;rw[e];unfold maxLen;omega
  have Lu:keyOf Tryz.prog 9 (.string ⟨x.toArray⟩)=some (.string x):=by rw[WideMaps.keyOf_string_mk Tryz.underlying9 uW]
  have mq:pre.length<maxLen:=by
   have h1:(pre ++ [x]).length<=xs.length:=nc.o.length_le;have:=xg.o;simp at h1;unfold maxLen;omega
  obtain ⟨⟨D,au,yr,xk⟩,_⟩:=kK;have c0:W2.cell? ⟨w.heap.size+1,0,none⟩=some (.map (some w.heap.size)):=ai ((io.same _ (by have:=QB.o;omega) (by omega)).trans HXB.o) 0;obtain ⟨HH,zbJ,Zd,HM⟩:=eW yr xk io au.isMap;clear yr xk io uW hxm;gi_wp2_with (gi_at_mapUpdate;refine wpListIn_mapUpdate_own _ rfl _ _ _ 118 rfl 9 4 (Maps.string_keyed Tryz.underlying9) Tryz.underlying118 (plainElem Tryz.prog 4) w.heap.size pre.length D rfl au mq _ _ (.string x) rfl rfl Lu (.lit (.bool true)) [] (plainElem_bool Tryz.underlying4 true) ?_;intro w4 aR ao;have HG:=aG aR ao;clear aR ao);have kZ:Kp (fun b=>b=w.heap.size) W2 w4:=Kp.grown HG.o.2 rfl;refine ⟨kZ,⟨_,by rw[dZ];exact HG.o.1,fun y=>?_,fun y hym d=>?_⟩,Zd.o.trans kZ⟩
  rotate_left
  ·by_cases hy:y=x
   ·subst hy;rw[Maps.atKey_put_same HM.o (by simp[WideAt.IsKeyLit])]
   ·rw[Maps.atKey_put_other (fun h=>hy (by injection h))];exact zbJ.o y (by simpa[hy] using hym) d
  by_cases hy:y=x
  ·subst hy;rw[Maps.has_put_same HM.o (by simp[WideAt.IsKeyLit])];simp
  ·rw[Maps.has_put_other (fun h=>hy (by injection h))];rw[HH.o];simp[hy]
end
theorem sZ (x:Str) (v:α):∀ (l:List (Str×α)),getB l x=none->∀ y,getB (fj x v l) y=if x == y then some v else getB l y
 | [],_,y=>rfl
 | (z,u) :: r,h,y=>by
  unfold getB at h;have hz:(z == x)=false:=by
   cases hz:z == x
   ·rfl
   ·simp[hz]at h
  simp only[hz,dE,↓reduceIte]at h;unfold fj;split
  ·rfl
  ·show (if z == y then some u else getB (fj x v r) y)=_;rw[sZ x v r h y];show _=if x == y then some v else if z == y then some u else getB r y
   by_cases h1:z == y
   ·have h2:(x == y)=false:=by
     rw[f9]at h1;subst h1;rw[Bool.eq_false_iff]at hz ⊢;intro h3;exact hz (by simpa using (f9.1 h3).symm)
    simp[h1,h2]
   ·simp[h1]
structure Sub (k k':Bd):Prop where
 f:∀ n v,getB k.fs n=some v->getB k'.fs n=some v
 t:∀ n v,getB k.ts n=some v->getB k'.ts n=some v
theorem Sub.refl (k:Bd):Sub k k:=⟨fun _ _ h=>h,fun _ _ h=>h⟩
theorem Sub.trans {a c:Bd} (h:Sub a b) (g:Sub b c):Sub a c:=⟨fun n v e=>g.f n v (h.f n v e),fun n v e=>g.t n v (h.t n v e)⟩
def SubL {α:Type} (k k':List (Str×α)):Prop:=∀ n v,getB k n=some v->getB k' n=some v
theorem SubL.refl (k:List (Str×α)):SubL k k:=fun _ _ h=>h
theorem SubL.trans {a b c:List (Str×α)} (h:SubL a b) (g:SubL b c):SubL a c:=fun n v e=>g n v (h n v e)
theorem yt {k:List (Str×α)} {v:α} (h:getB k x=none):SubL k (fj x v k):=fun n u e=>by
 rw[sZ x v k h n];split
 ·rename_i h1;rw[f9]at h1;subst h1;rw[h]at e;cases e
 ·exact e
theorem DI {k:List (Str×α)} {v:α} (h:getB k x=none):getB (fj x v k) x=some v:=by
 rw[sZ x v k h x];simp
/-! equality -/
mutual
theorem Ca:∀ t,uL t t=true
 | .mk v n a=>by simp[uL,nS a]
theorem nS:∀ l,iE l l=true
 | []=>by simp[iE]
 | t :: l=>by simp[iE,Ca t,nS l]
end
mutual
theorem FD:∀ t u,uL t u=true ↔ t=u
 | .mk v n a,.mk v' n' a'=>by simp[uL,fV a a',and_assoc]
theorem fV:∀ l m,iE l m=true ↔ l=m
 | [],[]=>by simp[iE]
 | [],_ :: _=>by simp[iE]
 | _ :: _,[]=>by simp[iE]
 | t :: l,u :: m=>by simp[iE,FD t u,fV l m]
end
mutual
theorem ng:∀ t u,uM t u=true ↔ t=u
 | .mk v n a s,.mk v' n' a' s'=>by simp[uM,fV a a',nh s s',and_assoc]
theorem nh:∀ l m,m7 l m=true ↔ l=m
 | [],[]=>by simp[m7]
 | [],_ :: _=>by simp[m7]
 | _ :: _,[]=>by simp[m7]
 | t :: l,u :: m=>by simp[m7,ng t u,nh l m]
end
/-! a formula is alike to itself -/
def UV (l:List Str):Sco:=l.map fun x=>(x,x)
theorem wh:∀ (l:List Str) (x:Str),rL (UV l) x x=true
 | [],x=>by simp[UV,rL]
 | y :: l,x=>by
  show (if y == x || y == x then y == x && y == x else rL (UV l) x x)=true;split
  ·simp_all
  ·exact wh l x
mutual
theorem FE (l:List Str):∀ t,j9 (UV l) t t=true
 | .mk v n a=>by
  simp only[j9,beq_self_eq_true,Bool.and_self,dU];split
  ·exact wh l n
  ·exact nU l a
theorem nU (l:List Str):∀ a,di (UV l) a a=true
 | []=>by simp[di]
 | t :: r=>by simp[di,FE l t,nU l r]
end
mutual
theorem yu:∀ (f:Fm) (l:List Str),ea (UV l) f f=true
 | .mk o n a s,l=>by
  simp only[ea,beq_self_eq_true,Bool.and_self,dU,Bool.true_or,nU l a];split
  ·exact pH s (n :: l)
  ·exact pH s l
theorem pH:∀ (s:List Fm) (l:List Str),dI (UV l) s s=true
 | [],l=>by simp[dI]
 | f :: r,l=>by simp[dI,yu f l,pH r l]
end
theorem FF (f:Fm):ea [] f f=true:=yu f []
/-! what has matched once matches again -/
mutual
theorem yw (sc:List Str):∀ (t u:Tm) (k k':List (Str×Tm)),dw sc k t u=some k'->SubL k k'/\∀ lO,SubL k' lO->dw sc lO t u=some lO
 | .mk v n a,.mk v' n' a',k,k',h=>by
  unfold dw at h
  by_cases hm:(v && dC n)=true
  ·rw[aH hm]at h
   cases hg:getB k n with
   | none=>
    rw[hg]at h;simp only[dN]at h;subst h;refine ⟨yt hg,fun lO hk=>?_⟩;have:=hk n _ (DI hg);unfold dw;rw[aH hm,this];simp[Ca]
   | some u=>
    rw[hg]at h;simp only at h;split at h
    ·rename_i he;cases h;refine ⟨SubL.refl _,fun lO hk=>?_⟩;unfold dw;rw[aH hm,hk n _ hg];simp[he]
    ·cases h
  ·rw[aw hm]at h
   by_cases hs:(v && sc.contains n)=true
   ·rw[aH hs]at h;split at h
    ·rename_i he;cases h;refine ⟨SubL.refl _,fun lO _=>?_⟩;unfold dw;rw[aw hm,aH hs,aH he]
    ·cases h
   ·rw[aw hs]at h;split at h
    ·cases h
    ·rename_i hd;obtain ⟨h1,h2⟩:=wi sc a a' k k' h;refine ⟨h1,fun lO hk=>?_⟩;unfold dw;rw[aw hm,aw hs,aw hd];exact h2 lO hk
theorem wi (sc:List Str):∀ (t u:List Tm) (k k':List (Str×Tm)),b_ sc k t u=some k'->SubL k k'/\∀ lO,SubL k' lO->b_ sc lO t u=some lO
 | [],u,k,k',h=>by
  simp only[b_,dN]at h;subst h;exact ⟨SubL.refl _,fun _ _=>by simp[b_]⟩
 | _ :: _,[],k,k',h=>by
  simp only[b_,dN]at h;subst h;exact ⟨SubL.refl _,fun _ _=>by simp[b_]⟩
 | t :: l,u :: m,k,k',h=>by
  simp only[b_]at h
  cases h1:dw sc k t u with
  | none=>rw[h1]at h;cases h
  | some k1=>
   rw[h1]at h;obtain ⟨a1,a2⟩:=yw sc t u k k1 h1;obtain ⟨b1,b2⟩:=wi sc l m k1 k' h;refine ⟨a1.trans b1,fun lO hk=>?_⟩;simp only[b_,a2 lO (b1.trans hk),b2 lO hk]
end
theorem yx (c:Sco):∀ (t u:List Tm) (k k':List (Str×Tm)),dl c k t u=some k'->SubL k k'/\∀ lO,SubL k' lO->dl c lO t u=some lO
 | [],u,k,k',h=>by
  simp only[dl,dN]at h;subst h;exact ⟨SubL.refl _,fun _ _=>by simp[dl]⟩
 | _ :: _,[],k,k',h=>by
  simp only[dl,dN]at h;subst h;exact ⟨SubL.refl _,fun _ _=>by simp[dl]⟩
 | t :: l,u :: m,k,k',h=>by
  simp only[dl]at h
  cases h0:j4 c [] u with
  | none=>rw[h0]at h;cases h
  | some im=>
   rw[h0]at h;simp only at h
   cases h1:dw (c.map (·.1)) k t im with
   | none=>rw[h1]at h;cases h
   | some k1=>
    rw[h1]at h;obtain ⟨a1,a2⟩:=yw _ t im k k1 h1;obtain ⟨b1,b2⟩:=yx c l m k1 k' h;refine ⟨a1.trans b1,fun lO hk=>?_⟩;simp only[dl,h0,a2 lO (b1.trans hk),b2 lO hk]
def Kj (step:Bd->Pl->Bd×Int):Prop:=∀ k p k',step k p=(k',0)->Sub k k'/\∀ lO,Sub k' lO->step lO p=(lO,0)
theorem AU:Kj bV:=by
 intro k p k' h;unfold bV at h
 by_cases fG:p.s.op=16
 ·rw[aH fG]at h;cases h;exact ⟨Sub.refl _,fun _ _=>by unfold bV;rw[aH fG]⟩
 rw[aw fG]at h
 by_cases jW:p.s.op=15
 ·rw[aH jW]at h
  cases hi:ii p.c [] p.f with
  | none=>rw[hi]at h;simp at h
  | some im=>
   rw[hi]at h;simp only at h
   cases hg:getB k.fs p.s.n with
   | none=>
    rw[hg]at h;simp only[Prod.mk.injEq,and_true]at h;subst h;refine ⟨⟨yt hg,fun _ _ h=>h⟩,fun lO hk=>?_⟩;unfold bV;rw[aw fG,aH jW,hi];simp only;rw[hk.f _ _ (DI hg)];simp[FF]
   | some g=>
    rw[hg]at h;simp only at h;split at h
    ·rename_i ha;cases h;refine ⟨Sub.refl _,fun lO hk=>?_⟩;unfold bV;rw[aw fG,aH jW,hi];simp only;rw[hk.f _ _ hg];simp[ha]
    ·simp at h
 rw[aw jW]at h;split at h
 ·simp at h
 ·rename_i hd
  cases ha:dl p.c k.ts p.s.a p.f.a with
  | none=>rw[ha]at h;simp at h
  | some ts=>
   rw[ha]at h;simp only[Prod.mk.injEq,and_true]at h;subst h;obtain ⟨h1,h2⟩:=yx _ _ _ _ _ ha;refine ⟨⟨fun _ _ h=>h,h1⟩,fun lO hk=>?_⟩;unfold bV;rw[aw fG,aw jW,aw hd,h2 lO.ts hk.t]
theorem Ij:Kj eF:=by
 intro k p k' h;unfold eF at h
 by_cases fG:(p.s.op != 16)=true
 ·rw[aH fG]at h;cases h;exact ⟨Sub.refl _,fun _ _=>by unfold eF;rw[aH fG]⟩
 rw[aw fG]at h
 cases hg:getB k.fs p.s.n with
 | none=>rw[hg]at h;simp at h
 | some f=>
  rw[hg]at h;simp only at h
  cases hi:ii p.c [] p.f with
  | none=>rw[hi]at h;simp at h
  | some im=>
   rw[hi]at h;simp only at h
   by_cases h0:gY (aX p.s).1 f=0
   ·rw[aH h0]at h;split at h
    ·rename_i ha;cases h;refine ⟨Sub.refl _,fun lO hk=>?_⟩;unfold eF;rw[aw fG,hk.f _ _ hg];simp only[hi,aH h0,aH ha]
    ·simp at h
   ·rw[aw h0]at h
    cases ht:getB k.ts (aX p.s).2 with
    | some t=>
     rw[ht]at h;simp only at h;split at h
     ·simp at h
     ·rename_i hn;split at h
      ·rename_i ha;cases h;refine ⟨Sub.refl _,fun lO hk=>?_⟩;unfold eF;rw[aw fG,hk.f _ _ hg];simp only[hi,aw h0,hk.t _ _ ht,aw hn,aH ha]
      ·simp at h
    | none=>
     rw[ht]at h;simp only at h
     cases hf:gZ f im (aX p.s).1 with
     | none=>rw[hf]at h;simp at h
     | some t=>
      rw[hf]at h;simp only[Option.map_some]at h;split at h
      ·simp at h
      ·rename_i hn;split at h
       ·rename_i ha;simp only[Prod.mk.injEq,and_true]at h;subst h;refine ⟨⟨fun _ _ h=>h,yt ht⟩,fun lO hk=>?_⟩;unfold eF;rw[aw fG,hk.f _ _ hg];have:=hk.t _ _ (DI ht);simp only[hi,aw h0,this,aw hn,aH ha]
       ·simp at h
theorem Cb {step:Bd->Pl->Bd×Int} (hs:Kj step):∀ (l:List Pl) (k k':Bd),gg step k l=(k',0)->Sub k k'/\∀ lO,Sub k' lO->gg step lO l=(lO,0)
 | [],k,k',h=>by
  simp only[gg,Prod.mk.injEq,and_true]at h;subst h;exact ⟨Sub.refl _,fun _ _=>by simp[gg]⟩
 | p :: l,k,k',h=>by
  unfold gg at h
  cases h1:step k p with
  | mk k1 e=>
   rw[h1]at h;simp only at h
   by_cases he:e=0
   ·subst he;rw[aH rfl]at h;obtain ⟨a1,a2⟩:=hs k p k1 h1;obtain ⟨b1,b2⟩:=Cb hs l k1 k' h;refine ⟨a1.trans b1,fun lO hk=>?_⟩;unfold gg;rw[a2 lO (b1.trans hk)];simp only[if_true];exact b2 lO hk
   ·rw[aw he]at h;simp only[Prod.mk.injEq]at h;exact absurd h.2 he
theorem rV {step:Bd->Pl->Bd×Int} (hs:Kj step):∀ (l:List (Fm×Fm)) (i:Nat) (k k':Bd) (j:Nat),d8 step i k l=(k',j,0)->Sub k k'/\j=0/\∀ lO,Sub k' lO->∀ x∈l,gg step lO (bA [] x.1 x.2)=(lO,0)
 | [],i,k,k',j,h=>by
  simp only[d8,Prod.mk.injEq,and_true]at h;obtain ⟨rfl,rfl⟩:=h;exact ⟨Sub.refl _,rfl,fun _ _ _ hx=>by cases hx⟩
 | (s,f) :: l,i,k,k',j,h=>by
  unfold d8 at h
  cases h1:gg step k (bA [] s f) with
  | mk k1 e=>
   rw[h1]at h;simp only at h
   by_cases he:e=0
   ·subst he;rw[aH rfl]at h;obtain ⟨a1,a2⟩:=Cb hs _ k k1 h1;obtain ⟨b1,b3,b2⟩:=rV hs l (i+1) k1 k' j h;refine ⟨a1.trans b1,b3,fun lO hk x hx=>?_⟩;rcases cY.1 hx with rfl | hx
    ·exact a2 lO (b1.trans hk)
    ·exact b2 lO hk x hx
   ·rw[aw he]at h;simp only[Prod.mk.injEq]at h;exact absurd h.2.2 he
theorem yz {step:Bd->Pl->Bd×Int}:∀ (l:List (Fm×Fm)) (i:Nat) (k:Bd),(∀ x∈l,gg step k (bA [] x.1 x.2)=(k,0))->d8 step i k l=(k,0,0)
 | [],i,k,_=>by simp[d8]
 | (s,f) :: l,i,k,h=>by
  unfold d8;rw[h (s,f) (fD ..)];simp only[if_true];exact yz l (i+1) k (fun x hx=>h x (eV _ hx))
theorem gq:∀ (l:List (Fm×Fm)) (i:Nat),fH i l=none ↔ ∀ x∈l,(eL x.1 && dv x.2)=true
 | [],i=>by simp[fH]
 | (s,f) :: l,i=>by
  unfold fH;split
  ·rename_i h;rw[gq l (i+1)];constructor
   ·intro h2 x hx;rcases cY.1 hx with rfl | hx
    ·exact h
    ·exact h2 x hx
   ·exact fun h2 x hx=>h2 x (eV _ hx)
  ·rename_i h;constructor
   ·intro h2;cases h2
   ·intro h2;exact absurd (h2 (s,f) (fD ..)) h
theorem nV {l:List (Fm×Fm)} {k:Bd} (h:cd l b=(k,i,0)) :
  bL b=true/\(∀ x∈l,(eL x.1 && dv x.2)=true)/\i=0/\Sub b k/\∀ x∈l,gg bV k (bA [] x.1 x.2)=(k,0)/\gg eF k (bA [] x.1 x.2)=(k,0):=by
 unfold cd at h
 by_cases hv:bL b=true
 ·simp only[hv,Bool.not_true,dE,↓reduceIte]at h
  cases hb:fH 0 l with
  | some j=>rw[hb]at h;simp at h
  | none=>
   rw[hb]at h;simp only at h
   cases h1:d8 bV 0 b l with
   | mk k1 x1=>
    obtain ⟨i1,e1⟩:=x1;rw[h1]at h;simp only at h
    by_cases QC:e1=0
    ·subst QC;simp only[ne_eq,not_true_eq_false,↓reduceIte]at h
     cases h2:d8 eF 0 k1 l with
     | mk k2 x2=>
      obtain ⟨i2,e2⟩:=x2;rw[h2]at h;simp only at h
      by_cases UW:e2=0
      ·subst UW;simp only[not_true_eq_false,↓reduceIte,Prod.mk.injEq,and_true]at h;obtain ⟨rfl,rfl⟩:=h;obtain ⟨a1,_,a3⟩:=rV AU l 0 b k1 i1 h1;obtain ⟨b1,_,b3⟩:=rV Ij l 0 k1 k2 i2 h2;exact ⟨hv,(gq l 0).1 hb,rfl,a1.trans b1,fun x hx=>⟨a3 k2 b1 x hx,b3 k2 (Sub.refl _) x hx⟩⟩
      ·rw[aH UW]at h;simp only[Prod.mk.injEq]at h;exact absurd h.2.2 UW
    ·rw[aH QC]at h;simp only[Prod.mk.injEq]at h;exact absurd h.2.2 QC
 ·simp[hv]at h
theorem DJ {l m:List (Fm×Fm)} {k:Bd} (h:cd l b=(k,i,0)) (hk:bL k=true) (hm:∀ x∈m,x∈l):cd m k=(k,0,0):=by
 obtain ⟨_,h2,_,_,h3⟩:=nV h;unfold cd;rw[(gq m 0).2 (fun x hx=>h2 x (hm x hx)),yz m 0 k (fun x hx=>(h3 x (hm x hx)).1)];simp[hk,yz m 0 k (fun x hx=>(h3 x (hm x hx)).2)]
/-! what is found is valid -/
theorem NA (h:je s=true):dV s=false:=by
 unfold je at h
 cases s with
 | nil=>simp[dV]
 | cons c r=>
  have pp208:=();exact pm208
theorem NB (h:je s=true):dC s=false:=by
 unfold je at h
 cases s with
 | nil=>simp[dC,dx,cP]
 | cons c r=>
  exact pm208
theorem Lv (h:je s=true):dV (dc s)=true:=by simp[dV,dc,h]
def VarsOk (l:List Str):Prop:=∀ x∈l,je x=true
theorem yA:∀ (c:Sco) (inn:List Str) (y:Str),eX.go x c inn=some y->y=x\/∃s∈c.map (·.1),y=dc s
 | [],inn,y,h=>by simp only[eX.go,dN]at h;exact .inl h.symm
 | (s,a) :: r,inn,y,h=>by
  unfold eX.go at h;split at h
  ·split at h
   ·cases h
   ·simp only[dN]at h;exact .inr ⟨s,by simp,h.symm⟩
  ·rcases yA r (s :: inn) y h with h | ⟨z,hz,h⟩
   ·exact .inl h
   ·exact .inr ⟨z,by simp only[cK,cY];exact .inr hz,h⟩
theorem Ik {y:Str} (h:eX c x=some y):y=x\/∃s∈c.map (·.1),y=dc s:=yA c [] y h
mutual
theorem DK (hc:VarsOk (c.map (·.1))) (ins:List Str):∀ (t u:Tm),jZ false t=true->j4 c ins t=some u->jZ false (aM u)=true/\nodesT u=nodesT t/\dj u=dj t
 | .mk v n a,u,hok,h=>by
  unfold j4 at h;unfold jZ at hok
  cases v with
  | true=>
   simp only[↓reduceIte,Bool.false_and,Bool.or_false,ah]at h hok;obtain ⟨ha,hn⟩:=hok;obtain rfl:a=[]:=by simpa using ha
   have Li:∀ y:Str,(y=n\/∃s∈c.map (·.1),y=dc s)->jZ false (aM (ap y))=true/\nodesT (ap y)=nodesT (.mk true n [])/\dj (ap y)=dj (.mk true n []):=by
    rintro y (rfl | ⟨s,hs,rfl⟩)
    ·simp[ap,aM,NA hn,jZ,hn,bS,nodesT,dj]
    ·have e1:(dV (63 :: s))=true:=Lv (hc s hs);have e2:je s=true:=hc s hs;simp[ap,aM,e1,jZ,e2,bS,nodesT,dj,dc]
   split at h
   ·simp only[dN]at h;subst h;exact Li n (.inl rfl)
   ·obtain ⟨y,hy,rfl⟩:=Option.map_eq_some_iff.1 h;exact Li y (Ik hy)
  | false=>
   simp only[dE,↓reduceIte,ah,bx]at h hok;obtain ⟨m,hm,rfl⟩:=Option.map_eq_some_iff.1 h;obtain ⟨h1,h2,h3,h4⟩:=yB hc ins a m hok.2.2 hm;have hl:(bS m).length=a.length:=by rw[h4.2];exact h4.1
   simp[aM,jZ,hok.2.1,h1,nodesT,dj,h2,h3,hl,hok.1]
theorem yB (hc:VarsOk (c.map (·.1))) (ins:List Str):∀ (t u:List Tm),eu false t=true->gP c ins t=some u->eu false (bS u)=true/\nodesTs u=nodesTs t/\bH u=bH t/\(u.length=t.length/\(bS u).length=u.length)
 | [],u,_,h=>by simp only[gP,dN]at h;subst h;simp[eu,bS]
 | t :: l,u,hok,h=>by
  simp only[gP]at h
  cases h1:j4 c ins t with
  | none=>rw[h1]at h;simp at h
  | some x=>
   cases h2:gP c ins l with
   | none=>rw[h1,h2]at h;simp at h
   | some m=>
    rw[h1,h2]at h;simp only[dN]at h;subst h;simp only[eu,ah]at hok;obtain ⟨a1,a2,a3⟩:=DK hc ins t x hok.1 h1;obtain ⟨b1,b2,b3,b4,b5⟩:=yB hc ins l m hok.2 h2;simp[eu,bS,a1,b1,nodesTs,bH,a2,a3,b2,b3,b4,b5]
end
mutual
theorem DL (hc:VarsOk (c.map (·.1))):∀ (f u:Fm) (ins:List Str),okF false f=true->ii c ins f=some u->okF false (bB u)=true/\nodesF u=nodesF f/\depthF u=depthF f
 | .mk o n a s,u,ins,hok,h=>by
  unfold ii at h
  cases h1:gP c ins a with
  | none=>rw[h1]at h;simp at h
  | some a'=>
   cases h2:iU c (if bU o then n :: ins else ins) s with
   | none=>rw[h1,h2]at h;simp at h
   | some s'=>
    rw[h1,h2]at h;simp only[dN]at h;subst h;simp only[okF,ah,Bool.false_and,Bool.or_false]at hok;obtain ⟨k1,⟨k2,k3,k4⟩,k5,k6,k7⟩:=hok;obtain ⟨a1,a2,a3,a4,a5⟩:=yB hc ins a a' k6 h1;obtain ⟨b1,b2,b3,b4,b5⟩:=FG hc s s' _ k7 h2;have UX:(o != 16)=true:=by
     cases fG:o != 16 with
     | true=>rfl
     | false=>
      have:o=16:=by simpa using fG
      subst this;exact absurd k1 (by decide)
    simp only[bB,okF,ah,Bool.false_and,Bool.or_false,nodesF,depthF,a2,a3,b2,b3,a1,b1,a5,a4,b5,b4,UX,Bool.true_or,k1,k2,k3,k4,and_self]
theorem FG (hc:VarsOk (c.map (·.1))):∀ (f u:List Fm) (ins:List Str),dD false f=true->iU c ins f=some u->dD false (bT u)=true/\nodesFs u=nodesFs f/\aY u=aY f/\(u.length=f.length/\(bT u).length=u.length)
 | [],u,ins,_,h=>by simp only[iU,dN]at h;subst h;simp[dD,bT]
 | t :: l,u,ins,hok,h=>by
  simp only[iU]at h
  cases h1:ii c ins t with
  | none=>rw[h1]at h;simp at h
  | some x=>
   cases h2:iU c ins l with
   | none=>rw[h1,h2]at h;simp at h
   | some m=>
    rw[h1,h2]at h;simp only[dN]at h;subst h;simp only[dD,ah]at hok;obtain ⟨a1,a2,a3⟩:=DL hc t x ins hok.1 h1;obtain ⟨b1,b2,b3,b4,b5⟩:=FG hc l m ins hok.2 h2;simp[dD,bT,a1,b1,nodesFs,aY,a2,a3,b2,b3,b4,b5]
end
mutual
theorem wj:∀ t,nodesT (aM t)=nodesT t/\dj (aM t)=dj t
 | .mk v n a=>by simp[aM,nodesT,dj,nW a]
theorem nW:∀ t,nodesTs (bS t)=nodesTs t/\bH (bS t)=bH t
 | []=>by simp[bS]
 | t :: l=>by simp[bS,nodesTs,bH,wj t,nW l]
end
mutual
theorem kE:∀ t,nodesF (bB t)=nodesF t/\depthF (bB t)=depthF t
 | .mk o n a s=>by simp[bB,nodesF,depthF,nW a,s7 s]
theorem s7:∀ t,nodesFs (bT t)=nodesFs t/\aY (bT t)=aY t
 | []=>by simp[bT]
 | t :: l=>by simp[bT,nodesFs,aY,kE t,s7 l]
end
theorem pI:∀ (l:List Tm) (i:Nat) (t:Tm),eu sc l=true->l[i]?=some t->jZ sc t=true
 | [],i,t,_,h=>by simp at h
 | x :: l,0,t,hok,h=>by simp only[List.getElem?_cons_zero,dN]at h;subst h;simp only[eu,ah]at hok;exact hok.1
 | x :: l,i+1,t,hok,h=>by simp only[eu,ah]at hok;exact pI l i t hok.2 (by simpa using h)
theorem FH:∀ (l:List Fm) (i:Nat) (t:Fm),dD sc l=true->l[i]?=some t->okF sc t=true
 | [],i,t,_,h=>by simp at h
 | x :: l,0,t,hok,h=>by simp only[List.getElem?_cons_zero,dN]at h;subst h;simp only[dD,ah]at hok;exact hok.1
 | x :: l,i+1,t,hok,h=>by simp only[dD,ah]at hok;exact FH l i t hok.2 (by simpa using h)
theorem my:∀ (l:List Tm) (i:Nat),(bS l)[i]?=l[i]?.map aM
 | [],i=>by simp[bS]
 | x :: l,0=>by simp[bS]
 | x :: l,i+1=>by simp[bS,my l i]
theorem wk:∀ (l:List Fm) (i:Nat),(bT l)[i]?=l[i]?.map bB
 | [],i=>by simp[bT]
 | x :: l,0=>by simp[bT]
 | x :: l,i+1=>by simp[bT,wk l i]
theorem yC (h:jZ false (aM t)=true):eu false (bS t.a)=true:=by
 obtain ⟨v,n,a⟩:=t;simp only[aM,jZ]at h
 cases v with
 | true=>
  simp only[↓reduceIte,ah]at h;have:bS a=[]:=by simpa using h.1
  simp[Tm.a,this,eu]
 | false=>
  simp only[dE,↓reduceIte,ah]at h;exact h.2.2
theorem FI:∀ (p:List Nat) (l:List Tm) (t:Tm),eu false (bS l)=true->lI l p=some t->jZ false (aM t)=true
 | [],l,t,_,h=>by simp[lI]at h
 | [i],l,t,hok,h=>by
  simp only[lI]at h;exact pI _ i _ hok (by rw[my,h];rfl)
 | i :: j :: r,l,t,hok,h=>by
  simp only[lI]at h
  cases h1:l[i]? with
  | none=>rw[h1]at h;simp at h
  | some x=>
   rw[h1]at h;exact FI (j :: r) _ t (yC (pI _ i _ hok (by rw[my,h1];rfl))) h
theorem FJ:∀ (p:List Nat) (f:Fm) (ins:List Str) (g:Fm) (qV:List Str),okF false (bB f)=true->m_ f p ins=some (g,qV)->okF false (bB g)=true
 | [],f,ins,g,qV,hok,h=>by simp only[m_,dN,Prod.mk.injEq]at h;rw[<-h.1];exact hok
 | i :: r,f,ins,g,qV,hok,h=>by
  simp only[m_]at h
  cases h1:f.s[i]? with
  | none=>rw[h1]at h;simp at h
  | some x=>
   rw[h1]at h;refine FJ r x _ g qV ?_ h;obtain ⟨o,n,a,s⟩:=f;simp only[bB,okF,ah]at hok;exact FH _ i _ hok.2.2.2.2 (by rw[wk];simp only[Fm.s]at h1;rw[h1];rfl)
theorem FK (hok:okF false (bB im)=true) (h:gZ f im x=some t):jZ false (aM t)=true:=by
 unfold gZ at h;split at h
 ·cases h
 ·split at h
  ·cases h
  ·rename_i g ins hg;split at h
   ·cases h
   ·rename_i y hy;split at h
    ·cases h
    ·cases h;have:=FJ _ _ _ _ _ hok hg;obtain ⟨o,n,a,s⟩:=g;simp only[bB,okF,ah]at this;exact FI _ _ _ this.2.2.2.1 hy
structure PlOk (p:Pl):Prop where
 s:okF true p.s=true
 f:okF false p.f=true
 c:VarsOk (p.c.map (·.1))
 n:nodesF p.f<=400
 d:depthF p.f<=40
mutual
theorem kh:∀ (s f:Fm) (c:Sco),PlOk ⟨s,f,c⟩->∀ p∈bA c s f,PlOk p
 | .mk o n a l,.mk o' n' a' l',c,h,p,hp=>by
  simp only[bA,cY]at hp;rcases hp with rfl | hp
  ·exact h
  ·have h1:=h.s;have h2:=h.f;have h3:=h.n;have h4:=h.d;simp only[okF,ah]at h1 h2;simp only[nodesF,depthF]at h3 h4;refine yD l l' _ h1.2.2.2.2 h2.2.2.2.2 ?_ (by omega) (by omega) p hp;split
   ·rename_i hq;intro x hx;simp only[cK,cY]at hx;rcases hx with rfl | hx
    ·have:(rowOp o).2.2.1=2:=by
      simp only[bU,Bool.or_eq_true,f9]at hq;rcases hq with rfl | rfl <;> decide
     have h5:=h1.2.1.1;rw[this]at h5;exact h5
    ·exact h.c x hx
   ·exact h.c
theorem yD:∀ (s f:List Fm) (c:Sco),dD true s=true->dD false f=true->VarsOk (c.map (·.1))->nodesFs f<=400->aY f<=40->∀ p∈aT c s f,PlOk p
 | [],_,c,_,_,_,_,_,p,hp=>by simp[aT]at hp
 | _ :: _,[],c,_,_,_,_,_,p,hp=>by simp[aT]at hp
 | t :: l,u :: m,c,h1,h2,h3,h4,h5,p,hp=>by
  simp only[aT,List.mem_append]at hp;simp only[dD,ah]at h1 h2;simp only[nodesFs,aY]at h4 h5;rcases hp with hp | hp
  ·exact kh t u c ⟨h1.1,h2.1,h3,by show nodesF u<=400;omega,by show depthF u<=40;omega⟩ p hp
  ·exact yD l m c h1.2 h2.2 h3 (by omega) (by omega) p hp
end
theorem uX {s:Fm} (h:(eL s && dv f)=true):PlOk ⟨s,f,[]⟩:=by
 simp only[eL,dv,ah,bx]at h;exact ⟨h.1.1,h.2.1,(by intro x hx;cases hx),h.2.2.1,h.2.2.2⟩
/-! order of names -/
theorem nj:∀ a:List UInt8,Op.bytesLess a a=false
 | []=>rfl
 | c :: a=>by simp[Op.bytesLess,nj a]
theorem s8:∀ a b c:List UInt8,Op.bytesLess a b=true->Op.bytesLess b c=true->Op.bytesLess a c=true
 | _,[],_,h,_=>by simp[Op.bytesLess]at h
 | _,_ :: _,[],_,h=>by simp[Op.bytesLess]at h
 | [],_ :: _,_ :: _,_,_=>rfl
 | x :: a,y :: b,z :: c,h1,h2=>by
  simp only[Op.bytesLess,Bool.or_eq_true,ah,bx,f9]at h1 h2 ⊢;rcases h1 with h1 | ⟨rfl,h1⟩
  ·rcases h2 with h2 | ⟨rfl,h2⟩
   ·exact .inl (UInt8.lt_trans h1 h2)
   ·exact .inl h1
  ·rcases h2 with h2 | ⟨rfl,h2⟩
   ·exact .inl h2
   ·exact .inr ⟨rfl,s8 a b c h1 h2⟩
theorem NC:∀ a b:List UInt8,Op.bytesLess a b=false->Op.bytesLess b a=false->a=b
 | [],[],_,_=>rfl
 | [],_ :: _,h,_=>by simp[Op.bytesLess]at h
 | _ :: _,[],_,h=>by simp[Op.bytesLess]at h
 | x :: a,y :: b,h1,h2=>by
  simp only[Op.bytesLess,Bool.or_eq_false_iff,Bool.and_eq_false_iff,decide_eq_false_iff_not,beq_eq_false_iff_ne]at h1 h2;have hxy:x=y:=by
   apply UInt8.toNat_inj.1;have a1:=h1.1;have a2:=h2.1;rw[UInt8.lt_iff_toNat_lt]at a1 a2;omega
  subst hxy;rw[NC a b (h1.2.resolve_left (fun h=>h rfl)) (h2.2.resolve_left (fun h=>h rfl))]
theorem yE (a b:Str) (h:a≠b) (h1:Op.bytesLess a b=false):Op.bytesLess b a=true:=by
 cases h2:Op.bytesLess b a
 ·exact absurd (NC a b h1 h2) h
 ·rfl
theorem mz {l:List Str}:dz (x :: l)=true ↔ (∀ y,l.head?=some y->Op.bytesLess x y=true)/\dz l=true:=by
 cases l with
 | nil=>simp[dz]
 | cons y r=>simp[dz]
theorem gG:∀ (l:List (Str×α)) (x:Str),getB l x=none ↔ x ∉ l.map (·.1)
 | [],x=>by simp[getB]
 | (y,v) :: r,x=>by
  unfold getB
  by_cases h:y == x
  ·simp only[h,↓reduceIte,reduceCtorEq,cK,cY,false_iff];rw[f9]at h;exact fun h2=>h2 (.inl h.symm)
  ·simp only[h,dE,↓reduceIte,cK,cY,not_or];rw[gG r x];constructor
   ·exact fun h2=>⟨fun e=>h (by rw[e];simp),h2⟩
   ·exact fun h2=>h2.2
theorem ND (x:Str) (v:α) (l:List (Str×α)):∀ y,((fj x v l).map (·.1)).head?=some y->y=x\/(l.map (·.1)).head?=some y:=by
 intro y h
 cases l with
 | nil=>simp only[fj,cK,List.map_nil,List.head?_cons,dN]at h;exact .inl h.symm
 | cons z r=>
  obtain ⟨z,u⟩:=z;unfold fj at h;split at h
  ·simp only[cK,List.head?_cons,dN]at h;exact .inl h.symm
  ·simp only[cK,List.head?_cons,dN]at h;exact .inr (by simp[h])
theorem rW (x:Str) (v:α):∀ (l:List (Str×α)),x ∉ l.map (·.1)->dz (l.map (·.1))=true->dz ((fj x v l).map (·.1))=true
 | [],_,_=>by simp[fj,dz]
 | (y,u) :: r,hx,hs=>by
  simp only[cK,cY,not_or]at hx;unfold fj;split
  ·rename_i h;simp only[cK]at hs ⊢;exact mz.2 ⟨fun z hz=>by simp only[List.head?_cons,dN]at hz;rw[<-hz];exact h,hs⟩
  ·rename_i h;simp only[cK]at hs ⊢;obtain ⟨h1,h2⟩:=mz.1 hs;refine mz.2 ⟨fun z hz=>?_,rW x v r hx.2 h2⟩;rcases ND x v r z hz with rfl | hz
   ·exact yE _ _ hx.1 (by simpa using h)
   ·exact h1 z hz
theorem DM (P:Str×α->Bool) (x:Str) (v:α):∀ (l:List (Str×α)),(fj x v l).all P=(P (x,v) && l.all P)
 | []=>by simp[fj]
 | (y,u) :: r=>by
  unfold fj;split
  ·simp
  ·simp only[List.all_cons,DM P x v r];cases P (y,u) <;> simp
def UY (l:List (Str×Fm)):Bool:=l.all (fun x=>dx x.1 && dv (bB x.2)) && dz (l.map (·.1))
def Il (l:List (Str×Tm)):Bool:=l.all (fun x=>cP x.1 && jZ false (aM x.2)) && dz (l.map (·.1))
theorem ip (b:Bd):bL b=true ↔ UY b.fs=true/\Il b.ts=true:=by
 simp only[bL,UY,Il,ah];constructor
 ·exact fun ⟨⟨a,b⟩,c,d⟩=>⟨⟨a,c⟩,b,d⟩
 ·exact fun ⟨⟨a,c⟩,b,d⟩=>⟨⟨a,b⟩,c,d⟩
theorem Kk {k:List (Str×Tm)} (hk:Il k=true) (hn:cP n=true) (ht:jZ false (aM t)=true) (hg:getB k n=none):Il (fj n t k)=true:=by
 simp only[Il,ah]at hk ⊢;rw[DM];exact ⟨by simp only[ah];exact ⟨⟨hn,ht⟩,hk.1⟩,rW n t k ((gG _ _).1 hg) hk.2⟩
theorem Q5 {k:List (Str×Fm)} {t:Fm} (hk:UY k=true) (hn:dx n=true) (ht:dv (bB t)=true) (hg:getB k n=none):UY (fj n t k)=true:=by
 simp only[UY,ah]at hk ⊢;rw[DM];exact ⟨by simp only[ah];exact ⟨⟨hn,ht⟩,hk.1⟩,rW n t k ((gG _ _).1 hg) hk.2⟩
theorem Im {a:List Tm} (h:jZ true (.mk true n a)=true) (hm:dC n=true):cP n=true:=by
 simp only[jZ,↓reduceIte,dU,ah,Bool.or_eq_true]at h;rcases h.2 with h | h
 ·rw[NB h]at hm;cases hm
 ·exact h
mutual
theorem s9 (sc:List Str):∀ (t u:Tm) (k k':List (Str×Tm)),jZ true t=true->jZ false (aM u)=true->Il k=true->dw sc k t u=some k'->Il k'=true
 | .mk v n a,.mk v' n' a',k,k',ht,hu,hk,h=>by
  unfold dw at h
  by_cases hm:(v && dC n)=true
  ·rw[aH hm]at h;simp only[ah]at hm;obtain ⟨rfl,hm⟩:=hm
   cases hg:getB k n with
   | none=>
    rw[hg]at h;simp only[dN]at h;subst h;exact Kk hk (Im ht hm) hu hg
   | some u=>
    rw[hg]at h;simp only at h;split at h
    ·cases h;exact hk
    ·cases h
  ·rw[aw hm]at h;split at h
   ·split at h
    ·cases h;exact hk
    ·cases h
   ·split at h
    ·cases h
    ·rename_i hs hd;simp only[Bool.or_eq_true,bne_iff_ne,ne_eq,not_or,Decidable.not_not]at hd;obtain ⟨rfl,rfl,hl⟩:=hd
     cases v with
     | true=>
      simp only[jZ,↓reduceIte,ah]at ht;have:a=[]:=by simpa using ht.1
      subst this;have:a'=[]:=List.length_eq_zero_iff.1 (by simpa using hl.symm);subst this;simp only[b_,dN]at h;rw[<-h];exact hk
     | false=>
      simp only[jZ,dE,↓reduceIte,ah]at ht;exact rt sc a a' k k' ht.2.2 (yC hu) hk h
theorem rt (sc:List Str):∀ (t u:List Tm) (k k':List (Str×Tm)),eu true t=true->eu false (bS u)=true->Il k=true->b_ sc k t u=some k'->Il k'=true
 | [],u,k,k',_,_,hk,h=>by simp only[b_,dN]at h;rw[<-h];exact hk
 | _ :: _,[],k,k',_,_,hk,h=>by simp only[b_,dN]at h;rw[<-h];exact hk
 | t :: l,u :: m,k,k',ht,hu,hk,h=>by
  simp only[b_]at h;simp only[eu,bS,ah]at ht hu
  cases h1:dw sc k t u with
  | none=>rw[h1]at h;cases h
  | some k1=>
   rw[h1]at h;exact rt sc l m k1 k' ht.2 hu.2 (s9 sc t u k k1 ht.1 hu.1 hk h1) h
end
theorem s_ (hc:VarsOk (c.map (·.1))):∀ (t u:List Tm) (k k':List (Str×Tm)),eu true t=true->eu false u=true->Il k=true->dl c k t u=some k'->Il k'=true
 | [],u,k,k',_,_,hk,h=>by simp only[dl,dN]at h;rw[<-h];exact hk
 | _ :: _,[],k,k',_,_,hk,h=>by simp only[dl,dN]at h;rw[<-h];exact hk
 | t :: l,u :: m,k,k',ht,hu,hk,h=>by
  simp only[dl]at h;simp only[eu,ah]at ht hu
  cases h0:j4 c [] u with
  | none=>rw[h0]at h;cases h
  | some im=>
   rw[h0]at h;simp only at h
   cases h1:dw (c.map (·.1)) k t im with
   | none=>rw[h1]at h;cases h
   | some k1=>
    rw[h1]at h;exact s_ hc l m k1 k' ht.2 hu.2 (s9 _ t im k k1 ht.1 (DK hc [] u im hu.1 h0).1 hk h1) h
def Kl (step:Bd->Pl->Bd×Int):Prop:=∀ k p k',PlOk p->bL k=true->step k p=(k',0)->bL k'=true
theorem Cc (hp:PlOk p) (h:ii p.c [] p.f=some im):dv (bB im)=true:=by
 obtain ⟨h1,h2,h3⟩:=DL hp.c p.f im [] hp.f h;have h4:=kE im;have h5:=hp.n;have h6:=hp.d;simp only[dv,ah,bx];exact ⟨h1,by omega,by omega⟩
theorem ru:Kl bV:=by
 intro k p k' hp hk h;unfold bV at h;split at h
 ·cases h;exact hk
 rename_i fG;split at h
 ·rename_i jW
  cases hi:ii p.c [] p.f with
  | none=>rw[hi]at h;simp at h
  | some im=>
   rw[hi]at h;simp only at h
   cases hg:getB k.fs p.s.n with
   | none=>
    rw[hg]at h;simp only[Prod.mk.injEq,and_true]at h;subst h;obtain ⟨k1,k2⟩:=(ip k).1 hk;refine (ip _).2 ⟨Q5 k1 ?_ (Cc hp hi) hg,k2⟩;have hs:=hp.s;obtain ⟨⟨o,n,a,s⟩,f,c⟩:=p;simp only[Fm.op]at jW;subst jW;simp only[okF,ah]at hs;exact hs.2.1.1
   | some g=>
    rw[hg]at h;simp only at h;split at h
    ·cases h;exact hk
    ·simp at h
 ·split at h
  ·simp at h
  ·rename_i hd
   cases ha:dl p.c k.ts p.s.a p.f.a with
   | none=>rw[ha]at h;simp at h
   | some ts=>
    rw[ha]at h;simp only[Prod.mk.injEq,and_true]at h;subst h;obtain ⟨k1,k2⟩:=(ip k).1 hk;refine (ip _).2 ⟨k1,s_ hp.c _ _ _ _ ?_ ?_ k2 ha⟩
    ·have hs:=hp.s;obtain ⟨⟨o,n,a,s⟩,f,c⟩:=p;simp only[okF,ah]at hs;exact hs.2.2.2.1
    ·have hs:=hp.f;obtain ⟨s,⟨o,n,a,l⟩,c⟩:=p;simp only[okF,ah]at hs;exact hs.2.2.2.1
theorem lP (hp:PlOk p) (fG:p.s.op=16):∃x y:Str,p.s.a=[ap x,ap y]/\je x=true/\cP y=true/\aX p.s=(dc x,y):=by
 have hs:=hp.s;obtain ⟨⟨o,n,a,s⟩,f,c⟩:=p;simp only[Fm.op]at fG;subst fG;simp only[okF,ah,bne_self_eq_false,Bool.false_or]at hs;have h1:=hs.2.2.1;have h2:=hs.2.2.2.1;unfold sT at h1;split at h1
 ·rename_i x y;obtain ⟨xv,xn,xa⟩:=x;obtain ⟨yv,yn,ya⟩:=y;simp only[Tm.v,Tm.n,ah]at h1;obtain ⟨rfl,hx,rfl,hy⟩:=h1;simp only[eu,jZ,↓reduceIte,ah]at h2;have e1:xa=[]:=by simpa using h2.1.1
  have e2:ya=[]:=by simpa using h2.2.1.1
  subst e1 e2;exact ⟨xn,yn,rfl,hx,hy,rfl⟩
 ·cases h1
theorem yF:Kl eF:=by
 intro k p k' hp hk h;unfold eF at h
 by_cases fG:(p.s.op != 16)=true
 ·rw[aH fG]at h;cases h;exact hk
 rw[aw fG]at h;have zbK:p.s.op=16:=by simpa using fG
 cases hg:getB k.fs p.s.n with
 | none=>rw[hg]at h;simp at h
 | some f=>
  rw[hg]at h;simp only at h
  cases hi:ii p.c [] p.f with
  | none=>rw[hi]at h;simp at h
  | some im=>
   rw[hi]at h;simp only at h
   by_cases h0:gY (aX p.s).1 f=0
   ·rw[aH h0]at h;split at h
    ·cases h;exact hk
    ·simp at h
   ·rw[aw h0]at h
    cases ht:getB k.ts (aX p.s).2 with
    | some t=>
     rw[ht]at h;simp only at h;split at h
     ·simp at h
     ·split at h
      ·cases h;exact hk
      ·simp at h
    | none=>
     rw[ht]at h;simp only at h
     cases hf:gZ f im (aX p.s).1 with
     | none=>rw[hf]at h;simp at h
     | some t=>
      rw[hf]at h;simp only[Option.map_some]at h;split at h
      ·simp at h
      ·split at h
       ·simp only[Prod.mk.injEq,and_true]at h;subst h;obtain ⟨k1,k2⟩:=(ip k).1 hk;obtain ⟨x,y,_,_,hy,hn⟩:=lP hp zbK;refine (ip _).2 ⟨k1,Kk k2 (by rw[hn];exact hy) (FK (DL hp.c p.f im [] hp.f hi).1 hf) ht⟩
       ·simp at h
theorem Cd {step:Bd->Pl->Bd×Int} (hs:Kl step):∀ (l:List Pl) (k k':Bd),(∀ p∈l,PlOk p)->bL k=true->gg step k l=(k',0)->bL k'=true
 | [],k,k',_,hk,h=>by
  simp only[gg,Prod.mk.injEq,and_true]at h;rw[<-h];exact hk
 | p :: l,k,k',hp,hk,h=>by
  unfold gg at h
  cases h1:step k p with
  | mk k1 e=>
   rw[h1]at h;simp only at h
   by_cases he:e=0
   ·subst he;rw[aH rfl]at h;exact Cd hs l k1 k' (fun q hq=>hp q (eV _ hq)) (hs k p k1 (hp p (fD ..)) hk h1) h
   ·rw[aw he]at h;simp only[Prod.mk.injEq]at h;exact absurd h.2 he
theorem rX {step:Bd->Pl->Bd×Int} (hs:Kl step):∀ (l:List (Fm×Fm)) (i:Nat) (k k':Bd) (j:Nat),(∀ x∈l,(eL x.1 && dv x.2)=true)->bL k=true->d8 step i k l=(k',j,0)->bL k'=true
 | [],i,k,k',j,_,hk,h=>by
  simp only[d8,Prod.mk.injEq,and_true]at h;rw[<-h.1];exact hk
 | (s,f) :: l,i,k,k',j,hp,hk,h=>by
  unfold d8 at h
  cases h1:gg step k (bA [] s f) with
  | mk k1 e=>
   rw[h1]at h;simp only at h
   by_cases he:e=0
   ·subst he;rw[aH rfl]at h;exact rX hs l (i+1) k1 k' j (fun x hx=>hp x (eV _ hx)) (Cd hs _ k k1 (kh s f [] (uX (hp (s,f) (fD ..)))) hk h1) h
   ·rw[aw he]at h;simp only[Prod.mk.injEq]at h;exact absurd h.2.2 he
theorem rv {l:List (Fm×Fm)} {k:Bd} (h:cd l b=(k,i,0)):bL k=true:=by
 obtain ⟨hv,hl,_⟩:=nV h;unfold cd at h;simp only[hv,Bool.not_true,dE,↓reduceIte,(gq l 0).2 hl]at h
 cases h1:d8 bV 0 b l with
 | mk k1 x1=>
  obtain ⟨i1,e1⟩:=x1;rw[h1]at h;simp only at h
  by_cases QC:e1=0
  ·subst QC;simp only[ne_eq,not_true_eq_false,↓reduceIte]at h
   cases h2:d8 eF 0 k1 l with
   | mk k2 x2=>
    obtain ⟨i2,e2⟩:=x2;rw[h2]at h;simp only at h
    by_cases UW:e2=0
    ·subst UW;simp only[not_true_eq_false,↓reduceIte,Prod.mk.injEq,and_true]at h;rw[<-h.1];exact rX yF l 0 k1 k2 i2 hl (rX ru l 0 b k1 i1 hl hv h1) h2
    ·rw[aH UW]at h;simp only[Prod.mk.injEq]at h;exact absurd h.2.2 UW
  ·rw[aH QC]at h;simp only[Prod.mk.injEq]at h;exact absurd h.2.2 QC
def Up (l:List Str):Prop:=l.Pairwise (fun x y=>Op.bytesLess x y=true)
theorem yG (x y:Str):∀ l,y∈wY x l ↔ y=x\/y∈l
 | []=>by simp[wY]
 | z :: l=>by
  have ih:=yG x y l;unfold wY
  by_cases h:(x == z)=true
  ·rw[aH h];have:x=z:=by simpa using h
   subst this;simp
  ·rw[aw h]
   by_cases h2:Op.bytesLess x z=true
   ·rw[aH h2];simp
   ·rw[aw h2];simp[ih];grind
theorem Km (x:Str):∀ l,Up l->Up (wY x l)
 | [],_=>by simp[wY,Up]
 | z :: l,h=>by
  have hl:Up l:=(List.pairwise_cons.1 h).2;have hz:=(List.pairwise_cons.1 h).1;have ih:=Km x l hl;unfold wY
  by_cases h1:(x == z)=true
  ·rw[aH h1];exact h
  ·rw[aw h1]
   by_cases h2:Op.bytesLess x z=true
   ·rw[aH h2];refine List.pairwise_cons.2 ⟨fun y hy=>?_,h⟩;rcases cY.1 hy with rfl | hy
    ·exact h2
    ·exact s8 _ _ _ h2 (hz y hy)
   ·rw[aw h2];refine List.pairwise_cons.2 ⟨fun y hy=>?_,ih⟩;rcases (yG x y l).1 hy with rfl | hy
    ·exact yE _ _ (by simpa using h1) (by simpa using h2)
    ·exact hz y hy
theorem rY (l:List Str):Up (dF l):=by
 unfold dF
 induction l with
 | nil=>simp[Up]
 | cons x l ih=>exact Km x _ ih
theorem dH (y:Str) (l:List Str):y∈dF l ↔ y∈l:=by
 unfold dF
 induction l with
 | nil=>simp
 | cons x l ih=>simp only[List.foldr_cons,yG,ih,cY]
theorem fW {l:List Str} (h:Up l):l.Nodup:=by
 refine List.Pairwise.imp ?_ h;intro a b AI e;subst e;rw[nj]at AI;cases AI
theorem In:∀ l m:List Str,Up l->Up m->(∀ x,x∈l ↔ x∈m)->l=m
 | [],[],_,_,_=>rfl
 | [],y :: m,_,_,h=>by have:=(h y).2 (by simp);cases this
 | x :: l,[],_,_,h=>by have:=(h x).1 (by simp);cases this
 | x :: l,y :: m,hl,hm,h=>by
  have hx:=(List.pairwise_cons.1 hl).1;have hy:=(List.pairwise_cons.1 hm).1;have hxy:x=y:=by
   by_cases e:x=y
   ·exact e
   ·have h1:=(h x).1 (by simp);have h2:=(h y).2 (by simp);rcases cY.1 h1 with h1 | h1
    ·exact absurd h1 e
    ·rcases cY.1 h2 with h2 | h2
     ·exact h2.symm
     ·have a:=hx y h2;have b:=hy x h1;have c:=s8 _ _ _ a b;rw[nj]at c;cases c
  subst hxy;refine congrArg _ (In l m (List.pairwise_cons.1 hl).2 (List.pairwise_cons.1 hm).2 (fun z=>?_));constructor
  ·intro hz;rcases cY.1 ((h z).1 (eV _ hz)) with e | e
   ·subst e;have:=hx z hz;rw[nj]at this;cases this
   ·exact e
  ·intro hz;rcases cY.1 ((h z).2 (eV _ hz)) with e | e
   ·subst e;have:=hy z hz;rw[nj]at this;cases this
   ·exact e
theorem yH {ss:List Str} (hp:ss.Perm (dF xs)):ss.mergeSort (fun x y=>decide (x<=y))=dF xs:=by
 have S8:=List.mergeSort_perm ss (fun x y=>decide (x<=y));refine In _ _ ?_ (rY xs) (fun x=>by rw[S8.mem_iff,hp.mem_iff]);have xJ:(ss.mergeSort (fun x y=>decide (x<=y))).Nodup:=(S8.trans hp).nodup_iff.2 (fW (rY xs));have hs:(ss.mergeSort (fun x y=>decide (x<=y))).Pairwise (fun x y=>decide (x<=y)=true):=List.pairwise_mergeSort (fun a b c h1 h2=>by simp at h1 h2 ⊢;exact List.le_trans h1 h2) (fun a b=>by simp;exact List.le_total a b) ss;refine (hs.and xJ).imp ?_;rintro a b ⟨h1,h2⟩;refine yE b a (fun e=>h2 e.symm) ?_;rw[bytesLess_eq];simp at h1 ⊢;exact h1
end Go.Proofs.YtokemihbkeddoaaGreatDoor
namespace Go.Proofs
open Go.RowKit Go.Maps Go.Sort Go.Shelf
shelf_lay_g SlLaysZ.n7 Ggz 7 at Tryz 75 as Tryz.keysA
shelf_lay_g SlLaysZ.n6 Ggz 6 at Tryz 74 as Tryz.sortedA
theorem Tryz.sortsA (m:Nat):AnyZ.SortsIn Tryz.prog Tryz.sortedA_ren Fence.wide m:=
 ⟨fun blk off cap ss W hH zbL hsz=>callsIn_wide.2 (Tryz.slices_Sort_string blk off cap ss W hH zbL hsz),
  fun p cap W=>callsIn_wide.2 (Tryz.slices_Sort_string_none p cap W)⟩
end Go.Proofs
namespace Go.Proofs.YtokemihbkeddoaaGreatDoor
open Go Go.RowKit Go.Maps Go.Sort Go.Shelf
def RowS (lo:Nat) (W:World) (v:Value) (l:List Str):Prop:=W.ownsRow lo 9 1 v l.length (l.map encStr)/\(v=.slice none 0 0 ↔ l=[])
theorem FL (mb:Option Nat) (W:World):Calls Tryz.prog 75 #[.map mb] W fun e w'=>e=.returned (.func (.func 135) #[] #[.pointer (some ⟨W.heap.size,0,none⟩)])/\w'=W.alloc (.cells #[.map mb] 118):=
 aK.1 (AnyZ.keys_in Tryz.keysA Fence.wide 5 trivial rfl mb W)
theorem yI (m n:Nat) (xs:List Str) (hn:n<=2000000) (W:World) (hs:SetW W m n xs) :
  Calls Tryz.prog 74 #[.func (.func 135) #[] #[.pointer (some ⟨W.heap.size,0,none⟩)]] (W.alloc (.cells #[.map (some m)] 118)) fun e w'=>∃v,e=.returned v/\RowS W.heap.size w' v (dF xs)/\Below W.heap.size W w':=by
 obtain ⟨D0,au,yr,_⟩:=hs;have Io:=au.lt;have hsz:=au.size_le;have nH:SeqGives Fence.wide 2 Tryz.prog 135 #[.pointer (some ⟨W.heap.size,0,none⟩)] encStr (fun ss=>ss.Perm (strKeys D0)) (Maps.size D0) (W.alloc (.cells #[.map (some m)] 118)):=
  AnyZ.keys_gives (ρ:=Tryz.keysA_ren) { Tryz.keysA with } Fence.wide _ trivial rfl (by omega) W.heap.size m n D0 _ (by simp) (by simp) (au.alloc _)
 have cS:=AnyZ.sorted_in Tryz.sortedA Fence.wide 5 trivial trivial trivial trivial rfl (by omega) (Tryz.sortsA _) (enters_of Tryz.func134 (by kernel_rfl) rfl) 135 #[.pointer (some ⟨W.heap.size,0,none⟩)] trivial (enters_of Tryz.func135 (by kernel_rfl) rfl) _ _ (by unfold maxLen;omega) (by omega) _ nH;have pp188:=();exact pm188
mutual
theorem lQ:∀ t:Tm,(aQ t).length<=nodesT t
 | .mk v n a=>by
  have:=Ce a;unfold aQ nodesT;cases v <;> simp <;> omega
theorem Ce:∀ l:List Tm,(aC l).length<=nodesTs l
 | []=>by simp[aC]
 | t :: l=>by
  have h1:=lQ t;have h2:=Ce l;unfold aC nodesTs;simp;omega
end
mutual
theorem lS {p:Nat}:∀ t:Tm,jw p t=true->∀ x∈aQ t,x.length<=p
 | .mk v n a,h,x,hx=>by
  simp only[jw,ah,bx]at h;unfold aQ at hx
  cases v with
  | false=>exact nk a h.2 x (by simpa using hx)
  | true=>
   rcases cY.1 (by simpa using hx) with rfl | hx
   ·exact h.1
   ·exact nk a h.2 x hx
theorem nk {p:Nat}:∀ l:List Tm,nmTs p l=true->∀ x∈aC l,x.length<=p
 | [],_,x,hx=>by simp[aC]at hx
 | t :: l,h,x,hx=>by
  simp only[nmTs,ah]at h;unfold aC at hx;rcases List.mem_append.1 hx with hx | hx
  ·exact lS t h.1 x hx
  ·exact nk l h.2 x hx
end
theorem ll (t:Tm) (az:fitT t) (ok:Nat->Prop) (w:World) (q:TQ) (hq:TermV ok w q.val t) :
  Calls Tryz.prog 166 #[q.val] w fun e w'=>(∃v,e=.returned v/\RowS w.heap.size w' v (dF (aQ t)))/\RowKit.Below w.heap.size w w':=by
 have hq:=hq.lt;have oP:=aN (lQ t) az.1;obtain ⟨W2,bm⟩:=am ((w.alloc (.cells #[.bool q.v,.string q.n,.slice q.a q.l q.c] 43)).alloc (.cells #[.bool q.v,.string q.n,.slice q.a q.l q.c] 43));have bD:RowKit.Below w.heap.size w W2:=by rw[bm];exact cJ.alloc (by simp) _
 have ig:=wW bm;have o9:=jA bm;have C2:=DH (aQ t) oP (lS t az.2) 270 #[.pointer (some ⟨w.heap.size+1,0,none⟩)] W2 (enters_of Tryz.func270 (by kernel_rfl) rfl) (fun w1 hb hl=>AT t az (fun b=>b=W2.heap.size) W2.heap.size (w.heap.size+1) w1 q (bR hb o9) (by omega) ((hq.later (bD.trans (hb.mono bD.size))).move (fun b zbM hlt=>⟨⟨by omega,by omega⟩,rfl⟩)));have pp250:=();exact pm250
end Go.Proofs.YtokemihbkeddoaaGreatDoor
namespace Go.Proofs.YtokemihbkeddoaaGreatDoor
open Go Go.RowKit Lib
set_option maxRecDepth 100000
set_option maxHeartbeats 64000000
variable {sc:Bool} {o:Int} {n x y:Str} {a:List Tm} {s:List Fm} {u:Tm} {φ:Fm->Fm} {k:Nat} {g:Fm} {t:List Str}
inductive Dt where
 | lvl (i:Nat)
 | fre (n:Str)
 | app (n:Str) (a:List Dt)
inductive Df where
 | mk (op:Int) (n:Str) (a:List Dt) (s:List Df)
def upd (σ:Str->Dt) (n:Str) (v:Dt):Str->Dt:=fun x=>if x == n then v else σ x
mutual
def uA (σ:Str->Dt):Tm->Dt | .mk v n a=>if v then σ n else .app n (nX σ a)
def nX (σ:Str->Dt):List Tm->List Dt | []=>[] | t :: l=>uA σ t :: nX σ l
end
mutual
def dbF (σ:Str->Dt) (d:Nat):Fm->Df
 | .mk op n a s=>if bU op then .mk op [] (nX σ a) (pJ (upd σ n (.lvl d)) (d+1) s) else .mk op n (nX σ a) (pJ σ d s)
def pJ (σ:Str->Dt) (d:Nat):List Fm->List Df | []=>[] | t :: l=>dbF σ d t :: pJ σ d l
end
mutual
def qC:Tm->Bool | .mk v _ a=>(!v || a.isEmpty) && gL a
def gL:List Tm->Bool | []=>true | t :: l=>qC t && gL l
end
mutual
def mr:Fm->Bool | .mk _ _ a s=>gL a && iq s
def iq:List Fm->Bool | []=>true | t :: l=>mr t && iq l
end
mutual
theorem Ip:∀ t,jZ sc t=true->qC t=true
 | .mk v n a,h=>by
  simp only[jZ]at h
  cases v with
  | true=>
   simp only[↓reduceIte,ah]at h;have:a=[]:=by simpa using h.1
   subst this;simp[qC,gL]
  | false=>
   simp only[dE,↓reduceIte,ah]at h;simp[qC,DN a h.2.2]
theorem DN:∀ t,eu sc t=true->gL t=true
 | [],_=>by simp[gL]
 | t :: l,h=>by simp only[eu,ah]at h;simp[gL,Ip t h.1,DN l h.2]
end
mutual
theorem Iq:∀ t,okF sc t=true->mr t=true
 | .mk o n a s,h=>by
  simp only[okF,ah]at h;simp[mr,DN a h.2.2.2.1,Kn s h.2.2.2.2]
theorem Kn:∀ t,dD sc t=true->iq t=true
 | [],_=>by simp[iq]
 | t :: l,h=>by simp only[dD,ah]at h;simp[iq,Iq t h.1,Kn l h.2]
end
mutual
theorem Cf:∀ t,qC (aM t)=qC t
 | .mk v n a=>by
  simp only[aM,qC,rZ a];congr 2;cases a <;> simp[bS]
theorem rZ:∀ t,gL (bS t)=gL t
 | []=>by simp[bS]
 | t :: l=>by simp[bS,gL,Cf t,rZ l]
end
mutual
theorem Cg:∀ t,mr (bB t)=mr t
 | .mk o n a s=>by simp[bB,mr,rZ a,yJ s]
theorem yJ:∀ t,iq (bT t)=iq t
 | []=>by simp[bT]
 | t :: l=>by simp[bT,iq,Cg t,yJ l]
end
/-! free names -/
mutual
theorem DO (b:List Str):∀ (f:Fm) (c:List Str),bl (c ++ b) f=(bl c f).filter (fun x=>!b.contains x)
 | .mk o n a s,c=>by
  simp only[bl,List.filter_append,List.filter_filter];congr 1
  ·apply List.filter_congr;intro x _;rw[List.contains_eq_any_beq,List.any_append,<-List.contains_eq_any_beq,<-List.contains_eq_any_beq,Bool.not_or,Bool.and_comm]
  ·by_cases hq:bU o
   ·rw[aH hq,aH hq];exact kv b s (n :: c)
   ·rw[aw hq,aw hq];exact kv b s c
theorem kv (b:List Str):∀ (f:List Fm) (c:List Str),bP (c ++ b) f=(bP c f).filter (fun x=>!b.contains x)
 | [],c=>by simp[bP]
 | t :: l,c=>by simp[bP,DO b t c,kv b l c]
end
theorem nY (n:Str) (s:List Fm):bP [n] s=(bP [] s).filter (fun x=>!(x == n)):=by
 have h:=kv [n] s [];simp only[pf]at h;rw[h];apply List.filter_congr;intro x _;rw[gy];simp
mutual
theorem FM {σ τ:Str->Dt}:∀ (t:Tm),(∀ x∈aQ t,σ x=τ x)->uA σ t=uA τ t
 | .mk v n a,h=>by
  cases v with
  | true=>simp only[uA,↓reduceIte];exact h n (by simp[aQ])
  | false=>simp only[uA,dE,↓reduceIte];rw[uY a (fun x hx=>h x (by simpa[aQ] using hx))]
theorem uY {σ τ:Str->Dt}:∀ (t:List Tm),(∀ x∈aC t,σ x=τ x)->nX σ t=nX τ t
 | [],_=>rfl
 | t :: l,h=>by
  simp only[nX];rw[FM t (fun x hx=>h x (by simp[aC,hx])),uY l (fun x hx=>h x (by simp[aC,hx]))]
end
theorem DP (hq:bU o=true) (hx:x∈bP [] s) (hn:x≠n):x∈bl [] (.mk o n a s):=by
 simp only[bl,List.mem_append,hq,if_true];right;rw[nY];exact List.mem_filter.2 ⟨hx,by simpa using hn⟩
theorem DQ (hx:x∈aC a):x∈bl [] (.mk o n a s):=by
 simp only[bl,List.mem_append];left;exact List.mem_filter.2 ⟨hx,by simp⟩
mutual
theorem yK:∀ (f:Fm) (σ τ:Str->Dt) (d:Nat),(∀ x∈bl [] f,σ x=τ x)->dbF σ d f=dbF τ d f
 | .mk o n a s,σ,τ,d,h=>by
  have ha:nX σ a=nX τ a:=uY a (fun x hx=>h x (DQ hx));simp only[dbF,ha]
  by_cases hq:bU o
  ·rw[aH hq,aH hq];rw[uZ s (upd σ n (.lvl d)) (upd τ n (.lvl d)) (d+1) (fun x hx=>by
    unfold upd;split
    ·rfl
    ·rename_i hn;exact h x (DP hq hx (by simpa using hn)))]
  ·rw[aw hq,aw hq];rw[uZ s σ τ d (fun x hx=>h x (by simp only[bl,List.mem_append];right;rw[aw hq];exact hx))]
theorem uZ:∀ (f:List Fm) (σ τ:Str->Dt) (d:Nat),(∀ x∈bP [] f,σ x=τ x)->pJ σ d f=pJ τ d f
 | [],_,_,_,_=>rfl
 | t :: l,σ,τ,d,h=>by
  simp only[pJ];rw[yK t σ τ d (fun x hx=>h x (by simp[bP,hx])),uZ l σ τ d (fun x hx=>h x (by simp[bP,hx]))]
end
/-! alike: the same without bound names -/
def env:List Str->Str->Dt
 | [],x=>.fre x
 | n :: r,x=>if x == n then .lvl r.length else env r x
def db (f:Fm):Df:=dbF (env []) 0 f
/-! names put into a formula without bound names -/
mutual
def qone:Fm->Bool | .mk o _ a s=>(!bU o || (s.length == 1 && a.isEmpty)) && eO s
def eO:List Fm->Bool | []=>true | t :: l=>qone t && eO l
end
mutual
theorem xK:∀ t,okF sc t=true->qone t=true
 | .mk o n a s,h=>by
  simp only[okF,ah]at h;simp only[qone,ah,Bool.or_eq_true];refine ⟨?_,FN s h.2.2.2.2⟩;have h1:=h.2.1.2.2
  cases hq:bU o with
  | false=>exact .inl rfl
  | true=>
   simp only[bU,Bool.or_eq_true,f9]at hq;have e1:(rowOp o).2.2.2.2=1:=by rcases hq with rfl | rfl <;> decide
   have e2:(rowOp o).2.2.2.1=0:=by rcases hq with rfl | rfl <;> decide
   rw[e1]at h1;have h2:=h.2.1.2.1;rw[e2]at h2;have:a=[]:=List.length_eq_zero_iff.1 (by simpa using h2);subst this;exact .inr ⟨h1,rfl⟩
theorem FN:∀ t,dD sc t=true->eO t=true
 | [],_=>by simp[eO]
 | t :: l,h=>by simp only[dD,ah]at h;simp[eO,xK t h.1,FN l h.2]
end
/-! the least name that is not taken -/
def NH:List UInt8->Nat:=List.foldl (fun n c=>n * 10+(c.toNat - 48)) 0
theorem Lx (l:List UInt8) (c:UInt8):NH (l ++ [c])=NH l * 10+(c.toNat - 48):=by simp[NH,List.foldl_append]
theorem yL:∀ k n,n<10 ^ k->NH (AK k n)=n
 | 0,n,h=>by simp at h;subst h;rfl
 | k+1,n,h=>by
  unfold AK;split
  ·show 0 * 10+((UInt8.ofNat (48+n)).toNat - 48)=n;have:(UInt8.ofNat (48+n)).toNat=48+n:=by simp[UInt8.toNat_ofNat'];omega
   omega
  ·rw[Lx,yL k (n / 10) (by rw[Nat.pow_succ]at h;omega)];have:(UInt8.ofNat (48+n % 10)).toNat=48+n % 10:=by simp[UInt8.toNat_ofNat'];omega
   omega
theorem Ly {m n:Nat} (hm:m<10 ^ 20) (hn:n<10 ^ 20) (h:gO m=gO n):m=n:=by
 unfold gO at h;have h1:=congrArg NH (List.cons.inj h).2
 rwa [yL 20 m hm,yL 20 n hn]at h1
theorem xM {α:Type} [DecidableEq α]:∀ (l t:List α),l.Nodup->(∀ x∈l,x∈t)->l.length<=t.length
 | [],t,_,_=>bc _
 | a :: l,t,hn,hs=>by
  obtain ⟨h1,h2⟩:=List.nodup_cons.1 hn;have ha:=hs a (fD ..);have:=xM l (t.erase a) h2 (fun x hx=>(List.mem_erase_of_ne (fun e=>by subst e;exact h1 hx)).2 (hs x (eV _ hx)));rw[List.length_erase_of_mem ha]at this;have:=List.length_pos_of_mem ha;simp only[fN];omega
theorem r' (t:List Str) (ht:t.length<10 ^ 19):∀ k n,1<=n->n+k=t.length+1->(∀ i,1<=i->i<n->gO i∈t) →
  lu t k n ∉ t/\∃j,1<=j/\j<=t.length+1/\lu t k n=gO j/\∀ i,1<=i->i<j->gO i∈t
 | 0,n,h1,hk,hi=>by
  simp only[lu];refine ⟨fun hn=>?_,n,h1,by omega,rfl,hi⟩;have xJ:((List.range' 1 n).map gO).Nodup:=by
   rw[List.nodup_iff_pairwise_ne,List.pairwise_map];refine (List.nodup_iff_pairwise_ne.1 List.nodup_range').imp_of_mem ?_;intro a b ha hb AI he;rw[List.mem_range'_1]at ha hb;exact AI (Ly (by omega) (by omega) he)
  have:=xM _ t xJ (fun x hx=>by
   obtain ⟨i,uB,rfl⟩:=List.mem_map.1 hx;rw[List.mem_range'_1]at uB
   by_cases e:i=n
   ·subst e;exact hn
   ·exact hi i uB.1 (by omega))
  simp at this;omega
 | k+1,n,h1,hk,hi=>by
  unfold lu;split
  ·rename_i hc;refine r' t ht k (n+1) (by omega) (by omega) (fun i h2 h3=>?_)
   by_cases e:i=n
   ·subst e;simpa using hc
   ·exact hi i h2 (by omega)
  ·rename_i hc;exact ⟨by simpa using hc,n,h1,by omega,rfl,hi⟩
theorem qD (t:List Str) (ht:t.length<10 ^ 19):dL t ∉ t:=(r' t ht t.length 1 (aI _) (by omega) (fun i h1 h2=>by omega)).1
theorem tb (t:List Str) (ht:t.length<10 ^ 19):∃j,1<=j/\j<=t.length+1/\dL t=gO j/\∀ i,1<=i->i<j->gO i∈t:=(r' t ht t.length 1 (aI _) (by omega) (fun i h1 h2=>by omega)).2
theorem DR:∀ k n j,n<10 ^ j->1<=j->(AK k n).length<=j
 | 0,n,j,_,_=>by simp[AK]
 | k+1,n,j,h,hj=>by
  unfold AK;split
  ·simpa using hj
  ·rw[dZ]
   cases j with
   | zero=>omega
   | succ j=>
    cases j with
    | zero=>omega
    | succ j=>have:=DR k (n / 10) (j+1) (by rw[Nat.pow_succ]at h;omega) (by omega);simp;omega
/-! a term put for a name -/
theorem gH (f:Str->Option Tm):∀ l,ro f l=l.map (fR f)
 | []=>by simp[ro]
 | t :: l=>by simp[ro,gH f l]
mutual
theorem Q7 (σ:Str->Dt) (x:Str) (u:Tm):∀ t,uA σ (kB x u t)=uA (upd σ x (uA σ u)) t
 | .mk v n a=>by
  have ih:=pK σ x u a;simp only[el]at ih;unfold kB fR
  cases v with
  | true=>
   by_cases h:n == x
   ·simp[h,uA,upd]
   ·simp[h,uA,upd]
  | false=>
   simp only[dE,↓reduceIte,uA];rw[<-ih];congr 2;exact (gH _ a)
theorem pK (σ:Str->Dt) (x:Str) (u:Tm):∀ l,nX σ (el x u l)=nX (upd σ x (uA σ u)) l
 | []=>by simp[el,nX]
 | t :: l=>by
  have ih:=pK σ x u l;simp only[el]at ih ⊢;simp only[cK,nX,Q7 σ x u t,ih]
end
mutual
theorem Q8 {x:Str} (hu:qC u=true):∀ t,qC t=true->qC (kB x u t)=true
 | .mk v n a,h=>by
  have ih:=td (x:=x) hu a;simp only[qC,ah]at h;unfold kB fR
  cases v with
  | true=>
   obtain rfl:a=[]:=by simpa using h.1
   by_cases h1:n == x
   ·simp[h1,hu]
   ·simp[h1,qC,ro,gL]
  | false=>
   simp only[dE,↓reduceIte,qC,Bool.not_false,Bool.true_or,dU];rw[gH];exact ih h.2
theorem td {x:Str} (hu:qC u=true):∀ l,gL l=true->gL (el x u l)=true
 | [],_=>by simp[el,gL]
 | t :: l,h=>by
  have ih:=td (x:=x) hu l;simp only[el]at ih ⊢;simp only[gL,ah]at h;simp only[cK,gL,ah];exact ⟨Q8 hu t h.1,ih h.2⟩
end
mutual
theorem Ir {x:Str} {y:Str}:∀ t,qC t=true->dj (kB x (ap y) t)=dj t
 | .mk v n a,h=>by
  have ih:=pL (x:=x) (y:=y) a;simp only[qC,ah]at h;unfold kB fR
  cases v with
  | true=>
   obtain rfl:a=[]:=by simpa using h.1
   by_cases h1:n == x
   ·simp[h1,ap,dj]
   ·simp[h1,ro,dj]
  | false=>
   simp only[dE,↓reduceIte,dj];rw[gH];exact congrArg (·+1) (ih h.2)
theorem pL {x:Str} {y:Str}:∀ l,gL l=true->bH (el x (ap y) l)=bH l
 | [],_=>by simp[el]
 | t :: l,h=>by
  have ih:=pL (x:=x) (y:=y) l;simp only[el]at ih ⊢;simp only[gL,ah]at h;simp only[cK,bH,ih h.2,Ir t h.1]
end
theorem Ko (y:Str):qC (ap y)=true:=by simp[ap,qC,gL]
theorem nZ (hq:bU o=true) (h:qone (.mk o n a s)=true):a=[]/\∃g,s=[g]:=by
 simp only[qone,ah,Bool.or_eq_true,Bool.not_eq_true']at h;rcases h.1 with h | h
 ·rw[hq]at h;cases h
 ·exact ⟨by simpa using h.2,List.length_eq_one_iff.1 (by simpa using h.1)⟩
mutual
theorem Is {x:Str} {y:Str}:∀ t,qC t=true->nodesT (kB x (ap y) t)=nodesT t
 | .mk v n a,h=>by
  have ih:=pM (x:=x) (y:=y) a;simp only[qC,ah]at h;unfold kB fR
  cases v with
  | true=>
   obtain rfl:a=[]:=by simpa using h.1
   by_cases h1:n == x
   ·simp[h1,ap,nodesT]
   ·simp[h1,ro,nodesT]
  | false=>
   simp only[dE,↓reduceIte,nodesT];rw[gH];exact congrArg (·+1) (ih h.2)
theorem pM {x:Str} {y:Str}:∀ l,gL l=true->nodesTs (el x (ap y) l)=nodesTs l
 | [],_=>by simp[el]
 | t :: l,h=>by
  have ih:=pM (x:=x) (y:=y) l;simp only[el]at ih ⊢;simp only[gL,ah]at h;simp only[cK,nodesTs,ih h.2,Is t h.1]
end
theorem yM:∀ (s:List Fm),(∀ g∈s,nodesF (φ g)=nodesF g)->nodesFs (s.map φ)=nodesFs s
 | [],_=>rfl
 | g :: s,h=>by simp only[cK,nodesFs];rw[h g (fD ..),yM s (fun x hx=>h x (eV _ hx))]
theorem yN:∀ (s:List Fm),(∀ g∈s,depthF (φ g)=depthF g)->aY (s.map φ)=aY s
 | [],_=>rfl
 | g :: s,h=>by simp only[cK,aY];rw[h g (fD ..),yN s (fun x hx=>h x (eV _ hx))]
theorem jK:∀ (s:List Fm),iq s=true ↔ ∀ g∈s,mr g=true
 | []=>by simp[iq]
 | g :: s=>by simp[iq,jK s]
theorem ir:∀ (s:List Fm),eO s=true ↔ ∀ g∈s,qone g=true
 | []=>by simp[eO]
 | g :: s=>by simp[eO,ir s]
theorem ki:∀ (s:List Fm) (g:Fm),g∈s->depthF g<=aY s
 | [],g,h=>by cases h
 | x :: s,g,h=>by
  simp only[aY];rcases cY.1 h with rfl | h
  ·omega
  ·have:=ki s g h;omega
theorem lA:∀ (s:List Fm) (g:Fm),g∈s->nodesF g<=nodesFs s
 | [],g,h=>by cases h
 | x :: s,g,h=>by
  simp only[nodesFs];rcases cY.1 h with rfl | h
  ·omega
  ·have:=lA s g h;omega
mutual
theorem nl:∀ t,(aQ t).length<=nodesT t
 | .mk v n a=>by
  have:=r_ a;simp only[aQ,nodesT];split <;> simp <;> omega
theorem r_:∀ t,(aC t).length<=nodesTs t
 | []=>by simp[aC]
 | t :: l=>by have:=nl t;have:=r_ l;simp only[aC,nodesTs,dZ];omega
end
mutual
theorem gC:∀ (f:Fm) (b:List Str),(bl b f).length<=nodesF f
 | .mk o n a s,b=>by
  have h1:=r_ a;have h2:=Ch s (if bU o then n :: b else b);have h3:=List.length_filter_le (fun x=>!b.contains x) (aC a);simp only[bl,nodesF,dZ];omega
theorem Ch:∀ (f:List Fm) (b:List Str),(bP b f).length<=nodesFs f
 | [],b=>by simp[bP]
 | t :: l,b=>by have:=gC t b;have:=Ch l b;simp only[bP,nodesFs,dZ];omega
end
theorem lB (f:Fm):1<=depthF f:=by obtain ⟨o,n,a,s⟩:=f;simp[depthF]
theorem n8 (hq:bU o=true):eQ (k+1) x u (.mk o n a [g]) =
  if n == x || !(bl [] g).contains x then .mk o n a [g]
  else if (aQ u).contains n then .mk o (dL (bl [] g ++ aQ u)) (el x u a) [eQ k x u (eQ k n (ap (dL (bl [] g ++ aQ u))) g)]
  else .mk o n (el x u a) [eQ k x u g]:=by
 simp only[eQ,hq,if_true]
theorem u_ (hq:bU o=false):eQ (k+1) x u (.mk o n a s)=.mk o n (el x u a) (s.map (eQ k x u)):=by
 simp only[eQ,hq,dE,↓reduceIte]
theorem gI:∀ (k:Nat) (f:Fm) (x y:Str),mr f=true->qone f=true->depthF f<=k->mr (eQ k x (ap y) f)=true/\qone (eQ k x (ap y) f)=true/\depthF (eQ k x (ap y) f)=depthF f/\nodesF (eQ k x (ap y) f)=nodesF f
 | 0,f,x,y,hw,hq,hd=>by have:=lB f;omega
 | k+1,.mk o n a s,x,y,hw,hq1,hd=>by
  have mn:=hw;have pp132a:=();exact pm132
theorem yO (σ:Str->Dt) (h:x≠y) (u v:Dt):upd (upd σ x u) y v=upd (upd σ y v) x u:=by
 funext z
 unfold upd
 by_cases h1:z=x
 ·subst h1;have:(z == y)=false:=by simpa using h
  simp[this]
 ·have:(z == x)=false:=by simpa using h1
  simp[this]
theorem FO (h:(aQ u).contains n=false) (σ:Str->Dt) (v:Dt):uA (upd σ n v) u=uA σ u:=by
 refine FM u (fun z hz=>?_);unfold upd;split
 ·rename_i h1;rw[f9]at h1;subst h1;have:(aQ u).contains z=true:=by simpa using hz
  rw[h]at this;cases this
 ·rfl
theorem FP (φ:Fm->Fm) (σ τ:Str->Dt) (d:Nat):∀ (s:List Fm),(∀ g∈s,dbF σ d (φ g)=dbF τ d g)->pJ σ d (s.map φ)=pJ τ d s
 | [],_=>rfl
 | g :: s,h=>by simp only[cK,pJ];rw[h g (fD ..),FP φ σ τ d s (fun x hx=>h x (eV _ hx))]
theorem NI {m:Str} (h:m ∉ bl [] g) (σ:Str->Dt) (v:Dt) (d:Nat):dbF (upd σ m v) d g=dbF σ d g:=by
 refine yK g _ _ d (fun z hz=>?_);unfold upd;split
 ·rename_i h1;rw[f9]at h1;subst h1;exact absurd hz h
 ·rfl
theorem te:∀ (k:Nat) (f:Fm) (x:Str) (u:Tm) (σ:Str->Dt) (d:Nat),mr f=true->qone f=true->depthF f<=k->nodesF f+nodesT u<10 ^ 19->dbF σ d (eQ k x u f)=dbF (upd σ x (uA σ u)) d f
 | 0,f,x,u,σ,d,hw,hq,hd,hn=>by have:=lB f;omega
 | k+1,.mk o n a s,x,u,σ,d,hw,hq1,hd,hn=>by
  have pp132b:=();exact pm132
theorem NJ:∀ k n,n<10 ^ (k+1)->AK (k+1) n=Lib.decDigits n:=by
 intro k
 induction k with
 | zero=>intro n h;rw[AK,aH (by omega),Lib.decDigits,dif_pos (by omega)]
 | succ k ih=>
  intro n h;rw[AK,Lib.decDigits]
  by_cases hn:n<10
  ·rw[aH hn,dif_pos hn]
  ·rw[aw hn,dif_neg hn,ih (n / 10) (by rw[Nat.pow_succ]at h;omega)]
theorem It {n:Nat} (h:n<10 ^ 20):gO n=120 :: Lib.itoa (n:Int):=by
 unfold gO;rw[NJ 19 n h,Lib.itoa,aw (by omega)];simp
theorem FR (ht:t.length<10 ^ 19) {j:Nat} (h1:1<=j) (hn:gO j ∉ t) (hb:∀ i,1<=i->i<j->gO i∈t):dL t=gO j:=by
 obtain ⟨j',U2,oP,he,S9⟩:=tb t ht;have Ci:=qD t ht;rw[he]at Ci;rcases Nat.lt_trichotomy j j' with h | h | h
 ·exact absurd (S9 j h1 h) hn
 ·rw[he,h]
 ·exact absurd (hb j' U2 h) Ci
theorem Iu (ht:t.length<10 ^ 19) {n:Nat} (hb:∀ i,1<=i->i<n->gO i∈t):n<=t.length+1:=by
 obtain ⟨j',U2,oP,he,_⟩:=tb t ht;have Ci:=qD t ht;rw[he]at Ci
 by_cases h:j'<n
 ·exact absurd (hb j' U2 h) Ci
 ·omega
theorem Cj {t':List Str} (ht:t.length<10 ^ 19) (ht':t'.length<10 ^ 19) (h:∀ x,x∈t ↔ x∈t'):dL t=dL t':=by
 obtain ⟨j',U2,oP,he,S9⟩:=tb t' ht';have Ci:=qD t' ht';rw[he]at Ci ⊢;exact FR ht U2 (fun hx=>Ci ((h _).1 hx)) (fun i h1 h2=>(h _).2 (S9 i h1 h2))
