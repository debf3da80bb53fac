/-
The iterator of a term's names.
-/
import Derived.Test.YtokemihbkeddoaaGreatDoorShelf
import Derived.Test.YtokemihbkeddoaaGreatDoorV02
namespace Go.Proofs.YtokemihbkeddoaaGreatDoor
open Go Go.RowKit Lib
set_option maxRecDepth 100000
set_option maxHeartbeats 64000000
variable {l:List Fm} {k m:Nat} {ok:Nat->Prop} {W:World} {v:Value} {t:Tm} {sc:Bool} {n s x:Str} {xs:List Str} {α:Type} {c:Sco} {f im:Fm} {p:Pl}
section
attribute [local go_sem] Oper.semAt_some
theorem fj {l:List Tm} {k:Nat} (h:k<l.length):aw (l.take (k+1))=aw (l.take k) ++ aN l[k]:=by
 induction l generalizing k with
 | nil=>simp at h
 | cons t l ih=>
  cases k with
  | zero=>simp[aw]
  | succ k=>have:=ih (k:=k) (by simpa using h);simp[aw]at this ⊢;rw[this]
theorem fQ:∀ l m,aw (l ++ m)=aw l ++ aw m
 | [],m=>rfl
 | t :: l,m=>by simp[aw,fQ l m]
def zb (_:World) (vs:Array Value) (x:Str):Prop:=vs=#[.string ⟨x.toArray⟩]
theorem BE:∀ (t:Tm),fitT t->∀ (M:Nat->Prop) (B l:Nat) (J:List Str->World->Prop) (xs pre:List Str) (W:World) (q:TQ),(∀ b,M b->b<W.heap.size)->(∀ s,Abides W.heap.size (J s))->YieldK M l J zb xs W->TermV (fun b=>b<B/\¬M b) W q.val t->(pre ++ aN t) <+: xs->J pre W →
  Calls Tryz.prog 214 #[q.val,.func (.yield l) #[] #[]] W fun e W'=>e=.returned (.bool true)/\J (pre ++ aN t) W'/\Kp M W W':=by
 intro t
 induction t using Tm.ind with
 | h v n a ih=>
  intro aA M B l J xs pre W q hM hJ hY hq dt hj;obtain ⟨qv,qn,qa,ql,qc⟩:=q;obtain ⟨sa,hs,bO⟩:=aV.1 hq;have pp38d:=();exact pm38
theorem BG (q:TQ) (w:World) :
  Calls Tryz.prog 220 #[q.val] w fun e w'=>e=.returned (.func (.func 270) #[] #[.pointer (some ⟨w.heap.size,0,none⟩)])/\w'=w.alloc (.cells #[.bool q.v,.string q.n,.slice q.a q.l q.c] 43):=by
 obtain ⟨v,n,a,l,c⟩:=q;unfold TQ.val;go_enter Tryz.func220,Tryz.ntmps220;go_wp2;go_ret;exact ⟨rfl,rfl⟩
theorem BH (t:Tm) (aA:fitT t) (M:Nat->Prop) (B X:Nat) (w:World) (q:TQ) (hX:w.heap[X]?=some (.cells #[.bool q.v,.string q.n,.slice q.a q.l q.c] 43 (0,0))) (IK:¬M X) (hq:TermV (fun b=>b<B/\¬M b) w q.val t) :
  I2 M False Tryz.prog 270 #[.pointer (some ⟨X,0,none⟩)] (aN t) zb w:=by
 have pp210a:=();exact pm210
end
theorem TermV.lt (h:TermV ok W v t):TermV (fun b=>b<W.heap.size) W v t:=h.move (fun _ _ hlt=>⟨hlt,rfl⟩)
theorem FormV.lt {t:Fm} (h:FormV ok W v t):FormV (fun b=>b<W.heap.size) W v t:=h.move (fun _ _ hlt=>⟨hlt,rfl⟩)
theorem OY (t:Tm) (hf:fitT t) (ok:Nat->Prop) (w:World) (q:TQ) (hq:TermV ok w q.val t) :
  Calls Tryz.prog 68 #[q.val] w fun e w'=>e=.returned (.bool (gw false t))/\Below w.heap.size w w':=by
 have hn:=hf.1;have hdn:=qu t;obtain ⟨W2,bl⟩:=ao ((w.alloc (.cells #[.bool q.v,.string q.n,.slice q.a q.l q.c] 43)).alloc (.cells #[.bool false,.int .i64 9223372036854775807,.int .i64 9223372036854775807] 111));have hB:=lB bl;have hJ:JAt (w.heap.size+1) false 9223372036854775807 9223372036854775807 W2:=by rw[bl];exact aj (by simp)
 have C:=OT t hf _ (w.heap.size+1) false 9223372036854775807 9223372036854775807 1 W2 q (hq.lt.later hB) (fun b hb=>by omega) hJ (by omega) (by omega) (by omega) (by omega) (by omega);have hb:(gw false t && (decide ((nodesT t:Int)<=9223372036854775807) && decide (1+(cY t:Int)<=9223372036854775807+1)))=gw false t:=by
  have e1:decide ((nodesT t:Int)<=9223372036854775807)=true:=by simp;omega
  have e2:decide (1+(cY t:Int)<=9223372036854775807+1)=true:=by simp;omega
  rw[e1,e2];simp
 rw[hb]at C;obtain ⟨HC,HB⟩:=aZ C hB;clear C hB hJ hb hn hdn hq hf;have HW:=ab bl;rw[bl]at HC;clear bl;unfold TQ.val at HC ⊢;obtain ⟨bb,cK⟩:=ao (gw false t);rw[<-cK]at HC ⊢;clear cK;cases bb
 all_goals
  go_enter Tryz.func68,Tryz.ntmps68;go_wp2_with (go_at_call 122;refine HC.o.mono ?_;rintro e w3 ⟨rfl,iV,_⟩;have mN:=ab iV;clear iV);go_ret;refine ⟨rfl,?_⟩;rw[<-HW.o]at mN;exact Below.kp1 HB.o mN.o (by omega)
theorem ro (s:Nat) (hs:s<4) (n:Str) (hn:n.length<=1000000000) (w:World) :
  Calls Tryz.prog 116 #[.int .u8 s,.string ⟨n.toArray⟩] w fun e w'=>e=.returned (.bool (oA s n))/\Below w.heap.size w w':=by
 have r':s=0\/s=1\/s=2\/s=3:=by omega
 rcases r' with rfl | rfl | rfl | rfl
 ·go_enter Tryz.func116,Tryz.ntmps116;go_wp2;go_ret;exact ⟨rfl,ak _ _⟩
 ·go_enter Tryz.func116,Tryz.ntmps116;go_wp2_with (go_at_call 120;refine (nc n _ hn).mono ?_;rintro e w' ⟨rfl,hb⟩);go_ret;exact ⟨rfl,hb⟩
 ·go_enter Tryz.func116,Tryz.ntmps116;go_wp2_with (go_at_call 152;refine (iI n _ hn).mono ?_;rintro e w' ⟨rfl,hb⟩);go_ret;exact ⟨rfl,hb⟩
 ·go_enter Tryz.func116,Tryz.ntmps116;go_wp2_with (go_at_call 185;refine (ne n _ hn).mono ?_;rintro e w' ⟨rfl,hb⟩);go_ret;exact ⟨rfl,hb⟩
theorem OZ {l:List Tm} (h:l.length≠2):tJ l=false:=by
 match l with
 | []=>rfl
 | [_]=>rfl
 | [_,_]=>exact absurd rfl h
 | _ :: _ :: _ :: _=>rfl
theorem lI (l:List Tm) (hf:fitTs l) (ok:Nat->Prop) (a:Option Addr) (n c:Nat) (w:World) (hv:TermsV ok w (.slice a n c) l) :
  Calls Tryz.prog 117 #[.slice a n c] w fun e w'=>e=.returned (.bool (tJ l))/\Below w.heap.size w w':=by
 obtain rfl:=hv.len
 by_cases hl:l.length=2
 ·obtain ⟨x,y,rfl⟩:∃x y,l=[x,y]:=by
   match l,hl with
   | [x,y],_=>exact ⟨x,y,rfl⟩
  obtain ⟨b,off,u,rfl,_,hu,c0,c1,c2⟩:=hv.get (j:=0) (by simp);obtain ⟨b',nh,u',cK,_,iA,mI,nU,nV⟩:=hv.get (j:=1) (by simp);simp only[gz,Addr.mk.injEq,and_true]at cK;obtain ⟨rfl,rfl⟩:=cK;simp only[List.getElem_cons_zero,List.getElem_cons_succ]at hu iA;have hfx:=hf.mem (t:=x) (by simp);have hfy:=hf.mem (t:=y) (by simp);obtain ⟨xv,xn,xa⟩:=x;obtain ⟨yv,yn,ya⟩:=y;obtain ⟨s1,h1,_⟩:=aV.1 hu;obtain ⟨s2,h2,_⟩:=aV.1 iA;have tP:=hfx.name;have tC:=hfy.name;have oL:xn.length<=1000000000:=by omega
  have hy2:yn.length<=1000000000:=by omega
  obtain ⟨uv,un,ua,ul,uc⟩:=u;obtain ⟨vv,vn,va,vl,vc⟩:=u';have pp76a:=();exact pm76
 ·rw[OZ hl];have sx:((l.length:Int) == 2)=false:=by simp;omega
  have HV:=ab hv;clear hv hf;obtain ⟨n,hn⟩:=ao l.length;rw[<-hn]at sx hl ⊢;clear hn HV;go_enter Tryz.func117,Tryz.ntmps117;go_wp2;go_ret;exact ⟨rfl,ak _ _⟩
def zam (W0:World) (t:Fm):Prop:=∀ (ok:Nat->Prop) (J:Nat) (sc:Bool) (left bz ba:Int) (w:World) (q:FQ),Tabs W0 w->W0.heap.size<=J->FormV ok w q.val t->(∀ b,ok b->b≠J)->JAt J sc left bz w->0<=left->left<=9223372036854775807->bz<=9223372036854775807->1<=ba->ba+nodesF t<=100000000 →
 Calls Tryz.prog 64 #[.pointer (some ⟨J,0,none⟩),q.val,.int .i64 ba] w (JPost J sc left bz (nodesF t) (okF sc t && (decide ((nodesF t:Int)<=left) && decide (ba+depthF t<=bz+1))) w)
theorem dl {k:Nat} (h:k<l.length):nodesFs (l.take (k+1))=nodesFs (l.take k)+nodesF l[k]:=by
 induction l generalizing k with
 | nil=>simp at h
 | cons t l ih=>
  cases k with
  | zero=>simp[nodesFs]
  | succ k=>have:=ih (k:=k) (by simpa using h);simp[nodesFs]at this ⊢;omega
theorem hO {k:Nat} (h:k<l.length):aT (l.take (k+1))=max (aT (l.take k)) (depthF l[k]):=by
 induction l generalizing k with
 | nil=>simp at h
 | cons t l ih=>
  cases k with
  | zero=>simp[aT]
  | succ k=>have:=ih (k:=k) (by simpa using h);simp[aT]at this ⊢;omega
theorem j8 {k:Nat} (h:k<l.length):cG sc (l.take (k+1))=(cG sc (l.take k) && okF sc l[k]):=by
 induction l generalizing k with
 | nil=>simp at h
 | cons t l ih=>
  cases k with
  | zero=>simp[cG]
  | succ k=>have:=ih (k:=k) (by simpa using h);simp[cG]at this ⊢;rw[this,Bool.and_assoc]
theorem bS (l:List Fm) (k:Nat):nodesFs (l.take k)<=nodesFs l:=by
 induction l generalizing k with
 | nil=>simp
 | cons t l ih=>cases k with
  | zero=>simp[nodesFs]
  | succ k=>have:=ih k;simp[nodesFs];omega
theorem mS {k:Nat} (h:k<l.length):depthF l[k]<=aT l:=by
 induction l generalizing k with
 | nil=>simp at h
 | cons t l ih=>
  cases k with
  | zero=>simp[aT];omega
  | succ k=>have:=ih (k:=k) (by simpa using h);simp[aT];omega
theorem tQ {k:Nat} (h:k<l.length) (hf:okF sc l[k]=false):cG sc l=false:=by
 induction l generalizing k with
 | nil=>simp at h
 | cons t l ih=>
  cases k with
  | zero=>simp at hf;simp[cG,hf]
  | succ k=>have:=ih (k:=k) (by simpa using h) (by simpa using hf);simp[cG,this]
theorem ME {o:Int} (h:17<=o):rowOp o=(false,false,0,0,0):=by
 unfold rowOp;simp[show o≠1 by omega,show o≠2 by omega,show o≠8 by omega,show o≠9 by omega,show o≠3 by omega,show ¬o<=13 by omega,show ¬o<=7 by omega,show o≠14 by omega,show o≠15 by omega,show o≠16 by omega]
theorem Jb (o:Int):(rowOp o).2.2.1<4/\(rowOp o).2.2.2.1<=4/\(rowOp o).2.2.2.2<=2:=by
 unfold rowOp
 repeat' split
 all_goals simp
theorem Sx (sc:Bool) (o:Int) (n:Str) (a:List Tm) (s:List Fm) (left bz ba:Int) :
  (okF sc (.mk o n a s) && (decide ((nodesF (.mk o n a s):Int)<=left) && decide (ba+depthF (.mk o n a s)<=bz+1))) =
  (((rowOp o).1 || (sc && (rowOp o).2.1)) && ((oA (rowOp o).2.2.1 n && (decide (a.length<=(rowOp o).2.2.2.1) && s.length == (rowOp o).2.2.2.2)) && ((o != 16 || tJ a) && ((dB sc a && (decide ((nodesTs a:Int)<=left - 1) && decide (ba+1+bx a<=bz+1))) && (cG sc s && (decide ((nodesFs s:Int)<=left - 1 - nodesTs a) && decide (ba+1+aT s<=bz+1))))))):=by
 have e1:decide ((nodesF (.mk o n a s):Int)<=left)=(decide ((nodesTs a:Int)<=left - 1) && decide ((nodesFs s:Int)<=left - 1 - nodesTs a)):=by
  rw[gA,ae,bw,bw,bw];unfold nodesF;omega
 have e2:decide (ba+depthF (.mk o n a s)<=bz+1)=(decide (ba+1+bx a<=bz+1) && decide (ba+1+aT s<=bz+1)):=by
  rw[gA,ae,bw,bw,bw];unfold depthF;omega
 rw[e1,e2];unfold okF;generalize decide ((nodesTs a:Int)<=left - 1)=x1;generalize decide ((nodesFs s:Int)<=left - 1 - nodesTs a)=x2;generalize decide (ba+1+bx a<=bz+1)=x3;generalize decide (ba+1+aT s<=bz+1)=x4;generalize dB sc a=x5;generalize cG sc s=x6;generalize ((rowOp o).1 || (sc && (rowOp o).2.1))=x7;generalize (oA (rowOp o).2.2.1 n && (decide (a.length<=(rowOp o).2.2.2.1) && s.length == (rowOp o).2.2.2.2))=x8;generalize (o != 16 || tJ a)=x9;revert x1 x2 x3 x4 x5 x6 x7 x8 x9;decide
section
attribute [local go_sem] Oper.semAt_some run_makeMap
def SetW (W:World) (m n:Nat) (xs:List Str):Prop:=∃D:DataW Unit,W.ownsMap Tryz.prog 9 (plainElem Tryz.prog 4) m n D/\(∀ x:Str,Maps.has D (.string x)=true ↔ x∈xs)/\∀ x∈xs,∀ d,D.atKey (.string x) d=.lit (.bool true)
theorem SetW.same {W':World} {n:Nat} (h:SetW W m n xs) (hb:W'.heap[m]?=W.heap[m]?):SetW W' m n xs:=by
 obtain ⟨D,⟨es,zd,h1,F,h2,h3⟩,hx⟩:=h;exact ⟨D,⟨es,zd,hb.trans h1,F,h2,h3⟩,hx⟩
theorem SetW.lt {n:Nat} (h:SetW W m n xs):m<W.heap.size:=by
 obtain ⟨D,h,_⟩:=h;exact h.lt
theorem Ed (xs:List Str) (cf:xs.length<=2000000) (dK:∀ x∈xs,x.length<=2000000) (gf:Nat) (lb:Array Value) (w:World) (eg:∀ args W,(callFunc gf args).run Tryz.prog W=.ok (.enter gf args) W)
  (oB:∀ w1,Below w.heap.size w w1->w.heap.size<w1.heap.size->I2 (fun b=>b=w.heap.size) False Tryz.prog gf lb xs zb w1) :
  Calls Tryz.prog 84 #[.func (.func gf) #[] lb] w fun e w'=>e=.returned (.map (some w.heap.size))/\SetW w' w.heap.size xs.length xs/\Below w.heap.size w w':=by
 obtain ⟨tR,Jc,HSq⟩:=cD cf dK oB;clear cf dK oB;refine K_ ?_;refine callsIn_of_wp_marks Tryz.func84 rfl trivial ?_ rfl;simp only[Tryz.ntmps84,Nat.reduceAdd,Nat.reduceSub,li];have jH:=eU;gi_wp2;obtain ⟨w1,ye⟩:=ao ((w.alloc (.map #[] 0)).alloc (.cells #[.map (some w.heap.size)] 118));have hb1:=lB ye;have iq:=xV ye;have FD:SetW w1 w.heap.size 0 []:=by
  rw[ye];exact ⟨_,(World.ownsMap_made w _ _ _).alloc _,fun x=>by simp[Maps.has],fun x hx=>by simp at hx⟩
 have xB:=jC ye;rw[<-ye];clear ye;obtain ⟨dO,R1,HS0,HXB⟩:=eR hb1 iq FD xB;clear hb1 iq FD xB;refine gd rfl eg (fun b hb=>by subst hb;have:=R1.o;omega) (HSq.o w1 dO.o (by have:=R1.o;omega)) (fun _ _ _ h=>by cases h;rfl)
  (fun pre X=>SetW X w.heap.size pre.length pre/\Kp (fun b=>b=w.heap.size) w1 X) (fun _ _ _=>False) (fun s=>?hI) (fun _ _ _ _ _ h=>h.elim) ⟨HS0.o,Kp.refl _⟩ ?round ?done (fun _ _ _ _ h=>h.elim)
 case hI=>
  rintro X Y hn ⟨h1,h2⟩;have hl:=h1.lt;have hz:=R1.o;exact ⟨h1.same (hn.old (by omega) hl),hn.os.trans h2.os,hn.tape.trans h2.tape,hn.output.trans h2.output,aQ h2.size hn.size,fun b hb hm=>(hn.old hb (bN hb h2.size)).trans (h2.same b hb hm)⟩
 case done=>
  rintro D X hD ⟨hs,bj⟩ _ hd;have c0:X.cell? ⟨w.heap.size+1,0,none⟩=some (.map (some w.heap.size)):=ah ((bj.same _ (by have:=R1.o;omega) (by omega)).trans HXB.o) 0;obtain ⟨HS,HK,HD,HDl⟩:=eR hs bj hd hD;clear hs bj hd hD;gi_wp2;refine ⟨by simp,.inl ⟨_,_,rfl,run_takeDeferred HD.o,?_⟩⟩;refine ⟨.map (some w.heap.size),by simp[results,Tryz.results84,go_sem],rfl,?_,?_⟩
  ·exact HS.o.same (nJ (by have:=R1.o;have:=HDl.o;omega))
  ·have hk:=D5 (.deferred none) HK.o HDl.o;exact pm164
 case round=>
  rintro l pre vs x W hl yf ⟨hs,bj⟩ hat _ dt;cases hat;obtain ⟨HS,HK,HLr,nS⟩:=eR hs bj yf dt;clear hs bj yf dt;gi_wp2;refine ⟨Kp.refl _,⟨HS.o,HK.o⟩,fun W2 gE lg fW=>?_⟩;have hxm:x∈xs:=nS.o.subset (by simp);have yg:(⟨x.toArray⟩:ByteArray).size<=maxLen:=by have:=Jc.o x hxm;have e:(⟨x.toArray⟩:ByteArray).size=x.length:=rfl;rw[e];unfold maxLen;omega
  have BI:keyOf Tryz.prog 9 (.string ⟨x.toArray⟩)=some (.string x):=by rw[WideMaps.keyOf_string_mk Tryz.underlying9 yg]
  have lJ:pre.length<maxLen:=by
   have h1:(pre ++ [x]).length<=xs.length:=nS.o.length_le;have:=tR.o;simp at h1;unfold maxLen;omega
  obtain ⟨⟨D,au,oM,mn⟩,_⟩:=lg;have c0:W2.cell? ⟨w.heap.size+1,0,none⟩=some (.map (some w.heap.size)):=ah ((fW.same _ (by have:=R1.o;omega) (by omega)).trans HXB.o) 0;obtain ⟨HH,zcl,HK2,HM⟩:=eR oM mn fW au.isMap;clear oM mn fW yg hxm;gi_wp2_with (gi_at_mapUpdate;refine wpListIn_mapUpdate_own _ rfl _ _ _ 118 rfl 9 4 (Maps.string_keyed Tryz.underlying9) Tryz.underlying118 (plainElem Tryz.prog 4) w.heap.size pre.length D rfl au lJ _ _ (.string x) rfl rfl BI (.lit (.bool true)) [] (plainElem_bool Tryz.underlying4 true) ?_;intro w4 aR ap;have HG:=aC aR ap;clear aR ap);have j7:Kp (fun b=>b=w.heap.size) W2 w4:=Kp.grown HG.o.2 rfl;refine ⟨j7,⟨_,by rw[di];exact HG.o.1,fun y=>?_,fun y hym d=>?_⟩,HK2.o.trans j7⟩
  rotate_left
  ·by_cases hy:y=x
   ·subst hy;rw[Maps.atKey_put_same HM.o (by simp[WideAt.IsKeyLit])]
   ·rw[Maps.atKey_put_other (fun h=>hy (by injection h))];exact zcl.o y (by simpa[hy] using hym) d
  by_cases hy:y=x
  ·subst hy;rw[Maps.has_put_same HM.o (by simp[WideAt.IsKeyLit])];simp
  ·rw[Maps.has_put_other (fun h=>hy (by injection h))];rw[HH.o];simp[hy]
end
theorem Gb (x:Str) (v:α):∀ (l:List (Str×α)),getB l x=none->∀ y,getB (iE x v l) y=if x == y then some v else getB l y
 | [],_,y=>rfl
 | (z,u) :: r,h,y=>by
  unfold getB at h;have hz:(z == x)=false:=by
   cases hz:z == x
   ·rfl
   ·simp[hz]at h
  simp only[hz,bZ,↓reduceIte]at h;unfold iE;split
  ·rfl
  ·show (if z == y then some u else getB (iE x v r) y)=_;rw[Gb x v r h y];show _=if x == y then some v else if z == y then some u else getB r y
   by_cases h1:z == y
   ·have h2:(x == y)=false:=by
     rw[fY]at h1;subst h1;rw[Bool.eq_false_iff]at hz ⊢;intro h3;exact hz (by simpa using (fY.1 h3).symm)
    simp[h1,h2]
   ·simp[h1]
structure Sub (k k':Bd):Prop where
 f:∀ n v,getB k.fs n=some v->getB k'.fs n=some v
 t:∀ n v,getB k.ts n=some v->getB k'.ts n=some v
theorem Sub.refl (k:Bd):Sub k k:=⟨fun _ _ h=>h,fun _ _ h=>h⟩
theorem Sub.trans {a b c:Bd} (h:Sub a b) (g:Sub b c):Sub a c:=⟨fun n v e=>g.f n v (h.f n v e),fun n v e=>g.t n v (h.t n v e)⟩
def SubL {α:Type} (k k':List (Str×α)):Prop:=∀ n v,getB k n=some v->getB k' n=some v
theorem SubL.refl (k:List (Str×α)):SubL k k:=fun _ _ h=>h
theorem SubL.trans {a b c:List (Str×α)} (h:SubL a b) (g:SubL b c):SubL a c:=fun n v e=>g n v (h n v e)
/-! equality -/
mutual
theorem MF:∀ t,vO t t=true
 | .mk v n a=>by simp[vO,oN a]
theorem oN:∀ l,jm l l=true
 | []=>by simp[jm]
 | t :: l=>by simp[jm,MF t,oN l]
end
mutual
theorem Gc:∀ t u,vO t u=true ↔ t=u
 | .mk v n a,.mk v' n' a'=>by simp[vO,gP a a',and_assoc]
theorem gP:∀ l m,jm l m=true ↔ l=m
 | [],[]=>by simp[jm]
 | [],_ :: _=>by simp[jm]
 | _ :: _,[]=>by simp[jm]
 | t :: l,u :: m=>by simp[jm,Gc t u,gP l m]
end
mutual
theorem nW:∀ t u,vP t u=true ↔ t=u
 | .mk v n a s,.mk v' n' a' s'=>by simp[vP,gP a a',nX s s',and_assoc]
theorem nX:∀ l m,nM l m=true ↔ l=m
 | [],[]=>by simp[nM]
 | [],_ :: _=>by simp[nM]
 | _ :: _,[]=>by simp[nM]
 | t :: l,u :: m=>by simp[nM,nW t u,nX l m]
end
/-! a formula is alike to itself -/
/-! what has matched once matches again -/
theorem oO:∀ (l:List (Fm×Fm)) (i:Nat),e8 i l=none ↔ ∀ x∈l,(schemaF x.1 && dn x.2)=true
 | [],i=>by simp[e8]
 | (s,f) :: l,i=>by
  unfold e8;split
  ·rename_i h;rw[oO l (i+1)];constructor
   ·intro h2 x hx;rcases dw.1 hx with rfl | hx
    ·exact h
    ·exact h2 x hx
   ·exact fun h2 x hx=>h2 x (iU _ hx)
  ·rename_i h;constructor
   ·intro h2;cases h2
   ·intro h2;exact absurd (h2 (s,f) (ij ..)) h
/-! what is found is valid -/
theorem O0 (h:i8 s=true):dZ s=false:=by
 unfold i8 at h
 cases s with
 | nil=>simp[dZ]
 | cons c r=>
  have pp212:=();exact pm212
theorem Gd (h:i8 s=true):da s=false:=by
 unfold i8 at h
 cases s with
 | nil=>simp[da,dA,cW]
 | cons c r=>
  exact pm212
theorem MG (h:i8 s=true):dZ (cM s)=true:=by simp[dZ,cM,h]
def VarsOk (l:List Str):Prop:=∀ x∈l,i8 x=true
theorem ze:∀ (c:Sco) (inn:List Str) (y:Str),e7.go x c inn=some y->y=x\/∃s∈c.map (·.1),y=cM s
 | [],inn,y,h=>by simp only[e7.go,gz]at h;exact .inl h.symm
 | (s,a) :: r,inn,y,h=>by
  unfold e7.go at h;split at h
  ·split at h
   ·cases h
   ·simp only[gz]at h;exact .inr ⟨s,by simp,h.symm⟩
  ·rcases ze r (s :: inn) y h with h | ⟨z,hz,h⟩
   ·exact .inl h
   ·exact .inr ⟨z,by simp only[cU,dw];exact .inr hz,h⟩
theorem Jd {y:Str} (h:e7 c x=some y):y=x\/∃s∈c.map (·.1),y=cM s:=ze c [] y h
mutual
theorem Ee (hc:VarsOk (c.map (·.1))) (ins:List Str):∀ (t u:Tm),gw false t=true->lD c ins t=some u->gw false (aM u)=true/\nodesT u=nodesT t/\cY u=cY t
 | .mk v n a,u,hok,h=>by
  unfold lD at h;unfold gw at hok
  cases v with
  | true=>
   simp only[↓reduceIte,Bool.false_and,Bool.or_false,ae]at h hok;obtain ⟨ha,hn⟩:=hok;obtain rfl:a=[]:=by simpa using ha
   have Mu:∀ y:Str,(y=n\/∃s∈c.map (·.1),y=cM s)->gw false (aM (am y))=true/\nodesT (am y)=nodesT (.mk true n [])/\cY (am y)=cY (.mk true n []):=by
    rintro y (rfl | ⟨s,hs,rfl⟩)
    ·simp[am,aM,O0 hn,gw,hn,bU,nodesT,cY]
    ·have e1:(dZ (63 :: s))=true:=MG (hc s hs);have e2:i8 s=true:=hc s hs;simp[am,aM,e1,gw,e2,bU,nodesT,cY,cM]
   split at h
   ·simp only[gz]at h;subst h;exact Mu n (.inl rfl)
   ·obtain ⟨y,hy,rfl⟩:=Option.map_eq_some_iff.1 h;exact Mu y (Jd hy)
  | false=>
   simp only[bZ,↓reduceIte,ae,bw]at h hok;obtain ⟨m,hm,rfl⟩:=Option.map_eq_some_iff.1 h;obtain ⟨h1,h2,h3,h4⟩:=zf hc ins a m hok.2.2 hm;have hl:(bU m).length=a.length:=by rw[h4.2];exact h4.1
   simp[aM,gw,hok.2.1,h1,nodesT,cY,h2,h3,hl,hok.1]
theorem zf (hc:VarsOk (c.map (·.1))) (ins:List Str):∀ (t u:List Tm),dB false t=true->g9 c ins t=some u->dB false (bU u)=true/\nodesTs u=nodesTs t/\bx u=bx t/\(u.length=t.length/\(bU u).length=u.length)
 | [],u,_,h=>by simp only[g9,gz]at h;subst h;simp[dB,bU]
 | t :: l,u,hok,h=>by
  simp only[g9]at h
  cases h1:lD c ins t with
  | none=>rw[h1]at h;simp at h
  | some x=>
   cases h2:g9 c ins l with
   | none=>rw[h1,h2]at h;simp at h
   | some m=>
    rw[h1,h2]at h;simp only[gz]at h;subst h;simp only[dB,ae]at hok;obtain ⟨a1,a2,a3⟩:=Ee hc ins t x hok.1 h1;obtain ⟨b1,b2,b3,b4,b5⟩:=zf hc ins l m hok.2 h2;simp[dB,bU,a1,b1,nodesTs,bx,a2,a3,b2,b3,b4,b5]
end
mutual
theorem Ef (hc:VarsOk (c.map (·.1))):∀ (f u:Fm) (ins:List Str),okF false f=true->kv c ins f=some u->okF false (bC u)=true/\nodesF u=nodesF f/\depthF u=depthF f
 | .mk o n a s,u,ins,hok,h=>by
  unfold kv at h
  cases h1:g9 c ins a with
  | none=>rw[h1]at h;simp at h
  | some a'=>
   cases h2:jn c (if bD o then n :: ins else ins) s with
   | none=>rw[h1,h2]at h;simp at h
   | some s'=>
    rw[h1,h2]at h;simp only[gz]at h;subst h;simp only[okF,ae,Bool.false_and,Bool.or_false]at hok;obtain ⟨k1,⟨k2,k3,k4⟩,k5,k6,k7⟩:=hok;obtain ⟨a1,a2,a3,a4,a5⟩:=zf hc ins a a' k6 h1;obtain ⟨b1,b2,b3,b4,b5⟩:=Ge hc s s' _ k7 h2;have V8:(o != 16)=true:=by
     cases gW:o != 16 with
     | true=>rfl
     | false=>
      have:o=16:=by simpa using gW
      subst this;exact absurd k1 (by decide)
    simp only[bC,okF,ae,Bool.false_and,Bool.or_false,nodesF,depthF,a2,a3,b2,b3,a1,b1,a5,a4,b5,b4,V8,Bool.true_or,k1,k2,k3,k4,and_self]
theorem Ge (hc:VarsOk (c.map (·.1))):∀ (f u:List Fm) (ins:List Str),cG false f=true->jn c ins f=some u->cG false (bV u)=true/\nodesFs u=nodesFs f/\aT u=aT f/\(u.length=f.length/\(bV u).length=u.length)
 | [],u,ins,_,h=>by simp only[jn,gz]at h;subst h;simp[cG,bV]
 | t :: l,u,ins,hok,h=>by
  simp only[jn]at h
  cases h1:kv c ins t with
  | none=>rw[h1]at h;simp at h
  | some x=>
   cases h2:jn c ins l with
   | none=>rw[h1,h2]at h;simp at h
   | some m=>
    rw[h1,h2]at h;simp only[gz]at h;subst h;simp only[cG,ae]at hok;obtain ⟨a1,a2,a3⟩:=Ef hc t x ins hok.1 h1;obtain ⟨b1,b2,b3,b4,b5⟩:=Ge hc l m ins hok.2 h2;simp[cG,bV,a1,b1,nodesFs,aT,a2,a3,b2,b3,b4,b5]
end
mutual
theorem wY:∀ t,nodesT (aM t)=nodesT t/\cY (aM t)=cY t
 | .mk v n a=>by simp[aM,nodesT,cY,oP a]
theorem oP:∀ t,nodesTs (bU t)=nodesTs t/\bx (bU t)=bx t
 | []=>by simp[bU]
 | t :: l=>by simp[bU,nodesTs,bx,wY t,oP l]
end
mutual
theorem kW:∀ t,nodesF (bC t)=nodesF t/\depthF (bC t)=depthF t
 | .mk o n a s=>by simp[bC,nodesF,depthF,oP a,tS s]
theorem tS:∀ t,nodesFs (bV t)=nodesFs t/\aT (bV t)=aT t
 | []=>by simp[bV]
 | t :: l=>by simp[bV,nodesFs,aT,kW t,tS l]
end
theorem qC:∀ (l:List Tm) (i:Nat) (t:Tm),dB sc l=true->l[i]?=some t->gw sc t=true
 | [],i,t,_,h=>by simp at h
 | x :: l,0,t,hok,h=>by simp only[List.getElem?_cons_zero,gz]at h;subst h;simp only[dB,ae]at hok;exact hok.1
 | x :: l,i+1,t,hok,h=>by simp only[dB,ae]at hok;exact qC l i t hok.2 (by simpa using h)
theorem Gf:∀ (l:List Fm) (i:Nat) (t:Fm),cG sc l=true->l[i]?=some t->okF sc t=true
 | [],i,t,_,h=>by simp at h
 | x :: l,0,t,hok,h=>by simp only[List.getElem?_cons_zero,gz]at h;subst h;simp only[cG,ae]at hok;exact hok.1
 | x :: l,i+1,t,hok,h=>by simp only[cG,ae]at hok;exact Gf l i t hok.2 (by simpa using h)
theorem mU:∀ (l:List Tm) (i:Nat),(bU l)[i]?=l[i]?.map aM
 | [],i=>by simp[bU]
 | x :: l,0=>by simp[bU]
 | x :: l,i+1=>by simp[bU,mU l i]
theorem wZ:∀ (l:List Fm) (i:Nat),(bV l)[i]?=l[i]?.map bC
 | [],i=>by simp[bV]
 | x :: l,0=>by simp[bV]
 | x :: l,i+1=>by simp[bV,wZ l i]
theorem zg (h:gw false (aM t)=true):dB false (bU t.a)=true:=by
 obtain ⟨v,n,a⟩:=t;simp only[aM,gw]at h
 cases v with
 | true=>
  simp only[↓reduceIte,ae]at h;have:bU a=[]:=by simpa using h.1
  simp[Tm.a,this,dB]
 | false=>
  simp only[bZ,↓reduceIte,ae]at h;exact h.2.2
theorem Gg:∀ (p:List Nat) (l:List Tm) (t:Tm),dB false (bU l)=true->mh l p=some t->gw false (aM t)=true
 | [],l,t,_,h=>by simp[mh]at h
 | [i],l,t,hok,h=>by
  simp only[mh]at h;exact qC _ i _ hok (by rw[mU,h];rfl)
 | i :: j :: r,l,t,hok,h=>by
  simp only[mh]at h
  cases h1:l[i]? with
  | none=>rw[h1]at h;simp at h
  | some x=>
   rw[h1]at h;exact Gg (j :: r) _ t (zg (qC _ i _ hok (by rw[mU,h1];rfl))) h
theorem Gh:∀ (p:List Nat) (f:Fm) (ins:List Str) (g:Fm) (rN:List Str),okF false (bC f)=true->nO f p ins=some (g,rN)->okF false (bC g)=true
 | [],f,ins,g,rN,hok,h=>by simp only[nO,gz,Prod.mk.injEq]at h;rw[<-h.1];exact hok
 | i :: r,f,ins,g,rN,hok,h=>by
  simp only[nO]at h
  cases h1:f.s[i]? with
  | none=>rw[h1]at h;simp at h
  | some x=>
   rw[h1]at h;refine Gh r x _ g rN ?_ h;obtain ⟨o,n,a,s⟩:=f;simp only[bC,okF,ae]at hok;exact Gf _ i _ hok.2.2.2.2 (by rw[wZ];simp only[Fm.s]at h1;rw[h1];rfl)
theorem Gi (hok:okF false (bC im)=true) (h:jU f im x=some t):gw false (aM t)=true:=by
 unfold jU at h;split at h
 ·cases h
 ·split at h
  ·cases h
  ·rename_i g ins hg;split at h
   ·cases h
   ·rename_i y hy;split at h
    ·cases h
    ·cases h;have:=Gh _ _ _ _ _ hok hg;obtain ⟨o,n,a,s⟩:=g;simp only[bC,okF,ae]at this;exact Gg _ _ _ this.2.2.2.1 hy
structure PlOk (p:Pl):Prop where
 s:okF true p.s=true
 f:okF false p.f=true
 c:VarsOk (p.c.map (·.1))
 n:nodesF p.f<=400
 d:depthF p.f<=40
mutual
theorem nY:∀ (s f:Fm) (c:Sco),PlOk ⟨s,f,c⟩->∀ p∈bJ c s f,PlOk p
 | .mk o n a l,.mk o' n' a' l',c,h,p,hp=>by
  simp only[bJ,dw]at hp;rcases hp with rfl | hp
  ·exact h
  ·have h1:=h.s;have h2:=h.f;have h3:=h.n;have h4:=h.d;simp only[okF,ae]at h1 h2;simp only[nodesF,depthF]at h3 h4;refine zh l l' _ h1.2.2.2.2 h2.2.2.2.2 ?_ (by omega) (by omega) p hp;split
   ·rename_i hq;intro x hx;simp only[cU,dw]at hx;rcases hx with rfl | hx
    ·have:(rowOp o).2.2.1=2:=by
      simp only[bD,Bool.or_eq_true,fY]at hq;rcases hq with rfl | rfl <;> decide
     have h5:=h1.2.1.1;rw[this]at h5;exact h5
    ·exact h.c x hx
   ·exact h.c
theorem zh:∀ (s f:List Fm) (c:Sco),cG true s=true->cG false f=true->VarsOk (c.map (·.1))->nodesFs f<=400->aT f<=40->∀ p∈aU c s f,PlOk p
 | [],_,c,_,_,_,_,_,p,hp=>by simp[aU]at hp
 | _ :: _,[],c,_,_,_,_,_,p,hp=>by simp[aU]at hp
 | t :: l,u :: m,c,h1,h2,h3,h4,h5,p,hp=>by
  simp only[aU,List.mem_append]at hp;simp only[cG,ae]at h1 h2;simp only[nodesFs,aT]at h4 h5;rcases hp with hp | hp
  ·exact nY t u c ⟨h1.1,h2.1,h3,by show nodesF u<=400;omega,by show depthF u<=40;omega⟩ p hp
  ·exact zh l m c h1.2 h2.2 h3 (by omega) (by omega) p hp
end
theorem Eg {s:Fm} (h:(schemaF s && dn f)=true):PlOk ⟨s,f,[]⟩:=by
 simp only[schemaF,dn,ae,bw]at h;exact ⟨h.1.1,h.2.1,(by intro x hx;cases hx),h.2.2.1,h.2.2.2⟩
/-! order of names -/
theorem nZ:∀ a:List UInt8,Op.bytesLess a a=false
 | []=>rfl
 | c :: a=>by simp[Op.bytesLess,nZ a]
theorem tT:∀ a b c:List UInt8,Op.bytesLess a b=true->Op.bytesLess b c=true->Op.bytesLess a c=true
 | _,[],_,h,_=>by simp[Op.bytesLess]at h
 | _,_ :: _,[],_,h=>by simp[Op.bytesLess]at h
 | [],_ :: _,_ :: _,_,_=>rfl
 | x :: a,y :: b,z :: c,h1,h2=>by
  simp only[Op.bytesLess,Bool.or_eq_true,ae,bw,fY]at h1 h2 ⊢;rcases h1 with h1 | ⟨rfl,h1⟩
  ·rcases h2 with h2 | ⟨rfl,h2⟩
   ·exact .inl (UInt8.lt_trans h1 h2)
   ·exact .inl h1
  ·rcases h2 with h2 | ⟨rfl,h2⟩
   ·exact .inl h2
   ·exact .inr ⟨rfl,tT a b c h1 h2⟩
theorem O1:∀ a b:List UInt8,Op.bytesLess a b=false->Op.bytesLess b a=false->a=b
 | [],[],_,_=>rfl
 | [],_ :: _,h,_=>by simp[Op.bytesLess]at h
 | _ :: _,[],_,h=>by simp[Op.bytesLess]at h
 | x :: a,y :: b,h1,h2=>by
  simp only[Op.bytesLess,Bool.or_eq_false_iff,Bool.and_eq_false_iff,decide_eq_false_iff_not,beq_eq_false_iff_ne]at h1 h2;have hxy:x=y:=by
   apply UInt8.toNat_inj.1;have a1:=h1.1;have a2:=h2.1;rw[UInt8.lt_iff_toNat_lt]at a1 a2;omega
  subst hxy;rw[O1 a b (h1.2.resolve_left (fun h=>h rfl)) (h2.2.resolve_left (fun h=>h rfl))]
theorem zi (a b:Str) (h:a≠b) (h1:Op.bytesLess a b=false):Op.bytesLess b a=true:=by
 cases h2:Op.bytesLess b a
 ·exact absurd (O1 a b h1 h2) h
 ·rfl
theorem mV {l:List Str}:dD (x :: l)=true ↔ (∀ y,l.head?=some y->Op.bytesLess x y=true)/\dD l=true:=by
 cases l with
 | nil=>simp[dD]
 | cons y r=>simp[dD]
theorem gQ:∀ (l:List (Str×α)) (x:Str),getB l x=none ↔ x ∉ l.map (·.1)
 | [],x=>by simp[getB]
 | (y,v) :: r,x=>by
  unfold getB
  by_cases h:y == x
  ·simp only[h,↓reduceIte,reduceCtorEq,cU,dw,false_iff];rw[fY]at h;exact fun h2=>h2 (.inl h.symm)
  ·simp only[h,bZ,↓reduceIte,cU,dw,not_or];rw[gQ r x];constructor
   ·exact fun h2=>⟨fun e=>h (by rw[e];simp),h2⟩
   ·exact fun h2=>h2.2
theorem O2 (x:Str) (v:α) (l:List (Str×α)):∀ y,((iE x v l).map (·.1)).head?=some y->y=x\/(l.map (·.1)).head?=some y:=by
 intro y h
 cases l with
 | nil=>simp only[iE,cU,List.map_nil,List.head?_cons,gz]at h;exact .inl h.symm
 | cons z r=>
  obtain ⟨z,u⟩:=z;unfold iE at h;split at h
  ·simp only[cU,List.head?_cons,gz]at h;exact .inl h.symm
  ·simp only[cU,List.head?_cons,gz]at h;exact .inr (by simp[h])
theorem sK (x:Str) (v:α):∀ (l:List (Str×α)),x ∉ l.map (·.1)->dD (l.map (·.1))=true->dD ((iE x v l).map (·.1))=true
 | [],_,_=>by simp[iE,dD]
 | (y,u) :: r,hx,hs=>by
  simp only[cU,dw,not_or]at hx;unfold iE;split
  ·rename_i h;simp only[cU]at hs ⊢;exact mV.2 ⟨fun z hz=>by simp only[List.head?_cons,gz]at hz;rw[<-hz];exact h,hs⟩
  ·rename_i h;simp only[cU]at hs ⊢;obtain ⟨h1,h2⟩:=mV.1 hs;refine mV.2 ⟨fun z hz=>?_,sK x v r hx.2 h2⟩;rcases O2 x v r z hz with rfl | hz
   ·exact zi _ _ hx.1 (by simpa using h)
   ·exact h1 z hz
theorem Eh (P:Str×α->Bool) (x:Str) (v:α):∀ (l:List (Str×α)),(iE x v l).all P=(P (x,v) && l.all P)
 | []=>by simp[iE]
 | (y,u) :: r=>by
  unfold iE;split
  ·simp
  ·simp only[List.all_cons,Eh P x v r];cases P (y,u) <;> simp
def V9 (l:List (Str×Fm)):Bool:=l.all (fun x=>dA x.1 && dn (bC x.2)) && dD (l.map (·.1))
def Je (l:List (Str×Tm)):Bool:=l.all (fun x=>cW x.1 && gw false (aM x.2)) && dD (l.map (·.1))
theorem iK (b:Bd):validB b=true ↔ V9 b.fs=true/\Je b.ts=true:=by
 simp only[validB,V9,Je,ae];constructor
 ·exact fun ⟨⟨a,b⟩,c,d⟩=>⟨⟨a,c⟩,b,d⟩
 ·exact fun ⟨⟨a,c⟩,b,d⟩=>⟨⟨a,b⟩,c,d⟩
theorem Lp {k:List (Str×Tm)} (hk:Je k=true) (hn:cW n=true) (ht:gw false (aM t)=true) (hg:getB k n=none):Je (iE n t k)=true:=by
 simp only[Je,ae]at hk ⊢;rw[Eh];exact ⟨by simp only[ae];exact ⟨⟨hn,ht⟩,hk.1⟩,sK n t k ((gQ _ _).1 hg) hk.2⟩
theorem Sy {k:List (Str×Fm)} {t:Fm} (hk:V9 k=true) (hn:dA n=true) (ht:dn (bC t)=true) (hg:getB k n=none):V9 (iE n t k)=true:=by
 simp only[V9,ae]at hk ⊢;rw[Eh];exact ⟨by simp only[ae];exact ⟨⟨hn,ht⟩,hk.1⟩,sK n t k ((gQ _ _).1 hg) hk.2⟩
theorem Jf {a:List Tm} (h:gw true (.mk true n a)=true) (hm:da n=true):cW n=true:=by
 simp only[gw,↓reduceIte,dP,ae,Bool.or_eq_true]at h;rcases h.2 with h | h
 ·rw[Gd h]at hm;cases hm
 ·exact h
mutual
theorem tU (sc:List Str):∀ (t u:Tm) (k k':List (Str×Tm)),gw true t=true->gw false (aM u)=true->Je k=true->i9 sc k t u=some k'->Je k'=true
 | .mk v n a,.mk v' n' a',k,k',ht,hu,hk,h=>by
  unfold i9 at h
  by_cases hm:(v && da n)=true
  ·rw[aX hm]at h;simp only[ae]at hm;obtain ⟨rfl,hm⟩:=hm
   cases hg:getB k n with
   | none=>
    rw[hg]at h;simp only[gz]at h;subst h;exact Lp hk (Jf ht hm) hu hg
   | some u=>
    rw[hg]at h;simp only at h;split at h
    ·cases h;exact hk
    ·cases h
  ·rw[aD hm]at h;split at h
   ·split at h
    ·cases h;exact hk
    ·cases h
   ·split at h
    ·cases h
    ·rename_i hs hd;simp only[Bool.or_eq_true,bne_iff_ne,ne_eq,not_or,Decidable.not_not]at hd;obtain ⟨rfl,rfl,hl⟩:=hd
     cases v with
     | true=>
      simp only[gw,↓reduceIte,ae]at ht;have:a=[]:=by simpa using ht.1
      subst this;have:a'=[]:=List.length_eq_zero_iff.1 (by simpa using hl.symm);subst this;simp only[ef,gz]at h;rw[<-h];exact hk
     | false=>
      simp only[gw,bZ,↓reduceIte,ae]at ht;exact r_ sc a a' k k' ht.2.2 (zg hu) hk h
theorem r_ (sc:List Str):∀ (t u:List Tm) (k k':List (Str×Tm)),dB true t=true->dB false (bU u)=true->Je k=true->ef sc k t u=some k'->Je k'=true
 | [],u,k,k',_,_,hk,h=>by simp only[ef,gz]at h;rw[<-h];exact hk
 | _ :: _,[],k,k',_,_,hk,h=>by simp only[ef,gz]at h;rw[<-h];exact hk
 | t :: l,u :: m,k,k',ht,hu,hk,h=>by
  simp only[ef]at h;simp only[dB,bU,ae]at ht hu
  cases h1:i9 sc k t u with
  | none=>rw[h1]at h;cases h
  | some k1=>
   rw[h1]at h;exact r_ sc l m k1 k' ht.2 hu.2 (tU sc t u k k1 ht.1 hu.1 hk h1) h
end
theorem tV (hc:VarsOk (c.map (·.1))):∀ (t u:List Tm) (k k':List (Str×Tm)),dB true t=true->dB false u=true->Je k=true->i_ c k t u=some k'->Je k'=true
 | [],u,k,k',_,_,hk,h=>by simp only[i_,gz]at h;rw[<-h];exact hk
 | _ :: _,[],k,k',_,_,hk,h=>by simp only[i_,gz]at h;rw[<-h];exact hk
 | t :: l,u :: m,k,k',ht,hu,hk,h=>by
  simp only[i_]at h;simp only[dB,ae]at ht hu
  cases h0:lD c [] u with
  | none=>rw[h0]at h;cases h
  | some im=>
   rw[h0]at h;simp only at h
   cases h1:i9 (c.map (·.1)) k t im with
   | none=>rw[h1]at h;cases h
   | some k1=>
    rw[h1]at h;exact tV hc l m k1 k' ht.2 hu.2 (tU _ t im k k1 ht.1 (Ee hc [] u im hu.1 h0).1 hk h1) h
def Ut (step:Bd->Pl->Bd×Int):Prop:=∀ k p k',PlOk p->validB k=true->step k p=(k',0)->validB k'=true
theorem C8 (hp:PlOk p) (h:kv p.c [] p.f=some im):dn (bC im)=true:=by
 obtain ⟨h1,h2,h3⟩:=Ef hp.c p.f im [] hp.f h;have h4:=kW im;have h5:=hp.n;have h6:=hp.d;simp only[dn,ae,bw];exact ⟨h1,by omega,by omega⟩
theorem BJ:Ut d_:=by
 intro k p k' hp hk h;unfold d_ at h;split at h
 ·cases h;exact hk
 rename_i gW;split at h
 ·rename_i kt
  cases hi:kv p.c [] p.f with
  | none=>rw[hi]at h;simp at h
  | some im=>
   rw[hi]at h;simp only at h
   cases hg:getB k.fs p.s.n with
   | none=>
    rw[hg]at h;simp only[Prod.mk.injEq,and_true]at h;subst h;obtain ⟨k1,k2⟩:=(iK k).1 hk;refine (iK _).2 ⟨Sy k1 ?_ (C8 hp hi) hg,k2⟩;have hs:=hp.s;obtain ⟨⟨o,n,a,s⟩,f,c⟩:=p;simp only[Fm.op]at kt;subst kt;simp only[okF,ae]at hs;exact hs.2.1.1
   | some g=>
    rw[hg]at h;simp only at h;split at h
    ·cases h;exact hk
    ·simp at h
 ·split at h
  ·simp at h
  ·rename_i hd
   cases ha:i_ p.c k.ts p.s.a p.f.a with
   | none=>rw[ha]at h;simp at h
   | some ts=>
    rw[ha]at h;simp only[Prod.mk.injEq,and_true]at h;subst h;obtain ⟨k1,k2⟩:=(iK k).1 hk;refine (iK _).2 ⟨k1,tV hp.c _ _ _ _ ?_ ?_ k2 ha⟩
    ·have hs:=hp.s;obtain ⟨⟨o,n,a,s⟩,f,c⟩:=p;simp only[okF,ae]at hs;exact hs.2.2.2.1
    ·have hs:=hp.f;obtain ⟨s,⟨o,n,a,l⟩,c⟩:=p;simp only[okF,ae]at hs;exact hs.2.2.2.1
theorem oQ (hp:PlOk p) (gW:p.s.op=16):∃x y:Str,p.s.a=[am x,am y]/\i8 x=true/\cW y=true/\bp p.s=(cM x,y):=by
 have hs:=hp.s;obtain ⟨⟨o,n,a,s⟩,f,c⟩:=p;simp only[Fm.op]at gW;subst gW;simp only[okF,ae,bne_self_eq_false,Bool.false_or]at hs;have h1:=hs.2.2.1;have h2:=hs.2.2.2.1;unfold tJ at h1;split at h1
 ·rename_i x y;obtain ⟨xv,xn,xa⟩:=x;obtain ⟨yv,yn,ya⟩:=y;simp only[Tm.v,Tm.n,ae]at h1;obtain ⟨rfl,hx,rfl,hy⟩:=h1;simp only[dB,gw,↓reduceIte,ae]at h2;have e1:xa=[]:=by simpa using h2.1.1
  have e2:ya=[]:=by simpa using h2.2.1.1
  subst e1 e2;exact ⟨xn,yn,rfl,hx,hy,rfl⟩
 ·cases h1
theorem Jg:Ut kP:=by
 intro k p k' hp hk h;unfold kP at h
 by_cases gW:(p.s.op != 16)=true
 ·rw[aX gW]at h;cases h;exact hk
 rw[aD gW]at h;have zcm:p.s.op=16:=by simpa using gW
 cases hg:getB k.fs p.s.n with
 | none=>rw[hg]at h;simp at h
 | some f=>
  rw[hg]at h;simp only at h
  cases hi:kv p.c [] p.f with
  | none=>rw[hi]at h;simp at h
  | some im=>
   rw[hi]at h;simp only at h
   by_cases h0:iC (bp p.s).1 f=0
   ·rw[aX h0]at h;split at h
    ·cases h;exact hk
    ·simp at h
   ·rw[aD h0]at h
    cases ht:getB k.ts (bp p.s).2 with
    | some t=>
     rw[ht]at h;simp only at h;split at h
     ·simp at h
     ·split at h
      ·cases h;exact hk
      ·simp at h
    | none=>
     rw[ht]at h;simp only at h
     cases hf:jU f im (bp p.s).1 with
     | none=>rw[hf]at h;simp at h
     | some t=>
      rw[hf]at h;simp only[Option.map_some]at h;split at h
      ·simp at h
      ·split at h
       ·simp only[Prod.mk.injEq,and_true]at h;subst h;obtain ⟨k1,k2⟩:=(iK k).1 hk;obtain ⟨x,y,_,_,hy,hn⟩:=oQ hp zcm;refine (iK _).2 ⟨k1,Lp k2 (by rw[hn];exact hy) (Gi (Ef hp.c p.f im [] hp.f hi).1 hf) ht⟩
       ·simp at h
def Up (l:List Str):Prop:=l.Pairwise (fun x y=>Op.bytesLess x y=true)
theorem zj (x y:Str):∀ l,y∈sy x l ↔ y=x\/y∈l
 | []=>by simp[sy]
 | z :: l=>by
  have ih:=zj x y l;unfold sy
  by_cases h:(x == z)=true
  ·rw[aX h];have:x=z:=by simpa using h
   subst this;simp
  ·rw[aD h]
   by_cases h2:Op.bytesLess x z=true
   ·rw[aX h2];simp
   ·rw[aD h2];simp[ih];grind
theorem Lq (x:Str):∀ l,Up l->Up (sy x l)
 | [],_=>by simp[sy,Up]
 | z :: l,h=>by
  have hl:Up l:=(List.pairwise_cons.1 h).2;have hz:=(List.pairwise_cons.1 h).1;have ih:=Lq x l hl;unfold sy
  by_cases h1:(x == z)=true
  ·rw[aX h1];exact h
  ·rw[aD h1]
   by_cases h2:Op.bytesLess x z=true
   ·rw[aX h2];refine List.pairwise_cons.2 ⟨fun y hy=>?_,h⟩;rcases dw.1 hy with rfl | hy
    ·exact h2
    ·exact tT _ _ _ h2 (hz y hy)
   ·rw[aD h2];refine List.pairwise_cons.2 ⟨fun y hy=>?_,ih⟩;rcases (zj x y l).1 hy with rfl | hy
    ·exact zi _ _ (by simpa using h1) (by simpa using h2)
    ·exact hz y hy
theorem sL (l:List Str):Up (cm l):=by
 unfold cm
 induction l with
 | nil=>simp[Up]
 | cons x l ih=>exact Lq x _ ih
theorem dL (y:Str) (l:List Str):y∈cm l ↔ y∈l:=by
 unfold cm
 induction l with
 | nil=>simp
 | cons x l ih=>simp only[List.foldr_cons,zj,ih,dw]
theorem j9 {l:List Str} (h:Up l):l.Nodup:=by
 refine List.Pairwise.imp ?_ h;intro a b Bv e;subst e;rw[nZ]at Bv;cases Bv
theorem Jh:∀ l m:List Str,Up l->Up m->(∀ x,x∈l ↔ x∈m)->l=m
 | [],[],_,_,_=>rfl
 | [],y :: m,_,_,h=>by have:=(h y).2 (by simp);cases this
 | x :: l,[],_,_,h=>by have:=(h x).1 (by simp);cases this
 | x :: l,y :: m,hl,hm,h=>by
  have hx:=(List.pairwise_cons.1 hl).1;have hy:=(List.pairwise_cons.1 hm).1;have hxy:x=y:=by
   by_cases e:x=y
   ·exact e
   ·have h1:=(h x).1 (by simp);have h2:=(h y).2 (by simp);rcases dw.1 h1 with h1 | h1
    ·exact absurd h1 e
    ·rcases dw.1 h2 with h2 | h2
     ·exact h2.symm
     ·have a:=hx y h2;have b:=hy x h1;have c:=tT _ _ _ a b;rw[nZ]at c;cases c
  subst hxy;refine congrArg _ (Jh l m (List.pairwise_cons.1 hl).2 (List.pairwise_cons.1 hm).2 (fun z=>?_));constructor
  ·intro hz;rcases dw.1 ((h z).1 (iU _ hz)) with e | e
   ·subst e;have:=hx z hz;rw[nZ]at this;cases this
   ·exact e
  ·intro hz;rcases dw.1 ((h z).2 (iU _ hz)) with e | e
   ·subst e;have:=hy z hz;rw[nZ]at this;cases this
   ·exact e
theorem zk {ss:List Str} (hp:ss.Perm (cm xs)):ss.mergeSort (fun x y=>decide (x<=y))=cm xs:=by
 have Uu:=List.mergeSort_perm ss (fun x y=>decide (x<=y));refine Jh _ _ ?_ (sL xs) (fun x=>by rw[Uu.mem_iff,hp.mem_iff]);have Bm:(ss.mergeSort (fun x y=>decide (x<=y))).Nodup:=(Uu.trans hp).nodup_iff.2 (j9 (sL xs));have hs:(ss.mergeSort (fun x y=>decide (x<=y))).Pairwise (fun x y=>decide (x<=y)=true):=List.pairwise_mergeSort (fun a b c h1 h2=>by simp at h1 h2 ⊢;exact List.le_trans h1 h2) (fun a b=>by simp;exact List.le_total a b) ss;refine (hs.and Bm).imp ?_;rintro a b ⟨h1,h2⟩;refine zi b a (fun e=>h2 e.symm) ?_;rw[bytesLess_eq];simp at h1 ⊢;exact h1
end Go.Proofs.YtokemihbkeddoaaGreatDoor
namespace Go.Proofs
open Go.RowKit Go.Maps Go.Sort Go.Shelf
shelf_lay_g SlLaysZ.n7 Ggz 7 at Tryz 75 as Tryz.keysA
shelf_lay_g SlLaysZ.n6 Ggz 6 at Tryz 74 as Tryz.sortedA
theorem Tryz.sortsA (m:Nat):AnyZ.SortsIn Tryz.prog Tryz.sortedA_ren Fence.wide m:=
 ⟨fun blk off cap ss W hH zcn hsz=>callsIn_wide.2 (Tryz.slices_Sort_string blk off cap ss W hH zcn hsz),
  fun p cap W=>callsIn_wide.2 (Tryz.slices_Sort_string_none p cap W)⟩
end Go.Proofs
namespace Go.Proofs.YtokemihbkeddoaaGreatDoor
open Go Go.RowKit Go.Maps Go.Sort Go.Shelf
def RowS (lo:Nat) (W:World) (v:Value) (l:List Str):Prop:=W.ownsRow lo 9 1 v l.length (l.map encStr)/\(v=.slice none 0 0 ↔ l=[])
theorem zm (mb:Option Nat) (W:World):Calls Tryz.prog 75 #[.map mb] W fun e w'=>e=.returned (.func (.func 135) #[] #[.pointer (some ⟨W.heap.size,0,none⟩)])/\w'=W.alloc (.cells #[.map mb] 118):=
 aL.1 (AnyZ.keys_in Tryz.keysA Fence.wide 5 trivial rfl mb W)
theorem sM (m n:Nat) (xs:List Str) (hn:n<=2000000) (W:World) (hs:SetW W m n xs) :
  Calls Tryz.prog 74 #[.func (.func 135) #[] #[.pointer (some ⟨W.heap.size,0,none⟩)]] (W.alloc (.cells #[.map (some m)] 118)) fun e w'=>∃v,e=.returned v/\RowS W.heap.size w' v (cm xs)/\Below W.heap.size W w':=by
 obtain ⟨D0,au,oM,_⟩:=hs;have Om:=au.lt;have hsz:=au.size_le;have oB:SeqGives Fence.wide 2 Tryz.prog 135 #[.pointer (some ⟨W.heap.size,0,none⟩)] encStr (fun ss=>ss.Perm (strKeys D0)) (Maps.size D0) (W.alloc (.cells #[.map (some m)] 118)):=
  AnyZ.keys_gives (ρ:=Tryz.keysA_ren) { Tryz.keysA with } Fence.wide _ trivial rfl (by omega) W.heap.size m n D0 _ (by simp) (by simp) (au.alloc _)
 have cS:=AnyZ.sorted_in Tryz.sortedA Fence.wide 5 trivial trivial trivial trivial rfl (by omega) (Tryz.sortsA _) (enters_of Tryz.func134 (by kernel_rfl) rfl) 135 #[.pointer (some ⟨W.heap.size,0,none⟩)] trivial (enters_of Tryz.func135 (by kernel_rfl) rfl) _ _ (by unfold maxLen;omega) (by omega) _ oB;have pp193:=();exact pm193
mutual
theorem mo:∀ t:Tm,(aN t).length<=nodesT t
 | .mk v n a=>by
  have:=C9 a;unfold aN nodesT;cases v <;> simp <;> omega
theorem C9:∀ l:List Tm,(aw l).length<=nodesTs l
 | []=>by simp[aw]
 | t :: l=>by
  have h1:=mo t;have h2:=C9 l;unfold aw nodesTs;simp;omega
end
mutual
theorem mq {p:Nat}:∀ t:Tm,jN p t=true->∀ x∈aN t,x.length<=p
 | .mk v n a,h,x,hx=>by
  simp only[jN,ae,bw]at h;unfold aN at hx
  cases v with
  | false=>exact n8 a h.2 x (by simpa using hx)
  | true=>
   rcases dw.1 (by simpa using hx) with rfl | hx
   ·exact h.1
   ·exact n8 a h.2 x hx
theorem n8 {p:Nat}:∀ l:List Tm,nmTs p l=true->∀ x∈aw l,x.length<=p
 | [],_,x,hx=>by simp[aw]at hx
 | t :: l,h,x,hx=>by
  simp only[nmTs,ae]at h;unfold aw at hx;rcases List.mem_append.1 hx with hx | hx
  ·exact mq t h.1 x hx
  ·exact n8 l h.2 x hx
end
theorem lK (t:Tm) (aA:fitT t) (ok:Nat->Prop) (w:World) (q:TQ) (hq:TermV ok w q.val t) :
  Calls Tryz.prog 166 #[q.val] w fun e w'=>(∃v,e=.returned v/\RowS w.heap.size w' v (cm (aN t)))/\RowKit.Below w.heap.size w w':=by
 have hq:=hq.lt;have nC:=aQ (mo t) aA.1;obtain ⟨W2,bl⟩:=ao ((w.alloc (.cells #[.bool q.v,.string q.n,.slice q.a q.l q.c] 43)).alloc (.cells #[.bool q.v,.string q.n,.slice q.a q.l q.c] 43));have bF:RowKit.Below w.heap.size w W2:=by rw[bl];exact cQ.alloc (by simp) _
 have gV:=xV bl;have oL:=jC bl;have C2:=Ed (aN t) nC (mq t aA.2) 270 #[.pointer (some ⟨w.heap.size+1,0,none⟩)] W2 (enters_of Tryz.func270 (by kernel_rfl) rfl) (fun w1 hb hl=>BH t aA (fun b=>b=W2.heap.size) W2.heap.size (w.heap.size+1) w1 q (bT hb oL) (by omega) ((hq.later (bF.trans (hb.mono bF.size))).move (fun b zco hlt=>⟨⟨by omega,by omega⟩,rfl⟩)));have pp254:=();exact pm254
end Go.Proofs.YtokemihbkeddoaaGreatDoor
namespace Go.Proofs.YtokemihbkeddoaaGreatDoor
open Go Go.RowKit Lib
set_option maxRecDepth 100000
set_option maxHeartbeats 64000000
variable {sc:Bool} {o:Int} {a:List Tm} {s:List Fm} {x y:Str} {u:Tm} {φ:Fm->Fm} {g:Fm} {t:List Str} {j c:Nat} {W':World} {e:TypeId} {v:Value}
inductive Dt where
 | lvl (i:Nat)
 | fre (n:Str)
 | app (n:Str) (a:List Dt)
inductive Df where
 | mk (op:Int) (n:Str) (a:List Dt) (s:List Df)
def upd (σ:Str->Dt) (n:Str) (v:Dt):Str->Dt:=fun x=>if x == n then v else σ x
mutual
def vB (σ:Str->Dt):Tm->Dt | .mk v n a=>if v then σ n else .app n (oR σ a)
def oR (σ:Str->Dt):List Tm->List Dt | []=>[] | t :: l=>vB σ t :: oR σ l
end
mutual
def dbF (σ:Str->Dt) (d:Nat):Fm->Df
 | .mk op n a s=>if bD op then .mk op [] (oR σ a) (qD (upd σ n (.lvl d)) (d+1) s) else .mk op n (oR σ a) (qD σ d s)
def qD (σ:Str->Dt) (d:Nat):List Fm->List Df | []=>[] | t :: l=>dbF σ d t :: qD σ d l
end
mutual
def pG:Tm->Bool | .mk v _ a=>(!v || a.isEmpty) && fR a
def fR:List Tm->Bool | []=>true | t :: l=>pG t && fR l
end
mutual
def lL:Fm->Bool | .mk _ _ a s=>fR a && gG s
def gG:List Fm->Bool | []=>true | t :: l=>lL t && gG l
end
mutual
theorem Ji:∀ t,gw sc t=true->pG t=true
 | .mk v n a,h=>by
  simp only[gw]at h
  cases v with
  | true=>
   simp only[↓reduceIte,ae]at h;have:a=[]:=by simpa using h.1
   subst this;simp[pG,fR]
  | false=>
   simp only[bZ,↓reduceIte,ae]at h;simp[pG,Ei a h.2.2]
theorem Ei:∀ t,dB sc t=true->fR t=true
 | [],_=>by simp[fR]
 | t :: l,h=>by simp only[dB,ae]at h;simp[fR,Ji t h.1,Ei l h.2]
end
mutual
theorem Jj:∀ t,okF sc t=true->lL t=true
 | .mk o n a s,h=>by
  simp only[okF,ae]at h;simp[lL,Ei a h.2.2.2.1,Lr s h.2.2.2.2]
theorem Lr:∀ t,cG sc t=true->gG t=true
 | [],_=>by simp[gG]
 | t :: l,h=>by simp only[cG,ae]at h;simp[gG,Jj t h.1,Lr l h.2]
end
mutual
theorem C_:∀ t,pG (aM t)=pG t
 | .mk v n a=>by
  simp only[aM,pG,sN a];congr 2;cases a <;> simp[bU]
theorem sN:∀ t,fR (bU t)=fR t
 | []=>by simp[bU]
 | t :: l=>by simp[bU,fR,C_ t,sN l]
end
mutual
theorem Da:∀ t,lL (bC t)=lL t
 | .mk o n a s=>by simp[bC,lL,sN a,zo s]
theorem zo:∀ t,gG (bV t)=gG t
 | []=>by simp[bV]
 | t :: l=>by simp[bV,gG,Da t,zo l]
end
/-! free names -/
mutual
theorem Ej (b:List Str):∀ (f:Fm) (c:List Str),a_ (c ++ b) f=(a_ c f).filter (fun x=>!b.contains x)
 | .mk o n a s,c=>by
  simp only[a_,List.filter_append,List.filter_filter];congr 1
  ·apply List.filter_congr;intro x _;rw[List.contains_eq_any_beq,List.any_append,<-List.contains_eq_any_beq,<-List.contains_eq_any_beq,Bool.not_or,Bool.and_comm]
  ·by_cases hq:bD o
   ·rw[aX hq,aX hq];exact kM b s (n :: c)
   ·rw[aD hq,aD hq];exact kM b s c
theorem kM (b:List Str):∀ (f:List Fm) (c:List Str),bH (c ++ b) f=(bH c f).filter (fun x=>!b.contains x)
 | [],c=>by simp[bH]
 | t :: l,c=>by simp[bH,Ej b t c,kM b l c]
end
theorem mr (n:Str) (s:List Fm):bH [n] s=(bH [] s).filter (fun x=>!(x == n)):=by
 have h:=kM [n] s [];simp only[rU]at h;rw[h];apply List.filter_congr;intro x _;rw[gA];simp
mutual
theorem Gj {σ τ:Str->Dt}:∀ (t:Tm),(∀ x∈aN t,σ x=τ x)->vB σ t=vB τ t
 | .mk v n a,h=>by
  cases v with
  | true=>simp only[vB,↓reduceIte];exact h n (by simp[aN])
  | false=>simp only[vB,bZ,↓reduceIte];rw[vZ a (fun x hx=>h x (by simpa[aN] using hx))]
theorem vZ {σ τ:Str->Dt}:∀ (t:List Tm),(∀ x∈aw t,σ x=τ x)->oR σ t=oR τ t
 | [],_=>rfl
 | t :: l,h=>by
  simp only[oR];rw[Gj t (fun x hx=>h x (by simp[aw,hx])),vZ l (fun x hx=>h x (by simp[aw,hx]))]
end
theorem tW {n:Str} (hq:bD o=true) (hx:x∈bH [] s) (hn:x≠n):x∈a_ [] (.mk o n a s):=by
 simp only[a_,List.mem_append,hq,if_true];right;rw[mr];exact List.mem_filter.2 ⟨hx,by simpa using hn⟩
theorem Ek {n:Str} (hx:x∈aw a):x∈a_ [] (.mk o n a s):=by
 simp only[a_,List.mem_append];left;exact List.mem_filter.2 ⟨hx,by simp⟩
mutual
theorem zp:∀ (f:Fm) (σ τ:Str->Dt) (d:Nat),(∀ x∈a_ [] f,σ x=τ x)->dbF σ d f=dbF τ d f
 | .mk o n a s,σ,τ,d,h=>by
  have ha:oR σ a=oR τ a:=vZ a (fun x hx=>h x (Ek hx));simp only[dbF,ha]
  by_cases hq:bD o
  ·rw[aX hq,aX hq];rw[v_ s (upd σ n (.lvl d)) (upd τ n (.lvl d)) (d+1) (fun x hx=>by
    unfold upd;split
    ·rfl
    ·rename_i hn;exact h x (tW hq hx (by simpa using hn)))]
  ·rw[aD hq,aD hq];rw[v_ s σ τ d (fun x hx=>h x (by simp only[a_,List.mem_append];right;rw[aD hq];exact hx))]
theorem v_:∀ (f:List Fm) (σ τ:Str->Dt) (d:Nat),(∀ x∈bH [] f,σ x=τ x)->qD σ d f=qD τ d f
 | [],_,_,_,_=>rfl
 | t :: l,σ,τ,d,h=>by
  simp only[qD];rw[zp t σ τ d (fun x hx=>h x (by simp[bH,hx])),v_ l σ τ d (fun x hx=>h x (by simp[bH,hx]))]
end
/-! alike: the same without bound names -/
def env:List Str->Str->Dt
 | [],x=>.fre x
 | n :: r,x=>if x == n then .lvl r.length else env r x
def db (f:Fm):Df:=dbF (env []) 0 f
/-! names put into a formula without bound names -/
mutual
def qone:Fm->Bool | .mk o _ a s=>(!bD o || (s.length == 1 && a.isEmpty)) && ep s
def ep:List Fm->Bool | []=>true | t :: l=>qone t && ep l
end
mutual
theorem tX:∀ t,okF sc t=true->qone t=true
 | .mk o n a s,h=>by
  simp only[okF,ae]at h;simp only[qone,ae,Bool.or_eq_true];refine ⟨?_,Gk s h.2.2.2.2⟩;have h1:=h.2.1.2.2
  cases hq:bD o with
  | false=>exact .inl rfl
  | true=>
   simp only[bD,Bool.or_eq_true,fY]at hq;have e1:(rowOp o).2.2.2.2=1:=by rcases hq with rfl | rfl <;> decide
   have e2:(rowOp o).2.2.2.1=0:=by rcases hq with rfl | rfl <;> decide
   rw[e1]at h1;have h2:=h.2.1.2.1;rw[e2]at h2;have:a=[]:=List.length_eq_zero_iff.1 (by simpa using h2);subst this;exact .inr ⟨h1,rfl⟩
theorem Gk:∀ t,cG sc t=true->ep t=true
 | [],_=>by simp[ep]
 | t :: l,h=>by simp only[cG,ae]at h;simp[ep,tX t h.1,Gk l h.2]
end
/-! the least name that is not taken -/
def O5:List UInt8->Nat:=List.foldl (fun n c=>n * 10+(c.toNat - 48)) 0
theorem MH (l:List UInt8) (c:UInt8):O5 (l ++ [c])=O5 l * 10+(c.toNat - 48):=by simp[O5,List.foldl_append]
theorem zr:∀ k n,n<10 ^ k->O5 (By k n)=n
 | 0,n,h=>by simp at h;subst h;rfl
 | k+1,n,h=>by
  unfold By;split
  ·show 0 * 10+((UInt8.ofNat (48+n)).toNat - 48)=n;have:(UInt8.ofNat (48+n)).toNat=48+n:=by simp[UInt8.toNat_ofNat'];omega
   omega
  ·rw[MH,zr k (n / 10) (by rw[Nat.pow_succ]at h;omega)];have:(UInt8.ofNat (48+n % 10)).toNat=48+n % 10:=by simp[UInt8.toNat_ofNat'];omega
   omega
theorem MI {m n:Nat} (hm:m<10 ^ 20) (hn:n<10 ^ 20) (h:gZ m=gZ n):m=n:=by
 unfold gZ at h;have h1:=congrArg O5 (List.cons.inj h).2
 rwa [zr 20 m hm,zr 20 n hn]at h1
theorem Ls {α:Type} [DecidableEq α]:∀ (l t:List α),l.Nodup->(∀ x∈l,x∈t)->l.length<=t.length
 | [],t,_,_=>bc _
 | a :: l,t,hn,hs=>by
  obtain ⟨h1,h2⟩:=List.nodup_cons.1 hn;have ha:=hs a (ij ..);have:=Ls l (t.erase a) h2 (fun x hx=>(List.mem_erase_of_ne (fun e=>by subst e;exact h1 hx)).2 (hs x (iU _ hx)));rw[List.length_erase_of_mem ha]at this;have:=List.length_pos_of_mem ha;simp only[fF];omega
theorem sO (t:List Str) (ht:t.length<10 ^ 19):∀ k n,1<=n->n+k=t.length+1->(∀ i,1<=i->i<n->gZ i∈t) →
  lW t k n ∉ t/\∃j,1<=j/\j<=t.length+1/\lW t k n=gZ j/\∀ i,1<=i->i<j->gZ i∈t
 | 0,n,h1,hk,hi=>by
  simp only[lW];refine ⟨fun hn=>?_,n,h1,by omega,rfl,hi⟩;have Bm:((List.range' 1 n).map gZ).Nodup:=by
   rw[List.nodup_iff_pairwise_ne,List.pairwise_map];refine (List.nodup_iff_pairwise_ne.1 List.nodup_range').imp_of_mem ?_;intro a b ha hb Bv he;rw[List.mem_range'_1]at ha hb;exact Bv (MI (by omega) (by omega) he)
  have:=Ls _ t Bm (fun x hx=>by
   obtain ⟨i,tY,rfl⟩:=List.mem_map.1 hx;rw[List.mem_range'_1]at tY
   by_cases e:i=n
   ·subst e;exact hn
   ·exact hi i tY.1 (by omega))
  simp at this;omega
 | k+1,n,h1,hk,hi=>by
  unfold lW;split
  ·rename_i hc;refine sO t ht k (n+1) (by omega) (by omega) (fun i h2 h3=>?_)
   by_cases e:i=n
   ·subst e;simpa using hc
   ·exact hi i h2 (by omega)
  ·rename_i hc;exact ⟨by simpa using hc,n,h1,by omega,rfl,hi⟩
theorem rp (t:List Str) (ht:t.length<10 ^ 19):dN t ∉ t:=(sO t ht t.length 1 (aF _) (by omega) (fun i h1 h2=>by omega)).1
theorem tZ (t:List Str) (ht:t.length<10 ^ 19):∃j,1<=j/\j<=t.length+1/\dN t=gZ j/\∀ i,1<=i->i<j->gZ i∈t:=(sO t ht t.length 1 (aF _) (by omega) (fun i h1 h2=>by omega)).2
theorem El:∀ k n j,n<10 ^ j->1<=j->(By k n).length<=j
 | 0,n,j,_,_=>by simp[By]
 | k+1,n,j,h,hj=>by
  unfold By;split
  ·simpa using hj
  ·rw[di]
   cases j with
   | zero=>omega
   | succ j=>
    cases j with
    | zero=>omega
    | succ j=>have:=El k (n / 10) (j+1) (by rw[Nat.pow_succ]at h;omega) (by omega);simp;omega
/-! a term put for a name -/
theorem eZ (f:Str->Option Tm):∀ l,qj f l=l.map (eT f)
 | []=>by simp[qj]
 | t :: l=>by simp[qj,eZ f l]
mutual
theorem SB (σ:Str->Dt) (x:Str) (u:Tm):∀ t,vB σ (iB x u t)=vB (upd σ x (vB σ u)) t
 | .mk v n a=>by
  have ih:=qE σ x u a;simp only[dF]at ih;unfold iB eT
  cases v with
  | true=>
   by_cases h:n == x
   ·simp[h,vB,upd]
   ·simp[h,vB,upd]
  | false=>
   simp only[bZ,↓reduceIte,vB];rw[<-ih];congr 2;exact (eZ _ a)
theorem qE (σ:Str->Dt) (x:Str) (u:Tm):∀ l,oR σ (dF x u l)=oR (upd σ x (vB σ u)) l
 | []=>by simp[dF,oR]
 | t :: l=>by
  have ih:=qE σ x u l;simp only[dF]at ih ⊢;simp only[cU,oR,SB σ x u t,ih]
end
mutual
theorem SC {x:Str} (hu:pG u=true):∀ t,pG t=true->pG (iB x u t)=true
 | .mk v n a,h=>by
  have ih:=t5 (x:=x) hu a;simp only[pG,ae]at h;unfold iB eT
  cases v with
  | true=>
   obtain rfl:a=[]:=by simpa using h.1
   by_cases h1:n == x
   ·simp[h1,hu]
   ·simp[h1,pG,qj,fR]
  | false=>
   simp only[bZ,↓reduceIte,pG,Bool.not_false,Bool.true_or,dP];rw[eZ];exact ih h.2
theorem t5 {x:Str} (hu:pG u=true):∀ l,fR l=true->fR (dF x u l)=true
 | [],_=>by simp[dF,fR]
 | t :: l,h=>by
  have ih:=t5 (x:=x) hu l;simp only[dF]at ih ⊢;simp only[fR,ae]at h;simp only[cU,fR,ae];exact ⟨SC hu t h.1,ih h.2⟩
end
mutual
theorem Jk {x:Str} {y:Str}:∀ t,pG t=true->cY (iB x (am y) t)=cY t
 | .mk v n a,h=>by
  have ih:=qF (x:=x) (y:=y) a;simp only[pG,ae]at h;unfold iB eT
  cases v with
  | true=>
   obtain rfl:a=[]:=by simpa using h.1
   by_cases h1:n == x
   ·simp[h1,am,cY]
   ·simp[h1,qj,cY]
  | false=>
   simp only[bZ,↓reduceIte,cY];rw[eZ];exact congrArg (·+1) (ih h.2)
theorem qF {x:Str} {y:Str}:∀ l,fR l=true->bx (dF x (am y) l)=bx l
 | [],_=>by simp[dF]
 | t :: l,h=>by
  have ih:=qF (x:=x) (y:=y) l;simp only[dF]at ih ⊢;simp only[fR,ae]at h;simp only[cU,bx,ih h.2,Jk t h.1]
end
theorem yH (y:Str):pG (am y)=true:=by simp[am,pG,fR]
theorem n9 (y:Str):aN (am y)=[y]:=by simp[am,aN,aw]
theorem mW {n:Str} (hq:bD o=true) (h:qone (.mk o n a s)=true):a=[]/\∃g,s=[g]:=by
 simp only[qone,ae,Bool.or_eq_true,Bool.not_eq_true']at h;rcases h.1 with h | h
 ·rw[hq]at h;cases h
 ·exact ⟨by simpa using h.2,List.length_eq_one_iff.1 (by simpa using h.1)⟩
mutual
theorem Jl {x:Str} {y:Str}:∀ t,pG t=true->nodesT (iB x (am y) t)=nodesT t
 | .mk v n a,h=>by
  have ih:=qG (x:=x) (y:=y) a;simp only[pG,ae]at h;unfold iB eT
  cases v with
  | true=>
   obtain rfl:a=[]:=by simpa using h.1
   by_cases h1:n == x
   ·simp[h1,am,nodesT]
   ·simp[h1,qj,nodesT]
  | false=>
   simp only[bZ,↓reduceIte,nodesT];rw[eZ];exact congrArg (·+1) (ih h.2)
theorem qG {x:Str} {y:Str}:∀ l,fR l=true->nodesTs (dF x (am y) l)=nodesTs l
 | [],_=>by simp[dF]
 | t :: l,h=>by
  have ih:=qG (x:=x) (y:=y) l;simp only[dF]at ih ⊢;simp only[fR,ae]at h;simp only[cU,nodesTs,ih h.2,Jl t h.1]
end
theorem zs:∀ (s:List Fm),(∀ g∈s,nodesF (φ g)=nodesF g)->nodesFs (s.map φ)=nodesFs s
 | [],_=>rfl
 | g :: s,h=>by simp only[cU,nodesFs];rw[h g (ij ..),zs s (fun x hx=>h x (iU _ hx))]
theorem zt:∀ (s:List Fm),(∀ g∈s,depthF (φ g)=depthF g)->aT (s.map φ)=aT s
 | [],_=>rfl
 | g :: s,h=>by simp only[cU,aT];rw[h g (ij ..),zt s (fun x hx=>h x (iU _ hx))]
theorem j_:∀ (s:List Fm),gG s=true ↔ ∀ g∈s,lL g=true
 | []=>by simp[gG]
 | g :: s=>by simp[gG,j_ s]
theorem iL:∀ (s:List Fm),ep s=true ↔ ∀ g∈s,qone g=true
 | []=>by simp[ep]
 | g :: s=>by simp[ep,iL s]
theorem kF:∀ (s:List Fm) (g:Fm),g∈s->depthF g<=aT s
 | [],g,h=>by cases h
 | x :: s,g,h=>by
  simp only[aT];rcases dw.1 h with rfl | h
  ·omega
  ·have:=kF s g h;omega
theorem l7:∀ (s:List Fm) (g:Fm),g∈s->nodesF g<=nodesFs s
 | [],g,h=>by cases h
 | x :: s,g,h=>by
  simp only[nodesFs];rcases dw.1 h with rfl | h
  ·omega
  ·have:=l7 s g h;omega
mutual
theorem n_:∀ t,(aN t).length<=nodesT t
 | .mk v n a=>by
  have:=sP a;simp only[aN,nodesT];split <;> simp <;> omega
theorem sP:∀ t,(aw t).length<=nodesTs t
 | []=>by simp[aw]
 | t :: l=>by have:=n_ t;have:=sP l;simp only[aw,nodesTs,di];omega
end
mutual
theorem gH:∀ (f:Fm) (b:List Str),(a_ b f).length<=nodesF f
 | .mk o n a s,b=>by
  have h1:=sP a;have h2:=Db s (if bD o then n :: b else b);have h3:=List.length_filter_le (fun x=>!b.contains x) (aw a);simp only[a_,nodesF,di];omega
theorem Db:∀ (f:List Fm) (b:List Str),(bH b f).length<=nodesFs f
 | [],b=>by simp[bH]
 | t :: l,b=>by have:=gH t b;have:=Db l b;simp only[bH,nodesFs,di];omega
end
theorem kG (f:Fm):1<=depthF f:=by obtain ⟨o,n,a,s⟩:=f;simp[depthF]
theorem mt {k:Nat} {n:Str} (hq:bD o=true):eD (k+1) x u (.mk o n a [g]) =
  if n == x || !(a_ [] g).contains x then .mk o n a [g]
  else if (aN u).contains n then .mk o (dN (a_ [] g ++ aN u)) (dF x u a) [eD k x u (eD k n (am (dN (a_ [] g ++ aN u))) g)]
  else .mk o n (dF x u a) [eD k x u g]:=by
 simp only[eD,hq,if_true]
theorem qH {k:Nat} {n:Str} (hq:bD o=false):eD (k+1) x u (.mk o n a s)=.mk o n (dF x u a) (s.map (eD k x u)):=by
 simp only[eD,hq,bZ,↓reduceIte]
theorem gR:∀ (k:Nat) (f:Fm) (x y:Str),lL f=true->qone f=true->depthF f<=k->lL (eD k x (am y) f)=true/\qone (eD k x (am y) f)=true/\depthF (eD k x (am y) f)=depthF f/\nodesF (eD k x (am y) f)=nodesF f
 | 0,f,x,y,hw,hq,hd=>by have:=kG f;omega
 | k+1,.mk o n a s,x,y,hw,hq1,hd=>by
  have lH:=hw;have pp136a:=();exact pm136
theorem zu (σ:Str->Dt) (h:x≠y) (u v:Dt):upd (upd σ x u) y v=upd (upd σ y v) x u:=by
 funext z
 unfold upd
 by_cases h1:z=x
 ·subst h1;have:(z == y)=false:=by simpa using h
  simp[this]
 ·have:(z == x)=false:=by simpa using h1
  simp[this]
theorem Gl {n:Str} (h:(aN u).contains n=false) (σ:Str->Dt) (v:Dt):vB (upd σ n v) u=vB σ u:=by
 refine Gj u (fun z hz=>?_);unfold upd;split
 ·rename_i h1;rw[fY]at h1;subst h1;have:(aN u).contains z=true:=by simpa using hz
  rw[h]at this;cases this
 ·rfl
theorem Gm (φ:Fm->Fm) (σ τ:Str->Dt) (d:Nat):∀ (s:List Fm),(∀ g∈s,dbF σ d (φ g)=dbF τ d g)->qD σ d (s.map φ)=qD τ d s
 | [],_=>rfl
 | g :: s,h=>by simp only[cU,qD];rw[h g (ij ..),Gm φ σ τ d s (fun x hx=>h x (iU _ hx))]
theorem O6 {m:Str} (h:m ∉ a_ [] g) (σ:Str->Dt) (v:Dt) (d:Nat):dbF (upd σ m v) d g=dbF σ d g:=by
 refine zp g _ _ d (fun z hz=>?_);unfold upd;split
 ·rename_i h1;rw[fY]at h1;subst h1;exact absurd hz h
 ·rfl
theorem t7:∀ (k:Nat) (f:Fm) (x:Str) (u:Tm) (σ:Str->Dt) (d:Nat),lL f=true->qone f=true->depthF f<=k->nodesF f+nodesT u<10 ^ 19->dbF σ d (eD k x u f)=dbF (upd σ x (vB σ u)) d f
 | 0,f,x,u,σ,d,hw,hq,hd,hn=>by have:=kG f;omega
 | k+1,.mk o n a s,x,u,σ,d,hw,hq1,hd,hn=>by
  have pp136b:=();exact pm136
theorem O7:∀ k n,n<10 ^ (k+1)->By (k+1) n=Lib.decDigits n:=by
 intro k
 induction k with
 | zero=>intro n h;rw[By,aX (by omega),Lib.decDigits,dif_pos (by omega)]
 | succ k ih=>
  intro n h;rw[By,Lib.decDigits]
  by_cases hn:n<10
  ·rw[aX hn,dif_pos hn]
  ·rw[aD hn,dif_neg hn,ih (n / 10) (by rw[Nat.pow_succ]at h;omega)]
theorem Jm {n:Nat} (h:n<10 ^ 20):gZ n=120 :: Lib.itoa (n:Int):=by
 unfold gZ;rw[O7 19 n h,Lib.itoa,aD (by omega)];simp
theorem Gn (ht:t.length<10 ^ 19) (h1:1<=j) (hn:gZ j ∉ t) (hb:∀ i,1<=i->i<j->gZ i∈t):dN t=gZ j:=by
 obtain ⟨j',Wd,nC,he,Uv⟩:=tZ t ht;have Dc:=rp t ht;rw[he]at Dc;rcases Nat.lt_trichotomy j j' with h | h | h
 ·exact absurd (Uv j h1 h) hn
 ·rw[he,h]
 ·exact absurd (hb j' Wd h) Dc
theorem Jn (ht:t.length<10 ^ 19) {n:Nat} (hb:∀ i,1<=i->i<n->gZ i∈t):n<=t.length+1:=by
 obtain ⟨j',Wd,nC,he,_⟩:=tZ t ht;have Dc:=rp t ht;rw[he]at Dc
 by_cases h:j'<n
 ·exact absurd (hb j' Wd h) Dc
 ·omega
theorem Dd {t':List Str} (ht:t.length<10 ^ 19) (ht':t'.length<10 ^ 19) (h:∀ x,x∈t ↔ x∈t'):dN t=dN t':=by
 obtain ⟨j',Wd,nC,he,Uv⟩:=tZ t' ht';have Dc:=rp t' ht';rw[he]at Dc ⊢;exact Gn ht Wd (fun hx=>Dc ((h _).1 hx)) (fun i h1 h2=>(h _).2 (Uv i h1 h2))
def Lu:Value->Option (DataW Value×List MemPlace):=fun v=>some (.held v,[])
def MapV (P:Program) (k:TypeId) {α:Type} (V:Value->α->Prop) (W:World) (m n:Nat) (l:List (Str×α)):Prop:=
 ∃D:DataW Value,W.ownsMap P k Lu m n D/\∀ x:Str,(getB l x=none->Maps.has D (.string x)=false)/\∀ a,getB l x=some a->Maps.has D (.string x)=true/\∃v,(∀ d,D.atKey (.string x) d=.held v)/\V v a
section
variable {P:Program} {k:TypeId} {α:Type} {V:Value->α->Prop} {W:World} {m n:Nat} {l:List (Str×α)}
theorem MapV.lt (h:MapV P k V W m n l):m<W.heap.size:=by obtain ⟨D,h,_⟩:=h;exact h.lt
theorem MapV.move {V':Value->α->Prop} (h:MapV P k V W m n l) (hb:W'.heap[m]?=W.heap[m]?) (hV:∀ x v a,getB l x=some a->V v a->V' v a):MapV P k V' W' m n l:=by
 obtain ⟨D,⟨es,zd,h1,F,h2,h3⟩,hx⟩:=h;refine ⟨D,⟨es,zd,hb.trans h1,F,h2,h3⟩,fun x=>⟨(hx x).1,fun a ha=>?_⟩⟩;obtain ⟨h4,v,h5,h6⟩:=(hx x).2 a ha;exact ⟨h4,v,h5,hV x v a ha h6⟩
theorem MapV.made (w:World):MapV P k V (w.alloc (.map #[] 0)) w.heap.size 0 []:=
 ⟨_,World.ownsMap_made w _ _ _,fun x=>⟨fun _=>by simp[Maps.has],fun a ha=>by simp[getB]at ha⟩⟩
theorem wa (hk:P.underlying k=some .string) (hx:x.length<=2000000):keyOf P k (.string ⟨x.toArray⟩)=some (.string x):=by
 have h:(⟨x.toArray⟩:ByteArray).size<=maxLen:=by have e:(⟨x.toArray⟩:ByteArray).size=x.length:=rfl;rw[e];unfold maxLen;omega
 rw[WideMaps.keyOf_string_mk hk h]
theorem MapV.look (h:MapV P k V W m n l) (hk:P.underlying k=some .string) {t:TypeId} (ht:P.underlying t=some (.map k e)) {z:Value} (hz:∀ W,(zeroValue e).run P W=.ok z W) (hx:x.length<=2000000) :
  (getB l x=none/\(∀ W',W'.heap[m]?=W.heap[m]?->(Instr.lookup t (.map (some m)) (.string ⟨x.toArray⟩) true).run P W'=.ok (.tuple #[z,.bool false]) W'/\(Instr.lookup t (.map (some m)) (.string ⟨x.toArray⟩) false).run P W'=.ok z W')) ∨
  (∃a v,getB l x=some a/\V v a/\∀ W',W'.heap[m]?=W.heap[m]?->(Instr.lookup t (.map (some m)) (.string ⟨x.toArray⟩) true).run P W'=.ok (.tuple #[v,.bool true]) W'/\(Instr.lookup t (.map (some m)) (.string ⟨x.toArray⟩) false).run P W'=.ok v W'):=by
 obtain ⟨D,⟨es,zd,hb,F,hs,hD⟩,oL⟩:=h;have BI:=wa hk hx;have K:=Maps.string_keyed hk
 cases hg:getB l x with
 | none=>
  left;refine ⟨rfl,fun W' hW=>?_⟩;have h0:=(oL x).1 hg;have h1:∀ c,(Instr.lookup t (.map (some m)) (.string ⟨x.toArray⟩) c).run P W'=.ok (if c then .tuple #[z,.bool false] else z) W':=fun c=>by
   rcases Maps.fit_look c K ht (hz W') (hW.trans hb) F BI with ⟨hr,_⟩ | ⟨e0,y,_,_,_,_,hat,_⟩
   ·exact hr
   ·rw[<-hD]at hat;rw[Maps.has_true_of_atKey hat]at h0;cases h0
  exact ⟨h1 true,h1 false⟩
 | some a=>
  right;obtain ⟨h4,v,h5,h6⟩:=(oL x).2 a hg;refine ⟨a,v,rfl,h6,fun W' hW=>?_⟩;have h1:∀ c,(Instr.lookup t (.map (some m)) (.string ⟨x.toArray⟩) c).run P W'=.ok (if c then .tuple #[v,.bool true] else v) W':=fun c=>by
   rcases Maps.fit_look c K ht (hz W') (hW.trans hb) F BI with ⟨_,_,hat⟩ | ⟨e0,y,_,_,hr,hR,hat,_⟩
   ·rw[<-hD]at hat;rw[Maps.has_false_of_atKey hat]at h4;cases h4
   ·rw[<-hD]at hat;have:=(hat .nil).symm.trans (h5 .nil);unfold Lu at hR;cases hR;simp at this;rw[<-this];exact hr
  exact ⟨h1 true,h1 false⟩
theorem MapV.store (h:MapV P k V W m n l) (hk:P.underlying k=some .string) {t:TypeId} (ht:P.underlying t=some (.map k e)) (hn:n<4000000) (hx:x.length<=2000000) {a:α} {l':List (Str×α)} {V':Value->α->Prop}
  (hv:V' v a) (hV:∀ y v b,y≠x->getB l y=some b->V v b->V' v b) (hl:∀ y,getB l' y=if y=x then some a else getB l y) :
  ∃w',(Instr.mapUpdate t (.map (some m)) (.string ⟨x.toArray⟩) v).run P W=.ok () w'/\MapV P k V' w' m (n+1) l'/\W.grownBy w' (some m)/\w'.heap.size=W.heap.size:=by
 obtain ⟨D,au,oL⟩:=h;have BI:=wa hk hx;have K:=Maps.string_keyed hk;obtain ⟨w',hr,ho,ht2⟩:=au.store K ht (by unfold maxLen;omega) BI (val:=v) (d:=.held v) (ps:=[]) rfl;refine ⟨w',hr,⟨_,ho,fun y=>?_⟩,ht2.grown,?_⟩
 ·rw[hl y]
  by_cases hy:y=x
  ·subst hy;rw[aX rfl];refine ⟨fun h=>(by cases h),fun b hb=>?_⟩;cases hb;refine ⟨Maps.has_put_same au.isMap (by simp[WideAt.IsKeyLit]) _,v,fun d=>Maps.atKey_put_same au.isMap (by simp[WideAt.IsKeyLit]) _ _,hv⟩
  ·rw[aD hy];have jD:(Lit.string y)≠.string x:=fun e=>hy (by injection e);refine ⟨fun h=>?_,fun b hb=>?_⟩
   ·rw[Maps.has_put_other jD];exact (oL y).1 h
   ·obtain ⟨h4,u,h5,h6⟩:=(oL y).2 b hb;exact ⟨by rw[Maps.has_put_other jD];exact h4,u,fun d=>by rw[Maps.atKey_put_other jD];exact h5 d,hV y u b hy hb h6⟩
 ·obtain ⟨es,zd,Sz,We,hb,rfl⟩:=ht2;simp[ChangeMaps.setBlock]
end
structure Later (W:World) where
 w:World
 below:Below W.heap.size W w
instance Later.inhab (W:World):Nonempty (Later W):=⟨⟨W,ak _ _⟩⟩
theorem Later.cell {W:World} (x:Later W) {b o:Nat} (h:b<W.heap.size):x.w.cell? ⟨b,o,none⟩=W.cell? ⟨b,o,none⟩:=x.below.cell (p:=⟨b,o,none⟩) h
theorem Later.get {W:World} {a:Addr} (h:W.cell? a=some v) (x:Later W):x.w.cell? a=some v:=aa x.below h
theorem cw {P:Program} {f:FuncId} {args:Array Value} {W:World} {x:Later W}
  (h:Calls P f args x.w fun e w'=>e=.returned v/\Below x.w.heap.size x.w w'):Calls P f args x.w fun e OJ=>e=.returned v/\∃y:Later W,OJ=y.w:=
 h.mono fun _ OJ ⟨he,hb⟩=>⟨he,⟨OJ,x.below.trans (hb.mono x.below.size)⟩,rfl⟩
theorem aS {P:Program} {id:Nat} {Q:Exit->Act->World->Prop} {a:Act} {w:World} {l:List Oper} (hm:P.follows .mixedOrders=true) (hB:Region.lexB .any l.toArray=true)
  (h:wpQuiet P l.toArray (fun w'=>∃x:Later w,w'=x.w) (fun a'=>∀ w',(∃x:Later w,w'=x.w)->Q .normal a' w') l a):(Code.region id l.toArray true).wp P Q a w:=
 wp_region_quiet (C:=fun w'=>∃x:Later w,w'=x.w) hm hB ⟨⟨{ w with drawn:=w.drawn+1 },⟨rfl,rfl,rfl,aF _,fun _ _=>rfl⟩⟩,rfl⟩ (by simpa using h)
def StrsV (W:World) (v:Value) (l:List Str):Prop:=∃a cap,v=.slice a l.length cap/\l.length<=cap/\(l=[]\/∃b off,a=some ⟨b,off,none⟩/\∀ j (h:j<l.length),W.cell? ⟨b,off+j,none⟩=some (.string ⟨l[j].toArray⟩))
theorem StrsV.later {W:World} {l:List Str} (h:StrsV W v l) (hb:Below W.heap.size W W'):StrsV W' v l:=by
 exact pm114
theorem StrsV.len {W:World} {a:Option Addr} {n:Nat} {l:List Str} (h:StrsV W (.slice a n c) l):n=l.length:=by
 obtain ⟨a',cap,hv,_⟩:=h;injection hv
theorem StrsV.get {W:World} {a:Option Addr} {n:Nat} {l:List Str} (h:StrsV W (.slice a n c) l) (hj:j<l.length) :
  ∃b off,a=some ⟨b,off,none⟩/\∀ j (h:j<l.length),W.cell? ⟨b,off+j,none⟩=some (.string ⟨l[j].toArray⟩):=by
 have pp249a:=();exact pm249
theorem Em {l:List Str} {k:Nat} (h:k+1<l.length):dD (l.drop k)=(Op.bytesLess l[k] l[k+1] && dD (l.drop (k+1))):=by
 rw[fN (by omega:k<l.length),fN h,dD,<-fN h]
theorem Gp {l:List Str} {k:Nat} (h:l.length<=k+1):dD (l.drop k)=true:=by
 have hl:(l.drop k).length<=1:=by rw[List.length_drop];omega
 match hd:l.drop k with
 | []=>rfl
 | [x]=>rfl
 | _ :: _ :: _=>rw[hd]at hl;simp at hl
theorem t_ (l:List Str) (cf:l.length<=1000000000) (w:World) (v:Value) (hv:StrsV w v l) :
  Calls Tryz.prog 70 #[v] w fun e w'=>e=.returned (.bool (dD l))/\Below w.heap.size w w':=by
 obtain ⟨a,n,c,rfl⟩:∃a n c,v=.slice a n c:=by obtain ⟨a,c,h,_⟩:=hv;exact ⟨_,_,_,h⟩
 obtain rfl:=hv.len;obtain ⟨n0,ud⟩:=ao l.length;obtain ⟨R,hR⟩:=ao (dD l);rw[<-ud]at cf;rw[<-ud,<-hR];obtain ⟨HN,HV,HR⟩:=cD ud hv hR;clear ud hv hR;go_enter Tryz.func70,Tryz.ntmps70;go_wp2;go_loopw [3] (fun i wr=>∃k:Nat,(k=0\/k<n0)/\i=.int .i64 ((k:Int)+1)/\Below w.heap.size w wr/\R=dD (l.drop k)) (fun i _=>n0 - (intOf i).toNat)
 case atStart=>exact ⟨0,.inl rfl,rfl,ak _ _,by simpa using HR.o⟩
 case round=>
  obtain ⟨k,hk,rfl,ar,ht⟩:=hrel
  by_cases hlt:k+1<n0
  ·have br:k+1<l.length:=by rw[<-HN.o];exact hlt
   obtain ⟨b,off,rfl,hc⟩:=HV.o.get br;have c0:=aa ar (hc k (by omega));have c1:=aa ar (hc (k+1) br);rw[Em br]at ht;obtain ⟨x,hx⟩:=ao (l[k]);obtain ⟨y,hy⟩:=ao (l[k+1]);rw[<-hx]at ht c0;rw[<-hy]at ht c1;have f0:=fun z:Later wr=>z.get c0;have f1:=fun z:Later wr=>z.get c1;have FE:(k:Int)+1<(n0:Int):=by omega
   obtain ⟨HB,HT⟩:=aZ ar ht;clear ar ht hc c0 c1 hx hy;have pp58a:=();exact pm58
  ·have HE:=ab (show R=true by rw[ht];exact Gp (by rw[<-HN.o];omega));have HB:=ab ar;have zcp:decide ((k:Int)+1<(n0:Int))=false:=by simp;omega
   clear ar ht;go_wp2;go_ret;exact ⟨aK HE.o.symm,HB.o⟩
