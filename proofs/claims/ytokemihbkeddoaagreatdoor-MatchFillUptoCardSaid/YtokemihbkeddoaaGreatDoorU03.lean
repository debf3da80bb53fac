/-
The iterator of a term's names.
-/
import Derived.Test.YtokemihbkeddoaaGreatDoorShelf
import Derived.Test.YtokemihbkeddoaaGreatDoorU02
namespace Go.Proofs.YtokemihbkeddoaaGreatDoor
open Go Go.RowKit Lib
set_option maxRecDepth 100000
set_option maxHeartbeats 64000000
variable {l:List Fm} {k m i:Nat} {ok:Nat->Prop} {W:World} {v:Value} {t:Tm} {sc:Bool} {n x s:Str} {xs:List Str} {α:Type} {b:Bd} {c:Sco} {f im:Fm} {p:Pl}
section
attribute [local go_sem] Oper.semAt_some
theorem fK {l:List Tm} {k:Nat} (h:k<l.length):ap (l.take (k+1))=ap (l.take k) ++ aC l[k]:=by
 induction l generalizing k with
 | nil=>simp at h
 | cons t l ih=>
  cases k with
  | zero=>simp[ap]
  | succ k=>have:=ih (k:=k) (by simpa using h);simp[ap]at this ⊢;rw[this]
theorem gw:∀ l m,ap (l ++ m)=ap l ++ ap m
 | [],m=>rfl
 | t :: l,m=>by simp[ap,gw l m]
def z8 (_:World) (vs:Array Value) (x:Str):Prop:=vs=#[.string ⟨x.toArray⟩]
theorem CZ:∀ (t:Tm),fitT t->∀ (M:Nat->Prop) (B l:Nat) (J:List Str->World->Prop) (xs pre:List Str) (W:World) (q:TQ),(∀ b,M b->b<W.heap.size)->(∀ s,Abides W.heap.size (J s))->YieldK M l J z8 xs W->TermV (fun b=>b<B/\¬M b) W q.val t->(pre ++ aC t) <+: xs->J pre W →
  Calls Tryz.prog 214 #[q.val,.func (.yield l) #[] #[]] W fun e W'=>e=.returned (.bool true)/\J (pre ++ aC t) W'/\Kp M W W':=by
 intro t
 induction t using Tm.ind with
 | h v n a ih=>
  intro hfit M B l J xs pre W q hM hJ hY hq dx hj;obtain ⟨qv,qn,qa,ql,qc⟩:=q;obtain ⟨sa,hs,bL⟩:=aP.1 hq;have pp40d:=();exact pm40
theorem C0 (q:TQ) (w:World) :
  Calls Tryz.prog 220 #[q.val] w fun e w'=>e=.returned (.func (.func 270) #[] #[.pointer (some ⟨w.heap.size,0,none⟩)])/\w'=w.alloc (.cells #[.bool q.v,.string q.n,.slice q.a q.l q.c] 43):=by
 obtain ⟨v,n,a,l,c⟩:=q;unfold TQ.val;go_enter Tryz.func220,Tryz.ntmps220;go_wp2;go_ret;exact ⟨rfl,rfl⟩
theorem C4 (t:Tm) (hfit:fitT t) (M:Nat->Prop) (B X:Nat) (w:World) (q:TQ) (hX:w.heap[X]?=some (.cells #[.bool q.v,.string q.n,.slice q.a q.l q.c] 43 (0,0))) (I6:¬M X) (hq:TermV (fun b=>b<B/\¬M b) w q.val t) :
  Jn M False Tryz.prog 270 #[.pointer (some ⟨X,0,none⟩)] (aC t) z8 w:=by
 have pp230a:=();exact pm230
end
theorem TermV.lt (h:TermV ok W v t):TermV (fun b=>b<W.heap.size) W v t:=h.move (fun _ _ hlt=>⟨hlt,rfl⟩)
theorem FormV.lt {t:Fm} (h:FormV ok W v t):FormV (fun b=>b<W.heap.size) W v t:=h.move (fun _ _ hlt=>⟨hlt,rfl⟩)
theorem OW (t:Tm) (hf:fitT t) (ok:Nat->Prop) (w:World) (q:TQ) (hq:TermV ok w q.val t) :
  Calls Tryz.prog 68 #[q.val] w fun e w'=>e=.returned (.bool (i8 false t))/\Below w.heap.size w w':=by
 have hn:=hf.1;have hdn:=qB t;obtain ⟨W2,a_⟩:=am ((w.alloc (.cells #[.bool q.v,.string q.n,.slice q.a q.l q.c] 43)).alloc (.cells #[.bool false,.int .i64 9223372036854775807,.int .i64 9223372036854775807] 111));have hB:=lv a_;have hJ:JAt (w.heap.size+1) false 9223372036854775807 9223372036854775807 W2:=by rw[a_];exact ai (by simp)
 have C:=OQ t hf _ (w.heap.size+1) false 9223372036854775807 9223372036854775807 1 W2 q (hq.lt.later hB) (fun b hb=>by omega) hJ (by omega) (by omega) (by omega) (by omega) (by omega);have hb:(i8 false t && (decide ((nodesT t:Int)<=9223372036854775807) && decide (1+(dv t:Int)<=9223372036854775807+1)))=i8 false t:=by
  have e1:decide ((nodesT t:Int)<=9223372036854775807)=true:=by simp;omega
  have e2:decide (1+(dv t:Int)<=9223372036854775807+1)=true:=by simp;omega
  rw[e1,e2];simp
 rw[hb]at C;obtain ⟨HC,HB⟩:=aW C hB;clear C hB hJ hb hn hdn hq hf;have HW:=ac a_;rw[a_]at HC;clear a_;unfold TQ.val at HC ⊢;obtain ⟨bb,cQ⟩:=am (i8 false t);rw[<-cQ]at HC ⊢;clear cQ;cases bb
 all_goals
  go_enter Tryz.func68,Tryz.ntmps68;go_wp2_with (go_at_call 122;refine HC.o.mono ?_;rintro e w3 ⟨rfl,kD,_⟩;have m7:=ac kD;clear kD);go_ret;refine ⟨rfl,?_⟩;rw[<-HW.o]at m7;exact Below.kp1 HB.o m7.o (by omega)
theorem rC (s:Nat) (hs:s<4) (n:Str) (hn:n.length<=1000000000) (w:World) :
  Calls Tryz.prog 116 #[.int .u8 s,.string ⟨n.toArray⟩] w fun e w'=>e=.returned (.bool (qp s n))/\Below w.heap.size w w':=by
 have sB:s=0\/s=1\/s=2\/s=3:=by omega
 rcases sB with rfl | rfl | rfl | rfl
 ·go_enter Tryz.func116,Tryz.ntmps116;go_wp2;go_ret;exact ⟨rfl,aj _ _⟩
 ·go_enter Tryz.func116,Tryz.ntmps116;go_wp2_with (go_at_call 120;refine (nC n _ hn).mono ?_;rintro e w' ⟨rfl,hb⟩);go_ret;exact ⟨rfl,hb⟩
 ·go_enter Tryz.func116,Tryz.ntmps116;go_wp2_with (go_at_call 152;refine (iM n _ hn).mono ?_;rintro e w' ⟨rfl,hb⟩);go_ret;exact ⟨rfl,hb⟩
 ·go_enter Tryz.func116,Tryz.ntmps116;go_wp2_with (go_at_call 185;refine (nE n _ hn).mono ?_;rintro e w' ⟨rfl,hb⟩);go_ret;exact ⟨rfl,hb⟩
theorem OX {l:List Tm} (h:l.length≠2):ug l=false:=by
 match l with
 | []=>rfl
 | [_]=>rfl
 | [_,_]=>exact absurd rfl h
 | _ :: _ :: _ :: _=>rfl
theorem lT (l:List Tm) (hf:fitTs l) (ok:Nat->Prop) (a:Option Addr) (n c:Nat) (w:World) (hv:TermsV ok w (.slice a n c) l) :
  Calls Tryz.prog 117 #[.slice a n c] w fun e w'=>e=.returned (.bool (ug l))/\Below w.heap.size w w':=by
 obtain rfl:=hv.len
 by_cases hl:l.length=2
 ·obtain ⟨x,y,rfl⟩:∃x y,l=[x,y]:=by
   match l,hl with
   | [x,y],_=>exact ⟨x,y,rfl⟩
  obtain ⟨b,off,u,rfl,_,hu,c0,c1,c2⟩:=hv.get (j:=0) (by simp);obtain ⟨b',jD,u',cQ,_,gu,j6,kG,kH⟩:=hv.get (j:=1) (by simp);simp only[cX,Addr.mk.injEq,and_true]at cQ;obtain ⟨rfl,rfl⟩:=cQ;simp only[List.getElem_cons_zero,List.getElem_cons_succ]at hu gu;have Z4:=hf.mem (t:=x) (by simp);have hfy:=hf.mem (t:=y) (by simp);obtain ⟨xv,xn,xa⟩:=x;obtain ⟨yv,yn,ya⟩:=y;obtain ⟨s1,h1,_⟩:=aP.1 hu;obtain ⟨s2,h2,_⟩:=aP.1 gu;have rY:=Z4.name;have rX:=hfy.name;have qg:xn.length<=1000000000:=by omega
  have hy2:yn.length<=1000000000:=by omega
  obtain ⟨uv,un,ua,ul,uc⟩:=u;obtain ⟨vv,vn,va,vl,vc⟩:=u';have pp64a:=();exact pm64
 ·rw[OX hl];have sr:((l.length:Int) == 2)=false:=by simp;omega
  have HV:=ac hv;clear hv hf;obtain ⟨n,hn⟩:=am l.length;rw[<-hn]at sr hl ⊢;clear hn HV;go_enter Tryz.func117,Tryz.ntmps117;go_wp2;go_ret;exact ⟨rfl,aj _ _⟩
def Z5 (W0:World) (t:Fm):Prop:=∀ (ok:Nat->Prop) (J:Nat) (sc:Bool) (left br aZ:Int) (w:World) (q:FQ),Tabs W0 w->W0.heap.size<=J->FormV ok w q.val t->(∀ b,ok b->b≠J)->JAt J sc left br w->0<=left->left<=9223372036854775807->br<=9223372036854775807->1<=aZ->aZ+nodesF t<=100000000 →
 Calls Tryz.prog 64 #[.pointer (some ⟨J,0,none⟩),q.val,.int .i64 aZ] w (JPost J sc left br (nodesF t) (okF sc t && (decide ((nodesF t:Int)<=left) && decide (aZ+depthF t<=br+1))) w)
theorem eA {k:Nat} (h:k<l.length):nodesFs (l.take (k+1))=nodesFs (l.take k)+nodesF l[k]:=by
 induction l generalizing k with
 | nil=>simp at h
 | cons t l ih=>
  cases k with
  | zero=>simp[nodesFs]
  | succ k=>have:=ih (k:=k) (by simpa using h);simp[nodesFs]at this ⊢;omega
theorem io {k:Nat} (h:k<l.length):aS (l.take (k+1))=max (aS (l.take k)) (depthF l[k]):=by
 induction l generalizing k with
 | nil=>simp at h
 | cons t l ih=>
  cases k with
  | zero=>simp[aS]
  | succ k=>have:=ih (k:=k) (by simpa using h);simp[aS]at this ⊢;omega
theorem km {k:Nat} (h:k<l.length):cW sc (l.take (k+1))=(cW sc (l.take k) && okF sc l[k]):=by
 induction l generalizing k with
 | nil=>simp at h
 | cons t l ih=>
  cases k with
  | zero=>simp[cW]
  | succ k=>have:=ih (k:=k) (by simpa using h);simp[cW]at this ⊢;rw[this,Bool.and_assoc]
theorem cI (l:List Fm) (k:Nat):nodesFs (l.take k)<=nodesFs l:=by
 induction l generalizing k with
 | nil=>simp
 | cons t l ih=>cases k with
  | zero=>simp[nodesFs]
  | succ k=>have:=ih k;simp[nodesFs];omega
theorem nc {k:Nat} (h:k<l.length):depthF l[k]<=aS l:=by
 induction l generalizing k with
 | nil=>simp at h
 | cons t l ih=>
  cases k with
  | zero=>simp[aS];omega
  | succ k=>have:=ih (k:=k) (by simpa using h);simp[aS];omega
theorem ut {k:Nat} (h:k<l.length) (hf:okF sc l[k]=false):cW sc l=false:=by
 induction l generalizing k with
 | nil=>simp at h
 | cons t l ih=>
  cases k with
  | zero=>simp at hf;simp[cW,hf]
  | succ k=>have:=ih (k:=k) (by simpa using h) (by simpa using hf);simp[cW,this]
theorem MH {o:Int} (h:17<=o):rowOp o=(false,false,0,0,0):=by
 unfold rowOp;simp[show o≠1 by omega,show o≠2 by omega,show o≠8 by omega,show o≠9 by omega,show o≠3 by omega,show ¬o<=13 by omega,show ¬o<=7 by omega,show o≠14 by omega,show o≠15 by omega,show o≠16 by omega]
theorem Jw (o:Int):(rowOp o).2.2.1<4/\(rowOp o).2.2.2.1<=4/\(rowOp o).2.2.2.2<=2:=by
 unfold rowOp
 repeat' split
 all_goals simp
theorem Sr (sc:Bool) (o:Int) (n:Str) (a:List Tm) (s:List Fm) (left br aZ:Int) :
  (okF sc (.mk o n a s) && (decide ((nodesF (.mk o n a s):Int)<=left) && decide (aZ+depthF (.mk o n a s)<=br+1))) =
  (((rowOp o).1 || (sc && (rowOp o).2.1)) && ((qp (rowOp o).2.2.1 n && (decide (a.length<=(rowOp o).2.2.2.1) && s.length == (rowOp o).2.2.2.2)) && ((o != 16 || ug a) && ((dH sc a && (decide ((nodesTs a:Int)<=left - 1) && decide (aZ+1+bG a<=br+1))) && (cW sc s && (decide ((nodesFs s:Int)<=left - 1 - nodesTs a) && decide (aZ+1+aS s<=br+1))))))):=by
 have e1:decide ((nodesF (.mk o n a s):Int)<=left)=(decide ((nodesTs a:Int)<=left - 1) && decide ((nodesFs s:Int)<=left - 1 - nodesTs a)):=by
  rw[gV,af,bp,bp,bp];unfold nodesF;omega
 have e2:decide (aZ+depthF (.mk o n a s)<=br+1)=(decide (aZ+1+bG a<=br+1) && decide (aZ+1+aS s<=br+1)):=by
  rw[gV,af,bp,bp,bp];unfold depthF;omega
 rw[e1,e2];unfold okF;generalize decide ((nodesTs a:Int)<=left - 1)=x1;generalize decide ((nodesFs s:Int)<=left - 1 - nodesTs a)=x2;generalize decide (aZ+1+bG a<=br+1)=x3;generalize decide (aZ+1+aS s<=br+1)=x4;generalize dH sc a=x5;generalize cW sc s=x6;generalize ((rowOp o).1 || (sc && (rowOp o).2.1))=x7;generalize (qp (rowOp o).2.2.1 n && (decide (a.length<=(rowOp o).2.2.2.1) && s.length == (rowOp o).2.2.2.2))=x8;generalize (o != 16 || ug a)=x9;revert x1 x2 x3 x4 x5 x6 x7 x8 x9;decide
section
attribute [local go_sem] Oper.semAt_some run_makeMap
def SetW (W:World) (m n:Nat) (xs:List Str):Prop:=∃D:DataW Unit,W.ownsMap Tryz.prog 9 (plainElem Tryz.prog 4) m n D/\(∀ x:Str,Maps.has D (.string x)=true ↔ x∈xs)/\∀ x∈xs,∀ d,D.atKey (.string x) d=.lit (.bool true)
theorem SetW.same {W':World} {n:Nat} (h:SetW W m n xs) (hb:W'.heap[m]?=W.heap[m]?):SetW W' m n xs:=by
 obtain ⟨D,⟨es,z9,h1,F,h2,h3⟩,hx⟩:=h;exact ⟨D,⟨es,z9,hb.trans h1,F,h2,h3⟩,hx⟩
theorem SetW.lt {n:Nat} (h:SetW W m n xs):m<W.heap.size:=by
 obtain ⟨D,h,_⟩:=h;exact h.lt
theorem E3 (xs:List Str) (hlen:xs.length<=2000000) (dD:∀ x∈xs,x.length<=2000000) (gf:Nat) (lb:Array Value) (w:World) (eg:∀ args W,(callFunc gf args).run Tryz.prog W=.ok (.enter gf args) W)
  (oI:∀ w1,Below w.heap.size w w1->w.heap.size<w1.heap.size->Jn (fun b=>b=w.heap.size) False Tryz.prog gf lb xs z8 w1) :
  Calls Tryz.prog 84 #[.func (.func gf) #[] lb] w fun e w'=>e=.returned (.map (some w.heap.size))/\SetW w' w.heap.size xs.length xs/\Below w.heap.size w w':=by
 obtain ⟨yQ,Jy,Z6⟩:=cH hlen dD oI;clear hlen dD oI;refine Lh ?_;refine callsIn_of_wp_marks Tryz.func84 rfl trivial ?_ rfl;simp only[Tryz.ntmps84,Nat.reduceAdd,Nat.reduceSub,lu];have iz:=fd;gi_wp2;obtain ⟨w1,yR⟩:=am ((w.alloc (.map #[] 0)).alloc (.cells #[.map (some w.heap.size)] 118));have hb1:=lv yR;have ju:=yJ yR;have Jz:SetW w1 w.heap.size 0 []:=by
  rw[yR];exact ⟨_,(World.ownsMap_made w _ _ _).alloc _,fun x=>by simp[Maps.has],fun x hx=>by simp at hx⟩
 have xB:=j_ yR;rw[<-yR];clear yR;obtain ⟨ec,RT,HS0,HXB⟩:=eH hb1 ju Jz xB;clear hb1 ju Jz xB;refine gJ rfl eg (fun b hb=>by subst hb;have:=RT.o;omega) (Z6.o w1 ec.o (by have:=RT.o;omega)) (fun _ _ _ h=>by cases h;rfl)
  (fun pre X=>SetW X w.heap.size pre.length pre/\Kp (fun b=>b=w.heap.size) w1 X) (fun _ _ _=>False) (fun s=>?hI) (fun _ _ _ _ _ h=>h.elim) ⟨HS0.o,Kp.refl _⟩ ?round ?done (fun _ _ _ _ h=>h.elim)
 case hI=>
  rintro X Y hn ⟨h1,h2⟩;have hl:=h1.lt;have hz:=RT.o;exact ⟨h1.same (hn.old (by omega) hl),hn.os.trans h2.os,hn.tape.trans h2.tape,hn.output.trans h2.output,aU h2.size hn.size,fun b hb hm=>(hn.old hb (bH hb h2.size)).trans (h2.same b hb hm)⟩
 case done=>
  rintro D X hD ⟨hs,bj⟩ _ hd;have c0:X.cell? ⟨w.heap.size+1,0,none⟩=some (.map (some w.heap.size)):=ah ((bj.same _ (by have:=RT.o;omega) (by omega)).trans HXB.o) 0;obtain ⟨HS,HK,HD,Z7⟩:=eH hs bj hd hD;clear hs bj hd hD;gi_wp2;refine ⟨by simp,.inl ⟨_,_,rfl,run_takeDeferred HD.o,?_⟩⟩;refine ⟨.map (some w.heap.size),by simp[results,Tryz.results84,go_sem],rfl,?_,?_⟩
  ·exact HS.o.same (nW (by have:=RT.o;have:=Z7.o;omega))
  ·have hk:=EV (.deferred none) HK.o Z7.o;exact pm181
 case round=>
  rintro l pre vs x W hl yS ⟨hs,bj⟩ hat _ dx;cases hat;obtain ⟨HS,HK,HLr,ob⟩:=eH hs bj yS dx;clear hs bj yS dx;gi_wp2;refine ⟨Kp.refl _,⟨HS.o,HK.o⟩,fun W2 g9 jP iO=>?_⟩;have hxm:x∈xs:=ob.o.subset (by simp);have wM:(⟨x.toArray⟩:ByteArray).size<=maxLen:=by have:=Jy.o x hxm;have e:(⟨x.toArray⟩:ByteArray).size=x.length:=rfl;rw[e];unfold maxLen;omega
  have MI:keyOf Tryz.prog 9 (.string ⟨x.toArray⟩)=some (.string x):=by rw[WideMaps.keyOf_string_mk Tryz.underlying9 wM]
  have mg:pre.length<maxLen:=by
   have h1:(pre ++ [x]).length<=xs.length:=ob.o.length_le;have:=yQ.o;simp at h1;unfold maxLen;omega
  obtain ⟨⟨D,aA,z',yT⟩,_⟩:=jP;have c0:W2.cell? ⟨w.heap.size+1,0,none⟩=some (.map (some w.heap.size)):=ah ((iO.same _ (by have:=RT.o;omega) (by omega)).trans HXB.o) 0;obtain ⟨HH,zb9,Z8,HM⟩:=eH z' yT iO aA.isMap;clear z' yT iO wM hxm;gi_wp2_with (gi_at_mapUpdate;refine wpListIn_mapUpdate_own _ rfl _ _ _ 118 rfl 9 4 (Maps.string_keyed Tryz.underlying9) Tryz.underlying118 (plainElem Tryz.prog 4) w.heap.size pre.length D rfl aA mg _ _ (.string x) rfl rfl MI (.lit (.bool true)) [] (plainElem_bool Tryz.underlying4 true) ?_;intro w4 aV aq;have HG:=aG aV aq;clear aV aq);have lK:Kp (fun b=>b=w.heap.size) W2 w4:=Kp.grown HG.o.2 rfl;refine ⟨lK,⟨_,by rw[dO];exact HG.o.1,fun y=>?_,fun y hym d=>?_⟩,Z8.o.trans lK⟩
  rotate_left
  ·by_cases hy:y=x
   ·subst hy;rw[Maps.atKey_put_same HM.o (by simp[WideAt.IsKeyLit])]
   ·rw[Maps.atKey_put_other (fun h=>hy (by injection h))];exact zb9.o y (by simpa[hy] using hym) d
  by_cases hy:y=x
  ·subst hy;rw[Maps.has_put_same HM.o (by simp[WideAt.IsKeyLit])];simp
  ·rw[Maps.has_put_other (fun h=>hy (by injection h))];rw[HH.o];simp[hy]
end
theorem uw (x:Str) (v:α):∀ (l:List (Str×α)),getB l x=none->∀ y,getB (fS x v l) y=if x == y then some v else getB l y
 | [],_,y=>rfl
 | (z,u) :: r,h,y=>by
  unfold getB at h;have hz:(z == x)=false:=by
   cases hz:z == x
   ·rfl
   ·simp[hz]at h
  simp only[hz,bW,↓reduceIte]at h;unfold fS;split
  ·rfl
  ·show (if z == y then some u else getB (fS x v r) y)=_;rw[uw x v r h y];show _=if x == y then some v else if z == y then some u else getB r y
   by_cases h1:z == y
   ·have h2:(x == y)=false:=by
     rw[dP]at h1;subst h1;rw[Bool.eq_false_iff]at hz ⊢;intro h3;exact hz (by simpa using (dP.1 h3).symm)
    simp[h1,h2]
   ·simp[h1]
structure Sub (k k':Bd):Prop where
 f:∀ n v,getB k.fs n=some v->getB k'.fs n=some v
 t:∀ n v,getB k.ts n=some v->getB k'.ts n=some v
theorem Sub.refl (k:Bd):Sub k k:=⟨fun _ _ h=>h,fun _ _ h=>h⟩
theorem Sub.trans {a c:Bd} (h:Sub a b) (g:Sub b c):Sub a c:=⟨fun n v e=>g.f n v (h.f n v e),fun n v e=>g.t n v (h.t n v e)⟩
def SubL {α:Type} (k k':List (Str×α)):Prop:=∀ n v,getB k n=some v->getB k' n=some v
theorem SubL.refl (k:List (Str×α)):SubL k k:=fun _ _ h=>h
theorem SubL.trans {a b c:List (Str×α)} (h:SubL a b) (g:SubL b c):SubL a c:=fun n v e=>g n v (h n v e)
theorem z_ {k:List (Str×α)} {v:α} (h:getB k x=none):SubL k (fS x v k):=fun n u e=>by
 rw[uw x v k h n];split
 ·rename_i h1;rw[dP]at h1;subst h1;rw[h]at e;cases e
 ·exact e
theorem oS {k:List (Str×α)} {v:α} (h:getB k x=none):getB (fS x v k) x=some v:=by
 rw[uw x v k h x];simp
/-! equality -/
mutual
theorem DV:∀ t,wA t t=true
 | .mk v n a=>by simp[wA,oT a]
theorem oT:∀ l,jl l l=true
 | []=>by simp[jl]
 | t :: l=>by simp[jl,DV t,oT l]
end
mutual
theorem ux:∀ t u,wA t u=true ↔ t=u
 | .mk v n a,.mk v' n' a'=>by simp[wA,h_ a a',and_assoc]
theorem h_:∀ l m,jl l m=true ↔ l=m
 | [],[]=>by simp[jl]
 | [],_ :: _=>by simp[jl]
 | _ :: _,[]=>by simp[jl]
 | t :: l,u :: m=>by simp[jl,ux t u,h_ l m]
end
mutual
theorem qE:∀ t u,yL t u=true ↔ t=u
 | .mk v n a s,.mk v' n' a' s'=>by simp[yL,h_ a a',oc s s',and_assoc]
theorem oc:∀ l m,nY l m=true ↔ l=m
 | [],[]=>by simp[nY]
 | [],_ :: _=>by simp[nY]
 | _ :: _,[]=>by simp[nY]
 | t :: l,u :: m=>by simp[nY,qE t u,oc l m]
end
/-! a formula is alike to itself -/
def VS (l:List Str):Sco:=l.map fun x=>(x,x)
theorem xQ:∀ (l:List Str) (x:Str),kK (VS l) x x=true
 | [],x=>by simp[VS,kK]
 | y :: l,x=>by
  show (if y == x || y == x then y == x && y == x else kK (VS l) x x)=true;split
  ·simp_all
  ·exact xQ l x
mutual
theorem GS (l:List Str):∀ t,eU (VS l) t t=true
 | .mk v n a=>by
  simp only[eU,beq_self_eq_true,Bool.and_self,du];split
  ·exact xQ l n
  ·exact oU l a
theorem oU (l:List Str):∀ a,bM (VS l) a a=true
 | []=>by simp[bM]
 | t :: r=>by simp[bM,GS l t,oU l r]
end
mutual
theorem Aa:∀ (f:Fm) (l:List Str),cP (VS l) f f=true
 | .mk o n a s,l=>by
  simp only[cP,beq_self_eq_true,Bool.and_self,du,Bool.true_or,oU l a];split
  ·exact qF s (n :: l)
  ·exact qF s l
theorem qF:∀ (s:List Fm) (l:List Str),cb (VS l) s s=true
 | [],l=>by simp[cb]
 | f :: r,l=>by simp[cb,Aa f l,qF r l]
end
theorem GT (f:Fm):cP [] f f=true:=Aa f []
/-! what has matched once matches again -/
mutual
theorem Ab (sc:List Str):∀ (t u:Tm) (k k':List (Str×Tm)),cJ sc k t u=some k'->SubL k k'/\∀ mC,SubL k' mC->cJ sc mC t u=some mC
 | .mk v n a,.mk v' n' a',k,k',h=>by
  unfold cJ at h
  by_cases hm:(v && dz n)=true
  ·rw[au hm]at h
   cases hg:getB k n with
   | none=>
    rw[hg]at h;simp only[cX]at h;subst h;refine ⟨z_ hg,fun mC hk=>?_⟩;have:=hk n _ (oS hg);unfold cJ;rw[au hm,this];simp[DV]
   | some u=>
    rw[hg]at h;simp only at h;split at h
    ·rename_i he;cases h;refine ⟨SubL.refl _,fun mC hk=>?_⟩;unfold cJ;rw[au hm,hk n _ hg];simp[he]
    ·cases h
  ·rw[ak hm]at h
   by_cases hs:(v && sc.contains n)=true
   ·rw[au hs]at h;split at h
    ·rename_i he;cases h;refine ⟨SubL.refl _,fun mC _=>?_⟩;unfold cJ;rw[ak hm,au hs,au he]
    ·cases h
   ·rw[ak hs]at h;split at h
    ·cases h
    ·rename_i hd;obtain ⟨h1,h2⟩:=nd sc a a' k k' h;refine ⟨h1,fun mC hk=>?_⟩;unfold cJ;rw[ak hm,ak hs,ak hd];exact h2 mC hk
theorem nd (sc:List Str):∀ (t u:List Tm) (k k':List (Str×Tm)),bR sc k t u=some k'->SubL k k'/\∀ mC,SubL k' mC->bR sc mC t u=some mC
 | [],u,k,k',h=>by
  simp only[bR,cX]at h;subst h;exact ⟨SubL.refl _,fun _ _=>by simp[bR]⟩
 | _ :: _,[],k,k',h=>by
  simp only[bR,cX]at h;subst h;exact ⟨SubL.refl _,fun _ _=>by simp[bR]⟩
 | t :: l,u :: m,k,k',h=>by
  simp only[bR]at h
  cases h1:cJ sc k t u with
  | none=>rw[h1]at h;cases h
  | some k1=>
   rw[h1]at h;obtain ⟨a1,a2⟩:=Ab sc t u k k1 h1;obtain ⟨b1,b2⟩:=nd sc l m k1 k' h;refine ⟨a1.trans b1,fun mC hk=>?_⟩;simp only[bR,a2 mC (b1.trans hk),b2 mC hk]
end
theorem oV (c:Sco):∀ (t u:List Tm) (k k':List (Str×Tm)),cK c k t u=some k'->SubL k k'/\∀ mC,SubL k' mC->cK c mC t u=some mC
 | [],u,k,k',h=>by
  simp only[cK,cX]at h;subst h;exact ⟨SubL.refl _,fun _ _=>by simp[cK]⟩
 | _ :: _,[],k,k',h=>by
  simp only[cK,cX]at h;subst h;exact ⟨SubL.refl _,fun _ _=>by simp[cK]⟩
 | t :: l,u :: m,k,k',h=>by
  simp only[cK]at h
  cases h0:ir c [] u with
  | none=>rw[h0]at h;cases h
  | some im=>
   rw[h0]at h;simp only at h
   cases h1:cJ (c.map (·.1)) k t im with
   | none=>rw[h1]at h;cases h
   | some k1=>
    rw[h1]at h;obtain ⟨a1,a2⟩:=Ab _ t im k k1 h1;obtain ⟨b1,b2⟩:=oV c l m k1 k' h;refine ⟨a1.trans b1,fun mC hk=>?_⟩;simp only[cK,h0,a2 mC (b1.trans hk),b2 mC hk]
def GU (step:Bd->Pl->Bd×Int):Prop:=∀ k p k',step k p=(k',0)->Sub k k'/\∀ mC,Sub k' mC->step mC p=(mC,0)
theorem sC:GU bK:=by
 intro k p k' h;unfold bK at h
 by_cases dN:p.s.op=16
 ·rw[au dN]at h;cases h;exact ⟨Sub.refl _,fun _ _=>by unfold bK;rw[au dN]⟩
 rw[ak dN]at h
 by_cases eQ:p.s.op=15
 ·rw[au eQ]at h
  cases hi:eT p.c [] p.f with
  | none=>rw[hi]at h;simp at h
  | some im=>
   rw[hi]at h;simp only at h
   cases hg:getB k.fs p.s.n with
   | none=>
    rw[hg]at h;simp only[Prod.mk.injEq,and_true]at h;subst h;refine ⟨⟨z_ hg,fun _ _ h=>h⟩,fun mC hk=>?_⟩;unfold bK;rw[ak dN,au eQ,hi];simp only;rw[hk.f _ _ (oS hg)];simp[GT]
   | some g=>
    rw[hg]at h;simp only at h;split at h
    ·rename_i ha;cases h;refine ⟨Sub.refl _,fun mC hk=>?_⟩;unfold bK;rw[ak dN,au eQ,hi];simp only;rw[hk.f _ _ hg];simp[ha]
    ·simp at h
 rw[ak eQ]at h;split at h
 ·simp at h
 ·rename_i hd
  cases ha:cK p.c k.ts p.s.a p.f.a with
  | none=>rw[ha]at h;simp at h
  | some ts=>
   rw[ha]at h;simp only[Prod.mk.injEq,and_true]at h;subst h;obtain ⟨h1,h2⟩:=oV _ _ _ _ _ ha;refine ⟨⟨fun _ _ h=>h,h1⟩,fun mC hk=>?_⟩;unfold bK;rw[ak dN,ak eQ,ak hd,h2 mC.ts hk.t]
theorem Ac:GU ev:=by
 intro k p k' h;unfold ev at h
 by_cases dN:(p.s.op != 16)=true
 ·rw[au dN]at h;cases h;exact ⟨Sub.refl _,fun _ _=>by unfold ev;rw[au dN]⟩
 rw[ak dN]at h
 cases hg:getB k.fs p.s.n with
 | none=>rw[hg]at h;simp at h
 | some f=>
  rw[hg]at h;simp only at h
  cases hi:eT p.c [] p.f with
  | none=>rw[hi]at h;simp at h
  | some im=>
   rw[hi]at h;simp only at h
   by_cases h0:fG (aJ p.s).1 f=0
   ·rw[au h0]at h;split at h
    ·rename_i ha;cases h;refine ⟨Sub.refl _,fun mC hk=>?_⟩;unfold ev;rw[ak dN,hk.f _ _ hg];simp only[hi,au h0,au ha]
    ·simp at h
   ·rw[ak h0]at h
    cases ht:getB k.ts (aJ p.s).2 with
    | some t=>
     rw[ht]at h;simp only at h;split at h
     ·simp at h
     ·rename_i hn;split at h
      ·rename_i ha;cases h;refine ⟨Sub.refl _,fun mC hk=>?_⟩;unfold ev;rw[ak dN,hk.f _ _ hg];simp only[hi,ak h0,hk.t _ _ ht,ak hn,au ha]
      ·simp at h
    | none=>
     rw[ht]at h;simp only at h
     cases hf:ie f im (aJ p.s).1 with
     | none=>rw[hf]at h;simp at h
     | some t=>
      rw[hf]at h;simp only[Option.map_some]at h;split at h
      ·simp at h
      ·rename_i hn;split at h
       ·rename_i ha;simp only[Prod.mk.injEq,and_true]at h;subst h;refine ⟨⟨fun _ _ h=>h,z_ ht⟩,fun mC hk=>?_⟩;unfold ev;rw[ak dN,hk.f _ _ hg];have:=hk.t _ _ (oS ht);simp only[hi,ak h0,this,ak hn,au ha]
       ·simp at h
theorem wN {step:Bd->Pl->Bd×Int} (hs:GU step):∀ (l:List Pl) (k k':Bd),gC step k l=(k',0)->Sub k k'/\∀ mC,Sub k' mC->gC step mC l=(mC,0)
 | [],k,k',h=>by
  simp only[gC,Prod.mk.injEq,and_true]at h;subst h;exact ⟨Sub.refl _,fun _ _=>by simp[gC]⟩
 | p :: l,k,k',h=>by
  unfold gC at h
  cases h1:step k p with
  | mk k1 e=>
   rw[h1]at h;simp only at h
   by_cases he:e=0
   ·subst he;rw[au rfl]at h;obtain ⟨a1,a2⟩:=hs k p k1 h1;obtain ⟨b1,b2⟩:=wN hs l k1 k' h;refine ⟨a1.trans b1,fun mC hk=>?_⟩;unfold gC;rw[a2 mC (b1.trans hk)];simp only[if_true];exact b2 mC hk
   ·rw[ak he]at h;simp only[Prod.mk.injEq]at h;exact absurd h.2 he
theorem s9 {step:Bd->Pl->Bd×Int} (hs:GU step):∀ (l:List (Fm×Fm)) (i:Nat) (k k':Bd) (j:Nat),ew step i k l=(k',j,0)->Sub k k'/\j=0/\∀ mC,Sub k' mC->∀ x∈l,gC step mC (aR [] x.1 x.2)=(mC,0)
 | [],i,k,k',j,h=>by
  simp only[ew,Prod.mk.injEq,and_true]at h;obtain ⟨rfl,rfl⟩:=h;exact ⟨Sub.refl _,rfl,fun _ _ _ hx=>by cases hx⟩
 | (s,f) :: l,i,k,k',j,h=>by
  unfold ew at h
  cases h1:gC step k (aR [] s f) with
  | mk k1 e=>
   rw[h1]at h;simp only at h
   by_cases he:e=0
   ·subst he;rw[au rfl]at h;obtain ⟨a1,a2⟩:=wN hs _ k k1 h1;obtain ⟨b1,b3,b2⟩:=s9 hs l (i+1) k1 k' j h;refine ⟨a1.trans b1,b3,fun mC hk x hx=>?_⟩;rcases cd.1 hx with rfl | hx
    ·exact a2 mC (b1.trans hk)
    ·exact b2 mC hk x hx
   ·rw[ak he]at h;simp only[Prod.mk.injEq]at h;exact absurd h.2.2 he
theorem iP:∀ (l:List (Fm×Fm)) (i:Nat),gg i l=none ↔ ∀ x∈l,(e9 x.1 && cf x.2)=true
 | [],i=>by simp[gg]
 | (s,f) :: l,i=>by
  unfold gg;split
  ·rename_i h;rw[iP l (i+1)];constructor
   ·intro h2 x hx;rcases cd.1 hx with rfl | hx
    ·exact h
    ·exact h2 x hx
   ·exact fun h2 x hx=>h2 x (fD _ hx)
  ·rename_i h;constructor
   ·intro h2;cases h2
   ·intro h2;exact absurd (h2 (s,f) (f8 ..)) h
theorem mD {l:List (Fm×Fm)} {k:Bd} (h:cg l b=(k,i,0)) :
  bw b=true/\(∀ x∈l,(e9 x.1 && cf x.2)=true)/\i=0/\Sub b k/\∀ x∈l,gC bK k (aR [] x.1 x.2)=(k,0)/\gC ev k (aR [] x.1 x.2)=(k,0):=by
 unfold cg at h
 by_cases hv:bw b=true
 ·simp only[hv,Bool.not_true,bW,↓reduceIte]at h
  cases hb:gg 0 l with
  | some j=>rw[hb]at h;simp at h
  | none=>
   rw[hb]at h;simp only at h
   cases h1:ew bK 0 b l with
   | mk k1 x1=>
    obtain ⟨i1,e1⟩:=x1;rw[h1]at h;simp only at h
    by_cases RU:e1=0
    ·subst RU;simp only[ne_eq,not_true_eq_false,↓reduceIte]at h
     cases h2:ew ev 0 k1 l with
     | mk k2 x2=>
      obtain ⟨i2,e2⟩:=x2;rw[h2]at h;simp only at h
      by_cases MJ:e2=0
      ·subst MJ;simp only[not_true_eq_false,↓reduceIte,Prod.mk.injEq,and_true]at h;obtain ⟨rfl,rfl⟩:=h;obtain ⟨a1,_,a3⟩:=s9 sC l 0 b k1 i1 h1;obtain ⟨b1,_,b3⟩:=s9 Ac l 0 k1 k2 i2 h2;exact ⟨hv,(iP l 0).1 hb,rfl,a1.trans b1,fun x hx=>⟨a3 k2 b1 x hx,b3 k2 (Sub.refl _) x hx⟩⟩
      ·rw[au MJ]at h;simp only[Prod.mk.injEq]at h;exact absurd h.2.2 MJ
    ·rw[au RU]at h;simp only[Prod.mk.injEq]at h;exact absurd h.2.2 RU
 ·simp[hv]at h
/-! what is found is valid -/
theorem Ad (h:eC s=true):dG s=false:=by
 unfold eC at h
 cases s with
 | nil=>simp[dG]
 | cons c r=>
  have pp232:=();exact pm232
theorem OY (h:eC s=true):dz s=false:=by
 unfold eC at h
 cases s with
 | nil=>simp[dz,dF,c9]
 | cons c r=>
  exact pm232
theorem DW (h:eC s=true):dG (bQ s)=true:=by simp[dG,bQ,h]
def VarsOk (l:List Str):Prop:=∀ x∈l,eC x=true
theorem Ae:∀ (c:Sco) (inn:List Str) (y:Str),b8.go x c inn=some y->y=x\/∃s∈c.map (·.1),y=bQ s
 | [],inn,y,h=>by simp only[b8.go,cX]at h;exact .inl h.symm
 | (s,a) :: r,inn,y,h=>by
  unfold b8.go at h;split at h
  ·split at h
   ·cases h
   ·simp only[cX]at h;exact .inr ⟨s,by simp,h.symm⟩
  ·rcases Ae r (s :: inn) y h with h | ⟨z,hz,h⟩
   ·exact .inl h
   ·exact .inr ⟨z,by simp only[cz,cd];exact .inr hz,h⟩
theorem s_ {y:Str} (h:b8 c x=some y):y=x\/∃s∈c.map (·.1),y=bQ s:=Ae c [] y h
mutual
theorem E4 (hc:VarsOk (c.map (·.1))) (ins:List Str):∀ (t u:Tm),i8 false t=true->ir c ins t=some u->i8 false (aN u)=true/\nodesT u=nodesT t/\dv u=dv t
 | .mk v n a,u,hok,h=>by
  unfold ir at h;unfold i8 at hok
  cases v with
  | true=>
   simp only[↓reduceIte,Bool.false_and,Bool.or_false,af]at h hok;obtain ⟨ha,hn⟩:=hok;obtain rfl:a=[]:=by simpa using ha
   have Jm:∀ y:Str,(y=n\/∃s∈c.map (·.1),y=bQ s)->i8 false (aN (ao y))=true/\nodesT (ao y)=nodesT (.mk true n [])/\dv (ao y)=dv (.mk true n []):=by
    rintro y (rfl | ⟨s,hs,rfl⟩)
    ·simp[ao,aN,Ad hn,i8,hn,bS,nodesT,dv]
    ·have e1:(dG (63 :: s))=true:=DW (hc s hs);have e2:eC s=true:=hc s hs;simp[ao,aN,e1,i8,e2,bS,nodesT,dv,bQ]
   split at h
   ·simp only[cX]at h;subst h;exact Jm n (.inl rfl)
   ·obtain ⟨y,hy,rfl⟩:=Option.map_eq_some_iff.1 h;exact Jm y (s_ hy)
  | false=>
   simp only[bW,↓reduceIte,af,bp]at h hok;obtain ⟨m,hm,rfl⟩:=Option.map_eq_some_iff.1 h;obtain ⟨h1,h2,h3,h4⟩:=uy hc ins a m hok.2.2 hm;have hl:(bS m).length=a.length:=by rw[h4.2];exact h4.1
   simp[aN,i8,hok.2.1,h1,nodesT,dv,h2,h3,hl,hok.1]
theorem uy (hc:VarsOk (c.map (·.1))) (ins:List Str):∀ (t u:List Tm),dH false t=true->d9 c ins t=some u->dH false (bS u)=true/\nodesTs u=nodesTs t/\bG u=bG t/\(u.length=t.length/\(bS u).length=u.length)
 | [],u,_,h=>by simp only[d9,cX]at h;subst h;simp[dH,bS]
 | t :: l,u,hok,h=>by
  simp only[d9]at h
  cases h1:ir c ins t with
  | none=>rw[h1]at h;simp at h
  | some x=>
   cases h2:d9 c ins l with
   | none=>rw[h1,h2]at h;simp at h
   | some m=>
    rw[h1,h2]at h;simp only[cX]at h;subst h;simp only[dH,af]at hok;obtain ⟨a1,a2,a3⟩:=E4 hc ins t x hok.1 h1;obtain ⟨b1,b2,b3,b4,b5⟩:=uy hc ins l m hok.2 h2;simp[dH,bS,a1,b1,nodesTs,bG,a2,a3,b2,b3,b4,b5]
end
mutual
theorem zt (hc:VarsOk (c.map (·.1))):∀ (f u:Fm) (ins:List Str),okF false f=true->eT c ins f=some u->okF false (bA u)=true/\nodesF u=nodesF f/\depthF u=depthF f
 | .mk o n a s,u,ins,hok,h=>by
  unfold eT at h
  cases h1:d9 c ins a with
  | none=>rw[h1]at h;simp at h
  | some a'=>
   cases h2:fj c (if bh o then n :: ins else ins) s with
   | none=>rw[h1,h2]at h;simp at h
   | some s'=>
    rw[h1,h2]at h;simp only[cX]at h;subst h;simp only[okF,af,Bool.false_and,Bool.or_false]at hok;obtain ⟨k1,⟨k2,k3,k4⟩,k5,k6,k7⟩:=hok;obtain ⟨a1,a2,a3,a4,a5⟩:=uy hc ins a a' k6 h1;obtain ⟨b1,b2,b3,b4,b5⟩:=GV hc s s' _ k7 h2;have VT:(o != 16)=true:=by
     cases dN:o != 16 with
     | true=>rfl
     | false=>
      have:o=16:=by simpa using dN
      subst this;exact absurd k1 (by decide)
    simp only[bA,okF,af,Bool.false_and,Bool.or_false,nodesF,depthF,a2,a3,b2,b3,a1,b1,a5,a4,b5,b4,VT,Bool.true_or,k1,k2,k3,k4,and_self]
theorem GV (hc:VarsOk (c.map (·.1))):∀ (f u:List Fm) (ins:List Str),cW false f=true->fj c ins f=some u->cW false (bT u)=true/\nodesFs u=nodesFs f/\aS u=aS f/\(u.length=f.length/\(bT u).length=u.length)
 | [],u,ins,_,h=>by simp only[fj,cX]at h;subst h;simp[cW,bT]
 | t :: l,u,ins,hok,h=>by
  simp only[fj]at h
  cases h1:eT c ins t with
  | none=>rw[h1]at h;simp at h
  | some x=>
   cases h2:fj c ins l with
   | none=>rw[h1,h2]at h;simp at h
   | some m=>
    rw[h1,h2]at h;simp only[cX]at h;subst h;simp only[cW,af]at hok;obtain ⟨a1,a2,a3⟩:=zt hc t x ins hok.1 h1;obtain ⟨b1,b2,b3,b4,b5⟩:=GV hc l m ins hok.2 h2;simp[cW,bT,a1,b1,nodesFs,aS,a2,a3,b2,b3,b4,b5]
end
mutual
theorem xS:∀ t,nodesT (aN t)=nodesT t/\dv (aN t)=dv t
 | .mk v n a=>by simp[aN,nodesT,dv,oW a]
theorem oW:∀ t,nodesTs (bS t)=nodesTs t/\bG (bS t)=bG t
 | []=>by simp[bS]
 | t :: l=>by simp[bS,nodesTs,bG,xS t,oW l]
end
mutual
theorem li:∀ t,nodesF (bA t)=nodesF t/\depthF (bA t)=depthF t
 | .mk o n a s=>by simp[bA,nodesF,depthF,oW a,uz s]
theorem uz:∀ t,nodesFs (bT t)=nodesFs t/\aS (bT t)=aS t
 | []=>by simp[bT]
 | t :: l=>by simp[bT,nodesFs,aS,li t,uz l]
end
theorem qG:∀ (l:List Tm) (i:Nat) (t:Tm),dH sc l=true->l[i]?=some t->i8 sc t=true
 | [],i,t,_,h=>by simp at h
 | x :: l,0,t,hok,h=>by simp only[List.getElem?_cons_zero,cX]at h;subst h;simp only[dH,af]at hok;exact hok.1
 | x :: l,i+1,t,hok,h=>by simp only[dH,af]at hok;exact qG l i t hok.2 (by simpa using h)
theorem GW:∀ (l:List Fm) (i:Nat) (t:Fm),cW sc l=true->l[i]?=some t->okF sc t=true
 | [],i,t,_,h=>by simp at h
 | x :: l,0,t,hok,h=>by simp only[List.getElem?_cons_zero,cX]at h;subst h;simp only[cW,af]at hok;exact hok.1
 | x :: l,i+1,t,hok,h=>by simp only[cW,af]at hok;exact GW l i t hok.2 (by simpa using h)
theorem ne:∀ (l:List Tm) (i:Nat),(bS l)[i]?=l[i]?.map aN
 | [],i=>by simp[bS]
 | x :: l,0=>by simp[bS]
 | x :: l,i+1=>by simp[bS,ne l i]
theorem xU:∀ (l:List Fm) (i:Nat),(bT l)[i]?=l[i]?.map bA
 | [],i=>by simp[bT]
 | x :: l,0=>by simp[bT]
 | x :: l,i+1=>by simp[bT,xU l i]
theorem Af (h:i8 false (aN t)=true):dH false (bS t.a)=true:=by
 obtain ⟨v,n,a⟩:=t;simp only[aN,i8]at h
 cases v with
 | true=>
  simp only[↓reduceIte,af]at h;have:bS a=[]:=by simpa using h.1
  simp[Tm.a,this,dH]
 | false=>
  simp only[bW,↓reduceIte,af]at h;exact h.2.2
theorem GX:∀ (p:List Nat) (l:List Tm) (t:Tm),dH false (bS l)=true->ms l p=some t->i8 false (aN t)=true
 | [],l,t,_,h=>by simp[ms]at h
 | [i],l,t,hok,h=>by
  simp only[ms]at h;exact qG _ i _ hok (by rw[ne,h];rfl)
 | i :: j :: r,l,t,hok,h=>by
  simp only[ms]at h
  cases h1:l[i]? with
  | none=>rw[h1]at h;simp at h
  | some x=>
   rw[h1]at h;exact GX (j :: r) _ t (Af (qG _ i _ hok (by rw[ne,h1];rfl))) h
theorem GY:∀ (p:List Nat) (f:Fm) (ins:List Str) (g:Fm) (rZ:List Str),okF false (bA f)=true->n8 f p ins=some (g,rZ)->okF false (bA g)=true
 | [],f,ins,g,rZ,hok,h=>by simp only[n8,cX,Prod.mk.injEq]at h;rw[<-h.1];exact hok
 | i :: r,f,ins,g,rZ,hok,h=>by
  simp only[n8]at h
  cases h1:f.s[i]? with
  | none=>rw[h1]at h;simp at h
  | some x=>
   rw[h1]at h;refine GY r x _ g rZ ?_ h;obtain ⟨o,n,a,s⟩:=f;simp only[bA,okF,af]at hok;exact GW _ i _ hok.2.2.2.2 (by rw[xU];simp only[Fm.s]at h1;rw[h1];rfl)
theorem GZ (hok:okF false (bA im)=true) (h:ie f im x=some t):i8 false (aN t)=true:=by
 unfold ie at h;split at h
 ·cases h
 ·split at h
  ·cases h
  ·rename_i g ins hg;split at h
   ·cases h
   ·rename_i y hy;split at h
    ·cases h
    ·cases h;have:=GY _ _ _ _ _ hok hg;obtain ⟨o,n,a,s⟩:=g;simp only[bA,okF,af]at this;exact GX _ _ _ this.2.2.2.1 hy
structure PlOk (p:Pl):Prop where
 s:okF true p.s=true
 f:okF false p.f=true
 c:VarsOk (p.c.map (·.1))
 n:nodesF p.f<=400
 d:depthF p.f<=40
mutual
theorem jQ:∀ (s f:Fm) (c:Sco),PlOk ⟨s,f,c⟩->∀ p∈aR c s f,PlOk p
 | .mk o n a l,.mk o' n' a' l',c,h,p,hp=>by
  simp only[aR,cd]at hp;rcases hp with rfl | hp
  ·exact h
  ·have h1:=h.s;have h2:=h.f;have h3:=h.n;have h4:=h.d;simp only[okF,af]at h1 h2;simp only[nodesF,depthF]at h3 h4;refine Ag l l' _ h1.2.2.2.2 h2.2.2.2.2 ?_ (by omega) (by omega) p hp;split
   ·rename_i hq;intro x hx;simp only[cz,cd]at hx;rcases hx with rfl | hx
    ·have:(rowOp o).2.2.1=2:=by
      exact pm213
     have h5:=h1.2.1.1;rw[this]at h5;exact h5
    ·exact h.c x hx
   ·exact h.c
theorem Ag:∀ (s f:List Fm) (c:Sco),cW true s=true->cW false f=true->VarsOk (c.map (·.1))->nodesFs f<=400->aS f<=40->∀ p∈aE c s f,PlOk p
 | [],_,c,_,_,_,_,_,p,hp=>by simp[aE]at hp
 | _ :: _,[],c,_,_,_,_,_,p,hp=>by simp[aE]at hp
 | t :: l,u :: m,c,h1,h2,h3,h4,h5,p,hp=>by
  simp only[aE,List.mem_append]at hp;simp only[cW,af]at h1 h2;simp only[nodesFs,aS]at h4 h5;rcases hp with hp | hp
  ·exact jQ t u c ⟨h1.1,h2.1,h3,by show nodesF u<=400;omega,by show depthF u<=40;omega⟩ p hp
  ·exact Ag l m c h1.2 h2.2 h3 (by omega) (by omega) p hp
end
theorem tb {s:Fm} (h:(e9 s && cf f)=true):PlOk ⟨s,f,[]⟩:=by
 simp only[e9,cf,af,bp]at h;exact ⟨h.1.1,h.2.1,(by intro x hx;cases hx),h.2.2.1,h.2.2.2⟩
/-! order of names -/
theorem oe:∀ a:List UInt8,Op.bytesLess a a=false
 | []=>rfl
 | c :: a=>by simp[Op.bytesLess,oe a]
theorem uA:∀ a b c:List UInt8,Op.bytesLess a b=true->Op.bytesLess b c=true->Op.bytesLess a c=true
 | _,[],_,h,_=>by simp[Op.bytesLess]at h
 | _,_ :: _,[],_,h=>by simp[Op.bytesLess]at h
 | [],_ :: _,_ :: _,_,_=>rfl
 | x :: a,y :: b,z :: c,h1,h2=>by
  simp only[Op.bytesLess,Bool.or_eq_true,af,bp,dP]at h1 h2 ⊢;rcases h1 with h1 | ⟨rfl,h1⟩
  ·rcases h2 with h2 | ⟨rfl,h2⟩
   ·exact .inl (UInt8.lt_trans h1 h2)
   ·exact .inl h1
  ·rcases h2 with h2 | ⟨rfl,h2⟩
   ·exact .inl h2
   ·exact .inr ⟨rfl,uA a b c h1 h2⟩
theorem OZ:∀ a b:List UInt8,Op.bytesLess a b=false->Op.bytesLess b a=false->a=b
 | [],[],_,_=>rfl
 | [],_ :: _,h,_=>by simp[Op.bytesLess]at h
 | _ :: _,[],_,h=>by simp[Op.bytesLess]at h
 | x :: a,y :: b,h1,h2=>by
  simp only[Op.bytesLess,Bool.or_eq_false_iff,Bool.and_eq_false_iff,decide_eq_false_iff_not,beq_eq_false_iff_ne]at h1 h2;have hxy:x=y:=by
   apply UInt8.toNat_inj.1;have a1:=h1.1;have a2:=h2.1;rw[UInt8.lt_iff_toNat_lt]at a1 a2;omega
  subst hxy;rw[OZ a b (h1.2.resolve_left (fun h=>h rfl)) (h2.2.resolve_left (fun h=>h rfl))]
theorem Ah (a b:Str) (h:a≠b) (h1:Op.bytesLess a b=false):Op.bytesLess b a=true:=by
 cases h2:Op.bytesLess b a
 ·exact absurd (OZ a b h1 h2) h
 ·rfl
theorem ng {l:List Str}:dK (x :: l)=true ↔ (∀ y,l.head?=some y->Op.bytesLess x y=true)/\dK l=true:=by
 cases l with
 | nil=>simp[dK]
 | cons y r=>simp[dK]
theorem ia:∀ (l:List (Str×α)) (x:Str),getB l x=none ↔ x ∉ l.map (·.1)
 | [],x=>by simp[getB]
 | (y,v) :: r,x=>by
  unfold getB
  by_cases h:y == x
  ·simp only[h,↓reduceIte,reduceCtorEq,cz,cd,false_iff];rw[dP]at h;exact fun h2=>h2 (.inl h.symm)
  ·simp only[h,bW,↓reduceIte,cz,cd,not_or];rw[ia r x];constructor
   ·exact fun h2=>⟨fun e=>h (by rw[e];simp),h2⟩
   ·exact fun h2=>h2.2
theorem O0 (x:Str) (v:α) (l:List (Str×α)):∀ y,((fS x v l).map (·.1)).head?=some y->y=x\/(l.map (·.1)).head?=some y:=by
 intro y h
 cases l with
 | nil=>simp only[fS,cz,List.map_nil,List.head?_cons,cX]at h;exact .inl h.symm
 | cons z r=>
  obtain ⟨z,u⟩:=z;unfold fS at h;split at h
  ·simp only[cz,List.head?_cons,cX]at h;exact .inl h.symm
  ·simp only[cz,List.head?_cons,cX]at h;exact .inr (by simp[h])
theorem td (x:Str) (v:α):∀ (l:List (Str×α)),x ∉ l.map (·.1)->dK (l.map (·.1))=true->dK ((fS x v l).map (·.1))=true
 | [],_,_=>by simp[fS,dK]
 | (y,u) :: r,hx,hs=>by
  simp only[cz,cd,not_or]at hx;unfold fS;split
  ·rename_i h;simp only[cz]at hs ⊢;exact ng.2 ⟨fun z hz=>by simp only[List.head?_cons,cX]at hz;rw[<-hz];exact h,hs⟩
  ·rename_i h;simp only[cz]at hs ⊢;obtain ⟨h1,h2⟩:=ng.1 hs;refine ng.2 ⟨fun z hz=>?_,td x v r hx.2 h2⟩;rcases O0 x v r z hz with rfl | hz
   ·exact Ah _ _ hx.1 (by simpa using h)
   ·exact h1 z hz
theorem E5 (P:Str×α->Bool) (x:Str) (v:α):∀ (l:List (Str×α)),(fS x v l).all P=(P (x,v) && l.all P)
 | []=>by simp[fS]
 | (y,u) :: r=>by
  unfold fS;split
  ·simp
  ·simp only[List.all_cons,E5 P x v r];cases P (y,u) <;> simp
def VU (l:List (Str×Fm)):Bool:=l.all (fun x=>dF x.1 && cf (bA x.2)) && dK (l.map (·.1))
def JA (l:List (Str×Tm)):Bool:=l.all (fun x=>c9 x.1 && i8 false (aN x.2)) && dK (l.map (·.1))
theorem eO (b:Bd):bw b=true ↔ VU b.fs=true/\JA b.ts=true:=by
 simp only[bw,VU,JA,af];constructor
 ·exact fun ⟨⟨a,b⟩,c,d⟩=>⟨⟨a,c⟩,b,d⟩
 ·exact fun ⟨⟨a,c⟩,b,d⟩=>⟨⟨a,b⟩,c,d⟩
theorem Lx {k:List (Str×Tm)} (hk:JA k=true) (hn:c9 n=true) (ht:i8 false (aN t)=true) (hg:getB k n=none):JA (fS n t k)=true:=by
 simp only[JA,af]at hk ⊢;rw[E5];exact ⟨by simp only[af];exact ⟨⟨hn,ht⟩,hk.1⟩,td n t k ((ia _ _).1 hg) hk.2⟩
theorem Ss {k:List (Str×Fm)} {t:Fm} (hk:VU k=true) (hn:dF n=true) (ht:cf (bA t)=true) (hg:getB k n=none):VU (fS n t k)=true:=by
 simp only[VU,af]at hk ⊢;rw[E5];exact ⟨by simp only[af];exact ⟨⟨hn,ht⟩,hk.1⟩,td n t k ((ia _ _).1 hg) hk.2⟩
theorem JB {a:List Tm} (h:i8 true (.mk true n a)=true) (hm:dz n=true):c9 n=true:=by
 simp only[i8,↓reduceIte,du,af,Bool.or_eq_true]at h;rcases h.2 with h | h
 ·rw[OY h]at hm;cases hm
 ·exact h
mutual
theorem uB (sc:List Str):∀ (t u:Tm) (k k':List (Str×Tm)),i8 true t=true->i8 false (aN u)=true->JA k=true->cJ sc k t u=some k'->JA k'=true
 | .mk v n a,.mk v' n' a',k,k',ht,hu,hk,h=>by
  unfold cJ at h
  by_cases hm:(v && dz n)=true
  ·rw[au hm]at h;simp only[af]at hm;obtain ⟨rfl,hm⟩:=hm
   cases hg:getB k n with
   | none=>
    rw[hg]at h;simp only[cX]at h;subst h;exact Lx hk (JB ht hm) hu hg
   | some u=>
    rw[hg]at h;simp only at h;split at h
    ·cases h;exact hk
    ·cases h
  ·rw[ak hm]at h;split at h
   ·split at h
    ·cases h;exact hk
    ·cases h
   ·split at h
    ·cases h
    ·rename_i hs hd;have pp303a:=();exact pm303
theorem sD (sc:List Str):∀ (t u:List Tm) (k k':List (Str×Tm)),dH true t=true->dH false (bS u)=true->JA k=true->bR sc k t u=some k'->JA k'=true
 | [],u,k,k',_,_,hk,h=>by simp only[bR,cX]at h;rw[<-h];exact hk
 | _ :: _,[],k,k',_,_,hk,h=>by simp only[bR,cX]at h;rw[<-h];exact hk
 | t :: l,u :: m,k,k',ht,hu,hk,h=>by
  simp only[bR]at h;simp only[dH,bS,af]at ht hu
  cases h1:cJ sc k t u with
  | none=>rw[h1]at h;cases h
  | some k1=>
   rw[h1]at h;exact sD sc l m k1 k' ht.2 hu.2 (uB sc t u k k1 ht.1 hu.1 hk h1) h
end
theorem uC (hc:VarsOk (c.map (·.1))):∀ (t u:List Tm) (k k':List (Str×Tm)),dH true t=true->dH false u=true->JA k=true->cK c k t u=some k'->JA k'=true
 | [],u,k,k',_,_,hk,h=>by simp only[cK,cX]at h;rw[<-h];exact hk
 | _ :: _,[],k,k',_,_,hk,h=>by simp only[cK,cX]at h;rw[<-h];exact hk
 | t :: l,u :: m,k,k',ht,hu,hk,h=>by
  simp only[cK]at h;simp only[dH,af]at ht hu
  cases h0:ir c [] u with
  | none=>rw[h0]at h;cases h
  | some im=>
   rw[h0]at h;simp only at h
   cases h1:cJ (c.map (·.1)) k t im with
   | none=>rw[h1]at h;cases h
   | some k1=>
    rw[h1]at h;exact uC hc l m k1 k' ht.2 hu.2 (uB _ t im k k1 ht.1 (E4 hc [] u im hu.1 h0).1 hk h1) h
def Ly (step:Bd->Pl->Bd×Int):Prop:=∀ k p k',PlOk p->bw k=true->step k p=(k',0)->bw k'=true
theorem DX (hp:PlOk p) (h:eT p.c [] p.f=some im):cf (bA im)=true:=by
 obtain ⟨h1,h2,h3⟩:=zt hp.c p.f im [] hp.f h;have h4:=li im;have h5:=hp.n;have h6:=hp.d;simp only[cf,af,bp];exact ⟨h1,by omega,by omega⟩
theorem sE:Ly bK:=by
 intro k p k' hp hk h;unfold bK at h;split at h
 ·cases h;exact hk
 rename_i dN;split at h
 ·rename_i eQ
  cases hi:eT p.c [] p.f with
  | none=>rw[hi]at h;simp at h
  | some im=>
   rw[hi]at h;simp only at h
   cases hg:getB k.fs p.s.n with
   | none=>
    rw[hg]at h;simp only[Prod.mk.injEq,and_true]at h;subst h;obtain ⟨k1,k2⟩:=(eO k).1 hk;refine (eO _).2 ⟨Ss k1 ?_ (DX hp hi) hg,k2⟩;have hs:=hp.s;obtain ⟨⟨o,n,a,s⟩,f,c⟩:=p;simp only[Fm.op]at eQ;subst eQ;simp only[okF,af]at hs;exact hs.2.1.1
   | some g=>
    rw[hg]at h;simp only at h;split at h
    ·cases h;exact hk
    ·simp at h
 ·split at h
  ·simp at h
  ·rename_i hd
   cases ha:cK p.c k.ts p.s.a p.f.a with
   | none=>rw[ha]at h;simp at h
   | some ts=>
    rw[ha]at h;simp only[Prod.mk.injEq,and_true]at h;subst h;obtain ⟨k1,k2⟩:=(eO k).1 hk;refine (eO _).2 ⟨k1,uC hp.c _ _ _ _ ?_ ?_ k2 ha⟩
    ·have hs:=hp.s;obtain ⟨⟨o,n,a,s⟩,f,c⟩:=p;simp only[okF,af]at hs;exact hs.2.2.2.1
    ·have hs:=hp.f;obtain ⟨s,⟨o,n,a,l⟩,c⟩:=p;simp only[okF,af]at hs;exact hs.2.2.2.1
theorem iA (hp:PlOk p) (dN:p.s.op=16):∃x y:Str,p.s.a=[ao x,ao y]/\eC x=true/\c9 y=true/\aJ p.s=(bQ x,y):=by
 have hs:=hp.s;obtain ⟨⟨o,n,a,s⟩,f,c⟩:=p;simp only[Fm.op]at dN;subst dN;simp only[okF,af,bne_self_eq_false,Bool.false_or]at hs;have h1:=hs.2.2.1;have h2:=hs.2.2.2.1;unfold ug at h1;split at h1
 ·rename_i x y;obtain ⟨xv,xn,xa⟩:=x;obtain ⟨yv,yn,ya⟩:=y;simp only[Tm.v,Tm.n,af]at h1;obtain ⟨rfl,hx,rfl,hy⟩:=h1;simp only[dH,i8,↓reduceIte,af]at h2;have e1:xa=[]:=by simpa using h2.1.1
  have e2:ya=[]:=by simpa using h2.2.1.1
  subst e1 e2;exact ⟨xn,yn,rfl,hx,hy,rfl⟩
 ·cases h1
theorem Ai:Ly ev:=by
 intro k p k' hp hk h;unfold ev at h
 by_cases dN:(p.s.op != 16)=true
 ·rw[au dN]at h;cases h;exact hk
 rw[ak dN]at h;have zca:p.s.op=16:=by simpa using dN
 cases hg:getB k.fs p.s.n with
 | none=>rw[hg]at h;simp at h
 | some f=>
  rw[hg]at h;simp only at h
  cases hi:eT p.c [] p.f with
  | none=>rw[hi]at h;simp at h
  | some im=>
   rw[hi]at h;simp only at h
   by_cases h0:fG (aJ p.s).1 f=0
   ·rw[au h0]at h;split at h
    ·cases h;exact hk
    ·simp at h
   ·rw[ak h0]at h
    cases ht:getB k.ts (aJ p.s).2 with
    | some t=>
     rw[ht]at h;simp only at h;split at h
     ·simp at h
     ·split at h
      ·cases h;exact hk
      ·simp at h
    | none=>
     rw[ht]at h;simp only at h
     cases hf:ie f im (aJ p.s).1 with
     | none=>rw[hf]at h;simp at h
     | some t=>
      rw[hf]at h;simp only[Option.map_some]at h;split at h
      ·simp at h
      ·split at h
       ·simp only[Prod.mk.injEq,and_true]at h;subst h;obtain ⟨k1,k2⟩:=(eO k).1 hk;obtain ⟨x,y,_,_,hy,hn⟩:=iA hp zca;refine (eO _).2 ⟨k1,Lx k2 (by rw[hn];exact hy) (GZ (zt hp.c p.f im [] hp.f hi).1 hf) ht⟩
       ·simp at h
theorem DY {step:Bd->Pl->Bd×Int} (hs:Ly step):∀ (l:List Pl) (k k':Bd),(∀ p∈l,PlOk p)->bw k=true->gC step k l=(k',0)->bw k'=true
 | [],k,k',_,hk,h=>by
  simp only[gC,Prod.mk.injEq,and_true]at h;rw[<-h];exact hk
 | p :: l,k,k',hp,hk,h=>by
  unfold gC at h
  cases h1:step k p with
  | mk k1 e=>
   rw[h1]at h;simp only at h
   by_cases he:e=0
   ·subst he;rw[au rfl]at h;exact DY hs l k1 k' (fun q hq=>hp q (fD _ hq)) (hs k p k1 (hp p (f8 ..)) hk h1) h
   ·rw[ak he]at h;simp only[Prod.mk.injEq]at h;exact absurd h.2 he
theorem te {step:Bd->Pl->Bd×Int} (hs:Ly step):∀ (l:List (Fm×Fm)) (i:Nat) (k k':Bd) (j:Nat),(∀ x∈l,(e9 x.1 && cf x.2)=true)->bw k=true->ew step i k l=(k',j,0)->bw k'=true
 | [],i,k,k',j,_,hk,h=>by
  simp only[ew,Prod.mk.injEq,and_true]at h;rw[<-h.1];exact hk
 | (s,f) :: l,i,k,k',j,hp,hk,h=>by
  unfold ew at h
  cases h1:gC step k (aR [] s f) with
  | mk k1 e=>
   rw[h1]at h;simp only at h
   by_cases he:e=0
   ·subst he;rw[au rfl]at h;exact te hs l (i+1) k1 k' j (fun x hx=>hp x (fD _ hx)) (DY hs _ k k1 (jQ s f [] (tb (hp (s,f) (f8 ..)))) hk h1) h
   ·rw[ak he]at h;simp only[Prod.mk.injEq]at h;exact absurd h.2.2 he
theorem nH {l:List (Fm×Fm)} {k:Bd} (h:cg l b=(k,i,0)):bw k=true:=by
 obtain ⟨hv,hl,_⟩:=mD h;unfold cg at h;simp only[hv,Bool.not_true,bW,↓reduceIte,(iP l 0).2 hl]at h
 cases h1:ew bK 0 b l with
 | mk k1 x1=>
  obtain ⟨i1,e1⟩:=x1;rw[h1]at h;simp only at h
  by_cases RU:e1=0
  ·subst RU;simp only[ne_eq,not_true_eq_false,↓reduceIte]at h
   cases h2:ew ev 0 k1 l with
   | mk k2 x2=>
    obtain ⟨i2,e2⟩:=x2;rw[h2]at h;simp only at h
    by_cases MJ:e2=0
    ·subst MJ;simp only[not_true_eq_false,↓reduceIte,Prod.mk.injEq,and_true]at h;rw[<-h.1];exact te Ai l 0 k1 k2 i2 hl (te sE l 0 b k1 i1 hl hv h1) h2
    ·rw[au MJ]at h;simp only[Prod.mk.injEq]at h;exact absurd h.2.2 MJ
  ·rw[au RU]at h;simp only[Prod.mk.injEq]at h;exact absurd h.2.2 RU
def Up (l:List Str):Prop:=l.Pairwise (fun x y=>Op.bytesLess x y=true)
theorem Aj (x y:Str):∀ l,y∈sR x l ↔ y=x\/y∈l
 | []=>by simp[sR]
 | z :: l=>by
  have ih:=Aj x y l;unfold sR
  by_cases h:(x == z)=true
  ·rw[au h];have:x=z:=by simpa using h
   subst this;simp
  ·rw[ak h]
   by_cases h2:Op.bytesLess x z=true
   ·rw[au h2];simp
   ·rw[ak h2];simp[ih];grind
theorem Lz (x:Str):∀ l,Up l->Up (sR x l)
 | [],_=>by simp[sR,Up]
 | z :: l,h=>by
  have hl:Up l:=(List.pairwise_cons.1 h).2;have hz:=(List.pairwise_cons.1 h).1;have ih:=Lz x l hl;unfold sR
  by_cases h1:(x == z)=true
  ·rw[au h1];exact h
  ·rw[ak h1]
   by_cases h2:Op.bytesLess x z=true
   ·rw[au h2];refine List.pairwise_cons.2 ⟨fun y hy=>?_,h⟩;rcases cd.1 hy with rfl | hy
    ·exact h2
    ·exact uA _ _ _ h2 (hz y hy)
   ·rw[ak h2];refine List.pairwise_cons.2 ⟨fun y hy=>?_,ih⟩;rcases (Aj x y l).1 hy with rfl | hy
    ·exact Ah _ _ (by simpa using h1) (by simpa using h2)
    ·exact hz y hy
theorem tf (l:List Str):Up (dI l):=by
 unfold dI
 induction l with
 | nil=>simp[Up]
 | cons x l ih=>exact Lz x _ ih
theorem dQ (y:Str) (l:List Str):y∈dI l ↔ y∈l:=by
 unfold dI
 induction l with
 | nil=>simp
 | cons x l ih=>simp only[List.foldr_cons,Aj,ih,cd]
theorem iB {l:List Str} (h:Up l):l.Nodup:=by
 refine List.Pairwise.imp ?_ h;intro a b Cz e;subst e;rw[oe]at Cz;cases Cz
theorem JC:∀ l m:List Str,Up l->Up m->(∀ x,x∈l ↔ x∈m)->l=m
 | [],[],_,_,_=>rfl
 | [],y :: m,_,_,h=>by have:=(h y).2 (by simp);cases this
 | x :: l,[],_,_,h=>by have:=(h x).1 (by simp);cases this
 | x :: l,y :: m,hl,hm,h=>by
  have hx:=(List.pairwise_cons.1 hl).1;have hy:=(List.pairwise_cons.1 hm).1;have hxy:x=y:=by
   by_cases e:x=y
   ·exact e
   ·have h1:=(h x).1 (by simp);have h2:=(h y).2 (by simp);rcases cd.1 h1 with h1 | h1
    ·exact absurd h1 e
    ·rcases cd.1 h2 with h2 | h2
     ·exact h2.symm
     ·have a:=hx y h2;have b:=hy x h1;have c:=uA _ _ _ a b;rw[oe]at c;cases c
  subst hxy;refine congrArg _ (JC l m (List.pairwise_cons.1 hl).2 (List.pairwise_cons.1 hm).2 (fun z=>?_));constructor
  ·intro hz;rcases cd.1 ((h z).1 (fD _ hz)) with e | e
   ·subst e;have:=hx z hz;rw[oe]at this;cases this
   ·exact e
  ·intro hz;rcases cd.1 ((h z).2 (fD _ hz)) with e | e
   ·subst e;have:=hy z hz;rw[oe]at this;cases this
   ·exact e
theorem Ak {ss:List Str} (hp:ss.Perm (dI xs)):ss.mergeSort (fun x y=>decide (x<=y))=dI xs:=by
 have Un:=List.mergeSort_perm ss (fun x y=>decide (x<=y));refine JC _ _ ?_ (tf xs) (fun x=>by rw[Un.mem_iff,hp.mem_iff]);have zu:(ss.mergeSort (fun x y=>decide (x<=y))).Nodup:=(Un.trans hp).nodup_iff.2 (iB (tf xs));have hs:(ss.mergeSort (fun x y=>decide (x<=y))).Pairwise (fun x y=>decide (x<=y)=true):=List.pairwise_mergeSort (fun a b c h1 h2=>by simp at h1 h2 ⊢;exact List.le_trans h1 h2) (fun a b=>by simp;exact List.le_total a b) ss;refine (hs.and zu).imp ?_;rintro a b ⟨h1,h2⟩;refine Ah b a (fun e=>h2 e.symm) ?_;rw[bytesLess_eq];simp at h1 ⊢;exact h1
end Go.Proofs.YtokemihbkeddoaaGreatDoor
namespace Go.Proofs
open Go.RowKit Go.Maps Go.Sort Go.Shelf
shelf_lay_g SlLaysZ.n7 Ggz 7 at Tryz 75 as Tryz.keysA
shelf_lay_g SlLaysZ.n6 Ggz 6 at Tryz 74 as Tryz.sortedA
theorem Tryz.sortsA (m:Nat):AnyZ.SortsIn Tryz.prog Tryz.sortedA_ren Fence.wide m:=
 ⟨fun blk off cap ss W hH zcb hsz=>callsIn_wide.2 (Tryz.slices_Sort_string blk off cap ss W hH zcb hsz),
  fun p cap W=>callsIn_wide.2 (Tryz.slices_Sort_string_none p cap W)⟩
end Go.Proofs
namespace Go.Proofs.YtokemihbkeddoaaGreatDoor
open Go Go.RowKit Go.Maps Go.Sort Go.Shelf
def RowS (lo:Nat) (W:World) (v:Value) (l:List Str):Prop:=W.ownsRow lo 9 1 v l.length (l.map encStr)/\(v=.slice none 0 0 ↔ l=[])
theorem G0 (mb:Option Nat) (W:World):Calls Tryz.prog 75 #[.map mb] W fun e w'=>e=.returned (.func (.func 135) #[] #[.pointer (some ⟨W.heap.size,0,none⟩)])/\w'=W.alloc (.cells #[.map mb] 118):=
 aK.1 (AnyZ.keys_in Tryz.keysA Fence.wide 5 trivial rfl mb W)
theorem Al (m n:Nat) (xs:List Str) (hn:n<=2000000) (W:World) (hs:SetW W m n xs) :
  Calls Tryz.prog 74 #[.func (.func 135) #[] #[.pointer (some ⟨W.heap.size,0,none⟩)]] (W.alloc (.cells #[.map (some m)] 118)) fun e w'=>∃v,e=.returned v/\RowS W.heap.size w' v (dI xs)/\Below W.heap.size W w':=by
 obtain ⟨D0,aA,z',_⟩:=hs;have JD:=aA.lt;have hsz:=aA.size_le;have oI:SeqGives Fence.wide 2 Tryz.prog 135 #[.pointer (some ⟨W.heap.size,0,none⟩)] encStr (fun ss=>ss.Perm (strKeys D0)) (Maps.size D0) (W.alloc (.cells #[.map (some m)] 118)):=
  AnyZ.keys_gives (ρ:=Tryz.keysA_ren) { Tryz.keysA with } Fence.wide _ trivial rfl (by omega) W.heap.size m n D0 _ (by simp) (by simp) (aA.alloc _)
 have cS:=AnyZ.sorted_in Tryz.sortedA Fence.wide 5 trivial trivial trivial trivial rfl (by omega) (Tryz.sortsA _) (enters_of Tryz.func134 (by kernel_rfl) rfl) 135 #[.pointer (some ⟨W.heap.size,0,none⟩)] trivial (enters_of Tryz.func135 (by kernel_rfl) rfl) _ _ (by unfold maxLen;omega) (by omega) _ oI;have pp210:=();exact pm210
mutual
theorem mE:∀ t:Tm,(aC t).length<=nodesT t
 | .mk v n a=>by
  have:=DZ a;unfold aC nodesT;cases v <;> simp <;> omega
theorem DZ:∀ l:List Tm,(ap l).length<=nodesTs l
 | []=>by simp[ap]
 | t :: l=>by
  have h1:=mE t;have h2:=DZ l;unfold ap nodesTs;simp;omega
end
mutual
theorem mG {p:Nat}:∀ t:Tm,j5 p t=true->∀ x∈aC t,x.length<=p
 | .mk v n a,h,x,hx=>by
  simp only[j5,af,bp]at h;unfold aC at hx
  cases v with
  | false=>exact og a h.2 x (by simpa using hx)
  | true=>
   rcases cd.1 (by simpa using hx) with rfl | hx
   ·exact h.1
   ·exact og a h.2 x hx
theorem og {p:Nat}:∀ l:List Tm,nmTs p l=true->∀ x∈ap l,x.length<=p
 | [],_,x,hx=>by simp[ap]at hx
 | t :: l,h,x,hx=>by
  simp only[nmTs,af]at h;unfold ap at hx;rcases List.mem_append.1 hx with hx | hx
  ·exact mG t h.1 x hx
  ·exact og l h.2 x hx
end
theorem lU (t:Tm) (hfit:fitT t) (ok:Nat->Prop) (w:World) (q:TQ) (hq:TermV ok w q.val t) :
  Calls Tryz.prog 166 #[q.val] w fun e w'=>(∃v,e=.returned v/\RowS w.heap.size w' v (dI (aC t)))/\RowKit.Below w.heap.size w w':=by
 have hq:=hq.lt;have pN:=aU (mE t) hfit.1;obtain ⟨W2,a_⟩:=am ((w.alloc (.cells #[.bool q.v,.string q.n,.slice q.a q.l q.c] 43)).alloc (.cells #[.bool q.v,.string q.n,.slice q.a q.l q.c] 43));have bB:RowKit.Below w.heap.size w W2:=by rw[a_];exact cO.alloc (by simp) _
 have iy:=yJ a_;have qg:=j_ a_;have C2:=E3 (aC t) pN (mG t hfit.2) 270 #[.pointer (some ⟨w.heap.size+1,0,none⟩)] W2 (enters_of Tryz.func270 (by kernel_rfl) rfl) (fun w1 hb hl=>C4 t hfit (fun b=>b=W2.heap.size) W2.heap.size (w.heap.size+1) w1 q (bJ hb qg) (by omega) ((hq.later (bB.trans (hb.mono bB.size))).move (fun b zcc hlt=>⟨⟨by omega,by omega⟩,rfl⟩)));have pp275:=();exact pm275
end Go.Proofs.YtokemihbkeddoaaGreatDoor
namespace Go.Proofs.YtokemihbkeddoaaGreatDoor
open Go Go.RowKit Lib
set_option maxRecDepth 100000
set_option maxHeartbeats 64000000
variable {sc:Bool} {o:Int} {n x:Str} {a:List Tm} {s:List Fm} {f g:Fm}
inductive Dt where
 | lvl (i:Nat)
 | fre (n:Str)
 | app (n:Str) (a:List Dt)
inductive Df where
 | mk (op:Int) (n:Str) (a:List Dt) (s:List Df)
def upd (σ:Str->Dt) (n:Str) (v:Dt):Str->Dt:=fun x=>if x == n then v else σ x
mutual
def kI (σ:Str->Dt):Tm->Dt | .mk v n a=>if v then σ n else .app n (fV σ a)
def fV (σ:Str->Dt):List Tm->List Dt | []=>[] | t :: l=>kI σ t :: fV σ l
end
mutual
def dbF (σ:Str->Dt) (d:Nat):Fm->Df
 | .mk op n a s=>if bh op then .mk op [] (fV σ a) (fL (upd σ n (.lvl d)) (d+1) s) else .mk op n (fV σ a) (fL σ d s)
def fL (σ:Str->Dt) (d:Nat):List Fm->List Df | []=>[] | t :: l=>dbF σ d t :: fL σ d l
end
mutual
def lV:Tm->Bool | .mk v _ a=>(!v || a.isEmpty) && ep a
def ep:List Tm->Bool | []=>true | t :: l=>lV t && ep l
end
mutual
def gS:Fm->Bool | .mk _ _ a s=>ep a && el s
def el:List Fm->Bool | []=>true | t :: l=>gS t && el l
end
mutual
theorem JE:∀ t,i8 sc t=true->lV t=true
 | .mk v n a,h=>by
  simp only[i8]at h
  cases v with
  | true=>
   simp only[↓reduceIte,af]at h;have:a=[]:=by simpa using h.1
   subst this;simp[lV,ep]
  | false=>
   simp only[bW,↓reduceIte,af]at h;simp[lV,rD a h.2.2]
theorem rD:∀ t,dH sc t=true->ep t=true
 | [],_=>by simp[ep]
 | t :: l,h=>by simp only[dH,af]at h;simp[ep,JE t h.1,rD l h.2]
end
mutual
theorem nI:∀ t,okF sc t=true->gS t=true
 | .mk o n a s,h=>by
  simp only[okF,af]at h;simp[gS,rD a h.2.2.2.1,LA s h.2.2.2.2]
theorem LA:∀ t,cW sc t=true->el t=true
 | [],_=>by simp[el]
 | t :: l,h=>by simp only[cW,af]at h;simp[el,nI t h.1,LA l h.2]
end
mutual
theorem D1:∀ t,lV (aN t)=lV t
 | .mk v n a=>by
  simp only[aN,lV,oX a];congr 2;cases a <;> simp[bS]
theorem oX:∀ t,ep (bS t)=ep t
 | []=>by simp[bS]
 | t :: l=>by simp[bS,ep,D1 t,oX l]
end
mutual
theorem wO:∀ t,gS (bA t)=gS t
 | .mk o n a s=>by simp[bA,gS,oX a,Am s]
theorem Am:∀ t,el (bT t)=el t
 | []=>by simp[bT]
 | t :: l=>by simp[bT,el,wO t,Am l]
end
/-! free names -/
mutual
theorem E6 (b:List Str):∀ (f:Fm) (c:List Str),aL (c ++ b) f=(aL c f).filter (fun x=>!b.contains x)
 | .mk o n a s,c=>by
  simp only[aL,List.filter_append,List.filter_filter];congr 1
  ·apply List.filter_congr;intro x _;rw[List.contains_eq_any_beq,List.any_append,<-List.contains_eq_any_beq,<-List.contains_eq_any_beq,Bool.not_or,Bool.and_comm]
  ·by_cases hq:bh o
   ·rw[au hq,au hq];exact k_ b s (n :: c)
   ·rw[ak hq,ak hq];exact k_ b s c
theorem k_ (b:List Str):∀ (f:List Fm) (c:List Str),bq (c ++ b) f=(bq c f).filter (fun x=>!b.contains x)
 | [],c=>by simp[bq]
 | t :: l,c=>by simp[bq,E6 b t c,k_ b l c]
end
theorem jE (n:Str) (s:List Fm):bq [n] s=(bq [] s).filter (fun x=>!(x == n)):=by
 have h:=k_ [n] s [];simp only[sj]at h;rw[h];apply List.filter_congr;intro x _;rw[gV];simp
mutual
theorem G1 {σ τ:Str->Dt}:∀ (t:Tm),(∀ x∈aC t,σ x=τ x)->kI σ t=kI τ t
 | .mk v n a,h=>by
  cases v with
  | true=>simp only[kI,↓reduceIte];exact h n (by simp[aC])
  | false=>simp only[kI,bW,↓reduceIte];rw[rE a (fun x hx=>h x (by simpa[aC] using hx))]
theorem rE {σ τ:Str->Dt}:∀ (t:List Tm),(∀ x∈ap t,σ x=τ x)->fV σ t=fV τ t
 | [],_=>rfl
 | t :: l,h=>by
  simp only[fV];rw[G1 t (fun x hx=>h x (by simp[ap,hx])),rE l (fun x hx=>h x (by simp[ap,hx]))]
end
theorem E7 (hq:bh o=true) (hx:x∈bq [] s) (hn:x≠n):x∈aL [] (.mk o n a s):=by
 simp only[aL,List.mem_append,hq,if_true];right;rw[jE];exact List.mem_filter.2 ⟨hx,by simpa using hn⟩
theorem E8 (hx:x∈ap a):x∈aL [] (.mk o n a s):=by
 simp only[aL,List.mem_append];left;exact List.mem_filter.2 ⟨hx,by simp⟩
mutual
theorem uD:∀ (f:Fm) (σ τ:Str->Dt) (d:Nat),(∀ x∈aL [] f,σ x=τ x)->dbF σ d f=dbF τ d f
 | .mk o n a s,σ,τ,d,h=>by
  have ha:fV σ a=fV τ a:=rE a (fun x hx=>h x (E8 hx));simp only[dbF,ha]
  by_cases hq:bh o
  ·rw[au hq,au hq];rw[wP s (upd σ n (.lvl d)) (upd τ n (.lvl d)) (d+1) (fun x hx=>by
    unfold upd;split
    ·rfl
    ·rename_i hn;exact h x (E7 hq hx (by simpa using hn)))]
  ·rw[ak hq,ak hq];rw[wP s σ τ d (fun x hx=>h x (by simp only[aL,List.mem_append];right;rw[ak hq];exact hx))]
theorem wP:∀ (f:List Fm) (σ τ:Str->Dt) (d:Nat),(∀ x∈bq [] f,σ x=τ x)->fL σ d f=fL τ d f
 | [],_,_,_,_=>rfl
 | t :: l,σ,τ,d,h=>by
  simp only[fL];rw[uD t σ τ d (fun x hx=>h x (by simp[bq,hx])),wP l σ τ d (fun x hx=>h x (by simp[bq,hx]))]
end
/-! alike: the same without bound names -/
def env:List Str->Str->Dt
 | [],x=>.fre x
 | n :: r,x=>if x == n then .lvl r.length else env r x
theorem uE (n:Str) (r:List Str):env (n :: r)=upd (env r) n (.lvl r.length):=by funext x;rfl
theorem E9:∀ (l:List Str) (x:Str) (i:Nat),env l x=.lvl i->i<l.length
 | [],x,i,h=>by simp[env]at h
 | n :: r,x,i,h=>by
  unfold env at h;split at h
  ·simp only[Dt.lvl.injEq]at h;subst h;simp
  ·have:=E9 r x i h;simp;omega
theorem An:∀ (c:Sco) (x y:Str),kK c x y=true ↔ env (c.map (·.1)) x=env (c.map (·.2)) y
 | [],x,y=>by simp[kK,env]
 | (s,a) :: r,x,y=>by
  have ih:=An r x y;simp only[kK,cz,env,List.length_map]
  by_cases h1:s=x
  ·subst h1
   by_cases h2:a=y
   ·subst h2;simp
   ·have e2:(a == y)=false:=by simpa using h2
    have e3:(y == a)=false:=by simpa using fun h=>h2 h.symm
    simp only[beq_self_eq_true,e2,Bool.true_or,Bool.and_false,e3,bW,↓reduceIte,false_iff];intro h;have:=E9 _ _ _ h.symm;simp at this
  ·have e1:(s == x)=false:=by simpa using h1
   have e4:(x == s)=false:=by simpa using fun h=>h1 h.symm
   by_cases h2:a=y
   ·subst h2;simp only[e1,beq_self_eq_true,Bool.or_true,Bool.false_and,e4,bW,↓reduceIte,false_iff];intro h;have:=E9 _ _ _ h;simp at this
   ·have e2:(a == y)=false:=by simpa using h2
    have e3:(y == a)=false:=by simpa using fun h=>h2 h.symm
    simp only[e1,e2,Bool.or_self,bW,↓reduceIte,e3,e4];exact ih
theorem xV:∀ (c:Sco) (x y:Str),c.any (fun p=>p.1 == x || p.2 == y)=false->kK c x y=(x == y)
 | [],x,y,_=>by simp[kK]
 | (s,a) :: r,x,y,h=>by
  simp only[List.any_cons,Bool.or_eq_false_iff]at h;simp only[kK,h.1.1,h.1.2,Bool.or_self,bW,↓reduceIte];exact xV r x y (by simpa using h.2)
theorem gx (σ:Str->Dt):∀ l,(fV σ l).length=l.length
 | []=>rfl
 | t :: l=>by simp[fV,gx σ l]
theorem ko (σ:Str->Dt) (d:Nat):∀ l,(fL σ d l).length=l.length
 | []=>rfl
 | t :: l=>by simp[fL,ko σ d l]
theorem zx (l:List Str) (x n:Str) (a:List Dt):env l x≠.app n a:=by
 induction l with
 | nil=>simp[env]
 | cons y r ih=>unfold env;split <;> simp[ih]
mutual
theorem JF (c:Sco):∀ (t u:Tm),lV t=true->lV u=true->(eU c t u=true ↔ kI (env (c.map (·.1))) t=kI (env (c.map (·.2))) u)
 | .mk v n a,.mk v' n' a',ht,hu=>by
  simp only[lV,af,Bool.or_eq_true,Bool.not_eq_true']at ht hu
  cases v with
  | true=>
   obtain rfl:a=[]:=by simpa using ht.1
   cases v' with
   | true=>
    obtain rfl:a'=[]:=by simpa using hu.1
    simp only[eU,kI,beq_self_eq_true,Bool.and_self,du,↓reduceIte,bM,Bool.and_true];rw[<-An];split
    ·rfl
    ·rename_i h;rw[xV c n n' (by simpa using h)]
   | false=>
    simp only[eU,kI,↓reduceIte,bW];constructor
    ·intro h;simp at h
    ·intro h;exact absurd h (zx _ _ _ _)
  | false=>
   cases v' with
   | true=>
    simp only[eU,kI,↓reduceIte,bW];constructor
    ·intro h;simp at h
    ·intro h;exact absurd h.symm (zx _ _ _ _)
   | false=>
    have ih:=fun hl=>qH c a a' ht.2 hu.2 hl;simp only[eU,kI,bW,↓reduceIte,Bool.false_and,beq_self_eq_true,du,af,dP,Dt.app.injEq];constructor
    ·rintro ⟨h1,h2,h3⟩;exact ⟨h2,(ih h1).1 h3⟩
    ·rintro ⟨h1,h2⟩;have hl:a.length=a'.length:=by have:=congrArg List.length h2;rwa [gx,gx]at this
     exact ⟨hl,h1,(ih hl).2 h2⟩
theorem qH (c:Sco):∀ (t u:List Tm),ep t=true->ep u=true->t.length=u.length->(bM c t u=true ↔ fV (env (c.map (·.1))) t=fV (env (c.map (·.2))) u)
 | [],[],_,_,_=>by simp[bM,fV]
 | [],_ :: _,_,_,h=>by simp at h
 | _ :: _,[],_,_,h=>by simp at h
 | t :: l,u :: m,ht,hu,h=>by
  simp only[ep,af]at ht hu;simp only[bM,fV,af,b_,JF c t u ht.1 hu.1,qH c l m ht.2 hu.2 (by simpa using h)]
end
mutual
theorem Ao:∀ (t u:Fm) (c:Sco),gS t=true->gS u=true->(cP c t u=true ↔ dbF (env (c.map (·.1))) c.length t=dbF (env (c.map (·.2))) c.length u)
 | .mk o n a s,.mk o' n' a' s',c,ht,hu=>by
  simp only[gS,af]at ht hu;simp only[cP,dbF,af,dP,Bool.or_eq_true];have O3:=fun hl=>qH c a a' ht.1 hu.1 hl;constructor
  ·rintro ⟨⟨rfl,h1,h2⟩,h3,h4,h5⟩;rw[(O3 h1).1 h4]
   by_cases hq:bh o
   ·rw[au hq]at h5 ⊢;rw[au hq];have:=(lj s s' ((n,n') :: c) ht.2 hu.2 h2).1 h5;simp only[cz,uE,List.length_map,eR]at this;rw[this]
   ·rw[ak hq]at h5 ⊢;rw[ak hq];rw[(lj s s' c ht.2 hu.2 h2).1 h5,h3.resolve_right hq]
  ·intro h
   by_cases hq:bh o
   ·rw[au hq]at h
    by_cases ip:bh o'
    ·rw[au ip]at h;simp only[Df.mk.injEq,true_and]at h;obtain ⟨rfl,h2,h3⟩:=h;have pp97a:=();exact pm97
    ·rw[ak ip]at h;simp only[Df.mk.injEq]at h;rw[h.1]at hq;exact absurd hq ip
   ·rw[ak hq]at h
    by_cases ip:bh o'
    ·rw[au ip]at h;simp only[Df.mk.injEq]at h;rw[h.1]at hq;exact absurd ip hq
    ·rw[ak ip]at h;simp only[Df.mk.injEq]at h;obtain ⟨rfl,h1,h2,h3⟩:=h;have pp97b:=();exact pm97
theorem lj:∀ (t u:List Fm) (c:Sco),el t=true->el u=true->t.length=u.length->(cb c t u=true ↔ fL (env (c.map (·.1))) c.length t=fL (env (c.map (·.2))) c.length u)
 | [],[],_,_,_,_=>by simp[cb,fL]
 | [],_ :: _,_,_,_,h=>by simp at h
 | _ :: _,[],_,_,_,h=>by simp at h
 | t :: l,u :: m,c,ht,hu,h=>by
  simp only[el,af]at ht hu;simp only[cb,fL,af,b_,Ao t u c ht.1 hu.1,lj l m c ht.2 hu.2 (by simpa using h)]
end
def db (f:Fm):Df:=dbF (env []) 0 f
theorem iQ (hf:gS f=true) (hg:gS g=true):cP [] f g=true ↔ db f=db g:=Ao f g [] hf hg
/-! names put into a formula without bound names -/
mutual
def Ok (σ:Str->Dt) (d:Nat):Dt->Dt | .lvl i=>.lvl (d+i) | .fre n=>σ n | .app n a=>.app n (ML σ d a)
def ML (σ:Str->Dt) (d:Nat):List Dt->List Dt | []=>[] | t :: l=>Ok σ d t :: ML σ d l
end
mutual
def sbF (σ:Str->Dt) (d:Nat):Df->Df | .mk o n a s=>.mk o n (ML σ d a) (O4 σ d s)
def O4 (σ:Str->Dt) (d:Nat):List Df->List Df | []=>[] | t :: l=>sbF σ d t :: O4 σ d l
end
mutual
theorem VX (σ:Str->Dt) (d:Nat) (ρ:Str->Dt):∀ t,kI (fun x=>Ok σ d (ρ x)) t=Ok σ d (kI ρ t)
 | .mk v n a=>by
  cases v with
  | true=>simp[kI]
  | false=>simp[kI,Ok,E' σ d ρ a]
theorem E' (σ:Str->Dt) (d:Nat) (ρ:Str->Dt):∀ t,fV (fun x=>Ok σ d (ρ x)) t=ML σ d (fV ρ t)
 | []=>by simp[fV,ML]
 | t :: l=>by simp[fV,ML,VX σ d ρ t,E' σ d ρ l]
end
theorem VY (σ:Str->Dt) (d e:Nat) (ρ:Str->Dt) (n:Str):upd (fun x=>Ok σ d (ρ x)) n (.lvl (d+e))=fun x=>Ok σ d (upd ρ n (.lvl e) x):=by
 funext x
 unfold upd;split <;> simp[Ok]
mutual
theorem JG (σ:Str->Dt) (d:Nat):∀ (f:Fm) (ρ:Str->Dt) (e:Nat),dbF (fun x=>Ok σ d (ρ x)) (d+e) f=sbF σ d (dbF ρ e f)
 | .mk o n a s,ρ,e=>by
  simp only[dbF,E'];split
  ·rw[VY,Nat.add_assoc,E_ σ d s (upd ρ n (.lvl e)) (e+1)];simp[sbF]
  ·rw[E_ σ d s ρ e];simp[sbF]
theorem E_ (σ:Str->Dt) (d:Nat):∀ (f:List Fm) (ρ:Str->Dt) (e:Nat),fL (fun x=>Ok σ d (ρ x)) (d+e) f=O4 σ d (fL ρ e f)
 | [],ρ,e=>by simp[fL,O4]
 | t :: l,ρ,e=>by simp[fL,O4,JG σ d t ρ e,E_ σ d l ρ e]
end
theorem JH (h:db f=db g) (σ:Str->Dt) (d:Nat):dbF σ d f=dbF σ d g:=by
 have h1:=JG σ d f (env []) 0;have h2:=JG σ d g (env []) 0;have e:(fun x=>Ok σ d (env [] x))=σ:=by funext x;simp[env,Ok]
 rw[e,Nat.add_zero]at h1 h2;rw[h1,h2];unfold db at h;rw[h]
