/-
Contracts of 'Term','Right','Schema' of package syntax.
The contract of 'set' of package subst: a map whose keys are the names handed over.
Plain laws of matching: what has matched once matches again;what is found is valid.
Sets of names,in order: two rising lists with the same members are one;a list sorted is the set in order. Plain.
slices.Sorted(maps.Keys(m)) at sets of names;'FreeTerm' of package subst.
-/
import Derived.Test.YtokemihbkeddoaaGreatDoorU00
import Derived.Test.YtokemihbkeddoaaGreatDoorU06
import Derived.Shelf.Abstract
import Derived.Maps.OwnIn
import Derived.Maps.OwnSet
import Derived.Sort.KeysCollected
import Derived.Carry
import Derived.Test.YtokemihbkeddoaaGreatDoorU01
import Derived.Sort.Walk0
import Derived.Test.YtokemihbkeddoaaGreatDoorShelf
import Derived.Shelf.SlIter.Nil
import Derived.Shelf.SortM.Plain
import Derived.Shelf.SortM.SortNone
import Derived.Ground.GgzProg
import Derived.Ground.SlgmProg
namespace Go.Proofs.YtokemihbkeddoaaGreatDoor
open Go Go.RowKit Lib
set_option maxRecDepth 100000
set_option maxHeartbeats 64000000
theorem TermV.lt {ok:Nat->Prop} {W:World} {v:Value} {t:Tm} (h:TermV ok W v t):TermV (fun b=>b<W.heap.size) W v t:=h.move (fun _ _ hlt=>⟨hlt,rfl⟩)
theorem FormV.lt {ok:Nat->Prop} {W:World} {v:Value} {t:Fm} (h:FormV ok W v t):FormV (fun b=>b<W.heap.size) W v t:=h.move (fun _ _ hlt=>⟨hlt,rfl⟩)
theorem LV (t:Tm) (hf:fitT t) (ok:Nat->Prop) (w:World) (q:TQ) (hq:TermV ok w q.val t) :
  Calls Tryz.prog 68 #[q.val] w fun e w'=>e=.returned (.bool (iX false t))/\Below w.heap.size w w':=by
 have hn:=hf.1
 have Z9:=oz t
 obtain ⟨W2,aY⟩:=ao ((w.alloc (.cells #[.bool q.v,.string q.n,.slice q.a q.l q.c] 43)).alloc (.cells #[.bool false,.int .i64 9223372036854775807,.int .i64 9223372036854775807] 111))
 have hB:=j7 aY
 have hJ:JAt (w.heap.size+1) false 9223372036854775807 9223372036854775807 W2:=by rw[aY];exact aj (by simp)
 have C:=LP t hf _ (w.heap.size+1) false 9223372036854775807 9223372036854775807 1 W2 q (hq.lt.later hB) (fun b hb=>by omega) hJ (by omega) (by omega) (by omega) (by omega) (by omega)
 have hb:(iX false t && (decide ((nodesT t:Int)<=9223372036854775807) && decide (1+(cR t:Int)<=9223372036854775807+1)))=iX false t:=by
  have e1:decide ((nodesT t:Int)<=9223372036854775807)=true:=by simp;omega
  have e2:decide (1+(cR t:Int)<=9223372036854775807+1)=true:=by simp;omega
  rw[e1,e2];simp
 rw[hb]at C
 obtain ⟨HC,HB⟩:=aS C hB
 clear C hB hJ hb hn Z9 hq hf
 have HW:=ab aY
 rw[aY]at HC
 clear aY
 unfold TQ.val at HC ⊢
 obtain ⟨bb,cv⟩:=ao (iX false t)
 rw[<-cv]at HC ⊢
 clear cv
 cases bb
 all_goals
  go_enter Tryz.func68,Tryz.ntmps68
  go_wp2_with (go_at_call 122;refine HC.o.mono ?_;rintro e w3 ⟨rfl,ju,_⟩;have lJ:=ab ju;clear ju)
  go_ret
  refine ⟨rfl,?_⟩
  rw[<-HW.o]at lJ
  exact Below.kp1 HB.o lJ.o (by omega)
theorem pj (s:Nat) (hs:s<4) (n:Str) (hn:n.length<=1000000000) (w:World) :
  Calls Tryz.prog 116 #[.int .u8 s,.string ⟨n.toArray⟩] w fun e w'=>e=.returned (.bool (oh s n))/\Below w.heap.size w w':=by
 have pX:s=0\/s=1\/s=2\/s=3:=by omega
 rcases pX with rfl | rfl | rfl | rfl
 ·go_enter Tryz.func116,Tryz.ntmps116
  go_wp2
  go_ret
  exact ⟨rfl,Below.refl _ _⟩
 ·go_enter Tryz.func116,Tryz.ntmps116
  go_wp2_with (go_at_call 120;refine (l7 n _ hn).mono ?_;rintro e w' ⟨rfl,hb⟩)
  go_ret
  exact ⟨rfl,hb⟩
 ·go_enter Tryz.func116,Tryz.ntmps116
  go_wp2_with (go_at_call 152;refine (gH n _ hn).mono ?_;rintro e w' ⟨rfl,hb⟩)
  go_ret
  exact ⟨rfl,hb⟩
 ·go_enter Tryz.func116,Tryz.ntmps116
  go_wp2_with (go_at_call 185;refine (l9 n _ hn).mono ?_;rintro e w' ⟨rfl,hb⟩)
  go_ret
  exact ⟨rfl,hb⟩
theorem LW {l:List Tm} (h:l.length≠2):rp l=false:=by
 match l with
 | []=>rfl
 | [_]=>rfl
 | [_,_]=>exact absurd rfl h
 | _ :: _ :: _ :: _=>rfl
theorem kC (l:List Tm) (hf:fitTs l) (ok:Nat->Prop) (a:Option Addr) (n c:Nat) (w:World) (hv:TermsV ok w (.slice a n c) l) :
  Calls Tryz.prog 117 #[.slice a n c] w fun e w'=>e=.returned (.bool (rp l))/\Below w.heap.size w w':=by
 obtain rfl:=hv.len
 by_cases hl:l.length=2
 ·obtain ⟨x,y,rfl⟩:∃x y,l=[x,y]:=by
   match l,hl with
   | [x,y],_=>exact ⟨x,y,rfl⟩
  obtain ⟨b,off,u,rfl,_,hu,c0,c1,c2⟩:=hv.get (j:=0) (by simp)
  obtain ⟨b',iN,u',cv,_,fO,kg,kv,kw⟩:=hv.get (j:=1) (by simp)
  simp only[Option.some.injEq,Addr.mk.injEq,and_true]at cv
  obtain ⟨rfl,rfl⟩:=cv
  simp only[List.getElem_cons_zero,List.getElem_cons_succ]at hu fO
  have hfx:=hf.mem (t:=x) (by simp)
  have hfy:=hf.mem (t:=y) (by simp)
  obtain ⟨xv,xn,xa⟩:=x
  obtain ⟨yv,yn,ya⟩:=y
  obtain ⟨s1,h1,_⟩:=aP.1 hu
  obtain ⟨s2,h2,_⟩:=aP.1 fO
  have tC:=hfx.name
  have qD:=hfy.name
  have pi:xn.length<=1000000000:=by omega
  have hy2:yn.length<=1000000000:=by omega
  obtain ⟨uv,un,ua,ul,uc⟩:=u
  obtain ⟨vv,vn,va,vl,vc⟩:=u'
  have pp59a:=();exact pm59
 ·rw[LW hl]
  have pT:((l.length:Int) == 2)=false:=by simp;omega
  have HV:=ab hv
  clear hv hf
  obtain ⟨n,hn⟩:=ao l.length
  rw[<-hn]at pT hl ⊢
  clear hn HV
  go_enter Tryz.func117,Tryz.ntmps117
  go_wp2
  go_ret
  exact ⟨rfl,Below.refl _ _⟩
def Wv (W0:World) (t:Fm):Prop:=∀ (ok:Nat->Prop) (J:Nat) (sc:Bool) (left bh aX:Int) (w:World) (q:FQ),Tabs W0 w->W0.heap.size<=J->FormV ok w q.val t->(∀ b,ok b->b≠J)->JAt J sc left bh w->0<=left->left<=9223372036854775807->bh<=9223372036854775807->1<=aX->aX+nodesF t<=100000000 →
 Calls Tryz.prog 64 #[.pointer (some ⟨J,0,none⟩),q.val,.int .i64 aX] w (JPost J sc left bh (nodesF t) (okF sc t && (decide ((nodesF t:Int)<=left) && decide (aX+depthF t<=bh+1))) w)
theorem dQ {l:List Fm} {k:Nat} (h:k<l.length):ah (l.take (k+1))=ah (l.take k)+nodesF l[k]:=by
 induction l generalizing k with
 | nil=>simp at h
 | cons t l ih=>
  cases k with
  | zero=>simp[ah]
  | succ k=>have:=ih (k:=k) (by simpa using h);simp[ah]at this ⊢;omega
theorem gj {l:List Fm} {k:Nat} (h:k<l.length):aU (l.take (k+1))=max (aU (l.take k)) (depthF l[k]):=by
 induction l generalizing k with
 | nil=>simp at h
 | cons t l ih=>
  cases k with
  | zero=>simp[aU]
  | succ k=>have:=ih (k:=k) (by simpa using h);simp[aU]at this ⊢;omega
theorem je {sc:Bool} {l:List Fm} {k:Nat} (h:k<l.length):cX sc (l.take (k+1))=(cX sc (l.take k) && okF sc l[k]):=by
 induction l generalizing k with
 | nil=>simp at h
 | cons t l ih=>
  cases k with
  | zero=>simp[cX]
  | succ k=>have:=ih (k:=k) (by simpa using h);simp[cX]at this ⊢;rw[this,Bool.and_assoc]
theorem cg (l:List Fm) (k:Nat):ah (l.take k)<=ah l:=by
 induction l generalizing k with
 | nil=>simp
 | cons t l ih=>cases k with
  | zero=>simp[ah]
  | succ k=>have:=ih k;simp[ah];omega
theorem lT {l:List Fm} {k:Nat} (h:k<l.length):depthF l[k]<=aU l:=by
 induction l generalizing k with
 | nil=>simp at h
 | cons t l ih=>
  cases k with
  | zero=>simp[aU];omega
  | succ k=>have:=ih (k:=k) (by simpa using h);simp[aU];omega
theorem rA {sc:Bool} {l:List Fm} {k:Nat} (h:k<l.length) (hf:okF sc l[k]=false):cX sc l=false:=by
 induction l generalizing k with
 | nil=>simp at h
 | cons t l ih=>
  cases k with
  | zero=>simp at hf;simp[cX,hf]
  | succ k=>have:=ih (k:=k) (by simpa using h) (by simpa using hf);simp[cX,this]
theorem JP {o:Int} (h:17<=o):rowOp o=(false,false,0,0,0):=by
 unfold rowOp
 simp[show o≠1 by omega,show o≠2 by omega,show o≠8 by omega,show o≠9 by omega,show o≠3 by omega,show ¬o<=13 by omega,show ¬o<=7 by omega,show o≠14 by omega,show o≠15 by omega,show o≠16 by omega]
theorem Gn (o:Int):(rowOp o).2.2.1<4/\(rowOp o).2.2.2.1<=4/\(rowOp o).2.2.2.2<=2:=by
 unfold rowOp
 repeat' split
 all_goals simp
theorem O' (sc:Bool) (o:Int) (n:Str) (a:List Tm) (s:List Fm) (left bh aX:Int) :
  (okF sc (.mk o n a s) && (decide ((nodesF (.mk o n a s):Int)<=left) && decide (aX+depthF (.mk o n a s)<=bh+1))) =
  (((rowOp o).1 || (sc && (rowOp o).2.1)) && ((oh (rowOp o).2.2.1 n && (decide (a.length<=(rowOp o).2.2.2.1) && s.length == (rowOp o).2.2.2.2)) && ((o != 16 || rp a) && ((dO sc a && (decide ((ac a:Int)<=left - 1) && decide (aX+1+bz a<=bh+1))) && (cX sc s && (decide ((ah s:Int)<=left - 1 - ac a) && decide (aX+1+aU s<=bh+1))))))):=by
 have e1:decide ((nodesF (.mk o n a s):Int)<=left)=(decide ((ac a:Int)<=left - 1) && decide ((ah s:Int)<=left - 1 - ac a)):=by
  rw[Bool.eq_iff_iff,Bool.and_eq_true,decide_eq_true_eq,decide_eq_true_eq,decide_eq_true_eq];unfold nodesF;omega
 have e2:decide (aX+depthF (.mk o n a s)<=bh+1)=(decide (aX+1+bz a<=bh+1) && decide (aX+1+aU s<=bh+1)):=by
  rw[Bool.eq_iff_iff,Bool.and_eq_true,decide_eq_true_eq,decide_eq_true_eq,decide_eq_true_eq];unfold depthF;omega
 rw[e1,e2]
 unfold okF
 generalize decide ((ac a:Int)<=left - 1)=x1
 generalize decide ((ah s:Int)<=left - 1 - ac a)=x2
 generalize decide (aX+1+bz a<=bh+1)=x3
 generalize decide (aX+1+aU s<=bh+1)=x4
 generalize dO sc a=x5
 generalize cX sc s=x6
 generalize ((rowOp o).1 || (sc && (rowOp o).2.1))=x7
 generalize (oh (rowOp o).2.2.1 n && (decide (a.length<=(rowOp o).2.2.2.1) && s.length == (rowOp o).2.2.2.2))=x8
 generalize (o != 16 || rp a)=x9
 revert x1 x2 x3 x4 x5 x6 x7 x8 x9
 decide
section
attribute [local go_sem] Oper.semAt_some run_makeMap
def SetW (W:World) (m n:Nat) (xs:List Str):Prop:=∃D:DataW Unit,W.ownsMap Tryz.prog 9 (plainElem Tryz.prog 4) m n D/\(∀ x:Str,Maps.has D (.string x)=true ↔ x∈xs)/\∀ x∈xs,∀ d,D.atKey (.string x) d=.lit (.bool true)
theorem SetW.same {W W':World} {m n:Nat} {xs:List Str} (h:SetW W m n xs) (hb:W'.heap[m]?=W.heap[m]?):SetW W' m n xs:=by
 obtain ⟨D,⟨es,wZ,h1,F,h2,h3⟩,hx⟩:=h
 exact ⟨D,⟨es,wZ,hb.trans h1,F,h2,h3⟩,hx⟩
theorem SetW.lt {W:World} {m n:Nat} {xs:List Str} (h:SetW W m n xs):m<W.heap.size:=by
 obtain ⟨D,h,_⟩:=h
 exact h.lt
theorem BU (xs:List Str) (cq:xs.length<=2000000) (c9:∀ x∈xs,x.length<=2000000) (gf:Nat) (lb:Array Value) (w:World) (eg:∀ args W,(callFunc gf args).run Tryz.prog W=.ok (.enter gf args) W)
  (mR:∀ w1,Below w.heap.size w w1->w.heap.size<w1.heap.size->Gb (fun b=>b=w.heap.size) False Tryz.prog gf lb xs wY w1) :
  Calls Tryz.prog 84 #[.func (.func gf) #[] lb] w fun e w'=>e=.returned (.map (some w.heap.size))/\SetW w' w.heap.size xs.length xs/\Below w.heap.size w w':=by
 obtain ⟨vO,Gp,Ww⟩:=cf cq c9 mR
 clear cq c9 mR
 refine (callsIn_wide (n:=3)).1 ?_
 refine callsIn_of_wp_marks Tryz.func84 rfl trivial ?_ rfl
 simp only[Tryz.ntmps84,List.size_toArray,List.length_cons,List.length_nil,Nat.reduceAdd,Nat.reduceSub,Array.replicate_succ,Array.replicate_zero,List.push_toArray,List.append_toArray,List.nil_append,List.cons_append]
 have jb:∀ f,Fence.wide.fn f:=fun _=>trivial
 gi_wp2
 obtain ⟨w1,vP⟩:=ao ((w.alloc (.map #[] 0)).alloc (.cells #[.map (some w.heap.size)] 118))
 have hb1:=j7 vP
 have jS:=vE vP
 have Gq:SetW w1 w.heap.size 0 []:=by
  rw[vP]
  exact ⟨_,(World.ownsMap_made w _ _ _).alloc _,fun x=>by simp[Maps.has],fun x hx=>by simp at hx⟩
 have xB:=iV vP
 rw[<-vP]
 clear vP
 obtain ⟨dG,OI,HS0,HXB⟩:=eA hb1 jS Gq xB
 clear hb1 jS Gq xB
 refine fE rfl eg (fun b hb=>by subst hb;have:=OI.o;omega) (Ww.o w1 dG.o (by have:=OI.o;omega)) (fun _ _ _ h=>by cases h;rfl)
  (fun pre X=>SetW X w.heap.size pre.length pre/\Kp (fun b=>b=w.heap.size) w1 X) (fun _ _ _=>False) (fun s=>?hI) (fun _ _ _ _ _ h=>h.elim) ⟨HS0.o,Kp.refl _⟩ ?round ?done (fun _ _ _ _ h=>h.elim)
 case hI=>
  rintro X Y hn ⟨h1,h2⟩
  have hl:=h1.lt
  have hz:=OI.o
  exact ⟨h1.same (hn.old (by omega) hl),hn.os.trans h2.os,hn.tape.trans h2.tape,hn.output.trans h2.output,Nat.le_trans h2.size hn.size,fun b hb hm=>(hn.old hb (Nat.lt_of_lt_of_le hb h2.size)).trans (h2.same b hb hm)⟩
 case done=>
  rintro D X hD ⟨hs,aZ⟩ _ hd
  have c0:X.cell? ⟨w.heap.size+1,0,none⟩=some (.map (some w.heap.size)):=ai ((aZ.same _ (by have:=OI.o;omega) (by omega)).trans HXB.o) 0
  obtain ⟨HS,HK,HD,Wx⟩:=eA hs aZ hd hD
  clear hs aZ hd hD
  gi_wp2
  refine ⟨by simp,.inl ⟨_,_,rfl,run_takeDeferred HD.o,?_⟩⟩
  refine ⟨.map (some w.heap.size),by simp[results,Tryz.results84,go_sem],rfl,?_,?_⟩
  ·exact HS.o.same (World.putObj_heap_other (by have:=OI.o;have:=Wx.o;omega))
  ·have hk:=BL (.deferred none) HK.o Wx.o
   exact pm179
 case round=>
  rintro l pre vs x W hl vQ ⟨hs,aZ⟩ hat _ cV
  cases hat
  obtain ⟨HS,HK,HLr,mw⟩:=eA hs aZ vQ cV
  clear hs aZ vQ cV
  gi_wp2
  refine ⟨Kp.refl _,⟨HS.o,HK.o⟩,fun W2 fT iD gX=>?_⟩
  have Z':x∈xs:=mw.o.subset (by simp)
  have BV:(⟨x.toArray⟩:ByteArray).size<=maxLen:=by have:=Gp.o x Z';have e:(⟨x.toArray⟩:ByteArray).size=x.length:=rfl;rw[e];unfold maxLen;omega
  have JQ:keyOf Tryz.prog 9 (.string ⟨x.toArray⟩)=some (.string x):=by rw[WideMaps.keyOf_string_mk Tryz.underlying9 BV]
  have kP:pre.length<maxLen:=by
   have h1:(pre ++ [x]).length<=xs.length:=mw.o.length_le
   have:=vO.o
   simp at h1;unfold maxLen;omega
  obtain ⟨⟨D,aC,w_,tD⟩,_⟩:=iD
  have c0:W2.cell? ⟨w.heap.size+1,0,none⟩=some (.map (some w.heap.size)):=ai ((gX.same _ (by have:=OI.o;omega) (by omega)).trans HXB.o) 0
  obtain ⟨HH,zao,Wy,HM⟩:=eA w_ tD gX aC.isMap
  clear w_ tD gX BV Z'
  gi_wp2_with (gi_at_mapUpdate;refine wpListIn_mapUpdate_own _ rfl _ _ _ 118 rfl 9 4 (Maps.string_keyed Tryz.underlying9) Tryz.underlying118 (plainElem Tryz.prog 4) w.heap.size pre.length D rfl aC kP _ _ (.string x) rfl rfl JQ (.lit (.bool true)) [] (plainElem_bool Tryz.underlying4 true) ?_;intro w4 aR aq;have HG:=aF aR aq;clear aR aq)
  have ku:Kp (fun b=>b=w.heap.size) W2 w4:=Kp.grown HG.o.2 rfl
  refine ⟨ku,⟨_,by rw[List.length_append];exact HG.o.1,fun y=>?_,fun y hym d=>?_⟩,Wy.o.trans ku⟩
  rotate_left
  ·by_cases hy:y=x
   ·subst hy
    rw[Maps.atKey_put_same HM.o (by simp[WideAt.IsKeyLit])]
   ·rw[Maps.atKey_put_other (fun h=>hy (by injection h))]
    exact zao.o y (by simpa[hy] using hym) d
  by_cases hy:y=x
  ·subst hy
   rw[Maps.has_put_same HM.o (by simp[WideAt.IsKeyLit])]
   simp
  ·rw[Maps.has_put_other (fun h=>hy (by injection h))]
   rw[HH.o]
   simp[hy]
end
theorem D6 {α:Type} (x:Str) (v:α):∀ (l:List (Str×α)),getB l x=none->∀ y,getB (gw x v l) y=if x == y then some v else getB l y
 | [],_,y=>rfl
 | (z,u) :: r,h,y=>by
  unfold getB at h
  have hz:(z == x)=false:=by
   cases hz:z == x
   ·rfl
   ·simp[hz]at h
  simp only[hz,Bool.false_eq_true,↓reduceIte]at h
  unfold gw
  split
  ·rfl
  ·show (if z == y then some u else getB (gw x v r) y)=_
   rw[D6 x v r h y]
   show _=if x == y then some v else if z == y then some u else getB r y
   by_cases h1:z == y
   ·have h2:(x == y)=false:=by
     rw[beq_iff_eq]at h1;subst h1
     rw[Bool.eq_false_iff]at hz ⊢
     intro h3;exact hz (by simpa using (beq_iff_eq.1 h3).symm)
    simp[h1,h2]
   ·simp[h1]
structure Sub (k k':Bd):Prop where
 f:∀ n v,getB k.fs n=some v->getB k'.fs n=some v
 t:∀ n v,getB k.ts n=some v->getB k'.ts n=some v
theorem Sub.refl (k:Bd):Sub k k:=⟨fun _ _ h=>h,fun _ _ h=>h⟩
theorem Sub.trans {a b c:Bd} (h:Sub a b) (g:Sub b c):Sub a c:=⟨fun n v e=>g.f n v (h.f n v e),fun n v e=>g.t n v (h.t n v e)⟩
def SubL {α:Type} (k k':List (Str×α)):Prop:=∀ n v,getB k n=some v->getB k' n=some v
theorem SubL.refl {α:Type} (k:List (Str×α)):SubL k k:=fun _ _ h=>h
theorem SubL.trans {α:Type} {a b c:List (Str×α)} (h:SubL a b) (g:SubL b c):SubL a c:=fun n v e=>g n v (h n v e)
/-! equality -/
mutual
theorem JR:∀ t,te t t=true
 | .mk v n a=>by simp[te,m6 a]
theorem m6:∀ l,iy l l=true
 | []=>by simp[iy]
 | t :: l=>by simp[iy,JR t,m6 l]
end
mutual
theorem D7:∀ t u,te t u=true ↔ t=u
 | .mk v n a,.mk v' n' a'=>by simp[te,kQ a a',and_assoc]
theorem kQ:∀ l m,iy l m=true ↔ l=m
 | [],[]=>by simp[iy]
 | [],_ :: _=>by simp[iy]
 | _ :: _,[]=>by simp[iy]
 | t :: l,u :: m=>by simp[iy,D7 t u,kQ l m]
end
mutual
theorem rB:∀ t u,vG t u=true ↔ t=u
 | .mk v n a s,.mk v' n' a' s'=>by simp[vG,kQ a a',mx s s',and_assoc]
theorem mx:∀ l m,mm l m=true ↔ l=m
 | [],[]=>by simp[mm]
 | [],_ :: _=>by simp[mm]
 | _ :: _,[]=>by simp[mm]
 | t :: l,u :: m=>by simp[mm,rB t u,mx l m]
end
/-! a formula is alike to itself -/
/-! what has matched once matches again -/
theorem D8 {step:Bd->Pl->Bd×Int}:∀ (l:List (Fm×Fm)) (i:Nat) (k:Bd),(∀ x∈l,j9 step k (bE [] x.1 x.2)=(k,0))->fw step i k l=(k,0,0)
 | [],i,k,_=>by simp[fw]
 | (s,f) :: l,i,k,h=>by
  unfold fw
  rw[h (s,f) (List.mem_cons_self ..)]
  simp only[if_true]
  exact D8 l (i+1) k (fun x hx=>h x (List.mem_cons_of_mem _ hx))
theorem kD:∀ (l:List (Fm×Fm)) (i:Nat),eZ i l=none ↔ ∀ x∈l,(fC x.1 && bP x.2)=true
 | [],i=>by simp[eZ]
 | (s,f) :: l,i=>by
  unfold eZ
  split
  ·rename_i h
   rw[kD l (i+1)]
   constructor
   ·intro h2 x hx
    rcases List.mem_cons.1 hx with rfl | hx
    ·exact h
    ·exact h2 x hx
   ·exact fun h2 x hx=>h2 x (List.mem_cons_of_mem _ hx)
  ·rename_i h
   constructor
   ·intro h2;cases h2
   ·intro h2;exact absurd (h2 (s,f) (List.mem_cons_self ..)) h
/-! what is found is valid -/
theorem D9 {s:Str} (h:fQ s=true):dy s=false:=by
 unfold fQ at h
 cases s with
 | nil=>simp[dy]
 | cons c r=>
  have pp187:=();exact pm187
theorem LX {s:Str} (h:fQ s=true):ea s=false:=by
 unfold fQ at h
 cases s with
 | nil=>simp[ea,dp,cG]
 | cons c r=>
  exact pm187
theorem JS {s:Str} (h:fQ s=true):dy (cH s)=true:=by simp[dy,cH,h]
def VarsOk (l:List Str):Prop:=∀ x∈l,fQ x=true
theorem xd {x:Str}:∀ (c:Sco) (inn:List Str) (y:Str),cP.go x c inn=some y->y=x\/∃s∈c.map (·.1),y=cH s
 | [],inn,y,h=>by simp only[cP.go,Option.some.injEq]at h;exact .inl h.symm
 | (s,a) :: r,inn,y,h=>by
  unfold cP.go at h
  split at h
  ·split at h
   ·cases h
   ·simp only[Option.some.injEq]at h
    exact .inr ⟨s,by simp,h.symm⟩
  ·rcases xd r (s :: inn) y h with h | ⟨z,hz,h⟩
   ·exact .inl h
   ·exact .inr ⟨z,by simp only[List.map_cons,List.mem_cons];exact .inr hz,h⟩
theorem xf {c:Sco} {x y:Str} (h:cP c x=some y):y=x\/∃s∈c.map (·.1),y=cH s:=xd c [] y h
mutual
theorem BW {c:Sco} (hc:VarsOk (c.map (·.1))) (ins:List Str):∀ (t u:Tm),iX false t=true->io c ins t=some u->iX false (aK u)=true/\nodesT u=nodesT t/\cR u=cR t
 | .mk v n a,u,hok,h=>by
  unfold io at h
  unfold iX at hok
  cases v with
  | true=>
   simp only[↓reduceIte,Bool.false_and,Bool.or_false,Bool.and_eq_true]at h hok
   obtain ⟨ha,hn⟩:=hok
   obtain rfl:a=[]:=by simpa using ha
   have Ga:∀ y:Str,(y=n\/∃s∈c.map (·.1),y=cH s)->iX false (aK (ap y))=true/\nodesT (ap y)=nodesT (.mk true n [])/\cR (ap y)=cR (.mk true n []):=by
    rintro y (rfl | ⟨s,hs,rfl⟩)
    ·simp[ap,aK,D9 hn,iX,hn,bI,nodesT,cR]
    ·have e1:(dy (63 :: s))=true:=JS (hc s hs)
     have e2:fQ s=true:=hc s hs
     simp[ap,aK,e1,iX,e2,bI,nodesT,cR,cH]
   split at h
   ·simp only[Option.some.injEq]at h
    subst h
    exact Ga n (.inl rfl)
   ·obtain ⟨y,hy,rfl⟩:=Option.map_eq_some_iff.1 h
    exact Ga y (xf hy)
  | false=>
   simp only[Bool.false_eq_true,↓reduceIte,Bool.and_eq_true,decide_eq_true_eq]at h hok
   obtain ⟨m,hm,rfl⟩:=Option.map_eq_some_iff.1 h
   obtain ⟨h1,h2,h3,h4⟩:=xg hc ins a m hok.2.2 hm
   have hl:(bI m).length=a.length:=by rw[h4.2];exact h4.1
   simp[aK,iX,hok.2.1,h1,nodesT,cR,h2,h3,hl,hok.1]
theorem xg {c:Sco} (hc:VarsOk (c.map (·.1))) (ins:List Str):∀ (t u:List Tm),dO false t=true->dU c ins t=some u->dO false (bI u)=true/\ac u=ac t/\bz u=bz t/\(u.length=t.length/\(bI u).length=u.length)
 | [],u,_,h=>by simp only[dU,Option.some.injEq]at h;subst h;simp[dO,bI]
 | t :: l,u,hok,h=>by
  simp only[dU]at h
  cases h1:io c ins t with
  | none=>rw[h1]at h;simp at h
  | some x=>
   cases h2:dU c ins l with
   | none=>rw[h1,h2]at h;simp at h
   | some m=>
    have pp235a:=();exact pm235
end
mutual
theorem wC {c:Sco} (hc:VarsOk (c.map (·.1))):∀ (f u:Fm) (ins:List Str),okF false f=true->fD c ins f=some u->okF false (bm u)=true/\nodesF u=nodesF f/\depthF u=depthF f
 | .mk o n a s,u,ins,hok,h=>by
  unfold fD at h
  cases h1:dU c ins a with
  | none=>rw[h1]at h;simp at h
  | some a'=>
   cases h2:ek c (if bn o then n :: ins else ins) s with
   | none=>rw[h1,h2]at h;simp at h
   | some s'=>
    have pp235b:=();exact pm235
theorem D_ {c:Sco} (hc:VarsOk (c.map (·.1))):∀ (f u:List Fm) (ins:List Str),cX false f=true->ek c ins f=some u->cX false (bJ u)=true/\ah u=ah f/\aU u=aU f/\(u.length=f.length/\(bJ u).length=u.length)
 | [],u,ins,_,h=>by simp only[ek,Option.some.injEq]at h;subst h;simp[cX,bJ]
 | t :: l,u,ins,hok,h=>by
  simp only[ek]at h
  cases h1:fD c ins t with
  | none=>rw[h1]at h;simp at h
  | some x=>
   cases h2:ek c ins l with
   | none=>rw[h1,h2]at h;simp at h
   | some m=>
    have pp235c:=();exact pm235
end
mutual
theorem uE:∀ t,nodesT (aK t)=nodesT t/\cR (aK t)=cR t
 | .mk v n a=>by simp[aK,nodesT,cR,m7 a]
theorem m7:∀ t,ac (bI t)=ac t/\bz (bI t)=bz t
 | []=>by simp[bI]
 | t :: l=>by simp[bI,ac,bz,uE t,m7 l]
end
mutual
theorem jU:∀ t,nodesF (bm t)=nodesF t/\depthF (bm t)=depthF t
 | .mk o n a s=>by simp[bm,nodesF,depthF,m7 a,rC s]
theorem rC:∀ t,ah (bJ t)=ah t/\aU (bJ t)=aU t
 | []=>by simp[bJ]
 | t :: l=>by simp[bJ,ah,aU,jU t,rC l]
end
theorem oC {sc:Bool}:∀ (l:List Tm) (i:Nat) (t:Tm),dO sc l=true->l[i]?=some t->iX sc t=true
 | [],i,t,_,h=>by simp at h
 | x :: l,0,t,hok,h=>by simp only[List.getElem?_cons_zero,Option.some.injEq]at h;subst h;simp only[dO,Bool.and_eq_true]at hok;exact hok.1
 | x :: l,i+1,t,hok,h=>by simp only[dO,Bool.and_eq_true]at hok;exact oC l i t hok.2 (by simpa using h)
theorem Ea {sc:Bool}:∀ (l:List Fm) (i:Nat) (t:Fm),cX sc l=true->l[i]?=some t->okF sc t=true
 | [],i,t,_,h=>by simp at h
 | x :: l,0,t,hok,h=>by simp only[List.getElem?_cons_zero,Option.some.injEq]at h;subst h;simp only[cX,Bool.and_eq_true]at hok;exact hok.1
 | x :: l,i+1,t,hok,h=>by simp only[cX,Bool.and_eq_true]at hok;exact Ea l i t hok.2 (by simpa using h)
theorem lU:∀ (l:List Tm) (i:Nat),(bI l)[i]?=l[i]?.map aK
 | [],i=>by simp[bI]
 | x :: l,0=>by simp[bI]
 | x :: l,i+1=>by simp[bI,lU l i]
theorem uF:∀ (l:List Fm) (i:Nat),(bJ l)[i]?=l[i]?.map bm
 | [],i=>by simp[bJ]
 | x :: l,0=>by simp[bJ]
 | x :: l,i+1=>by simp[bJ,uF l i]
theorem xh {t:Tm} (h:iX false (aK t)=true):dO false (bI t.a)=true:=by
 obtain ⟨v,n,a⟩:=t
 simp only[aK,iX]at h
 cases v with
 | true=>
  simp only[↓reduceIte,Bool.and_eq_true]at h
  have:bI a=[]:=by simpa using h.1
  simp[Tm.a,this,dO]
 | false=>
  have pp264a:=();exact pm264
theorem Eb:∀ (p:List Nat) (l:List Tm) (t:Tm),dO false (bI l)=true->le l p=some t->iX false (aK t)=true
 | [],l,t,_,h=>by simp[le]at h
 | [i],l,t,hok,h=>by
  simp only[le]at h
  exact oC _ i _ hok (by rw[lU,h];rfl)
 | i :: j :: r,l,t,hok,h=>by
  simp only[le]at h
  cases h1:l[i]? with
  | none=>rw[h1]at h;simp at h
  | some x=>
   rw[h1]at h
   exact Eb (j :: r) _ t (xh (oC _ i _ hok (by rw[lU,h1];rfl))) h
theorem Ec:∀ (p:List Nat) (f:Fm) (ins:List Str) (g:Fm) (pL:List Str),okF false (bm f)=true->mo f p ins=some (g,pL)->okF false (bm g)=true
 | [],f,ins,g,pL,hok,h=>by simp only[mo,Option.some.injEq,Prod.mk.injEq]at h;rw[<-h.1];exact hok
 | i :: r,f,ins,g,pL,hok,h=>by
  simp only[mo]at h
  cases h1:f.s[i]? with
  | none=>rw[h1]at h;simp at h
  | some x=>
   rw[h1]at h
   refine Ec r x _ g pL ?_ h
   obtain ⟨o,n,a,s⟩:=f
   simp only[bm,okF,Bool.and_eq_true]at hok
   exact Ea _ i _ hok.2.2.2.2 (by rw[uF];simp only[Fm.s]at h1;rw[h1];rfl)
theorem Ed {f im:Fm} {x:Str} {t:Tm} (hok:okF false (bm im)=true) (h:iZ f im x=some t):iX false (aK t)=true:=by
 unfold iZ at h
 split at h
 ·cases h
 ·split at h
  ·cases h
  ·rename_i g ins hg
   split at h
   ·cases h
   ·rename_i y hy
    split at h
    ·cases h
    ·cases h
     have:=Ec _ _ _ _ _ hok hg
     obtain ⟨o,n,a,s⟩:=g
     simp only[bm,okF,Bool.and_eq_true]at this
     exact Eb _ _ _ this.2.2.2.1 hy
structure PlOk (p:Pl):Prop where
 s:okF true p.s=true
 f:okF false p.f=true
 c:VarsOk (p.c.map (·.1))
 n:nodesF p.f<=400
 d:depthF p.f<=40
mutual
theorem my:∀ (s f:Fm) (c:Sco),PlOk ⟨s,f,c⟩->∀ p∈bE c s f,PlOk p
 | .mk o n a l,.mk o' n' a' l',c,h,p,hp=>by
  simp only[bE,List.mem_cons]at hp
  rcases hp with rfl | hp
  ·exact h
  ·have h1:=h.s
   have h2:=h.f
   have h3:=h.n
   have h4:=h.d
   simp only[okF,Bool.and_eq_true]at h1 h2
   simp only[nodesF,depthF]at h3 h4
   refine xj l l' _ h1.2.2.2.2 h2.2.2.2.2 ?_ (by omega) (by omega) p hp
   split
   ·rename_i hq
    intro x hx
    simp only[List.map_cons,List.mem_cons]at hx
    rcases hx with rfl | hx
    ·have:(rowOp o).2.2.1=2:=by
      simp only[bn,Bool.or_eq_true,beq_iff_eq]at hq
      rcases hq with rfl | rfl <;> decide
     have h5:=h1.2.1.1
     rw[this]at h5
     exact h5
    ·exact h.c x hx
   ·exact h.c
theorem xj:∀ (s f:List Fm) (c:Sco),cX true s=true->cX false f=true->VarsOk (c.map (·.1))->ah f<=400->aU f<=40->∀ p∈aT c s f,PlOk p
 | [],_,c,_,_,_,_,_,p,hp=>by simp[aT]at hp
 | _ :: _,[],c,_,_,_,_,_,p,hp=>by simp[aT]at hp
 | t :: l,u :: m,c,h1,h2,h3,h4,h5,p,hp=>by
  simp only[aT,List.mem_append]at hp
  simp only[cX,Bool.and_eq_true]at h1 h2
  simp only[ah,aU]at h4 h5
  rcases hp with hp | hp
  ·exact my t u c ⟨h1.1,h2.1,h3,by show nodesF u<=400;omega,by show depthF u<=40;omega⟩ p hp
  ·exact xj l m c h1.2 h2.2 h3 (by omega) (by omega) p hp
end
theorem BY {s f:Fm} (h:(fC s && bP f)=true):PlOk ⟨s,f,[]⟩:=by
 simp only[fC,bP,Bool.and_eq_true,decide_eq_true_eq]at h
 exact ⟨h.1.1,h.2.1,(by intro x hx;cases hx),h.2.2.1,h.2.2.2⟩
/-! order of names -/
theorem mz:∀ a:List UInt8,Op.bytesLess a a=false
 | []=>rfl
 | c :: a=>by simp[Op.bytesLess,mz a]
theorem rD:∀ a b c:List UInt8,Op.bytesLess a b=true->Op.bytesLess b c=true->Op.bytesLess a c=true
 | _,[],_,h,_=>by simp[Op.bytesLess]at h
 | _,_ :: _,[],_,h=>by simp[Op.bytesLess]at h
 | [],_ :: _,_ :: _,_,_=>rfl
 | x :: a,y :: b,z :: c,h1,h2=>by
  simp only[Op.bytesLess,Bool.or_eq_true,Bool.and_eq_true,decide_eq_true_eq,beq_iff_eq]at h1 h2 ⊢
  rcases h1 with h1 | ⟨rfl,h1⟩
  ·rcases h2 with h2 | ⟨rfl,h2⟩
   ·exact .inl (UInt8.lt_trans h1 h2)
   ·exact .inl h1
  ·rcases h2 with h2 | ⟨rfl,h2⟩
   ·exact .inl h2
   ·exact .inr ⟨rfl,rD a b c h1 h2⟩
theorem LY:∀ a b:List UInt8,Op.bytesLess a b=false->Op.bytesLess b a=false->a=b
 | [],[],_,_=>rfl
 | [],_ :: _,h,_=>by simp[Op.bytesLess]at h
 | _ :: _,[],_,h=>by simp[Op.bytesLess]at h
 | x :: a,y :: b,h1,h2=>by
  simp only[Op.bytesLess,Bool.or_eq_false_iff,Bool.and_eq_false_iff,decide_eq_false_iff_not,beq_eq_false_iff_ne]at h1 h2
  have hxy:x=y:=by
   apply UInt8.toNat_inj.1
   have a1:=h1.1
   have a2:=h2.1
   rw[UInt8.lt_iff_toNat_lt]at a1 a2
   omega
  subst hxy
  rw[LY a b (h1.2.resolve_left (fun h=>h rfl)) (h2.2.resolve_left (fun h=>h rfl))]
theorem xk (a b:Str) (h:a≠b) (h1:Op.bytesLess a b=false):Op.bytesLess b a=true:=by
 cases h2:Op.bytesLess b a
 ·exact absurd (LY a b h1 h2) h
 ·rfl
theorem lV {x:Str} {l:List Str}:dh (x :: l)=true ↔ (∀ y,l.head?=some y->Op.bytesLess x y=true)/\dh l=true:=by
 cases l with
 | nil=>simp[dh]
 | cons y r=>simp[dh]
theorem fY {α:Type}:∀ (l:List (Str×α)) (x:Str),getB l x=none ↔ x ∉ l.map (·.1)
 | [],x=>by simp[getB]
 | (y,v) :: r,x=>by
  unfold getB
  by_cases h:y == x
  ·simp only[h,↓reduceIte,reduceCtorEq,List.map_cons,List.mem_cons,false_iff]
   rw[beq_iff_eq]at h;exact fun h2=>h2 (.inl h.symm)
  ·simp only[h,Bool.false_eq_true,↓reduceIte,List.map_cons,List.mem_cons,not_or]
   rw[fY r x]
   constructor
   ·exact fun h2=>⟨fun e=>h (by rw[e];simp),h2⟩
   ·exact fun h2=>h2.2
theorem LZ {α:Type} (x:Str) (v:α) (l:List (Str×α)):∀ y,((gw x v l).map (·.1)).head?=some y->y=x\/(l.map (·.1)).head?=some y:=by
 intro y h
 cases l with
 | nil=>simp only[gw,List.map_cons,List.map_nil,List.head?_cons,Option.some.injEq]at h;exact .inl h.symm
 | cons z r=>
  obtain ⟨z,u⟩:=z
  unfold gw at h
  split at h
  ·simp only[List.map_cons,List.head?_cons,Option.some.injEq]at h;exact .inl h.symm
  ·simp only[List.map_cons,List.head?_cons,Option.some.injEq]at h;exact .inr (by simp[h])
theorem qE {α:Type} (x:Str) (v:α):∀ (l:List (Str×α)),x ∉ l.map (·.1)->dh (l.map (·.1))=true->dh ((gw x v l).map (·.1))=true
 | [],_,_=>by simp[gw,dh]
 | (y,u) :: r,hx,hs=>by
  simp only[List.map_cons,List.mem_cons,not_or]at hx
  unfold gw
  split
  ·rename_i h
   simp only[List.map_cons]at hs ⊢
   exact lV.2 ⟨fun z hz=>by simp only[List.head?_cons,Option.some.injEq]at hz;rw[<-hz];exact h,hs⟩
  ·rename_i h
   simp only[List.map_cons]at hs ⊢
   obtain ⟨h1,h2⟩:=lV.1 hs
   refine lV.2 ⟨fun z hz=>?_,qE x v r hx.2 h2⟩
   rcases LZ x v r z hz with rfl | hz
   ·exact xk _ _ hx.1 (by simpa using h)
   ·exact h1 z hz
theorem BZ {α:Type} (P:Str×α->Bool) (x:Str) (v:α):∀ (l:List (Str×α)),(gw x v l).all P=(P (x,v) && l.all P)
 | []=>by simp[gw]
 | (y,u) :: r=>by
  unfold gw
  split
  ·simp
  ·simp only[List.all_cons,BZ P x v r]
   cases P (y,u) <;> simp
def SH (l:List (Str×Fm)):Bool:=l.all (fun x=>dp x.1 && bP (bm x.2)) && dh (l.map (·.1))
def Gs (l:List (Str×Tm)):Bool:=l.all (fun x=>cG x.1 && iX false (aK x.2)) && dh (l.map (·.1))
theorem gI (b:Bd):bU b=true ↔ SH b.fs=true/\Gs b.ts=true:=by
 simp only[bU,SH,Gs,Bool.and_eq_true]
 constructor
 ·exact fun ⟨⟨a,b⟩,c,d⟩=>⟨⟨a,c⟩,b,d⟩
 ·exact fun ⟨⟨a,c⟩,b,d⟩=>⟨⟨a,b⟩,c,d⟩
theorem II {k:List (Str×Tm)} {n:Str} {t:Tm} (hk:Gs k=true) (hn:cG n=true) (ht:iX false (aK t)=true) (hg:getB k n=none):Gs (gw n t k)=true:=by
 simp only[Gs,Bool.and_eq_true]at hk ⊢
 exact pm311
theorem O_ {k:List (Str×Fm)} {n:Str} {t:Fm} (hk:SH k=true) (hn:dp n=true) (ht:bP (bm t)=true) (hg:getB k n=none):SH (gw n t k)=true:=by
 simp only[SH,Bool.and_eq_true]at hk ⊢
 exact pm311
theorem Gt {n:Str} {a:List Tm} (h:iX true (.mk true n a)=true) (hm:ea n=true):cG n=true:=by
 simp only[iX,↓reduceIte,Bool.true_and,Bool.and_eq_true,Bool.or_eq_true]at h
 rcases h.2 with h | h
 ·rw[LX h]at hm;cases hm
 ·exact h
mutual
theorem rE (sc:List Str):∀ (t u:Tm) (k k':List (Str×Tm)),iX true t=true->iX false (aK u)=true->Gs k=true->gT sc k t u=some k'->Gs k'=true
 | .mk v n a,.mk v' n' a',k,k',ht,hu,hk,h=>by
  unfold gT at h
  by_cases hm:(v && ea n)=true
  ·rw[if_pos hm]at h
   simp only[Bool.and_eq_true]at hm
   obtain ⟨rfl,hm⟩:=hm
   cases hg:getB k n with
   | none=>
    rw[hg]at h
    simp only[Option.some.injEq]at h
    subst h
    exact II hk (Gt ht hm) hu hg
   | some u=>
    rw[hg]at h
    simp only at h
    split at h
    ·cases h;exact hk
    ·cases h
  ·rw[if_neg hm]at h
   split at h
   ·split at h
    ·cases h;exact hk
    ·cases h
   ·split at h
    ·cases h
    ·rename_i hs hd
     simp only[Bool.or_eq_true,bne_iff_ne,ne_eq,not_or,Decidable.not_not]at hd
     obtain ⟨rfl,rfl,hl⟩:=hd
     cases v with
     | true=>
      simp only[iX,↓reduceIte,Bool.and_eq_true]at ht
      have:a=[]:=by simpa using ht.1
      subst this
      have:a'=[]:=List.length_eq_zero_iff.1 (by simpa using hl.symm)
      subst this
      simp only[dE,Option.some.injEq]at h
      rw[<-h];exact hk
     | false=>
      simp only[iX,Bool.false_eq_true,↓reduceIte,Bool.and_eq_true]at ht
      exact pY sc a a' k k' ht.2.2 (xh hu) hk h
theorem pY (sc:List Str):∀ (t u:List Tm) (k k':List (Str×Tm)),dO true t=true->dO false (bI u)=true->Gs k=true->dE sc k t u=some k'->Gs k'=true
 | [],u,k,k',_,_,hk,h=>by simp only[dE,Option.some.injEq]at h;rw[<-h];exact hk
 | _ :: _,[],k,k',_,_,hk,h=>by simp only[dE,Option.some.injEq]at h;rw[<-h];exact hk
 | t :: l,u :: m,k,k',ht,hu,hk,h=>by
  simp only[dE]at h
  simp only[dO,bI,Bool.and_eq_true]at ht hu
  cases h1:gT sc k t u with
  | none=>rw[h1]at h;cases h
  | some k1=>
   rw[h1]at h
   exact pY sc l m k1 k' ht.2 hu.2 (rE sc t u k k1 ht.1 hu.1 hk h1) h
end
theorem rF {c:Sco} (hc:VarsOk (c.map (·.1))):∀ (t u:List Tm) (k k':List (Str×Tm)),dO true t=true->dO false u=true->Gs k=true->gd c k t u=some k'->Gs k'=true
 | [],u,k,k',_,_,hk,h=>by simp only[gd,Option.some.injEq]at h;rw[<-h];exact hk
 | _ :: _,[],k,k',_,_,hk,h=>by simp only[gd,Option.some.injEq]at h;rw[<-h];exact hk
 | t :: l,u :: m,k,k',ht,hu,hk,h=>by
  simp only[gd]at h
  simp only[dO,Bool.and_eq_true]at ht hu
  cases h0:io c [] u with
  | none=>rw[h0]at h;cases h
  | some im=>
   rw[h0]at h
   simp only at h
   cases h1:gT (c.map (·.1)) k t im with
   | none=>rw[h1]at h;cases h
   | some k1=>
    rw[h1]at h
    exact rF hc l m k1 k' ht.2 hu.2 (rE _ t im k k1 ht.1 (BW hc [] u im hu.1 h0).1 hk h1) h
def Q' (step:Bd->Pl->Bd×Int):Prop:=∀ k p k',PlOk p->bU k=true->step k p=(k',0)->bU k'=true
theorem AK {p:Pl} (hp:PlOk p) {im:Fm} (h:fD p.c [] p.f=some im):bP (bm im)=true:=by
 obtain ⟨h1,h2,h3⟩:=wC hp.c p.f im [] hp.f h
 have h4:=jU im
 have h5:=hp.n
 have h6:=hp.d
 simp only[bP,Bool.and_eq_true,decide_eq_true_eq]
 exact ⟨h1,by omega,by omega⟩
theorem zW:Q' cm:=by
 intro k p k' hp hk h
 unfold cm at h
 split at h
 ·cases h;exact hk
 rename_i iE
 split at h
 ·rename_i lK
  cases hi:fD p.c [] p.f with
  | none=>rw[hi]at h;simp at h
  | some im=>
   rw[hi]at h
   simp only at h
   cases hg:getB k.fs p.s.n with
   | none=>
    rw[hg]at h
    simp only[Prod.mk.injEq,and_true]at h
    subst h
    obtain ⟨k1,k2⟩:=(gI k).1 hk
    refine (gI _).2 ⟨O_ k1 ?_ (AK hp hi) hg,k2⟩
    have hs:=hp.s
    obtain ⟨⟨o,n,a,s⟩,f,c⟩:=p
    simp only[Fm.op]at lK
    subst lK
    simp only[okF,Bool.and_eq_true]at hs
    exact hs.2.1.1
   | some g=>
    rw[hg]at h
    simp only at h
    split at h
    ·cases h;exact hk
    ·simp at h
 ·split at h
  ·simp at h
  ·rename_i hd
   cases ha:gd p.c k.ts p.s.a p.f.a with
   | none=>rw[ha]at h;simp at h
   | some ts=>
    rw[ha]at h
    simp only[Prod.mk.injEq,and_true]at h
    subst h
    obtain ⟨k1,k2⟩:=(gI k).1 hk
    refine (gI _).2 ⟨k1,rF hp.c _ _ _ _ ?_ ?_ k2 ha⟩
    ·have hs:=hp.s
     obtain ⟨⟨o,n,a,s⟩,f,c⟩:=p
     simp only[okF,Bool.and_eq_true]at hs
     exact hs.2.2.2.1
    ·have hs:=hp.f
     obtain ⟨s,⟨o,n,a,l⟩,c⟩:=p
     simp only[okF,Bool.and_eq_true]at hs
     exact hs.2.2.2.1
theorem m8 {p:Pl} (hp:PlOk p) (iE:p.s.op=16):∃x y:Str,p.s.a=[ap x,ap y]/\fQ x=true/\cG y=true/\bg p.s=(cH x,y):=by
 have hs:=hp.s
 obtain ⟨⟨o,n,a,s⟩,f,c⟩:=p
 simp only[Fm.op]at iE
 subst iE
 simp only[okF,Bool.and_eq_true,bne_self_eq_false,Bool.false_or]at hs
 have h1:=hs.2.2.1
 have h2:=hs.2.2.2.1
 unfold rp at h1
 split at h1
 ·rename_i x y
  obtain ⟨xv,xn,xa⟩:=x
  obtain ⟨yv,yn,ya⟩:=y
  simp only[Tm.v,Tm.n,Bool.and_eq_true]at h1
  obtain ⟨rfl,hx,rfl,hy⟩:=h1
  simp only[dO,iX,↓reduceIte,Bool.and_eq_true]at h2
  have e1:xa=[]:=by simpa using h2.1.1
  have e2:ya=[]:=by simpa using h2.2.1.1
  subst e1 e2
  exact ⟨xn,yn,rfl,hx,hy,rfl⟩
 ·cases h1
theorem Gu:Q' gP:=by
 intro k p k' hp hk h
 unfold gP at h
 by_cases iE:(p.s.op != 16)=true
 ·rw[if_pos iE]at h
  cases h;exact hk
 rw[if_neg iE]at h
 have zap:p.s.op=16:=by simpa using iE
 cases hg:getB k.fs p.s.n with
 | none=>rw[hg]at h;simp at h
 | some f=>
  rw[hg]at h
  simp only at h
  cases hi:fD p.c [] p.f with
  | none=>rw[hi]at h;simp at h
  | some im=>
   rw[hi]at h
   simp only at h
   by_cases h0:gF (bg p.s).1 f=0
   ·rw[if_pos h0]at h
    split at h
    ·cases h;exact hk
    ·simp at h
   ·rw[if_neg h0]at h
    cases ht:getB k.ts (bg p.s).2 with
    | some t=>
     rw[ht]at h
     simp only at h
     split at h
     ·simp at h
     ·split at h
      ·cases h;exact hk
      ·simp at h
    | none=>
     rw[ht]at h
     simp only at h
     cases hf:iZ f im (bg p.s).1 with
     | none=>rw[hf]at h;simp at h
     | some t=>
      rw[hf]at h
      simp only[Option.map_some]at h
      split at h
      ·simp at h
      ·split at h
       ·simp only[Prod.mk.injEq,and_true]at h
        subst h
        obtain ⟨k1,k2⟩:=(gI k).1 hk
        obtain ⟨x,y,_,_,hy,hn⟩:=m8 hp zap
        refine (gI _).2 ⟨k1,II k2 (by rw[hn];exact hy) (Ed (wC hp.c p.f im [] hp.f hi).1 hf) ht⟩
       ·simp at h
def Up (l:List Str):Prop:=l.Pairwise (fun x y=>Op.bytesLess x y=true)
theorem xm (x y:Str):∀ l,y∈vH x l ↔ y=x\/y∈l
 | []=>by simp[vH]
 | z :: l=>by
  have ih:=xm x y l
  unfold vH
  by_cases h:(x == z)=true
  ·rw[if_pos h]
   have:x=z:=by simpa using h
   subst this;simp
  ·rw[if_neg h]
   by_cases h2:Op.bytesLess x z=true
   ·rw[if_pos h2];simp
   ·rw[if_neg h2];simp[ih];grind
theorem IJ (x:Str):∀ l,Up l->Up (vH x l)
 | [],_=>by simp[vH,Up]
 | z :: l,h=>by
  have hl:Up l:=(List.pairwise_cons.1 h).2
  have hz:=(List.pairwise_cons.1 h).1
  have ih:=IJ x l hl
  unfold vH
  by_cases h1:(x == z)=true
  ·rw[if_pos h1];exact h
  ·rw[if_neg h1]
   by_cases h2:Op.bytesLess x z=true
   ·rw[if_pos h2]
    refine List.pairwise_cons.2 ⟨fun y hy=>?_,h⟩
    rcases List.mem_cons.1 hy with rfl | hy
    ·exact h2
    ·exact rD _ _ _ h2 (hz y hy)
   ·rw[if_neg h2]
    refine List.pairwise_cons.2 ⟨fun y hy=>?_,ih⟩
    rcases (xm x y l).1 hy with rfl | hy
    ·exact xk _ _ (by simpa using h1) (by simpa using h2)
    ·exact hz y hy
theorem qF (l:List Str):Up (de l):=by
 unfold de
 induction l with
 | nil=>simp[Up]
 | cons x l ih=>exact IJ x _ ih
theorem dj (y:Str) (l:List Str):y∈de l ↔ y∈l:=by
 unfold de
 induction l with
 | nil=>simp
 | cons x l ih=>simp only[List.foldr_cons,xm,ih,List.mem_cons]
theorem jf {l:List Str} (h:Up l):l.Nodup:=by
 refine List.Pairwise.imp ?_ h
 intro a b F8 e
 subst e
 rw[mz]at F8
 cases F8
theorem Gv:∀ l m:List Str,Up l->Up m->(∀ x,x∈l ↔ x∈m)->l=m
 | [],[],_,_,_=>rfl
 | [],y :: m,_,_,h=>by have:=(h y).2 (by simp);cases this
 | x :: l,[],_,_,h=>by have:=(h x).1 (by simp);cases this
 | x :: l,y :: m,hl,hm,h=>by
  have hx:=(List.pairwise_cons.1 hl).1
  have hy:=(List.pairwise_cons.1 hm).1
  have hxy:x=y:=by
   by_cases e:x=y
   ·exact e
   ·have h1:=(h x).1 (by simp)
    have h2:=(h y).2 (by simp)
    rcases List.mem_cons.1 h1 with h1 | h1
    ·exact absurd h1 e
    ·rcases List.mem_cons.1 h2 with h2 | h2
     ·exact h2.symm
     ·have a:=hx y h2
      have b:=hy x h1
      have c:=rD _ _ _ a b
      rw[mz]at c;cases c
  subst hxy
  refine congrArg _ (Gv l m (List.pairwise_cons.1 hl).2 (List.pairwise_cons.1 hm).2 (fun z=>?_))
  constructor
  ·intro hz
   rcases List.mem_cons.1 ((h z).1 (List.mem_cons_of_mem _ hz)) with e | e
   ·subst e;have:=hx z hz;rw[mz]at this;cases this
   ·exact e
  ·intro hz
   rcases List.mem_cons.1 ((h z).2 (List.mem_cons_of_mem _ hz)) with e | e
   ·subst e;have:=hy z hz;rw[mz]at this;cases this
   ·exact e
theorem xq {ss xs:List Str} (hp:ss.Perm (de xs)):ss.mergeSort (fun x y=>decide (x<=y))=de xs:=by
 have Q_:=List.mergeSort_perm ss (fun x y=>decide (x<=y))
 refine Gv _ _ ?_ (qF xs) (fun x=>by rw[Q_.mem_iff,hp.mem_iff])
 have zX:(ss.mergeSort (fun x y=>decide (x<=y))).Nodup:=(Q_.trans hp).nodup_iff.2 (jf (qF xs))
 have hs:(ss.mergeSort (fun x y=>decide (x<=y))).Pairwise (fun x y=>decide (x<=y)=true):=List.pairwise_mergeSort (fun a b c h1 h2=>by simp at h1 h2 ⊢;exact List.le_trans h1 h2) (fun a b=>by simp;exact List.le_total a b) ss
 refine (hs.and zX).imp ?_
 rintro a b ⟨h1,h2⟩
 refine xk b a (fun e=>h2 e.symm) ?_
 rw[bytesLess_eq]
 simp at h1 ⊢
 exact h1
end Go.Proofs.YtokemihbkeddoaaGreatDoor
namespace Go.Proofs
open Go.RowKit Go.Maps Go.Sort Go.Shelf
shelf_lay_g SlLaysZ.n7 Ggz 7 at Tryz 75 as Tryz.keysA
shelf_lay_g SlLaysZ.n6 Ggz 6 at Tryz 74 as Tryz.sortedA
theorem Tryz.sortsA (m:Nat):AnyZ.SortsIn Tryz.prog Tryz.sortedA_ren Fence.wide m:=
 ⟨fun blk off cap ss W hH zaq hsz=>callsIn_wide.2 (Tryz.slices_Sort_string blk off cap ss W hH zaq hsz),
  fun p cap W=>callsIn_wide.2 (Tryz.slices_Sort_string_none p cap W)⟩
end Go.Proofs
namespace Go.Proofs.YtokemihbkeddoaaGreatDoor
open Go Go.RowKit Go.Maps Go.Sort Go.Shelf
def RowS (lo:Nat) (W:World) (v:Value) (l:List Str):Prop:=W.ownsRow lo 9 1 v l.length (l.map encStr)/\(v=.slice none 0 0 ↔ l=[])
theorem Ee (mb:Option Nat) (W:World):Calls Tryz.prog 75 #[.map mb] W fun e w'=>e=.returned (.func (.func 135) #[] #[.pointer (some ⟨W.heap.size,0,none⟩)])/\w'=W.alloc (.cells #[.map mb] 118):=
 callsIn_wide.1 (AnyZ.keys_in Tryz.keysA Fence.wide 5 trivial rfl mb W)
theorem xr (m n:Nat) (xs:List Str) (hn:n<=2000000) (W:World) (hs:SetW W m n xs) :
  Calls Tryz.prog 74 #[.func (.func 135) #[] #[.pointer (some ⟨W.heap.size,0,none⟩)]] (W.alloc (.cells #[.map (some m)] 118)) fun e w'=>∃v,e=.returned v/\RowS W.heap.size w' v (de xs)/\Below W.heap.size W w':=by
 obtain ⟨D0,aC,w_,_⟩:=hs
 have Vk:=aC.lt
 have hsz:=aC.size_le
 have mR:SeqGives Fence.wide 2 Tryz.prog 135 #[.pointer (some ⟨W.heap.size,0,none⟩)] encStr (fun ss=>ss.Perm (strKeys D0)) (Maps.size D0) (W.alloc (.cells #[.map (some m)] 118)):=
  AnyZ.keys_gives (ρ:=Tryz.keysA_ren) { Tryz.keysA with } Fence.wide _ trivial rfl (by omega) W.heap.size m n D0 _ (by simp) (by simp) (aC.alloc _)
 have cS:=AnyZ.sorted_in Tryz.sortedA Fence.wide 5 trivial trivial trivial trivial rfl (by omega) (Tryz.sortsA _) (enters_of Tryz.func134 (by kernel_rfl) rfl) 135 #[.pointer (some ⟨W.heap.size,0,none⟩)] trivial (enters_of Tryz.func135 (by kernel_rfl) rfl) _ _ (by unfold maxLen;omega) (by omega) _ mR
 have pp213:=();exact pm213
mutual
theorem lm:∀ t:Tm,(aI t).length<=nodesT t
 | .mk v n a=>by
  have:=AL a
  unfold aI nodesT
  cases v <;> simp <;> omega
theorem AL:∀ l:List Tm,(ar l).length<=ac l
 | []=>by simp[ar]
 | t :: l=>by
  have h1:=lm t
  have h2:=AL l
  unfold ar ac
  simp;omega
end
mutual
theorem ln {p:Nat}:∀ t:Tm,iS p t=true->∀ x∈aI t,x.length<=p
 | .mk v n a,h,x,hx=>by
  have pp295a:=();exact pm295
theorem mC {p:Nat}:∀ l:List Tm,dF p l=true->∀ x∈ar l,x.length<=p
 | [],_,x,hx=>by simp[ar]at hx
 | t :: l,h,x,hx=>by
  simp only[dF,Bool.and_eq_true]at h
  unfold ar at hx
  rcases List.mem_append.1 hx with hx | hx
  ·exact ln t h.1 x hx
  ·exact mC l h.2 x hx
end
theorem kE (t:Tm) (aD:fitT t) (ok:Nat->Prop) (w:World) (q:TQ) (hq:TermV ok w q.val t) :
  Calls Tryz.prog 166 #[q.val] w fun e w'=>(∃v,e=.returned v/\RowS w.heap.size w' v (de (aI t)))/\RowKit.Below w.heap.size w w':=by
 have hq:=hq.lt
 have nM:=Nat.le_trans (lm t) aD.1
 obtain ⟨W2,aY⟩:=ao ((w.alloc (.cells #[.bool q.v,.string q.n,.slice q.a q.l q.c] 43)).alloc (.cells #[.bool q.v,.string q.n,.slice q.a q.l q.c] 43))
 have bA:RowKit.Below w.heap.size w W2:=by rw[aY];exact ct.alloc (by simp) _
 have hO:=vE aY
 have pi:=iV aY
 have C2:=BU (aI t) nM (ln t aD.2) 270 #[.pointer (some ⟨w.heap.size+1,0,none⟩)] W2 (enters_of Tryz.func270 (by kernel_rfl) rfl) (fun w1 hb hl=>zV t aD (fun b=>b=W2.heap.size) W2.heap.size (w.heap.size+1) w1 q (bC hb pi) (by omega) ((hq.later (bA.trans (hb.mono bA.size))).move (fun b zar hlt=>⟨⟨by omega,by omega⟩,rfl⟩)))
 have pp268:=();exact pm268
end Go.Proofs.YtokemihbkeddoaaGreatDoor
