/-
Maps keyed by names whose values are kept as they are.
-/
import Derived.Test.YtokemihbkeddoaaGreatDoorU03
namespace Go.Proofs.YtokemihbkeddoaaGreatDoor
open Go Go.RowKit Lib
set_option maxRecDepth 100000
set_option maxHeartbeats 64000000
variable {W' w:World} {x:Str} {t e T:TypeId} {v:Value} {b c j lo i:Nat} {o:Oper} {a:Option Addr} {Q:Exit->Act->World->Prop} {ok:Nat->Prop} {xs:List Str} {ops:Array Oper} {rest:List Oper}
def Ks:Value->Option (DataW Value×List MemPlace):=fun v=>some (.held v,[])
def MapV (P:Program) (k:TypeId) {α:Type} (V:Value->α->Prop) (W:World) (m n:Nat) (l:List (Str×α)):Prop:=
 ∃D:DataW Value,W.ownsMap P k Ks m n D/\∀ x:Str,(getB l x=none->Maps.has D (.string x)=false)/\∀ a,getB l x=some a->Maps.has D (.string x)=true/\∃v,(∀ d,D.atKey (.string x) d=.held v)/\V v a
section
variable {P:Program} {k:TypeId} {α:Type} {V:Value->α->Prop} {W:World} {m n:Nat} {l:List (Str×α)}
theorem MapV.lt (h:MapV P k V W m n l):m<W.heap.size:=by obtain ⟨D,h,_⟩:=h;exact h.lt
theorem MapV.move {V':Value->α->Prop} (h:MapV P k V W m n l) (hb:W'.heap[m]?=W.heap[m]?) (hV:∀ x v a,getB l x=some a->V v a->V' v a):MapV P k V' W' m n l:=by
 obtain ⟨D,⟨es,yq,h1,F,h2,h3⟩,hx⟩:=h;refine ⟨D,⟨es,yq,hb.trans h1,F,h2,h3⟩,fun x=>⟨(hx x).1,fun a ha=>?_⟩⟩;obtain ⟨h4,v,h5,h6⟩:=(hx x).2 a ha;exact ⟨h4,v,h5,hV x v a ha h6⟩
theorem MapV.made (w:World):MapV P k V (w.alloc (.map #[] 0)) w.heap.size 0 []:=
 ⟨_,World.ownsMap_made w _ _ _,fun x=>⟨fun _=>by simp[Maps.has],fun a ha=>by simp[getB]at ha⟩⟩
theorem vd (hk:P.underlying k=some .string) (hx:x.length<=2000000):keyOf P k (.string ⟨x.toArray⟩)=some (.string x):=by
 have h:(⟨x.toArray⟩:ByteArray).size<=maxLen:=by have e:(⟨x.toArray⟩:ByteArray).size=x.length:=rfl;rw[e];unfold maxLen;omega
 rw[WideMaps.keyOf_string_mk hk h]
theorem MapV.look (h:MapV P k V W m n l) (hk:P.underlying k=some .string) (ht:P.underlying t=some (.map k e)) {z:Value} (hz:∀ W,(zeroValue e).run P W=.ok z W) (hx:x.length<=2000000) :
  (getB l x=none/\(∀ W',W'.heap[m]?=W.heap[m]?->(Instr.lookup t (.map (some m)) (.string ⟨x.toArray⟩) true).run P W'=.ok (.tuple #[z,.bool false]) W'/\(Instr.lookup t (.map (some m)) (.string ⟨x.toArray⟩) false).run P W'=.ok z W')) ∨
  (∃a v,getB l x=some a/\V v a/\∀ W',W'.heap[m]?=W.heap[m]?->(Instr.lookup t (.map (some m)) (.string ⟨x.toArray⟩) true).run P W'=.ok (.tuple #[v,.bool true]) W'/\(Instr.lookup t (.map (some m)) (.string ⟨x.toArray⟩) false).run P W'=.ok v W'):=by
 obtain ⟨D,⟨es,yq,hb,F,hs,hD⟩,o9⟩:=h;have Lu:=vd hk hx;have K:=Maps.string_keyed hk
 cases hg:getB l x with
 | none=>
  left;refine ⟨rfl,fun W' hW=>?_⟩;have h0:=(o9 x).1 hg;have h1:∀ c,(Instr.lookup t (.map (some m)) (.string ⟨x.toArray⟩) c).run P W'=.ok (if c then .tuple #[z,.bool false] else z) W':=fun c=>by
   rcases Maps.fit_look c K ht (hz W') (hW.trans hb) F Lu with ⟨hr,_⟩ | ⟨e0,y,_,_,_,_,hat,_⟩
   ·exact hr
   ·rw[<-hD]at hat;rw[Maps.has_true_of_atKey hat]at h0;cases h0
  exact ⟨h1 true,h1 false⟩
 | some a=>
  right;obtain ⟨h4,v,h5,h6⟩:=(o9 x).2 a hg;refine ⟨a,v,rfl,h6,fun W' hW=>?_⟩;have h1:∀ c,(Instr.lookup t (.map (some m)) (.string ⟨x.toArray⟩) c).run P W'=.ok (if c then .tuple #[v,.bool true] else v) W':=fun c=>by
   rcases Maps.fit_look c K ht (hz W') (hW.trans hb) F Lu with ⟨_,_,hat⟩ | ⟨e0,y,_,_,hr,hR,hat,_⟩
   ·rw[<-hD]at hat;rw[Maps.has_false_of_atKey hat]at h4;cases h4
   ·rw[<-hD]at hat;have:=(hat .nil).symm.trans (h5 .nil);unfold Ks at hR;cases hR;simp at this;rw[<-this];exact hr
  exact ⟨h1 true,h1 false⟩
theorem MapV.store (h:MapV P k V W m n l) (hk:P.underlying k=some .string) (ht:P.underlying t=some (.map k e)) (hn:n<4000000) (hx:x.length<=2000000) {a:α} {l':List (Str×α)} {V':Value->α->Prop}
  (hv:V' v a) (hV:∀ y v b,y≠x->getB l y=some b->V v b->V' v b) (hl:∀ y,getB l' y=if y=x then some a else getB l y) :
  ∃w',(Instr.mapUpdate t (.map (some m)) (.string ⟨x.toArray⟩) v).run P W=.ok () w'/\MapV P k V' w' m (n+1) l'/\W.grownBy w' (some m)/\w'.heap.size=W.heap.size:=by
 obtain ⟨D,au,o9⟩:=h;have Lu:=vd hk hx;have K:=Maps.string_keyed hk;obtain ⟨w',hr,ho,ht2⟩:=au.store K ht (by unfold maxLen;omega) Lu (val:=v) (d:=.held v) (ps:=[]) rfl;refine ⟨w',hr,⟨_,ho,fun y=>?_⟩,ht2.grown,?_⟩
 ·rw[hl y]
  by_cases hy:y=x
  ·subst hy;rw[aH rfl];refine ⟨fun h=>(by cases h),fun b hb=>?_⟩;cases hb;refine ⟨Maps.has_put_same au.isMap (by simp[WideAt.IsKeyLit]) _,v,fun d=>Maps.atKey_put_same au.isMap (by simp[WideAt.IsKeyLit]) _ _,hv⟩
  ·rw[aw hy];have i9:(Lit.string y)≠.string x:=fun e=>hy (by injection e);refine ⟨fun h=>?_,fun b hb=>?_⟩
   ·rw[Maps.has_put_other i9];exact (o9 y).1 h
   ·obtain ⟨h4,u,h5,h6⟩:=(o9 y).2 b hb;exact ⟨by rw[Maps.has_put_other i9];exact h4,u,fun d=>by rw[Maps.atKey_put_other i9];exact h5 d,hV y u b hy hb h6⟩
 ·obtain ⟨es,yq,Q6,U3,hb,rfl⟩:=ht2;simp[ChangeMaps.setBlock]
end
structure Later (W:World) where
 w:World
 below:Below W.heap.size W w
instance Later.inhab (W:World):Nonempty (Later W):=⟨⟨W,ak _ _⟩⟩
theorem Later.cell {W:World} (x:Later W) {o:Nat} (h:b<W.heap.size):x.w.cell? ⟨b,o,none⟩=W.cell? ⟨b,o,none⟩:=x.below.cell (p:=⟨b,o,none⟩) h
theorem Later.get {W:World} {a:Addr} (h:W.cell? a=some v) (x:Later W):x.w.cell? a=some v:=aa x.below h
theorem cA {P:Program} {f:FuncId} {args:Array Value} {W:World} {x:Later W}
  (h:Calls P f args x.w fun e w'=>e=.returned v/\Below x.w.heap.size x.w w'):Calls P f args x.w fun e Dr=>e=.returned v/\∃y:Later W,Dr=y.w:=
 h.mono fun _ Dr ⟨he,hb⟩=>⟨he,⟨Dr,x.below.trans (hb.mono x.below.size)⟩,rfl⟩
theorem aS {P:Program} {id:Nat} {a:Act} {l:List Oper} (hm:P.follows .mixedOrders=true) (hB:Region.lexB .any l.toArray=true)
  (h:wpQuiet P l.toArray (fun w'=>∃x:Later w,w'=x.w) (fun a'=>∀ w',(∃x:Later w,w'=x.w)->Q .normal a' w') l a):(Code.region id l.toArray true).wp P Q a w:=
 wp_region_quiet (C:=fun w'=>∃x:Later w,w'=x.w) hm hB ⟨⟨{ w with drawn:=w.drawn+1 },⟨rfl,rfl,rfl,aI _,fun _ _=>rfl⟩⟩,rfl⟩ (by simpa using h)
def StrsV (W:World) (v:Value) (l:List Str):Prop:=∃a cap,v=.slice a l.length cap/\l.length<=cap/\(l=[]\/∃b off,a=some ⟨b,off,none⟩/\∀ j (h:j<l.length),W.cell? ⟨b,off+j,none⟩=some (.string ⟨l[j].toArray⟩))
theorem StrsV.later {W:World} {l:List Str} (h:StrsV W v l) (hb:Below W.heap.size W W'):StrsV W' v l:=by
 exact pm110
theorem StrsV.len {W:World} {n:Nat} {l:List Str} (h:StrsV W (.slice a n c) l):n=l.length:=by
 obtain ⟨a',cap,hv,_⟩:=h;injection hv
theorem StrsV.get {W:World} {n:Nat} {l:List Str} (h:StrsV W (.slice a n c) l) (hj:j<l.length) :
  ∃b off,a=some ⟨b,off,none⟩/\∀ j (h:j<l.length),W.cell? ⟨b,off+j,none⟩=some (.string ⟨l[j].toArray⟩):=by
 have pp245a:=();exact pm245
theorem DS {l:List Str} {k:Nat} (h:k+1<l.length):dz (l.drop k)=(Op.bytesLess l[k] l[k+1] && dz (l.drop (k+1))):=by
 rw[fO (by omega:k<l.length),fO h,dz,<-fO h]
theorem FT {l:List Str} {k:Nat} (h:l.length<=k+1):dz (l.drop k)=true:=by
 have hl:(l.drop k).length<=1:=by rw[List.length_drop];omega
 match hd:l.drop k with
 | []=>rfl
 | [x]=>rfl
 | _ :: _ :: _=>rw[hd]at hl;simp at hl
theorem tf (l:List Str) (cm:l.length<=1000000000) (w:World) (v:Value) (hv:StrsV w v l) :
  Calls Tryz.prog 70 #[v] w fun e w'=>e=.returned (.bool (dz l))/\Below w.heap.size w w':=by
 obtain ⟨a,n,c,rfl⟩:∃a n c,v=.slice a n c:=by obtain ⟨a,c,h,_⟩:=hv;exact ⟨_,_,_,h⟩
 obtain rfl:=hv.len;obtain ⟨n0,sd⟩:=am l.length;obtain ⟨R,hR⟩:=am (dz l);rw[<-sd]at cm;rw[<-sd,<-hR];obtain ⟨HN,HV,HR⟩:=cG sd hv hR;clear sd hv hR;go_enter Tryz.func70,Tryz.ntmps70;go_wp2;go_loopw [3] (fun i wr=>∃k:Nat,(k=0\/k<n0)/\i=.int .i64 ((k:Int)+1)/\Below w.heap.size w wr/\R=dz (l.drop k)) (fun i _=>n0 - (intOf i).toNat)
 case atStart=>exact ⟨0,.inl rfl,rfl,ak _ _,by simpa using HR.o⟩
 case round=>
  obtain ⟨k,hk,rfl,ar,ht⟩:=hrel
  by_cases hlt:k+1<n0
  ·have bp:k+1<l.length:=by rw[<-HN.o];exact hlt
   obtain ⟨b,off,rfl,hc⟩:=HV.o.get bp;have c0:=aa ar (hc k (by omega));have c1:=aa ar (hc (k+1) bp);rw[DS bp]at ht;obtain ⟨x,hx⟩:=am (l[k]);obtain ⟨y,hy⟩:=am (l[k+1]);rw[<-hx]at ht c0;rw[<-hy]at ht c1;have f0:=fun z:Later wr=>z.get c0;have f1:=fun z:Later wr=>z.get c1;have E7:(k:Int)+1<(n0:Int):=by omega
   obtain ⟨HB,HT⟩:=a_ ar ht;clear ar ht hc c0 c1 hx hy;have pp70a:=();exact pm70
  ·have HE:=ae (show R=true by rw[ht];exact FT (by rw[<-HN.o];omega));have HB:=ae ar;have zbN:decide ((k:Int)+1<(n0:Int))=false:=by simp;omega
   clear ar ht;go_wp2;go_ret;exact ⟨aO HE.o.symm,HB.o⟩
section
attribute [local go_sem] Oper.semAt_some
def StrsO (ok:Nat->Prop) (W:World) (v:Value) (l:List Str):Prop:=∃a cap,v=.slice a l.length cap/\l.length<=cap/\(l=[]\/∃b off,a=some ⟨b,off,none⟩/\ok b/\∀ j (h:j<l.length),W.cell? ⟨b,off+j,none⟩=some (.string ⟨l[j].toArray⟩))
theorem StrsO.get {W:World} {n:Nat} {l:List Str} (h:StrsO ok W (.slice a n c) l) (hj:j<l.length) :
  ∃b off,a=some ⟨b,off,none⟩/\ok b/\W.cell? ⟨b,off+j,none⟩=some (.string ⟨l[j].toArray⟩):=by
 have pp245b:=();exact pm245
theorem StrsO.len {W:World} {n:Nat} {l:List Str} (h:StrsO ok W (.slice a n c) l):n=l.length:=by
 obtain ⟨_,_,hv,_⟩:=h;injection hv
theorem StrsO.slice {W:World} {l:List Str} (h:StrsO ok W v l):∃a c,v=.slice a l.length c:=by obtain ⟨a,c,hv,_⟩:=h;exact ⟨a,c,hv⟩
theorem StrsO.move {ok':Nat->Prop} {W:World} {l:List Str} (h:StrsO ok W v l) (hb:dW ok ok' W W'):StrsO ok' W' v l:=by
 have pp231a:=();exact pm231
theorem StrsO.later {W:World} {l:List Str} (h:StrsO ok W v l) (hb:Below W.heap.size W W'):StrsO ok W' v l:=h.move (dm hb)
theorem StrsO.any {W:World} {l:List Str} (h:StrsO ok W v l):StrsV W v l:=by
 have pp231b:=();exact pm231
theorem RowS.strs {W:World} {l:List Str} (h:RowS lo W v l):StrsO (lo<=·) W v l:=by
 obtain ⟨⟨hl,h1⟩,_⟩:=h;exact pm88
theorem Iv (a:Option Addr) (n c:Nat) (w:World) :
  Calls Tryz.prog 199 #[.slice a n c] w fun e w'=>e=.returned (.func (.func 249) #[] #[.pointer (some ⟨w.heap.size,0,none⟩)])/\w'=w.alloc (.cells #[.slice a n c] 66):=by
 go_enter Tryz.func199,Tryz.ntmps199;go_wp2;go_ret;exact ⟨rfl,rfl⟩
theorem FU {α:Type} {l:List α} {k:Nat} (h:k<l.length):(l.take k ++ [l[k]]) <+: l:=by
 rw[<-mt h];exact List.take_prefix _ _
theorem Iw (xs:List Str) (hl:xs.length<=2000000) (M:Nat->Prop) (X:Nat) (w:World) (a:Option Addr) (c:Nat) (hX:w.heap[X]?=some (.cells #[.slice a xs.length c] 66 (0,0))) (Hj:¬M X) (hv:StrsO (fun b=>¬M b) w (.slice a xs.length c) xs) :
  Hx M False Tryz.prog 249 #[.pointer (some ⟨X,0,none⟩)] xs yp w:=by
 intro l J Jx W hk hM hlt X7 hJ _ hY hj;have QA:=(bz hX);have xf:=(hk.same X QA Hj).trans hX;have c0:W.cell? ⟨X,0,none⟩=some (.slice a xs.length c):=ai xf 0;have hv:=hv.move (W':=W) (ok':=fun b=>¬M b) (fun b hb hlt=>⟨hb,hk.same b hlt hb⟩);obtain ⟨n0,sd⟩:=am xs.length;rw[<-sd]at c0 hl hv;obtain ⟨HN,HV,HY⟩:=cG sd hv hY;have HJ0:=ae (show J (xs.take 0) W from hj);clear hX Hj hv hY hj sd xf hk hM hlt X7 hJ QA;refine ml Tryz.func249 ?_;simp only[Tryz.ntmps249,Nat.reduceAdd,Nat.reduceSub,kM];have g_:=eM;gi_wp2;gi_loopw [7] (fun i wr=>∃k:Nat,k<=n0/\i=.int .i64 k/\J (xs.take k) wr/\Kp M W wr) (fun i _=>n0 - (intOf i).toNat)
 case atStart=>exact ⟨0,bc _,rfl,HJ0.o,Kp.refl _⟩
 case round=>
  obtain ⟨k,hk,rfl,hj,bh⟩:=hrel
  by_cases hlt:k<n0
  ·have bp:=cF HN.o hlt;obtain ⟨b,off,rfl,iK,c1⟩:=HV.o.get bp;have d1:=bh.cell iK c1;obtain ⟨x,hx⟩:=am (xs[k]);rw[<-hx]at d1;have fX:xs.take (k+1)=xs.take k ++ [x]:=by rw[hx];exact mt bp
   have sN:=HY.o (xs.take k) #[.string ⟨x.toArray⟩] x wr hj bh rfl (by rw[hx];exact FU bp);obtain ⟨fn,tmps,assign,body,hy,FC⟩:=jl 2 sN;obtain ⟨tg,kf⟩:=a_ fX bh;clear fX bh hj sN c1 hx;gi_wp2;refine FC.mono ?_;rintro e W2 (⟨rfl,wd,io⟩ | ⟨h,_⟩)
   ·have HH:=aG wd io;clear wd io FC hy d1;gi_wp2;go_roundw
    case rel=>exact ⟨k+1,by omega,by go_num,by rw[tg.o];exact HH.o.1,kf.o.trans HH.o.2⟩
    case measure=>simp[intOf];omega
   ·exact h.elim
  ·obtain rfl:n0=k:=by omega
   have ht:xs.take n0=xs:=by rw[HN.o];exact cV
   rw[ht]at hj;have HH:=aG hj bh;clear hj bh ht;gi_wp2;exact ⟨rfl,.tuple #[],by simp[results,Tryz.results249,go_sem],⟨_,rfl⟩,.inl HH.o⟩
theorem sf {H:Type} {P:Program} (he:P.underlying e=some .bool) {z:DataW H×List MemPlace} (h:plainElem P e v=some z) {x:Bool} (hx:z.1=.lit (.bool x)):v=.bool x:=by
 unfold plainElem at h;rw[he]at h;cases v <;> simp at h
 subst h;simp at hx;rw[hx]
theorem SetW.look {W:World} {m n:Nat} (h:SetW W m n xs) (hx:x.length<=2000000) :
  ∀ W':World,W'.heap[m]?=W.heap[m]?->(Instr.lookup 118 (.map (some m)) (.string ⟨x.toArray⟩) false).run Tryz.prog W'=.ok (.bool (xs.contains x)) W':=by
 obtain ⟨D,⟨es,yq,hb,F,hs,hD⟩,yr,xk⟩:=h;intro W' hW;have hz:(zeroValue 4).run Tryz.prog W'=.ok (.bool false) W':=by kernel_rfl
 rcases Maps.fit_look false (Maps.string_keyed Tryz.underlying9) Tryz.underlying118 hz (hW.trans hb) F (vd Tryz.underlying9 hx) with ⟨hr,_,hat⟩ | ⟨e0,y,_,_,hr,hR,hat,_⟩
 ·rw[<-hD]at hat;have h0:=Maps.has_false_of_atKey hat;have hn:¬x∈xs:=fun hm=>by rw[(yr x).2 hm]at h0;cases h0
  rw[hr];simp[hn]
 ·rw[<-hD]at hat;have hm:=(yr x).1 (Maps.has_true_of_atKey hat);have h1:=(hat .nil).symm.trans (xk x hm .nil);have h2:=sf Tryz.underlying4 hR h1;rw[hr,h2];simp[hm]
def Ze (W:World) (v:Value) (FV:List (List Str)):Prop:=∃b off cap,v=.slice (some ⟨b,off,none⟩) FV.length cap/\∀ j (h:j<FV.length),∃m n,W.cell? ⟨b,off+j,none⟩=some (.map (some m))/\SetW W m n FV[j]
theorem wl {W:World} {m n:Nat} (h:SetW W m n xs) (hb:Below W.heap.size W W'):SetW W' m n xs:=h.same (hb.block m h.lt)
theorem LA {n:Nat} (h:n<10 ^ 15):(gO n).length<=16:=by
 unfold gO;have:=DR 20 n 15 h (by omega);simp;omega
theorem FW (w:World) (k:Nat) (os:Array Obj):Below w.heap.size w (Go.Sort.grow (w.drewN k) os):=
 ⟨rfl,rfl,rfl,by simp[Go.Sort.grow],fun b hb=>by simp only[Go.Sort.grow,World.drewN];rw[Array.getElem?_append_left hb]⟩
theorem NK (W0 w:World) (hT:Tabs W0 w) (k:Nat) (hk:k<1000000000):Calls Tryz.prog 219 #[.int .i64 (k:Int)] w fun e w'=>e=.returned (.string ⟨(Lib.itoa (k:Int)).toArray⟩)/\Below w.heap.size w w':=by
 refine (Tryz.strconv_Itoa (k:Int) (by omega) (by omega) w hT.t0.pow).mono ?_;rintro e w' ⟨rfl,n,os,rfl⟩;exact ⟨rfl,FW _ _ _⟩
theorem LC (W0 w:World) (hT:Tabs W0 w) (v:Value) (FV:List (List Str)) (cm:FV.flatten.length<=100000000) (mY:FV.length<=2000000) (hv:Ze w v FV) :
  Calls Tryz.prog 156 #[v] w fun e w'=>e=.returned (.string ⟨(dL FV.flatten).toArray⟩)/\Below w.heap.size w w':=by
 obtain ⟨b,off,cap,rfl,ek⟩:=hv;obtain ⟨T,hTt⟩:=am FV.flatten;rw[<-hTt]at cm ⊢;obtain ⟨k0,cg⟩:=am FV.length;rw[<-cg]at mY ⊢;obtain ⟨HT,mh,dB,sg⟩:=eW hT hTt cg ek;clear hT hTt cg ek;go_enter Tryz.func156,Tryz.ntmps156;go_wp2;go_step3;go_wp2;go_step3;go_wp2;go_loopg [3] (T.length+2) (fun g i wr=>∃k:Nat,k+g=T.length+2/\i=.int .i64 k/\(∀ j,1<=j->j<k+1->gO j∈T)/\Below w.heap.size w wr)
 case atStart=>exact ⟨0,by omega,rfl,fun j h1 h2=>by omega,ak _ _⟩
 case round=>
  obtain ⟨k,hkg,rfl,ew,hB⟩:=hrel;have hkT:=Iu (t:=T) (by omega) ew
  cases gk with
  | zero=>omega
  | succ g1=>
   have CI:=NK W0 wr (HT.o.next hB) (k+1) (by omega);have uW:=LA (n:=k+1) (by omega);have Zf:=It (n:=k+1) (by omega);obtain ⟨nm,dG⟩:=am (gO (k+1));rw[<-dG]at uW Zf;obtain ⟨dg,hdg⟩:∃dg:List UInt8,dg=Lib.itoa ((k+1:Nat):Int):=⟨_,rfl⟩;rw[<-hdg]at CI Zf;have hsx:∀ W,(Op.stringOp .add ⟨#[120]⟩ ⟨dg.toArray⟩).run Tryz.prog W=.ok (.string ⟨nm.toArray⟩) W:=fun W=>by
    rw[run_string_add_sum W _ _ (by rw[Zf]at uW;simp at uW;have e:(⟨#[120]⟩:ByteArray).size=1:=rfl;have e2:(⟨dg.toArray⟩:ByteArray).size=dg.length:=rfl;rw[e,e2];omega),Zf];congr 2
   obtain ⟨S',Ih,HXl,Zg,HB⟩:=wV CI dG uW ew hB;clear CI dG uW Zf hdg ew hB;go_wp2_with (go_at_call 219;refine S'.o.mono ?_;rintro e w2 ⟨rfl,bD⟩;have cO:=ae (HB.o.trans (bD.mono HB.o.size));clear bD);go_loopg [14] k0 (fun g i wr=>∃j:Nat,j+g=k0/\i=.int .i64 j/\(∀ (q:Nat) (hq:q<FV.length),q<j->nm ∉ FV[q])/\wr=w2)
   case atStart=>exact ⟨0,by omega,rfl,fun q hq h=>by omega,rfl⟩
   case round=>
    obtain ⟨j,hjg,rfl,Hw,rfl⟩:=hrel
    cases gk with
    | zero=>
     obtain rfl:j=k0:=by omega
     have HE:=ae (show dL T=nm by
      rw[Ih.o];refine FR (by omega) (by omega) ?_ Zg.o;rw[<-Ih.o,mh.o];intro hm;obtain ⟨l,hl,hx⟩:=List.mem_flatten.1 hm;obtain ⟨q,hq,rfl⟩:=List.getElem_of_mem hl;exact Hw q hq (by rw[dB.o];exact hq) hx)
     clear Hw;go_wp2;rw[Exit.noGoto_ret];go_ret;exact ⟨by rw[HE.o];rfl,cO.o⟩
    | succ g=>
     have le:j<FV.length:=by rw[<-dB.o];omega
     obtain ⟨m,n,hc,hs⟩:=sg.o j le;have hc:=aa cO.o hc;have hl:=(wl hs cO.o).look (x:=nm) (by have:=HXl.o;omega) wr rfl;have qw:(j:Int)<(k0:Int):=by omega
     by_cases hx:FV[j].contains nm=true
     ·rw[hx]at hl;have HX:=ae (show gO (k+1)∈T by
       rw[<-Ih.o,mh.o];exact List.mem_flatten.2 ⟨_,aA le,by simpa using hx⟩)
      clear hx Hw hs;go_wp2;go_roundg g1
      case rel=>exact ⟨k+1,by omega,by go_num,fun i h1 h2=>by
       by_cases e:i=k+1
       ·subst e;exact HX.o
       ·exact Zg.o i h1 (by omega),cO.o⟩
      case measure=>omega
     ·rw[show FV[j].contains nm=false by simpa using hx]at hl;have HN:=ae (show ∀ (q:Nat) (hq:q<FV.length),q<j+1->nm ∉ FV[q] from fun q hq h=>by
       by_cases e:q=j
       ·subst e;simpa using hx
       ·exact Hw q hq (by omega))
      clear hx Hw hs;go_wp2;go_roundg g
      case rel=>exact ⟨j+1,by omega,by go_num,HN.o,rfl⟩
      case measure=>omega
theorem Ck (W0 w:World) (hT:Tabs W0 w) (xs:List Str) (hl:xs.length<=1000000) (dG:∀ x∈xs,x.length<=2000000) (ok:Nat->Prop) (v:Value) (hv:StrsO ok w v xs) :
  Calls Tryz.prog 129 #[v] w fun e w'=>e=.returned (.string ⟨(dL xs).toArray⟩)/\Below w.heap.size w w':=by
 obtain ⟨a,c,rfl⟩:=hv.slice;have LD:=hv.move (ok':=fun b=>b<w.heap.size) (W':=w) (fun b hb hlt=>⟨hlt,rfl⟩);obtain ⟨W1,bX⟩:=am (w.alloc (.cells #[.slice a xs.length c] 66));have hb1:=cZ bX;have iP:=Fg bX;have wg:=cb bX;have C2:=DH xs (by omega) dG 249 #[.pointer (some ⟨w.heap.size,0,none⟩)] W1 (enters_of Tryz.func249 (by kernel_rfl) rfl)
  (fun w1 hb hlt=>Iw xs (by omega) (fun b=>b=W1.heap.size) w.heap.size w1 a c ((hb.block _ (by omega)).trans wg) (by omega) (LD.move (fun b bD eA=>⟨by omega,(hb.block b (by omega)).trans (hb1.block b eA)⟩)))
 rw[iP]at C2;have CL:=fun (w3:World) (hs:SetW w3 (w.heap.size+1) xs.length xs) (aL:Below (w.heap.size+1) W1 w3)=>
  have hO:Below w.heap.size w w3:=hb1.trans (aL.mono (by omega));have AW:Below w3.heap.size w3 (w3.alloc (.cells #[.map (some (w.heap.size+1))] 118)):=cJ
  (LC W0 (w3.alloc (.cells #[.map (some (w.heap.size+1))] 118)) (hT.next (hO.trans (AW.mono hO.size))) (.slice (some ⟨w3.heap.size,0,none⟩) 1 1) [xs] (by simp;omega) (by simp) ⟨w3.heap.size,0,1,rfl,fun j hj=>by
    obtain rfl:j=0:=by simpa using hj
    exact ⟨_,_,ai (aj rfl) 0,wl hs AW⟩⟩).mono (R':=fun e w'=>e=.returned (.string ⟨(dL [xs].flatten).toArray⟩)/\Below w.heap.size w w') (fun e w' h=>⟨h.1,(hO.trans (AW.mono hO.size)).trans (h.2.mono (by simp;have:=hO.size;omega))⟩)
 have qW:[xs].flatten=xs:=by simp
 rw[qW]at CL;obtain ⟨AV,X8⟩:=a_ C2 CL;clear C2 CL hb1 iP wg LD hv hT qW;rw[bX]at AV X8;clear bX;go_enter Tryz.func129,Tryz.ntmps129;go_wp2_with (first | (go_at_call 199;refine (Iv _ _ _ _).mono ?_;rintro e w2 ⟨rfl,rfl⟩) | (go_at_call 84;refine AV.o.mono ?_;rintro e w3 ⟨rfl,uz,aL⟩;have H3:=aG uz aL;clear uz aL) | (go_at_call 156;refine (X8.o _ H3.o.1 H3.o.2).mono ?_;rintro e w5 ⟨rfl,bj⟩;have H5:=ae bj;clear bj));go_ret;exact ⟨rfl,H5.o⟩
end
def IntsV (W:World) (v:Value) (l:List Nat):Prop:=∃a cap,v=.slice a l.length cap/\l.length<=cap/\(l=[]\/∃b off,a=some ⟨b,off,none⟩/\∀ j (h:j<l.length),W.cell? ⟨b,off+j,none⟩=some (.int .i64 (l[j]:Nat)))
theorem IntsV.nil (W:World):IntsV W (.slice none 0 0) []:=⟨none,0,rfl,aI _,.inl rfl⟩
theorem IntsV.later {W:World} {l:List Nat} (h:IntsV W v l) (hb:Below W.heap.size W W'):IntsV W' v l:=by
 exact pm110
theorem IntsV.len {W:World} {n:Nat} {l:List Nat} (h:IntsV W (.slice a n c) l):n=l.length:=by
 obtain ⟨a',cap,hv,_⟩:=h;injection hv
theorem IntsV.slice {W:World} {l:List Nat} (h:IntsV W v l):∃a c,v=.slice a l.length c:=by
 obtain ⟨a',cap,hv,_⟩:=h;exact ⟨_,_,hv⟩
theorem IntsV.get {W:World} {n:Nat} {l:List Nat} (h:IntsV W (.slice a n c) l) (hl:l≠[]) :
  ∃b off,a=some ⟨b,off,none⟩/\∀ j (h:j<l.length),W.cell? ⟨b,off+j,none⟩=some (.int .i64 (l[j]:Nat)):=by
 have pp245c:=();exact pm245
def sh (l:List Nat):List Value:=l.map fun (i:Nat)=>Value.int .i64 (i:Int)
theorem IntsV.olds {W:World} {b:Addr} {n:Nat} {l:List Nat} (h:IntsV W (.slice (some b) n c) l):∀ j u,(sh l)[j]?=some u->W.cell? (b.add j)=some u:=by
 intro j u hu;unfold sh at hu;have hj:j<l.length:=by have:=(List.getElem?_eq_some_iff.1 hu).1;simpa using this
 obtain ⟨b',off,hb,hc⟩:=h.get (by intro h;rw[h]at hj;simp at hj);obtain rfl:b=⟨b',off,none⟩:=by injection hb
 rw[Addr.add_lit,hc j hj,<-hu];simp[hj]
theorem IntsV.own {W:World} {base g n:Nat} {l:List Nat} (h:W.ownsRow base e 1 (.slice (some ⟨g,0,none⟩) n c) n (sh l)):IntsV W (.slice (some ⟨g,0,none⟩) n c) l:=by
 have pp163a:=();exact pm163
theorem IntsV.one {W:World} (c:Nat) (hc:1<=c) (h:W.heap[b]?=some (.cells #[.int .i64 (i:Int)] T (0,0))):IntsV W (.slice (some ⟨b,0,none⟩) 1 c) [i]:=
 ⟨_,c,rfl,hc,.inr ⟨b,0,rfl,fun j hj=>by simp at hj;subst hj;exact ai h 0⟩⟩
theorem U4 {W:World} {x:Value} (base:Nat) (hb:base<=b) (h:W.heap[b]?=some (.cells #[x] T (0,0))):W.ownsRow base T 1 (.slice (some ⟨b,0,none⟩) 1 1) 1 [x]:=
 ⟨rfl,.inr ⟨b,1,#[x],rfl,hb,h,aI _,by unfold maxLen;omega,rfl,rfl⟩⟩
theorem FX:(Tryz.prog.info? 3).map (fun i=>(i.zero,i.size,i.bytes))=some (some (.int .i64 0),1,8):=by kernel_rfl
theorem vh {l:List Tm} {p:List Nat} (h:eB x l i=some p):p≠[]:=by
 induction l generalizing i with
 | nil=>simp[eB]at h
 | cons t l ih=>
  unfold eB at h
  cases hp:m8 x t with
  | none=>rw[hp]at h;exact ih h
  | some q=>rw[hp]at h;injection h with h;rw[<-h];simp
theorem FY {l:List Tm} {k:Nat} (h:k<l.length):eB x (l.drop k) k=match m8 x l[k] with | some p=>some (k :: p) | none=>eB x (l.drop (k+1)) (k+1):=by
 rw[fO h,eB];cases m8 x l[k] <;> rfl
theorem lT {x:Str}:∀ (l:List Tm) (i:Nat) (p:List Nat),eB x l i=some p->p.length<=nodesTs l
 | [],i,p,h=>by simp[eB]at h
 | .mk v n a :: l,i,p,h=>by
  unfold eB at h;have h1:=lT (x:=x) l (i+1);have h2:=lT (x:=x) a 0;unfold nodesTs nodesT
  cases hp:m8 x (.mk v n a) with
  | none=>rw[hp]at h;have:=h1 p h;omega
  | some q=>
   rw[hp]at h;injection h with h;unfold m8 at hp;subst h
   by_cases hc:(v && n == x)=true
   ·rw[aH hc]at hp;injection hp with hp;subst hp;simp;omega
   ·rw[aw hc]at hp;have:=h2 q hp;simp;omega
def U5 (l:List Tm):Prop:=∀ (x:Str) (ok:Nat->Prop) (w:World) (a:Option Addr) (n c:Nat),fitTs l->TermsV ok w (.slice a n c) l →
 Calls Tryz.prog 229 #[.slice a n c,.string ⟨x.toArray⟩] w fun e w'=>(∃v,e=.returned v/\IntsV w' v ((eB x l 0).getD []))/\Below w.heap.size w w'
theorem Kt (l:List Tm) (ih:∀ t∈l,U5 t.a):U5 l:=by
 obtain ⟨i0,hi,nM,i_,ig⟩:=info_parts FX;intro x ok w a n c az hl;obtain rfl:=hl.len;have cm:=az.len;obtain ⟨k0,cg⟩:=am l.length;obtain ⟨R,hR⟩:=am (eB x l 0);rw[<-cg]at cm;rw[<-cg,<-hR];obtain ⟨dB,HL,fS,HF,HR⟩:=wV cg hl ih az hR;clear cg hl ih az hR;go_enter Tryz.func229,Tryz.ntmps229;go_wp2;go_loopw [10] (fun i wr=>∃k:Nat,k<=k0/\i=.int .i64 k/\Below w.heap.size w wr/\R=eB x (l.drop k) k) (fun i _=>k0 - (intOf i).toNat)
 case atStart=>exact ⟨0,bc _,rfl,ak _ _,by simpa using HR.o⟩
 case round=>
  have pp283a:=();exact pm283
theorem NM:∀ t:Tm,U5 t.a:=by
 intro t
 induction t using Tm.ind with
 | h v n a ih=>exact Kt a ih
theorem xm (w:World) (b k:Nat) (hb:w.heap[b]?=some (.cells #[.int .i64 (k:Int)] 3 (0,0))) (p:List Nat) (v:Value) (hv:IntsV w v p) (hp:p.length<=2000000) (ty:TypeId) :
  ∃v' w',(Builtin.append_ #[218,218] ty #[.slice (some ⟨b,0,none⟩) 1 1,v]).run Tryz.prog w=.ok v' w'/\IntsV w' v' (k :: p)/\w.grownBy w' (some b):=by
 obtain ⟨i0,hi,nM,i_,ig⟩:=info_parts FX;have hlt:=(bz hb);obtain ⟨a,c,rfl⟩:=hv.slice
 by_cases h0:p=[]
 ·subst h0;have hs:Src Tryz.prog i0.size 218 (.slice a ([]:List Nat).length c) 0 [] w:=by
   cases a with
   | none=>exact Src.ofNil w Tryz.underlying218 c
   | some a=>exact Src.ofSlice w Tryz.underlying218 a 0 c [] (by simp) (by simp) (by simp)
  exact ⟨_,_,run_append_nothing w _ _ _ _ i0 Tryz.underlying218 hi (some ⟨b,0,none⟩) 1 1 (aI _) _ hs,IntsV.one 1 (aI _) hb,⟨rfl,rfl,rfl,aI _,fun _ _ _=>rfl⟩⟩
 ·obtain ⟨b2,off2,rfl,B8⟩:=hv.get h0;have nn:=iD.2 h0;obtain ⟨g,cap,w',hr,h2,h3,_,_⟩:=run_append_lies (P:=Tryz.prog) w 218 ty 0 3 i0 (.int .i64 0) 1 8 Tryz.underlying218 hi nM i_ ig rfl (by decide) (.slice (some ⟨b,0,none⟩) 1 1) 1 [.int .i64 (k:Int)] (U4 0 (bc _) hb) ⟨b2,off2,none⟩ p.length c (sh p) (by simp[sh]) hv.olds (by simp[sh,Value.oneCell']) nn (by unfold maxLen;omega) (by omega) (bc _) _ rfl;exact ⟨_,_,hr,IntsV.own (l:=k :: p) h2,h3⟩
theorem si {a:Act} (uC:o.guard=none) (s x:Operand)
  (ho:o.op=.call { callee:=.builtin .append,args:=#[s,x],argTypes:=#[218,218] }) (b k:Nat) (hb:w.heap[b]?=some (.cells #[.int .i64 (k:Int)] 3 (0,0))) (p:List Nat) (v:Value) (hs:a.eval s=.slice (some ⟨b,0,none⟩) 1 1) (hx:a.eval x=v) (hv:IntsV w v p) (hp:p.length<=2000000)
  (h:∀ v' w',IntsV w' v' (k :: p)->w.grownBy w' (some b)->wpList Tryz.prog ops Q rest (a.put o.dst v') w'):wpList Tryz.prog ops Q (o :: rest) a w:=by
 refine wpList_plain uC fun K hK=>?_;obtain ⟨v',w',hr,h2,h3⟩:=xm w b k hb p v hv hp o.type;have pp223:=();exact pm223
theorem FZ {l:List Fm} {k:Nat} (h:k<l.length):lH x (l.drop k) k=match kW x l[k] with | some (p,q)=>some (k :: p,q) | none=>lH x (l.drop (k+1)) (k+1):=by
 rw[fO h,lH];cases kW x l[k] <;> rfl
mutual
theorem th:∀ (f:Fm) (r:List Nat×List Nat),kW x f=some r->r.2≠[]/\r.1.length+1<=nodesF f/\r.2.length<=nodesF f
 | .mk o n a s,r,h=>by
  unfold kW at h;unfold nodesF
  cases hp:eB x a 0 with
  | some q=>
   rw[hp]at h;injection h with h;subst h;have:=lT a 0 q hp;exact ⟨vh hp,by simp,by simp only;omega⟩
  | none=>
   rw[hp]at h;have:=Cl s 0 r h;exact ⟨this.1,by omega,by omega⟩
theorem Cl:∀ (l:List Fm) (i:Nat) (r:List Nat×List Nat),lH x l i=some r->r.2≠[]/\r.1.length<=nodesFs l/\r.2.length<=nodesFs l
 | [],i,r,h=>by simp[lH]at h
 | f :: l,i,r,h=>by
  unfold lH at h;unfold nodesFs
  cases hp:kW x f with
  | some q=>
   obtain ⟨q1,q2⟩:=q;rw[hp]at h;injection h with h;subst h;have:=th f _ hp;exact ⟨this.1,by have:=this.2.1;simp only[fN]at *;omega,by have:=this.2.2;simp only at *;omega⟩
  | none=>
   rw[hp]at h;have:=Cl l (i+1) r h;exact ⟨this.1,by omega,by omega⟩
end
def zbO (f:Fm):Prop:=∀ (x:Str) (ok:Nat->Prop) (w:World) (q:FQ),fitF f->FormV ok w q.val f →
 Calls Tryz.prog 165 #[q.val,.string ⟨x.toArray⟩] w fun e w'=>(∃v1 v2,e=.returned (.tuple #[v1,v2])/\IntsV w' v1 (((kW x f).map (·.1)).getD [])/\IntsV w' v2 (((kW x f).map (·.2)).getD []))/\Below w.heap.size w w'
theorem NN:∀ f,zbO f:=by
 intro f
 induction f using Fm.ind with
 | h uo xn xa xs ih=>
 intro x ok w q hf hq;obtain ⟨va,vs2,h1,fL,E9⟩:=aW.1 hq;obtain ⟨uo,un,ua,ul,uc,ub,um,ue⟩:=q;have pp33a:=();exact pm33
theorem vi (b off j:Nat):(⟨b,off,none⟩:Addr).add j=⟨b,off+j,none⟩:=by unfold Addr.add;split <;> simp_all
theorem e7 (l:List Str) (hl:l.length<=2000000) (x:Str) (ok:Nat->Prop) (w:World) (v:Value) (hv:StrsO ok w v l) :
  Calls Tryz.prog 128 #[v,.string ⟨x.toArray⟩] w fun e w'=>e=.returned (.bool (l.contains x))/\w'=w:=by
 obtain ⟨a,c,rfl,hc,h⟩:=hv
 by_cases h0:l=[]
 ·subst h0;exact Tryz.slices_Contains_string_empty a c ⟨x.toArray⟩ w
 ·rcases h with h | ⟨b,off,rfl,_,hcells⟩
  ·exact absurd h h0
  ·have Zk:(l.map fun s=>(⟨s.toArray⟩:ByteArray)).length=l.length:=by simp
   have:=Tryz.slices_Contains_string b off l.length c (l.map fun s=>⟨s.toArray⟩) ⟨x.toArray⟩ w (by simp) (by omega) (fun j hj=>by
    rw[Zk]at hj;rw[hcells j hj];simp[List.getD_eq_getElem?_getD,gx hj])
   refine this.mono ?_;rintro e w' ⟨rfl,rfl⟩;refine ⟨?_,rfl⟩;congr 2;rw[f8 (by simp)];rw[gy,Lib.containsS_iff];simp only[List.mem_map,List.contains_iff_mem];constructor
   ·rintro ⟨s,hs,he⟩;have:s=x:=by
     have h1:=congrArg (fun b:ByteArray=>b.data.toList) he;simpa using h1
    exact this ▸ hs
   ·exact fun h=>⟨x,h,rfl⟩
def OwnS (lo:Nat) (W:World) (v:Value) (l:List Str):Prop:=W.ownsRow lo 9 1 v l.length (l.map encStr)
theorem OwnS.strs {W:World} {l:List Str} (h:OwnS lo W v l):StrsO (lo<=·) W v l:=by
 obtain ⟨hl,h1⟩:=h;exact pm88
theorem OwnS.held {W:World} {l:List Str} (h:OwnS lo W v l) (hb:∀ b,lo<=b->b<W.heap.size->W'.heap[b]?=W.heap[b]?):OwnS lo W' v l:=aZ h (fun b h1 h2=>hb b h1 h2)
theorem OwnS.later {W:World} {l:List Str} (h:OwnS lo W v l) (hb:Below W.heap.size W W'):OwnS lo W' v l:=h.held (fun b _ hlt=>hb.block b hlt)
theorem yP {W:World} {base Tb:Nat} {size:Nat} {k:Nat} {xs:List Value} (h:W.ownsRow base e size v k xs) (hb:Tb<=base):W.ownsRow Tb e size v k xs:=by
 obtain ⟨h1,h2⟩:=h;refine ⟨h1,?_⟩;rcases h2 with h2 | ⟨g,cap,cur,hv,hg,h3⟩
 ·exact .inl h2
 ·exact .inr ⟨g,cap,cur,hv,aN hb hg,h3⟩
theorem OwnS.base {lo':Nat} {W:World} {l:List Str} (h:OwnS lo W v l) (hb:lo'<=lo):OwnS lo' W v l:=yP h hb
theorem OwnS.nil (lo:Nat) (W:World):OwnS lo W (.slice none 0 0) []:=⟨rfl,.inl ⟨rfl,rfl⟩⟩
theorem yQ:(Tryz.prog.info? 9).map (fun i=>(i.zero,i.size,i.bytes))=some (some (.string ByteArray.empty),1,16):=by kernel_rfl
theorem np (w:World) (lo:Nat) (hlo:lo<=w.heap.size) (v1:Value) (l1:List Str) (h1:OwnS lo w v1 l1) (v2:Value) (l2:List Str) (ok:Nat->Prop) (h2:StrsO ok w v2 l2) (hl:l1.length+l2.length<=4000000) (ty:TypeId) :
  ∃v' w',(Builtin.append_ #[66,66] ty #[v1,v2]).run Tryz.prog w=.ok v' w'/\OwnS lo w' v' (l1 ++ l2)/\w.grownBy w' v1.ownBlock:=by
 obtain ⟨i0,hi,nM,i_,ig⟩:=info_parts yQ;obtain ⟨a,c,rfl⟩:=h2.slice
 by_cases h0:l2=[]
 ·subst h0;have hs:Src Tryz.prog i0.size 66 (.slice a ([]:List Str).length c) 0 [] w:=by
   cases a with
   | none=>exact Src.ofNil w Tryz.underlying66 c
   | some a=>exact Src.ofSlice w Tryz.underlying66 a 0 c [] (by simp) (by simp) (by simp)
  have MV:∃p n c',v1=.slice p n c'/\n<=c':=by
   rcases h1.2 with ⟨rfl,h⟩ | ⟨g,cap,cur,rfl,_,_,hc,_⟩
   ·exact ⟨none,0,0,rfl,aI _⟩
   ·exact ⟨_,_,_,rfl,hc⟩
  obtain ⟨p,n,c',rfl,hn⟩:=MV;exact ⟨_,_,run_append_nothing w _ _ _ _ i0 Tryz.underlying66 hi p n c' hn _ hs,by simpa using h1,⟨rfl,rfl,rfl,aI _,fun _ _ _=>rfl⟩⟩
 ·obtain ⟨b2,off2,rfl,_,B8⟩:=h2.get (j:=0) (iD.2 h0);have nn:=iD.2 h0;have Zl:∀ j (h:j<l2.length),w.cell? ⟨b2,off2+j,none⟩=some (.string ⟨l2[j].toArray⟩):=fun j hj=>by
   obtain ⟨b3,U9,he,_,Hh⟩:=h2.get hj;cases he;exact Hh
  obtain ⟨g,cap,w',hr,h3,h4,_,_⟩:=run_append_lies (P:=Tryz.prog) w 66 ty lo 9 i0 (.string ByteArray.empty) 1 16 Tryz.underlying66 hi nM i_ ig rfl (by decide) v1 l1.length (l1.map encStr) h1 ⟨b2,off2,none⟩ l2.length c (l2.map encStr) (by simp) (fun j u hu=>by
   rw[List.getElem?_map]at hu
   by_cases hj:j<l2.length
   ·rw[gx hj]at hu;rw[vi,Zl j hj,<-hu];rfl
   ·rw[List.getElem?_eq_none (by omega)]at hu;cases hu) (by simp[encStr,Value.oneCell']) nn (by unfold maxLen;omega) (by omega) hlo _ rfl
  refine ⟨_,_,hr,?_,h4⟩;unfold OwnS;rw[dZ,List.map_append];exact h3
theorem dR {a:Act} (uC:o.guard=none) (s x:Operand)
  (ho:o.op=.call { callee:=.builtin .append,args:=#[s,x],argTypes:=#[66,66] }) (lo:Nat) (hlo:lo<=w.heap.size) (v1:Value) (l1:List Str) (hs:a.eval s=v1) (h1:OwnS lo w v1 l1) (v2:Value) (l2:List Str) (hx:a.eval x=v2) (ok:Nat->Prop) (h2:StrsO ok w v2 l2) (hl:l1.length+l2.length<=4000000)
  (h:∀ v' w',OwnS lo w' v' (l1 ++ l2)->w.grownBy w' v1.ownBlock->wpList Tryz.prog ops Q rest (a.put o.dst v') w'):wpList Tryz.prog ops Q (o :: rest) a w:=by
 refine wpList_plain uC fun K hK=>?_;obtain ⟨v',w',hr,h3,h4⟩:=np w lo hlo v1 l1 h1 v2 l2 ok h2 hl o.type;exact pm223
theorem oS {F:Fence} {n:Nat} {a:Act} (uC:o.guard=none) (s x:Operand)
  (ho:o.op=.call { callee:=.builtin .append,args:=#[s,x],argTypes:=#[66,66] }) (lo:Nat) (hlo:lo<=w.heap.size) (v1:Value) (l1:List Str) (hs:a.eval s=v1) (h1:OwnS lo w v1 l1) (v2:Value) (l2:List Str) (hx:a.eval x=v2) (ok:Nat->Prop) (h2:StrsO ok w v2 l2) (hl:l1.length+l2.length<=4000000)
  (h:∀ v' w',OwnS lo w' v' (l1 ++ l2)->w.grownBy w' v1.ownBlock->wpListIn F n Tryz.prog ops Q rest (a.put o.dst v') w'):wpListIn F n Tryz.prog ops Q (o :: rest) a w:=by
 refine wpListIn_plain uC fun K hK=>?_;obtain ⟨v',w',hr,h3,h4⟩:=np w lo hlo v1 l1 h1 v2 l2 ok h2 hl o.type;unfold Oper.wpIn;refine ⟨by simp[Oper.about,ho,resolve,Target.leads,Sem.run_pure],?_⟩;rw[Oper.semAt_plain F _ _ (by rw[ho];intro c Y7;cases Y7)];simp[execOp,ho,resolve,invoke,builtin,hs,hx,hr,Result.andThen];exact hK _ _ (h v' w' h3 h4)
section
attribute [local go_sem] Oper.semAt_some
theorem _root_.Go.RowKit.Below.tr {a b c:World} (h:Below a.heap.size a b) (k:Below b.heap.size b c):Below a.heap.size a c:=h.trans (k.mono h.size)
def NO (g:Nat) (lb:Array Value) (f:Str->Option Tm) (Wb:World):Prop:=∀ (n:Str) (W:World),n.length<=2000000->Below Wb.heap.size Wb W →
 Calls Tryz.prog g (#[.string ⟨n.toArray⟩] ++ lb) W fun e W'=>(∃q:TQ,e=.returned (.tuple #[q.val,.bool (f n).isSome])/\∀ u,f n=some u->TermV (fun _=>True) W' q.val u)/\Below W.heap.size W W'
def zbQ (f:Str->Option Tm):Prop:=∀ n u,f n=some u->∀ (ok:Nat->Prop) (W:World) (q:TQ),TermV ok W q.val u->Calls Tryz.prog 218 #[q.val] W fun e w'=>(∃p:TQ,e=.returned p.val/\TermV (W.heap.size<=·) w' p.val u)/\Below W.heap.size W w'
theorem yR (g:Nat) (lb:Array Value) (eg:∀ args W,(callFunc g args).run Tryz.prog W=.ok (.enter g args) W) (f:Str->Option Tm) (Wb:World) (hI:NO g lb f Wb) (hC:zbQ f):∀ (t:Tm),fitT t->∀ (ok:Nat->Prop) (w:World) (q:TQ),Below Wb.heap.size Wb w->TermV ok w q.val t →
  Calls Tryz.prog 154 #[q.val,.func (.func g) #[] lb] w fun e w'=>(∃p:TQ,e=.returned p.val/\TermV (w.heap.size<=·) w' p.val (fR f t))/\Below w.heap.size w w':=by
 obtain ⟨o6,hi,xH,uU,yi⟩:=info_parts gE;intro t
 induction t using Tm.ind with
 | h v n a ih=>
  intro az ok w q cI hq;have pp167d:=();exact pm167
mutual
theorem Cm:∀ t,fR (fun _=>none) t=t
 | .mk v n a=>by cases v <;> simp[fR,yS a]
theorem yS:∀ l,ro (fun _=>none) l=l
 | []=>rfl
 | t :: l=>by simp[ro,Cm t,yS l]
end
theorem DU:∀ args W,(callFunc 268 args).run Tryz.prog W=.ok (.enter 268 args) W:=enters_of Tryz.func268 (by kernel_rfl) rfl
theorem F1:∀ args W,(callFunc 232 args).run Tryz.prog W=.ok (.enter 232 args) W:=enters_of Tryz.func232 (by kernel_rfl) rfl
theorem IA (Wb:World):NO 268 #[] (fun _=>none) Wb:=by
 intro n W hn _;have wg:(W.alloc (.cells #[.bool false,.string ⟨#[]⟩,.slice none 0 0] 43)).heap[W.heap.size]?=some (.cells #[.bool false,.string ⟨#[]⟩,.slice none 0 0] 43 (0,0)):=aj rfl;have hB:Below W.heap.size W (W.alloc (.cells #[.bool false,.string ⟨#[]⟩,.slice none 0 0] 43)):=cJ;have e0:(W.alloc (.cells #[.bool false,.string ⟨#[]⟩,.slice none 0 0] 43)).cell? ⟨W.heap.size,0,none⟩=some (.bool false):=ai wg 0;have e1:(W.alloc (.cells #[.bool false,.string ⟨#[]⟩,.slice none 0 0] 43)).cell? ⟨W.heap.size,1,none⟩=some (.string ⟨#[]⟩):=ai wg 1;have e2:(W.alloc (.cells #[.bool false,.string ⟨#[]⟩,.slice none 0 0] 43)).cell? ⟨W.heap.size,2,none⟩=some (.slice none 0 0):=ai wg 2;have HB:=ae hB;clear wg hB;go_enter Tryz.func268,Tryz.ntmps268;go_wp2;refine bJ (v:=.tuple #[TQ.val ⟨false,⟨#[]⟩,none,0,0⟩,.bool false]) (by simp[TQ.val,results,Tryz.results268,go_sem,e0,e1,e2]) rfl ⟨⟨⟨false,⟨#[]⟩,none,0,0⟩,rfl,fun u h=>by cases h⟩,HB.o⟩
theorem LE (t:Tm) (az:fitT t) (ok:Nat->Prop) (w:World) (q:TQ) (hq:TermV ok w q.val t) :
  Calls Tryz.prog 218 #[q.val] w fun e w'=>(∃p:TQ,e=.returned p.val/\TermV (w.heap.size<=·) w' p.val t)/\Below w.heap.size w w':=by
 obtain ⟨qv,qn,qa,ql,qc⟩:=q;obtain ⟨W2,bm⟩:=am ((w.alloc (.cells #[.bool qv,.string qn,.slice qa ql qc] 43)).alloc (.cells #[.bool false,.string ⟨#[]⟩,.slice none 0 0] 43));have bD:=lF bm;have kK:=wW bm;have y1:=jA bm;have C:=yR 268 #[] DU (fun _=>none) W2 (IA W2) (fun n u h=>by cases h) t az ok W2 ⟨qv,qn,qa,ql,qc⟩ (ak _ _) (hq.later bD);rw[Cm]at C;simp only[TQ.val]at C;have HC:=ae C;have HY:=bG bD y1 kK;have gK:=ae bm;clear C bD y1 kK bm hq az;unfold TQ.val;go_enter Tryz.func218,Tryz.ntmps218;go_wp2_with (rw[<-gK.o];go_at_call 154;refine HC.o.mono ?_;rintro e w5 ⟨⟨p5,rfl,qE⟩,bj⟩;obtain ⟨pv,pn,pa,pl,pc⟩:=p5;simp only at qE ⊢;have x1:=(bj.block _ (by have:=HY.o.2.2;omega)).trans HY.o.2.1;have e0:=ai x1 0;have e1:=ai x1 1;have e2:=ai x1 2;have z0:=af x1 0;have z1:=af x1 1;have z2:=af x1 2;have H5:=cC qE (HY.o.1.tr bj) x1 bj.size;clear bj qE x1);have pp60:=();exact pm60
theorem jr (W:World):(zeroValue 43).run Tryz.prog W=.ok (.agg #[.bool false,.string ⟨#[]⟩,.slice none 0 0]) W:=by kernel_rfl
def TermIn (w:World) (v:Value) (t:Tm):Prop:=∃q:TQ,v=q.val/\TermV (fun _=>True) w q.val t
theorem LG (w Wb:World) (hwb:Below w.heap.size w Wb) (B m n:Nat) (l:List (Str×Tm)) (hB:Wb.cell? ⟨B,0,none⟩=some (.map (some m))) (hm:MapV Tryz.prog 9 (TermIn w) Wb m n l):NO 232 #[.pointer (some ⟨B,0,none⟩)] (fun n=>getB l n) Wb:=by
 intro x W hx hb;obtain ⟨W1,bX⟩:=am (W.alloc (.cells #[.bool false,.string ⟨#[]⟩,.slice none 0 0] 43));have hb1:=cZ bX;have hc:W1.cell? ⟨B,0,none⟩=some (.map (some m)):=aa (hb.tr hb1) hB;have AB:W1.heap[m]?=Wb.heap[m]?:=(hb.tr hb1).block m hm.lt;rcases hm.look Tryz.underlying9 Tryz.underlying146 jr hx with ⟨hn,hr⟩ | ⟨u,v,hs,⟨⟨qv,qn,qa,ql,qc⟩,rfl,hq⟩,hr⟩
 ·have hr:=(hr W1 AB).1;rw[bX]at hr hc;simp only[hn,Option.isSome];clear hb1 AB bX hm hB hb hwb;go_enter Tryz.func232,Tryz.ntmps232;go_wp2;have vj:Below (W.alloc (.cells #[.bool false,.string ⟨#[]⟩,.slice none 0 0] 43)).heap.size (W.alloc (.cells #[.bool false,.string ⟨#[]⟩,.slice none 0 0] 43)) ((W.alloc (.cells #[.bool false,.string ⟨#[]⟩,.slice none 0 0] 43)).alloc (.cells #[.bool false,.string ⟨#[]⟩,.slice none 0 0] 43)):=cJ;have hba:Below W.heap.size W (W.alloc (.cells #[.bool false,.string ⟨#[]⟩,.slice none 0 0] 43)):=cJ;have hx:(W.alloc (.cells #[.bool false,.string ⟨#[]⟩,.slice none 0 0] 43)).heap[W.heap.size]?=some (.cells #[.bool false,.string ⟨#[]⟩,.slice none 0 0] 43 (0,0)):=aj rfl;have g0:=aa vj (ai hx 0);have g1:=aa vj (ai hx 1);have g2:=aa vj (ai hx 2);refine bJ (v:=.tuple #[TQ.val ⟨false,⟨#[]⟩,none,0,0⟩,.bool false]) (by simp[TQ.val,results,Tryz.results232,go_sem,g0,g1,g2]) rfl ⟨⟨⟨false,⟨#[]⟩,none,0,0⟩,rfl,fun u h=>by cases h⟩,hba.tr vj⟩
 ·have hr:=(hr W1 AB).1;rw[bX]at hr hc;simp only[hs,Option.isSome];have hqw:=(hq.later hwb).move (uN hb);clear hb1 AB bX hm hB hb hwb hq;simp only[TQ.val]at hr;go_enter Tryz.func232,Tryz.ntmps232;go_wp2;have vj:Below (W.alloc (.cells #[.bool qv,.string qn,.slice qa ql qc] 43)).heap.size (W.alloc (.cells #[.bool qv,.string qn,.slice qa ql qc] 43)) ((W.alloc (.cells #[.bool qv,.string qn,.slice qa ql qc] 43)).alloc (.cells #[.bool qv,.string qn,.slice qa ql qc] 43)):=cJ;have hba:Below W.heap.size W (W.alloc (.cells #[.bool qv,.string qn,.slice qa ql qc] 43)):=cJ;have hx:(W.alloc (.cells #[.bool qv,.string qn,.slice qa ql qc] 43)).heap[W.heap.size]?=some (.cells #[.bool qv,.string qn,.slice qa ql qc] 43 (0,0)):=aj rfl;have g0:=aa vj (ai hx 0);have g1:=aa vj (ai hx 1);have g2:=aa vj (ai hx 2);refine bJ (v:=.tuple #[TQ.val ⟨qv,qn,qa,ql,qc⟩,.bool true]) (by simp[TQ.val,results,Tryz.results232,go_sem,g0,g1,g2]) rfl ⟨⟨⟨qv,qn,qa,ql,qc⟩,rfl,fun u2 h=>by cases h;exact hqw.later (hba.tr vj)⟩,hba.tr vj⟩
