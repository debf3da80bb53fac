/-L-/
import Derived.Test.YtokemihbkeddoaaGreatDoorP01
open Go.Proofs.Tryz
namespace Go.Proofs.YtokemihbkeddoaaGreatDoor
open Go Go.RowKit Lib
set_option maxRecDepth 100000
set_option maxHeartbeats 0
variable{W' w X w' w0:World}{x:aj}{t e T:TypeId}{z:Array Value}{v c0 c1 c2 c3:Value}{a:Option Addr}{f:Fm}{c j lo b g i B kA kS:Nat}{ok M L:Nat->Prop}{xs ins:List aj}{ops:Array Oper}{rest:List Oper}{o:Oper}
def Py:Value->Option (DataW Value×List MemPlace):=fun v=>some (.held v,[])
def ms(P:Program)(k:TypeId){α:Type}(V:Value->α->Prop)(W:World)(m n:Nat)(l:List (aj×α)):Prop:=
 ∃D:DataW Value,W.ownsMap P k Py m n D/\∀x:aj,(bG l x=none->Maps.has D (.string x)=false)/\∀a,bG l x=some a->Maps.has D (.string x)=true/\∃v,(∀d,D.atKey (.string x) d=.held v)/\V v a
section
variable{P:Program}{k:TypeId}{α:Type}{V:Value->α->Prop}{W:World}{m n:Nat}{l:List (aj×α)}
theorem ms.lt(h:ms P k V W m n l):m<W.heap.size:=by obtain⟨D,h,_⟩:=h;exact h.lt
theorem ms.move{V':Value->α->Prop}(h:ms P k V W m n l)(hb:W'.heap[m]?=W.heap[m]?)(hV:∀x v a,bG l x=some a->V v a->V' v a):ms P k V' W' m n l:=by
 obtain⟨D,⟨es,Dh,h1,F,h2,h3⟩,hx⟩:=h;refine⟨D,⟨es,Dh,hb.trans h1,F,h2,h3⟩,fun x=>⟨(hx x).1,fun a ha=>?_⟩⟩;obtain⟨h4,v,h5,h6⟩:=(hx x).2 a ha;exact⟨h4,v,h5,hV x v a ha h6⟩
theorem ms.made(w:World):ms P k V (w.alloc (.map #[] 0)) w.heap.size 0 []:=
 ⟨_,World.ownsMap_made w _ _ _,fun x=>⟨fun _=>by simp[Maps.has],fun a ha=>by simp[bG]at ha⟩⟩
theorem Ab(hk:P.underlying k=some .string)(hx:x.length<=2000000):keyOf P k (.string ⟨x.toArray⟩)=some (.string x):=by
 have h:(⟨x.toArray⟩:ByteArray).size<=maxLen:=by have e:(⟨x.toArray⟩:ByteArray).size=x.length:=rfl;rw[e];unfold maxLen;omega
 rw[WideMaps.keyOf_string_mk hk h]
theorem ms.look(h:ms P k V W m n l)(hk:P.underlying k=some .string)(ht:P.underlying t=some (.map k e)){z:Value}(hz:∀W,(zeroValue e).run P W=.ok z W)(hx:x.length<=2000000):
  (bG l x=none/\(∀W',W'.heap[m]?=W.heap[m]?->(Instr.lookup t (.map (some m)) (.string ⟨x.toArray⟩) true).run P W'=.ok (.tuple #[z,.bool false]) W'/\(Instr.lookup t (.map (some m)) (.string ⟨x.toArray⟩) false).run P W'=.ok z W'))∨
  (∃a v,bG l x=some a/\V v a/\∀W',W'.heap[m]?=W.heap[m]?->(Instr.lookup t (.map (some m)) (.string ⟨x.toArray⟩) true).run P W'=.ok (.tuple #[v,.bool true]) W'/\(Instr.lookup t (.map (some m)) (.string ⟨x.toArray⟩) false).run P W'=.ok v W'):=by
 obtain⟨D,⟨es,Dh,hb,F,hs,hD⟩,hx2⟩:=h;have KI:=Ab hk hx;have K:=Maps.string_keyed hk
 cases hg:bG l x with
 |none=>
  left;refine⟨rfl,fun W' hW=>?_⟩;have h0:=(hx2 x).1 hg;have h1:∀c,(Instr.lookup t (.map (some m)) (.string ⟨x.toArray⟩) c).run P W'=.ok (if c then .tuple #[z,.bool false]else z) W':=fun c=>by
   rcases Maps.fit_look c K ht (hz W') (hW.trans hb) F KI with⟨hr,_⟩|⟨e0,y,_,_,_,_,hat,_⟩
   ·exact hr
   ·rw[<-hD]at hat;rw[Maps.has_true_of_atKey hat]at h0;cases h0
  exact⟨h1 true,h1 false⟩
 |some a=>
  right;obtain⟨h4,v,h5,h6⟩:=(hx2 x).2 a hg;refine⟨a,v,rfl,h6,fun W' hW=>?_⟩;have h1:∀c,(Instr.lookup t (.map (some m)) (.string ⟨x.toArray⟩) c).run P W'=.ok (if c then .tuple #[v,.bool true]else v) W':=fun c=>by
   rcases Maps.fit_look c K ht (hz W') (hW.trans hb) F KI with⟨_,_,hat⟩|⟨e0,y,_,_,hr,hR,hat,_⟩
   ·rw[<-hD]at hat;rw[Maps.has_false_of_atKey hat]at h4;cases h4
   ·rw[<-hD]at hat;have:=(hat .nil).symm.trans (h5 .nil);unfold Py at hR;cases hR;simp at this;rw[<-this];exact hr
  exact⟨h1 true,h1 false⟩
theorem ms.store(h:ms P k V W m n l)(hk:P.underlying k=some .string)(ht:P.underlying t=some (.map k e))(hn:n<4000000)(hx:x.length<=2000000){a:α}{l':List (aj×α)}{V':Value->α->Prop}
  (hv:V' v a) (hV:∀y v b,y≠x->bG l y=some b->V v b->V' v b) (hl:∀y,bG l' y=if y=x then some a else bG l y):
  ∃w',(Instr.mapUpdate t (.map (some m)) (.string ⟨x.toArray⟩) v).run P W=.ok () w'/\ms P k V' w' m (n+1) l'/\W.grownBy w' (some m)/\w'.heap.size=W.heap.size:=by
 obtain⟨D,aE,hx2⟩:=h;have KI:=Ab hk hx;have K:=Maps.string_keyed hk;obtain⟨w',hr,ho,ht2⟩:=aE.store K ht (by unfold maxLen;omega) KI (val:=v) (d:=.held v) (ps:=[]) rfl;refine⟨w',hr,⟨_,ho,fun y=>?_⟩,ht2.grown,?_⟩
 ·rw[hl y]
  by_cases hy:y=x
  ·subst hy;rw[aG rfl];refine⟨fun h=>(by cases h),fun b hb=>?_⟩;cases hb;refine⟨Maps.has_put_same aE.isMap (by simp[WideAt.IsKeyLit]) _,v,fun d=>Maps.atKey_put_same aE.isMap (by simp[WideAt.IsKeyLit]) _ _,hv⟩
  ·rw[aw hy];have jd:(Lit.string y)≠.string x:=fun e=>hy (by injection e);refine⟨fun h=>?_,fun b hb=>?_⟩
   ·rw[Maps.has_put_other jd];exact(hx2 y).1 h
   ·obtain⟨h4,u,h5,h6⟩:=(hx2 y).2 b hb;exact⟨by rw[Maps.has_put_other jd];exact h4,u,fun d=>by rw[Maps.atKey_put_other jd];exact h5 d,hV y u b hy hb h6⟩
 ·obtain⟨es,Dh,Xx,zaa,hb,rfl⟩:=ht2;simp[ChangeMaps.setBlock]
end
structure aA(W:World)where
 w:World
 below:Below W.heap.size W w
instance aA.inhab (W:World):Nonempty (aA W):=⟨⟨W,ar _ _⟩⟩
theorem aA.get{W:World}{a:Addr}(h:W.cell? a=some v)(x:aA W):x.w.cell? a=some v:=aa x.below h
theorem cq{P:Program}{f:FuncId}{args:Array Value}{W:World}{x:aA W}
  (h:Calls P f args x.w fun e w'=>e=.returned v/\Below x.w.heap.size x.w w'):Calls P f args x.w fun e Iw=>e=.returned v/\∃y:aA W,Iw=y.w:=
 h.mono fun _ Iw ⟨he,hb⟩=>⟨he,⟨Iw,x.below.trans (hb.mono x.below.size)⟩,rfl⟩
theorem aQ{P:Program}{id:Nat}{Q:Exit->Act->World->Prop}{a:Act}{l:List Oper}(hm:P.follows .mixedOrders=true)(hB:Region.lexB .any l.toArray=true)
  (h:wpQuiet P l.toArray (fun w'=>∃x:aA w,w'=x.w) (fun a'=>∀w',(∃x:aA w,w'=x.w)->Q .normal a' w') l a):(Code.region id l.toArray true).wp P Q a w:=
 wp_region_quiet (C:=fun w'=>∃x:aA w,w'=x.w) hm hB ⟨⟨{w with drawn:=w.drawn+1 },⟨rfl,rfl,rfl,aK _,fun _ _=>rfl⟩⟩,rfl⟩ (by simpa using h)
def GX(W:World)(v:Value)(l:List aj):Prop:=∃a cap,v=.slice a l.length cap/\l.length<=cap/\(l=[]\/∃b off,a=some ⟨b,off,none⟩/\∀j (h:j<l.length),W.cell? ⟨b,off+j,none⟩=some (.string ⟨l[j].toArray⟩))
theorem GX.len{W:World}{n:Nat}{l:List aj}(h:GX W (.slice a n c) l):n=l.length:=by
 obtain⟨a',cap,hv,_⟩:=h;injection hv
theorem GX.get{W:World}{n:Nat}{l:List aj}(h:GX W (.slice a n c) l)(hj:j<l.length):
  ∃b off,a=some ⟨b,off,none⟩/\∀j (h:j<l.length),W.cell? ⟨b,off+j,none⟩=some (.string ⟨l[j].toArray⟩):=by
 have up:=();exact qbp
theorem IR{l:List aj}{k:Nat}(h:k+1<l.length):eq (l.drop k)=(Op.bytesLess l[k] l[k+1]&&eq (l.drop (k+1))):=by
 rw[iL (by omega:k<l.length),iL h,eq,<-iL h]
theorem KX{l:List aj}{k:Nat}(h:l.length<=k+1):eq (l.drop k)=true:=by
 have hl:(l.drop k).length<=1:=by rw[List.length_drop];omega
 match hd:l.drop k with
 |[]=>rfl
 |[x]=>rfl
 |_::_::_=>rw[hd]at hl;simp at hl
theorem yu(l:List aj)(hlen:l.length<=1000000000)(w:World)(v:Value)(hv:GX w v l):
  Calls prog 70 #[v] w fun e w'=>e=.returned (.bool (eq l))/\Below w.heap.size w w':=by
 obtain⟨a,n,c,rfl⟩:∃a n c,v=.slice a n c:=by obtain⟨a,c,h,_⟩:=hv;exact⟨_,_,_,h⟩
 obtain rfl:=hv.len;have⟨k0,cD⟩:=az l.length;have⟨R,hR⟩:=az (eq l);rw[<-cD]at hlen;rw[<-cD,<-hR];have⟨HN,HV,HR⟩:=cU cD hv hR;clear cD hv hR;go_enter func70,ntmps70;go_wp2;go_loopw [3] (fun i wr=>∃k:Nat,(k=0\/k<k0)/\i=.int .i64 ((k:Int)+1)/\Below w.heap.size w wr/\R=eq (l.drop k)) (fun i _=>k0-(intOf i).toNat)
 case atStart=>exact⟨0,.inl rfl,rfl,ar _ _,by simpa using HR.o⟩
 case round=>
  obtain⟨k,hk,rfl,aD,ht⟩:=hrel
  by_cases hlt:k+1<k0
  ·have bA:k+1<l.length:=by rw[<-HN.o];exact hlt
   obtain⟨b,off,rfl,hc⟩:=HV.o.get bA;have c0:=aa aD (hc k (by omega));have c1:=aa aD (hc (k+1) bA);rw[IR bA]at ht;have⟨x,hx⟩:=az (l[k]);have⟨y,hy⟩:=az (l[k+1]);rw[<-hx]at ht c0;rw[<-hy]at ht c1;have f0:=fun z:aA wr=>z.get c0;have f1:=fun z:aA wr=>z.get c1;have DH:(k:Int)+1<(k0:Int):=by omega
   have⟨HB,ZS⟩:=bi aD ht;clear aD ht hc c0 c1 hx hy;go_wp2;have qmz:=();exact qac
  ·have HE:=ae (show R=true by rw[ht];exact KX (by rw[<-HN.o];omega));have HB:=ae aD;have zeR:decide ((k:Int)+1<(k0:Int))=false:=by simp;omega
   clear aD ht;go_wp2;go_ret;exact⟨aJ HE.o.symm,HB.o⟩
section
attribute [local go_sem] Oper.semAt_some
def fJ(ok:Nat->Prop)(W:World)(v:Value)(l:List aj):Prop:=∃a cap,v=.slice a l.length cap/\l.length<=cap/\(l=[]\/∃b off,a=some ⟨b,off,none⟩/\ok b/\∀j (h:j<l.length),W.cell? ⟨b,off+j,none⟩=some (.string ⟨l[j].toArray⟩))
theorem fJ.get{W:World}{n:Nat}{l:List aj}(h:fJ ok W (.slice a n c) l)(hj:j<l.length):
  ∃b off,a=some ⟨b,off,none⟩/\ok b/\W.cell? ⟨b,off+j,none⟩=some (.string ⟨l[j].toArray⟩):=by
 have an:=();exact qbp
theorem fJ.slice{W:World}{l:List aj}(h:fJ ok W v l):∃a c,v=.slice a l.length c:=by obtain⟨a,c,hv,_⟩:=h;exact⟨a,c,hv⟩
theorem fJ.move{ok':Nat->Prop}{W:World}{l:List aj}(h:fJ ok W v l)(hb:iN ok ok' W W'):fJ ok' W' v l:=by
 have it:=();exact qaJ
theorem fJ.later{W:World}{l:List aj}(h:fJ ok W v l)(hb:Below W.heap.size W W'):fJ ok W' v l:=h.move (dT hb)
theorem Nm.strs{W:World}{l:List aj}(h:Nm lo W v l):fJ (lo<=·) W v l:=by
 obtain⟨⟨hl,h1⟩,_⟩:=h;exact qeK
theorem Nu(a:Option Addr)(n c:Nat)(w:World):
  Calls prog 199 #[.slice a n c] w fun e w'=>e=.returned (.func (.func 249) #[] #[.pointer (some ⟨w.heap.size,0,none⟩)])/\w'=w.alloc (.cells #[.slice a n c] 66):=by
 go_enter func199,ntmps199;go_wp2;go_ret;exact⟨rfl,rfl⟩
theorem KY{α:Type}{l:List α}{k:Nat}(h:k<l.length):(l.take k++[l[k]]) <+: l:=by
 rw[<-lq h];exact List.take_prefix _ _
theorem Nv(xs:List aj)(hl:xs.length<=2000000)(M:Nat->Prop)(X:Nat)(w:World)(a:Option Addr)(c:Nat)(hX:w.heap[X]?=some (.cells #[.slice a xs.length c] 66 (0,0)))(MP:¬M X)(hv:fJ (fun b=>¬M b) w (.slice a xs.length c) xs):
  M8 M False prog 249 #[.pointer (some ⟨X,0,none⟩)] xs Dg w:=by
 intro l J Jx W hk hM hlt hlM hJ _ hY hj;have WI:=(bQ hX);have Cc:=(hk.same X WI MP).trans hX;have c0:W.cell? ⟨X,0,none⟩=some (.slice a xs.length c):=ao Cc 0;have hv:=hv.move (W':=W) (ok':=fun b=>¬M b) (fun b hb hlt=>⟨hb,hk.same b hlt hb⟩);have⟨m0,wE⟩:=az xs.length;rw[<-wE]at c0 hl hv;have⟨gT,HV,HY⟩:=cU wE hv hY;have HJ0:=ae (show J (xs.take 0) W from hj);clear hX MP hv hY hj wE Cc hk hM hlt hlM hJ WI;refine oM func249 ?_;simp only[ntmps249,Nat.reduceAdd,Nat.reduceSub,ng];have jq:=fP;gi_wp2;gi_loopw [7] (fun i wr=>∃k:Nat,k<=m0/\i=.int .i64 k/\J (xs.take k) wr/\Kp M W wr) (fun i _=>m0-(intOf i).toNat)
 case atStart=>exact⟨0,bn _,rfl,HJ0.o,Kp.refl _⟩
 case round=>
  have qmC:=();exact qau
theorem wF{H:Type}{P:Program}(he:P.underlying e=some .bool){z:DataW H×List MemPlace}(h:plainElem P e v=some z){x:Bool}(hx:z.1=.lit (.bool x)):v=.bool x:=by
 unfold plainElem at h;rw[he]at h;cases v<;>simp at h
 subst h;simp at hx;rw[hx]
theorem np.look{W:World}{m n:Nat}(h:np W m n xs)(hx:x.length<=2000000):
  ∀W':World,W'.heap[m]?=W.heap[m]?->(Instr.lookup 118 (.map (some m)) (.string ⟨x.toArray⟩) false).run prog W'=.ok (.bool (xs.contains x)) W':=by
 obtain⟨D,⟨es,Dh,hb,F,hs,hD⟩,uZ,ws⟩:=h;intro W' hW;have hz:(zeroValue 4).run prog W'=.ok (.bool false) W':=by kernel_rfl
 rcases Maps.fit_look false (Maps.string_keyed underlying9) underlying118 hz (hW.trans hb) F (Ab underlying9 hx)with⟨hr,_,hat⟩|⟨e0,y,_,_,hr,hR,hat,_⟩
 ·rw[<-hD]at hat;have h0:=Maps.has_false_of_atKey hat;have hn:¬x∈xs:=fun hm=>by rw[(uZ x).2 hm]at h0;cases h0
  rw[hr];simp[hn]
 ·rw[<-hD]at hat;have hm:=(uZ x).1 (Maps.has_true_of_atKey hat);have h1:=(hat .nil).symm.trans (ws x hm .nil);have h2:=wF underlying4 hR h1;rw[hr,h2];simp[hm]
def zcv(W:World)(v:Value)(KZ:List (List aj)):Prop:=∃b off cap,v=.slice (some ⟨b,off,none⟩) KZ.length cap/\∀j (h:j<KZ.length),∃m n,W.cell? ⟨b,off+j,none⟩=some (.map (some m))/\np W m n KZ[j]
theorem Bj{W:World}{m n:Nat}(h:np W m n xs)(hb:Below W.heap.size W W'):np W' m n xs:=h.same (hb.block m h.lt)
theorem GY{n:Nat}(h:n<10^15):(ig n).length<=16:=by
 unfold ig;have:=Cz 20 n 15 h (by omega);simp;omega
theorem K1(w:World)(k:Nat)(os:Array Obj):Below w.heap.size w (Go.Sort.grow (w.drewN k) os):=
 ⟨rfl,rfl,rfl,by simp[Go.Sort.grow],fun b hb=>by simp only[Go.Sort.grow,World.drewN];rw[Array.getElem?_append_left hb]⟩
theorem Tq(W0 w:World)(hT:gG W0 w)(k:Nat)(hk:k<1000000000):Calls prog 219 #[.int .i64 (k:Int)] w fun e w'=>e=.returned (.string ⟨(Lib.itoa (k:Int)).toArray⟩)/\Below w.heap.size w w':=by
 refine(Tryz.strconv_Itoa (k:Int) (by omega) (by omega) w hT.t0.pow).mono ?_;rintro e w' ⟨rfl,n,os,rfl⟩;exact⟨rfl,K1 _ _ _⟩
theorem GZ(W0 w:World)(hT:gG W0 w)(v:Value)(KZ:List (List aj))(hlen:KZ.flatten.length<=100000000)(qq:KZ.length<=2000000)(hv:zcv w v KZ):
  Calls prog 156 #[v] w fun e w'=>e=.returned (.string ⟨(dy KZ.flatten).toArray⟩)/\Below w.heap.size w w':=by
 obtain⟨b,off,cap,rfl,ea⟩:=hv;have⟨T,hTt⟩:=az KZ.flatten;rw[<-hTt]at hlen⊢;have⟨k0,cD⟩:=az KZ.length;rw[<-cD]at qq⊢;have⟨HT,pA,dN,sQ⟩:=f8 hT hTt cD ea;clear hT hTt cD ea;go_enter func156,ntmps156;go_wp2;go_step3;go_wp2;go_step3;go_wp2;go_loopg [3] (T.length+2) (fun g i wr=>∃k:Nat,k+g=T.length+2/\i=.int .i64 k/\(∀j,1<=j->j<k+1->ig j∈T)/\Below w.heap.size w wr)
 case atStart=>exact⟨0,by omega,rfl,fun j h1 h2=>by omega,ar _ _⟩
 case round=>
  obtain⟨k,hkg,rfl,gt,hB⟩:=hrel;have hkT:=Nt (t:=T) (by omega) gt
  cases gk with
  |zero=>omega
  |succ g1=>
   have CI:=Tq W0 wr (HT.o.next hB) (k+1) (by omega);have z8:=GY (n:=k+1) (by omega);have hxi:=Ns (n:=k+1) (by omega);have⟨nm,dQ⟩:=az (ig (k+1));rw[<-dQ]at z8 hxi;obtain⟨dg,hdg⟩:∃dg:List UInt8,dg=Lib.itoa ((k+1:Nat):Int):=⟨_,rfl⟩;rw[<-hdg]at CI hxi;have hsx:∀W,(Op.stringOp .add ⟨#[120]⟩ ⟨dg.toArray⟩).run prog W=.ok (.string ⟨nm.toArray⟩) W:=fun W=>by
    rw[run_string_add_sum W _ _ (by rw[hxi]at z8;simp at z8;have e:(⟨#[120]⟩:ByteArray).size=1:=rfl;have e2:(⟨dg.toArray⟩:ByteArray).size=dg.length:=rfl;rw[e,e2];omega),hxi];congr 2
   have⟨ZT,KH,HXl,zcw,HB⟩:=sL CI dQ z8 gt hB;clear CI dQ z8 hxi hdg gt hB;go_wp2_with (go_at_call 219;refine ZT.o.mono ?_;rintro e w2 ⟨rfl,bU⟩;have cQ:=ae (HB.o.trans (bU.mono HB.o.size));clear bU);go_loopg [14] k0 (fun g i wr=>∃j:Nat,j+g=k0/\i=.int .i64 j/\(∀(q:Nat)(hq:q<KZ.length),q<j->nm∉KZ[q])/\wr=w2)
   case atStart=>exact⟨0,by omega,rfl,fun q hq h=>by omega,rfl⟩
   case round=>
    obtain⟨j,hjg,rfl,M7,rfl⟩:=hrel
    cases gk with
    |zero=>
     obtain rfl:j=k0:=by omega
     have HE:=ae (show dy T=nm by
      rw[KH.o];refine KW (by omega) (by omega) ?_ zcw.o;rw[<-KH.o,pA.o];intro hm;obtain⟨l,hl,hx⟩:=List.mem_flatten.1 hm;obtain⟨q,hq,rfl⟩:=List.getElem_of_mem hl;exact M7 q hq (by rw[dN.o];exact hq) hx)
     clear M7;go_wp2;rw[Exit.noGoto_ret];go_ret;exact⟨by rw[HE.o];rfl,cQ.o⟩
    |succ g=>
     have lG:j<KZ.length:=by rw[<-dN.o];omega
     obtain⟨m,n,hc,hs⟩:=sQ.o j lG;have hc:=aa cQ.o hc;have hl:=(Bj hs cQ.o).look (x:=nm) (by have:=HXl.o;omega) wr rfl;have J':(j:Int)<(k0:Int):=by omega
     by_cases hx:KZ[j].contains nm=true
     ·rw[hx]at hl;have HX:=ae (show ig (k+1)∈T by
       rw[<-KH.o,pA.o];exact List.mem_flatten.2 ⟨_,aH lG,by simpa using hx⟩)
      clear hx M7 hs;go_wp2;go_roundg g1
      case rel=>exact ⟨k+1,by omega,by go_num,fun i h1 h2=>by
       by_cases e:i=k+1
       ·subst e;exact HX.o
       ·exact zcw.o i h1 (by omega),cQ.o⟩
      case measure=>omega
     ·rw[show KZ[j].contains nm=false by simpa using hx]at hl;have HN:=ae (show ∀ (q:Nat) (hq:q<KZ.length),q<j+1->nm ∉ KZ[q] from fun q hq h=>by
       by_cases e:q=j
       ·subst e;simpa using hx
       ·exact M7 q hq (by omega))
      clear hx M7 hs;go_wp2;go_roundg g
      case rel=>exact⟨j+1,by omega,by go_num,HN.o,rfl⟩
      case measure=>omega
theorem G0(W0 w:World)(hT:gG W0 w)(xs:List aj)(hl:xs.length<=1000000)(dQ:∀x∈xs,x.length<=2000000)(ok:Nat->Prop)(v:Value)(hv:fJ ok w v xs):
  Calls prog 129 #[v] w fun e w'=>e=.returned (.string ⟨(dy xs).toArray⟩)/\Below w.heap.size w w':=by
 obtain⟨a,c,rfl⟩:=hv.slice;have FY:=hv.move (ok':=fun b=>b<w.heap.size) (W':=w) (fun b hb hlt=>⟨hlt,rfl⟩);have⟨W1,cC⟩:=az (w.alloc (.cells #[.slice a xs.length c] 66));have hb1:=dj cC;have iZ:=Kh cC;have hx1:=cA cC;have C2:=Cw xs (by omega) dQ 249 #[.pointer (some ⟨w.heap.size,0,none⟩)] W1 (enters_of func249 (by kernel_rfl) rfl)
  (fun w1 hb hlt=>Nv xs (by omega) (fun b=>b=W1.heap.size) w.heap.size w1 a c ((hb.block _ (by omega)).trans hx1) (by omega) (FY.move (fun b bU fC=>⟨by omega,(hb.block b (by omega)).trans (hb1.block b fC)⟩)))
 rw[iZ]at C2;have CL:=fun(w3:World)(hs:np w3 (w.heap.size+1) xs.length xs)(aS:Below (w.heap.size+1) W1 w3)=>
  have j4:Below w.heap.size w w3:=hb1.trans (aS.mono (by omega));have FZ:Below w3.heap.size w3 (w3.alloc (.cells #[.map (some (w.heap.size+1))] 118)):=dp
  (GZ W0 (w3.alloc (.cells #[.map (some (w.heap.size+1))] 118)) (hT.next (j4.trans (FZ.mono j4.size))) (.slice (some ⟨w3.heap.size,0,none⟩) 1 1) [xs] (by simp;omega) (by simp) ⟨w3.heap.size,0,1,rfl,fun j hj=>by
    obtain rfl:j=0:=by simpa using hj
    exact⟨_,_,ao (aq rfl) 0,Bj hs FZ⟩⟩).mono (R':=fun e w'=>e=.returned (.string ⟨(dy [xs].flatten).toArray⟩)/\Below w.heap.size w w') (fun e w' h=>⟨h.1,(j4.trans (FZ.mono j4.size)).trans (h.2.mono (by simp;have:=j4.size;omega))⟩)
 have pM:[xs].flatten=xs:=by simp
 rw[pM]at CL;have⟨vI,HCL⟩:=bi C2 CL;clear C2 CL hb1 iZ hx1 FY hv hT pM;rw[cC]at vI HCL;clear cC;go_enter func129,ntmps129;go_wp2_with (first|(go_at_call 199;refine(Nu _ _ _ _).mono ?_;rintro e w2 ⟨rfl,rfl⟩)|(go_at_call 84;refine vI.o.mono ?_;rintro e w3 ⟨rfl,wA,aS⟩;have H3:=aM wA aS;clear wA aS)|(go_at_call 156;refine(HCL.o _ H3.o.1 H3.o.2).mono ?_;rintro e w5 ⟨rfl,bE⟩;have HR:=ae bE;clear bE));go_ret;exact⟨rfl,HR.o⟩
end
def gj(W:World)(v:Value)(l:List Nat):Prop:=∃a cap,v=.slice a l.length cap/\l.length<=cap/\(l=[]\/∃b off,a=some ⟨b,off,none⟩/\∀j (h:j<l.length),W.cell? ⟨b,off+j,none⟩=some (.int .i64 (l[j]:Nat)))
theorem gj.nil(W:World):gj W (.slice none 0 0) []:=⟨none,0,rfl,aK _,.inl rfl⟩
theorem gj.later{W:World}{l:List Nat}(h:gj W v l)(hb:Below W.heap.size W W'):gj W' v l:=by
 have an:=();exact qaJ
theorem gj.slice{W:World}{l:List Nat}(h:gj W v l):∃a c,v=.slice a l.length c:=by
 obtain⟨a',cap,hv,_⟩:=h;exact⟨_,_,hv⟩
theorem gj.get{W:World}{n:Nat}{l:List Nat}(h:gj W (.slice a n c) l)(hl:l≠[]):
  ∃b off,a=some ⟨b,off,none⟩/\∀j (h:j<l.length),W.cell? ⟨b,off+j,none⟩=some (.int .i64 (l[j]:Nat)):=by
 have it:=();exact qbp
def wG(l:List Nat):List Value:=l.map fun(i:Nat)=>Value.int .i64 (i:Int)
theorem gj.olds{W:World}{b:Addr}{n:Nat}{l:List Nat}(h:gj W (.slice (some b) n c) l):∀j u,(wG l)[j]?=some u->W.cell? (b.add j)=some u:=by
 intro j u hu;unfold wG at hu;have hj:j<l.length:=by have:=(List.getElem?_eq_some_iff.1 hu).1;simpa using this
 obtain⟨b',off,hb,hc⟩:=h.get (by intro h;rw[h]at hj;simp at hj);obtain rfl:b=⟨b',off,none⟩:=by injection hb
 rw[Addr.add_lit,hc j hj,<-hu];simp[hj]
theorem gj.own{W:World}{base n:Nat}{l:List Nat}(h:W.ownsRow base e 1 (.slice (some ⟨g,0,none⟩) n c) n (wG l)):gj W (.slice (some ⟨g,0,none⟩) n c) l:=by
 have an:=();exact qco
theorem gj.one{W:World}(c:Nat)(hc:1<=c)(h:W.heap[b]?=some (.cells #[.int .i64 (i:Int)] T (0,0))):gj W (.slice (some ⟨b,0,none⟩) 1 c) [i]:=
 ⟨_,c,rfl,hc,.inr ⟨b,0,rfl,fun j hj=>by simp at hj;subst hj;exact ao h 0⟩⟩
theorem zab{W:World}{x:Value}(base:Nat)(hb:base<=b)(h:W.heap[b]?=some (.cells #[x] T (0,0))):W.ownsRow base T 1 (.slice (some ⟨b,0,none⟩) 1 1) 1 [x]:=
 ⟨rfl,.inr ⟨b,1,#[x],rfl,hb,h,aK _,by unfold maxLen;omega,rfl,rfl⟩⟩
theorem K3:(prog.info? 3).map (fun i=>(i.zero,i.size,i.bytes))=some (some (.int .i64 0),1,8):=by kernel_rfl
theorem Ac{l:List Tm}{p:List Nat}(h:fh x l i=some p):p≠[]:=by
 induction l generalizing i with
 |nil=>simp[fh]at h
 |cons t l ih=>
  unfold fh at h
  cases hp:nR x t with
  |none=>rw[hp]at h;exact ih h
  |some q=>rw[hp]at h;injection h with h;rw[<-h];simp
theorem K4{l:List Tm}{k:Nat}(h:k<l.length):fh x (l.drop k) k=match nR x l[k]with|some p=>some (k::p)|none=>fh x (l.drop (k+1)) (k+1):=by
 rw[iL h,fh];cases nR x l[k]<;>rfl
theorem oV{x:aj}:∀(l:List Tm)(i:Nat)(p:List Nat),fh x l i=some p->p.length<=af l
 |[],i,p,h=>by simp[fh]at h
 |.mk v n a::l,i,p,h=>by
  unfold fh at h;have h1:=oV (x:=x) l (i+1);have h2:=oV (x:=x) a 0;unfold af ap
  cases hp:nR x (.mk v n a)with
  |none=>rw[hp]at h;have:=h1 p h;omega
  |some q=>
   rw[hp]at h;injection h with h;unfold nR at hp;subst h
   by_cases hc:(v&&n==x)=true
   ·rw[aG hc]at hp;injection hp with hp;subst hp;simp;omega
   ·rw[aw hc]at hp;have:=h2 q hp;simp;omega
def zac(l:List Tm):Prop:=∀(x:aj)(ok:Nat->Prop)(w:World)(a:Option Addr)(n c:Nat),jE l->cB ok w (.slice a n c) l→
 Calls prog 229 #[.slice a n c,.string ⟨x.toArray⟩] w fun e w'=>(∃v,e=.returned v/\gj w' v ((fh x l 0).getD []))/\Below w.heap.size w w'
theorem Pz(l:List Tm)(ih:∀t∈l,zac t.a):zac l:=by
 obtain⟨i0,hi,oO,jv,iG⟩:=info_parts K3;intro x ok w a n c aI hl;obtain rfl:=hl.len;have hlen:=aI.len;have⟨k0,cD⟩:=az l.length;have⟨R,hR⟩:=az (fh x l 0);rw[<-cD]at hlen;rw[<-cD,<-hR];have⟨dN,HL,gZ,HF,HR⟩:=sL cD hl ih aI hR;clear cD hl ih aI hR;go_enter func229,ntmps229;go_wp2;go_loopw [10] (fun i wr=>∃k:Nat,k<=k0/\i=.int .i64 k/\Below w.heap.size w wr/\R=fh x (l.drop k) k) (fun i _=>k0-(intOf i).toNat)
 case atStart=>exact⟨0,bn _,rfl,ar _ _,by simpa using HR.o⟩
 case round=>
  have qmF:=();exact qaX
theorem Ts:∀t:Tm,zac t.a:=by
 intro t
 induction t using Tm.ind with
 |h v n a ih=>exact Pz a ih
theorem Cf(w:World)(b k:Nat)(hb:w.heap[b]?=some (.cells #[.int .i64 (k:Int)] 3 (0,0)))(p:List Nat)(v:Value)(hv:gj w v p)(hp:p.length<=2000000)(ty:TypeId):
  ∃v' w',(Builtin.append_ #[218,218] ty #[.slice (some ⟨b,0,none⟩) 1 1,v]).run prog w=.ok v' w'/\gj w' v' (k::p)/\w.grownBy w' (some b):=by
 obtain⟨i0,hi,oO,jv,iG⟩:=info_parts K3;have hlt:=(bQ hb);obtain⟨a,c,rfl⟩:=hv.slice
 by_cases h0:p=[]
 ·subst h0;have hs:Src prog i0.size 218 (.slice a ([]:List Nat).length c) 0 [] w:=by
   cases a with
   |none=>exact Src.ofNil w underlying218 c
   |some a=>exact Src.ofSlice w underlying218 a 0 c [] (by simp) (by simp) (by simp)
  exact⟨_,_,run_append_nothing w _ _ _ _ i0 underlying218 hi (some ⟨b,0,none⟩) 1 1 (aK _) _ hs,gj.one 1 (aK _) hb,⟨rfl,rfl,rfl,aK _,fun _ _ _=>rfl⟩⟩
 ·obtain⟨b2,off2,rfl,GN⟩:=hv.get h0;have qN:=jR.2 h0;obtain⟨g,cap,w',hr,h2,h3,_,_⟩:=run_append_lies (P:=prog) w 218 ty 0 3 i0 (.int .i64 0) 1 8 underlying218 hi oO jv iG rfl (by decide) (.slice (some ⟨b,0,none⟩) 1 1) 1 [.int .i64 (k:Int)] (zab 0 (bn _) hb) ⟨b2,off2,none⟩ p.length c (wG p) (by simp[wG]) hv.olds (by simp[wG,Value.oneCell']) qN (by unfold maxLen;omega) (by omega) (bn _) _ rfl;exact⟨_,_,hr,gj.own (l:=k::p) h2,h3⟩
theorem wI{a:Act}{Q:Exit->Act->World->Prop}(xF:o.guard=none)(s x:Operand)
  (ho:o.op=.call {callee:=.builtin .append,args:=#[s,x],argTypes:=#[218,218] }) (b k:Nat) (hb:w.heap[b]?=some (.cells #[.int .i64 (k:Int)] 3 (0,0))) (p:List Nat) (v:Value) (hs:a.eval s=.slice (some ⟨b,0,none⟩) 1 1) (hx:a.eval x=v) (hv:gj w v p) (hp:p.length<=2000000)
  (h:∀v' w',gj w' v' (k::p)->w.grownBy w' (some b)->wpList prog ops Q rest (a.put o.dst v') w'):wpList prog ops Q (o::rest) a w:=by
 refine wpList_plain xF fun K hK=>?_;obtain⟨v',w',hr,h2,h3⟩:=Cf w b k hb p v hv hp o.type;have an:=();exact qcp
theorem K5{l:List Fm}{k:Nat}(h:k<l.length):mE x (l.drop k) k=match lN x l[k]with|some (p,q)=>some (k::p,q)|none=>mE x (l.drop (k+1)) (k+1):=by
 rw[iL h,mE];cases lN x l[k]<;>rfl
mutual
theorem yx:∀(f:Fm)(r:List Nat×List Nat),lN x f=some r->r.2≠[]/\r.1.length+1<=ag f/\r.2.length<=ag f
 |.mk o n a s,r,h=>by
  unfold lN at h;unfold ag
  cases hp:fh x a 0 with
  |some q=>
   rw[hp]at h;injection h with h;subst h;have:=oV a 0 q hp;exact⟨Ac hp,by simp,by simp only;omega⟩
  |none=>
   rw[hp]at h;have:=G1 s 0 r h;exact⟨this.1,by omega,by omega⟩
theorem G1:∀(l:List Fm)(i:Nat)(r:List Nat×List Nat),mE x l i=some r->r.2≠[]/\r.1.length<=ah l/\r.2.length<=ah l
 |[],i,r,h=>by simp[mE]at h
 |f::l,i,r,h=>by
  unfold mE at h;unfold ah
  cases hp:lN x f with
  |some q=>
   obtain⟨q1,q2⟩:=q;rw[hp]at h;injection h with h;subst h;have:=yx f _ hp;exact⟨this.1,by have:=this.2.1;simp only[fB]at *;omega,by have:=this.2.2;simp only at *;omega⟩
  |none=>
   rw[hp]at h;have:=G1 l (i+1) r h;exact⟨this.1,by omega,by omega⟩
end
def zeS(f:Fm):Prop:=∀(x:aj)(ok:Nat->Prop)(w:World)(q:FQ),cJ f->aC ok w q.val f→
 Calls prog 165 #[q.val,.string ⟨x.toArray⟩] w fun e w'=>(∃v1 v2,e=.returned (.tuple #[v1,v2])/\gj w' v1 (((lN x f).map (·.1)).getD [])/\gj w' v2 (((lN x f).map (·.2)).getD []))/\Below w.heap.size w w'
theorem Tt:∀f,zeS f:=by
 intro f
 induction f using Fm.ind with
 |h uo xn xa xs ih=>
 intro x ok w q hf hq;have qmH:=();exact qeM
theorem uJ(b off j:Nat):(⟨b,off,none⟩:Addr).add j=⟨b,off+j,none⟩:=by unfold Addr.add;split<;>simp_all
theorem io(l:List aj)(hl:l.length<=2000000)(x:aj)(ok:Nat->Prop)(w:World)(v:Value)(hv:fJ ok w v l):
  Calls prog 128 #[v,.string ⟨x.toArray⟩] w fun e w'=>e=.returned (.bool (l.contains x))/\w'=w:=by
 obtain⟨a,c,rfl,hc,h⟩:=hv
 by_cases h0:l=[]
 ·subst h0;exact Tryz.slices_Contains_string_empty a c ⟨x.toArray⟩ w
 ·rcases h with h|⟨b,off,rfl,_,hcells⟩
  ·exact absurd h h0
  ·have hlm:(l.map fun s=>(⟨s.toArray⟩:ByteArray)).length=l.length:=by simp
   have:=Tryz.slices_Contains_string b off l.length c (l.map fun s=>⟨s.toArray⟩) ⟨x.toArray⟩ w (by simp) (by omega) (fun j hj=>by
    rw[hlm]at hj;rw[hcells j hj];simp[List.getD_eq_getElem?_getD,jn hj])
   refine this.mono ?_;rintro e w' ⟨rfl,rfl⟩;refine⟨?_,rfl⟩;congr 2;rw[gB (by simp)];rw[iM,Lib.containsS_iff];simp only[List.mem_map,List.contains_iff_mem];constructor
   ·rintro⟨s,hs,he⟩;have:s=x:=by
     have h1:=congrArg (fun b:ByteArray=>b.data.toList) he;simpa using h1
    exact this▸hs
   ·exact fun h=>⟨x,h,rfl⟩
def fK(lo:Nat)(W:World)(v:Value)(l:List aj):Prop:=W.ownsRow lo 9 1 v l.length (l.map encStr)
theorem fK.strs{W:World}{l:List aj}(h:fK lo W v l):fJ (lo<=·) W v l:=by
 obtain⟨hl,h1⟩:=h;exact qeK
theorem fK.held{W:World}{l:List aj}(h:fK lo W v l)(hb:∀b,lo<=b->b<W.heap.size->W'.heap[b]?=W.heap[b]?):fK lo W' v l:=bh h (fun b h1 h2=>hb b h1 h2)
theorem fK.later{W:World}{l:List aj}(h:fK lo W v l)(hb:Below W.heap.size W W'):fK lo W' v l:=h.held (fun b _ hlt=>hb.block b hlt)
theorem DJ{W:World}{base ZV:Nat}{size:Nat}{k:Nat}{xs:List Value}(h:W.ownsRow base e size v k xs)(hb:ZV<=base):W.ownsRow ZV e size v k xs:=by
 obtain⟨h1,h2⟩:=h;refine⟨h1,?_⟩;rcases h2 with h2|⟨g,cap,cur,hv,hg,h3⟩
 ·exact .inl h2
 ·exact .inr ⟨g,cap,cur,hv,aR hb hg,h3⟩
theorem fK.base{lo':Nat}{W:World}{l:List aj}(h:fK lo W v l)(hb:lo'<=lo):fK lo' W v l:=DJ h hb
theorem fK.nil(lo:Nat)(W:World):fK lo W (.slice none 0 0) []:=⟨rfl,.inl ⟨rfl,rfl⟩⟩
theorem yz:(prog.info? 9).map (fun i=>(i.zero,i.size,i.bytes))=some (some (.string ByteArray.empty),1,16):=by kernel_rfl
theorem qO(w:World)(lo:Nat)(hlo:lo<=w.heap.size)(v1:Value)(l1:List aj)(h1:fK lo w v1 l1)(v2:Value)(l2:List aj)(ok:Nat->Prop)(h2:fJ ok w v2 l2)(hl:l1.length+l2.length<=4000000)(ty:TypeId):
  ∃v' w',(Builtin.append_ #[66,66] ty #[v1,v2]).run prog w=.ok v' w'/\fK lo w' v' (l1++l2)/\w.grownBy w' v1.ownBlock:=by
 obtain⟨i0,hi,oO,jv,iG⟩:=info_parts yz;obtain⟨a,c,rfl⟩:=h2.slice
 by_cases h0:l2=[]
 ·subst h0;have hs:Src prog i0.size 66 (.slice a ([]:List aj).length c) 0 [] w:=by
   cases a with
   |none=>exact Src.ofNil w underlying66 c
   |some a=>exact Src.ofSlice w underlying66 a 0 c [] (by simp) (by simp) (by simp)
  have FF:∃p n c',v1=.slice p n c'/\n<=c':=by
   rcases h1.2 with⟨rfl,h⟩|⟨g,cap,cur,rfl,_,_,hc,_⟩
   ·exact⟨none,0,0,rfl,aK _⟩
   ·exact⟨_,_,_,rfl,hc⟩
  obtain⟨p,n,c',rfl,hn⟩:=FF;exact⟨_,_,run_append_nothing w _ _ _ _ i0 underlying66 hi p n c' hn _ hs,by simpa using h1,⟨rfl,rfl,rfl,aK _,fun _ _ _=>rfl⟩⟩
 ·obtain⟨b2,off2,rfl,_,GN⟩:=h2.get (j:=0) (jR.2 h0);have qN:=jR.2 h0;have zcA:∀j (h:j<l2.length),w.cell? ⟨b2,off2+j,none⟩=some (.string ⟨l2[j].toArray⟩):=fun j hj=>by
   obtain⟨b3,zaf,he,_,hc3⟩:=h2.get hj;cases he;exact hc3
  obtain ⟨g,cap,w',hr,h3,h4,_,_⟩:=run_append_lies (P:=prog) w 66 ty lo 9 i0 (.string ByteArray.empty) 1 16 underlying66 hi oO jv iG rfl (by decide) v1 l1.length (l1.map encStr) h1 ⟨b2,off2,none⟩ l2.length c (l2.map encStr) (by simp) (fun j u hu=>by
   rw[List.getElem?_map]at hu
   by_cases hj:j<l2.length
   ·rw[jn hj]at hu;rw[uJ,zcA j hj,<-hu];rfl
   ·rw[List.getElem?_eq_none (by omega)]at hu;cases hu) (by simp[encStr,Value.oneCell']) qN (by unfold maxLen;omega) (by omega) hlo _ rfl
  refine⟨_,_,hr,?_,h4⟩;unfold fK;rw[ei,List.map_append];exact h3
theorem eW{a:Act}{Q:Exit->Act->World->Prop}(xF:o.guard=none)(s x:Operand)
  (ho:o.op=.call {callee:=.builtin .append,args:=#[s,x],argTypes:=#[66,66] }) (lo:Nat) (hlo:lo<=w.heap.size) (v1:Value) (l1:List aj) (hs:a.eval s=v1) (h1:fK lo w v1 l1) (v2:Value) (l2:List aj) (hx:a.eval x=v2) (ok:Nat->Prop) (h2:fJ ok w v2 l2) (hl:l1.length+l2.length<=4000000)
  (h:∀v' w',fK lo w' v' (l1++l2)->w.grownBy w' v1.ownBlock->wpList prog ops Q rest (a.put o.dst v') w'):wpList prog ops Q (o::rest) a w:=by
 refine wpList_plain xF fun K hK=>?_;obtain⟨v',w',hr,h3,h4⟩:=qO w lo hlo v1 l1 h1 v2 l2 ok h2 hl o.type;have it:=();exact qcp
theorem sR{F:Fence}{n:Nat}{a:Act}{Q:Exit->Act->World->Prop}(xF:o.guard=none)(s x:Operand)
  (ho:o.op=.call {callee:=.builtin .append,args:=#[s,x],argTypes:=#[66,66] }) (lo:Nat) (hlo:lo<=w.heap.size) (v1:Value) (l1:List aj) (hs:a.eval s=v1) (h1:fK lo w v1 l1) (v2:Value) (l2:List aj) (hx:a.eval x=v2) (ok:Nat->Prop) (h2:fJ ok w v2 l2) (hl:l1.length+l2.length<=4000000)
  (h:∀v' w',fK lo w' v' (l1++l2)->w.grownBy w' v1.ownBlock->wpListIn F n prog ops Q rest (a.put o.dst v') w'):wpListIn F n prog ops Q (o::rest) a w:=by
 refine wpListIn_plain xF fun K hK=>?_;obtain⟨v',w',hr,h3,h4⟩:=qO w lo hlo v1 l1 h1 v2 l2 ok h2 hl o.type;unfold Oper.wpIn;refine⟨by simp[Oper.about,ho,resolve,Target.leads,Sem.run_pure],?_⟩;rw[Oper.semAt_plain F _ _ (by rw[ho];intro c hc';cases hc')];have up:=();exact qcq
section
attribute [local go_sem] Oper.semAt_some
theorem _root_.Go.RowKit.Below.tr{a b c:World}(h:Below a.heap.size a b)(k:Below b.heap.size b c):Below a.heap.size a c:=h.trans (k.mono h.size)
def PB(g:Nat)(lb:Array Value)(f:aj->Option Tm)(Wb:World):Prop:=∀(n:aj)(W:World),n.length<=2000000->Below Wb.heap.size Wb W→
 Calls prog g (#[.string ⟨n.toArray⟩]++lb) W fun e W'=>(∃q:TQ,e=.returned (.tuple #[q.val,.bool (f n).isSome])/\∀u,f n=some u->aN (fun _=>True) W' q.val u)/\Below W.heap.size W W'
def zcB(f:aj->Option Tm):Prop:=∀n u,f n=some u->∀(ok:Nat->Prop)(W:World)(q:TQ),aN ok W q.val u->Calls prog 218 #[q.val] W fun e w'=>(∃p:TQ,e=.returned p.val/\aN (W.heap.size<=·) w' p.val u)/\Below W.heap.size W w'
theorem wJ(g:Nat)(lb:Array Value)(eg:∀args W,(callFunc g args).run prog W=.ok (.enter g args) W)(f:aj->Option Tm)(Wb:World)(hI:PB g lb f Wb)(hC:zcB f):∀(t:Tm),e7 t->∀(ok:Nat->Prop)(w:World)(q:TQ),Below Wb.heap.size Wb w->aN ok w q.val t→
  Calls prog 154 #[q.val,.func (.func g) #[] lb] w fun e w'=>(∃p:TQ,e=.returned p.val/\aN (w.heap.size<=·) w' p.val (ep f t))/\Below w.heap.size w w':=by
 obtain⟨sB,hi,AV,xV,B8⟩:=info_parts ib;intro t
 induction t using Tm.ind with
 |h v n a ih=>
  intro aI ok w q dz hq;have qmK:=();exact qaH
mutual
theorem G3:∀t,ep (fun _=>none) t=t
 |.mk v n a=>by cases v<;>simp[ep,DK a]
theorem DK:∀l,lr (fun _=>none) l=l
 |[]=>rfl
 |t::l=>by simp[lr,G3 t,DK l]
end
theorem IS:∀args W,(callFunc 268 args).run prog W=.ok (.enter 268 args) W:=enters_of func268 (by kernel_rfl) rfl
theorem K7:∀args W,(callFunc 232 args).run prog W=.ok (.enter 232 args) W:=enters_of func232 (by kernel_rfl) rfl
theorem NA(Wb:World):PB 268 #[] (fun _=>none) Wb:=by
 intro n W hn _;have hx1:(W.alloc (.cells #[.bool false,.string ⟨#[]⟩,.slice none 0 0] 43)).heap[W.heap.size]?=some (.cells #[.bool false,.string ⟨#[]⟩,.slice none 0 0] 43 (0,0)):=aq rfl;have it:=();exact qeN
theorem G4(t:Tm)(aI:e7 t)(ok:Nat->Prop)(w:World)(q:TQ)(hq:aN ok w q.val t):
  Calls prog 218 #[q.val] w fun e w'=>(∃p:TQ,e=.returned p.val/\aN (w.heap.size<=·) w' p.val t)/\Below w.heap.size w w':=by
 obtain⟨qv,qn,qa,ql,qc⟩:=q;have⟨W2,bp⟩:=az ((w.alloc (.cells #[.bool qv,.string qn,.slice qa ql qc] 43)).alloc (.cells #[.bool false,.string ⟨#[]⟩,.slice none 0 0] 43));have bU:=mo bp;have lw:=zP bp;have y1:=kv bp;have C:=wJ 268 #[] IS (fun _=>none) W2 (NA W2) (fun n u h=>by cases h) t aI ok W2 ⟨qv,qn,qa,ql,qc⟩ (ar _ _) (hq.later bU);rw[G3]at C;simp only[TQ.val]at C;have HC:=ae C;have HY:=bS bU y1 lw;have gh:=ae bp;clear C bU y1 lw bp hq aI;unfold TQ.val;go_enter func218,ntmps218;go_wp2_with (rw[<-gh.o];go_at_call 154;refine HC.o.mono ?_;rintro e w5 ⟨⟨p5,rfl,sS⟩,bE⟩;obtain⟨pv,pn,pa,pl,pc⟩:=p5;simp only at sS⊢;have x1:=(bE.block _ (by have:=HY.o.2.2;omega)).trans HY.o.2.1;have e0:=ao x1 0;have e1:=ao x1 1;have e2:=ao x1 2;have z0:=ai x1 0;have z1:=ai x1 1;have z2:=ai x1 2;have H5:=cH sS (HY.o.1.tr bE) x1 bE.size;clear bE sS x1);have qmM:=();exact qcr
theorem lx(W:World):(zeroValue 43).run prog W=.ok (.agg #[.bool false,.string ⟨#[]⟩,.slice none 0 0]) W:=by kernel_rfl
def IT(w:World)(v:Value)(t:Tm):Prop:=∃q:TQ,v=q.val/\aN (fun _=>True) w q.val t
theorem Q4(w Wb:World)(hwb:Below w.heap.size w Wb)(B m n:Nat)(l:List (aj×Tm))(hB:Wb.cell? ⟨B,0,none⟩=some (.map (some m)))(hm:ms prog 9 (IT w) Wb m n l):PB 232 #[.pointer (some ⟨B,0,none⟩)] (fun n=>bG l n) Wb:=by
 intro x W hx hb;have⟨W1,cC⟩:=az (W.alloc (.cells #[.bool false,.string ⟨#[]⟩,.slice none 0 0] 43));have hb1:=dj cC;have hc:W1.cell? ⟨B,0,none⟩=some (.map (some m)):=aa (hb.tr hb1) hB;have FG:W1.heap[m]?=Wb.heap[m]?:=(hb.tr hb1).block m hm.lt;rcases hm.look underlying9 underlying146 lx hx with⟨hn,hr⟩|⟨u,v,hs,⟨⟨qv,qn,qa,ql,qc⟩,rfl,hq⟩,hr⟩
 ·have hr:=(hr W1 FG).1;rw[cC]at hr hc;simp only[hn,Option.isSome];clear hb1 FG cC hm hB hb hwb;have it:=();exact qeO
 ·have hr:=(hr W1 FG).1;rw[cC]at hr hc;simp only[hs,Option.isSome];have hqw:=(hq.later hwb).move (zV hb);clear hb1 FG cC hm hB hb hwb hq;simp only[TQ.val]at hr;exact qeO
end
def cw(W:World)(v:Value)(ps:List (aj×aj)):Prop:=∃a cap,v=.slice a ps.length cap/\ps.length<=cap/\((ps=[]/\a=none/\cap=0)\/∃b off,a=some ⟨b,off,none⟩/\∀j (h:j<ps.length),W.cell? ⟨b,off+j*2,none⟩=some (.string ⟨ps[j].1.toArray⟩)/\W.cell? ⟨b,off+j*2+1,none⟩=some (.string ⟨ps[j].2.toArray⟩))
theorem cw.nil(W:World):cw W (.slice none 0 0) []:=⟨none,0,rfl,aK _,.inl ⟨rfl,rfl,rfl⟩⟩
theorem cw.later{W:World}{ps:List (aj×aj)}(h:cw W v ps)(hb:Below W.heap.size W W'):cw W' v ps:=by
 obtain⟨a,cap,hv,yA,h⟩:=h;refine⟨a,cap,hv,yA,?_⟩;rcases h with h|⟨b,off,ha,hc⟩
 ·exact .inl h
 ·exact .inr ⟨b,off,ha,fun j hj=>⟨aa hb (hc j hj).1,aa hb (hc j hj).2⟩⟩
theorem cw.get{W:World}{n:Nat}{ps:List (aj×aj)}(h:cw W (.slice a n c) ps)(hj:j<ps.length):
  ∃b off,a=some ⟨b,off,none⟩/\W.cell? ⟨b,off+j*2,none⟩=some (.string ⟨ps[j].1.toArray⟩)/\W.cell? ⟨b,off+j*2+1,none⟩=some (.string ⟨ps[j].2.toArray⟩):=by
 exact qbp
theorem cw.len{W:World}{n:Nat}{ps:List (aj×aj)}(h:cw W (.slice a n c) ps):n=ps.length:=by
 obtain⟨a',cap,hv,h⟩:=h;injection hv
theorem cw.cap{W:World}{n:Nat}{ps:List (aj×aj)}(h:cw W (.slice a n c) ps):n<=c:=by
 obtain⟨a',cap,hv,h,_⟩:=h;injection hv with _ h1 h2;omega
theorem cw.cases{W:World}{n:Nat}{ps:List (aj×aj)}(h:cw W (.slice a n c) ps):(a=none/\n=0/\c=0)\/∃b off,a=some ⟨b,off,none⟩:=by
 obtain⟨a',cap,hv,_,h⟩:=h;injection hv with h1 h2 h3;subst h1;subst h2;subst h3;rcases h with⟨rfl,rfl,rfl⟩|⟨b,off,rfl,_⟩
 ·exact .inl ⟨rfl,rfl,rfl⟩
 ·exact .inr ⟨b,off,rfl⟩
def gE:List (aj×aj)->List Value
 |[]=>[]
 |p::l=>.string ⟨p.1.toArray⟩:: .string ⟨p.2.toArray⟩::gE l
theorem ip:∀ps,(gE ps).length=ps.length*2
 |[]=>rfl
 |p::l=>by simp[gE,ip l];omega
theorem ki(p:aj×aj):∀ps,gE (ps++[p])=gE ps++[.string ⟨p.1.toArray⟩,.string ⟨p.2.toArray⟩]
 |[]=>rfl
 |q::l=>by simp[gE,ki p l]
theorem Ad:∀(ps:List (aj×aj))(j:Nat)(h:j<ps.length),(gE ps)[j*2]?=some (.string ⟨ps[j].1.toArray⟩)/\(gE ps)[j*2+1]?=some (.string ⟨ps[j].2.toArray⟩)
 |[],j,h=>by simp at h
 |p::l,0,h=>by simp[gE]
 |p::l,j+1,h=>by
  have:=Ad l j (by simpa using h);rw[show(j+1)*2=j*2+2 by omega];simpa[gE]using this
theorem cw.olds{W:World}{b:Addr}{n:Nat}{ps:List (aj×aj)}(h:cw W (.slice (some b) n c) ps):∀j u,(gE ps)[j]?=some u->W.cell? (b.add j)=some u:=by
 intro j u hu;have hj:j<ps.length*2:=by rw[<-ip];exact(List.getElem?_eq_some_iff.1 hu).1
 have hd:j / 2<ps.length:=by omega
 obtain⟨b',off,hb,h0,h1⟩:=h.get hd;obtain rfl:b=⟨b',off,none⟩:=by injection hb
 have hf:=Ad ps (j / 2) hd;have zeU:∀k,Addr.add ⟨b',off,none⟩ k=⟨b',off+k,none⟩:=fun k=>Addr.add_lit _ _ _;rw[zeU];rcases Nat.mod_two_eq_zero_or_one j with hm|hm
 ·have e:j / 2*2=j:=by omega
  rw[e]at hf h0;rw[hf.1]at hu;rw[h0,<-hu]
 ·have e:j / 2*2+1=j:=by omega
  rw[e]at hf;rw[Nat.add_assoc,e]at h1;rw[hf.2]at hu;rw[h1,<-hu]
theorem cw.own{W:World}{base n:Nat}{ps:List (aj×aj)}(h:W.ownsRow base e 2 (.slice (some ⟨g,0,none⟩) n c) n (gE ps)):cw W (.slice (some ⟨g,0,none⟩) n c) ps:=by
 have it:=();exact qco
section
variable{F:Fence}{k:Nat}{P:Program}{Q:Exit->Act->World->Prop}
theorem gK{a:Act}{K:Act->World->Prop}(s x:Operand)(t:TypeId)
  (ho:o.op=.call {callee:=.builtin .append,args:=#[s,x],argTypes:=#[t,t] })
  (e:TypeId) (i:TypeInfo) (z:Value) (size bytes:Nat) (ht:P.underlying t=some (.slice e)) (hi:P.info? e=some i) (hz:i.zero=some z)
  (Po:i.size=size) (hby:i.bytes=bytes) (hzs:z.cells.size=size) (hsz:0<size)
  (v:Value) (n:Nat) (olds:List Value) (hs:a.eval s=v)
  (hv:(v=.slice none 0 0/\n=0/\olds=[])\/∃b,v=.slice (some b) n n/\olds.length=n*size/\∀j u,olds[j]?=some u->w.cell? (b.add j)=some u)
  (ad:Addr) (m c:Nat) (z6:List Value) (hx:a.eval x=.slice (some ad) m c) (hl:z6.length=m*size) (Pp:∀j u,z6[j]?=some u->w.cell? (ad.add j)=some u) (h1:∀u∈z6,u.oneCell'=true)
  (hm:0<m) (h63:n+m<=maxLen) (IF:(n+m)*bytes<=140737488355328)
  (h:∀g cap w',w'.ownsRow w.heap.size e size (.slice (some ⟨g,0,none⟩) (n+m) cap) (n+m) (olds++z6)->w.grownBy w' none->K (a.put o.dst (.slice (some ⟨g,0,none⟩) (n+m) cap)) w'):o.wpIn F k P a w K Q:=by
 have hr:∃g cap w',(Builtin.append_ #[t,t] o.type #[v,.slice (some ad) m c]).run P w=.ok (.slice (some ⟨g,0,none⟩) (n+m) cap) w'/\w'.ownsRow w.heap.size e size (.slice (some ⟨g,0,none⟩) (n+m) cap) (n+m) (olds++z6)/\w.grownBy w' none:=by
  rcases hv with⟨rfl,rfl,rfl⟩|⟨b,rfl,hlo,holds⟩
  ·obtain⟨g,cap,w',hr,h2,h3,_,_⟩:=run_append_lies (P:=P) w t o.type w.heap.size e i z size bytes ht hi hz Po hby hzs hsz (.slice none 0 0) 0 [] (World.ownsRow_nil _ _ _ _) ad m c z6 hl Pp h1 hm h63 IF (aK _) _ rfl;exact⟨g,cap,w',hr,h2,h3⟩
  ·obtain⟨v',w',hr,h2,h3⟩:=run_append_arg_grows (P:=P) w t o.type e i z size bytes ht hi hz Po hby hzs hsz b n n olds hlo holds ad m c z6 hl Pp (by omega) h63 IF;exact qeP
 obtain⟨g,cap,w',hr,h2,h3⟩:=hr;exact qev
end
theorem K8{ps:List (aj×aj)}(h:j<ps.length):(ps.take (j+1)).reverse=ps[j]::(ps.take j).reverse:=by
 rw[lq h];simp
theorem iq{c:gO}{l m:List Tm}{k:Nat}(hl:k<l.length)(hm:k<m.length):ct c (l.drop k) (m.drop k)=(gP c l[k] m[k]&&ct c (l.drop (k+1)) (m.drop (k+1))):=by
 rw[iL hl,iL hm,ct]
theorem l8{c:gO}{l m:List Fm}{k:Nat}(hl:k<l.length)(hm:k<m.length):cX c (l.drop k) (m.drop k)=(cI c l[k] m[k]&&cX c (l.drop (k+1)) (m.drop (k+1))):=by
 rw[iL hl,iL hm,cX]
def nW(c:gO)(x y:aj):Option Bool:=if c.any (fun p=>p.1==x||p.2==y)then some (mD c x y)else none
theorem G5(x y:aj):nW [] x y=none:=rfl
theorem DL(p:aj×aj)(c:gO)(x y:aj):nW (p::c) x y=if p.1==x||p.2==y then some (p.1==x&&p.2==y)else nW c x y:=by
 unfold nW;simp only[List.any_cons,mD]
 by_cases h:(p.1==x||p.2==y)=true
 ·simp only[h,Bool.true_or,if_true]
 ·rw[Bool.not_eq_true]at h;simp only[h,Bool.false_or,bR,if_false]
theorem G6(c:gO)(v v':Bool)(n n':aj)(a a':List Tm):gP c (.mk v n a) (.mk v' n' a')=((v==v'&&a.length==a'.length)&&(match(if v then nW c n n' else none)with|some b=>b|none=>n==n'&&ct c a a')):=by
 rw[gP];unfold nW;cases v
 ·simp
 ·cases h:c.any (fun p=>p.1==n||p.2==n')<;>simp
def zeV(t:Tm):Prop:=∀(u:Tm)(ps:List (aj×aj))(v:Value)(ok ok':Nat->Prop)(w:World)(q q':TQ),ps.length<=1000000000->e7 t->aN ok w q.val t->aN ok' w q'.val u->cw w v ps→
 Calls prog 160 #[q.val,q'.val,v] w fun e w'=>e=.returned (.bool (gP ps.reverse t u))/\Below w.heap.size w w'
theorem DM:∀t,zeV t:=by
 intro t
 induction t using Tm.ind with
 |h xv xn xa ih=>
 intro u ps v ok ok' w q q' hps hf hq gY hp;have qmP:=();exact qcs
section
attribute [local go_sem] Oper.semAt_some
structure gd where
 s:FQ
 f:FQ
 a:Option Addr
 l:Nat
 c:Nat
def gd.cells(q:gd):Array Value:=#[.int .u8 q.s.o,.string q.s.n,.slice q.s.a q.s.l q.s.c,.slice q.s.b q.s.m q.s.e,.int .u8 q.f.o,.string q.f.n,.slice q.f.a q.f.l q.f.c,.slice q.f.b q.f.m q.f.e,.slice q.a q.l q.c]
def gd.val(q:gd):Value:=.agg q.cells
def Bk(ps:List (aj×aj))(x:aj)(k:Nat):Option aj:=cm.go x (ps.take k).reverse ((ps.drop k).map (·.1))
theorem Q5(ps:List (aj×aj))(x:aj):Bk ps x ps.length=cm ps.reverse x:=by
 unfold Bk cm;rw[dA,List.drop_length];rfl
theorem NC(ps:List (aj×aj))(x:aj):Bk ps x 0=some x:=by simp[Bk,cm.go]
theorem ND{ps:List (aj×aj)}{k:Nat}(h:k<ps.length):Bk ps x (k+1)=if ps[k].2==x then(if((ps.drop (k+1)).map (·.1)).contains ps[k].1 then none else some (cg ps[k].1))else Bk ps x k:=by
 unfold Bk;rw[lq h,List.reverse_append,List.reverse_singleton,List.singleton_append];have hd:(ps.drop k).map (·.1)=ps[k].1::(ps.drop (k+1)).map (·.1):=by rw[iL h];rfl
 rw[hd];obtain⟨⟨s,a⟩,hsa⟩:∃p,p=ps[k]:=⟨_,rfl⟩;rw[<-hsa];rfl
theorem F2(q:gd)(ps:List (aj×aj))(oe:ps.length<=1000000)(hps:∀p∈ps,p.1.length<=2000000)(x:aj)(w:World)(hv:cw w (.slice q.a q.l q.c) ps):
  Calls prog 161 #[q.val,.string ⟨x.toArray⟩] w fun e w'=>e=.returned (.tuple #[.string ⟨((cm ps.reverse x).getD []).toArray⟩,.bool (cm ps.reverse x).isSome])/\Below w.heap.size w w':=by
 obtain⟨⟨so,sn,sa,sl,sc,sb,sm,se⟩,⟨fo,fn,fa,fl,fc,fb,fm,fe⟩,qa,ql,qc⟩:=q;obtain rfl:=hv.len;have⟨R,hR⟩:=az (cm ps.reverse x);rw[<-hR];rw[<-Q5]at hR;have⟨k0,cD⟩:=az ps.length;rw[<-cD]at oe hR;simp only at hv;have yA:=hv.cap;have⟨HPs,HV⟩:=bi hps hv;rw[<-cD]at yA;unfold gd.val gd.cells;simp only;rw[<-cD];have⟨HR,wH⟩:=bi hR cD;have⟨W1,cC⟩:=az (w.alloc (.cells #[.int .u8 so,.string sn,.slice sa sl sc,.slice sb sm se,.int .u8 fo,.string fn,.slice fa fl fc,.slice fb fm fe,.slice qa k0 qc] 89));have hb1:=dj cC;have hx1:=cA cC;have⟨kf,eQ,kJ⟩:=cU cC hb1 hx1;clear cD hR hps hv cC hb1 hx1;go_enter func161,ntmps161;go_wp2;rw[<-kf.o];go_loopw [6] (fun i wr=>∃k:Nat,k<=k0/\i=.int .i64 ((k:Int)-1)/\Below W1.heap.size W1 wr/\R=Bk ps x k) (fun i _=>(intOf i+1).toNat)
 case atStart=>exact⟨k0,aK _,rfl,ar _ _,HR.o⟩
 case round=>
  obtain⟨k,hk,rfl,aD,ht⟩:=hrel;have⟨wo,IU⟩:=az wr;subst IU;have b1:=bY aD kJ.o
  cases k with
  |zero=>
   have HE:=ae (show R=some x by rw[ht,NC]);have HB:=ae (eQ.o.tr aD);have hd0:decide ((0:Int)<=((0:Nat):Int)-1)=false:=by simp
   clear aD ht b1;go_wp2;refine bX (v:=.tuple #[.string ⟨x.toArray⟩,.bool true]) (by simp[results,results161,go_sem]) rfl ⟨by rw[HE.o];rfl,HB.o⟩
  |succ j=>
   have lG:j<ps.length:=by rw[<-wH.o];omega
   obtain⟨b,off,rfl,c0,c1⟩:=HV.o.get lG;rw[ND lG]at ht;have⟨s,hs⟩:=az (ps[j].1);have⟨a,ha⟩:=az (ps[j].2);rw[<-hs,<-ha]at ht;rw[<-hs]at c0;rw[<-ha]at c1;have hsl:s.length<=2000000:=by rw[hs];exact HPs.o _ (aH lG)
   have d0:=aa (eQ.o.tr aD) c0;have d1:=aa (eQ.o.tr aD) c1;have x8:=ao b1 8;have Xk:(((j+1:Nat):Int)-1)=(j:Int):=by omega
   have bU:Below wo.heap.size wo (wo.alloc (.cells #[.string ⟨s.toArray⟩,.string ⟨a.toArray⟩] 213)):=dp;have y8:=aa bU x8;have hy:=aq (w:=wo) (o:=.cells #[.string ⟨s.toArray⟩,.string ⟨a.toArray⟩] 213) rfl;have y0:(wo.alloc (.cells #[.string ⟨s.toArray⟩,.string ⟨a.toArray⟩] 213)).cell? ⟨wo.heap.size,0,none⟩=some (.string ⟨s.toArray⟩):=ao hy 0;have y1:(wo.alloc (.cells #[.string ⟨s.toArray⟩,.string ⟨a.toArray⟩] 213)).cell? ⟨wo.heap.size,1,none⟩=some (.string ⟨a.toArray⟩):=ao hy 1;have cQ:=ae (aD.tr bU);have HY:=ae hy;rw[Xk];have J':(j:Int)<(k0:Int):=by omega
   by_cases hax:a=x
   ·subst hax;simp only[beq_self_eq_true,if_true]at ht;have HT:=ae ht;have⟨r0,hr0⟩:=az (k0-(j+1));have F3:j+1<=k0:=by omega
    have⟨HR0,HSl⟩:=bi hr0 hsl;clear ht aD b1 c0 c1 hs ha bU hy hsl;go_wp2
    all_goals (
     rw[<-HR0.o];go_loopw [33] (fun i wr=>∃q:Nat,q<=r0/\i=.int .i64 q/\Below (wo.alloc (.cells #[.string ⟨s.toArray⟩,.string ⟨a.toArray⟩] 213)).heap.size (wo.alloc (.cells #[.string ⟨s.toArray⟩,.string ⟨a.toArray⟩] 213)) wr/\∀p (hp:p<ps.length),j+1<=p->p<j+1+q->ps[p].1≠s) (fun i _=>r0-(intOf i).toNat)
     case atStart=>exact⟨0,by omega,rfl,ar _ _,fun p hp h1 h2=>by omega⟩
     case round=>
      obtain⟨q,hq,rfl,dS,jd⟩:=hrel;have z0:=aa dS y0
      by_cases hlt:q<r0
      ·have zgW:=HR0.o
       first
       |omega
       | (have oe:j+1+q<ps.length:=by have:=wH.o;have:=HR0.o;omega
          obtain⟨b',kQ,dz,e0,e1⟩:=HV.o.get oe;cases dz;have⟨s2,lw⟩:=az (ps[j+1+q].1);have⟨a2,ha2⟩:=az (ps[j+1+q].2);rw[<-lw]at e0;rw[<-ha2]at e1;have l9:=(eQ.o.tr cQ.o).tr dS;have⟨f0,f1⟩:=C8 l9 e0 e1;have zag:off+(j+1+q)*2=off+(j+1)*2+q*2:=by omega
          rw[zag]at f0 f1;have aS:Below wr.heap.size wr (wr.alloc (.cells #[.string ⟨s2.toArray⟩,.string ⟨a2.toArray⟩] 213)):=dp;have z1:=aa aS z0;have oh:=ae (dS.tr aS)
          by_cases Ty:s2=s
          ·have HE:=ae (show R=none by
            rw[HT.o,aG];simp only[List.contains_iff_mem,List.mem_map];refine⟨ps[j+1+q],List.mem_iff_getElem.2 ⟨q,by rw[List.length_drop];omega,by rw[List.getElem_drop]⟩,by rw[<-Ty,lw]⟩)
           subst Ty;clear dS jd l9 zag aS e0 e1 lw ha2;go_wp2;refine bX (v:=.tuple #[.string ⟨#[]⟩,.bool false]) (by simp[results,results161,go_sem]) rfl ⟨by rw[HE.o];rfl,(eQ.o.tr cQ.o).tr oh.o⟩
          ·have Ae:(s2==s)=false:=by simpa using Ty
           have HN:=ae (show ∀ p (hp:p<ps.length),j+1<=p->p<j+1+(q+1)->ps[p].1≠s from fun p hp h1 h2=>by
            by_cases e:p=j+1+q
            ·subst e;rw[<-lw];exact Ty
            ·exact jd p hp h1 (by omega))
           clear dS jd l9 zag aS e0 e1 lw ha2;go_wp2;go_roundw
           case rel=>exact⟨q+1,by omega,by go_num,oh.o,HN.o⟩
           case measure=>simp[intOf];omega)
      ·obtain rfl:q=r0:=by omega
       have HE:=ae (show R=some (cg s) by
        rw[HT.o,aw];simp only[List.contains_iff_mem,List.mem_map];rintro⟨p,hp,rfl⟩;obtain⟨i,hi,rfl⟩:=List.mem_iff_getElem.1 hp;rw[List.length_drop]at hi;rw[List.getElem_drop]at jd;exact jd (j+1+i) (by omega) (by omega) (by have:=wH.o;have:=HR0.o;omega) rfl)
       have CH:=ie s wr (by have:=HSl.o;omega);have⟨HCH,oh⟩:=bi CH dS;clear dS jd CH;go_wp2_with (go_at_call 130;refine HCH.o.mono ?_;rintro e w5 ⟨rfl,rfl⟩);refine bX (v:=.tuple #[.string ⟨(cg s).toArray⟩,.bool true]) (by simp[results,results161,go_sem]) rfl ⟨by rw[HE.o];rfl,(eQ.o.tr cQ.o).tr oh.o⟩)
   ·have FN:(a==x)=false:=by simpa using hax
    simp only[FN,bR,if_false]at ht;have HT:=ae ht;clear ht aD b1 c0 c1 hs ha bU hy hsl;go_wp2;go_roundw
    case rel=>exact⟨j,by omega,by go_num,cQ.o,HT.o⟩
    case measure=>simp[intOf]
theorem sE{c:gO}{l:List Tm}{k:Nat}(h:k<l.length):eY c ins (l.take (k+1))=match eY c ins (l.take k),iO c ins l[k]with|some us,some u=>some (us++[u])|_,_=>none:=by
 induction l generalizing k with
 |nil=>simp at h
 |cons t l ih=>
  cases k with
  |zero=>
   simp only[List.take_succ_cons,List.take_zero,List.getElem_cons_zero,eY];cases iO c ins t<;>rfl
  |succ k=>
   have:=ih (k:=k) (by simpa using h);simp only[List.take_succ_cons,List.getElem_cons_succ,eY];rw[this];cases iO c ins t<;>cases eY c ins (l.take k)<;>cases iO c ins (l[k]'(by simpa using h))<;>rfl
theorem DN{c:gO}{l:List Tm}{t:Tm}(ht:t∈l)(h:iO c ins t=none):eY c ins l=none:=by
 induction l with
 |nil=>cases ht
 |cons u l ih=>
  rcases dc.1 ht with rfl|ht
  ·simp[eY,h]
  ·simp only[eY,ih ht];cases iO c ins u<;>rfl
theorem j6{W:World}{q:gd}(h:W.heap[B]?=some (.cells q.cells T (0,0))):
  W.cell? ⟨B,0,none⟩=some (.int .u8 q.s.o)/\W.cell? ⟨B,1,none⟩=some (.string q.s.n)/\W.cell? ⟨B,2,none⟩=some (.slice q.s.a q.s.l q.s.c)/\W.cell? ⟨B,3,none⟩=some (.slice q.s.b q.s.m q.s.e)/\W.cell? ⟨B,4,none⟩=some (.int .u8 q.f.o)/\W.cell? ⟨B,5,none⟩=some (.string q.f.n)/\W.cell? ⟨B,6,none⟩=some (.slice q.f.a q.f.l q.f.c)/\W.cell? ⟨B,7,none⟩=some (.slice q.f.b q.f.m q.f.e)/\W.cell? ⟨B,8,none⟩=some (.slice q.a q.l q.c):=
 ⟨ao h 0,ao h 1,ao h 2,ao h 3,ao h 4,ao h 5,ao h 6,ao h 7,ao h 8⟩
theorem sT(hx:X.heap[B]?=some (.cells #[c0,c1,c2] T (0,0)))(v0 v1 v2:Value):∃W6,W6=((X.setCell ⟨B,0,none⟩ v0).setCell ⟨B,1,none⟩ v1).setCell ⟨B,2,none⟩ v2/\W6.heap[B]?=some (.cells #[v0,v1,v2] T (0,0))/\Kp (fun b=>b=B) X W6/\W6.cell? ⟨B,0,none⟩=some v0/\W6.cell? ⟨B,1,none⟩=some v1/\W6.cell? ⟨B,2,none⟩=some v2:=
 have h:=sN (v0:=v0) (v1:=v1) (v2:=v2) hx
 ⟨_,rfl,h,fW,ao h 0,ao h 1,ao h 2⟩
theorem ir(hx:X.heap[B]?=some (.cells #[c0,c1,c2] T (0,0))):X.cell? ⟨B,0,none⟩=some c0/\X.cell? ⟨B,1,none⟩=some c1/\X.cell? ⟨B,2,none⟩=some c2/\X.frozen? ⟨B,0,none⟩=false/\X.frozen? ⟨B,1,none⟩=false/\X.frozen? ⟨B,2,none⟩=false:=
 ⟨ao hx 0,ao hx 1,ao hx 2,ai hx 0,ai hx 1,ai hx 2⟩
theorem vK(q:gd)(ps:List (aj×aj))(oe:ps.length<=1000000)(hps:∀p∈ps,p.1.length<=2000000)(L ins:List aj)(hL:L.length<=2000000)(Tz:∀y,L.contains y=ins.contains y)(okL:Nat->Prop)(vL:Value):
  ∀(t:Tm),e7 t->∀(ok:Nat->Prop)(w:World)(tq:TQ),cw w (.slice q.a q.l q.c) ps->fJ okL w vL L->aN ok w tq.val t→
  Calls prog 94 #[q.val,tq.val,vL] w fun e w'=>(∃p:TQ,e=.returned (.tuple #[p.val,.bool (iO ps.reverse ins t).isSome])/\∀u,iO ps.reverse ins t=some u->aN (w.heap.size<=·) w' p.val u)/\Below w.heap.size w w':=by
 obtain⟨i0,hi,oO,jv,iG⟩:=info_parts ib;have NE:=cH oe hps hL Tz;clear oe hps hL Tz;have qmQ:=();exact qav
theorem sF{c:gO}{l:List Fm}{k:Nat}(h:k<l.length):gC c ins (l.take (k+1))=match gC c ins (l.take k),f9 c ins l[k]with|some us,some u=>some (us++[u])|_,_=>none:=by
 induction l generalizing k with
 |nil=>simp at h
 |cons t l ih=>
  cases k with
  |zero=>
   simp only[List.take_succ_cons,List.take_zero,List.getElem_cons_zero,gC];cases f9 c ins t<;>rfl
  |succ k=>
   have:=ih (k:=k) (by simpa using h);simp only[List.take_succ_cons,List.getElem_cons_succ,gC];rw[this];cases f9 c ins t<;>cases gC c ins (l.take k)<;>cases f9 c ins (l[k]'(by simpa using h))<;>rfl
theorem DR{c:gO}{l:List Fm}{t:Fm}(ht:t∈l)(h:f9 c ins t=none):gC c ins l=none:=by
 induction l with
 |nil=>cases ht
 |cons u l ih=>
  rcases dc.1 ht with rfl|ht
  ·simp[gC,h]
  ·simp only[gC,ih ht];cases f9 c ins u<;>rfl
theorem tP(hx:X.heap[B]?=some (.cells #[c0,c1,c2,c3] T (0,0)))(v0 v1 v2 v3:Value):∃W6,W6=(((X.setCell ⟨B,0,none⟩ v0).setCell ⟨B,1,none⟩ v1).setCell ⟨B,2,none⟩ v2).setCell ⟨B,3,none⟩ v3/\W6.heap[B]?=some (.cells #[v0,v1,v2,v3] T (0,0))/\Kp (fun b=>b=B) X W6/\W6.cell? ⟨B,0,none⟩=some v0/\W6.cell? ⟨B,1,none⟩=some v1/\W6.cell? ⟨B,2,none⟩=some v2/\W6.cell? ⟨B,3,none⟩=some v3:=
 have h:=nJ (v0:=v0) (v1:=v1) (v2:=v2) (v3:=v3) hx
 ⟨_,rfl,h,ev,ao h 0,ao h 1,ao h 2,ao h 3⟩
theorem dw(hx:X.heap[B]?=some (.cells #[c0,c1,c2,c3] T (0,0))):X.cell? ⟨B,0,none⟩=some c0/\X.cell? ⟨B,1,none⟩=some c1/\X.cell? ⟨B,2,none⟩=some c2/\X.cell? ⟨B,3,none⟩=some c3/\X.frozen? ⟨B,0,none⟩=false/\X.frozen? ⟨B,1,none⟩=false/\X.frozen? ⟨B,2,none⟩=false/\X.frozen? ⟨B,3,none⟩=false:=
 ⟨ao hx 0,ao hx 1,ao hx 2,ao hx 3,ai hx 0,ai hx 1,ai hx 2,ai hx 3⟩
def js(W:World)(v:Value)(l:List aj):Prop:=∃a cap,v=.slice a l.length cap/\l.length<=cap/\((l=[]/\a=none/\cap=0)\/∃b off,a=some ⟨b,off,none⟩/\∀j (h:j<l.length),W.cell? ⟨b,off+j,none⟩=some (.string ⟨l[j].toArray⟩))
theorem js.strs{W:World}{l:List aj}(h:js W v l):fJ (fun _=>True) W v l:=by
 have up:=();exact qaJ
theorem js.later{W:World}{l:List aj}(h:js W v l)(hb:Below W.heap.size W W'):js W' v l:=by
 have an:=();exact qaJ
def js.Far(v:Value)(M:Nat->Prop):Prop:=∀b,v.ownBlock=some b->¬M b
theorem js.kp{W:World}{l:List aj}(h:js W v l)(hk:Kp M W W')(hf:js.Far v M):js W' v l:=by
 have GB:=();exact qaJ
theorem js.old{W:World}{l:List aj}(h:js W v l)(hl:l≠[]):∀b,v.ownBlock=some b->b<W.heap.size:=by
 obtain⟨a,cap,rfl,hc,h⟩:=h;rcases h with⟨h,_⟩|⟨b,off,rfl,h⟩
 ·exact absurd h hl
 ·intro b' hb;cases hb;exact World.block_lt_of_cell? W _ (h 0 (jR.2 hl))
theorem js.nil(W:World):js W (.slice none 0 0) []:=⟨none,0,rfl,aK _,.inl ⟨rfl,rfl,rfl⟩⟩
theorem js.own{W:World}{base n:Nat}{l:List aj}(h:W.ownsRow base 9 1 (.slice (some ⟨g,0,none⟩) n c) n (l.map encStr)):js W (.slice (some ⟨g,0,none⟩) n c) l:=by
 have hl:n=l.length:=by have:=h.1;simp at this;omega
 subst hl;obtain⟨a,cap,hv,hc,h⟩:=fK.strs (lo:=base) h;injection hv with h1 _ h3;subst h3;refine⟨_,_,rfl,hc,.inr ⟨g,0,rfl,fun j hj=>?_⟩⟩;rcases h with rfl|⟨b,off,ha,_,hcl⟩
 ·simp at hj
 ·rw[ha]at h1;injection h1 with h1;injection h1 with h1 h2;subst h1;subst h2;exact hcl j hj
theorem G8(q:gd)(ps:List (aj×aj))(oe:ps.length<=1000000)(hps:∀p∈ps,p.1.length<=2000000):
  ∀(f:Fm),cJ f->∀(L ins:List aj),L.length+ag f<=2000000->(∀y,L.contains y=ins.contains y)->∀(vL:Value)(ok:Nat->Prop)(w:World)(fq:FQ),cw w (.slice q.a q.l q.c) ps->(js w vL L/\∀b,vL.ownBlock=some b->b<w.heap.size)->aC ok w fq.val f→
  Calls prog 91 #[q.val,fq.val,vL] w fun e w'=>(∃p:FQ,e=.returned (.tuple #[p.val,.bool (f9 ps.reverse ins f).isSome])/\∀u,f9 ps.reverse ins f=some u->aC (w.heap.size<=·) w' p.val u)/\Below w.heap.size w w':=by
 have qmT:=();exact qaU
end
abbrev Bx:=Option Nat×Bool
def nu(L:Nat->Prop)(γ:Bx)(w:World)(b:Nat):Prop:=L b/\b<w.heap.size/\γ.1≠some b
def Gr(γ:Bx)(w:World)(eZ:Bx)(w':World):Prop:=
 (eZ=γ/\Below w.heap.size w w')\/(γ.1=none/\eZ=(some w.heap.size,false)/\w.heap.size<w'.heap.size/\Below w.heap.size w w')\/(∃b,γ=(some b,false)/\eZ=(some b,true)/\Kp (fun c=>c=b) w w')
theorem Gr.keep{γ:Bx}(h:Below w.heap.size w w'):Gr γ w γ w':=.inl ⟨rfl,h⟩
theorem Gr.refl{γ:Bx}:Gr γ w γ w:=.inl ⟨rfl,ar _ _⟩
theorem Gr.holds{γ eZ:Bx}(h:Gr γ w eZ w'):iN (nu L γ w) (nu L eZ w') w w':=by
 rintro b ⟨h1,h2,h3⟩ hlt;rcases h with⟨rfl,hb⟩|⟨_,rfl,_,hb⟩|⟨c,rfl,rfl,hk⟩
 ·exact⟨⟨h1,bP h2 hb.size,h3⟩,hb.block b hlt⟩
 ·exact⟨⟨h1,bP h2 hb.size,fun e=>by cases e;omega⟩,hb.block b hlt⟩
 ·exact⟨⟨h1,bP h2 hk.size,h3⟩,hk.same b hlt (fun e=>h3 (by rw[e]))⟩
def IG(M:Nat->Prop)(w0:World)(γ:Bx)(w:World):Prop:=Kp M w0 w/\(∀b,γ.1=some b->(w0.heap.size<=b\/M b)/\b<w.heap.size)/\∀b,M b->γ.1=some b/\(γ.2=false->w.heap[b]?=w0.heap[b]?)
theorem IG.step{γ eZ:Bx}(hG:Gr γ w eZ w')(h:IG M w0 γ w):IG M w0 eZ w':=by
 rcases hG with⟨rfl,hb⟩|⟨hn,rfl,hlt,hb⟩|⟨c,rfl,rfl,hk⟩
 ·exact⟨h.1.trans (Kp.below hb),fun b e=>⟨(h.2.1 b e).1,bP (h.2.1 b e).2 hb.size⟩,fun b hm=>⟨(h.2.2 b hm).1,fun e=>(hb.block b (h.2.1 b (h.2.2 b hm).1).2).trans ((h.2.2 b hm).2 e)⟩⟩
 ·exact⟨h.1.trans (Kp.below hb),fun b SC=>by cases SC;exact⟨.inl h.1.size,hlt⟩,fun b hm=>by have:=(h.2.2 b hm).1;rw[hn]at this;cases this⟩
 ·refine⟨⟨hk.os.trans h.1.os,hk.tape.trans h.1.tape,hk.output.trans h.1.output,aR h.1.size hk.size,fun b hb hm=>?_⟩,fun b e=>⟨(h.2.1 b e).1,bP (h.2.1 b e).2 hk.size⟩,fun b hm=>⟨(h.2.2 b hm).1,fun e=>by cases e⟩⟩;refine(hk.same b (bP hb h.1.size) (fun e=>?_)).trans (h.1.same b hb hm);rcases(h.2.1 c rfl).1 with h2|h2
  ·omega
  ·exact hm (e▸h2)
def Z4(kA kS k:Nat)(γ:Bx):Prop:=(k=kA->γ.1=none)/\(k=kS->γ.2=false)
def gV(L:Nat->Prop)(f:Fm)(v:Value)(γ:Bx)(w:World):Prop:=∃q:FQ,v=q.val/\aC (nu L γ w) w q.val f
def pN(L:Nat->Prop)(t:Tm)(v:Value)(γ:Bx)(w:World):Prop:=∃q:TQ,v=q.val/\aN (nu L γ w) w q.val t
def tQ(L:Nat->Prop)(l:List Fm)(v:Value)(γ:Bx)(w:World):Prop:=∃a c,v=.slice a l.length c/\eL (nu L γ w) w (.slice a l.length c) l
def oW(L:Nat->Prop)(l:List Tm)(v:Value)(γ:Bx)(w:World):Prop:=∃a c,v=.slice a l.length c/\cB (nu L γ w) w (.slice a l.length c) l
def l_(L:Nat->Prop)(b:Bd)(v:Value)(γ:Bx)(w:World):Prop:=∃q:BQ,v=q.val/\fH (nu L γ w) w q b
def TJ(L:Nat->Prop)(l:List aj)(v:Value)(γ:Bx)(w:World):Prop:=fJ (nu L γ w) w v l
theorem gV.step{γ eZ:Bx}(hG:Gr γ w eZ w'):gV L f v γ w->gV L f v eZ w':=fun⟨q,e,h⟩=>⟨q,e,h.move hG.holds⟩
theorem pN.step{f:Tm}{γ eZ:Bx}(hG:Gr γ w eZ w'):pN L f v γ w->pN L f v eZ w':=fun⟨q,e,h⟩=>⟨q,e,h.move hG.holds⟩
theorem tQ.step{f:List Fm}{γ eZ:Bx}(hG:Gr γ w eZ w'):tQ L f v γ w->tQ L f v eZ w':=fun⟨a,c,e,h⟩=>⟨a,c,e,h.move hG.holds⟩
theorem oW.step{f:List Tm}{γ eZ:Bx}(hG:Gr γ w eZ w'):oW L f v γ w->oW L f v eZ w':=fun⟨a,c,e,h⟩=>⟨a,c,e,h.move hG.holds⟩
theorem l_.step{f:Bd}{γ eZ:Bx}(hG:Gr γ w eZ w'):l_ L f v γ w->l_ L f v eZ w':=fun⟨q,e,h⟩=>⟨q,e,h.move hG.holds⟩
theorem TJ.step{l:List aj}{γ eZ:Bx}(hG:Gr γ w eZ w'):TJ L l v γ w->TJ L l v eZ w':=fun h=>h.move hG.holds
theorem nu.new{γ:Bx}(hI:IG M w0 γ w)(hlo:∀b,w.heap.size<=b->L b):iN (w.heap.size<=·) (nu L γ w') w' w':=fun b hb hlt=>
 ⟨⟨hlo b hb,hlt,fun e=>by
  have:=(hI.2.1 b e).2;have SC:w.heap.size<=b:=hb;omega⟩,rfl⟩
theorem gV.new{γ:Bx}(hI:IG M w0 γ w)(hlo:∀b,w.heap.size<=b->L b){q:FQ}(h:aC (w.heap.size<=·) w' q.val f):gV L f q.val γ w':=⟨q,rfl,h.move (nu.new hI hlo)⟩
def Lb(L:Nat->Prop)(cs:Array Value)(T:TypeId)(m:Nat)(v:Value)(γ:Bx)(w:World):Prop:=∃b,v=.slice (some ⟨b,0,none⟩) m m/\nu L γ w b/\w.heap[b]?=some (.cells cs T (0,0))
theorem Lb.step{cs:Array Value}{m:Nat}{γ eZ:Bx}(hG:Gr γ w eZ w'):Lb L cs T m v γ w->Lb L cs T m v eZ w':=fun⟨b,e,h1,h2⟩=>
 have h:=hG.holds b h1 (bQ h2)
 ⟨b,e,h.1,h.2.trans h2⟩
theorem Lb.new{γ:Bx}(hI:IG M w0 γ w)(hlo:∀b,w.heap.size<=b->L b)(cs:Array Value)(T:TypeId)(m:Nat):Lb L cs T m (.slice (some ⟨w.heap.size,0,none⟩) m m) γ (w.alloc (.cells cs T)):=
 ⟨_,rfl,(nu.new hI hlo _ (aK _) (by simp)).1,aq rfl⟩
def DS(l:List aj)(v:Value)(γ:Bx)(w:World):Prop:=js w v l/\∀b,v.ownBlock=some b->nu (fun _=>True) γ w b
theorem DS.step{l:List aj}{γ eZ:Bx}(hG:Gr γ w eZ w'):DS l v γ w->DS l v eZ w':=by
 rintro⟨⟨a,cap,rfl,hc,h⟩,h2⟩;have h3:∀b,(Value.slice a l.length cap).ownBlock=some b->nu (fun _=>True) eZ w' b/\w'.heap[b]?=w.heap[b]?:=fun b hb=>hG.holds b (h2 b hb) (h2 b hb).2.1;refine⟨⟨a,cap,rfl,hc,?_⟩,fun b hb=>(h3 b hb).1⟩;rcases h with h|⟨b,off,rfl,h⟩
 ·exact .inl h
 ·exact .inr ⟨b,off,rfl,fun j hj=>(World.cell?_of_block (a:=⟨b,off+j,none⟩) (h3 b rfl).2).trans (h j hj)⟩
def DT(z:Array Value)(T:TypeId)(v:Value)(γ:Bx)(w:World):Prop:=∃b,v=.pointer (some ⟨b,0,none⟩)/\γ.1=some b/\b<w.heap.size/\(γ.2=false->w.heap[b]?=some (.cells z T (0,0)))
theorem DT.step{γ eZ:Bx}(hG:Gr γ w eZ w'):DT z T v γ w->DT z T v eZ w':=by
 rintro⟨b,rfl,h1,h2,h3⟩;rcases hG with⟨rfl,hb⟩|⟨h,_⟩|⟨c,rfl,rfl,hk⟩
 ·exact⟨b,rfl,h1,bP h2 hb.size,fun h=>(hb.block b h2).trans (h3 h)⟩
 ·rw[h]at h1;cases h1
 ·exact⟨b,rfl,h1,bP h2 hk.size,fun h=>by cases h⟩
def NM(R:Array Value->Bx->World->Prop)(T:TypeId)(γ:Bx)(w:World):Prop:=∃b cs,γ=(some b,true)/\w.heap[b]?=some (.cells cs T (0,0))/\R cs γ w
theorem NM.step{R:Array Value->Bx->World->Prop}{γ eZ:Bx}(hR:∀cs,R cs γ w->R cs eZ w')(hG:Gr γ w eZ w'):NM R T γ w->NM R T eZ w':=by
 rintro⟨b,cs,rfl,h2,h3⟩;rcases hG with⟨rfl,hb⟩|⟨h,_⟩|⟨c,h,_⟩
 ·exact⟨b,cs,rfl,(hb.block b (bQ h2)).trans h2,hR cs h3⟩
 ·cases h
 ·cases h
theorem yC{γ:Bx}(o:Obj)(h:γ.1=none):Gr γ w (some w.heap.size,false) (w.alloc o):=.inr (.inl ⟨h,rfl,by simp,dp⟩)
theorem uK{γ:Bx}{n:Nat}:∀j,j≠kA->Z4 kA kS j γ->Z4 kA kS j (some n,false):=fun _ hj _=>⟨fun e=>absurd e hj,fun _=>rfl⟩
theorem yD:DT z T (.pointer (some ⟨w.heap.size,0,none⟩)) (some w.heap.size,false) (w.alloc (.cells z T)):=⟨_,rfl,rfl,by simp,fun _=>aq rfl⟩
theorem kn(h:Kp (fun c=>c=b) w w'):Gr (some b,false) w (some b,true) w':=.inr (.inr ⟨b,rfl,rfl,h⟩)
theorem oX:∀j,j≠kS->Z4 kA kS j (some b,false)->Z4 kA kS j (some b,true):=fun _ hj h=>⟨fun e=>h.1 e,fun e=>absurd e hj⟩
theorem bL{t:Array Value}{d:Nat}(h:t[d]?=some v):t.getD d undef=v:=by
 obtain⟨hlt,hv⟩:=Array.getElem?_eq_some_iff.1 h;simp[Array.getD,hlt,hv]
