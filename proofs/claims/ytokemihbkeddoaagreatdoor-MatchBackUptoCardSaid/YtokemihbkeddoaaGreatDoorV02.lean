/-
'least' and 'Fresh' of package subst;slices.Values at strings.
-/
import Derived.Test.YtokemihbkeddoaaGreatDoorV01
namespace Go.Proofs.YtokemihbkeddoaaGreatDoor
open Go Go.RowKit Lib
set_option maxRecDepth 100000
set_option maxHeartbeats 64000000
variable {ok M L:Nat->Prop} {W W' w X w' w0:World} {a:Option Addr} {n c j lo m b g i B kA kS:Nat} {l xs ins:List Str} {v c0 c1 c2 c3:Value} {e T:TypeId} {x:Str} {ops:Array Oper} {rest:List Oper} {o:Oper} {t:Tm} {f:Fm} {z:Array Value}
section
attribute [local go_sem] Oper.semAt_some
def StrsO (ok:Nat->Prop) (W:World) (v:Value) (l:List Str):Prop:=∃a cap,v=.slice a l.length cap/\l.length<=cap/\(l=[]\/∃b off,a=some ⟨b,off,none⟩/\ok b/\∀ j (h:j<l.length),W.cell? ⟨b,off+j,none⟩=some (.string ⟨l[j].toArray⟩))
theorem StrsO.get (h:StrsO ok W (.slice a n c) l) (hj:j<l.length) :
  ∃b off,a=some ⟨b,off,none⟩/\ok b/\W.cell? ⟨b,off+j,none⟩=some (.string ⟨l[j].toArray⟩):=by
 have qmg:=();exact qbi
theorem StrsO.slice (h:StrsO ok W v l):∃a c,v=.slice a l.length c:=by obtain ⟨a,c,hv,_⟩:=h;exact ⟨a,c,hv⟩
theorem StrsO.move {ok':Nat->Prop} (h:StrsO ok W v l) (hb:gF ok ok' W W'):StrsO ok' W' v l:=by
 have qmh:=();exact qaH
theorem StrsO.later (h:StrsO ok W v l) (hb:Below W.heap.size W W'):StrsO ok W' v l:=h.move (dI hb)
theorem RowS.strs (h:RowS lo W v l):StrsO (lo<=·) W v l:=by
 obtain ⟨⟨hl,h1⟩,_⟩:=h;exact qex
theorem Lu (a:Option Addr) (n c:Nat) (w:World) :
  Calls Tryz.prog 199 #[.slice a n c] w fun e w'=>e=.returned (.func (.func 249) #[] #[.pointer (some ⟨w.heap.size,0,none⟩)])/\w'=w.alloc (.cells #[.slice a n c] 66):=by
 go_enter Tryz.func199,Tryz.ntmps199;go_wp2;go_ret;exact ⟨rfl,rfl⟩
theorem I2 {α:Type} {l:List α} {k:Nat} (h:k<l.length):(l.take k ++ [l[k]]) <+: l:=by
 rw[<-mh h];exact List.take_prefix _ _
theorem Lv (xs:List Str) (hl:xs.length<=2000000) (M:Nat->Prop) (X:Nat) (w:World) (a:Option Addr) (c:Nat) (hX:w.heap[X]?=some (.cells #[.slice a xs.length c] 66 (0,0))) (KQ:¬M X) (hv:StrsO (fun b=>¬M b) w (.slice a xs.length c) xs) :
  La M False Tryz.prog 249 #[.pointer (some ⟨X,0,none⟩)] xs AY w:=by
 intro l J Jx W hk hM hlt hlM hJ _ hY hj;have Uz:=(bA hX);have z':=(hk.same X Uz KQ).trans hX;have c0:W.cell? ⟨X,0,none⟩=some (.slice a xs.length c):=ag z' 0;have hv:=hv.move (W':=W) (ok':=fun b=>¬M b) (fun b hb hlt=>⟨hb,hk.same b hlt hb⟩);have ⟨m0,tW⟩:=aj xs.length;rw[<-tW]at c0 hl hv;have ⟨gt,HV,HY⟩:=cE tW hv hY;have HJ0:=ab (show J (xs.take 0) W from hj);clear hX KQ hv hY hj tW z' hk hM hlt hlM hJ Uz;refine nG Tryz.func249 ?_;simp only[Tryz.ntmps249,Nat.reduceAdd,Nat.reduceSub,lE];have jx:=eU;gi_wp2;gi_loopw [7] (fun i wr=>∃k:Nat,k<=m0/\i=.int .i64 k/\J (xs.take k) wr/\Kp M W wr) (fun i _=>m0 - (intOf i).toNat)
 case atStart=>exact ⟨0,aX _,rfl,HJ0.o,Kp.refl _⟩
 case round=>
  have qmi:=();exact qau
theorem tX {H:Type} {P:Program} (he:P.underlying e=some .bool) {z:DataW H×List MemPlace} (h:plainElem P e v=some z) {x:Bool} (hx:z.1=.lit (.bool x)):v=.bool x:=by
 unfold plainElem at h;rw[he]at h;cases v <;> simp at h
 subst h;simp at hx;rw[hx]
theorem SetW.look (h:SetW W m n xs) (hx:x.length<=2000000) :
  ∀ W':World,W'.heap[m]?=W.heap[m]?->(Instr.lookup 118 (.map (some m)) (.string ⟨x.toArray⟩) false).run Tryz.prog W'=.ok (.bool (xs.contains x)) W':=by
 obtain ⟨D,⟨es,AZ,hb,F,hs,hD⟩,pz,qA⟩:=h;intro W' hW;have hz:(zeroValue 4).run Tryz.prog W'=.ok (.bool false) W':=by kernel_rfl
 rcases Maps.fit_look false (Maps.string_keyed Tryz.underlying9) Tryz.underlying118 hz (hW.trans hb) F (yb Tryz.underlying9 hx) with ⟨hr,_,hat⟩ | ⟨e0,y,_,_,hr,hR,hat,_⟩
 ·rw[<-hD]at hat;have h0:=Maps.has_false_of_atKey hat;have hn:¬x∈xs:=fun hm=>by rw[(pz x).2 hm]at h0;cases h0
  rw[hr];simp[hn]
 ·rw[<-hD]at hat;have hm:=(pz x).1 (Maps.has_true_of_atKey hat);have h1:=(hat .nil).symm.trans (qA x hm .nil);have h2:=tX Tryz.underlying4 hR h1;rw[hr,h2];simp[hm]
def zaX (W:World) (v:Value) (I3:List (List Str)):Prop:=∃b off cap,v=.slice (some ⟨b,off,none⟩) I3.length cap/\∀ j (h:j<I3.length),∃m n,W.cell? ⟨b,off+j,none⟩=some (.map (some m))/\SetW W m n I3[j]
theorem zo (h:SetW W m n xs) (hb:Below W.heap.size W W'):SetW W' m n xs:=h.same (hb.block m h.lt)
theorem OG (h:n<10 ^ 15):(iF n).length<=16:=by
 unfold iF;have:=Gt 20 n 15 h (by omega);simp;omega
theorem I4 (w:World) (k:Nat) (os:Array Obj):Below w.heap.size w (Go.Sort.grow (w.drewN k) os):=
 ⟨rfl,rfl,rfl,by simp[Go.Sort.grow],fun b hb=>by simp only[Go.Sort.grow,World.drewN];rw[Array.getElem?_append_left hb]⟩
theorem Rc (W0 w:World) (hT:Tabs W0 w) (k:Nat) (hk:k<1000000000):Calls Tryz.prog 219 #[.int .i64 (k:Int)] w fun e w'=>e=.returned (.string ⟨(Lib.itoa (k:Int)).toArray⟩)/\Below w.heap.size w w':=by
 refine (Tryz.strconv_Itoa (k:Int) (by omega) (by omega) w hT.t0.pow).mono ?_;rintro e w' ⟨rfl,n,os,rfl⟩;exact ⟨rfl,I4 _ _ _⟩
theorem OH (W0 w:World) (hT:Tabs W0 w) (v:Value) (I3:List (List Str)) (bW:I3.flatten.length<=100000000) (o8:I3.length<=2000000) (hv:zaX w v I3) :
  Calls Tryz.prog 156 #[v] w fun e w'=>e=.returned (.string ⟨(dL I3.flatten).toArray⟩)/\Below w.heap.size w w':=by
 obtain ⟨b,off,cap,rfl,de⟩:=hv;have ⟨T,hTt⟩:=aj I3.flatten;rw[<-hTt]at bW ⊢;have ⟨k0,cd⟩:=aj I3.length;rw[<-cd]at o8 ⊢;have ⟨HT,nD,du,sI⟩:=eD hT hTt cd de;clear hT hTt cd de;go_enter Tryz.func156,Tryz.ntmps156;go_wp2;go_step3;go_wp2;go_step3;go_wp2;go_loopg [3] (T.length+2) (fun g i wr=>∃k:Nat,k+g=T.length+2/\i=.int .i64 k/\(∀ j,1<=j->j<k+1->iF j∈T)/\Below w.heap.size w wr)
 case atStart=>exact ⟨0,by omega,rfl,fun j h1 h2=>by omega,ai _ _⟩
 case round=>
  obtain ⟨k,hkg,rfl,eJ,hB⟩:=hrel;have hkT:=Lt (t:=T) (by omega) eJ
  cases gk with
  | zero=>omega
  | succ g1=>
   have CI:=Rc W0 wr (HT.o.next hB) (k+1) (by omega);have z_:=OG (n:=k+1) (by omega);have hxi:=Ls (n:=k+1) (by omega);have ⟨nm,dD⟩:=aj (iF (k+1));rw[<-dD]at z_ hxi;obtain ⟨dg,hdg⟩:∃dg:List UInt8,dg=Lib.itoa ((k+1:Nat):Int):=⟨_,rfl⟩;rw[<-hdg]at CI hxi;have hsx:∀ W,(Op.stringOp .add ⟨#[120]⟩ ⟨dg.toArray⟩).run Tryz.prog W=.ok (.string ⟨nm.toArray⟩) W:=fun W=>by
    rw[run_string_add_sum W _ _ (by rw[hxi]at z_;simp at z_;have e:(⟨#[120]⟩:ByteArray).size=1:=rfl;have e2:(⟨dg.toArray⟩:ByteArray).size=dg.length:=rfl;rw[e,e2];omega),hxi];congr 2
   have ⟨XG,IQ,HXl,zaY,HB⟩:=qt CI dD z_ eJ hB;clear CI dD z_ hxi hdg eJ hB;go_wp2_with (go_at_call 219;refine XG.o.mono ?_;rintro e w2 ⟨rfl,bG⟩;have cv:=ab (HB.o.trans (bG.mono HB.o.size));clear bG);go_loopg [14] k0 (fun g i wr=>∃j:Nat,j+g=k0/\i=.int .i64 j/\(∀ (q:Nat) (hq:q<I3.length),q<j->nm ∉ I3[q])/\wr=w2)
   case atStart=>exact ⟨0,by omega,rfl,fun q hq h=>by omega,rfl⟩
   case round=>
    obtain ⟨j,hjg,rfl,K8,rfl⟩:=hrel
    cases gk with
    | zero=>
     obtain rfl:j=k0:=by omega
     have HE:=ab (show dL T=nm by
      rw[IQ.o];refine I0 (by omega) (by omega) ?_ zaY.o;rw[<-IQ.o,nD.o];intro hm;obtain ⟨l,hl,hx⟩:=List.mem_flatten.1 hm;obtain ⟨q,hq,rfl⟩:=List.getElem_of_mem hl;exact K8 q hq (by rw[du.o];exact hq) hx)
     clear K8;go_wp2;rw[Exit.noGoto_ret];go_ret;exact ⟨by rw[HE.o];rfl,cv.o⟩
    | succ g=>
     have le:j<I3.length:=by rw[<-du.o];omega
     obtain ⟨m,n,hc,hs⟩:=sI.o j le;have hc:=aa cv.o hc;have hl:=(zo hs cv.o).look (x:=nm) (by have:=HXl.o;omega) wr rfl;have KP:(j:Int)<(k0:Int):=by omega
     by_cases hx:I3[j].contains nm=true
     ·rw[hx]at hl;have HX:=ab (show iF (k+1)∈T by
       rw[<-IQ.o,nD.o];exact List.mem_flatten.2 ⟨_,ap le,by simpa using hx⟩)
      clear hx K8 hs;go_wp2;go_roundg g1
      case rel=>exact ⟨k+1,by omega,by go_num,fun i h1 h2=>by
       by_cases e:i=k+1
       ·subst e;exact HX.o
       ·exact zaY.o i h1 (by omega),cv.o⟩
      case measure=>omega
     ·rw[show I3[j].contains nm=false by simpa using hx]at hl;have HN:=ab (show ∀ (q:Nat) (hq:q<I3.length),q<j+1->nm ∉ I3[q] from fun q hq h=>by
       by_cases e:q=j
       ·subst e;simpa using hx
       ·exact K8 q hq (by omega))
      clear hx K8 hs;go_wp2;go_roundg g
      case rel=>exact ⟨j+1,by omega,by go_num,HN.o,rfl⟩
      case measure=>omega
theorem Fb (W0 w:World) (hT:Tabs W0 w) (xs:List Str) (hl:xs.length<=1000000) (dD:∀ x∈xs,x.length<=2000000) (ok:Nat->Prop) (v:Value) (hv:StrsO ok w v xs) :
  Calls Tryz.prog 129 #[v] w fun e w'=>e=.returned (.string ⟨(dL xs).toArray⟩)/\Below w.heap.size w w':=by
 obtain ⟨a,c,rfl⟩:=hv.slice;have Ed:=hv.move (ok':=fun b=>b<w.heap.size) (W':=w) (fun b hb hlt=>⟨hlt,rfl⟩);have ⟨W1,bY⟩:=aj (w.alloc (.cells #[.slice a xs.length c] 66));have hb1:=cM bY;have gG:=Gb bY;have sZ:=bS bY;have C2:=Gk xs (by omega) dD 249 #[.pointer (some ⟨w.heap.size,0,none⟩)] W1 (enters_of Tryz.func249 (by kernel_rfl) rfl)
  (fun w1 hb hlt=>Lv xs (by omega) (fun b=>b=W1.heap.size) w.heap.size w1 a c ((hb.block _ (by omega)).trans sZ) (by omega) (Ed.move (fun b bG eE=>⟨by omega,(hb.block b (by omega)).trans (hb1.block b eE)⟩)))
 rw[gG]at C2;have CL:=fun (w3:World) (hs:SetW w3 (w.heap.size+1) xs.length xs) (aG:Below (w.heap.size+1) W1 w3)=>
  have ia:Below w.heap.size w w3:=hb1.trans (aG.mono (by omega));have Ee:Below w3.heap.size w3 (w3.alloc (.cells #[.map (some (w.heap.size+1))] 118)):=cI
  (OH W0 (w3.alloc (.cells #[.map (some (w.heap.size+1))] 118)) (hT.next (ia.trans (Ee.mono ia.size))) (.slice (some ⟨w3.heap.size,0,none⟩) 1 1) [xs] (by simp;omega) (by simp) ⟨w3.heap.size,0,1,rfl,fun j hj=>by
    obtain rfl:j=0:=by simpa using hj
    exact ⟨_,_,ag (ah rfl) 0,zo hs Ee⟩⟩).mono (R':=fun e w'=>e=.returned (.string ⟨(dL [xs].flatten).toArray⟩)/\Below w.heap.size w w') (fun e w' h=>⟨h.1,(ia.trans (Ee.mono ia.size)).trans (h.2.mono (by simp;have:=ia.size;omega))⟩)
 have uM:[xs].flatten=xs:=by simp
 rw[uM]at CL;have ⟨tb,HCL⟩:=aS C2 CL;clear C2 CL hb1 gG sZ Ed hv hT uM;rw[bY]at tb HCL;clear bY;go_enter Tryz.func129,Tryz.ntmps129;go_wp2_with (first | (go_at_call 199;refine (Lu _ _ _ _).mono ?_;rintro e w2 ⟨rfl,rfl⟩) | (go_at_call 84;refine tb.o.mono ?_;rintro e w3 ⟨rfl,rV,aG⟩;have H3:=aA rV aG;clear rV aG) | (go_at_call 156;refine (HCL.o _ H3.o.1 H3.o.2).mono ?_;rintro e w5 ⟨rfl,bh⟩;have HR:=ab bh;clear bh));go_ret;exact ⟨rfl,HR.o⟩
end
def IntsV (W:World) (v:Value) (l:List Nat):Prop:=∃a cap,v=.slice a l.length cap/\l.length<=cap/\(l=[]\/∃b off,a=some ⟨b,off,none⟩/\∀ j (h:j<l.length),W.cell? ⟨b,off+j,none⟩=some (.int .i64 (l[j]:Nat)))
theorem IntsV.nil (W:World):IntsV W (.slice none 0 0) []:=⟨none,0,rfl,aC _,.inl rfl⟩
theorem IntsV.later {l:List Nat} (h:IntsV W v l) (hb:Below W.heap.size W W'):IntsV W' v l:=by
 have qey:=();exact qaH
theorem IntsV.slice {l:List Nat} (h:IntsV W v l):∃a c,v=.slice a l.length c:=by
 obtain ⟨a',cap,hv,_⟩:=h;exact ⟨_,_,hv⟩
theorem IntsV.get {l:List Nat} (h:IntsV W (.slice a n c) l) (hl:l≠[]) :
  ∃b off,a=some ⟨b,off,none⟩/\∀ j (h:j<l.length),W.cell? ⟨b,off+j,none⟩=some (.int .i64 (l[j]:Nat)):=by
 have qmj:=();exact qbi
def tY (l:List Nat):List Value:=l.map fun (i:Nat)=>Value.int .i64 (i:Int)
theorem IntsV.olds {b:Addr} {l:List Nat} (h:IntsV W (.slice (some b) n c) l):∀ j u,(tY l)[j]?=some u->W.cell? (b.add j)=some u:=by
 intro j u hu;unfold tY at hu;have hj:j<l.length:=by have:=(List.getElem?_eq_some_iff.1 hu).1;simpa using this
 obtain ⟨b',off,hb,hc⟩:=h.get (by intro h;rw[h]at hj;simp at hj);obtain rfl:b=⟨b',off,none⟩:=by injection hb
 rw[Addr.add_lit,hc j hj,<-hu];simp[hj]
theorem IntsV.own {base:Nat} {l:List Nat} (h:W.ownsRow base e 1 (.slice (some ⟨g,0,none⟩) n c) n (tY l)):IntsV W (.slice (some ⟨g,0,none⟩) n c) l:=by
 have qmk:=();exact qb9
theorem IntsV.one (c:Nat) (hc:1<=c) (h:W.heap[b]?=some (.cells #[.int .i64 (i:Int)] T (0,0))):IntsV W (.slice (some ⟨b,0,none⟩) 1 c) [i]:=
 ⟨_,c,rfl,hc,.inr ⟨b,0,rfl,fun j hj=>by simp at hj;subst hj;exact ag h 0⟩⟩
theorem Zx {x:Value} (base:Nat) (hb:base<=b) (h:W.heap[b]?=some (.cells #[x] T (0,0))):W.ownsRow base T 1 (.slice (some ⟨b,0,none⟩) 1 1) 1 [x]:=
 ⟨rfl,.inr ⟨b,1,#[x],rfl,hb,h,aC _,by unfold maxLen;omega,rfl,rfl⟩⟩
theorem I5:(Tryz.prog.info? 3).map (fun i=>(i.zero,i.size,i.bytes))=some (some (.int .i64 0),1,8):=by kernel_rfl
theorem yd {l:List Tm} {p:List Nat} (h:ev x l i=some p):p≠[]:=by
 induction l generalizing i with
 | nil=>simp[ev]at h
 | cons t l ih=>
  unfold ev at h
  cases hp:mi x t with
  | none=>rw[hp]at h;exact ih h
  | some q=>rw[hp]at h;injection h with h;rw[<-h];simp
theorem I6 {l:List Tm} {k:Nat} (h:k<l.length):ev x (l.drop k) k=match mi x l[k] with | some p=>some (k :: p) | none=>ev x (l.drop (k+1)) (k+1):=by
 rw[gB h,ev];cases mi x l[k] <;> rfl
theorem m6 {x:Str}:∀ (l:List Tm) (i:Nat) (p:List Nat),ev x l i=some p->p.length<=nodesTs l
 | [],i,p,h=>by simp[ev]at h
 | .mk v n a :: l,i,p,h=>by
  unfold ev at h;have h1:=m6 (x:=x) l (i+1);have h2:=m6 (x:=x) a 0;unfold nodesTs nodesT
  cases hp:mi x (.mk v n a) with
  | none=>rw[hp]at h;have:=h1 p h;omega
  | some q=>
   rw[hp]at h;injection h with h;unfold mi at hp;subst h
   by_cases hc:(v && n == x)=true
   ·rw[aw hc]at hp;injection hp with hp;subst hp;simp;omega
   ·rw[ak hc]at hp;have:=h2 q hp;simp;omega
def Zy (l:List Tm):Prop:=∀ (x:Str) (ok:Nat->Prop) (w:World) (a:Option Addr) (n c:Nat),fitTs l->TermsV ok w (.slice a n c) l →
 Calls Tryz.prog 229 #[.slice a n c,.string ⟨x.toArray⟩] w fun e w'=>(∃v,e=.returned v/\IntsV w' v ((ev x l 0).getD []))/\Below w.heap.size w w'
theorem No (l:List Tm) (ih:∀ t∈l,Zy t.a):Zy l:=by
 obtain ⟨i0,hi,ow,iM,gY⟩:=info_parts I5;intro x ok w a n c ar hl;obtain rfl:=hl.len;have bW:=ar.len;have ⟨k0,cd⟩:=aj l.length;have ⟨R,hR⟩:=aj (ev x l 0);rw[<-cd]at bW;rw[<-cd,<-hR];have ⟨du,HL,fd,HF,HR⟩:=qt cd hl ih ar hR;clear cd hl ih ar hR;go_enter Tryz.func229,Tryz.ntmps229;go_wp2;go_loopw [10] (fun i wr=>∃k:Nat,k<=k0/\i=.int .i64 k/\Below w.heap.size w wr/\R=ev x (l.drop k) k) (fun i _=>k0 - (intOf i).toNat)
 case atStart=>exact ⟨0,aX _,rfl,ai _ _,by simpa using HR.o⟩
 case round=>
  have qml:=();exact qaQ
theorem Re:∀ t:Tm,Zy t.a:=by
 intro t
 induction t using Tm.ind with
 | h v n a ih=>exact No a ih
theorem Ab (w:World) (b k:Nat) (hb:w.heap[b]?=some (.cells #[.int .i64 (k:Int)] 3 (0,0))) (p:List Nat) (v:Value) (hv:IntsV w v p) (hp:p.length<=2000000) (ty:TypeId) :
  ∃v' w',(Builtin.append_ #[218,218] ty #[.slice (some ⟨b,0,none⟩) 1 1,v]).run Tryz.prog w=.ok v' w'/\IntsV w' v' (k :: p)/\w.grownBy w' (some b):=by
 obtain ⟨i0,hi,ow,iM,gY⟩:=info_parts I5;have hlt:=(bA hb);obtain ⟨a,c,rfl⟩:=hv.slice
 by_cases h0:p=[]
 ·subst h0;have hs:Src Tryz.prog i0.size 218 (.slice a ([]:List Nat).length c) 0 [] w:=by
   cases a with
   | none=>exact Src.ofNil w Tryz.underlying218 c
   | some a=>exact Src.ofSlice w Tryz.underlying218 a 0 c [] (by simp) (by simp) (by simp)
  exact ⟨_,_,run_append_nothing w _ _ _ _ i0 Tryz.underlying218 hi (some ⟨b,0,none⟩) 1 1 (aC _) _ hs,IntsV.one 1 (aC _) hb,⟨rfl,rfl,rfl,aC _,fun _ _ _=>rfl⟩⟩
 ·obtain ⟨b2,off2,rfl,E5⟩:=hv.get h0;have oQ:=jp.2 h0;obtain ⟨g,cap,w',hr,h2,h3,_,_⟩:=run_append_lies (P:=Tryz.prog) w 218 ty 0 3 i0 (.int .i64 0) 1 8 Tryz.underlying218 hi ow iM gY rfl (by decide) (.slice (some ⟨b,0,none⟩) 1 1) 1 [.int .i64 (k:Int)] (Zx 0 (aX _) hb) ⟨b2,off2,none⟩ p.length c (tY p) (by simp[tY]) hv.olds (by simp[tY,Value.oneCell']) oQ (by unfold maxLen;omega) (by omega) (aX _) _ rfl;exact ⟨_,_,hr,IntsV.own (l:=k :: p) h2,h3⟩
theorem tZ {a:Act} {Q:Exit->Act->World->Prop} (uN:o.guard=none) (s x:Operand)
  (ho:o.op=.call { callee:=.builtin .append,args:=#[s,x],argTypes:=#[218,218] }) (b k:Nat) (hb:w.heap[b]?=some (.cells #[.int .i64 (k:Int)] 3 (0,0))) (p:List Nat) (v:Value) (hs:a.eval s=.slice (some ⟨b,0,none⟩) 1 1) (hx:a.eval x=v) (hv:IntsV w v p) (hp:p.length<=2000000)
  (h:∀ v' w',IntsV w' v' (k :: p)->w.grownBy w' (some b)->wpList Tryz.prog ops Q rest (a.put o.dst v') w'):wpList Tryz.prog ops Q (o :: rest) a w:=by
 refine wpList_plain uN fun K hK=>?_;obtain ⟨v',w',hr,h2,h3⟩:=Ab w b k hb p v hv hp o.type;have qmm:=();exact qca
theorem I7 {l:List Fm} {k:Nat} (h:k<l.length):lg x (l.drop k) k=match kv x l[k] with | some (p,q)=>some (k :: p,q) | none=>lg x (l.drop (k+1)) (k+1):=by
 rw[gB h,lg];cases kv x l[k] <;> rfl
mutual
theorem vM:∀ (f:Fm) (r:List Nat×List Nat),kv x f=some r->r.2≠[]/\r.1.length+1<=nodesF f/\r.2.length<=nodesF f
 | .mk o n a s,r,h=>by
  unfold kv at h;unfold nodesF
  cases hp:ev x a 0 with
  | some q=>
   rw[hp]at h;injection h with h;subst h;have:=m6 a 0 q hp;exact ⟨yd hp,by simp,by simp only;omega⟩
  | none=>
   rw[hp]at h;have:=Fc s 0 r h;exact ⟨this.1,by omega,by omega⟩
theorem Fc:∀ (l:List Fm) (i:Nat) (r:List Nat×List Nat),lg x l i=some r->r.2≠[]/\r.1.length<=nodesFs l/\r.2.length<=nodesFs l
 | [],i,r,h=>by simp[lg]at h
 | f :: l,i,r,h=>by
  unfold lg at h;unfold nodesFs
  cases hp:kv x f with
  | some q=>
   obtain ⟨q1,q2⟩:=q;rw[hp]at h;injection h with h;subst h;have:=vM f _ hp;exact ⟨this.1,by have:=this.2.1;simp only[eT]at *;omega,by have:=this.2.2;simp only at *;omega⟩
  | none=>
   rw[hp]at h;have:=Fc l (i+1) r h;exact ⟨this.1,by omega,by omega⟩
end
def zda (f:Fm):Prop:=∀ (x:Str) (ok:Nat->Prop) (w:World) (q:FQ),fitF f->FormV ok w q.val f →
 Calls Tryz.prog 165 #[q.val,.string ⟨x.toArray⟩] w fun e w'=>(∃v1 v2,e=.returned (.tuple #[v1,v2])/\IntsV w' v1 (((kv x f).map (·.1)).getD [])/\IntsV w' v2 (((kv x f).map (·.2)).getD []))/\Below w.heap.size w w'
theorem Rf:∀ f,zda f:=by
 intro f
 induction f using Fm.ind with
 | h uo xn xa xs ih=>
 intro x ok w q hf hq;have qmn:=();exact qez
theorem rY (b off j:Nat):(⟨b,off,none⟩:Addr).add j=⟨b,off+j,none⟩:=by unfold Addr.add;split <;> simp_all
theorem fT (l:List Str) (hl:l.length<=2000000) (x:Str) (ok:Nat->Prop) (w:World) (v:Value) (hv:StrsO ok w v l) :
  Calls Tryz.prog 128 #[v,.string ⟨x.toArray⟩] w fun e w'=>e=.returned (.bool (l.contains x))/\w'=w:=by
 obtain ⟨a,c,rfl,hc,h⟩:=hv
 by_cases h0:l=[]
 ·subst h0;exact Tryz.slices_Contains_string_empty a c ⟨x.toArray⟩ w
 ·rcases h with h | ⟨b,off,rfl,_,hcells⟩
  ·exact absurd h h0
  ·have hlm:(l.map fun s=>(⟨s.toArray⟩:ByteArray)).length=l.length:=by simp
   have:=Tryz.slices_Contains_string b off l.length c (l.map fun s=>⟨s.toArray⟩) ⟨x.toArray⟩ w (by simp) (by omega) (fun j hj=>by
    rw[hlm]at hj;rw[hcells j hj];simp[List.getD_eq_getElem?_getD,io hj])
   refine this.mono ?_;rintro e w' ⟨rfl,rfl⟩;refine ⟨?_,rfl⟩;congr 2;rw[iP (by simp)];rw[ip,Lib.containsS_iff];simp only[List.mem_map,List.contains_iff_mem];constructor
   ·rintro ⟨s,hs,he⟩;have:s=x:=by
     have h1:=congrArg (fun b:ByteArray=>b.data.toList) he;simpa using h1
    exact this ▸ hs
   ·exact fun h=>⟨x,h,rfl⟩
def OwnS (lo:Nat) (W:World) (v:Value) (l:List Str):Prop:=W.ownsRow lo 9 1 v l.length (l.map encStr)
theorem OwnS.strs (h:OwnS lo W v l):StrsO (lo<=·) W v l:=by
 obtain ⟨hl,h1⟩:=h;exact qex
theorem OwnS.held (h:OwnS lo W v l) (hb:∀ b,lo<=b->b<W.heap.size->W'.heap[b]?=W.heap[b]?):OwnS lo W' v l:=ba h (fun b h1 h2=>hb b h1 h2)
theorem OwnS.later (h:OwnS lo W v l) (hb:Below W.heap.size W W'):OwnS lo W' v l:=h.held (fun b _ hlt=>hb.block b hlt)
theorem By {base XI:Nat} {size:Nat} {k:Nat} {xs:List Value} (h:W.ownsRow base e size v k xs) (hb:XI<=base):W.ownsRow XI e size v k xs:=by
 obtain ⟨h1,h2⟩:=h;refine ⟨h1,?_⟩;rcases h2 with h2 | ⟨g,cap,cur,hv,hg,h3⟩
 ·exact .inl h2
 ·exact .inr ⟨g,cap,cur,hv,aN hb hg,h3⟩
theorem OwnS.base {lo':Nat} (h:OwnS lo W v l) (hb:lo'<=lo):OwnS lo' W v l:=By h hb
theorem OwnS.nil (lo:Nat) (W:World):OwnS lo W (.slice none 0 0) []:=⟨rfl,.inl ⟨rfl,rfl⟩⟩
theorem vN:(Tryz.prog.info? 9).map (fun i=>(i.zero,i.size,i.bytes))=some (some (.string ByteArray.empty),1,16):=by kernel_rfl
theorem oR (w:World) (lo:Nat) (hlo:lo<=w.heap.size) (v1:Value) (l1:List Str) (h1:OwnS lo w v1 l1) (v2:Value) (l2:List Str) (ok:Nat->Prop) (h2:StrsO ok w v2 l2) (hl:l1.length+l2.length<=4000000) (ty:TypeId) :
  ∃v' w',(Builtin.append_ #[66,66] ty #[v1,v2]).run Tryz.prog w=.ok v' w'/\OwnS lo w' v' (l1 ++ l2)/\w.grownBy w' v1.ownBlock:=by
 obtain ⟨i0,hi,ow,iM,gY⟩:=info_parts vN;obtain ⟨a,c,rfl⟩:=h2.slice
 by_cases h0:l2=[]
 ·subst h0;have hs:Src Tryz.prog i0.size 66 (.slice a ([]:List Str).length c) 0 [] w:=by
   cases a with
   | none=>exact Src.ofNil w Tryz.underlying66 c
   | some a=>exact Src.ofSlice w Tryz.underlying66 a 0 c [] (by simp) (by simp) (by simp)
  have Qy:∃p n c',v1=.slice p n c'/\n<=c':=by
   rcases h1.2 with ⟨rfl,h⟩ | ⟨g,cap,cur,rfl,_,_,hc,_⟩
   ·exact ⟨none,0,0,rfl,aC _⟩
   ·exact ⟨_,_,_,rfl,hc⟩
  obtain ⟨p,n,c',rfl,hn⟩:=Qy;exact ⟨_,_,run_append_nothing w _ _ _ _ i0 Tryz.underlying66 hi p n c' hn _ hs,by simpa using h1,⟨rfl,rfl,rfl,aC _,fun _ _ _=>rfl⟩⟩
 ·obtain ⟨b2,off2,rfl,_,E5⟩:=h2.get (j:=0) (jp.2 h0);have oQ:=jp.2 h0;have za2:∀ j (h:j<l2.length),w.cell? ⟨b2,off2+j,none⟩=some (.string ⟨l2[j].toArray⟩):=fun j hj=>by
   obtain ⟨b3,ZC,he,_,KN⟩:=h2.get hj;cases he;exact KN
  obtain ⟨g,cap,w',hr,h3,h4,_,_⟩:=run_append_lies (P:=Tryz.prog) w 66 ty lo 9 i0 (.string ByteArray.empty) 1 16 Tryz.underlying66 hi ow iM gY rfl (by decide) v1 l1.length (l1.map encStr) h1 ⟨b2,off2,none⟩ l2.length c (l2.map encStr) (by simp) (fun j u hu=>by
   rw[List.getElem?_map]at hu
   by_cases hj:j<l2.length
   ·rw[io hj]at hu;rw[rY,za2 j hj,<-hu];rfl
   ·rw[List.getElem?_eq_none (by omega)]at hu;cases hu) (by simp[encStr,Value.oneCell']) oQ (by unfold maxLen;omega) (by omega) hlo _ rfl
  refine ⟨_,_,hr,?_,h4⟩;unfold OwnS;rw[cU,List.map_append];exact h3
theorem ei {a:Act} {Q:Exit->Act->World->Prop} (uN:o.guard=none) (s x:Operand)
  (ho:o.op=.call { callee:=.builtin .append,args:=#[s,x],argTypes:=#[66,66] }) (lo:Nat) (hlo:lo<=w.heap.size) (v1:Value) (l1:List Str) (hs:a.eval s=v1) (h1:OwnS lo w v1 l1) (v2:Value) (l2:List Str) (hx:a.eval x=v2) (ok:Nat->Prop) (h2:StrsO ok w v2 l2) (hl:l1.length+l2.length<=4000000)
  (h:∀ v' w',OwnS lo w' v' (l1 ++ l2)->w.grownBy w' v1.ownBlock->wpList Tryz.prog ops Q rest (a.put o.dst v') w'):wpList Tryz.prog ops Q (o :: rest) a w:=by
 refine wpList_plain uN fun K hK=>?_;obtain ⟨v',w',hr,h3,h4⟩:=oR w lo hlo v1 l1 h1 v2 l2 ok h2 hl o.type;have qmo:=();exact qca
theorem qC {F:Fence} {a:Act} {Q:Exit->Act->World->Prop} (uN:o.guard=none) (s x:Operand)
  (ho:o.op=.call { callee:=.builtin .append,args:=#[s,x],argTypes:=#[66,66] }) (lo:Nat) (hlo:lo<=w.heap.size) (v1:Value) (l1:List Str) (hs:a.eval s=v1) (h1:OwnS lo w v1 l1) (v2:Value) (l2:List Str) (hx:a.eval x=v2) (ok:Nat->Prop) (h2:StrsO ok w v2 l2) (hl:l1.length+l2.length<=4000000)
  (h:∀ v' w',OwnS lo w' v' (l1 ++ l2)->w.grownBy w' v1.ownBlock->wpListIn F n Tryz.prog ops Q rest (a.put o.dst v') w'):wpListIn F n Tryz.prog ops Q (o :: rest) a w:=by
 refine wpListIn_plain uN fun K hK=>?_;obtain ⟨v',w',hr,h3,h4⟩:=oR w lo hlo v1 l1 h1 v2 l2 ok h2 hl o.type;unfold Oper.wpIn;refine ⟨by simp[Oper.about,ho,resolve,Target.leads,Sem.run_pure],?_⟩;rw[Oper.semAt_plain F _ _ (by rw[ho];intro c Zl;cases Zl)];have qmp:=();exact qcb
section
attribute [local go_sem] Oper.semAt_some
theorem _root_.Go.RowKit.Below.tr {a b c:World} (h:Below a.heap.size a b) (k:Below b.heap.size b c):Below a.heap.size a c:=h.trans (k.mono h.size)
def Rh (g:Nat) (lb:Array Value) (f:Str->Option Tm) (Wb:World):Prop:=∀ (n:Str) (W:World),n.length<=2000000->Below Wb.heap.size Wb W →
 Calls Tryz.prog g (#[.string ⟨n.toArray⟩] ++ lb) W fun e W'=>(∃q:TQ,e=.returned (.tuple #[q.val,.bool (f n).isSome])/\∀ u,f n=some u->TermV (fun _=>True) W' q.val u)/\Below W.heap.size W W'
def zdc (f:Str->Option Tm):Prop:=∀ n u,f n=some u->∀ (ok:Nat->Prop) (W:World) (q:TQ),TermV ok W q.val u->Calls Tryz.prog 218 #[q.val] W fun e w'=>(∃p:TQ,e=.returned p.val/\TermV (W.heap.size<=·) w' p.val u)/\Below W.heap.size W w'
theorem Bz (g:Nat) (lb:Array Value) (eg:∀ args W,(callFunc g args).run Tryz.prog W=.ok (.enter g args) W) (f:Str->Option Tm) (Wb:World) (hI:Rh g lb f Wb) (hC:zdc f):∀ (t:Tm),fitT t->∀ (ok:Nat->Prop) (w:World) (q:TQ),Below Wb.heap.size Wb w->TermV ok w q.val t →
  Calls Tryz.prog 154 #[q.val,.func (.func g) #[] lb] w fun e w'=>(∃p:TQ,e=.returned p.val/\TermV (w.heap.size<=·) w' p.val (gC f t))/\Below w.heap.size w w':=by
 obtain ⟨qJ,hi,Ar,xP,AT⟩:=info_parts gH;intro t
 induction t using Tm.ind with
 | h v n a ih=>
  intro ar ok w q cZ hq;have qmq:=();exact qaF
mutual
theorem Fd:∀ t,gC (fun _=>none) t=t
 | .mk v n a=>by cases v <;> simp[gC,BA a]
theorem BA:∀ l,sW (fun _=>none) l=l
 | []=>rfl
 | t :: l=>by simp[sW,Fd t,BA l]
end
theorem Gv:∀ args W,(callFunc 268 args).run Tryz.prog W=.ok (.enter 268 args) W:=enters_of Tryz.func268 (by kernel_rfl) rfl
theorem I9:∀ args W,(callFunc 232 args).run Tryz.prog W=.ok (.enter 232 args) W:=enters_of Tryz.func232 (by kernel_rfl) rfl
theorem Ly (Wb:World):Rh 268 #[] (fun _=>none) Wb:=by
 intro n W hn _;have sZ:(W.alloc (.cells #[.bool false,.string ⟨#[]⟩,.slice none 0 0] 43)).heap[W.heap.size]?=some (.cells #[.bool false,.string ⟨#[]⟩,.slice none 0 0] 43 (0,0)):=ah rfl;have qmr:=();exact qeA
theorem OI (t:Tm) (ar:fitT t) (ok:Nat->Prop) (w:World) (q:TQ) (hq:TermV ok w q.val t) :
  Calls Tryz.prog 218 #[q.val] w fun e w'=>(∃p:TQ,e=.returned p.val/\TermV (w.heap.size<=·) w' p.val t)/\Below w.heap.size w w':=by
 obtain ⟨qv,qn,qa,ql,qc⟩:=q;have ⟨W2,aZ⟩:=aj ((w.alloc (.cells #[.bool qv,.string qn,.slice qa ql qc] 43)).alloc (.cells #[.bool false,.string ⟨#[]⟩,.slice none 0 0] 43));have bG:=k_ aZ;have kf:=xC aZ;have y1:=jH aZ;have C:=Bz 268 #[] Gv (fun _=>none) W2 (Ly W2) (fun n u h=>by cases h) t ar ok W2 ⟨qv,qn,qa,ql,qc⟩ (ai _ _) (hq.later bG);rw[Fd]at C;simp only[TQ.val]at C;have HC:=ab C;have HY:=bx bG y1 kf;have fj:=ab aZ;clear C bG y1 kf aZ hq ar;unfold TQ.val;go_enter Tryz.func218,Tryz.ntmps218;go_wp2_with (rw[<-fj.o];go_at_call 154;refine HC.o.mono ?_;rintro e w5 ⟨⟨p5,rfl,qD⟩,bh⟩;obtain ⟨pv,pn,pa,pl,pc⟩:=p5;simp only at qD ⊢;have x1:=(bh.block _ (by have:=HY.o.2.2;omega)).trans HY.o.2.1;have e0:=ag x1 0;have e1:=ag x1 1;have e2:=ag x1 2;have z0:=ac x1 0;have z1:=ac x1 1;have z2:=ac x1 2;have H5:=cq qD (HY.o.1.tr bh) x1 bh.size;clear bh qD x1);have qms:=();exact qcc
theorem kg (W:World):(zeroValue 43).run Tryz.prog W=.ok (.agg #[.bool false,.string ⟨#[]⟩,.slice none 0 0]) W:=by kernel_rfl
def TermIn (w:World) (v:Value) (t:Tm):Prop:=∃q:TQ,v=q.val/\TermV (fun _=>True) w q.val t
theorem OJ (w Wb:World) (hwb:Below w.heap.size w Wb) (B m n:Nat) (l:List (Str×Tm)) (hB:Wb.cell? ⟨B,0,none⟩=some (.map (some m))) (hm:MapV Tryz.prog 9 (TermIn w) Wb m n l):Rh 232 #[.pointer (some ⟨B,0,none⟩)] (fun n=>getB l n) Wb:=by
 intro x W hx hb;have ⟨W1,bY⟩:=aj (W.alloc (.cells #[.bool false,.string ⟨#[]⟩,.slice none 0 0] 43));have hb1:=cM bY;have hc:W1.cell? ⟨B,0,none⟩=some (.map (some m)):=aa (hb.tr hb1) hB;have DW:W1.heap[m]?=Wb.heap[m]?:=(hb.tr hb1).block m hm.lt;rcases hm.look Tryz.underlying9 Tryz.underlying146 kg hx with ⟨hn,hr⟩ | ⟨u,v,hs,⟨⟨qv,qn,qa,ql,qc⟩,rfl,hq⟩,hr⟩
 ·have hr:=(hr W1 DW).1;rw[bY]at hr hc;simp only[hn,Option.isSome];clear hb1 DW bY hm hB hb hwb;have qmt:=();exact qeB
 ·have hr:=(hr W1 DW).1;rw[bY]at hr hc;simp only[hs,Option.isSome];have hqw:=(hq.later hwb).move (xH hb);clear hb1 DW bY hm hB hb hwb hq;simp only[TQ.val]at hr;exact qeB
end
def PairsV (W:World) (v:Value) (ps:List (Str×Str)):Prop:=∃a cap,v=.slice a ps.length cap/\ps.length<=cap/\((ps=[]/\a=none/\cap=0)\/∃b off,a=some ⟨b,off,none⟩/\∀ j (h:j<ps.length),W.cell? ⟨b,off+j * 2,none⟩=some (.string ⟨ps[j].1.toArray⟩)/\W.cell? ⟨b,off+j * 2+1,none⟩=some (.string ⟨ps[j].2.toArray⟩))
theorem PairsV.nil (W:World):PairsV W (.slice none 0 0) []:=⟨none,0,rfl,aC _,.inl ⟨rfl,rfl,rfl⟩⟩
theorem PairsV.later {ps:List (Str×Str)} (h:PairsV W v ps) (hb:Below W.heap.size W W'):PairsV W' v ps:=by
 obtain ⟨a,cap,hv,Gw,h⟩:=h;refine ⟨a,cap,hv,Gw,?_⟩;rcases h with h | ⟨b,off,ha,hc⟩
 ·exact .inl h
 ·exact .inr ⟨b,off,ha,fun j hj=>⟨aa hb (hc j hj).1,aa hb (hc j hj).2⟩⟩
theorem PairsV.get {ps:List (Str×Str)} (h:PairsV W (.slice a n c) ps) (hj:j<ps.length) :
  ∃b off,a=some ⟨b,off,none⟩/\W.cell? ⟨b,off+j * 2,none⟩=some (.string ⟨ps[j].1.toArray⟩)/\W.cell? ⟨b,off+j * 2+1,none⟩=some (.string ⟨ps[j].2.toArray⟩):=by
 exact qbi
theorem PairsV.len {ps:List (Str×Str)} (h:PairsV W (.slice a n c) ps):n=ps.length:=by
 obtain ⟨a',cap,hv,h⟩:=h;injection hv
theorem PairsV.cap {ps:List (Str×Str)} (h:PairsV W (.slice a n c) ps):n<=c:=by
 obtain ⟨a',cap,hv,h,_⟩:=h;injection hv with _ h1 h2;omega
theorem PairsV.cases {ps:List (Str×Str)} (h:PairsV W (.slice a n c) ps):(a=none/\n=0/\c=0)\/∃b off,a=some ⟨b,off,none⟩:=by
 obtain ⟨a',cap,hv,_,h⟩:=h;injection hv with h1 h2 h3;subst h1;subst h2;subst h3;rcases h with ⟨rfl,rfl,rfl⟩ | ⟨b,off,rfl,_⟩
 ·exact .inl ⟨rfl,rfl,rfl⟩
 ·exact .inr ⟨b,off,rfl⟩
def gx:List (Str×Str)->List Value
 | []=>[]
 | p :: l=>.string ⟨p.1.toArray⟩ :: .string ⟨p.2.toArray⟩ :: gx l
theorem ic:∀ ps,(gx ps).length=ps.length * 2
 | []=>rfl
 | p :: l=>by simp[gx,ic l];omega
theorem kI (p:Str×Str):∀ ps,gx (ps ++ [p])=gx ps ++ [.string ⟨p.1.toArray⟩,.string ⟨p.2.toArray⟩]
 | []=>rfl
 | q :: l=>by simp[gx,kI p l]
theorem ye:∀ (ps:List (Str×Str)) (j:Nat) (h:j<ps.length),(gx ps)[j * 2]?=some (.string ⟨ps[j].1.toArray⟩)/\(gx ps)[j * 2+1]?=some (.string ⟨ps[j].2.toArray⟩)
 | [],j,h=>by simp at h
 | p :: l,0,h=>by simp[gx]
 | p :: l,j+1,h=>by
  have:=ye l j (by simpa using h);rw[show (j+1) * 2=j * 2+2 by omega];simpa[gx] using this
theorem PairsV.olds {b:Addr} {ps:List (Str×Str)} (h:PairsV W (.slice (some b) n c) ps):∀ j u,(gx ps)[j]?=some u->W.cell? (b.add j)=some u:=by
 intro j u hu;have hj:j<ps.length * 2:=by rw[<-ic];exact (List.getElem?_eq_some_iff.1 hu).1
 have hd:j / 2<ps.length:=by omega
 obtain ⟨b',off,hb,h0,h1⟩:=h.get hd;obtain rfl:b=⟨b',off,none⟩:=by injection hb
 have hf:=ye ps (j / 2) hd;have zdd:∀ k,Addr.add ⟨b',off,none⟩ k=⟨b',off+k,none⟩:=fun k=>Addr.add_lit _ _ _;rw[zdd];rcases Nat.mod_two_eq_zero_or_one j with hm | hm
 ·have e:j / 2 * 2=j:=by omega
  rw[e]at hf h0;rw[hf.1]at hu;rw[h0,<-hu]
 ·have e:j / 2 * 2+1=j:=by omega
  rw[e]at hf;rw[Nat.add_assoc,e]at h1;rw[hf.2]at hu;rw[h1,<-hu]
theorem PairsV.own {base:Nat} {ps:List (Str×Str)} (h:W.ownsRow base e 2 (.slice (some ⟨g,0,none⟩) n c) n (gx ps)):PairsV W (.slice (some ⟨g,0,none⟩) n c) ps:=by
 have qmu:=();exact qb9
section
variable {F:Fence} {k:Nat} {P:Program} {Q:Exit->Act->World->Prop}
theorem gM {a:Act} {K:Act->World->Prop} (s x:Operand) (t:TypeId)
  (ho:o.op=.call { callee:=.builtin .append,args:=#[s,x],argTypes:=#[t,t] })
  (e:TypeId) (i:TypeInfo) (z:Value) (size bytes:Nat) (ht:P.underlying t=some (.slice e)) (hi:P.info? e=some i) (hz:i.zero=some z)
  (Nd:i.size=size) (hby:i.bytes=bytes) (hzs:z.cells.size=size) (hsz:0<size)
  (v:Value) (n:Nat) (olds:List Value) (hs:a.eval s=v)
  (hv:(v=.slice none 0 0/\n=0/\olds=[])\/∃b,v=.slice (some b) n n/\olds.length=n * size/\∀ j u,olds[j]?=some u->w.cell? (b.add j)=some u)
  (ad:Addr) (m c:Nat) (xO:List Value) (hx:a.eval x=.slice (some ad) m c) (hl:xO.length=m * size) (Nf:∀ j u,xO[j]?=some u->w.cell? (ad.add j)=some u) (h1:∀ u∈xO,u.oneCell'=true)
  (hm:0<m) (h63:n+m<=maxLen) (Gi:(n+m) * bytes<=140737488355328)
  (h:∀ g cap w',w'.ownsRow w.heap.size e size (.slice (some ⟨g,0,none⟩) (n+m) cap) (n+m) (olds ++ xO)->w.grownBy w' none->K (a.put o.dst (.slice (some ⟨g,0,none⟩) (n+m) cap)) w'):o.wpIn F k P a w K Q:=by
 have hr:∃g cap w',(Builtin.append_ #[t,t] o.type #[v,.slice (some ad) m c]).run P w=.ok (.slice (some ⟨g,0,none⟩) (n+m) cap) w'/\w'.ownsRow w.heap.size e size (.slice (some ⟨g,0,none⟩) (n+m) cap) (n+m) (olds ++ xO)/\w.grownBy w' none:=by
  rcases hv with ⟨rfl,rfl,rfl⟩ | ⟨b,rfl,hlo,holds⟩
  ·obtain ⟨g,cap,w',hr,h2,h3,_,_⟩:=run_append_lies (P:=P) w t o.type w.heap.size e i z size bytes ht hi hz Nd hby hzs hsz (.slice none 0 0) 0 [] (World.ownsRow_nil _ _ _ _) ad m c xO hl Nf h1 hm h63 Gi (aC _) _ rfl;exact ⟨g,cap,w',hr,h2,h3⟩
  ·obtain ⟨v',w',hr,h2,h3⟩:=run_append_arg_grows (P:=P) w t o.type e i z size bytes ht hi hz Nd hby hzs hsz b n n olds hlo holds ad m c xO hl Nf (by omega) h63 Gi;exact qeC
 obtain ⟨g,cap,w',hr,h2,h3⟩:=hr;exact qel
end
theorem I' {ps:List (Str×Str)} (h:j<ps.length):(ps.take (j+1)).reverse=ps[j] :: (ps.take j).reverse:=by
 rw[mh h];simp
theorem fU {c:Sco} {l m:List Tm} {k:Nat} (hl:k<l.length) (hm:k<m.length):cf c (l.drop k) (m.drop k)=(fZ c l[k] m[k] && cf c (l.drop (k+1)) (m.drop (k+1))):=by
 rw[gB hl,gB hm,cf]
theorem kJ {c:Sco} {l m:List Fm} {k:Nat} (hl:k<l.length) (hm:k<m.length):cJ c (l.drop k) (m.drop k)=(cg c l[k] m[k] && cJ c (l.drop (k+1)) (m.drop (k+1))):=by
 rw[gB hl,gB hm,cJ]
def mm (c:Sco) (x y:Str):Option Bool:=if c.any (fun p=>p.1 == x || p.2 == y) then some (n_ c x y) else none
theorem Fe (x y:Str):mm [] x y=none:=rfl
theorem BB (p:Str×Str) (c:Sco) (x y:Str):mm (p :: c) x y=if p.1 == x || p.2 == y then some (p.1 == x && p.2 == y) else mm c x y:=by
 unfold mm;simp only[List.any_cons,n_]
 by_cases h:(p.1 == x || p.2 == y)=true
 ·simp only[h,Bool.true_or,if_true]
 ·rw[Bool.not_eq_true]at h;simp only[h,Bool.false_or,bO,if_false]
theorem Ff (c:Sco) (v v':Bool) (n n':Str) (a a':List Tm):fZ c (.mk v n a) (.mk v' n' a')=((v == v' && a.length == a'.length) && (match (if v then mm c n n' else none) with | some b=>b | none=>n == n' && cf c a a')):=by
 rw[fZ];unfold mm;cases v
 ·simp
 ·cases h:c.any (fun p=>p.1 == n || p.2 == n') <;> simp
def zde (t:Tm):Prop:=∀ (u:Tm) (ps:List (Str×Str)) (v:Value) (ok ok':Nat->Prop) (w:World) (q q':TQ),ps.length<=1000000000->fitT t->TermV ok w q.val t->TermV ok' w q'.val u->PairsV w v ps →
 Calls Tryz.prog 160 #[q.val,q'.val,v] w fun e w'=>e=.returned (.bool (fZ ps.reverse t u))/\Below w.heap.size w w'
theorem BC:∀ t,zde t:=by
 intro t
 induction t using Tm.ind with
 | h xv xn xa ih=>
 intro u ps v ok ok' w q q' iG hf hq iN hp;have qmv:=();exact qcd
section
attribute [local go_sem] Oper.semAt_some
structure PlQ where
 s:FQ
 f:FQ
 a:Option Addr
 l:Nat
 c:Nat
def PlQ.cells (q:PlQ):Array Value:=#[.int .u8 q.s.o,.string q.s.n,.slice q.s.a q.s.l q.s.c,.slice q.s.b q.s.m q.s.e,.int .u8 q.f.o,.string q.f.n,.slice q.f.a q.f.l q.f.c,.slice q.f.b q.f.m q.f.e,.slice q.a q.l q.c]
def PlQ.val (q:PlQ):Value:=.agg q.cells
def zp (ps:List (Str×Str)) (x:Str) (k:Nat):Option Str:=dv.go x (ps.take k).reverse ((ps.drop k).map (·.1))
theorem OL (ps:List (Str×Str)) (x:Str):zp ps x ps.length=dv ps.reverse x:=by
 unfold zp dv;rw[cK,List.drop_length];rfl
theorem Lz (ps:List (Str×Str)) (x:Str):zp ps x 0=some x:=by simp[zp,dv.go]
theorem LA {ps:List (Str×Str)} {k:Nat} (h:k<ps.length):zp ps x (k+1)=if ps[k].2 == x then (if ((ps.drop (k+1)).map (·.1)).contains ps[k].1 then none else some (bI ps[k].1)) else zp ps x k:=by
 unfold zp;rw[mh h,List.reverse_append,List.reverse_singleton,List.singleton_append];have hd:(ps.drop k).map (·.1)=ps[k].1 :: (ps.drop (k+1)).map (·.1):=by rw[gB h];rfl
 rw[hd];obtain ⟨⟨s,a⟩,hsa⟩:∃p,p=ps[k]:=⟨_,rfl⟩;rw[<-hsa];rfl
theorem Eh (q:PlQ) (ps:List (Str×Str)) (hpl:ps.length<=1000000) (iG:∀ p∈ps,p.1.length<=2000000) (x:Str) (w:World) (hv:PairsV w (.slice q.a q.l q.c) ps) :
  Calls Tryz.prog 161 #[q.val,.string ⟨x.toArray⟩] w fun e w'=>e=.returned (.tuple #[.string ⟨((dv ps.reverse x).getD []).toArray⟩,.bool (dv ps.reverse x).isSome])/\Below w.heap.size w w':=by
 obtain ⟨⟨so,sn,sa,sl,sc,sb,sm,se⟩,⟨fo,fn,fa,fl,fc,fb,fm,fe⟩,qa,ql,qc⟩:=q;obtain rfl:=hv.len;have ⟨R,hR⟩:=aj (dv ps.reverse x);rw[<-hR];rw[<-OL]at hR;have ⟨k0,cd⟩:=aj ps.length;rw[<-cd]at hpl hR;simp only at hv;have Gw:=hv.cap;have ⟨HPs,HV⟩:=aS iG hv;rw[<-cd]at Gw;unfold PlQ.val PlQ.cells;simp only;rw[<-cd];have ⟨HR,Aa⟩:=aS hR cd;have ⟨W1,bY⟩:=aj (w.alloc (.cells #[.int .u8 so,.string sn,.slice sa sl sc,.slice sb sm se,.int .u8 fo,.string fn,.slice fa fl fc,.slice fb fm fe,.slice qa k0 qc] 89));have hb1:=cM bY;have sZ:=bS bY;have ⟨jt,dY,jS⟩:=cE bY hb1 sZ;clear cd hR iG hv bY hb1 sZ;go_enter Tryz.func161,Tryz.ntmps161;go_wp2;rw[<-jt.o];go_loopw [6] (fun i wr=>∃k:Nat,k<=k0/\i=.int .i64 ((k:Int) - 1)/\Below W1.heap.size W1 wr/\R=zp ps x k) (fun i _=>(intOf i+1).toNat)
 case atStart=>exact ⟨k0,aC _,rfl,ai _ _,HR.o⟩
 case round=>
  obtain ⟨k,hk,rfl,aq,ht⟩:=hrel;have ⟨wo,Gx⟩:=aj wr;subst Gx;have b1:=bN aq jS.o
  cases k with
  | zero=>
   have HE:=ab (show R=some x by rw[ht,Lz]);have HB:=ab (dY.o.tr aq);have hd0:decide ((0:Int)<=((0:Nat):Int) - 1)=false:=by simp
   clear aq ht b1;go_wp2;refine bK (v:=.tuple #[.string ⟨x.toArray⟩,.bool true]) (by simp[results,Tryz.results161,go_sem]) rfl ⟨by rw[HE.o];rfl,HB.o⟩
  | succ j=>
   have le:j<ps.length:=by rw[<-Aa.o];omega
   obtain ⟨b,off,rfl,c0,c1⟩:=HV.o.get le;rw[LA le]at ht;have ⟨s,hs⟩:=aj (ps[j].1);have ⟨a,ha⟩:=aj (ps[j].2);rw[<-hs,<-ha]at ht;rw[<-hs]at c0;rw[<-ha]at c1;have hsl:s.length<=2000000:=by rw[hs];exact HPs.o _ (ap le)
   have d0:=aa (dY.o.tr aq) c0;have d1:=aa (dY.o.tr aq) c1;have x8:=ag b1 8;have hij:(((j+1:Nat):Int) - 1)=(j:Int):=by omega
   have bG:Below wo.heap.size wo (wo.alloc (.cells #[.string ⟨s.toArray⟩,.string ⟨a.toArray⟩] 213)):=cI;have y8:=aa bG x8;have hy:=ah (w:=wo) (o:=.cells #[.string ⟨s.toArray⟩,.string ⟨a.toArray⟩] 213) rfl;have y0:(wo.alloc (.cells #[.string ⟨s.toArray⟩,.string ⟨a.toArray⟩] 213)).cell? ⟨wo.heap.size,0,none⟩=some (.string ⟨s.toArray⟩):=ag hy 0;have y1:(wo.alloc (.cells #[.string ⟨s.toArray⟩,.string ⟨a.toArray⟩] 213)).cell? ⟨wo.heap.size,1,none⟩=some (.string ⟨a.toArray⟩):=ag hy 1;have cv:=ab (aq.tr bG);have HY:=ab hy;rw[hij];have KP:(j:Int)<(k0:Int):=by omega
   by_cases hax:a=x
   ·subst hax;simp only[beq_self_eq_true,if_true]at ht;have HT:=ab ht;have ⟨r0,hr0⟩:=aj (k0 - (j+1));have Ei:j+1<=k0:=by omega
    have ⟨HR0,HSl⟩:=aS hr0 hsl;clear ht aq b1 c0 c1 hs ha bG hy hsl;go_wp2
    all_goals (
     rw[<-HR0.o];go_loopw [33] (fun i wr=>∃q:Nat,q<=r0/\i=.int .i64 q/\Below (wo.alloc (.cells #[.string ⟨s.toArray⟩,.string ⟨a.toArray⟩] 213)).heap.size (wo.alloc (.cells #[.string ⟨s.toArray⟩,.string ⟨a.toArray⟩] 213)) wr/\∀ p (hp:p<ps.length),j+1<=p->p<j+1+q->ps[p].1≠s) (fun i _=>r0 - (intOf i).toNat)
     case atStart=>exact ⟨0,by omega,rfl,ai _ _,fun p hp h1 h2=>by omega⟩
     case round=>
      obtain ⟨q,hq,rfl,dx,jb⟩:=hrel;have z0:=aa dx y0
      by_cases hlt:q<r0
      ·have zfk:=HR0.o
       first
       | omega
       | (have hpl:j+1+q<ps.length:=by have:=Aa.o;have:=HR0.o;omega
          obtain ⟨b',jZ,cZ,e0,e1⟩:=HV.o.get hpl;cases cZ;have ⟨s2,kf⟩:=aj (ps[j+1+q].1);have ⟨a2,ha2⟩:=aj (ps[j+1+q].2);rw[<-kf]at e0;rw[<-ha2]at e1;have l8:=(dY.o.tr cv.o).tr dx;have ⟨f0,f1⟩:=AN l8 e0 e1;have ZD:off+(j+1+q) * 2=off+(j+1) * 2+q * 2:=by omega
          rw[ZD]at f0 f1;have aG:Below wr.heap.size wr (wr.alloc (.cells #[.string ⟨s2.toArray⟩,.string ⟨a2.toArray⟩] 213)):=cI;have z1:=aa aG z0;have mx:=ab (dx.tr aG)
          by_cases Rm:s2=s
          ·have HE:=ab (show R=none by
            rw[HT.o,aw];simp only[List.contains_iff_mem,List.mem_map];refine ⟨ps[j+1+q],List.mem_iff_getElem.2 ⟨q,by rw[List.length_drop];omega,by rw[List.getElem_drop]⟩,by rw[<-Rm,kf]⟩)
           subst Rm;clear dx jb l8 ZD aG e0 e1 kf ha2;go_wp2;refine bK (v:=.tuple #[.string ⟨#[]⟩,.bool false]) (by simp[results,Tryz.results161,go_sem]) rfl ⟨by rw[HE.o];rfl,(dY.o.tr cv.o).tr mx.o⟩
          ·have Az:(s2 == s)=false:=by simpa using Rm
           have HN:=ab (show ∀ p (hp:p<ps.length),j+1<=p->p<j+1+(q+1)->ps[p].1≠s from fun p hp h1 h2=>by
            by_cases e:p=j+1+q
            ·subst e;rw[<-kf];exact Rm
            ·exact jb p hp h1 (by omega))
           clear dx jb l8 ZD aG e0 e1 kf ha2;go_wp2;go_roundw
           case rel=>exact ⟨q+1,by omega,by go_num,mx.o,HN.o⟩
           case measure=>simp[intOf];omega)
      ·obtain rfl:q=r0:=by omega
       have HE:=ab (show R=some (bI s) by
        rw[HT.o,ak];simp only[List.contains_iff_mem,List.mem_map];rintro ⟨p,hp,rfl⟩;obtain ⟨i,hi,rfl⟩:=List.mem_iff_getElem.1 hp;rw[List.length_drop]at hi;rw[List.getElem_drop]at jb;exact jb (j+1+i) (by omega) (by omega) (by have:=Aa.o;have:=HR0.o;omega) rfl)
       have CH:=fK s wr (by have:=HSl.o;omega);have ⟨ZE,mx⟩:=aS CH dx;clear dx jb CH;go_wp2_with (go_at_call 130;refine ZE.o.mono ?_;rintro e w5 ⟨rfl,rfl⟩);refine bK (v:=.tuple #[.string ⟨(bI s).toArray⟩,.bool true]) (by simp[results,Tryz.results161,go_sem]) rfl ⟨by rw[HE.o];rfl,(dY.o.tr cv.o).tr mx.o⟩)
   ·have D2:(a == x)=false:=by simpa using hax
    simp only[D2,bO,if_false]at ht;have HT:=ab ht;clear ht aq b1 c0 c1 hs ha bG hy hsl;go_wp2;go_roundw
    case rel=>exact ⟨j,by omega,by go_num,cv.o,HT.o⟩
    case measure=>simp[intOf]
theorem qd {c:Sco} {l:List Tm} {k:Nat} (h:k<l.length):eq c ins (l.take (k+1))=match eq c ins (l.take k),iB c ins l[k] with | some us,some u=>some (us ++ [u]) | _,_=>none:=by
 induction l generalizing k with
 | nil=>simp at h
 | cons t l ih=>
  cases k with
  | zero=>
   simp only[List.take_succ_cons,List.take_zero,List.getElem_cons_zero,eq];cases iB c ins t <;> rfl
  | succ k=>
   have:=ih (k:=k) (by simpa using h);simp only[List.take_succ_cons,List.getElem_cons_succ,eq];rw[this];cases iB c ins t <;> cases eq c ins (l.take k) <;> cases iB c ins (l[k]'(by simpa using h)) <;> rfl
theorem BD {c:Sco} {l:List Tm} (ht:t∈l) (h:iB c ins t=none):eq c ins l=none:=by
 induction l with
 | nil=>cases ht
 | cons u l ih=>
  rcases cG.1 ht with rfl | ht
  ·simp[eq,h]
  ·simp only[eq,ih ht];cases iB c ins u <;> rfl
theorem iX {q:PlQ} (h:W.heap[B]?=some (.cells q.cells T (0,0))) :
  W.cell? ⟨B,0,none⟩=some (.int .u8 q.s.o)/\W.cell? ⟨B,1,none⟩=some (.string q.s.n)/\W.cell? ⟨B,2,none⟩=some (.slice q.s.a q.s.l q.s.c)/\W.cell? ⟨B,3,none⟩=some (.slice q.s.b q.s.m q.s.e)/\W.cell? ⟨B,4,none⟩=some (.int .u8 q.f.o)/\W.cell? ⟨B,5,none⟩=some (.string q.f.n)/\W.cell? ⟨B,6,none⟩=some (.slice q.f.a q.f.l q.f.c)/\W.cell? ⟨B,7,none⟩=some (.slice q.f.b q.f.m q.f.e)/\W.cell? ⟨B,8,none⟩=some (.slice q.a q.l q.c):=
 ⟨ag h 0,ag h 1,ag h 2,ag h 3,ag h 4,ag h 5,ag h 6,ag h 7,ag h 8⟩
theorem sJ (hx:X.heap[B]?=some (.cells #[c0,c1,c2] T (0,0))) (v0 v1 v2:Value):∃W6,W6=((X.setCell ⟨B,0,none⟩ v0).setCell ⟨B,1,none⟩ v1).setCell ⟨B,2,none⟩ v2/\W6.heap[B]?=some (.cells #[v0,v1,v2] T (0,0))/\Kp (fun b=>b=B) X W6/\W6.cell? ⟨B,0,none⟩=some v0/\W6.cell? ⟨B,1,none⟩=some v1/\W6.cell? ⟨B,2,none⟩=some v2:=
 have h:=qu (v0:=v0) (v1:=v1) (v2:=v2) hx
 ⟨_,rfl,h,eN,ag h 0,ag h 1,ag h 2⟩
theorem fV (hx:X.heap[B]?=some (.cells #[c0,c1,c2] T (0,0))):X.cell? ⟨B,0,none⟩=some c0/\X.cell? ⟨B,1,none⟩=some c1/\X.cell? ⟨B,2,none⟩=some c2/\X.frozen? ⟨B,0,none⟩=false/\X.frozen? ⟨B,1,none⟩=false/\X.frozen? ⟨B,2,none⟩=false:=
 ⟨ag hx 0,ag hx 1,ag hx 2,ac hx 0,ac hx 1,ac hx 2⟩
theorem te (q:PlQ) (ps:List (Str×Str)) (hpl:ps.length<=1000000) (iG:∀ p∈ps,p.1.length<=2000000) (L ins:List Str) (hL:L.length<=2000000) (Rn:∀ y,L.contains y=ins.contains y) (okL:Nat->Prop) (vL:Value) :
  ∀ (t:Tm),fitT t->∀ (ok:Nat->Prop) (w:World) (tq:TQ),PairsV w (.slice q.a q.l q.c) ps->StrsO okL w vL L->TermV ok w tq.val t →
  Calls Tryz.prog 94 #[q.val,tq.val,vL] w fun e w'=>(∃p:TQ,e=.returned (.tuple #[p.val,.bool (iB ps.reverse ins t).isSome])/\∀ u,iB ps.reverse ins t=some u->TermV (w.heap.size<=·) w' p.val u)/\Below w.heap.size w w':=by
 obtain ⟨i0,hi,ow,iM,gY⟩:=info_parts gH;have Fh:=cq hpl iG hL Rn;clear hpl iG hL Rn;have qmw:=();exact qav
theorem qg {c:Sco} {l:List Fm} {k:Nat} (h:k<l.length):eZ c ins (l.take (k+1))=match eZ c ins (l.take k),e8 c ins l[k] with | some us,some u=>some (us ++ [u]) | _,_=>none:=by
 induction l generalizing k with
 | nil=>simp at h
 | cons t l ih=>
  cases k with
  | zero=>
   simp only[List.take_succ_cons,List.take_zero,List.getElem_cons_zero,eZ];cases e8 c ins t <;> rfl
  | succ k=>
   have:=ih (k:=k) (by simpa using h);simp only[List.take_succ_cons,List.getElem_cons_succ,eZ];rw[this];cases e8 c ins t <;> cases eZ c ins (l.take k) <;> cases e8 c ins (l[k]'(by simpa using h)) <;> rfl
theorem BJ {c:Sco} {l:List Fm} {t:Fm} (ht:t∈l) (h:e8 c ins t=none):eZ c ins l=none:=by
 induction l with
 | nil=>cases ht
 | cons u l ih=>
  rcases cG.1 ht with rfl | ht
  ·simp[eZ,h]
  ·simp only[eZ,ih ht];cases e8 c ins u <;> rfl
theorem yf (hx:X.heap[B]?=some (.cells #[c0,c1,c2,c3] T (0,0))) (v0 v1 v2 v3:Value):∃W6,W6=(((X.setCell ⟨B,0,none⟩ v0).setCell ⟨B,1,none⟩ v1).setCell ⟨B,2,none⟩ v2).setCell ⟨B,3,none⟩ v3/\W6.heap[B]?=some (.cells #[v0,v1,v2,v3] T (0,0))/\Kp (fun b=>b=B) X W6/\W6.cell? ⟨B,0,none⟩=some v0/\W6.cell? ⟨B,1,none⟩=some v1/\W6.cell? ⟨B,2,none⟩=some v2/\W6.cell? ⟨B,3,none⟩=some v3:=
 have h:=lZ (v0:=v0) (v1:=v1) (v2:=v2) (v3:=v3) hx
 ⟨_,rfl,h,dM,ag h 0,ag h 1,ag h 2,ag h 3⟩
theorem dc (hx:X.heap[B]?=some (.cells #[c0,c1,c2,c3] T (0,0))):X.cell? ⟨B,0,none⟩=some c0/\X.cell? ⟨B,1,none⟩=some c1/\X.cell? ⟨B,2,none⟩=some c2/\X.cell? ⟨B,3,none⟩=some c3/\X.frozen? ⟨B,0,none⟩=false/\X.frozen? ⟨B,1,none⟩=false/\X.frozen? ⟨B,2,none⟩=false/\X.frozen? ⟨B,3,none⟩=false:=
 ⟨ag hx 0,ag hx 1,ag hx 2,ag hx 3,ac hx 0,ac hx 1,ac hx 2,ac hx 3⟩
def StrsN (W:World) (v:Value) (l:List Str):Prop:=∃a cap,v=.slice a l.length cap/\l.length<=cap/\((l=[]/\a=none/\cap=0)\/∃b off,a=some ⟨b,off,none⟩/\∀ j (h:j<l.length),W.cell? ⟨b,off+j,none⟩=some (.string ⟨l[j].toArray⟩))
theorem StrsN.strs (h:StrsN W v l):StrsO (fun _=>True) W v l:=by
 have qmx:=();exact qaH
theorem StrsN.later (h:StrsN W v l) (hb:Below W.heap.size W W'):StrsN W' v l:=by
 have qey:=();exact qaH
def StrsN.Far (v:Value) (M:Nat->Prop):Prop:=∀ b,v.ownBlock=some b->¬M b
theorem StrsN.kp (h:StrsN W v l) (hk:Kp M W W') (hf:StrsN.Far v M):StrsN W' v l:=by
 have qmy:=();exact qaH
theorem StrsN.old (h:StrsN W v l) (hl:l≠[]):∀ b,v.ownBlock=some b->b<W.heap.size:=by
 obtain ⟨a,cap,rfl,hc,h⟩:=h;rcases h with ⟨h,_⟩ | ⟨b,off,rfl,h⟩
 ·exact absurd h hl
 ·intro b' hb;cases hb;exact World.block_lt_of_cell? W _ (h 0 (jp.2 hl))
theorem StrsN.nil (W:World):StrsN W (.slice none 0 0) []:=⟨none,0,rfl,aC _,.inl ⟨rfl,rfl,rfl⟩⟩
theorem StrsN.own {base:Nat} (h:W.ownsRow base 9 1 (.slice (some ⟨g,0,none⟩) n c) n (l.map encStr)):StrsN W (.slice (some ⟨g,0,none⟩) n c) l:=by
 have hl:n=l.length:=by have:=h.1;simp at this;omega
 subst hl;obtain ⟨a,cap,hv,hc,h⟩:=OwnS.strs (lo:=base) h;injection hv with h1 _ h3;subst h3;refine ⟨_,_,rfl,hc,.inr ⟨g,0,rfl,fun j hj=>?_⟩⟩;rcases h with rfl | ⟨b,off,ha,_,hcl⟩
 ·simp at hj
 ·rw[ha]at h1;injection h1 with h1;injection h1 with h1 h2;subst h1;subst h2;exact hcl j hj
theorem Fi (q:PlQ) (ps:List (Str×Str)) (hpl:ps.length<=1000000) (iG:∀ p∈ps,p.1.length<=2000000) :
  ∀ (f:Fm),fitF f->∀ (L ins:List Str),L.length+nodesF f<=2000000->(∀ y,L.contains y=ins.contains y)->∀ (vL:Value) (ok:Nat->Prop) (w:World) (fq:FQ),PairsV w (.slice q.a q.l q.c) ps->(StrsN w vL L/\∀ b,vL.ownBlock=some b->b<w.heap.size)->FormV ok w fq.val f →
  Calls Tryz.prog 91 #[q.val,fq.val,vL] w fun e w'=>(∃p:FQ,e=.returned (.tuple #[p.val,.bool (e8 ps.reverse ins f).isSome])/\∀ u,e8 ps.reverse ins f=some u->FormV (w.heap.size<=·) w' p.val u)/\Below w.heap.size w w':=by
 have qmz:=();exact qbg
end
abbrev Bx:=Option Nat×Bool
def okB (L:Nat->Prop) (γ:Bx) (w:World) (b:Nat):Prop:=L b/\b<w.heap.size/\γ.1≠some b
def Gr (γ:Bx) (w:World) (en:Bx) (w':World):Prop:=
 (en=γ/\Below w.heap.size w w')\/(γ.1=none/\en=(some w.heap.size,false)/\w.heap.size<w'.heap.size/\Below w.heap.size w w')\/(∃b,γ=(some b,false)/\en=(some b,true)/\Kp (fun c=>c=b) w w')
theorem Gr.keep {γ:Bx} (h:Below w.heap.size w w'):Gr γ w γ w':=.inl ⟨rfl,h⟩
theorem Gr.refl {γ:Bx}:Gr γ w γ w:=.inl ⟨rfl,ai _ _⟩
theorem Gr.holds {γ en:Bx} (h:Gr γ w en w'):gF (okB L γ w) (okB L en w') w w':=by
 rintro b ⟨h1,h2,h3⟩ hlt;rcases h with ⟨rfl,hb⟩ | ⟨_,rfl,_,hb⟩ | ⟨c,rfl,rfl,hk⟩
 ·exact ⟨⟨h1,bJ h2 hb.size,h3⟩,hb.block b hlt⟩
 ·exact ⟨⟨h1,bJ h2 hb.size,fun e=>by cases e;omega⟩,hb.block b hlt⟩
 ·exact ⟨⟨h1,bJ h2 hk.size,h3⟩,hk.same b hlt (fun e=>h3 (by rw[e]))⟩
def IG (M:Nat->Prop) (w0:World) (γ:Bx) (w:World):Prop:=Kp M w0 w/\(∀ b,γ.1=some b->(w0.heap.size<=b\/M b)/\b<w.heap.size)/\∀ b,M b->γ.1=some b/\(γ.2=false->w.heap[b]?=w0.heap[b]?)
theorem IG.step {γ en:Bx} (hG:Gr γ w en w') (h:IG M w0 γ w):IG M w0 en w':=by
 rcases hG with ⟨rfl,hb⟩ | ⟨hn,rfl,hlt,hb⟩ | ⟨c,rfl,rfl,hk⟩
 ·exact ⟨h.1.trans (Kp.below hb),fun b e=>⟨(h.2.1 b e).1,bJ (h.2.1 b e).2 hb.size⟩,fun b hm=>⟨(h.2.2 b hm).1,fun e=>(hb.block b (h.2.1 b (h.2.2 b hm).1).2).trans ((h.2.2 b hm).2 e)⟩⟩
 ·exact ⟨h.1.trans (Kp.below hb),fun b UA=>by cases UA;exact ⟨.inl h.1.size,hlt⟩,fun b hm=>by have:=(h.2.2 b hm).1;rw[hn]at this;cases this⟩
 ·refine ⟨⟨hk.os.trans h.1.os,hk.tape.trans h.1.tape,hk.output.trans h.1.output,aN h.1.size hk.size,fun b hb hm=>?_⟩,fun b e=>⟨(h.2.1 b e).1,bJ (h.2.1 b e).2 hk.size⟩,fun b hm=>⟨(h.2.2 b hm).1,fun e=>by cases e⟩⟩;refine (hk.same b (bJ hb h.1.size) (fun e=>?_)).trans (h.1.same b hb hm);rcases (h.2.1 c rfl).1 with h2 | h2
  ·omega
  ·exact hm (e ▸ h2)
def XP (kA kS k:Nat) (γ:Bx):Prop:=(k=kA->γ.1=none)/\(k=kS->γ.2=false)
def FormG (L:Nat->Prop) (f:Fm) (v:Value) (γ:Bx) (w:World):Prop:=∃q:FQ,v=q.val/\FormV (okB L γ w) w q.val f
def TermG (L:Nat->Prop) (t:Tm) (v:Value) (γ:Bx) (w:World):Prop:=∃q:TQ,v=q.val/\TermV (okB L γ w) w q.val t
def FormsG (L:Nat->Prop) (l:List Fm) (v:Value) (γ:Bx) (w:World):Prop:=∃a c,v=.slice a l.length c/\FormsV (okB L γ w) w (.slice a l.length c) l
def TermsG (L:Nat->Prop) (l:List Tm) (v:Value) (γ:Bx) (w:World):Prop:=∃a c,v=.slice a l.length c/\TermsV (okB L γ w) w (.slice a l.length c) l
def BindG (L:Nat->Prop) (b:Bd) (v:Value) (γ:Bx) (w:World):Prop:=∃q:BQ,v=q.val/\BindV (okB L γ w) w q b
def StrsG (L:Nat->Prop) (l:List Str) (v:Value) (γ:Bx) (w:World):Prop:=StrsO (okB L γ w) w v l
theorem FormG.step {γ en:Bx} (hG:Gr γ w en w'):FormG L f v γ w->FormG L f v en w':=fun ⟨q,e,h⟩=>⟨q,e,h.move hG.holds⟩
theorem TermG.step {f:Tm} {γ en:Bx} (hG:Gr γ w en w'):TermG L f v γ w->TermG L f v en w':=fun ⟨q,e,h⟩=>⟨q,e,h.move hG.holds⟩
theorem FormsG.step {f:List Fm} {γ en:Bx} (hG:Gr γ w en w'):FormsG L f v γ w->FormsG L f v en w':=fun ⟨a,c,e,h⟩=>⟨a,c,e,h.move hG.holds⟩
theorem TermsG.step {f:List Tm} {γ en:Bx} (hG:Gr γ w en w'):TermsG L f v γ w->TermsG L f v en w':=fun ⟨a,c,e,h⟩=>⟨a,c,e,h.move hG.holds⟩
theorem BindG.step {f:Bd} {γ en:Bx} (hG:Gr γ w en w'):BindG L f v γ w->BindG L f v en w':=fun ⟨q,e,h⟩=>⟨q,e,h.move hG.holds⟩
theorem StrsG.step {γ en:Bx} (hG:Gr γ w en w'):StrsG L l v γ w->StrsG L l v en w':=fun h=>h.move hG.holds
theorem okB.new {γ:Bx} (hI:IG M w0 γ w) (hlo:∀ b,w.heap.size<=b->L b):gF (w.heap.size<=·) (okB L γ w') w' w':=fun b hb hlt=>
 ⟨⟨hlo b hb,hlt,fun e=>by
  have:=(hI.2.1 b e).2;have UA:w.heap.size<=b:=hb;omega⟩,rfl⟩
theorem FormG.new {γ:Bx} (hI:IG M w0 γ w) (hlo:∀ b,w.heap.size<=b->L b) {q:FQ} (h:FormV (w.heap.size<=·) w' q.val f):FormG L f q.val γ w':=⟨q,rfl,h.move (okB.new hI hlo)⟩
def RowG (L:Nat->Prop) (cs:Array Value) (T:TypeId) (m:Nat) (v:Value) (γ:Bx) (w:World):Prop:=∃b,v=.slice (some ⟨b,0,none⟩) m m/\okB L γ w b/\w.heap[b]?=some (.cells cs T (0,0))
theorem RowG.step {cs:Array Value} {γ en:Bx} (hG:Gr γ w en w'):RowG L cs T m v γ w->RowG L cs T m v en w':=fun ⟨b,e,h1,h2⟩=>
 have h:=hG.holds b h1 (bA h2)
 ⟨b,e,h.1,h.2.trans h2⟩
theorem RowG.new {γ:Bx} (hI:IG M w0 γ w) (hlo:∀ b,w.heap.size<=b->L b) (cs:Array Value) (T:TypeId) (m:Nat):RowG L cs T m (.slice (some ⟨w.heap.size,0,none⟩) m m) γ (w.alloc (.cells cs T)):=
 ⟨_,rfl,(okB.new hI hlo _ (aC _) (by simp)).1,ah rfl⟩
def NamesG (l:List Str) (v:Value) (γ:Bx) (w:World):Prop:=StrsN w v l/\∀ b,v.ownBlock=some b->okB (fun _=>True) γ w b
theorem NamesG.step {γ en:Bx} (hG:Gr γ w en w'):NamesG l v γ w->NamesG l v en w':=by
 rintro ⟨⟨a,cap,rfl,hc,h⟩,h2⟩;have h3:∀ b,(Value.slice a l.length cap).ownBlock=some b->okB (fun _=>True) en w' b/\w'.heap[b]?=w.heap[b]?:=fun b hb=>hG.holds b (h2 b hb) (h2 b hb).2.1;refine ⟨⟨a,cap,rfl,hc,?_⟩,fun b hb=>(h3 b hb).1⟩;rcases h with h | ⟨b,off,rfl,h⟩
 ·exact .inl h
 ·exact .inr ⟨b,off,rfl,fun j hj=>(World.cell?_of_block (a:=⟨b,off+j,none⟩) (h3 b rfl).2).trans (h j hj)⟩
def BoxG (z:Array Value) (T:TypeId) (v:Value) (γ:Bx) (w:World):Prop:=∃b,v=.pointer (some ⟨b,0,none⟩)/\γ.1=some b/\b<w.heap.size/\(γ.2=false->w.heap[b]?=some (.cells z T (0,0)))
theorem BoxG.step {γ en:Bx} (hG:Gr γ w en w'):BoxG z T v γ w->BoxG z T v en w':=by
 rintro ⟨b,rfl,h1,h2,h3⟩;rcases hG with ⟨rfl,hb⟩ | ⟨h,_⟩ | ⟨c,rfl,rfl,hk⟩
 ·exact ⟨b,rfl,h1,bJ h2 hb.size,fun h=>(hb.block b h2).trans (h3 h)⟩
 ·rw[h]at h1;cases h1
 ·exact ⟨b,rfl,h1,bJ h2 hk.size,fun h=>by cases h⟩
def SetG (R:Array Value->Bx->World->Prop) (T:TypeId) (γ:Bx) (w:World):Prop:=∃b cs,γ=(some b,true)/\w.heap[b]?=some (.cells cs T (0,0))/\R cs γ w
theorem SetG.step {R:Array Value->Bx->World->Prop} {γ en:Bx} (hR:∀ cs,R cs γ w->R cs en w') (hG:Gr γ w en w'):SetG R T γ w->SetG R T en w':=by
 rintro ⟨b,cs,rfl,h2,h3⟩;rcases hG with ⟨rfl,hb⟩ | ⟨h,_⟩ | ⟨c,h,_⟩
 ·exact ⟨b,cs,rfl,(hb.block b (bA h2)).trans h2,hR cs h3⟩
 ·cases h
 ·cases h
theorem vP {γ:Bx} (o:Obj) (h:γ.1=none):Gr γ w (some w.heap.size,false) (w.alloc o):=.inr (.inl ⟨h,rfl,by simp,cI⟩)
theorem rZ {γ:Bx}:∀ j,j≠kA->XP kA kS j γ->XP kA kS j (some n,false):=fun _ hj _=>⟨fun e=>absurd e hj,fun _=>rfl⟩
theorem vQ:BoxG z T (.pointer (some ⟨w.heap.size,0,none⟩)) (some w.heap.size,false) (w.alloc (.cells z T)):=⟨_,rfl,rfl,by simp,fun _=>ah rfl⟩
theorem jU (h:Kp (fun c=>c=b) w w'):Gr (some b,false) w (some b,true) w':=.inr (.inr ⟨b,rfl,rfl,h⟩)
theorem oS:∀ j,j≠kS->XP kA kS j (some b,false)->XP kA kS j (some b,true):=fun _ hj h=>⟨fun e=>h.1 e,fun e=>absurd e hj⟩
theorem aW {t:Array Value} {d:Nat} (h:t[d]?=some v):t.getD d undef=v:=by
 obtain ⟨hlt,hv⟩:=Array.getElem?_eq_some_iff.1 h;simp[Array.getD,hlt,hv]
section
attribute [local go_sem] Oper.semAt_some
mutual
theorem yg:∀ f:Fm,fitF f->∀ x∈iC f,fitF x
 | .mk o n a s,h,x,hx=>by
  unfold iC at hx;rcases cG.1 hx with rfl | hx
  ·exact h
  ·exact BK s h.subs x hx
theorem BK:∀ l:List Fm,fitFs l->∀ x∈dJ l,fitF x
 | [],_,x,hx=>by simp[dJ]at hx
 | t :: l,h,x,hx=>by
  unfold dJ at hx;rcases List.mem_append.1 hx with hx | hx
  ·exact yg t (h.mem (by simp)) x hx
  ·exact BK l ⟨aN (by simp[nodesFs]) h.1,qT.2 (fun u hu=>qT.1 h.2 u (by simp[hu]))⟩ x hx
end
theorem Jb (q:FQ) (w:World) :
  Calls Tryz.prog 86 #[q.val] w fun e w'=>e=.returned (.func (.func 150) #[] #[.pointer (some ⟨w.heap.size,0,none⟩)])/\w'=w.alloc (.cells #[.int .u8 q.o,.string q.n,.slice q.a q.l q.c,.slice q.b q.m q.e] 36):=by
 obtain ⟨o,n,a,l,c,b,m,e⟩:=q;unfold FQ.val;go_enter Tryz.func86,Tryz.ntmps86;go_wp2;go_ret;exact ⟨rfl,rfl⟩
theorem Jc (f:Fm) (ar:fitF f) (M:Nat->Prop) (B X:Nat) (w:World) (q:FQ) (hX:w.heap[X]?=some (.cells #[.int .u8 q.o,.string q.n,.slice q.a q.l q.c,.slice q.b q.m q.e] 36 (0,0))) (KQ:¬M X) (hq:FormV (fun b=>b<B/\¬M b) w q.val f) :
  La M False Tryz.prog 150 #[.pointer (some ⟨X,0,none⟩)] (iC f) (XC M B) w:=by
 have qmA:=();exact qb5
theorem ON (f:Fm) (ar:fitF f) (ok:Nat->Prop) (w:World) (q:FQ) (hq:FormV ok w q.val f) :
  Calls Tryz.prog 167 #[q.val,.int .i64 9223372036854775807] w fun e w'=>e=.returned (.int .i64 (nodesF f))/\Below w.heap.size w w':=by
 have hq:=hq.lt;have zfm:=ar.1;have ⟨jw,HQ⟩:=aS ar hq;clear ar hq;refine Is ?_;refine callsIn_of_wp_marks Tryz.func167 rfl trivial ?_ rfl;simp only[Tryz.ntmps167,Nat.reduceAdd,Nat.reduceSub,lE];have qmB:=();exact qeD
theorem lq (f:Fm) (ar:fitF f) (ok:Nat->Prop) (w:World) (q:FQ) (hq:FormV ok w q.val f) :
  Calls Tryz.prog 99 #[q.val] w fun e w'=>e=.returned (.int .i64 (nodesF f))/\Below w.heap.size w w':=by
 have hb1:Below w.heap.size w (w.alloc (.cells #[.int .u8 q.o,.string q.n,.slice q.a q.l q.c,.slice q.b q.m q.e] 36)):=cI;have C1:=ON f ar ok _ q (hq.later hb1);have ⟨HB,HC⟩:=aS hb1 C1;clear hb1 C1 hq;unfold FQ.val at HC ⊢;go_enter Tryz.func99,Tryz.ntmps99;go_wp2_with (go_at_call 167;refine HC.o.mono ?_;rintro e w2 ⟨rfl,bG⟩);go_ret;exact ⟨rfl,HB.o.trans (bG.mono (by simp))⟩
theorem TermsV.one {q:TQ} {fr:Nat×Nat} (c:Nat) (ht:TermV ok W q.val t) (hb:ok b) (de:W.heap[b]?=some (.cells #[.bool q.v,.string q.n,.slice q.a q.l q.c] T fr)) :
  TermsV ok W (.slice (some ⟨b,0,none⟩) 1 c) [t]:=by
 refine ⟨_,c,fun _=>q.val,rfl,.inr ⟨b,0,rfl,hb,fun j hj=>?_⟩,fun j hj=>?_⟩
 ·simp at hj;subst hj;exact ⟨_,_,_,rfl,ag de 0,ag de 1,ag de 2⟩
 ·simp at hj;subst hj;exact ht
theorem FormsV.zero (ok:Nat->Prop) (W:World):FormsV ok W (.slice none 0 0) []:=⟨none,0,fun _=>.bool true,rfl,.inl rfl,fun j h=>by simp at h⟩
theorem lC (t:Tm) (ar:fitT t) (hn:nodesT t<2000000) (ok:Nat->Prop) (w:World) (q:TQ) (hq:TermV ok w q.val t) :
  Calls Tryz.prog 100 #[q.val] w fun e w'=>e=.returned (.int .i64 (nodesT t))/\Below w.heap.size w w':=by
 have hb1:Below w.heap.size w (w.alloc (.cells #[.bool q.v,.string q.n,.slice q.a q.l q.c] 43)):=cI;have bG:Below w.heap.size w ((w.alloc (.cells #[.bool q.v,.string q.n,.slice q.a q.l q.c] 43)).alloc (.cells #[.bool q.v,.string q.n,.slice q.a q.l q.c] 43)):=hb1.alloc (by simp) _;have hr:((w.alloc (.cells #[.bool q.v,.string q.n,.slice q.a q.l q.c] 43)).alloc (.cells #[.bool q.v,.string q.n,.slice q.a q.l q.c] 43)).heap[w.heap.size+1]?=some (.cells #[.bool q.v,.string q.n,.slice q.a q.l q.c] 43 (0,0)):=ah (by simp);have hf:fitF (.mk 0 [] [t] []):=⟨by have:=ar.1;simp[nodesF,nodesTs,nodesFs];omega,by have:=ar.2;simp[li,nmTs,nmFs,this]⟩;have hv:FormV (fun _=>True) ((w.alloc (.cells #[.bool q.v,.string q.n,.slice q.a q.l q.c] 43)).alloc (.cells #[.bool q.v,.string q.n,.slice q.a q.l q.c] 43)) (FQ.val ⟨0,⟨#[]⟩,some ⟨w.heap.size+1,0,none⟩,1,1,none,0,0⟩) (.mk 0 [] [t] []):=
  aQ.2 ⟨_,_,rfl,TermsV.one 1 ((hq.later bG).move (fun b _ _=>⟨trivial,rfl⟩)) trivial hr,FormsV.zero _ _⟩
 have C1:=lq _ hf _ _ _ hv;have mt:nodesF (.mk 0 [] [t] [])=nodesT t+1:=by simp[nodesF,nodesTs,nodesFs];try omega
 rw[mt]at C1;have ⟨HB,HC,HN⟩:=cE bG C1 hn;clear hb1 bG hr hf hv C1 hq ar mt hn;unfold TQ.val;unfold FQ.val at HC;go_enter Tryz.func100,Tryz.ntmps100;go_wp2_with (go_at_call 99;refine HC.o.mono ?_;rintro e w2 ⟨rfl,bG⟩;have bD:=ab bG;clear bG);have Vg:wrap64 ((nodesT t:Int))=(nodesT t:Int):=Go.IntWalk.wrap64_in _ (by have:=HN.o;omega);simp only[Vg];exact qeE
theorem LJ (s:ByteArray) (w:World) :
  Calls Tryz.prog 30 #[.string s] w fun e w'=>e=.returned (.agg #[.bool true,.string s,.slice none 0 0])/\Below w.heap.size w w':=by
 go_enter Tryz.func30,Tryz.ntmps30;go_wp2;refine bK (v:=.agg #[.bool true,.string s,.slice none 0 0]) (by simp[results,Tryz.results30,go_sem]) rfl ⟨rfl,?_⟩;exact cI
theorem LK (s:ByteArray) (a:Option Addr) (l c:Nat) (w:World) :
  Calls Tryz.prog 31 #[.string s,.slice a l c] w fun e w'=>e=.returned (.agg #[.bool false,.string s,.slice a l c])/\Below w.heap.size w w':=by
 go_enter Tryz.func31,Tryz.ntmps31;go_wp2;refine bK (v:=.agg #[.bool false,.string s,.slice a l c]) (by simp[results,Tryz.results31,go_sem]) rfl ⟨rfl,?_⟩;exact cI
theorem GA (s:ByteArray) (a:Option Addr) (l c:Nat) (w:World) :
  Calls Tryz.prog 24 #[.string s,.slice a l c] w fun e w'=>e=.returned (.agg #[.int .u8 1,.string s,.slice a l c,.slice none 0 0])/\Below w.heap.size w w':=by
 go_enter Tryz.func24,Tryz.ntmps24;go_wp2;refine bK (v:=.agg #[.int .u8 1,.string s,.slice a l c,.slice none 0 0]) (by simp[results,Tryz.results24,go_sem]) rfl ⟨rfl,?_⟩;exact cI
theorem Vh (o:Int) (s:ByteArray) (a:Option Addr) (l c:Nat) (w:World) :
  Calls Tryz.prog 28 #[.int .u8 o,.string s,.slice a l c] w fun e w'=>e=.returned (.agg #[.int .u8 o,.string s,.slice none 0 0,.slice a l c])/\Below w.heap.size w w':=by
 go_enter Tryz.func28,Tryz.ntmps28;go_wp2;refine bK (v:=.agg #[.int .u8 o,.string s,.slice none 0 0,.slice a l c]) (by simp[results,Tryz.results28,go_sem]) rfl ⟨rfl,?_⟩;exact cI
theorem ZM (s:ByteArray) (w:World) :
  Calls Tryz.prog 29 #[.string s] w fun e w'=>e=.returned (.agg #[.int .u8 15,.string s,.slice none 0 0,.slice none 0 0])/\Below w.heap.size w w':=by
 go_enter Tryz.func29,Tryz.ntmps29;go_wp2;refine bK (v:=.agg #[.int .u8 15,.string s,.slice none 0 0,.slice none 0 0]) (by simp[results,Tryz.results29,go_sem]) rfl ⟨rfl,?_⟩;exact cI
theorem OO (s x t:ByteArray) (w:World) :
  Calls Tryz.prog 35 #[.string s,.string x,.string t] w fun e w'=>(∃k c,e=.returned (.agg #[.int .u8 16,.string s,.slice (some ⟨k,0,none⟩) 2 c,.slice none 0 0])/\w.heap.size<=k/\∃T,w'.heap[k]?=some (.cells #[.bool true,.string x,.slice none 0 0,.bool true,.string t,.slice none 0 0] T (0,0)))/\Below w.heap.size w w':=by
 go_enter Tryz.func35,Tryz.ntmps35;go_wp2_with fail;refine (LJ _ _).mono ?_;rintro e w1 ⟨rfl,hb1⟩;go_wp2_with fail;refine (LJ _ _).mono ?_;rintro e w2 ⟨rfl,bG⟩;have x0:(w.alloc (.cells #[.int .u8 0,.string ⟨#[]⟩,.slice none 0 0,.slice none 0 0] 36)).heap[w.heap.size]?=some (.cells #[.int .u8 0,.string ⟨#[]⟩,.slice none 0 0,.slice none 0 0] 36 (0,0)):=ah rfl;have hb:Below (w.alloc (.cells #[.int .u8 0,.string ⟨#[]⟩,.slice none 0 0,.slice none 0 0] 36)).heap.size (w.alloc (.cells #[.int .u8 0,.string ⟨#[]⟩,.slice none 0 0,.slice none 0 0] 36)) w2:=hb1.trans (bG.mono hb1.size);have x2:=bN hb x0;have hsz:w.heap.size<w2.heap.size:=(bA x2);have ⟨W3,dF⟩:=aj (w2.alloc (.cells #[.bool true,.string x,.slice none 0 0,.bool true,.string t,.slice none 0 0] 43));have x3:W3.heap[w.heap.size]?=some (.cells #[.int .u8 0,.string ⟨#[]⟩,.slice none 0 0,.slice none 0 0] 36 (0,0)):=by rw[dF];exact (bH _ _ _ hsz).trans x2
 have y3:=bS dF;have aG:Below w.heap.size w W3:=by rw[dF];exact ((((ai w.heap.size w).alloc (aC _) _).trans (hb.mono (by simp)))).alloc (by omega) _
 have ⟨c0,c1,c2,c3⟩:=nI x3;have z0:=ac x3 0;have z1:=ac x3 1;have z2:=ac x3 2;have z3:=ac x3 3;obtain ⟨W4,y_,x4,k4,g0⟩:=yf x3 (.int .u8 16) (.string s) (.slice (some ⟨w2.heap.size,0,none⟩) 2 2) (.slice none 0 0);rw[dF]at c0 c1 c2 c3 z0 z1 z2 z3;have H:=ab (UR dF y_ g0 k4 aG y3 hsz);clear hb1 bG x0 hb x2 x3 y3 aG x4 k4 g0 dF y_ hsz;go_wp2_with fail;rw[<-H.o.1,<-H.o.2.1];obtain ⟨g0,g1,g2,g3⟩:=H.o.2.2.1;have hk:=H.o.2.2.2.1;have aG:=H.o.2.2.2.2.1;have hlt:=H.o.2.2.2.2.2.2;refine bK (v:=.agg #[.int .u8 16,.string s,.slice (some ⟨w2.heap.size,0,none⟩) 2 2,.slice none 0 0]) (by simp[results,Tryz.results35,go_sem,g0,g1,g2,g3]) rfl ⟨⟨_,_,rfl,by omega,_,(hk.same _ (bA H.o.2.2.2.2.2.1) (by omega)).trans H.o.2.2.2.2.2.1⟩,?_⟩;exact ⟨hk.os.trans aG.os,hk.tape.trans aG.tape,hk.output.trans aG.output,aN aG.size hk.size,fun b hb=>(hk.same b (bJ hb aG.size) (by omega)).trans (aG.block b hb)⟩
