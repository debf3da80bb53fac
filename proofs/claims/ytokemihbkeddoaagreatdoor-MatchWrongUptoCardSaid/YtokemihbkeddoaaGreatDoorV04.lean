/-
'least' and 'Fresh' of package subst;slices.Values at strings.
-/
import Derived.Test.YtokemihbkeddoaaGreatDoorV03
namespace Go.Proofs.YtokemihbkeddoaaGreatDoor
open Go Go.RowKit Lib
set_option maxRecDepth 100000
set_option maxHeartbeats 64000000
variable {ok:Nat->Prop} {W W' w:World} {a:Option Addr} {n c lo k m b i:Nat} {l xs:List Str} {v:Value} {e T:TypeId} {x:Str} {ops:Array Oper} {rest:List Oper} {o:Oper} {Q:Exit->Act->World->Prop}
section
attribute [local go_sem] Oper.semAt_some
def StrsO (ok:Nat->Prop) (W:World) (v:Value) (l:List Str):Prop:=∃a cap,v=.slice a l.length cap/\l.length<=cap/\(l=[]\/∃b off,a=some ⟨b,off,none⟩/\ok b/\∀ j (h:j<l.length),W.cell? ⟨b,off+j,none⟩=some (.string ⟨l[j].toArray⟩))
theorem StrsO.get (h:StrsO ok W (.slice a n c) l) {j:Nat} (hj:j<l.length) :
  ∃b off,a=some ⟨b,off,none⟩/\ok b/\W.cell? ⟨b,off+j,none⟩=some (.string ⟨l[j].toArray⟩):=by
 have pp249b:=();exact pm249
theorem StrsO.len (h:StrsO ok W (.slice a n c) l):n=l.length:=by
 obtain ⟨_,_,hv,_⟩:=h;injection hv
theorem StrsO.slice (h:StrsO ok W v l):∃a c,v=.slice a l.length c:=by obtain ⟨a,c,hv,_⟩:=h;exact ⟨a,c,hv⟩
theorem StrsO.move {ok':Nat->Prop} (h:StrsO ok W v l) (hb:gC ok ok' W W'):StrsO ok' W' v l:=by
 have pp235a:=();exact pm235
theorem StrsO.later (h:StrsO ok W v l) (hb:Below W.heap.size W W'):StrsO ok W' v l:=h.move (dr hb)
theorem StrsO.any (h:StrsO ok W v l):StrsV W v l:=by
 have pp235b:=();exact pm235
theorem RowS.strs (h:RowS lo W v l):StrsO (lo<=·) W v l:=by
 obtain ⟨⟨hl,h1⟩,_⟩:=h;exact pm90
theorem Jo (a:Option Addr) (n c:Nat) (w:World) :
  Calls Tryz.prog 199 #[.slice a n c] w fun e w'=>e=.returned (.func (.func 249) #[] #[.pointer (some ⟨w.heap.size,0,none⟩)])/\w'=w.alloc (.cells #[.slice a n c] 66):=by
 go_enter Tryz.func199,Tryz.ntmps199;go_wp2;go_ret;exact ⟨rfl,rfl⟩
theorem Gq {α:Type} {l:List α} (h:k<l.length):(l.take k ++ [l[k]]) <+: l:=by
 rw[<-mQ h];exact List.take_prefix _ _
theorem Jp (xs:List Str) (hl:xs.length<=2000000) (M:Nat->Prop) (X:Nat) (w:World) (a:Option Addr) (c:Nat) (hX:w.heap[X]?=some (.cells #[.slice a xs.length c] 66 (0,0))) (IK:¬M X) (hv:StrsO (fun b=>¬M b) w (.slice a xs.length c) xs) :
  I2 M False Tryz.prog 249 #[.pointer (some ⟨X,0,none⟩)] xs zb w:=by
 intro l J Jx W hk hM hlt Zi hJ _ hY hj;have RZ:=(bn hX);have yd:=(hk.same X RZ IK).trans hX;have c0:W.cell? ⟨X,0,none⟩=some (.slice a xs.length c):=ah yd 0;have hv:=hv.move (W':=W) (ok':=fun b=>¬M b) (fun b hb hlt=>⟨hb,hk.same b hlt hb⟩);obtain ⟨n0,ud⟩:=ao xs.length;rw[<-ud]at c0 hl hv;obtain ⟨HN,HV,HY⟩:=cD ud hv hY;have HJ0:=ab (show J (xs.take 0) W from hj);clear hX IK hv hY hj ud yd hk hM hlt Zi hJ RZ;refine mM Tryz.func249 ?_;simp only[Tryz.ntmps249,Nat.reduceAdd,Nat.reduceSub,li];have jH:=eU;gi_wp2;gi_loopw [7] (fun i wr=>∃k:Nat,k<=n0/\i=.int .i64 k/\J (xs.take k) wr/\Kp M W wr) (fun i _=>n0 - (intOf i).toNat)
 case atStart=>exact ⟨0,bc _,rfl,HJ0.o,Kp.refl _⟩
 case round=>
  obtain ⟨k,hk,rfl,hj,bj⟩:=hrel
  by_cases hlt:k<n0
  ·have br:=ct HN.o hlt;obtain ⟨b,off,rfl,ja,c1⟩:=HV.o.get br;have d1:=bj.cell ja c1;obtain ⟨x,hx⟩:=ao (xs[k]);rw[<-hx]at d1;have fS:xs.take (k+1)=xs.take k ++ [x]:=by rw[hx];exact mQ br
   have tC:=HY.o (xs.take k) #[.string ⟨x.toArray⟩] x wr hj bj rfl (by rw[hx];exact Gq br);obtain ⟨fn,tmps,assign,body,hy,Ga⟩:=jG 2 tC;obtain ⟨uf,kD⟩:=aZ fS bj;clear fS bj hj tC c1 hx;gi_wp2;refine Ga.mono ?_;rintro e W2 (⟨rfl,sH,fW⟩ | ⟨h,_⟩)
   ·have HH:=aC sH fW;clear sH fW Ga hy d1;gi_wp2;go_roundw
    case rel=>exact ⟨k+1,by omega,by go_num,by rw[uf.o];exact HH.o.1,kD.o.trans HH.o.2⟩
    case measure=>simp[intOf];omega
   ·exact h.elim
  ·obtain rfl:n0=k:=by omega
   have ht:xs.take n0=xs:=by rw[HN.o];exact cO
   rw[ht]at hj;have HH:=aC hj bj;clear hj bj ht;gi_wp2;exact ⟨rfl,.tuple #[],by simp[results,Tryz.results249,go_sem],⟨_,rfl⟩,.inl HH.o⟩
theorem sQ {H:Type} {P:Program} (he:P.underlying e=some .bool) {z:DataW H×List MemPlace} (h:plainElem P e v=some z) {x:Bool} (hx:z.1=.lit (.bool x)):v=.bool x:=by
 unfold plainElem at h;rw[he]at h;cases v <;> simp at h
 subst h;simp at hx;rw[hx]
theorem SetW.look (h:SetW W m n xs) (hx:x.length<=2000000) :
  ∀ W':World,W'.heap[m]?=W.heap[m]?->(Instr.lookup 118 (.map (some m)) (.string ⟨x.toArray⟩) false).run Tryz.prog W'=.ok (.bool (xs.contains x)) W':=by
 obtain ⟨D,⟨es,zd,hb,F,hs,hD⟩,oM,mn⟩:=h;intro W' hW;have hz:(zeroValue 4).run Tryz.prog W'=.ok (.bool false) W':=by kernel_rfl
 rcases Maps.fit_look false (Maps.string_keyed Tryz.underlying9) Tryz.underlying118 hz (hW.trans hb) F (wa Tryz.underlying9 hx) with ⟨hr,_,hat⟩ | ⟨e0,y,_,_,hr,hR,hat,_⟩
 ·rw[<-hD]at hat;have h0:=Maps.has_false_of_atKey hat;have hn:¬x∈xs:=fun hm=>by rw[(oM x).2 hm]at h0;cases h0
  rw[hr];simp[hn]
 ·rw[<-hD]at hat;have hm:=(oM x).1 (Maps.has_true_of_atKey hat);have h1:=(hat .nil).symm.trans (mn x hm .nil);have h2:=sQ Tryz.underlying4 hR h1;rw[hr,h2];simp[hm]
def zan (W:World) (v:Value) (Gs:List (List Str)):Prop:=∃b off cap,v=.slice (some ⟨b,off,none⟩) Gs.length cap/\∀ j (h:j<Gs.length),∃m n,W.cell? ⟨b,off+j,none⟩=some (.map (some m))/\SetW W m n Gs[j]
theorem w_ (h:SetW W m n xs) (hb:Below W.heap.size W W'):SetW W' m n xs:=h.same (hb.block m h.lt)
theorem MK (h:n<10 ^ 15):(gZ n).length<=16:=by
 unfold gZ;have:=El 20 n 15 h (by omega);simp;omega
theorem Gt (w:World) (k:Nat) (os:Array Obj):Below w.heap.size w (Go.Sort.grow (w.drewN k) os):=
 ⟨rfl,rfl,rfl,by simp[Go.Sort.grow],fun b hb=>by simp only[Go.Sort.grow,World.drewN];rw[Array.getElem?_append_left hb]⟩
theorem O8 (W0 w:World) (hT:Tabs W0 w) (k:Nat) (hk:k<1000000000):Calls Tryz.prog 219 #[.int .i64 (k:Int)] w fun e w'=>e=.returned (.string ⟨(Lib.itoa (k:Int)).toArray⟩)/\Below w.heap.size w w':=by
 refine (Tryz.strconv_Itoa (k:Int) (by omega) (by omega) w hT.t0.pow).mono ?_;rintro e w' ⟨rfl,n,os,rfl⟩;exact ⟨rfl,Gt _ _ _⟩
theorem ML (W0 w:World) (hT:Tabs W0 w) (v:Value) (Gs:List (List Str)) (cf:Gs.flatten.length<=100000000) (ox:Gs.length<=2000000) (hv:zan w v Gs) :
  Calls Tryz.prog 156 #[v] w fun e w'=>e=.returned (.string ⟨(dN Gs.flatten).toArray⟩)/\Below w.heap.size w w':=by
 obtain ⟨b,off,cap,rfl,dp⟩:=hv;obtain ⟨T,hTt⟩:=ao Gs.flatten;rw[<-hTt]at cf ⊢;obtain ⟨k0,cg⟩:=ao Gs.length;rw[<-cg]at ox ⊢;obtain ⟨HT,mJ,dJ,wb⟩:=eR hT hTt cg dp;clear hT hTt cg dp;go_enter Tryz.func156,Tryz.ntmps156;go_wp2;go_step3;go_wp2;go_step3;go_wp2;go_loopg [3] (T.length+2) (fun g i wr=>∃k:Nat,k+g=T.length+2/\i=.int .i64 k/\(∀ j,1<=j->j<k+1->gZ j∈T)/\Below w.heap.size w wr)
 case atStart=>exact ⟨0,by omega,rfl,fun j h1 h2=>by omega,ak _ _⟩
 case round=>
  obtain ⟨k,hkg,rfl,eA,hB⟩:=hrel;have hkT:=Jn (t:=T) (by omega) eA
  cases gk with
  | zero=>omega
  | succ g1=>
   have CI:=O8 W0 wr (HT.o.next hB) (k+1) (by omega);have yg:=MK (n:=k+1) (by omega);have hxi:=Jm (n:=k+1) (by omega);obtain ⟨nm,dK⟩:=ao (gZ (k+1));rw[<-dK]at yg hxi;obtain ⟨dg,hdg⟩:∃dg:List UInt8,dg=Lib.itoa ((k+1:Nat):Int):=⟨_,rfl⟩;rw[<-hdg]at CI hxi;have hsx:∀ W,(Op.stringOp .add ⟨#[120]⟩ ⟨dg.toArray⟩).run Tryz.prog W=.ok (.string ⟨nm.toArray⟩) W:=fun W=>by
    rw[run_string_add_sum W _ _ (by rw[hxi]at yg;simp at yg;have e:(⟨#[120]⟩:ByteArray).size=1:=rfl;have e2:(⟨dg.toArray⟩:ByteArray).size=dg.length:=rfl;rw[e,e2];omega),hxi];congr 2
   obtain ⟨Uw,Jc,HXl,zao,HB⟩:=vK CI dK yg eA hB;clear CI dK yg hxi hdg eA hB;go_wp2_with (go_at_call 219;refine Uw.o.mono ?_;rintro e w2 ⟨rfl,bF⟩;have cJ:=ab (HB.o.trans (bF.mono HB.o.size));clear bF);go_loopg [14] k0 (fun g i wr=>∃j:Nat,j+g=k0/\i=.int .i64 j/\(∀ (q:Nat) (hq:q<Gs.length),q<j->nm ∉ Gs[q])/\wr=w2)
   case atStart=>exact ⟨0,by omega,rfl,fun q hq h=>by omega,rfl⟩
   case round=>
    obtain ⟨j,hjg,rfl,IZ,rfl⟩:=hrel
    cases gk with
    | zero=>
     obtain rfl:j=k0:=by omega
     have HE:=ab (show dN T=nm by
      rw[Jc.o];refine Gn (by omega) (by omega) ?_ zao.o;rw[<-Jc.o,mJ.o];intro hm;obtain ⟨l,hl,hx⟩:=List.mem_flatten.1 hm;obtain ⟨q,hq,rfl⟩:=List.getElem_of_mem hl;exact IZ q hq (by rw[dJ.o];exact hq) hx)
     clear IZ;go_wp2;rw[Exit.noGoto_ret];go_ret;exact ⟨by rw[HE.o];rfl,cJ.o⟩
    | succ g=>
     have lC:j<Gs.length:=by rw[<-dJ.o];omega
     obtain ⟨m,n,hc,hs⟩:=wb.o j lC;have hc:=aa cJ.o hc;have hl:=(w_ hs cJ.o).look (x:=nm) (by have:=HXl.o;omega) wr rfl;have rX:(j:Int)<(k0:Int):=by omega
     by_cases hx:Gs[j].contains nm=true
     ·rw[hx]at hl;have HX:=ab (show gZ (k+1)∈T by
       rw[<-Jc.o,mJ.o];exact List.mem_flatten.2 ⟨_,az lC,by simpa using hx⟩)
      clear hx IZ hs;go_wp2;go_roundg g1
      case rel=>exact ⟨k+1,by omega,by go_num,fun i h1 h2=>by
       by_cases e:i=k+1
       ·subst e;exact HX.o
       ·exact zao.o i h1 (by omega),cJ.o⟩
      case measure=>omega
     ·rw[show Gs[j].contains nm=false by simpa using hx]at hl;have HN:=ab (show ∀ (q:Nat) (hq:q<Gs.length),q<j+1->nm ∉ Gs[q] from fun q hq h=>by
       by_cases e:q=j
       ·subst e;simpa using hx
       ·exact IZ q hq (by omega))
      clear hx IZ hs;go_wp2;go_roundg g
      case rel=>exact ⟨j+1,by omega,by go_num,HN.o,rfl⟩
      case measure=>omega
theorem De (W0 w:World) (hT:Tabs W0 w) (xs:List Str) (hl:xs.length<=1000000) (dK:∀ x∈xs,x.length<=2000000) (ok:Nat->Prop) (v:Value) (hv:StrsO ok w v xs) :
  Calls Tryz.prog 129 #[v] w fun e w'=>e=.returned (.string ⟨(dN xs).toArray⟩)/\Below w.heap.size w w':=by
 obtain ⟨a,c,rfl⟩:=hv.slice;have MM:=hv.move (ok':=fun b=>b<w.heap.size) (W':=w) (fun b hb hlt=>⟨hlt,rfl⟩);obtain ⟨W1,bR⟩:=ao (w.alloc (.cells #[.slice a xs.length c] 66));have hb1:=cX bR;have gx:=DY bR;have tP:=bX bR;have C2:=Ed xs (by omega) dK 249 #[.pointer (some ⟨w.heap.size,0,none⟩)] W1 (enters_of Tryz.func249 (by kernel_rfl) rfl)
  (fun w1 hb hlt=>Jp xs (by omega) (fun b=>b=W1.heap.size) w.heap.size w1 a c ((hb.block _ (by omega)).trans tP) (by omega) (MM.move (fun b bF eJ=>⟨by omega,(hb.block b (by omega)).trans (hb1.block b eJ)⟩)))
 rw[gx]at C2;have CL:=fun (w3:World) (hs:SetW w3 (w.heap.size+1) xs.length xs) (aJ:Below (w.heap.size+1) W1 w3)=>
  have gi:Below w.heap.size w w3:=hb1.trans (aJ.mono (by omega));have BL:Below w3.heap.size w3 (w3.alloc (.cells #[.map (some (w.heap.size+1))] 118)):=cQ
  (ML W0 (w3.alloc (.cells #[.map (some (w.heap.size+1))] 118)) (hT.next (gi.trans (BL.mono gi.size))) (.slice (some ⟨w3.heap.size,0,none⟩) 1 1) [xs] (by simp;omega) (by simp) ⟨w3.heap.size,0,1,rfl,fun j hj=>by
    obtain rfl:j=0:=by simpa using hj
    exact ⟨_,_,ah (aj rfl) 0,w_ hs BL⟩⟩).mono (R':=fun e w'=>e=.returned (.string ⟨(dN [xs].flatten).toArray⟩)/\Below w.heap.size w w') (fun e w' h=>⟨h.1,(gi.trans (BL.mono gi.size)).trans (h.2.mono (by simp;have:=gi.size;omega))⟩)
 have ug:[xs].flatten=xs:=by simp
 rw[ug]at CL;obtain ⟨BK,Zj⟩:=aZ C2 CL;clear C2 CL hb1 gx tP MM hv hT ug;rw[bR]at BK Zj;clear bR;go_enter Tryz.func129,Tryz.ntmps129;go_wp2_with (first | (go_at_call 199;refine (Jo _ _ _ _).mono ?_;rintro e w2 ⟨rfl,rfl⟩) | (go_at_call 84;refine BK.o.mono ?_;rintro e w3 ⟨rfl,nE,aJ⟩;have H3:=aC nE aJ;clear nE aJ) | (go_at_call 156;refine (Zj.o _ H3.o.1 H3.o.2).mono ?_;rintro e w5 ⟨rfl,bi⟩;have H5:=ab bi;clear bi));go_ret;exact ⟨rfl,H5.o⟩
end
def IntsV (W:World) (v:Value) (l:List Nat):Prop:=∃a cap,v=.slice a l.length cap/\l.length<=cap/\(l=[]\/∃b off,a=some ⟨b,off,none⟩/\∀ j (h:j<l.length),W.cell? ⟨b,off+j,none⟩=some (.int .i64 (l[j]:Nat)))
theorem IntsV.nil (W:World):IntsV W (.slice none 0 0) []:=⟨none,0,rfl,aF _,.inl rfl⟩
theorem IntsV.later {l:List Nat} (h:IntsV W v l) (hb:Below W.heap.size W W'):IntsV W' v l:=by
 exact pm114
theorem IntsV.len {l:List Nat} (h:IntsV W (.slice a n c) l):n=l.length:=by
 obtain ⟨a',cap,hv,_⟩:=h;injection hv
theorem IntsV.slice {l:List Nat} (h:IntsV W v l):∃a c,v=.slice a l.length c:=by
 obtain ⟨a',cap,hv,_⟩:=h;exact ⟨_,_,hv⟩
theorem IntsV.get {l:List Nat} (h:IntsV W (.slice a n c) l) (hl:l≠[]) :
  ∃b off,a=some ⟨b,off,none⟩/\∀ j (h:j<l.length),W.cell? ⟨b,off+j,none⟩=some (.int .i64 (l[j]:Nat)):=by
 have pp249c:=();exact pm249
def sS (l:List Nat):List Value:=l.map fun (i:Nat)=>Value.int .i64 (i:Int)
theorem IntsV.olds {b:Addr} {l:List Nat} (h:IntsV W (.slice (some b) n c) l):∀ j u,(sS l)[j]?=some u->W.cell? (b.add j)=some u:=by
 intro j u hu;unfold sS at hu;have hj:j<l.length:=by have:=(List.getElem?_eq_some_iff.1 hu).1;simpa using this
 obtain ⟨b',off,hb,hc⟩:=h.get (by intro h;rw[h]at hj;simp at hj);obtain rfl:b=⟨b',off,none⟩:=by injection hb
 rw[Addr.add_lit,hc j hj,<-hu];simp[hj]
theorem IntsV.own {base g:Nat} {l:List Nat} (h:W.ownsRow base e 1 (.slice (some ⟨g,0,none⟩) n c) n (sS l)):IntsV W (.slice (some ⟨g,0,none⟩) n c) l:=by
 have pp168a:=();exact pm168
theorem IntsV.one (c:Nat) (hc:1<=c) (h:W.heap[b]?=some (.cells #[.int .i64 (i:Int)] T (0,0))):IntsV W (.slice (some ⟨b,0,none⟩) 1 c) [i]:=
 ⟨_,c,rfl,hc,.inr ⟨b,0,rfl,fun j hj=>by simp at hj;subst hj;exact ah h 0⟩⟩
theorem Wf {x:Value} (base:Nat) (hb:base<=b) (h:W.heap[b]?=some (.cells #[x] T (0,0))):W.ownsRow base T 1 (.slice (some ⟨b,0,none⟩) 1 1) 1 [x]:=
 ⟨rfl,.inr ⟨b,1,#[x],rfl,hb,h,aF _,by unfold maxLen;omega,rfl,rfl⟩⟩
theorem Gu:(Tryz.prog.info? 3).map (fun i=>(i.zero,i.size,i.bytes))=some (some (.int .i64 0),1,8):=by kernel_rfl
theorem wd {l:List Tm} {p:List Nat} (h:eC x l i=some p):p≠[]:=by
 induction l generalizing i with
 | nil=>simp[eC]at h
 | cons t l ih=>
  unfold eC at h
  cases hp:nN x t with
  | none=>rw[hp]at h;exact ih h
  | some q=>rw[hp]at h;injection h with h;rw[<-h];simp
theorem Gv {l:List Tm} (h:k<l.length):eC x (l.drop k) k=match nN x l[k] with | some p=>some (k :: p) | none=>eC x (l.drop (k+1)) (k+1):=by
 rw[fN h,eC];cases nN x l[k] <;> rfl
theorem mu {x:Str}:∀ (l:List Tm) (i:Nat) (p:List Nat),eC x l i=some p->p.length<=nodesTs l
 | [],i,p,h=>by simp[eC]at h
 | .mk v n a :: l,i,p,h=>by
  unfold eC at h;have h1:=mu (x:=x) l (i+1);have h2:=mu (x:=x) a 0;unfold nodesTs nodesT
  cases hp:nN x (.mk v n a) with
  | none=>rw[hp]at h;have:=h1 p h;omega
  | some q=>
   rw[hp]at h;injection h with h;unfold nN at hp;subst h
   by_cases hc:(v && n == x)=true
   ·rw[aX hc]at hp;injection hp with hp;subst hp;simp;omega
   ·rw[aD hc]at hp;have:=h2 q hp;simp;omega
def Wg (l:List Tm):Prop:=∀ (x:Str) (ok:Nat->Prop) (w:World) (a:Option Addr) (n c:Nat),fitTs l->TermsV ok w (.slice a n c) l →
 Calls Tryz.prog 229 #[.slice a n c,.string ⟨x.toArray⟩] w fun e w'=>(∃v,e=.returned v/\IntsV w' v ((eC x l 0).getD []))/\Below w.heap.size w w'
theorem Lv (l:List Tm) (ih:∀ t∈l,Wg t.a):Wg l:=by
 obtain ⟨i0,hi,pF,iq,gV⟩:=info_parts Gu;intro x ok w a n c aA hl;obtain rfl:=hl.len;have cf:=aA.len;obtain ⟨k0,cg⟩:=ao l.length;obtain ⟨R,hR⟩:=ao (eC x l 0);rw[<-cg]at cf;rw[<-cg,<-hR];obtain ⟨dJ,HL,fd,HF,HR⟩:=vK cg hl ih aA hR;clear cg hl ih aA hR;go_enter Tryz.func229,Tryz.ntmps229;go_wp2;go_loopw [10] (fun i wr=>∃k:Nat,k<=k0/\i=.int .i64 k/\Below w.heap.size w wr/\R=eC x (l.drop k) k) (fun i _=>k0 - (intOf i).toNat)
 case atStart=>exact ⟨0,bc _,rfl,ak _ _,by simpa using HR.o⟩
 case round=>
  have pp288a:=();exact pm288
theorem O':∀ t:Tm,Wg t.a:=by
 intro t
 induction t using Tm.ind with
 | h v n a ih=>exact Lv a ih
theorem yh (w:World) (b k:Nat) (hb:w.heap[b]?=some (.cells #[.int .i64 (k:Int)] 3 (0,0))) (p:List Nat) (v:Value) (hv:IntsV w v p) (hp:p.length<=2000000) (ty:TypeId) :
  ∃v' w',(Builtin.append_ #[218,218] ty #[.slice (some ⟨b,0,none⟩) 1 1,v]).run Tryz.prog w=.ok v' w'/\IntsV w' v' (k :: p)/\w.grownBy w' (some b):=by
 obtain ⟨i0,hi,pF,iq,gV⟩:=info_parts Gu;have hlt:=(bn hb);obtain ⟨a,c,rfl⟩:=hv.slice
 by_cases h0:p=[]
 ·subst h0;have hs:Src Tryz.prog i0.size 218 (.slice a ([]:List Nat).length c) 0 [] w:=by
   cases a with
   | none=>exact Src.ofNil w Tryz.underlying218 c
   | some a=>exact Src.ofSlice w Tryz.underlying218 a 0 c [] (by simp) (by simp) (by simp)
  exact ⟨_,_,run_append_nothing w _ _ _ _ i0 Tryz.underlying218 hi (some ⟨b,0,none⟩) 1 1 (aF _) _ hs,IntsV.one 1 (aF _) hb,⟨rfl,rfl,rfl,aF _,fun _ _ _=>rfl⟩⟩
 ·obtain ⟨b2,off2,rfl,hc2⟩:=hv.get h0;have nj:=ie.2 h0;obtain ⟨g,cap,w',hr,h2,h3,_,_⟩:=run_append_lies (P:=Tryz.prog) w 218 ty 0 3 i0 (.int .i64 0) 1 8 Tryz.underlying218 hi pF iq gV rfl (by decide) (.slice (some ⟨b,0,none⟩) 1 1) 1 [.int .i64 (k:Int)] (Wf 0 (bc _) hb) ⟨b2,off2,none⟩ p.length c (sS p) (by simp[sS]) hv.olds (by simp[sS,Value.oneCell']) nj (by unfold maxLen;omega) (by omega) (bc _) _ rfl;exact ⟨_,_,hr,IntsV.own (l:=k :: p) h2,h3⟩
theorem sT {a:Act} (vC:o.guard=none) (s x:Operand)
  (ho:o.op=.call { callee:=.builtin .append,args:=#[s,x],argTypes:=#[218,218] }) (b k:Nat) (hb:w.heap[b]?=some (.cells #[.int .i64 (k:Int)] 3 (0,0))) (p:List Nat) (v:Value) (hs:a.eval s=.slice (some ⟨b,0,none⟩) 1 1) (hx:a.eval x=v) (hv:IntsV w v p) (hp:p.length<=2000000)
  (h:∀ v' w',IntsV w' v' (k :: p)->w.grownBy w' (some b)->wpList Tryz.prog ops Q rest (a.put o.dst v') w'):wpList Tryz.prog ops Q (o :: rest) a w:=by
 refine wpList_plain vC fun K hK=>?_;obtain ⟨v',w',hr,h2,h3⟩:=yh w b k hb p v hv hp o.type;have pp226:=();exact pm226
theorem Gw {l:List Fm} (h:k<l.length):mg x (l.drop k) k=match lu x l[k] with | some (p,q)=>some (k :: p,q) | none=>mg x (l.drop (k+1)) (k+1):=by
 rw[fN h,mg];cases lu x l[k] <;> rfl
mutual
theorem uh:∀ (f:Fm) (r:List Nat×List Nat),lu x f=some r->r.2≠[]/\r.1.length+1<=nodesF f/\r.2.length<=nodesF f
 | .mk o n a s,r,h=>by
  unfold lu at h;unfold nodesF
  cases hp:eC x a 0 with
  | some q=>
   rw[hp]at h;injection h with h;subst h;have:=mu a 0 q hp;exact ⟨wd hp,by simp,by simp only;omega⟩
  | none=>
   rw[hp]at h;have:=Dg s 0 r h;exact ⟨this.1,by omega,by omega⟩
theorem Dg:∀ (l:List Fm) (i:Nat) (r:List Nat×List Nat),mg x l i=some r->r.2≠[]/\r.1.length<=nodesFs l/\r.2.length<=nodesFs l
 | [],i,r,h=>by simp[mg]at h
 | f :: l,i,r,h=>by
  unfold mg at h;unfold nodesFs
  cases hp:lu x f with
  | some q=>
   obtain ⟨q1,q2⟩:=q;rw[hp]at h;injection h with h;subst h;have:=uh f _ hp;exact ⟨this.1,by have:=this.2.1;simp only[fF]at *;omega,by have:=this.2.2;simp only at *;omega⟩
  | none=>
   rw[hp]at h;have:=Dg l (i+1) r h;exact ⟨this.1,by omega,by omega⟩
end
def zcq (f:Fm):Prop:=∀ (x:Str) (ok:Nat->Prop) (w:World) (q:FQ),fitF f->FormV ok w q.val f →
 Calls Tryz.prog 165 #[q.val,.string ⟨x.toArray⟩] w fun e w'=>(∃v1 v2,e=.returned (.tuple #[v1,v2])/\IntsV w' v1 (((lu x f).map (·.1)).getD [])/\IntsV w' v2 (((lu x f).map (·.2)).getD []))/\Below w.heap.size w w'
theorem O_:∀ f,zcq f:=by
 intro f
 induction f using Fm.ind with
 | h uo xn xa xs ih=>
 intro x ok w q hf hq;obtain ⟨va,vs2,h1,fL,FG⟩:=aW.1 hq;obtain ⟨uo,un,ua,ul,uc,ub,um,ue⟩:=q;have pp32a:=();exact pm32
theorem we (b off j:Nat):(⟨b,off,none⟩:Addr).add j=⟨b,off+j,none⟩:=by unfold Addr.add;split <;> simp_all
theorem fk (l:List Str) (hl:l.length<=2000000) (x:Str) (ok:Nat->Prop) (w:World) (v:Value) (hv:StrsO ok w v l) :
  Calls Tryz.prog 128 #[v,.string ⟨x.toArray⟩] w fun e w'=>e=.returned (.bool (l.contains x))/\w'=w:=by
 obtain ⟨a,c,rfl,hc,h⟩:=hv
 by_cases h0:l=[]
 ·subst h0;exact Tryz.slices_Contains_string_empty a c ⟨x.toArray⟩ w
 ·rcases h with h | ⟨b,off,rfl,_,hcells⟩
  ·exact absurd h h0
  ·have hlm:(l.map fun s=>(⟨s.toArray⟩:ByteArray)).length=l.length:=by simp
   have:=Tryz.slices_Contains_string b off l.length c (l.map fun s=>⟨s.toArray⟩) ⟨x.toArray⟩ w (by simp) (by omega) (fun j hj=>by
    rw[hlm]at hj;rw[hcells j hj];simp[List.getD_eq_getElem?_getD,gy hj])
   refine this.mono ?_;rintro e w' ⟨rfl,rfl⟩;refine ⟨?_,rfl⟩;congr 2;rw[ii (by simp)];rw[gA,Lib.containsS_iff];simp only[List.mem_map,List.contains_iff_mem];constructor
   ·rintro ⟨s,hs,he⟩;have:s=x:=by
     have h1:=congrArg (fun b:ByteArray=>b.data.toList) he;simpa using h1
    exact this ▸ hs
   ·exact fun h=>⟨x,h,rfl⟩
def OwnS (lo:Nat) (W:World) (v:Value) (l:List Str):Prop:=W.ownsRow lo 9 1 v l.length (l.map encStr)
theorem OwnS.strs (h:OwnS lo W v l):StrsO (lo<=·) W v l:=by
 obtain ⟨hl,h1⟩:=h;exact pm90
theorem OwnS.held (h:OwnS lo W v l) (hb:∀ b,lo<=b->b<W.heap.size->W'.heap[b]?=W.heap[b]?):OwnS lo W' v l:=bh h (fun b h1 h2=>hb b h1 h2)
theorem OwnS.later (h:OwnS lo W v l) (hb:Below W.heap.size W W'):OwnS lo W' v l:=h.held (fun b _ hlt=>hb.block b hlt)
theorem zw {base Uz:Nat} {size:Nat} {xs:List Value} (h:W.ownsRow base e size v k xs) (hb:Uz<=base):W.ownsRow Uz e size v k xs:=by
 obtain ⟨h1,h2⟩:=h;refine ⟨h1,?_⟩;rcases h2 with h2 | ⟨g,cap,cur,hv,hg,h3⟩
 ·exact .inl h2
 ·exact .inr ⟨g,cap,cur,hv,aQ hb hg,h3⟩
theorem OwnS.base {lo':Nat} (h:OwnS lo W v l) (hb:lo'<=lo):OwnS lo' W v l:=zw h hb
theorem OwnS.nil (lo:Nat) (W:World):OwnS lo W (.slice none 0 0) []:=⟨rfl,.inl ⟨rfl,rfl⟩⟩
theorem zx:(Tryz.prog.info? 9).map (fun i=>(i.zero,i.size,i.bytes))=some (some (.string ByteArray.empty),1,16):=by kernel_rfl
theorem oa (w:World) (lo:Nat) (hlo:lo<=w.heap.size) (v1:Value) (l1:List Str) (h1:OwnS lo w v1 l1) (v2:Value) (l2:List Str) (ok:Nat->Prop) (h2:StrsO ok w v2 l2) (hl:l1.length+l2.length<=4000000) (ty:TypeId) :
  ∃v' w',(Builtin.append_ #[66,66] ty #[v1,v2]).run Tryz.prog w=.ok v' w'/\OwnS lo w' v' (l1 ++ l2)/\w.grownBy w' v1.ownBlock:=by
 obtain ⟨i0,hi,pF,iq,gV⟩:=info_parts zx;obtain ⟨a,c,rfl⟩:=h2.slice
 by_cases h0:l2=[]
 ·subst h0;have hs:Src Tryz.prog i0.size 66 (.slice a ([]:List Str).length c) 0 [] w:=by
   cases a with
   | none=>exact Src.ofNil w Tryz.underlying66 c
   | some a=>exact Src.ofSlice w Tryz.underlying66 a 0 c [] (by simp) (by simp) (by simp)
  have On:∃p n c',v1=.slice p n c'/\n<=c':=by
   rcases h1.2 with ⟨rfl,h⟩ | ⟨g,cap,cur,rfl,_,_,hc,_⟩
   ·exact ⟨none,0,0,rfl,aF _⟩
   ·exact ⟨_,_,_,rfl,hc⟩
  obtain ⟨p,n,c',rfl,hn⟩:=On;exact ⟨_,_,run_append_nothing w _ _ _ _ i0 Tryz.underlying66 hi p n c' hn _ hs,by simpa using h1,⟨rfl,rfl,rfl,aF _,fun _ _ _=>rfl⟩⟩
 ·obtain ⟨b2,off2,rfl,_,hc2⟩:=h2.get (j:=0) (ie.2 h0);have nj:=ie.2 h0;have zas:∀ j (h:j<l2.length),w.cell? ⟨b2,off2+j,none⟩=some (.string ⟨l2[j].toArray⟩):=fun j hj=>by
   obtain ⟨b3,Wk,he,_,So⟩:=h2.get hj;cases he;exact So
  obtain ⟨g,cap,w',hr,h3,h4,_,_⟩:=run_append_lies (P:=Tryz.prog) w 66 ty lo 9 i0 (.string ByteArray.empty) 1 16 Tryz.underlying66 hi pF iq gV rfl (by decide) v1 l1.length (l1.map encStr) h1 ⟨b2,off2,none⟩ l2.length c (l2.map encStr) (by simp) (fun j u hu=>by
   rw[List.getElem?_map]at hu
   by_cases hj:j<l2.length
   ·rw[gy hj]at hu;rw[we,zas j hj,<-hu];rfl
   ·rw[List.getElem?_eq_none (by omega)]at hu;cases hu) (by simp[encStr,Value.oneCell']) nj (by unfold maxLen;omega) (by omega) hlo _ rfl
  refine ⟨_,_,hr,?_,h4⟩;unfold OwnS;rw[di,List.map_append];exact h3
theorem dU {a:Act} (vC:o.guard=none) (s x:Operand)
  (ho:o.op=.call { callee:=.builtin .append,args:=#[s,x],argTypes:=#[66,66] }) (lo:Nat) (hlo:lo<=w.heap.size) (v1:Value) (l1:List Str) (hs:a.eval s=v1) (h1:OwnS lo w v1 l1) (v2:Value) (l2:List Str) (hx:a.eval x=v2) (ok:Nat->Prop) (h2:StrsO ok w v2 l2) (hl:l1.length+l2.length<=4000000)
  (h:∀ v' w',OwnS lo w' v' (l1 ++ l2)->w.grownBy w' v1.ownBlock->wpList Tryz.prog ops Q rest (a.put o.dst v') w'):wpList Tryz.prog ops Q (o :: rest) a w:=by
 refine wpList_plain vC fun K hK=>?_;obtain ⟨v',w',hr,h3,h4⟩:=oa w lo hlo v1 l1 h1 v2 l2 ok h2 hl o.type;exact pm226
theorem pO {F:Fence} {a:Act} (vC:o.guard=none) (s x:Operand)
  (ho:o.op=.call { callee:=.builtin .append,args:=#[s,x],argTypes:=#[66,66] }) (lo:Nat) (hlo:lo<=w.heap.size) (v1:Value) (l1:List Str) (hs:a.eval s=v1) (h1:OwnS lo w v1 l1) (v2:Value) (l2:List Str) (hx:a.eval x=v2) (ok:Nat->Prop) (h2:StrsO ok w v2 l2) (hl:l1.length+l2.length<=4000000)
  (h:∀ v' w',OwnS lo w' v' (l1 ++ l2)->w.grownBy w' v1.ownBlock->wpListIn F n Tryz.prog ops Q rest (a.put o.dst v') w'):wpListIn F n Tryz.prog ops Q (o :: rest) a w:=by
 refine wpListIn_plain vC fun K hK=>?_;obtain ⟨v',w',hr,h3,h4⟩:=oa w lo hlo v1 l1 h1 v2 l2 ok h2 hl o.type;unfold Oper.wpIn;refine ⟨by simp[Oper.about,ho,resolve,Target.leads,Sem.run_pure],?_⟩;rw[Oper.semAt_plain F _ _ (by rw[ho];intro c hc';cases hc')];simp[execOp,ho,resolve,invoke,builtin,hs,hx,hr,Result.andThen];exact hK _ _ (h v' w' h3 h4)
section
attribute [local go_sem] Oper.semAt_some
theorem _root_.Go.RowKit.Below.tr {a b c:World} (h:Below a.heap.size a b) (k:Below b.heap.size b c):Below a.heap.size a c:=h.trans (k.mono h.size)
def Pa (g:Nat) (lb:Array Value) (f:Str->Option Tm) (Wb:World):Prop:=∀ (n:Str) (W:World),n.length<=2000000->Below Wb.heap.size Wb W →
 Calls Tryz.prog g (#[.string ⟨n.toArray⟩] ++ lb) W fun e W'=>(∃q:TQ,e=.returned (.tuple #[q.val,.bool (f n).isSome])/\∀ u,f n=some u->TermV (fun _=>True) W' q.val u)/\Below W.heap.size W W'
def zcs (f:Str->Option Tm):Prop:=∀ n u,f n=some u->∀ (ok:Nat->Prop) (W:World) (q:TQ),TermV ok W q.val u->Calls Tryz.prog 218 #[q.val] W fun e w'=>(∃p:TQ,e=.returned p.val/\TermV (W.heap.size<=·) w' p.val u)/\Below W.heap.size W w'
theorem zy (g:Nat) (lb:Array Value) (eg:∀ args W,(callFunc g args).run Tryz.prog W=.ok (.enter g args) W) (f:Str->Option Tm) (Wb:World) (hI:Pa g lb f Wb) (hC:zcs f):∀ (t:Tm),fitT t->∀ (ok:Nat->Prop) (w:World) (q:TQ),Below Wb.heap.size Wb w->TermV ok w q.val t →
  Calls Tryz.prog 154 #[q.val,.func (.func g) #[] lb] w fun e w'=>(∃p:TQ,e=.returned p.val/\TermV (w.heap.size<=·) w' p.val (eT f t))/\Below w.heap.size w w':=by
 obtain ⟨pY,hi,yF,vX,yX⟩:=info_parts gN;intro t
 induction t using Tm.ind with
 | h v n a ih=>
  intro aA ok w q cK hq;have pp171d:=();exact pm171
mutual
theorem Dh:∀ t,eT (fun _=>none) t=t
 | .mk v n a=>by cases v <;> simp[eT,zz a]
theorem zz:∀ l,qj (fun _=>none) l=l
 | []=>rfl
 | t :: l=>by simp[qj,Dh t,zz l]
end
theorem En:∀ args W,(callFunc 268 args).run Tryz.prog W=.ok (.enter 268 args) W:=enters_of Tryz.func268 (by kernel_rfl) rfl
theorem Gy:∀ args W,(callFunc 232 args).run Tryz.prog W=.ok (.enter 232 args) W:=enters_of Tryz.func232 (by kernel_rfl) rfl
theorem Js (Wb:World):Pa 268 #[] (fun _=>none) Wb:=by
 intro n W hn _;have tP:(W.alloc (.cells #[.bool false,.string ⟨#[]⟩,.slice none 0 0] 43)).heap[W.heap.size]?=some (.cells #[.bool false,.string ⟨#[]⟩,.slice none 0 0] 43 (0,0)):=aj rfl;have hB:Below W.heap.size W (W.alloc (.cells #[.bool false,.string ⟨#[]⟩,.slice none 0 0] 43)):=cQ;have e0:(W.alloc (.cells #[.bool false,.string ⟨#[]⟩,.slice none 0 0] 43)).cell? ⟨W.heap.size,0,none⟩=some (.bool false):=ah tP 0;have e1:(W.alloc (.cells #[.bool false,.string ⟨#[]⟩,.slice none 0 0] 43)).cell? ⟨W.heap.size,1,none⟩=some (.string ⟨#[]⟩):=ah tP 1;have e2:(W.alloc (.cells #[.bool false,.string ⟨#[]⟩,.slice none 0 0] 43)).cell? ⟨W.heap.size,2,none⟩=some (.slice none 0 0):=ah tP 2;have HB:=ab hB;clear tP hB;go_enter Tryz.func268,Tryz.ntmps268;go_wp2;refine bI (v:=.tuple #[TQ.val ⟨false,⟨#[]⟩,none,0,0⟩,.bool false]) (by simp[TQ.val,results,Tryz.results268,go_sem,e0,e1,e2]) rfl ⟨⟨⟨false,⟨#[]⟩,none,0,0⟩,rfl,fun u h=>by cases h⟩,HB.o⟩
theorem MN (t:Tm) (aA:fitT t) (ok:Nat->Prop) (w:World) (q:TQ) (hq:TermV ok w q.val t) :
  Calls Tryz.prog 218 #[q.val] w fun e w'=>(∃p:TQ,e=.returned p.val/\TermV (w.heap.size<=·) w' p.val t)/\Below w.heap.size w w':=by
 obtain ⟨qv,qn,qa,ql,qc⟩:=q;obtain ⟨W2,bl⟩:=ao ((w.alloc (.cells #[.bool qv,.string qn,.slice qa ql qc] 43)).alloc (.cells #[.bool false,.string ⟨#[]⟩,.slice none 0 0] 43));have bF:=lB bl;have lg:=xV bl;have y1:=jC bl;have C:=zy 268 #[] En (fun _=>none) W2 (Js W2) (fun n u h=>by cases h) t aA ok W2 ⟨qv,qn,qa,ql,qc⟩ (ak _ _) (hq.later bF);rw[Dh]at C;simp only[TQ.val]at C;have HC:=ab C;have HY:=bE bF y1 lg;have gF:=ab bl;clear C bF y1 lg bl hq aA;unfold TQ.val;go_enter Tryz.func218,Tryz.ntmps218;go_wp2_with (rw[<-gF.o];go_at_call 154;refine HC.o.mono ?_;rintro e w5 ⟨⟨p5,rfl,rq⟩,bi⟩;obtain ⟨pv,pn,pa,pl,pc⟩:=p5;simp only at rq ⊢;have x1:=(bi.block _ (by have:=HY.o.2.2;omega)).trans HY.o.2.1;have e0:=ah x1 0;have e1:=ah x1 1;have e2:=ah x1 2;have z0:=ac x1 0;have z1:=ac x1 1;have z2:=ac x1 2;have H5:=cC rq (HY.o.1.tr bi) x1 bi.size;clear bi rq x1);have pp62:=();exact pm62
theorem jK (W:World):(zeroValue 43).run Tryz.prog W=.ok (.agg #[.bool false,.string ⟨#[]⟩,.slice none 0 0]) W:=by kernel_rfl
def TermIn (w:World) (v:Value) (t:Tm):Prop:=∃q:TQ,v=q.val/\TermV (fun _=>True) w q.val t
theorem MO (w Wb:World) (hwb:Below w.heap.size w Wb) (B m n:Nat) (l:List (Str×Tm)) (hB:Wb.cell? ⟨B,0,none⟩=some (.map (some m))) (hm:MapV Tryz.prog 9 (TermIn w) Wb m n l):Pa 232 #[.pointer (some ⟨B,0,none⟩)] (fun n=>getB l n) Wb:=by
 intro x W hx hb;obtain ⟨W1,bR⟩:=ao (W.alloc (.cells #[.bool false,.string ⟨#[]⟩,.slice none 0 0] 43));have hb1:=cX bR;have hc:W1.cell? ⟨B,0,none⟩=some (.map (some m)):=aa (hb.tr hb1) hB;have Bn:W1.heap[m]?=Wb.heap[m]?:=(hb.tr hb1).block m hm.lt;rcases hm.look Tryz.underlying9 Tryz.underlying146 jK hx with ⟨hn,hr⟩ | ⟨u,v,hs,⟨⟨qv,qn,qa,ql,qc⟩,rfl,hq⟩,hr⟩
 ·have hr:=(hr W1 Bn).1;rw[bR]at hr hc;simp only[hn,Option.isSome];clear hb1 Bn bR hm hB hb hwb;go_enter Tryz.func232,Tryz.ntmps232;go_wp2;have tD:Below (W.alloc (.cells #[.bool false,.string ⟨#[]⟩,.slice none 0 0] 43)).heap.size (W.alloc (.cells #[.bool false,.string ⟨#[]⟩,.slice none 0 0] 43)) ((W.alloc (.cells #[.bool false,.string ⟨#[]⟩,.slice none 0 0] 43)).alloc (.cells #[.bool false,.string ⟨#[]⟩,.slice none 0 0] 43)):=cQ;have hba:Below W.heap.size W (W.alloc (.cells #[.bool false,.string ⟨#[]⟩,.slice none 0 0] 43)):=cQ;have hx:(W.alloc (.cells #[.bool false,.string ⟨#[]⟩,.slice none 0 0] 43)).heap[W.heap.size]?=some (.cells #[.bool false,.string ⟨#[]⟩,.slice none 0 0] 43 (0,0)):=aj rfl;have g0:=aa tD (ah hx 0);have g1:=aa tD (ah hx 1);have g2:=aa tD (ah hx 2);refine bI (v:=.tuple #[TQ.val ⟨false,⟨#[]⟩,none,0,0⟩,.bool false]) (by simp[TQ.val,results,Tryz.results232,go_sem,g0,g1,g2]) rfl ⟨⟨⟨false,⟨#[]⟩,none,0,0⟩,rfl,fun u h=>by cases h⟩,hba.tr tD⟩
 ·have hr:=(hr W1 Bn).1;rw[bR]at hr hc;simp only[hs,Option.isSome];have hqw:=(hq.later hwb).move (vQ hb);clear hb1 Bn bR hm hB hb hwb hq;simp only[TQ.val]at hr;go_enter Tryz.func232,Tryz.ntmps232;go_wp2;have tD:Below (W.alloc (.cells #[.bool qv,.string qn,.slice qa ql qc] 43)).heap.size (W.alloc (.cells #[.bool qv,.string qn,.slice qa ql qc] 43)) ((W.alloc (.cells #[.bool qv,.string qn,.slice qa ql qc] 43)).alloc (.cells #[.bool qv,.string qn,.slice qa ql qc] 43)):=cQ;have hba:Below W.heap.size W (W.alloc (.cells #[.bool qv,.string qn,.slice qa ql qc] 43)):=cQ;have hx:(W.alloc (.cells #[.bool qv,.string qn,.slice qa ql qc] 43)).heap[W.heap.size]?=some (.cells #[.bool qv,.string qn,.slice qa ql qc] 43 (0,0)):=aj rfl;have g0:=aa tD (ah hx 0);have g1:=aa tD (ah hx 1);have g2:=aa tD (ah hx 2);refine bI (v:=.tuple #[TQ.val ⟨qv,qn,qa,ql,qc⟩,.bool true]) (by simp[TQ.val,results,Tryz.results232,go_sem,g0,g1,g2]) rfl ⟨⟨⟨qv,qn,qa,ql,qc⟩,rfl,fun u2 h=>by cases h;exact hqw.later (hba.tr tD)⟩,hba.tr tD⟩
