/-
'least' and 'Fresh' of package subst;slices.Values at strings.
Rows of ints in memory;contracts of 'firstTerm','first' of package match.
The contract of 'first' of package match.
Rows of strings: slices.Contains,and append of one row to another.
-/
import Derived.Test.YtokemihbkeddoaaGreatDoorU00
import Derived.Test.YtokemihbkeddoaaGreatDoorU07
import Derived.Test.YtokemihbkeddoaaGreatDoorU08
import Derived.Test.YtokemihbkeddoaaGreatDoorU05
import Derived.Deep.LoopGhost
import Derived.Test.YtokemihbkeddoaaGreatDoorU01
import Derived.Test.YtokemihbkeddoaaGreatDoorU03
import Derived.Deep.Upon
namespace Go.Proofs.YtokemihbkeddoaaGreatDoor
open Go Go.RowKit Lib
set_option maxRecDepth 100000
set_option maxHeartbeats 64000000
section
attribute [local go_sem] Oper.semAt_some
def StrsO (ok:Nat->Prop) (W:World) (v:Value) (l:List Str):Prop:=∃a cap,v=.slice a l.length cap/\l.length<=cap/\(l=[]\/∃b off,a=some ⟨b,off,none⟩/\ok b/\∀ j (h:j<l.length),W.cell? ⟨b,off+j,none⟩=some (.string ⟨l[j].toArray⟩))
theorem StrsO.get {ok:Nat->Prop} {W:World} {a:Option Addr} {n c:Nat} {l:List Str} (h:StrsO ok W (.slice a n c) l) {j:Nat} (hj:j<l.length) :
  ∃b off,a=some ⟨b,off,none⟩/\ok b/\W.cell? ⟨b,off+j,none⟩=some (.string ⟨l[j].toArray⟩):=by
 have pp262b:=();exact pm262
theorem StrsO.len {ok:Nat->Prop} {W:World} {a:Option Addr} {n c:Nat} {l:List Str} (h:StrsO ok W (.slice a n c) l):n=l.length:=by
 obtain ⟨_,_,hv,_⟩:=h
 injection hv
theorem StrsO.slice {ok:Nat->Prop} {W:World} {v:Value} {l:List Str} (h:StrsO ok W v l):∃a c,v=.slice a l.length c:=by obtain ⟨a,c,hv,_⟩:=h;exact ⟨a,c,hv⟩
theorem StrsO.move {ok ok':Nat->Prop} {W W':World} {v:Value} {l:List Str} (h:StrsO ok W v l) (hb:el ok ok' W W'):StrsO ok' W' v l:=by
 have pp250a:=();exact pm250
theorem StrsO.later {ok:Nat->Prop} {W W':World} {v:Value} {l:List Str} (h:StrsO ok W v l) (hb:Below W.heap.size W W'):StrsO ok W' v l:=h.move (cU hb)
theorem StrsO.any {ok:Nat->Prop} {W:World} {v:Value} {l:List Str} (h:StrsO ok W v l):StrsV W v l:=by
 have pp250b:=();exact pm250
theorem RowS.strs {lo:Nat} {W:World} {v:Value} {l:List Str} (h:RowS lo W v l):StrsO (lo<=·) W v l:=by
 obtain ⟨⟨hl,h1⟩,_⟩:=h
 exact pm98
theorem GD (a:Option Addr) (n c:Nat) (w:World) :
  Calls Tryz.prog 199 #[.slice a n c] w fun e w'=>e=.returned (.func (.func 249) #[] #[.pointer (some ⟨w.heap.size,0,none⟩)])/\w'=w.alloc (.cells #[.slice a n c] 66):=by
 go_enter Tryz.func199,Tryz.ntmps199
 go_wp2
 go_ret
 exact ⟨rfl,rfl⟩
theorem Em {α:Type} {l:List α} {k:Nat} (h:k<l.length):(l.take k ++ [l[k]]) <+: l:=by
 rw[<-List.take_succ_eq_append_getElem h]
 exact List.take_prefix _ _
theorem GE (xs:List Str) (hl:xs.length<=2000000) (M:Nat->Prop) (X:Nat) (w:World) (a:Option Addr) (c:Nat) (hX:w.heap[X]?=some (.cells #[.slice a xs.length c] 66 (0,0))) (FP:¬M X) (hv:StrsO (fun b=>¬M b) w (.slice a xs.length c) xs) :
  Gb M False Tryz.prog 249 #[.pointer (some ⟨X,0,none⟩)] xs wY w:=by
 intro l J Jx W hk hM hlt Vj hJ _ hY hj
 have OH:=(bl hX)
 have vN:=(hk.same X OH FP).trans hX
 have c0:W.cell? ⟨X,0,none⟩=some (.slice a xs.length c):=ai vN 0
 have hv:=hv.move (W':=W) (ok':=fun b=>¬M b) (fun b hb hlt=>⟨hb,hk.same b hlt hb⟩)
 obtain ⟨n0,rN⟩:=ao xs.length
 rw[<-rN]at c0 hl hv
 obtain ⟨HN,HV,HY⟩:=cf rN hv hY
 have HJ0:=ab (show J (xs.take 0) W from hj)
 clear hX FP hv hY hj rN vN hk hM hlt Vj hJ OH
 refine (callsIn_wide (n:=3)).1 ?_
 refine callsIn_of_wp Tryz.func249 rfl trivial ?_ rfl
 simp only[Tryz.ntmps249,List.size_toArray,List.length_cons,List.length_nil,Nat.reduceAdd,Nat.reduceSub,Array.replicate_succ,Array.replicate_zero,List.push_toArray,List.append_toArray,List.nil_append,List.cons_append]
 have jb:∀ f,Fence.wide.fn f:=fun _=>trivial
 gi_wp2
 gi_loopw [7] (fun i wr=>∃k:Nat,k<=n0/\i=.int .i64 k/\J (xs.take k) wr/\Kp M W wr) (fun i _=>n0 - (intOf i).toNat)
 case atStart=>exact ⟨0,Nat.zero_le _,rfl,HJ0.o,Kp.refl _⟩
 case round=>
  obtain ⟨k,hk,rfl,hj,aZ⟩:=hrel
  by_cases hlt:k<n0
  ·have bc:=bR HN.o hlt
   obtain ⟨b,off,rfl,gV,c1⟩:=HV.o.get bc
   have d1:=aZ.cell gV c1
   obtain ⟨x,hx⟩:=ao (xs[k])
   rw[<-hx]at d1
   have fB:xs.take (k+1)=xs.take k ++ [x]:=by rw[hx];exact List.take_succ_eq_append_getElem bc
   have qD:=HY.o (xs.take k) #[.string ⟨x.toArray⟩] x wr hj aZ rfl (by rw[hx];exact Em bc)
   obtain ⟨fn,tmps,assign,body,hy,D5⟩:=iz 2 qD
   obtain ⟨rO,jA⟩:=aS fB aZ
   clear fB aZ hj qD c1 hx
   gi_wp2
   refine D5.mono ?_
   rintro e W2 (⟨rfl,uC,gX⟩ | ⟨h,_⟩)
   ·have HH:=aF uC gX
    clear uC gX D5 hy d1
    gi_wp2
    go_roundw
    case rel=>exact ⟨k+1,by omega,by go_num,by rw[rO.o];exact HH.o.1,jA.o.trans HH.o.2⟩
    case measure=>simp[intOf];omega
   ·exact h.elim
  ·obtain rfl:n0=k:=by omega
   have ht:xs.take n0=xs:=by rw[HN.o];exact List.take_length
   rw[ht]at hj
   have HH:=aF hj aZ
   clear hj aZ ht
   gi_wp2
   exact ⟨rfl,.tuple #[],by simp[results,Tryz.results249,go_sem],⟨_,rfl⟩,.inl HH.o⟩
theorem qK {H:Type} {P:Program} {e:TypeId} (he:P.underlying e=some .bool) {v:Value} {z:DataW H×List MemPlace} (h:plainElem P e v=some z) {x:Bool} (hx:z.1=.lit (.bool x)):v=.bool x:=by
 unfold plainElem at h
 rw[he]at h
 cases v <;> simp at h
 subst h
 simp at hx
 rw[hx]
theorem SetW.look {W:World} {m n:Nat} {xs:List Str} (h:SetW W m n xs) {x:Str} (hx:x.length<=2000000) :
  ∀ W':World,W'.heap[m]?=W.heap[m]?->(Instr.lookup 118 (.map (some m)) (.string ⟨x.toArray⟩) false).run Tryz.prog W'=.ok (.bool (xs.contains x)) W':=by
 obtain ⟨D,⟨es,wZ,hb,F,hs,hD⟩,w_,tD⟩:=h
 intro W' hW
 have hz:(zeroValue 4).run Tryz.prog W'=.ok (.bool false) W':=by kernel_rfl
 rcases Maps.fit_look false (Maps.string_keyed Tryz.underlying9) Tryz.underlying118 hz (hW.trans hb) F (tI Tryz.underlying9 hx) with ⟨hr,_,hat⟩ | ⟨e0,y,_,_,hr,hR,hat,_⟩
 ·rw[<-hD]at hat
  have h0:=Maps.has_false_of_atKey hat
  have hn:¬x∈xs:=fun hm=>by rw[(w_ x).2 hm]at h0;cases h0
  rw[hr]
  simp[hn]
 ·rw[<-hD]at hat
  have hm:=(w_ x).1 (Maps.has_true_of_atKey hat)
  have h1:=(hat .nil).symm.trans (tD x hm .nil)
  have h2:=qK Tryz.underlying4 hR h1
  rw[hr,h2]
  simp[hm]
def Wz (W:World) (v:Value) (En:List (List Str)):Prop:=∃b off cap,v=.slice (some ⟨b,off,none⟩) En.length cap/\∀ j (h:j<En.length),∃m n,W.cell? ⟨b,off+j,none⟩=some (.map (some m))/\SetW W m n En[j]
theorem uI {W W':World} {m n:Nat} {xs:List Str} (h:SetW W m n xs) (hb:Below W.heap.size W W'):SetW W' m n xs:=h.same (hb.block m h.lt)
theorem JY {n:Nat} (h:n<10 ^ 15):(gg n).length<=16:=by
 unfold gg
 have:=B7 20 n 15 h (by omega)
 simp;omega
theorem Eo (w:World) (k:Nat) (os:Array Obj):Below w.heap.size w (Go.Sort.grow (w.drewN k) os):=
 ⟨rfl,rfl,rfl,by simp[Go.Sort.grow],fun b hb=>by simp only[Go.Sort.grow,World.drewN];rw[Array.getElem?_append_left hb]⟩
theorem L6 (W0 w:World) (hT:Tabs W0 w) (k:Nat) (hk:k<1000000000):Calls Tryz.prog 219 #[.int .i64 (k:Int)] w fun e w'=>e=.returned (.string ⟨(Lib.itoa (k:Int)).toArray⟩)/\Below w.heap.size w w':=by
 refine (Tryz.strconv_Itoa (k:Int) (by omega) (by omega) w hT.t0.pow).mono ?_
 rintro e w' ⟨rfl,n,os,rfl⟩
 exact ⟨rfl,Eo _ _ _⟩
theorem JZ (W0 w:World) (hT:Tabs W0 w) (v:Value) (En:List (List Str)) (cq:En.flatten.length<=100000000) (mv:En.length<=2000000) (hv:Wz w v En) :
  Calls Tryz.prog 156 #[v] w fun e w'=>e=.returned (.string ⟨(dq En.flatten).toArray⟩)/\Below w.heap.size w w':=by
 obtain ⟨b,off,cap,rfl,gJ⟩:=hv
 obtain ⟨T,hTt⟩:=ao En.flatten
 rw[<-hTt]at cq ⊢
 obtain ⟨k0,bO⟩:=ao En.length
 rw[<-bO]at mv ⊢
 obtain ⟨HT,lD,cY,B9⟩:=eA hT hTt bO gJ
 clear hT hTt bO gJ
 go_enter Tryz.func156,Tryz.ntmps156
 go_wp2
 go_step3
 go_wp2
 go_step3
 go_wp2
 go_loopg [3] (T.length+2) (fun g i wr=>∃k:Nat,k+g=T.length+2/\i=.int .i64 k/\(∀ j,1<=j->j<k+1->gg j∈T)/\Below w.heap.size w wr)
 case atStart=>exact ⟨0,by omega,rfl,fun j h1 h2=>by omega,Below.refl _ _⟩
 case round=>
  obtain ⟨k,hkg,rfl,dW,hB⟩:=hrel
  have hkT:=GC (t:=T) (by omega) dW
  cases gk with
  | zero=>omega
  | succ g1=>
   have CI:=L6 W0 wr (HT.o.next hB) (k+1) (by omega)
   have BV:=JY (n:=k+1) (by omega)
   have WA:=GA (n:=k+1) (by omega)
   obtain ⟨nm,c9⟩:=ao (gg (k+1))
   rw[<-c9]at BV WA
   obtain ⟨dg,hdg⟩:∃dg:List UInt8,dg=Lib.itoa ((k+1:Nat):Int):=⟨_,rfl⟩
   rw[<-hdg]at CI WA
   have hsx:∀ W,(Op.stringOp .add ⟨#[120]⟩ ⟨dg.toArray⟩).run Tryz.prog W=.ok (.string ⟨nm.toArray⟩) W:=fun W=>by
    rw[run_string_add_sum W _ _ (by rw[WA]at BV;simp at BV;have e:(⟨#[120]⟩:ByteArray).size=1:=rfl;have e2:(⟨dg.toArray⟩:ByteArray).size=dg.length:=rfl;rw[e,e2];omega),WA]
    congr 2
   obtain ⟨Rb,Gp,HXl,WC,HB⟩:=vD CI c9 BV dW hB
   clear CI c9 BV WA hdg dW hB
   go_wp2_with (go_at_call 219;refine Rb.o.mono ?_;rintro e w2 ⟨rfl,bA⟩;have bZ:=ab (HB.o.trans (bA.mono HB.o.size));clear bA)
   go_loopg [14] k0 (fun g i wr=>∃j:Nat,j+g=k0/\i=.int .i64 j/\(∀ (q:Nat) (hq:q<En.length),q<j->nm ∉ En[q])/\wr=w2)
   case atStart=>exact ⟨0,by omega,rfl,fun q hq h=>by omega,rfl⟩
   case round=>
    obtain ⟨j,hjg,rfl,F',rfl⟩:=hrel
    cases gk with
    | zero=>
     obtain rfl:j=k0:=by omega
     have HE:=ab (show dq T=nm by
      rw[Gp.o]
      refine Ek (by omega) (by omega) ?_ WC.o
      rw[<-Gp.o,lD.o]
      intro hm
      obtain ⟨l,hl,hx⟩:=List.mem_flatten.1 hm
      obtain ⟨q,hq,rfl⟩:=List.getElem_of_mem hl
      exact F' q hq (by rw[cY.o];exact hq) hx)
     clear F'
     go_wp2
     rw[Exit.noGoto_ret]
     go_ret
     exact ⟨by rw[HE.o];rfl,bZ.o⟩
    | succ g=>
     have j5:j<En.length:=by rw[<-cY.o];omega
     obtain ⟨m,n,hc,hs⟩:=B9.o j j5
     have hc:=aa bZ.o hc
     have hl:=(uI hs bZ.o).look (x:=nm) (by have:=HXl.o;omega) wr rfl
     have pS:(j:Int)<(k0:Int):=by omega
     by_cases hx:En[j].contains nm=true
     ·rw[hx]at hl
      have HX:=ab (show gg (k+1)∈T by
       rw[<-Gp.o,lD.o]
       exact List.mem_flatten.2 ⟨_,List.getElem_mem j5,by simpa using hx⟩)
      clear hx F' hs
      go_wp2
      go_roundg g1
      case rel=>exact ⟨k+1,by omega,by go_num,fun i h1 h2=>by
       by_cases e:i=k+1
       ·subst e;exact HX.o
       ·exact WC.o i h1 (by omega),bZ.o⟩
      case measure=>omega
     ·rw[show En[j].contains nm=false by simpa using hx]at hl
      have HN:=ab (show ∀ (q:Nat) (hq:q<En.length),q<j+1->nm ∉ En[q] from fun q hq h=>by
       by_cases e:q=j
       ·subst e;simpa using hx
       ·exact F' q hq (by omega))
      clear hx F' hs
      go_wp2
      go_roundg g
      case rel=>exact ⟨j+1,by omega,by go_num,HN.o,rfl⟩
      case measure=>omega
theorem AQ (W0 w:World) (hT:Tabs W0 w) (xs:List Str) (hl:xs.length<=1000000) (c9:∀ x∈xs,x.length<=2000000) (ok:Nat->Prop) (v:Value) (hv:StrsO ok w v xs) :
  Calls Tryz.prog 129 #[v] w fun e w'=>e=.returned (.string ⟨(dq xs).toArray⟩)/\Below w.heap.size w w':=by
 obtain ⟨a,c,rfl⟩:=hv.slice
 have zY:=hv.move (ok':=fun b=>b<w.heap.size) (W':=w) (fun b hb hlt=>⟨hlt,rfl⟩)
 obtain ⟨W1,bQ⟩:=ao (w.alloc (.cells #[.slice a xs.length c] 66))
 have hb1:=cB bQ
 have gu:=DL bQ
 have tC:=bN bQ
 have C2:=BU xs (by omega) c9 249 #[.pointer (some ⟨w.heap.size,0,none⟩)] W1 (enters_of Tryz.func249 (by kernel_rfl) rfl)
  (fun w1 hb hlt=>GE xs (by omega) (fun b=>b=W1.heap.size) w.heap.size w1 a c ((hb.block _ (by omega)).trans tC) (by omega) (zY.move (fun b bA e9=>⟨by omega,(hb.block b (by omega)).trans (hb1.block b e9)⟩)))
 rw[gu]at C2
 have CL:=fun (w3:World) (hs:SetW w3 (w.heap.size+1) xs.length xs) (aJ:Below (w.heap.size+1) W1 w3)=>
  have gz:Below w.heap.size w w3:=hb1.trans (aJ.mono (by omega))
  have zZ:Below w3.heap.size w3 (w3.alloc (.cells #[.map (some (w.heap.size+1))] 118)):=ct
  (JZ W0 (w3.alloc (.cells #[.map (some (w.heap.size+1))] 118)) (hT.next (gz.trans (zZ.mono gz.size))) (.slice (some ⟨w3.heap.size,0,none⟩) 1 1) [xs] (by simp;omega) (by simp) ⟨w3.heap.size,0,1,rfl,fun j hj=>by
    obtain rfl:j=0:=by simpa using hj
    exact ⟨_,_,ai (aj rfl) 0,uI hs zZ⟩⟩).mono (R':=fun e w'=>e=.returned (.string ⟨(dq [xs].flatten).toArray⟩)/\Below w.heap.size w w') (fun e w' h=>⟨h.1,(gz.trans (zZ.mono gz.size)).trans (h.2.mono (by simp;have:=gz.size;omega))⟩)
 have uJ:[xs].flatten=xs:=by simp
 rw[uJ]at CL
 obtain ⟨wD,Vl⟩:=aS C2 CL
 clear C2 CL hb1 gu tC zY hv hT uJ
 rw[bQ]at wD Vl
 clear bQ
 go_enter Tryz.func129,Tryz.ntmps129
 go_wp2_with (first | (go_at_call 199;refine (GD _ _ _ _).mono ?_;rintro e w2 ⟨rfl,rfl⟩) | (go_at_call 84;refine wD.o.mono ?_;rintro e w3 ⟨rfl,uG,aJ⟩;have H3:=aF uG aJ;clear uG aJ) | (go_at_call 156;refine (Vl.o _ H3.o.1 H3.o.2).mono ?_;rintro e w5 ⟨rfl,a_⟩;have H5:=ab a_;clear a_))
 go_ret
 exact ⟨rfl,H5.o⟩
end
def IntsV (W:World) (v:Value) (l:List Nat):Prop:=∃a cap,v=.slice a l.length cap/\l.length<=cap/\(l=[]\/∃b off,a=some ⟨b,off,none⟩/\∀ j (h:j<l.length),W.cell? ⟨b,off+j,none⟩=some (.int .i64 (l[j]:Nat)))
theorem IntsV.nil (W:World):IntsV W (.slice none 0 0) []:=⟨none,0,rfl,Nat.le_refl _,.inl rfl⟩
theorem IntsV.later {W W':World} {v:Value} {l:List Nat} (h:IntsV W v l) (hb:Below W.heap.size W W'):IntsV W' v l:=by
 exact pm131
theorem IntsV.len {W:World} {a:Option Addr} {n c:Nat} {l:List Nat} (h:IntsV W (.slice a n c) l):n=l.length:=by
 obtain ⟨a',cap,hv,_⟩:=h
 injection hv
theorem IntsV.slice {W:World} {v:Value} {l:List Nat} (h:IntsV W v l):∃a c,v=.slice a l.length c:=by
 obtain ⟨a',cap,hv,_⟩:=h
 exact ⟨_,_,hv⟩
theorem IntsV.get {W:World} {a:Option Addr} {n c:Nat} {l:List Nat} (h:IntsV W (.slice a n c) l) (hl:l≠[]) :
  ∃b off,a=some ⟨b,off,none⟩/\∀ j (h:j<l.length),W.cell? ⟨b,off+j,none⟩=some (.int .i64 (l[j]:Nat)):=by
 have pp262c:=();exact pm262
def qL (l:List Nat):List Value:=l.map fun (i:Nat)=>Value.int .i64 (i:Int)
theorem IntsV.olds {W:World} {b:Addr} {n c:Nat} {l:List Nat} (h:IntsV W (.slice (some b) n c) l):∀ j u,(qL l)[j]?=some u->W.cell? (b.add j)=some u:=by
 intro j u hu
 unfold qL at hu
 have hj:j<l.length:=by have:=(List.getElem?_eq_some_iff.1 hu).1;simpa using this
 obtain ⟨b',off,hb,hc⟩:=h.get (by intro h;rw[h]at hj;simp at hj)
 obtain rfl:b=⟨b',off,none⟩:=by injection hb
 rw[Addr.add_lit,hc j hj,<-hu]
 simp[hj]
theorem IntsV.own {W:World} {base g n c:Nat} {e:TypeId} {l:List Nat} (h:W.ownsRow base e 1 (.slice (some ⟨g,0,none⟩) n c) n (qL l)):IntsV W (.slice (some ⟨g,0,none⟩) n c) l:=by
 have pp194a:=();exact pm194
theorem IntsV.one {W:World} {b:Nat} {i:Nat} {T:TypeId} (c:Nat) (hc:1<=c) (h:W.heap[b]?=some (.cells #[.int .i64 (i:Int)] T (0,0))):IntsV W (.slice (some ⟨b,0,none⟩) 1 c) [i]:=
 ⟨_,c,rfl,hc,.inr ⟨b,0,rfl,fun j hj=>by simp at hj;subst hj;exact ai h 0⟩⟩
theorem SN {W:World} {b:Nat} {x:Value} {T:TypeId} (base:Nat) (hb:base<=b) (h:W.heap[b]?=some (.cells #[x] T (0,0))):W.ownsRow base T 1 (.slice (some ⟨b,0,none⟩) 1 1) 1 [x]:=
 ⟨rfl,.inr ⟨b,1,#[x],rfl,hb,h,Nat.le_refl _,by unfold maxLen;omega,rfl,rfl⟩⟩
theorem Ep:(Tryz.prog.info? 3).map (fun i=>(i.zero,i.size,i.bytes))=some (some (.int .i64 0),1,8):=by kernel_rfl
theorem tJ {x:Str} {l:List Tm} {i:Nat} {p:List Nat} (h:dX x l i=some p):p≠[]:=by
 induction l generalizing i with
 | nil=>simp[dX]at h
 | cons t l ih=>
  unfold dX at h
  cases hp:mn x t with
  | none=>rw[hp]at h;exact ih h
  | some q=>rw[hp]at h;injection h with h;rw[<-h];simp
theorem Er {x:Str} {l:List Tm} {k:Nat} (h:k<l.length):dX x (l.drop k) k=match mn x l[k] with | some p=>some (k :: p) | none=>dX x (l.drop (k+1)) (k+1):=by
 rw[List.drop_eq_getElem_cons h,dX]
 cases mn x l[k] <;> rfl
theorem lr {x:Str}:∀ (l:List Tm) (i:Nat) (p:List Nat),dX x l i=some p->p.length<=ac l
 | [],i,p,h=>by simp[dX]at h
 | .mk v n a :: l,i,p,h=>by
  unfold dX at h
  have h1:=lr (x:=x) l (i+1)
  have h2:=lr (x:=x) a 0
  unfold ac nodesT
  cases hp:mn x (.mk v n a) with
  | none=>rw[hp]at h;have:=h1 p h;omega
  | some q=>
   rw[hp]at h
   injection h with h
   unfold mn at hp
   subst h
   by_cases hc:(v && n == x)=true
   ·rw[if_pos hc]at hp;injection hp with hp;subst hp;simp;omega
   ·rw[if_neg hc]at hp;have:=h2 q hp;simp;omega
def SO (l:List Tm):Prop:=∀ (x:Str) (ok:Nat->Prop) (w:World) (a:Option Addr) (n c:Nat),fitTs l->TermsV ok w (.slice a n c) l →
 Calls Tryz.prog 229 #[.slice a n c,.string ⟨x.toArray⟩] w fun e w'=>(∃v,e=.returned v/\IntsV w' v ((dX x l 0).getD []))/\Below w.heap.size w w'
theorem IR (l:List Tm) (ih:∀ t∈l,SO t.a):SO l:=by
 obtain ⟨i0,hi,rq,jS,hO⟩:=info_parts Ep
 intro x ok w a n c aD hl
 obtain rfl:=hl.len
 have cq:=aD.len
 obtain ⟨k0,bO⟩:=ao l.length
 obtain ⟨R,hR⟩:=ao (dX x l 0)
 rw[<-bO]at cq
 rw[<-bO,<-hR]
 obtain ⟨cY,HL,eM,HF,HR⟩:=vD bO hl ih aD hR
 clear bO hl ih aD hR
 go_enter Tryz.func229,Tryz.ntmps229
 go_wp2
 go_loopw [10] (fun i wr=>∃k:Nat,k<=k0/\i=.int .i64 k/\Below w.heap.size w wr/\R=dX x (l.drop k) k) (fun i _=>k0 - (intOf i).toNat)
 case atStart=>exact ⟨0,Nat.zero_le _,rfl,Below.refl _ _,by simpa using HR.o⟩
 case round=>
  have pp301a:=();exact pm301
theorem L8:∀ t:Tm,SO t.a:=by
 intro t
 induction t using Tm.ind with
 | h v n a ih=>exact IR a ih
theorem vS (w:World) (b k:Nat) (hb:w.heap[b]?=some (.cells #[.int .i64 (k:Int)] 3 (0,0))) (p:List Nat) (v:Value) (hv:IntsV w v p) (hp:p.length<=2000000) (ty:TypeId) :
  ∃v' w',(Builtin.append_ #[218,218] ty #[.slice (some ⟨b,0,none⟩) 1 1,v]).run Tryz.prog w=.ok v' w'/\IntsV w' v' (k :: p)/\w.grownBy w' (some b):=by
 obtain ⟨i0,hi,rq,jS,hO⟩:=info_parts Ep
 have hlt:=(bl hb)
 obtain ⟨a,c,rfl⟩:=hv.slice
 by_cases h0:p=[]
 ·subst h0
  have hs:Src Tryz.prog i0.size 218 (.slice a ([]:List Nat).length c) 0 [] w:=by
   cases a with
   | none=>exact Src.ofNil w Tryz.underlying218 c
   | some a=>exact Src.ofSlice w Tryz.underlying218 a 0 c [] (by simp) (by simp) (by simp)
  exact ⟨_,_,run_append_nothing w _ _ _ _ i0 Tryz.underlying218 hi (some ⟨b,0,none⟩) 1 1 (Nat.le_refl _) _ hs,IntsV.one 1 (Nat.le_refl _) hb,⟨rfl,rfl,rfl,Nat.le_refl _,fun _ _ _=>rfl⟩⟩
 ·obtain ⟨b2,off2,rfl,AI⟩:=hv.get h0
  have nQ:=List.length_pos_iff.2 h0
  obtain ⟨g,cap,w',hr,h2,h3,_,_⟩:=run_append_lies (P:=Tryz.prog) w 218 ty 0 3 i0 (.int .i64 0) 1 8 Tryz.underlying218 hi rq jS hO rfl (by decide) (.slice (some ⟨b,0,none⟩) 1 1) 1 [.int .i64 (k:Int)] (SN 0 (Nat.zero_le _) hb) ⟨b2,off2,none⟩ p.length c (qL p) (by simp[qL]) hv.olds (by simp[qL,Value.oneCell']) nQ (by unfold maxLen;omega) (by omega) (Nat.zero_le _) _ rfl
  exact ⟨_,_,hr,IntsV.own (l:=k :: p) h2,h3⟩
theorem qM {ops:Array Oper} {rest:List Oper} {o:Oper} {a:Act} {w:World} {Q:Exit->Act->World->Prop} (sV:o.guard=none) (s x:Operand)
  (ho:o.op=.call { callee:=.builtin .append,args:=#[s,x],argTypes:=#[218,218] }) (b k:Nat) (hb:w.heap[b]?=some (.cells #[.int .i64 (k:Int)] 3 (0,0))) (p:List Nat) (v:Value) (hs:a.eval s=.slice (some ⟨b,0,none⟩) 1 1) (hx:a.eval x=v) (hv:IntsV w v p) (hp:p.length<=2000000)
  (h:∀ v' w',IntsV w' v' (k :: p)->w.grownBy w' (some b)->wpList Tryz.prog ops Q rest (a.put o.dst v') w'):wpList Tryz.prog ops Q (o :: rest) a w:=by
 refine wpList_plain sV fun K hK=>?_
 obtain ⟨v',w',hr,h2,h3⟩:=vS w b k hb p v hv hp o.type
 have pp222:=();exact pm222
theorem Es {x:Str} {l:List Fm} {k:Nat} (h:k<l.length):ld x (l.drop k) k=match ko x l[k] with | some (p,q)=>some (k :: p,q) | none=>ld x (l.drop (k+1)) (k+1):=by
 rw[List.drop_eq_getElem_cons h,ld]
 cases ko x l[k] <;> rfl
mutual
theorem rP {x:Str}:∀ (f:Fm) (r:List Nat×List Nat),ko x f=some r->r.2≠[]/\r.1.length+1<=nodesF f/\r.2.length<=nodesF f
 | .mk o n a s,r,h=>by
  unfold ko at h
  unfold nodesF
  cases hp:dX x a 0 with
  | some q=>
   rw[hp]at h;injection h with h;subst h
   have:=lr a 0 q hp
   exact ⟨tJ hp,by simp,by simp only;omega⟩
  | none=>
   rw[hp]at h
   have:=AR s 0 r h
   exact ⟨this.1,by omega,by omega⟩
theorem AR {x:Str}:∀ (l:List Fm) (i:Nat) (r:List Nat×List Nat),ld x l i=some r->r.2≠[]/\r.1.length<=ah l/\r.2.length<=ah l
 | [],i,r,h=>by simp[ld]at h
 | f :: l,i,r,h=>by
  unfold ld at h
  unfold ah
  cases hp:ko x f with
  | some q=>
   obtain ⟨q1,q2⟩:=q
   rw[hp]at h;injection h with h;subst h
   have:=rP f _ hp
   exact ⟨this.1,by have:=this.2.1;simp only[List.length_cons]at *;omega,by have:=this.2.2;simp only at *;omega⟩
  | none=>
   rw[hp]at h
   have:=AR l (i+1) r h
   exact ⟨this.1,by omega,by omega⟩
end
def zat (f:Fm):Prop:=∀ (x:Str) (ok:Nat->Prop) (w:World) (q:FQ),fitF f->FormV ok w q.val f →
 Calls Tryz.prog 165 #[q.val,.string ⟨x.toArray⟩] w fun e w'=>(∃v1 v2,e=.returned (.tuple #[v1,v2])/\IntsV w' v1 (((ko x f).map (·.1)).getD [])/\IntsV w' v2 (((ko x f).map (·.2)).getD []))/\Below w.heap.size w w'
theorem L9:∀ f,zat f:=by
 intro f
 induction f using Fm.ind with
 | h uo xn xa xs ih=>
 intro x ok w q hf hq
 obtain ⟨va,vs2,h1,ej,xG⟩:=aQ.1 hq
 obtain ⟨uo,un,ua,ul,uc,ub,um,ue⟩:=q
 have pp32a:=();exact pm32
theorem tK (b off j:Nat):(⟨b,off,none⟩:Addr).add j=⟨b,off+j,none⟩:=by unfold Addr.add;split <;> simp_all
theorem eG (l:List Str) (hl:l.length<=2000000) (x:Str) (ok:Nat->Prop) (w:World) (v:Value) (hv:StrsO ok w v l) :
  Calls Tryz.prog 128 #[v,.string ⟨x.toArray⟩] w fun e w'=>e=.returned (.bool (l.contains x))/\w'=w:=by
 obtain ⟨a,c,rfl,hc,h⟩:=hv
 by_cases h0:l=[]
 ·subst h0
  exact Tryz.slices_Contains_string_empty a c ⟨x.toArray⟩ w
 ·rcases h with h | ⟨b,off,rfl,_,hcells⟩
  ·exact absurd h h0
  ·have WG:(l.map fun s=>(⟨s.toArray⟩:ByteArray)).length=l.length:=by simp
   have:=Tryz.slices_Contains_string b off l.length c (l.map fun s=>⟨s.toArray⟩) ⟨x.toArray⟩ w (by simp) (by omega) (fun j hj=>by
    rw[WG]at hj
    rw[hcells j hj]
    simp[List.getD_eq_getElem?_getD,List.getElem?_eq_getElem hj])
   refine this.mono ?_
   rintro e w' ⟨rfl,rfl⟩
   refine ⟨?_,rfl⟩
   congr 2
   rw[List.take_of_length_le (by simp)]
   rw[Bool.eq_iff_iff,Lib.containsS_iff]
   simp only[List.mem_map,List.contains_iff_mem]
   constructor
   ·rintro ⟨s,hs,he⟩
    have:s=x:=by
     have h1:=congrArg (fun b:ByteArray=>b.data.toList) he
     simpa using h1
    exact this ▸ hs
   ·exact fun h=>⟨x,h,rfl⟩
def OwnS (lo:Nat) (W:World) (v:Value) (l:List Str):Prop:=W.ownsRow lo 9 1 v l.length (l.map encStr)
theorem OwnS.strs {lo:Nat} {W:World} {v:Value} {l:List Str} (h:OwnS lo W v l):StrsO (lo<=·) W v l:=by
 obtain ⟨hl,h1⟩:=h
 exact pm98
theorem OwnS.held {lo:Nat} {W W':World} {v:Value} {l:List Str} (h:OwnS lo W v l) (hb:∀ b,lo<=b->b<W.heap.size->W'.heap[b]?=W.heap[b]?):OwnS lo W' v l:=ba h (fun b h1 h2=>hb b h1 h2)
theorem OwnS.later {lo:Nat} {W W':World} {v:Value} {l:List Str} (h:OwnS lo W v l) (hb:Below W.heap.size W W'):OwnS lo W' v l:=h.held (fun b _ hlt=>hb.block b hlt)
theorem xH {W:World} {base Rd:Nat} {e:TypeId} {size:Nat} {v:Value} {k:Nat} {xs:List Value} (h:W.ownsRow base e size v k xs) (hb:Rd<=base):W.ownsRow Rd e size v k xs:=by
 obtain ⟨h1,h2⟩:=h
 refine ⟨h1,?_⟩
 rcases h2 with h2 | ⟨g,cap,cur,hv,hg,h3⟩
 ·exact .inl h2
 ·exact .inr ⟨g,cap,cur,hv,Nat.le_trans hb hg,h3⟩
theorem OwnS.base {lo lo':Nat} {W:World} {v:Value} {l:List Str} (h:OwnS lo W v l) (hb:lo'<=lo):OwnS lo' W v l:=xH h hb
theorem OwnS.nil (lo:Nat) (W:World):OwnS lo W (.slice none 0 0) []:=⟨rfl,.inl ⟨rfl,rfl⟩⟩
theorem xI:(Tryz.prog.info? 9).map (fun i=>(i.zero,i.size,i.bytes))=some (some (.string ByteArray.empty),1,16):=by kernel_rfl
theorem mE (w:World) (lo:Nat) (hlo:lo<=w.heap.size) (v1:Value) (l1:List Str) (h1:OwnS lo w v1 l1) (v2:Value) (l2:List Str) (ok:Nat->Prop) (h2:StrsO ok w v2 l2) (hl:l1.length+l2.length<=4000000) (ty:TypeId) :
  ∃v' w',(Builtin.append_ #[66,66] ty #[v1,v2]).run Tryz.prog w=.ok v' w'/\OwnS lo w' v' (l1 ++ l2)/\w.grownBy w' v1.ownBlock:=by
 obtain ⟨i0,hi,rq,jS,hO⟩:=info_parts xI
 obtain ⟨a,c,rfl⟩:=h2.slice
 by_cases h0:l2=[]
 ·subst h0
  have hs:Src Tryz.prog i0.size 66 (.slice a ([]:List Str).length c) 0 [] w:=by
   cases a with
   | none=>exact Src.ofNil w Tryz.underlying66 c
   | some a=>exact Src.ofSlice w Tryz.underlying66 a 0 c [] (by simp) (by simp) (by simp)
  have Lj:∃p n c',v1=.slice p n c'/\n<=c':=by
   rcases h1.2 with ⟨rfl,h⟩ | ⟨g,cap,cur,rfl,_,_,hc,_⟩
   ·exact ⟨none,0,0,rfl,Nat.le_refl _⟩
   ·exact ⟨_,_,_,rfl,hc⟩
  obtain ⟨p,n,c',rfl,hn⟩:=Lj
  exact ⟨_,_,run_append_nothing w _ _ _ _ i0 Tryz.underlying66 hi p n c' hn _ hs,by simpa using h1,⟨rfl,rfl,rfl,Nat.le_refl _,fun _ _ _=>rfl⟩⟩
 ·obtain ⟨b2,off2,rfl,_,AI⟩:=h2.get (j:=0) (List.length_pos_iff.2 h0)
  have nQ:=List.length_pos_iff.2 h0
  have WH:∀ j (h:j<l2.length),w.cell? ⟨b2,off2+j,none⟩=some (.string ⟨l2[j].toArray⟩):=fun j hj=>by
   obtain ⟨b3,SS,he,_,Z4⟩:=h2.get hj
   cases he
   exact Z4
  obtain ⟨g,cap,w',hr,h3,h4,_,_⟩:=run_append_lies (P:=Tryz.prog) w 66 ty lo 9 i0 (.string ByteArray.empty) 1 16 Tryz.underlying66 hi rq jS hO rfl (by decide) v1 l1.length (l1.map encStr) h1 ⟨b2,off2,none⟩ l2.length c (l2.map encStr) (by simp) (fun j u hu=>by
   rw[List.getElem?_map]at hu
   by_cases hj:j<l2.length
   ·rw[List.getElem?_eq_getElem hj]at hu
    rw[tK,WH j hj,<-hu]
    rfl
   ·rw[List.getElem?_eq_none (by omega)]at hu;cases hu) (by simp[encStr,Value.oneCell']) nQ (by unfold maxLen;omega) (by omega) hlo _ rfl
  refine ⟨_,_,hr,?_,h4⟩
  unfold OwnS
  rw[List.length_append,List.map_append]
  exact h3
theorem dv {ops:Array Oper} {rest:List Oper} {o:Oper} {a:Act} {w:World} {Q:Exit->Act->World->Prop} (sV:o.guard=none) (s x:Operand)
  (ho:o.op=.call { callee:=.builtin .append,args:=#[s,x],argTypes:=#[66,66] }) (lo:Nat) (hlo:lo<=w.heap.size) (v1:Value) (l1:List Str) (hs:a.eval s=v1) (h1:OwnS lo w v1 l1) (v2:Value) (l2:List Str) (hx:a.eval x=v2) (ok:Nat->Prop) (h2:StrsO ok w v2 l2) (hl:l1.length+l2.length<=4000000)
  (h:∀ v' w',OwnS lo w' v' (l1 ++ l2)->w.grownBy w' v1.ownBlock->wpList Tryz.prog ops Q rest (a.put o.dst v') w'):wpList Tryz.prog ops Q (o :: rest) a w:=by
 refine wpList_plain sV fun K hK=>?_
 obtain ⟨v',w',hr,h3,h4⟩:=mE w lo hlo v1 l1 h1 v2 l2 ok h2 hl o.type
 exact pm222
theorem nR {F:Fence} {n:Nat} {ops:Array Oper} {rest:List Oper} {o:Oper} {a:Act} {w:World} {Q:Exit->Act->World->Prop} (sV:o.guard=none) (s x:Operand)
  (ho:o.op=.call { callee:=.builtin .append,args:=#[s,x],argTypes:=#[66,66] }) (lo:Nat) (hlo:lo<=w.heap.size) (v1:Value) (l1:List Str) (hs:a.eval s=v1) (h1:OwnS lo w v1 l1) (v2:Value) (l2:List Str) (hx:a.eval x=v2) (ok:Nat->Prop) (h2:StrsO ok w v2 l2) (hl:l1.length+l2.length<=4000000)
  (h:∀ v' w',OwnS lo w' v' (l1 ++ l2)->w.grownBy w' v1.ownBlock->wpListIn F n Tryz.prog ops Q rest (a.put o.dst v') w'):wpListIn F n Tryz.prog ops Q (o :: rest) a w:=by
 refine wpListIn_plain sV fun K hK=>?_
 obtain ⟨v',w',hr,h3,h4⟩:=mE w lo hlo v1 l1 h1 v2 l2 ok h2 hl o.type
 unfold Oper.wpIn
 refine ⟨by simp[Oper.about,ho,resolve,Target.leads,Sem.run_pure],?_⟩
 rw[Oper.semAt_plain F _ _ (by rw[ho];intro c Wq;cases Wq)]
 simp[execOp,ho,resolve,invoke,builtin,hs,hx,hr,Result.andThen]
 exact hK _ _ (h v' w' h3 h4)
end Go.Proofs.YtokemihbkeddoaaGreatDoor
