/-
slices.IndexFunc,ContainsFunc and DeleteFunc at rows of strings,the function a closure tha.
-/
import Derived.Test.YtokemihbkeddoaaGreatDoorV11
namespace Go.Proofs.YtokemihbkeddoaaGreatDoor
open Go Go.RowKit Lib
set_option maxRecDepth 100000
set_option maxHeartbeats 64000000
variable {pr:Str->Bool} {g f:Fm} {l c:List Str} {k:Bd} {b cap i j:Nat} {W:World} {x n y:Str} {sc:Bool} {o:Int} {u:Tm}
section
attribute [local go_sem] Oper.semAt_some
def PredS (pr:Str->Bool) (g:Nat) (lb:Array Value) (l:List Str) (C:World->Prop):Prop:=∀ x W,x∈l->C W->Calls Tryz.prog g (#[.string ⟨x.toArray⟩] ++ lb) W fun e w'=>e=.returned (.bool (pr x))/\Below W.heap.size W w'
theorem PredS.mono {g:Nat} {lb:Array Value} {C C':World->Prop} (h:PredS pr g lb l C) (hC:∀ W,C' W->C W):PredS pr g lb l C':=fun x W hx hW=>h x W hx (hC W hW)
theorem Xm {k:Nat} (hk:k<l.length) (fZ:∀ t∈l.take k,pr t=false) (hq:pr l[k]=false):∀ t∈l.take (k+1),pr t=false:=by
 intro t hm;rw[List.take_add_one,gy hk]at hm;rcases List.mem_append.1 hm with h | h
 ·exact fZ t h
 ·obtain rfl:t=l[k]:=by simpa using h
  exact hq
theorem z8 (pr:Str->Bool) (l:List Str) (hl:l.length<=2000000) (g:Nat) (lb:Array Value) (eg:∀ args W,(callFunc g args).run Tryz.prog W=.ok (.enter g args) W) (ok:Nat->Prop) (w:World) (v:Value) (hp:PredS pr g lb l (Below w.heap.size w)) (hv:StrsO ok w v l) :
  Calls Tryz.prog 244 #[v,.func (.func g) #[] lb] w fun e w'=>((e=.returned (.int .i64 (-1))/\∀ x∈l,pr x=false)\/∃(k:Nat) (x:Str),l[k]?=some x/\e=.returned (.int .i64 (k:Int))/\pr x=true/\∀ x∈l.take k,pr x=false)/\Below w.heap.size w w':=by
 obtain ⟨a,c,rfl⟩:=hv.slice;obtain ⟨k0,cg⟩:=ao l.length;rw[<-cg]at hl hv;rw[<-cg];obtain ⟨HK,HV,HP⟩:=cD cg hv hp;clear cg hv hp;go_enter Tryz.func244,Tryz.ntmps244;exact pm157
theorem Ch (pr:Str->Bool) (l:List Str) (hl:l.length<=2000000) (g:Nat) (lb:Array Value) (eg:∀ args W,(callFunc g args).run Tryz.prog W=.ok (.enter g args) W) (ok:Nat->Prop) (w:World) (v:Value) (hp:PredS pr g lb l (Below w.heap.size w)) (hv:StrsO ok w v l) :
  Calls Tryz.prog 194 #[v,.func (.func g) #[] lb] w fun e w'=>e=.returned (.bool (l.any pr))/\Below w.heap.size w w':=by
 have CC:Calls Tryz.prog 244 #[v,.func (.func g) #[] lb] w fun e w'=>∃r:Int,e=.returned (.int .i64 r)/\decide (0<=r)=l.any pr/\Below w.heap.size w w':=(z8 pr l hl g lb eg ok w v hp hv).mono (by
  rintro e w' ⟨⟨rfl,h⟩ | ⟨k,x,hk,rfl,h,_⟩,hb⟩
  ·refine ⟨-1,rfl,?_,hb⟩
   symm
   rw[show decide ((0:Int)<=-1)=false from rfl,List.any_eq_false];intro x hx;rw[h x hx];simp
  ·refine ⟨k,rfl,?_,hb⟩;rw[show decide ((0:Int)<=(k:Int))=true by simp]
   symm
   exact List.any_eq_true.2 ⟨_,List.mem_of_getElem? hk,h⟩)
 obtain ⟨a,c,rfl⟩:=hv.slice;obtain ⟨B,hB⟩:=ao (l.any pr);rw[<-hB]at CC ⊢;have HC:=ab CC;clear CC hv hB hp;go_enter Tryz.func194,Tryz.ntmps194;go_wp2_with (go_at_call 244;refine HC.o.mono ?_;rintro e w4 ⟨r,rfl,hr,aP⟩;have H4:=aC hr aP;clear hr aP);go_ret;exact ⟨by rw[<-H4.o.1];rfl,H4.o.2⟩
def DelR (keep:Str->Bool) (l:List Str) (b cap i j:Nat) (W:World):Prop:=∃cur:Array Value,W.heap[b]?=some (.cells cur 9 (0,0))/\cur.size=cap * 1/\cur.toList.take i=((l.take j).filter keep).map encStr/\i=((l.take j).filter keep).length/\∀ q (h:q<l.length),j<=q->cur[q]?=some (encStr l[q])
theorem DelR.later {keep:Str->Bool} {W':World} (h:DelR keep l b cap i j W) (hb:Below W.heap.size W W'):DelR keep l b cap i j W':=by
 obtain ⟨cur,h1,h2⟩:=h;exact ⟨cur,(hb.block b (bn h1)).trans h1,h2⟩
theorem DelR.drop {keep:Str->Bool} (h:DelR keep l b cap i j W) (hj:j<l.length) (hk:keep l[j]=false):DelR keep l b cap i (j+1) W:=by
 obtain ⟨cur,h1,h2,h3,h4,h5⟩:=h;have e:(l.take (j+1)).filter keep=(l.take j).filter keep:=by
  rw[List.take_add_one,gy hj,List.filter_append];simp only[Option.toList_some,List.filter_cons,List.filter_nil,hk,bZ,if_false,List.append_nil]
 exact ⟨cur,h1,h2,by rw[e];exact h3,by rw[e];exact h4,fun q h hq=>h5 q h (by omega)⟩
theorem DelR.keep {keep:Str->Bool} (h:DelR keep l b cap i j W) (hj:j<l.length) (hc:l.length<=cap) (Zd:i<=j) (hk:keep l[j]=true):DelR keep l b cap (i+1) (j+1) (W.setCell ⟨b,i,none⟩ (.string ⟨l[j].toArray⟩)):=by
 obtain ⟨cur,h1,h2,h3,h4,h5⟩:=h;have e:(l.take (j+1)).filter keep=(l.take j).filter keep ++ [l[j]]:=by
  rw[List.take_add_one,gy hj,List.filter_append];simp only[Option.toList_some,List.filter_cons,List.filter_nil,hk,if_true]
 refine ⟨cur.setIfInBounds i (.string ⟨l[j].toArray⟩),bm h1 _,by simpa using h2,?_,by rw[e];simpa using h4,fun q h hq=>?_⟩
 ·rw[e,List.map_append,<-h3,Array.toList_setIfInBounds];rw[List.take_add_one];simp only[List.getElem?_set_self (show i<cur.toList.length by simp;omega),Option.toList_some];rw[List.take_set_of_le (aF i)];rfl
 ·rw[Array.getElem?_setIfInBounds_ne (by omega)];exact h5 q h (by omega)
theorem xz (b:Nat):∀ (vs:List Value) (o:Nat) (W:World),Kp (fun c=>c=b) W (W.setCells b o vs)
 | [],o,W=>Kp.refl W
 | v :: r,o,W=>by
  have h1:Kp (fun c=>c=b) W (W.setCell ⟨b,o,none⟩ v):=⟨rfl,rfl,rfl,by simp,fun c _ hc=>d9 _ _ _ _ (by simpa using hc)⟩;exact h1.trans (xz b r (o+1) _)
theorem xA (b:Nat) (T:TypeId):∀ (vs:List Value) (o:Nat) (W:World) (cur:Array Value),W.heap[b]?=some (.cells cur T (0,0))->∃Xn,(W.setCells b o vs).heap[b]?=some (.cells Xn T (0,0))/\Xn.size=cur.size/\Xn.toList.take o=cur.toList.take o
 | [],o,W,cur,h=>⟨cur,h,rfl,rfl⟩
 | v :: r,o,W,cur,h=>by
  obtain ⟨c2,h1,h2,h3⟩:=xA b T r (o+1) (W.setCell ⟨b,o,none⟩ v) _ (bm h v);refine ⟨c2,h1,by simpa using h2,?_⟩;have e:=congrArg (List.take o) h3;rw[List.take_take,List.take_take,Nat.min_eq_left (by omega)]at e;rw[e,Array.toList_setIfInBounds,List.take_set_of_le (aF o)]
theorem DelR.start {keep:Str->Bool} {k:Nat} {cur:Array Value} (hb:W.heap[b]?=some (.cells cur 9 (0,0))) (hs:cur.size=cap * 1) (ht:cur.toList.take (l.length * 1)=l.map encStr) (hk:k<l.length) (fZ:∀ x∈l.take k,keep x=true):DelR keep l b cap k k W:=by
 have hf:(l.take k).filter keep=l.take k:=List.filter_eq_self.2 fZ;refine ⟨cur,hb,hs,?_,by rw[hf,dX];omega,fun q h hq=>?_⟩
 ·rw[hf,List.map_take,<-ht,List.take_take];congr 1;omega
 ·have:=congrArg (fun m=>m[q]?) ht;simp only[Nat.mul_one,List.getElem?_map,gy h,Option.map_some,List.getElem?_take,aX h,Array.getElem?_toList]at this;exact this
theorem DelR.done {keep:Str->Bool} {lo:Nat} (h:DelR keep l b cap i l.length W) (hlo:lo<=b) (hc:l.length<=cap) (MZ:i<=l.length) (hcm:cap<=maxLen) (vs:List Value):OwnS lo (W.setCells b i vs) (.slice (some ⟨b,0,none⟩) i cap) (l.filter keep):=by
 obtain ⟨cur,h1,h2,h3,h4,_⟩:=h;rw[cO]at h3 h4;obtain ⟨c2,g1,g2,g3⟩:=xA b _ vs i W cur h1;unfold OwnS;rw[<-h4];refine ⟨by simp[h4],.inr ⟨b,cap,c2,rfl,hlo,g1,by omega,hcm,by rw[g2];exact h2,?_⟩⟩;rw[Nat.mul_one,g3,h3]
theorem xC (pr:Str->Bool) (l:List Str) (hl:l.length<=2000000) (g:Nat) (lb:Array Value) (eg:∀ args W,(callFunc g args).run Tryz.prog W=.ok (.enter g args) W) (lo:Nat) (w:World) (v:Value) (hp:PredS pr g lb l (Kp (fun c=>lo<=c/\v.ownBlock=some c) w)) (hv:OwnS lo w v l) :
  Calls Tryz.prog 246 #[v,.func (.func g) #[] lb] w fun e w'=>(∃v',e=.returned v'/\OwnS lo w' v' (l.filter fun x=>!pr x))/\Kp (fun c=>lo<=c/\v.ownBlock=some c) w w':=by
 have CI:=z8 pr l hl g lb eg _ w v (hp.mono fun W h=>Kp.below h) hv.strs;rcases hv.2 with ⟨rfl,h0⟩ | ⟨b,cap,cur,rfl,hlo,hb,hc,hcm,hcs,ht⟩
 ·obtain rfl:l=[]:=jj h0;have HC:=ab CI;clear CI hp hv;have pp170a:=();exact pm170
 ·by_cases eA:∀ x∈l,pr x=false
  ·have HC:=ab (CI.mono (fun e w' h=>(⟨h.1.elim (fun h=>h.1) (fun ⟨k,x,hk,_,hx,_⟩=>absurd (eA x (List.mem_of_getElem? hk)) (by simp[hx])),h.2⟩:e=.returned (.int .i64 (-1))/\Below w.heap.size w w')));have HR:=ab hv;have HE:=ab (show (l.filter fun x=>!pr x)=l from List.filter_eq_self.2 (fun x hx=>by rw[eA x hx];rfl));clear CI hp hv eA hb hcs ht;have pp170b:=();exact pm170
  ·have CJ:=CI.mono (fun e w' h=>(⟨h.1.elim (fun h=>absurd h.2 eA) id,h.2⟩:(∃(k:Nat) (x:Str),l[k]?=some x/\e=.returned (.int .i64 (k:Int))/\pr x=true/\∀ x∈l.take k,pr x=false)/\Below w.heap.size w w'));obtain ⟨n,hn⟩:=ao l.length;have HB:=bE hb hcs ht;obtain ⟨HN,HP⟩:=aZ hn hp;rw[<-hn]at hl hc CJ ⊢;have HC:=ab CJ;have sX:=bE hcm hlo hc;clear CI CJ hp hv eA hb hcs ht hn hcm;exact pm170
theorem Ci:∀ args W,(callFunc 275 args).run Tryz.prog W=.ok (.enter 275 args) W:=enters_of Tryz.func275 (by kernel_rfl) rfl
theorem G3 (l:List Str) (ox:∀ x∈l,x.length<=2000000) (C:World->Prop):PredS (fun x=>!dZ x) 275 #[] l C:=by
 intro n W hx _;have hn:=ox n hx;have CP:=ab (jZ n W (by omega));obtain ⟨b,hb⟩:=ao (dZ n);simp only[<-hb]at CP ⊢;clear hb ox hx;go_enter Tryz.func275,Tryz.ntmps275;go_wp2_with (go_at_call 123;refine CP.o.mono ?_;rintro e w' ⟨rfl,hb⟩;have HB:=ab hb;clear hb);go_ret;exact ⟨rfl,HB.o⟩
theorem rD (l:List Str) (hl:l.length<=2000000) (ox:∀ x∈l,x.length<=2000000) (lo:Nat) (w:World) (v:Value) (hv:OwnS lo w v l) :
  Calls Tryz.prog 245 #[v] w fun e w'=>(∃v',e=.returned v'/\OwnS lo w' v' (l.filter dZ))/\Kp (fun c=>lo<=c/\v.ownBlock=some c) w w':=by
 have CC:=xC (fun x=>!dZ x) l hl 275 #[] Ci lo w v (G3 l ox _) hv;simp only[Bool.not_not]at CC;obtain ⟨a,c,hac⟩:=hv.strs.slice;rw[hac]at CC ⊢;have HC:=ab CC;clear CC hv ox hac;go_enter Tryz.func245,Tryz.ntmps245;go_wp2_with (go_at_call 246;refine HC.o.mono ?_;rintro e w' ⟨⟨v',rfl,Xo⟩,hk⟩;have H4:=aC Xo hk;clear Xo hk);go_ret;exact ⟨⟨_,rfl,H4.o.1⟩,H4.o.2⟩
theorem kY {w X Y:World} {v:Value} (h:Below w.heap.size w X) (k:Kp (fun c=>w.heap.size<=c/\v.ownBlock=some c) X Y):Below w.heap.size w Y:=
 ⟨k.os.trans h.os,k.tape.trans h.tape,k.output.trans h.output,aQ h.size k.size,fun b hb=>(k.same b (bN hb h.size) (fun hc=>by omega)).trans (h.block b hb)⟩
theorem Nk {k:List (Str×Tm)} (hk:∀ x:Str,x.length<=2000000->nodesT (termOf k x)<=1000):∀ t:Tm,jN 2000000 t=true->(jx k t).length<=nodesT t * 1000:=by
 have pp166f:=();exact pm166
theorem o8 {k:List (Str×Tm)}:∀ {a:List Tm} {j:Nat} (h:j<a.length),dE k (a.take (j+1))=dE k (a.take j) ++ jx k a[j]
 | t :: a,0,_=>by simp[dE]
 | t :: a,j+1,h=>by
  have:=o8 (k:=k) (a:=a) (j:=j) (by simpa using h);simp only[List.take_succ_cons,dE,this,List.getElem_cons_succ,List.append_assoc]
theorem o9 {k:List (Str×Tm)} (hk:∀ x:Str,x.length<=2000000->nodesT (termOf k x)<=1000):∀ a:List Tm,nmTs 2000000 a=true->(dE k a).length<=nodesTs a * 1000
 | [],_=>by simp[dE]
 | t :: a,h=>by
  simp only[nmTs,ae]at h;have h1:=Nk hk t h.1;have h2:=o9 hk a h.2;simp only[dE,nodesTs,di];omega
theorem s7 {a:List Tm} {t:Tm} (h:t∈a):nodesT t<=nodesTs a:=by
 induction a with
 | nil=>cases h
 | cons u a ih=>
  simp only[nodesTs];rcases dw.1 h with rfl | h
  ·omega
  ·have:=ih h;omega
def Xp (k:List (Str×Tm)) (kb:Nat) (W0:World) (t:Tm):Prop:=∀ (ok:Nat->Prop) (w:World) (q:TQ),Below W0.heap.size W0 w->TermV ok w q.val t →
 Calls Tryz.prog 248 #[.pointer (some ⟨kb,0,none⟩),q.val] w fun e w'=>(∃v,e=.returned v/\OwnS w.heap.size w' v (jx k t))/\Below w.heap.size w w'
theorem Cj (W0:World) (nr:Nat->Prop) (kb mF mT nF nT:Nat) (k:Bd) (dV:KnV nr goodF goodT W0 kb mF mT nF nT k):∀ t,fitT t->nodesT t<=1000->Xp k.ts kb W0 t:=by
 have SA:=ab (fun x hx=>kJ dV (x:=x) hx);have IT:=ab dV;clear dV;have pp166g:=();exact pm166
theorem wu (k:Bd) (o:Int) (n:Str) (a:List Tm) (s:List Fm):m_ k (.mk o n a s)=if o=15 then (cm (a_ [] (formOf k.fs n))).filter dZ
  else if o=16 then
   (let l:=(cm (a_ [] (formOf k.fs n))).filter dZ
   if !l.contains (bp (.mk o n a s)).1 then l else l.filter (fun x=>x != (bp (.mk o n a s)).1) ++ (cm (aN (termOf k.ts (bp (.mk o n a s)).2))).filter dZ)
  else dE k.ts a:=rfl
theorem z9:∀ args W,(callFunc 247 args).run Tryz.prog W=.ok (.enter 247 args) W:=enters_of Tryz.func247 (by kernel_rfl) rfl
theorem G4 (x n:Str) (X:Nat) (w:World) (hX:w.cell? ⟨X,0,none⟩=some (.string ⟨n.toArray⟩)) :
  Calls Tryz.prog 247 #[.string ⟨x.toArray⟩,.pointer (some ⟨X,0,none⟩)] w fun e w'=>e=.returned (.bool (x == n))/\Below w.heap.size w w':=by
 go_enter Tryz.func247,Tryz.ntmps247;go_wp2;go_ret;exact ⟨rfl,ak _ _⟩
theorem J9 (nr:Nat->Prop) (kb mF mT nF nT:Nat) (k:Bd) (s:Fm) (hs:okF true s=true) (ry:nodesF s<=400) (ok:Nat->Prop) (w:World) (dV:KnV nr goodF goodT w kb mF mT nF nT k) (q:PlQ) (hq:FormV ok w q.s.val s) :
  Calls Tryz.prog 195 #[.pointer (some ⟨kb,0,none⟩),q.val] w fun e w'=>(∃v,e=.returned v/\OwnS w.heap.size w' v (m_ k s))/\Below w.heap.size w w':=by
 obtain ⟨o,n,a,ss⟩:=s;have pp73g:=();exact pm73
mutual
theorem G6 (k:List (Str×Tm)):∀ t,∀ x∈jx k t,dZ x=true
 | .mk v n a=>fun x hx=>by
  unfold jx at hx;split at hx
  ·exact (List.mem_filter.1 hx).2
  ·exact o_ k a x hx
theorem o_ (k:List (Str×Tm)):∀ l,∀ x∈dE k l,dZ x=true
 | []=>fun x hx=>by simp[dE]at hx
 | t :: l=>fun x hx=>by
  simp only[dE,List.mem_append]at hx;exact hx.elim (G6 k t x) (o_ k l x)
end
theorem G7 (k:Bd) (s:Fm):∀ x∈m_ k s,dZ x=true:=by
 obtain ⟨o,n,a,ss⟩:=s;intro x hx;rw[wu]at hx;split at hx
 ·exact (List.mem_filter.1 hx).2
 ·split at hx
  ·simp only at hx;split at hx
   ·exact (List.mem_filter.1 hx).2
   ·rcases List.mem_append.1 hx with h | h
    ·exact (List.mem_filter.1 (List.mem_filter.1 h).1).2
    ·exact (List.mem_filter.1 h).2
  ·exact o_ _ _ x hx
theorem J' (h:dZ x=true):∃r,x=63 :: r:=sD (by
 cases h2:(x.head? == some 63)
 ·simp[dZ,h2]at h
 ·rfl)
theorem EV:∀ args W,(callFunc 196 args).run Tryz.prog W=.ok (.enter 196 args) W:=enters_of Tryz.func196 (by kernel_rfl) rfl
theorem Nl (q:PlQ) (ps:List (Str×Str)) (lJ:ps.length<=1000000) (r:Str) (hr:r.length<=2000000) (B:Nat) (w:World) (hB:w.heap[B]?=some (.cells q.cells 89 (0,0))) (hv:PairsV w (.slice q.a q.l q.c) ps) :
  Calls Tryz.prog 196 #[.string ⟨(63 :: r).toArray⟩,.pointer (some ⟨B,0,none⟩)] w fun e w'=>e=.returned (.bool (!(ps.map (·.1)).contains r))/\Below w.heap.size w w':=by
 have HC:=ab (Dm q ps lJ r w.drew (hv.later ((ak w.heap.size w).drew)));have pp73h:=();exact pm73
mutual
theorem Nm {k:List (Str×Tm)} (hk:∀ x:Str,x.length<=2000000->jN 17 (termOf k x)=true):∀ t,jN 2000000 t=true->∀ x∈jx k t,x.length<=2000000
 | .mk v n a=>fun h x hx=>by
  simp only[jN,ae,bw]at h;unfold jx at hx;split at hx
  ·exact aQ (mq _ (hk n h.1) x ((dL x _).1 (List.mem_filter.1 hx).1)) (by decide)
  ·exact s8 hk a h.2 x hx
theorem s8 {k:List (Str×Tm)} (hk:∀ x:Str,x.length<=2000000->jN 17 (termOf k x)=true):∀ l,nmTs 2000000 l=true->∀ x∈dE k l,x.length<=2000000
 | []=>fun _ x hx=>by simp[dE]at hx
 | t :: l=>fun h x hx=>by
  simp only[nmTs,ae]at h;simp only[dE,List.mem_append]at hx;exact hx.elim (Nm hk t h.1 x) (s8 hk l h.2 x)
end
theorem Nn {nr:Nat->Prop} {kb mF mT nF nT:Nat} (dV:KnV nr goodF goodT W kb mF mT nF nT k) (s:Fm) (hs:okF true s=true) (ry:nodesF s<=400):(m_ k s).length<=2000000/\∀ x∈m_ k s,x.length<=2000000:=by
 have lq:=iu _ hs;obtain ⟨o,n,a,ss⟩:=s;simp only[kT,ae,bw]at lq;have Bm:nodesTs a<=400:=by simp only[nodesF]at ry;omega
 have lG:n.length<=2000000:=by have:=lq.2.1;omega
 obtain ⟨q,_,UI,qh,_⟩:=dV.formOf (x:=n) lG;have jh:(cm (a_ [] (formOf k.fs n))).length<=400:=by have h1:=eO (a_ [] (formOf k.fs n));have h2:=gH (formOf k.fs n) [];omega
 have rR:∀ x∈cm (a_ [] (formOf k.fs n)),x.length<=2000000:=fun x hx=>oV _ [] UI.2 x ((dL x _).1 hx);rw[wu]
 by_cases kt:o=15
 ·rw[aX kt];exact ⟨aQ (List.length_filter_le _ _) (by omega),fun x hx=>rR x (List.mem_filter.1 hx).1⟩
 rw[aD kt]
 by_cases gW:o=16
 ·subst gW;rw[aX rfl];obtain ⟨x,y,fL,IU,ES,aO⟩:=jL hs;rw[aO];have GZ:=gp ES;obtain ⟨q2,_,_,htn,htm,_⟩:=dV.termOf (x:=y) (by omega);simp only;split
  ·exact ⟨aQ (List.length_filter_le _ _) (by omega),fun x hx=>rR x (List.mem_filter.1 hx).1⟩
  ·refine ⟨?_,fun z hz=>?_⟩
   ·rw[di];have h1:=List.length_filter_le (fun z=>z != cM x) ((cm (a_ [] (formOf k.fs n))).filter dZ);have h2:=List.length_filter_le dZ (cm (a_ [] (formOf k.fs n)));have h3:=List.length_filter_le dZ (cm (aN (termOf k.ts y)));have h4:=eO (aN (termOf k.ts y));have h5:=mo (termOf k.ts y);omega
   ·rcases List.mem_append.1 hz with h | h
    ·exact rR z (List.mem_filter.1 (List.mem_filter.1 h).1).1
    ·exact aQ (mq _ htm z ((dL z _).1 (List.mem_filter.1 h).1)) (by decide)
 ·rw[aD gW];have dK:nmTs 2000000 a=true:=dS (by omega) a lq.2.2.1;refine ⟨?_,s8 (fun x hx=>by obtain ⟨_,_,_,_,h,_⟩:=dV.termOf (x:=x) hx;exact h) a dK⟩;have:=o9 (fun x hx=>kJ dV (x:=x) hx) a dK;omega
theorem Qk (nr:Nat->Prop) (kb mF mT nF nT:Nat) (k:Bd) (p:Pl) (ps:List (Str×Str)) (Vd:p.c=ps.reverse) (lJ:ps.length<=1000000) (hs:okF true p.s=true) (ry:nodesF p.s<=400) (ok:Nat->Prop) (w:World) (dV:KnV nr goodF goodT w kb mF mT nF nT k) (q:PlQ) (hq:FormV ok w q.s.val p.s) (hv:PairsV w (.slice q.a q.l q.c) ps) :
  Calls Tryz.prog 125 #[.pointer (some ⟨kb,0,none⟩),q.val] w fun e w'=>e=.returned (.bool (tK k p))/\Below w.heap.size w w':=by
 obtain ⟨W1,bR⟩:=ao (w.alloc (.cells q.cells 89));have hb1:=cX bR;have x1:=bX bR;have hbd:=Nn dV p.s hs ry;have xy:=G7 k p.s;have C7:=J9 nr kb mF mT nF nT k p.s hs ry ok W1 (dV.later hb1) q (hq.later hb1);obtain ⟨l,hl⟩:=ao (m_ k p.s);obtain ⟨R,hR⟩:=ao (tK k p);have hE:=hR;unfold tK at hE;rw[<-hl]at hE C7 hbd xy;rw[<-hR];have HX:=aC hb1 x1;have ZF:∀ W,Below W1.heap.size W1 W->PredS (fun x=>!(ps.map (·.1)).contains x.tail) 196 #[.pointer (some ⟨w.heap.size,0,none⟩)] l (Below W.heap.size W):=fun W hW x V hx hV=>by
  obtain ⟨r,rfl⟩:=J' (xy x hx);have hr:=hbd.2 _ hx;exact Nl q ps lJ r (by simp at hr;omega) w.heap.size V (bT ((hW.tr hV)) x1) (hv.later (hb1.tr (hW.tr hV)))
 have qI:R=l.any (fun x=>!(ps.map (·.1)).contains x.tail):=by
  rw[hE];congr 1
  funext x
  rw[Vd];congr 1;rw[gA];simp only[List.contains_iff_mem,List.mem_map,List.mem_reverse]
 have kV:=ab (fun (W:World) (v:Value) (hW:Below W1.heap.size W1 W) (hvv:OwnS W1.heap.size W v l)=>Ch _ l hbd.1 196 #[.pointer (some ⟨w.heap.size,0,none⟩)] EV _ W v (ZF W hW) hvv.strs);rw[<-qI]at kV;obtain ⟨C7,iW⟩:=aZ C7 bR;have pp73i:=();exact pm73
end
/-! what each place of a match says -/
/-! arguments -/
/-! images without bound names -/
theorem ma {a:List Tm} {s:List Fm} (h:okF sc (.mk o n a s)=true) (hq:bD o=true):i8 n=true/\a=[]/\∃g,s=[g]:=by
 have h1:=h;simp only[okF,ae]at h;have:=tX _ h1;obtain ⟨e1,e2⟩:=mW hq this;have h5:=h.2.1.1;have:(rowOp o).2.2.1=2:=by
  simp only[bD,Bool.or_eq_true,fY]at hq;rcases hq with rfl | rfl <;> decide
 rw[this]at h5;exact ⟨h5,e1,e2⟩
/-! sizes without bound names -/
def Dt.atom:Dt->Prop | .app _ _=>False | _=>True
def Atom (σ:Str->Dt):Prop:=∀ z,(σ z).atom
theorem G8 (l:List Str):Atom (env l):=by
 intro z
 induction l with
 | nil=>trivial
 | cons n r ih=>unfold env;split;trivial;exact ih
theorem Atom.upd {σ:Str->Dt} (h:Atom σ) (n:Str) (d:Nat):Atom (upd σ n (.lvl d)):=fun z=>by unfold Go.Proofs.YtokemihbkeddoaaGreatDoor.upd;split;trivial;exact h z
mutual
def uK:Dt->Nat | .app _ a=>xD a+1 | _=>1
def xD:List Dt->Nat | []=>0 | t :: l=>uK t+xD l
end
mutual
def J_:Df->Nat | .mk _ _ a s=>xD a+z' s+1
def z':List Df->Nat | []=>0 | t :: l=>J_ t+z' l
end
mutual
def Tc:Dt->Nat | .app _ a=>DA a+1 | _=>1
def DA:List Dt->Nat | []=>0 | t :: l=>max (Tc t) (DA l)
end
mutual
def Td:Df->Nat | .mk _ _ a s=>max (DA a) (G9 s)+1
def G9:List Df->Nat | []=>0 | t :: l=>max (Td t) (G9 l)
end
theorem Ql {t:Dt} (h:t.atom):uK t=1/\Tc t=1:=by cases t <;> first | exact ⟨rfl,rfl⟩ | exact h.elim
mutual
theorem G' {σ:Str->Dt} (hσ:Atom σ):∀ t,pG t=true->uK (vB σ t)=nodesT t/\Tc (vB σ t)=cY t
 | .mk v n a,h=>by
  simp only[pG,ae]at h
  cases v with
  | true=>
   obtain rfl:a=[]:=by simpa using h.1
   simpa[vB,nodesT,nodesTs,cY,bx] using Ql (hσ n)
  | false=>simp[vB,uK,Tc,nodesT,cY,wv hσ a h.2]
theorem wv {σ:Str->Dt} (hσ:Atom σ):∀ t,fR t=true->xD (oR σ t)=nodesTs t/\DA (oR σ t)=bx t
 | [],_=>by simp[oR,xD,DA,nodesTs,bx]
 | t :: l,h=>by simp only[fR,ae]at h;simp[oR,xD,DA,nodesTs,bx,G' hσ t h.1,wv hσ l h.2]
end
mutual
theorem G_:∀ (f:Fm) (σ:Str->Dt) (d:Nat),Atom σ->lL f=true->J_ (dbF σ d f)=nodesF f/\Td (dbF σ d f)=depthF f
 | .mk o n a s,σ,d,hσ,h=>by
  simp only[lL,ae]at h;have h1:=wv hσ a h.1;simp only[dbF];split
  ·have h2:=ww s (upd σ n (.lvl d)) (d+1) (hσ.upd n d) h.2;simp[J_,Td,nodesF,depthF,h1,h2]
  ·have h2:=ww s σ d hσ h.2;simp[J_,Td,nodesF,depthF,h1,h2]
theorem ww:∀ (f:List Fm) (σ:Str->Dt) (d:Nat),Atom σ->gG f=true->z' (qD σ d f)=nodesFs f/\G9 (qD σ d f)=aT f
 | [],σ,d,_,_=>by simp[qD,z',G9,nodesFs,aT]
 | t :: l,σ,d,hσ,h=>by simp only[gG,ae]at h;simp[qD,z',G9,nodesFs,aT,G_ t σ d hσ h.1,ww l σ d hσ h.2]
end
/-! what is put keeps formulas well -/
theorem uL (hu:pG u=true):∀ (k:Nat) (f:Fm) (x:Str),lL f=true->qone f=true->depthF f<=k->lL (eD k x u f)=true/\qone (eD k x u f)=true
 | 0,f,x,hw,hq,hd=>by have:=kG f;omega
 | k+1,.mk o n a s,x,hw,hq1,hd=>by
  have lH:=hw;exact pm136
mutual
theorem z_:∀ f,qone (bC f)=qone f
 | .mk o n a s=>by
  have h1:(bU a).isEmpty=a.isEmpty:=by cases a <;> simp[bU]
  have h2:(bV s).length=s.length:=Aa s;simp[bC,qone,xE s,h1,h2]
theorem xE:∀ f,ep (bV f)=ep f
 | []=>by simp[bV]
 | t :: l=>by simp[bV,ep,z_ t,xE l]
theorem Aa:∀ s,(bV s).length=s.length
 | []=>by simp[bV]
 | t :: l=>by simp[bV,Aa l]
end
theorem qP {l:List (Str×Fm)} (h:V9 l=true) (hg:getB l n=some g):dn (bC g)=true/\dA n=true:=by
 simp only[V9,ae,List.all_eq_true]at h;exact pm116
theorem Ha {l:List (Str×Tm)} (h:Je l=true) {g:Tm} (hg:getB l n=some g):gw false (aM g)=true/\cW n=true:=by
 simp only[Je,ae,List.all_eq_true]at h;exact pm116
theorem DB (h:dn (bC g)=true):lL g=true/\qone g=true/\nodesF g<=400/\depthF g<=40:=by
 simp only[dn,ae,bw]at h;have h1:=Jj _ h.1;have h2:=tX _ h.1;rw[Da]at h1;rw[z_]at h2;have h3:=kW g;exact ⟨h1,h2,by omega,by omega⟩
theorem wy {g:Tm} (h:gw false (aM g)=true):pG g=true:=by
 have h1:=Ji _ h
 rwa [C_]at h1
/-! every free name of a part that has an image has one -/
theorem lS {z s:Str} (hz:i8 z=true):z≠cM s:=by
 rintro rfl;simp only[i8,cM,rY,ae]at hz;exact absurd hz.2.2.1.1 (by decide)
/-! bound names are variables -/
mutual
def Sa:Fm->Bool | .mk o n _ s=>(!bD o || i8 n) && Cl s
def Cl:List Fm->Bool | []=>true | t :: l=>Sa t && Cl l
end
mutual
theorem Hb:∀ f,Sa (bC f)=Sa f
 | .mk o n a s=>by simp[bC,Sa,DC s]
theorem DC:∀ f,Cl (bV f)=Cl f
 | []=>by simp[bV]
 | t :: l=>by simp[bV,Cl,Hb t,DC l]
end
mutual
theorem Ve:∀ f,okF sc f=true->Sa f=true
 | .mk o n a s,h=>by
  have h':=h;simp only[okF,ae]at h;simp only[Sa,ae,Bool.or_eq_true,Bool.not_eq_true'];refine ⟨?_,Qm s h.2.2.2.2⟩;cases hq:bD o
  ·exact .inl rfl
  ·exact .inr (ma h' hq).1
theorem Qm:∀ f,cG sc f=true->Cl f=true
 | [],_=>by simp[Cl]
 | t :: l,h=>by simp only[cG,ae]at h;simp[Cl,Ve t h.1,Qm l h.2]
end
theorem Te (h:dn (bC g)=true):Sa g=true:=by
 simp only[dn,ae]at h;have:=Ve _ h.1
 rwa [Hb]at this
theorem LM (x y:Str):∀ l:List Str,y∈sy x l ↔ y=x\/y∈l
 | []=>by simp[sy]
 | z :: l=>by
  unfold sy;split
  ·rename_i h;rw[fY]at h;subst h;simp
  ·split
   ·simp
   ·simp only[dw,LM x y l];constructor
    ·rintro (h | h | h) <;> simp[h]
    ·rintro (h | h | h) <;> simp[h]
theorem LN (y:Str):∀ l:List Str,y∈cm l ↔ y∈l
 | []=>by simp[cm]
 | x :: l=>by
  have ih:=LN y l;simp only[cm,List.foldr_cons]at ih ⊢;rw[LM,ih];simp
/-! occurrences -/
theorem uM (s:Str):i8 (cM s)=false:=by
 cases h:i8 (cM s)
 ·rfl
 ·exact absurd rfl (lS (s:=s) h)
/-! the placeholders of an image are those of its scope -/
/-! sizes -/
mutual
theorem Ka {k:List (Str×Tm)} {c:List Str}:∀ t,gw true t=true->nP k t=nodesT (bY k c t)
 | .mk v n a,hok=>by
  unfold nP bY
  by_cases hm:(v && da n)=true
  ·rw[aX hm,aX hm]
  ·rw[aD hm,aD hm]
   cases v with
   | true=>
    simp only[gw,↓reduceIte,ae]at hok;obtain rfl:a=[]:=by simpa using hok.1
    split <;> simp[am,nodesT,nodesTs,dQ,cR]
   | false=>
    simp only[gw,bZ,↓reduceIte,ae]at hok;simp only[Bool.false_and,bZ,↓reduceIte,nodesT,qQ (c:=c) a hok.2.2]
theorem qQ {k:List (Str×Tm)} {c:List Str}:∀ t,dB true t=true->dQ k t=nodesTs (cR k c t)
 | [],_=>by simp[dQ,cR,nodesTs]
 | t :: l,hok=>by
  simp only[dB,ae]at hok;simp[dQ,cR,nodesTs,Ka (c:=c) t hok.1,qQ (c:=c) l hok.2]
end
/-! atoms turned -/
/-! the free names of a formula, as atoms -/
/-! the image's name, from what is not a name -/
/-! when there is an image -/
structure Twin (c c':Sco) (f f':Fm):Prop where
 n:c.map (·.1)=c'.map (·.1)
 d:dbF (env (c.map (·.2))) c.length f=dbF (env (c'.map (·.2))) c'.length f'
theorem Twin.len {c c':Sco} {f':Fm} (h:Twin c c' f f'):c.length=c'.length:=by have:=congrArg List.length h.n;simpa using this
/-! where the first placeholder is, without bound names -/
def Only (x:Str) (ρ:Str->Dt):Prop:=∀ z,ρ z=.fre x ↔ z=x
theorem Only.upd {ρ:Str->Dt} (h:Only x ρ) (hn:n≠x) (d:Nat):Only x (upd ρ n (.lvl d)):=fun z=>by
 unfold Go.Proofs.YtokemihbkeddoaaGreatDoor.upd
 by_cases e:z=n
 ·subst e;simp[hn]
 ·have:(z == n)=false:=by simpa using e
  simp only[this,bZ,↓reduceIte];exact h z
def Df.s:Df->List Df | .mk _ _ _ s=>s
def Df.a:Df->List Dt | .mk _ _ a _=>a
/-! how often a placeholder stands -/
mutual
theorem Kb (x:Str):∀ t,D3 x t=(aN t).count x
 | .mk v n a=>by
  have ih:=qR x a
  cases v with
  | true=>simp only[D3,dP,aN,↓reduceIte,List.count_cons,ih];omega
  | false=>simp[D3,aN,ih]
theorem qR (x:Str):∀ t,fG x t=(aw t).count x
 | []=>by simp[fG,aw]
 | t :: l=>by simp[fG,aw,List.count_append,Kb x t,qR x l]
end
mutual
theorem Ab (hx:i8 x=false):∀ f,Sa f=true->iC x f=(a_ [] f).count x
 | .mk o n a s,hb=>by
  simp only[Sa,ae]at hb;have ih:=xF hx s hb.2;have e:(aw a).filter (fun x=>!([]:List Str).contains x)=aw a:=List.filter_eq_self.2 (fun x _=>by simp);simp only[iC,a_,e,List.count_append,qR,ih]
  by_cases hq:bD o=true
  ·rw[aX hq,mr];have hn:i8 n=true:=by have:=hb.1;rw[hq]at this;simpa using this
   have:(x == n)=false:=by
    rw[Bool.eq_false_iff];intro h;rw[fY]at h;rw[h,hn]at hx;cases hx
   rw[List.count_filter (by simp[this])]
  ·rw[aD hq]
theorem xF (hx:i8 x=false):∀ f,Cl f=true->jT x f=(bH [] f).count x
 | [],_=>by simp[jT,bH]
 | t :: l,hb=>by
  simp only[Cl,ae]at hb;simp[jT,bH,List.count_append,Ab hx t hb.1,xF hx l hb.2]
end
def FRel:List (Str×Fm)->List (Str×Fm)->Prop
 | [],[]=>True
 | (n,g) :: l,(n',g') :: l'=>n=n'/\db g=db g'/\FRel l l'
 | _,_=>False
theorem FRel.refl:∀ l,FRel l l
 | []=>trivial
 | (_,_) :: l=>⟨rfl,rfl,FRel.refl l⟩
theorem FRel.get:∀ {l l':List (Str×Fm)},FRel l l'->∀ n,(getB l n=none/\getB l' n=none)\/∃g g',getB l n=some g/\getB l' n=some g'/\db g=db g'
 | [],[],_,n=>.inl ⟨rfl,rfl⟩
 | [],_ :: _,h,_=>h.elim
 | _ :: _,[],h,_=>h.elim
 | (m,g) :: l,(m',g') :: l',h,n=>by
  obtain ⟨rfl,h2,h3⟩:=h;unfold getB;split
  ·exact .inr ⟨g,g',rfl,rfl,h2⟩
  ·exact FRel.get h3 n
theorem FRel.add {v v':Fm} (hv:db v=db v'):∀ {l l':List (Str×Fm)},FRel l l'->FRel (iE x v l) (iE x v' l')
 | [],[],_=>⟨rfl,hv,trivial⟩
 | [],_ :: _,h=>h.elim
 | _ :: _,[],h=>h.elim
 | (m,g) :: l,(m',g') :: l',h=>by
  obtain ⟨rfl,h2,h3⟩:=h;unfold iE;split
  ·exact ⟨rfl,hv,rfl,h2,h3⟩
  ·exact ⟨rfl,h2,FRel.add hv h3⟩
/-! filling, then matching -/
/-! arguments match what is filled in for them -/
/-! the size where a term is put -/
theorem LO (σ:Str->Dt) (n:Str) (d:Nat):∀ l:List Str,(l.map fun z=>uK (upd σ n (.lvl d) z)).sum+(l.filter fun x=>!(x == n)).length=((l.filter fun x=>!(x == n)).map fun z=>uK (σ z)).sum+l.length
 | []=>rfl
 | x :: l=>by
  have ih:=LO σ n d l;rw[cU,List.sum_cons,List.filter_cons]
  by_cases h:(x == n)=true
  ·have e1:upd σ n (.lvl d) x=.lvl d:=by unfold upd;rw[aX h]
   rw[e1,h];simp only[Bool.not_true,bZ,↓reduceIte,uK,fF];omega
  ·have e1:upd σ n (.lvl d) x=σ x:=by unfold upd;rw[aD h]
   have h':(x == n)=false:=by simpa using h
   rw[e1,h'];simp only[Bool.not_false,if_true,cU,List.sum_cons,fF];omega
mutual
theorem Tf (σ:Str->Dt):∀ t,pG t=true->uK (vB σ t)+(aN t).length=nodesT t+((aN t).map fun z=>uK (σ z)).sum
 | .mk v n a,h=>by
  simp only[pG,ae]at h
  cases v with
  | true=>
   obtain rfl:a=[]:=by simpa using h.1
   simp only[vB,↓reduceIte,aN,aw,nodesT,nodesTs,fF,List.length_nil,cU,List.map_nil,List.sum_cons,List.sum_nil];omega
  | false=>
   have:=Ac σ a h.2;simp only[vB,bZ,↓reduceIte,uK,aN,nodesT];omega
theorem Ac (σ:Str->Dt):∀ t,fR t=true->xD (oR σ t)+(aw t).length=nodesTs t+((aw t).map fun z=>uK (σ z)).sum
 | [],_=>rfl
 | t :: l,h=>by
  simp only[fR,ae]at h;have h1:=Tf σ t h.1;have h2:=Ac σ l h.2;simp only[oR,xD,aw,nodesTs,di,List.map_append,List.sum_append];omega
end
mutual
theorem LP:∀ (f:Fm) (σ:Str->Dt) (d:Nat),lL f=true->J_ (dbF σ d f)+(a_ [] f).length=nodesF f+((a_ [] f).map fun z=>uK (σ z)).sum
 | .mk o n a s,σ,d,h=>by
  simp only[lL,ae]at h;have e:(aw a).filter (fun x=>!([]:List Str).contains x)=aw a:=List.filter_eq_self.2 (fun x _=>by simp);have h1:=Ac σ a h.1;simp only[dbF,a_,e,nodesF,di,List.map_append,List.sum_append]
  by_cases hq:bD o=true
  ·rw[aX hq,aX hq,mr];have h2:=Ad s (upd σ n (.lvl d)) (d+1) h.2;have h3:=LO σ n d (bH [] s);simp only[J_];omega
  ·rw[aD hq,aD hq];have h2:=Ad s σ d h.2;simp only[J_];omega
theorem Ad:∀ (f:List Fm) (σ:Str->Dt) (d:Nat),gG f=true->z' (qD σ d f)+(bH [] f).length=nodesFs f+((bH [] f).map fun z=>uK (σ z)).sum
 | [],_,_,_=>rfl
 | t :: l,σ,d,h=>by
  simp only[gG,ae]at h;have h1:=LP t σ d h.1;have h2:=Ad l σ d h.2;simp only[qD,z',bH,nodesFs,di,List.map_append,List.sum_append];omega
end
theorem LQ (x:Str) (N:Nat) (hN:1<=N):∀ l:List Str,(l.map fun z=>if z == x then N else 1).sum=l.length+l.count x * (N - 1)
 | []=>by simp
 | y :: l=>by
  have ih:=LQ x N hN l;rw[cU,List.sum_cons,List.count_cons,fF,ih,Nat.add_mul]
  by_cases h:(y == x)=true
  ·rw[aX h,aX h];omega
  ·rw[aD h,aD h];omega
theorem No (t:Tm):1<=nodesT t:=by obtain ⟨_,_,_⟩:=t;simp[nodesT]
theorem Np (hx:i8 x=false) (hf:lL f=true) (hq:qone f=true) (hb:Sa f=true) (hu:pG u=true) (hn:nodesF f+nodesT u<10 ^ 19):nodesF (iD x u f)=nodesF f+iC x f * (nodesT u - 1):=by
 have hw:=(uL hu (depthF f) f x hf hq (aF _)).1;have h1:=G_ (iD x u f) (env []) 0 (G8 []) hw;unfold iD at h1;rw[t7 (depthF f) f x u _ _ hf hq (aF _) hn]at h1;have h2:=LP f (upd (env []) x (vB (env []) u)) 0 hf;have e:(fun z=>uK (upd (env []) x (vB (env []) u) z))=fun z=>if z == x then nodesT u else 1:=by
  funext z
  unfold upd;split
  ·exact (G' (G8 []) u hu).1
  ·rfl
 rw[e,LQ x (nodesT u) (No u),h1.1]at h2;rw[Ab hx f hb];unfold iD;omega
/-! all that is needed is known -/
mutual
def gX (k:Bd):Fm->Bool | .mk o n a s=>!eV k (.mk o n a s) && iP k s
def iP (k:Bd):List Fm->Bool | []=>true | t :: l=>gX k t && iP k l
end
mutual
theorem Ae:∀ (s:Fm) (c:Sco),(bJ c s s).any (fun p=>eV k p.s)=false->gX k s=true
 | .mk o n a s,c,h=>by
  simp only[bJ,List.any_cons,Bool.or_eq_false_iff]at h;simp only[gX,h.1,Bool.not_false,dP];exact DD s _ h.2
theorem DD:∀ (s:List Fm) (c:Sco),(aU c s s).any (fun p=>eV k p.s)=false->iP k s=true
 | [],_,_=>rfl
 | t :: l,c,h=>by
  simp only[aU,List.any_append,Bool.or_eq_false_iff]at h;simp only[iP,Ae t c h.1,DD l c h.2,Bool.and_self]
end
theorem DE {a:List Tm} {s:List Fm} (h:okF true (.mk 16 n a s)=true):s=[]/\∃x y:Str,a=[am x,am y]/\i8 x=true/\cW y=true:=by
 have h':=h;simp only[okF,ae]at h;obtain ⟨x,y,h1,h2,h3,_⟩:=oQ (p:=⟨.mk 16 n a s,.mk 2 [] [] [],[]⟩) ⟨h',(by show okF false (.mk 2 [] [] [])=true;decide),(by intro x hx;cases hx),(by show nodesF (.mk 2 [] [] [])<=400;decide),(by show depthF (.mk 2 [] [] [])<=40;decide)⟩ rfl;exact ⟨List.length_eq_zero_iff.1 (fY.1 h.2.1.2.2),x,y,h1,h2,h3⟩
def Hc (k:Bd) (n x y:Str):Fm:=if iC (cM x) (formOf k.fs n)=0 then formOf k.fs n else iD (cM x) (termOf k.ts y) (formOf k.fs n)
theorem wA {s:List Fm}:cH k c (.mk 16 n [am x,am y] s)=Hc k n x y:=by
 simp only[cH,am,Tm.n];rw[aD (by decide)];simp only[if_true];rfl
theorem Tg (k:Bd) (n:Str) (a:List Tm) (s:List Fm):eV k (.mk 15 n a s)=(getB k.fs n).isNone:=by
 cases e:getB k.fs n <;> simp[eV,Fm.op,Fm.n,e]
theorem Th (k:Bd) (n:Str) (a:List Tm) (s:List Fm) (h:getB k.fs n=some g):eV k (.mk 16 n a s)=((getB k.ts (bp (.mk 16 n a s)).2).isNone && decide (iC (bp (.mk 16 n a s)).1 g > 0)):=by
 simp[eV,Fm.op,Fm.n,h]
theorem He (k:Bd) (n:Str) (a:List Tm) (s:List Fm) (h:getB k.fs n=none):eV k (.mk 16 n a s)=true:=by
 simp[eV,Fm.op,Fm.n,h]
theorem s9 {a:List Tm} {s:List Fm} (h:gX k (.mk 15 n a s)=true):∃g,getB k.fs n=some g:=by
 simp only[gX,ae,Bool.not_eq_true',Tg]at h
 cases e:getB k.fs n with
 | none=>rw[e]at h;cases h.1
 | some g=>exact ⟨g,rfl⟩
theorem Af {s:List Fm} (h:gX k (.mk 16 n [am x,am y] s)=true):∃g,getB k.fs n=some g/\(iC (cM x) g=0\/∃t,getB k.ts y=some t):=by
 simp only[gX,ae,Bool.not_eq_true']at h;have h1:=h.1
 cases e:getB k.fs n with
 | none=>rw[He k n _ s e]at h1;cases h1
 | some g=>
  rw[Th k n _ s e]at h1;refine ⟨g,rfl,?_⟩;have hn:bp (.mk 16 n [am x,am y] s)=(cM x,y):=rfl;rw[hn]at h1
  cases ht:getB k.ts y with
  | none=>
   rw[ht]at h1;simp only[Option.isNone_none,dP,decide_eq_false_iff_not]at h1;exact .inl (by omega)
  | some t=>exact .inr ⟨t,rfl⟩
theorem Kc (hk:validB k=true) {s:List Fm} (h:gX k (.mk 16 n [am x,am y] s)=true):lL (Hc k n x y)=true/\qone (Hc k n x y)=true:=by
 obtain ⟨k1,k2⟩:=(iK k).1 hk;obtain ⟨g,hg,h2⟩:=Af h;have oZ:=qP k1 hg;obtain ⟨w1,w2,_⟩:=DB oZ.1;have e:formOf k.fs n=g:=by unfold formOf;rw[hg]
 unfold Hc;rw[e];split
 ·exact ⟨w1,w2⟩
 ·rename_i h0;obtain ⟨t,ht⟩:=h2.resolve_left h0;have e2:termOf k.ts y=t:=by unfold termOf;rw[ht]
  rw[e2];exact uL (wy (Ha k2 ht).1) (depthF g) g (cM x) w1 w2 (aF _)
mutual
theorem Qn {k:List (Str×Tm)} (hk:Je k=true) {c:List Str}:∀ t,gw true t=true->f_ k t=false->pG (bY k c t)=true
 | .mk v n a,hok,h=>by
  unfold f_ at h;unfold bY
  by_cases hm:(v && da n)=true
  ·rw[aX hm]at h ⊢
   cases e:getB k n with
   | none=>rw[e]at h;cases h
   | some u=>
    have e2:termOf k n=u:=by unfold termOf;rw[e]
    rw[e2];exact wy (Ha hk e).1
  ·rw[aD hm]at h ⊢;split
   ·exact yH _
   ·cases v with
    | true=>
     simp only[gw,↓reduceIte,ae]at hok;obtain rfl:a=[]:=by simpa using hok.1
     simp[pG,cR,fR]
    | false=>
     simp only[gw,bZ,↓reduceIte,ae]at hok;simp[pG,wB hk (c:=c) a hok.2.2 h]
theorem wB {k:List (Str×Tm)} (hk:Je k=true) {c:List Str}:∀ t,dB true t=true->jt k t=false->fR (cR k c t)=true
 | [],_,_=>by simp[cR,fR]
 | t :: l,hok,h=>by
  simp only[dB,ae]at hok;simp only[jt,Bool.or_eq_false_iff]at h;simp[cR,fR,Qn hk (c:=c) t hok.1 h.1,wB hk (c:=c) l hok.2 h.2]
end
theorem mx {a:List Tm} {s:List Fm} (kt:o≠15) (gW:o≠16) (h:gX k (.mk o n a s)=true):jt k.ts a=false/\iP k s=true:=by
 simp only[gX,ae,Bool.not_eq_true',eV,Fm.op,Fm.a]at h;rw[aX (by simp[kt,gW])]at h;exact h
mutual
theorem Ti (hk:validB k=true):∀ (s:Fm) (c:List Str),okF true s=true->gX k s=true->lL (cH k c s)=true/\qone (cH k c s)=true
 | .mk o n a s,c,hok,h=>by
  obtain ⟨k1,k2⟩:=(iK k).1 hk
  by_cases kt:o=15
  ·subst kt;obtain ⟨g,hg⟩:=s9 h;have e:cH k c (.mk 15 n a s)=g:=by
    simp only[cH,if_true];unfold formOf;rw[hg]
   rw[e];have:=DB (qP k1 hg).1;exact ⟨this.1,this.2.1⟩
  ·by_cases gW:o=16
   ·subst gW;obtain ⟨rfl,x,y,rfl,_,_⟩:=DE hok;rw[wA];exact Kc hk h
   ·obtain ⟨h1,h2⟩:=mx kt gW h;have Xr:=hok;simp only[okF,ae]at hok
    by_cases hq:bD o=true
    ·obtain ⟨_,rfl,g,rfl⟩:=ma Xr hq;obtain ⟨i1,i2⟩:=qS hk [g] (n :: c) hok.2.2.2.2 h2;simp only[eu,gG,ep,Bool.and_true]at i1 i2;have pp297:=();exact pm297
    ·obtain ⟨i1,i2⟩:=qS hk s c hok.2.2.2.2 h2;have e:cH k c (.mk o n a s)=.mk o n (cR k.ts c a) (eu k c s):=by
      simp only[cH,aD kt,aD gW,aD hq]
     have oy:bD o=false:=by simpa using hq
     rw[e];exact ⟨by simp[lL,i1,wB k2 (c:=c) a hok.2.2.2.1 h1],by simp[qone,oy,i2]⟩
theorem qS (hk:validB k=true):∀ (s:List Fm) (c:List Str),cG true s=true->iP k s=true->gG (eu k c s)=true/\ep (eu k c s)=true
 | [],_,_,_=>by simp[eu,gG,ep]
 | t :: l,c,hok,h=>by
  simp only[cG,iP,ae]at hok h;simp[eu,gG,ep,Ti hk t c hok.1 h.1,qS hk l c hok.2 h.2]
end
/-! with less known -/
theorem EW {α:Type}:∀ {l:List (Str×α)} {z:Str} {v:α},getB l z=some v->(z,v)∈l
 | [],_,_,h=>by simp[getB]at h
 | (y,u) :: r,z,v,h=>by
  unfold getB at h;split at h
  ·rename_i e;obtain rfl:=Option.some.inj h;obtain rfl:=fY.1 e;exact ij
  ·exact iU _ (EW h)
mutual
def uN (k:Bd):Fm->Nat | .mk o n a s=>jF k (.mk o n a s)+qT k s
def qT (k:Bd):List Fm->Nat | []=>0 | t :: l=>uN k t+qT k l
end
mutual
theorem DF (k:Bd):∀ (s:Fm) (c:Sco),((bJ c s s).map fun p=>jF k p.s).sum=uN k s
 | .mk o n a s,c=>by simp only[bJ,cU,List.sum_cons,uN,Ag k s]
theorem Ag (k:Bd):∀ (s:List Fm) (c:Sco),((aU c s s).map fun p=>jF k p.s).sum=qT k s
 | [],_=>by simp[aU,qT]
 | t :: l,c=>by simp only[aU,List.map_append,List.sum_append,qT,DF k t,Ag k l]
end
theorem Hf (hk:validB k=true) (fS:∀ x∈k.ts,nodesT x.2<=1000) (n:Str):goodT (termOf k.ts n)\/termOf k.ts n=.mk false [] []:=by
 unfold termOf
 cases e:getB k.ts n with
 | none=>exact .inr rfl
 | some t=>exact .inl (EE hk fS _ (EW e)).1
theorem Nq (hk:validB k=true) (fS:∀ x∈k.ts,nodesT x.2<=1000) (n:Str):jN 17 (termOf k.ts n)=true:=by
 rcases Hf hk fS n with h | h
 ·exact h.nm
 ·rw[h];rfl
mutual
theorem Qo {k:List (Str×Tm)} (hk:∀ n,jN 17 (termOf k n)=true):∀ t,jN 16 t=true->jN 17 (bY k c t)=true
 | .mk v n a,h=>by
  simp only[jN,ae,bw]at h;unfold bY;split
  ·exact hk n
  ·split
   ·simp[am,jN,nmTs,cM];exact h.1
   ·simp only[jN,ae,bw];exact ⟨by omega,wC hk a h.2⟩
theorem wC {k:List (Str×Tm)} (hk:∀ n,jN 17 (termOf k n)=true):∀ l,nmTs 16 l=true->nmTs 17 (cR k c l)=true
 | [],_=>rfl
 | t :: l,h=>by
  simp only[nmTs,ae]at h;simp[cR,nmTs,Qo hk t h.1,wC hk l h.2]
end
theorem Ah {p:Nat} {a:List Tm} {s:List Fm} (h:kT p (.mk o n a s)=true):(0<=o/\o<=255)/\n.length<=p/\nmTs p a=true/\nmFs p s=true:=by
 simpa only[kT,ae,bw] using h
theorem Kd {r:Fm} (hn:n.length<=16) (hr:nodesF r<=100000):(if (a_ [] r).contains n then dN (a_ [] r) else n).length<=2000000:=by
 split
 ·exact oT (by have:=gH r [];omega)
 ·omega
mutual
theorem Ai {k:Bd} (hk:validB k=true) (fS:∀ x∈k.ts,nodesT x.2<=1000):∀ (s:Fm) (c:List Str),okF true s=true->gX k s=true->uN k s<=1000->nodesF (cH k c s)<=uN k s/\kT 2000000 (cH k c s)=true
 | .mk o n a s,c,hok,h,hsz=>by
  obtain ⟨k1,k2⟩:=(iK k).1 hk;have dK:=Ah (iu _ hok)
  by_cases kt:o=15
  ·subst kt;obtain ⟨g,hg⟩:=s9 h;have e2:formOf k.fs n=g:=by unfold formOf;rw[hg]
   have e:cH k c (.mk 15 n a s)=g:=by simp only[cH,if_true];exact e2
   have vC:goodF g:=(qP k1 hg).1;rw[e];refine ⟨?_,vC.fit.2⟩;have:jF k (.mk 15 n a s)=nodesF g:=by simp only[jF,Fm.op,Fm.n,if_true,e2]
   unfold uN;omega
  ·by_cases gW:o=16
   ·subst gW;obtain ⟨rfl,x,y,rfl,hx,_⟩:=DE hok;rw[wA];obtain ⟨g,hg,h2⟩:=Af h;have e2:formOf k.fs n=g:=by unfold formOf;rw[hg]
    have vC:goodF g:=(qP k1 hg).1;have hz:jF k (.mk 16 n [am x,am y] [])=nodesF g+iC (cM x) g * (nodesT (termOf k.ts y) - 1):=by
     simp only[jF,Fm.op,Fm.n,e2];rw[aD (by decide)];rfl
    unfold uN;rw[hz];unfold Hc;rw[e2];split
    ·exact ⟨by omega,vC.fit.2⟩
    ·rename_i h0;obtain ⟨t,ht⟩:=h2.resolve_left h0;have e3:termOf k.ts y=t:=by unfold termOf;rw[ht]
     have htg:=(EE hk fS _ (EW ht)).1;rw[e3];have hn:=vC.nodes;have ks:nodesT t<=1000:=htg.2;refine ⟨?_,(uF vC htg).2⟩;have hlt:nodesF g+nodesT t<10 ^ 19:=by omega
     rw[Np (uM x) vC.wf vC.qone (Te (qP k1 hg).1) (wy htg.1) hlt];exact Nat.le_add_right _ _
   ·obtain ⟨h1,h2⟩:=mx kt gW h;have Xr:=hok;simp only[okF,ae]at hok;have hz:jF k (.mk o n a s)=dQ k.ts a+1:=by unfold jF;rw[aD (show ¬(Fm.mk o n a s).op=15 from kt),aD (show ¬(Fm.mk o n a s).op=16 from gW)];rfl
    unfold uN at hsz ⊢;rw[hz]at hsz ⊢
    by_cases hq:bD o=true
    ·obtain ⟨_,rfl,g,rfl⟩:=ma Xr hq;have ih:=mY hk fS [g] (n :: c) hok.2.2.2.2 h2 (by omega);have iw:=qS hk [g] (n :: c) hok.2.2.2.2 h2;simp only[eu,nodesFs,nmFs,Bool.and_true,gG,ep]at ih iw;exact pm297
    ·have ih:=mY hk fS s c hok.2.2.2.2 h2 (by omega);have e:cH k c (.mk o n a s)=.mk o n (cR k.ts c a) (eu k c s):=by
      simp only[cH,aD kt,aD gW,aD hq]
     rw[e];have ha:=qQ (k:=k.ts) (c:=c) a hok.2.2.2.1;refine ⟨?_,?_⟩
     ·simp only[nodesF];omega
     ·simp only[kT,ae,bw];exact ⟨dK.1,by have:=dK.2.1;omega,dS (by omega) _ (wC (Nq hk fS) a dK.2.2.1),ih.2⟩
theorem mY {k:Bd} (hk:validB k=true) (fS:∀ x∈k.ts,nodesT x.2<=1000):∀ (s:List Fm) (c:List Str),cG true s=true->iP k s=true->qT k s<=1000->nodesFs (eu k c s)<=qT k s/\nmFs 2000000 (eu k c s)=true
 | [],_,_,_,_=>by simp[eu,nodesFs,nmFs]
 | t :: l,c,hok,h,hsz=>by
  simp only[cG,iP,ae]at hok h;simp only[qT]at hsz ⊢;have i1:=Ai hk fS t c hok.1 h.1 (by omega);have i2:=mY hk fS l c hok.2 h.2 (by omega);simp only[eu,nodesFs,nmFs,i1.2,i2.2,Bool.and_self,and_true];omega
end
