/-
slices.IndexFunc,ContainsFunc and DeleteFunc at rows of strings,the function a closure tha.
-/
import Derived.Test.YtokemihbkeddoaaGreatDoorU11
namespace Go.Proofs.YtokemihbkeddoaaGreatDoor
open Go Go.RowKit Lib
set_option maxRecDepth 100000
set_option maxHeartbeats 64000000
variable {pr:Str->Bool} {g f:Fm} {l c:List Str} {k:Bd} {b cap i j:Nat} {W:World} {x n y:Str} {sc:Bool} {o:Int} {u:Tm}
section
attribute [local go_sem] Oper.semAt_some
def PredS (pr:Str->Bool) (g:Nat) (lb:Array Value) (l:List Str) (C:World->Prop):Prop:=∀ x W,x∈l->C W->Calls Tryz.prog g (#[.string ⟨x.toArray⟩] ++ lb) W fun e w'=>e=.returned (.bool (pr x))/\Below W.heap.size W w'
theorem PredS.mono {g:Nat} {lb:Array Value} {C C':World->Prop} (h:PredS pr g lb l C) (hC:∀ W,C' W->C W):PredS pr g lb l C':=fun x W hx hW=>h x W hx (hC W hW)
theorem VZ {k:Nat} (hk:k<l.length) (f_:∀ t∈l.take k,pr t=false) (hq:pr l[k]=false):∀ t∈l.take (k+1),pr t=false:=by
 intro t hm;rw[List.take_add_one,gx hk]at hm;rcases List.mem_append.1 hm with h | h
 ·exact f_ t h
 ·obtain rfl:t=l[k]:=by simpa using h
  exact hq
theorem zy (pr:Str->Bool) (l:List Str) (hl:l.length<=2000000) (g:Nat) (lb:Array Value) (eg:∀ args W,(callFunc g args).run Tryz.prog W=.ok (.enter g args) W) (ok:Nat->Prop) (w:World) (v:Value) (hp:PredS pr g lb l (Below w.heap.size w)) (hv:StrsO ok w v l) :
  Calls Tryz.prog 244 #[v,.func (.func g) #[] lb] w fun e w'=>((e=.returned (.int .i64 (-1))/\∀ x∈l,pr x=false)\/∃(k:Nat) (x:Str),l[k]?=some x/\e=.returned (.int .i64 (k:Int))/\pr x=true/\∀ x∈l.take k,pr x=false)/\Below w.heap.size w w':=by
 obtain ⟨a,c,rfl⟩:=hv.slice;obtain ⟨k0,cg⟩:=am l.length;rw[<-cg]at hl hv;rw[<-cg];obtain ⟨HK,HV,HP⟩:=cG cg hv hp;clear cg hv hp;go_enter Tryz.func244,Tryz.ntmps244;exact pm152
theorem Bs (pr:Str->Bool) (l:List Str) (hl:l.length<=2000000) (g:Nat) (lb:Array Value) (eg:∀ args W,(callFunc g args).run Tryz.prog W=.ok (.enter g args) W) (ok:Nat->Prop) (w:World) (v:Value) (hp:PredS pr g lb l (Below w.heap.size w)) (hv:StrsO ok w v l) :
  Calls Tryz.prog 194 #[v,.func (.func g) #[] lb] w fun e w'=>e=.returned (.bool (l.any pr))/\Below w.heap.size w w':=by
 have CC:Calls Tryz.prog 244 #[v,.func (.func g) #[] lb] w fun e w'=>∃r:Int,e=.returned (.int .i64 r)/\decide (0<=r)=l.any pr/\Below w.heap.size w w':=(zy pr l hl g lb eg ok w v hp hv).mono (by
  rintro e w' ⟨⟨rfl,h⟩ | ⟨k,x,hk,rfl,h,_⟩,hb⟩
  ·refine ⟨-1,rfl,?_,hb⟩
   symm
   rw[show decide ((0:Int)<=-1)=false from rfl,List.any_eq_false];intro x hx;rw[h x hx];simp
  ·refine ⟨k,rfl,?_,hb⟩;rw[show decide ((0:Int)<=(k:Int))=true by simp]
   symm
   exact List.any_eq_true.2 ⟨_,List.mem_of_getElem? hk,h⟩)
 obtain ⟨a,c,rfl⟩:=hv.slice;obtain ⟨B,hB⟩:=am (l.any pr);rw[<-hB]at CC ⊢;have HC:=ae CC;clear CC hv hB hp;go_enter Tryz.func194,Tryz.ntmps194;go_wp2_with (go_at_call 244;refine HC.o.mono ?_;rintro e w4 ⟨r,rfl,hr,aP⟩;have H4:=aG hr aP;clear hr aP);go_ret;exact ⟨by rw[<-H4.o.1];rfl,H4.o.2⟩
def DelR (keep:Str->Bool) (l:List Str) (b cap i j:Nat) (W:World):Prop:=∃cur:Array Value,W.heap[b]?=some (.cells cur 9 (0,0))/\cur.size=cap * 1/\cur.toList.take i=((l.take j).filter keep).map encStr/\i=((l.take j).filter keep).length/\∀ q (h:q<l.length),j<=q->cur[q]?=some (encStr l[q])
theorem DelR.later {keep:Str->Bool} {W':World} (h:DelR keep l b cap i j W) (hb:Below W.heap.size W W'):DelR keep l b cap i j W':=by
 obtain ⟨cur,h1,h2⟩:=h;exact ⟨cur,(hb.block b (bz h1)).trans h1,h2⟩
theorem DelR.drop {keep:Str->Bool} (h:DelR keep l b cap i j W) (hj:j<l.length) (hk:keep l[j]=false):DelR keep l b cap i (j+1) W:=by
 obtain ⟨cur,h1,h2,h3,h4,h5⟩:=h;have e:(l.take (j+1)).filter keep=(l.take j).filter keep:=by
  rw[List.take_add_one,gx hj,List.filter_append];simp only[Option.toList_some,List.filter_cons,List.filter_nil,hk,dE,if_false,List.append_nil]
 exact ⟨cur,h1,h2,by rw[e];exact h3,by rw[e];exact h4,fun q h hq=>h5 q h (by omega)⟩
theorem DelR.keep {keep:Str->Bool} (h:DelR keep l b cap i j W) (hj:j<l.length) (hc:l.length<=cap) (XW:i<=j) (hk:keep l[j]=true):DelR keep l b cap (i+1) (j+1) (W.setCell ⟨b,i,none⟩ (.string ⟨l[j].toArray⟩)):=by
 obtain ⟨cur,h1,h2,h3,h4,h5⟩:=h;have e:(l.take (j+1)).filter keep=(l.take j).filter keep ++ [l[j]]:=by
  rw[List.take_add_one,gx hj,List.filter_append];simp only[Option.toList_some,List.filter_cons,List.filter_nil,hk,if_true]
 refine ⟨cur.setIfInBounds i (.string ⟨l[j].toArray⟩),bq h1 _,by simpa using h2,?_,by rw[e];simpa using h4,fun q h hq=>?_⟩
 ·rw[e,List.map_append,<-h3,Array.toList_setIfInBounds];rw[List.take_add_one];simp only[List.getElem?_set_self (show i<cur.toList.length by simp;omega),Option.toList_some];rw[List.take_set_of_le (aI i)];rfl
 ·rw[Array.getElem?_setIfInBounds_ne (by omega)];exact h5 q h (by omega)
theorem wD (b:Nat):∀ (vs:List Value) (o:Nat) (W:World),Kp (fun c=>c=b) W (W.setCells b o vs)
 | [],o,W=>Kp.refl W
 | v :: r,o,W=>by
  have h1:Kp (fun c=>c=b) W (W.setCell ⟨b,o,none⟩ v):=⟨rfl,rfl,rfl,by simp,fun c _ hc=>ei _ _ _ _ (by simpa using hc)⟩;exact h1.trans (wD b r (o+1) _)
theorem wE (b:Nat) (T:TypeId):∀ (vs:List Value) (o:Nat) (W:World) (cur:Array Value),W.heap[b]?=some (.cells cur T (0,0))->∃V0,(W.setCells b o vs).heap[b]?=some (.cells V0 T (0,0))/\V0.size=cur.size/\V0.toList.take o=cur.toList.take o
 | [],o,W,cur,h=>⟨cur,h,rfl,rfl⟩
 | v :: r,o,W,cur,h=>by
  obtain ⟨c2,h1,h2,h3⟩:=wE b T r (o+1) (W.setCell ⟨b,o,none⟩ v) _ (bq h v);refine ⟨c2,h1,by simpa using h2,?_⟩;have e:=congrArg (List.take o) h3;rw[List.take_take,List.take_take,Nat.min_eq_left (by omega)]at e;rw[e,Array.toList_setIfInBounds,List.take_set_of_le (aI o)]
theorem DelR.start {keep:Str->Bool} {k:Nat} {cur:Array Value} (hb:W.heap[b]?=some (.cells cur 9 (0,0))) (hs:cur.size=cap * 1) (ht:cur.toList.take (l.length * 1)=l.map encStr) (hk:k<l.length) (f_:∀ x∈l.take k,keep x=true):DelR keep l b cap k k W:=by
 have hf:(l.take k).filter keep=l.take k:=List.filter_eq_self.2 f_;refine ⟨cur,hb,hs,?_,by rw[hf,dM];omega,fun q h hq=>?_⟩
 ·rw[hf,List.map_take,<-ht,List.take_take];congr 1;omega
 ·have:=congrArg (fun m=>m[q]?) ht;simp only[Nat.mul_one,List.getElem?_map,gx h,Option.map_some,List.getElem?_take,aH h,Array.getElem?_toList]at this;exact this
theorem DelR.done {keep:Str->Bool} {lo:Nat} (h:DelR keep l b cap i l.length W) (hlo:lo<=b) (hc:l.length<=cap) (LR:i<=l.length) (hcm:cap<=maxLen) (vs:List Value):OwnS lo (W.setCells b i vs) (.slice (some ⟨b,0,none⟩) i cap) (l.filter keep):=by
 obtain ⟨cur,h1,h2,h3,h4,_⟩:=h;rw[cV]at h3 h4;obtain ⟨c2,g1,g2,g3⟩:=wE b _ vs i W cur h1;unfold OwnS;rw[<-h4];refine ⟨by simp[h4],.inr ⟨b,cap,c2,rfl,hlo,g1,by omega,hcm,by rw[g2];exact h2,?_⟩⟩;rw[Nat.mul_one,g3,h3]
theorem wF (pr:Str->Bool) (l:List Str) (hl:l.length<=2000000) (g:Nat) (lb:Array Value) (eg:∀ args W,(callFunc g args).run Tryz.prog W=.ok (.enter g args) W) (lo:Nat) (w:World) (v:Value) (hp:PredS pr g lb l (Kp (fun c=>lo<=c/\v.ownBlock=some c) w)) (hv:OwnS lo w v l) :
  Calls Tryz.prog 246 #[v,.func (.func g) #[] lb] w fun e w'=>(∃v',e=.returned v'/\OwnS lo w' v' (l.filter fun x=>!pr x))/\Kp (fun c=>lo<=c/\v.ownBlock=some c) w w':=by
 have CI:=zy pr l hl g lb eg _ w v (hp.mono fun W h=>Kp.below h) hv.strs;rcases hv.2 with ⟨rfl,h0⟩ | ⟨b,cap,cur,rfl,hlo,hb,hc,hcm,hcs,ht⟩
 ·obtain rfl:l=[]:=jk h0;have HC:=ae CI;clear CI hp hv;have pp166a:=();exact pm166
 ·by_cases ew:∀ x∈l,pr x=false
  ·have HC:=ae (CI.mono (fun e w' h=>(⟨h.1.elim (fun h=>h.1) (fun ⟨k,x,hk,_,hx,_⟩=>absurd (ew x (List.mem_of_getElem? hk)) (by simp[hx])),h.2⟩:e=.returned (.int .i64 (-1))/\Below w.heap.size w w')));have HR:=ae hv;have HE:=ae (show (l.filter fun x=>!pr x)=l from List.filter_eq_self.2 (fun x hx=>by rw[ew x hx];rfl));clear CI hp hv ew hb hcs ht;have pp166b:=();exact pm166
  ·have CJ:=CI.mono (fun e w' h=>(⟨h.1.elim (fun h=>absurd h.2 ew) id,h.2⟩:(∃(k:Nat) (x:Str),l[k]?=some x/\e=.returned (.int .i64 (k:Int))/\pr x=true/\∀ x∈l.take k,pr x=false)/\Below w.heap.size w w'));obtain ⟨n,hn⟩:=am l.length;have HB:=bG hb hcs ht;obtain ⟨HN,HP⟩:=a_ hn hp;rw[<-hn]at hl hc CJ ⊢;have HC:=ae CJ;have sr:=bG hcm hlo hc;clear CI CJ hp hv ew hb hcs ht hn hcm;exact pm166
theorem Bt:∀ args W,(callFunc 275 args).run Tryz.prog W=.ok (.enter 275 args) W:=enters_of Tryz.func275 (by kernel_rfl) rfl
theorem Gv (l:List Str) (mY:∀ x∈l,x.length<=2000000) (C:World->Prop):PredS (fun x=>!dV x) 275 #[] l C:=by
 intro n W hx _;have hn:=mY n hx;have CP:=ae (jE n W (by omega));obtain ⟨b,hb⟩:=am (dV n);simp only[<-hb]at CP ⊢;clear hb mY hx;go_enter Tryz.func275,Tryz.ntmps275;go_wp2_with (go_at_call 123;refine CP.o.mono ?_;rintro e w' ⟨rfl,hb⟩;have HB:=ae hb;clear hb);go_ret;exact ⟨rfl,HB.o⟩
theorem qN (l:List Str) (hl:l.length<=2000000) (mY:∀ x∈l,x.length<=2000000) (lo:Nat) (w:World) (v:Value) (hv:OwnS lo w v l) :
  Calls Tryz.prog 245 #[v] w fun e w'=>(∃v',e=.returned v'/\OwnS lo w' v' (l.filter dV))/\Kp (fun c=>lo<=c/\v.ownBlock=some c) w w':=by
 have CC:=wF (fun x=>!dV x) l hl 275 #[] Bt lo w v (Gv l mY _) hv;simp only[Bool.not_not]at CC;obtain ⟨a,c,hac⟩:=hv.strs.slice;rw[hac]at CC ⊢;have HC:=ae CC;clear CC hv mY hac;go_enter Tryz.func245,Tryz.ntmps245;go_wp2_with (go_at_call 246;refine HC.o.mono ?_;rintro e w' ⟨⟨v',rfl,hv'⟩,hk⟩;have H4:=aG hv' hk;clear hv' hk);go_ret;exact ⟨⟨_,rfl,H4.o.1⟩,H4.o.2⟩
theorem kF {w X Y:World} {v:Value} (h:Below w.heap.size w X) (k:Kp (fun c=>w.heap.size<=c/\v.ownBlock=some c) X Y):Below w.heap.size w Y:=
 ⟨k.os.trans h.os,k.tape.trans h.tape,k.output.trans h.output,aN h.size k.size,fun b hb=>(k.same b (bE hb h.size) (fun hc=>by omega)).trans (h.block b hb)⟩
theorem L5 {k:List (Str×Tm)} (hk:∀ x:Str,x.length<=2000000->nodesT (termOf k x)<=1000):∀ t:Tm,jw 2000000 t=true->(j_ k t).length<=nodesT t * 1000:=by
 have pp161f:=();exact pm161
theorem ox {k:List (Str×Tm)}:∀ {a:List Tm} {j:Nat} (h:j<a.length),dJ k (a.take (j+1))=dJ k (a.take j) ++ j_ k a[j]
 | t :: a,0,_=>by simp[dJ]
 | t :: a,j+1,h=>by
  have:=ox (k:=k) (a:=a) (j:=j) (by simpa using h);simp only[List.take_succ_cons,dJ,this,List.getElem_cons_succ,List.append_assoc]
theorem oy {k:List (Str×Tm)} (hk:∀ x:Str,x.length<=2000000->nodesT (termOf k x)<=1000):∀ a:List Tm,nmTs 2000000 a=true->(dJ k a).length<=nodesTs a * 1000
 | [],_=>by simp[dJ]
 | t :: a,h=>by
  simp only[nmTs,ah]at h;have h1:=L5 hk t h.1;have h2:=oy hk a h.2;simp only[dJ,nodesTs,dZ];omega
theorem zz {a:List Tm} {t:Tm} (h:t∈a):nodesT t<=nodesTs a:=by
 induction a with
 | nil=>cases h
 | cons u a ih=>
  simp only[nodesTs];rcases cY.1 h with rfl | h
  ·omega
  ·have:=ih h;omega
def V4 (k:List (Str×Tm)) (kb:Nat) (W0:World) (t:Tm):Prop:=∀ (ok:Nat->Prop) (w:World) (q:TQ),Below W0.heap.size W0 w->TermV ok w q.val t →
 Calls Tryz.prog 248 #[.pointer (some ⟨kb,0,none⟩),q.val] w fun e w'=>(∃v,e=.returned v/\OwnS w.heap.size w' v (j_ k t))/\Below w.heap.size w w'
theorem Bu (W0:World) (mR:Nat->Prop) (kb mF mT nF nT:Nat) (k:Bd) (dS:KnV mR goodF goodT W0 kb mF mT nF nT k):∀ t,fitT t->nodesT t<=1000->V4 k.ts kb W0 t:=by
 have U1:=ae (fun x hx=>kn dS (x:=x) hx);have Hr:=ae dS;clear dS;have pp161g:=();exact pm161
theorem vD (k:Bd) (o:Int) (n:Str) (a:List Tm) (s:List Fm):pk k (.mk o n a s)=if o=15 then (dF (bl [] (formOf k.fs n))).filter dV
  else if o=16 then
   (let l:=(dF (bl [] (formOf k.fs n))).filter dV
   if !l.contains (aX (.mk o n a s)).1 then l else l.filter (fun x=>x != (aX (.mk o n a s)).1) ++ (dF (aQ (termOf k.ts (aX (.mk o n a s)).2))).filter dV)
  else dJ k.ts a:=rfl
theorem zA:∀ args W,(callFunc 247 args).run Tryz.prog W=.ok (.enter 247 args) W:=enters_of Tryz.func247 (by kernel_rfl) rfl
theorem Gw (x n:Str) (X:Nat) (w:World) (hX:w.cell? ⟨X,0,none⟩=some (.string ⟨n.toArray⟩)) :
  Calls Tryz.prog 247 #[.string ⟨x.toArray⟩,.pointer (some ⟨X,0,none⟩)] w fun e w'=>e=.returned (.bool (x == n))/\Below w.heap.size w w':=by
 go_enter Tryz.func247,Tryz.ntmps247;go_wp2;go_ret;exact ⟨rfl,ak _ _⟩
theorem Jg (mR:Nat->Prop) (kb mF mT nF nT:Nat) (k:Bd) (s:Fm) (hs:okF true s=true) (qJ:nodesF s<=400) (ok:Nat->Prop) (w:World) (dS:KnV mR goodF goodT w kb mF mT nF nT k) (q:PlQ) (hq:FormV ok w q.s.val s) :
  Calls Tryz.prog 195 #[.pointer (some ⟨kb,0,none⟩),q.val] w fun e w'=>(∃v,e=.returned v/\OwnS w.heap.size w' v (pk k s))/\Below w.heap.size w w':=by
 obtain ⟨o,n,a,ss⟩:=s;have pp72g:=();exact pm72
mutual
theorem Gy (k:List (Str×Tm)):∀ t,∀ x∈j_ k t,dV x=true
 | .mk v n a=>fun x hx=>by
  unfold j_ at hx;split at hx
  ·exact (List.mem_filter.1 hx).2
  ·exact oz k a x hx
theorem oz (k:List (Str×Tm)):∀ l,∀ x∈dJ k l,dV x=true
 | []=>fun x hx=>by simp[dJ]at hx
 | t :: l=>fun x hx=>by
  simp only[dJ,List.mem_append]at hx;exact hx.elim (Gy k t x) (oz k l x)
end
theorem Gz (k:Bd) (s:Fm):∀ x∈pk k s,dV x=true:=by
 obtain ⟨o,n,a,ss⟩:=s;intro x hx;rw[vD]at hx;split at hx
 ·exact (List.mem_filter.1 hx).2
 ·split at hx
  ·simp only at hx;split at hx
   ·exact (List.mem_filter.1 hx).2
   ·rcases List.mem_append.1 hx with h | h
    ·exact (List.mem_filter.1 (List.mem_filter.1 h).1).2
    ·exact (List.mem_filter.1 h).2
  ·exact oz _ _ x hx
theorem Jh (h:dV x=true):∃r,x=63 :: r:=rP (by
 cases h2:(x.head? == some 63)
 ·simp[dV,h2]at h
 ·rfl)
theorem Er:∀ args W,(callFunc 196 args).run Tryz.prog W=.ok (.enter 196 args) W:=enters_of Tryz.func196 (by kernel_rfl) rfl
theorem L6 (q:PlQ) (ps:List (Str×Str)) (mq:ps.length<=1000000) (r:Str) (hr:r.length<=2000000) (B:Nat) (w:World) (hB:w.heap[B]?=some (.cells q.cells 89 (0,0))) (hv:PairsV w (.slice q.a q.l q.c) ps) :
  Calls Tryz.prog 196 #[.string ⟨(63 :: r).toArray⟩,.pointer (some ⟨B,0,none⟩)] w fun e w'=>e=.returned (.bool (!(ps.map (·.1)).contains r))/\Below w.heap.size w w':=by
 have HC:=ae (Cp q ps mq r w.drew (hv.later ((ak w.heap.size w).drew)));have pp72h:=();exact pm72
mutual
theorem L7 {k:List (Str×Tm)} (hk:∀ x:Str,x.length<=2000000->jw 17 (termOf k x)=true):∀ t,jw 2000000 t=true->∀ x∈j_ k t,x.length<=2000000
 | .mk v n a=>fun h x hx=>by
  simp only[jw,ah,bx]at h;unfold j_ at hx;split at hx
  ·exact aN (lS _ (hk n h.1) x ((dH x _).1 (List.mem_filter.1 hx).1)) (by decide)
  ·exact sA hk a h.2 x hx
theorem sA {k:List (Str×Tm)} (hk:∀ x:Str,x.length<=2000000->jw 17 (termOf k x)=true):∀ l,nmTs 2000000 l=true->∀ x∈dJ k l,x.length<=2000000
 | []=>fun _ x hx=>by simp[dJ]at hx
 | t :: l=>fun h x hx=>by
  simp only[nmTs,ah]at h;simp only[dJ,List.mem_append]at hx;exact hx.elim (L7 hk t h.1 x) (sA hk l h.2 x)
end
theorem L8 {mR:Nat->Prop} {kb mF mT nF nT:Nat} (dS:KnV mR goodF goodT W kb mF mT nF nT k) (s:Fm) (hs:okF true s=true) (qJ:nodesF s<=400):(pk k s).length<=2000000/\∀ x∈pk k s,x.length<=2000000:=by
 have kT:=ia _ hs;obtain ⟨o,n,a,ss⟩:=s;simp only[kJ,ah,bx]at kT;have xJ:nodesTs a<=400:=by simp only[nodesF]at qJ;omega
 have lK:n.length<=2000000:=by have:=kT.2.1;omega
 obtain ⟨q,_,MX,rk,_⟩:=dS.formOf (x:=n) lK;have jz:(dF (bl [] (formOf k.fs n))).length<=400:=by have h1:=e9 (bl [] (formOf k.fs n));have h2:=gC (formOf k.fs n) [];omega
 have rd:∀ x∈dF (bl [] (formOf k.fs n)),x.length<=2000000:=fun x hx=>oe _ [] MX.2 x ((dH x _).1 hx);rw[vD]
 by_cases jW:o=15
 ·rw[aH jW];exact ⟨aN (List.length_filter_le _ _) (by omega),fun x hx=>rd x (List.mem_filter.1 hx).1⟩
 rw[aw jW]
 by_cases fG:o=16
 ·subst fG;rw[aH rfl];obtain ⟨x,y,fL,Hs,Em,aU⟩:=js hs;rw[aU];have Gt:=fA Em;obtain ⟨q2,_,_,htn,htm,_⟩:=dS.termOf (x:=y) (by omega);simp only;split
  ·exact ⟨aN (List.length_filter_le _ _) (by omega),fun x hx=>rd x (List.mem_filter.1 hx).1⟩
  ·refine ⟨?_,fun z hz=>?_⟩
   ·rw[dZ];have h1:=List.length_filter_le (fun z=>z != dc x) ((dF (bl [] (formOf k.fs n))).filter dV);have h2:=List.length_filter_le dV (dF (bl [] (formOf k.fs n)));have h3:=List.length_filter_le dV (dF (aQ (termOf k.ts y)));have h4:=e9 (aQ (termOf k.ts y));have h5:=lQ (termOf k.ts y);omega
   ·rcases List.mem_append.1 hz with h | h
    ·exact rd z (List.mem_filter.1 (List.mem_filter.1 h).1).1
    ·exact aN (lS _ htm z ((dH z _).1 (List.mem_filter.1 h).1)) (by decide)
 ·rw[aw fG];have dG:nmTs 2000000 a=true:=dQ (by omega) a kT.2.2.1;refine ⟨?_,sA (fun x hx=>by obtain ⟨_,_,_,_,h,_⟩:=dS.termOf (x:=x) hx;exact h) a dG⟩;have:=oy (fun x hx=>kn dS (x:=x) hx) a dG;omega
theorem OQ (mR:Nat->Prop) (kb mF mT nF nT:Nat) (k:Bd) (p:Pl) (ps:List (Str×Str)) (TP:p.c=ps.reverse) (mq:ps.length<=1000000) (hs:okF true p.s=true) (qJ:nodesF p.s<=400) (ok:Nat->Prop) (w:World) (dS:KnV mR goodF goodT w kb mF mT nF nT k) (q:PlQ) (hq:FormV ok w q.s.val p.s) (hv:PairsV w (.slice q.a q.l q.c) ps) :
  Calls Tryz.prog 125 #[.pointer (some ⟨kb,0,none⟩),q.val] w fun e w'=>e=.returned (.bool (BZ k p))/\Below w.heap.size w w':=by
 obtain ⟨W1,bX⟩:=am (w.alloc (.cells q.cells 89));have hb1:=cZ bX;have x1:=cb bX;have oc:=L8 dS p.s hs qJ;have wC:=Gz k p.s;have B_:=Jg mR kb mF mT nF nT k p.s hs qJ ok W1 (dS.later hb1) q (hq.later hb1);obtain ⟨l,hl⟩:=am (pk k p.s);obtain ⟨R,hR⟩:=am (BZ k p);have hE:=hR;unfold BZ at hE;rw[<-hl]at hE B_ oc wC;rw[<-hR];have HX:=aG hb1 x1;have hop:∀ W,Below W1.heap.size W1 W->PredS (fun x=>!(ps.map (·.1)).contains x.tail) 196 #[.pointer (some ⟨w.heap.size,0,none⟩)] l (Below W.heap.size W):=fun W hW x V hx hV=>by
  obtain ⟨r,rfl⟩:=Jh (wC x hx);have hr:=oc.2 _ hx;exact L6 q ps mq r (by simp at hr;omega) w.heap.size V (bR ((hW.tr hV)) x1) (hv.later (hb1.tr (hW.tr hV)))
 have pN:R=l.any (fun x=>!(ps.map (·.1)).contains x.tail):=by
  rw[hE];congr 1
  funext x
  rw[TP];congr 1;rw[gy];simp only[List.contains_iff_mem,List.mem_map,List.mem_reverse]
 have lN:=ae (fun (W:World) (v:Value) (hW:Below W1.heap.size W1 W) (hvv:OwnS W1.heap.size W v l)=>Bs _ l oc.1 196 #[.pointer (some ⟨w.heap.size,0,none⟩)] Er _ W v (hop W hW) hvv.strs);rw[<-pN]at lN;obtain ⟨B_,iR⟩:=a_ B_ bX;have pp72i:=();exact pm72
end
/-! what each place of a match says -/
/-! arguments -/
/-! images without bound names -/
theorem qO {a:List Tm} {s:List Fm} (h:okF sc (.mk o n a s)=true) (hq:bU o=true):je n=true/\a=[]/\∃g,s=[g]:=by
 have h1:=h;simp only[okF,ah]at h;have:=xK _ h1;obtain ⟨e1,e2⟩:=nZ hq this;have h5:=h.2.1.1;have:(rowOp o).2.2.1=2:=by
  simp only[bU,Bool.or_eq_true,f9]at hq;rcases hq with rfl | rfl <;> decide
 rw[this]at h5;exact ⟨h5,e1,e2⟩
/-! sizes without bound names -/
def Dt.atom:Dt->Prop | .app _ _=>False | _=>True
def Atom (σ:Str->Dt):Prop:=∀ z,(σ z).atom
theorem GA (l:List Str):Atom (env l):=by
 intro z
 induction l with
 | nil=>trivial
 | cons n r ih=>unfold env;split;trivial;exact ih
theorem Atom.upd {σ:Str->Dt} (h:Atom σ) (n:Str) (d:Nat):Atom (upd σ n (.lvl d)):=fun z=>by unfold Go.Proofs.YtokemihbkeddoaaGreatDoor.upd;split;trivial;exact h z
mutual
def tQ:Dt->Nat | .app _ a=>wG a+1 | _=>1
def wG:List Dt->Nat | []=>0 | t :: l=>tQ t+wG l
end
mutual
def Ji:Df->Nat | .mk _ _ a s=>wG a+zB s+1
def zB:List Df->Nat | []=>0 | t :: l=>Ji t+zB l
end
mutual
def RJ:Dt->Nat | .app _ a=>CY a+1 | _=>1
def CY:List Dt->Nat | []=>0 | t :: l=>max (RJ t) (CY l)
end
mutual
def RK:Df->Nat | .mk _ _ a s=>max (CY a) (GC s)+1
def GC:List Df->Nat | []=>0 | t :: l=>max (RK t) (GC l)
end
theorem OR {t:Dt} (h:t.atom):tQ t=1/\RJ t=1:=by cases t <;> first | exact ⟨rfl,rfl⟩ | exact h.elim
mutual
theorem GD {σ:Str->Dt} (hσ:Atom σ):∀ t,qC t=true->tQ (uA σ t)=nodesT t/\RJ (uA σ t)=dj t
 | .mk v n a,h=>by
  simp only[qC,ah]at h
  cases v with
  | true=>
   obtain rfl:a=[]:=by simpa using h.1
   simpa[uA,nodesT,nodesTs,dj,bH] using OR (hσ n)
  | false=>simp[uA,tQ,RJ,nodesT,dj,vE hσ a h.2]
theorem vE {σ:Str->Dt} (hσ:Atom σ):∀ t,gL t=true->wG (nX σ t)=nodesTs t/\CY (nX σ t)=bH t
 | [],_=>by simp[nX,wG,CY,nodesTs,bH]
 | t :: l,h=>by simp only[gL,ah]at h;simp[nX,wG,CY,nodesTs,bH,GD hσ t h.1,vE hσ l h.2]
end
mutual
theorem GE:∀ (f:Fm) (σ:Str->Dt) (d:Nat),Atom σ->mr f=true->Ji (dbF σ d f)=nodesF f/\RK (dbF σ d f)=depthF f
 | .mk o n a s,σ,d,hσ,h=>by
  simp only[mr,ah]at h;have h1:=vE hσ a h.1;simp only[dbF];split
  ·have h2:=vF s (upd σ n (.lvl d)) (d+1) (hσ.upd n d) h.2;simp[Ji,RK,nodesF,depthF,h1,h2]
  ·have h2:=vF s σ d hσ h.2;simp[Ji,RK,nodesF,depthF,h1,h2]
theorem vF:∀ (f:List Fm) (σ:Str->Dt) (d:Nat),Atom σ->iq f=true->zB (pJ σ d f)=nodesFs f/\GC (pJ σ d f)=aY f
 | [],σ,d,_,_=>by simp[pJ,zB,GC,nodesFs,aY]
 | t :: l,σ,d,hσ,h=>by simp only[iq,ah]at h;simp[pJ,zB,GC,nodesFs,aY,GE t σ d hσ h.1,vF l σ d hσ h.2]
end
/-! what is put keeps formulas well -/
theorem tR (hu:qC u=true):∀ (k:Nat) (f:Fm) (x:Str),mr f=true->qone f=true->depthF f<=k->mr (eQ k x u f)=true/\qone (eQ k x u f)=true
 | 0,f,x,hw,hq,hd=>by have:=lB f;omega
 | k+1,.mk o n a s,x,hw,hq1,hd=>by
  have mn:=hw;exact pm132
mutual
theorem zC:∀ f,qone (bB f)=qone f
 | .mk o n a s=>by
  have h1:(bS a).isEmpty=a.isEmpty:=by cases a <;> simp[bS]
  have h2:(bT s).length=s.length:=zD s;simp[bB,qone,wH s,h1,h2]
theorem wH:∀ f,eO (bT f)=eO f
 | []=>by simp[bT]
 | t :: l=>by simp[bT,eO,zC t,wH l]
theorem zD:∀ s,(bT s).length=s.length
 | []=>by simp[bT]
 | t :: l=>by simp[bT,zD l]
end
theorem pT {l:List (Str×Fm)} (h:UY l=true) (hg:getB l n=some g):dv (bB g)=true/\dx n=true:=by
 simp only[UY,ah,List.all_eq_true]at h;exact pm112
theorem GF {l:List (Str×Tm)} (h:Il l=true) {g:Tm} (hg:getB l n=some g):jZ false (aM g)=true/\cP n=true:=by
 simp only[Il,ah,List.all_eq_true]at h;exact pm112
theorem CZ (h:dv (bB g)=true):mr g=true/\qone g=true/\nodesF g<=400/\depthF g<=40:=by
 simp only[dv,ah,bx]at h;have h1:=Iq _ h.1;have h2:=xK _ h.1;rw[Cg]at h1;rw[zC]at h2;have h3:=kE g;exact ⟨h1,h2,by omega,by omega⟩
theorem vG {g:Tm} (h:jZ false (aM g)=true):qC g=true:=by
 have h1:=Ip _ h
 rwa [Cf]at h1
/-! every free name of a part that has an image has one -/
theorem Es {z s:Str} (hz:je z=true):z≠dc s:=by
 rintro rfl;simp only[je,dc,rn,ah]at hz;exact absurd hz.2.2.1.1 (by decide)
/-! bound names are variables -/
mutual
def QM:Fm->Bool | .mk o n _ s=>(!bU o || je n) && Bw s
def Bw:List Fm->Bool | []=>true | t :: l=>QM t && Bw l
end
mutual
theorem GG:∀ f,QM (bB f)=QM f
 | .mk o n a s=>by simp[bB,QM,C0 s]
theorem C0:∀ f,Bw (bT f)=Bw f
 | []=>by simp[bT]
 | t :: l=>by simp[bT,Bw,GG t,C0 l]
end
mutual
theorem TR:∀ f,okF sc f=true->QM f=true
 | .mk o n a s,h=>by
  have h':=h;simp only[okF,ah]at h;simp only[QM,ah,Bool.or_eq_true,Bool.not_eq_true'];refine ⟨?_,OS s h.2.2.2.2⟩;cases hq:bU o
  ·exact .inl rfl
  ·exact .inr (qO h' hq).1
theorem OS:∀ f,dD sc f=true->Bw f=true
 | [],_=>by simp[Bw]
 | t :: l,h=>by simp only[dD,ah]at h;simp[Bw,TR t h.1,OS l h.2]
end
theorem RL (h:dv (bB g)=true):QM g=true:=by
 simp only[dv,ah]at h;have:=TR _ h.1
 rwa [GG]at this
/-! occurrences -/
theorem Et (s:Str):je (dc s)=false:=by
 cases h:je (dc s)
 ·rfl
 ·exact absurd rfl (Es (s:=s) h)
/-! the placeholders of an image are those of its scope -/
/-! sizes -/
mutual
theorem Jj {k:List (Str×Tm)} {c:List Str}:∀ t,jZ true t=true->pt k t=nodesT (cQ k c t)
 | .mk v n a,hok=>by
  unfold pt cQ
  by_cases hm:(v && dC n)=true
  ·rw[aH hm,aH hm]
  ·rw[aw hm,aw hm]
   cases v with
   | true=>
    simp only[jZ,↓reduceIte,ah]at hok;obtain rfl:a=[]:=by simpa using hok.1
    split <;> simp[ap,nodesT,nodesTs,eb,fk]
   | false=>
    simp only[jZ,dE,↓reduceIte,ah]at hok;simp only[Bool.false_and,dE,↓reduceIte,nodesT,pU (c:=c) a hok.2.2]
theorem pU {k:List (Str×Tm)} {c:List Str}:∀ t,eu true t=true->eb k t=nodesTs (fk k c t)
 | [],_=>by simp[eb,fk,nodesTs]
 | t :: l,hok=>by
  simp only[eu,ah]at hok;simp[eb,fk,nodesTs,Jj (c:=c) t hok.1,pU (c:=c) l hok.2]
end
/-! atoms turned -/
/-! the free names of a formula, as atoms -/
/-! the image's name, from what is not a name -/
/-! when there is an image -/
structure Twin (c c':Sco) (f f':Fm):Prop where
 n:c.map (·.1)=c'.map (·.1)
 d:dbF (env (c.map (·.2))) c.length f=dbF (env (c'.map (·.2))) c'.length f'
theorem Twin.len {c c':Sco} {f':Fm} (h:Twin c c' f f'):c.length=c'.length:=by have:=congrArg List.length h.n;simpa using this
/-! where the first placeholder is, without bound names -/
def Only (x:Str) (ρ:Str->Dt):Prop:=∀ z,ρ z=.fre x ↔ z=x
theorem Only.upd {ρ:Str->Dt} (h:Only x ρ) (hn:n≠x) (d:Nat):Only x (upd ρ n (.lvl d)):=fun z=>by
 unfold Go.Proofs.YtokemihbkeddoaaGreatDoor.upd
 by_cases e:z=n
 ·subst e;simp[hn]
 ·have:(z == n)=false:=by simpa using e
  simp only[this,dE,↓reduceIte];exact h z
def Df.s:Df->List Df | .mk _ _ _ s=>s
def Df.a:Df->List Dt | .mk _ _ a _=>a
/-! how often a placeholder stands -/
mutual
theorem Jk (x:Str):∀ t,Dw x t=(aQ t).count x
 | .mk v n a=>by
  have ih:=pV x a
  cases v with
  | true=>simp only[Dw,dU,aQ,↓reduceIte,List.count_cons,ih];omega
  | false=>simp[Dw,aQ,ih]
theorem pV (x:Str):∀ t,fE x t=(aC t).count x
 | []=>by simp[fE,aC]
 | t :: l=>by simp[fE,aC,List.count_append,Jk x t,pV x l]
end
mutual
theorem zE (hx:je x=false):∀ f,QM f=true->gY x f=(bl [] f).count x
 | .mk o n a s,hb=>by
  simp only[QM,ah]at hb;have ih:=wI hx s hb.2;have e:(aC a).filter (fun x=>!([]:List Str).contains x)=aC a:=List.filter_eq_self.2 (fun x _=>by simp);simp only[gY,bl,e,List.count_append,pV,ih]
  by_cases hq:bU o=true
  ·rw[aH hq,nY];have hn:je n=true:=by have:=hb.1;rw[hq]at this;simpa using this
   have:(x == n)=false:=by
    rw[Bool.eq_false_iff];intro h;rw[f9]at h;rw[h,hn]at hx;cases hx
   rw[List.count_filter (by simp[this])]
  ·rw[aw hq]
theorem wI (hx:je x=false):∀ f,Bw f=true->jB x f=(bP [] f).count x
 | [],_=>by simp[jB,bP]
 | t :: l,hb=>by
  simp only[Bw,ah]at hb;simp[jB,bP,List.count_append,zE hx t hb.1,wI hx l hb.2]
end
def FRel:List (Str×Fm)->List (Str×Fm)->Prop
 | [],[]=>True
 | (n,g) :: l,(n',g') :: l'=>n=n'/\db g=db g'/\FRel l l'
 | _,_=>False
theorem FRel.refl:∀ l,FRel l l
 | []=>trivial
 | (_,_) :: l=>⟨rfl,rfl,FRel.refl l⟩
theorem FRel.get:∀ {l l':List (Str×Fm)},FRel l l'->∀ n,(getB l n=none/\getB l' n=none)\/∃g g',getB l n=some g/\getB l' n=some g'/\db g=db g'
 | [],[],_,n=>.inl ⟨rfl,rfl⟩
 | [],_ :: _,h,_=>h.elim
 | _ :: _,[],h,_=>h.elim
 | (m,g) :: l,(m',g') :: l',h,n=>by
  obtain ⟨rfl,h2,h3⟩:=h;unfold getB;split
  ·exact .inr ⟨g,g',rfl,rfl,h2⟩
  ·exact FRel.get h3 n
theorem FRel.add {v v':Fm} (hv:db v=db v'):∀ {l l':List (Str×Fm)},FRel l l'->FRel (fj x v l) (fj x v' l')
 | [],[],_=>⟨rfl,hv,trivial⟩
 | [],_ :: _,h=>h.elim
 | _ :: _,[],h=>h.elim
 | (m,g) :: l,(m',g') :: l',h=>by
  obtain ⟨rfl,h2,h3⟩:=h;unfold fj;split
  ·exact ⟨rfl,hv,rfl,h2,h3⟩
  ·exact ⟨rfl,h2,FRel.add hv h3⟩
/-! filling, then matching -/
/-! arguments match what is filled in for them -/
/-! the size where a term is put -/
theorem KK (σ:Str->Dt) (n:Str) (d:Nat):∀ l:List Str,(l.map fun z=>tQ (upd σ n (.lvl d) z)).sum+(l.filter fun x=>!(x == n)).length=((l.filter fun x=>!(x == n)).map fun z=>tQ (σ z)).sum+l.length
 | []=>rfl
 | x :: l=>by
  have ih:=KK σ n d l;rw[cK,List.sum_cons,List.filter_cons]
  by_cases h:(x == n)=true
  ·have e1:upd σ n (.lvl d) x=.lvl d:=by unfold upd;rw[aH h]
   rw[e1,h];simp only[Bool.not_true,dE,↓reduceIte,tQ,fN];omega
  ·have e1:upd σ n (.lvl d) x=σ x:=by unfold upd;rw[aw h]
   have h':(x == n)=false:=by simpa using h
   rw[e1,h'];simp only[Bool.not_false,if_true,cK,List.sum_cons,fN];omega
mutual
theorem RM (σ:Str->Dt):∀ t,qC t=true->tQ (uA σ t)+(aQ t).length=nodesT t+((aQ t).map fun z=>tQ (σ z)).sum
 | .mk v n a,h=>by
  simp only[qC,ah]at h
  cases v with
  | true=>
   obtain rfl:a=[]:=by simpa using h.1
   simp only[uA,↓reduceIte,aQ,aC,nodesT,nodesTs,fN,List.length_nil,cK,List.map_nil,List.sum_cons,List.sum_nil];omega
  | false=>
   have:=zF σ a h.2;simp only[uA,dE,↓reduceIte,tQ,aQ,nodesT];omega
theorem zF (σ:Str->Dt):∀ t,gL t=true->wG (nX σ t)+(aC t).length=nodesTs t+((aC t).map fun z=>tQ (σ z)).sum
 | [],_=>rfl
 | t :: l,h=>by
  simp only[gL,ah]at h;have h1:=RM σ t h.1;have h2:=zF σ l h.2;simp only[nX,wG,aC,nodesTs,dZ,List.map_append,List.sum_append];omega
end
mutual
theorem KL:∀ (f:Fm) (σ:Str->Dt) (d:Nat),mr f=true->Ji (dbF σ d f)+(bl [] f).length=nodesF f+((bl [] f).map fun z=>tQ (σ z)).sum
 | .mk o n a s,σ,d,h=>by
  simp only[mr,ah]at h;have e:(aC a).filter (fun x=>!([]:List Str).contains x)=aC a:=List.filter_eq_self.2 (fun x _=>by simp);have h1:=zF σ a h.1;simp only[dbF,bl,e,nodesF,dZ,List.map_append,List.sum_append]
  by_cases hq:bU o=true
  ·rw[aH hq,aH hq,nY];have h2:=zG s (upd σ n (.lvl d)) (d+1) h.2;have h3:=KK σ n d (bP [] s);simp only[Ji];omega
  ·rw[aw hq,aw hq];have h2:=zG s σ d h.2;simp only[Ji];omega
theorem zG:∀ (f:List Fm) (σ:Str->Dt) (d:Nat),iq f=true->zB (pJ σ d f)+(bP [] f).length=nodesFs f+((bP [] f).map fun z=>tQ (σ z)).sum
 | [],_,_,_=>rfl
 | t :: l,σ,d,h=>by
  simp only[iq,ah]at h;have h1:=KL t σ d h.1;have h2:=zG l σ d h.2;simp only[pJ,zB,bP,nodesFs,dZ,List.map_append,List.sum_append];omega
end
theorem KM (x:Str) (N:Nat) (hN:1<=N):∀ l:List Str,(l.map fun z=>if z == x then N else 1).sum=l.length+l.count x * (N - 1)
 | []=>by simp
 | y :: l=>by
  have ih:=KM x N hN l;rw[cK,List.sum_cons,List.count_cons,fN,ih,Nat.add_mul]
  by_cases h:(y == x)=true
  ·rw[aH h,aH h];omega
  ·rw[aw h,aw h];omega
theorem L9 (t:Tm):1<=nodesT t:=by obtain ⟨_,_,_⟩:=t;simp[nodesT]
theorem L_ (hx:je x=false) (hf:mr f=true) (hq:qone f=true) (hb:QM f=true) (hu:qC u=true) (hn:nodesF f+nodesT u<10 ^ 19):nodesF (iI x u f)=nodesF f+gY x f * (nodesT u - 1):=by
 have hw:=(tR hu (depthF f) f x hf hq (aI _)).1;have h1:=GE (iI x u f) (env []) 0 (GA []) hw;unfold iI at h1;rw[te (depthF f) f x u _ _ hf hq (aI _) hn]at h1;have h2:=KL f (upd (env []) x (uA (env []) u)) 0 hf;have e:(fun z=>tQ (upd (env []) x (uA (env []) u) z))=fun z=>if z == x then nodesT u else 1:=by
  funext z
  unfold upd;split
  ·exact (GD (GA []) u hu).1
  ·rfl
 rw[e,KM x (nodesT u) (L9 u),h1.1]at h2;rw[zE hx f hb];unfold iI;omega
/-! all that is needed is known -/
mutual
def iM (k:Bd):Fm->Bool | .mk o n a s=>!iJ k (.mk o n a s) && jO k s
def jO (k:Bd):List Fm->Bool | []=>true | t :: l=>iM k t && jO k l
end
mutual
theorem GH:∀ (s:Fm) (c:Sco),(bA c s s).any (fun p=>iJ k p.s)=false->iM k s=true
 | .mk o n a s,c,h=>by
  simp only[bA,List.any_cons,Bool.or_eq_false_iff]at h;simp only[iM,h.1,Bool.not_false,dU];exact C4 s _ h.2
theorem C4:∀ (s:List Fm) (c:Sco),(aT c s s).any (fun p=>iJ k p.s)=false->jO k s=true
 | [],_,_=>rfl
 | t :: l,c,h=>by
  simp only[aT,List.any_append,Bool.or_eq_false_iff]at h;simp only[jO,GH t c h.1,C4 l c h.2,Bool.and_self]
end
theorem C5 {a:List Tm} {s:List Fm} (h:okF true (.mk 16 n a s)=true):s=[]/\∃x y:Str,a=[ap x,ap y]/\je x=true/\cP y=true:=by
 have h':=h;simp only[okF,ah]at h;obtain ⟨x,y,h1,h2,h3,_⟩:=lP (p:=⟨.mk 16 n a s,.mk 2 [] [] [],[]⟩) ⟨h',(by show okF false (.mk 2 [] [] [])=true;decide),(by intro x hx;cases hx),(by show nodesF (.mk 2 [] [] [])<=400;decide),(by show depthF (.mk 2 [] [] [])<=40;decide)⟩ rfl;exact ⟨List.length_eq_zero_iff.1 (f9.1 h.2.1.2.2),x,y,h1,h2,h3⟩
def GI (k:Bd) (n x y:Str):Fm:=if gY (dc x) (formOf k.fs n)=0 then formOf k.fs n else iI (dc x) (termOf k.ts y) (formOf k.fs n)
theorem vH {s:List Fm}:cM k c (.mk 16 n [ap x,ap y] s)=GI k n x y:=by
 simp only[cM,ap,Tm.n];rw[aw (by decide)];simp only[if_true];rfl
theorem RN (k:Bd) (n:Str) (a:List Tm) (s:List Fm):iJ k (.mk 15 n a s)=(getB k.fs n).isNone:=by
 cases e:getB k.fs n <;> simp[iJ,Fm.op,Fm.n,e]
theorem RO (k:Bd) (n:Str) (a:List Tm) (s:List Fm) (h:getB k.fs n=some g):iJ k (.mk 16 n a s)=((getB k.ts (aX (.mk 16 n a s)).2).isNone && decide (gY (aX (.mk 16 n a s)).1 g > 0)):=by
 simp[iJ,Fm.op,Fm.n,h]
theorem OT (k:Bd) (n:Str) (a:List Tm) (s:List Fm) (h:getB k.fs n=none):iJ k (.mk 16 n a s)=true:=by
 simp[iJ,Fm.op,Fm.n,h]
theorem zH {a:List Tm} {s:List Fm} (h:iM k (.mk 15 n a s)=true):∃g,getB k.fs n=some g:=by
 simp only[iM,ah,Bool.not_eq_true',RN]at h
 cases e:getB k.fs n with
 | none=>rw[e]at h;cases h.1
 | some g=>exact ⟨g,rfl⟩
theorem zI {s:List Fm} (h:iM k (.mk 16 n [ap x,ap y] s)=true):∃g,getB k.fs n=some g/\(gY (dc x) g=0\/∃t,getB k.ts y=some t):=by
 simp only[iM,ah,Bool.not_eq_true']at h;have h1:=h.1
 cases e:getB k.fs n with
 | none=>rw[OT k n _ s e]at h1;cases h1
 | some g=>
  rw[RO k n _ s e]at h1;refine ⟨g,rfl,?_⟩;have hn:aX (.mk 16 n [ap x,ap y] s)=(dc x,y):=rfl;rw[hn]at h1
  cases ht:getB k.ts y with
  | none=>
   rw[ht]at h1;simp only[Option.isNone_none,dU,decide_eq_false_iff_not]at h1;exact .inl (by omega)
  | some t=>exact .inr ⟨t,rfl⟩
theorem Jl (hk:bL k=true) {s:List Fm} (h:iM k (.mk 16 n [ap x,ap y] s)=true):mr (GI k n x y)=true/\qone (GI k n x y)=true:=by
 obtain ⟨k1,k2⟩:=(ip k).1 hk;obtain ⟨g,hg,h2⟩:=zI h;have ot:=pT k1 hg;obtain ⟨w1,w2,_⟩:=CZ ot.1;have e:formOf k.fs n=g:=by unfold formOf;rw[hg]
 unfold GI;rw[e];split
 ·exact ⟨w1,w2⟩
 ·rename_i h0;obtain ⟨t,ht⟩:=h2.resolve_left h0;have e2:termOf k.ts y=t:=by unfold termOf;rw[ht]
  rw[e2];exact tR (vG (GF k2 ht).1) (depthF g) g (dc x) w1 w2 (aI _)
mutual
theorem OU {k:List (Str×Tm)} (hk:Il k=true) {c:List Str}:∀ t,jZ true t=true->jf k t=false->qC (cQ k c t)=true
 | .mk v n a,hok,h=>by
  unfold jf at h;unfold cQ
  by_cases hm:(v && dC n)=true
  ·rw[aH hm]at h ⊢
   cases e:getB k n with
   | none=>rw[e]at h;cases h
   | some u=>
    have e2:termOf k n=u:=by unfold termOf;rw[e]
    rw[e2];exact vG (GF hk e).1
  ·rw[aw hm]at h ⊢;split
   ·exact Ko _
   ·cases v with
    | true=>
     simp only[jZ,↓reduceIte,ah]at hok;obtain rfl:a=[]:=by simpa using hok.1
     simp[qC,fk,gL]
    | false=>
     simp only[jZ,dE,↓reduceIte,ah]at hok;simp[qC,vI hk (c:=c) a hok.2.2 h]
theorem vI {k:List (Str×Tm)} (hk:Il k=true) {c:List Str}:∀ t,eu true t=true->mu k t=false->gL (fk k c t)=true
 | [],_,_=>by simp[fk,gL]
 | t :: l,hok,h=>by
  simp only[eu,ah]at hok;simp only[mu,Bool.or_eq_false_iff]at h;simp[fk,gL,OU hk (c:=c) t hok.1 h.1,vI hk (c:=c) l hok.2 h.2]
end
theorem oA {a:List Tm} {s:List Fm} (jW:o≠15) (fG:o≠16) (h:iM k (.mk o n a s)=true):mu k.ts a=false/\jO k s=true:=by
 simp only[iM,ah,Bool.not_eq_true',iJ,Fm.op,Fm.a]at h;rw[aH (by simp[jW,fG])]at h;exact h
mutual
theorem RP (hk:bL k=true):∀ (s:Fm) (c:List Str),okF true s=true->iM k s=true->mr (cM k c s)=true/\qone (cM k c s)=true
 | .mk o n a s,c,hok,h=>by
  obtain ⟨k1,k2⟩:=(ip k).1 hk
  by_cases jW:o=15
  ·subst jW;obtain ⟨g,hg⟩:=zH h;have e:cM k c (.mk 15 n a s)=g:=by
    simp only[cM,if_true];unfold formOf;rw[hg]
   rw[e];have:=CZ (pT k1 hg).1;exact ⟨this.1,this.2.1⟩
  ·by_cases fG:o=16
   ·subst fG;obtain ⟨rfl,x,y,rfl,_,_⟩:=C5 hok;rw[vH];exact Jl hk h
   ·obtain ⟨h1,h2⟩:=oA jW fG h;have V6:=hok;simp only[okF,ah]at hok
    by_cases hq:bU o=true
    ·obtain ⟨_,rfl,g,rfl⟩:=qO V6 hq;obtain ⟨i1,i2⟩:=pW hk [g] (n :: c) hok.2.2.2.2 h2;simp only[fp,iq,eO,Bool.and_true]at i1 i2;have pp291:=();exact pm291
    ·obtain ⟨i1,i2⟩:=pW hk s c hok.2.2.2.2 h2;have e:cM k c (.mk o n a s)=.mk o n (fk k.ts c a) (fp k c s):=by
      simp only[cM,aw jW,aw fG,aw hq]
     have mM:bU o=false:=by simpa using hq
     rw[e];exact ⟨by simp[mr,i1,vI k2 (c:=c) a hok.2.2.2.1 h1],by simp[qone,mM,i2]⟩
theorem pW (hk:bL k=true):∀ (s:List Fm) (c:List Str),dD true s=true->jO k s=true->iq (fp k c s)=true/\eO (fp k c s)=true
 | [],_,_,_=>by simp[fp,iq,eO]
 | t :: l,c,hok,h=>by
  simp only[dD,jO,ah]at hok h;simp[fp,iq,eO,RP hk t c hok.1 h.1,pW hk l c hok.2 h.2]
end
/-! with less known -/
theorem Eu {α:Type}:∀ {l:List (Str×α)} {z:Str} {v:α},getB l z=some v->(z,v)∈l
 | [],_,_,h=>by simp[getB]at h
 | (y,u) :: r,z,v,h=>by
  unfold getB at h;split at h
  ·rename_i e;obtain rfl:=Option.some.inj h;obtain rfl:=f9.1 e;exact fD
  ·exact eV _ (Eu h)
mutual
def tS (k:Bd):Fm->Nat | .mk o n a s=>kX k (.mk o n a s)+pX k s
def pX (k:Bd):List Fm->Nat | []=>0 | t :: l=>tS k t+pX k l
end
mutual
theorem C6 (k:Bd):∀ (s:Fm) (c:Sco),((bA c s s).map fun p=>kX k p.s).sum=tS k s
 | .mk o n a s,c=>by simp only[bA,cK,List.sum_cons,tS,zJ k s]
theorem zJ (k:Bd):∀ (s:List Fm) (c:Sco),((aT c s s).map fun p=>kX k p.s).sum=pX k s
 | [],_=>by simp[aT,pX]
 | t :: l,c=>by simp only[aT,List.map_append,List.sum_append,pX,C6 k t,zJ k l]
end
theorem GJ (hk:bL k=true) (fX:∀ x∈k.ts,nodesT x.2<=1000) (n:Str):goodT (termOf k.ts n)\/termOf k.ts n=.mk false [] []:=by
 unfold termOf
 cases e:getB k.ts n with
 | none=>exact .inr rfl
 | some t=>exact .inl (xO hk fX _ (Eu e)).1
theorem Ma (hk:bL k=true) (fX:∀ x∈k.ts,nodesT x.2<=1000) (n:Str):jw 17 (termOf k.ts n)=true:=by
 rcases GJ hk fX n with h | h
 ·exact h.nm
 ·rw[h];rfl
mutual
theorem OV {k:List (Str×Tm)} (hk:∀ n,jw 17 (termOf k n)=true):∀ t,jw 16 t=true->jw 17 (cQ k c t)=true
 | .mk v n a,h=>by
  simp only[jw,ah,bx]at h;unfold cQ;split
  ·exact hk n
  ·split
   ·simp[ap,jw,nmTs,dc];exact h.1
   ·simp only[jw,ah,bx];exact ⟨by omega,vJ hk a h.2⟩
theorem vJ {k:List (Str×Tm)} (hk:∀ n,jw 17 (termOf k n)=true):∀ l,nmTs 16 l=true->nmTs 17 (fk k c l)=true
 | [],_=>rfl
 | t :: l,h=>by
  simp only[nmTs,ah]at h;simp[fk,nmTs,OV hk t h.1,vJ hk l h.2]
end
theorem zK {p:Nat} {a:List Tm} {s:List Fm} (h:kJ p (.mk o n a s)=true):(0<=o/\o<=255)/\n.length<=p/\nmTs p a=true/\nmFs p s=true:=by
 simpa only[kJ,ah,bx] using h
theorem Jm {r:Fm} (hn:n.length<=16) (hr:nodesF r<=100000):(if (bl [] r).contains n then dL (bl [] r) else n).length<=2000000:=by
 split
 ·exact n_ (by have:=gC r [];omega)
 ·omega
mutual
theorem zL {k:Bd} (hk:bL k=true) (fX:∀ x∈k.ts,nodesT x.2<=1000):∀ (s:Fm) (c:List Str),okF true s=true->iM k s=true->tS k s<=1000->nodesF (cM k c s)<=tS k s/\kJ 2000000 (cM k c s)=true
 | .mk o n a s,c,hok,h,hsz=>by
  obtain ⟨k1,k2⟩:=(ip k).1 hk;have dG:=zK (ia _ hok)
  by_cases jW:o=15
  ·subst jW;obtain ⟨g,hg⟩:=zH h;have e2:formOf k.fs n=g:=by unfold formOf;rw[hg]
   have e:cM k c (.mk 15 n a s)=g:=by simp only[cM,if_true];exact e2
   have uC:goodF g:=(pT k1 hg).1;rw[e];refine ⟨?_,uC.fit.2⟩;have:kX k (.mk 15 n a s)=nodesF g:=by simp only[kX,Fm.op,Fm.n,if_true,e2]
   unfold tS;omega
  ·by_cases fG:o=16
   ·subst fG;obtain ⟨rfl,x,y,rfl,hx,_⟩:=C5 hok;rw[vH];obtain ⟨g,hg,h2⟩:=zI h;have e2:formOf k.fs n=g:=by unfold formOf;rw[hg]
    have uC:goodF g:=(pT k1 hg).1;have hz:kX k (.mk 16 n [ap x,ap y] [])=nodesF g+gY (dc x) g * (nodesT (termOf k.ts y) - 1):=by
     simp only[kX,Fm.op,Fm.n,e2];rw[aw (by decide)];rfl
    unfold tS;rw[hz];unfold GI;rw[e2];split
    ·exact ⟨by omega,uC.fit.2⟩
    ·rename_i h0;obtain ⟨t,ht⟩:=h2.resolve_left h0;have e3:termOf k.ts y=t:=by unfold termOf;rw[ht]
     have htg:=(xO hk fX _ (Eu ht)).1;rw[e3];have hn:=uC.nodes;have ku:nodesT t<=1000:=htg.2;refine ⟨?_,(tL uC htg).2⟩;have hlt:nodesF g+nodesT t<10 ^ 19:=by omega
     rw[L_ (Et x) uC.wf uC.qone (RL (pT k1 hg).1) (vG htg.1) hlt];exact Nat.le_add_right _ _
   ·obtain ⟨h1,h2⟩:=oA jW fG h;have V6:=hok;simp only[okF,ah]at hok;have hz:kX k (.mk o n a s)=eb k.ts a+1:=by unfold kX;rw[aw (show ¬(Fm.mk o n a s).op=15 from jW),aw (show ¬(Fm.mk o n a s).op=16 from fG)];rfl
    unfold tS at hsz ⊢;rw[hz]at hsz ⊢
    by_cases hq:bU o=true
    ·obtain ⟨_,rfl,g,rfl⟩:=qO V6 hq;have ih:=mD hk fX [g] (n :: c) hok.2.2.2.2 h2 (by omega);have iw:=pW hk [g] (n :: c) hok.2.2.2.2 h2;simp only[fp,nodesFs,nmFs,Bool.and_true,iq,eO]at ih iw;exact pm291
    ·have ih:=mD hk fX s c hok.2.2.2.2 h2 (by omega);have e:cM k c (.mk o n a s)=.mk o n (fk k.ts c a) (fp k c s):=by
      simp only[cM,aw jW,aw fG,aw hq]
     rw[e];have ha:=pU (k:=k.ts) (c:=c) a hok.2.2.2.1;refine ⟨?_,?_⟩
     ·simp only[nodesF];omega
     ·simp only[kJ,ah,bx];exact ⟨dG.1,by have:=dG.2.1;omega,dQ (by omega) _ (vJ (Ma hk fX) a dG.2.2.1),ih.2⟩
theorem mD {k:Bd} (hk:bL k=true) (fX:∀ x∈k.ts,nodesT x.2<=1000):∀ (s:List Fm) (c:List Str),dD true s=true->jO k s=true->pX k s<=1000->nodesFs (fp k c s)<=pX k s/\nmFs 2000000 (fp k c s)=true
 | [],_,_,_,_=>by simp[fp,nodesFs,nmFs]
 | t :: l,c,hok,h,hsz=>by
  simp only[dD,jO,ah]at hok h;simp only[pX]at hsz ⊢;have i1:=zL hk fX t c hok.1 h.1 (by omega);have i2:=mD hk fX l c hok.2 h.2 (by omega);simp only[fp,nodesFs,nmFs,i1.2,i2.2,Bool.and_self,and_true];omega
end
