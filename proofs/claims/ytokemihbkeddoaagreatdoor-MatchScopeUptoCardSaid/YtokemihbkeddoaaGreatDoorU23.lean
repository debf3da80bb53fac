/-
slices.IndexFunc,ContainsFunc and DeleteFunc at rows of strings,the function a closure that may make memory.
Contract of 'holes' of package match.
'termHoles' of package match: the placeholders that filling a term brings.
'holes' of 'known' of package match: the placeholders that filling a place brings. (Printed by gen_mholes.py.)
-/
import Derived.Test.YtokemihbkeddoaaGreatDoorU00
import Derived.Test.YtokemihbkeddoaaGreatDoorU22
import Derived.Lib.SliceRun
namespace Go.Proofs.YtokemihbkeddoaaGreatDoor
open Go Go.RowKit Lib
set_option maxRecDepth 100000
set_option maxHeartbeats 64000000
section
attribute [local go_sem] Oper.semAt_some
def PredS (pr:Str->Bool) (g:Nat) (lb:Array Value) (l:List Str) (C:World->Prop):Prop:=∀ x W,x∈l->C W->Calls Tryz.prog g (#[.string ⟨x.toArray⟩] ++ lb) W fun e w'=>e=.returned (.bool (pr x))/\Below W.heap.size W w'
theorem PredS.mono {pr:Str->Bool} {g:Nat} {lb:Array Value} {l:List Str} {C C':World->Prop} (h:PredS pr g lb l C) (hC:∀ W,C' W->C W):PredS pr g lb l C':=fun x W hx hW=>h x W hx (hC W hW)
theorem TI {pr:Str->Bool} {l:List Str} {k:Nat} (hk:k<l.length) (fP:∀ t∈l.take k,pr t=false) (hq:pr l[k]=false):∀ t∈l.take (k+1),pr t=false:=by
 intro t hm
 rw[List.take_add_one,List.getElem?_eq_getElem hk]at hm
 rcases List.mem_append.1 hm with h | h
 ·exact fP t h
 ·obtain rfl:t=l[k]:=by simpa using h
  exact hq
theorem yz (pr:Str->Bool) (l:List Str) (hl:l.length<=2000000) (g:Nat) (lb:Array Value) (eg:∀ args W,(callFunc g args).run Tryz.prog W=.ok (.enter g args) W) (ok:Nat->Prop) (w:World) (v:Value) (hp:PredS pr g lb l (Below w.heap.size w)) (hv:StrsO ok w v l) :
  Calls Tryz.prog 244 #[v,.func (.func g) #[] lb] w fun e w'=>((e=.returned (.int .i64 (-1))/\∀ x∈l,pr x=false)\/∃(k:Nat) (x:Str),l[k]?=some x/\e=.returned (.int .i64 (k:Int))/\pr x=true/\∀ x∈l.take k,pr x=false)/\Below w.heap.size w w':=by
 obtain ⟨a,c,rfl⟩:=hv.slice
 obtain ⟨k0,bO⟩:=ao l.length
 rw[<-bO]at hl hv
 rw[<-bO]
 obtain ⟨HK,HV,HP⟩:=cf bO hv hp
 clear bO hv hp
 go_enter Tryz.func244,Tryz.ntmps244
 exact pm166
theorem Am (pr:Str->Bool) (l:List Str) (hl:l.length<=2000000) (g:Nat) (lb:Array Value) (eg:∀ args W,(callFunc g args).run Tryz.prog W=.ok (.enter g args) W) (ok:Nat->Prop) (w:World) (v:Value) (hp:PredS pr g lb l (Below w.heap.size w)) (hv:StrsO ok w v l) :
  Calls Tryz.prog 194 #[v,.func (.func g) #[] lb] w fun e w'=>e=.returned (.bool (l.any pr))/\Below w.heap.size w w':=by
 have CC:Calls Tryz.prog 244 #[v,.func (.func g) #[] lb] w fun e w'=>∃r:Int,e=.returned (.int .i64 r)/\decide (0<=r)=l.any pr/\Below w.heap.size w w':=(yz pr l hl g lb eg ok w v hp hv).mono (by
  rintro e w' ⟨⟨rfl,h⟩ | ⟨k,x,hk,rfl,h,_⟩,hb⟩
  ·refine ⟨-1,rfl,?_,hb⟩
   symm
   rw[show decide ((0:Int)<=-1)=false from rfl,List.any_eq_false]
   intro x hx;rw[h x hx];simp
  ·refine ⟨k,rfl,?_,hb⟩
   rw[show decide ((0:Int)<=(k:Int))=true by simp]
   symm
   exact List.any_eq_true.2 ⟨_,List.mem_of_getElem? hk,h⟩)
 obtain ⟨a,c,rfl⟩:=hv.slice
 obtain ⟨B,hB⟩:=ao (l.any pr)
 rw[<-hB]at CC ⊢
 have HC:=ab CC
 clear CC hv hB hp
 go_enter Tryz.func194,Tryz.ntmps194
 go_wp2_with (go_at_call 244;refine HC.o.mono ?_;rintro e w4 ⟨r,rfl,hr,aN⟩;have H4:=aF hr aN;clear hr aN)
 go_ret
 exact ⟨by rw[<-H4.o.1];rfl,H4.o.2⟩
def DelR (keep:Str->Bool) (l:List Str) (b cap i j:Nat) (W:World):Prop:=∃cur:Array Value,W.heap[b]?=some (.cells cur 9 (0,0))/\cur.size=cap * 1/\cur.toList.take i=((l.take j).filter keep).map encStr/\i=((l.take j).filter keep).length/\∀ q (h:q<l.length),j<=q->cur[q]?=some (encStr l[q])
theorem DelR.later {keep:Str->Bool} {l:List Str} {b cap i j:Nat} {W W':World} (h:DelR keep l b cap i j W) (hb:Below W.heap.size W W'):DelR keep l b cap i j W':=by
 obtain ⟨cur,h1,h2⟩:=h
 exact ⟨cur,(hb.block b (bl h1)).trans h1,h2⟩
theorem DelR.drop {keep:Str->Bool} {l:List Str} {b cap i j:Nat} {W:World} (h:DelR keep l b cap i j W) (hj:j<l.length) (hk:keep l[j]=false):DelR keep l b cap i (j+1) W:=by
 obtain ⟨cur,h1,h2,h3,h4,h5⟩:=h
 have e:(l.take (j+1)).filter keep=(l.take j).filter keep:=by
  rw[List.take_add_one,List.getElem?_eq_getElem hj,List.filter_append];simp only[Option.toList_some,List.filter_cons,List.filter_nil,hk,Bool.false_eq_true,if_false,List.append_nil]
 exact ⟨cur,h1,h2,by rw[e];exact h3,by rw[e];exact h4,fun q h hq=>h5 q h (by omega)⟩
theorem DelR.keep {keep:Str->Bool} {l:List Str} {b cap i j:Nat} {W:World} (h:DelR keep l b cap i j W) (hj:j<l.length) (hc:l.length<=cap) (Ve:i<=j) (hk:keep l[j]=true):DelR keep l b cap (i+1) (j+1) (W.setCell ⟨b,i,none⟩ (.string ⟨l[j].toArray⟩)):=by
 obtain ⟨cur,h1,h2,h3,h4,h5⟩:=h
 have e:(l.take (j+1)).filter keep=(l.take j).filter keep ++ [l[j]]:=by
  rw[List.take_add_one,List.getElem?_eq_getElem hj,List.filter_append];simp only[Option.toList_some,List.filter_cons,List.filter_nil,hk,if_true]
 refine ⟨cur.setIfInBounds i (.string ⟨l[j].toArray⟩),aV h1 _,by simpa using h2,?_,by rw[e];simpa using h4,fun q h hq=>?_⟩
 ·rw[e,List.map_append,<-h3,Array.toList_setIfInBounds]
  rw[List.take_add_one]
  simp only[List.getElem?_set_self (show i<cur.toList.length by simp;omega),Option.toList_some]
  rw[List.take_set_of_le (Nat.le_refl i)]
  rfl
 ·rw[Array.getElem?_setIfInBounds_ne (by omega)]
  exact h5 q h (by omega)
theorem uV (b:Nat):∀ (vs:List Value) (o:Nat) (W:World),Kp (fun c=>c=b) W (W.setCells b o vs)
 | [],o,W=>Kp.refl W
 | v :: r,o,W=>by
  have h1:Kp (fun c=>c=b) W (W.setCell ⟨b,o,none⟩ v):=⟨rfl,rfl,rfl,by simp,fun c _ hc=>Below.heap_setCell _ _ _ _ (by simpa using hc)⟩
  exact h1.trans (uV b r (o+1) _)
theorem uW (b:Nat) (T:TypeId):∀ (vs:List Value) (o:Nat) (W:World) (cur:Array Value),W.heap[b]?=some (.cells cur T (0,0))->∃TJ,(W.setCells b o vs).heap[b]?=some (.cells TJ T (0,0))/\TJ.size=cur.size/\TJ.toList.take o=cur.toList.take o
 | [],o,W,cur,h=>⟨cur,h,rfl,rfl⟩
 | v :: r,o,W,cur,h=>by
  obtain ⟨c2,h1,h2,h3⟩:=uW b T r (o+1) (W.setCell ⟨b,o,none⟩ v) _ (aV h v)
  refine ⟨c2,h1,by simpa using h2,?_⟩
  have e:=congrArg (List.take o) h3
  rw[List.take_take,List.take_take,Nat.min_eq_left (by omega)]at e
  rw[e,Array.toList_setIfInBounds,List.take_set_of_le (Nat.le_refl o)]
theorem DelR.start {keep:Str->Bool} {l:List Str} {b cap k:Nat} {cur:Array Value} {W:World} (hb:W.heap[b]?=some (.cells cur 9 (0,0))) (hs:cur.size=cap * 1) (ht:cur.toList.take (l.length * 1)=l.map encStr) (hk:k<l.length) (fP:∀ x∈l.take k,keep x=true):DelR keep l b cap k k W:=by
 have hf:(l.take k).filter keep=l.take k:=List.filter_eq_self.2 fP
 refine ⟨cur,hb,hs,?_,by rw[hf,List.length_take];omega,fun q h hq=>?_⟩
 ·rw[hf,List.map_take,<-ht,List.take_take];congr 1;omega
 ·have:=congrArg (fun m=>m[q]?) ht
  simp only[Nat.mul_one,List.getElem?_map,List.getElem?_eq_getElem h,Option.map_some,List.getElem?_take,if_pos h,Array.getElem?_toList]at this
  exact this
theorem DelR.done {keep:Str->Bool} {l:List Str} {b cap i lo:Nat} {W:World} (h:DelR keep l b cap i l.length W) (hlo:lo<=b) (hc:l.length<=cap) (Ka:i<=l.length) (hcm:cap<=maxLen) (vs:List Value):OwnS lo (W.setCells b i vs) (.slice (some ⟨b,0,none⟩) i cap) (l.filter keep):=by
 obtain ⟨cur,h1,h2,h3,h4,_⟩:=h
 rw[List.take_length]at h3 h4
 obtain ⟨c2,g1,g2,g3⟩:=uW b _ vs i W cur h1
 unfold OwnS
 rw[<-h4]
 refine ⟨by simp[h4],.inr ⟨b,cap,c2,rfl,hlo,g1,by omega,hcm,by rw[g2];exact h2,?_⟩⟩
 rw[Nat.mul_one,g3,h3]
theorem uX (pr:Str->Bool) (l:List Str) (hl:l.length<=2000000) (g:Nat) (lb:Array Value) (eg:∀ args W,(callFunc g args).run Tryz.prog W=.ok (.enter g args) W) (lo:Nat) (w:World) (v:Value) (hp:PredS pr g lb l (Kp (fun c=>lo<=c/\v.ownBlock=some c) w)) (hv:OwnS lo w v l) :
  Calls Tryz.prog 246 #[v,.func (.func g) #[] lb] w fun e w'=>(∃v',e=.returned v'/\OwnS lo w' v' (l.filter fun x=>!pr x))/\Kp (fun c=>lo<=c/\v.ownBlock=some c) w w':=by
 have CI:=yz pr l hl g lb eg _ w v (hp.mono fun W h=>Kp.below h) hv.strs
 rcases hv.2 with ⟨rfl,h0⟩ | ⟨b,cap,cur,rfl,hlo,hb,hc,hcm,hcs,ht⟩
 ·obtain rfl:l=[]:=List.eq_nil_of_length_eq_zero h0
  have HC:=ab CI
  clear CI hp hv
  have pp196a:=();exact pm196
 ·by_cases dW:∀ x∈l,pr x=false
  ·have HC:=ab (CI.mono (fun e w' h=>(⟨h.1.elim (fun h=>h.1) (fun ⟨k,x,hk,_,hx,_⟩=>absurd (dW x (List.mem_of_getElem? hk)) (by simp[hx])),h.2⟩:e=.returned (.int .i64 (-1))/\Below w.heap.size w w')))
   have HR:=ab hv
   have HE:=ab (show (l.filter fun x=>!pr x)=l from List.filter_eq_self.2 (fun x hx=>by rw[dW x hx];rfl))
   clear CI hp hv dW hb hcs ht
   have pp196b:=();exact pm196
  ·have CJ:=CI.mono (fun e w' h=>(⟨h.1.elim (fun h=>absurd h.2 dW) id,h.2⟩:(∃(k:Nat) (x:Str),l[k]?=some x/\e=.returned (.int .i64 (k:Int))/\pr x=true/\∀ x∈l.take k,pr x=false)/\Below w.heap.size w w'))
   obtain ⟨n,hn⟩:=ao l.length
   have HB:=bx hb hcs ht
   obtain ⟨HN,HP⟩:=aS hn hp
   rw[<-hn]at hl hc CJ ⊢
   have HC:=ab CJ
   have qP:=bx hcm hlo hc
   clear CI CJ hp hv dW hb hcs ht hn hcm
   exact pm196
theorem An:∀ args W,(callFunc 275 args).run Tryz.prog W=.ok (.enter 275 args) W:=enters_of Tryz.func275 (by kernel_rfl) rfl
theorem E1 (l:List Str) (mv:∀ x∈l,x.length<=2000000) (C:World->Prop):PredS (fun x=>!dy x) 275 #[] l C:=by
 intro n W hx _
 have hn:=mv n hx
 have CP:=ab (i_ n W (by omega))
 obtain ⟨b,hb⟩:=ao (dy n)
 simp only[<-hb]at CP ⊢
 clear hb mv hx
 go_enter Tryz.func275,Tryz.ntmps275
 go_wp2_with (go_at_call 123;refine CP.o.mono ?_;rintro e w' ⟨rfl,hb⟩;have HB:=ab hb;clear hb)
 go_ret
 exact ⟨rfl,HB.o⟩
theorem pE (l:List Str) (hl:l.length<=2000000) (mv:∀ x∈l,x.length<=2000000) (lo:Nat) (w:World) (v:Value) (hv:OwnS lo w v l) :
  Calls Tryz.prog 245 #[v] w fun e w'=>(∃v',e=.returned v'/\OwnS lo w' v' (l.filter dy))/\Kp (fun c=>lo<=c/\v.ownBlock=some c) w w':=by
 have CC:=uX (fun x=>!dy x) l hl 275 #[] An lo w v (E1 l mv _) hv
 simp only[Bool.not_not]at CC
 obtain ⟨a,c,hac⟩:=hv.strs.slice
 rw[hac]at CC ⊢
 have HC:=ab CC
 clear CC hv mv hac
 go_enter Tryz.func245,Tryz.ntmps245
 go_wp2_with (go_at_call 246;refine HC.o.mono ?_;rintro e w' ⟨⟨v',rfl,hv'⟩,hk⟩;have H4:=aF hv' hk;clear hv' hk)
 go_ret
 exact ⟨⟨_,rfl,H4.o.1⟩,H4.o.2⟩
theorem jW {w X Y:World} {v:Value} (h:Below w.heap.size w X) (k:Kp (fun c=>w.heap.size<=c/\v.ownBlock=some c) X Y):Below w.heap.size w Y:=
 ⟨k.os.trans h.os,k.tape.trans h.tape,k.output.trans h.output,Nat.le_trans h.size k.size,fun b hb=>(k.same b (Nat.lt_of_lt_of_le hb h.size) (fun hc=>by omega)).trans (h.block b hb)⟩
theorem Kt {k:List (Str×Tm)} (hk:∀ x:Str,x.length<=2000000->nodesT (termOf k x)<=1000):∀ t:Tm,iS 2000000 t=true->(jy k t).length<=nodesT t * 1000:=by
 have pp190f:=();exact pm190
theorem nq {k:List (Str×Tm)}:∀ {a:List Tm} {j:Nat} (h:j<a.length),dm k (a.take (j+1))=dm k (a.take j) ++ jy k a[j]
 | t :: a,0,_=>by simp[dm]
 | t :: a,j+1,h=>by
  have:=nq (k:=k) (a:=a) (j:=j) (by simpa using h)
  simp only[List.take_succ_cons,dm,this,List.getElem_cons_succ,List.append_assoc]
theorem nr {k:List (Str×Tm)} (hk:∀ x:Str,x.length<=2000000->nodesT (termOf k x)<=1000):∀ a:List Tm,dF 2000000 a=true->(dm k a).length<=ac a * 1000
 | [],_=>by simp[dm]
 | t :: a,h=>by
  simp only[dF,Bool.and_eq_true]at h
  have h1:=Kt hk t h.1
  have h2:=nr hk a h.2
  simp only[dm,ac,List.length_append];omega
theorem yA {a:List Tm} {t:Tm} (h:t∈a):nodesT t<=ac a:=by
 induction a with
 | nil=>cases h
 | cons u a ih=>
  simp only[ac]
  exact pm260
def TK (k:List (Str×Tm)) (kb:Nat) (W0:World) (t:Tm):Prop:=∀ (ok:Nat->Prop) (w:World) (q:TQ),Below W0.heap.size W0 w->TermV ok w q.val t →
 Calls Tryz.prog 248 #[.pointer (some ⟨kb,0,none⟩),q.val] w fun e w'=>(∃v,e=.returned v/\OwnS w.heap.size w' v (jy k t))/\Below w.heap.size w w'
theorem Ao (W0:World) (lN:Nat->Prop) (kb mF mT nF nT:Nat) (k:Bd) (dw:KnV lN goodF goodT W0 kb mF mT nF nT k):∀ t,fitT t->nodesT t<=1000->TK k.ts kb W0 t:=by
 have SK:=ab (fun x hx=>jG dw (x:=x) hx)
 have FZ:=ab dw
 clear dw
 have pp190g:=();exact pm190
theorem tW (k:Bd) (o:Int) (n:Str) (a:List Tm) (s:List Fm):om k (.mk o n a s)=if o=15 then (de (aO [] (formOf k.fs n))).filter dy
  else if o=16 then
   (let l:=(de (aO [] (formOf k.fs n))).filter dy
   if !l.contains (bg (.mk o n a s)).1 then l else l.filter (fun x=>x != (bg (.mk o n a s)).1) ++ (de (aI (termOf k.ts (bg (.mk o n a s)).2))).filter dy)
  else dm k.ts a:=rfl
theorem yB:∀ args W,(callFunc 247 args).run Tryz.prog W=.ok (.enter 247 args) W:=enters_of Tryz.func247 (by kernel_rfl) rfl
theorem E2 (x n:Str) (X:Nat) (w:World) (hX:w.cell? ⟨X,0,none⟩=some (.string ⟨n.toArray⟩)) :
  Calls Tryz.prog 247 #[.string ⟨x.toArray⟩,.pointer (some ⟨X,0,none⟩)] w fun e w'=>e=.returned (.bool (x == n))/\Below w.heap.size w w':=by
 go_enter Tryz.func247,Tryz.ntmps247
 go_wp2
 go_ret
 exact ⟨rfl,Below.refl _ _⟩
theorem He (lN:Nat->Prop) (kb mF mT nF nT:Nat) (k:Bd) (s:Fm) (hs:okF true s=true) (pA:nodesF s<=400) (ok:Nat->Prop) (w:World) (dw:KnV lN goodF goodT w kb mF mT nF nT k) (q:PlQ) (hq:FormV ok w q.s.val s) :
  Calls Tryz.prog 195 #[.pointer (some ⟨kb,0,none⟩),q.val] w fun e w'=>(∃v,e=.returned v/\OwnS w.heap.size w' v (om k s))/\Below w.heap.size w w':=by
 obtain ⟨o,n,a,ss⟩:=s
 have pp97f:=();exact pm97
end
end Go.Proofs.YtokemihbkeddoaaGreatDoor
