/-
Contract of 'fillTerm' of package match.
-/
import Derived.Test.YtokemihbkeddoaaGreatDoorU11
namespace Go.Proofs.YtokemihbkeddoaaGreatDoor
open Go Go.RowKit Lib
set_option maxRecDepth 100000
set_option maxHeartbeats 64000000
variable {pr:Str->Bool} {l:List Str} {k b cap i j:Nat} {W:World}
section
attribute [local go_sem] Oper.semAt_some
theorem ph (k:List (Str×Tm)) (c:List Str):∀ l,d_ k c l=l.map (cM k c)
 | []=>rfl
 | t :: l=>by simp[d_,ph k c l]
def zaG (kd:List (Str×Tm)) (sc:List Str) (vL:Value) (kb:Nat) (W0:World) (t:Tm):Prop:=∀ (ok:Nat->Prop) (w:World) (q:TQ),Below W0.heap.size W0 w->TermV ok w q.val t →
 Calls Tryz.prog 127 #[.pointer (some ⟨kb,0,none⟩),q.val,vL] w fun e w'=>(∃p:TQ,e=.returned p.val/\TermV (w.heap.size<=·) w' p.val (cM kd sc t))/\Below w.heap.size w w'
theorem FH (W0:World) (nM:Nat->Prop) (kb mF mT nF nT:Nat) (kd:Bd) (dZ:KnV nM goodF goodT W0 kb mF mT nF nT kd) (okl:Nat->Prop) (vL:Value) (L sc:List Str) (hL:StrsO okl W0 vL L) (S9:L.length<=2000000) (Qj:∀ y,L.contains y=sc.contains y):∀ t,fitT t->zaG kd.ts sc vL kb W0 t:=by
 obtain ⟨p9,hi,zp,wJ,zY⟩:=info_parts hO;have Jf:=ac dZ;have HLk:=ac (fun (W:World) (h:Below W0.heap.size W0 W) (y:Str)=>(Qj y) ▸ fM L S9 y _ W vL (hL.later h));clear dZ hL S9 Qj;intro t
 induction t using Tm.ind with
 | h v n a ih=>
  intro hfit ok w q cQ hq;exact pm189
def PredS (pr:Str->Bool) (g:Nat) (lb:Array Value) (l:List Str) (C:World->Prop):Prop:=∀ x W,x∈l->C W->Calls Tryz.prog g (#[.string ⟨x.toArray⟩] ++ lb) W fun e w'=>e=.returned (.bool (pr x))/\Below W.heap.size W w'
theorem PredS.mono {g:Nat} {lb:Array Value} {C C':World->Prop} (h:PredS pr g lb l C) (hC:∀ W,C' W->C W):PredS pr g lb l C':=fun x W hx hW=>h x W hx (hC W hW)
theorem WZ (hk:k<l.length) (gE:∀ t∈l.take k,pr t=false) (hq:pr l[k]=false):∀ t∈l.take (k+1),pr t=false:=by
 intro t hm;rw[List.take_add_one,gT hk]at hm;rcases List.mem_append.1 hm with h | h
 ·exact gE t h
 ·obtain rfl:t=l[k]:=by simpa using h
  exact hq
theorem Ba (pr:Str->Bool) (l:List Str) (hl:l.length<=2000000) (g:Nat) (lb:Array Value) (eg:∀ args W,(callFunc g args).run Tryz.prog W=.ok (.enter g args) W) (ok:Nat->Prop) (w:World) (v:Value) (hp:PredS pr g lb l (Below w.heap.size w)) (hv:StrsO ok w v l) :
  Calls Tryz.prog 244 #[v,.func (.func g) #[] lb] w fun e w'=>((e=.returned (.int .i64 (-1))/\∀ x∈l,pr x=false)\/∃(k:Nat) (x:Str),l[k]?=some x/\e=.returned (.int .i64 (k:Int))/\pr x=true/\∀ x∈l.take k,pr x=false)/\Below w.heap.size w w':=by
 obtain ⟨a,c,rfl⟩:=hv.slice;obtain ⟨k0,bX⟩:=am l.length;rw[<-bX]at hl hv;rw[<-bX];obtain ⟨HK,HV,HP⟩:=cH bX hv hp;clear bX hv hp;go_enter Tryz.func244,Tryz.ntmps244;exact pm170
theorem Dp (pr:Str->Bool) (l:List Str) (hl:l.length<=2000000) (g:Nat) (lb:Array Value) (eg:∀ args W,(callFunc g args).run Tryz.prog W=.ok (.enter g args) W) (ok:Nat->Prop) (w:World) (v:Value) (hp:PredS pr g lb l (Below w.heap.size w)) (hv:StrsO ok w v l) :
  Calls Tryz.prog 194 #[v,.func (.func g) #[] lb] w fun e w'=>e=.returned (.bool (l.any pr))/\Below w.heap.size w w':=by
 have CC:Calls Tryz.prog 244 #[v,.func (.func g) #[] lb] w fun e w'=>∃r:Int,e=.returned (.int .i64 r)/\decide (0<=r)=l.any pr/\Below w.heap.size w w':=(Ba pr l hl g lb eg ok w v hp hv).mono (by
  rintro e w' ⟨⟨rfl,h⟩ | ⟨k,x,hk,rfl,h,_⟩,hb⟩
  ·refine ⟨-1,rfl,?_,hb⟩
   symm
   rw[show decide ((0:Int)<=-1)=false from rfl,List.any_eq_false];intro x hx;rw[h x hx];simp
  ·refine ⟨k,rfl,?_,hb⟩;rw[show decide ((0:Int)<=(k:Int))=true by simp]
   symm
   exact List.any_eq_true.2 ⟨_,List.mem_of_getElem? hk,h⟩)
 obtain ⟨a,c,rfl⟩:=hv.slice;obtain ⟨B,hB⟩:=am (l.any pr);rw[<-hB]at CC ⊢;have HC:=ac CC;clear CC hv hB hp;go_enter Tryz.func194,Tryz.ntmps194;go_wp2_with (go_at_call 244;refine HC.o.mono ?_;rintro e w4 ⟨r,rfl,hr,aO⟩;have H4:=aG hr aO;clear hr aO);go_ret;exact ⟨by rw[<-H4.o.1];rfl,H4.o.2⟩
def DelR (keep:Str->Bool) (l:List Str) (b cap i j:Nat) (W:World):Prop:=∃cur:Array Value,W.heap[b]?=some (.cells cur 9 (0,0))/\cur.size=cap * 1/\cur.toList.take i=((l.take j).filter keep).map encStr/\i=((l.take j).filter keep).length/\∀ q (h:q<l.length),j<=q->cur[q]?=some (encStr l[q])
theorem DelR.later {keep:Str->Bool} {W':World} (h:DelR keep l b cap i j W) (hb:Below W.heap.size W W'):DelR keep l b cap i j W':=by
 obtain ⟨cur,h1,h2⟩:=h;exact ⟨cur,(hb.block b (bz h1)).trans h1,h2⟩
theorem DelR.drop {keep:Str->Bool} (h:DelR keep l b cap i j W) (hj:j<l.length) (hk:keep l[j]=false):DelR keep l b cap i (j+1) W:=by
 obtain ⟨cur,h1,h2,h3,h4,h5⟩:=h;have e:(l.take (j+1)).filter keep=(l.take j).filter keep:=by
  rw[List.take_add_one,gT hj,List.filter_append];simp only[Option.toList_some,List.filter_cons,List.filter_nil,hk,bW,if_false,List.append_nil]
 exact ⟨cur,h1,h2,by rw[e];exact h3,by rw[e];exact h4,fun q h hq=>h5 q h (by omega)⟩
theorem DelR.keep {keep:Str->Bool} (h:DelR keep l b cap i j W) (hj:j<l.length) (hc:l.length<=cap) (YU:i<=j) (hk:keep l[j]=true):DelR keep l b cap (i+1) (j+1) (W.setCell ⟨b,i,none⟩ (.string ⟨l[j].toArray⟩)):=by
 obtain ⟨cur,h1,h2,h3,h4,h5⟩:=h;have e:(l.take (j+1)).filter keep=(l.take j).filter keep ++ [l[j]]:=by
  rw[List.take_add_one,gT hj,List.filter_append];simp only[Option.toList_some,List.filter_cons,List.filter_nil,hk,if_true]
 refine ⟨cur.setIfInBounds i (.string ⟨l[j].toArray⟩),aY h1 _,by simpa using h2,?_,by rw[e];simpa using h4,fun q h hq=>?_⟩
 ·rw[e,List.map_append,<-h3,Array.toList_setIfInBounds];rw[List.take_add_one];simp only[List.getElem?_set_self (show i<cur.toList.length by simp;omega),Option.toList_some];rw[List.take_set_of_le (aD i)];rfl
 ·rw[Array.getElem?_setIfInBounds_ne (by omega)];exact h5 q h (by omega)
theorem yp (b:Nat):∀ (vs:List Value) (o:Nat) (W:World),Kp (fun c=>c=b) W (W.setCells b o vs)
 | [],o,W=>Kp.refl W
 | v :: r,o,W=>by
  have h1:Kp (fun c=>c=b) W (W.setCell ⟨b,o,none⟩ v):=⟨rfl,rfl,rfl,by simp,fun c _ hc=>dV _ _ _ _ (by simpa using hc)⟩;exact h1.trans (yp b r (o+1) _)
theorem yq (b:Nat) (T:TypeId):∀ (vs:List Value) (o:Nat) (W:World) (cur:Array Value),W.heap[b]?=some (.cells cur T (0,0))->∃W_,(W.setCells b o vs).heap[b]?=some (.cells W_ T (0,0))/\W_.size=cur.size/\W_.toList.take o=cur.toList.take o
 | [],o,W,cur,h=>⟨cur,h,rfl,rfl⟩
 | v :: r,o,W,cur,h=>by
  obtain ⟨c2,h1,h2,h3⟩:=yq b T r (o+1) (W.setCell ⟨b,o,none⟩ v) _ (aY h v);refine ⟨c2,h1,by simpa using h2,?_⟩;have e:=congrArg (List.take o) h3;rw[List.take_take,List.take_take,Nat.min_eq_left (by omega)]at e;rw[e,Array.toList_setIfInBounds,List.take_set_of_le (aD o)]
theorem DelR.start {keep:Str->Bool} {cur:Array Value} (hb:W.heap[b]?=some (.cells cur 9 (0,0))) (hs:cur.size=cap * 1) (ht:cur.toList.take (l.length * 1)=l.map encStr) (hk:k<l.length) (gE:∀ x∈l.take k,keep x=true):DelR keep l b cap k k W:=by
 have hf:(l.take k).filter keep=l.take k:=List.filter_eq_self.2 gE;refine ⟨cur,hb,hs,?_,by rw[hf,dT];omega,fun q h hq=>?_⟩
 ·rw[hf,List.map_take,<-ht,List.take_take];congr 1;omega
 ·have:=congrArg (fun m=>m[q]?) ht;simp only[Nat.mul_one,List.getElem?_map,gT h,Option.map_some,List.getElem?_take,au h,Array.getElem?_toList]at this;exact this
theorem DelR.done {keep:Str->Bool} {lo:Nat} (h:DelR keep l b cap i l.length W) (hlo:lo<=b) (hc:l.length<=cap) (M6:i<=l.length) (hcm:cap<=maxLen) (vs:List Value):OwnS lo (W.setCells b i vs) (.slice (some ⟨b,0,none⟩) i cap) (l.filter keep):=by
 obtain ⟨cur,h1,h2,h3,h4,_⟩:=h;rw[cY]at h3 h4;obtain ⟨c2,g1,g2,g3⟩:=yq b _ vs i W cur h1;unfold OwnS;rw[<-h4];refine ⟨by simp[h4],.inr ⟨b,cap,c2,rfl,hlo,g1,by omega,hcm,by rw[g2];exact h2,?_⟩⟩;rw[Nat.mul_one,g3,h3]
theorem yr (pr:Str->Bool) (l:List Str) (hl:l.length<=2000000) (g:Nat) (lb:Array Value) (eg:∀ args W,(callFunc g args).run Tryz.prog W=.ok (.enter g args) W) (lo:Nat) (w:World) (v:Value) (hp:PredS pr g lb l (Kp (fun c=>lo<=c/\v.ownBlock=some c) w)) (hv:OwnS lo w v l) :
  Calls Tryz.prog 246 #[v,.func (.func g) #[] lb] w fun e w'=>(∃v',e=.returned v'/\OwnS lo w' v' (l.filter fun x=>!pr x))/\Kp (fun c=>lo<=c/\v.ownBlock=some c) w w':=by
 have CI:=Ba pr l hl g lb eg _ w v (hp.mono fun W h=>Kp.below h) hv.strs;rcases hv.2 with ⟨rfl,h0⟩ | ⟨b,cap,cur,rfl,hlo,hb,hc,hcm,hcs,ht⟩
 ·obtain rfl:l=[]:=jJ h0;have HC:=ac CI;clear CI hp hv;have pp188a:=();exact pm188
 ·by_cases eI:∀ x∈l,pr x=false
  ·have HC:=ac (CI.mono (fun e w' h=>(⟨h.1.elim (fun h=>h.1) (fun ⟨k,x,hk,_,hx,_⟩=>absurd (eI x (List.mem_of_getElem? hk)) (by simp[hx])),h.2⟩:e=.returned (.int .i64 (-1))/\Below w.heap.size w w')));have HR:=ac hv;have HE:=ac (show (l.filter fun x=>!pr x)=l from List.filter_eq_self.2 (fun x hx=>by rw[eI x hx];rfl));clear CI hp hv eI hb hcs ht;have pp188b:=();exact pm188
  ·have CJ:=CI.mono (fun e w' h=>(⟨h.1.elim (fun h=>absurd h.2 eI) id,h.2⟩:(∃(k:Nat) (x:Str),l[k]?=some x/\e=.returned (.int .i64 (k:Int))/\pr x=true/\∀ x∈l.take k,pr x=false)/\Below w.heap.size w w'));obtain ⟨n,hn⟩:=am l.length;have HB:=bF hb hcs ht;obtain ⟨HN,HP⟩:=aW hn hp;rw[<-hn]at hl hc CJ ⊢;have HC:=ac CJ;have tE:=bF hcm hlo hc;clear CI CJ hp hv eI hb hcs ht hn hcm;exact pm188
theorem Dq:∀ args W,(callFunc 275 args).run Tryz.prog W=.ok (.enter 275 args) W:=enters_of Tryz.func275 (by kernel_rfl) rfl
theorem Ik (l:List Str) (nS:∀ x∈l,x.length<=2000000) (C:World->Prop):PredS (fun x=>!dG x) 275 #[] l C:=by
 intro n W hx _;have hn:=nS n hx;have CP:=ac (kg n W (by omega));obtain ⟨b,hb⟩:=am (dG n);simp only[<-hb]at CP ⊢;clear hb nS hx;go_enter Tryz.func275,Tryz.ntmps275;go_wp2_with (go_at_call 123;refine CP.o.mono ?_;rintro e w' ⟨rfl,hb⟩;have HB:=ac hb;clear hb);go_ret;exact ⟨rfl,HB.o⟩
theorem rM (l:List Str) (hl:l.length<=2000000) (nS:∀ x∈l,x.length<=2000000) (lo:Nat) (w:World) (v:Value) (hv:OwnS lo w v l) :
  Calls Tryz.prog 245 #[v] w fun e w'=>(∃v',e=.returned v'/\OwnS lo w' v' (l.filter dG))/\Kp (fun c=>lo<=c/\v.ownBlock=some c) w w':=by
 have CC:=yr (fun x=>!dG x) l hl 275 #[] Dq lo w v (Ik l nS _) hv;simp only[Bool.not_not]at CC;obtain ⟨a,c,hac⟩:=hv.strs.slice;rw[hac]at CC ⊢;have HC:=ac CC;clear CC hv nS hac;go_enter Tryz.func245,Tryz.ntmps245;go_wp2_with (go_at_call 246;refine HC.o.mono ?_;rintro e w' ⟨⟨v',rfl,hv'⟩,hk⟩;have H4:=aG hv' hk;clear hv' hk);go_ret;exact ⟨⟨_,rfl,H4.o.1⟩,H4.o.2⟩
theorem lk {w X Y:World} {v:Value} (h:Below w.heap.size w X) (k:Kp (fun c=>w.heap.size<=c/\v.ownBlock=some c) X Y):Below w.heap.size w Y:=
 ⟨k.os.trans h.os,k.tape.trans h.tape,k.output.trans h.output,aU h.size k.size,fun b hb=>(k.same b (bH hb h.size) (fun hc=>by omega)).trans (h.block b hb)⟩
theorem Nl {k:List (Str×Tm)} (hk:∀ x:Str,x.length<=2000000->nodesT (termOf k x)<=1000):∀ t:Tm,j5 2000000 t=true->(jz k t).length<=nodesT t * 1000:=by
 have pp184f:=();exact pm184
theorem pi {k:List (Str×Tm)}:∀ {a:List Tm} {j:Nat} (h:j<a.length),dr k (a.take (j+1))=dr k (a.take j) ++ jz k a[j]
 | t :: a,0,_=>by simp[dr]
 | t :: a,j+1,h=>by
  have:=pi (k:=k) (a:=a) (j:=j) (by simpa using h);simp only[List.take_succ_cons,dr,this,List.getElem_cons_succ,List.append_assoc]
theorem pj {k:List (Str×Tm)} (hk:∀ x:Str,x.length<=2000000->nodesT (termOf k x)<=1000):∀ a:List Tm,nmTs 2000000 a=true->(dr k a).length<=nodesTs a * 1000
 | [],_=>by simp[dr]
 | t :: a,h=>by
  simp only[nmTs,af]at h;have h1:=Nl hk t h.1;have h2:=pj hk a h.2;simp only[dr,nodesTs,dO];omega
theorem Bb {a:List Tm} {t:Tm} (h:t∈a):nodesT t<=nodesTs a:=by
 induction a with
 | nil=>cases h
 | cons u a ih=>
  simp only[nodesTs];rcases cd.1 h with rfl | h
  ·omega
  ·have:=ih h;omega
def Xa (k:List (Str×Tm)) (kb:Nat) (W0:World) (t:Tm):Prop:=∀ (ok:Nat->Prop) (w:World) (q:TQ),Below W0.heap.size W0 w->TermV ok w q.val t →
 Calls Tryz.prog 248 #[.pointer (some ⟨kb,0,none⟩),q.val] w fun e w'=>(∃v,e=.returned v/\OwnS w.heap.size w' v (jz k t))/\Below w.heap.size w w'
theorem Dr (W0:World) (nM:Nat->Prop) (kb mF mT nF nT:Nat) (k:Bd) (dZ:KnV nM goodF goodT W0 kb mF mT nF nT k):∀ t,fitT t->nodesT t<=1000->Xa k.ts kb W0 t:=by
 have VW:=ac (fun x hx=>kP dZ (x:=x) hx);have Jf:=ac dZ;clear dZ;have pp184g:=();exact pm184
theorem xd (k:Bd) (o:Int) (n:Str) (a:List Tm) (s:List Fm):nz k (.mk o n a s)=if o=15 then (dI (aL [] (formOf k.fs n))).filter dG
  else if o=16 then
   (let l:=(dI (aL [] (formOf k.fs n))).filter dG
   if !l.contains (aJ (.mk o n a s)).1 then l else l.filter (fun x=>x != (aJ (.mk o n a s)).1) ++ (dI (aC (termOf k.ts (aJ (.mk o n a s)).2))).filter dG)
  else dr k.ts a:=rfl
theorem Bc:∀ args W,(callFunc 247 args).run Tryz.prog W=.ok (.enter 247 args) W:=enters_of Tryz.func247 (by kernel_rfl) rfl
theorem Il (x n:Str) (X:Nat) (w:World) (hX:w.cell? ⟨X,0,none⟩=some (.string ⟨n.toArray⟩)) :
  Calls Tryz.prog 247 #[.string ⟨x.toArray⟩,.pointer (some ⟨X,0,none⟩)] w fun e w'=>e=.returned (.bool (x == n))/\Below w.heap.size w w':=by
 go_enter Tryz.func247,Tryz.ntmps247;go_wp2;go_ret;exact ⟨rfl,aj _ _⟩
theorem Km (nM:Nat->Prop) (kb mF mT nF nT:Nat) (k:Bd) (s:Fm) (hs:okF true s=true) (rI:nodesF s<=400) (ok:Nat->Prop) (w:World) (dZ:KnV nM goodF goodT w kb mF mT nF nT k) (q:PlQ) (hq:FormV ok w q.s.val s) :
  Calls Tryz.prog 195 #[.pointer (some ⟨kb,0,none⟩),q.val] w fun e w'=>(∃v,e=.returned v/\OwnS w.heap.size w' v (nz k s))/\Below w.heap.size w w':=by
 obtain ⟨o,n,a,ss⟩:=s;have pp90f:=();exact pm90
mutual
theorem In (k:List (Str×Tm)):∀ t,∀ x∈jz k t,dG x=true
 | .mk v n a=>fun x hx=>by
  unfold jz at hx;split at hx
  ·exact (List.mem_filter.1 hx).2
  ·exact pk k a x hx
theorem pk (k:List (Str×Tm)):∀ l,∀ x∈dr k l,dG x=true
 | []=>fun x hx=>by simp[dr]at hx
 | t :: l=>fun x hx=>by
  simp only[dr,List.mem_append]at hx;exact hx.elim (In k t x) (pk k l x)
end
theorem Io (k:Bd) (s:Fm):∀ x∈nz k s,dG x=true:=by
 obtain ⟨o,n,a,ss⟩:=s;intro x hx;rw[xd]at hx;split at hx
 ·exact (List.mem_filter.1 hx).2
 ·split at hx
  ·simp only at hx;split at hx
   ·exact (List.mem_filter.1 hx).2
   ·rcases List.mem_append.1 hx with h | h
    ·exact (List.mem_filter.1 (List.mem_filter.1 h).1).2
    ·exact (List.mem_filter.1 h).2
  ·exact pk _ _ x hx
theorem Kn {x:Str} (h:dG x=true):∃r,x=63 :: r:=sW (by
 cases h2:(x.head? == some 63)
 ·simp[dG,h2]at h
 ·rfl)
theorem FK:∀ args W,(callFunc 196 args).run Tryz.prog W=.ok (.enter 196 args) W:=enters_of Tryz.func196 (by kernel_rfl) rfl
theorem Nm (q:PlQ) (ps:List (Str×Str)) (mg:ps.length<=1000000) (r:Str) (hr:r.length<=2000000) (B:Nat) (w:World) (hB:w.heap[B]?=some (.cells q.cells 89 (0,0))) (hv:PairsV w (.slice q.a q.l q.c) ps) :
  Calls Tryz.prog 196 #[.string ⟨(63 :: r).toArray⟩,.pointer (some ⟨B,0,none⟩)] w fun e w'=>e=.returned (.bool (!(ps.map (·.1)).contains r))/\Below w.heap.size w w':=by
 have HC:=ac (Ec q ps mg r w.drew (hv.later ((aj w.heap.size w).drew)));have pp90g:=();exact pm90
mutual
theorem Nn {k:List (Str×Tm)} (hk:∀ x:Str,x.length<=2000000->j5 17 (termOf k x)=true):∀ t,j5 2000000 t=true->∀ x∈jz k t,x.length<=2000000
 | .mk v n a=>fun h x hx=>by
  simp only[j5,af,bp]at h;unfold jz at hx;split at hx
  ·exact aU (mG _ (hk n h.1) x ((dQ x _).1 (List.mem_filter.1 hx).1)) (by decide)
  ·exact tJ hk a h.2 x hx
theorem tJ {k:List (Str×Tm)} (hk:∀ x:Str,x.length<=2000000->j5 17 (termOf k x)=true):∀ l,nmTs 2000000 l=true->∀ x∈dr k l,x.length<=2000000
 | []=>fun _ x hx=>by simp[dr]at hx
 | t :: l=>fun h x hx=>by
  simp only[nmTs,af]at h;simp only[dr,List.mem_append]at hx;exact hx.elim (Nn hk t h.1 x) (tJ hk l h.2 x)
end
theorem No {nM:Nat->Prop} {kb mF mT nF nT:Nat} {k:Bd} (dZ:KnV nM goodF goodT W kb mF mT nF nT k) (s:Fm) (hs:okF true s=true) (rI:nodesF s<=400):(nz k s).length<=2000000/\∀ x∈nz k s,x.length<=2000000:=by
 have lC:=ig _ hs;obtain ⟨o,n,a,ss⟩:=s;simp only[ls,af,bp]at lC;have zu:nodesTs a<=400:=by simp only[nodesF]at rI;omega
 have mw:n.length<=2000000:=by have:=lC.2.1;omega
 obtain ⟨q,_,Hk,su,_⟩:=dZ.formOf (x:=n) mw;have ii:(dI (aL [] (formOf k.fs n))).length<=400:=by have h1:=fO (aL [] (formOf k.fs n));have h2:=eY (formOf k.fs n) [];omega
 have oy:∀ x∈dI (aL [] (formOf k.fs n)),x.length<=2000000:=fun x hx=>o7 _ [] Hk.2 x ((dQ x _).1 hx);rw[xd]
 by_cases eQ:o=15
 ·rw[au eQ];exact ⟨aU (List.length_filter_le _ _) (by omega),fun x hx=>oy x (List.mem_filter.1 hx).1⟩
 rw[ak eQ]
 by_cases dN:o=16
 ·subst dN;rw[au rfl];obtain ⟨x,y,e_,Jg,FG,bl⟩:=jU hs;rw[bl];have Ih:=fX FG;obtain ⟨q2,_,_,htn,htm,_⟩:=dZ.termOf (x:=y) (by omega);simp only;split
  ·exact ⟨aU (List.length_filter_le _ _) (by omega),fun x hx=>oy x (List.mem_filter.1 hx).1⟩
  ·refine ⟨?_,fun z hz=>?_⟩
   ·rw[dO];have h1:=List.length_filter_le (fun z=>z != bQ x) ((dI (aL [] (formOf k.fs n))).filter dG);have h2:=List.length_filter_le dG (dI (aL [] (formOf k.fs n)));have h3:=List.length_filter_le dG (dI (aC (termOf k.ts y)));have h4:=fO (aC (termOf k.ts y));have h5:=mE (termOf k.ts y);omega
   ·rcases List.mem_append.1 hz with h | h
    ·exact oy z (List.mem_filter.1 (List.mem_filter.1 h).1).1
    ·exact aU (mG _ htm z ((dQ z _).1 (List.mem_filter.1 h).1)) (by decide)
 ·rw[ak dN];have dD:nmTs 2000000 a=true:=dX (by omega) a lC.2.2.1;refine ⟨?_,tJ (fun x hx=>by obtain ⟨_,_,_,_,h,_⟩:=dZ.termOf (x:=x) hx;exact h) a dD⟩;have:=pj (fun x hx=>kP dZ (x:=x) hx) a dD;omega
theorem Qn (nM:Nat->Prop) (kb mF mT nF nT:Nat) (k:Bd) (p:Pl) (ps:List (Str×Str)) (U4:p.c=ps.reverse) (mg:ps.length<=1000000) (hs:okF true p.s=true) (rI:nodesF p.s<=400) (ok:Nat->Prop) (w:World) (dZ:KnV nM goodF goodT w kb mF mT nF nT k) (q:PlQ) (hq:FormV ok w q.s.val p.s) (hv:PairsV w (.slice q.a q.l q.c) ps) :
  Calls Tryz.prog 125 #[.pointer (some ⟨kb,0,none⟩),q.val] w fun e w'=>e=.returned (.bool (sx k p))/\Below w.heap.size w w':=by
 obtain ⟨W1,bY⟩:=am (w.alloc (.cells q.cells 89));have hb1:=cV bY;have x1:=bU bY;have pU:=No dZ p.s hs rI;have yo:=Io k p.s;have zs:=Km nM kb mF mT nF nT k p.s hs rI ok W1 (dZ.later hb1) q (hq.later hb1);obtain ⟨l,hl⟩:=am (nz k p.s);obtain ⟨R,hR⟩:=am (sx k p);have hE:=hR;unfold sx at hE;rw[<-hl]at hE zs pU yo;rw[<-hR];have HX:=aG hb1 x1;have hop:∀ W,Below W1.heap.size W1 W->PredS (fun x=>!(ps.map (·.1)).contains x.tail) 196 #[.pointer (some ⟨w.heap.size,0,none⟩)] l (Below W.heap.size W):=fun W hW x V hx hV=>by
  obtain ⟨r,rfl⟩:=Kn (yo x hx);have hr:=pU.2 _ hx;exact Nm q ps mg r (by simp at hr;omega) w.heap.size V (bJ ((hW.tr hV)) x1) (hv.later (hb1.tr (hW.tr hV)))
 have qN:R=l.any (fun x=>!(ps.map (·.1)).contains x.tail):=by
  rw[hE];congr 1
  funext x
  rw[U4];congr 1;rw[gV];simp only[List.contains_iff_mem,List.mem_map,List.mem_reverse]
 have mz:=ac (fun (W:World) (v:Value) (hW:Below W1.heap.size W1 W) (hvv:OwnS W1.heap.size W v l)=>Dp _ l pU.1 196 #[.pointer (some ⟨w.heap.size,0,none⟩)] FK _ W v (hop W hW) hvv.strs);rw[<-qN]at mz;obtain ⟨zs,jj⟩:=aW zs bY;have pp90h:=();exact pm90
