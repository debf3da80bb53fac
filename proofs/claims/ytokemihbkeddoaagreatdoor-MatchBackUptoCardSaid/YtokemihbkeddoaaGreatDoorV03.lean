/-
The contract of 'PutTerm' of package subst at one name.
-/
import Derived.Test.YtokemihbkeddoaaGreatDoorV02
namespace Go.Proofs.YtokemihbkeddoaaGreatDoor
open Go Go.RowKit Lib
set_option maxRecDepth 100000
set_option maxHeartbeats 64000000
variable {x:Str} {u:Tm} {k p m n B mb l s:Nat} {b bs pre:List Str} {α:Type} {W W' W0:World} {M:Nat->Prop}
section
attribute [local go_sem] Oper.semAt_some run_makeMap
structure PutI (t:Value×Value×Value) (x:Str) (u:Tm) (w:World) (k:Nat) (wr:World):Prop where
 below:Below w.heap.size w wr
 b0:wr.heap[w.heap.size]?=some (.cells #[t.1,t.2.1,t.2.2] 43 (0,0))
 b1:wr.heap[w.heap.size+1]?=some (.cells #[.bool false,.string ⟨#[]⟩,.slice none 0 0] 43 (0,0))
 b3:wr.heap[w.heap.size+3]?=some (.cells #[.map (some (w.heap.size+2))] 146 (0,0))
 mp:MapV Tryz.prog 9 (TermIn w) wr (w.heap.size+2) k (if k=0 then [] else [(x,u)])
theorem PutI.later {t:Value×Value×Value} {w wr w':World} (h:PutI t x u w k wr) (hb:Below wr.heap.size wr w'):PutI t x u w k w':=
 ⟨h.below.tr hb,bN hb h.b0,bN hb h.b1,bN hb h.b3,h.mp.move (hb.block _ h.mp.lt) (fun _ _ _ _ h=>h)⟩
theorem Jd (t:Tm) (ar:fitT t) (x:Str) (hx:x.length<=2000000) (u:Tm) (hfu:fitT u) (ok OP:Nat->Prop) (w:World) (q uq:TQ) (b off c:Nat) (hq:TermV ok w q.val t) (hu:TermV OP w uq.val u)
  (c0:w.cell? ⟨b,off,none⟩=some (.string ⟨x.toArray⟩)) (c1:w.cell? ⟨b,off+1,none⟩=some (.bool uq.v)) (c2:w.cell? ⟨b,off+2,none⟩=some (.string uq.n)) (c3:w.cell? ⟨b,off+3,none⟩=some (.slice uq.a uq.l uq.c)) :
  Calls Tryz.prog 168 #[q.val,.slice (some ⟨b,off,none⟩) 1 c] w fun e w'=>(∃p:TQ,e=.returned p.val/\TermV (w.heap.size<=·) w' p.val (lG x u t))/\Below w.heap.size w w':=by
 obtain ⟨qv,qn,qa,ql,qc⟩:=q;obtain ⟨uv,un,ua,ul,uc⟩:=uq;have ⟨W1,bY⟩:=aj ((((w.alloc (.cells #[.bool qv,.string qn,.slice qa ql qc] 43)).alloc (.cells #[.bool false,.string ⟨#[]⟩,.slice none 0 0] 43)).alloc (.map #[] 0)).alloc (.cells #[.map (some (w.heap.size+2))] 146));have hI:PutI (.bool qv,.string qn,.slice qa ql qc) x u w 0 W1:=by
  rw[bY];refine ⟨((cI.alloc (by simp) _).alloc (by simp;omega) _).alloc (by simp;omega) _,?_,?_,ah (by simp),?_⟩
  ·exact (bH _ _ _ (by simp;omega)).trans ((bH _ _ _ (by simp;omega)).trans ((bH _ _ _ (by simp)).trans (ah rfl)))
  ·exact (bH _ _ _ (by simp)).trans ((bH _ _ _ (by simp)).trans (ah (by simp)))
  ·have h:=MapV.made (P:=Tryz.prog) (k:=9) (V:=TermIn w) ((w.alloc (.cells #[.bool qv,.string qn,.slice qa ql qc] 43)).alloc (.cells #[.bool false,.string ⟨#[]⟩,.slice none 0 0] 43));simp only[World.size_alloc]at h;exact h.move (bH _ _ _ (by simp)) (fun _ _ _ _ h=>h)
 have ⟨HI,jt,HQ,HU⟩:=eD hI bY hq hu;have HC:=cq c0 c1 c2 c3;have jw:=aA ar hfu;clear hI bY hq hu c0 c1 c2 c3 ar hfu;have qmC:=();exact qeF
end
theorem pF {t:List Str} (h:t.length<10 ^ 14):(dL t).length<=2000000:=by
 obtain ⟨j,h1,nO,he,_⟩:=vG t (by omega);rw[he];unfold iF;have:=Gt 20 j 15 (by omega) (by omega);simp;omega
mutual
theorem Vj {x:Str} (hu:jJ p u=true):∀ t,jJ p t=true->jJ p (lG x u t)=true
 | .mk v n a,h=>by
  simp only[jJ,ae,br]at h;have ih:=BL (x:=x) hu a h.2;unfold eL at ih;unfold lG at ih ⊢;rw[gC]
  cases v with
  | false=>
   simp only[bO,if_false,jJ,ae,br];exact ⟨h.1,by rw[iz];exact ih⟩
  | true=>
   simp only[if_true]
   by_cases hx:(n == x)=true
   ·simp only[hx,if_true];exact hu
   ·have hx:(n == x)=false:=by simpa using hx
    simp only[hx,bO,if_false,jJ,ae,br];exact ⟨h.1,by rw[iz];exact ih⟩
theorem BL {x:Str} (hu:jJ p u=true):∀ l,nmTs p l=true->nmTs p (eL x u l)=true
 | [],_=>by simp[eL,nmTs]
 | t :: l,h=>by
  simp only[nmTs,ae]at h;have h1:=Vj (x:=x) hu t h.1;have h2:=BL (x:=x) hu l h.2;unfold eL at h2 ⊢;simp only[cC,nmTs,ae];exact ⟨h1,h2⟩
end
theorem yi {y:Str} (h:y.length<=2000000):jJ 2000000 (aP y)=true:=by simp[aP,jJ,nmTs,h]
theorem pG:∀ (k:Nat) (f:Fm) (x:Str) (u:Tm),gS f=true->qone f=true->depthF f<=k->nodesF f+nodesT u<10 ^ 10->li 2000000 f=true->jJ 2000000 u=true->li 2000000 (fI k x u f)=true
 | 0,f,x,u,hw,hq,hd,hs,hf,hu=>by have:=mL f;omega
 | k+1,.mk o n a s,x,u,hw,hq1,hd,hs,hf,hu=>by
  have E3:=hf;have qmD:=();exact qaP
theorem LL {a:List Str} (ha:a.length<10 ^ 18) (hb:b.length<10 ^ 18) (ha2:(di a).length<10 ^ 18) (bG:(di b).length<10 ^ 18):dL (di a ++ di b)=dL (a ++ b):=
 Fa (by simp;omega) (by simp;omega) (fun x=>by simp[dV])
theorem eH (l:List Str):(di l).length<=l.length:=by
 unfold di
 induction l with
 | nil=>simp
 | cons x l ih=>
  have h:∀ (m:List Str),(tG x m).length<=m.length+1:=fun m=>by
   induction m with
   | nil=>simp[tG]
   | cons y m ih2=>
    unfold tG;split
    ·simp
    ·split
     ·simp
     ·simp;omega
  simp only[List.foldr_cons,eT];have:=h (List.foldr tG [] l);omega
theorem my (l:List Str) (x:Str):(di l).contains x=l.contains x:=by
 rw[ip];simp[dV]
section
attribute [local go_sem] Oper.semAt_some
abbrev frV (c0 c1:Nat):Value:=.func (.func 213) #[] #[.pointer (some ⟨c0,0,none⟩),.pointer (some ⟨c1,0,none⟩)]
def FrG (M:Nat->Prop) (c0 c1:Nat) (J:List Str->World->Prop) (xs:List Str):Prop:=∀ (pre:List Str) (x:Str) (W1:World),J pre W1->(pre ++ [x]) <+: xs →
 Calls Tryz.prog 213 #[.string ⟨x.toArray⟩,.pointer (some ⟨c0,0,none⟩),.pointer (some ⟨c1,0,none⟩)] W1 fun e W'=>e=.returned (.bool true)/\J (pre ++ [x]) W'/\Kp M W1 W'
theorem BM (c0 c1:Nat):∀ (t:Tm),fitT t->∀ (M:Nat->Prop) (B:Nat) (J:List Str->World->Prop) (xs pre:List Str) (W:World) (q:TQ),(∀ b,M b->b<W.heap.size)->(∀ s,Abides W.heap.size (J s))->FrG M c0 c1 J xs->TermV (fun b=>b<B/\¬M b) W q.val t->(pre ++ aE t) <+: xs->J pre W →
  Calls Tryz.prog 214 #[q.val,frV c0 c1] W fun e W'=>e=.returned (.bool true)/\J (pre ++ aE t) W'/\Kp M W W':=by
 intro t
 induction t using Tm.ind with
 | h v n a ih=>
  intro ar M B J xs pre W q hM hJ hY hq dq hj;obtain ⟨qv,qn,qa,ql,qc⟩:=q;obtain ⟨sa,hs,bB⟩:=aM.1 hq;have qmE:=();exact qam
end
theorem ZN {P:Program} {k:TypeId} {β:Type} {V:Value->α->Prop} {V':Value->β->Prop} {n':Nat} {l:List (Str×α)} {l':List (Str×β)} (h:W.grownBy W' (some m)) (hm:MapV P k V W m n l) (hm':MapV P k V' W' m n' l') (hB:B<=m):Nw B W W':=by
 obtain ⟨D,⟨es,AZ,h1,_⟩,_⟩:=hm;obtain ⟨D',⟨U',Zw,Rb,_⟩,_⟩:=hm';refine ⟨h.os,h.tape,h.output,h.size,fun b hb=>?_⟩
 by_cases e:b=m
 ·subst e;exact .inr ⟨hB,⟨_,h1,rfl⟩,_,Rb,rfl⟩
 ·exact .inl (h.block b hb (fun h=>by cases h;exact e rfl))
def BoundW (W:World) (m n:Nat) (bs:List Str):Prop:=∃l:List (Str×Nat),MapV Tryz.prog 9 (fun v (c:Nat)=>v=.int .i64 (c:Int)) W m n l/\∀ x,(getB l x).getD 0=bs.count x
theorem BoundW.lt (h:BoundW W m n bs):m<W.heap.size:=by obtain ⟨l,h,_⟩:=h;exact h.lt
theorem BoundW.same (h:BoundW W m n bs) (hb:W'.heap[m]?=W.heap[m]?):BoundW W' m n bs:=by
 obtain ⟨l,h,hx⟩:=h;exact ⟨l,h.move hb (fun _ _ _ _ h=>h),hx⟩
theorem BoundW.made (w:World):BoundW (w.alloc (.map #[] 0)) w.heap.size 0 []:=⟨[],MapV.made w,fun x=>by simp[getB]⟩
theorem BoundW.look (h:BoundW W m n bs) (hx:x.length<=2000000) :
  ∀ W':World,W'.heap[m]?=W.heap[m]?->(Instr.lookup 198 (.map (some m)) (.string ⟨x.toArray⟩) false).run Tryz.prog W'=.ok (.int .i64 (bs.count x:Int)) W':=by
 obtain ⟨l,h,hl⟩:=h;intro W' hW;have hz:∀ w,(zeroValue 3).run Tryz.prog w=.ok (.int .i64 0) w:=fun w=>by kernel_rfl
 have hc:=hl x;rcases h.look Tryz.underlying9 Tryz.underlying198 hz hx with ⟨hn,hr⟩ | ⟨a,v,hs,rfl,hr⟩
 ·rw[hn]at hc;rw[<-hc];exact (hr W' hW).2
 ·rw[hs]at hc;rw[<-hc];exact (hr W' hW).2
theorem BoundW.store {bs':List Str} (h:BoundW W m n bs) (hn:n<4000000) (hx:x.length<=2000000) (hb:∀ y,y≠x->bs'.count y=bs.count y) :
  ∃w',(Instr.mapUpdate 198 (.map (some m)) (.string ⟨x.toArray⟩) (.int .i64 (bs'.count x:Int))).run Tryz.prog W=.ok () w'/\BoundW w' m (n+1) bs'/\W.grownBy w' (some m)/\w'.heap.size=W.heap.size/\∀ B,B<=m->Nw B W w':=by
 obtain ⟨l,h,hl⟩:=h;obtain ⟨w',hr,hm,hg,hs⟩:=h.store Tryz.underlying9 Tryz.underlying198 hn hx (v:=.int .i64 (bs'.count x:Int)) (a:=bs'.count x) (l':=(x,bs'.count x) :: l) (V':=fun v (c:Nat)=>v=.int .i64 (c:Int)) rfl (fun _ _ _ _ _ h=>h) (fun y=>by
  rw[getB]
  by_cases e:y=x
  ·subst e;simp
  ·rw[ak e];rw[ak (by simpa using fun h=>e h.symm)])
 refine ⟨w',hr,⟨_,hm,fun y=>?_⟩,hg,hs,fun B hB=>ZN hg h hm hB⟩;rw[getB]
 by_cases e:y=x
 ·subst e;simp
 ·rw[ak (by simpa using fun h=>e h.symm),hl y,hb y e]
section
attribute [local go_sem] Oper.semAt_some
theorem ZO (mb n c0 c1:Nat) (bs:List Str) (x:Str) (hx:x.length<=2000000) (W:World) (h0:W.cell? ⟨c0,0,none⟩=some (.map (some mb))) (hb:BoundW W mb n bs) (hc:0<bs.count x) :
  Calls Tryz.prog 213 #[.string ⟨x.toArray⟩,.pointer (some ⟨c0,0,none⟩),.pointer (some ⟨c1,0,none⟩)] W fun e w'=>e=.returned (.bool true)/\w'=W:=by
 have hr:=hb.look hx W rfl;have ⟨k,hk⟩:=aj (bs.count x);rw[<-hk]at hr hc;have hd:decide ((0:Int)<(k:Int))=true:=by simp;omega
 have KL:(0:Int)<(k:Int):=by omega
 clear hb hk hc;go_enter Tryz.func213,Tryz.ntmps213;go_wp2;go_ret;exact ⟨rfl,rfl⟩
theorem Vk (mb n l c0 c1:Nat) (bs:List Str) (x:Str) (hx:x.length<=2000000) (W:World) (R:World->Prop) (h0:W.cell? ⟨c0,0,none⟩=some (.map (some mb))) (h1:W.cell? ⟨c1,0,none⟩=some (.func (.yield l) #[] #[])) (hb:BoundW W mb n bs) (hc:bs.count x=0)
  (hy:YieldAt Fence.wide 0 Tryz.prog l #[.string ⟨x.toArray⟩] W fun e W'=>e=.returned (.bool true)/\R W') :
  Calls Tryz.prog 213 #[.string ⟨x.toArray⟩,.pointer (some ⟨c0,0,none⟩),.pointer (some ⟨c1,0,none⟩)] W fun e w'=>e=.returned (.bool true)/\R w':=by
 have hr:=hb.look hx W rfl;rw[hc]at hr;have hr:(Instr.lookup 198 (.map (some mb)) (.string ⟨x.toArray⟩) false).run Tryz.prog W=.ok (.int .i64 0) W:=hr;obtain ⟨fn,tmps,assign,body,hy,IP⟩:=j8 2 hy;clear hb hc;refine nG Tryz.func213 ?_;simp only[Tryz.ntmps213,Nat.reduceAdd,Nat.reduceSub,lE];have jx:=eU;gi_wp2;refine IP.mono ?_;rintro e W2 ⟨rfl,hR⟩;have HR:=ab hR;clear hR IP hy hr;gi_wp2;go_ret;exact ⟨rfl,HR.o⟩
structure FrJ (J:List Str->World->Prop) (pre:List Str) (M:Nat->Prop) (W0:World) (mb n:Nat) (bs:List Str) (l s:Nat) (p:List Str) (X:World):Prop where
 j:J (pre ++ p.filter (fun x=>!bs.contains x)) X
 kp:Kp M W0 X
 bd:BoundW X mb n bs
 b1:X.heap[s+1]?=some (.cells #[.map (some mb)] 198 (0,0))
 b2:X.heap[s+2]?=some (.cells #[.func (.yield l) #[] #[]] 113 (0,0))
theorem Ry {X Y:World} (h:Kp M W0 X) (hn:Nw B X Y) (hB:W0.heap.size<=B):Kp M W0 Y:=
 ⟨hn.os.trans h.os,hn.tape.trans h.tape,hn.output.trans h.output,aN h.size hn.size,fun b hb hm=>(hn.old (by omega) (bJ hb h.size)).trans (h.same b hb hm)⟩
theorem FrJ.abides {J:List Str->World->Prop} (hJ:∀ s,Abides W0.heap.size (J s)) (h0:W0.heap.size<=B) (hm:mb<B) (hs:s+2<B) (p:List Str):Abides B (FrJ J pre M W0 mb n bs l s p):=by
 intro X Y hn h;exact ⟨(hJ _).mono h0 X Y hn h.j,Ry h.kp hn h0,h.bd.same (hn.old hm h.bd.lt),(hn.old (by omega) (bA h.b1)).trans h.b1,(hn.old (by omega) (bA h.b2)).trans h.b2⟩
theorem El (g:α->Bool) {a b:List α} (h:a <+: b):a.filter g <+: b.filter g:=by
 obtain ⟨r,rfl⟩:=h;rw[List.filter_append];exact ⟨_,rfl⟩
theorem LM {p:List α} {x:α} {xs:List α} (h:(p ++ [x]) <+: xs):x∈xs:=h.subset (by simp)
theorem ZP {J:List Str->World->Prop} {xs:List Str} {a:List Tm} (hM:∀ b,M b->b<W0.heap.size) (DW:W0.heap.size<=mb) (hs:W0.heap.size<=s) (hY:YieldK M l J AY xs W0) (ar:fitTs a)
  (dq:(pre ++ (ao a).filter (fun x=>!bs.contains x)) <+: xs):FrG (fun b=>M b\/b=mb) (s+1) (s+2) (FrJ J pre M W0 mb n bs l s) (ao a):=by
 intro p x W1 h hp;have hxm:=LM hp;have z_:x.length<=2000000:=oN a ar.2 x hxm;have c0:W1.cell? ⟨s+1,0,none⟩=some (.map (some mb)):=ag h.b1 0;have c1:W1.cell? ⟨s+2,0,none⟩=some (.func (.yield l) #[] #[]):=ag h.b2 0
 by_cases hc:bs.contains x=true
 ·have hm:x∈bs:=by simpa using hc
  have hf:(p ++ [x]).filter (fun x=>!bs.contains x)=p.filter (fun x=>!bs.contains x):=by simp[List.filter_append,hm]
  refine (ZO mb n (s+1) (s+2) bs x z_ W1 c0 h.bd (List.count_pos_iff.2 (by simpa using hc))).mono ?_;rintro e w' ⟨rfl,rfl⟩;exact ⟨rfl,⟨by rw[hf];exact h.j,h.kp,h.bd,h.b1,h.b2⟩,Kp.refl _⟩
 ·have hm:¬x∈bs:=by simpa using hc
  have hf:(p ++ [x]).filter (fun x=>!bs.contains x)=p.filter (fun x=>!bs.contains x) ++ [x]:=by simp[List.filter_append,hm]
  have hpx:(pre ++ p.filter (fun x=>!bs.contains x) ++ [x]) <+: xs:=by
   have h1:=El (fun x=>!bs.contains x) hp;rw[hf]at h1;obtain ⟨r,hr⟩:=h1;rw[<-hr]at dq;obtain ⟨r2,Rz⟩:=dq;exact ⟨r ++ r2,by rw[<-Rz];simp⟩
  have hy:=hY (pre ++ p.filter (fun x=>!bs.contains x)) #[.string ⟨x.toArray⟩] x W1 h.j h.kp rfl hpx;refine (Vk mb n l (s+1) (s+2) bs x z_ W1 (fun W'=>J (pre ++ p.filter (fun x=>!bs.contains x) ++ [x]) W'/\Kp M W1 W') c0 c1 h.bd (by
   rw[List.count_eq_zero];simpa using hc) hy).mono ?_
  rintro e w' ⟨rfl,hj,hk⟩;have dD:∀ b,W0.heap.size<=b->¬M b:=fun b hb h=>by have:=hM b h;omega
  have l1:=(bA h.b1);have l2:=(bA h.b2);refine ⟨rfl,⟨by rw[hf,<-List.append_assoc];exact hj,h.kp.trans hk,h.bd.same (hk.same mb h.bd.lt (dD mb DW)),(hk.same _ l1 (dD _ (by omega))).trans h.b1,(hk.same _ l2 (dD _ (by omega))).trans h.b2⟩,hk.mono (fun b _ hb=>.inl hb)⟩
theorem oT {l:List Fm} {k:Nat} (h:k<l.length):bn b (l.take (k+1))=bn b (l.take k) ++ aL b l[k]:=by
 induction l generalizing k with
 | nil=>simp at h
 | cons t l ih=>
  cases k with
  | zero=>simp[bn]
  | succ k=>have:=ih (k:=k) (by simpa using h);simp[bn]at this ⊢;rw[this]
theorem om (b:List Str):∀ l m,bn b (l ++ m)=bn b l ++ bn b m
 | [],m=>rfl
 | t :: l,m=>by simp[bn,om b l m]
theorem Vl (mb n s:Nat) (bs:List Str) (x:Str) (hx:x.length<=2000000) (hn:n<4000000) (hl:bs.length<=4000000) (u:FrameMode) (W:World) (h0:W.cell? ⟨s+1,0,none⟩=some (.map (some mb))) (h1:W.cell? ⟨s,1,none⟩=some (.string ⟨x.toArray⟩)) (hb:BoundW W mb n (x :: bs)) :
  CallsD Tryz.prog 215 #[.pointer (some ⟨s+1,0,none⟩),.pointer (some ⟨s,0,none⟩)] u W fun e u' w'=>u'=u/\(e=.returned (.tuple #[])/\BoundW w' mb (n+1) bs/\W.grownBy w' (some mb)/\w'.heap.size=W.heap.size/\∀ B,B<=mb->Nw B W w'):=by
 have hr:=hb.look hx W rfl;obtain ⟨w4,cD,aR,xh,yh,KT⟩:=hb.store (bs':=bs) hn hx (fun y hy=>by rw[List.count_cons_of_ne];exact fun h=>hy h.symm);have hcl:bs.count x<=4000000:=aN List.count_le_length hl;rw[List.count_cons_self]at hr;have ⟨k,hk⟩:=aj (bs.count x);rw[<-hk]at hr cD hcl;have hr:(Instr.lookup 198 (.map (some mb)) (.string ⟨x.toArray⟩) false).run Tryz.prog W=.ok (.int .i64 ((k:Int)+1)) W:=by rw[hr];rfl
 have HQ:=cq aR xh yh KT;clear hb hk aR xh yh KT hl;go_enter_d Tryz.func215,Tryz.ntmps215;go_wp2;go_end0;exact ⟨rfl,HQ.o⟩
end
end Go.Proofs.YtokemihbkeddoaaGreatDoor
namespace Go.Proofs.YtokemihbkeddoaaGreatDoor
open Go Go.RowKit Go.Maps Go.Sort Go.Shelf
attribute [local go_sem] Oper.semAt_some
theorem Em:∀ (f:Fm),fitF f->∀ (M:Nat->Prop) (B l:Nat) (J:List Str->World->Prop) (xs pre:List Str) (W0 W:World) (q:FQ) (mb n:Nat) (bs:List Str),(∀ b,M b->b<W0.heap.size)->W0.heap.size<=mb->(∀ s,Abides W0.heap.size (J s))->YieldK M l J AY xs W0->FormV (fun b=>b<B/\¬M b) W0 q.val f →
  Kp M W0 W->BoundW W mb n bs->n+2 * nodesF f<4000000->bs.length+nodesF f<=4000000->(pre ++ aL bs f) <+: xs->J pre W →
  Calls Tryz.prog 149 #[q.val,.map (some mb),.func (.yield l) #[] #[]] W fun e W'=>e=.returned (.bool true)/\J (pre ++ aL bs f) W'/\Kp M W0 W'/\(∃n',n'<=n+2 * nodesF f/\BoundW W' mb n' bs)/\Kp (fun b=>M b\/b=mb) W W':=by
 intro f
 induction f using Fm.ind with
 | h o nm a ss ih=>
 intro ar M B l J xs pre W0 W q mb n bs hM DW hJ hY hq hk hb hn Qw dq hj;exact qez
theorem En (q:FQ) (w:World) :
  Calls Tryz.prog 85 #[q.val] w fun e w'=>e=.returned (.func (.func 148) #[] #[.pointer (some ⟨w.heap.size,0,none⟩)])/\w'=w.alloc (.cells #[.int .u8 q.o,.string q.n,.slice q.a q.l q.c,.slice q.b q.m q.e] 36):=by
 obtain ⟨o,n,a,l,c,b,m,e⟩:=q;unfold FQ.val;go_enter Tryz.func85,Tryz.ntmps85;go_wp2;go_ret;exact ⟨rfl,rfl⟩
attribute [local go_sem] run_makeMap in
theorem Eo (f:Fm) (ar:fitF f) (Im:nodesF f<=1000000) (M:Nat->Prop) (B X:Nat) (w:World) (q:FQ) (hX:w.heap[X]?=some (.cells #[.int .u8 q.o,.string q.n,.slice q.a q.l q.c,.slice q.b q.m q.e] 36 (0,0))) (KQ:¬M X) (hq:FormV (fun b=>b<B/\¬M b) w q.val f) :
  La M False Tryz.prog 148 #[.pointer (some ⟨X,0,none⟩)] (aL [] f) AY w:=by
 exact qb5
theorem yk {bs:List Str} {l:List Tm} {x:Str} (h:x∈(ao l).filter (fun x=>!bs.contains x)):x∈ao l:=(List.mem_filter.1 h).1
mutual
theorem nU {p:Nat}:∀ (f:Fm) (b:List Str),li p f=true->∀ x∈aL b f,x.length<=p
 | .mk o n a s,b,h,x,hx=>by
  simp only[li,ae]at h;unfold aL at hx;rcases List.mem_append.1 hx with hx | hx
  ·exact oN a h.2.2.1 x (yk hx)
  ·exact Je s _ h.2.2.2 x hx
theorem Je {p:Nat}:∀ (l:List Fm) (b:List Str),nmFs p l=true->∀ x∈bn b l,x.length<=p
 | [],_,_,x,hx=>by simp[bn]at hx
 | t :: l,b,h,x,hx=>by
  simp only[nmFs,ae]at h;unfold bn at hx;rcases List.mem_append.1 hx with hx | hx
  ·exact nU t b h.1 x hx
  ·exact Je l b h.2 x hx
end
theorem rn (t:Fm) (ar:fitF t) (Im:nodesF t<=1000000) (ok:Nat->Prop) (w:World) (q:FQ) (hq:FormV ok w q.val t) :
  Calls Tryz.prog 40 #[q.val] w fun e w'=>(∃v,e=.returned v/\RowS w.heap.size w' v (di (aL [] t)))/\RowKit.Below w.heap.size w w':=by
 have hq:=hq.lt;have nO:(aL [] t).length<=2000000:=aN (fp t []) ar.1;have ⟨W2,aZ⟩:=aj ((w.alloc (.cells #[.int .u8 q.o,.string q.n,.slice q.a q.l q.c,.slice q.b q.m q.e] 36)).alloc (.cells #[.int .u8 q.o,.string q.n,.slice q.a q.l q.c,.slice q.b q.m q.e] 36));exact qev
end Go.Proofs.YtokemihbkeddoaaGreatDoor
namespace Go.Proofs.YtokemihbkeddoaaGreatDoor
open Go Go.RowKit Lib
set_option maxRecDepth 100000
set_option maxHeartbeats 64000000
variable {lo B c i b kb mF mT nF nT:Nat} {W X w Y W' A C:World} {ok M:Nat->Prop} {o0 ou o1 o2:Obj} {T:TypeId} {v:Value} {t:Fm} {l:List Tm} {r:List Nat} {o:Option Nat} {x:Str} {PF:Fm->Prop} {PT:Tm->Prop} {k:Bd}
section
attribute [local go_sem] Oper.semAt_some
theorem RowT.made (cur:Array Value) (cap:Nat) (hb:lo<=W.heap.size) (hm:cap<=maxLen) (hs:cur.size=cap * 3):RowT lo (.slice (some ⟨W.heap.size,0,none⟩) 0 cap) [] (W.alloc (.cells cur 43)):=
 ⟨[],rfl,World.ownsRow_made W cur cap hb hm hs,fun j h=>by simp at h⟩
theorem RowF.made (cur:Array Value) (cap:Nat) (hb:lo<=W.heap.size) (hm:cap<=maxLen) (hs:cur.size=cap * 4):RowF lo (.slice (some ⟨W.heap.size,0,none⟩) 0 cap) [] (W.alloc (.cells cur 36)):=
 ⟨[],rfl,World.ownsRow_made W cur cap hb hm hs,fun j h=>by simp at h⟩
def XS (t:Tm):Prop:=∀ (ok:Nat->Prop) (w:World) (q:TQ),TermV ok w q.val t->Calls Tryz.prog 107 #[q.val] w fun e w'=>∃p:TQ,e=.returned p.val/\TermV (w.heap.size<=·) w' p.val t/\Below w.heap.size w w'
theorem tg (l:List Tm) (ar:fitTs l) (XT:∀ t∈l,XS t) (ok:Nat->Prop) (w:World) (a:Option Addr) (n c:Nat) (hv:TermsV ok w (.slice a n c) l) :
  Calls Tryz.prog 106 #[.slice a n c,.func (.func 107) #[] #[]] w fun e w'=>∃a' c',e=.returned (.slice a' l.length c')/\TermsV (w.heap.size<=·) w' (.slice a' l.length c') l/\Below w.heap.size w w':=by
 have qmF:=();exact qeG
def XU (t:Fm):Prop:=∀ (ok:Nat->Prop) (w:World) (q:FQ),FormV ok w q.val t->Calls Tryz.prog 51 #[q.val] w fun e w'=>∃p:FQ,e=.returned p.val/\FormV (w.heap.size<=·) w' p.val t/\Below w.heap.size w w'
theorem Ep (l:List Fm) (ar:fitFs l) (XT:∀ t∈l,XU t) (ok:Nat->Prop) (w:World) (a:Option Addr) (n c:Nat) (hv:FormsV ok w (.slice a n c) l) :
  Calls Tryz.prog 108 #[.slice a n c,.func (.func 51) #[] #[]] w fun e w'=>∃a' c',e=.returned (.slice a' l.length c')/\FormsV (w.heap.size<=·) w' (.slice a' l.length c') l/\Below w.heap.size w w':=by
 obtain ⟨i0,hi,ow,iM,gY⟩:=info_parts j9;obtain rfl:=hv.len;have bW:=ar.len
 by_cases h0:l=[]
 ·subst h0;go_enter Tryz.func108,Tryz.ntmps108;go_wp2;go_ret;exact ⟨none,0,rfl,f8,ai _ _⟩
 ·have ⟨k0,cd⟩:=aj l.length;exact qeH
theorem Er:∀ (t:Tm),fitT t->XS t:=by
 intro t
 induction t using Tm.ind with
 | h v n a ih=>
  intro ar ok w q hq;have qmG:=();exact qaF
theorem oU:∀ (t:Fm),fitF t->XU t:=by
 intro t
 induction t using Fm.ind with
 | h o n a s ih=>
  intro ar ok w q hq;have qmH:=();exact qas
theorem r' {p:FQ} {f:Fm} (h:FormV ok X p.val f) (hB:ok B) (hx:X.heap[B]?=some (.cells #[.int .u8 p.o,.string p.n,.slice p.a p.l p.c,.slice p.b p.m p.e] 36 (0,0))):FormsV ok X (.slice (some ⟨B,0,none⟩) 1 c) [f]:=
 ⟨_,c,fun _=>p.val,rfl,.inr ⟨B,0,rfl,hB,fun j hj=>by
  obtain rfl:j=0:=by simpa using hj
  exact ⟨_,_,_,_,rfl,ag hx 0,ag hx 1,ag hx 2,ag hx 3⟩⟩,fun j hj=>by
  obtain rfl:j=0:=by simpa using hj
  exact h⟩
structure PutB (w:World) (o0 ou o1 o2:Obj) (X:World):Prop where
 below:Below w.heap.size w X
 b0:X.heap[w.heap.size]?=some o0
 bu:X.heap[w.heap.size+1]?=some ou
 b1:X.heap[w.heap.size+1+1]?=some o1
 b2:X.heap[w.heap.size+1+1+1]?=some o2
theorem PutB.keep (h:PutB w o0 ou o1 o2 X) (h1:Y.os=X.os) (h2:Y.tape=X.tape) (h3:Y.output=X.output) (h4:X.heap.size<=Y.heap.size) (h5:∀ b,b<=w.heap.size+3->Y.heap[b]?=X.heap[b]?):PutB w o0 ou o1 o2 Y:=
 ⟨⟨h1.trans h.below.os,h2.trans h.below.tape,h3.trans h.below.output,aN h.below.size h4,fun b hb=>(h5 b (by omega)).trans (h.below.block b hb)⟩,(h5 _ (by omega)).trans h.b0,(h5 _ (by omega)).trans h.bu,(h5 _ (by omega)).trans h.b1,(h5 _ (by omega)).trans h.b2⟩
theorem PutB.lt (h:PutB w o0 ou o1 o2 X):w.heap.size+3<X.heap.size:=(bA h.b2)
theorem PutB.later (h:PutB w o0 ou o1 o2 X) (hb:Below X.heap.size X Y):PutB w o0 ou o1 o2 Y:=
 h.keep hb.os hb.tape hb.output hb.size (fun b bG=>hb.block b (by have:=h.lt;omega))
theorem PutB.grown (h:PutB w o0 ou o1 o2 X) {bo:Option Nat} (hg:X.grownBy Y bo) (jy:∀ b,bo=some b->w.heap.size+3<b):PutB w o0 ou o1 o2 Y:=
 h.keep hg.os hg.tape hg.output hg.size (fun b bG=>hg.block b (by have:=h.lt;omega) (fun e=>by have:=jy b e.symm;omega))
theorem PutB.setR {cs:Array Value} (h:PutB w o0 ou o1 (.cells cs T (0,0)) X) (F:Nat) (v:Value):PutB w o0 ou o1 (.cells (cs.setIfInBounds F v) T (0,0)) (X.setCell ⟨w.heap.size+1+1+1,F,none⟩ v):=
 ⟨⟨h.below.os,h.below.tape,h.below.output,by simpa using h.below.size,fun b hb=>(eC _ _ _ _ (by simp <;> omega)).trans (h.below.block b hb)⟩,(eC _ _ _ _ (by simp <;> omega)).trans h.b0,(eC _ _ _ _ (by simp <;> omega)).trans h.bu,(eC _ _ _ _ (by simp)).trans h.b1,bp h.b2 v⟩
def ZT (kk:Nat):Prop:=∀ (W0:World) (f:Fm) (nx:Str) (z:Tm),fitF f->nodesF f<=100000->gS f=true->qone f=true->depthF f<=kk->nx.length<=2000000->fitT z->nodesT z<=100000->∀ (ok OP:Nat->Prop) (w:World) (q:FQ) (zq:TQ),Tabs W0 w->FormV ok w q.val f->TermV OP w zq.val z →
 Calls Tryz.prog 101 #[q.val,.string ⟨nx.toArray⟩,zq.val] w fun e w'=>(∃p:FQ,e=.returned p.val/\FormV (w.heap.size<=·) w' p.val (fI kk nx z f))/\Below w.heap.size w w'
theorem ZU (kk:Nat) (IH:ZT kk):ZT (kk+1):=by
 have qmI:=();exact qbg
theorem Jk:∀ k,ZT k
 | 0=>fun W0 f nx z _ _ _ _ hd=>by have:=mL f;omega
 | k+1=>ZU k (Jk k)
theorem vU (W0:World) (f:Fm) (nx:Str) (z:Tm) (hf:fitF f) (hn:nodesF f<=100000) (hw:gS f=true) (hq:qone f=true) (hx:nx.length<=2000000) (hz:fitT z) (Nu:nodesT z<=100000) (ok OP:Nat->Prop) (w:World) (q:FQ) (zq:TQ) (hT:Tabs W0 w) (h:FormV ok w q.val f) (h2:TermV OP w zq.val z) :
  Calls Tryz.prog 101 #[q.val,.string ⟨nx.toArray⟩,zq.val] w fun e w'=>(∃p:FQ,e=.returned p.val/\FormV (w.heap.size<=·) w' p.val (e9 nx z f))/\Below w.heap.size w w':=
 Jk (depthF f) W0 f nx z hf hn hw hq (aC _) hx hz Nu ok OP w q zq hT h h2
theorem FormV.kp3 (h:FormV (fun b=>b<B/\¬M b/\ok b) W v t) (hk:Kp M W W'):FormV (fun b=>b<B/\¬M b/\ok b) W' v t:=h.move (fun b hb hlt=>⟨hb,hk.same b hlt hb.2.1⟩)
theorem LO (o:Int) (n:Str) (a:List Tm) (s:List Fm) (i:Nat) (r:List Nat) (ins:List Str):j7 (.mk o n a s) (i :: r) ins=match s[i]? with | some g=>j7 g r (if bm o then n :: ins else ins) | none=>none:=rfl
theorem BO (h:r≠[]):jI l (i :: r)=match l[i]? with | some t=>jI t.a r | none=>none:=by
 cases r with
 | nil=>exact absurd rfl h
 | cons j r=>rfl
theorem LP (h:l[i]?=none):jI l (i :: r)=none:=by
 cases r with
 | nil=>exact h
 | cons j r=>rw[BO (by simp),h]
theorem oV {B:World} (h:Kp M A B) (hg:B.grownBy C o) (ho:∀ g,o=some g->A.heap.size<=g):Kp M A C:=
 ⟨hg.os.trans h.os,hg.tape.trans h.tape,hg.output.trans h.output,aN h.size hg.size,fun b hb hm=>(hg.block b (bJ hb h.size) (fun e=>by have:=ho b (by first | exact e | exact e.symm);omega)).trans (h.same b hb hm)⟩
theorem zbg {B:World} (h:Below A.heap.size A B) (hg:B.grownBy C o) (ho:∀ g,o=some g->lo<=g):Kp (fun b=>lo<=b) A C:=
 ⟨hg.os.trans h.os,hg.tape.trans h.tape,hg.output.trans h.output,aN h.size hg.size,fun b hb hm=>(hg.block b (bJ hb h.size) (fun e=>by have:=ho b (by first | exact e | exact e.symm);omega)).trans (h.block b hb)⟩
theorem IntsV.apart {l:List Nat} (h:IntsV W v l) {off:Nat} {n:Nat} (hv:v=.slice (some ⟨b,off,none⟩) n c) (jb:l≠[]) {o:Int} {s:ByteArray} {a1 a2:Option Addr} {n1 c1 n2 c2:Nat} (hx:W.heap[B]?=some (.cells #[.int .u8 o,.string s,.slice a1 n1 c1,.slice a2 n2 c2] T (0,0))):b≠B:=by
 rintro rfl;obtain ⟨a,cap,jW,_,h⟩:=h;rcases h with h | ⟨b2,off2,ha,hc⟩
 ·exact jb h
 ·rw[ha,hv]at jW;injection jW with h1 _ _;injection h1 with h1;injection h1 with h1 h2;subst h1 h2;have h0:=hc 0 (jp.2 jb);rw[aF hx]at h0
  match hk:off+0,h0 with
  | 0,h=>simp at h
  | 1,h=>simp at h
  | 2,h=>simp at h
  | 3,h=>simp at h
  | n+4,h=>simp at h
theorem BP (h:W.heap[b]?=some (.cells #[.string ⟨x.toArray⟩] T (0,0))):StrsO (fun _=>True) W (.slice (some ⟨b,0,none⟩) 1 1) [x]:=
 ⟨_,1,rfl,aC _,.inr ⟨b,0,rfl,trivial,fun j hj=>by simp at hj;subst hj;exact ag h 0⟩⟩
theorem OR (f im:Fm) (x:Str) (Rx:fitF f) (hfi:fitF im) (hp:(kv x f).isSome=true) (ok:Nat->Prop) (w:World) (q r:FQ) (hq:FormV ok w q.val f) (hr:FormV ok w r.val im) :
  Calls Tryz.prog 98 #[q.val,r.val,.string ⟨x.toArray⟩] w fun e w'=>(∃p:TQ,e=.returned (.tuple #[p.val,.bool (gD f im x).isSome])/\∀ u,gD f im x=some u->TermV (fun b=>b<w.heap.size/\ok b) w' p.val u)/\Below w.heap.size w w':=by
 obtain ⟨⟨p,pq⟩,mI⟩:=Option.isSome_iff_exists.1 hp;obtain ⟨hpq,hpl,zbh⟩:=vM f _ mI;have sU:=Rx.1;simp only at hpq hpl zbh;have ⟨R,hR⟩:=aj (gD f im x);have rj:=hR;unfold gD at rj;rw[mI]at rj;simp only at rj;rw[<-hR];obtain ⟨M,hM⟩:∃M:Nat->Prop,M=fun b=>b=w.heap.size+1:=⟨_,rfl⟩;have ⟨W3,dF⟩:=aj (((w.alloc (.cells #[.int .u8 q.o,.string q.n,.slice q.a q.l q.c,.slice q.b q.m q.e] 36)).alloc (.cells #[.int .u8 r.o,.string r.n,.slice r.a r.l r.c,.slice r.b r.m r.e] 36)).alloc (.cells #[.bool false,.string ⟨#[]⟩,.slice none 0 0] 43));have aG:=uS dF;have qB:=Ir dF;have x1:=qN dF;have x2:=oD dF;have x0:=yX dF;have CC:=Rf f x ok W3 q Rx (hq.later aG);rw[mI]at CC;simp only[Option.map,Option.getD]at CC;have ik:FormV (fun b=>b<w.heap.size/\¬M b/\ok b) w r.val im:=hr.move (fun b hok hlt=>⟨⟨hlt,by rw[hM];simp;omega,hok⟩,rfl⟩);obtain ⟨q0,q1,q2,q3,q4,q5,q6,q7⟩:=q;obtain ⟨r0,r1,r2,r3,r4,r5,r6,r7⟩:=r;have ⟨n1,eh⟩:=aj p.length;have ⟨n2,i_⟩:=aj pq.length;have OS:n1<=2000000:=by omega
 have Vs:n2<=2000000:=by omega
 have ⟨HC,HR⟩:=aS CC rj;have HM:=bx hM qB aG;have HN:=bx eh i_ hpq;have X7:=aA ik hfi;have HX:=bx x0 x1 x2;have Af:=ab dF;simp only at Af HX X7 HC;clear CC rj hM qB aG eh i_ hpq ik hfi x0 x1 x2 dF hR hq hr Rx hp mI hpl zbh sU;unfold FQ.val at HC X7 ⊢;go_enter Tryz.func98,Tryz.ntmps98;go_wp2_with (rw[<-Af.o];go_at_call 165;refine HC.o.mono ?_;rintro e w4 ⟨⟨v1,v2,rfl,h1,h2⟩,aR⟩;obtain ⟨a1,k1,rfl⟩:=h1.slice;obtain ⟨a2,k2,rfl⟩:=h2.slice;simp only[]at h1 h2 ⊢;have H4:=bx h1 h2 aR;rw[<-HN.o.1,<-HN.o.2.1];clear h1 h2 aR);go_loopw [10,27] (fun v i wr=>∃(k:Nat) (cur:Fm) (ins:List Str) (c:FQ),k<=n1/\i=.int .i64 k/\Kp M w4 wr/\wr.heap[w.heap.size+1]?=some (.cells #[.int .u8 c.o,.string c.n,.slice c.a c.l c.c,.slice c.b c.m c.e] 36 (0,0))/\FormV (fun b=>b<w.heap.size/\¬M b/\ok b) wr c.val cur/\fitF cur/\OwnS w4.heap.size wr v ins.reverse/\ins.length<=k/\j7 im p []=j7 cur (p.drop k) ins) (fun _ i _=>n1 - (intOf i).toNat)
 case atStart=>exact ⟨0,im,[],⟨r0,r1,r2,r3,r4,r5,r6,r7⟩,aX _,rfl,Kp.refl _,(H4.o.2.2.block _ (by have:=HM.o.2.1;omega)).trans HX.o.2.1,(X7.o.1.later HM.o.2.2).later (H4.o.2.2.mono (by have:=HM.o.2.1;omega)),X7.o.2,OwnS.nil _ _,aX _,by simp⟩
 case round=>
  obtain ⟨k,cur,ins,c,hk,rfl,bi,zw,Z6,Z7,au,OT,KU⟩:=hrel
  by_cases hlt:k<n1
  ·have D5:=cb HN.o.1 hlt;have jb:p≠[]:=fun h=>by rw[h]at D5;simp at D5
   obtain ⟨b,off,rfl,hcs⟩:=H4.o.1.get jb;have xP:b≠w.heap.size+1:=H4.o.1.apart rfl jb ((H4.o.2.2.block _ (by have:=HM.o.2.1;omega)).trans HX.o.2.1);have ci:wr.cell? ⟨b,off+k,none⟩=some (.int .i64 (p[k]:Nat)):=bi.cell (by rw[HM.o.1];exact xP) (hcs k D5);have ⟨i0,qJ⟩:=aj (p[k]);rw[<-qJ]at ci;obtain ⟨co,cn,cas,oo⟩:=cur;rw[gB D5,LO,<-qJ]at KU;have qmJ:=();exact qeI
  ·obtain rfl:k=n1:=by omega
   have hdn:p.drop k=[]:=by rw[HN.o.1];exact List.drop_length
   rw[hdn]at KU;obtain ⟨co,cn,cas,oo⟩:=cur;exact qeI
def FormK (ok:Nat->Prop) (PF:Fm->Prop) (W:World) (v:Value) (t:Fm):Prop:=∃q:FQ,v=q.val/\FormV ok W q.val t/\PF t
def TermK (ok:Nat->Prop) (PT:Tm->Prop) (W:World) (v:Value) (t:Tm):Prop:=∃q:TQ,v=q.val/\TermV ok W q.val t/\PT t
structure KnV (ok:Nat->Prop) (PF:Fm->Prop) (PT:Tm->Prop) (W:World) (kb mF mT nF nT:Nat) (k:Bd):Prop where
 box:W.heap[kb]?=some (.cells #[.map (some mF),.map (some mT)] 148 (0,0))
 fs:MapV Tryz.prog 9 (FormK ok PF W) W mF nF k.fs
 ts:MapV Tryz.prog 9 (TermK ok PT W) W mT nT k.ts
 ne1:mF≠mT
 ne2:kb≠mF
 ne3:kb≠mT
theorem KnV.move {ok':Nat->Prop} (h:KnV ok PF PT W kb mF mT nF nT k) (hb:gF ok ok' W W') (h1:W'.heap[kb]?=W.heap[kb]?) (h2:W'.heap[mF]?=W.heap[mF]?) (h3:W'.heap[mT]?=W.heap[mT]?):KnV ok' PF PT W' kb mF mT nF nT k:=
 ⟨h1.trans h.box,h.fs.move h2 (fun _ _ _ _ ⟨q,e,hv,hp⟩=>⟨q,e,hv.move hb,hp⟩),h.ts.move h3 (fun _ _ _ _ ⟨q,e,hv,hp⟩=>⟨q,e,hv.move hb,hp⟩),h.ne1,h.ne2,h.ne3⟩
theorem KnV.ltb (h:KnV ok PF PT W kb mF mT nF nT k):kb<W.heap.size:=(bA h.box)
theorem KnV.later (h:KnV ok PF PT W kb mF mT nF nT k) (hb:Below W.heap.size W W'):KnV ok PF PT W' kb mF mT nF nT k:=
 h.move (dI hb) (hb.block _ h.ltb) (hb.block _ h.fs.lt) (hb.block _ h.ts.lt)
theorem KnV.storeF (h:KnV ok PF PT W kb mF mT nF nT k) (hok:¬ok mF) (hn:nF<4000000) (hx:x.length<=2000000) {q:FQ} (hq:FormV ok W q.val t) (hp:PF t) {l':List (Str×Fm)} (hl:∀ y,getB l' y=if y=x then some t else getB k.fs y) :
  ∃w',(Instr.mapUpdate 145 (.map (some mF)) (.string ⟨x.toArray⟩) q.val).run Tryz.prog W=.ok () w'/\KnV ok PF PT w' kb mF mT (nF+1) nT ⟨l',k.ts⟩/\Kp (fun b=>b=mF) W w'/\w'.heap.size=W.heap.size:=by
 obtain ⟨w',hr,hm,hg,hs⟩:=h.fs.store Tryz.underlying9 Tryz.underlying145 hn hx (v:=q.val) (a:=t) (l':=l') (V':=FormK ok PF W) ⟨q,rfl,hq,hp⟩ (fun _ _ _ _ _ h=>h) hl;have kp:Kp (fun b=>b=mF) W w':=Kp.grown hg rfl;have qmK:=();exact qeJ
theorem KnV.storeT (h:KnV ok PF PT W kb mF mT nF nT k) (hok:¬ok mT) (hn:nT<4000000) (hx:x.length<=2000000) {q:TQ} {t:Tm} (hq:TermV ok W q.val t) (hp:PT t) {l':List (Str×Tm)} (hl:∀ y,getB l' y=if y=x then some t else getB k.ts y) :
  ∃w',(Instr.mapUpdate 146 (.map (some mT)) (.string ⟨x.toArray⟩) q.val).run Tryz.prog W=.ok () w'/\KnV ok PF PT w' kb mF mT nF (nT+1) ⟨k.fs,l'⟩/\Kp (fun b=>b=mT) W w'/\w'.heap.size=W.heap.size:=by
 obtain ⟨w',hr,hm,hg,hs⟩:=h.ts.store Tryz.underlying9 Tryz.underlying146 hn hx (v:=q.val) (a:=t) (l':=l') (V':=TermK ok PT W) ⟨q,rfl,hq,hp⟩ (fun _ _ _ _ _ h=>h) hl;have kp:Kp (fun b=>b=mT) W w':=Kp.grown hg rfl;exact qeJ
theorem yo {α:Type} {l:List (Str×α)} (hd:(l.map (·.1)).Nodup) {k:Nat} (hk:k<l.length) (y:Str):getB (l.take (k+1)) y=if y=l[k].1 then some l[k].2 else getB (l.take k) y:=by
 rw[List.take_add_one,io hk];have zdx:∀ (a:List (Str×α)) (x:Str×α),getB (a ++ [x]) y=match getB a y with | some v=>some v | none=>if x.1=y then some x.2 else none:=by
  intro a x
  induction a with
  | nil=>obtain ⟨x1,x2⟩:=x;simp[getB]
  | cons z a ih=>
   obtain ⟨z1,z2⟩:=z;simp only[oC,getB]
   by_cases hz:(z1 == y)=true
   ·simp[hz]
   ·simp only[hz];simpa using ih
 show getB (l.take k ++ [l[k]]) y=_;rw[zdx]
 by_cases hy:y=l[k].1
 ·have hn:getB (l.take k) y=none:=by
   rw[iy];intro hm;rw[hy]at hm;have h2:l.map (·.1)=(l.take k).map (·.1) ++ l[k].1 :: (l.drop (k+1)).map (·.1):=by
    have h3:l=l.take k ++ l[k] :: l.drop (k+1):=by rw[<-gB hk];exact (List.take_append_drop k l).symm
    have h4:=congrArg (List.map (·.1)) h3;rw[List.map_append,cC]at h4;exact h4
   rw[h2]at hd;exact (List.nodup_append.1 hd).2.2 _ hm _ (by simp) rfl
  rw[hn,aw hy,aw hy.symm]
 ·rw[ak hy,ak (fun h=>hy h.symm)];cases getB (l.take k) y <;> rfl
end
section
attribute [local go_sem] Oper.semAt_some
attribute [local go_sem] run_makeMap
theorem Jm (b:Bd) (hF:b.fs.length<=1000000) (hT:b.ts.length<=1000000) (sL:∀ x∈b.fs,x.1.length<=2000000) (qW:∀ x∈b.ts,x.1.length<=2000000) (hdF:(b.fs.map (·.1)).Nodup) (hdT:(b.ts.map (·.1)).Nodup) (PF:Fm->Prop) (PT:Tm->Prop) (hPF:∀ x∈b.fs,PF x.2) (Ya:∀ x∈b.ts,PT x.2) (ok:Nat->Prop) (w:World) (q:BQ) (hq:BindV ok w q b) :
  Calls Tryz.prog 46 #[q.val] w fun e w'=>e=.returned (.pointer (some ⟨w.heap.size+1+1+1,0,none⟩))/\KnV (fun b=>b<w.heap.size) PF PT w' (w.heap.size+1+1+1) (w.heap.size+1) (w.heap.size+1+1) b.fs.length b.ts.length b/\Below w.heap.size w w':=by
 have hq:=hq.move (ok':=fun b=>b<w.heap.size) (fun b _ hlt=>⟨hlt,rfl⟩);have qmL:=();exact qeK
