/-
'open' of package match: whether filling a place brings a placeholder that no quantifier around it takes.
Plain laws of matching: what each place of a match says;images without bound names.
Plain laws of filling: what is filled in is the formula,up to bound names.
Plain laws of filling: right formulas and free names,from formulas without bound names;what is needed is known.
The plain law of MatchFill: what has matched is filled.
The plain law of MatchScope.
Images of alike parts are alike.
Where a placeholder stands,without bound names: what is found in alike formulas is the same.
The plain law of MatchAlpha: alike formulas are matched alike.
What stands for the free names is told by a formula without bound names;the size where a term is put;arguments match what is filled in for them.
What has been filled fits the binding with which it was filled.
-/
import Derived.Test.YtokemihbkeddoaaGreatDoorU00
import Derived.Test.YtokemihbkeddoaaGreatDoorU23
import Derived.Test.YtokemihbkeddoaaGreatDoorU17
import Derived.Test.YtokemihbkeddoaaGreatDoorU08
namespace Go.Proofs.YtokemihbkeddoaaGreatDoor
open Go Go.RowKit Lib
set_option maxRecDepth 100000
set_option maxHeartbeats 64000000
section
attribute [local go_sem] Oper.semAt_some
mutual
theorem E4 (k:List (Str×Tm)):∀ t,∀ x∈jy k t,dy x=true
 | .mk v n a=>fun x hx=>by
  unfold jy at hx
  split at hx
  ·exact (List.mem_filter.1 hx).2
  ·exact nu k a x hx
theorem nu (k:List (Str×Tm)):∀ l,∀ x∈dm k l,dy x=true
 | []=>fun x hx=>by simp[dm]at hx
 | t :: l=>fun x hx=>by
  simp only[dm,List.mem_append]at hx
  exact hx.elim (E4 k t x) (nu k l x)
end
theorem E5 (k:Bd) (s:Fm):∀ x∈om k s,dy x=true:=by
 obtain ⟨o,n,a,ss⟩:=s
 intro x hx
 rw[tW]at hx
 split at hx
 ·exact (List.mem_filter.1 hx).2
 ·split at hx
  ·simp only at hx
   split at hx
   ·exact (List.mem_filter.1 hx).2
   ·rcases List.mem_append.1 hx with h | h
    ·exact (List.mem_filter.1 (List.mem_filter.1 h).1).2
    ·exact (List.mem_filter.1 h).2
  ·exact nu _ _ x hx
theorem Hf {x:Str} (h:dy x=true):∃r,x=63 :: r:=qu (by
 cases h2:(x.head? == some 63)
 ·simp[dy,h2]at h
 ·rfl)
theorem CZ:∀ args W,(callFunc 196 args).run Tryz.prog W=.ok (.enter 196 args) W:=enters_of Tryz.func196 (by kernel_rfl) rfl
theorem Ku (q:PlQ) (ps:List (Str×Str)) (kP:ps.length<=1000000) (r:Str) (hr:r.length<=2000000) (B:Nat) (w:World) (hB:w.heap[B]?=some (.cells q.cells 89 (0,0))) (hv:PairsV w (.slice q.a q.l q.c) ps) :
  Calls Tryz.prog 196 #[.string ⟨(63 :: r).toArray⟩,.pointer (some ⟨B,0,none⟩)] w fun e w'=>e=.returned (.bool (!(ps.map (·.1)).contains r))/\Below w.heap.size w w':=by
 have HC:=ab (AY q ps kP r w.drew (hv.later ((Below.refl w.heap.size w).drew)))
 have pp97g:=();exact pm97
mutual
theorem Kv {k:List (Str×Tm)} (hk:∀ x:Str,x.length<=2000000->iS 17 (termOf k x)=true):∀ t,iS 2000000 t=true->∀ x∈jy k t,x.length<=2000000
 | .mk v n a=>fun h x hx=>by
  have pp295c:=();exact pm295
theorem qS {k:List (Str×Tm)} (hk:∀ x:Str,x.length<=2000000->iS 17 (termOf k x)=true):∀ l,dF 2000000 l=true->∀ x∈dm k l,x.length<=2000000
 | []=>fun _ x hx=>by simp[dm]at hx
 | t :: l=>fun h x hx=>by
  simp only[dF,Bool.and_eq_true]at h
  simp only[dm,List.mem_append]at hx
  exact hx.elim (Kv hk t h.1 x) (qS hk l h.2 x)
end
theorem Kw {lN:Nat->Prop} {W:World} {kb mF mT nF nT:Nat} {k:Bd} (dw:KnV lN goodF goodT W kb mF mT nF nT k) (s:Fm) (hs:okF true s=true) (pA:nodesF s<=400):(om k s).length<=2000000/\∀ x∈om k s,x.length<=2000000:=by
 have ki:=gB _ hs
 obtain ⟨o,n,a,ss⟩:=s
 simp only[ks,Bool.and_eq_true,decide_eq_true_eq]at ki
 have zX:ac a<=400:=by simp only[nodesF]at pA;omega
 have lj:n.length<=2000000:=by have:=ki.2.1;omega
 obtain ⟨q,_,J8,pU,_⟩:=dw.formOf (x:=n) lj
 have iR:(de (aO [] (formOf k.fs n))).length<=400:=by have h1:=ei (aO [] (formOf k.fs n));have h2:=fj (formOf k.fs n) [];omega
 have we:∀ x∈de (aO [] (formOf k.fs n)),x.length<=2000000:=fun x hx=>nd _ [] J8.2 x ((dj x _).1 hx)
 rw[tW]
 by_cases lK:o=15
 ·rw[if_pos lK]
  exact ⟨Nat.le_trans (List.length_filter_le _ _) (by omega),fun x hx=>we x (List.mem_filter.1 hx).1⟩
 rw[if_neg lK]
 by_cases iE:o=16
 ·subst iE
  rw[if_pos rfl]
  obtain ⟨x,y,ej,F0,CU,aW⟩:=iH hs
  rw[aW]
  have EY:=fK CU
  obtain ⟨q2,_,_,htn,htm,_⟩:=dw.termOf (x:=y) (by omega)
  simp only
  split
  ·exact ⟨Nat.le_trans (List.length_filter_le _ _) (by omega),fun x hx=>we x (List.mem_filter.1 hx).1⟩
  ·refine ⟨?_,fun z hz=>?_⟩
   ·rw[List.length_append]
    have h1:=List.length_filter_le (fun z=>z != cH x) ((de (aO [] (formOf k.fs n))).filter dy)
    have h2:=List.length_filter_le dy (de (aO [] (formOf k.fs n)))
    have h3:=List.length_filter_le dy (de (aI (termOf k.ts y)))
    have h4:=ei (aI (termOf k.ts y))
    have h5:=lm (termOf k.ts y)
    omega
   ·rcases List.mem_append.1 hz with h | h
    ·exact we z (List.mem_filter.1 (List.mem_filter.1 h).1).1
    ·exact Nat.le_trans (ln _ htm z ((dj z _).1 (List.mem_filter.1 h).1)) (by decide)
 ·rw[if_neg iE]
  have c9:dF 2000000 a=true:=ev (by omega) a ki.2.2.1
  refine ⟨?_,qS (fun x hx=>by obtain ⟨_,_,_,_,h,_⟩:=dw.termOf (x:=x) hx;exact h) a c9⟩
  have:=nr (fun x hx=>jG dw (x:=x) hx) a c9
  omega
theorem Nd (lN:Nat->Prop) (kb mF mT nF nT:Nat) (k:Bd) (p:Pl) (ps:List (Str×Str)) (RR:p.c=ps.reverse) (kP:ps.length<=1000000) (hs:okF true p.s=true) (pA:nodesF p.s<=400) (ok:Nat->Prop) (w:World) (dw:KnV lN goodF goodT w kb mF mT nF nT k) (q:PlQ) (hq:FormV ok w q.s.val p.s) (hv:PairsV w (.slice q.a q.l q.c) ps) :
  Calls Tryz.prog 125 #[.pointer (some ⟨kb,0,none⟩),q.val] w fun e w'=>e=.returned (.bool (AE k p))/\Below w.heap.size w w':=by
 obtain ⟨W1,bQ⟩:=ao (w.alloc (.cells q.cells 89))
 have hb1:=cB bQ
 have x1:=bN bQ
 have pw:=Kw dw p.s hs pA
 have uU:=E5 k p.s
 have wB:=He lN kb mF mT nF nT k p.s hs pA ok W1 (dw.later hb1) q (hq.later hb1)
 obtain ⟨l,hl⟩:=ao (om k p.s)
 obtain ⟨R,hR⟩:=ao (AE k p)
 have hE:=hR
 unfold AE at hE
 rw[<-hl]at hE wB pw uU
 rw[<-hR]
 have HX:=aF hb1 x1
 have hop:∀ W,Below W1.heap.size W1 W->PredS (fun x=>!(ps.map (·.1)).contains x.tail) 196 #[.pointer (some ⟨w.heap.size,0,none⟩)] l (Below W.heap.size W):=fun W hW x V hx hV=>by
  obtain ⟨r,rfl⟩:=Hf (uU x hx)
  have hr:=pw.2 _ hx
  exact Ku q ps kP r (by simp at hr;omega) w.heap.size V (bC ((hW.tr hV)) x1) (hv.later (hb1.tr (hW.tr hV)))
 have oI:R=l.any (fun x=>!(ps.map (·.1)).contains x.tail):=by
  rw[hE]
  congr 1
  funext x
  rw[RR]
  congr 1
  rw[Bool.eq_iff_iff]
  simp only[List.contains_iff_mem,List.mem_map,List.mem_reverse]
 have ll:=ab (fun (W:World) (v:Value) (hW:Below W1.heap.size W1 W) (hvv:OwnS W1.heap.size W v l)=>Am _ l pw.1 196 #[.pointer (some ⟨w.heap.size,0,none⟩)] CZ _ W v (hop W hW) hvv.strs)
 rw[<-oI]at ll
 obtain ⟨wB,lI⟩:=aS wB bQ
 have pp97h:=();exact pm97
end
/-! what each place of a match says -/
/-! arguments -/
/-! images without bound names -/
def sy (c:Sco) (ins:List Str) (σ:Str->Dt) (z:Str):Dt:=if ins.contains z then σ z else match cP c z with | some y=>σ y | none=>σ z
mutual
theorem PQ {c:Sco} (σ:Str->Dt) (ins:List Str):∀ (t u:Tm),io c ins t=some u->l_ σ u=l_ (sy c ins σ) t
 | .mk v n a,u,h=>by
  unfold io at h
  cases v with
  | true=>
   simp only[↓reduceIte]at h
   simp only[l_,↓reduceIte,sy]
   split at h
   ·rename_i hc
    simp only[Option.some.injEq]at h
    subst h
    rw[if_pos hc]
    simp[ap,l_]
   ·rename_i hc
    obtain ⟨y,hy,rfl⟩:=Option.map_eq_some_iff.1 h
    rw[if_neg hc,hy]
    simp[ap,l_]
  | false=>
   simp only[Bool.false_eq_true,↓reduceIte]at h
   obtain ⟨m,hm,rfl⟩:=Option.map_eq_some_iff.1 h
   simp[l_,yC σ ins a m hm]
theorem yC {c:Sco} (σ:Str->Dt) (ins:List Str):∀ (t u:List Tm),dU c ins t=some u->ia σ u=ia (sy c ins σ) t
 | [],u,h=>by simp only[dU,Option.some.injEq]at h;subst h;simp[ia]
 | t :: l,u,h=>by
  simp only[dU]at h
  cases h1:io c ins t with
  | none=>rw[h1]at h;simp at h
  | some x=>
   cases h2:dU c ins l with
   | none=>rw[h1,h2]at h;simp at h
   | some m=>
    have pp235d:=();exact pm235
end
theorem Kx {c:Sco} {n:Str} (hn:fQ n=true) (σ:Str->Dt) (ins:List Str) (v:Dt):sy c (n :: ins) (upd σ n v)=upd (sy c ins σ) n v:=by
 funext z
 unfold sy upd
 by_cases hz:z=n
 ·subst hz;simp
 ·have e1:(z == n)=false:=by simpa using hz
  simp only[List.contains_cons,e1,Bool.false_or,Bool.false_eq_true,↓reduceIte]
  split
  ·rfl
  ·cases hy:cP c z with
   | none=>rfl
   | some y=>
    simp only
    rcases xf hy with rfl | ⟨s,hs,rfl⟩
    ·simp[e1]
    ·have:(cH s == n)=false:=by
      rw[Bool.eq_false_iff];intro h
      rw[beq_iff_eq]at h
      have h1:=D9 hn
      rw[<-h]at h1 hn
      simp only[fQ,cH,oe,Bool.and_eq_true]at hn
      exact absurd hn.2.2.1.1 (by decide)
     simp[this]
theorem mL {sc:Bool} {o:Int} {n:Str} {a:List Tm} {s:List Fm} (h:okF sc (.mk o n a s)=true) (hq:bn o=true):fQ n=true/\a=[]/\∃g,s=[g]:=by
 have h1:=h
 simp only[okF,Bool.and_eq_true]at h
 have:=rI _ h1
 obtain ⟨e1,e2⟩:=m_ hq this
 have h5:=h.2.1.1
 have:(rowOp o).2.2.1=2:=by
  simp only[bn,Bool.or_eq_true,beq_iff_eq]at hq
  rcases hq with rfl | rfl <;> decide
 rw[this]at h5
 exact ⟨h5,e1,e2⟩
mutual
theorem I_ {c:Sco}:∀ (f u:Fm) (ins:List Str) (σ:Str->Dt) (d:Nat),okF false f=true->fD c ins f=some u->dbF σ d u=dbF (sy c ins σ) d f
 | .mk o n a s,u,ins,σ,d,hok,h=>by
  have Nf:=hok
  simp only[okF,Bool.and_eq_true]at hok
  unfold fD at h
  cases h1:dU c ins a with
  | none=>rw[h1]at h;simp at h
  | some a'=>
   cases h2:ek c (if bn o then n :: ins else ins) s with
   | none=>rw[h1,h2]at h;simp at h
   | some s'=>
    have pp235e:=();exact pm235
theorem yD {c:Sco}:∀ (f u:List Fm) (ins:List Str) (σ:Str->Dt) (d:Nat),cX false f=true->ek c ins f=some u->iO σ d u=iO (sy c ins σ) d f
 | [],u,ins,σ,d,_,h=>by simp only[ek,Option.some.injEq]at h;subst h;simp[iO]
 | t :: l,u,ins,σ,d,hok,h=>by
  simp only[ek]at h
  cases h1:fD c ins t with
  | none=>rw[h1]at h;simp at h
  | some x=>
   cases h2:ek c ins l with
   | none=>rw[h1,h2]at h;simp at h
   | some m=>
    exact pm235
end
/-! sizes without bound names -/
def Dt.atom:Dt->Prop | .app _ _=>False | _=>True
def Atom (σ:Str->Dt):Prop:=∀ z,(σ z).atom
theorem E6 (l:List Str):Atom (env l):=by
 intro z
 induction l with
 | nil=>trivial
 | cons n r ih=>unfold env;split;trivial;exact ih
theorem Atom.upd {σ:Str->Dt} (h:Atom σ) (n:Str) (d:Nat):Atom (upd σ n (.lvl d)):=fun z=>by unfold Go.Proofs.YtokemihbkeddoaaGreatDoor.upd;split;trivial;exact h z
mutual
def sA:Dt->Nat | .app _ a=>uY a+1 | _=>1
def uY:List Dt->Nat | []=>0 | t :: l=>sA t+uY l
end
mutual
def Hg:Df->Nat | .mk _ _ a s=>uY a+yE s+1
def yE:List Df->Nat | []=>0 | t :: l=>Hg t+yE l
end
mutual
def PR:Dt->Nat | .app _ a=>Bl a+1 | _=>1
def Bl:List Dt->Nat | []=>0 | t :: l=>max (PR t) (Bl l)
end
mutual
def PS:Df->Nat | .mk _ _ a s=>max (Bl a) (E7 s)+1
def E7:List Df->Nat | []=>0 | t :: l=>max (PS t) (E7 l)
end
theorem Ng {t:Dt} (h:t.atom):sA t=1/\PR t=1:=by cases t <;> first | exact ⟨rfl,rfl⟩ | exact h.elim
mutual
theorem E8 {σ:Str->Dt} (hσ:Atom σ):∀ t,lL t=true->sA (l_ σ t)=nodesT t/\PR (l_ σ t)=cR t
 | .mk v n a,h=>by
  simp only[lL,Bool.and_eq_true]at h
  cases v with
  | true=>
   obtain rfl:a=[]:=by simpa using h.1
   simpa[l_,nodesT,ac,cR,bz] using Ng (hσ n)
  | false=>simp[l_,sA,PR,nodesT,cR,tX hσ a h.2]
theorem tX {σ:Str->Dt} (hσ:Atom σ):∀ t,eb t=true->uY (ia σ t)=ac t/\Bl (ia σ t)=bz t
 | [],_=>by simp[ia,uY,Bl,ac,bz]
 | t :: l,h=>by simp only[eb,Bool.and_eq_true]at h;simp[ia,uY,Bl,ac,bz,E8 hσ t h.1,tX hσ l h.2]
end
mutual
theorem E9:∀ (f:Fm) (σ:Str->Dt) (d:Nat),Atom σ->iF f=true->Hg (dbF σ d f)=nodesF f/\PS (dbF σ d f)=depthF f
 | .mk o n a s,σ,d,hσ,h=>by
  simp only[iF,Bool.and_eq_true]at h
  have h1:=tX hσ a h.1
  simp only[dbF]
  split
  ·have h2:=tY s (upd σ n (.lvl d)) (d+1) (hσ.upd n d) h.2
   simp[Hg,PS,nodesF,depthF,h1,h2]
  ·have h2:=tY s σ d hσ h.2
   simp[Hg,PS,nodesF,depthF,h1,h2]
theorem tY:∀ (f:List Fm) (σ:Str->Dt) (d:Nat),Atom σ->eF f=true->yE (iO σ d f)=ah f/\E7 (iO σ d f)=aU f
 | [],σ,d,_,_=>by simp[iO,yE,E7,ah,aU]
 | t :: l,σ,d,hσ,h=>by simp only[eF,Bool.and_eq_true]at h;simp[iO,yE,E7,ah,aU,E9 t σ d hσ h.1,tY l σ d hσ h.2]
end
/-! what is put keeps formulas well -/
theorem sB {u:Tm} (hu:lL u=true):∀ (k:Nat) (f:Fm) (x:Str),iF f=true->qone f=true->depthF f<=k->iF (ep k x u f)=true/\qone (ep k x u f)=true
 | 0,f,x,hw,hq,hd=>by have:=kU f;omega
 | k+1,.mk o n a s,x,hw,hq1,hd=>by
  have lG:=hw
  exact pm116
mutual
theorem qT:∀ f,qone (bm f)=qone f
 | .mk o n a s=>by
  have h1:(bI a).isEmpty=a.isEmpty:=by cases a <;> simp[bI]
  have h2:(bJ s).length=s.length:=yF s
  simp[bm,qone,uZ s,h1,h2]
theorem uZ:∀ f,en (bJ f)=en f
 | []=>by simp[bJ]
 | t :: l=>by simp[bJ,en,qT t,uZ l]
theorem yF:∀ s,(bJ s).length=s.length
 | []=>by simp[bJ]
 | t :: l=>by simp[bJ,yF l]
end
theorem oQ {l:List (Str×Fm)} (h:SH l=true) {n:Str} {g:Fm} (hg:getB l n=some g):bP (bm g)=true/\dp n=true:=by
 simp only[SH,Bool.and_eq_true,List.all_eq_true]at h
 exact pm120
theorem E' {l:List (Str×Tm)} (h:Gs l=true) {n:Str} {g:Tm} (hg:getB l n=some g):iX false (aK g)=true/\cG n=true:=by
 simp only[Gs,Bool.and_eq_true,List.all_eq_true]at h
 exact pm120
theorem Bm {g:Fm} (h:bP (bm g)=true):iF g=true/\qone g=true/\nodesF g<=400/\depthF g<=40:=by
 simp only[bP,Bool.and_eq_true,decide_eq_true_eq]at h
 have h1:=qG _ h.1
 have h2:=rI _ h.1
 rw[tE]at h1
 rw[qT]at h2
 have h3:=jU g
 exact ⟨h1,h2,by omega,by omega⟩
theorem tZ {g:Tm} (h:iX false (aK g)=true):lL g=true:=by
 have h1:=Gw _ h
 rwa [AM]at h1
theorem Nh {c:Sco} (hc:VarsOk (c.map (·.1))) {f im:Fm} {ins:List Str} (hf:okF false f=true) (h:fD c ins f=some im):iF im=true/\qone im=true/\nodesF im=nodesF f/\depthF im=depthF f:=by
 obtain ⟨h1,h2,h3⟩:=wC hc f im ins hf h
 have e1:=qG _ h1
 have e2:=rI _ h1
 rw[tE]at e1
 rw[qT]at e2
 exact ⟨e1,e2,h2,h3⟩
/-! every free name of a part that has an image has one -/
mutual
theorem C0:∀ t,iX false t=true->∀ z∈aI t,fQ z=true
 | .mk v n a,h,z,hz=>by
  simp only[iX]at h
  cases v with
  | true=>
   simp only[↓reduceIte,Bool.and_eq_true,Bool.false_and,Bool.or_false]at h
   obtain rfl:a=[]:=by simpa using h.1
   simp only[aI,↓reduceIte,ar,List.mem_singleton]at hz
   subst hz;exact h.2
  | false=>
   exact pm264
theorem mf:∀ t,dO false t=true->∀ z∈ar t,fQ z=true
 | [],_,z,hz=>by simp[ar]at hz
 | t :: l,h,z,hz=>by
  simp only[dO,Bool.and_eq_true]at h
  simp only[ar,List.mem_append]at hz
  rcases hz with hz | hz
  ·exact C0 t h.1 z hz
  ·exact mf l h.2 z hz
end
mutual
theorem u_:∀ (f:Fm) (b:List Str),okF false f=true->∀ z∈aO b f,fQ z=true
 | .mk o n a s,b,h,z,hz=>by
  simp only[okF,Bool.and_eq_true]at h
  simp only[aO,List.mem_append]at hz
  rcases hz with hz | hz
  ·exact mf a h.2.2.2.1 z (List.mem_filter.1 hz).1
  ·exact sC s _ h.2.2.2.2 z hz
theorem sC:∀ (f:List Fm) (b:List Str),cX false f=true->∀ z∈bj b f,fQ z=true
 | [],b,_,z,hz=>by simp[bj]at hz
 | t :: l,b,h,z,hz=>by
  simp only[cX,Bool.and_eq_true]at h
  simp only[bj,List.mem_append]at hz
  rcases hz with hz | hz
  ·exact u_ t b h.1 z hz
  ·exact sC l b h.2 z hz
end
theorem C4 {z s:Str} (hz:fQ z=true):z≠cH s:=by
 rintro rfl
 simp only[fQ,cH,oe,Bool.and_eq_true]at hz
 exact absurd hz.2.2.1.1 (by decide)
/-! bound names are variables -/
mutual
def OS:Fm->Bool | .mk o n _ s=>(!bn o || fQ n) && Ar s
def Ar:List Fm->Bool | []=>true | t :: l=>OS t && Ar l
end
mutual
theorem E_:∀ f,OS (bm f)=OS f
 | .mk o n a s=>by simp[bm,OS,Bn s]
theorem Bn:∀ f,Ar (bJ f)=Ar f
 | []=>by simp[bJ]
 | t :: l=>by simp[bJ,Ar,E_ t,Bn l]
end
mutual
theorem RT {sc:Bool}:∀ f,okF sc f=true->OS f=true
 | .mk o n a s,h=>by
  have h':=h
  simp only[okF,Bool.and_eq_true]at h
  simp only[OS,Bool.and_eq_true,Bool.or_eq_true,Bool.not_eq_true']
  refine ⟨?_,Ni s h.2.2.2.2⟩
  cases hq:bn o
  ·exact .inl rfl
  ·exact .inr (mL h' hq).1
theorem Ni {sc:Bool}:∀ f,cX sc f=true->Ar f=true
 | [],_=>by simp[Ar]
 | t :: l,h=>by simp only[cX,Bool.and_eq_true]at h;simp[Ar,RT t h.1,Ni l h.2]
end
theorem PU {g:Fm} (h:bP (bm g)=true):OS g=true:=by
 simp only[bP,Bool.and_eq_true]at h
 have:=RT _ h.1
 rwa [E_]at this
/-! right, from what is right without bound names -/
/-! free names, from those without bound names -/
mutual
def wj:Dt->List Str | .fre n=>[n] | .lvl _=>[] | .app _ a=>Bo a
def Bo:List Dt->List Str | []=>[] | t :: l=>wj t ++ Bo l
end
mutual
def Nj:Df->List Str | .mk _ _ a s=>Bo a ++ Fa s
def Fa:List Df->List Str | []=>[] | t :: l=>Nj t ++ Fa l
end
mutual
theorem PV (σ:Str->Dt):∀ t,lL t=true->wj (l_ σ t)=(aI t).flatMap (fun z=>wj (σ z))
 | .mk v n a,h=>by
  simp only[lL,Bool.and_eq_true]at h
  cases v with
  | true=>
   obtain rfl:a=[]:=by simpa using h.1
   simp[l_,aI,ar]
  | false=>simp[l_,wj,aI,sD σ a h.2]
theorem sD (σ:Str->Dt):∀ t,eb t=true->Bo (ia σ t)=(ar t).flatMap (fun z=>wj (σ z))
 | [],_=>by simp[ia,Bo,ar]
 | t :: l,h=>by simp only[eb,Bool.and_eq_true]at h;simp[ia,Bo,ar,PV σ t h.1,sD σ l h.2]
end
theorem Fb (σ:Str->Dt) (n:Str) (d:Nat):∀ l:List Str,l.flatMap (fun z=>wj (upd σ n (.lvl d) z))=(l.filter (fun x=>!(x == n))).flatMap (fun z=>wj (σ z))
 | []=>rfl
 | x :: l=>by
  have ih:=Fb σ n d l
  rw[List.flatMap_cons,ih]
  by_cases h:(x == n)=true
  ·have:wj (upd σ n (.lvl d) x)=[]:=by unfold upd;rw[if_pos h];rfl
   rw[this]
   simp[h]
  ·have:upd σ n (.lvl d) x=σ x:=by unfold upd;rw[if_neg h]
   rw[this]
   simp[h]
mutual
theorem C5:∀ (f:Fm) (σ:Str->Dt) (d:Nat),iF f=true->Nj (dbF σ d f)=(aO [] f).flatMap (fun z=>wj (σ z))
 | .mk o n a s,σ,d,h=>by
  simp only[iF,Bool.and_eq_true]at h
  have pp203a:=();exact pm203
theorem yG:∀ (f:List Fm) (σ:Str->Dt) (d:Nat),eF f=true->Fa (iO σ d f)=(bj [] f).flatMap (fun z=>wj (σ z))
 | [],σ,d,_=>by simp[iO,Fa,bj]
 | t :: l,σ,d,h=>by simp only[eF,Bool.and_eq_true]at h;simp[iO,Fa,bj,C5 t σ d h.1,yG l σ d h.2]
end
theorem C6 {f:Fm} (h:iF f=true):Nj (db f)=aO [] f:=by
 have h1:=C5 f (env []) 0 h
 unfold db
 rw[h1]
 simp[env,wj]
theorem Hh {f g:Fm} (hf:iF f=true) (hg:iF g=true) (h:db f=db g):aO [] f=aO [] g:=by
 rw[<-C6 hf,<-C6 hg,h]
/-! the places of a schema alone -/
/-! what is needed is known -/
/-! occurrences -/
theorem sE (s:Str):fQ (cH s)=false:=by
 cases h:fQ (cH s)
 ·rfl
 ·exact absurd rfl (C4 (s:=s) h)
/-! the placeholders of an image are those of its scope -/
/-! sizes -/
mutual
theorem Hi {k:List (Str×Tm)} {c:List Str}:∀ t,iX true t=true->oo k t=nodesT (cC k c t)
 | .mk v n a,hok=>by
  unfold oo cC
  by_cases hm:(v && ea n)=true
  ·rw[if_pos hm,if_pos hm]
  ·rw[if_neg hm,if_neg hm]
   cases v with
   | true=>
    simp only[iX,↓reduceIte,Bool.and_eq_true]at hok
    obtain rfl:a=[]:=by simpa using hok.1
    split <;> simp[ap,nodesT,ac,dC,eQ]
   | false=>
    simp only[iX,Bool.false_eq_true,↓reduceIte,Bool.and_eq_true]at hok
    simp only[Bool.false_and,Bool.false_eq_true,↓reduceIte,nodesT,oR (c:=c) a hok.2.2]
theorem oR {k:List (Str×Tm)} {c:List Str}:∀ t,dO true t=true->dC k t=ac (eQ k c t)
 | [],_=>by simp[dC,eQ,ac]
 | t :: l,hok=>by
  simp only[dO,Bool.and_eq_true]at hok
  simp[dC,eQ,ac,Hi (c:=c) t hok.1,oR (c:=c) l hok.2]
end
/-! an image that turns nothing -/
def Ja (c:Sco) (ins l:List Str):Prop:=∀ z∈l,ins.contains z=true\/cP c z=some z
mutual
theorem Ky {c:Sco} {ins:List Str}:∀ t,lL t=true->Ja c ins (aI t)->io c ins t=some t
 | .mk v n a,hw,h=>by
  simp only[lL,Bool.and_eq_true]at hw
  unfold io
  cases v with
  | true=>
   obtain rfl:a=[]:=by simpa using hw.1
   simp only[↓reduceIte]
   split
   ·rfl
   ·rename_i hc
    rcases h n (by simp[aI]) with h | h
    ·exact absurd h hc
    ·rw[h];rfl
  | false=>
   simp only[Bool.false_eq_true,↓reduceIte]
   rw[qU a hw.2 (by simpa[aI] using h)];rfl
theorem qU {c:Sco} {ins:List Str}:∀ t,eb t=true->Ja c ins (ar t)->dU c ins t=some t
 | [],_,_=>rfl
 | t :: l,hw,h=>by
  simp only[eb,Bool.and_eq_true]at hw
  simp only[dU]
  rw[Ky t hw.1 (fun z hz=>h z (by simp[ar,hz])),qU l hw.2 (fun z hz=>h z (by simp[ar,hz]))]
end
mutual
theorem pF {c:Sco}:∀ (f:Fm) (ins:List Str),iF f=true->Ja c ins (aO [] f)->fD c ins f=some f
 | .mk o n a s,ins,hw,h=>by
  simp only[iF,Bool.and_eq_true]at hw
  unfold fD
  rw[qU a hw.1 (fun z hz=>h z (rH hz))]
  by_cases hq:bn o=true
  ·rw[if_pos hq,qV s (n :: ins) hw.2 (fun z hz=>by
    by_cases e:z=n
    ·subst e;left;simp
    ·rcases h z (rG hq hz e) with h | h
     ·left;rw[List.contains_cons,h];simp
     ·exact .inr h)]
  ·rw[if_neg hq,qV s ins hw.2 (fun z hz=>h z (by simp only[aO,List.mem_append];right;rw[if_neg hq];exact hz))]
theorem qV {c:Sco}:∀ (f:List Fm) (ins:List Str),eF f=true->Ja c ins (bj [] f)->ek c ins f=some f
 | [],_,_,_=>rfl
 | t :: l,ins,hw,h=>by
  simp only[eF,Bool.and_eq_true]at hw
  simp only[ek]
  rw[pF t ins hw.1 (fun z hz=>h z (by simp[bj,hz])),qV l ins hw.2 (fun z hz=>h z (by simp[bj,hz]))]
end
/-! with one quantifier around it everything has an image -/
mutual
theorem Kz {s y:Str} {ins:List Str}:∀ t,(io [(s,y)] ins t).isSome=true
 | .mk v n a=>by
  unfold io
  cases v with
  | true=>
   simp only[↓reduceIte,cP,cP.go]
   split
   ·rfl
   ·split <;> rfl
  | false=>
   simp only[Bool.false_eq_true,↓reduceIte]
   obtain ⟨m,hm⟩:=Option.isSome_iff_exists.1 (qW (s:=s) (y:=y) (ins:=ins) a)
   rw[hm];rfl
theorem qW {s y:Str} {ins:List Str}:∀ t,(dU [(s,y)] ins t).isSome=true
 | []=>rfl
 | t :: l=>by
  obtain ⟨m,hm⟩:=Option.isSome_iff_exists.1 (Kz (s:=s) (y:=y) (ins:=ins) t)
  obtain ⟨m',Pi⟩:=Option.isSome_iff_exists.1 (qW (s:=s) (y:=y) (ins:=ins) l)
  simp[dU,hm,Pi]
end
mutual
theorem Bp {s y:Str}:∀ (f:Fm) (ins:List Str),(fD [(s,y)] ins f).isSome=true
 | .mk o n a l,ins=>by
  obtain ⟨m,hm⟩:=Option.isSome_iff_exists.1 (qW (s:=s) (y:=y) (ins:=ins) a)
  obtain ⟨m',Pi⟩:=Option.isSome_iff_exists.1 (yH (s:=s) (y:=y) l (if bn o then n :: ins else ins))
  simp[fD,hm,Pi]
theorem yH {s y:Str}:∀ (f:List Fm) (ins:List Str),(ek [(s,y)] ins f).isSome=true
 | [],ins=>rfl
 | t :: l,ins=>by
  obtain ⟨m,hm⟩:=Option.isSome_iff_exists.1 (Bp (s:=s) (y:=y) t ins)
  obtain ⟨m',Pi⟩:=Option.isSome_iff_exists.1 (yH (s:=s) (y:=y) l ins)
  simp[ek,hm,Pi]
end
def qX:Str:=[63,65]
def As:Str:=[120]
def il:Fm:=.mk 6 [] [] [.mk 8 As [] [.mk 15 qX [] []],.mk 15 qX [] []]
theorem KA {f g:Fm} {y:Str} (h:bP (.mk 6 [] [] [.mk 8 y [] [f],g])=true) :
  cJ [(il,.mk 6 [] [] [.mk 8 y [] [f],g])] ⟨[],[]⟩=if !(aO [] f).contains y && bT [] f g then (⟨[(qX,f)],[]⟩,0,0) else (⟨[],[]⟩,0,70):=by
 have hok:=h
 simp only[bP,Bool.and_eq_true,okF,cX]at hok
 have hf:okF false f=true:=hok.1.2.2.2.2.1.2.2.2.2.1
 have hg:okF false g=true:=hok.1.2.2.2.2.2.1
 have s8:=qG _ hf
 have hwg:=qG _ hg
 have hv:fQ y=true:=hok.1.2.2.2.2.1.2.1.1
 have Mh:fC il=true:=by decide
 obtain ⟨im,I5⟩:=Option.isSome_iff_exists.1 (Bp (s:=As) (y:=y) f [])
 have RK:fD [] [] g=some g:=pF g [] hwg (fun z _=>.inr rfl)
 have hiw:=(Nh (c:=[(As,y)]) (fun x hx=>by simp only[List.map_cons,List.map_nil,List.mem_singleton]at hx;subst hx;decide) hf I5).1
 have Ga:bT [] im g=(!(aO [] f).contains y && bT [] f g):=by
  by_cases hy:y∈aO [] f
  ·have e1:(aO [] f).contains y=true:=by simpa using hy
   rw[e1,Bool.not_true,Bool.false_and]
   cases ha:bT [] im g
   ·rfl
   ·exfalso
    have h1:=Hh hiw hwg ((JU hiw hwg).1 ha)
    have h2:cH As∈aO [] im:=by
     rw[<-C6 hiw]
     unfold db
     rw[I_ f im [] _ 0 hf I5,C5 f _ _ s8]
     refine List.mem_flatMap.2 ⟨y,hy,?_⟩
     simp[sy,cP,cP.go,env,wj]
    rw[h1]at h2
    have h3:=u_ g [] hg _ h2
    rw[sE]at h3
    cases h3
  ·have e1:(aO [] f).contains y=false:=by simpa using hy
   rw[e1,Bool.not_false,Bool.true_and]
   have:fD [(As,y)] [] f=some f:=pF f [] s8 (fun z hz=>by
    right
    have hyz:(y == z)=false:=by rw[Bool.eq_false_iff];intro e;rw[beq_iff_eq]at e;subst e;exact hy hz
    simp[cP,cP.go,hyz])
   rw[this]at I5
   cases I5
   rfl
 have Rt:(!(aO [] f).contains y && bT [] f g)=true->im=f:=fun hh=>by
  simp only[Bool.and_eq_true,Bool.not_eq_true']at hh
  have:fD [(As,y)] [] f=some f:=pF f [] s8 (fun z hz=>by
   right
   have hyz:(y == z)=false:=by
    rw[Bool.eq_false_iff];intro e;rw[beq_iff_eq]at e;subst e
    have:(aO [] f).contains y=true:=by simpa using hz
    rw[hh.1]at this;cases this
   simp[cP,cP.go,hyz])
  rw[this]at I5
  cases I5
  rfl
 obtain ⟨of,nf,af,sf⟩:=f
 obtain ⟨og,ng,ag,sg⟩:=g
 have kP:bE [] il (.mk 6 [] [] [.mk 8 y [] [.mk of nf af sf],.mk og ng ag sg])=[⟨il,.mk 6 [] [] [.mk 8 y [] [.mk of nf af sf],.mk og ng ag sg],[]⟩,⟨.mk 8 As [] [.mk 15 qX [] []],.mk 8 y [] [.mk of nf af sf],[]⟩,⟨.mk 15 qX [] [],.mk of nf af sf,[(As,y)]⟩,⟨.mk 15 qX [] [],.mk og ng ag sg,[]⟩]:=by
  simp[il,bE,aT,bn]
 have c1:cm ⟨[],[]⟩ ⟨il,.mk 6 [] [] [.mk 8 y [] [.mk of nf af sf],.mk og ng ag sg],[]⟩=(⟨[],[]⟩,0):=by simp[cm,il,Fm.op,Fm.a,Fm.s,Fm.n,gd]
 have c2:cm ⟨[],[]⟩ ⟨.mk 8 As [] [.mk 15 qX [] []],.mk 8 y [] [.mk of nf af sf],[]⟩=(⟨[],[]⟩,0):=by simp[cm,Fm.op,Fm.a,Fm.s,Fm.n,gd,bn]
 have c3:cm ⟨[],[]⟩ ⟨.mk 15 qX [] [],.mk of nf af sf,[(As,y)]⟩=(⟨[(qX,im)],[]⟩,0):=by simp[cm,Fm.op,Fm.n,I5,getB,gw]
 have c4:cm ⟨[(qX,im)],[]⟩ ⟨.mk 15 qX [] [],.mk og ng ag sg,[]⟩=if bT [] im (.mk og ng ag sg) then (⟨[(qX,im)],[]⟩,0) else (⟨[(qX,im)],[]⟩,70):=by simp[cm,Fm.op,Fm.n,RK,getB]
 have i1:∀ p∈bE [] il (.mk 6 [] [] [.mk 8 y [] [.mk of nf af sf],.mk og ng ag sg]),∀ k,gP k p=(k,0):=by
  rw[kP]
  intro p hp k
  simp only[List.mem_cons,List.not_mem_nil,or_false]at hp
  rcases hp with rfl | rfl | rfl | rfl <;> simp[gP,il,Fm.op]
 have hi:∀ (l:List Pl) (k:Bd),(∀ p∈l,∀ k,gP k p=(k,0))->j9 gP k l=(k,0):=by
  intro l
  induction l with
  | nil=>intro k _;rfl
  | cons p l ih=>intro k hk;unfold j9;rw[hk p (List.mem_cons_self ..)];simp only[if_true];exact ih k (fun q hq=>hk q (List.mem_cons_of_mem _ hq))
 have hb:eZ 0 [(il,.mk 6 [] [] [.mk 8 y [] [.mk of nf af sf],.mk og ng ag sg])]=none:=(kD _ 0).2 (fun x hx=>by
  simp only[List.mem_singleton]at hx
  subst hx
  rw[Mh,h];rfl)
 have hvB:bU ⟨[],[]⟩=true:=by decide
 rw[Ga]at c4
 have r2:∀ k,fw gP 0 k [(il,.mk 6 [] [] [.mk 8 y [] [.mk of nf af sf],.mk og ng ag sg])]=(k,0,0):=fun k=>D8 _ 0 k (fun x hx=>by
  simp only[List.mem_singleton]at hx
  subst hx
  exact hi _ k i1)
 have r1:fw cm 0 ⟨[],[]⟩ [(il,.mk 6 [] [] [.mk 8 y [] [.mk of nf af sf],.mk og ng ag sg])]=if !(aO [] (.mk of nf af sf)).contains y && bT [] (.mk of nf af sf) (.mk og ng ag sg) then (⟨[(qX,im)],[]⟩,0,0) else (⟨[(qX,im)],[]⟩,0,70):=by
  unfold fw
  rw[kP]
  simp only[j9,c1,c2,c3,c4,if_true]
  cases (!(aO [] (.mk of nf af sf)).contains y && bT [] (.mk of nf af sf) (.mk og ng ag sg)) with
  | true=>simp[fw]
  | false=>simp
 unfold cJ
 rw[hb,hvB]
 simp only[Bool.not_true,Bool.false_eq_true,↓reduceIte]
 rw[r1]
 cases hw:(!(aO [] (.mk of nf af sf)).contains y && bT [] (.mk of nf af sf) (.mk og ng ag sg)) with
 | true=>simp[Rt hw,r2]
 | false=>simp
/-! atoms turned -/
/-! the free names of a formula, as atoms -/
/-! the image's name, from what is not a name -/
/-! when there is an image -/
structure Twin (c c':Sco) (f f':Fm):Prop where
 n:c.map (·.1)=c'.map (·.1)
 d:dbF (env (c.map (·.2))) c.length f=dbF (env (c'.map (·.2))) c'.length f'
theorem Twin.len {c c':Sco} {f f':Fm} (h:Twin c c' f f'):c.length=c'.length:=by have:=congrArg List.length h.n;simpa using this
/-! where the first placeholder is, without bound names -/
def Only (x:Str) (ρ:Str->Dt):Prop:=∀ z,ρ z=.fre x ↔ z=x
theorem Only.upd {x:Str} {ρ:Str->Dt} (h:Only x ρ) {n:Str} (hn:n≠x) (d:Nat):Only x (upd ρ n (.lvl d)):=fun z=>by
 unfold Go.Proofs.YtokemihbkeddoaaGreatDoor.upd
 by_cases e:z=n
 ·subst e;simp[hn]
 ·have:(z == n)=false:=by simpa using e
  simp only[this,Bool.false_eq_true,↓reduceIte];exact h z
def Df.s:Df->List Df | .mk _ _ _ s=>s
def Df.a:Df->List Dt | .mk _ _ a _=>a
/-! how often a placeholder stands -/
mutual
theorem Hj (x:Str):∀ t,BJ x t=(aI t).count x
 | .mk v n a=>by
  have ih:=oS x a
  cases v with
  | true=>simp only[BJ,Bool.true_and,aI,↓reduceIte,List.count_cons,ih];omega
  | false=>simp[BJ,aI,ih]
theorem oS (x:Str):∀ t,eW x t=(ar t).count x
 | []=>by simp[eW,ar]
 | t :: l=>by simp[eW,ar,List.count_append,Hj x t,oS x l]
end
mutual
theorem yI {x:Str} (hx:fQ x=false):∀ f,OS f=true->gF x f=(aO [] f).count x
 | .mk o n a s,hb=>by
  simp only[OS,Bool.and_eq_true]at hb
  have ih:=vd hx s hb.2
  have pp203b:=();exact pm203
theorem vd {x:Str} (hx:fQ x=false):∀ f,Ar f=true->iY x f=(bj [] f).count x
 | [],_=>by simp[iY,bj]
 | t :: l,hb=>by
  simp only[Ar,Bool.and_eq_true]at hb
  simp[iY,bj,List.count_append,yI hx t hb.1,vd hx l hb.2]
end
def FRel:List (Str×Fm)->List (Str×Fm)->Prop
 | [],[]=>True
 | (n,g) :: l,(n',g') :: l'=>n=n'/\db g=db g'/\FRel l l'
 | _,_=>False
theorem FRel.refl:∀ l,FRel l l
 | []=>trivial
 | (_,_) :: l=>⟨rfl,rfl,FRel.refl l⟩
theorem FRel.get:∀ {l l':List (Str×Fm)},FRel l l'->∀ n,(getB l n=none/\getB l' n=none)\/∃g g',getB l n=some g/\getB l' n=some g'/\db g=db g'
 | [],[],_,n=>.inl ⟨rfl,rfl⟩
 | [],_ :: _,h,_=>h.elim
 | _ :: _,[],h,_=>h.elim
 | (m,g) :: l,(m',g') :: l',h,n=>by
  obtain ⟨rfl,h2,h3⟩:=h
  unfold getB
  split
  ·exact .inr ⟨g,g',rfl,rfl,h2⟩
  ·exact FRel.get h3 n
theorem FRel.add {x:Str} {v v':Fm} (hv:db v=db v'):∀ {l l':List (Str×Fm)},FRel l l'->FRel (gw x v l) (gw x v' l')
 | [],[],_=>⟨rfl,hv,trivial⟩
 | [],_ :: _,h=>h.elim
 | _ :: _,[],h=>h.elim
 | (m,g) :: l,(m',g') :: l',h=>by
  obtain ⟨rfl,h2,h3⟩:=h
  unfold gw
  split
  ·exact ⟨rfl,hv,rfl,h2,h3⟩
  ·exact ⟨rfl,h2,FRel.add hv h3⟩
/-! filling, then matching -/
/-! arguments match what is filled in for them -/
/-! the size where a term is put -/
theorem Jb (σ:Str->Dt) (n:Str) (d:Nat):∀ l:List Str,(l.map fun z=>sA (upd σ n (.lvl d) z)).sum+(l.filter fun x=>!(x == n)).length=((l.filter fun x=>!(x == n)).map fun z=>sA (σ z)).sum+l.length
 | []=>rfl
 | x :: l=>by
  have ih:=Jb σ n d l
  rw[List.map_cons,List.sum_cons,List.filter_cons]
  by_cases h:(x == n)=true
  ·have e1:upd σ n (.lvl d) x=.lvl d:=by unfold upd;rw[if_pos h]
   rw[e1,h]
   simp only[Bool.not_true,Bool.false_eq_true,↓reduceIte,sA,List.length_cons]
   omega
  ·have e1:upd σ n (.lvl d) x=σ x:=by unfold upd;rw[if_neg h]
   have h':(x == n)=false:=by simpa using h
   rw[e1,h']
   simp only[Bool.not_false,if_true,List.map_cons,List.sum_cons,List.length_cons]
   omega
mutual
theorem PW (σ:Str->Dt):∀ t,lL t=true->sA (l_ σ t)+(aI t).length=nodesT t+((aI t).map fun z=>sA (σ z)).sum
 | .mk v n a,h=>by
  simp only[lL,Bool.and_eq_true]at h
  cases v with
  | true=>
   obtain rfl:a=[]:=by simpa using h.1
   simp only[l_,↓reduceIte,aI,ar,nodesT,ac,List.length_cons,List.length_nil,List.map_cons,List.map_nil,List.sum_cons,List.sum_nil]
   omega
  | false=>
   have:=yJ σ a h.2
   simp only[l_,Bool.false_eq_true,↓reduceIte,sA,aI,nodesT]
   omega
theorem yJ (σ:Str->Dt):∀ t,eb t=true->uY (ia σ t)+(ar t).length=ac t+((ar t).map fun z=>sA (σ z)).sum
 | [],_=>rfl
 | t :: l,h=>by
  simp only[eb,Bool.and_eq_true]at h
  have h1:=PW σ t h.1
  have h2:=yJ σ l h.2
  simp only[ia,uY,ar,ac,List.length_append,List.map_append,List.sum_append]
  omega
end
mutual
theorem Jc:∀ (f:Fm) (σ:Str->Dt) (d:Nat),iF f=true->Hg (dbF σ d f)+(aO [] f).length=nodesF f+((aO [] f).map fun z=>sA (σ z)).sum
 | .mk o n a s,σ,d,h=>by
  simp only[iF,Bool.and_eq_true]at h
  exact pm203
theorem yK:∀ (f:List Fm) (σ:Str->Dt) (d:Nat),eF f=true->yE (iO σ d f)+(bj [] f).length=ah f+((bj [] f).map fun z=>sA (σ z)).sum
 | [],_,_,_=>rfl
 | t :: l,σ,d,h=>by
  simp only[eF,Bool.and_eq_true]at h
  have h1:=Jc t σ d h.1
  have h2:=yK l σ d h.2
  simp only[iO,yE,bj,ah,List.length_append,List.map_append,List.sum_append]
  omega
end
theorem Jd (x:Str) (N:Nat) (hN:1<=N):∀ l:List Str,(l.map fun z=>if z == x then N else 1).sum=l.length+l.count x * (N - 1)
 | []=>by simp
 | y :: l=>by
  have ih:=Jd x N hN l
  rw[List.map_cons,List.sum_cons,List.count_cons,List.length_cons,ih,Nat.add_mul]
  by_cases h:(y == x)=true
  ·rw[if_pos h,if_pos h];omega
  ·rw[if_neg h,if_neg h];omega
theorem KB (t:Tm):1<=nodesT t:=by obtain ⟨_,_,_⟩:=t;simp[nodesT]
theorem KC {f:Fm} {x:Str} {u:Tm} (hx:fQ x=false) (hf:iF f=true) (hq:qone f=true) (hb:OS f=true) (hu:lL u=true) (hn:nodesF f+nodesT u<10 ^ 19):nodesF (gS x u f)=nodesF f+gF x f * (nodesT u - 1):=by
 have hw:=(sB hu (depthF f) f x hf hq (Nat.le_refl _)).1
 have h1:=E9 (gS x u f) (env []) 0 (E6 []) hw
 unfold gS at h1
 rw[rL (depthF f) f x u _ _ hf hq (Nat.le_refl _) hn]at h1
 have h2:=Jc f (upd (env []) x (l_ (env []) u)) 0 hf
 have e:(fun z=>sA (upd (env []) x (l_ (env []) u) z))=fun z=>if z == x then nodesT u else 1:=by
  funext z
  unfold upd
  split
  ·exact (E8 (E6 []) u hu).1
  ·rfl
 rw[e,Jd x (nodesT u) (KB u),h1.1]at h2
 rw[yI hx f hb]
 unfold gS
 omega
/-! all that is needed is known -/
mutual
def gY (k:Bd):Fm->Bool | .mk o n a s=>!gU k (.mk o n a s) && jm k s
def jm (k:Bd):List Fm->Bool | []=>true | t :: l=>gY k t && jm k l
end
mutual
theorem Fc {k:Bd}:∀ (s:Fm) (c:Sco),(bE c s s).any (fun p=>gU k p.s)=false->gY k s=true
 | .mk o n a s,c,h=>by
  simp only[bE,List.any_cons,Bool.or_eq_false_iff]at h
  simp only[gY,h.1,Bool.not_false,Bool.true_and]
  exact Bq s _ h.2
theorem Bq {k:Bd}:∀ (s:List Fm) (c:Sco),(aT c s s).any (fun p=>gU k p.s)=false->jm k s=true
 | [],_,_=>rfl
 | t :: l,c,h=>by
  simp only[aT,List.any_append,Bool.or_eq_false_iff]at h
  simp only[jm,Fc t c h.1,Bq l c h.2,Bool.and_self]
end
theorem Br {n:Str} {a:List Tm} {s:List Fm} (h:okF true (.mk 16 n a s)=true):s=[]/\∃x y:Str,a=[ap x,ap y]/\fQ x=true/\cG y=true:=by
 have h':=h
 simp only[okF,Bool.and_eq_true]at h
 obtain ⟨x,y,h1,h2,h3,_⟩:=m8 (p:=⟨.mk 16 n a s,.mk 2 [] [] [],[]⟩) ⟨h',(by show okF false (.mk 2 [] [] [])=true;decide),(by intro x hx;cases hx),(by show nodesF (.mk 2 [] [] [])<=400;decide),(by show depthF (.mk 2 [] [] [])<=40;decide)⟩ rfl
 exact ⟨List.length_eq_zero_iff.1 (beq_iff_eq.1 h.2.1.2.2),x,y,h1,h2,h3⟩
def Fd (k:Bd) (n x y:Str):Fm:=if gF (cH x) (formOf k.fs n)=0 then formOf k.fs n else gS (cH x) (termOf k.ts y) (formOf k.fs n)
theorem t5 {k:Bd} {c:List Str} {n x y:Str} {s:List Fm}:cz k c (.mk 16 n [ap x,ap y] s)=Fd k n x y:=by
 simp only[cz,ap,Tm.n]
 rw[if_neg (by decide)]
 simp only[if_true]
 rfl
theorem PX (k:Bd) (n:Str) (a:List Tm) (s:List Fm):gU k (.mk 15 n a s)=(getB k.fs n).isNone:=by
 cases e:getB k.fs n <;> simp[gU,Fm.op,Fm.n,e]
theorem PY (k:Bd) (n:Str) (a:List Tm) (s:List Fm) {g:Fm} (h:getB k.fs n=some g):gU k (.mk 16 n a s)=((getB k.ts (bg (.mk 16 n a s)).2).isNone && decide (gF (bg (.mk 16 n a s)).1 g > 0)):=by
 simp[gU,Fm.op,Fm.n,h]
theorem Nk (k:Bd) (n:Str) (a:List Tm) (s:List Fm) (h:getB k.fs n=none):gU k (.mk 16 n a s)=true:=by
 simp[gU,Fm.op,Fm.n,h]
theorem yL {k:Bd} {n:Str} {a:List Tm} {s:List Fm} (h:gY k (.mk 15 n a s)=true):∃g,getB k.fs n=some g:=by
 simp only[gY,Bool.and_eq_true,Bool.not_eq_true',PX]at h
 cases e:getB k.fs n with
 | none=>rw[e]at h;cases h.1
 | some g=>exact ⟨g,rfl⟩
theorem yM {k:Bd} {n x y:Str} {s:List Fm} (h:gY k (.mk 16 n [ap x,ap y] s)=true):∃g,getB k.fs n=some g/\(gF (cH x) g=0\/∃t,getB k.ts y=some t):=by
 simp only[gY,Bool.and_eq_true,Bool.not_eq_true']at h
 have h1:=h.1
 cases e:getB k.fs n with
 | none=>rw[Nk k n _ s e]at h1;cases h1
 | some g=>
  rw[PY k n _ s e]at h1
  refine ⟨g,rfl,?_⟩
  have hn:bg (.mk 16 n [ap x,ap y] s)=(cH x,y):=rfl
  rw[hn]at h1
  cases ht:getB k.ts y with
  | none=>
   rw[ht]at h1
   simp only[Option.isNone_none,Bool.true_and,decide_eq_false_iff_not]at h1
   exact .inl (by omega)
  | some t=>exact .inr ⟨t,rfl⟩
theorem Hk {k:Bd} (hk:bU k=true) {n x y:Str} {s:List Fm} (h:gY k (.mk 16 n [ap x,ap y] s)=true):iF (Fd k n x y)=true/\qone (Fd k n x y)=true:=by
 obtain ⟨k1,k2⟩:=(gI k).1 hk
 obtain ⟨g,hg,h2⟩:=yM h
 have nl:=oQ k1 hg
 obtain ⟨w1,w2,_⟩:=Bm nl.1
 have e:formOf k.fs n=g:=by unfold formOf;rw[hg]
 unfold Fd
 rw[e]
 split
 ·exact ⟨w1,w2⟩
 ·rename_i h0
  obtain ⟨t,ht⟩:=h2.resolve_left h0
  have e2:termOf k.ts y=t:=by unfold termOf;rw[ht]
  rw[e2]
  exact sB (tZ (E' k2 ht).1) (depthF g) g (cH x) w1 w2 (Nat.le_refl _)
mutual
theorem Nl {k:List (Str×Tm)} (hk:Gs k=true) {c:List Str}:∀ t,iX true t=true->ip k t=false->lL (cC k c t)=true
 | .mk v n a,hok,h=>by
  unfold ip at h
  unfold cC
  by_cases hm:(v && ea n)=true
  ·rw[if_pos hm]at h ⊢
   cases e:getB k n with
   | none=>rw[e]at h;cases h
   | some u=>
    have e2:termOf k n=u:=by unfold termOf;rw[e]
    rw[e2]
    exact tZ (E' hk e).1
  ·rw[if_neg hm]at h ⊢
   split
   ·exact IN _
   ·cases v with
    | true=>
     simp only[iX,↓reduceIte,Bool.and_eq_true]at hok
     obtain rfl:a=[]:=by simpa using hok.1
     simp[lL,eQ,eb]
    | false=>
     simp only[iX,Bool.false_eq_true,↓reduceIte,Bool.and_eq_true]at hok
     simp[lL,t7 hk (c:=c) a hok.2.2 h]
theorem t7 {k:List (Str×Tm)} (hk:Gs k=true) {c:List Str}:∀ t,dO true t=true->lP k t=false->eb (eQ k c t)=true
 | [],_,_=>by simp[eQ,eb]
 | t :: l,hok,h=>by
  simp only[dO,Bool.and_eq_true]at hok
  simp only[lP,Bool.or_eq_false_iff]at h
  simp[eQ,eb,Nl hk (c:=c) t hok.1 h.1,t7 hk (c:=c) l hok.2 h.2]
end
theorem nv {k:Bd} {o:Int} {n:Str} {a:List Tm} {s:List Fm} (lK:o≠15) (iE:o≠16) (h:gY k (.mk o n a s)=true):lP k.ts a=false/\jm k s=true:=by
 simp only[gY,Bool.and_eq_true,Bool.not_eq_true',gU,Fm.op,Fm.a]at h
 rw[if_pos (by simp[lK,iE])]at h
 exact h
mutual
theorem PZ {k:Bd} (hk:bU k=true):∀ (s:Fm) (c:List Str),okF true s=true->gY k s=true->iF (cz k c s)=true/\qone (cz k c s)=true
 | .mk o n a s,c,hok,h=>by
  obtain ⟨k1,k2⟩:=(gI k).1 hk
  by_cases lK:o=15
  ·subst lK
   obtain ⟨g,hg⟩:=yL h
   have e:cz k c (.mk 15 n a s)=g:=by
    simp only[cz,if_true]
    unfold formOf
    rw[hg]
   rw[e]
   have:=Bm (oQ k1 hg).1
   exact ⟨this.1,this.2.1⟩
  ·by_cases iE:o=16
   ·subst iE
    obtain ⟨rfl,x,y,rfl,_,_⟩:=Br hok
    rw[t5]
    exact Hk hk h
   ·obtain ⟨h1,h2⟩:=nv lK iE h
    have Nf:=hok
    simp only[okF,Bool.and_eq_true]at hok
    by_cases hq:bn o=true
    ·obtain ⟨_,rfl,g,rfl⟩:=mL Nf hq
     obtain ⟨i1,i2⟩:=oT hk [g] (n :: c) hok.2.2.2.2 h2
     simp only[eR,eF,en,Bool.and_true]at i1 i2
     have pp291:=();exact pm291
    ·obtain ⟨i1,i2⟩:=oT hk s c hok.2.2.2.2 h2
     have pp308:=();exact pm308
theorem oT {k:Bd} (hk:bU k=true):∀ (s:List Fm) (c:List Str),cX true s=true->jm k s=true->eF (eR k c s)=true/\en (eR k c s)=true
 | [],_,_,_=>by simp[eR,eF,en]
 | t :: l,c,hok,h=>by
  simp only[cX,jm,Bool.and_eq_true]at hok h
  simp[eR,eF,en,PZ hk t c hok.1 h.1,oT hk l c hok.2 h.2]
end
/-! with less known -/
end Go.Proofs.YtokemihbkeddoaaGreatDoor
