/-
Formulas without bound names: two formulas are alike if they are the same then.
Plain laws of putting a term for a name,and of the least name that is not taken.
The least name that is not taken: plain facts for the walk.
Maps keyed by names whose values are kept as they are: look-up,store.
A region that draws its order,whose operations read what was there before it and call functions that keep all that was there:
  one walk in the order of the text serves every order (the kit's quiet walk over the class of the worlds that keep a given one).
Rows of strings in memory;the contract of 'strictly' of package match.
-/
import Derived.Test.YtokemihbkeddoaaGreatDoorU00
import Derived.Test.YtokemihbkeddoaaGreatDoorU07
import Derived.Lib.ItoaNum
import Derived.Maps.OwnIn
import Derived.Maps.OwnSet
import Derived.Carry
import Derived.Test.YtokemihbkeddoaaGreatDoorU05
import Derived.BigQuiet
import Derived.Deep.QuietTactic
namespace Go.Proofs.YtokemihbkeddoaaGreatDoor
open Go Go.RowKit Lib
set_option maxRecDepth 100000
set_option maxHeartbeats 64000000
inductive Dt where
 | lvl (i:Nat)
 | fre (n:Str)
 | app (n:Str) (a:List Dt)
inductive Df where
 | mk (op:Int) (n:Str) (a:List Dt) (s:List Df)
def upd (σ:Str->Dt) (n:Str) (v:Dt):Str->Dt:=fun x=>if x == n then v else σ x
mutual
def l_ (σ:Str->Dt):Tm->Dt | .mk v n a=>if v then σ n else .app n (ia σ a)
def ia (σ:Str->Dt):List Tm->List Dt | []=>[] | t :: l=>l_ σ t :: ia σ l
end
mutual
def dbF (σ:Str->Dt) (d:Nat):Fm->Df
 | .mk op n a s=>if bn op then .mk op [] (ia σ a) (iO (upd σ n (.lvl d)) (d+1) s) else .mk op n (ia σ a) (iO σ d s)
def iO (σ:Str->Dt) (d:Nat):List Fm->List Df | []=>[] | t :: l=>dbF σ d t :: iO σ d l
end
mutual
def lL:Tm->Bool | .mk v _ a=>(!v || a.isEmpty) && eb a
def eb:List Tm->Bool | []=>true | t :: l=>lL t && eb l
end
mutual
def iF:Fm->Bool | .mk _ _ a s=>eb a && eF s
def eF:List Fm->Bool | []=>true | t :: l=>iF t && eF l
end
mutual
theorem Gw {sc:Bool}:∀ t,iX sc t=true->lL t=true
 | .mk v n a,h=>by
  simp only[iX]at h
  cases v with
  | true=>
   simp only[↓reduceIte,Bool.and_eq_true]at h
   have:a=[]:=by simpa using h.1
   subst this
   simp[lL,eb]
  | false=>
   have pp264b:=();exact pm264
theorem B0 {sc:Bool}:∀ t,dO sc t=true->eb t=true
 | [],_=>by simp[eb]
 | t :: l,h=>by simp only[dO,Bool.and_eq_true]at h;simp[eb,Gw t h.1,B0 l h.2]
end
mutual
theorem qG {sc:Bool}:∀ t,okF sc t=true->iF t=true
 | .mk o n a s,h=>by
  simp only[okF,Bool.and_eq_true]at h
  simp[iF,B0 a h.2.2.2.1,IK s h.2.2.2.2]
theorem IK {sc:Bool}:∀ t,cX sc t=true->eF t=true
 | [],_=>by simp[eF]
 | t :: l,h=>by simp only[cX,Bool.and_eq_true]at h;simp[eF,qG t h.1,IK l h.2]
end
mutual
theorem AM:∀ t,lL (aK t)=lL t
 | .mk v n a=>by
  simp only[aK,lL,qH a]
  congr 2
  cases a <;> simp[bI]
theorem qH:∀ t,eb (bI t)=eb t
 | []=>by simp[bI]
 | t :: l=>by simp[bI,eb,AM t,qH l]
end
mutual
theorem tE:∀ t,iF (bm t)=iF t
 | .mk o n a s=>by simp[bm,iF,qH a,xw s]
theorem xw:∀ t,eF (bJ t)=eF t
 | []=>by simp[bJ]
 | t :: l=>by simp[bJ,eF,tE t,xw l]
end
/-! free names -/
mutual
theorem B3 (b:List Str):∀ (f:Fm) (c:List Str),aO (c ++ b) f=(aO c f).filter (fun x=>!b.contains x)
 | .mk o n a s,c=>by
  simp only[aO,List.filter_append,List.filter_filter]
  congr 1
  ·apply List.filter_congr
   intro x _
   rw[List.contains_eq_any_beq,List.any_append,<-List.contains_eq_any_beq,<-List.contains_eq_any_beq,Bool.not_or,Bool.and_comm]
  ·by_cases hq:bn o
   ·rw[if_pos hq,if_pos hq];exact jN b s (n :: c)
   ·rw[if_neg hq,if_neg hq];exact jN b s c
theorem jN (b:List Str):∀ (f:List Fm) (c:List Str),bj (c ++ b) f=(bj c f).filter (fun x=>!b.contains x)
 | [],c=>by simp[bj]
 | t :: l,c=>by simp[bj,B3 b t c,jN b l c]
end
theorem lp (n:Str) (s:List Fm):bj [n] s=(bj [] s).filter (fun x=>!(x == n)):=by
 have h:=jN [n] s []
 simp only[List.nil_append]at h
 rw[h]
 apply List.filter_congr
 intro x _
 rw[Bool.eq_iff_iff]
 simp
mutual
theorem Ef {σ τ:Str->Dt}:∀ (t:Tm),(∀ x∈aI t,σ x=τ x)->l_ σ t=l_ τ t
 | .mk v n a,h=>by
  cases v with
  | true=>simp only[l_,↓reduceIte];exact h n (by simp[aI])
  | false=>simp only[l_,Bool.false_eq_true,↓reduceIte];rw[tF a (fun x hx=>h x (by simpa[aI] using hx))]
theorem tF {σ τ:Str->Dt}:∀ (t:List Tm),(∀ x∈ar t,σ x=τ x)->ia σ t=ia τ t
 | [],_=>rfl
 | t :: l,h=>by
  simp only[ia]
  rw[Ef t (fun x hx=>h x (by simp[ar,hx])),tF l (fun x hx=>h x (by simp[ar,hx]))]
end
theorem rG {o:Int} {n:Str} {a:List Tm} {s:List Fm} {x:Str} (hq:bn o=true) (hx:x∈bj [] s) (hn:x≠n):x∈aO [] (.mk o n a s):=by
 simp only[aO,List.mem_append,hq,if_true]
 right
 rw[lp]
 exact List.mem_filter.2 ⟨hx,by simpa using hn⟩
theorem rH {o:Int} {n:Str} {a:List Tm} {s:List Fm} {x:Str} (hx:x∈ar a):x∈aO [] (.mk o n a s):=by
 simp only[aO,List.mem_append]
 left
 exact List.mem_filter.2 ⟨hx,by simp⟩
mutual
theorem xx:∀ (f:Fm) (σ τ:Str->Dt) (d:Nat),(∀ x∈aO [] f,σ x=τ x)->dbF σ d f=dbF τ d f
 | .mk o n a s,σ,τ,d,h=>by
  have ha:ia σ a=ia τ a:=tF a (fun x hx=>h x (rH hx))
  simp only[dbF,ha]
  by_cases hq:bn o
  ·rw[if_pos hq,if_pos hq]
   rw[tG s (upd σ n (.lvl d)) (upd τ n (.lvl d)) (d+1) (fun x hx=>by
    unfold upd
    split
    ·rfl
    ·rename_i hn
     exact h x (rG hq hx (by simpa using hn)))]
  ·rw[if_neg hq,if_neg hq]
   rw[tG s σ τ d (fun x hx=>h x (by simp only[aO,List.mem_append];right;rw[if_neg hq];exact hx))]
theorem tG:∀ (f:List Fm) (σ τ:Str->Dt) (d:Nat),(∀ x∈bj [] f,σ x=τ x)->iO σ d f=iO τ d f
 | [],_,_,_,_=>rfl
 | t :: l,σ,τ,d,h=>by
  simp only[iO]
  rw[xx t σ τ d (fun x hx=>h x (by simp[bj,hx])),tG l σ τ d (fun x hx=>h x (by simp[bj,hx]))]
end
/-! alike: the same without bound names -/
def env:List Str->Str->Dt
 | [],x=>.fre x
 | n :: r,x=>if x == n then .lvl r.length else env r x
theorem Eg (n:Str) (r:List Str):env (n :: r)=upd (env r) n (.lvl r.length):=by funext x;rfl
theorem B4:∀ (l:List Str) (x:Str) (i:Nat),env l x=.lvl i->i<l.length
 | [],x,i,h=>by simp[env]at h
 | n :: r,x,i,h=>by
  unfold env at h
  split at h
  ·simp only[Dt.lvl.injEq]at h;subst h;simp
  ·have:=B4 r x i h;simp;omega
theorem xy:∀ (c:Sco) (x y:Str),lZ c x y=true ↔ env (c.map (·.1)) x=env (c.map (·.2)) y
 | [],x,y=>by simp[lZ,env]
 | (s,a) :: r,x,y=>by
  have ih:=xy r x y
  simp only[lZ,List.map_cons,env,List.length_map]
  by_cases h1:s=x
  ·subst h1
   by_cases h2:a=y
   ·subst h2;simp
   ·have e2:(a == y)=false:=by simpa using h2
    have e3:(y == a)=false:=by simpa using fun h=>h2 h.symm
    simp only[beq_self_eq_true,e2,Bool.true_or,Bool.and_false,e3,Bool.false_eq_true,↓reduceIte,false_iff]
    intro h
    have:=B4 _ _ _ h.symm
    simp at this
  ·have e1:(s == x)=false:=by simpa using h1
   have e4:(x == s)=false:=by simpa using fun h=>h1 h.symm
   by_cases h2:a=y
   ·subst h2
    simp only[e1,beq_self_eq_true,Bool.or_true,Bool.false_and,e4,Bool.false_eq_true,↓reduceIte,false_iff]
    intro h
    have:=B4 _ _ _ h
    simp at this
   ·have e2:(a == y)=false:=by simpa using h2
    have e3:(y == a)=false:=by simpa using fun h=>h2 h.symm
    simp only[e1,e2,Bool.or_self,Bool.false_eq_true,↓reduceIte,e3,e4]
    exact ih
theorem uH:∀ (c:Sco) (x y:Str),c.any (fun p=>p.1 == x || p.2 == y)=false->lZ c x y=(x == y)
 | [],x,y,_=>by simp[lZ]
 | (s,a) :: r,x,y,h=>by
  simp only[List.any_cons,Bool.or_eq_false_iff]at h
  simp only[lZ,h.1.1,h.1.2,Bool.or_self,Bool.false_eq_true,↓reduceIte]
  exact uH r x y (by simpa using h.2)
theorem lq (σ:Str->Dt):∀ l,(ia σ l).length=l.length
 | []=>rfl
 | t :: l=>by simp[ia,lq σ l]
theorem oD (σ:Str->Dt) (d:Nat):∀ l,(iO σ d l).length=l.length
 | []=>rfl
 | t :: l=>by simp[iO,oD σ d l]
theorem IL (l:List Str) (x n:Str) (a:List Dt):env l x≠.app n a:=by
 induction l with
 | nil=>simp[env]
 | cons y r ih=>unfold env;split <;> simp[ih]
mutual
theorem Gx (c:Sco):∀ (t u:Tm),lL t=true->lL u=true->(eP c t u=true ↔ l_ (env (c.map (·.1))) t=l_ (env (c.map (·.2))) u)
 | .mk v n a,.mk v' n' a',ht,hu=>by
  simp only[lL,Bool.and_eq_true,Bool.or_eq_true,Bool.not_eq_true']at ht hu
  cases v with
  | true=>
   obtain rfl:a=[]:=by simpa using ht.1
   cases v' with
   | true=>
    obtain rfl:a'=[]:=by simpa using hu.1
    simp only[eP,l_,beq_self_eq_true,Bool.and_self,Bool.true_and,↓reduceIte,bH,Bool.and_true]
    rw[<-xy]
    split
    ·rfl
    ·rename_i h;rw[uH c n n' (by simpa using h)]
   | false=>
    simp only[eP,l_,↓reduceIte,Bool.false_eq_true]
    constructor
    ·intro h;simp at h
    ·intro h;exact absurd h (IL _ _ _ _)
  | false=>
   cases v' with
   | true=>
    simp only[eP,l_,↓reduceIte,Bool.false_eq_true]
    constructor
    ·intro h;simp at h
    ·intro h;exact absurd h.symm (IL _ _ _ _)
   | false=>
    have ih:=fun hl=>oE c a a' ht.2 hu.2 hl
    simp only[eP,l_,Bool.false_eq_true,↓reduceIte,Bool.false_and,beq_self_eq_true,Bool.true_and,Bool.and_eq_true,beq_iff_eq,Dt.app.injEq]
    constructor
    ·rintro ⟨h1,h2,h3⟩;exact ⟨h2,(ih h1).1 h3⟩
    ·rintro ⟨h1,h2⟩
     have hl:a.length=a'.length:=by have:=congrArg List.length h2;rwa [lq,lq]at this
     exact ⟨hl,h1,(ih hl).2 h2⟩
theorem oE (c:Sco):∀ (t u:List Tm),eb t=true->eb u=true->t.length=u.length->(bH c t u=true ↔ ia (env (c.map (·.1))) t=ia (env (c.map (·.2))) u)
 | [],[],_,_,_=>by simp[bH,ia]
 | [],_ :: _,_,_,h=>by simp at h
 | _ :: _,[],_,_,h=>by simp at h
 | t :: l,u :: m,ht,hu,h=>by
  simp only[eb,Bool.and_eq_true]at ht hu
  simp only[bH,ia,Bool.and_eq_true,List.cons.injEq,Gx c t u ht.1 hu.1,oE c l m ht.2 hu.2 (by simpa using h)]
end
mutual
theorem xz:∀ (t u:Fm) (c:Sco),iF t=true->iF u=true->(bT c t u=true ↔ dbF (env (c.map (·.1))) c.length t=dbF (env (c.map (·.2))) c.length u)
 | .mk o n a s,.mk o' n' a' s',c,ht,hu=>by
  simp only[iF,Bool.and_eq_true]at ht hu
  simp only[bT,dbF,Bool.and_eq_true,beq_iff_eq,Bool.or_eq_true]
  have L2:=fun hl=>oE c a a' ht.1 hu.1 hl
  constructor
  ·rintro ⟨⟨rfl,h1,h2⟩,h3,h4,h5⟩
   rw[(L2 h1).1 h4]
   by_cases hq:bn o
   ·rw[if_pos hq]at h5 ⊢
    rw[if_pos hq]
    have:=(jV s s' ((n,n') :: c) ht.2 hu.2 h2).1 h5
    simp only[List.map_cons,Eg,List.length_map,List.length_cons]at this
    rw[this]
   ·rw[if_neg hq]at h5 ⊢
    rw[if_neg hq]
    rw[(jV s s' c ht.2 hu.2 h2).1 h5,h3.resolve_right hq]
  ·intro h
   by_cases hq:bn o
   ·rw[if_pos hq]at h
    by_cases jC:bn o'
    ·rw[if_pos jC]at h
     simp only[Df.mk.injEq,true_and]at h
     obtain ⟨rfl,h2,h3⟩:=h
     have pp217:=();exact pm217
    ·rw[if_neg jC]at h
     simp only[Df.mk.injEq]at h
     rw[h.1]at hq;exact absurd hq jC
   ·rw[if_neg hq]at h
    by_cases jC:bn o'
    ·rw[if_pos jC]at h
     simp only[Df.mk.injEq]at h
     rw[h.1]at hq;exact absurd jC hq
    ·rw[if_neg jC]at h
     simp only[Df.mk.injEq]at h
     obtain ⟨rfl,h1,h2,h3⟩:=h
     exact pm217
theorem jV:∀ (t u:List Fm) (c:Sco),eF t=true->eF u=true->t.length=u.length->(cb c t u=true ↔ iO (env (c.map (·.1))) c.length t=iO (env (c.map (·.2))) c.length u)
 | [],[],_,_,_,_=>by simp[cb,iO]
 | [],_ :: _,_,_,_,h=>by simp at h
 | _ :: _,[],_,_,_,h=>by simp at h
 | t :: l,u :: m,c,ht,hu,h=>by
  simp only[eF,Bool.and_eq_true]at ht hu
  simp only[cb,iO,Bool.and_eq_true,List.cons.injEq,xz t u c ht.1 hu.1,jV l m c ht.2 hu.2 (by simpa using h)]
end
def db (f:Fm):Df:=dbF (env []) 0 f
theorem JU {f g:Fm} (hf:iF f=true) (hg:iF g=true):bT [] f g=true ↔ db f=db g:=xz f g [] hf hg
/-! names put into a formula without bound names -/
mutual
def qone:Fm->Bool | .mk o _ a s=>(!bn o || (s.length == 1 && a.isEmpty)) && en s
def en:List Fm->Bool | []=>true | t :: l=>qone t && en l
end
mutual
theorem rI {sc:Bool}:∀ t,okF sc t=true->qone t=true
 | .mk o n a s,h=>by
  simp only[okF,Bool.and_eq_true]at h
  simp only[qone,Bool.and_eq_true,Bool.or_eq_true]
  refine ⟨?_,Eh s h.2.2.2.2⟩
  have h1:=h.2.1.2.2
  cases hq:bn o with
  | false=>exact .inl rfl
  | true=>
   simp only[bn,Bool.or_eq_true,beq_iff_eq]at hq
   have e1:(rowOp o).2.2.2.2=1:=by rcases hq with rfl | rfl <;> decide
   have e2:(rowOp o).2.2.2.1=0:=by rcases hq with rfl | rfl <;> decide
   rw[e1]at h1
   have h2:=h.2.1.2.1
   rw[e2]at h2
   have:a=[]:=List.length_eq_zero_iff.1 (by simpa using h2)
   subst this
   exact .inr ⟨h1,rfl⟩
theorem Eh {sc:Bool}:∀ t,cX sc t=true->en t=true
 | [],_=>by simp[en]
 | t :: l,h=>by simp only[cX,Bool.and_eq_true]at h;simp[en,rI t h.1,Eh l h.2]
end
/-! the least name that is not taken -/
def L3:List UInt8->Nat:=List.foldl (fun n c=>n * 10+(c.toNat - 48)) 0
theorem JV (l:List UInt8) (c:UInt8):L3 (l ++ [c])=L3 l * 10+(c.toNat - 48):=by simp[L3,List.foldl_append]
theorem xA:∀ k n,n<10 ^ k->L3 (zM k n)=n
 | 0,n,h=>by simp at h;subst h;rfl
 | k+1,n,h=>by
  unfold zM
  split
  ·show 0 * 10+((UInt8.ofNat (48+n)).toNat - 48)=n
   have:(UInt8.ofNat (48+n)).toNat=48+n:=by simp[UInt8.toNat_ofNat'];omega
   omega
  ·rw[JV,xA k (n / 10) (by rw[Nat.pow_succ]at h;omega)]
   have:(UInt8.ofNat (48+n % 10)).toNat=48+n % 10:=by simp[UInt8.toNat_ofNat'];omega
   omega
theorem JW {m n:Nat} (hm:m<10 ^ 20) (hn:n<10 ^ 20) (h:gg m=gg n):m=n:=by
 unfold gg at h
 have h1:=congrArg L3 (List.cons.inj h).2
 rwa [xA 20 m hm,xA 20 n hn]at h1
theorem IM {α:Type} [DecidableEq α]:∀ (l t:List α),l.Nodup->(∀ x∈l,x∈t)->l.length<=t.length
 | [],t,_,_=>Nat.zero_le _
 | a :: l,t,hn,hs=>by
  obtain ⟨h1,h2⟩:=List.nodup_cons.1 hn
  have ha:=hs a (List.mem_cons_self ..)
  have:=IM l (t.erase a) h2 (fun x hx=>(List.mem_erase_of_ne (fun e=>by subst e;exact h1 hx)).2 (hs x (List.mem_cons_of_mem _ hx)))
  rw[List.length_erase_of_mem ha]at this
  have:=List.length_pos_of_mem ha
  simp only[List.length_cons]
  omega
theorem qI (t:List Str) (ht:t.length<10 ^ 19):∀ k n,1<=n->n+k=t.length+1->(∀ i,1<=i->i<n->gg i∈t) →
  kL t k n ∉ t/\∃j,1<=j/\j<=t.length+1/\kL t k n=gg j/\∀ i,1<=i->i<j->gg i∈t
 | 0,n,h1,hk,hi=>by
  simp only[kL]
  refine ⟨fun hn=>?_,n,h1,by omega,rfl,hi⟩
  have zX:((List.range' 1 n).map gg).Nodup:=by
   rw[List.nodup_iff_pairwise_ne,List.pairwise_map]
   refine (List.nodup_iff_pairwise_ne.1 List.nodup_range').imp_of_mem ?_
   intro a b ha hb F8 he
   rw[List.mem_range'_1]at ha hb
   exact F8 (JW (by omega) (by omega) he)
  have:=IM _ t zX (fun x hx=>by
   obtain ⟨i,sU,rfl⟩:=List.mem_map.1 hx
   rw[List.mem_range'_1]at sU
   by_cases e:i=n
   ·subst e;exact hn
   ·exact hi i sU.1 (by omega))
  simp at this
  omega
 | k+1,n,h1,hk,hi=>by
  unfold kL
  split
  ·rename_i hc
   refine qI t ht k (n+1) (by omega) (by omega) (fun i h2 h3=>?_)
   by_cases e:i=n
   ·subst e;simpa using hc
   ·exact hi i h2 (by omega)
  ·rename_i hc
   exact ⟨by simpa using hc,n,h1,by omega,rfl,hi⟩
theorem pk (t:List Str) (ht:t.length<10 ^ 19):dq t ∉ t:=(qI t ht t.length 1 (Nat.le_refl _) (by omega) (fun i h1 h2=>by omega)).1
theorem rJ (t:List Str) (ht:t.length<10 ^ 19):∃j,1<=j/\j<=t.length+1/\dq t=gg j/\∀ i,1<=i->i<j->gg i∈t:=(qI t ht t.length 1 (Nat.le_refl _) (by omega) (fun i h1 h2=>by omega)).2
theorem B7:∀ k n j,n<10 ^ j->1<=j->(zM k n).length<=j
 | 0,n,j,_,_=>by simp[zM]
 | k+1,n,j,h,hj=>by
  unfold zM
  split
  ·simpa using hj
  ·rw[List.length_append]
   cases j with
   | zero=>omega
   | succ j=>
    cases j with
    | zero=>omega
    | succ j=>have:=B7 k (n / 10) (j+1) (by rw[Nat.pow_succ]at h;omega) (by omega);simp;omega
/-! a term put for a name -/
theorem fZ (f:Str->Option Tm):∀ l,pV f l=l.map (e_ f)
 | []=>by simp[pV]
 | t :: l=>by simp[pV,fZ f l]
mutual
theorem Pb (σ:Str->Dt) (x:Str) (u:Tm):∀ t,l_ σ (jQ x u t)=l_ (upd σ x (l_ σ u)) t
 | .mk v n a=>by
  have ih:=oF σ x u a
  simp only[dP]at ih
  unfold jQ e_
  cases v with
  | true=>
   by_cases h:n == x
   ·simp[h,l_,upd]
   ·simp[h,l_,upd]
  | false=>
   simp only[Bool.false_eq_true,↓reduceIte,l_]
   rw[<-ih]
   congr 2
   exact (fZ _ a)
theorem oF (σ:Str->Dt) (x:Str) (u:Tm):∀ l,ia σ (dP x u l)=ia (upd σ x (l_ σ u)) l
 | []=>by simp[dP,ia]
 | t :: l=>by
  have ih:=oF σ x u l
  simp only[dP]at ih ⊢
  simp only[List.map_cons,ia,Pb σ x u t,ih]
end
mutual
theorem Pc {x:Str} {u:Tm} (hu:lL u=true):∀ t,lL t=true->lL (jQ x u t)=true
 | .mk v n a,h=>by
  have ih:=rK (x:=x) hu a
  simp only[lL,Bool.and_eq_true]at h
  unfold jQ e_
  cases v with
  | true=>
   obtain rfl:a=[]:=by simpa using h.1
   by_cases h1:n == x
   ·simp[h1,hu]
   ·simp[h1,lL,pV,eb]
  | false=>
   simp only[Bool.false_eq_true,↓reduceIte,lL,Bool.not_false,Bool.true_or,Bool.true_and]
   rw[fZ]
   exact ih h.2
theorem rK {x:Str} {u:Tm} (hu:lL u=true):∀ l,eb l=true->eb (dP x u l)=true
 | [],_=>by simp[dP,eb]
 | t :: l,h=>by
  have ih:=rK (x:=x) hu l
  simp only[dP]at ih ⊢
  simp only[eb,Bool.and_eq_true]at h
  simp only[List.map_cons,eb,Bool.and_eq_true]
  exact ⟨Pc hu t h.1,ih h.2⟩
end
mutual
theorem Gy {x:Str} {y:Str}:∀ t,lL t=true->cR (jQ x (ap y) t)=cR t
 | .mk v n a,h=>by
  have ih:=oG (x:=x) (y:=y) a
  simp only[lL,Bool.and_eq_true]at h
  unfold jQ e_
  cases v with
  | true=>
   obtain rfl:a=[]:=by simpa using h.1
   by_cases h1:n == x
   ·simp[h1,ap,cR]
   ·simp[h1,pV,cR]
  | false=>
   simp only[Bool.false_eq_true,↓reduceIte,cR]
   rw[fZ]
   exact congrArg (·+1) (ih h.2)
theorem oG {x:Str} {y:Str}:∀ l,eb l=true->bz (dP x (ap y) l)=bz l
 | [],_=>by simp[dP]
 | t :: l,h=>by
  have ih:=oG (x:=x) (y:=y) l
  simp only[dP]at ih ⊢
  simp only[eb,Bool.and_eq_true]at h
  simp only[List.map_cons,bz,ih h.2,Gy t h.1]
end
theorem IN (y:Str):lL (ap y)=true:=by simp[ap,lL,eb]
theorem m_ {o:Int} {n:Str} {a:List Tm} {s:List Fm} (hq:bn o=true) (h:qone (.mk o n a s)=true):a=[]/\∃g,s=[g]:=by
 simp only[qone,Bool.and_eq_true,Bool.or_eq_true,Bool.not_eq_true']at h
 rcases h.1 with h | h
 ·rw[hq]at h;cases h
 ·exact ⟨by simpa using h.2,List.length_eq_one_iff.1 (by simpa using h.1)⟩
mutual
theorem Gz {x:Str} {y:Str}:∀ t,lL t=true->nodesT (jQ x (ap y) t)=nodesT t
 | .mk v n a,h=>by
  have ih:=oH (x:=x) (y:=y) a
  simp only[lL,Bool.and_eq_true]at h
  unfold jQ e_
  cases v with
  | true=>
   obtain rfl:a=[]:=by simpa using h.1
   by_cases h1:n == x
   ·simp[h1,ap,nodesT]
   ·simp[h1,pV,nodesT]
  | false=>
   simp only[Bool.false_eq_true,↓reduceIte,nodesT]
   rw[fZ]
   exact congrArg (·+1) (ih h.2)
theorem oH {x:Str} {y:Str}:∀ l,eb l=true->ac (dP x (ap y) l)=ac l
 | [],_=>by simp[dP]
 | t :: l,h=>by
  have ih:=oH (x:=x) (y:=y) l
  simp only[dP]at ih ⊢
  simp only[eb,Bool.and_eq_true]at h
  simp only[List.map_cons,ac,ih h.2,Gz t h.1]
end
theorem xC {φ:Fm->Fm}:∀ (s:List Fm),(∀ g∈s,nodesF (φ g)=nodesF g)->ah (s.map φ)=ah s
 | [],_=>rfl
 | g :: s,h=>by simp only[List.map_cons,ah];rw[h g (List.mem_cons_self ..),xC s (fun x hx=>h x (List.mem_cons_of_mem _ hx))]
theorem xD {φ:Fm->Fm}:∀ (s:List Fm),(∀ g∈s,depthF (φ g)=depthF g)->aU (s.map φ)=aU s
 | [],_=>rfl
 | g :: s,h=>by simp only[List.map_cons,aU];rw[h g (List.mem_cons_self ..),xD s (fun x hx=>h x (List.mem_cons_of_mem _ hx))]
theorem jh:∀ (s:List Fm),eF s=true ↔ ∀ g∈s,iF g=true
 | []=>by simp[eF]
 | g :: s=>by simp[eF,jh s]
theorem gK:∀ (s:List Fm),en s=true ↔ ∀ g∈s,qone g=true
 | []=>by simp[en]
 | g :: s=>by simp[en,gK s]
theorem jD:∀ (s:List Fm) (g:Fm),g∈s->depthF g<=aU s
 | [],g,h=>by cases h
 | x :: s,g,h=>by
  simp only[aU]
  rcases List.mem_cons.1 h with rfl | h
  ·omega
  ·have:=jD s g h;omega
theorem kT:∀ (s:List Fm) (g:Fm),g∈s->nodesF g<=ah s
 | [],g,h=>by cases h
 | x :: s,g,h=>by
  simp only[ah]
  rcases List.mem_cons.1 h with rfl | h
  ·omega
  ·have:=kT s g h;omega
mutual
theorem mD:∀ t,(aI t).length<=nodesT t
 | .mk v n a=>by
  have:=qJ a
  simp only[aI,nodesT]
  split <;> simp <;> omega
theorem qJ:∀ t,(ar t).length<=ac t
 | []=>by simp[ar]
 | t :: l=>by have:=mD t;have:=qJ l;simp only[ar,ac,List.length_append];omega
end
mutual
theorem fj:∀ (f:Fm) (b:List Str),(aO b f).length<=nodesF f
 | .mk o n a s,b=>by
  have h1:=qJ a
  have h2:=AN s (if bn o then n :: b else b)
  have h3:=List.length_filter_le (fun x=>!b.contains x) (ar a)
  simp only[aO,nodesF,List.length_append]
  omega
theorem AN:∀ (f:List Fm) (b:List Str),(bj b f).length<=ah f
 | [],b=>by simp[bj]
 | t :: l,b=>by have:=fj t b;have:=AN l b;simp only[bj,ah,List.length_append];omega
end
theorem kU (f:Fm):1<=depthF f:=by obtain ⟨o,n,a,s⟩:=f;simp[depthF]
theorem na {k:Nat} {x:Str} {u:Tm} {o:Int} {n:Str} {a:List Tm} {g:Fm} (hq:bn o=true):ep (k+1) x u (.mk o n a [g]) =
  if n == x || !(aO [] g).contains x then .mk o n a [g]
  else if (aI u).contains n then .mk o (dq (aO [] g ++ aI u)) (dP x u a) [ep k x u (ep k n (ap (dq (aO [] g ++ aI u))) g)]
  else .mk o n (dP x u a) [ep k x u g]:=by
 simp only[ep,hq,if_true]
theorem tH {k:Nat} {x:Str} {u:Tm} {o:Int} {n:Str} {a:List Tm} {s:List Fm} (hq:bn o=false):ep (k+1) x u (.mk o n a s)=.mk o n (dP x u a) (s.map (ep k x u)):=by
 simp only[ep,hq,Bool.false_eq_true,↓reduceIte]
theorem f8:∀ (k:Nat) (f:Fm) (x y:Str),iF f=true->qone f=true->depthF f<=k->iF (ep k x (ap y) f)=true/\qone (ep k x (ap y) f)=true/\depthF (ep k x (ap y) f)=depthF f/\nodesF (ep k x (ap y) f)=nodesF f
 | 0,f,x,y,hw,hq,hd=>by have:=kU f;omega
 | k+1,.mk o n a s,x,y,hw,hq1,hd=>by
  have lG:=hw
  have pp116a:=();exact pm116
theorem xE (σ:Str->Dt) {x y:Str} (h:x≠y) (u v:Dt):upd (upd σ x u) y v=upd (upd σ y v) x u:=by
 funext z
 unfold upd
 by_cases h1:z=x
 ·subst h1
  have:(z == y)=false:=by simpa using h
  simp[this]
 ·have:(z == x)=false:=by simpa using h1
  simp[this]
theorem Ei {n:Str} {u:Tm} (h:(aI u).contains n=false) (σ:Str->Dt) (v:Dt):l_ (upd σ n v) u=l_ σ u:=by
 refine Ef u (fun z hz=>?_)
 unfold upd
 split
 ·rename_i h1
  rw[beq_iff_eq]at h1
  subst h1
  have:(aI u).contains z=true:=by simpa using hz
  rw[h]at this;cases this
 ·rfl
theorem Ej (φ:Fm->Fm) (σ τ:Str->Dt) (d:Nat):∀ (s:List Fm),(∀ g∈s,dbF σ d (φ g)=dbF τ d g)->iO σ d (s.map φ)=iO τ d s
 | [],_=>rfl
 | g :: s,h=>by simp only[List.map_cons,iO];rw[h g (List.mem_cons_self ..),Ej φ σ τ d s (fun x hx=>h x (List.mem_cons_of_mem _ hx))]
theorem L4 {g:Fm} {m:Str} (h:m ∉ aO [] g) (σ:Str->Dt) (v:Dt) (d:Nat):dbF (upd σ m v) d g=dbF σ d g:=by
 refine xx g _ _ d (fun z hz=>?_)
 unfold upd
 split
 ·rename_i h1
  rw[beq_iff_eq]at h1
  subst h1
  exact absurd hz h
 ·rfl
theorem rL:∀ (k:Nat) (f:Fm) (x:Str) (u:Tm) (σ:Str->Dt) (d:Nat),iF f=true->qone f=true->depthF f<=k->nodesF f+nodesT u<10 ^ 19->dbF σ d (ep k x u f)=dbF (upd σ x (l_ σ u)) d f
 | 0,f,x,u,σ,d,hw,hq,hd,hn=>by have:=kU f;omega
 | k+1,.mk o n a s,x,u,σ,d,hw,hq1,hd,hn=>by
  have pp116b:=();exact pm116
theorem L5:∀ k n,n<10 ^ (k+1)->zM (k+1) n=Lib.decDigits n:=by
 intro k
 induction k with
 | zero=>intro n h;rw[zM,if_pos (by omega),Lib.decDigits,dif_pos (by omega)]
 | succ k ih=>
  intro n h
  rw[zM,Lib.decDigits]
  by_cases hn:n<10
  ·rw[if_pos hn,dif_pos hn]
  ·rw[if_neg hn,dif_neg hn,ih (n / 10) (by rw[Nat.pow_succ]at h;omega)]
theorem GA {n:Nat} (h:n<10 ^ 20):gg n=120 :: Lib.itoa (n:Int):=by
 unfold gg
 rw[L5 19 n h,Lib.itoa,if_neg (by omega)]
 simp
theorem Ek {t:List Str} (ht:t.length<10 ^ 19) {j:Nat} (h1:1<=j) (hn:gg j ∉ t) (hb:∀ i,1<=i->i<j->gg i∈t):dq t=gg j:=by
 obtain ⟨j',SL,nM,he,Ra⟩:=rJ t ht
 have AO:=pk t ht
 rw[he]at AO
 rcases Nat.lt_trichotomy j j' with h | h | h
 ·exact absurd (Ra j h1 h) hn
 ·rw[he,h]
 ·exact absurd (hb j' SL h) AO
theorem GC {t:List Str} (ht:t.length<10 ^ 19) {n:Nat} (hb:∀ i,1<=i->i<n->gg i∈t):n<=t.length+1:=by
 obtain ⟨j',SL,nM,he,_⟩:=rJ t ht
 have AO:=pk t ht
 rw[he]at AO
 by_cases h:j'<n
 ·exact absurd (hb j' SL h) AO
 ·omega
theorem AP {t t':List Str} (ht:t.length<10 ^ 19) (ht':t'.length<10 ^ 19) (h:∀ x,x∈t ↔ x∈t'):dq t=dq t':=by
 obtain ⟨j',SL,nM,he,Ra⟩:=rJ t' ht'
 have AO:=pk t' ht'
 rw[he]at AO ⊢
 exact Ek ht SL (fun hx=>AO ((h _).1 hx)) (fun i h1 h2=>(h _).2 (Ra i h1 h2))
def IQ:Value->Option (DataW Value×List MemPlace):=fun v=>some (.held v,[])
def MapV (P:Program) (k:TypeId) {α:Type} (V:Value->α->Prop) (W:World) (m n:Nat) (l:List (Str×α)):Prop:=
 ∃D:DataW Value,W.ownsMap P k IQ m n D/\∀ x:Str,(getB l x=none->Maps.has D (.string x)=false)/\∀ a,getB l x=some a->Maps.has D (.string x)=true/\∃v,(∀ d,D.atKey (.string x) d=.held v)/\V v a
section
variable {P:Program} {k:TypeId} {α:Type} {V:Value->α->Prop} {W:World} {m n:Nat} {l:List (Str×α)}
theorem MapV.lt (h:MapV P k V W m n l):m<W.heap.size:=by obtain ⟨D,h,_⟩:=h;exact h.lt
theorem MapV.move {V':Value->α->Prop} {W':World} (h:MapV P k V W m n l) (hb:W'.heap[m]?=W.heap[m]?) (hV:∀ x v a,getB l x=some a->V v a->V' v a):MapV P k V' W' m n l:=by
 obtain ⟨D,⟨es,wZ,h1,F,h2,h3⟩,hx⟩:=h
 refine ⟨D,⟨es,wZ,hb.trans h1,F,h2,h3⟩,fun x=>⟨(hx x).1,fun a ha=>?_⟩⟩
 obtain ⟨h4,v,h5,h6⟩:=(hx x).2 a ha
 exact ⟨h4,v,h5,hV x v a ha h6⟩
theorem MapV.made (w:World):MapV P k V (w.alloc (.map #[] 0)) w.heap.size 0 []:=
 ⟨_,World.ownsMap_made w _ _ _,fun x=>⟨fun _=>by simp[Maps.has],fun a ha=>by simp[getB]at ha⟩⟩
theorem tI (hk:P.underlying k=some .string) {x:Str} (hx:x.length<=2000000):keyOf P k (.string ⟨x.toArray⟩)=some (.string x):=by
 have h:(⟨x.toArray⟩:ByteArray).size<=maxLen:=by have e:(⟨x.toArray⟩:ByteArray).size=x.length:=rfl;rw[e];unfold maxLen;omega
 rw[WideMaps.keyOf_string_mk hk h]
theorem MapV.look (h:MapV P k V W m n l) (hk:P.underlying k=some .string) {t e:TypeId} (ht:P.underlying t=some (.map k e)) {z:Value} (hz:∀ W,(zeroValue e).run P W=.ok z W) {x:Str} (hx:x.length<=2000000) :
  (getB l x=none/\(∀ W',W'.heap[m]?=W.heap[m]?->(Instr.lookup t (.map (some m)) (.string ⟨x.toArray⟩) true).run P W'=.ok (.tuple #[z,.bool false]) W'/\(Instr.lookup t (.map (some m)) (.string ⟨x.toArray⟩) false).run P W'=.ok z W')) ∨
  (∃a v,getB l x=some a/\V v a/\∀ W',W'.heap[m]?=W.heap[m]?->(Instr.lookup t (.map (some m)) (.string ⟨x.toArray⟩) true).run P W'=.ok (.tuple #[v,.bool true]) W'/\(Instr.lookup t (.map (some m)) (.string ⟨x.toArray⟩) false).run P W'=.ok v W'):=by
 obtain ⟨D,⟨es,wZ,hb,F,hs,hD⟩,pi⟩:=h
 have JQ:=tI hk hx
 have K:=Maps.string_keyed hk
 cases hg:getB l x with
 | none=>
  left
  refine ⟨rfl,fun W' hW=>?_⟩
  have h0:=(pi x).1 hg
  have h1:∀ c,(Instr.lookup t (.map (some m)) (.string ⟨x.toArray⟩) c).run P W'=.ok (if c then .tuple #[z,.bool false] else z) W':=fun c=>by
   rcases Maps.fit_look c K ht (hz W') (hW.trans hb) F JQ with ⟨hr,_⟩ | ⟨e0,y,_,_,_,_,hat,_⟩
   ·exact hr
   ·rw[<-hD]at hat
    rw[Maps.has_true_of_atKey hat]at h0
    cases h0
  exact ⟨h1 true,h1 false⟩
 | some a=>
  right
  obtain ⟨h4,v,h5,h6⟩:=(pi x).2 a hg
  refine ⟨a,v,rfl,h6,fun W' hW=>?_⟩
  have h1:∀ c,(Instr.lookup t (.map (some m)) (.string ⟨x.toArray⟩) c).run P W'=.ok (if c then .tuple #[v,.bool true] else v) W':=fun c=>by
   rcases Maps.fit_look c K ht (hz W') (hW.trans hb) F JQ with ⟨_,_,hat⟩ | ⟨e0,y,_,_,hr,hR,hat,_⟩
   ·rw[<-hD]at hat
    rw[Maps.has_false_of_atKey hat]at h4
    cases h4
   ·rw[<-hD]at hat
    have:=(hat .nil).symm.trans (h5 .nil)
    unfold IQ at hR
    cases hR
    simp at this
    rw[<-this]
    exact hr
  exact ⟨h1 true,h1 false⟩
theorem MapV.store (h:MapV P k V W m n l) (hk:P.underlying k=some .string) {t e:TypeId} (ht:P.underlying t=some (.map k e)) (hn:n<4000000) {x:Str} (hx:x.length<=2000000) {v:Value} {a:α} {l':List (Str×α)} {V':Value->α->Prop}
  (hv:V' v a) (hV:∀ y v b,y≠x->getB l y=some b->V v b->V' v b) (hl:∀ y,getB l' y=if y=x then some a else getB l y) :
  ∃w',(Instr.mapUpdate t (.map (some m)) (.string ⟨x.toArray⟩) v).run P W=.ok () w'/\MapV P k V' w' m (n+1) l'/\W.grownBy w' (some m)/\w'.heap.size=W.heap.size:=by
 obtain ⟨D,aC,pi⟩:=h
 have JQ:=tI hk hx
 have K:=Maps.string_keyed hk
 obtain ⟨w',hr,ho,ht2⟩:=aC.store K ht (by unfold maxLen;omega) JQ (val:=v) (d:=.held v) (ps:=[]) rfl
 refine ⟨w',hr,⟨_,ho,fun y=>?_⟩,ht2.grown,?_⟩
 ·rw[hl y]
  by_cases hy:y=x
  ·subst hy
   rw[if_pos rfl]
   refine ⟨fun h=>(by cases h),fun b hb=>?_⟩
   cases hb
   refine ⟨Maps.has_put_same aC.isMap (by simp[WideAt.IsKeyLit]) _,v,fun d=>Maps.atKey_put_same aC.isMap (by simp[WideAt.IsKeyLit]) _ _,hv⟩
  ·rw[if_neg hy]
   have jt:(Lit.string y)≠.string x:=fun e=>hy (by injection e)
   refine ⟨fun h=>?_,fun b hb=>?_⟩
   ·rw[Maps.has_put_other jt];exact (pi y).1 h
   ·obtain ⟨h4,u,h5,h6⟩:=(pi y).2 b hb
    exact ⟨by rw[Maps.has_put_other jt];exact h4,u,fun d=>by rw[Maps.atKey_put_other jt];exact h5 d,hV y u b hy hb h6⟩
 ·obtain ⟨es,wZ,Pa,SM,hb,rfl⟩:=ht2
  simp[ChangeMaps.setBlock]
end
structure Later (W:World) where
 w:World
 below:Below W.heap.size W w
instance Later.inhab (W:World):Nonempty (Later W):=⟨⟨W,Below.refl _ _⟩⟩
theorem Later.cell {W:World} (x:Later W) {b o:Nat} (h:b<W.heap.size):x.w.cell? ⟨b,o,none⟩=W.cell? ⟨b,o,none⟩:=x.below.cell (p:=⟨b,o,none⟩) h
theorem Later.get {W:World} {a:Addr} {v:Value} (h:W.cell? a=some v) (x:Later W):x.w.cell? a=some v:=aa x.below h
theorem bM {P:Program} {f:FuncId} {args:Array Value} {W:World} {x:Later W} {v:Value}
  (h:Calls P f args x.w fun e w'=>e=.returned v/\Below x.w.heap.size x.w w'):Calls P f args x.w fun e LC=>e=.returned v/\∃y:Later W,LC=y.w:=
 h.mono fun _ LC ⟨he,hb⟩=>⟨he,⟨LC,x.below.trans (hb.mono x.below.size)⟩,rfl⟩
theorem aM {P:Program} {id:Nat} {Q:Exit->Act->World->Prop} {a:Act} {w:World} {l:List Oper} (hm:P.follows .mixedOrders=true) (hB:Region.lexB .any l.toArray=true)
  (h:wpQuiet P l.toArray (fun w'=>∃x:Later w,w'=x.w) (fun a'=>∀ w',(∃x:Later w,w'=x.w)->Q .normal a' w') l a):(Code.region id l.toArray true).wp P Q a w:=
 wp_region_quiet (C:=fun w'=>∃x:Later w,w'=x.w) hm hB ⟨⟨{ w with drawn:=w.drawn+1 },⟨rfl,rfl,rfl,Nat.le_refl _,fun _ _=>rfl⟩⟩,rfl⟩ (by simpa using h)
def StrsV (W:World) (v:Value) (l:List Str):Prop:=∃a cap,v=.slice a l.length cap/\l.length<=cap/\(l=[]\/∃b off,a=some ⟨b,off,none⟩/\∀ j (h:j<l.length),W.cell? ⟨b,off+j,none⟩=some (.string ⟨l[j].toArray⟩))
theorem StrsV.later {W W':World} {v:Value} {l:List Str} (h:StrsV W v l) (hb:Below W.heap.size W W'):StrsV W' v l:=by
 exact pm131
theorem StrsV.len {W:World} {a:Option Addr} {n c:Nat} {l:List Str} (h:StrsV W (.slice a n c) l):n=l.length:=by
 obtain ⟨a',cap,hv,_⟩:=h
 injection hv
theorem StrsV.get {W:World} {a:Option Addr} {n c:Nat} {l:List Str} (h:StrsV W (.slice a n c) l) {j:Nat} (hj:j<l.length) :
  ∃b off,a=some ⟨b,off,none⟩/\∀ j (h:j<l.length),W.cell? ⟨b,off+j,none⟩=some (.string ⟨l[j].toArray⟩):=by
 have pp262a:=();exact pm262
theorem B8 {l:List Str} {k:Nat} (h:k+1<l.length):dh (l.drop k)=(Op.bytesLess l[k] l[k+1] && dh (l.drop (k+1))):=by
 rw[List.drop_eq_getElem_cons (by omega:k<l.length),List.drop_eq_getElem_cons h,dh,<-List.drop_eq_getElem_cons h]
theorem El {l:List Str} {k:Nat} (h:l.length<=k+1):dh (l.drop k)=true:=by
 have hl:(l.drop k).length<=1:=by rw[List.length_drop];omega
 match hd:l.drop k with
 | []=>rfl
 | [x]=>rfl
 | _ :: _ :: _=>rw[hd]at hl;simp at hl
theorem rM (l:List Str) (cq:l.length<=1000000000) (w:World) (v:Value) (hv:StrsV w v l) :
  Calls Tryz.prog 70 #[v] w fun e w'=>e=.returned (.bool (dh l))/\Below w.heap.size w w':=by
 obtain ⟨a,n,c,rfl⟩:∃a n c,v=.slice a n c:=by obtain ⟨a,c,h,_⟩:=hv;exact ⟨_,_,_,h⟩
 obtain rfl:=hv.len
 obtain ⟨n0,rN⟩:=ao l.length
 obtain ⟨R,hR⟩:=ao (dh l)
 rw[<-rN]at cq
 rw[<-rN,<-hR]
 obtain ⟨HN,HV,HR⟩:=cf rN hv hR
 clear rN hv hR
 go_enter Tryz.func70,Tryz.ntmps70
 go_wp2
 go_loopw [3] (fun i wr=>∃k:Nat,(k=0\/k<n0)/\i=.int .i64 ((k:Int)+1)/\Below w.heap.size w wr/\R=dh (l.drop k)) (fun i _=>n0 - (intOf i).toNat)
 case atStart=>exact ⟨0,.inl rfl,rfl,Below.refl _ _,by simpa using HR.o⟩
 case round=>
  obtain ⟨k,hk,rfl,az,ht⟩:=hrel
  by_cases hlt:k+1<n0
  ·have bc:k+1<l.length:=by rw[<-HN.o];exact hlt
   obtain ⟨b,off,rfl,hc⟩:=HV.o.get bc
   have c0:=aa az (hc k (by omega))
   have c1:=aa az (hc (k+1) bc)
   rw[B8 bc]at ht
   obtain ⟨x,hx⟩:=ao (l[k])
   obtain ⟨y,hy⟩:=ao (l[k+1])
   rw[<-hx]at ht c0
   rw[<-hy]at ht c1
   have f0:=fun z:Later wr=>z.get c0
   have f1:=fun z:Later wr=>z.get c1
   have xF:(k:Int)+1<(n0:Int):=by omega
   obtain ⟨HB,HT⟩:=aS az ht
   clear az ht hc c0 c1 hx hy
   have pp91a:=();exact pm91
  ·have HE:=ab (show R=true by rw[ht];exact El (by rw[<-HN.o];omega))
   have HB:=ab az
   have zas:decide ((k:Int)+1<(n0:Int))=false:=by simp;omega
   clear az ht
   go_wp2
   go_ret
   exact ⟨aA HE.o.symm,HB.o⟩
end Go.Proofs.YtokemihbkeddoaaGreatDoor
