/-
Images of alike parts are alike.
-/
import Derived.Test.YtokemihbkeddoaaGreatDoorV05
namespace Go.Proofs.YtokemihbkeddoaaGreatDoor
open Go Go.RowKit Lib
set_option maxRecDepth 100000
set_option maxHeartbeats 64000000
variable {t u:Tm} {ρ σ τ:Str->Dt} {d i g lo cap R F:Nat} {f im r:Fm} {l ins:List Str} {c:Sco} {z y x n:Str} {b k:Bd} {o:Int} {m:List Tm} {p:Pl} {v row:Value} {W W' W1 w4 wr A:World} {T:TypeId}
mutual
def mpT (θ:Dt->Dt):Dt->Dt | .app n a=>.app n (Mf θ a) | t=>θ t
def Mf (θ:Dt->Dt):List Dt->List Dt | []=>[] | t :: l=>mpT θ t :: Mf θ l
end
mutual
def mpF (θ:Dt->Dt):Df->Df | .mk o n a s=>.mk o n (Mf θ a) (VR θ s)
def VR (θ:Dt->Dt):List Df->List Df | []=>[] | t :: l=>mpF θ t :: VR θ l
end
theorem VS {θ:Dt->Dt} {t:Dt} (h:t.atom):mpT θ t=θ t:=by cases t <;> first | rfl | exact h.elim
mutual
theorem Sl (θ:Dt->Dt) (hρ:Atom ρ):∀ t,fY (fun z=>θ (ρ z)) t=mpT θ (fY ρ t)
 | .mk v n a=>by
  cases v with
  | true=>simp[fY,VS (hρ n)]
  | false=>simp[fY,mpT,AD θ hρ a]
theorem AD (θ:Dt->Dt) (hρ:Atom ρ):∀ t,dB (fun z=>θ (ρ z)) t=Mf θ (dB ρ t)
 | []=>rfl
 | t :: l=>by simp[dB,Mf,Sl θ hρ t,AD θ hρ l]
end
theorem _t (θ:Dt->Dt) (ρ:Str->Dt) (n:Str) {e:Nat} (h:θ (.lvl e)=.lvl d):upd (fun z=>θ (ρ z)) n (.lvl d)=fun z=>θ (upd ρ n (.lvl e) z):=by
 funext z
 unfold upd;split
 ·exact h.symm
 ·rfl
mutual
theorem Mg (θ:Dt->Dt):∀ (f:Fm) (ρ:Str->Dt) (e e':Nat),Atom ρ->(∀ j,θ (.lvl (e+j))=.lvl (e'+j))->jF (fun z=>θ (ρ z)) e' f=mpF θ (jF ρ e f)
 | .mk o n a s,ρ,e,e',hρ,h=>by
  have h0:=h 0;simp only[Nat.add_zero]at h0;simp only[jF,AD θ hρ a];split
  ·rw[_t θ ρ n h0,G5 θ s (upd ρ n (.lvl e)) (e+1) (e'+1) (hρ.upd n e) (fun j=>by rw[show e+1+j=e+(1+j) by omega,h (1+j)];congr 1;omega)];rfl
  ·rw[G5 θ s ρ e e' hρ h];rfl
theorem G5 (θ:Dt->Dt):∀ (f:List Fm) (ρ:Str->Dt) (e e':Nat),Atom ρ->(∀ j,θ (.lvl (e+j))=.lvl (e'+j))->em (fun z=>θ (ρ z)) e' f=VR θ (em ρ e f)
 | [],_,_,_,_,_=>rfl
 | t :: l,ρ,e,e',hρ,h=>by simp[em,VR,Mg θ t ρ e e' hρ h,G5 θ l ρ e e' hρ h]
end
mutual
def atD:Dt->List Dt | .app _ a=>Sm a | t=>[t]
def Sm:List Dt->List Dt | []=>[] | t :: l=>atD t ++ Sm l
end
def wB (d:Nat):Dt->Bool | .lvl i=>decide (i<d) | _=>true
mutual
def atG (d:Nat):Df->List Dt | .mk _ _ a s=>(Sm a).filter (wB d) ++ VT d s
def VT (d:Nat):List Df->List Dt | []=>[] | t :: l=>atG d t ++ VT d l
end
def Sn (d:Nat) (ρ:Str->Dt):Prop:=∀ z i,ρ z=.lvl i->i<d
theorem VU {t:Dt} (h:t.atom):atD t=[t]:=by cases t <;> first | rfl | exact h.elim
mutual
theorem G6 (hρ:Atom ρ):∀ t,jL t=true->atD (fY ρ t)=(aE t).map ρ
 | .mk v n a,h=>by
  simp only[jL,ae]at h
  cases v with
  | true=>
   obtain rfl:a=[]:=by simpa using h.1
   simp[fY,aE,ao,VU (hρ n)]
  | false=>simp[fY,atD,aE,AE hρ a h.2]
theorem AE (hρ:Atom ρ):∀ t,dO t=true->Sm (dB ρ t)=(ao t).map ρ
 | [],_=>rfl
 | t :: l,h=>by simp only[dO,ae]at h;simp[dB,Sm,ao,G6 hρ t h.1,AE hρ l h.2]
end
theorem _u (h:Sn d ρ) (z:Str):wB d (ρ z)=true:=by
 cases e:ρ z with
 | lvl i=>simpa[wB] using h z i e
 | fre n=>rfl
 | app n a=>rfl
theorem VV (l:List Str):Sn l.length (fE l):=fun z i h=>rX l z i h
mutual
theorem Mh:∀ (f:Fm) (ρ:Str->Dt) (d e:Nat),Atom ρ->gS f=true->d<=e->atG d (jF ρ e f)=((aL [] f).map ρ).filter (wB d)
 | .mk o n a s,ρ,d,e,hρ,h,hde=>by
  simp only[gS,ae]at h;have e1:(ao a).filter (fun x=>!([]:List Str).contains x)=ao a:=List.filter_eq_self.2 (fun x _=>by simp);simp only[jF,aL,e1,List.map_append,List.filter_append]
  by_cases hq:bm o=true
  ·rw[aw hq,aw hq];simp only[atG,AE hρ a h.1];rw[G7 s _ d (e+1) (hρ.upd n e) h.2 (by omega),ib];congr 1;have:∀ l:List Str,(l.map (upd ρ n (.lvl e))).filter (wB d)=((l.filter fun x=>!(x == n)).map ρ).filter (wB d):=by
    intro l
    induction l with
    | nil=>rfl
    | cons x l ih=>
     rw[cC,List.filter_cons,List.filter_cons]
     by_cases hx:(x == n)=true
     ·have e2:upd ρ n (.lvl e) x=.lvl e:=by unfold upd;rw[aw hx]
      have e3:wB d (.lvl e)=false:=by simp only[wB,decide_eq_false_iff_not];omega
      rw[e2,e3,hx];simpa using ih
     ·have e2:upd ρ n (.lvl e) x=ρ x:=by unfold upd;rw[ak hx]
      have hx':(x == n)=false:=by simpa using hx
      rw[e2,hx',ih];simp only[Bool.not_false,if_true,cC,List.filter_cons]
   exact this _
  ·rw[ak hq,ak hq];simp only[atG,AE hρ a h.1,G7 s ρ d e hρ h.2 hde]
theorem G7:∀ (f:List Fm) (ρ:Str->Dt) (d e:Nat),Atom ρ->eR f=true->d<=e->VT d (em ρ e f)=((bn [] f).map ρ).filter (wB d)
 | [],_,_,_,_,_,_=>rfl
 | t :: l,ρ,d,e,hρ,h,hde=>by
  simp only[eR,ae]at h;simp[em,VT,bn,Mh t ρ d e hρ h.1 hde,G7 l ρ d e hρ h.2 hde]
end
theorem So (h:gS f=true):atG l.length (jF (fE l) l.length f)=(aL [] f).map (fE l):=by
 rw[Mh f _ _ _ (gP l) h (aC _)];refine List.filter_eq_self.2 (fun t ht=>?_);obtain ⟨z,_,rfl⟩:=List.mem_map.1 ht;exact _u (VV l) z
def zI (n:Nat):Dt->Bool | .lvl i=>i == n | _=>false
def Sp:List Str->List Str->Dt->Option Str
 | [],_,.fre z=>some z
 | [],_,_=>none
 | s :: r,inn,t=>if zI r.length t then (if inn.contains s then none else some (bI s)) else Sp r (s :: inn) t
theorem Sq (x:Str):∀ (c:Sco) (inn:List Str),dv.go x c inn=Sp (c.map (·.1)) inn (fE (c.map (·.2)) x)
 | [],inn=>rfl
 | (s,a) :: r,inn=>by
  simp only[dv.go,cC,Sp,fE,List.length_map]
  by_cases h:a=x
  ·subst h;simp[zI]
  ·have e1:(a == x)=false:=by simpa using h
   have e2:(x == a)=false:=by simpa using fun h2=>h h2.symm
   simp only[e1,e2,bO,↓reduceIte];have e3:zI r.length (fE (r.map (·.2)) x)=false:=by
    cases e:fE (r.map (·.2)) x with
    | lvl i=>
     have:=rX _ _ _ e;simp only[List.length_map]at this;simp only[zI,beq_eq_false_iff_ne,ne_eq];omega
    | fre n=>rfl
    | app n a=>rfl
   rw[e3];simp only[bO,↓reduceIte];exact Sq x r (s :: inn)
theorem yz (c:Sco) (x:Str):dv c x=Sp (c.map (·.1)) [] (fE (c.map (·.2)) x):=Sq x c []
def Al (ns:List Str):Dt->Dt
 | .lvl i=>if i<ns.length then (match Sp ns [] (.lvl i) with | some y=>.fre y | none=>.fre []) else .lvl (i - ns.length)
 | t=>t
theorem NO (ns:List Str) (z:Str):∀ inn,Sp ns inn (.fre z)=some z:=by
 induction ns with
 | nil=>intro inn;rfl
 | cons s r ih=>intro inn;simp only[Sp,zI,bO,↓reduceIte];exact ih _
theorem FF (h:dv c z=some y):Al (c.map (·.1)) (fE (c.map (·.2)) z)=.fre y:=by
 rw[yz]at h
 cases e:fE (c.map (·.2)) z with
 | lvl i=>
  have:=rX _ _ _ e;rw[e]at h;simp only[List.length_map]at this;simp only[Al,List.length_map,aw this,h]
 | fre n=>
  rw[e,NO]at h;simp only[c9]at h;rw[<-h];rfl
 | app n a=>exact absurd e (Gp _ _ _ _)
theorem _v (hf:okF false f=true) (h:e8 c [] f=some im):db im=mpF (Al (c.map (·.1))) (jF (fE (c.map (·.2))) c.length f):=by
 unfold db;rw[NJ f im [] _ 0 hf h,<-Mg (Al (c.map (·.1))) f (fE (c.map (·.2))) c.length 0 (gP _) (fun j=>by
  simp only[Al,List.length_map];rw[ak (by omega)];congr 1;omega)]
 refine vC f _ _ 0 (fun z hz=>?_);rcases Ci f im [] (oh _ hf) h z hz with h1 | h1
 ·simp at h1
 ·obtain ⟨y,hy⟩:=Option.isSome_iff_exists.1 h1;rw[FF hy];simp[tj,hy,fE]
theorem VW {f im:List Tm} (hf:dO f=true) (h:eq c [] f=some im):dB (fE []) im=Mf (Al (c.map (·.1))) (dB (fE (c.map (·.2))) f):=by
 rw[wu _ [] f im h,<-AD (Al (c.map (·.1))) (gP _) f];refine rW f (fun z hz=>?_);rcases nX [] f im hf h z hz with h1 | h1
 ·simp at h1
 ·obtain ⟨y,hy⟩:=Option.isSome_iff_exists.1 h1;rw[FF hy];simp[tj,hy,fE]
def FG (c:Sco) (ins l:List Str):Prop:=∀ z∈l,ins.contains z=true\/(dv c z).isSome=true
mutual
theorem NQ:∀ t,FG c ins (aE t)->(iB c ins t).isSome=true
 | .mk v n a,h=>by
  unfold iB
  cases v with
  | true=>
   simp only[↓reduceIte];rcases h n (by simp[aE]) with h | h
   ·rw[aw h];rfl
   ·split
    ·rfl
    ·simpa using h
  | false=>
   simp only[bO,↓reduceIte];simpa using Cm a (by simpa[aE] using h)
theorem Cm:∀ t,FG c ins (ao t)->(eq c ins t).isSome=true
 | [],_=>rfl
 | t :: l,h=>by
  obtain ⟨u,hu⟩:=Option.isSome_iff_exists.1 (NQ t (fun z hz=>h z (by simp[ao,hz])));obtain ⟨m,hm⟩:=Option.isSome_iff_exists.1 (Cm l (fun z hz=>h z (by simp[ao,hz])));simp[eq,hu,hm]
end
mutual
theorem NR {c:Sco}:∀ (f:Fm) (ins:List Str),FG c ins (aL [] f)->(e8 c ins f).isSome=true
 | .mk o n a s,ins,h=>by
  obtain ⟨m,hm⟩:=Option.isSome_iff_exists.1 (Cm (c:=c) (ins:=ins) a (fun z hz=>h z (vB hz)));obtain ⟨m',hm'⟩:=Option.isSome_iff_exists.1 (JO (c:=c) s (if bm o then n :: ins else ins) (fun z hz=>by
   by_cases hq:bm o=true
   ·rw[aw hq]
    by_cases e:z=n
    ·subst e;left;simp
    ·rcases h z (vA hq hz e) with h | h
     ·left;rw[List.contains_cons,h];simp
     ·exact .inr h
   ·rw[ak hq];exact h z (by simp only[aL,List.mem_append];right;rw[ak hq];exact hz)))
  simp[e8,hm,hm']
theorem JO {c:Sco}:∀ (f:List Fm) (ins:List Str),FG c ins (bn [] f)->(eZ c ins f).isSome=true
 | [],_,_=>rfl
 | t :: l,ins,h=>by
  obtain ⟨u,hu⟩:=Option.isSome_iff_exists.1 (NR t ins (fun z hz=>h z (by simp[bn,hz])));obtain ⟨m,hm⟩:=Option.isSome_iff_exists.1 (JO l ins (fun z hz=>h z (by simp[bn,hz])));simp[eZ,hu,hm]
end
mutual
theorem G8:∀ t u,jL t=true->jL u=true->fY (fE []) t=fY (fE []) u->t=u
 | .mk v n a,.mk v' n' a',ht,hu,h=>by
  simp only[jL,ae]at ht hu
  cases v with
  | true=>
   obtain rfl:a=[]:=by simpa using ht.1
   cases v' with
   | true=>
    obtain rfl:a'=[]:=by simpa using hu.1
    simp only[fY,↓reduceIte,fE,Dt.fre.injEq]at h;rw[h]
   | false=>simp[fY,fE]at h
  | false=>
   cases v' with
   | true=>simp[fY,fE]at h
   | false=>
    simp only[fY,bO,↓reduceIte,Dt.app.injEq]at h;rw[h.1,JP a a' ht.2 hu.2 h.2]
theorem JP:∀ t u,dO t=true->dO u=true->dB (fE []) t=dB (fE []) u->t=u
 | [],[],_,_,_=>rfl
 | [],_ :: _,_,_,h=>by simp[dB]at h
 | _ :: _,[],_,_,h=>by simp[dB]at h
 | t :: l,u :: m,ht,hu,h=>by
  simp only[dO,dB,ae,bP]at ht hu h;rw[G8 t u ht.1 hu.1 h.1,JP l m ht.2 hu.2 h.2]
end
mutual
def JQ (x:Str):Dt->Option (List Nat) | .fre n=>if n == x then some [] else none | .lvl _=>none | .app _ a=>Cn x a 0
def Cn (x:Str):List Dt->Nat->Option (List Nat)
 | [],_=>none
 | t :: l,i=>match JQ x t with | some p=>some (i :: p) | none=>Cn x l (i+1)
end
mutual
def Co (x:Str):Df->Option (List Nat×List Nat)
 | .mk _ _ a s=>match Cn x a 0 with | some p=>some ([],p) | none=>G9 x s 0
def G9 (x:Str):List Df->Nat->Option (List Nat×List Nat)
 | [],_=>none
 | t :: l,i=>match Co x t with | some (p,q)=>some (i :: p,q) | none=>G9 x l (i+1)
end
def Only (x:Str) (ρ:Str->Dt):Prop:=∀ z,ρ z=.fre x ↔ z=x
theorem Sr (x:Str):Only x (fE []):=fun z=>by simp[fE]
theorem Only.upd (h:Only x ρ) (hn:n≠x) (d:Nat):Only x (upd ρ n (.lvl d)):=fun z=>by
 unfold Go.Proofs.YtokemihbkeddoaaGreatDoor.upd
 by_cases e:z=n
 ·subst e;simp[hn]
 ·have:(z == n)=false:=by simpa using e
  simp only[this,bO,↓reduceIte];exact h z
mutual
theorem Ss (hρ:Atom ρ) (ho:Only x ρ):∀ t,jL t=true->mi x t=JQ x (fY ρ t)
 | .mk v n a,h=>by
  simp only[jL,ae]at h
  cases v with
  | true=>
   obtain rfl:a=[]:=by simpa using h.1
   simp only[mi,dz,fY,↓reduceIte,ev]
   by_cases e:n=x
   ·have:=(ho n).2 e;rw[this];simp[e,JQ]
   ·have e1:(n == x)=false:=by simpa using e
    rw[e1];simp only[bO,↓reduceIte];have h0:=hρ n
    cases e2:ρ n with
    | lvl i=>rfl
    | fre m=>
     have:m≠x:=fun e3=>e ((ho n).1 (by rw[e2,e3]));simp[JQ,this]
    | app m b=>rw[e2]at h0;exact h0.elim
  | false=>
   simp only[mi,Bool.false_and,bO,↓reduceIte,fY,JQ];exact yA hρ ho a 0 h.2
theorem yA (hρ:Atom ρ) (ho:Only x ρ):∀ t i,dO t=true->ev x t i=Cn x (dB ρ t) i
 | [],_,_=>rfl
 | t :: l,i,h=>by
  simp only[dO,ae]at h;simp only[ev,dB,Cn,Ss hρ ho t h.1,yA hρ ho l (i+1) h.2];rfl
end
mutual
theorem JR (hx:fH x=false):∀ (f:Fm) (ρ:Str->Dt) (d:Nat),Atom ρ->Only x ρ->gS f=true->EG f=true->kv x f=Co x (jF ρ d f)
 | .mk o n a s,ρ,d,hρ,ho,h,hb=>by
  simp only[gS,ae]at h;simp only[EG,ae]at hb;simp only[kv,jF,yA hρ ho a 0 h.1]
  by_cases hq:bm o=true
  ·have hn:n≠x:=fun e=>by have:=hb.1;rw[hq,e,hx]at this;simp at this
   rw[aw hq];simp only[Co,yB hx s (upd ρ n (.lvl d)) (d+1) 0 (hρ.upd n d) (ho.upd hn d) h.2 hb.2];rfl
  ·rw[ak hq];simp only[Co,yB hx s ρ d 0 hρ ho h.2 hb.2];rfl
theorem yB (hx:fH x=false):∀ (f:List Fm) (ρ:Str->Dt) (d i:Nat),Atom ρ->Only x ρ->eR f=true->sQ f=true->lg x f i=G9 x (em ρ d f) i
 | [],_,_,_,_,_,_,_=>rfl
 | t :: l,ρ,d,i,hρ,ho,h,hb=>by
  simp only[eR,ae]at h;simp only[sQ,ae]at hb;simp only[lg,em,G9,JR hx t ρ d hρ ho h.1 hb.1,yB hx l ρ d (i+1) hρ ho h.2 hb.2];rfl
end
def Df.s:Df->List Df | .mk _ _ _ s=>s
def Df.a:Df->List Dt | .mk _ _ a _=>a
def FH:Df->List Nat->Option Df
 | f,[]=>some f
 | f,i :: r=>match f.s[i]? with | some g=>FH g r | none=>none
def St:Dt->List Dt | .app _ a=>a | _=>[]
def JS:List Dt->List Nat->Option Dt
 | _,[]=>none
 | l,[i]=>l[i]?
 | l,i :: j :: r=>match l[i]? with | some t=>JS (St t) (j :: r) | none=>none
theorem Cp (ρ:Str->Dt):∀ (l:List Tm) (i:Nat),(dB ρ l)[i]?=l[i]?.map (fY ρ)
 | [],i=>by simp[dB]
 | t :: l,0=>by simp[dB]
 | t :: l,i+1=>by simp[dB,Cp ρ l i]
theorem Cq (ρ:Str->Dt) (d:Nat):∀ (l:List Fm) (i:Nat),(em ρ d l)[i]?=l[i]?.map (jF ρ d)
 | [],i=>by simp[em]
 | t :: l,0=>by simp[em]
 | t :: l,i+1=>by simp[em,Cq ρ d l i]
theorem VX (hρ:Atom ρ) (h:jL t=true):St (fY ρ t)=dB ρ t.a:=by
 obtain ⟨v,n,a⟩:=t;simp only[jL,ae]at h
 cases v with
 | true=>
  obtain rfl:a=[]:=by simpa using h.1
  simp only[fY,↓reduceIte,Tm.a,dB];have:=hρ n
  cases e:ρ n with
  | lvl i=>rfl
  | fre m=>rfl
  | app m b=>rw[e]at this;exact this.elim
 | false=>simp[fY,St,Tm.a]
theorem VY (h:jL t=true):dO t.a=true:=by
 obtain ⟨v,n,a⟩:=t;simp only[jL,ae]at h;exact h.2
theorem JT {l:List Tm} (h:dO l=true) (ht:l[i]?=some t):jL t=true:=by
 induction l generalizing i with
 | nil=>simp at ht
 | cons x l ih=>
  simp only[dO,ae]at h
  cases i with
  | zero=>simp only[List.getElem?_cons_zero,c9]at ht;subst ht;exact h.1
  | succ i=>exact ih h.2 (by simpa using ht)
theorem JU {l:List Fm} (h:eR l=true) {t:Fm} (ht:l[i]?=some t):gS t=true:=(jM l).1 h t (List.mem_of_getElem? ht)
theorem JV (hρ:Atom ρ):∀ (p:List Nat) (l:List Tm),dO l=true->(jI l p).map (fY ρ)=JS (dB ρ l) p/\∀ t,jI l p=some t->jL t=true
 | [],l,_=>⟨rfl,fun t h=>by simp[jI]at h⟩
 | [i],l,h=>⟨by simp only[jI,JS,Cp],fun t ht=>JT h ht⟩
 | i :: j :: r,l,h=>by
  simp only[jI,JS,Cp]
  cases h1:l[i]? with
  | none=>exact ⟨rfl,fun t ht=>by cases ht⟩
  | some t=>
   have hw:=JT h h1;simp only[Option.map_some];rw[VX hρ hw];exact JV hρ (j :: r) t.a (VY hw)
theorem Su (o:Int) (n:Str) (a:List Tm) (s:List Fm) (i:Nat) (r:List Nat) (ins:List Str):j7 (.mk o n a s) (i :: r) ins=match s[i]? with | some g=>j7 g r (if bm o then n :: ins else ins) | none=>none:=rfl
theorem JW (o:Int) (n:Str) (a:List Dt) (s:List Df) (i:Nat) (r:List Nat):FH (.mk o n a s) (i :: r)=match s[i]? with | some g=>FH g r | none=>none:=rfl
theorem Cr:∀ (p:List Nat) (f:Fm) (ins:List Str),gS f=true->(j7 f p ins).map (fun x=>jF (fE x.2) x.2.length x.1)=FH (jF (fE ins) ins.length f) p/\∀ x,j7 f p ins=some x->gS x.1=true
 | [],f,ins,h=>⟨rfl,fun x hx=>by simp only[j7,c9]at hx;rw[<-hx];exact h⟩
 | i :: r,.mk o n a s,ins,h=>by
  simp only[gS,ae]at h;rw[Su]
  by_cases hq:bm o=true
  ·rw[aw hq];simp only[jF,aw hq,JW,<-vD,Cq]
   cases h1:s[i]? with
   | none=>exact ⟨rfl,fun x hx=>by cases hx⟩
   | some g=>
    simp only[Option.map_some];exact Cr r g (n :: ins) (JU h.2 h1)
  ·rw[ak hq];simp only[jF,ak hq,JW,Cq]
   cases h1:s[i]? with
   | none=>exact ⟨rfl,fun x hx=>by cases hx⟩
   | some g=>
    simp only[Option.map_some];exact Cr r g ins (JU h.2 h1)
def FI (t:Dt):Bool:=(atD t).all fun u=>match u with | .lvl _=>false | _=>true
def Sv (f im:Df) (x:Str):Option Dt:=match Co x f with
 | none=>none
 | some (p,q)=>match FH im p with
  | none=>none
  | some g=>match JS g.a q with
   | none=>none
   | some t=>if FI t then some t else none
theorem Sw:(∃i,fE l z=.lvl i) ↔ z∈l:=by
 induction l with
 | nil=>simp[fE]
 | cons n r ih=>
  unfold fE
  by_cases h:z=n
  ·subst h;simp
  ·have:(z == n)=false:=by simpa using h
   simp only[this,bO,↓reduceIte,ih,cG,h,false_or]
theorem Ph {l:List Str} (h:jL t=true):FI (fY (fE l) t)=!(aE t).any l.contains/\(FI (fY (fE l) t)=true->fY (fE l) t=fY (fE []) t):=by
 have h1:=G6 (gP l) t h;have Iz:FI (fY (fE l) t)=true ↔ ∀ z∈aE t,z ∉ l:=by
  unfold FI;rw[h1,List.all_eq_true];constructor
  ·intro h2 z hz hl;obtain ⟨i,hi⟩:=Sw.2 hl;have:=h2 _ (List.mem_map_of_mem hz);rw[hi]at this;cases this
  ·intro h2 u hu;obtain ⟨z,hz,rfl⟩:=List.mem_map.1 hu
   cases e:fE l z with
   | lvl i=>exact absurd (Sw.1 ⟨i,e⟩) (h2 z hz)
   | fre n=>rfl
   | app n a=>rfl
 constructor
 ·cases h3:(aE t).any l.contains with
  | true=>
   obtain ⟨z,hz,hl⟩:=List.any_eq_true.1 h3;cases h4:FI (fY (fE l) t)
   ·rfl
   ·exact absurd (by simpa using hl) (Iz.1 h4 z hz)
  | false=>
   rw[List.any_eq_false]at h3;exact Iz.2 (fun z hz hl=>h3 z hz (by simpa using hl))
 ·intro h3;refine Bp t (fun z hz=>?_);rcases VP (l:=l) z with h4 | h4
  ·rw[h4];rfl
  ·exact absurd h4 (Iz.1 h3 z hz)
theorem Sx (hx:fH x=false) (hf:gS f=true) (hb:EG f=true) (hi:gS im=true):(gD f im x).map (fY (fE []))=Sv (db f) (db im) x/\∀ t,gD f im x=some t->jL t=true:=by
 unfold gD Sv;have h1:kv x f=Co x (db f):=JR hx f (fE []) 0 (gP []) (Sr x) hf hb;rw[h1]
 cases Co x (db f) with
 | none=>exact ⟨rfl,fun t h=>by cases h⟩
 | some pq=>
  obtain ⟨p,q⟩:=pq;simp only;obtain ⟨h2,h3⟩:=Cr p im [] hi;have h2:(j7 im p []).map (fun x=>jF (fE x.2) x.2.length x.1)=FH (db im) p:=h2;rw[<-h2]
  cases hw:j7 im p [] with
  | none=>exact ⟨rfl,fun t h=>by cases h⟩
  | some gi=>
   obtain ⟨g,ins⟩:=gi;have hg:=h3 _ hw;simp only at hg;simp only[Option.map_some];have ha:(jF (fE ins) ins.length g).a=dB (fE ins) g.a:=by
    obtain ⟨o,n,a,s⟩:=g;simp only[jF,Fm.a];split <;> rfl
   have hwa:dO g.a=true:=by
    obtain ⟨o,n,a,s⟩:=g;simp only[gS,ae]at hg;exact hg.1
   obtain ⟨h4,h5⟩:=JV (gP ins) q g.a hwa;rw[ha,<-h4]
   cases ht:jI g.a q with
   | none=>exact ⟨rfl,fun t h=>by cases h⟩
   | some t=>
    have M4:=h5 t ht;obtain ⟨h6,h7⟩:=Ph (l:=ins) M4;simp only[Option.map_some];rw[h6]
    cases hn:(aE t).any ins.contains with
    | true=>exact ⟨by simp,fun t h=>by simp at h⟩
    | false=>
     rw[hn]at h6;refine ⟨by simp[h7 h6],fun t' h=>?_⟩;simp only[bO,↓reduceIte,c9]at h;rw[<-h];exact M4
mutual
theorem Mi (x:Str):∀ t,uX x t=(aE t).count x
 | .mk v n a=>by
  have ih:=rA x a
  cases v with
  | true=>simp only[uX,dz,aE,↓reduceIte,List.count_cons,ih];omega
  | false=>simp[uX,aE,ih]
theorem rA (x:Str):∀ t,eM x t=(ao t).count x
 | []=>by simp[eM,ao]
 | t :: l=>by simp[eM,ao,List.count_append,Mi x t,rA x l]
end
mutual
theorem pS (hx:fH x=false):∀ f,EG f=true->ea x f=(aL [] f).count x
 | .mk o n a s,hb=>by
  simp only[EG,ae]at hb;have ih:=zJ hx s hb.2;have qnk:=();exact qbk
theorem zJ (hx:fH x=false):∀ f,sQ f=true->iq x f=(bn [] f).count x
 | [],_=>by simp[iq,bn]
 | t :: l,hb=>by
  simp only[sQ,ae]at hb;simp[iq,bn,List.count_append,pS hx t hb.1,zJ hx l hb.2]
end
theorem Sy {f':Fm} (hx:fH x=false) (hf:gS f=true) (hb:EG f=true) (E3:gS f'=true) (UA:EG f'=true) (h:db f=db f'):ea x f=ea x f':=by
 rw[pS hx f hb,pS hx f' UA,Md hf E3 h]
theorem Cs (step:Bd->Pl->Bd×Int) (i:Nat) (k:Bd) (s f:Fm) (l:List (Fm×Fm)):e7 step i k ((s,f) :: l)=if (gE step k (a_ [] s f)).2=0 then e7 step (i+1) (gE step k (a_ [] s f)).1 l else ((gE step k (a_ [] s f)).1,i,(gE step k (a_ [] s f)).2):=by
 simp only[e7]
def Pi (x y:Bd×Nat×Int):Bd×Nat×Int:=if x.2.2≠0 then (⟨[],[]⟩,x.2) else if y.2.2≠0 then (⟨[],[]⟩,y.2) else (y.1,0,0)
theorem VZ {x y:Bd×Nat×Int} (h:x.2.2=0) (h2:y.2.2≠0):Pi x y=(⟨[],[]⟩,y.2):=by unfold Pi;rw[ak (by simp[h]),aw h2]
theorem _w {x y:Bd×Nat×Int} (h:x.2.2=0) (h2:y.2.2=0):Pi x y=(y.1,0,0):=by unfold Pi;rw[ak (by simp[h]),ak (by simp[h2])]
theorem Ct {l:List (Fm×Fm)} (hb:fA 0 l=none) (hv:validB b=true):cP l b=Pi (e7 aY 0 b l) (e7 dp 0 (e7 aY 0 b l).1 l):=by
 unfold cP Pi;rw[hb,hv];simp only[Bool.not_true,bO,↓reduceIte]
mutual
theorem Sz:∀ t,jL t=true->fY σ t=fY τ t->∀ z∈aE t,σ z=τ z
 | .mk v n a,hw,h,z,hz=>by
  simp only[jL,ae]at hw
  cases v with
  | true=>
   exact qeU
  | false=>
   simp only[fY,bO,↓reduceIte,Dt.app.injEq]at h;exact sk a hw.2 h.2 z (by simpa[aE] using hz)
theorem sk:∀ t,dO t=true->dB σ t=dB τ t->∀ z∈ao t,σ z=τ z
 | [],_,_,z,hz=>by simp[ao]at hz
 | t :: l,hw,h,z,hz=>by
  simp only[dO,dB,ae,bP]at hw h;simp only[ao,List.mem_append]at hz;rcases hz with hz | hz
  ·exact Sz t hw.1 h.1 z hz
  ·exact sk l hw.2 h.2 z hz
end
mutual
theorem JX:∀ (f:Fm) (σ τ:Str->Dt) (d:Nat),gS f=true->jF σ d f=jF τ d f->∀ z∈aL [] f,σ z=τ z
 | .mk o n a s,σ,τ,d,hw,h,z,hz=>by
  simp only[gS,ae]at hw;simp only[jF]at h;simp only[aL,List.mem_append]at hz
  by_cases hq:bm o=true
  ·rw[aw hq,aw hq]at h;rw[aw hq]at hz;have qnl:=();exact qeV
  ·rw[ak hq,ak hq]at h;rw[ak hq]at hz;exact qeV
theorem yC:∀ (f:List Fm) (σ τ:Str->Dt) (d:Nat),eR f=true->em σ d f=em τ d f->∀ z∈bn [] f,σ z=τ z
 | [],_,_,_,_,_,z,hz=>by simp[bn]at hz
 | t :: l,σ,τ,d,hw,h,z,hz=>by
  simp only[eR,em,ae,bP]at hw h;simp only[bn,List.mem_append]at hz;rcases hz with hz | hz
  ·exact JX t σ τ d hw.1 h.1 z hz
  ·exact yC l σ τ d hw.2 h.2 z hz
end
mutual
theorem Cu (sc:List Str) (k:List (Str×Tm)):∀ t,iS k t=false->jc true t=true->cY sc k t (da k sc t)=some k
 | .mk v n a,h,hok=>by
  unfold iS at h;unfold da
  by_cases hm:(v && dl n)=true
  ·rw[aw hm]at h ⊢;obtain ⟨u,hu⟩:∃u,getB k n=some u:=by
    cases e:getB k n with
    | none=>rw[e]at h;cases h
    | some u=>exact ⟨u,rfl⟩
   have e:termOf k n=u:=by unfold termOf;rw[hu]
   rw[e];obtain ⟨v',n',a'⟩:=u;unfold cY;rw[aw hm,hu];simp[oK]
  ·rw[ak hm]at h ⊢
   by_cases hs:(v && sc.contains n)=true
   ·rw[aw hs];unfold aP cY;rw[ak hm,aw hs];simp[aP,oK]
   ·rw[ak hs];unfold cY;rw[ak hm,ak hs];have hl:(dZ k sc a).length=a.length:=ut k sc a;rw[ak (by simp[hl])]
    cases v with
    | true=>
     have qnm:=();exact qci
    | false=>
     simp only[jc,bO,↓reduceIte,ae]at hok;exact zK sc k a h hok.2.2
theorem zK (sc:List Str) (k:List (Str×Tm)):∀ t,jQ k t=false->d9 true t=true->bL sc k t (dZ k sc t)=some k
 | [],_,_=>by simp[bL]
 | t :: l,h,hok=>by
  simp only[jQ,Bool.or_eq_false_iff]at h;simp only[d9,ae]at hok;simp only[dZ,bL,Cu sc k t h.1 hok.1,zK sc k l h.2 hok.2]
theorem ut (k:List (Str×Tm)) (sc:List Str):∀ a,(dZ k sc a).length=a.length
 | []=>rfl
 | t :: l=>by simp[dZ,ut k sc l]
end
def ep:List Str->Str->Dt
 | []=>fE []
 | s :: r=>upd (ep r) (bI s) (.lvl r.length)
theorem rB:∀ (l:List Str) (z:Str) (i:Nat),ep l z=.lvl i->i<l.length
 | [],z,i,h=>by simp[ep,fE]at h
 | s :: r,z,i,h=>by
  unfold ep upd at h;split at h
  ·simp only[Dt.lvl.injEq]at h;subst h;simp
  ·have:=rB r z i h;simp;omega
theorem mP (l:List Str):Atom (ep l):=by
 induction l with
 | nil=>exact gP []
 | cons s r ih=>exact ih.upd _ _
theorem wC:∀ (l inn:List Str) (z:Str),(∀ s∈inn,z≠bI s)->Sp l inn (ep l z)=some z
 | [],inn,z,_=>by simp[ep,fE,Sp]
 | s :: r,inn,z,h=>by
  unfold ep upd
  by_cases hz:z=bI s
  ·subst hz;simp only[beq_self_eq_true,↓reduceIte,Sp,zI];rw[ak (by
    intro hc;have:s∈inn:=by simpa using hc
    exact h s this rfl)]
  ·have:(z == bI s)=false:=by simpa using hz
   simp only[this,bO,↓reduceIte,Sp];have e3:zI r.length (ep r z)=false:=by
    cases e:ep r z with
    | lvl i=>have:=rB r z i e;simp only[zI,beq_eq_false_iff_ne,ne_eq];omega
    | fre n=>rfl
    | app n a=>rfl
   rw[e3];simp only[bO,↓reduceIte];exact wC r (s :: inn) z (fun x hx=>by
    rcases cG.1 hx with rfl | hx
    ·exact hz
    ·exact h x hx)
theorem JY (l:List Str) (z:Str):Al l (ep l z)=.fre z:=by
 have h:=wC l [] z (fun s hs=>by cases hs)
 cases e:ep l z with
 | lvl i=>
  have:=rB l z i e;rw[e]at h;simp only[Al,aw this,h]
 | fre n=>
  rw[e,NO]at h;simp only[c9]at h;rw[<-h];rfl
 | app n a=>have:=mP l z;rw[e]at this;exact this.elim
theorem NS (σ:Str->Dt) (n:Str) (d:Nat):∀ l:List Str,(l.map fun z=>wv (upd σ n (.lvl d) z)).sum+(l.filter fun x=>!(x == n)).length=((l.filter fun x=>!(x == n)).map fun z=>wv (σ z)).sum+l.length
 | []=>rfl
 | x :: l=>by
  have ih:=NS σ n d l;rw[cC,List.sum_cons,List.filter_cons]
  by_cases h:(x == n)=true
  ·have e1:upd σ n (.lvl d) x=.lvl d:=by unfold upd;rw[aw h]
   rw[e1,h];simp only[Bool.not_true,bO,↓reduceIte,wv,eT];omega
  ·have e1:upd σ n (.lvl d) x=σ x:=by unfold upd;rw[ak h]
   have h':(x == n)=false:=by simpa using h
   rw[e1,h'];simp only[Bool.not_false,if_true,cC,List.sum_cons,eT];omega
mutual
theorem V0 (σ:Str->Dt):∀ t,jL t=true->wv (fY σ t)+(aE t).length=nodesT t+((aE t).map fun z=>wv (σ z)).sum
 | .mk v n a,h=>by
  simp only[jL,ae]at h
  cases v with
  | true=>
   obtain rfl:a=[]:=by simpa using h.1
   simp only[fY,↓reduceIte,aE,ao,nodesT,nodesTs,eT,List.length_nil,cC,List.map_nil,List.sum_cons,List.sum_nil];omega
  | false=>
   have:=Cv σ a h.2;simp only[fY,bO,↓reduceIte,wv,aE,nodesT];omega
theorem Cv (σ:Str->Dt):∀ t,dO t=true->zG (dB σ t)+(ao t).length=nodesTs t+((ao t).map fun z=>wv (σ z)).sum
 | [],_=>rfl
 | t :: l,h=>by
  simp only[dO,ae]at h;have h1:=V0 σ t h.1;have h2:=Cv σ l h.2;simp only[dB,zG,ao,nodesTs,cU,List.map_append,List.sum_append];omega
end
mutual
theorem NT:∀ (f:Fm) (σ:Str->Dt) (d:Nat),gS f=true->Mb (jF σ d f)+(aL [] f).length=nodesF f+((aL [] f).map fun z=>wv (σ z)).sum
 | .mk o n a s,σ,d,h=>by
  simp only[gS,ae]at h;exact qbk
theorem Cw:∀ (f:List Fm) (σ:Str->Dt) (d:Nat),eR f=true->Ch (em σ d f)+(bn [] f).length=nodesFs f+((bn [] f).map fun z=>wv (σ z)).sum
 | [],_,_,_=>rfl
 | t :: l,σ,d,h=>by
  simp only[eR,ae]at h;have h1:=NT t σ d h.1;have h2:=Cw l σ d h.2;simp only[em,Ch,bn,nodesFs,cU,List.map_append,List.sum_append];omega
end
theorem NU (x:Str) (N:Nat) (hN:1<=N):∀ l:List Str,(l.map fun z=>if z == x then N else 1).sum=l.length+l.count x * (N - 1)
 | []=>by simp
 | y :: l=>by
  have ih:=NU x N hN l;rw[cC,List.sum_cons,List.count_cons,eT,ih,Nat.add_mul]
  by_cases h:(y == x)=true
  ·rw[aw h,aw h];omega
  ·rw[ak h,ak h];omega
theorem Pj (t:Tm):1<=nodesT t:=by obtain ⟨_,_,_⟩:=t;simp[nodesT]
theorem FJ (hx:fH x=false) (hf:gS f=true) (hq:qone f=true) (hb:EG f=true) (hu:jL u=true) (hn:nodesF f+nodesT u<10 ^ 19):nodesF (e9 x u f)=nodesF f+ea x f * (nodesT u - 1):=by
 have hw:=(pR hu (depthF f) f x hf hq (aC _)).1;have h1:=ww (e9 x u f) (fE []) 0 (gP []) hw;unfold e9 at h1;rw[nS (depthF f) f x u _ _ hf hq (aC _) hn]at h1;have h2:=NT f (upd (fE []) x (fY (fE []) u)) 0 hf;have e:(fun z=>wv (upd (fE []) x (fY (fE []) u) z))=fun z=>if z == x then nodesT u else 1:=by
  funext z
  unfold upd;split
  ·exact (JK (gP []) u hu).1
  ·rfl
 rw[e,NU x (nodesT u) (Pj u),h1.1]at h2;rw[pS hx f hb];unfold e9;omega
mutual
def iE (k:Bd):Fm->Bool | .mk o n a s=>!jv k (.mk o n a s) && iJ k s
def iJ (k:Bd):List Fm->Bool | []=>true | t :: l=>iE k t && iJ k l
end
mutual
theorem Cx:∀ (s:Fm) (c:Sco),(a_ c s s).any (fun p=>jv k p.s)=false->iE k s=true
 | .mk o n a s,c,h=>by
  simp only[a_,List.any_cons,Bool.or_eq_false_iff]at h;simp only[iE,h.1,Bool.not_false,dz];exact FK s _ h.2
theorem FK:∀ (s:List Fm) (c:Sco),(aJ c s s).any (fun p=>jv k p.s)=false->iJ k s=true
 | [],_,_=>rfl
 | t :: l,c,h=>by
  simp only[aJ,List.any_append,Bool.or_eq_false_iff]at h;simp only[iJ,Cx t c h.1,FK l c h.2,Bool.and_self]
end
def sq (k:Bd):Prop:=∀ n t,getB k.ts n=some t->nodesT t<=10 ^ 6
theorem G' (n:Str) (r:List Str):ep (n :: r)=upd (ep r) (bI n) (.lvl r.length):=rfl
theorem Pk {a:List Tm} {s:List Fm} (h:okF true (.mk 15 n a s)=true):s=[]:=by
 simp only[okF,ae]at h;exact List.length_eq_zero_iff.1 (ej.1 h.2.1.2.2)
theorem yD {a:List Tm} {s:List Fm} (h:okF true (.mk 16 n a s)=true):s=[]/\∃x y:Str,a=[aP x,aP y]/\fH x=true/\cX y=true:=by
 have h':=h;simp only[okF,ae]at h;obtain ⟨x,y,h1,h2,h3,_⟩:=lk (p:=⟨.mk 16 n a s,.mk 2 [] [] [],[]⟩) ⟨h',(by show okF false (.mk 2 [] [] [])=true;decide),(by intro x hx;cases hx),(by show nodesF (.mk 2 [] [] [])<=400;decide),(by show depthF (.mk 2 [] [] [])<=40;decide)⟩ rfl;exact ⟨List.length_eq_zero_iff.1 (ej.1 h.2.1.2.2),x,y,h1,h2,h3⟩
def wD (k:Bd) (n x y:Str):Fm:=if ea (bI x) (formOf k.fs n)=0 then formOf k.fs n else e9 (bI x) (termOf k.ts y) (formOf k.fs n)
theorem sr {c:List Str} {s:List Fm}:cw k c (.mk 16 n [aP x,aP y] s)=wD k n x y:=by
 simp only[cw,aP,Tm.n];rw[ak (by decide)];simp only[if_true];rfl
theorem V4 (k:Bd) (n:Str) (a:List Tm) (s:List Fm):jv k (.mk 15 n a s)=(getB k.fs n).isNone:=by
 cases e:getB k.fs n <;> simp[jv,Fm.op,Fm.n,e]
theorem V5 (k:Bd) (n:Str) (a:List Tm) (s:List Fm) {g:Fm} (h:getB k.fs n=some g):jv k (.mk 16 n a s)=((getB k.ts (aU (.mk 16 n a s)).2).isNone && decide (ea (aU (.mk 16 n a s)).1 g > 0)):=by
 simp[jv,Fm.op,Fm.n,h]
theorem SA (k:Bd) (n:Str) (a:List Tm) (s:List Fm) (h:getB k.fs n=none):jv k (.mk 16 n a s)=true:=by
 simp[jv,Fm.op,Fm.n,h]
theorem uw {a:List Tm} {s:List Fm} (h:iE k (.mk 15 n a s)=true):∃g,getB k.fs n=some g:=by
 simp only[iE,ae,Bool.not_eq_true',V4]at h
 cases e:getB k.fs n with
 | none=>rw[e]at h;cases h.1
 | some g=>exact ⟨g,rfl⟩
theorem ux {s:List Fm} (h:iE k (.mk 16 n [aP x,aP y] s)=true):∃g,getB k.fs n=some g/\(ea (bI x) g=0\/∃t,getB k.ts y=some t):=by
 simp only[iE,ae,Bool.not_eq_true']at h;have h1:=h.1
 cases e:getB k.fs n with
 | none=>rw[SA k n _ s e]at h1;cases h1
 | some g=>
  rw[V5 k n _ s e]at h1;refine ⟨g,rfl,?_⟩;have hn:aU (.mk 16 n [aP x,aP y] s)=(bI x,y):=rfl;rw[hn]at h1
  cases ht:getB k.ts y with
  | none=>
   rw[ht]at h1;simp only[Option.isNone_none,dz,decide_eq_false_iff_not]at h1;exact .inl (by omega)
  | some t=>exact .inr ⟨t,rfl⟩
theorem Mj (hk:validB k=true) {s:List Fm} (h:iE k (.mk 16 n [aP x,aP y] s)=true):gS (wD k n x y)=true/\qone (wD k n x y)=true:=by
 obtain ⟨k1,k2⟩:=(dj k).1 hk;obtain ⟨g,hg,h2⟩:=ux h;have oy:=iZ k1 hg;obtain ⟨w1,w2,_⟩:=lu oy.1;have e:formOf k.fs n=g:=by unfold formOf;rw[hg]
 unfold wD;rw[e];split
 ·exact ⟨w1,w2⟩
 ·rename_i h0;have qnn:=();exact qeW
mutual
theorem JZ {k:List (Str×Tm)} (hk:Ij k=true) {c:List Str}:∀ t,jc true t=true->iS k t=false->jL (da k c t)=true
 | .mk v n a,hok,h=>by
  unfold iS at h;unfold da
  by_cases hm:(v && dl n)=true
  ·rw[aw hm]at h ⊢
   cases e:getB k n with
   | none=>rw[e]at h;cases h
   | some u=>
    have e2:termOf k n=u:=by unfold termOf;rw[e]
    rw[e2];exact kl (oY hk e).1
  ·rw[ak hm]at h ⊢;split
   ·exact Nl _
   ·cases v with
    | true=>
     exact qci
    | false=>
     simp only[jc,bO,↓reduceIte,ae]at hok;simp[jL,yE hk (c:=c) a hok.2.2 h]
theorem yE {k:List (Str×Tm)} (hk:Ij k=true) {c:List Str}:∀ t,d9 true t=true->jQ k t=false->dO (dZ k c t)=true
 | [],_,_=>by simp[dZ,dO]
 | t :: l,hok,h=>by
  simp only[d9,ae]at hok;simp only[jQ,Bool.or_eq_false_iff]at h;simp[dZ,dO,JZ hk (c:=c) t hok.1 h.1,yE hk (c:=c) l hok.2 h.2]
end
theorem ng {a:List Tm} {s:List Fm} (ja:o≠15) (h16:o≠16) (h:iE k (.mk o n a s)=true):jQ k.ts a=false/\iJ k s=true:=by
 simp only[iE,ae,Bool.not_eq_true',jv,Fm.op,Fm.a]at h;rw[aw (by simp[ja,h16])]at h;exact h
mutual
theorem G_ (hk:validB k=true):∀ (s:Fm) (c:List Str),okF true s=true->iE k s=true->gS (cw k c s)=true/\qone (cw k c s)=true
 | .mk o n a s,c,hok,h=>by
  obtain ⟨k1,k2⟩:=(dj k).1 hk
  by_cases ja:o=15
  ·subst ja;obtain ⟨g,hg⟩:=uw h;have e:cw k c (.mk 15 n a s)=g:=by
    simp only[cw,if_true];unfold formOf;rw[hg]
   rw[e];have:=lu (iZ k1 hg).1;exact ⟨this.1,this.2.1⟩
  ·by_cases h16:o=16
   ·subst h16;obtain ⟨rfl,x,y,rfl,_,_⟩:=yD hok;rw[sr];exact Mj hk h
   ·obtain ⟨h1,h2⟩:=ng ja h16 h;have Sh:=hok;simp only[okF,ae]at hok
    by_cases hq:bm o=true
    ·obtain ⟨_,rfl,g,rfl⟩:=ls Sh hq;obtain ⟨i1,i2⟩:=rC hk [g] (n :: c) hok.2.2.2.2 h2;simp only[el,eR,fF,Bool.and_true]at i1 i2;have qno:=();exact qeX
    ·obtain ⟨i1,i2⟩:=rC hk s c hok.2.2.2.2 h2;have qnp:=();exact qeY
theorem rC (hk:validB k=true):∀ (s:List Fm) (c:List Str),dt true s=true->iJ k s=true->eR (el k c s)=true/\fF (el k c s)=true
 | [],_,_,_=>by simp[el,eR,fF]
 | t :: l,c,hok,h=>by
  simp only[dt,iJ,ae]at hok h;simp[el,eR,fF,G_ hk t c hok.1 h.1,rC hk l c hok.2 h.2]
end
theorem J0 (hf:okF false f=true) (hr:gS r=true) (h:jF (fE (c.map (·.2))) c.length f=jF (ep (c.map (·.1))) c.length r):∃im,e8 c [] f=some im/\db im=db r:=by
 have h1:=So (l:=c.map (·.2)) (oh _ hf);simp only[List.length_map]at h1;rw[h,Mh r _ _ _ (mP _) hr (aC _)]at h1;have hn:FG c [] (aL [] f):=by
  intro z hz;right;have:fE (c.map (·.2)) z∈(aL [] f).map (fE (c.map (·.2))):=List.mem_map_of_mem hz;rw[<-h1,List.mem_filter]at this;obtain ⟨y,_,e⟩:=List.mem_map.1 this.1;exact qeZ
 obtain ⟨im,hi⟩:=Option.isSome_iff_exists.1 (NR f [] hn);refine ⟨im,hi,?_⟩;rw[_v hf hi,h];have:=Mg (Al (c.map (·.1))) r (ep (c.map (·.1))) c.length 0 (mP _) (fun j=>by
  simp only[Al,List.length_map];rw[ak (by omega)];congr 1;omega)
 rw[<-this];unfold db;congr 1
 funext z
 rw[JY];rfl
theorem Pm {c:Sco} (hc:VarsOk (c.map (·.1))) {f r:Tm} (hf:jc false f=true) (hr:jL r=true) (h:fY (fE (c.map (·.2))) f=fY (ep (c.map (·.1))) r):iB c [] f=some r:=by
 have h1:=G6 (gP (c.map (·.2))) f (Bn _ hf);rw[h,G6 (mP _) r hr]at h1;have hn:FG c [] (aE f):=by
  intro z hz;right;have:fE (c.map (·.2)) z∈(aE f).map (fE (c.map (·.2))):=List.mem_map_of_mem hz;rw[<-h1]at this;obtain ⟨y,_,e⟩:=List.mem_map.1 this;exact qeZ
 obtain ⟨im,hi⟩:=Option.isSome_iff_exists.1 (NQ f hn);rw[hi];congr 1;refine G8 im r (kl (Aw hc [] f im hf hi).1) hr ?_;have e1:=VW (c:=c) (f:=[f]) (im:=[im]) (by simp[dO,Bn _ hf]) (by simp[eq,hi]);simp only[dB,Mf,bP,and_true]at e1;rw[e1,h,<-Sl (Al (c.map (·.1))) (mP _) r];congr 1
 funext z
 rw[JY];rfl
theorem FL (hc:VarsOk (c.map (·.1))) {k:List (Str×Tm)} (hk:Ij k=true):∀ (a a':List Tm),d9 true a=true->jQ k a=false->d9 false a'=true->dB (fE (c.map (·.2))) a'=dB (ep (c.map (·.1))) (dZ k (c.map (·.1)) a)->cA c k a a'=some k
 | [],_,_,_,_,_=>by simp[cA]
 | _ :: _,[],_,_,_,_=>by simp[cA]
 | t :: l,u :: m,h1,h2,h3,h4=>by
  simp only[d9,ae]at h1 h3;simp only[jQ,Bool.or_eq_false_iff]at h2;simp only[dZ,dB,bP]at h4;simp only[cA,Pm hc h3.1 (JZ hk t h1.1 h2.1) h4.1,Cu _ k t h2.1 h1.1];exact FL hc hk l m h1.2 h2.2 h3.2 h4.2
theorem Ha {a:List Tm} {s:List Fm} {g:Fm} (h1:e8 c [] f=some im) (h2:getB k.fs n=some g) (h3:cg [] g im=true):aY k ⟨.mk 15 n a s,f,c⟩=(k,0):=by
 simp[aY,Fm.op,Fm.n,h1,h2,h3]
theorem Hb (k:Bd) {a:List Tm} {s:List Fm}:aY k ⟨.mk 16 n a s,f,c⟩=(k,0):=by
 simp[aY,Fm.op]
theorem uy (k:Bd) (h:o≠16) {a:List Tm} {s:List Fm}:dp k ⟨.mk o n a s,f,c⟩=(k,0):=by
 simp[dp,Fm.op,h]
theorem Pn {s:List Fm} {g:Fm} (h1:e8 c [] f=some im) (h2:getB k.fs n=some g) (h0:ea (bI x) g=0) (h3:cg [] g im=true):dp k ⟨.mk 16 n [aP x,aP y] s,f,c⟩=(k,0):=by
 have hn:aU (.mk 16 n [aP x,aP y] s)=(bI x,y):=rfl;simp[dp,Fm.op,Fm.n,h1,h2,h3,hn,h0]
theorem Po {s:List Fm} {g:Fm} (h1:e8 c [] f=some im) (h2:getB k.fs n=some g) (h0:ea (bI x) g≠0) (ht:getB k.ts y=some t) (h4:nodesF g+ea (bI x) g * (nodesT t - 1)=nodesF im) (h3:cg [] (e9 (bI x) t g) im=true):dp k ⟨.mk 16 n [aP x,aP y] s,f,c⟩=(k,0):=by
 have hn:aU (.mk 16 n [aP x,aP y] s)=(bI x,y):=rfl;simp[dp,Fm.op,Fm.n,h1,h2,h3,hn,h0,ht,h4]
theorem wE (ja:o≠15) (h16:o≠16) {n':Str} {a a':List Tm} {s s':List Fm} (ha:a.length=a'.length) (hs:s.length=s'.length) (hn:n=n'\/bm o=true) (h:cA c k.ts a a'=some k.ts):aY k ⟨.mk o n a s,.mk o n' a' s',c⟩=(k,0):=by
 have:(n != n' && !bm o)=false:=by
  rcases hn with rfl | hn
  ·simp
  ·simp[hn]
 simp only[aY,Fm.op,Fm.a,Fm.s,Fm.n,ja,h16,↓reduceIte,ha,hs,bne_self_eq_false,Bool.false_or,this,bO,h]
mutual
theorem J1 (hk:validB k=true) (eW:sq k):∀ (s f:Fm) (c:Sco),PlOk ⟨s,f,c⟩->iE k s=true->jF (fE (c.map (·.2))) c.length f=jF (ep (c.map (·.1))) c.length (cw k (c.map (·.1)) s)->∀ p∈a_ c s f,Cf k p
 | .mk o n a s,.mk o' n' a' s',c,hp,h,hd,p,hpl=>by
  obtain ⟨k1,k2⟩:=(dj k).1 hk;have hs:=hp.s;have hf:=hp.f;have qq:=G_ hk (.mk o n a s) (c.map (·.1)) hs h
  by_cases ja:o=15
  ·subst ja;obtain rfl:=Pk hs;obtain ⟨g,hg⟩:=uw h;have e:cw k (c.map (·.1)) (.mk 15 n a [])=g:=by
    simp only[cw,if_true];unfold formOf;rw[hg]
   rw[e]at hd qq;obtain ⟨im,hi,QD⟩:=J0 hf qq.1 hd;simp only[a_,aJ,cG,List.not_mem_nil,or_false]at hpl;subst hpl;exact ⟨Ha hi hg ((jg qq.1 (wy hp.c hf hi).1).2 QD.symm),uy k (by decide)⟩
  ·by_cases h16:o=16
   ·subst h16;obtain ⟨rfl,x,y,rfl,_,_⟩:=yD hs;obtain ⟨g,hg,h2⟩:=ux h;have oy:=iZ k1 hg;obtain ⟨w1,w2,w3,_⟩:=lu oy.1;rw[sr]at hd qq;obtain ⟨im,hi,QD⟩:=J0 hf qq.1 hd;have hiw:=wy hp.c hf hi;simp only[a_,aJ,cG,List.not_mem_nil,or_false]at hpl;subst hpl;refine ⟨Hb k,?_⟩;have e:formOf k.fs n=g:=by unfold formOf;rw[hg]
    have Io:=(jg qq.1 hiw.1).2 QD.symm
    by_cases h0:ea (bI x) g=0
    ·have e2:wD k n x y=g:=by unfold wD;rw[e,aw h0]
     rw[e2]at Io;exact Pn hi hg h0 Io
    ·obtain ⟨t,ht⟩:=h2.resolve_left h0;have e3:termOf k.ts y=t:=by unfold termOf;rw[ht]
     have e2:wD k n x y=e9 (bI x) t g:=by unfold wD;rw[e,ak h0,e3]
     rw[e2]at Io QD qq;have pL:=eW y t ht;refine Po hi hg h0 ht ?_ Io;rw[<-FJ (kL x) w1 w2 (nY oy.1) (kl (oY k2 ht).1) (by omega)];exact (NK (gP []) (gP []) qq.1 hiw.1 QD.symm).1
   ·obtain ⟨Cd,qI⟩:=ng ja h16 h;have Zh:=hs;have E3:=hf;have hn:=hp.n;have p9:=hp.d;simp only[okF,ae]at hs hf;simp only[nodesF,depthF]at hn p9
    by_cases hq:bm o=true
    ·obtain ⟨hv,rfl,g,rfl⟩:=ls Zh hq;have e:cw k (c.map (·.1)) (.mk o n [] [g])=mW o n [] (cw k (n :: c.map (·.1)) g):=by
      simp only[cw,ak ja,ak h16,aw hq,el,dZ]
     have zbC:=G_ hk g (n :: c.map (·.1)) (by simpa[dt] using hs.2.2.2.2) (by simpa[iJ] using qI);rw[e]at hd qq;have hsz:=(NK (gP _) (mP _) (oh _ E3) qq.1 hd).1;generalize hr:cw k (n :: c.map (·.1)) g=r at hd qq zbC hsz;unfold mW at hd qq hsz;obtain ⟨i1,i2⟩:=zbC;have zbD:∀ m,nodesF (e9 (bI n) (aP m) r)=nodesF r:=fun m=>(gL (depthF r) r (bI n) m i1 i2 (aC _)).2.2.2;simp only[nodesF,nodesTs,nodesFs,zbD]at hsz;have bW:=fp r [];have hmr:(if (aL [] r).contains n then dL (aL [] r) else n) ∉ aL [] r:=by
      split
      ·exact oO _ (by omega)
      ·rename_i h;simpa using h
     generalize (if (aL [] r).contains n then dL (aL [] r) else n)=m' at hmr hd;simp only[jF,hq,if_true,em,e9]at hd
     by_cases iN:bm o'=true
     ·rw[aw iN]at hd;simp only[Df.mk.injEq,true_and]at hd;obtain ⟨rfl,K3,KL⟩:=hd;obtain ⟨_,rfl,g',rfl⟩:=ls E3 iN;simp only[em,bP,and_true]at KL;rw[nS (depthF r) r (bI n) (aP m') _ _ i1 i2 (aC _) (by simp[aP,nodesT,nodesTs];omega)]at KL;have e6:fY (upd (ep (c.map (·.1))) m' (.lvl c.length)) (aP m')=.lvl c.length:=by simp[aP,fY,upd]
      rw[e6]at KL;have M_:jF (fE ((n' :: c.map (·.2)))) (c.length+1) g'=jF (ep (n :: c.map (·.1))) (c.length+1) r:=by
       rw[vD,List.length_map,KL];rw[G',List.length_map]
       by_cases h7:m'=bI n
       ·subst h7;congr 1
        funext z;unfold upd;split <;> rfl
       ·rw[vI _ h7,IZ hmr]
      simp only[a_,cG]at hpl;rcases hpl with rfl | hpl
      ·exact ⟨wE ja h16 rfl rfl (.inr hq) (by simp[cA]),uy k h16⟩
      ·rw[aw hq]at hpl;have Zl:VarsOk (((n,n') :: c).map (·.1)):=fun x hx=>by
        simp only[cC,cG]at hx;rcases hx with rfl | hx
        ·exact hv
        ·exact hp.c x hx
       simp only[nodesFs,aV]at hn p9;refine yF hk eW [g] [g'] ((n,n') :: c) hs.2.2.2.2 hf.2.2.2.2 Zl (by simp only[nodesFs];omega) (by simp only[aV];omega) qI ?_ p hpl;simp only[cC,el,em,eT,hr,M_]
     ·rw[ak iN]at hd;simp only[Df.mk.injEq]at hd;rw[hd.1]at iN;exact absurd hq iN
    ·have e:cw k (c.map (·.1)) (.mk o n a s)=.mk o n (dZ k.ts (c.map (·.1)) a) (el k (c.map (·.1)) s):=by
      simp only[cw,ak ja,ak h16,ak hq]
     rw[e]at hd;simp only[jF,ak hq]at hd
     by_cases iN:bm o'=true
     ·rw[aw iN]at hd;simp only[Df.mk.injEq]at hd;rw[hd.1]at iN;exact absurd iN hq
     ·rw[ak iN]at hd;simp only[Df.mk.injEq]at hd;obtain ⟨rfl,rfl,K3,KL⟩:=hd;have hla:a.length=a'.length:=by have:=congrArg List.length K3;rw[kH,kH,ut]at this;exact this.symm
      have Ux:s.length=s'.length:=by have:=congrArg List.length KL;rw[m5,m5,Cy]at this;exact this.symm
      simp only[a_,cG]at hpl;rcases hpl with rfl | hpl
      ·exact ⟨wE ja h16 hla Ux (.inl rfl) (FL hp.c k2 a a' hs.2.2.2.1 Cd hf.2.2.2.1 K3),uy k h16⟩
      ·rw[ak hq]at hpl;exact yF hk eW s s' c hs.2.2.2.2 hf.2.2.2.2 hp.c (by omega) (by omega) qI KL p hpl
theorem yF (hk:validB k=true) (eW:sq k):∀ (s f:List Fm) (c:Sco),dt true s=true->dt false f=true->VarsOk (c.map (·.1))->nodesFs f<=400->aV f<=40->iJ k s=true->em (fE (c.map (·.2))) c.length f=em (ep (c.map (·.1))) c.length (el k (c.map (·.1)) s)->∀ p∈aJ c s f,Cf k p
 | [],_,_,_,_,_,_,_,_,_,p,hpl=>by simp[aJ]at hpl
 | _ :: _,[],_,_,_,_,_,_,_,_,p,hpl=>by simp[aJ]at hpl
 | t :: l,u :: m,c,h1,h2,h3,h4,h5,h6,h7,p,hpl=>by
  simp only[dt,ae]at h1 h2;simp only[nodesFs,aV]at h4 h5;simp only[iJ,ae]at h6;simp only[el,em,bP]at h7;simp only[aJ,List.mem_append]at hpl;rcases hpl with hpl | hpl
  ·exact J1 hk eW t u c ⟨h1.1,h2.1,h3,by show nodesF u<=400;omega,by show depthF u<=40;omega⟩ h6.1 h7.1 p hpl
  ·exact yF hk eW l m c h1.2 h2.2 h3 (by omega) (by omega) h6.2 h7.2 p hpl
theorem Cy (k:Bd) (sc:List Str):∀ a,(el k sc a).length=a.length
 | []=>rfl
 | t :: l=>by simp[el,Cy k sc l]
end
theorem AF {s:Fm} (h:fillS s b=(f,0)):fM s=true/\validB b=true/\bT f=true/\f=cw b [] s/\iE b s=true:=by
 unfold fillS at h;split at h
 ·simp at h
 ·rename_i h1;simp only[Bool.not_eq_true',Bool.not_eq_false,ae]at h1;split at h
  ·rename_i h2;simp only[Prod.mk.injEq]at h;exact absurd h.2 h2
  ·rename_i h2;simp only[ne_eq,Decidable.not_not]at h2;split at h
   ·simp at h
   ·rename_i h3;simp only[Bool.not_eq_true',Bool.not_eq_false]at h3;simp only[Prod.mk.injEq,and_true]at h;subst h;refine ⟨h1.1,h1.2,h3,rfl,?_⟩;unfold ph at h2;split at h2
    ·cases h2
    ·rename_i h4;exact Cx s [] (by simpa using h4)
theorem FM {s f:Fm} (h:fillS s b=(f,0)) (eW:sq b):∀ p∈a_ [] s f,Cf b p:=by
 obtain ⟨h1,h2,h3,h4,h5⟩:=AF h;have hp:=xV (s:=s) (f:=f) (by rw[h1,h3];rfl);exact J1 h2 eW s f [] hp h5 (by rw[h4];rfl)
theorem Cz {step:Bd->Pl->Bd×Int}:∀ (l:List Pl),(∀ p∈l,step k p=(k,0))->gE step k l=(k,0)
 | [],_=>rfl
 | p :: l,h=>by
  unfold gE;rw[h p (gp ..)];simp only[if_true];exact Cz l (fun q hq=>h q (fL _ hq))
theorem Pp {s:Fm} (h:fillS s b=(f,0)) (eW:sq b):cP [(s,f)] b=(b,0,0):=by
 have ar:=FM h eW;obtain ⟨h1,h2,h3,_,_⟩:=AF h;have hb:fA 0 [(s,f)]=none:=(kF _ 0).2 (fun x hx=>by simp only[List.mem_singleton]at hx;subst hx;rw[h1,h3];rfl);have p1:e7 aY 0 b [(s,f)]=(b,0,0):=Bb _ 0 b (fun x hx=>by simp only[List.mem_singleton]at hx;subst hx;exact Cz _ (fun p hp=>(ar p hp).1));have p2:e7 dp 0 b [(s,f)]=(b,0,0):=Bb _ 0 b (fun x hx=>by simp only[List.mem_singleton]at hx;subst hx;exact Cz _ (fun p hp=>(ar p hp).2));rw[Ct hb h2,p1];simp only;rw[p2];rfl
structure Less (k b:Bd):Prop where
 f:∀ n g,getB k.fs n=some g->∃g',getB b.fs n=some g'/\db g=db g'
 t:∀ n t,getB k.ts n=some t->getB b.ts n=some t
 v:validB k=true
def qr (k b:List (Str×Tm)):Prop:=∀ n t,getB k n=some t->getB b n=some t
theorem FN {k b:List (Str×Tm)} (h:qr k b) (hk:getB k n=none) (hb:getB b n=some t):qr (g_ n t k) b:=fun m u hu=>by
 rw[oJ n t k hk m]at hu;split at hu
 ·rename_i e;rw[ej]at e;subst e;simp only[c9]at hu;rw[<-hu];exact hb
 ·exact h m u hu
theorem SB {sc:List Str} {l:List Tm} {b:List (Str×Tm)} (h:bL sc b (t :: l) (u :: m)=some b):cY sc b t u=some b/\bL sc b l m=some b:=by
 simp only[bL]at h
 cases h1:cY sc b t u with
 | none=>rw[h1]at h;cases h
 | some b1=>
  rw[h1]at h;obtain ⟨a1,a2⟩:=pB sc t u b b1 h1;obtain ⟨c1,c2⟩:=qZ sc l m b1 b h;exact ⟨h1 ▸ a2 b c1,c2 b (SubL.refl _)⟩
mutual
theorem zL (sc:List Str) {b:List (Str×Tm)}:∀ (t u:Tm) (k:List (Str×Tm)),qr k b->cY sc b t u=some b->∃k',cY sc k t u=some k'/\qr k' b
 | .mk v n a,.mk v' n' a',k,hl,h=>by
  unfold cY at h ⊢
  by_cases hm:(v && dl n)=true
  ·rw[aw hm]at h ⊢
   cases hb:getB b n with
   | none=>
    rw[hb]at h;simp only[c9]at h;have:=Av (v:=Tm.mk v' n' a') hb;rw[h,hb]at this;cases this
   | some w=>
    rw[hb]at h;simp only at h;split at h
    ·rename_i he;have he:=(A_ _ _).1 he;subst he
     cases hk:getB k n with
     | none=>exact ⟨_,rfl,FN hl hk hb⟩
     | some w'=>
      have:=hl n w' hk;rw[hb]at this;simp only[c9]at this;subst this;simp only[oK,if_true];exact ⟨k,rfl,hl⟩
    ·cases h
  ·rw[ak hm]at h ⊢
   by_cases hs:(v && sc.contains n)=true
   ·rw[aw hs]at h ⊢;split at h
    ·rename_i he;rw[aw he];exact ⟨k,rfl,hl⟩
    ·cases h
   ·rw[ak hs]at h ⊢;split at h
    ·cases h
    ·rename_i hd;rw[ak hd];exact wF sc a a' k hl h
theorem wF (sc:List Str) {b:List (Str×Tm)}:∀ (t u:List Tm) (k:List (Str×Tm)),qr k b->bL sc b t u=some b->∃k',bL sc k t u=some k'/\qr k' b
 | [],_,k,hl,_=>⟨k,by simp[bL],hl⟩
 | _ :: _,[],k,hl,_=>⟨k,by simp[bL],hl⟩
 | t :: l,u :: m,k,hl,h=>by
  obtain ⟨h1,h2⟩:=SB h;obtain ⟨k1,e1,l1⟩:=zL sc t u k hl h1;obtain ⟨k2,e2,l2⟩:=wF sc l m k1 l1 h2;exact ⟨k2,by simp only[bL,e1,e2],l2⟩
end
theorem Hc {l:List Tm} {b:List (Str×Tm)} (h:cA c b (t :: l) (u :: m)=some b):∃im,iB c [] u=some im/\cY (c.map (·.1)) b t im=some b/\cA c b l m=some b:=by
 simp only[cA]at h
 cases h0:iB c [] u with
 | none=>rw[h0]at h;cases h
 | some im=>
  rw[h0]at h;simp only at h
  cases h1:cY (c.map (·.1)) b t im with
  | none=>rw[h1]at h;cases h
  | some b1=>
   rw[h1]at h;obtain ⟨a1,a2⟩:=pB _ t im b b1 h1;obtain ⟨c1,c2⟩:=Ba c l m b1 b h;exact ⟨im,rfl,(h1 ▸ a2 b c1),c2 b (SubL.refl _)⟩
theorem zM (c:Sco) {b:List (Str×Tm)}:∀ (t u:List Tm) (k:List (Str×Tm)),qr k b->cA c b t u=some b->∃k',cA c k t u=some k'/\qr k' b
 | [],_,k,hl,_=>⟨k,by simp[cA],hl⟩
 | _ :: _,[],k,hl,_=>⟨k,by simp[cA],hl⟩
 | t :: l,u :: m,k,hl,h=>by
  obtain ⟨im,h0,h1,h2⟩:=Hc h;obtain ⟨k1,e1,l1⟩:=zL _ t im k hl h1;obtain ⟨k2,e2,l2⟩:=zM c l m k1 l1 h2;exact ⟨k2,by simp only[cA,h0,e1,e2],l2⟩
theorem He (hb:validB b=true) (hp:PlOk p) (hf:Cf b p) (hl:Less k b):(aY k p).2=0/\Less (aY k p).1 b:=by
 have hv:(aY k p).2=0->validB (aY k p).1=true:=fun h=>s_ k p _ hp hl.v (by rw[<-h])
 suffices (aY k p).2=0/\(∀ n g,getB (aY k p).1.fs n=some g->∃g',getB b.fs n=some g'/\db g=db g')/\qr (aY k p).1.ts b.ts from ⟨this.1,this.2.1,this.2.2,hv this.1⟩
 clear hv
 by_cases h16:p.s.op=16
 ·have:aY k p=(k,0):=by unfold aY;rw[aw h16]
  rw[this];exact ⟨rfl,hl.f,hl.t⟩
 ·by_cases ja:p.s.op=15
  ·obtain ⟨im,g,h1,h2,h3⟩:=Pb hf ja;have w1:=lu (iZ ((dj b).1 hb).1 h2).1;have i1:=wy hp.c hp.f h1;have QD:=(jg w1.1 i1.1).1 h3
   cases hk:getB k.fs p.s.n with
   | none=>
    have:aY k p=({ k with fs:=g_ p.s.n im k.fs },0):=by
     unfold aY;rw[ak h16,aw ja,h1];simp only[hk]
    rw[this];refine ⟨rfl,fun n g' E_=>?_,hl.t⟩;simp only at E_;rw[oJ _ _ _ hk n]at E_;split at E_
    ·rename_i e;rw[ej]at e;subst e;simp only[c9]at E_;subst E_;exact ⟨g,h2,QD.symm⟩
    ·exact hl.f n g' E_
   | some g0=>
    have qnq:=();exact qe0
  ·obtain ⟨e1,e2,e3,e4,e5⟩:=Pe hf ja h16;obtain ⟨k',h1,h2⟩:=zM p.c p.s.a p.f.a k.ts hl.t e5;have zbE:(p.s.op != p.f.op || (p.s.a.length != p.f.a.length || (p.s.s.length != p.f.s.length || (p.s.n != p.f.n && !bm p.s.op))))=false:=by
    simp only[Bool.or_eq_false_iff,bne_eq_false_iff_eq,Bool.and_eq_false_iff,Bool.not_eq_false'];exact ⟨e1,e2,e3,e4⟩
   have:aY k p=({ k with ts:=k' },0):=by
    unfold aY;rw[ak h16,ak ja,zbE];simp only[bO,↓reduceIte,h1]
   rw[this];exact ⟨rfl,hl.f,h2⟩
theorem Pq (hb:validB b=true) (hp:PlOk p) (hf:Cf b p) (hl:Less k b):((dp k p).2=0/\Less (dp k p).1 b)\/(p.s.op=16/\((dp k p).2=70\/(dp k p).2=71)):=by
 have hv:(dp k p).2=0->validB (dp k p).1=true:=fun h=>Bj k p _ hp hl.v (by rw[<-h])
 suffices ((dp k p).2=0/\(∀ n g,getB (dp k p).1.fs n=some g->∃g',getB b.fs n=some g'/\db g=db g')/\qr (dp k p).1.ts b.ts)\/(p.s.op=16/\((dp k p).2=70\/(dp k p).2=71)) by
  rcases this with h | h
  ·exact .inl ⟨h.1,h.2.1,h.2.2,hv h.1⟩
  ·exact .inr h
 clear hv
 by_cases h16:p.s.op=16
 ·obtain ⟨x0,y0,ha,hx0,hy0,hn⟩:=lk hp h16;obtain ⟨im,g,h1,h2,h3⟩:=Pc hf h16;rw[hn]at h3;simp only at h3;have gv:=iZ ((dj b).1 hb).1 h2;have w1:=lu gv.1;have i1:=wy hp.c hp.f h1;unfold dp;rw[ak (by simp[h16])]
  cases hk:getB k.fs p.s.n with
  | none=>exact .inr ⟨h16,.inr rfl⟩
  | some g0=>
   exact qe0
 ·have:dp k p=(k,0):=by
   unfold dp;rw[aw (by simpa using h16)]
  rw[this];exact .inl ⟨rfl,hl.f,hl.t⟩
theorem su {α:Type}:∀ {l:List (Str×α)} {z:Str} {v:α},getB l z=some v->(z,v)∈l
 | [],_,_,h=>by simp[getB]at h
 | (y,u) :: r,z,v,h=>by
  unfold getB at h;split at h
  ·rename_i e;obtain rfl:=Option.some.inj h;obtain rfl:=ej.1 e;exact gp
  ·exact fL _ (su h)
mutual
def wG (k:Bd):Fm->Nat | .mk o n a s=>mj k (.mk o n a s)+rD k s
def rD (k:Bd):List Fm->Nat | []=>0 | t :: l=>wG k t+rD k l
end
mutual
theorem FO (k:Bd):∀ (s:Fm) (c:Sco),((a_ c s s).map fun p=>mj k p.s).sum=wG k s
 | .mk o n a s,c=>by simp only[a_,cC,List.sum_cons,wG,CG k s]
theorem CG (k:Bd):∀ (s:List Fm) (c:Sco),((aJ c s s).map fun p=>mj k p.s).sum=rD k s
 | [],_=>by simp[aJ,rD]
 | t :: l,c=>by simp only[aJ,List.map_append,List.sum_append,rD,FO k t,CG k l]
end
theorem J2 (hk:validB k=true) (eW:∀ x∈k.ts,nodesT x.2<=1000) (n:Str):goodT (termOf k.ts n)\/termOf k.ts n=.mk false [] []:=by
 unfold termOf
 cases e:getB k.ts n with
 | none=>exact .inr rfl
 | some t=>exact .inl (AB hk eW _ (su e)).1
theorem Pr (hk:validB k=true) (eW:∀ x∈k.ts,nodesT x.2<=1000) (n:Str):jJ 17 (termOf k.ts n)=true:=by
 rcases J2 hk eW n with h | h
 ·exact h.nm
 ·rw[h];rfl
mutual
theorem SC {k:List (Str×Tm)} (hk:∀ n,jJ 17 (termOf k n)=true) {c:List Str}:∀ t,jJ 16 t=true->jJ 17 (da k c t)=true
 | .mk v n a,h=>by
  simp only[jJ,ae,br]at h;unfold da;split
  ·exact hk n
  ·split
   ·simp[aP,jJ,nmTs,bI];exact h.1
   ·simp only[jJ,ae,br];exact ⟨by omega,yG hk a h.2⟩
theorem yG {k:List (Str×Tm)} (hk:∀ n,jJ 17 (termOf k n)=true) {c:List Str}:∀ l,nmTs 16 l=true->nmTs 17 (dZ k c l)=true
 | [],_=>rfl
 | t :: l,h=>by
  simp only[nmTs,ae]at h;simp[dZ,nmTs,SC hk t h.1,yG hk l h.2]
end
theorem CO {p:Nat} {a:List Tm} {s:List Fm} (h:li p (.mk o n a s)=true):(0<=o/\o<=255)/\n.length<=p/\nmTs p a=true/\nmFs p s=true:=by
 simpa only[li,ae,br] using h
theorem Mk (hn:n.length<=16) (hr:nodesF r<=100000):(if (aL [] r).contains n then dL (aL [] r) else n).length<=2000000:=by
 split
 ·exact pF (by have:=fp r [];omega)
 ·omega
mutual
theorem CU {k:Bd} (hk:validB k=true) (eW:∀ x∈k.ts,nodesT x.2<=1000):∀ (s:Fm) (c:List Str),okF true s=true->iE k s=true->wG k s<=1000->nodesF (cw k c s)<=wG k s/\li 2000000 (cw k c s)=true
 | .mk o n a s,c,hok,h,hsz=>by
  obtain ⟨k1,k2⟩:=(dj k).1 hk;have dD:=CO (iD _ hok)
  by_cases ja:o=15
  ·subst ja;obtain ⟨g,hg⟩:=uw h;have e2:formOf k.fs n=g:=by unfold formOf;rw[hg]
   have e:cw k c (.mk 15 n a s)=g:=by simp only[cw,if_true];exact e2
   have uN:goodF g:=(iZ k1 hg).1;rw[e];refine ⟨?_,uN.fit.2⟩;have:mj k (.mk 15 n a s)=nodesF g:=by simp only[mj,Fm.op,Fm.n,if_true,e2]
   unfold wG;omega
  ·by_cases h16:o=16
   ·subst h16;obtain ⟨rfl,x,y,rfl,hx,_⟩:=yD hok;rw[sr];obtain ⟨g,hg,h2⟩:=ux h;have e2:formOf k.fs n=g:=by unfold formOf;rw[hg]
    have uN:goodF g:=(iZ k1 hg).1;have hz:mj k (.mk 16 n [aP x,aP y] [])=nodesF g+ea (bI x) g * (nodesT (termOf k.ts y) - 1):=by
     simp only[mj,Fm.op,Fm.n,e2];rw[ak (by decide)];rfl
    unfold wG;rw[hz];unfold wD;rw[e2];split
    ·exact ⟨by omega,uN.fit.2⟩
    ·rename_i h0;exact qeW
   ·obtain ⟨h1,h2⟩:=ng ja h16 h;have Sh:=hok;simp only[okF,ae]at hok;have hz:mj k (.mk o n a s)=ew k.ts a+1:=by unfold mj;rw[ak (show ¬(Fm.mk o n a s).op=15 from ja),ak (show ¬(Fm.mk o n a s).op=16 from h16)];rfl
    unfold wG at hsz ⊢;rw[hz]at hsz ⊢
    by_cases hq:bm o=true
    ·obtain ⟨_,rfl,g,rfl⟩:=ls Sh hq;have ih:=nZ hk eW [g] (n :: c) hok.2.2.2.2 h2 (by omega);have iw:=rC hk [g] (n :: c) hok.2.2.2.2 h2;simp only[el,nodesFs,nmFs,Bool.and_true,eR,fF]at ih iw;exact qeX
    ·have ih:=nZ hk eW s c hok.2.2.2.2 h2 (by omega);exact qeY
theorem nZ {k:Bd} (hk:validB k=true) (eW:∀ x∈k.ts,nodesT x.2<=1000):∀ (s:List Fm) (c:List Str),dt true s=true->iJ k s=true->rD k s<=1000->nodesFs (el k c s)<=rD k s/\nmFs 2000000 (el k c s)=true
 | [],_,_,_,_=>by simp[el,nodesFs,nmFs]
 | t :: l,c,hok,h,hsz=>by
  simp only[dt,iJ,ae]at hok h;simp only[rD]at hsz ⊢;have i1:=CU hk eW t c hok.1 h.1 (by omega);have i2:=nZ hk eW l c hok.2 h.2 (by omega);simp only[el,nodesFs,nmFs,i1.2,i2.2,Bool.and_self,and_true];omega
end
theorem J3 {w:World} {base size n c:Nat} {e:TypeId} {xs:List Value} (h:w.ownsRow base e size (.slice (some ⟨g,0,none⟩) n c) n xs):n<=c:=by
 exact qb9
def BF (e:Str×FQ):List Value:=.string ⟨e.1.toArray⟩ :: e.2.cells
theorem _x (es:List (Str×FQ)):∀ j (h:j<es.length),(es.flatMap BF)[j * 5]?=some (.string ⟨es[j].1.toArray⟩)/\(es.flatMap BF)[j * 5+1]?=some (.int .u8 es[j].2.o)/\(es.flatMap BF)[j * 5+2]?=some (.string es[j].2.n)/\(es.flatMap BF)[j * 5+3]?=some (.slice es[j].2.a es[j].2.l es[j].2.c)/\(es.flatMap BF)[j * 5+4]?=some (.slice es[j].2.b es[j].2.m es[j].2.e):=by
 induction es with
 | nil=>intro j h;simp at h
 | cons q es ih=>
  intro j h
  cases j with
  | zero=>simp[BF,FQ.cells]
  | succ j=>
   have:=ih j (by simpa using h);simp only[List.flatMap_cons,BF,FQ.cells,oC,sS];rw[show (j+1) * 5=j * 5+1+1+1+1+1 by omega,show j * 5+1+1+1+1+1+1=(j * 5+1)+1+1+1+1+1 by omega,show j * 5+1+1+1+1+1+2=(j * 5+2)+1+1+1+1+1 by omega,show j * 5+1+1+1+1+1+3=(j * 5+3)+1+1+1+1+1 by omega,show j * 5+1+1+1+1+1+4=(j * 5+4)+1+1+1+1+1 by omega];simpa[BF,FQ.cells] using this
def RowFB (lo:Nat) (v:Value) (l:List (Str×Fm)) (W:World):Prop:=
 ∃es:List (Str×FQ),es.length=l.length/\W.ownsRow lo 40 5 v l.length (es.flatMap BF)/\∀ j (h:j<es.length) (h2:j<l.length),es[j].1=l[j].1/\FormV (fun b=>lo<=b/\v.ownBlock≠some b) W es[j].2.val l[j].2
theorem RowFB.nil (lo:Nat) (W:World):RowFB lo (.slice none 0 0) [] W:=⟨[],rfl,World.ownsRow_nil _ _ _ _,fun j h=>by simp at h⟩
theorem RowFB.slice {ts:List (Str×Fm)} (h:RowFB lo v ts W):∃a c,v=.slice a ts.length c:=by
 exact qcj
theorem RowFB.held {ts:List (Str×Fm)} (h:RowFB lo v ts W) (hb:∀ b,lo<=b->b<W.heap.size->W'.heap[b]?=W.heap[b]?):RowFB lo v ts W':=by
 exact qe1
theorem RowFB.binds {ts:List (Str×Fm)} (h:RowFB lo v ts W):FBindsV (lo<=·) W v ts:=by
 have qnr:=();exact qe2
theorem RowFB.step {ts:List (Str×Fm)} {t:Fm} {qs:List (Str×FQ)} {q:FQ} (hk:qs.length=ts.length) (hb:Below W.heap.size W W1) (hlo:lo<=W.heap.size)
  (ht:∀ j (h:j<qs.length) (h2:j<ts.length),qs[j].1=ts[j].1/\FormV (fun b=>lo<=b/\v.ownBlock≠some b) W qs[j].2.val ts[j].2) (hv:∀ b,v.ownBlock=some b->b<W.heap.size)
  (hq:FormV (W.heap.size<=·) W1 q.val t) (aO:w4.ownsRow lo 40 5 (.slice (some ⟨g,0,none⟩) (ts.length+1) cap) (ts.length+1) (qs.flatMap BF ++ BF (x,q)))
  (hold:∀ c,lo<=c->c<W1.heap.size->v.ownBlock≠some c->w4.heap[c]?=W1.heap[c]?) (hg:v.ownBlock=some g\/W1.heap.size<=g) :
  RowFB lo (.slice (some ⟨g,0,none⟩) (ts.length+1) cap) (ts ++ [(x,t)]) w4:=by
 exact qe3
theorem Fills.stepFB {mk:Value->Array Value} {ts:List (Str×Fm)} {t:Fm} {qs:List (Str×FQ)} {p:FQ} {o:Obj}
  (h:Fills T R lo mk (fun r=>RowFB lo r ts) W1 wr row) (au:wr.ownsRow lo 40 5 row ts.length (qs.flatMap BF)) (eu:qs.length=ts.length) (gd:∀ j (h:j<qs.length) (h2:j<ts.length),qs[j].1=ts[j].1/\FormV (fun b=>lo<=b/\row.ownBlock≠some b) wr qs[j].2.val ts[j].2)
  (hA:Below wr.heap.size wr A) (hp:FormV (wr.heap.size<=·) A p.val t)
  (aO:w4.ownsRow lo 40 5 (.slice (some ⟨g,0,none⟩) (ts.length+1) cap) (ts.length+1) (qs.flatMap BF ++ BF (x,p))) (am:(A.alloc o).grownBy w4 row.ownBlock) (hg:row.ownBlock=some g\/g=A.heap.size+1)
  (ze:(mk row).setIfInBounds F (.slice (some ⟨g,0,none⟩) (ts.length+1) cap)=mk (.slice (some ⟨g,0,none⟩) (ts.length+1) cap)) :
  Fills T R lo mk (fun r=>RowFB lo r (ts ++ [(x,t)])) W1 (w4.setCell ⟨R,F,none⟩ (.slice (some ⟨g,0,none⟩) (ts.length+1) cap)) (.slice (some ⟨g,0,none⟩) (ts.length+1) cap):=by
 have qns:=();exact qbf
theorem Ml:(Tryz.prog.info? 40).map (fun i=>(i.zero,i.size,i.bytes))=some (some (.agg #[.string ByteArray.empty,.int .u8 0,.string ByteArray.empty,.slice none 0 0,.slice none 0 0]),5,88):=by kernel_rfl
def BT (e:Str×TQ):List Value:=.string ⟨e.1.toArray⟩ :: e.2.cells
theorem _y (es:List (Str×TQ)):∀ j (h:j<es.length),(es.flatMap BT)[j * 4]?=some (.string ⟨es[j].1.toArray⟩)/\(es.flatMap BT)[j * 4+1]?=some (.bool es[j].2.v)/\(es.flatMap BT)[j * 4+2]?=some (.string es[j].2.n)/\(es.flatMap BT)[j * 4+3]?=some (.slice es[j].2.a es[j].2.l es[j].2.c):=by
 induction es with
 | nil=>intro j h;simp at h
 | cons q es ih=>
  intro j h
  cases j with
  | zero=>simp[BT,TQ.cells]
  | succ j=>
   have:=ih j (by simpa using h);simp only[List.flatMap_cons,BT,TQ.cells,oC,sS];exact qd8
def RowTB (lo:Nat) (v:Value) (l:List (Str×Tm)) (W:World):Prop:=
 ∃es:List (Str×TQ),es.length=l.length/\W.ownsRow lo 47 4 v l.length (es.flatMap BT)/\∀ j (h:j<es.length) (h2:j<l.length),es[j].1=l[j].1/\TermV (fun b=>lo<=b/\v.ownBlock≠some b) W es[j].2.val l[j].2
theorem RowTB.nil (lo:Nat) (W:World):RowTB lo (.slice none 0 0) [] W:=⟨[],rfl,World.ownsRow_nil _ _ _ _,fun j h=>by simp at h⟩
theorem RowTB.slice {ts:List (Str×Tm)} (h:RowTB lo v ts W):∃a c,v=.slice a ts.length c:=by
 exact qcj
theorem RowTB.held {ts:List (Str×Tm)} (h:RowTB lo v ts W) (hb:∀ b,lo<=b->b<W.heap.size->W'.heap[b]?=W.heap[b]?):RowTB lo v ts W':=by
 exact qe1
theorem RowTB.binds {ts:List (Str×Tm)} (h:RowTB lo v ts W):TBindsV (lo<=·) W v ts:=by
 exact qe2
theorem RowTB.step {ts:List (Str×Tm)} {qs:List (Str×TQ)} {q:TQ} (hk:qs.length=ts.length) (hb:Below W.heap.size W W1) (hlo:lo<=W.heap.size)
  (ht:∀ j (h:j<qs.length) (h2:j<ts.length),qs[j].1=ts[j].1/\TermV (fun b=>lo<=b/\v.ownBlock≠some b) W qs[j].2.val ts[j].2) (hv:∀ b,v.ownBlock=some b->b<W.heap.size)
  (hq:TermV (W.heap.size<=·) W1 q.val t) (aO:w4.ownsRow lo 47 4 (.slice (some ⟨g,0,none⟩) (ts.length+1) cap) (ts.length+1) (qs.flatMap BT ++ BT (x,q)))
  (hold:∀ c,lo<=c->c<W1.heap.size->v.ownBlock≠some c->w4.heap[c]?=W1.heap[c]?) (hg:v.ownBlock=some g\/W1.heap.size<=g) :
  RowTB lo (.slice (some ⟨g,0,none⟩) (ts.length+1) cap) (ts ++ [(x,t)]) w4:=by
 exact qe3
theorem Fills.stepTB {mk:Value->Array Value} {ts:List (Str×Tm)} {qs:List (Str×TQ)} {p:TQ} {o:Obj}
  (h:Fills T R lo mk (fun r=>RowTB lo r ts) W1 wr row) (au:wr.ownsRow lo 47 4 row ts.length (qs.flatMap BT)) (eu:qs.length=ts.length) (gd:∀ j (h:j<qs.length) (h2:j<ts.length),qs[j].1=ts[j].1/\TermV (fun b=>lo<=b/\row.ownBlock≠some b) wr qs[j].2.val ts[j].2)
  (hA:Below wr.heap.size wr A) (hp:TermV (wr.heap.size<=·) A p.val t)
  (aO:w4.ownsRow lo 47 4 (.slice (some ⟨g,0,none⟩) (ts.length+1) cap) (ts.length+1) (qs.flatMap BT ++ BT (x,p))) (am:(A.alloc o).grownBy w4 row.ownBlock) (hg:row.ownBlock=some g\/g=A.heap.size+1)
  (ze:(mk row).setIfInBounds F (.slice (some ⟨g,0,none⟩) (ts.length+1) cap)=mk (.slice (some ⟨g,0,none⟩) (ts.length+1) cap)) :
  Fills T R lo mk (fun r=>RowTB lo r (ts ++ [(x,t)])) W1 (w4.setCell ⟨R,F,none⟩ (.slice (some ⟨g,0,none⟩) (ts.length+1) cap)) (.slice (some ⟨g,0,none⟩) (ts.length+1) cap):=by
 exact qbf
theorem Mm:(Tryz.prog.info? 47).map (fun i=>(i.zero,i.size,i.bytes))=some (some (.agg #[.string ByteArray.empty,.bool false,.string ByteArray.empty,.slice none 0 0]),4,64):=by kernel_rfl
end Go.Proofs.YtokemihbkeddoaaGreatDoor
namespace Go.Proofs
open Go.RowKit Go.Maps Go.Sort Go.Shelf
shelf_lay_g SlLaysZ.n7 Ggz 7 at Tryz 104 as Tryz.keysF
shelf_lay_g SlLaysZ.n7 Ggz 7 at Tryz 105 as Tryz.keysT
end Go.Proofs
namespace Go.Proofs.YtokemihbkeddoaaGreatDoor
open Go Go.RowKit Go.Maps Go.Sort Go.Shelf
theorem Ps (mb:Option Nat) (W:World):Calls Tryz.prog 104 #[.map mb] W fun e w'=>e=.returned (.func (.func 169) #[] #[.pointer (some ⟨W.heap.size,0,none⟩)])/\w'=W.alloc (.cells #[.map mb] 145):=
 aH.1 (AnyZ.keys_in Tryz.keysF Fence.wide 5 trivial rfl mb W)
theorem Pt (mb:Option Nat) (W:World):Calls Tryz.prog 105 #[.map mb] W fun e w'=>e=.returned (.func (.func 170) #[] #[.pointer (some ⟨W.heap.size,0,none⟩)])/\w'=W.alloc (.cells #[.map mb] 146):=
 aH.1 (AnyZ.keys_in Tryz.keysT Fence.wide 5 trivial rfl mb W)
theorem lv:∀ {l:List Str},dw l=true->Up l
 | [],_=>List.Pairwise.nil
 | x :: l,h=>by
  obtain ⟨h1,h2⟩:=lK.1 h;have h3:=lv h2;refine List.pairwise_cons.2 ⟨fun y hy=>?_,h3⟩
  cases l with
  | nil=>cases hy
  | cons z l=>
   have h4:=h1 z rfl;rcases cG.1 hy with rfl | hy
   ·exact h4
   ·exact rd _ _ _ h4 ((List.pairwise_cons.1 h3).1 y hy)
theorem Hf {l:List Str} (h:Up l):di l=l:=Ln _ _ (tR l) h (fun x=>dV x l)
theorem J4 {V:Value->Fm->Prop} (m n:Nat) (l:List (Str×Fm)) (hn:n<=3000000) (hup:Up (l.map (·.1))) (W:World) (hs:MapV Tryz.prog 9 V W m n l) :
  Calls Tryz.prog 74 #[.func (.func 169) #[] #[.pointer (some ⟨W.heap.size,0,none⟩)]] (W.alloc (.cells #[.map (some m)] 145)) fun e w'=>∃v,e=.returned v/\RowS W.heap.size w' v (l.map (·.1))/\RowKit.Below W.heap.size W w':=by
 obtain ⟨D0,au,hx⟩:=hs;have Qw:=au.lt;have hsz:=au.size_le;have nH:SeqGives Fence.wide 2 Tryz.prog 169 #[.pointer (some ⟨W.heap.size,0,none⟩)] encStr (fun ss=>ss.Perm (strKeys D0)) (Maps.size D0) (W.alloc (.cells #[.map (some m)] 145)):=
  AnyZ.keys_gives (ρ:=Tryz.keysF_ren) { Tryz.keysF with } Fence.wide _ trivial rfl (by omega) W.heap.size m n D0 _ (by simp) (by simp) (au.alloc _)
 have cS:=AnyZ.sorted_in Tryz.sortedA Fence.wide 5 trivial trivial trivial trivial rfl (by omega) (Tryz.sortsA _) (enters_of Tryz.func134 (by kernel_rfl) rfl) 169 #[.pointer (some ⟨W.heap.size,0,none⟩)] trivial (enters_of Tryz.func169 (by kernel_rfl) rfl) _ _ (by unfold maxLen;omega) (by omega) _ nH;exact qb7
theorem J5 {V:Value->Tm->Prop} (m n:Nat) (l:List (Str×Tm)) (hn:n<=3000000) (hup:Up (l.map (·.1))) (W:World) (hs:MapV Tryz.prog 9 V W m n l) :
  Calls Tryz.prog 74 #[.func (.func 170) #[] #[.pointer (some ⟨W.heap.size,0,none⟩)]] (W.alloc (.cells #[.map (some m)] 146)) fun e w'=>∃v,e=.returned v/\RowS W.heap.size w' v (l.map (·.1))/\RowKit.Below W.heap.size W w':=by
 obtain ⟨D0,au,hx⟩:=hs;have Qw:=au.lt;have hsz:=au.size_le;have nH:SeqGives Fence.wide 2 Tryz.prog 170 #[.pointer (some ⟨W.heap.size,0,none⟩)] encStr (fun ss=>ss.Perm (strKeys D0)) (Maps.size D0) (W.alloc (.cells #[.map (some m)] 146)):=
  AnyZ.keys_gives (ρ:=Tryz.keysT_ren) { Tryz.keysT with } Fence.wide _ trivial rfl (by omega) W.heap.size m n D0 _ (by simp) (by simp) (au.alloc _)
 have cS:=AnyZ.sorted_in Tryz.sortedA Fence.wide 5 trivial trivial trivial trivial rfl (by omega) (Tryz.sortsA _) (enters_of Tryz.func134 (by kernel_rfl) rfl) 170 #[.pointer (some ⟨W.heap.size,0,none⟩)] trivial (enters_of Tryz.func170 (by kernel_rfl) rfl) _ _ (by unfold maxLen;omega) (by omega) _ nH;exact qb7
end Go.Proofs.YtokemihbkeddoaaGreatDoor
namespace Go.Proofs.YtokemihbkeddoaaGreatDoor
open Go Go.RowKit Go.Maps Go.Sort Go.Shelf
variable {α:Type} {X:World} {B:Nat} {c0 c1:Value} {T:TypeId}
attribute [local go_sem] Oper.semAt_some
theorem MapV.len {k:TypeId} {V:Value->α->Prop} {W:World} {m n:Nat} {l:List (Str×α)} (hk:Tryz.prog.underlying k=some .string) (h:MapV Tryz.prog k V W m n l) (hup:Up (l.map (·.1))):l.length<=n:=by
 obtain ⟨D0,au,hx⟩:=h;obtain ⟨es,hD,U9,_⟩:=au.entries (Maps.string_keyed hk);have qnt:=();exact qe4
theorem uz (hx:X.heap[B]?=some (.cells #[c0,c1] T (0,0))):X.cell? ⟨B,0,none⟩=some c0/\X.cell? ⟨B,1,none⟩=some c1/\X.frozen? ⟨B,0,none⟩=false/\X.frozen? ⟨B,1,none⟩=false:=
 ⟨ag hx 0,ag hx 1,ac hx 0,ac hx 1⟩
theorem EH (hx:X.heap[B]?=some (.cells #[c0,c1] T (0,0))) (v0 v1:Value):∃W6,W6=(X.setCell ⟨B,0,none⟩ v0).setCell ⟨B,1,none⟩ v1/\W6.heap[B]?=some (.cells #[v0,v1] T (0,0))/\Kp (fun b=>b=B) X W6/\W6.cell? ⟨B,0,none⟩=some v0/\W6.cell? ⟨B,1,none⟩=some v1:=by
 have h0:=bp (F:=0) hx v0;have h1:=(bp (F:=1) h0 v1).trans rfl;exact ⟨_,rfl,h1,⟨rfl,rfl,rfl,by simp,fun c _ hc=>(eC _ _ _ _ (by simpa using hc)).trans (eC _ _ _ _ (by simpa using hc))⟩,ag h1 0,ag h1 1⟩
theorem NV {l:List (Str×α)} (h:(l.map (·.1)).Nodup) {j:Nat} (hj:j<l.length):getB l l[j].1=some l[j].2:=by
 have h1:=yo h hj l[j].1;rw[aw rfl]at h1;have h2:∀ (a b:List (Str×α)) (x:Str) (v:α),getB a x=some v->getB (a ++ b) x=some v:=by
  intro a b x v ha
  induction a with
  | nil=>cases ha
  | cons z a ih=>
   obtain ⟨z1,z2⟩:=z;simp only[oC,getB]at ha ⊢
   by_cases hz:(z1 == x)=true
   ·simpa[hz] using ha
   ·simp only[hz]at ha ⊢;exact ih ha
 have h3:=h2 _ (l.drop (j+1)) _ _ h1
 rwa [List.take_append_drop]at h3
theorem J6 (k:Bd) (hv:validB k=true) (PF:Fm->Prop) (PT:Tm->Prop) (hPF:∀ f,PF f->fitF f) (Ya:∀ t,PT t->fitT t) (ok:Nat->Prop) (w:World) (kb mF mT nF nT:Nat) (d_:KnV ok PF PT w kb mF mT nF nT k) (sL:nF<=3000000) (qW:nT<=3000000) :
  Calls Tryz.prog 50 #[.pointer (some ⟨kb,0,none⟩)] w fun e w'=>(∃q:BQ,e=.returned q.val/\BindV (w.heap.size<=·) w' q k)/\Below w.heap.size w w':=by
 obtain ⟨qJ,hi,Ar,xP,AT⟩:=info_parts Ml;obtain ⟨Lk,hq,_z,KY,hqc⟩:=info_parts Mm;have jW:=hv;simp only[validB,ae,List.all_eq_true]at jW;have huF:=lv jW.2.1;have huT:=lv jW.2.2;have hlF:=d_.fs.len Tryz.underlying9 huF;have hlT:=d_.ts.len Tryz.underlying9 huT;have ⟨n1,eh⟩:=aj k.fs.length;have ⟨n2,i_⟩:=aj k.ts.length;have OS:n1<=3000000:=by omega
 have Vs:n2<=3000000:=by omega
 have HN:=aA eh i_;have HP:=cq (iW huF) (iW huT) hPF Ya;have IQ:=aA (show ∀ x∈k.fs,x.1.length<=2000000 from fun x hx=>by have:=t_ (jW.1.1 x hx).1;omega) (show ∀ x∈k.ts,x.1.length<=2000000 from fun x hx=>by have:=gh (jW.1.2 x hx).1;omega);have ⟨W2,aZ⟩:=aj ((w.alloc (.cells #[.slice none 0 0,.slice none 0 0] 26)).alloc (.cells #[.slice none 0 0,.slice none 0 0] 26));have bG:=k_ aZ;have gY:=xC aZ;have x0:=qM aZ;have x1:=jH aZ;have fJ:=d_.later bG;have k0:=ag fJ.box 0;have CK:=J4 mF nF k.fs sL huF W2 fJ.fs;have KX:=ab (fun (V:World) (m n:Nat) (hs:MapV Tryz.prog 9 (TermK ok PT V) V m n k.ts) (h:n<=3000000)=>J5 m n k.ts h huT V hs);have HCK:=ab CK;have H2:=cq bG gY x0 x1;have KZ:=ab d_;have HNB:=aA sL qW;have fj:=ab aZ;rw[aZ]at k0;clear hv jW huF huT hlF hlT hPF Ya d_ bG gY x0 x1 fJ CK aZ sL qW eh i_;go_enter Tryz.func50,Tryz.ntmps50;go_wp2_with (first | (go_at_call 104;rw[<-fj.o];refine (Ps _ _).mono ?_;rintro e w4 ⟨rfl,rfl⟩) | (go_at_call 74;refine HCK.o.mono ?_;rintro e w5 ⟨v5,rfl,KR,bh⟩;obtain ⟨ka,kc,rfl⟩:=KR.strs.slice;have H5:=aA KR bh;clear KR bh));have ⟨W3,dF⟩:=aj w5;have ⟨V6,xr⟩:=aS H5.o.1.strs H5.o.2;clear H5;rw[List.length_map,<-HN.o.1]at V6;rw[<-HN.o.1];rw[<-dF]at V6 xr ⊢;clear dF w5;have zbG:Below w.heap.size w W3:=H2.o.1.tr xr.o;have QE:=bN xr.o H2.o.2.2.2;have x03:=bN xr.o H2.o.2.2.1;have _A:=ab (Fills.start (R:=w.heap.size+1) (mk:=fun rr=>#[rr,.slice none 0 0]) (Row:=fun r W=>RowFB W3.heap.size r (k.fs.take 0) W) QE (RowFB.nil _ _));have Lh:=ab x03;have H3:=bx zbG V6.o H2.o.2.1;clear zbG QE x03 V6;go_loopw [15] (fun i wr=>∃j:Nat,j<=n1/\i=.int .i64 j/\∃row,Fills 26 (w.heap.size+1) W3.heap.size (fun rr=>#[rr,.slice none 0 0]) (fun r W=>RowFB W3.heap.size r (k.fs.take j) W) W3 wr row) (fun i _=>n1 - (intOf i).toNat)
 case atStart=>exact ⟨0,aX _,rfl,_,_A.o⟩
 case round=>
  obtain ⟨j,hj,rfl,row,hF⟩:=hrel;have aq:=hF.below H3.o.1 (by omega)
  by_cases hlt:j<n1
  ·have dy:j<k.fs.length:=by rw[<-HN.o.1];exact hlt
   have d_:j<(k.fs.map (·.1)).length:=by simpa using dy
   obtain ⟨bk,OP,rfl,SD,ck⟩:=H3.o.2.1.get d_;have ⟨nm,dD⟩:=aj (k.fs[j].1);simp only[List.getElem_map,<-dD]at ck;have K4:=NV HP.o.1 dy;rw[<-dD]at K4;have SE:Kp (fun b=>b=w.heap.size+1) W3 wr:=hF.kp;have SF:bk≠w.heap.size+1:=by have:=H3.o.2.2;omega
   have dk:=SE.cell (a:=⟨bk,OP+j,none⟩) SF ck;have jD:=KZ.o.later aq;rcases jD.fs.look Tryz.underlying9 Tryz.underlying145 mN (x:=nm) (by rw[dD];exact IQ.o.1 _ (ap dy)) with ⟨hg,_⟩ | ⟨g,vg,hg,hvg,hlk⟩
   ·rw[K4]at hg;cases hg
   rw[K4]at hg;obtain rfl:k.fs[j].2=g:=by injection hg
   obtain ⟨⟨g0,g1,g2,g3,g4,g5,g6,g7⟩,rfl,oy,Jy⟩:=hvg;simp only[FQ.val]at hlk;have ce:(k.fs.take j).length=j:=by rw[dS];omega
   have qnu:=();exact qaR
  ·obtain rfl:n1=j:=by omega
   have ce:(k.fs.take n1).length=n1:=by rw[dS];have:=HN.o;omega
   have j_:k.fs.take n1=k.fs:=iP (by have:=HN.o;omega);obtain ⟨fra,frc,rfl⟩:=hF.row.slice;rw[ce]at hF;rw[j_]at hF;have HRF:=ab hF.row;have jD:=KZ.o.later aq;have xb:=hF.box;have kpF:=hF.kp;have zbH:=hF.size;have ⟨wo,Gx⟩:=aj wr;subst Gx;have k1:=ag jD.box 1;have zdM:=ab (KX.o wo mT nT jD.ts HNB.o.2);have HO:=cq aq xb kpF zbH;clear aq jD xb kpF zbH hF ce j_;go_wp2_with (first | (go_at_call 105;refine (Pt _ _).mono ?_;rintro e w4 ⟨rfl,rfl⟩) | (go_at_call 74;refine zdM.o.mono ?_;rintro e w5 ⟨v5,rfl,KR,bh⟩;obtain ⟨kta,ktc,rfl⟩:=KR.strs.slice;have H5:=aA KR bh;clear KR bh));clear k1;have ⟨W6,cQ⟩:=aj w5;have ⟨V6,J7⟩:=aS H5.o.1.strs H5.o.2;clear H5;rw[List.length_map,<-HN.o.2]at V6;rw[<-HN.o.2];rw[<-cQ]at V6 J7 ⊢;clear cQ w5;have zbI:Below w.heap.size w W6:=HO.o.1.tr J7.o;have UK:=bN J7.o HO.o.2.1;have _B:=ab (Fills.start (R:=w.heap.size+1) (mk:=fun rr=>#[.slice fra n1 frc,rr]) (Row:=fun r W=>RowTB W6.heap.size r (k.ts.take 0) W) UK (RowTB.nil _ _));have H6:=bx zbI V6.o (show w.heap.size+1<wo.heap.size from (bA HO.o.2.1));clear zbI UK V6;go_loopw [41] (fun i wr=>∃j:Nat,j<=n2/\i=.int .i64 j/\∃row,Fills 26 (w.heap.size+1) W6.heap.size (fun rr=>#[.slice fra n1 frc,rr]) (fun r W=>RowTB W6.heap.size r (k.ts.take j) W) W6 wr row) (fun i _=>n2 - (intOf i).toNat)
   case atStart=>exact ⟨0,aX _,rfl,_,_B.o⟩
   case round=>
    obtain ⟨j,hj,rfl,row,hF⟩:=hrel;have aq:=hF.below H6.o.1 (by omega)
    by_cases hlt:j<n2
    ·have dy:j<k.ts.length:=by rw[<-HN.o.2];exact hlt
     have d_:j<(k.ts.map (·.1)).length:=by simpa using dy
     obtain ⟨bk,OP,rfl,SD,ck⟩:=H6.o.2.1.get d_;have ⟨nm,dD⟩:=aj (k.ts[j].1);simp only[List.getElem_map,<-dD]at ck;have K4:=NV HP.o.2.1 dy;rw[<-dD]at K4;have SE:Kp (fun b=>b=w.heap.size+1) W6 wr:=hF.kp;have SF:bk≠w.heap.size+1:=by have:=H6.o.2.2;omega
     have dk:=SE.cell (a:=⟨bk,OP+j,none⟩) SF ck;have jD:=KZ.o.later aq;rcases jD.ts.look Tryz.underlying9 Tryz.underlying146 kg (x:=nm) (by rw[dD];exact IQ.o.2 _ (ap dy)) with ⟨hg,_⟩ | ⟨g,vg,hg,hvg,hlk⟩
     ·rw[K4]at hg;cases hg
     rw[K4]at hg;obtain rfl:k.ts[j].2=g:=by injection hg
     obtain ⟨⟨g0,g1,g2,g3,g4⟩,rfl,oy,Jy⟩:=hvg;simp only[TQ.val]at hlk;have ce:(k.ts.take j).length=j:=by rw[dS];omega
     have qnv:=();exact qaR
    ·obtain rfl:n2=j:=by omega
     have ce:(k.ts.take n2).length=n2:=by rw[dS];have:=HN.o;omega
     have j_:k.ts.take n2=k.ts:=iP (by have:=HN.o;omega);have qnw:=();exact qaR
end Go.Proofs.YtokemihbkeddoaaGreatDoor
namespace Go.Proofs.YtokemihbkeddoaaGreatDoor
open Go Go.RowKit Lib
set_option maxRecDepth 100000
set_option maxHeartbeats 64000000
variable {B n:Nat} {x:Str} {tm:Array Value} {ds:List Deferred} {w w':World} {F:Fence} {P:Program}
section
attribute [local go_sem] Oper.semAt_some
theorem SG (k:Bd) (o:Int) (n:Str) (a:List Tm) (s:List Fm) (F:Fm) (c:Sco):dp k ⟨.mk o n a s,F,c⟩ =
  if (o != 16)=true then ((k,0):Bd×Int)
  else match getB k.fs n with
  | none=>(k,71)
  | some f=>match e8 c [] F with
   | none=>(k,70)
   | some im=>
    if ea (aU (.mk o n a s)).1 f=0 then (if cg [] f im=true then (k,0) else (k,70))
    else match (match getB k.ts (aU (.mk o n a s)).2 with | some t=>some (t,k.ts) | none=>(gD f im (aU (.mk o n a s)).1).map fun t=>(t,g_ (aU (.mk o n a s)).2 t k.ts)) with
     | none=>(k,70)
     | some (t,ts)=>if (nodesF f+ea (aU (.mk o n a s)).1 f * (nodesT t - 1) != nodesF im)=true then ({ k with ts:=ts },70)
      else if cg [] (e9 (aU (.mk o n a s)).1 t f) im=true then ({ k with ts:=ts },0) else ({ k with ts:=ts },70):=rfl
theorem Mn {M:Nat->Prop} {W X Y:World} (h:Kp M W X) (k:Kp (fun b=>b=B) X Y) (hB:W.heap.size<=B):Kp M W Y:=
 ⟨k.os.trans h.os,k.tape.trans h.tape,k.output.trans h.output,aN h.size k.size,fun b hb hm=>(k.same b (bJ hb h.size) (by omega)).trans (h.same b hb hm)⟩
theorem Mo:∀ (l:List Tm) (i:Nat),eM x l≠0->(ev x l i).isSome=true:=by
 have Iz:∀ t:Tm,uX x t≠0->(mi x t).isSome=true:=by
  exact qav
 intro l
 induction l with
 | nil=>intro i h;simp[eM]at h
 | cons u a ihs=>
  intro i h;simp only[eM]at h;unfold ev
  cases hp:mi x u with
  | some p=>rfl
  | none=>
   simp only;refine ihs _ ?_;intro h0;have:=Iz u (by omega);rw[hp]at this;cases this
theorem Pu:∀ f:Fm,ea x f≠0->(kv x f).isSome=true:=by
 intro f
 induction f using Fm.ind with
 | h o n a s ih=>
 intro h;unfold kv
 cases hp:ev x a 0 with
 | some p=>rfl
 | none=>
  simp only;have h1:eM x a=0:=by
   by_cases h0:eM x a=0
   ·exact h0
   ·have:=Mo a 0 h0;rw[hp]at this;cases this
  simp only[ea,h1,Nat.zero_add]at h;clear hp h1;generalize 0=i
  induction s generalizing i with
  | nil=>simp[iq]at h
  | cons u s ihs=>
   simp only[iq]at h;unfold lg
   cases hp:kv x u with
   | some p=>rfl
   | none=>
    exact qe5
theorem Pv (W0:World):Yi W0 48 dp:=by
 intro M kb mF mT UD UC UE _d p hp sf W nF nT k q ps _e Ca d_ sL qW hpv;obtain ⟨⟨o,n,a,s⟩,F,c⟩:=p;have qnx:=();exact qaj
def iK (w:World) (q r:FQ):World:=(w.alloc (.cells #[.int .u8 q.o,.string q.n,.slice q.a q.l q.c,.slice q.b q.m q.e] 36)).alloc (.cells #[.int .u8 r.o,.string r.n,.slice r.a r.l r.c,.slice r.b r.m r.e] 36)
theorem gj (w:World) (q r:FQ):Below w.heap.size w (iK w q r):=cI.alloc (by simp) _
theorem kM (w:World) (q r:FQ):(iK w q r).heap.size=w.heap.size+2:=by simp[iK]
theorem lP (w:World) (q r:FQ):(iK w q r).heap[w.heap.size]?=some (.cells #[.int .u8 q.o,.string q.n,.slice q.a q.l q.c,.slice q.b q.m q.e] 36 (0,0)):=by
 unfold iK;exact ((((ai _ (w.alloc (.cells #[.int .u8 q.o,.string q.n,.slice q.a q.l q.c,.slice q.b q.m q.e] 36))).alloc (aC _) _).block w.heap.size (by simp)).trans (ah rfl))
theorem lQ (w:World) (q r:FQ):(iK w q r).heap[w.heap.size+1]?=some (.cells #[.int .u8 r.o,.string r.n,.slice r.a r.l r.c,.slice r.b r.m r.e] 36 (0,0)):=by
 unfold iK;exact ah (by simp)
theorem nh (q r:FQ) (w:World) :
  Calls Tryz.prog 49 #[q.val,r.val] w fun e w'=>e=.returned (.func (.func 102) #[] #[.pointer (some ⟨w.heap.size,0,none⟩),.pointer (some ⟨w.heap.size+1,0,none⟩)])/\w'=iK w q r:=by
 obtain ⟨o,n,a,l,c,b,m,e⟩:=q;obtain ⟨o2,n2,a2,l2,c2,b2,m2,e2⟩:=r;unfold FQ.val iK;go_enter Tryz.func49,Tryz.ntmps49;go_wp2;go_ret;exact ⟨by simp,rfl⟩
theorem nj (s f:Fm) (ar:fitF f) (Im:nodesF s<=1000000) (M:Nat->Prop) (B X Y:Nat) (w:World) (q r:FQ) (hX:w.heap[X]?=some (.cells #[.int .u8 q.o,.string q.n,.slice q.a q.l q.c,.slice q.b q.m q.e] 36 (0,0))) (KQ:¬M X)
  (hY0:w.heap[Y]?=some (.cells #[.int .u8 r.o,.string r.n,.slice r.a r.l r.c,.slice r.b r.m r.e] 36 (0,0))) (_N:¬M Y) (hq:FormV (fun b=>b<B/\¬M b) w q.val s) (hr:FormV (fun b=>b<B/\¬M b) w r.val f) :
  La M True Tryz.prog 102 #[.pointer (some ⟨X,0,none⟩),.pointer (some ⟨Y,0,none⟩)] (a_ [] s f) (RN M B) w:=by
 intro l J Jx W hk hM hl hlM hJ hJx hY hj;have Uz:=(bA hX);have hYl:=(bA hY0);have z':=(hk.same X Uz KQ).trans hX;have hYW:=(hk.same Y hYl _N).trans hY0;exact qck
end
def jA (tm:Array Value) (us:Nat->Value):List Nat->Array Value
 | []=>tm
 | s :: l=>(jA tm us l).setIfInBounds s (us s)
theorem zP (tm:Array Value) (us:Nat->Value):∀ ss,(jA tm us ss).size=tm.size
 | []=>rfl
 | s :: l=>by simp only[jA,Array.size_setIfInBounds,zP tm us l]
theorem zQ (tm:Array Value):∀ ss,jA tm (fun s=>tm.getD s undef) ss=tm
 | []=>rfl
 | s :: l=>by
  simp only[jA,zQ tm l];apply Array.ext
  ·simp
  ·intro i h1 h2;rw[Array.getElem_setIfInBounds];split
   ·rename_i h;subst h;simp[Array.getD,h2]
   ·rfl
theorem C4 (tm:Array Value) (us:Nat->Value) (s0:Nat) (h0:s0<tm.size):∀ ss,s0∈ss->(jA tm us ss).getD s0 undef=us s0
 | [],h=>by cases h
 | s :: l,h=>by
  simp only[jA];have hz:=zP tm us l
  by_cases hs:s=s0
  ·subst hs;simp[Array.getD,hz,h0]
  ·have ih:=C4 tm us s0 h0 l (by rcases cG.1 h with h | h;exact absurd h.symm hs;exact h);rw[<-ih];simp only[Array.getD,Array.size_setIfInBounds]
   by_cases hlt:s0<(jA tm us l).size
   ·simp[hlt,hs]
   ·simp[hlt]
def RoundEnd (tm:Array Value) (ss:List Nat) (s0:Nat) (rel:(Nat->Value)->List Deferred->World->Prop) (μ:Value->Nat) (m:Nat) (a:Act) (w:World):Prop:=(∃us',a.tmps=jA tm us' ss/\rel us' a.defers w)/\μ (a.tmps.getD s0 undef)<m
theorem RoundEnd.mk {ss:List Nat} {s0:Nat} {rel:(Nat->Value)->List Deferred->World->Prop} {μ:Value->Nat} {m:Nat} {T:Array Value} (hT:jA tm (fun s=>T.getD s undef) ss=T) (hr:rel (fun s=>T.getD s undef) ds w) (hm:μ (T.getD s0 undef)<m):RoundEnd tm ss s0 rel μ m { tmps:=T,defers:=ds } w:=⟨⟨_,hT.symm,hr⟩,hm⟩
theorem mc {Q:Exit->Act->World->Prop} {c:Code} (ss:List Nat) (s0:Nat) (rel:(Nat->Value)->List Deferred->World->Prop) (μ:Value->Nat)
  (gG:s0<tm.size) (kf:s0∈ss) (h0:rel (fun s=>tm.getD s undef) ds w)
  (round:∀ us ds' wr,rel us ds' wr->c.wpIn F n P (Exit.then (RoundEnd tm ss s0 rel μ (μ (us s0))) Q) { tmps:=jA tm us ss,defers:=ds' } wr) :
  (Code.loop c).wpIn F n P Q { tmps:=tm,defers:=ds } w:=by
 refine wpIn_loop (fun a w=>∃us,a.tmps=jA tm us ss/\rel us a.defers w) (fun a _=>μ (a.tmps.getD s0 undef)) ⟨_,(zQ tm ss).symm,h0⟩ ?_;have Eb:∀ us,(jA tm us ss).getD s0 undef=us s0:=fun us=>C4 tm us s0 gG ss kf;rintro ⟨T,ds'⟩ wr ⟨us,hT,hr⟩;simp only at hT hr;subst hT;refine wpIn_mono (round us ds' wr hr) ?_;intro e a' w' h
 cases e with
 | normal=>exact ⟨h.1,by have:=h.2;rw[<-Eb us]at this;exact this⟩
 | _=>exact h
def mkD (D:Nat):Deferred:={ target:=.collected D,args:=#[] }
def Marks (B:Nat) (w:World) (ds:List Deferred):Prop:=∃Ds:List Nat,ds=Ds.map mkD/\Ds.Nodup/\∀ D∈Ds,B<=D/\w.heap[D]?=some (.deferred (some []))
theorem Marks.nil (B:Nat) (w:World):Marks B w []:=⟨[],rfl,List.nodup_nil,fun _ h=>by cases h⟩
theorem Marks.move (h:Marks B w ds) (hk:∀ D,B<=D->w.heap[D]?=some (.deferred (some []))->w'.heap[D]?=some (.deferred (some []))):Marks B w' ds:=by
 obtain ⟨Ds,rfl,hn,h⟩:=h;exact ⟨Ds,rfl,hn,fun D hD=>⟨(h D hD).1,hk D (h D hD).1 (h D hD).2⟩⟩
theorem Marks.more {D:Nat} (h:Marks B w ds) (hk:∀ D,B<=D->w.heap[D]?=some (.deferred (some []))->w'.heap[D]?=some (.deferred (some []))) (hD:w.heap.size<=D) (hB:B<=D) (hd:w'.heap[D]?=some (.deferred (some []))):Marks B w' ({ target:=.collected D,args:=#[] } :: ds):=by
 obtain ⟨Ds,rfl,hn,h⟩:=h;refine ⟨D :: Ds,rfl,List.nodup_cons.2 ⟨fun hm=>?_,hn⟩,fun E hE=>?_⟩
 ·have:=(bA (h D hm).2);omega
 ·rcases cG.1 hE with rfl | hE
  ·exact ⟨hB,hd⟩
  ·exact ⟨(h E hE).1,hk E (h E hE).1 (h E hE).2⟩
theorem eB {fn:Func} {tmps:Array Value} {R:Ending->World->Prop} (h:Marks B w ds) (hR:∀ w',Nw B w w'->LeavesInM F n P fn tmps R [] .returning w'):LeavesInM F n P fn tmps R ds .returning w:=by
 obtain ⟨Ds,rfl,hn,h⟩:=h
 induction Ds generalizing w with
 | nil=>exact hR w (Nw.refl _ _)
 | cons D Ds ih=>
  have hd:=h D (gp ..);have hD:=(List.nodup_cons.1 hn).1;refine ⟨by simp,.inl ⟨D,_,rfl,run_takeDeferred hd.2,?_⟩⟩;have hw:Nw B w (w.putObj D (.deferred none)):=Nw.put hd.1 hd.2 rfl rfl;refine ih (fun w' hk=>hR w' (hw.trans hk)) (List.nodup_cons.1 hn).2 (fun E hE=>⟨(h E (fL _ hE)).1,?_⟩);exact (oB (fun e=>hD (by rw[<-e];exact hE))).trans (h E (fL _ hE)).2
