/-
Plain laws of matching.
-/
import Derived.Test.YtokemihbkeddoaaGreatDoorU10
namespace Go.Proofs.YtokemihbkeddoaaGreatDoor
open Go Go.RowKit Lib
set_option maxRecDepth 100000
set_option maxHeartbeats 64000000
variable {b k:Bd} {i:Nat} {p:Pl} {c:Sco} {n x y z:Str} {sc:Bool} {o:Int} {f g im:Fm} {e ins e':List Str} {u:Tm}
/-! what each place of a match says -/
theorem Be {step:Bd->Pl->Bd×Int} (hs:GU step):∀ (l:List Pl) (k:Bd),gC step k l=(k,0)->∀ p∈l,step k p=(k,0)
 | [],k,_,p,hp=>by cases hp
 | q :: l,k,h,p,hp=>by
  unfold gC at h
  cases h1:step k q with
  | mk k1 e=>
   rw[h1]at h;simp only at h
   by_cases he:e=0
   ·subst he;rw[au rfl]at h;obtain ⟨_,a2⟩:=hs k q k1 h1;obtain ⟨b1,b2⟩:=wN hs l k1 k h;rcases cd.1 hp with rfl | hp
    ·exact a2 k b1
    ·exact Be hs l k (b2 k (Sub.refl _)) p hp
   ·rw[ak he]at h;simp only[Prod.mk.injEq]at h;exact absurd h.2 he
def pZ (k:Bd) (p:Pl):Prop:=bK k p=(k,0)/\ev k p=(k,0)
theorem FL {l:List (Fm×Fm)} (h:cg l b=(k,i,0)):∀ x∈l,∀ p∈aR [] x.1 x.2,pZ k p:=by
 obtain ⟨_,_,_,_,h3⟩:=mD h;exact fun x hx p hp=>⟨Be sC _ _ (h3 x hx).1 p hp,Be Ac _ _ (h3 x hx).2 p hp⟩
theorem rN (h:pZ k p) (eQ:p.s.op=15):∃im g,eT p.c [] p.f=some im/\getB k.fs p.s.n=some g/\cP [] g im=true:=by
 have h:=h.1;unfold bK at h;rw[ak (by rw[eQ];decide),au eQ]at h
 cases hi:eT p.c [] p.f with
 | none=>rw[hi]at h;simp at h
 | some im=>
  rw[hi]at h;simp only at h
  cases hg:getB k.fs p.s.n with
  | none=>
   rw[hg]at h;simp only[Prod.mk.injEq,and_true]at h;have:=oS (v:=im) hg;rw[<-h]at hg;simp only at hg;rw[this]at hg;cases hg
  | some g=>
   rw[hg]at h;simp only at h;split at h
   ·rename_i ha;exact ⟨im,g,rfl,rfl,ha⟩
   ·simp at h
theorem rO (h:pZ k p) (dN:p.s.op=16):∃im g,eT p.c [] p.f=some im/\getB k.fs p.s.n=some g ∧
  ((fG (aJ p.s).1 g=0/\cP [] g im=true)\/(fG (aJ p.s).1 g≠0/\∃t,getB k.ts (aJ p.s).2=some t/\nodesF g+fG (aJ p.s).1 g * (nodesT t - 1)=nodesF im/\cP [] (fH (aJ p.s).1 t g) im=true)):=by
 have h:=h.2;unfold ev at h;rw[ak (by simp[dN])]at h
 cases hg:getB k.fs p.s.n with
 | none=>rw[hg]at h;simp at h
 | some g=>
  rw[hg]at h;simp only at h
  cases hi:eT p.c [] p.f with
  | none=>rw[hi]at h;simp at h
  | some im=>
   rw[hi]at h;simp only at h;refine ⟨im,g,rfl,rfl,?_⟩
   by_cases h0:fG (aJ p.s).1 g=0
   ·rw[au h0]at h;split at h
    ·rename_i ha;exact .inl ⟨h0,ha⟩
    ·simp at h
   ·rw[ak h0]at h;refine .inr ⟨h0,?_⟩
    cases ht:getB k.ts (aJ p.s).2 with
    | some t=>
     rw[ht]at h;simp only at h;split at h
     ·simp at h
     ·rename_i hn;split at h
      ·rename_i ha;exact ⟨t,rfl,by simpa using hn,ha⟩
      ·simp at h
    | none=>
     rw[ht]at h;simp only at h
     cases hf:ie g im (aJ p.s).1 with
     | none=>rw[hf]at h;simp at h
     | some t=>
      rw[hf]at h;simp only[Option.map_some]at h;split at h
      ·simp at h
      ·split at h
       ·simp only[Prod.mk.injEq,and_true]at h;have:=oS (v:=t) ht;rw[<-h]at ht;simp only at ht;rw[this]at ht;cases ht
       ·simp at h
theorem mn (h:pZ k p) (eQ:p.s.op≠15) (dN:p.s.op≠16):p.s.op=p.f.op/\p.s.a.length=p.f.a.length/\p.s.s.length=p.f.s.length/\(p.s.n=p.f.n\/bh p.s.op=true)/\cK p.c k.ts p.s.a p.f.a=some k.ts:=by
 have h:=h.1;unfold bK at h;rw[ak dN,ak eQ]at h;split at h
 ·simp at h
 ·rename_i hd;simp only[Bool.or_eq_true,bne_iff_ne,ne_eq,af,Bool.not_eq_true',not_or,Decidable.not_not,not_and]at hd
  cases ha:cK p.c k.ts p.s.a p.f.a with
  | none=>rw[ha]at h;simp at h
  | some ts=>
   rw[ha]at h;simp only[Prod.mk.injEq,and_true]at h;have:ts=k.ts:=by rw[<-h]
   refine ⟨hd.1,hd.2.1,hd.2.2.1,?_,by rw[this]⟩
   by_cases e:p.s.n=p.f.n
   ·exact .inl e
   ·exact .inr (by simpa using hd.2.2.2 e)
/-! arguments -/
mutual
theorem yt (sc:List Str) (K:List (Str×Tm)):∀ (t u:Tm) (k k':List (Str×Tm)),cJ sc k t u=some k'->SubL k' K->cM K sc t=u
 | .mk v n a,.mk v' n' a',k,k',h,hK=>by
  unfold cJ at h;unfold cM
  by_cases hm:(v && dz n)=true
  ·rw[au hm]at h ⊢;unfold termOf
   cases hg:getB k n with
   | none=>
    rw[hg]at h;simp only[cX]at h;subst h;rw[hK n _ (oS hg)]
   | some u=>
    rw[hg]at h;simp only at h;split at h
    ·rename_i he;cases h;rw[hK n _ hg];exact (ux _ _).1 he
    ·cases h
  ·rw[ak hm]at h ⊢
   by_cases hs:(v && sc.contains n)=true
   ·rw[au hs]at h ⊢;split at h
    ·rename_i he;exact ((ux _ _).1 he).symm
    ·cases h
   ·rw[ak hs]at h ⊢;split at h
    ·cases h
    ·rename_i hd;have pp303b:=();exact pm303
theorem vr (sc:List Str) (K:List (Str×Tm)):∀ (t u:List Tm) (k k':List (Str×Tm)),bR sc k t u=some k'->SubL k' K->t.length=u.length->d_ K sc t=u
 | [],[],k,k',h,_,_=>rfl
 | [],_ :: _,k,k',h,_,hl=>by simp at hl
 | _ :: _,[],k,k',h,_,hl=>by simp at hl
 | t :: l,u :: m,k,k',h,hK,hl=>by
  simp only[bR]at h
  cases h1:cJ sc k t u with
  | none=>rw[h1]at h;cases h
  | some k1=>
   rw[h1]at h;obtain ⟨b1,_⟩:=nd sc l m k1 k' h;simp only[d_];rw[yt sc K t u k k1 h1 (b1.trans hK),vr sc K l m k1 k' h hK (by simpa using hl)]
end
theorem nk (c:Sco) (K:List (Str×Tm)):∀ (t u:List Tm) (k k':List (Str×Tm)),cK c k t u=some k'->SubL k' K->t.length=u.length->∃m,d9 c [] u=some m/\d_ K (c.map (·.1)) t=m
 | [],[],k,k',h,_,_=>⟨[],rfl,rfl⟩
 | [],_ :: _,k,k',h,_,hl=>by simp at hl
 | _ :: _,[],k,k',h,_,hl=>by simp at hl
 | t :: l,u :: m,k,k',h,hK,hl=>by
  simp only[cK]at h
  cases h0:ir c [] u with
  | none=>rw[h0]at h;cases h
  | some im=>
   rw[h0]at h;simp only at h
   cases h1:cJ (c.map (·.1)) k t im with
   | none=>rw[h1]at h;cases h
   | some k1=>
    rw[h1]at h;obtain ⟨b1,_⟩:=oV c l m k1 k' h;obtain ⟨m',hm,hf⟩:=nk c K l m k1 k' h hK (by simpa using hl);refine ⟨im :: m',by simp[d9,h0,hm],?_⟩;simp only[d_];rw[yt _ K t im k k1 h1 (b1.trans hK),hf]
/-! images without bound names -/
def pM (c:Sco) (ins:List Str) (σ:Str->Dt) (z:Str):Dt:=if ins.contains z then σ z else match b8 c z with | some y=>σ y | none=>σ z
mutual
theorem S' (σ:Str->Dt) (ins:List Str):∀ (t u:Tm),ir c ins t=some u->kI σ u=kI (pM c ins σ) t
 | .mk v n a,u,h=>by
  unfold ir at h
  cases v with
  | true=>
   simp only[↓reduceIte]at h;simp only[kI,↓reduceIte,pM];split at h
   ·rename_i hc;simp only[cX]at h;subst h;rw[au hc];simp[ao,kI]
   ·rename_i hc;obtain ⟨y,hy,rfl⟩:=Option.map_eq_some_iff.1 h;rw[ak hc,hy];simp[ao,kI]
  | false=>
   simp only[bW,↓reduceIte]at h;obtain ⟨m,hm,rfl⟩:=Option.map_eq_some_iff.1 h;simp[kI,qU σ ins a m hm]
theorem qU (σ:Str->Dt) (ins:List Str):∀ (t u:List Tm),d9 c ins t=some u->fV σ u=fV (pM c ins σ) t
 | [],u,h=>by simp only[d9,cX]at h;subst h;simp[fV]
 | t :: l,u,h=>by
  simp only[d9]at h
  cases h1:ir c ins t with
  | none=>rw[h1]at h;simp at h
  | some x=>
   cases h2:d9 c ins l with
   | none=>rw[h1,h2]at h;simp at h
   | some m=>
    rw[h1,h2]at h;simp only[cX]at h;subst h;simp[fV,S' σ ins t x h1,qU σ ins l m h2]
end
theorem Np (hn:eC n=true) (σ:Str->Dt) (ins:List Str) (v:Dt):pM c (n :: ins) (upd σ n v)=upd (pM c ins σ) n v:=by
 funext z
 unfold pM upd
 by_cases hz:z=n
 ·subst hz;simp
 ·have e1:(z == n)=false:=by simpa using hz
  simp only[List.contains_cons,e1,Bool.false_or,bW,↓reduceIte];split
  ·rfl
  ·cases hy:b8 c z with
   | none=>rfl
   | some y=>
    simp only;rcases s_ hy with rfl | ⟨s,hs,rfl⟩
    ·simp[e1]
    ·have:(bQ s == n)=false:=by
      rw[Bool.eq_false_iff];intro h;rw[dP]at h;have h1:=Ad hn;rw[<-h]at h1 hn;simp only[eC,bQ,pF,af]at hn;exact absurd hn.2.2.1.1 (by decide)
     simp[this]
theorem jV {a:List Tm} {s:List Fm} (h:okF sc (.mk o n a s)=true) (hq:bh o=true):eC n=true/\a=[]/\∃g,s=[g]:=by
 have h1:=h;simp only[okF,af]at h;have:=uF _ h1;obtain ⟨e1,e2⟩:=lW hq this;have h5:=h.2.1.1;have:(rowOp o).2.2.1=2:=by
  exact pm213
 rw[this]at h5;exact ⟨h5,e1,e2⟩
mutual
theorem FM:∀ (f u:Fm) (ins:List Str) (σ:Str->Dt) (d:Nat),okF false f=true->eT c ins f=some u->dbF σ d u=dbF (pM c ins σ) d f
 | .mk o n a s,u,ins,σ,d,hok,h=>by
  have Ko:=hok;simp only[okF,af]at hok;unfold eT at h
  cases h1:d9 c ins a with
  | none=>rw[h1]at h;simp at h
  | some a'=>
   cases h2:fj c (if bh o then n :: ins else ins) s with
   | none=>rw[h1,h2]at h;simp at h
   | some s'=>
    rw[h1,h2]at h;simp only[cX]at h;subst h;simp only[dbF,qU σ ins a a' h1]
    by_cases hq:bh o=true
    ·rw[au hq]at h2;rw[au hq,au hq,Bf s s' _ (upd σ n (.lvl d)) (d+1) hok.2.2.2.2 h2,Np (jV Ko hq).1]
    ·rw[ak hq]at h2;rw[ak hq,ak hq,Bf s s' _ σ d hok.2.2.2.2 h2]
theorem Bf:∀ (f u:List Fm) (ins:List Str) (σ:Str->Dt) (d:Nat),cW false f=true->fj c ins f=some u->fL σ d u=fL (pM c ins σ) d f
 | [],u,ins,σ,d,_,h=>by simp only[fj,cX]at h;subst h;simp[fL]
 | t :: l,u,ins,σ,d,hok,h=>by
  simp only[fj]at h
  cases h1:eT c ins t with
  | none=>rw[h1]at h;simp at h
  | some x=>
   cases h2:fj c ins l with
   | none=>rw[h1,h2]at h;simp at h
   | some m=>
    rw[h1,h2]at h;simp only[cX]at h;subst h;simp only[cW,af]at hok;simp[fL,FM t x ins σ d hok.1 h1,Bf l m ins σ d hok.2 h2]
end
/-! sizes without bound names -/
def Dt.atom:Dt->Prop | .app _ _=>False | _=>True
def Atom (σ:Str->Dt):Prop:=∀ z,(σ z).atom
theorem jm (l:List Str):Atom (env l):=by
 intro z
 induction l with
 | nil=>trivial
 | cons n r ih=>unfold env;split;trivial;exact ih
theorem Atom.upd {σ:Str->Dt} (h:Atom σ) (n:Str) (d:Nat):Atom (upd σ n (.lvl d)):=fun z=>by unfold Go.Proofs.YtokemihbkeddoaaGreatDoor.upd;split;trivial;exact h z
mutual
def vw:Dt->Nat | .app _ a=>yu a+1 | _=>1
def yu:List Dt->Nat | []=>0 | t :: l=>vw t+yu l
end
mutual
def Kq:Df->Nat | .mk _ _ a s=>yu a+Bg s+1
def Bg:List Df->Nat | []=>0 | t :: l=>Kq t+Bg l
end
mutual
def S_:Dt->Nat | .app _ a=>Er a+1 | _=>1
def Er:List Dt->Nat | []=>0 | t :: l=>max (S_ t) (Er l)
end
mutual
def Ta:Df->Nat | .mk _ _ a s=>max (Er a) (Ip s)+1
def Ip:List Df->Nat | []=>0 | t :: l=>max (Ta t) (Ip l)
end
theorem Qo {t:Dt} (h:t.atom):vw t=1/\S_ t=1:=by cases t <;> first | exact ⟨rfl,rfl⟩ | exact h.elim
mutual
theorem Iq {σ:Str->Dt} (hσ:Atom σ):∀ t,lV t=true->vw (kI σ t)=nodesT t/\S_ (kI σ t)=dv t
 | .mk v n a,h=>by
  simp only[lV,af]at h
  cases v with
  | true=>
   obtain rfl:a=[]:=by simpa using h.1
   simpa[kI,nodesT,nodesTs,dv,bG] using Qo (hσ n)
  | false=>simp[kI,vw,S_,nodesT,dv,xf hσ a h.2]
theorem xf {σ:Str->Dt} (hσ:Atom σ):∀ t,ep t=true->yu (fV σ t)=nodesTs t/\Er (fV σ t)=bG t
 | [],_=>by simp[fV,yu,Er,nodesTs,bG]
 | t :: l,h=>by simp only[ep,af]at h;simp[fV,yu,Er,nodesTs,bG,Iq hσ t h.1,xf hσ l h.2]
end
mutual
theorem vA:∀ (f:Fm) (σ:Str->Dt) (d:Nat),Atom σ->gS f=true->Kq (dbF σ d f)=nodesF f/\Ta (dbF σ d f)=depthF f
 | .mk o n a s,σ,d,hσ,h=>by
  simp only[gS,af]at h;have h1:=xf hσ a h.1;simp only[dbF];split
  ·have h2:=xg s (upd σ n (.lvl d)) (d+1) (hσ.upd n d) h.2;simp[Kq,Ta,nodesF,depthF,h1,h2]
  ·have h2:=xg s σ d hσ h.2;simp[Kq,Ta,nodesF,depthF,h1,h2]
theorem xg:∀ (f:List Fm) (σ:Str->Dt) (d:Nat),Atom σ->el f=true->Bg (fL σ d f)=nodesFs f/\Ip (fL σ d f)=aS f
 | [],σ,d,_,_=>by simp[fL,Bg,Ip,nodesFs,aS]
 | t :: l,σ,d,hσ,h=>by simp only[el,af]at h;simp[fL,Bg,Ip,nodesFs,aS,vA t σ d hσ h.1,xg l σ d hσ h.2]
end
theorem zC {σ τ:Str->Dt} {d e:Nat} (hσ:Atom σ) (hτ:Atom τ) (hf:gS f=true) (hg:gS g=true) (h:dbF σ d f=dbF τ e g):nodesF f=nodesF g/\depthF f=depthF g:=by
 have h1:=vA f σ d hσ hf;have h2:=vA g τ e hτ hg;rw[h]at h1;exact ⟨h1.1.symm.trans h2.1,h1.2.symm.trans h2.2⟩
/-! what is put keeps formulas well -/
theorem nl (hu:lV u=true):∀ (k:Nat) (f:Fm) (x:Str),gS f=true->qone f=true->depthF f<=k->gS (eW k x u f)=true/\qone (eW k x u f)=true
 | 0,f,x,hw,hq,hd=>by have:=jS f;omega
 | k+1,.mk o n a s,x,hw,hq1,hd=>by
  have m6:=hw;have pp112e:=();exact pm112
mutual
theorem tK:∀ f,qone (bA f)=qone f
 | .mk o n a s=>by
  have h1:(bS a).isEmpty=a.isEmpty:=by cases a <;> simp[bS]
  have h2:(bT s).length=s.length:=Bh s;simp[bA,qone,yw s,h1,h2]
theorem yw:∀ f,ee (bT f)=ee f
 | []=>by simp[bT]
 | t :: l=>by simp[bT,ee,tK t,yw l]
theorem Bh:∀ s,(bT s).length=s.length
 | []=>by simp[bT]
 | t :: l=>by simp[bT,Bh l]
end
theorem eG {l:List (Str×Fm)} (h:VU l=true) (hg:getB l n=some g):cf (bA g)=true/\dF n=true:=by
 simp only[VU,af,List.all_eq_true]at h;exact pm126
theorem vB {l:List (Str×Tm)} (h:JA l=true) {g:Tm} (hg:getB l n=some g):i8 false (aN g)=true/\c9 n=true:=by
 simp only[JA,af,List.all_eq_true]at h;exact pm126
theorem iU (h:cf (bA g)=true):gS g=true/\qone g=true/\nodesF g<=400/\depthF g<=40:=by
 simp only[cf,af,bp]at h;have h1:=nI _ h.1;have h2:=uF _ h.1;rw[wO]at h1;rw[tK]at h2;have h3:=li g;exact ⟨h1,h2,by omega,by omega⟩
theorem oz {g:Tm} (h:i8 false (aN g)=true):lV g=true:=by
 have h1:=JE _ h
 rwa [D1]at h1
theorem mP (hc:VarsOk (c.map (·.1))) (hf:okF false f=true) (h:eT c ins f=some im):gS im=true/\qone im=true/\nodesF im=nodesF f/\depthF im=depthF f:=by
 obtain ⟨h1,h2,h3⟩:=zt hc f im ins hf h;have e1:=nI _ h1;have e2:=uF _ h1;rw[wO]at e1;rw[tK]at e2;exact ⟨e1,e2,h2,h3⟩
theorem xh (hc:VarsOk (c.map (·.1))) {f im:List Tm} (hf:dH false f=true) (h:d9 c ins f=some im):ep im=true/\nodesTs im=nodesTs f:=by
 obtain ⟨h1,h2,_⟩:=uy hc ins f im hf h;have e1:=rD _ h1;rw[oX]at e1;exact ⟨e1,h2⟩
/-! every free name of a part that has an image has one -/
mutual
theorem Kr (ins:List Str):∀ (t u:Tm),lV t=true->ir c ins t=some u->∀ z∈aC t,ins.contains z=true\/(b8 c z).isSome=true
 | .mk v n a,u,hw,h,z,hz=>by
  unfold ir at h;simp only[lV,af]at hw
  cases v with
  | true=>
   obtain rfl:a=[]:=by simpa using hw.1
   simp only[aC,↓reduceIte,ap,List.mem_singleton]at hz;subst hz;simp only[↓reduceIte]at h;split at h
   ·rename_i hc;exact .inl hc
   ·obtain ⟨y,hy,_⟩:=Option.map_eq_some_iff.1 h;exact .inr (by rw[hy];rfl)
  | false=>
   simp only[bW,↓reduceIte]at h;obtain ⟨m,hm,rfl⟩:=Option.map_eq_some_iff.1 h;exact nn ins a m hw.2 hm z (by simpa[aC] using hz)
theorem nn (ins:List Str):∀ (t u:List Tm),ep t=true->d9 c ins t=some u->∀ z∈ap t,ins.contains z=true\/(b8 c z).isSome=true
 | [],u,_,h,z,hz=>by simp[ap]at hz
 | t :: l,u,hw,h,z,hz=>by
  simp only[d9]at h;simp only[ep,af]at hw
  cases h1:ir c ins t with
  | none=>rw[h1]at h;simp at h
  | some x=>
   cases h2:d9 c ins l with
   | none=>rw[h1,h2]at h;simp at h
   | some m=>
    simp only[ap,List.mem_append]at hz;rcases hz with hz | hz
    ·exact Kr ins t x hw.1 h1 z hz
    ·exact nn ins l m hw.2 h2 z hz
end
mutual
theorem Bi:∀ (f u:Fm) (ins:List Str),gS f=true->eT c ins f=some u->∀ z∈aL [] f,ins.contains z=true\/(b8 c z).isSome=true
 | .mk o n a s,u,ins,hw,h,z,hz=>by
  unfold eT at h;simp only[gS,af]at hw
  cases h1:d9 c ins a with
  | none=>rw[h1]at h;simp at h
  | some a'=>
   cases h2:fj c (if bh o then n :: ins else ins) s with
   | none=>rw[h1,h2]at h;simp at h
   | some s'=>
    simp only[aL,List.mem_append]at hz;rcases hz with hz | hz
    ·exact nn ins a a' hw.1 h1 z (List.mem_filter.1 hz).1
    ·by_cases hq:bh o=true
     ·rw[au hq]at h2 hz;rw[jE,List.mem_filter]at hz;rcases qV s s' _ hw.2 h2 z hz.1 with h | h
      ·left;rw[List.contains_cons]at h;have h3:=hz.2;simp only[Bool.not_eq_true']at h3;rw[h3]at h;simpa using h
      ·exact .inr h
     ·rw[ak hq]at h2 hz;exact qV s s' _ hw.2 h2 z hz
theorem qV:∀ (f u:List Fm) (ins:List Str),el f=true->fj c ins f=some u->∀ z∈bq [] f,ins.contains z=true\/(b8 c z).isSome=true
 | [],u,ins,_,h,z,hz=>by simp[bq]at hz
 | t :: l,u,ins,hw,h,z,hz=>by
  simp only[fj]at h;simp only[el,af]at hw
  cases h1:eT c ins t with
  | none=>rw[h1]at h;simp at h
  | some x=>
   cases h2:fj c ins l with
   | none=>rw[h1,h2]at h;simp at h
   | some m=>
    simp only[bq,List.mem_append]at hz;rcases hz with hz | hz
    ·exact Bi t x ins hw.1 h1 z hz
    ·exact qV l m ins hw.2 h2 z hz
end
mutual
theorem FN:∀ t,i8 false t=true->∀ z∈aC t,eC z=true
 | .mk v n a,h,z,hz=>by
  simp only[i8]at h
  cases v with
  | true=>
   simp only[↓reduceIte,af,Bool.false_and,Bool.or_false]at h;obtain rfl:a=[]:=by simpa using h.1
   simp only[aC,↓reduceIte,ap,List.mem_singleton]at hz;subst hz;exact h.2
  | false=>
   simp only[bW,↓reduceIte,af]at h;exact jn a h.2.2 z (by simpa[aC] using hz)
theorem jn:∀ t,dH false t=true->∀ z∈ap t,eC z=true
 | [],_,z,hz=>by simp[ap]at hz
 | t :: l,h,z,hz=>by
  simp only[dH,af]at h;simp only[ap,List.mem_append]at hz;rcases hz with hz | hz
  ·exact FN t h.1 z hz
  ·exact jn l h.2 z hz
end
mutual
theorem qW:∀ (f:Fm) (b:List Str),okF false f=true->∀ z∈aL b f,eC z=true
 | .mk o n a s,b,h,z,hz=>by
  simp only[okF,af]at h;simp only[aL,List.mem_append]at hz;rcases hz with hz | hz
  ·exact jn a h.2.2.2.1 z (List.mem_filter.1 hz).1
  ·exact vC s _ h.2.2.2.2 z hz
theorem vC:∀ (f:List Fm) (b:List Str),cW false f=true->∀ z∈bq b f,eC z=true
 | [],b,_,z,hz=>by simp[bq]at hz
 | t :: l,b,h,z,hz=>by
  simp only[cW,af]at h;simp only[bq,List.mem_append]at hz;rcases hz with hz | hz
  ·exact qW t b h.1 z hz
  ·exact vC l b h.2 z hz
end
def Meets (c:Sco) (τ ρ:Str->Dt):Prop:=∀ z y,eC z=true->b8 c z=some y->τ y=ρ z
theorem xj {τ ρ:Str->Dt} (hm:Meets c τ ρ) (hf:okF false f=true) (h:eT c [] f=some im) (d:Nat):dbF τ d im=dbF ρ d f:=by
 rw[FM f im [] τ d hf h];refine uD f _ _ d (fun z hz=>?_);unfold pM;rcases Bi f im [] (nI _ hf) h z hz with h1 | h1
 ·simp at h1
 ·obtain ⟨y,hy⟩:=Option.isSome_iff_exists.1 h1;simp only[List.contains_nil,bW,↓reduceIte,hy];exact hm z y (qW f [] hf z hz) hy
theorem Ks {τ ρ:Str->Dt} (hm:Meets c τ ρ) {f im:List Tm} (hf:dH false f=true) (h:d9 c [] f=some im):fV τ im=fV ρ f:=by
 rw[qU τ [] f im h];refine rE f (fun z hz=>?_);unfold pM;rcases nn [] f im (rD _ hf) h z hz with h1 | h1
 ·simp at h1
 ·obtain ⟨y,hy⟩:=Option.isSome_iff_exists.1 h1;simp only[List.contains_nil,bW,↓reduceIte,hy];exact hm z y (jn f hf z hz) hy
theorem LX:∀ (c:Sco) (inn:List Str) (y:Str),b8.go x c inn=some y->∀ Qp,(∀ z,Qp.contains z=true->inn.contains z=true)->b8.go x c Qp=some y
 | [],inn,y,h,Qp,_=>by simpa only[b8.go] using h
 | (s,a) :: r,inn,y,h,Qp,hs=>by
  unfold b8.go at h ⊢;split
  ·rename_i ha;rw[au ha]at h;split at h
   ·cases h
   ·rename_i hc;rw[ak (fun e=>hc (hs s e))];exact h
  ·rename_i ha;rw[ak ha]at h;refine LX r (s :: inn) y h (s :: Qp) (fun z hz=>?_);rw[List.contains_cons]at hz ⊢;cases h1:z == s
   ·rw[h1]at hz;simpa using hs z (by simpa using hz)
   ·rfl
theorem U5:∀ (c:Sco) (inn:List Str) (y:Str),b8.go x c inn=some y->y=x\/∃s,y=bQ s/\inn.contains s=false
 | [],inn,y,h=>by simp only[b8.go,cX]at h;exact .inl h.symm
 | (s,a) :: r,inn,y,h=>by
  unfold b8.go at h;split at h
  ·split at h
   ·cases h
   ·rename_i hc;simp only[cX]at h;exact .inr ⟨s,h.symm,by simpa using hc⟩
  ·rcases U5 r (s :: inn) y h with h | ⟨z,hz,h⟩
   ·exact .inl h
   ·rw[List.contains_cons,Bool.or_eq_false_iff]at h;exact .inr ⟨z,hz,h.2⟩
theorem Xc {r:Sco} (h:b8.go x r [n]=some y):b8 r x=some y/\(y=x\/∃s,y=bQ s/\s≠n):=by
 refine ⟨LX r [n] y h [] (fun z hz=>by simp at hz),?_⟩;rcases U5 r [n] y h with h | ⟨s,h1,h2⟩
 ·exact .inl h
 ·refine .inr ⟨s,h1,?_⟩;rintro rfl;simp at h2
theorem vD {s:Str} (hz:eC z=true):z≠bQ s:=by
 rintro rfl;simp only[eC,bQ,pF,af]at hz;exact absurd hz.2.2.1.1 (by decide)
theorem Meets.under {τ ρ:Str->Dt} (hm:Meets c τ ρ) (n n':Str) (v:Dt):Meets ((n,n') :: c) (upd τ (bQ n) v) (upd ρ n' v):=by
 intro z y hz h;unfold b8 b8.go at h;unfold upd
 by_cases h1:(n' == z)=true
 ·rw[au h1]at h;rw[dP]at h1;subst h1;simp only[List.contains_nil,bW,↓reduceIte,cX]at h;subst h;simp
 ·rw[ak h1]at h;obtain ⟨h2,h3⟩:=Xc h;have I9:(z == n')=false:=by
   rw[Bool.eq_false_iff];intro e;exact h1 (by rw[dP]at e ⊢;exact e.symm)
  rw[I9];simp only[bW,↓reduceIte];rcases h3 with rfl | ⟨s,rfl,hs⟩
  ·have:(y == bQ n)=false:=by simpa using vD hz
   rw[this];exact hm y y hz h2
  ·have:(bQ s == bQ n)=false:=by simpa[bQ] using hs
   rw[this];exact hm z _ hz h2
theorem Nq:Meets [] (env []) (env []):=fun z y _ h=>by
 simp only[b8,b8.go,cX]at h;rw[h]
/-! bound names are variables -/
mutual
def si:Fm->Bool | .mk o n _ s=>(!bh o || eC n) && kE s
def kE:List Fm->Bool | []=>true | t :: l=>si t && kE l
end
mutual
theorem Ir:∀ f,si (bA f)=si f
 | .mk o n a s=>by simp[bA,si,Es s]
theorem Es:∀ f,kE (bT f)=kE f
 | []=>by simp[bT]
 | t :: l=>by simp[bT,kE,Ir t,Es l]
end
mutual
theorem U6:∀ f,okF sc f=true->si f=true
 | .mk o n a s,h=>by
  have h':=h;simp only[okF,af]at h;simp only[si,af,Bool.or_eq_true,Bool.not_eq_true'];refine ⟨?_,Qq s h.2.2.2.2⟩;cases hq:bh o
  ·exact .inl rfl
  ·exact .inr (jV h' hq).1
theorem Qq:∀ f,cW sc f=true->kE f=true
 | [],_=>by simp[kE]
 | t :: l,h=>by simp only[cW,af]at h;simp[kE,U6 t h.1,Qq l h.2]
end
theorem qX:∀ (s:List Fm),kE s=true ↔ ∀ g∈s,si g=true
 | []=>by simp[kE]
 | g :: s=>by simp[kE,qX s]
theorem xk {t:List Str} (h:t.length<10 ^ 14):eC (c_ t)=true:=by
 obtain ⟨j,_,h2,h3,_⟩:=qI t (by omega);rw[h3];exact MO (by omega)
theorem rP:∀ (k:Nat) (f:Fm) (x y:Str),gS f=true->qone f=true->depthF f<=k->nodesF f<10 ^ 13->si f=true->si (eW k x (ao y) f)=true
 | 0,f,x,y,hw,hq,hd,_,_=>by have:=jS f;omega
 | k+1,.mk o n a s,x,y,hw,hq1,hd,hn,hb=>by
  have Ol:=hb;have pp112f:=();exact pm112
theorem zD {u:Tm}:∀ (k:Nat) (f:Fm) (x:Str),gS f=true->qone f=true->depthF f<=k->nodesF f+nodesT u<10 ^ 13->si f=true->si (eW k x u f)=true
 | 0,f,x,hw,hq,hd,_,_=>by have:=jS f;omega
 | k+1,.mk o n a s,x,hw,hq1,hd,hn,hb=>by
  have Ol:=hb;exact pm112
theorem vE (h:cf (bA g)=true):si g=true:=by
 simp only[cf,af]at h;have:=U6 _ h.1
 rwa [Ir]at this
def Bj (k:Bd) (c:Sco) (τ ρ:Str->Dt) (d:Nat) (s f:Fm):Prop:=gS (bV k (c.map (·.1)) s)=true/\qone (bV k (c.map (·.1)) s)=true/\si (bV k (c.map (·.1)) s)=true/\dbF τ d (bV k (c.map (·.1)) s)=dbF ρ d f
theorem Nr (hk:bw k=true) (hp:PlOk p) (hf:pZ k p) (eQ:p.s.op=15):gS (formOf k.fs p.s.n)=true/\qone (formOf k.fs p.s.n)=true/\si (formOf k.fs p.s.n)=true/\∀ (τ ρ:Str->Dt) (d:Nat),Meets p.c τ ρ->dbF τ d (formOf k.fs p.s.n)=dbF ρ d p.f:=by
 obtain ⟨im,g,h1,h2,h3⟩:=rN hf eQ;obtain ⟨k1,_⟩:=(eO k).1 hk;obtain ⟨w1,w2,_⟩:=iU (eG k1 h2).1;have pp163a:=();exact pm163
theorem Ns (hk:bw k=true) (hp:PlOk p) (hf:pZ k p) (dN:p.s.op=16):∃x y:Str,p.s.a=[ao x,ao y]/\∃r:Fm,r=(if fG (bQ x) (formOf k.fs p.s.n)=0 then formOf k.fs p.s.n else fH (bQ x) (termOf k.ts y) (formOf k.fs p.s.n)) ∧
  gS r=true/\qone r=true/\si r=true/\∀ (τ ρ:Str->Dt) (d:Nat),Meets p.c τ ρ->dbF τ d r=dbF ρ d p.f:=by
 obtain ⟨x,y,ha,_,_,hn⟩:=iA hp dN;obtain ⟨im,g,h1,h2,h3⟩:=rO hf dN;obtain ⟨k1,k2⟩:=(eO k).1 hk;obtain ⟨w1,w2,_⟩:=iU (eG k1 h2).1;have pp163b:=();exact pm163
mutual
theorem LY (hk:bw k=true):∀ (s f:Fm) (c:Sco) (τ ρ:Str->Dt) (d:Nat),PlOk ⟨s,f,c⟩->(∀ p∈aR c s f,pZ k p)->Atom τ->Atom ρ->Meets c τ ρ->Bj k c τ ρ d s f
 | .mk o n a l,.mk o' n' a' l',c,τ,ρ,d,hp,hfit,hτ,hρ,hm=>by
  have R5:=hfit ⟨.mk o n a l,.mk o' n' a' l',c⟩ (by simp[aR])
  by_cases eQ:o=15
  ·subst eQ;obtain ⟨w1,w2,w3,h⟩:=Nr hk hp R5 rfl;simp only[Bj,bV,↓reduceIte];exact ⟨w1,w2,w3,h τ ρ d hm⟩
  ·by_cases dN:o=16
   ·subst dN;obtain ⟨x,y,ha,r,hr,w1,w2,w3,h⟩:=Ns hk hp R5 rfl;simp only[Fm.a]at ha;subst ha;have e:bV k (c.map (·.1)) (.mk 16 n [ao x,ao y] l)=r:=by
     rw[hr];simp only[bV,ao,Tm.n,Fm.n,ak eQ,if_true];rfl
    simp only[Bj,e];exact ⟨w1,w2,w3,h τ ρ d hm⟩
   ·obtain ⟨e1,e2,e3,e4,e5⟩:=mn R5 eQ dN;simp only[Fm.op,Fm.a,Fm.s,Fm.n]at e1 e2 e3 e4 e5;subst e1;have hs:=hp.s;have hf:=hp.f;have Sd:=hs;have EW:=hf;have hn:=hp.n;simp only[okF,af]at hs hf;simp only[nodesF]at hn;obtain ⟨m,ii,oy⟩:=nk c k.ts a a' k.ts k.ts e5 (SubL.refl _) e2;have LZ:∀ p∈aE (if bh o then (n,n') :: c else c) l l',pZ k p:=fun p hp=>hfit p (by simp only[aR,cd];exact .inr hp)
    by_cases hq:bh o=true
    ·rw[au hq]at LZ;obtain ⟨hv,rfl,g,rfl⟩:=jV Sd hq;obtain ⟨_,rfl,g',rfl⟩:=jV EW hq;simp only[nodesFs]at hn;have Sm:VarsOk (((n,n') :: c).map (·.1)):=fun x hx=>by
      simp only[cz,cd]at hx;rcases hx with rfl | hx
      ·exact hv
      ·exact hp.c x hx
     obtain ⟨i1,i2,i4,i3⟩:=Bk hk [g] [g'] ((n,n') :: c) (upd τ (bQ n) (.lvl d)) (upd ρ n' (.lvl d)) (d+1) hs.2.2.2.2 hf.2.2.2.2 Sm (by simp only[nodesFs];omega) (by have:=hp.d;simp only[depthF]at this;omega) LZ rfl (hτ.upd _ _) (hρ.upd _ _) (hm.under n n' _);simp only[dS,cz,el,ee,kE,fL,Bool.and_true,b_,and_true]at i1 i2 i3 i4;have e:bV k (c.map (·.1)) (.mk o n [] [g])=mt o n [] (bV k (n :: c.map (·.1)) g):=by
      simp only[bV,ak eQ,ak dN,au hq,dS,d_]
     unfold Bj;rw[e];generalize bV k (n :: c.map (·.1)) g=r at i1 i2 i3 i4;have hsz:=(zC (hτ.upd _ _) (hρ.upd _ _) i1 (by have:=nI _ EW;simp only[gS,el,af]at this;exact this.2.1) i3).1;have hlen:=eY r [];unfold mt;have hmr:(if (aL [] r).contains n then c_ (aL [] r) else n) ∉ aL [] r:=by
      split
      ·exact oh _ (by omega)
      ·rename_i h;simpa using h
     have Nt:eC (if (aL [] r).contains n then c_ (aL [] r) else n)=true:=by
      split
      ·exact xk (by omega)
      ·exact hv
     generalize (if (aL [] r).contains n then c_ (aL [] r) else n)=m' at hmr Nt;obtain ⟨p1,p2,p3,p4⟩:=eP (depthF r) r (bQ n) m' i1 i2 (aD _);have p5:=rP (depthF r) r (bQ n) m' i1 i2 (aD _) (by omega) i4;refine ⟨by simp[gS,el,ep,fH,p1],by simp[qone,ee,fH,p2],by simp[si,kE,fH,p5,Nt],?_⟩;simp only[dbF,hq,if_true,fL,fH];rw[oY (depthF r) r (bQ n) (ao m') _ _ i1 i2 (aD _) (by simp[ao,nodesT,nodesTs];omega)];have e6:kI (upd τ m' (.lvl d)) (ao m')=.lvl d:=by simp[ao,kI,upd]
     rw[e6]
     by_cases h7:m'=bQ n
     ·subst h7;have e7:upd (upd τ (bQ n) (.lvl d)) (bQ n) (.lvl d)=upd τ (bQ n) (.lvl d):=by funext z;unfold upd;split <;> rfl
      rw[e7,i3];rfl
     ·rw[uH _ h7,G6 hmr,i3];rfl
    ·rw[ak hq]at LZ;have e4':n=n':=e4.resolve_right hq;subst e4';obtain ⟨i1,i2,i4,i3⟩:=Bk hk l l' c τ ρ d hs.2.2.2.2 hf.2.2.2.2 hp.c (by omega) (by have:=hp.d;simp only[depthF]at this;omega) LZ e3 hτ hρ hm;have e:bV k (c.map (·.1)) (.mk o n a l)=.mk o n m (dS k (c.map (·.1)) l):=by
      rw[<-oy];simp only[bV,ak eQ,ak dN,ak hq]
     unfold Bj;rw[e];have ip:bh o=false:=by simpa using hq
     refine ⟨by simp[gS,i1,(xh hp.c hf.2.2.2.1 ii).1],by simp[qone,ip,i2],by simp[si,ip,i4],?_⟩;simp only[dbF,ip,bW,↓reduceIte];rw[i3,Ks hm hf.2.2.2.1 ii]
theorem Bk (hk:bw k=true):∀ (s f:List Fm) (c:Sco) (τ ρ:Str->Dt) (d:Nat),cW true s=true->cW false f=true->VarsOk (c.map (·.1))->nodesFs f<=400->aS f<=40->(∀ p∈aE c s f,pZ k p)->s.length=f.length->Atom τ->Atom ρ->Meets c τ ρ →
  el (dS k (c.map (·.1)) s)=true/\ee (dS k (c.map (·.1)) s)=true/\kE (dS k (c.map (·.1)) s)=true/\fL τ d (dS k (c.map (·.1)) s)=fL ρ d f
 | [],[],c,τ,ρ,d,_,_,_,_,_,_,_,_,_,_=>by simp[dS,el,ee,kE,fL]
 | [],_ :: _,c,τ,ρ,d,_,_,_,_,_,_,h,_,_,_=>by simp at h
 | _ :: _,[],c,τ,ρ,d,_,_,_,_,_,_,h,_,_,_=>by simp at h
 | s :: l,f :: l',c,τ,ρ,d,h1,h2,h3,h4,h5,h6,h7,hτ,hρ,hm=>by
  simp only[cW,af]at h1 h2;simp only[nodesFs,aS]at h4 h5;simp only[aE,List.mem_append]at h6;obtain ⟨a1,a2,a4,a3⟩:=LY hk s f c τ ρ d ⟨h1.1,h2.1,h3,by show nodesF f<=400;omega,by show depthF f<=40;omega⟩ (fun p hp=>h6 p (.inl hp)) hτ hρ hm;obtain ⟨b1,b2,b4,b3⟩:=Bk hk l l' c τ ρ d h1.2 h2.2 h3 (by omega) (by omega) (fun p hp=>h6 p (.inr hp)) (by simpa using h7) hτ hρ hm;simp[dS,el,ee,kE,fL,a1,a2,a3,a4,b1,b2,b3,b4]
end
/-! right, from what is right without bound names -/
theorem L0 {l:List Str}:∀ (x:Str),(env l x=.fre x)\/(x∈l):=by
 induction l with
 | nil=>intro x;exact .inl rfl
 | cons n r ih=>
  intro x;unfold env;split
  ·rename_i h;rw[dP]at h;subst h;exact .inr (f8 ..)
  ·rcases ih x with h | h
   ·exact .inl h
   ·exact .inr (fD _ h)
theorem Qr (he:VarsOk e) {n':Str} (hn:eC n'=true) (h:env e n=env e' n'):eC n=true:=by
 rcases L0 (l:=e) n with h1 | h1
 ·rcases L0 (l:=e') n' with h2 | h2
  ·rw[h1,h2]at h;simp only[Dt.fre.injEq]at h;rw[h];exact hn
  ·rw[h1]at h
   induction e' with
   | nil=>cases h2
   | cons m r ih=>
    unfold env at h;split at h
    ·cases h
    ·rename_i hm;rcases cd.1 h2 with h3 | h3
     ·rw[h3]at hm;simp at hm
     ·exact ih h h3
 ·exact he n h1
mutual
theorem Xd (he:VarsOk e):∀ (t u:Tm),lV t=true->i8 false u=true->kI (env e) t=kI (env e') u->i8 false t=true
 | .mk v n a,.mk v' n' a',hw,hok,h=>by
  simp only[lV,af]at hw;simp only[i8]at hok ⊢
  cases v with
  | true=>
   obtain rfl:a=[]:=by simpa using hw.1
   cases v' with
   | true=>
    simp only[↓reduceIte,af,Bool.false_and,Bool.or_false]at hok ⊢;simp only[kI,↓reduceIte]at h;exact ⟨rfl,Qr he hok.2 h⟩
   | false=>
    simp only[kI,↓reduceIte,bW]at h;exact absurd h (zx _ _ _ _)
  | false=>
   cases v' with
   | true=>
    simp only[kI,↓reduceIte,bW]at h;exact absurd h.symm (zx _ _ _ _)
   | false=>
    simp only[bW,↓reduceIte,af,bp]at hok ⊢;simp only[kI,bW,↓reduceIte,Dt.app.injEq]at h;have hl:a.length=a'.length:=by have:=congrArg List.length h.2;rwa [gx,gx]at this
    exact ⟨by omega,by rw[h.1];exact hok.2.1,zE he a a' hw.2 hok.2.2 h.2⟩
theorem zE (he:VarsOk e):∀ (t u:List Tm),ep t=true->dH false u=true->fV (env e) t=fV (env e') u->dH false t=true
 | [],_,_,_,_=>by simp[dH]
 | _ :: _,[],_,_,h=>by simp[fV]at h
 | t :: l,u :: m,hw,hok,h=>by
  simp only[ep,dH,fV,af,b_]at hw hok h ⊢;exact ⟨Xd he t u hw.1 hok.1 h.1,zE he l m hw.2 hok.2 h.2⟩
end
mutual
theorem Qs:∀ (t u:Fm) (e e':List Str),VarsOk e->gS t=true->si t=true->okF false u=true->e.length=e'.length->dbF (env e) e.length t=dbF (env e') e'.length u->okF false t=true
 | .mk o n a s,.mk o' n' a' s',e,e',he,hw,hb,hok,hlen,h=>by
  have Ko:=hok;simp only[gS,af]at hw;simp only[si,af]at hb;simp only[okF,af,Bool.false_and,Bool.or_false]at hok ⊢;simp only[dbF]at h
  by_cases hq:bh o=true
  ·rw[au hq]at h
   by_cases ip:bh o'=true
   ·rw[au ip]at h;simp only[Df.mk.injEq,true_and]at h;obtain ⟨rfl,h2,h3⟩:=h;have hn:eC n=true:=by
     have:=hb.1;rw[hq]at this;simpa using this
    have pp97c:=();exact pm97
   ·rw[ak ip]at h;simp only[Df.mk.injEq]at h;rw[h.1]at hq;exact absurd hq ip
  ·rw[ak hq]at h
   by_cases ip:bh o'=true
   ·rw[au ip]at h;simp only[Df.mk.injEq]at h;rw[h.1]at hq;exact absurd ip hq
   ·rw[ak ip]at h;simp only[Df.mk.injEq]at h;obtain ⟨rfl,rfl,h2,h3⟩:=h;exact pm97
theorem FO:∀ (t u:List Fm) (e e':List Str),VarsOk e->el t=true->kE t=true->cW false u=true->e.length=e'.length->fL (env e) e.length t=fL (env e') e'.length u->cW false t=true
 | [],_,_,_,_,_,_,_,_,_=>by simp[cW]
 | _ :: _,[],_,_,_,_,_,_,_,h=>by simp[fL]at h
 | t :: l,u :: m,e,e',he,hw,hb,hok,hlen,h=>by
  simp only[el,kE,cW,fL,af,b_]at hw hb hok h ⊢;exact ⟨Qs t u e e' he hw.1 hb.1 hok.1 hlen h.1,FO l m e e' he hw.2 hb.2 hok.2 hlen h.2⟩
end
theorem Qt (hw:gS f=true) (hb:si f=true) (hg:cf g=true) (h:db f=db g):cf f=true:=by
 simp only[cf,af,bp]at hg ⊢;have h1:=zC (jm []) (jm []) hw (nI _ hg.1) h;exact ⟨Qs f g [] [] (by intro x hx;cases hx) hw hb hg.1 rfl h,by omega,by omega⟩
/-! free names, from those without bound names -/
mutual
def qY:Dt->List Str | .fre n=>[n] | .lvl _=>[] | .app _ a=>Bl a
def Bl:List Dt->List Str | []=>[] | t :: l=>qY t ++ Bl l
end
mutual
def Qu:Df->List Str | .mk _ _ a s=>Bl a ++ Is s
def Is:List Df->List Str | []=>[] | t :: l=>Qu t ++ Is l
end
mutual
theorem L1 (σ:Str->Dt):∀ t,lV t=true->qY (kI σ t)=(aC t).flatMap (fun z=>qY (σ z))
 | .mk v n a,h=>by
  simp only[lV,af]at h
  cases v with
  | true=>
   obtain rfl:a=[]:=by simpa using h.1
   simp[kI,aC,ap]
  | false=>simp[kI,qY,aC,oA σ a h.2]
theorem oA (σ:Str->Dt):∀ t,ep t=true->Bl (fV σ t)=(ap t).flatMap (fun z=>qY (σ z))
 | [],_=>by simp[fV,Bl,ap]
 | t :: l,h=>by simp only[ep,af]at h;simp[fV,Bl,ap,L1 σ t h.1,oA σ l h.2]
end
theorem It (σ:Str->Dt) (n:Str) (d:Nat):∀ l:List Str,l.flatMap (fun z=>qY (upd σ n (.lvl d) z))=(l.filter (fun x=>!(x == n))).flatMap (fun z=>qY (σ z))
 | []=>rfl
 | x :: l=>by
  have ih:=It σ n d l;rw[List.flatMap_cons,ih]
  by_cases h:(x == n)=true
  ·have:qY (upd σ n (.lvl d) x)=[]:=by unfold upd;rw[au h];rfl
   rw[this];simp[h]
  ·have:upd σ n (.lvl d) x=σ x:=by unfold upd;rw[ak h]
   rw[this];simp[h]
mutual
theorem zF:∀ (f:Fm) (σ:Str->Dt) (d:Nat),gS f=true->Qu (dbF σ d f)=(aL [] f).flatMap (fun z=>qY (σ z))
 | .mk o n a s,σ,d,h=>by
  simp only[gS,af]at h;have pp144a:=();exact pm144
theorem Bm:∀ (f:List Fm) (σ:Str->Dt) (d:Nat),el f=true->Is (fL σ d f)=(bq [] f).flatMap (fun z=>qY (σ z))
 | [],σ,d,_=>by simp[fL,Is,bq]
 | t :: l,σ,d,h=>by simp only[el,af]at h;simp[fL,Is,bq,zF t σ d h.1,Bm l σ d h.2]
end
theorem zG (h:gS f=true):Qu (db f)=aL [] f:=by
 have h1:=zF f (env []) 0 h;unfold db;rw[h1];simp[env,qY]
theorem Qv {t:Tm} (h:lV t=true):qY (kI (env []) t)=aC t:=by
 rw[L1 _ t h];simp[env,qY]
theorem tL (hf:gS f=true) (hg:gS g=true) (h:db f=db g):aL [] f=aL [] g:=by
 rw[<-zG hf,<-zG hg,h]
theorem Qw (hf:gS f=true) (hq:qone f=true) (hu:lV u=true) (hn:nodesF f+nodesT u<10 ^ 19):aL [] (fH x u f)=(aL [] f).flatMap (fun z=>if z == x then aC u else [z]):=by
 unfold fH;rw[<-zG (nl hu (depthF f) f x hf hq (aD _)).1];unfold db;rw[oY (depthF f) f x u _ _ hf hq (aD _) hn,zF f _ _ hf];congr 1
 funext z
 unfold upd;split
 ·exact Qv hu
 ·rfl
/-! the places of a schema alone -/
mutual
theorem qZ:∀ (s f:Fm) (c c0:Sco),okF true s=true->c0.map (·.1)=c.map (·.1)->(∀ p∈aR c s f,pZ k p)->∀ p∈aR c0 s s,∃q∈aR c s f,q.s=p.s/\q.c.map (·.1)=p.c.map (·.1)
 | .mk o n a l,.mk o' n' a' l',c,c0,hok,hc,hfit,p,hp=>by
  have R5:=hfit ⟨.mk o n a l,.mk o' n' a' l',c⟩ (by simp[aR]);simp only[aR,cd]at hp;rcases hp with rfl | hp
  ·exact ⟨⟨.mk o n a l,.mk o' n' a' l',c⟩,by simp[aR],rfl,hc.symm⟩
  ·have Ko:=hok;simp only[okF,af]at hok;have hlen:l.length=l'.length\/l=[]:=by
    by_cases eQ:o=15
    ·subst eQ;have h2:=hok.2.1.2.2;exact .inr (List.length_eq_zero_iff.1 (dP.1 h2))
    ·by_cases dN:o=16
     ·subst dN;have h2:=hok.2.1.2.2;exact .inr (List.length_eq_zero_iff.1 (dP.1 h2))
     ·exact .inl (mn R5 eQ dN).2.2.1
   rcases hlen with hlen | rfl
   ·obtain ⟨q,hq,h1,h2⟩:=vF l l' (if bh o then (n,n') :: c else c) (if bh o then (n,n) :: c0 else c0) hok.2.2.2.2 (by split <;> simp[hc]) (fun p hp=>hfit p (by simp only[aR,cd];exact .inr hp)) hlen p hp;exact ⟨q,by simp only[aR,cd];exact .inr hq,h1,h2⟩
   ·simp[aE]at hp
theorem vF:∀ (s f:List Fm) (c c0:Sco),cW true s=true->c0.map (·.1)=c.map (·.1)->(∀ p∈aE c s f,pZ k p)->s.length=f.length->∀ p∈aE c0 s s,∃q∈aE c s f,q.s=p.s/\q.c.map (·.1)=p.c.map (·.1)
 | [],_,_,_,_,_,_,_,p,hp=>by simp[aE]at hp
 | _ :: _,[],_,_,_,_,_,h,_,_=>by simp at h
 | t :: l,u :: m,c,c0,hok,hc,hfit,hlen,p,hp=>by
  simp only[cW,af]at hok;simp only[aE,List.mem_append]at hp hfit ⊢;rcases hp with hp | hp
  ·obtain ⟨q,hq,h⟩:=qZ t u c c0 hok.1 hc (fun p hp=>hfit p (.inl hp)) p hp;exact ⟨q,.inl hq,h⟩
  ·obtain ⟨q,hq,h⟩:=vF l m c c0 hok.2 hc (fun p hp=>hfit p (.inr hp)) (by simpa using hlen) p hp;exact ⟨q,.inr hq,h⟩
end
/-! what is needed is known -/
mutual
theorem vG (sc:List Str) (K:List (Str×Tm)):∀ (t u:Tm) (k k':List (Str×Tm)),cJ sc k t u=some k'->SubL k' K->i8 true t=true->iv K t=false
 | .mk v n a,.mk v' n' a',k,k',h,hK,hok=>by
  unfold cJ at h;unfold iv
  by_cases hm:(v && dz n)=true
  ·rw[au hm]at h ⊢
   cases hg:getB k n with
   | none=>
    rw[hg]at h;simp only[cX]at h;subst h;rw[hK n _ (oS hg)];rfl
   | some u=>
    rw[hg]at h;simp only at h;split at h
    ·cases h;rw[hK n _ hg];rfl
    ·cases h
  ·rw[ak hm]at h ⊢;have Nu:v=true->a=[]:=by
    rintro rfl;simp only[i8,↓reduceIte,af]at hok;simpa using hok.1
   by_cases hs:(v && sc.contains n)=true
   ·simp only[af]at hs;rw[Nu hs.1];rfl
   ·rw[ak hs]at h;split at h
    ·cases h
    ·rename_i hd;exact pm303
theorem sL (sc:List Str) (K:List (Str×Tm)):∀ (t u:List Tm) (k k':List (Str×Tm)),bR sc k t u=some k'->SubL k' K->t.length=u.length->dH true t=true->jt K t=false
 | [],_,k,k',h,_,_,_=>rfl
 | _ :: _,[],k,k',h,_,hl,_=>by simp at hl
 | t :: l,u :: m,k,k',h,hK,hl,hok=>by
  simp only[bR]at h;simp only[dH,af]at hok
  cases h1:cJ sc k t u with
  | none=>rw[h1]at h;cases h
  | some k1=>
   rw[h1]at h;obtain ⟨b1,_⟩:=nd sc l m k1 k' h;simp only[jt,Bool.or_eq_false_iff];exact ⟨vG sc K t u k k1 h1 (b1.trans hK) hok.1,sL sc K l m k1 k' h hK (by simpa using hl) hok.2⟩
end
theorem vH (c:Sco) (K:List (Str×Tm)):∀ (t u:List Tm) (k k':List (Str×Tm)),cK c k t u=some k'->SubL k' K->t.length=u.length->dH true t=true->jt K t=false
 | [],_,k,k',h,_,_,_=>rfl
 | _ :: _,[],k,k',h,_,hl,_=>by simp at hl
 | t :: l,u :: m,k,k',h,hK,hl,hok=>by
  simp only[cK]at h;simp only[dH,af]at hok
  cases h0:ir c [] u with
  | none=>rw[h0]at h;cases h
  | some im=>
   rw[h0]at h;simp only at h
   cases h1:cJ (c.map (·.1)) k t im with
   | none=>rw[h1]at h;cases h
   | some k1=>
    rw[h1]at h;obtain ⟨b1,_⟩:=oV c l m k1 k' h;simp only[jt,Bool.or_eq_false_iff];exact ⟨vG _ K t im k k1 h1 (b1.trans hK) hok.1,vH c K l m k1 k' h hK (by simpa using hl) hok.2⟩
theorem Kt (hp:PlOk p) (hf:pZ k p):gH k p.s=false:=by
 unfold gH
 by_cases eQ:p.s.op=15
 ·obtain ⟨_,g,_,h2,_⟩:=rN hf eQ;simp[eQ,h2]
 ·by_cases dN:p.s.op=16
  ·obtain ⟨_,g,_,h2,h3⟩:=rO hf dN;rw[ak (by simp[dN]),h2];simp only;rw[ak eQ];rcases h3 with ⟨h0,_⟩ | ⟨h0,t,ht,_⟩
   ·simp[h0]
   ·simp[ht]
  ·obtain ⟨_,h2,_,_,h5⟩:=mn hf eQ dN;rw[au (by simp[eQ,dN])];have hs:=hp.s;obtain ⟨⟨o,n,a,s⟩,f,c⟩:=p;simp only[okF,af]at hs;exact vH c k.ts a f.a k.ts k.ts h5 (SubL.refl _) h2 hs.2.2.2.1
theorem L2 (x y:Str):∀ l:List Str,y∈sR x l ↔ y=x\/y∈l
 | []=>by simp[sR]
 | z :: l=>by
  unfold sR;split
  ·rename_i h;rw[dP]at h;subst h;simp
  ·split
   ·simp
   ·simp only[cd,L2 x y l];constructor
    ·rintro (h | h | h) <;> simp[h]
    ·rintro (h | h | h) <;> simp[h]
theorem np (y:Str):∀ l:List Str,y∈dI l ↔ y∈l
 | []=>by simp[dI]
 | x :: l=>by
  have ih:=np y l;simp only[dI,List.foldr_cons]at ih ⊢;rw[L2,ih];simp
/-! occurrences -/
mutual
theorem Nv (x:Str):∀ t,zR x t=0 ↔ x ∉ aC t
 | .mk v n a=>by
  simp only[zR,aC];have ih:=tM x a
  cases v with
  | true=>
   simp only[du,↓reduceIte,cd,not_or]
   by_cases h:n=x
   ·subst h;simp
   ·simp only[dP,h,↓reduceIte,Nat.zero_add,ih];exact ⟨fun h2=>⟨fun e=>h e.symm,h2⟩,fun h2=>h2.2⟩
  | false=>simpa using ih
theorem tM (x:Str):∀ t,eV x t=0 ↔ x ∉ ap t
 | []=>by simp[eV,ap]
 | t :: l=>by simp only[eV,ap,List.mem_append,not_or,Nat.add_eq_zero_iff,Nv x t,tM x l]
end
mutual
theorem Et (hx:eC x=false):∀ f,si f=true->(fG x f=0 ↔ x ∉ aL [] f)
 | .mk o n a s,hb=>by
  simp only[si,af]at hb;have ih:=Bn hx s hb.2;have pp144b:=();exact pm144
theorem Bn (hx:eC x=false):∀ f,kE f=true->(i9 x f=0 ↔ x ∉ bq [] f)
 | [],_=>by simp[i9,bq]
 | t :: l,hb=>by
  simp only[kE,af]at hb;simp only[i9,bq,List.mem_append,not_or,Nat.add_eq_zero_iff,Et hx t hb.1,Bn hx l hb.2]
end
theorem vI (s:Str):eC (bQ s)=false:=by
 cases h:eC (bQ s)
 ·rfl
 ·exact absurd rfl (vD (s:=s) h)
/-! the placeholders of an image are those of its scope -/
theorem Bo (hz:eC z=true) (hx:dG x=true) (h:x∈qY (pM c [] (env []) z)):x.tail∈c.map (·.1):=by
 unfold pM at h;simp only[List.contains_nil,bW,↓reduceIte]at h;have own:x=z->x.tail∈c.map (·.1):=fun e=>by rw[e,Ad hz]at hx;cases hx
 cases hy:b8 c z with
 | none=>
  rw[hy]at h;simp only[env,qY,List.mem_singleton]at h;exact own h
 | some y=>
  rw[hy]at h;simp only[env,qY,List.mem_singleton]at h;rcases s_ hy with rfl | ⟨s,hs,rfl⟩
  ·exact own h
  ·rw[h];exact hs
theorem rQ (hc:VarsOk (c.map (·.1))) (hf:okF false f=true) (h:eT c [] f=some im) (hx:dG x=true) (hm:x∈aL [] im):x.tail∈c.map (·.1):=by
 obtain ⟨w1,_⟩:=mP hc hf h;rw[<-zG w1]at hm;unfold db at hm;rw[FM f im [] _ 0 hf h,zF f _ _ (nI _ hf)]at hm;obtain ⟨z,hz,hm⟩:=List.mem_flatMap.1 hm;exact Bo (qW f [] hf z hz) hx hm
theorem Nx {t:List Tm} (h:ep t=true):Bl (fV (env []) t)=ap t:=by
 rw[oA _ t h];simp[env,qY]
theorem Ku (hc:VarsOk (c.map (·.1))) {f im:List Tm} (hf:dH false f=true) (h:d9 c [] f=some im) (hx:dG x=true) (hm:x∈ap im):x.tail∈c.map (·.1):=by
 obtain ⟨w1,_⟩:=xh hc hf h;rw[<-Nx w1,qU _ [] f im h,oA _ f (rD _ hf)]at hm;obtain ⟨z,hz,hm⟩:=List.mem_flatMap.1 hm;exact Bo (jn f hf z hz) hx hm
mutual
theorem Kv {k:List (Str×Tm)} {c:List Str}:∀ t,i8 true t=true->x∈jz k t->dG x=true/\x∈aC (cM k c t)
 | .mk v n a,hok,h=>by
  unfold jz at h;unfold cM
  by_cases hm:(v && dz n)=true
  ·rw[au hm]at h ⊢;rw[List.mem_filter,np]at h;exact ⟨h.2,h.1⟩
  ·rw[ak hm]at h ⊢
   cases v with
   | true=>
    have pp304a:=();exact pm304
   | false=>
    simp only[i8,bW,↓reduceIte,af]at hok;simp only[Bool.false_and,bW,↓reduceIte,aC];exact q_ a hok.2.2 h
theorem q_ {k:List (Str×Tm)} {c:List Str}:∀ t,dH true t=true->x∈dr k t->dG x=true/\x∈ap (d_ k c t)
 | [],_,h=>by simp[dr]at h
 | t :: l,hok,h=>by
  simp only[dH,af]at hok;simp only[dr,List.mem_append]at h;simp only[d_,ap,List.mem_append];rcases h with h | h
  ·have:=Kv (c:=c) t hok.1 h;exact ⟨this.1,.inl this.2⟩
  ·have:=q_ (c:=c) l hok.2 h;exact ⟨this.1,.inr this.2⟩
end
theorem Ny (hk:bw k=true) (hp:PlOk p) (hf:pZ k p):sx k p=false:=by
 obtain ⟨k1,k2⟩:=(eO k).1 hk;have Jm:∀ x∈nz k p.s,x.tail∈p.c.map (·.1):=by
  intro x hx;unfold nz at hx
  by_cases eQ:p.s.op=15
  ·obtain ⟨im,g,h1,h2,h3⟩:=rN hf eQ;rw[au eQ]at hx;unfold formOf at hx;rw[h2,List.mem_filter,np]at hx;obtain ⟨w1,w2,_⟩:=iU (eG k1 h2).1;have hi:=mP hp.c hp.f h1;have rY:=hx.1;simp only at rY;rw[tL w1 hi.1 ((iQ w1 hi.1).1 h3)]at rY;exact rQ hp.c hp.f h1 hx.2 rY
  ·rw[ak eQ]at hx
   by_cases dN:p.s.op=16
   ·rw[au dN]at hx;obtain ⟨x0,y0,ha,Y5,hy0,hn⟩:=iA hp dN;obtain ⟨im,g,h1,h2,h3⟩:=rO hf dN;obtain ⟨w1,w2,w3,_⟩:=iU (eG k1 h2).1;have hb:=vE (eG k1 h2).1;have pp163c:=();exact pm163
   ·rw[ak dN]at hx;have pp248:=();exact pm248
 unfold sx;rw[List.any_eq_false];intro x hx;simp only[Bool.not_eq_true',Bool.not_eq_false,List.contains_eq_mem,bp];exact Jm x hx
/-! sizes -/
mutual
theorem Kw {k:List (Str×Tm)} {c:List Str}:∀ t,i8 true t=true->qq k t=nodesT (cM k c t)
 | .mk v n a,hok=>by
  unfold qq cM
  by_cases hm:(v && dz n)=true
  ·rw[au hm,au hm]
  ·rw[ak hm,ak hm]
   cases v with
   | true=>
    have pp304b:=();exact pm304
   | false=>
    simp only[i8,bW,↓reduceIte,af]at hok;simp only[Bool.false_and,bW,↓reduceIte,nodesT,nq (c:=c) a hok.2.2]
theorem nq {k:List (Str×Tm)} {c:List Str}:∀ t,dH true t=true->eh k t=nodesTs (d_ k c t)
 | [],_=>by simp[eh,d_,nodesTs]
 | t :: l,hok=>by
  simp only[dH,af]at hok;simp[eh,d_,nodesTs,Kw (c:=c) t hok.1,nq (c:=c) l hok.2]
end
theorem Eu (hk:bw k=true) (hp:PlOk p) (hf:pZ k p):gW k p.s=if p.s.op=15\/p.s.op=16 then nodesF p.f else nodesTs p.f.a+1:=by
 obtain ⟨k1,k2⟩:=(eO k).1 hk;unfold gW
 by_cases eQ:p.s.op=15
 ·obtain ⟨im,g,h1,h2,h3⟩:=rN hf eQ;obtain ⟨w1,w2,_⟩:=iU (eG k1 h2).1;have pp163d:=();exact pm163
 ·rw[ak eQ]
  by_cases dN:p.s.op=16
  ·obtain ⟨x0,y0,ha,Y5,hy0,hn⟩:=iA hp dN;obtain ⟨im,g,h1,h2,h3⟩:=rO hf dN;obtain ⟨w1,w2,w3,_⟩:=iU (eG k1 h2).1;exact pm163
  ·rw[ak dN,ak (by simp[eQ,dN])];exact pm248
theorem Bp (hk:bw k=true) (hp:PlOk p) (hf:pZ k p) (h:p.s.op=15\/p.s.op=16):gW k p.s=nodesF p.f:=(Eu hk hp hf).trans (au h)
theorem Kx (hk:bw k=true) (hp:PlOk p) (hf:pZ k p) (h:¬(p.s.op=15\/p.s.op=16)):gW k p.s=nodesTs p.f.a+1:=(Eu hk hp hf).trans (ak h)
mutual
theorem Iu (hk:bw k=true):∀ (s f:Fm) (c c0:Sco),PlOk ⟨s,f,c⟩->(∀ p∈aR c s f,pZ k p)->((aR c0 s s).map fun p=>gW k p.s).sum=nodesF f
 | .mk o n a l,.mk o' n' a' l',c,c0,hp,hfit=>by
  have R5:=hfit ⟨.mk o n a l,.mk o' n' a' l',c⟩ (by simp[aR]);have hs:=hp.s;have hf:=hp.f;have EW:=hf;have Sd:=hs;have hn:=hp.n;have hd:=hp.d;simp only[okF,af]at hs hf;simp only[nodesF]at hn;simp only[depthF]at hd;rw[aR,cz,List.sum_cons]
  by_cases eQ:o=15
  ·subst eQ;have h2:=hs.2.1.2.2;obtain rfl:l=[]:=List.length_eq_zero_iff.1 (dP.1 h2);have h0:gW k (.mk 15 n a [])=nodesF (.mk o' n' a' l'):=Bp hk hp R5 (.inl rfl);simp[aE,h0]
  ·by_cases dN:o=16
   ·subst dN;have h2:=hs.2.1.2.2;obtain rfl:l=[]:=List.length_eq_zero_iff.1 (dP.1 h2);have h0:gW k (.mk 16 n a [])=nodesF (.mk o' n' a' l'):=Bp hk hp R5 (.inr rfl);simp[aE,h0]
   ·have h0:gW k (.mk o n a l)=nodesTs a'+1:=Kx hk hp R5 (fun h=>h.elim eQ dN);obtain ⟨e1,e2,e3,e4,e5⟩:=mn R5 eQ dN;simp only[Fm.op,Fm.s]at e1 e3;subst e1;have Sm:VarsOk ((if bh o then (n,n') :: c else c).map (·.1)):=by
     split
     ·rename_i hq;intro x hx;simp only[cz,cd]at hx;rcases hx with rfl | hx
      ·exact (jV Sd hq).1
      ·exact hp.c x hx
     ·exact hp.c
    have:=Ev hk l l' (if bh o then (n,n') :: c else c) (if bh o then (n,n) :: c0 else c0) hs.2.2.2.2 hf.2.2.2.2 Sm (by omega) (by omega) (fun p hp=>hfit p (by simp only[aR,cd];exact .inr hp)) e3;simp only[this,h0,nodesF];omega
theorem Ev (hk:bw k=true):∀ (s f:List Fm) (c c0:Sco),cW true s=true->cW false f=true->VarsOk (c.map (·.1))->nodesFs f<=400->aS f<=40->(∀ p∈aE c s f,pZ k p)->s.length=f.length->((aE c0 s s).map fun p=>gW k p.s).sum=nodesFs f
 | [],[],_,_,_,_,_,_,_,_,_=>by simp[aE,nodesFs]
 | [],_ :: _,_,_,_,_,_,_,_,_,h=>by simp at h
 | _ :: _,[],_,_,_,_,_,_,_,_,h=>by simp at h
 | t :: l,u :: m,c,c0,h1,h2,h3,h4,h5,h6,h7=>by
  simp only[cW,af]at h1 h2;simp only[nodesFs,aS]at h4 h5;simp only[aE,List.mem_append]at h6;simp only[aE,List.map_append,List.sum_append,nodesFs];rw[Iu hk t u c c0 ⟨h1.1,h2.1,h3,by show nodesF u<=400;omega,by show depthF u<=40;omega⟩ (fun p hp=>h6 p (.inl hp)),Ev hk l m c c0 h1.2 h2.2 h3 (by omega) (by omega) (fun p hp=>h6 p (.inr hp)) (by simpa using h7)]
end
theorem FP {l:List (Fm×Fm)} (h:cg l b=(k,i,0)):∀ x∈l,∃f,sy x.1 k=(f,0)/\cf f=true/\cP [] f x.2=true:=by
 intro x hx;have hk:=nH h;have hfit:=FL h x hx;obtain ⟨_,hl,_⟩:=mD h;have hok:=hl x hx;have hp:=tb hok;simp only[af]at hok;obtain ⟨w1,w2,w3,w4⟩:=LY hk x.1 x.2 [] (env []) (env []) 0 hp hfit (jm []) (jm []) Nq;simp only[List.map_nil]at w1 w2 w3 w4;have mg:=jQ x.1 x.2 [] hp;have hr:cf (bV k [] x.1)=true:=Qt w1 w3 hok.2 w4;have Xe:nA k x.1=0:=by
  unfold nA;have c1:((aR [] x.1 x.1).any fun p=>gH k p.s)=false:=by
   rw[List.any_eq_false];intro p Ot;obtain ⟨q,hq,h1,_⟩:=qZ x.1 x.2 [] [] hp.s rfl hfit p Ot;rw[<-h1,Kt (mg q hq) (hfit q hq)];simp
  have c2:(aR [] x.1 x.1).any (sx k)=false:=by
   rw[List.any_eq_false];intro p Ot;obtain ⟨q,hq,h1,h2⟩:=qZ x.1 x.2 [] [] hp.s rfl hfit p Ot;have:=Ny hk (mg q hq) (hfit q hq);unfold sx at this ⊢;rw[<-h1,<-h2,this];simp
  have c3:=Iu hk x.1 x.2 [] [] hp hfit;have:=hp.n;rw[c1,c2,c3];simp only[bW,↓reduceIte];rw[ak (by simp only at this;omega)]
 refine ⟨bV k [] x.1,?_,hr,(iQ w1 (nI _ hp.f)).2 w4⟩;unfold sy;simp[hok.1,hk,Xe,hr]
/-! atoms turned -/
/-! the free names of a formula, as atoms -/
/-! the image's name, from what is not a name -/
/-! when there is an image -/
structure Twin (c c':Sco) (f f':Fm):Prop where
 n:c.map (·.1)=c'.map (·.1)
 d:dbF (env (c.map (·.2))) c.length f=dbF (env (c'.map (·.2))) c'.length f'
theorem Twin.len {c':Sco} {f':Fm} (h:Twin c c' f f'):c.length=c'.length:=by have:=congrArg List.length h.n;simpa using this
/-! where the first placeholder is, without bound names -/
def Only (x:Str) (ρ:Str->Dt):Prop:=∀ z,ρ z=.fre x ↔ z=x
theorem Only.upd {ρ:Str->Dt} (h:Only x ρ) (hn:n≠x) (d:Nat):Only x (upd ρ n (.lvl d)):=fun z=>by
 unfold Go.Proofs.YtokemihbkeddoaaGreatDoor.upd
 by_cases e:z=n
 ·subst e;simp[hn]
 ·have:(z == n)=false:=by simpa using e
  simp only[this,bW,↓reduceIte];exact h z
def Df.s:Df->List Df | .mk _ _ _ s=>s
def Df.a:Df->List Dt | .mk _ _ a _=>a
/-! how often a placeholder stands -/
mutual
theorem Ky (x:Str):∀ t,zR x t=(aC t).count x
 | .mk v n a=>by
  have ih:=rd x a
  cases v with
  | true=>simp only[zR,du,aC,↓reduceIte,List.count_cons,ih];omega
  | false=>simp[zR,aC,ih]
theorem rd (x:Str):∀ t,eV x t=(ap t).count x
 | []=>by simp[eV,ap]
 | t :: l=>by simp[eV,ap,List.count_append,Ky x t,rd x l]
end
mutual
theorem Bq (hx:eC x=false):∀ f,si f=true->fG x f=(aL [] f).count x
 | .mk o n a s,hb=>by
  simp only[si,af]at hb;have ih:=yx hx s hb.2;have pp144c:=();exact pm144
theorem yx (hx:eC x=false):∀ f,kE f=true->i9 x f=(bq [] f).count x
 | [],_=>by simp[i9,bq]
 | t :: l,hb=>by
  simp only[kE,af]at hb;simp[i9,bq,List.count_append,Bq hx t hb.1,yx hx l hb.2]
end
def FRel:List (Str×Fm)->List (Str×Fm)->Prop
 | [],[]=>True
 | (n,g) :: l,(n',g') :: l'=>n=n'/\db g=db g'/\FRel l l'
 | _,_=>False
theorem FRel.refl:∀ l,FRel l l
 | []=>trivial
 | (_,_) :: l=>⟨rfl,rfl,FRel.refl l⟩
theorem FRel.get:∀ {l l':List (Str×Fm)},FRel l l'->∀ n,(getB l n=none/\getB l' n=none)\/∃g g',getB l n=some g/\getB l' n=some g'/\db g=db g'
 | [],[],_,n=>.inl ⟨rfl,rfl⟩
 | [],_ :: _,h,_=>h.elim
 | _ :: _,[],h,_=>h.elim
 | (m,g) :: l,(m',g') :: l',h,n=>by
  obtain ⟨rfl,h2,h3⟩:=h;unfold getB;split
  ·exact .inr ⟨g,g',rfl,rfl,h2⟩
  ·exact FRel.get h3 n
theorem FRel.add {v v':Fm} (hv:db v=db v'):∀ {l l':List (Str×Fm)},FRel l l'->FRel (fS x v l) (fS x v' l')
 | [],[],_=>⟨rfl,hv,trivial⟩
 | [],_ :: _,h=>h.elim
 | _ :: _,[],h=>h.elim
 | (m,g) :: l,(m',g') :: l',h=>by
  obtain ⟨rfl,h2,h3⟩:=h;unfold fS;split
  ·exact ⟨rfl,hv,rfl,h2,h3⟩
  ·exact ⟨rfl,h2,FRel.add hv h3⟩
/-! filling, then matching -/
/-! arguments match what is filled in for them -/
/-! the size where a term is put -/
theorem L3 (σ:Str->Dt) (n:Str) (d:Nat):∀ l:List Str,(l.map fun z=>vw (upd σ n (.lvl d) z)).sum+(l.filter fun x=>!(x == n)).length=((l.filter fun x=>!(x == n)).map fun z=>vw (σ z)).sum+l.length
 | []=>rfl
 | x :: l=>by
  have ih:=L3 σ n d l;rw[cz,List.sum_cons,List.filter_cons]
  by_cases h:(x == n)=true
  ·have e1:upd σ n (.lvl d) x=.lvl d:=by unfold upd;rw[au h]
   rw[e1,h];simp only[Bool.not_true,bW,↓reduceIte,vw,eR];omega
  ·have e1:upd σ n (.lvl d) x=σ x:=by unfold upd;rw[ak h]
   have h':(x == n)=false:=by simpa using h
   rw[e1,h'];simp only[Bool.not_false,if_true,cz,List.sum_cons,eR];omega
mutual
theorem Tb (σ:Str->Dt):∀ t,lV t=true->vw (kI σ t)+(aC t).length=nodesT t+((aC t).map fun z=>vw (σ z)).sum
 | .mk v n a,h=>by
  simp only[lV,af]at h
  cases v with
  | true=>
   obtain rfl:a=[]:=by simpa using h.1
   simp only[kI,↓reduceIte,aC,ap,nodesT,nodesTs,eR,List.length_nil,cz,List.map_nil,List.sum_cons,List.sum_nil];omega
  | false=>
   have:=Br σ a h.2;simp only[kI,bW,↓reduceIte,vw,aC,nodesT];omega
theorem Br (σ:Str->Dt):∀ t,ep t=true->yu (fV σ t)+(ap t).length=nodesTs t+((ap t).map fun z=>vw (σ z)).sum
 | [],_=>rfl
 | t :: l,h=>by
  simp only[ep,af]at h;have h1:=Tb σ t h.1;have h2:=Br σ l h.2;simp only[fV,yu,ap,nodesTs,dO,List.map_append,List.sum_append];omega
end
mutual
theorem L4:∀ (f:Fm) (σ:Str->Dt) (d:Nat),gS f=true->Kq (dbF σ d f)+(aL [] f).length=nodesF f+((aL [] f).map fun z=>vw (σ z)).sum
 | .mk o n a s,σ,d,h=>by
  simp only[gS,af]at h;exact pm144
theorem Bs:∀ (f:List Fm) (σ:Str->Dt) (d:Nat),el f=true->Bg (fL σ d f)+(bq [] f).length=nodesFs f+((bq [] f).map fun z=>vw (σ z)).sum
 | [],_,_,_=>rfl
 | t :: l,σ,d,h=>by
  simp only[el,af]at h;have h1:=L4 t σ d h.1;have h2:=Bs l σ d h.2;simp only[fL,Bg,bq,nodesFs,dO,List.map_append,List.sum_append];omega
end
theorem L5 (x:Str) (N:Nat) (hN:1<=N):∀ l:List Str,(l.map fun z=>if z == x then N else 1).sum=l.length+l.count x * (N - 1)
 | []=>by simp
 | y :: l=>by
  have ih:=L5 x N hN l;rw[cz,List.sum_cons,List.count_cons,eR,ih,Nat.add_mul]
  by_cases h:(y == x)=true
  ·rw[au h,au h];omega
  ·rw[ak h,ak h];omega
theorem Nz (t:Tm):1<=nodesT t:=by obtain ⟨_,_,_⟩:=t;simp[nodesT]
theorem NA (hx:eC x=false) (hf:gS f=true) (hq:qone f=true) (hb:si f=true) (hu:lV u=true) (hn:nodesF f+nodesT u<10 ^ 19):nodesF (fH x u f)=nodesF f+fG x f * (nodesT u - 1):=by
 have hw:=(nl hu (depthF f) f x hf hq (aD _)).1;have h1:=vA (fH x u f) (env []) 0 (jm []) hw;unfold fH at h1;rw[oY (depthF f) f x u _ _ hf hq (aD _) hn]at h1;have h2:=L4 f (upd (env []) x (kI (env []) u)) 0 hf;have e:(fun z=>vw (upd (env []) x (kI (env []) u) z))=fun z=>if z == x then nodesT u else 1:=by
  funext z
  unfold upd;split
  ·exact (Iq (jm []) u hu).1
  ·rfl
 rw[e,L5 x (nodesT u) (Nz u),h1.1]at h2;rw[Bq hx f hb];unfold fH;omega
/-! all that is needed is known -/
mutual
def jc (k:Bd):Fm->Bool | .mk o n a s=>!gH k (.mk o n a s) && kv k s
def kv (k:Bd):List Fm->Bool | []=>true | t :: l=>jc k t && kv k l
end
mutual
theorem Iv:∀ (s:Fm) (c:Sco),(aR c s s).any (fun p=>gH k p.s)=false->jc k s=true
 | .mk o n a s,c,h=>by
  simp only[aR,List.any_cons,Bool.or_eq_false_iff]at h;simp only[jc,h.1,Bool.not_false,du];exact Ew s _ h.2
theorem Ew:∀ (s:List Fm) (c:Sco),(aE c s s).any (fun p=>gH k p.s)=false->kv k s=true
 | [],_,_=>rfl
 | t :: l,c,h=>by
  simp only[aE,List.any_append,Bool.or_eq_false_iff]at h;simp only[kv,Iv t c h.1,Ew l c h.2,Bool.and_self]
end
theorem Ex {a:List Tm} {s:List Fm} (h:okF true (.mk 16 n a s)=true):s=[]/\∃x y:Str,a=[ao x,ao y]/\eC x=true/\c9 y=true:=by
 have h':=h;simp only[okF,af]at h;obtain ⟨x,y,h1,h2,h3,_⟩:=iA (p:=⟨.mk 16 n a s,.mk 2 [] [] [],[]⟩) ⟨h',(by show okF false (.mk 2 [] [] [])=true;decide),(by intro x hx;cases hx),(by show nodesF (.mk 2 [] [] [])<=400;decide),(by show depthF (.mk 2 [] [] [])<=40;decide)⟩ rfl;exact ⟨List.length_eq_zero_iff.1 (dP.1 h.2.1.2.2),x,y,h1,h2,h3⟩
def Iw (k:Bd) (n x y:Str):Fm:=if fG (bQ x) (formOf k.fs n)=0 then formOf k.fs n else fH (bQ x) (termOf k.ts y) (formOf k.fs n)
theorem xm {c:List Str} {s:List Fm}:bV k c (.mk 16 n [ao x,ao y] s)=Iw k n x y:=by
 simp only[bV,ao,Tm.n];rw[ak (by decide)];simp only[if_true];rfl
theorem Tc (k:Bd) (n:Str) (a:List Tm) (s:List Fm):gH k (.mk 15 n a s)=(getB k.fs n).isNone:=by
 cases e:getB k.fs n <;> simp[gH,Fm.op,Fm.n,e]
theorem Td (k:Bd) (n:Str) (a:List Tm) (s:List Fm) (h:getB k.fs n=some g):gH k (.mk 16 n a s)=((getB k.ts (aJ (.mk 16 n a s)).2).isNone && decide (fG (aJ (.mk 16 n a s)).1 g > 0)):=by
 simp[gH,Fm.op,Fm.n,h]
theorem Qy (k:Bd) (n:Str) (a:List Tm) (s:List Fm) (h:getB k.fs n=none):gH k (.mk 16 n a s)=true:=by
 simp[gH,Fm.op,Fm.n,h]
theorem Bt {a:List Tm} {s:List Fm} (h:jc k (.mk 15 n a s)=true):∃g,getB k.fs n=some g:=by
 simp only[jc,af,Bool.not_eq_true',Tc]at h
 cases e:getB k.fs n with
 | none=>rw[e]at h;cases h.1
 | some g=>exact ⟨g,rfl⟩
theorem Bu {s:List Fm} (h:jc k (.mk 16 n [ao x,ao y] s)=true):∃g,getB k.fs n=some g/\(fG (bQ x) g=0\/∃t,getB k.ts y=some t):=by
 simp only[jc,af,Bool.not_eq_true']at h;have h1:=h.1
 cases e:getB k.fs n with
 | none=>rw[Qy k n _ s e]at h1;cases h1
 | some g=>
  rw[Td k n _ s e]at h1;refine ⟨g,rfl,?_⟩;have hn:aJ (.mk 16 n [ao x,ao y] s)=(bQ x,y):=rfl;rw[hn]at h1
  cases ht:getB k.ts y with
  | none=>
   rw[ht]at h1;simp only[Option.isNone_none,du,decide_eq_false_iff_not]at h1;exact .inl (by omega)
  | some t=>exact .inr ⟨t,rfl⟩
theorem Kz (hk:bw k=true) {s:List Fm} (h:jc k (.mk 16 n [ao x,ao y] s)=true):gS (Iw k n x y)=true/\qone (Iw k n x y)=true:=by
 obtain ⟨k1,k2⟩:=(eO k).1 hk;obtain ⟨g,hg,h2⟩:=Bu h;have pf:=eG k1 hg;obtain ⟨w1,w2,_⟩:=iU pf.1;have e:formOf k.fs n=g:=by unfold formOf;rw[hg]
 unfold Iw;rw[e];split
 ·exact ⟨w1,w2⟩
 ·rename_i h0;obtain ⟨t,ht⟩:=h2.resolve_left h0;have e2:termOf k.ts y=t:=by unfold termOf;rw[ht]
  rw[e2];exact nl (oz (vB k2 ht).1) (depthF g) g (bQ x) w1 w2 (aD _)
mutual
theorem Qz {k:List (Str×Tm)} (hk:JA k=true) {c:List Str}:∀ t,i8 true t=true->iv k t=false->lV (cM k c t)=true
 | .mk v n a,hok,h=>by
  unfold iv at h;unfold cM
  by_cases hm:(v && dz n)=true
  ·rw[au hm]at h ⊢
   cases e:getB k n with
   | none=>rw[e]at h;cases h
   | some u=>
    have e2:termOf k n=u:=by unfold termOf;rw[e]
    rw[e2];exact oz (vB hk e).1
  ·rw[ak hm]at h ⊢;split
   ·exact LC _
   ·cases v with
    | true=>
     exact pm304
    | false=>
     simp only[i8,bW,↓reduceIte,af]at hok;simp[lV,xq hk (c:=c) a hok.2.2 h]
theorem xq {k:List (Str×Tm)} (hk:JA k=true) {c:List Str}:∀ t,dH true t=true->jt k t=false->ep (d_ k c t)=true
 | [],_,_=>by simp[d_,ep]
 | t :: l,hok,h=>by
  simp only[dH,af]at hok;simp only[jt,Bool.or_eq_false_iff]at h;simp[d_,ep,Qz hk (c:=c) t hok.1 h.1,xq hk (c:=c) l hok.2 h.2]
end
theorem pt {a:List Tm} {s:List Fm} (eQ:o≠15) (dN:o≠16) (h:jc k (.mk o n a s)=true):jt k.ts a=false/\kv k s=true:=by
 simp only[jc,af,Bool.not_eq_true',gH,Fm.op,Fm.a]at h;rw[au (by simp[eQ,dN])]at h;exact h
mutual
theorem Te (hk:bw k=true):∀ (s:Fm) (c:List Str),okF true s=true->jc k s=true->gS (bV k c s)=true/\qone (bV k c s)=true
 | .mk o n a s,c,hok,h=>by
  obtain ⟨k1,k2⟩:=(eO k).1 hk
  by_cases eQ:o=15
  ·subst eQ;obtain ⟨g,hg⟩:=Bt h;have e:bV k c (.mk 15 n a s)=g:=by
    simp only[bV,if_true];unfold formOf;rw[hg]
   rw[e];have:=iU (eG k1 hg).1;exact ⟨this.1,this.2.1⟩
  ·by_cases dN:o=16
   ·subst dN;obtain ⟨rfl,x,y,rfl,_,_⟩:=Ex hok;rw[xm];exact Kz hk h
   ·obtain ⟨h1,h2⟩:=pt eQ dN h;have Ko:=hok;simp only[okF,af]at hok
    by_cases hq:bh o=true
    ·obtain ⟨_,rfl,g,rfl⟩:=jV Ko hq;obtain ⟨i1,i2⟩:=rf hk [g] (n :: c) hok.2.2.2.2 h2;simp only[dS,el,ee,Bool.and_true]at i1 i2;have pp318:=();exact pm318
    ·obtain ⟨i1,i2⟩:=rf hk s c hok.2.2.2.2 h2;have e:bV k c (.mk o n a s)=.mk o n (d_ k.ts c a) (dS k c s):=by
      simp only[bV,ak eQ,ak dN,ak hq]
     have ip:bh o=false:=by simpa using hq
     rw[e];exact ⟨by simp[gS,i1,xq k2 (c:=c) a hok.2.2.2.1 h1],by simp[qone,ip,i2]⟩
theorem rf (hk:bw k=true):∀ (s:List Fm) (c:List Str),cW true s=true->kv k s=true->el (dS k c s)=true/\ee (dS k c s)=true
 | [],_,_,_=>by simp[dS,el,ee]
 | t :: l,c,hok,h=>by
  simp only[cW,kv,af]at hok h;simp[dS,el,ee,Te hk t c hok.1 h.1,rf hk l c hok.2 h.2]
end
/-! with less known -/
theorem FR {α:Type}:∀ {l:List (Str×α)} {z:Str} {v:α},getB l z=some v->(z,v)∈l
 | [],_,_,h=>by simp[getB]at h
 | (y,u) :: r,z,v,h=>by
  unfold getB at h;split at h
  ·rename_i e;obtain rfl:=Option.some.inj h;obtain rfl:=dP.1 e;exact f8
  ·exact fD _ (FR h)
mutual
def vJ (k:Bd):Fm->Nat | .mk o n a s=>gW k (.mk o n a s)+rg k s
def rg (k:Bd):List Fm->Nat | []=>0 | t :: l=>vJ k t+rg k l
end
mutual
theorem Ey (k:Bd):∀ (s:Fm) (c:Sco),((aR c s s).map fun p=>gW k p.s).sum=vJ k s
 | .mk o n a s,c=>by simp only[aR,cz,List.sum_cons,vJ,Bv k s]
theorem Bv (k:Bd):∀ (s:List Fm) (c:Sco),((aE c s s).map fun p=>gW k p.s).sum=rg k s
 | [],_=>by simp[aE,rg]
 | t :: l,c=>by simp only[aE,List.map_append,List.sum_append,rg,Ey k t,Bv k l]
end
theorem Iy (hk:bw k=true) (gz:∀ x∈k.ts,nodesT x.2<=1000) (n:Str):goodT (termOf k.ts n)\/termOf k.ts n=.mk false [] []:=by
 unfold termOf
 cases e:getB k.ts n with
 | none=>exact .inr rfl
 | some t=>exact .inl (zB hk gz _ (FR e)).1
theorem NB (hk:bw k=true) (gz:∀ x∈k.ts,nodesT x.2<=1000) (n:Str):j5 17 (termOf k.ts n)=true:=by
 rcases Iy hk gz n with h | h
 ·exact h.nm
 ·rw[h];rfl
mutual
theorem QA {k:List (Str×Tm)} (hk:∀ n,j5 17 (termOf k n)=true) {c:List Str}:∀ t,j5 16 t=true->j5 17 (cM k c t)=true
 | .mk v n a,h=>by
  simp only[j5,af,bp]at h;unfold cM;split
  ·exact hk n
  ·split
   ·simp[ao,j5,nmTs,bQ];exact h.1
   ·simp only[j5,af,bp];exact ⟨by omega,xr hk a h.2⟩
theorem xr {k:List (Str×Tm)} (hk:∀ n,j5 17 (termOf k n)=true) {c:List Str}:∀ l,nmTs 16 l=true->nmTs 17 (d_ k c l)=true
 | [],_=>rfl
 | t :: l,h=>by
  simp only[nmTs,af]at h;simp[d_,nmTs,QA hk t h.1,xr hk l h.2]
end
theorem Bw {p:Nat} {a:List Tm} {s:List Fm} (h:ls p (.mk o n a s)=true):(0<=o/\o<=255)/\n.length<=p/\nmTs p a=true/\nmFs p s=true:=by
 simpa only[ls,af,bp] using h
theorem KA {r:Fm} (hn:n.length<=16) (hr:nodesF r<=100000):(if (aL [] r).contains n then c_ (aL [] r) else n).length<=2000000:=by
 split
 ·exact oZ (by have:=eY r [];omega)
 ·omega
mutual
theorem By {k:Bd} (hk:bw k=true) (gz:∀ x∈k.ts,nodesT x.2<=1000):∀ (s:Fm) (c:List Str),okF true s=true->jc k s=true->vJ k s<=1000->nodesF (bV k c s)<=vJ k s/\ls 2000000 (bV k c s)=true
 | .mk o n a s,c,hok,h,hsz=>by
  obtain ⟨k1,k2⟩:=(eO k).1 hk;have dD:=Bw (ig _ hok)
  by_cases eQ:o=15
  ·subst eQ;obtain ⟨g,hg⟩:=Bt h;have e2:formOf k.fs n=g:=by unfold formOf;rw[hg]
   have e:bV k c (.mk 15 n a s)=g:=by simp only[bV,if_true];exact e2
   have wj:goodF g:=(eG k1 hg).1;rw[e];refine ⟨?_,wj.fit.2⟩;have:gW k (.mk 15 n a s)=nodesF g:=by simp only[gW,Fm.op,Fm.n,if_true,e2]
   unfold vJ;omega
  ·by_cases dN:o=16
   ·subst dN;obtain ⟨rfl,x,y,rfl,hx,_⟩:=Ex hok;rw[xm];obtain ⟨g,hg,h2⟩:=Bu h;have e2:formOf k.fs n=g:=by unfold formOf;rw[hg]
    have wj:goodF g:=(eG k1 hg).1;have hz:gW k (.mk 16 n [ao x,ao y] [])=nodesF g+fG (bQ x) g * (nodesT (termOf k.ts y) - 1):=by
     simp only[gW,Fm.op,Fm.n,e2];rw[ak (by decide)];rfl
    unfold vJ;rw[hz];unfold Iw;rw[e2];split
    ·exact ⟨by omega,wj.fit.2⟩
    ·rename_i h0;obtain ⟨t,ht⟩:=h2.resolve_left h0;have e3:termOf k.ts y=t:=by unfold termOf;rw[ht]
     have htg:=(zB hk gz _ (FR ht)).1;rw[e3];have hn:=wj.nodes;have kY:nodesT t<=1000:=htg.2;refine ⟨?_,(uZ wj htg).2⟩;have hlt:nodesF g+nodesT t<10 ^ 19:=by omega
     rw[NA (vI x) wj.wf wj.qone (vE (eG k1 hg).1) (oz htg.1) hlt];exact Nat.le_add_right _ _
   ·obtain ⟨h1,h2⟩:=pt eQ dN h;have Ko:=hok;simp only[okF,af]at hok;have hz:gW k (.mk o n a s)=eh k.ts a+1:=by unfold gW;rw[ak (show ¬(Fm.mk o n a s).op=15 from eQ),ak (show ¬(Fm.mk o n a s).op=16 from dN)];rfl
    unfold vJ at hsz ⊢;rw[hz]at hsz ⊢
    by_cases hq:bh o=true
    ·obtain ⟨_,rfl,g,rfl⟩:=jV Ko hq;have ih:=nr hk gz [g] (n :: c) hok.2.2.2.2 h2 (by omega);have iw:=rf hk [g] (n :: c) hok.2.2.2.2 h2;simp only[dS,nodesFs,nmFs,Bool.and_true,el,ee]at ih iw;exact pm318
    ·have ih:=nr hk gz s c hok.2.2.2.2 h2 (by omega);have e:bV k c (.mk o n a s)=.mk o n (d_ k.ts c a) (dS k c s):=by
      simp only[bV,ak eQ,ak dN,ak hq]
     rw[e];have ha:=nq (k:=k.ts) (c:=c) a hok.2.2.2.1;refine ⟨?_,?_⟩
     ·simp only[nodesF];omega
     ·simp only[ls,af,bp];exact ⟨dD.1,by have:=dD.2.1;omega,dX (by omega) _ (xr (NB hk gz) a dD.2.2.1),ih.2⟩
theorem nr {k:Bd} (hk:bw k=true) (gz:∀ x∈k.ts,nodesT x.2<=1000):∀ (s:List Fm) (c:List Str),cW true s=true->kv k s=true->rg k s<=1000->nodesFs (dS k c s)<=rg k s/\nmFs 2000000 (dS k c s)=true
 | [],_,_,_,_=>by simp[dS,nodesFs,nmFs]
 | t :: l,c,hok,h,hsz=>by
  simp only[cW,kv,af]at hok h;simp only[rg]at hsz ⊢;have i1:=By hk gz t c hok.1 h.1 (by omega);have i2:=nr hk gz l c hok.2 h.2 (by omega);simp only[dS,nodesFs,nmFs,i1.2,i2.2,Bool.and_self,and_true];omega
end
