/-
'equal' of package match.
-/
import Derived.Test.YtokemihbkeddoaaGreatDoorU08
namespace Go.Proofs.YtokemihbkeddoaaGreatDoor
open Go Go.RowKit Lib
set_option maxRecDepth 100000
set_option maxHeartbeats 64000000
variable {M M':Nat->Prop} {W W':World} {v:Value} {t u:Tm} {n s x:Str} {a:List Tm} {sc:Bool} {f im:Fm} {b:Bd} {p:Pl}
section
attribute [local go_sem] Oper.semAt_some
theorem TermV.kpM (h:TermV (fun b=>¬M b) W v t) (hk:Kp M' W W') (hM:∀ b,M' b->M b):TermV (fun b=>¬M b) W' v t:=h.move (fun b hb hlt=>⟨hb,hk.same b hlt (fun h=>hb (hM b h))⟩)
theorem TermsV.kpM {t:List Tm} (h:TermsV (fun b=>¬M b) W v t) (hk:Kp M' W W') (hM:∀ b,M' b->M b):TermsV (fun b=>¬M b) W' v t:=h.move (fun b hb hlt=>⟨hb,hk.same b hlt (fun h=>hb (hM b h))⟩)
theorem FormV.kpM {t:Fm} (h:FormV (fun b=>¬M b) W v t) (hk:Kp M' W W') (hM:∀ b,M' b->M b):FormV (fun b=>¬M b) W' v t:=h.move (fun b hb hlt=>⟨hb,hk.same b hlt (fun h=>hb (hM b h))⟩)
theorem zk {α:Type} {v:α} {l:List (Str×α)} (h:getB l n=none) (y:Str):getB (fj n v l) y=if y=n then some v else getB l y:=by
 rw[sZ n _ _ h y]
 by_cases e:y=n
 ·subst e;simp
 ·rw[aw e,aw (fun b=>e (eq_of_beq b).symm)]
theorem om {j:Nat} (h:j<a.length):nodesTs (a.take j)+nodesT a[j]=nodesTs (a.take (j+1))/\nodesTs (a.take (j+1))<=nodesTs a:=by
 induction a generalizing j with
 | nil=>simp at h
 | cons t a ih=>
  cases j with
  | zero=>simp[nodesTs]
  | succ j=>have:=ih (j:=j) (by simpa using h);simp[nodesTs]at this ⊢;omega
theorem Ou (h:n.length<=1999999):fitT (ap (dc n)):=by
 refine ⟨by unfold ap nodesT nodesTs;omega,?_⟩;unfold ap jw nmTs dc;simp;omega
def EqA (q:PlQ) (ps:List (Str×Str)) (PF:Fm->Prop) (PT:Tm->Prop) (M:Nat->Prop) (kb mF mT:Nat) (t:Tm):Prop:=
 ∀ im,PT im->∀ (W:World) (nF nT:Nat) (k:Bd) (tq uq:TQ),KnV (fun b=>¬M b) PF PT W kb mF mT nF nT k->nT+nodesT t<=3000000->PairsN M W (.slice q.a q.l q.c) ps->TermV (fun b=>¬M b) W tq.val t->TermV (fun b=>¬M b) W uq.val im →
  Calls Tryz.prog 95 #[.pointer (some ⟨kb,0,none⟩),q.val,tq.val,uq.val] W fun e W'=>Kp (fun b=>b=mT) W W'/\∃r:Bool,e=.returned (.bool r) ∧
   (dw (ps.reverse.map (·.1)) k.ts t im=none->r=false)/\∀ ts,dw (ps.reverse.map (·.1)) k.ts t im=some ts->r=true/\∃tI,tI<=nT+nodesT t/\KnV (fun b=>¬M b) PF PT W' kb mF mT nF tI ⟨k.fs,ts⟩
theorem LV (q:PlQ) (ps:List (Str×Str)) (mq:ps.length<=1000000) (PF:Fm->Prop) (PT:Tm->Prop) (TA:∀ t,PT t->fitT t) (hPA:∀ v n a,PT (.mk v n a)->∀ u∈a,PT u) (M:Nat->Prop) (kb mF mT:Nat) (QF:M mT) (QG:M mF) (QH:¬M kb) :
  ∀ t,fitT t->jw 1999999 t=true->EqA q ps PF PT M kb mF mT t:=by
 have HG:=qS mq TA hPA QF QG QH;clear mq TA hPA QF QG QH;have pp161b:=();exact pm161
end
theorem iy {f o:UInt8->Bool} (h:rn f o s=true):s.length<=16:=by
 cases s with
 | nil=>simp
 | cons c r=>simp only[rn,ah,bx]at h;simp;omega
theorem fA (h:cP s=true):s.length<=16:=by
 simp only[cP,ah,bx]at h;exact h.1
theorem su (h:dx s=true):s.length<=16:=by
 simp only[dx,ah,bx]at h;exact h.1
mutual
theorem Oy:∀ t,jZ sc t=true->jw 16 t=true
 | .mk v n a,h=>by
  simp only[jZ]at h
  cases v with
  | true=>
   simp only[↓reduceIte,ah,Bool.or_eq_true]at h;obtain rfl:a=[]:=by simpa using h.1
   simp only[jw,nmTs,Bool.and_true,bx];rcases h.2 with h | h
   ·exact iy h
   ·exact fA h.2
  | false=>
   simp only[dE,↓reduceIte,ah]at h;simp only[jw,ah,bx];exact ⟨iy h.2.1,Ea a h.2.2⟩
theorem Ea:∀ l,eu sc l=true->nmTs 16 l=true
 | [],_=>rfl
 | t :: l,h=>by
  simp only[eu,ah]at h;simp only[nmTs,ah];exact ⟨Oy t h.1,Ea l h.2⟩
end
mutual
theorem Ct:∀ t,jw 16 (aM t)=true->jw 17 t=true
 | .mk v n a,h=>by
  simp only[aM,jw,ah,bx]at h ⊢;refine ⟨?_,sw a h.2⟩;have h1:=h.1;split at h1
  ·simp at h1;omega
  ·omega
theorem sw:∀ l,nmTs 16 (bS l)=true->nmTs 17 l=true
 | [],_=>rfl
 | t :: l,h=>by
  simp only[bS,nmTs,ah]at h ⊢;exact ⟨Ct t h.1,sw l h.2⟩
end
mutual
theorem Cu:∀ t,qC (aM t)=qC t
 | .mk v n a=>by
  have h:(bS a).isEmpty=a.isEmpty:=by cases a <;> rfl
  simp only[aM,qC,h,sx a]
theorem sx:∀ l,gL (bS l)=gL l
 | []=>rfl
 | t :: l=>by simp only[bS,gL,Cu t,sx l]
end
theorem LW {o:Int} (h:((rowOp o).1 || (sc && (rowOp o).2.1))=true):0<=o/\o<=255:=by
 unfold rowOp at h
 by_cases h1:o=1
 ·omega
 by_cases h2:o=2
 ·omega
 by_cases h3:o=8\/o=9
 ·omega
 by_cases h4:o=3\/(10<=o/\o<=13)
 ·omega
 by_cases h5:(4<=o/\o<=7)\/o=14
 ·omega
 by_cases h6:o=15
 ·omega
 by_cases h7:o=16
 ·omega
 simp[h1,h2,h3,h4,h5,h6,h7]at h
theorem LX {k:Nat} (h:pj k s=true):s.length<=16:=by
 unfold pj at h;split at h
 ·exact iy h
 ·exact iy h
 ·exact su h
 ·simp at h;simp[h]
mutual
theorem ia:∀ f,okF sc f=true->kJ 16 f=true
 | .mk o n a s,h=>by
  simp only[okF]at h;rw[ah,ah,ah,ah,ah,ah]at h;simp only[kJ,ah,bx];exact ⟨LW h.1,LX h.2.1.1,Ea a h.2.2.2.1,KG s h.2.2.2.2⟩
theorem KG:∀ l,dD sc l=true->nmFs 16 l=true
 | [],_=>rfl
 | t :: l,h=>by
  simp only[dD,ah]at h;simp only[nmFs,ah];exact ⟨ia t h.1,KG l h.2⟩
end
mutual
theorem Cv:∀ f,kJ 16 (bB f)=true->kJ 17 f=true
 | .mk o n a s,h=>by
  simp only[bB,kJ,ah,bx]at h ⊢;exact ⟨h.1,by omega,sw a h.2.2.1,zo s h.2.2.2⟩
theorem zo:∀ l,nmFs 16 (bT l)=true->nmFs 17 l=true
 | [],_=>rfl
 | t :: l,h=>by
  simp only[bT,nmFs,ah]at h ⊢;exact ⟨Cv t h.1,zo l h.2⟩
end
mutual
theorem Cw:∀ f,mr (bB f)=mr f
 | .mk o n a s=>by simp only[bB,mr,sx a,zp s]
theorem zp:∀ l,iq (bT l)=iq l
 | []=>rfl
 | t :: l=>by simp only[bT,iq,Cw t,zp l]
end
theorem wv:∀ s,(bT s).length=s.length
 | []=>rfl
 | t :: l=>by simp only[bT,fN,wv l]
mutual
theorem ww:∀ f,qone (bB f)=qone f
 | .mk o n a s=>by
  have h1:(bT s).length=s.length:=wv s;have h2:(bS a).isEmpty=a.isEmpty:=by cases a <;> rfl
  simp only[bB,qone,h1,h2,tJ s]
theorem tJ:∀ l,eO (bT l)=eO l
 | []=>rfl
 | t :: l=>by simp only[bT,eO,ww t,tJ l]
end
def goodT (t:Tm):Prop:=jZ false (aM t)=true/\nodesT t<=1000
def goodF (f:Fm):Prop:=dv (bB f)=true
theorem goodT.nm (h:goodT t):jw 17 t=true:=Ct t (Oy _ h.1)
theorem goodT.fit (h:goodT t):fitT t:=⟨by have:=h.2;omega,jC (by omega) t h.nm⟩
theorem goodT.args {v:Bool} (h:goodT (.mk v n a)):∀ u∈a,goodT u:=by
 intro u hu;obtain ⟨i,hi,rfl⟩:=List.getElem_of_mem hu;refine ⟨pI (bS a) i _ (yC h.1) (by rw[my];simp[hi]),?_⟩;have h2:=h.2;have:=gd hu;simp only[nodesT]at h2;omega
theorem goodF.ok (h:goodF f):okF false (bB f)=true:=by unfold goodF dv at h;simp only[ah]at h;exact h.1
theorem goodF.nodes (h:goodF f):nodesF f<=400:=by unfold goodF dv at h;simp only[ah,bx]at h;have:=(kE f).1;omega
theorem goodF.nm (h:goodF f):kJ 17 f=true:=Cv f (ia _ h.ok)
theorem goodF.fit (h:goodF f):fitF f:=⟨by have:=h.nodes;omega,gz (by omega) f h.nm⟩
theorem goodF.wf (h:goodF f):mr f=true:=by rw[<-Cw];exact Iq _ h.ok
theorem goodF.qone (h:goodF f):qone f=true:=by rw[<-ww];exact xK _ h.ok
theorem KH (hv:bL b=true):∀ x∈b.fs,goodF x.2/\dx x.1=true:=by
 intro x hx;simp only[bL,ah,List.all_eq_true]at hv;exact ⟨(hv.1.1 x hx).2,(hv.1.1 x hx).1⟩
theorem xO (hv:bL b=true) (hn:∀ x∈b.ts,nodesT x.2<=1000):∀ x∈b.ts,goodT x.2/\cP x.1=true:=by
 intro x hx;simp only[bL,ah,List.all_eq_true]at hv;exact ⟨⟨(hv.1.2 x hx).2,hn x hx⟩,(hv.1.2 x hx).1⟩
mutual
theorem lC:∀ (s f:Fm) (c:Sco),∀ p∈bA c s f,nodesF p.s<=nodesF s
 | .mk o n a l,.mk o' n' a' l',c,p,hp=>by
  unfold bA at hp;rcases cY.1 hp with rfl | hp
  ·exact aI _
  ·have:=zr l l' _ p hp;simp only[nodesF];omega
theorem zr:∀ (s f:List Fm) (c:Sco),∀ p∈aT c s f,nodesF p.s<=nodesFs s
 | [],_,c,p,hp=>by simp[aT]at hp
 | _ :: _,[],c,p,hp=>by simp[aT]at hp
 | t :: l,u :: m,c,p,hp=>by
  unfold aT at hp;simp only[nodesFs];rcases List.mem_append.1 hp with hp | hp
  ·have:=lC t u c p hp;omega
  ·have:=zr l m c p hp;omega
end
mutual
theorem pP:∀ (s f:Fm) (c:Sco),(bA c s f).length<=nodesF s
 | .mk o n a l,.mk o' n' a' l',c=>by
  have:=Cx l l' (if bU o then (n,n') :: c else c);unfold bA;simp only[fN,nodesF];omega
theorem Cx:∀ (s f:List Fm) (c:Sco),(aT c s f).length<=nodesFs s
 | [],_,c=>by simp[aT]
 | _ :: _,[],c=>by simp[aT]
 | t :: l,u :: m,c=>by
  have h1:=pP t u c;have h2:=Cx l m c;simp only[aT,dZ,nodesFs];omega
end
mutual
theorem Ry {x:Str} {u:Tm}:∀ t,nodesT (kB x u t)<=nodesT t * nodesT u
 | .mk v n a=>by
  have hu:=jg u;have ih:=zs (x:=x) (u:=u) a;unfold kB fR
  by_cases h:v=true/\n=x
  ·obtain ⟨rfl,rfl⟩:=h;simp only[↓reduceIte,beq_self_eq_true,nodesT];exact Nat.le_mul_of_pos_left _ (by omega)
  ·have h0:(if v=true then (if (n == x)=true then some u else none) else none)=none:=by
    by_cases hv:v=true
    ·have hn:(n == x)=false:=by simp;exact fun e=>h ⟨hv,e⟩
     simp[hv,hn]
    ·simp[hv]
   simp only[h0,nodesT,Nat.add_mul];rw[gH];have ih2:nodesTs (a.map (fR fun n=>if (n == x)=true then some u else none))<=nodesTs a * nodesT u:=ih;omega
theorem zs {x:Str} {u:Tm}:∀ l,nodesTs (el x u l)<=nodesTs l * nodesT u
 | []=>by simp[el,nodesTs]
 | t :: l=>by
  have h1:=Ry (x:=x) (u:=u) t;have h2:=zs (x:=x) (u:=u) l;simp only[el,cK,nodesTs,Nat.add_mul]at h2 ⊢;omega
end
theorem Oz {φ:Fm->Fm} {U:Nat}:∀ (s:List Fm),(∀ g∈s,nodesF (φ g)<=nodesF g * U)->nodesFs (s.map φ)<=nodesFs s * U
 | [],_=>by simp[nodesFs]
 | g :: s,h=>by
  have h1:=h g (fD ..);have h2:=Oz s (fun g hg=>h g (eV _ hg));simp only[cK,nodesFs,Nat.add_mul];omega
theorem tK:∀ (k:Nat) (f:Fm) (x:Str) (u:Tm),mr f=true->qone f=true->depthF f<=k->nodesF (eQ k x u f)<=nodesF f * nodesT u
 | 0,f,x,u,hw,hq,hd=>by have:=lB f;omega
 | k+1,.mk o n a s,x,u,hw,hq1,hd=>by
  have hu:=jg u;have pp132d:=();exact pm132
theorem tL (hf:goodF f) (hu:goodT u):fitF (iI x u f):=by
 have h1:=hf.nodes;have h2:=hu.2;have h3:=tK (depthF f) f x u hf.wf hf.qone (aI _);have h4:nodesF f * nodesT u<=400 * 1000:=Nat.mul_le_mul h1 h2;exact ⟨by unfold iI;omega,oa _ f x u hf.wf hf.qone (aI _) (by omega) hf.fit.2 hu.fit.2⟩
theorem wy:∀ (p:List Nat) (l:List Tm) (t:Tm),lI l p=some t->nodesT t<=nodesTs l
 | [],l,t,h=>by cases l <;> simp[lI]at h
 | [i],l,t,h=>by
  simp only[lI]at h;exact gd (List.mem_of_getElem? h)
 | i :: j :: r,l,t,h=>by
  simp only[lI]at h
  cases hi:l[i]? with
  | none=>rw[hi]at h;cases h
  | some u=>
   rw[hi]at h;have h1:=wy (j :: r) u.a t h;have h2:=gd (List.mem_of_getElem? hi);obtain ⟨v,n,a⟩:=u;simp only[Tm.a]at h1;simp only[nodesT]at h2;omega
theorem wA:∀ (p:List Nat) (f:Fm) (ins:List Str) (g:Fm) (qV:List Str),m_ f p ins=some (g,qV)->nodesF g<=nodesF f
 | [],f,ins,g,qV,h=>by simp only[m_,dN,Prod.mk.injEq]at h;rw[h.1];exact aI _
 | i :: r,f,ins,g,qV,h=>by
  simp only[m_]at h
  cases hi:f.s[i]? with
  | none=>rw[hi]at h;cases h
  | some u=>
   rw[hi]at h;have h1:=wA r u _ g qV h;have h2:=jn (List.mem_of_getElem? hi);obtain ⟨o,n,a,s⟩:=f;simp only[Fm.s]at h2;simp only[nodesF];omega
theorem I8 (g:Fm):nodesTs g.a<=nodesF g:=by
 obtain ⟨o,n,a,s⟩:=g;simp only[Fm.a,nodesF];omega
theorem Ge (h:gZ f im x=some t):nodesT t<=nodesF im:=by
 unfold gZ at h;split at h
 ·cases h
 ·split at h
  ·cases h
  ·rename_i hw;split at h
   ·cases h
   ·rename_i UH;split at h
    ·cases h
    ·cases h;have h1:=wA _ _ _ _ _ hw;have h2:=wy _ _ _ UH;exact aN h2 (aN (I8 _) h1)
theorem zt (hok:okF false (bB im)=true) (hn:nodesF im<=400) (h:gZ f im x=some t):goodT t:=⟨FK hok h,by have:=Ge h;omega⟩
theorem zu (hp:PlOk p) (h:ii p.c [] p.f=some im):goodF im:=Cc hp h
theorem Cy (hp:PlOk p) (ht:t∈p.f.a) (h:j4 p.c [] t=some u):goodT u:=by
 obtain ⟨s,⟨o,n,a,l⟩,c⟩:=p;have hf:=hp.f;have hn:=hp.n;simp only[Fm.a]at ht;simp only[okF,ah]at hf;simp only[nodesF]at hn;obtain ⟨i,hi,rfl⟩:=List.getElem_of_mem ht;have h1:=pI a i _ hf.2.2.2.1 (gx hi);obtain ⟨h2,h3,_⟩:=DK hp.c [] _ _ h1 h;have h4:=gd (aA hi);exact ⟨h2,by omega⟩
