/-
'equal' of package match.
-/
import Derived.Test.YtokemihbkeddoaaGreatDoorV08
namespace Go.Proofs.YtokemihbkeddoaaGreatDoor
open Go Go.RowKit Lib
set_option maxRecDepth 100000
set_option maxHeartbeats 64000000
variable {M M':Nat->Prop} {W W':World} {v:Value} {t u:Tm} {n s x:Str} {a:List Tm} {sc:Bool} {f im:Fm} {b:Bd} {p:Pl}
section
attribute [local go_sem] Oper.semAt_some
theorem TermV.kpM (h:TermV (fun b=>¬M b) W v t) (hk:Kp M' W W') (hM:∀ b,M' b->M b):TermV (fun b=>¬M b) W' v t:=h.move (fun b hb hlt=>⟨hb,hk.same b hlt (fun h=>hb (hM b h))⟩)
theorem TermsV.kpM {t:List Tm} (h:TermsV (fun b=>¬M b) W v t) (hk:Kp M' W W') (hM:∀ b,M' b->M b):TermsV (fun b=>¬M b) W' v t:=h.move (fun b hb hlt=>⟨hb,hk.same b hlt (fun h=>hb (hM b h))⟩)
theorem FormV.kpM {t:Fm} (h:FormV (fun b=>¬M b) W v t) (hk:Kp M' W W') (hM:∀ b,M' b->M b):FormV (fun b=>¬M b) W' v t:=h.move (fun b hb hlt=>⟨hb,hk.same b hlt (fun h=>hb (hM b h))⟩)
theorem zT {α:Type} {v:α} {l:List (Str×α)} (h:getB l n=none) (y:Str):getB (iE n v l) y=if y=n then some v else getB l y:=by
 rw[Gb n _ _ h y]
 by_cases e:y=n
 ·subst e;simp
 ·rw[aD e,aD (fun b=>e (eq_of_beq b).symm)]
theorem oW {j:Nat} (h:j<a.length):nodesTs (a.take j)+nodesT a[j]=nodesTs (a.take (j+1))/\nodesTs (a.take (j+1))<=nodesTs a:=by
 induction a generalizing j with
 | nil=>simp at h
 | cons t a ih=>
  cases j with
  | zero=>simp[nodesTs]
  | succ j=>have:=ih (j:=j) (by simpa using h);simp[nodesTs]at this ⊢;omega
theorem PO (h:n.length<=1999999):fitT (am (cM n)):=by
 refine ⟨by unfold am nodesT nodesTs;omega,?_⟩;unfold am jN nmTs cM;simp;omega
def EqA (q:PlQ) (ps:List (Str×Str)) (PF:Fm->Prop) (PT:Tm->Prop) (M:Nat->Prop) (kb mF mT:Nat) (t:Tm):Prop:=
 ∀ im,PT im->∀ (W:World) (nF nT:Nat) (k:Bd) (tq uq:TQ),KnV (fun b=>¬M b) PF PT W kb mF mT nF nT k->nT+nodesT t<=3000000->PairsN M W (.slice q.a q.l q.c) ps->TermV (fun b=>¬M b) W tq.val t->TermV (fun b=>¬M b) W uq.val im →
  Calls Tryz.prog 95 #[.pointer (some ⟨kb,0,none⟩),q.val,tq.val,uq.val] W fun e W'=>Kp (fun b=>b=mT) W W'/\∃r:Bool,e=.returned (.bool r) ∧
   (i9 (ps.reverse.map (·.1)) k.ts t im=none->r=false)/\∀ ts,i9 (ps.reverse.map (·.1)) k.ts t im=some ts->r=true/\∃uC,uC<=nT+nodesT t/\KnV (fun b=>¬M b) PF PT W' kb mF mT nF uC ⟨k.fs,ts⟩
theorem M6 (q:PlQ) (ps:List (Str×Str)) (lJ:ps.length<=1000000) (PF:Fm->Prop) (PT:Tm->Prop) (UX:∀ t,PT t->fitT t) (hPA:∀ v n a,PT (.mk v n a)->∀ u∈a,PT u) (M:Nat->Prop) (kb mF mT:Nat) (R4:M mT) (R5:M mF) (R6:¬M kb) :
  ∀ t,fitT t->jN 1999999 t=true->EqA q ps PF PT M kb mF mT t:=by
 have HG:=rK lJ UX hPA R4 R5 R6;clear lJ UX hPA R4 R5 R6;have pp166b:=();exact pm166
end
theorem iO {f o:UInt8->Bool} (h:rY f o s=true):s.length<=16:=by
 cases s with
 | nil=>simp
 | cons c r=>simp only[rY,ae,bw]at h;simp;omega
theorem gp (h:cW s=true):s.length<=16:=by
 simp only[cW,ae,bw]at h;exact h.1
theorem zV (h:dA s=true):s.length<=16:=by
 simp only[dA,ae,bw]at h;exact h.1
mutual
theorem PS:∀ t,gw sc t=true->jN 16 t=true
 | .mk v n a,h=>by
  simp only[gw]at h
  cases v with
  | true=>
   simp only[↓reduceIte,ae,Bool.or_eq_true]at h;obtain rfl:a=[]:=by simpa using h.1
   simp only[jN,nmTs,Bool.and_true,bw];rcases h.2 with h | h
   ·exact iO h
   ·exact gp h.2
  | false=>
   simp only[bZ,↓reduceIte,ae]at h;simp only[jN,ae,bw];exact ⟨iO h.2.1,ED a h.2.2⟩
theorem ED:∀ l,dB sc l=true->nmTs 16 l=true
 | [],_=>rfl
 | t :: l,h=>by
  simp only[dB,ae]at h;simp only[nmTs,ae];exact ⟨PS t h.1,ED l h.2⟩
end
mutual
theorem Dq:∀ t,jN 16 (aM t)=true->jN 17 t=true
 | .mk v n a,h=>by
  simp only[aM,jN,ae,bw]at h ⊢;refine ⟨?_,sY a h.2⟩;have h1:=h.1;split at h1
  ·simp at h1;omega
  ·omega
theorem sY:∀ l,nmTs 16 (bU l)=true->nmTs 17 l=true
 | [],_=>rfl
 | t :: l,h=>by
  simp only[bU,nmTs,ae]at h ⊢;exact ⟨Dq t h.1,sY l h.2⟩
end
mutual
theorem Dr:∀ t,pG (aM t)=pG t
 | .mk v n a=>by
  have h:(bU a).isEmpty=a.isEmpty:=by cases a <;> rfl
  simp only[aM,pG,h,sZ a]
theorem sZ:∀ l,fR (bU l)=fR l
 | []=>rfl
 | t :: l=>by simp only[bU,fR,Dr t,sZ l]
end
theorem M7 {o:Int} (h:((rowOp o).1 || (sc && (rowOp o).2.1))=true):0<=o/\o<=255:=by
 unfold rowOp at h
 by_cases h1:o=1
 ·omega
 by_cases h2:o=2
 ·omega
 by_cases h3:o=8\/o=9
 ·omega
 by_cases h4:o=3\/(10<=o/\o<=13)
 ·omega
 by_cases h5:(4<=o/\o<=7)\/o=14
 ·omega
 by_cases h6:o=15
 ·omega
 by_cases h7:o=16
 ·omega
 simp[h1,h2,h3,h4,h5,h6,h7]at h
theorem M8 {k:Nat} (h:oA k s=true):s.length<=16:=by
 unfold oA at h;split at h
 ·exact iO h
 ·exact iO h
 ·exact zV h
 ·simp at h;simp[h]
mutual
theorem iu:∀ f,okF sc f=true->kT 16 f=true
 | .mk o n a s,h=>by
  simp only[okF]at h;rw[ae,ae,ae,ae,ae,ae]at h;simp only[kT,ae,bw];exact ⟨M7 h.1,M8 h.2.1.1,ED a h.2.2.2.1,LI s h.2.2.2.2⟩
theorem LI:∀ l,cG sc l=true->nmFs 16 l=true
 | [],_=>rfl
 | t :: l,h=>by
  simp only[cG,ae]at h;simp only[nmFs,ae];exact ⟨iu t h.1,LI l h.2⟩
end
mutual
theorem Du:∀ f,kT 16 (bC f)=true->kT 17 f=true
 | .mk o n a s,h=>by
  simp only[bC,kT,ae,bw]at h ⊢;exact ⟨h.1,by omega,sY a h.2.2.1,zW s h.2.2.2⟩
theorem zW:∀ l,nmFs 16 (bV l)=true->nmFs 17 l=true
 | [],_=>rfl
 | t :: l,h=>by
  simp only[bV,nmFs,ae]at h ⊢;exact ⟨Du t h.1,zW l h.2⟩
end
mutual
theorem Dv:∀ f,lL (bC f)=lL f
 | .mk o n a s=>by simp only[bC,lL,sZ a,zX s]
theorem zX:∀ l,gG (bV l)=gG l
 | []=>rfl
 | t :: l=>by simp only[bV,gG,Dv t,zX l]
end
theorem xk:∀ s,(bV s).length=s.length
 | []=>rfl
 | t :: l=>by simp only[bV,fF,xk l]
mutual
theorem xq:∀ f,qone (bC f)=qone f
 | .mk o n a s=>by
  have h1:(bV s).length=s.length:=xk s;have h2:(bU a).isEmpty=a.isEmpty:=by cases a <;> rfl
  simp only[bC,qone,h1,h2,uD s]
theorem uD:∀ l,ep (bV l)=ep l
 | []=>rfl
 | t :: l=>by simp only[bV,ep,xq t,uD l]
end
def goodT (t:Tm):Prop:=gw false (aM t)=true/\nodesT t<=1000
def goodF (f:Fm):Prop:=dn (bC f)=true
theorem goodT.nm (h:goodT t):jN 17 t=true:=Dq t (PS _ h.1)
theorem goodT.fit (h:goodT t):fitT t:=⟨by have:=h.2;omega,jW (by omega) t h.nm⟩
theorem goodT.args {v:Bool} (h:goodT (.mk v n a)):∀ u∈a,goodT u:=by
 intro u hu;obtain ⟨i,hi,rfl⟩:=List.getElem_of_mem hu;refine ⟨qC (bU a) i _ (zg h.1) (by rw[mU];simp[hi]),?_⟩;have h2:=h.2;have:=f8 hu;simp only[nodesT]at h2;omega
theorem goodF.ok (h:goodF f):okF false (bC f)=true:=by unfold goodF dn at h;simp only[ae]at h;exact h.1
theorem goodF.nodes (h:goodF f):nodesF f<=400:=by unfold goodF dn at h;simp only[ae,bw]at h;have:=(kW f).1;omega
theorem goodF.nm (h:goodF f):kT 17 f=true:=Du f (iu _ h.ok)
theorem goodF.fit (h:goodF f):fitF f:=⟨by have:=h.nodes;omega,jX (by omega) f h.nm⟩
theorem goodF.wf (h:goodF f):lL f=true:=by rw[<-Dv];exact Jj _ h.ok
theorem goodF.qone (h:goodF f):qone f=true:=by rw[<-xq];exact tX _ h.ok
theorem S4 (hv:validB b=true):∀ x∈b.fs,goodF x.2/\dA x.1=true:=by
 intro x hx;simp only[validB,ae,List.all_eq_true]at hv;exact ⟨(hv.1.1 x hx).2,(hv.1.1 x hx).1⟩
theorem EE (hv:validB b=true) (hn:∀ x∈b.ts,nodesT x.2<=1000):∀ x∈b.ts,goodT x.2/\cW x.1=true:=by
 intro x hx;simp only[validB,ae,List.all_eq_true]at hv;exact ⟨⟨(hv.1.2 x hx).2,hn x hx⟩,(hv.1.2 x hx).1⟩
mutual
theorem l8:∀ (s f:Fm) (c:Sco),∀ p∈bJ c s f,nodesF p.s<=nodesF s
 | .mk o n a l,.mk o' n' a' l',c,p,hp=>by
  unfold bJ at hp;rcases dw.1 hp with rfl | hp
  ·exact aF _
  ·have:=zY l l' _ p hp;simp only[nodesF];omega
theorem zY:∀ (s f:List Fm) (c:Sco),∀ p∈aU c s f,nodesF p.s<=nodesFs s
 | [],_,c,p,hp=>by simp[aU]at hp
 | _ :: _,[],c,p,hp=>by simp[aU]at hp
 | t :: l,u :: m,c,p,hp=>by
  unfold aU at hp;simp only[nodesFs];rcases List.mem_append.1 hp with hp | hp
  ·have:=l8 t u c p hp;omega
  ·have:=zY l m c p hp;omega
end
mutual
theorem qL:∀ (s f:Fm) (c:Sco),(bJ c s f).length<=nodesF s
 | .mk o n a l,.mk o' n' a' l',c=>by
  have:=Dw l l' (if bD o then (n,n') :: c else c);unfold bJ;simp only[fF,nodesF];omega
theorem Dw:∀ (s f:List Fm) (c:Sco),(aU c s f).length<=nodesFs s
 | [],_,c=>by simp[aU]
 | _ :: _,[],c=>by simp[aU]
 | t :: l,u :: m,c=>by
  have h1:=qL t u c;have h2:=Dw l m c;simp only[aU,di,nodesFs];omega
end
mutual
theorem S5 {x:Str} {u:Tm}:∀ t,nodesT (iB x u t)<=nodesT t * nodesT u
 | .mk v n a=>by
  have hu:=jy u;have ih:=zZ (x:=x) (u:=u) a;unfold iB eT
  by_cases h:v=true/\n=x
  ·obtain ⟨rfl,rfl⟩:=h;simp only[↓reduceIte,beq_self_eq_true,nodesT];exact Nat.le_mul_of_pos_left _ (by omega)
  ·have h0:(if v=true then (if (n == x)=true then some u else none) else none)=none:=by
    by_cases hv:v=true
    ·have hn:(n == x)=false:=by simp;exact fun e=>h ⟨hv,e⟩
     simp[hv,hn]
    ·simp[hv]
   simp only[h0,nodesT,Nat.add_mul];rw[eZ];have ih2:nodesTs (a.map (eT fun n=>if (n == x)=true then some u else none))<=nodesTs a * nodesT u:=ih;omega
theorem zZ {x:Str} {u:Tm}:∀ l,nodesTs (dF x u l)<=nodesTs l * nodesT u
 | []=>by simp[dF,nodesTs]
 | t :: l=>by
  have h1:=S5 (x:=x) (u:=u) t;have h2:=zZ (x:=x) (u:=u) l;simp only[dF,cU,nodesTs,Nat.add_mul]at h2 ⊢;omega
end
theorem PU {φ:Fm->Fm} {U:Nat}:∀ (s:List Fm),(∀ g∈s,nodesF (φ g)<=nodesF g * U)->nodesFs (s.map φ)<=nodesFs s * U
 | [],_=>by simp[nodesFs]
 | g :: s,h=>by
  have h1:=h g (ij ..);have h2:=PU s (fun g hg=>h g (iU _ hg));simp only[cU,nodesFs,Nat.add_mul];omega
theorem uE:∀ (k:Nat) (f:Fm) (x:Str) (u:Tm),lL f=true->qone f=true->depthF f<=k->nodesF (eD k x u f)<=nodesF f * nodesT u
 | 0,f,x,u,hw,hq,hd=>by have:=kG f;omega
 | k+1,.mk o n a s,x,u,hw,hq1,hd=>by
  have hu:=jy u;have pp136d:=();exact pm136
theorem uF (hf:goodF f) (hu:goodT u):fitF (iD x u f):=by
 have h1:=hf.nodes;have h2:=hu.2;have h3:=uE (depthF f) f x u hf.wf hf.qone (aF _);have h4:nodesF f * nodesT u<=400 * 1000:=Nat.mul_le_mul h1 h2;exact ⟨by unfold iD;omega,oU _ f x u hf.wf hf.qone (aF _) (by omega) hf.fit.2 hu.fit.2⟩
theorem xr:∀ (p:List Nat) (l:List Tm) (t:Tm),mh l p=some t->nodesT t<=nodesTs l
 | [],l,t,h=>by cases l <;> simp[mh]at h
 | [i],l,t,h=>by
  simp only[mh]at h;exact f8 (List.mem_of_getElem? h)
 | i :: j :: r,l,t,h=>by
  simp only[mh]at h
  cases hi:l[i]? with
  | none=>rw[hi]at h;cases h
  | some u=>
   rw[hi]at h;have h1:=xr (j :: r) u.a t h;have h2:=f8 (List.mem_of_getElem? hi);obtain ⟨v,n,a⟩:=u;simp only[Tm.a]at h1;simp only[nodesT]at h2;omega
theorem xw:∀ (p:List Nat) (f:Fm) (ins:List Str) (g:Fm) (rN:List Str),nO f p ins=some (g,rN)->nodesF g<=nodesF f
 | [],f,ins,g,rN,h=>by simp only[nO,gz,Prod.mk.injEq]at h;rw[h.1];exact aF _
 | i :: r,f,ins,g,rN,h=>by
  simp only[nO]at h
  cases hi:f.s[i]? with
  | none=>rw[hi]at h;cases h
  | some u=>
   rw[hi]at h;have h1:=xw r u _ g rN h;have h2:=e9 (List.mem_of_getElem? hi);obtain ⟨o,n,a,s⟩:=f;simp only[Fm.s]at h2;simp only[nodesF];omega
theorem JZ (g:Fm):nodesTs g.a<=nodesF g:=by
 obtain ⟨o,n,a,s⟩:=g;simp only[Fm.a,nodesF];omega
theorem GN (h:jU f im x=some t):nodesT t<=nodesF im:=by
 unfold jU at h;split at h
 ·cases h
 ·split at h
  ·cases h
  ·rename_i hw;split at h
   ·cases h
   ·rename_i I1;split at h
    ·cases h
    ·cases h;have h1:=xw _ _ _ _ _ hw;have h2:=xr _ _ _ I1;exact aQ h2 (aQ (JZ _) h1)
theorem J0 (hok:okF false (bC im)=true) (hn:nodesF im<=400) (h:jU f im x=some t):goodT t:=⟨Gi hok h,by have:=GN h;omega⟩
theorem GO (hp:PlOk p) (h:kv p.c [] p.f=some im):goodF im:=C8 hp h
theorem M9 (hp:PlOk p) (ht:t∈p.f.a) (h:lD p.c [] t=some u):goodT u:=by
 obtain ⟨s,⟨o,n,a,l⟩,c⟩:=p;have hf:=hp.f;have hn:=hp.n;simp only[Fm.a]at ht;simp only[okF,ae]at hf;simp only[nodesF]at hn;obtain ⟨i,hi,rfl⟩:=List.getElem_of_mem ht;have h1:=qC a i _ hf.2.2.2.1 (gy hi);obtain ⟨h2,h3,_⟩:=Ee hp.c [] _ _ h1 h;have h4:=f8 (az hi);exact ⟨h2,by omega⟩
