/-
'equal' of package match: a term of the schema and an image.
What is right is not too great: bounds on names and nodes for what bindings and schemas hold.
-/
import Derived.Test.YtokemihbkeddoaaGreatDoorU00
import Derived.Test.YtokemihbkeddoaaGreatDoorU16
import Derived.Test.YtokemihbkeddoaaGreatDoorU17
import Derived.Test.YtokemihbkeddoaaGreatDoorU07
import Derived.Test.YtokemihbkeddoaaGreatDoorU02
import Derived.Test.YtokemihbkeddoaaGreatDoorU08
namespace Go.Proofs.YtokemihbkeddoaaGreatDoor
open Go Go.RowKit Lib
set_option maxRecDepth 100000
set_option maxHeartbeats 64000000
section
attribute [local go_sem] Oper.semAt_some
theorem TermV.kpM {M M':Nat->Prop} {W W':World} {v:Value} {t:Tm} (h:TermV (fun b=>¬M b) W v t) (hk:Kp M' W W') (hM:∀ b,M' b->M b):TermV (fun b=>¬M b) W' v t:=h.move (fun b hb hlt=>⟨hb,hk.same b hlt (fun h=>hb (hM b h))⟩)
theorem TermsV.kpM {M M':Nat->Prop} {W W':World} {v:Value} {t:List Tm} (h:TermsV (fun b=>¬M b) W v t) (hk:Kp M' W W') (hM:∀ b,M' b->M b):TermsV (fun b=>¬M b) W' v t:=h.move (fun b hb hlt=>⟨hb,hk.same b hlt (fun h=>hb (hM b h))⟩)
theorem FormV.kpM {M M':Nat->Prop} {W W':World} {v:Value} {t:Fm} (h:FormV (fun b=>¬M b) W v t) (hk:Kp M' W W') (hM:∀ b,M' b->M b):FormV (fun b=>¬M b) W' v t:=h.move (fun b hb hlt=>⟨hb,hk.same b hlt (fun h=>hb (hM b h))⟩)
theorem ym {α:Type} {n:Str} {v:α} {l:List (Str×α)} (h:getB l n=none) (y:Str):getB (gw n v l) y=if y=n then some v else getB l y:=by
 rw[D6 n _ _ h y]
 by_cases e:y=n
 ·subst e;simp
 ·rw[if_neg e,if_neg (fun b=>e (eq_of_beq b).symm)]
theorem nh {a:List Tm} {j:Nat} (h:j<a.length):ac (a.take j)+nodesT a[j]=ac (a.take (j+1))/\ac (a.take (j+1))<=ac a:=by
 induction a generalizing j with
 | nil=>simp at h
 | cons t a ih=>
  cases j with
  | zero=>simp[ac]
  | succ j=>have:=ih (j:=j) (by simpa using h);simp[ac]at this ⊢;omega
theorem MO {n:Str} (h:n.length<=1999999):fitT (ap (cH n)):=by
 refine ⟨by unfold ap nodesT ac;omega,?_⟩
 unfold ap iS dF cH
 simp;omega
def EqA (q:PlQ) (ps:List (Str×Str)) (PF:Fm->Prop) (PT:Tm->Prop) (M:Nat->Prop) (kb mF mT:Nat) (t:Tm):Prop:=
 ∀ im,PT im->∀ (W:World) (nF nT:Nat) (k:Bd) (tq uq:TQ),KnV (fun b=>¬M b) PF PT W kb mF mT nF nT k->nT+nodesT t<=3000000->PairsN M W (.slice q.a q.l q.c) ps->TermV (fun b=>¬M b) W tq.val t->TermV (fun b=>¬M b) W uq.val im →
  Calls Tryz.prog 95 #[.pointer (some ⟨kb,0,none⟩),q.val,tq.val,uq.val] W fun e W'=>Kp (fun b=>b=mT) W W'/\∃r:Bool,e=.returned (.bool r) ∧
   (gT (ps.reverse.map (·.1)) k.ts t im=none->r=false)/\∀ ts,gT (ps.reverse.map (·.1)) k.ts t im=some ts->r=true/\∃r',r'<=nT+nodesT t/\KnV (fun b=>¬M b) PF PT W' kb mF mT nF r' ⟨k.fs,ts⟩
theorem Ke (q:PlQ) (ps:List (Str×Str)) (kP:ps.length<=1000000) (PF:Fm->Prop) (PT:Tm->Prop) (Rz:∀ t,PT t->fitT t) (hPA:∀ v n a,PT (.mk v n a)->∀ u∈a,PT u) (M:Nat->Prop) (kb mF mT:Nat) (OM:M mT) (ON:M mF) (OO:¬M kb) :
  ∀ t,fitT t->iS 1999999 t=true->EqA q ps PF PT M kb mF mT t:=by
 have HG:=pI kP Rz hPA OM ON OO
 clear kP Rz hPA OM ON OO
 have pp190b:=();exact pm190
end
theorem gM {f o:UInt8->Bool} {s:Str} (h:oe f o s=true):s.length<=16:=by
 cases s with
 | nil=>simp
 | cons c r=>simp only[oe,Bool.and_eq_true,decide_eq_true_eq]at h;simp;omega
theorem fK {s:Str} (h:cG s=true):s.length<=16:=by
 simp only[cG,Bool.and_eq_true,decide_eq_true_eq]at h;exact h.1
theorem yp {s:Str} (h:dp s=true):s.length<=16:=by
 simp only[dp,Bool.and_eq_true,decide_eq_true_eq]at h;exact h.1
mutual
theorem MS {sc:Bool}:∀ t,iX sc t=true->iS 16 t=true
 | .mk v n a,h=>by
  simp only[iX]at h
  cases v with
  | true=>
   simp only[↓reduceIte,Bool.and_eq_true,Bool.or_eq_true]at h
   obtain rfl:a=[]:=by simpa using h.1
   simp only[iS,dF,Bool.and_true,decide_eq_true_eq]
   rcases h.2 with h | h
   ·exact gM h
   ·exact fK h.2
  | false=>
   have pp264c:=();exact pm264
theorem Co {sc:Bool}:∀ l,dO sc l=true->dF 16 l=true
 | [],_=>rfl
 | t :: l,h=>by
  simp only[dO,Bool.and_eq_true]at h
  simp only[dF,Bool.and_eq_true]
  exact ⟨MS t h.1,Co l h.2⟩
end
mutual
theorem Bb:∀ t,iS 16 (aK t)=true->iS 17 t=true
 | .mk v n a,h=>by
  simp only[aK,iS,Bool.and_eq_true,decide_eq_true_eq]at h ⊢
  refine ⟨?_,qQ a h.2⟩
  have h1:=h.1
  split at h1
  ·simp at h1;omega
  ·omega
theorem qQ:∀ l,dF 16 (bI l)=true->dF 17 l=true
 | [],_=>rfl
 | t :: l,h=>by
  simp only[bI,dF,Bool.and_eq_true]at h ⊢
  exact ⟨Bb t h.1,qQ l h.2⟩
end
mutual
theorem Bc:∀ t,lL (aK t)=lL t
 | .mk v n a=>by
  have h:(bI a).isEmpty=a.isEmpty:=by cases a <;> rfl
  simp only[aK,lL,h,qR a]
theorem qR:∀ l,eb (bI l)=eb l
 | []=>rfl
 | t :: l=>by simp only[bI,eb,Bc t,qR l]
end
theorem Kf {o:Int} {sc:Bool} (h:((rowOp o).1 || (sc && (rowOp o).2.1))=true):0<=o/\o<=255:=by
 unfold rowOp at h
 by_cases h1:o=1
 ·omega
 by_cases h2:o=2
 ·omega
 by_cases h3:o=8\/o=9
 ·omega
 by_cases h4:o=3\/(10<=o/\o<=13)
 ·omega
 by_cases h5:(4<=o/\o<=7)\/o=14
 ·omega
 by_cases h6:o=15
 ·omega
 by_cases h7:o=16
 ·omega
 simp[h1,h2,h3,h4,h5,h6,h7]at h
theorem Kg {k:Nat} {s:Str} (h:oh k s=true):s.length<=16:=by
 unfold oh at h
 split at h
 ·exact gM h
 ·exact gM h
 ·exact yp h
 ·simp at h;simp[h]
mutual
theorem gB {sc:Bool}:∀ f,okF sc f=true->ks 16 f=true
 | .mk o n a s,h=>by
  simp only[okF]at h
  rw[Bool.and_eq_true,Bool.and_eq_true,Bool.and_eq_true,Bool.and_eq_true,Bool.and_eq_true,Bool.and_eq_true]at h
  simp only[ks,Bool.and_eq_true,decide_eq_true_eq]
  exact ⟨Kf h.1,Kg h.2.1.1,Co a h.2.2.2.1,I6 s h.2.2.2.2⟩
theorem I6 {sc:Bool}:∀ l,cX sc l=true->fd 16 l=true
 | [],_=>rfl
 | t :: l,h=>by
  simp only[cX,Bool.and_eq_true]at h
  simp only[fd,Bool.and_eq_true]
  exact ⟨gB t h.1,I6 l h.2⟩
end
mutual
theorem Be:∀ f,ks 16 (bm f)=true->ks 17 f=true
 | .mk o n a s,h=>by
  simp only[bm,ks,Bool.and_eq_true,decide_eq_true_eq]at h ⊢
  exact ⟨h.1,by omega,qQ a h.2.2.1,yq s h.2.2.2⟩
theorem yq:∀ l,fd 16 (bJ l)=true->fd 17 l=true
 | [],_=>rfl
 | t :: l,h=>by
  simp only[bJ,fd,Bool.and_eq_true]at h ⊢
  exact ⟨Be t h.1,yq l h.2⟩
end
mutual
theorem Bf:∀ f,iF (bm f)=iF f
 | .mk o n a s=>by simp only[bm,iF,qR a,yr s]
theorem yr:∀ l,eF (bJ l)=eF l
 | []=>rfl
 | t :: l=>by simp only[bJ,eF,Bf t,yr l]
end
theorem uP:∀ s,(bJ s).length=s.length
 | []=>rfl
 | t :: l=>by simp only[bJ,List.length_cons,uP l]
mutual
theorem uQ:∀ f,qone (bm f)=qone f
 | .mk o n a s=>by
  have h1:(bJ s).length=s.length:=uP s
  have h2:(bI a).isEmpty=a.isEmpty:=by cases a <;> rfl
  simp only[bm,qone,h1,h2,r_ s]
theorem r_:∀ l,en (bJ l)=en l
 | []=>rfl
 | t :: l=>by simp only[bJ,en,uQ t,r_ l]
end
def goodT (t:Tm):Prop:=iX false (aK t)=true/\nodesT t<=1000
def goodF (f:Fm):Prop:=bP (bm f)=true
theorem goodT.nm {t:Tm} (h:goodT t):iS 17 t=true:=Bb t (MS _ h.1)
theorem goodT.fit {t:Tm} (h:goodT t):fitT t:=⟨by have:=h.2;omega,lh (by omega) t h.nm⟩
theorem goodT.args {v:Bool} {n:Str} {a:List Tm} (h:goodT (.mk v n a)):∀ u∈a,goodT u:=by
 intro u hu
 obtain ⟨i,hi,rfl⟩:=List.getElem_of_mem hu
 refine ⟨oC (bI a) i _ (xh h.1) (by rw[lU];simp[hi]),?_⟩
 have h2:=h.2
 have:=fA hu
 simp only[nodesT]at h2
 omega
theorem goodF.ok {f:Fm} (h:goodF f):okF false (bm f)=true:=by unfold goodF bP at h;simp only[Bool.and_eq_true]at h;exact h.1
theorem goodF.nodes {f:Fm} (h:goodF f):nodesF f<=400:=by unfold goodF bP at h;simp only[Bool.and_eq_true,decide_eq_true_eq]at h;have:=(jU f).1;omega
theorem goodF.nm {f:Fm} (h:goodF f):ks 17 f=true:=Be f (gB _ h.ok)
theorem goodF.fit {f:Fm} (h:goodF f):fitF f:=⟨by have:=h.nodes;omega,jR (by omega) f h.nm⟩
theorem goodF.wf {f:Fm} (h:goodF f):iF f=true:=by rw[<-Bf];exact qG _ h.ok
theorem goodF.qone {f:Fm} (h:goodF f):qone f=true:=by rw[<-uQ];exact rI _ h.ok
theorem PG {b:Bd} (hv:bU b=true):∀ x∈b.fs,goodF x.2/\dp x.1=true:=by
 intro x hx
 simp only[bU,Bool.and_eq_true,List.all_eq_true]at hv
 exact ⟨(hv.1.1 x hx).2,(hv.1.1 x hx).1⟩
theorem Cp {b:Bd} (hv:bU b=true) (hn:∀ x∈b.ts,nodesT x.2<=1000):∀ x∈b.ts,goodT x.2/\cG x.1=true:=by
 intro x hx
 simp only[bU,Bool.and_eq_true,List.all_eq_true]at hv
 exact ⟨⟨(hv.1.2 x hx).2,hn x hx⟩,(hv.1.2 x hx).1⟩
mutual
theorem kW:∀ (s f:Fm) (c:Sco),∀ p∈bE c s f,nodesF p.s<=nodesF s
 | .mk o n a l,.mk o' n' a' l',c,p,hp=>by
  unfold bE at hp
  rcases List.mem_cons.1 hp with rfl | hp
  ·exact Nat.le_refl _
  ·have:=yt l l' _ p hp
   simp only[nodesF];omega
theorem yt:∀ (s f:List Fm) (c:Sco),∀ p∈aT c s f,nodesF p.s<=ah s
 | [],_,c,p,hp=>by simp[aT]at hp
 | _ :: _,[],c,p,hp=>by simp[aT]at hp
 | t :: l,u :: m,c,p,hp=>by
  unfold aT at hp
  simp only[ah]
  rcases List.mem_append.1 hp with hp | hp
  ·have:=kW t u c p hp;omega
  ·have:=yt l m c p hp;omega
end
mutual
theorem oM:∀ (s f:Fm) (c:Sco),(bE c s f).length<=nodesF s
 | .mk o n a l,.mk o' n' a' l',c=>by
  have:=Bg l l' (if bn o then (n,n') :: c else c)
  unfold bE
  simp only[List.length_cons,nodesF];omega
theorem Bg:∀ (s f:List Fm) (c:Sco),(aT c s f).length<=ah s
 | [],_,c=>by simp[aT]
 | _ :: _,[],c=>by simp[aT]
 | t :: l,u :: m,c=>by
  have h1:=oM t u c
  have h2:=Bg l m c
  simp only[aT,List.length_append,ah];omega
end
end Go.Proofs.YtokemihbkeddoaaGreatDoor
