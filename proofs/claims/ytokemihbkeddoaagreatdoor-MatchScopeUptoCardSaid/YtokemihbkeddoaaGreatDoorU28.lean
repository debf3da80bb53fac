/-
'Valid' of package match.
What 'Matches' of package match needs: the runs over places,place by place;what a range's own books keep.
A scope through which the run goes without a goto,and a label,inside a fence.
-/
import Derived.Test.YtokemihbkeddoaaGreatDoorU00
import Derived.Test.YtokemihbkeddoaaGreatDoorU16
import Derived.Test.YtokemihbkeddoaaGreatDoorU27
import Derived.Test.YtokemihbkeddoaaGreatDoorU08
import Derived.Test.YtokemihbkeddoaaGreatDoorU25
import Derived.Test.YtokemihbkeddoaaGreatDoorU26
import Derived.ControlIn
import Derived.WalkMore
namespace Go.Proofs.YtokemihbkeddoaaGreatDoor
open Go Go.RowKit Lib
set_option maxRecDepth 100000
set_option maxHeartbeats 64000000
section
attribute [local go_sem] Oper.semAt_some
theorem Fl {ok:Nat->Prop} {W:World} {v:Value} {l:List Str} (h:StrsO ok W v l):StrsV W v l:=by
 obtain ⟨a,c,hv,hc,h⟩:=h
 refine ⟨a,c,hv,hc,?_⟩
 rcases h with h | ⟨b,off,ha,_,h⟩
 ·exact .inl h
 ·exact .inr ⟨b,off,ha,h⟩
theorem KJ (W0:World) (b:Bd) (hF:b.fs.length<=1000000) (hT:b.ts.length<=1000000) (pN:∀ x∈b.fs,x.1.length<=2000000/\fitF x.2/\fitF (bm x.2)) (oA:∀ x∈b.ts,x.1.length<=2000000/\fitT x.2/\fitT (aK x.2)) (ok:Nat->Prop) (w:World) (ht:Tabs W0 w) (q:BQ) (hq:BindV ok w q b) :
  Calls Tryz.prog 27 #[q.val] w fun e w'=>e=.returned (.bool (bU b))/\Below w.heap.size w w':=by
 exact pm193
end
theorem ug {step:Bd->Pl->Bd×Int}:∀ (l:List Pl) (k k':Bd) (x:Pl),j9 step k l=(k',0)->j9 step k (l ++ [x])=step k' x
 | [],k,k',x,h=>by
  simp only[j9,Prod.mk.injEq,and_true]at h
  subst h
  simp only[List.nil_append,j9]
  cases hs:step k x with
  | mk k1 e=>
   simp only
   split
   ·rename_i he;rw[he]
   ·rfl
 | p :: l,k,k',x,h=>by
  simp only[List.cons_append,j9]at h ⊢
  cases hs:step k p with
  | mk k1 e=>
   rw[hs]at h
   simp only at h ⊢
   by_cases he:e=0
   ·rw[if_pos he]at h ⊢;exact ug l k1 k' x h
   ·rw[if_neg he]at h
    simp only[Prod.mk.injEq]at h
    exact absurd h.2 he
theorem oY {step:Bd->Pl->Bd×Int}:∀ (l m:List Pl) (k k':Bd) (e:Int),e≠0->j9 step k l=(k',e)->j9 step k (l ++ m)=(k',e)
 | [],m,k,k',e,he,h=>by
  simp only[j9,Prod.mk.injEq]at h
  exact absurd h.2.symm he
 | p :: l,m,k,k',e,he,h=>by
  simp only[List.cons_append,j9]at h ⊢
  cases hs:step k p with
  | mk k1 e1=>
   rw[hs]at h
   simp only at h ⊢
   by_cases he1:e1=0
   ·rw[if_pos he1]at h ⊢;exact oY l m k1 k' e he h
   ·rw[if_neg he1]at h ⊢;exact h
theorem y_ {step:Bd->Pl->Bd×Int} {j:Nat} {k:Bd} {l:List (Fm×Fm)} (h:j<l.length):fw step j k (l.drop j)=if (j9 step k (bE [] l[j].1 l[j].2)).2=0 then fw step (j+1) (j9 step k (bE [] l[j].1 l[j].2)).1 (l.drop (j+1)) else ((j9 step k (bE [] l[j].1 l[j].2)).1,j,(j9 step k (bE [] l[j].1 l[j].2)).2):=by
 rw[List.drop_eq_getElem_cons h]
 obtain ⟨⟨s,f⟩,hx⟩:∃x,x=l[j]:=⟨_,rfl⟩
 rw[<-hx]
 simp only[fw]
theorem Da {j:Nat} {l:List (Fm×Fm)} (h:j<l.length):eZ j (l.drop j)=if (fC l[j].1 && bP l[j].2)=true then eZ (j+1) (l.drop (j+1)) else some j:=by
 rw[List.drop_eq_getElem_cons h]
 obtain ⟨⟨s,f⟩,hx⟩:∃x,x=l[j]:=⟨_,rfl⟩
 rw[<-hx]
 simp only[eZ]
/-! what a range's own books keep -/
theorem Cells3.nw {B:Nat} {X Y:World} (h:Nw B X Y) {b o:Nat} {v:Value} (hc:Cells3 X b o v):Cells3 Y b o v:=by
 obtain ⟨x0,x1,x2,rfl,h0,h1,h2⟩:=hc
 exact ⟨x0,x1,x2,rfl,h.cell h0,h.cell h1,h.cell h2⟩
theorem Cells4.nw {B:Nat} {X Y:World} (h:Nw B X Y) {b o:Nat} {v:Value} (hc:Cells4 X b o v):Cells4 Y b o v:=by
 obtain ⟨x0,x1,x2,x3,rfl,h0,h1,h2,h3⟩:=hc
 exact ⟨x0,x1,x2,x3,rfl,h.cell h0,h.cell h1,h.cell h2,h.cell h3⟩
theorem TermV.nw {ok:Nat->Prop} {B:Nat} {X Y:World} (hn:Nw B X Y) {v:Value} {t:Tm} (h:TermV ok X v t):TermV ok Y v t:=by
 induction h with
 | mk v n al a cap vs hs _ ih=>
  refine .mk v n al a cap vs ?_ ih
  exact pm177
theorem TermsV.nw {ok:Nat->Prop} {B:Nat} {X Y:World} (hn:Nw B X Y) {v:Value} {l:List Tm} (h:TermsV ok X v l):TermsV ok Y v l:=by
 obtain ⟨a,cap,vs,hv,hs,h⟩:=h
 refine ⟨a,cap,vs,hv,?_,fun j hj=>(h j hj).nw hn⟩
 exact pm177
theorem FormV.nw {ok:Nat->Prop} {B:Nat} {X Y:World} (hn:Nw B X Y) {v:Value} {t:Fm} (h:FormV ok X v t):FormV ok Y v t:=by
 induction h with
 | mk op n al ss va a cap vs ha hs _ ih=>
  refine .mk op n al ss va a cap vs (ha.nw hn) ?_ ih
  exact pm177
theorem KnV.nw {ok:Nat->Prop} {PF:Fm->Prop} {PT:Tm->Prop} {B:Nat} {X Y:World} {kb mF mT nF nT:Nat} {k:Bd} (hn:Nw B X Y) (h:KnV ok PF PT X kb mF mT nF nT k) (hF:mF<B) (hT:mT<B):KnV ok PF PT Y kb mF mT nF nT k:=
 ⟨hn.cells h.box,h.fs.move (hn.old hF h.fs.lt) (fun _ _ _ _ ⟨q,e,hv,hp⟩=>⟨q,e,hv.nw hn,hp⟩),h.ts.move (hn.old hT h.ts.lt) (fun _ _ _ _ ⟨q,e,hv,hp⟩=>⟨q,e,hv.nw hn,hp⟩),h.ne1,h.ne2,h.ne3⟩
theorem FBindsV.nw {ok:Nat->Prop} {B:Nat} {X Y:World} (hn:Nw B X Y) {v:Value} {l:List (Str×Fm)} (h:FBindsV ok X v l):FBindsV ok Y v l:=by
 have pp230:=();exact pm230
theorem TBindsV.nw {ok:Nat->Prop} {B:Nat} {X Y:World} (hn:Nw B X Y) {v:Value} {l:List (Str×Tm)} (h:TBindsV ok X v l):TBindsV ok Y v l:=by
 exact pm230
theorem BindV.nw {ok:Nat->Prop} {B:Nat} {X Y:World} (hn:Nw B X Y) {q:BQ} {b:Bd} (h:BindV ok X q b):BindV ok Y q b:=⟨h.1.nw hn,h.2.nw hn⟩
theorem KnV.kpx {M M':Nat->Prop} {PF:Fm->Prop} {PT:Tm->Prop} {X Y:World} {kb mF mT nF nT:Nat} {k:Bd} (h:KnV (fun b=>¬M b) PF PT X kb mF mT nF nT k) (hk:Kp M' X Y) (hM:∀ b,M' b->M b) (hb:¬M' kb) (hF:¬M' mF) (hT:¬M' mT):KnV (fun b=>¬M b) PF PT Y kb mF mT nF nT k:=
 h.move (fun b hb hlt=>⟨hb,hk.same b hlt (fun h=>hb (hM b h))⟩) (hk.same _ h.ltb hb) (hk.same _ h.fs.lt hF) (hk.same _ h.ts.lt hT)
theorem mg {M:Nat->Prop} {w X Y:World} (h:Kp M w X) (hn:Nw w.heap.size X Y):Kp M w Y:=
 ⟨hn.os.trans h.os,hn.tape.trans h.tape,hn.output.trans h.output,Nat.le_trans h.size hn.size,fun b hb hm=>(hn.old hb (Nat.lt_of_lt_of_le hb h.size)).trans (h.same b hb hm)⟩
theorem PairsN.busy {M:Nat->Prop} {l:Nat} {W W2:World} {v:Value} {ps:List (Str×Str)} (h:PairsN M W v ps) (hb:Busy l W W2) (hl:∃r,W.heap[l]?=some (.loop r)):PairsN M W2 v ps:=by
 exact pm265
mutual
theorem zb {p:Nat}:∀ t,iS p t=true->iS p (aK t)=true
 | .mk v n a,h=>by
  simp only[iS,aK,Bool.and_eq_true,decide_eq_true_eq]at h ⊢
  refine ⟨?_,oZ a h.2⟩
  split
  ·simp;omega
  ·exact h.1
theorem oZ {p:Nat}:∀ t,dF p t=true->dF p (bI t)=true
 | [],_=>rfl
 | t :: l,h=>by
  simp only[dF,bI,Bool.and_eq_true]at h ⊢
  exact ⟨zb t h.1,oZ l h.2⟩
end
mutual
theorem Bv {p:Nat}:∀ t,ks p t=true->ks p (bm t)=true
 | .mk o n a s,h=>by
  simp only[ks,bm,Bool.and_eq_true,decide_eq_true_eq]at h ⊢
  exact ⟨h.1,h.2.1,oZ a h.2.2.1,zd s h.2.2.2⟩
theorem zd {p:Nat}:∀ t,fd p t=true->fd p (bJ t)=true
 | [],_=>rfl
 | t :: l,h=>by
  simp only[fd,bJ,Bool.and_eq_true]at h ⊢
  exact ⟨Bv t h.1,zd l h.2⟩
end
structure BdFit (b:Bd):Prop where
 lf:b.fs.length<=1000
 lt:b.ts.length<=1000
 fs:∀ x∈b.fs,x.1.length<=2000000/\fitF x.2
 ts:∀ x∈b.ts,x.1.length<=2000000/\fitT x.2/\nodesT x.2<=1000
theorem BdFit.fs' {b:Bd} (h:BdFit b):∀ x∈b.fs,x.1.length<=2000000/\fitF x.2/\fitF (bm x.2):=fun x hx=>⟨(h.fs x hx).1,(h.fs x hx).2,by rw[(jU x.2).1];exact (h.fs x hx).2.1,Bv _ (h.fs x hx).2.2⟩
theorem BdFit.ts' {b:Bd} (h:BdFit b):∀ x∈b.ts,x.1.length<=2000000/\fitT x.2/\fitT (aK x.2):=fun x hx=>⟨(h.ts x hx).1,(h.ts x hx).2.1,by rw[(uE x.2).1];exact (h.ts x hx).2.1.1,zb _ (h.ts x hx).2.1.2⟩
theorem uh (W0:World) (b:Bd) (hb:BdFit b) (ok:Nat->Prop) (w:World) (ht:Tabs W0 w) (q:BQ) (hq:BindV ok w q b) :
  Calls Tryz.prog 27 #[q.val] w fun e w'=>e=.returned (.bool (bU b))/\Below w.heap.size w w':=
 KJ W0 b (by have:=hb.lf;omega) (by have:=hb.lt;omega) hb.fs' hb.ts' ok w ht q hq
theorem vk (b:Bd) (hb:BdFit b) (hv:bU b=true) (ok:Nat->Prop) (w:World) (q:BQ) (hq:BindV ok w q b) :
  Calls Tryz.prog 46 #[q.val] w fun e w'=>e=.returned (.pointer (some ⟨w.heap.size+1+1+1,0,none⟩))/\KnV (fun b=>b<w.heap.size) goodF goodT w' (w.heap.size+1+1+1) (w.heap.size+1) (w.heap.size+1+1) b.fs.length b.ts.length b/\Below w.heap.size w w':=by
 have iW:=hv
 simp only[bU,Bool.and_eq_true]at iW
 exact EG b (by have:=hb.lf;omega) (by have:=hb.lt;omega) (fun x hx=>(hb.fs x hx).1) (fun x hx=>(hb.ts x hx).1) (jf (mM iW.2.1)) (jf (mM iW.2.2)) goodF goodT (fun x hx=>(PG hv x hx).1) (fun x hx=>(Cp hv (fun x hx=>(hb.ts x hx).2.2) x hx).1) ok w q hq
theorem mN {ok:Nat->Prop} {W:World}:BindV ok W ⟨none,0,0,none,0,0⟩ ⟨[],[]⟩:=
 ⟨⟨none,0,fun _=>⟨0,⟨#[]⟩,none,0,0,none,0,0⟩,rfl,Nat.le_refl _,.inl rfl,fun j hj=>by simp at hj⟩,⟨none,0,fun _=>⟨false,⟨#[]⟩,none,0,0⟩,rfl,Nat.le_refl _,.inl rfl,fun j hj=>by simp at hj⟩⟩
end Go.Proofs.YtokemihbkeddoaaGreatDoor
namespace Go.Proofs.YtokemihbkeddoaaGreatDoor
open Go
section
variable {F:Fence} {n:Nat} {P:Program} {a:Act} {w:World} {Q:Exit->Act->World->Prop}
theorem iI {b:Frame} {k:List Item} {cs:List Frame} {c:Code}:step P (lone (b.atR a (.code (.scope c) :: k)) cs w)=.next (lone (b.atR a (.code c :: .inScope c :: k)) cs w):=
 step_lone_go (by simp[stepG,stepG.exec,Frame.atR])
theorem Av {b:Frame} {k:List Item} {cs:List Frame} {c:Code}:step P (lone (b.atR a (.inScope c :: k)) cs w)=.next (lone (b.atR a k) cs w):=
 step_lone_go (by simp[stepG,stepG.exec,Frame.atR])
theorem Hv {c:Code} (h:c.wpIn F n P (Exit.noGoto Q) a w):(Code.scope c).wpIn F n P Q a w:=by
 intro b k cs hro hb hr
 have h0:(lone (b.atR a (.code (.scope c) :: k)) cs w).fenced P F:=fenced_calm hb hr rfl
 obtain ⟨e,a₁,w₁,hq,KL⟩:=h b (.inScope c :: k) cs hro hb hr
 cases e with
 | normal=>exact ⟨.normal,a₁,w₁,hq,.head h0 iI (StepsIn.trans KL (.one (fenced_calm hb hr rfl) Av))⟩
 | exit id'=>
  have hx:exitTo id' (.inScope c :: k)=exitTo id' k:=by simp[exitTo]
  exact ⟨.exit id',a₁,w₁,hq,fun k' hk=>.head h0 iI (KL.1 k' (by rw[hx];exact hk)),
   fun hr' hk=>let ⟨k₁,h1,h2⟩:=KL.2 hr' (by rw[hx];exact hk);⟨k₁,h1,.head h0 iI h2⟩⟩
 | goto l=>exact hq.elim
 | ret=>exact ⟨_,a₁,w₁,hq,.of_steps (.one h0 iI) KL⟩
 | panic ch=>exact ⟨_,a₁,w₁,hq,.of_steps (.one h0 iI) KL⟩
 | outgrown=>exact ⟨_,a₁,w₁,hq,.of_steps (.one h0 iI) KL⟩
theorem Fo {l:Nat} (h:Q .normal a w):(Code.label l).wpIn F n P Q a w:=
 fun _ _ _ _ hb hr=>⟨.normal,a,w,h,.one (fenced_calm hb hr rfl) stepR_label⟩
end
end Go.Proofs.YtokemihbkeddoaaGreatDoor
