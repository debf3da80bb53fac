/-
Contracts of the judge's form,of 'Right' and 'Schema' of package syntax.
-/
import Derived.Test.YtokemihbkeddoaaGreatDoorV13
namespace Go.Proofs.YtokemihbkeddoaaGreatDoor
open Go Go.RowKit Lib
set_option maxRecDepth 100000
set_option maxHeartbeats 64000000
variable {P R r2 r3 r4 j B kb mF mT nF nT p:Nat} {o:Int} {n:Str} {av sv v:Value} {w w' W X Y:World} {r0 r1:Bool} {ok M:Nat->Prop} {k b:Bd} {PF:Fm->Prop} {PT:Tm->Prop}
def FBox (P:Nat) (o:Int) (n:Str) (av sv:Value) (w:World):Prop:=w.heap[P]?=some (.cells #[.int .u8 o,.string ⟨n.toArray⟩,av,sv] 36 (0,0))
theorem FBox.later (h:FBox P o n av sv w) (hb:Below w.heap.size w w'):FBox P o n av sv w':=(hb.block P (bn h)).trans h
theorem FBox.kp {J:Nat} (h:FBox P o n av sv w) (hb:Kp (fun c=>c=J) w w') (hP:P≠J):FBox P o n av sv w':=(hb.same P (bn h) hP).trans h
theorem FBox.c0 (h:FBox P o n av sv w):w.cell? ⟨P,0,none⟩=some (.int .u8 o):=ah h 0
theorem FBox.c1 (h:FBox P o n av sv w):w.cell? ⟨P,1,none⟩=some (.string ⟨n.toArray⟩):=ah h 1
theorem FBox.c2 (h:FBox P o n av sv w):w.cell? ⟨P,2,none⟩=some av:=ah h 2
theorem FBox.c3 (h:FBox P o n av sv w):w.cell? ⟨P,3,none⟩=some sv:=ah h 3
def RBox (R:Nat) (r0 r1:Bool) (r2 r3 r4:Nat) (w:World):Prop:=w.heap[R]?=some (.cells #[.bool r0,.bool r1,.int .u8 r2,.int .i64 r3,.int .i64 r4] 173 (0,0))
theorem RBox.c3 (h:RBox R r0 r1 r2 r3 r4 w):w.cell? ⟨R,3,none⟩=some (.int .i64 r3):=ah h 3
theorem RBox.c4 (h:RBox R r0 r1 r2 r3 r4 w):w.cell? ⟨R,4,none⟩=some (.int .i64 r4):=ah h 4
theorem RBox.later (h:RBox R r0 r1 r2 r3 r4 w) (hb:Below w.heap.size w w'):RBox R r0 r1 r2 r3 r4 w':=(hb.block R (bn h)).trans h
theorem Qv (W0:World):∀ (t:Fm),fitF t->zam W0 t:=by
 intro t
 induction t using Fm.ind with
 | h o n a s ih=>
  intro aA ok J sc left bz ba w q ht Tr hq hok hJ h0 h1 Ol hd hn;obtain ⟨ho1,ho2⟩:=aA.op;obtain ⟨on,rfl⟩:∃on:Nat,o=on:=⟨o.toNat,by omega⟩;have pp22f:=();exact pm22
theorem wE (W0:World) (t:Fm) (hf:fitF t) (ok:Nat->Prop) (w:World) (ht:Tabs W0 w) (q:FQ) (hq:FormV ok w q.val t) :
  Calls Tryz.prog 39 #[q.val] w fun e w'=>e=.returned (.bool (dn t))/\Below w.heap.size w w':=by
 have hn:=hf.1;obtain ⟨W2,bl⟩:=ao ((w.alloc (.cells #[.int .u8 q.o,.string q.n,.slice q.a q.l q.c,.slice q.b q.m q.e] 36)).alloc (.cells #[.bool false,.int .i64 400,.int .i64 40] 111));have hB:=lB bl;have hJ:JAt (w.heap.size+1) false 400 40 W2:=by rw[bl];exact aj (by simp)
 have C:=Qv W0 t hf _ (w.heap.size+1) false 400 40 1 W2 q (ht.next hB) (by have:=ht.size;omega) (hq.lt.later hB) (fun b hb=>by omega) hJ (by omega) (by omega) (by omega) (by omega) (by omega);have hb:(okF false t && (decide ((nodesF t:Int)<=400) && decide (1+(depthF t:Int)<=40+1)))=dn t:=by
  exact pm174
 have pp262:=();exact pm262
theorem tf (W0:World) (t:Fm) (hf:fitF t) (ok:Nat->Prop) (w:World) (ht:Tabs W0 w) (q:FQ) (hq:FormV ok w q.val t) :
  Calls Tryz.prog 26 #[q.val] w fun e w'=>e=.returned (.bool (schemaF t))/\Below w.heap.size w w':=by
 have hn:=hf.1;obtain ⟨W2,bl⟩:=ao ((w.alloc (.cells #[.int .u8 q.o,.string q.n,.slice q.a q.l q.c,.slice q.b q.m q.e] 36)).alloc (.cells #[.bool true,.int .i64 400,.int .i64 40] 111));have hB:=lB bl;have hJ:JAt (w.heap.size+1) true 400 40 W2:=by rw[bl];exact aj (by simp)
 have C:=Qv W0 t hf _ (w.heap.size+1) true 400 40 1 W2 q (ht.next hB) (by have:=ht.size;omega) (hq.lt.later hB) (fun b hb=>by omega) hJ (by omega) (by omega) (by omega) (by omega) (by omega);have hb:(okF true t && (decide ((nodesF t:Int)<=400) && decide (1+(depthF t:Int)<=40+1)))=schemaF t:=by
  exact pm174
 exact pm262
section
attribute [local go_sem] Oper.semAt_some
theorem Hl {l:List Str} (h:StrsO ok W v l):StrsV W v l:=by
 obtain ⟨a,c,hv,hc,h⟩:=h;refine ⟨a,c,hv,hc,?_⟩;rcases h with h | ⟨b,off,ha,_,h⟩
 ·exact .inl h
 ·exact .inr ⟨b,off,ha,h⟩
theorem Nx (W0:World) (b:Bd) (hF:b.fs.length<=1000000) (hT:b.ts.length<=1000000) (rP:∀ x∈b.fs,x.1.length<=2000000/\fitF x.2/\fitF (bC x.2)) (qw:∀ x∈b.ts,x.1.length<=2000000/\fitT x.2/\fitT (aM x.2)) (ok:Nat->Prop) (w:World) (ht:Tabs W0 w) (q:BQ) (hq:BindV ok w q b) :
  Calls Tryz.prog 27 #[q.val] w fun e w'=>e=.returned (.bool (validB b))/\Below w.heap.size w w':=by
 exact pm167
end
theorem wF {step:Bd->Pl->Bd×Int}:∀ (l:List Pl) (k k':Bd) (x:Pl),m8 step k l=(k',0)->m8 step k (l ++ [x])=step k' x
 | [],k,k',x,h=>by
  simp only[m8,Prod.mk.injEq,and_true]at h;subst h;simp only[rU,m8]
  cases hs:step k x with
  | mk k1 e=>
   simp only;split
   ·rename_i he;rw[he]
   ·rfl
 | p :: l,k,k',x,h=>by
  simp only[nK,m8]at h ⊢
  cases hs:step k p with
  | mk k1 e=>
   rw[hs]at h;simp only at h ⊢
   by_cases he:e=0
   ·rw[aX he]at h ⊢;exact wF l k1 k' x h
   ·rw[aD he]at h;simp only[Prod.mk.injEq]at h;exact absurd h.2 he
theorem qX {step:Bd->Pl->Bd×Int}:∀ (l m:List Pl) (k k':Bd) (e:Int),e≠0->m8 step k l=(k',e)->m8 step k (l ++ m)=(k',e)
 | [],m,k,k',e,he,h=>by
  simp only[m8,Prod.mk.injEq]at h;exact absurd h.2.symm he
 | p :: l,m,k,k',e,he,h=>by
  simp only[nK,m8]at h ⊢
  cases hs:step k p with
  | mk k1 e1=>
   rw[hs]at h;simp only at h ⊢
   by_cases he1:e1=0
   ·rw[aX he1]at h ⊢;exact qX l m k1 k' e he h
   ·rw[aD he1]at h ⊢;exact h
theorem Au {step:Bd->Pl->Bd×Int} {l:List (Fm×Fm)} (h:j<l.length):jV step j k (l.drop j)=if (m8 step k (bJ [] l[j].1 l[j].2)).2=0 then jV step (j+1) (m8 step k (bJ [] l[j].1 l[j].2)).1 (l.drop (j+1)) else ((m8 step k (bJ [] l[j].1 l[j].2)).1,j,(m8 step k (bJ [] l[j].1 l[j].2)).2):=by
 rw[fN h];obtain ⟨⟨s,f⟩,hx⟩:∃x,x=l[j]:=⟨_,rfl⟩;rw[<-hx];simp only[jV]
theorem E1 {l:List (Fm×Fm)} (h:j<l.length):e8 j (l.drop j)=if (schemaF l[j].1 && dn l[j].2)=true then e8 (j+1) (l.drop (j+1)) else some j:=by
 rw[fN h];obtain ⟨⟨s,f⟩,hx⟩:∃x,x=l[j]:=⟨_,rfl⟩;rw[<-hx];simp only[e8]
/-! what a range's own books keep -/
theorem Cells3.nw (h:Nw B X Y) {b o:Nat} (hc:Cells3 X b o v):Cells3 Y b o v:=by
 obtain ⟨x0,x1,x2,rfl,h0,h1,h2⟩:=hc;exact ⟨x0,x1,x2,rfl,h.cell h0,h.cell h1,h.cell h2⟩
theorem Cells4.nw (h:Nw B X Y) {b o:Nat} (hc:Cells4 X b o v):Cells4 Y b o v:=by
 obtain ⟨x0,x1,x2,x3,rfl,h0,h1,h2,h3⟩:=hc;exact ⟨x0,x1,x2,x3,rfl,h.cell h0,h.cell h1,h.cell h2,h.cell h3⟩
theorem TermV.nw (hn:Nw B X Y) {t:Tm} (h:TermV ok X v t):TermV ok Y v t:=by
 induction h with
 | mk v n al a cap vs hs _ ih=>
  refine .mk v n al a cap vs ?_ ih;exact pm155
theorem TermsV.nw (hn:Nw B X Y) {l:List Tm} (h:TermsV ok X v l):TermsV ok Y v l:=by
 obtain ⟨a,cap,vs,hv,hs,h⟩:=h;refine ⟨a,cap,vs,hv,?_,fun j hj=>(h j hj).nw hn⟩;exact pm155
theorem FormV.nw (hn:Nw B X Y) {t:Fm} (h:FormV ok X v t):FormV ok Y v t:=by
 induction h with
 | mk op n al ss va a cap vs ha hs _ ih=>
  refine .mk op n al ss va a cap vs (ha.nw hn) ?_ ih;exact pm155
theorem KnV.nw (hn:Nw B X Y) (h:KnV ok PF PT X kb mF mT nF nT k) (hF:mF<B) (hT:mT<B):KnV ok PF PT Y kb mF mT nF nT k:=
 ⟨hn.cells h.box,h.fs.move (hn.old hF h.fs.lt) (fun _ _ _ _ ⟨q,e,hv,hp⟩=>⟨q,e,hv.nw hn,hp⟩),h.ts.move (hn.old hT h.ts.lt) (fun _ _ _ _ ⟨q,e,hv,hp⟩=>⟨q,e,hv.nw hn,hp⟩),h.ne1,h.ne2,h.ne3⟩
theorem FBindsV.nw (hn:Nw B X Y) {l:List (Str×Fm)} (h:FBindsV ok X v l):FBindsV ok Y v l:=by
 have pp208:=();exact pm208
theorem TBindsV.nw (hn:Nw B X Y) {l:List (Str×Tm)} (h:TBindsV ok X v l):TBindsV ok Y v l:=by
 exact pm208
theorem BindV.nw (hn:Nw B X Y) {q:BQ} (h:BindV ok X q b):BindV ok Y q b:=⟨h.1.nw hn,h.2.nw hn⟩
theorem KnV.kpx {M':Nat->Prop} (h:KnV (fun b=>¬M b) PF PT X kb mF mT nF nT k) (hk:Kp M' X Y) (hM:∀ b,M' b->M b) (hb:¬M' kb) (hF:¬M' mF) (hT:¬M' mT):KnV (fun b=>¬M b) PF PT Y kb mF mT nF nT k:=
 h.move (fun b hb hlt=>⟨hb,hk.same b hlt (fun h=>hb (hM b h))⟩) (hk.same _ h.ltb hb) (hk.same _ h.fs.lt hF) (hk.same _ h.ts.lt hT)
theorem nu (h:Kp M w X) (hn:Nw w.heap.size X Y):Kp M w Y:=
 ⟨hn.os.trans h.os,hn.tape.trans h.tape,hn.output.trans h.output,aQ h.size hn.size,fun b hb hm=>(hn.old hb (bN hb h.size)).trans (h.same b hb hm)⟩
theorem PairsN.busy {l:Nat} {W2:World} {ps:List (Str×Str)} (h:PairsN M W v ps) (hb:Busy l W W2) (hl:∃r,W.heap[l]?=some (.loop r)):PairsN M W2 v ps:=by
 exact pm251
mutual
theorem Av:∀ t,jN p t=true->jN p (aM t)=true
 | .mk v n a,h=>by
  simp only[jN,aM,ae,bw]at h ⊢;refine ⟨?_,qY a h.2⟩;split
  ·simp;omega
  ·exact h.1
theorem qY:∀ t,nmTs p t=true->nmTs p (bU t)=true
 | [],_=>rfl
 | t :: l,h=>by
  simp only[nmTs,bU,ae]at h ⊢;exact ⟨Av t h.1,qY l h.2⟩
end
mutual
theorem DI:∀ t,kT p t=true->kT p (bC t)=true
 | .mk o n a s,h=>by
  simp only[kT,bC,ae,bw]at h ⊢;exact ⟨h.1,h.2.1,qY a h.2.2.1,Aw s h.2.2.2⟩
theorem Aw:∀ t,nmFs p t=true->nmFs p (bV t)=true
 | [],_=>rfl
 | t :: l,h=>by
  simp only[nmFs,bV,ae]at h ⊢;exact ⟨DI t h.1,Aw l h.2⟩
end
structure BdFit (b:Bd):Prop where
 lf:b.fs.length<=1000
 lt:b.ts.length<=1000
 fs:∀ x∈b.fs,x.1.length<=2000000/\fitF x.2
 ts:∀ x∈b.ts,x.1.length<=2000000/\fitT x.2/\nodesT x.2<=1000
theorem BdFit.fs' (h:BdFit b):∀ x∈b.fs,x.1.length<=2000000/\fitF x.2/\fitF (bC x.2):=fun x hx=>⟨(h.fs x hx).1,(h.fs x hx).2,by rw[(kW x.2).1];exact (h.fs x hx).2.1,DI _ (h.fs x hx).2.2⟩
theorem BdFit.ts' (h:BdFit b):∀ x∈b.ts,x.1.length<=2000000/\fitT x.2/\fitT (aM x.2):=fun x hx=>⟨(h.ts x hx).1,(h.ts x hx).2.1,by rw[(wY x.2).1];exact (h.ts x hx).2.1.1,Av _ (h.ts x hx).2.1.2⟩
theorem wG (W0:World) (b:Bd) (hb:BdFit b) (ok:Nat->Prop) (w:World) (ht:Tabs W0 w) (q:BQ) (hq:BindV ok w q b) :
  Calls Tryz.prog 27 #[q.val] w fun e w'=>e=.returned (.bool (validB b))/\Below w.heap.size w w':=
 Nx W0 b (by have:=hb.lf;omega) (by have:=hb.lt;omega) hb.fs' hb.ts' ok w ht q hq
theorem xJ (b:Bd) (hb:BdFit b) (hv:validB b=true) (ok:Nat->Prop) (w:World) (q:BQ) (hq:BindV ok w q b) :
  Calls Tryz.prog 46 #[q.val] w fun e w'=>e=.returned (.pointer (some ⟨w.heap.size+1+1+1,0,none⟩))/\KnV (fun b=>b<w.heap.size) goodF goodT w' (w.heap.size+1+1+1) (w.heap.size+1) (w.heap.size+1+1) b.fs.length b.ts.length b/\Below w.heap.size w w':=by
 have jS:=hv;simp only[validB,ae]at jS;exact GK b (by have:=hb.lf;omega) (by have:=hb.lt;omega) (fun x hx=>(hb.fs x hx).1) (fun x hx=>(hb.ts x hx).1) (j9 (oo jS.2.1)) (j9 (oo jS.2.2)) goodF goodT (fun x hx=>(S4 hv x hx).1) (fun x hx=>(EE hv (fun x hx=>(hb.ts x hx).2.2) x hx).1) ok w q hq
theorem oq:BindV ok W ⟨none,0,0,none,0,0⟩ ⟨[],[]⟩:=
 ⟨⟨none,0,fun _=>⟨0,⟨#[]⟩,none,0,0,none,0,0⟩,rfl,aF _,.inl rfl,fun j hj=>by simp at hj⟩,⟨none,0,fun _=>⟨false,⟨#[]⟩,none,0,0⟩,rfl,aF _,.inl rfl,fun j hj=>by simp at hj⟩⟩
end Go.Proofs.YtokemihbkeddoaaGreatDoor
namespace Go.Proofs.YtokemihbkeddoaaGreatDoor
open Go
variable {b:Frame} {k:List Item} {cs:List Frame} {c:Code}
section
variable {F:Fence} {n:Nat} {P:Program} {a:Act} {w:World} {Q:Exit->Act->World->Prop}
theorem jM:step P (lone (b.atR a (.code (.scope c) :: k)) cs w)=.next (lone (b.atR a (.code c :: .inScope c :: k)) cs w):=
 step_lone_go (by simp[stepG,stepG.exec,Frame.atR])
theorem Cn:step P (lone (b.atR a (.inScope c :: k)) cs w)=.next (lone (b.atR a k) cs w):=
 step_lone_go (by simp[stepG,stepG.exec,Frame.atR])
theorem Km (h:c.wpIn F n P (Exit.noGoto Q) a w):(Code.scope c).wpIn F n P Q a w:=by
 intro b k cs hro hb hr;have h0:(lone (b.atR a (.code (.scope c) :: k)) cs w).fenced P F:=fenced_calm hb hr rfl;obtain ⟨e,a₁,w₁,hq,Ny⟩:=h b (.inScope c :: k) cs hro hb hr
 cases e with
 | normal=>exact ⟨.normal,a₁,w₁,hq,.head h0 jM (StepsIn.trans Ny (.one (fenced_calm hb hr rfl) Cn))⟩
 | exit id'=>
  have hx:exitTo id' (.inScope c :: k)=exitTo id' k:=by simp[exitTo]
  exact ⟨.exit id',a₁,w₁,hq,fun k' hk=>.head h0 jM (Ny.1 k' (by rw[hx];exact hk)),
   fun hr' hk=>let ⟨k₁,h1,h2⟩:=Ny.2 hr' (by rw[hx];exact hk);⟨k₁,h1,.head h0 jM h2⟩⟩
 | goto l=>exact hq.elim
 | ret=>exact ⟨_,a₁,w₁,hq,.of_steps (.one h0 jM) Ny⟩
 | panic ch=>exact ⟨_,a₁,w₁,hq,.of_steps (.one h0 jM) Ny⟩
 | outgrown=>exact ⟨_,a₁,w₁,hq,.of_steps (.one h0 jM) Ny⟩
theorem Hm {l:Nat} (h:Q .normal a w):(Code.label l).wpIn F n P Q a w:=
 fun _ _ _ _ hb hr=>⟨.normal,a,w,h,.one (fenced_calm hb hr rfl) stepR_label⟩
