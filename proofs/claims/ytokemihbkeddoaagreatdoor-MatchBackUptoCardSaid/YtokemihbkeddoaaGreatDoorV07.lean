/-
Contracts of the judge's form,of 'Right' and 'Schema' of package syntax.
-/
import Derived.Test.YtokemihbkeddoaaGreatDoorV06
namespace Go.Proofs.YtokemihbkeddoaaGreatDoor
open Go Go.RowKit Lib
set_option maxRecDepth 100000
set_option maxHeartbeats 64000000
variable {P R r2 r3 r4 j B kb mF mT nF nT p:Nat} {o:Int} {n:Str} {av sv v:Value} {w w' W X Y:World} {r0 r1:Bool} {ok M:Nat->Prop} {k b:Bd} {PF:Fm->Prop} {PT:Tm->Prop}
def FBox (P:Nat) (o:Int) (n:Str) (av sv:Value) (w:World):Prop:=w.heap[P]?=some (.cells #[.int .u8 o,.string ⟨n.toArray⟩,av,sv] 36 (0,0))
theorem FBox.later (h:FBox P o n av sv w) (hb:Below w.heap.size w w'):FBox P o n av sv w':=(hb.block P (bA h)).trans h
theorem FBox.kp {J:Nat} (h:FBox P o n av sv w) (hb:Kp (fun c=>c=J) w w') (hP:P≠J):FBox P o n av sv w':=(hb.same P (bA h) hP).trans h
theorem FBox.c0 (h:FBox P o n av sv w):w.cell? ⟨P,0,none⟩=some (.int .u8 o):=ag h 0
theorem FBox.c1 (h:FBox P o n av sv w):w.cell? ⟨P,1,none⟩=some (.string ⟨n.toArray⟩):=ag h 1
theorem FBox.c2 (h:FBox P o n av sv w):w.cell? ⟨P,2,none⟩=some av:=ag h 2
theorem FBox.c3 (h:FBox P o n av sv w):w.cell? ⟨P,3,none⟩=some sv:=ag h 3
def RBox (R:Nat) (r0 r1:Bool) (r2 r3 r4:Nat) (w:World):Prop:=w.heap[R]?=some (.cells #[.bool r0,.bool r1,.int .u8 r2,.int .i64 r3,.int .i64 r4] 173 (0,0))
theorem RBox.c3 (h:RBox R r0 r1 r2 r3 r4 w):w.cell? ⟨R,3,none⟩=some (.int .i64 r3):=ag h 3
theorem RBox.c4 (h:RBox R r0 r1 r2 r3 r4 w):w.cell? ⟨R,4,none⟩=some (.int .i64 r4):=ag h 4
theorem RBox.later (h:RBox R r0 r1 r2 r3 r4 w) (hb:Below w.heap.size w w'):RBox R r0 r1 r2 r3 r4 w':=(hb.block R (bA h)).trans h
theorem SJ (W0:World):∀ (t:Fm),fitF t->zaW W0 t:=by
 intro t
 induction t using Fm.ind with
 | h o n a s ih=>
  intro ar ok J sc left bz bc w q ht Wd hq hok hJ h0 h1 hde hd hn;obtain ⟨ho1,ho2⟩:=ar.op;obtain ⟨on,rfl⟩:∃on:Nat,o=on:=⟨o.toNat,by omega⟩;have qny:=();exact qas
theorem oZ (W0:World) (t:Fm) (hf:fitF t) (ok:Nat->Prop) (w:World) (ht:Tabs W0 w) (q:FQ) (hq:FormV ok w q.val t) :
  Calls Tryz.prog 39 #[q.val] w fun e w'=>e=.returned (.bool (bT t))/\Below w.heap.size w w':=by
 have hn:=hf.1;have ⟨W2,aZ⟩:=aj ((w.alloc (.cells #[.int .u8 q.o,.string q.n,.slice q.a q.l q.c,.slice q.b q.m q.e] 36)).alloc (.cells #[.bool false,.int .i64 400,.int .i64 40] 111));have hB:=k_ aZ;have hJ:JAt (w.heap.size+1) false 400 40 W2:=by rw[aZ];exact ah (by simp)
 have C:=SJ W0 t hf _ (w.heap.size+1) false 400 40 1 W2 q (ht.next hB) (by have:=ht.size;omega) (hq.lt.later hB) (fun b hb=>by omega) hJ (by omega) (by omega) (by omega) (by omega) (by omega);have hb:(okF false t && (decide ((nodesF t:Int)<=400) && decide (1+(depthF t:Int)<=40+1)))=bT t:=by
  exact qe6
 have qnz:=();exact qe7
theorem C9 (W0:World) (t:Fm) (hf:fitF t) (ok:Nat->Prop) (w:World) (ht:Tabs W0 w) (q:FQ) (hq:FormV ok w q.val t) :
  Calls Tryz.prog 26 #[q.val] w fun e w'=>e=.returned (.bool (fM t))/\Below w.heap.size w w':=by
 have hn:=hf.1;have ⟨W2,aZ⟩:=aj ((w.alloc (.cells #[.int .u8 q.o,.string q.n,.slice q.a q.l q.c,.slice q.b q.m q.e] 36)).alloc (.cells #[.bool true,.int .i64 400,.int .i64 40] 111));have hB:=k_ aZ;have hJ:JAt (w.heap.size+1) true 400 40 W2:=by rw[aZ];exact ah (by simp)
 have C:=SJ W0 t hf _ (w.heap.size+1) true 400 40 1 W2 q (ht.next hB) (by have:=ht.size;omega) (hq.lt.later hB) (fun b hb=>by omega) hJ (by omega) (by omega) (by omega) (by omega) (by omega);have hb:(okF true t && (decide ((nodesF t:Int)<=400) && decide (1+(depthF t:Int)<=40+1)))=fM t:=by
  exact qe6
 exact qe7
section
attribute [local go_sem] Oper.semAt_some
theorem J' {l:List Str} (h:StrsO ok W v l):StrsV W v l:=by
 obtain ⟨a,c,hv,hc,h⟩:=h;refine ⟨a,c,hv,hc,?_⟩;rcases h with h | ⟨b,off,ha,_,h⟩
 ·exact .inl h
 ·exact .inr ⟨b,off,ha,h⟩
theorem Px (W0:World) (b:Bd) (hF:b.fs.length<=1000000) (hT:b.ts.length<=1000000) (sL:∀ x∈b.fs,x.1.length<=2000000/\fitF x.2/\fitF (bl x.2)) (qW:∀ x∈b.ts,x.1.length<=2000000/\fitT x.2/\fitT (aK x.2)) (ok:Nat->Prop) (w:World) (ht:Tabs W0 w) (q:BQ) (hq:BindV ok w q b) :
  Calls Tryz.prog 27 #[q.val] w fun e w'=>e=.returned (.bool (validB b))/\Below w.heap.size w w':=by
 exact qeK
end
theorem yI {step:Bd->Pl->Bd×Int}:∀ (l:List Pl) (k k':Bd) (x:Pl),gE step k l=(k',0)->gE step k (l ++ [x])=step k' x
 | [],k,k',x,h=>by
  simp only[gE,Prod.mk.injEq,and_true]at h;subst h;simp only[sS,gE]
  cases hs:step k x with
  | mk k1 e=>
   simp only;split
   ·rename_i he;rw[he]
   ·rfl
 | p :: l,k,k',x,h=>by
  simp only[oC,gE]at h ⊢
  cases hs:step k p with
  | mk k1 e=>
   rw[hs]at h;simp only at h ⊢
   by_cases he:e=0
   ·rw[aw he]at h ⊢;exact yI l k1 k' x h
   ·rw[ak he]at h;simp only[Prod.mk.injEq]at h;exact absurd h.2 he
theorem rH {step:Bd->Pl->Bd×Int}:∀ (l m:List Pl) (k k':Bd) (e:Int),e≠0->gE step k l=(k',e)->gE step k (l ++ m)=(k',e)
 | [],m,k,k',e,he,h=>by
  simp only[gE,Prod.mk.injEq]at h;exact absurd h.2.symm he
 | p :: l,m,k,k',e,he,h=>by
  simp only[oC,gE]at h ⊢
  cases hs:step k p with
  | mk k1 e1=>
   rw[hs]at h;simp only at h ⊢
   by_cases he1:e1=0
   ·rw[aw he1]at h ⊢;exact rH l m k1 k' e he h
   ·rw[ak he1]at h ⊢;exact h
theorem C_ {step:Bd->Pl->Bd×Int} {l:List (Fm×Fm)} (h:j<l.length):e7 step j k (l.drop j)=if (gE step k (a_ [] l[j].1 l[j].2)).2=0 then e7 step (j+1) (gE step k (a_ [] l[j].1 l[j].2)).1 (l.drop (j+1)) else ((gE step k (a_ [] l[j].1 l[j].2)).1,j,(gE step k (a_ [] l[j].1 l[j].2)).2):=by
 rw[gB h];obtain ⟨⟨s,f⟩,hx⟩:∃x,x=l[j]:=⟨_,rfl⟩;rw[<-hx];simp only[e7]
theorem Hi {l:List (Fm×Fm)} (h:j<l.length):fA j (l.drop j)=if (fM l[j].1 && bT l[j].2)=true then fA (j+1) (l.drop (j+1)) else some j:=by
 rw[gB h];obtain ⟨⟨s,f⟩,hx⟩:∃x,x=l[j]:=⟨_,rfl⟩;rw[<-hx];simp only[fA]
theorem Cells3.nw (h:Nw B X Y) {b o:Nat} (hc:Cells3 X b o v):Cells3 Y b o v:=by
 obtain ⟨x0,x1,x2,rfl,h0,h1,h2⟩:=hc;exact ⟨x0,x1,x2,rfl,h.cell h0,h.cell h1,h.cell h2⟩
theorem Cells4.nw (h:Nw B X Y) {b o:Nat} (hc:Cells4 X b o v):Cells4 Y b o v:=by
 obtain ⟨x0,x1,x2,x3,rfl,h0,h1,h2,h3⟩:=hc;exact ⟨x0,x1,x2,x3,rfl,h.cell h0,h.cell h1,h.cell h2,h.cell h3⟩
theorem TermV.nw (hn:Nw B X Y) {t:Tm} (h:TermV ok X v t):TermV ok Y v t:=by
 induction h with
 | mk v n al a cap vs hs _ ih=>
  refine .mk v n al a cap vs ?_ ih;exact qaB
theorem TermsV.nw (hn:Nw B X Y) {l:List Tm} (h:TermsV ok X v l):TermsV ok Y v l:=by
 obtain ⟨a,cap,vs,hv,hs,h⟩:=h;refine ⟨a,cap,vs,hv,?_,fun j hj=>(h j hj).nw hn⟩;exact qaB
theorem FormV.nw (hn:Nw B X Y) {t:Fm} (h:FormV ok X v t):FormV ok Y v t:=by
 induction h with
 | mk op n al ss va a cap vs ha hs _ ih=>
  refine .mk op n al ss va a cap vs (ha.nw hn) ?_ ih;exact qaB
theorem KnV.nw (hn:Nw B X Y) (h:KnV ok PF PT X kb mF mT nF nT k) (hF:mF<B) (hT:mT<B):KnV ok PF PT Y kb mF mT nF nT k:=
 ⟨hn.cells h.box,h.fs.move (hn.old hF h.fs.lt) (fun _ _ _ _ ⟨q,e,hv,hp⟩=>⟨q,e,hv.nw hn,hp⟩),h.ts.move (hn.old hT h.ts.lt) (fun _ _ _ _ ⟨q,e,hv,hp⟩=>⟨q,e,hv.nw hn,hp⟩),h.ne1,h.ne2,h.ne3⟩
theorem FBindsV.nw (hn:Nw B X Y) {l:List (Str×Fm)} (h:FBindsV ok X v l):FBindsV ok Y v l:=by
 have qnA:=();exact qe8
theorem TBindsV.nw (hn:Nw B X Y) {l:List (Str×Tm)} (h:TBindsV ok X v l):TBindsV ok Y v l:=by
 exact qe8
theorem BindV.nw (hn:Nw B X Y) {q:BQ} (h:BindV ok X q b):BindV ok Y q b:=⟨h.1.nw hn,h.2.nw hn⟩
theorem KnV.kpx {M':Nat->Prop} (h:KnV (fun b=>¬M b) PF PT X kb mF mT nF nT k) (hk:Kp M' X Y) (hM:∀ b,M' b->M b) (hb:¬M' kb) (hF:¬M' mF) (hT:¬M' mT):KnV (fun b=>¬M b) PF PT Y kb mF mT nF nT k:=
 h.move (fun b hb hlt=>⟨hb,hk.same b hlt (fun h=>hb (hM b h))⟩) (hk.same _ h.ltb hb) (hk.same _ h.fs.lt hF) (hk.same _ h.ts.lt hT)
theorem ot (h:Kp M w X) (hn:Nw w.heap.size X Y):Kp M w Y:=
 ⟨hn.os.trans h.os,hn.tape.trans h.tape,hn.output.trans h.output,aN h.size hn.size,fun b hb hm=>(hn.old hb (bJ hb h.size)).trans (h.same b hb hm)⟩
theorem PairsN.busy {l:Nat} {W2:World} {ps:List (Str×Str)} (h:PairsN M W v ps) (hb:Busy l W W2) (hl:∃r,W.heap[l]?=some (.loop r)):PairsN M W2 v ps:=by
 exact qeL
mutual
theorem Da:∀ t,jJ p t=true->jJ p (aK t)=true
 | .mk v n a,h=>by
  simp only[jJ,aK,ae,br]at h ⊢;refine ⟨?_,rI a h.2⟩;split
  ·simp;omega
  ·exact h.1
theorem rI:∀ t,nmTs p t=true->nmTs p (bF t)=true
 | [],_=>rfl
 | t :: l,h=>by
  simp only[nmTs,bF,ae]at h ⊢;exact ⟨Da t h.1,rI l h.2⟩
end
mutual
theorem FT:∀ t,li p t=true->li p (bl t)=true
 | .mk o n a s,h=>by
  simp only[li,bl,ae,br]at h ⊢;exact ⟨h.1,h.2.1,rI a h.2.2.1,Db s h.2.2.2⟩
theorem Db:∀ t,nmFs p t=true->nmFs p (bR t)=true
 | [],_=>rfl
 | t :: l,h=>by
  simp only[nmFs,bR,ae]at h ⊢;exact ⟨FT t h.1,Db l h.2⟩
end
structure BdFit (b:Bd):Prop where
 lf:b.fs.length<=1000
 lt:b.ts.length<=1000
 fs:∀ x∈b.fs,x.1.length<=2000000/\fitF x.2
 ts:∀ x∈b.ts,x.1.length<=2000000/\fitT x.2/\nodesT x.2<=1000
theorem BdFit.fs' (h:BdFit b):∀ x∈b.fs,x.1.length<=2000000/\fitF x.2/\fitF (bl x.2):=fun x hx=>⟨(h.fs x hx).1,(h.fs x hx).2,by rw[(g9 x.2).1];exact (h.fs x hx).2.1,FT _ (h.fs x hx).2.2⟩
theorem BdFit.ts' (h:BdFit b):∀ x∈b.ts,x.1.length<=2000000/\fitT x.2/\fitT (aK x.2):=fun x hx=>⟨(h.ts x hx).1,(h.ts x hx).2.1,by rw[(zj x.2).1];exact (h.ts x hx).2.1.1,Da _ (h.ts x hx).2.1.2⟩
theorem yJ (W0:World) (b:Bd) (hb:BdFit b) (ok:Nat->Prop) (w:World) (ht:Tabs W0 w) (q:BQ) (hq:BindV ok w q b) :
  Calls Tryz.prog 27 #[q.val] w fun e w'=>e=.returned (.bool (validB b))/\Below w.heap.size w w':=
 Px W0 b (by have:=hb.lf;omega) (by have:=hb.lt;omega) hb.fs' hb.ts' ok w ht q hq
theorem zR (b:Bd) (hb:BdFit b) (hv:validB b=true) (ok:Nat->Prop) (w:World) (q:BQ) (hq:BindV ok w q b) :
  Calls Tryz.prog 46 #[q.val] w fun e w'=>e=.returned (.pointer (some ⟨w.heap.size+1+1+1,0,none⟩))/\KnV (fun b=>b<w.heap.size) goodF goodT w' (w.heap.size+1+1+1) (w.heap.size+1) (w.heap.size+1+1) b.fs.length b.ts.length b/\Below w.heap.size w w':=by
 have jW:=hv;simp only[validB,ae]at jW;exact Jm b (by have:=hb.lf;omega) (by have:=hb.lt;omega) (fun x hx=>(hb.fs x hx).1) (fun x hx=>(hb.ts x hx).1) (iW (lv jW.2.1)) (iW (lv jW.2.2)) goodF goodT (fun x hx=>(NC hv x hx).1) (fun x hx=>(AB hv (fun x hx=>(hb.ts x hx).2.2) x hx).1) ok w q hq
theorem o6:BindV ok W ⟨none,0,0,none,0,0⟩ ⟨[],[]⟩:=
 ⟨⟨none,0,fun _=>⟨0,⟨#[]⟩,none,0,0,none,0,0⟩,rfl,aC _,.inl rfl,fun j hj=>by simp at hj⟩,⟨none,0,fun _=>⟨false,⟨#[]⟩,none,0,0⟩,rfl,aC _,.inl rfl,fun j hj=>by simp at hj⟩⟩
end Go.Proofs.YtokemihbkeddoaaGreatDoor
namespace Go.Proofs.YtokemihbkeddoaaGreatDoor
open Go
variable {b:Frame} {k:List Item} {cs:List Frame} {c:Code}
section
variable {F:Fence} {n:Nat} {P:Program} {a:Act} {w:World} {Q:Exit->Act->World->Prop}
theorem km:step P (lone (b.atR a (.code (.scope c) :: k)) cs w)=.next (lone (b.atR a (.code c :: .inScope c :: k)) cs w):=
 step_lone_go (by simp[stepG,stepG.exec,Frame.atR])
theorem EI:step P (lone (b.atR a (.inScope c :: k)) cs w)=.next (lone (b.atR a k) cs w):=
 step_lone_go (by simp[stepG,stepG.exec,Frame.atR])
theorem Mu (h:c.wpIn F n P (Exit.noGoto Q) a w):(Code.scope c).wpIn F n P Q a w:=by
 intro b k cs hro hb hr;have h0:(lone (b.atR a (.code (.scope c) :: k)) cs w).fenced P F:=fenced_calm hb hr rfl;obtain ⟨e,a₁,w₁,hq,Pz⟩:=h b (.inScope c :: k) cs hro hb hr
 cases e with
 | normal=>exact ⟨.normal,a₁,w₁,hq,.head h0 km (StepsIn.trans Pz (.one (fenced_calm hb hr rfl) EI))⟩
 | exit id'=>
  have hx:exitTo id' (.inScope c :: k)=exitTo id' k:=by simp[exitTo]
  exact ⟨.exit id',a₁,w₁,hq,fun k' hk=>.head h0 km (Pz.1 k' (by rw[hx];exact hk)),
   fun hr' hk=>let ⟨k₁,h1,h2⟩:=Pz.2 hr' (by rw[hx];exact hk);⟨k₁,h1,.head h0 km h2⟩⟩
 | goto l=>exact hq.elim
 | ret=>exact ⟨_,a₁,w₁,hq,.of_steps (.one h0 km) Pz⟩
 | panic ch=>exact ⟨_,a₁,w₁,hq,.of_steps (.one h0 km) Pz⟩
 | outgrown=>exact ⟨_,a₁,w₁,hq,.of_steps (.one h0 km) Pz⟩
theorem J_ {l:Nat} (h:Q .normal a w):(Code.label l).wpIn F n P Q a w:=
 fun _ _ _ _ hb hr=>⟨.normal,a,w,h,.one (fenced_calm hb hr rfl) stepR_label⟩
end
end Go.Proofs.YtokemihbkeddoaaGreatDoor
namespace Go.Proofs.YtokemihbkeddoaaGreatDoor
open Go Go.RowKit Lib
set_option maxRecDepth 100000
set_option maxHeartbeats 64000000
variable {w W X Y:World} {b:Nat} {v:Value} {α:Type}
section
attribute [local go_sem] Oper.semAt_some
theorem Dc {P:Program} {a:Addr} {m:Mode} (f:Fn) (xs ys:Array Value):(store a (.func f xs ys) m).run P w=stored P w a (.func f xs ys) m:=run_store P w a _ m rfl
attribute [local go_sem] Dc
theorem jl {a0:Value} {T:TypeId} (h:W.heap[b]?=some (.cells #[a0] T (0,0))):(W.setCell ⟨b,0,none⟩ v).heap[b]?=some (.cells #[v] T (0,0)):=(bp (F:=0) h v).trans rfl
theorem jm:Kp (fun c=>c=b) W (W.setCell ⟨b,0,none⟩ v):=
 ⟨rfl,rfl,rfl,by simp,fun c _ hc=>eC _ _ _ _ (by simpa using hc)⟩
theorem jN (h:Below w.heap.size w X) (hn:Nw w.heap.size X Y):Below w.heap.size w Y:=
 ⟨hn.os.trans h.os,hn.tape.trans h.tape,hn.output.trans h.output,aN h.size hn.size,fun b hb=>(hn.old hb (bJ hb h.size)).trans (h.block b hb)⟩
theorem dE {M:Nat->Prop} (h:Below w.heap.size w X) (k:Kp M X Y) (hM:∀ b,M b->w.heap.size<=b):Below w.heap.size w Y:=
 ⟨k.os.trans h.os,k.tape.trans h.tape,k.output.trans h.output,aN h.size k.size,fun b hb=>(k.same b (bJ hb h.size) (fun hm=>by have:=hM b hm;omega)).trans (h.block b hb)⟩
theorem wI {l:List (Fm×Fm)} {b:Bd} {i:Nat} (hv:validB b=true) (h:fA 0 l=some i):cP l b=(⟨[],[]⟩,i,2):=by
 unfold cP;rw[hv,h];rfl
theorem Hj {l:List (Fm×Fm)} {b:Bd} (hv:validB b=true) (h:fA 0 l=none):cP l b=match e7 aY 0 b l with
   | (k,i,e)=>if e≠0 then (⟨[],[]⟩,i,e) else match e7 dp 0 k l with
    | (k',i',e')=>if e'≠0 then (⟨[],[]⟩,i',e') else (k',0,0):=by
 unfold cP;rw[hv,h];rfl
theorem zS (W0:World) (l:List (Fm×Fm)) (b:Bd) (hl:l.length<=8) (uM:∀ x∈l,fitF x.1/\fitF x.2) (hb:BdFit b) (ok:Nat->Prop) (w:World) (la:Option Addr) (lc:Nat) (q:BQ) (ht:Tabs W0 w) (LR:SPairsV ok w (.slice la l.length lc) l) (Ao:BindV ok w q b) :
  Calls Tryz.prog 15 #[.slice la l.length lc,q.val] w fun e w'=>(∃p:BQ,e=.returned (.tuple #[p.val,.int .i64 ((cP l b).2.1:Nat),.int .i64 (cP l b).2.2])/\BindV (w.heap.size<=·) w' p (cP l b).1)/\Below w.heap.size w w':=by
 have ⟨R,hR⟩:=aj (cP l b);rw[<-hR];have LR:=LR.move (ok':=fun b=>b<w.heap.size) (fun b _ hlt=>⟨hlt,rfl⟩);have Ao:=Ao.move (ok':=fun b=>b<w.heap.size) (fun b _ hlt=>⟨hlt,rfl⟩);have ⟨n1,eh⟩:=aj l.length;rw[<-eh]at hl LR;rw[<-eh];have ⟨W2,aZ⟩:=aj ((w.alloc (.cells #[.slice q.a q.l q.c,.slice q.b q.m q.e] 26)).alloc (.cells #[.slice none 0 0,.slice none 0 0] 26));have bG:=k_ aZ;have gY:=xC aZ;have x0:=qM aZ;have x1:=jH aZ;have CV:=yJ W0 b hb _ W2 (ht.next bG) q (Ao.move (dI bG));have ⟨bv,_U⟩:=aj (validB b);rw[<-_U]at CV;have HV:=fG LR Ao ht hb uM;have H2:=cq bG gY x0 x1;have ⟨fj,HR,HN,NW⟩:=eD aZ hR eh _U;obtain ⟨qa,ql,qc,qb,qm,qe⟩:=q;simp only[BQ.val]at CV;have SL:=ab CV;obtain ⟨c0,c1,_,_⟩:=uz x0;simp only at fj c0 c1;rw[aZ]at c0 c1;simp only at c0 c1;clear LR Ao ht hb uM bG gY x0 x1 aZ hR eh CV _U;refine Is ?_;refine callsIn_of_wp_marks Tryz.func15 rfl trivial ?_ rfl;simp only[BQ.val,Tryz.ntmps15,Nat.reduceAdd,Nat.reduceSub,lE];have jx:=eU;gi_wp2_with fail;rw[<-fj.o];rw[<-fj.o]at c0 c1;refine Mu ?_
 cases bv with
 | false=>
  have HE:=ab (show R=(⟨[],[]⟩,0,2) by rw[HR.o];unfold cP;rw[<-NW.o];rfl);gi_wp2_with (gi_at_call 27;refine aH.2 (SL.o.mono ?_);rintro e w3 ⟨rfl,aG⟩;have QE:=bN aG H2.o.2.2.2;obtain ⟨y0,y1,z0,z1⟩:=uz QE;have H3:=aA aG QE;clear aG QE);obtain ⟨W8,kV,x8,k8,g0,g1⟩:=EH H3.o.2 (.slice none 0 0) (.slice none 0 0);rw[<-kV,Exit.noGoto_ret];have uC:Below w.heap.size w W8:=Below.kp1 (H2.o.1.tr H3.o.1) k8 (by omega);have qnB:=();exact qcl
 | true=>
 gi_wp2_with (gi_at_call 27;refine aH.2 (SL.o.mono ?_);rintro e w3 ⟨rfl,aG⟩;have QE:=bN aG H2.o.2.2.2;have x03:=bN aG H2.o.2.2.1;have H3:=bx aG QE x03;clear aG QE x03);clear c0 c1;have bD:=ab (H2.o.1.tr H3.o.1);gi_loopw [23] (fun i wr=>∃j:Nat,j<=n1/\i=.int .i64 j/\Below w3.heap.size w3 wr/\fA 0 l=fA j (l.drop j)) (fun i _=>n1 - (intOf i).toNat)
 case atStart=>exact ⟨0,aX _,rfl,ai _ _,by simp⟩
 case round=>
  obtain ⟨j,hj,rfl,aq,ik⟩:=hrel;have l8:Below w.heap.size w wr:=bD.o.tr aq
  by_cases hlt:j<n1
  ·have le:=cb HN.o hlt;have qnC:=();exact qe9
  ·obtain rfl:n1=j:=by omega
   have hbp:=ik;rw[gT (by rw[<-HN.o];exact aC _)]at hbp;have HBp:=ab (show fA 0 l=none from hbp);have Vt:=Hj NW.o.symm HBp.o;rw[<-HR.o]at Vt;have BE:=ab Vt;have ⟨wo,Gx⟩:=aj wr;subst Gx;have x0o:=bN aq H3.o.2.2;have x1o:=bN aq H3.o.2.1;obtain ⟨e0,e1,_,_⟩:=uz x0o;have CK:=zR b HV.o.2.2.2.1 NW.o.symm _ wo ⟨qa,ql,qc,qb,qm,qe⟩ (HV.o.2.1.move (dI l8));simp only[BQ.val]at CK;have HCK:=ab CK;have HO:=aA l8 x1o;clear aq l8 ik hbp Vt CK x0o x1o;gi_wp2_with (gi_at_call 46;refine aH.2 (HCK.o.mono ?_);rintro e w6 ⟨rfl,d_,cF⟩;have H6:=aA d_ cF;clear d_ cF);refine J_ ?_;have ⟨oA,An⟩:=aj ((w6.alloc (.cells #[.int .i64 0] 3)).alloc (.cells #[.int .i64 0] 30));rw[<-An];have ⟨K0,Yu⟩:=aj wo.heap.size;have ⟨aB,haB⟩:=aj w6.heap.size;have NX:=k_ An;have zbL:oA.heap.size=aB+2:=by rw[An,haB];simp
   have xa:oA.heap[aB]?=some (.cells #[.int .i64 0] 3 (0,0)):=by rw[An,haB];exact (bH _ _ _ (by simp)).trans (ah rfl)
   have xe:oA.heap[aB+1]?=some (.cells #[.int .i64 0] 30 (0,0)):=by rw[An,haB];exact ah (by simp)
   have hK6:K0+3<aB:=by rw[Yu,haB];have:=H6.o.1.ltb;omega
   have HKw:=ab (show w.heap.size+1<K0 by rw[Yu];exact (bA HO.o.2));have Yv:Below w.heap.size w oA:=(HO.o.1.tr H6.o.2).tr NX;have hwK:w.heap.size<=K0:=by rw[Yu];exact HO.o.1.size
   obtain ⟨M,hM⟩:∃M:Nat->Prop,M=fun b=>b=K0+1\/b=K0+1+1\/b=aB\/b=aB+1:=⟨_,rfl⟩;have FP:KnV (fun b=>¬M b) goodF goodT oA (K0+1+1+1) (K0+1) (K0+1+1) b.fs.length b.ts.length b:=by
    have h:=H6.o.1.later NX;rw[<-Yu]at h;exact h.move (fun b hb _=>⟨by rw[hM];omega,rfl⟩) rfl rfl rfl
   have zbM:=bN (H6.o.2.tr NX) HO.o.2;rw[<-Yu,<-haB];have mo:=fG zbL hK6 Yv hwK zbM;have H0:=bx xa xe FP;have HM:=ab hM;clear An NX zbL xa xe hK6 Yv hwK hM FP zbM Yu haB e0 e1;gi_wp2_with fail;refine mc [48,49,50,13,51,52,53,54,55,56,57,14,15,58,59,60,61,62,70,71] 48 (fun us ds wr=>∃i:Nat,i<=2/\us 48=.int .i64 i/\Marks oA.heap.size wr ds/\Kp M oA wr/\wr.heap[aB+1]?=some (.cells #[.int .i64 0] 30 (0,0))/\wr.heap[aB]?=some (.cells #[.int .i64 0] 3 (0,0)) ∧
    ∃(k:Bd) (nF nT:Nat),KnV (fun b=>¬M b) goodF goodT wr (K0+1+1+1) (K0+1) (K0+1+1) nF nT k/\nF<=1000+i * 3200/\nT<=1000+i * 1280000/\validB k=true/\(i=0->k=b)/\(i=1->e7 aY 0 b l=(k,0,0))/\(i=2->∃k1,e7 aY 0 b l=(k1,0,0)/\e7 dp 0 k1 l=(k,0,0))) (fun v=>2 - (intOf v).toNat) (by simp) (by decide) ?start2 ?round2
   case start2=>
    exact ⟨0,by omega,rfl,Marks.nil _ _,Kp.refl _,H0.o.2.1,H0.o.1,b,_,_,H0.o.2.2,by have:=HV.o.2.2.2.1.lf;omega,by have:=HV.o.2.2.2.1.lt;omega,NW.o.symm,fun _=>rfl,fun h=>by omega,fun h=>by omega⟩
   case round2=>
    intro us ds wr hrel;obtain ⟨i,hi,hu,ze,bi,Iq,fC,k,nF,nT,d_,sL,qW,FU,qJ,hi1,xk⟩:=hrel;have qnD:=();exact qfa
mutual
theorem pV:∀ (s f:Fm) (c:Sco),okF true s=true->∀ p∈a_ c s f,okF true p.s=true
 | .mk o n a l,.mk o' n' a' l',c,h,p,hp=>by
  simp only[a_,cG]at hp;rcases hp with rfl | hp
  ·exact h
  ·simp only[okF,ae]at h;exact zT l l' _ h.2.2.2.2 p hp
theorem zT:∀ (s f:List Fm) (c:Sco),dt true s=true->∀ p∈aJ c s f,okF true p.s=true
 | [],_,c,_,p,hp=>by simp[aJ]at hp
 | _ :: _,[],c,_,p,hp=>by simp[aJ]at hp
 | t :: l,u :: m,c,h,p,hp=>by
  simp only[dt,ae]at h;simp only[aJ,List.mem_append]at hp;rcases hp with hp | hp
  ·exact pV t u c h.1 p hp
  ·exact zT l m c h.2 p hp
end
theorem SZ {oz:Nat->Prop} {kb mF mT nF nT:Nat} {k:Bd} (d_:KnV oz goodF goodT W kb mF mT nF nT k) (s:Fm) (hs:okF true s=true) (sf:nodesF s<=400):mj k s<=1000000:=by
 obtain ⟨o,n,a,l⟩:=s;have hn:=CO (iD _ hs);rw[JC];have h1:nodesF (formOf k.fs n)<=400:=by obtain ⟨q,_,_,h,_⟩:=d_.formOf (x:=n) (by have:=hn.2.1;omega);exact h
 split
 ·omega
 ·split
  ·rename_i h16;subst h16;obtain ⟨x,y,rfl,hx,hy,hi⟩:=kh hs;rw[hi];have h2:=pM (bI x) (formOf k.fs n);have h3:=lr d_ (x:=y) (by have:=gh hy;omega);have:ea (bI x) (formOf k.fs n) * (nodesT (termOf k.ts y) - 1)<=400 * 1000:=Nat.mul_le_mul (by omega) (by omega);simp only;omega
  ·have h4:=sh (fun x hx=>lr d_ (x:=x) hx) a (ef (by omega) a hn.2.2.1);have h5:nodesTs a<=400:=by simp only[nodesF]at sf;omega
   omega
theorem wL {f:α->Bool} {l:List α} {x:α} (h:l.any f=false):(l ++ [x]).any f=f x:=by simp[h]
theorem NZ {f:α->Bool} {l m:List α} (h:l <+: m) (hl:l.any f=true):m.any f=true:=by
 obtain ⟨r,rfl⟩:=h;simp[hl]
theorem Wj {l m:List Nat} (h:l <+: m):l.sum<=m.sum:=by
 obtain ⟨r,rfl⟩:=h;simp
theorem PC (oz:Nat->Prop) (kb mF mT nF nT:Nat) (kd:Bd) (s:Fm) (hs:okF true s=true) (sf:nodesF s<=400) (ok:Nat->Prop) (w:World) (d_:KnV oz goodF goodT w kb mF mT nF nT kd) (q:FQ) (hq:FormV ok w q.val s) :
  Calls Tryz.prog 71 #[.pointer (some ⟨kb,0,none⟩),q.val] w fun e w'=>e=.returned (.int .i64 (ph kd s))/\Below w.heap.size w w':=by
 have hq:=hq.lt;have ar:fitF s:=⟨by omega,jK (by omega) s (iD _ hs)⟩;have ⟨R,hR⟩:=aj (ph kd s);rw[<-hR];unfold ph at hR;obtain ⟨so,sn,sa,sl,sc,sb,sm,se⟩:=q;have ⟨W1,bY⟩:=aj (((w.alloc (.cells #[.pointer (some ⟨kb,0,none⟩)] 80)).alloc (.cells #[.int .u8 so,.string sn,.slice sa sl sc,.slice sb sm se] 36)).alloc (.cells #[.int .i64 0] 30));have hb1:=uS bY;have iM:=Ir bY;have xk1:=yX bY;have xs1:=qN bY;have xr1:=oD bY;have HP:=fG hs sf ar d_ hq;have H1:=fG hb1 iM xk1 xs1 xr1;have ⟨jt,HR⟩:=aS bY hR;clear hs sf ar d_ hq hb1 iM xk1 xs1 xr1 bY hR;refine Is ?_;refine callsIn_of_wp_marks Tryz.func71 rfl trivial ?_ rfl;simp only[FQ.val,Tryz.ntmps71,Nat.reduceAdd,Nat.reduceSub,lE];have jx:=eU;have ⟨d0,d1,d2,d3⟩:=nI H1.o.2.2.2.1;rw[jt.o]at d0 d1 d2 d3;have HMk:=ab (show w.heap.size≠w.heap.size+1+1 by omega);have HU1:=fG H1.o.1 H1.o.2.2.1 H1.o.2.2.2.1 H1.o.2.2.2.2 (Marks.nil w.heap.size W1);obtain ⟨Wk,S2⟩:∃bad:Pl->Bool,bad=fun p=>jv kd p.s:=⟨_,rfl⟩;have zbN:=ab (show ∀ p,jv kd p.s=Wk p from fun p=>by rw[S2]);have Wl:=ab S2;clear S2;obtain ⟨Wm,S3⟩:∃bad:Pl->Bool,bad=fun p=>E0 kd p:=⟨_,rfl⟩;have zbO:=ab (show ∀ p,E0 kd p=Wm p from fun p=>by rw[S3]);have κ:=ab S3;clear S3;obtain ⟨Ho,S4⟩:∃bad:Pl->Nat,bad=fun p=>mj kd p.s:=⟨_,rfl⟩;have Yw:=ab (show ∀ p,mj kd p.s=Ho p from fun p=>by rw[S4]);have zbP:=ab S4;clear S4;have ⟨V1,hV1⟩:=aj (iK W1 ⟨so,sn,sa,sl,sc,sb,sm,se⟩ ⟨so,sn,sa,sl,sc,sb,sm,se⟩);obtain ⟨M1,Wf⟩:∃M:Nat->Prop,M=(fun b=>b=w.heap.size+1+1):=⟨_,rfl⟩;have Np:Below W1.heap.size W1 V1:=by rw[hV1];exact gj _ _ _
 have iM:V1.heap.size=W1.heap.size+2:=by rw[hV1,kM]
 have xX1:V1.heap[W1.heap.size]?=some (.cells #[.int .u8 so,.string sn,.slice sa sl sc,.slice sb sm se] 36 (0,0)):=by rw[hV1];exact lP _ _ _
 have xY1:V1.heap[W1.heap.size+1]?=some (.cells #[.int .u8 so,.string sn,.slice sa sl sc,.slice sb sm se] 36 (0,0)):=by rw[hV1];exact lQ _ _ _
 have Wn:=HU1.o.1.tr Np;have zdV:=(bA HU1.o.2.2.2.1);have S5:∀ b,M1 b->w.heap.size<=b/\b<W1.heap.size:=fun b hb=>by rw[Wf]at hb;subst hb;omega
 have ν:FormV (fun b=>b<V1.heap.size/\¬M1 b) V1 (FQ.val ⟨so,sn,sa,sl,sc,sb,sm,se⟩) s:=HP.o.2.2.2.2.move (fun b hb hlt=>⟨⟨bJ hb Wn.size,fun hm=>by have:=(S5 b hm).1;omega⟩,Wn.block b hlt⟩);have Yx:=nj s s HP.o.2.2.1 (by have:=HP.o.2.1;omega) M1 V1.heap.size W1.heap.size (W1.heap.size+1) V1 ⟨so,sn,sa,sl,sc,sb,sm,se⟩ ⟨so,sn,sa,sl,sc,sb,sm,se⟩ xX1 (fun h=>by have:=(S5 _ h).2;omega) xY1 (fun h=>by have:=(S5 _ h).2;omega) ν ν;have ⟨zdW,Wo,GM⟩:=cE Yx S5 Wf;have Lw:=cq Wn iM (bN Np HU1.o.2.1) (bN Np HU1.o.2.2.2.1);have Hv1:=aA Np (HU1.o.2.2.2.2.move (fun D _ hd=>(Np.block D (bA hd)).trans hd));have zdX:=ab hV1;clear hV1 Wf Np iM xX1 xY1 Wn zdV S5 ν Yx;gi_wp2_with fail;refine aH.2 ((nh ⟨so,sn,sa,sl,sc,sb,sm,se⟩ ⟨so,sn,sa,sl,sc,sb,sm,se⟩ _).mono ?_);rintro e w' ⟨rfl,rfl⟩
 try clear d0 d1 d2 d3
 rw[<-jt.o];rw[<-zdX.o];gi_wp2_with fail;have qnE:=();exact qfb
