/-L-/
import Derived.Test.YtokemihbkeddoaaGreatDoorP06
open Go.Proofs.Tryz
namespace Go.Proofs.YtokemihbkeddoaaGreatDoor
open Go Go.RowKit Lib
set_option maxRecDepth 100000
set_option maxHeartbeats 0
variable{P R r2 r3 r4 j B kb mF mT nF nT p:Nat}{o:Int}{n:aj}{av sv v:Value}{w w' W X Y:World}{r0 r1:Bool}{ok M:Nat->Prop}{k b:Bd}{PF:Fm->Prop}{PT:Tm->Prop}
def vr(P:Nat)(o:Int)(n:aj)(av sv:Value)(w:World):Prop:=w.heap[P]?=some (.cells #[.int .u8 o,.string ⟨n.toArray⟩,av,sv] 36 (0,0))
theorem vr.later(h:vr P o n av sv w)(hb:Below w.heap.size w w'):vr P o n av sv w':=(hb.block P (bQ h)).trans h
theorem vr.kp{J:Nat}(h:vr P o n av sv w)(hb:Kp (fun c=>c=J) w w')(hP:P≠J):vr P o n av sv w':=(hb.same P (bQ h) hP).trans h
theorem vr.c0(h:vr P o n av sv w):w.cell? ⟨P,0,none⟩=some (.int .u8 o):=ao h 0
theorem vr.c1(h:vr P o n av sv w):w.cell? ⟨P,1,none⟩=some (.string ⟨n.toArray⟩):=ao h 1
theorem vr.c2(h:vr P o n av sv w):w.cell? ⟨P,2,none⟩=some av:=ao h 2
theorem vr.c3(h:vr P o n av sv w):w.cell? ⟨P,3,none⟩=some sv:=ao h 3
def Md(R:Nat)(r0 r1:Bool)(r2 r3 r4:Nat)(w:World):Prop:=w.heap[R]?=some (.cells #[.bool r0,.bool r1,.int .u8 r2,.int .i64 r3,.int .i64 r4] 173 (0,0))
theorem Md.c3(h:Md R r0 r1 r2 r3 r4 w):w.cell? ⟨R,3,none⟩=some (.int .i64 r3):=ao h 3
theorem Md.c4(h:Md R r0 r1 r2 r3 r4 w):w.cell? ⟨R,4,none⟩=some (.int .i64 r4):=ao h 4
theorem Md.later(h:Md R r0 r1 r2 r3 r4 w)(hb:Below w.heap.size w w'):Md R r0 r1 r2 r3 r4 w':=(hb.block R (bQ h)).trans h
theorem U3(W0:World):∀(t:Fm),cJ t->zct W0 t:=by
 intro t
 induction t using Fm.ind with
 |h o n a s ih=>
  intro aI ok J sc left bT bB w q ht YB hq hok hJ h0 h1 hde hd hn;obtain⟨ho1,ho2⟩:=aI.op;obtain⟨on,rfl⟩:∃on:Nat,o=on:=⟨o.toNat,by omega⟩;have qnN:=();exact qar
theorem oJ(W0:World)(t:Fm)(hf:cJ t)(ok:Nat->Prop)(w:World)(ht:gG W0 w)(q:FQ)(hq:aC ok w q.val t):
  Calls prog 39 #[q.val] w fun e w'=>e=.returned (.bool (bw t))/\Below w.heap.size w w':=by
 have hn:=hf.1;have⟨W2,bp⟩:=az ((w.alloc (.cells #[.int .u8 q.o,.string q.n,.slice q.a q.l q.c,.slice q.b q.m q.e] 36)).alloc (.cells #[.bool false,.int .i64 400,.int .i64 40] 111));have hB:=mo bp;have hJ:tu (w.heap.size+1) false 400 40 W2:=by rw[bp];exact aq (by simp)
 have C:=U3 W0 t hf _ (w.heap.size+1) false 400 40 1 W2 q (ht.next hB) (by have:=ht.size;omega) (hq.lt.later hB) (fun b hb=>by omega) hJ (by omega) (by omega) (by omega) (by omega) (by omega);have hb:(gF false t&&(decide ((ag t:Int)<=400)&&decide (1+(a_ t:Int)<=40+1)))=bw t:=by
  exact qfg
 have an:=();exact qfh
theorem EU(W0:World)(t:Fm)(hf:cJ t)(ok:Nat->Prop)(w:World)(ht:gG W0 w)(q:FQ)(hq:aC ok w q.val t):
  Calls prog 26 #[q.val] w fun e w'=>e=.returned (.bool (eS t))/\Below w.heap.size w w':=by
 have hn:=hf.1;have⟨W2,bp⟩:=az ((w.alloc (.cells #[.int .u8 q.o,.string q.n,.slice q.a q.l q.c,.slice q.b q.m q.e] 36)).alloc (.cells #[.bool true,.int .i64 400,.int .i64 40] 111));have hB:=mo bp;have hJ:tu (w.heap.size+1) true 400 40 W2:=by rw[bp];exact aq (by simp)
 have C:=U3 W0 t hf _ (w.heap.size+1) true 400 40 1 W2 q (ht.next hB) (by have:=ht.size;omega) (hq.lt.later hB) (fun b hb=>by omega) hJ (by omega) (by omega) (by omega) (by omega) (by omega);have hb:(gF true t&&(decide ((ag t:Int)<=400)&&decide (1+(a_ t:Int)<=40+1)))=eS t:=by
  exact qfg
 exact qfh
section
attribute [local go_sem] Oper.semAt_some
theorem Me{l:List aj}(h:fJ ok W v l):GX W v l:=by
 obtain⟨a,c,hv,hc,h⟩:=h;refine⟨a,c,hv,hc,?_⟩;rcases h with h|⟨b,off,ha,_,h⟩
 ·exact .inl h
 ·exact .inr ⟨b,off,ha,h⟩
theorem RN(W0:World)(b:Bd)(hF:b.fs.length<=1000000)(hT:b.ts.length<=1000000)(vh:∀x∈b.fs,x.1.length<=2000000/\cJ x.2/\cJ (bI x.2))(tC:∀x∈b.ts,x.1.length<=2000000/\e7 x.2/\e7 (aU x.2))(ok:Nat->Prop)(w:World)(ht:gG W0 w)(q:BQ)(hq:fH ok w q b):
  Calls prog 27 #[q.val] w fun e w'=>e=.returned (.bool (bF b))/\Below w.heap.size w w':=by
 exact qeW
end
theorem Ay{step:Bd->Pl->Bd×Int}:∀(l:List Pl)(k k':Bd)(x:Pl),ek step k l=(k',0)->ek step k (l++[x])=step k' x
 |[],k,k',x,h=>by
  simp only[ek,Prod.mk.injEq,and_true]at h;subst h;simp only[sw,ek]
  cases hs:step k x with
  |mk k1 e=>
   simp only;split
   ·rename_i he;rw[he]
   ·rfl
 |p::l,k,k',x,h=>by
  simp only[lL,ek]at h⊢
  cases hs:step k p with
  |mk k1 e=>
   rw[hs]at h;simp only at h⊢
   by_cases he:e=0
   ·rw[aG he]at h⊢;exact Ay l k1 k' x h
   ·rw[aw he]at h;exact qbo
theorem ui{step:Bd->Pl->Bd×Int}:∀(l m:List Pl)(k k':Bd)(e:Int),e≠0->ek step k l=(k',e)->ek step k (l++m)=(k',e)
 |[],m,k,k',e,he,h=>by
  simp only[ek,Prod.mk.injEq]at h;exact absurd h.2.symm he
 |p::l,m,k,k',e,he,h=>by
  simp only[lL,ek]at h⊢
  cases hs:step k p with
  |mk k1 e1=>
   rw[hs]at h;simp only at h⊢
   by_cases WK:e1=0
   ·rw[aG WK]at h⊢;exact ui l m k1 k' e he h
   ·rw[aw WK]at h⊢;exact h
theorem EV{step:Bd->Pl->Bd×Int}{l:List (Fm×Fm)}(h:j<l.length):dt step j k (l.drop j)=if(ek step k (bC [] l[j].1 l[j].2)).2=0 then dt step (j+1) (ek step k (bC [] l[j].1 l[j].2)).1 (l.drop (j+1))else((ek step k (bC [] l[j].1 l[j].2)).1,j,(ek step k (bC [] l[j].1 l[j].2)).2):=by
 rw[iL h];obtain⟨⟨s,f⟩,hx⟩:∃x,x=l[j]:=⟨_,rfl⟩;rw[<-hx];simp only[dt]
theorem JF{l:List (Fm×Fm)}(h:j<l.length):eT j (l.drop j)=if(eS l[j].1&&bw l[j].2)=true then eT (j+1) (l.drop (j+1))else some j:=by
 rw[iL h];obtain⟨⟨s,f⟩,hx⟩:∃x,x=l[j]:=⟨_,rfl⟩;rw[<-hx];simp only[eT]
theorem pV.nw(h:Nw B X Y){b o:Nat}(hc:pV X b o v):pV Y b o v:=by
 obtain⟨x0,x1,x2,rfl,h0,h1,h2⟩:=hc;exact⟨x0,x1,x2,rfl,h.cell h0,h.cell h1,h.cell h2⟩
theorem pW.nw(h:Nw B X Y){b o:Nat}(hc:pW X b o v):pW Y b o v:=by
 obtain⟨x0,x1,x2,x3,rfl,h0,h1,h2,h3⟩:=hc;exact⟨x0,x1,x2,x3,rfl,h.cell h0,h.cell h1,h.cell h2,h.cell h3⟩
theorem aN.nw(hn:Nw B X Y){t:Tm}(h:aN ok X v t):aN ok Y v t:=by
 induction h with
 |mk v n al a cap vs hs _ ih=>
  refine .mk v n al a cap vs ?_ ih;exact qaC
theorem cB.nw(hn:Nw B X Y){l:List Tm}(h:cB ok X v l):cB ok Y v l:=by
 obtain⟨a,cap,vs,hv,hs,h⟩:=h;refine⟨a,cap,vs,hv,?_,fun j hj=>(h j hj).nw hn⟩;exact qaC
theorem aC.nw(hn:Nw B X Y){t:Fm}(h:aC ok X v t):aC ok Y v t:=by
 induction h with
 |mk op n al ss va a cap vs ha hs _ ih=>
  refine .mk op n al ss va a cap vs (ha.nw hn) ?_ ih;exact qaC
theorem ly.nw(hn:Nw B X Y)(h:ly ok PF PT X kb mF mT nF nT k)(hF:mF<B)(hT:mT<B):ly ok PF PT Y kb mF mT nF nT k:=
 ⟨hn.cells h.box,h.fs.move (hn.old hF h.fs.lt) (fun _ _ _ _ ⟨q,e,hv,hp⟩=>⟨q,e,hv.nw hn,hp⟩),h.ts.move (hn.old hT h.ts.lt) (fun _ _ _ _ ⟨q,e,hv,hp⟩=>⟨q,e,hv.nw hn,hp⟩),h.ne1,h.ne2,h.ne3⟩
theorem et.nw(hn:Nw B X Y){l:List (aj×Fm)}(h:et ok X v l):et ok Y v l:=by
 have qnP:=();exact qfi
theorem eI.nw(hn:Nw B X Y){l:List (aj×Tm)}(h:eI ok X v l):eI ok Y v l:=by
 exact qfi
theorem fH.nw(hn:Nw B X Y){q:BQ}(h:fH ok X q b):fH ok Y q b:=⟨h.1.nw hn,h.2.nw hn⟩
theorem ly.kpx{M':Nat->Prop}(h:ly (fun b=>¬M b) PF PT X kb mF mT nF nT k)(hk:Kp M' X Y)(hM:∀b,M' b->M b)(hb:¬M' kb)(hF:¬M' mF)(hT:¬M' mT):ly (fun b=>¬M b) PF PT Y kb mF mT nF nT k:=
 h.move (fun b hb hlt=>⟨hb,hk.same b hlt (fun h=>hb (hM b h))⟩) (hk.same _ h.ltb hb) (hk.same _ h.fs.lt hF) (hk.same _ h.ts.lt hT)
theorem qh(h:Kp M w X)(hn:Nw w.heap.size X Y):Kp M w Y:=
 ⟨hn.os.trans h.os,hn.tape.trans h.tape,hn.output.trans h.output,aR h.size hn.size,fun b hb hm=>(hn.old hb (bP hb h.size)).trans (h.same b hb hm)⟩
theorem nK.busy{l:Nat}{W2:World}{ps:List (aj×aj)}(h:nK M W v ps)(hb:SZ l W W2)(hl:∃r,W.heap[l]?=some (.loop r)):nK M W2 v ps:=by
 exact qeX
mutual
theorem EW:∀t,kI p t=true->kI p (aU t)=true
 |.mk v n a,h=>by
  simp only[kI,aU,ak,bM]at h⊢;refine⟨?_,uj a h.2⟩;split
  ·simp;omega
  ·exact h.1
theorem uj:∀t,d8 p t=true->d8 p (bW t)=true
 |[],_=>rfl
 |t::l,h=>by
  simp only[d8,bW,ak]at h⊢;exact⟨EW t h.1,uj l h.2⟩
end
mutual
theorem Ib:∀t,mI p t=true->mI p (bI t)=true
 |.mk o n a s,h=>by
  simp only[mI,bI,ak,bM]at h⊢;exact⟨h.1,h.2.1,uj a h.2.2.1,EX s h.2.2.2⟩
theorem EX:∀t,eu p t=true->eu p (cv t)=true
 |[],_=>rfl
 |t::l,h=>by
  simp only[eu,cv,ak]at h⊢;exact⟨Ib t h.1,EX l h.2⟩
end
structure j9(b:Bd):Prop where
 lf:b.fs.length<=1000
 lt:b.ts.length<=1000
 fs:∀x∈b.fs,x.1.length<=2000000/\cJ x.2
 ts:∀x∈b.ts,x.1.length<=2000000/\e7 x.2/\ap x.2<=1000
theorem j9.fs'(h:j9 b):∀x∈b.fs,x.1.length<=2000000/\cJ x.2/\cJ (bI x.2):=fun x hx=>⟨(h.fs x hx).1,(h.fs x hx).2,by rw[(ja x.2).1];exact(h.fs x hx).2.1,Ib _ (h.fs x hx).2.2⟩
theorem j9.ts'(h:j9 b):∀x∈b.ts,x.1.length<=2000000/\e7 x.2/\e7 (aU x.2):=fun x hx=>⟨(h.ts x hx).1,(h.ts x hx).2.1,by rw[(Bg x.2).1];exact(h.ts x hx).2.1.1,EW _ (h.ts x hx).2.1.2⟩
theorem Az(W0:World)(b:Bd)(hb:j9 b)(ok:Nat->Prop)(w:World)(ht:gG W0 w)(q:BQ)(hq:fH ok w q b):
  Calls prog 27 #[q.val] w fun e w'=>e=.returned (.bool (bF b))/\Below w.heap.size w w':=
 RN W0 b (by have:=hb.lf;omega) (by have:=hb.lt;omega) hb.fs' hb.ts' ok w ht q hq
theorem BL(b:Bd)(hb:j9 b)(hv:bF b=true)(ok:Nat->Prop)(w:World)(q:BQ)(hq:fH ok w q b):
  Calls prog 46 #[q.val] w fun e w'=>e=.returned (.pointer (some ⟨w.heap.size+1+1+1,0,none⟩))/\ly (fun b=>b<w.heap.size) dx dV w' (w.heap.size+1+1+1) (w.heap.size+1) (w.heap.size+1+1) b.fs.length b.ts.length b/\Below w.heap.size w w':=by
 have ll:=hv;simp only[bF,ak]at ll;exact Lm b (by have:=hb.lf;omega) (by have:=hb.lt;omega) (fun x hx=>(hb.fs x hx).1) (fun x hx=>(hb.ts x hx).1) (jZ (mX ll.2.1)) (jZ (mX ll.2.2)) dx dV (fun x hx=>(PP hv x hx).1) (fun x hx=>(CO hv (fun x hx=>(hb.ts x hx).2.2) x hx).1) ok w q hq
theorem qW:fH ok W ⟨none,0,0,none,0,0⟩ ⟨[],[]⟩:=
 ⟨⟨none,0,fun _=>⟨0,⟨#[]⟩,none,0,0,none,0,0⟩,rfl,aK _,.inl rfl,fun j hj=>by simp at hj⟩,⟨none,0,fun _=>⟨false,⟨#[]⟩,none,0,0⟩,rfl,aK _,.inl rfl,fun j hj=>by simp at hj⟩⟩
end Go.Proofs.YtokemihbkeddoaaGreatDoor
namespace Go.Proofs.YtokemihbkeddoaaGreatDoor
open Go
variable{b:Frame}{k:List Item}{cs:List Frame}{c:Code}
section
variable{F:Fence}{n:Nat}{P:Program}{a:Act}{w:World}{Q:Exit->Act->World->Prop}
theorem lC:step P (lone (b.atR a (.code (.scope c)::k)) cs w)=.next (lone (b.atR a (.code c:: .inScope c::k)) cs w):=
 step_lone_go (by simp[stepG,stepG.exec,Frame.atR])
theorem Gl:step P (lone (b.atR a (.inScope c::k)) cs w)=.next (lone (b.atR a k) cs w):=
 step_lone_go (by simp[stepG,stepG.exec,Frame.atR])
theorem OE(h:c.wpIn F n P (Exit.noGoto Q) a w):(Code.scope c).wpIn F n P Q a w:=by
 intro b k cs hro hb hr;have h0:(lone (b.atR a (.code (.scope c)::k)) cs w).fenced P F:=fenced_calm hb hr rfl;obtain⟨e,a₁,w₁,hq,RO⟩:=h b (.inScope c::k) cs hro hb hr
 cases e with
 |normal=>exact⟨.normal,a₁,w₁,hq,.head h0 lC (StepsIn.trans RO (.one (fenced_calm hb hr rfl) Gl))⟩
 |exit id'=>
  have hx:exitTo id' (.inScope c::k)=exitTo id' k:=by simp[exitTo]
  exact ⟨.exit id',a₁,w₁,hq,fun k' hk=>.head h0 lC (RO.1 k' (by rw[hx];exact hk)),
   fun hr' hk=>let⟨k₁,h1,h2⟩:=RO.2 hr' (by rw[hx];exact hk);⟨k₁,h1,.head h0 lC h2⟩⟩
 |goto l=>exact hq.elim
 |ret=>exact⟨_,a₁,w₁,hq,.of_steps (.one h0 lC) RO⟩
 |panic ch=>exact⟨_,a₁,w₁,hq,.of_steps (.one h0 lC) RO⟩
 |outgrown=>exact⟨_,a₁,w₁,hq,.of_steps (.one h0 lC) RO⟩
theorem Mg{l:Nat}(h:Q .normal a w):(Code.label l).wpIn F n P Q a w:=
 fun _ _ _ _ hb hr=>⟨.normal,a,w,h,.one (fenced_calm hb hr rfl) stepR_label⟩
end
end Go.Proofs.YtokemihbkeddoaaGreatDoor
namespace Go.Proofs.YtokemihbkeddoaaGreatDoor
open Go Go.RowKit Lib
set_option maxRecDepth 100000
set_option maxHeartbeats 0
variable{w W X Y:World}{b:Nat}{v:Value}{α:Type}
section
attribute [local go_sem] Oper.semAt_some
theorem EY{P:Program}{a:Addr}{m:Mode}(f:Fn)(xs ys:Array Value):(store a (.func f xs ys) m).run P w=stored P w a (.func f xs ys) m:=run_store P w a _ m rfl
attribute [local go_sem] EY
theorem kr{a0:Value}{T:TypeId}(h:W.heap[b]?=some (.cells #[a0] T (0,0))):(W.setCell ⟨b,0,none⟩ v).heap[b]?=some (.cells #[v] T (0,0)):=(bJ (F:=0) h v).trans rfl
theorem ks:Kp (fun c=>c=b) W (W.setCell ⟨b,0,none⟩ v):=
 ⟨rfl,rfl,rfl,by simp,fun c _ hc=>e_ _ _ _ _ (by simpa using hc)⟩
theorem kU(h:Below w.heap.size w X)(hn:Nw w.heap.size X Y):Below w.heap.size w Y:=
 ⟨hn.os.trans h.os,hn.tape.trans h.tape,hn.output.trans h.output,aR h.size hn.size,fun b hb=>(hn.old hb (bP hb h.size)).trans (h.block b hb)⟩
theorem en{M:Nat->Prop}(h:Below w.heap.size w X)(k:Kp M X Y)(hM:∀b,M b->w.heap.size<=b):Below w.heap.size w Y:=
 ⟨k.os.trans h.os,k.tape.trans h.tape,k.output.trans h.output,aR h.size k.size,fun b hb=>(k.same b (bP hb h.size) (fun hm=>by have:=hM b hm;omega)).trans (h.block b hb)⟩
theorem zh{l:List (Fm×Fm)}{b:Bd}{i:Nat}(hv:bF b=true)(h:eT 0 l=some i):bm l b=(⟨[],[]⟩,i,2):=by
 unfold bm;rw[hv,h];rfl
theorem JG{l:List (Fm×Fm)}{b:Bd}(hv:bF b=true)(h:eT 0 l=none):bm l b=match dt bc 0 b l with
   |(k,i,e)=>if e≠0 then(⟨[],[]⟩,i,e)else match dt dE 0 k l with
    |(k',i',e')=>if e'≠0 then(⟨[],[]⟩,i',e')else(k',0,0):=by
 unfold bm;rw[hv,h];rfl
theorem BM(W0:World)(l:List (Fm×Fm))(b:Bd)(hl:l.length<=8)(pM:∀x∈l,cJ x.1/\cJ x.2)(hb:j9 b)(ok:Nat->Prop)(w:World)(la:Option Addr)(lc:Nat)(q:BQ)(ht:gG W0 w)(I3:dZ ok w (.slice la l.length lc) l)(AA:fH ok w q b):
  Calls prog 15 #[.slice la l.length lc,q.val] w fun e w'=>(∃p:BQ,e=.returned (.tuple #[p.val,.int .i64 ((bm l b).2.1:Nat),.int .i64 (bm l b).2.2])/\fH (w.heap.size<=·) w' p (bm l b).1)/\Below w.heap.size w w':=by
 have⟨R,hR⟩:=az (bm l b);rw[<-hR];have I3:=I3.move (ok':=fun b=>b<w.heap.size) (fun b _ hlt=>⟨hlt,rfl⟩);have AA:=AA.move (ok':=fun b=>b<w.heap.size) (fun b _ hlt=>⟨hlt,rfl⟩);have⟨n2,eB⟩:=az l.length;rw[<-eB]at hl I3;rw[<-eB];have⟨W2,bp⟩:=az ((w.alloc (.cells #[.slice q.a q.l q.c,.slice q.b q.m q.e] 26)).alloc (.cells #[.slice none 0 0,.slice none 0 0] 26));have bU:=mo bp;have iG:=zP bp;have x0:=sx bp;have x1:=kv bp;have CV:=Az W0 b hb _ W2 (ht.next bU) q (AA.move (dT bU));have⟨bv,za5⟩:=az (bF b);rw[<-za5]at CV;have HV:=gN I3 AA ht hb pM;have H2:=cH bU iG x0 x1;have⟨gh,HR,HN,Qj⟩:=f8 bp hR eB za5;obtain⟨qa,ql,qc,qb,qm,qe⟩:=q;simp only[BQ.val]at CV;have U4:=ae CV;obtain⟨c0,c1,_,_⟩:=w_ x0;simp only at gh c0 c1;rw[bp]at c0 c1;simp only at c0 c1;clear I3 AA ht hb pM bU iG x0 x1 bp hR eB CV za5;refine Pb ?_;refine callsIn_of_wp_marks func15 rfl trivial ?_ rfl;simp only[BQ.val,ntmps15,Nat.reduceAdd,Nat.reduceSub,ng];have jq:=fP;gi_wp2_with fail;rw[<-gh.o];rw[<-gh.o]at c0 c1;refine OE ?_
 cases bv with
 |false=>
  have HE:=ae (show R=(⟨[],[]⟩,0,2) by rw[HR.o];unfold bm;rw[<-Qj.o];rfl);gi_wp2_with (gi_at_call 27;refine aO.2 (U4.o.mono ?_);rintro e w3 ⟨rfl,aS⟩;have SL:=bY aS H2.o.2.2.2;obtain⟨y0,y1,z0,z1⟩:=w_ SL;have H3:=aM aS SL;clear aS SL);obtain⟨W8,kM,x8,k8,g0,g1⟩:=Gj H3.o.2 (.slice none 0 0) (.slice none 0 0);rw[<-kM,Exit.noGoto_ret];have xh:Below w.heap.size w W8:=Below.kp1 (H2.o.1.tr H3.o.1) k8 (by omega);have it:=();exact qcB
 |true=>
 gi_wp2_with (gi_at_call 27;refine aO.2 (U4.o.mono ?_);rintro e w3 ⟨rfl,aS⟩;have SL:=bY aS H2.o.2.2.2;have x03:=bY aS H2.o.2.2.1;have H3:=bS aS SL x03;clear aS SL x03);clear c0 c1;have bV:=ae (H2.o.1.tr H3.o.1);gi_loopw [23] (fun i wr=>∃j:Nat,j<=n2/\i=.int .i64 j/\Below w3.heap.size w3 wr/\eT 0 l=eT j (l.drop j)) (fun i _=>n2-(intOf i).toNat)
 case atStart=>exact⟨0,bn _,rfl,ar _ _,by simp⟩
 case round=>
  obtain⟨j,hj,rfl,aD,jm⟩:=hrel;have l9:Below w.heap.size w wr:=bV.o.tr aD
  by_cases hlt:j<n2
  ·have lG:=cG HN.o hlt;have qnR:=();exact qfj
  ·obtain rfl:n2=j:=by omega
   have hbp:=jm;rw[iW (by rw[<-HN.o];exact aK _)]at hbp;have HBp:=ae (show eT 0 l=none from hbp);have XQ:=JG Qj.o.symm HBp.o;rw[<-HR.o]at XQ;have Cj:=ae XQ;have⟨wo,IU⟩:=az wr;subst IU;have x0o:=bY aD H3.o.2.2;have x1o:=bY aD H3.o.2.1;obtain⟨e0,e1,_,_⟩:=w_ x0o;have CK:=BL b HV.o.2.2.2.1 Qj.o.symm _ wo ⟨qa,ql,qc,qb,qm,qe⟩ (HV.o.2.1.move (dT l9));simp only[BQ.val]at CK;have HCK:=ae CK;have HO:=aM l9 x1o;clear aD l9 jm hbp XQ CK x0o x1o;gi_wp2_with (gi_at_call 46;refine aO.2 (HCK.o.mono ?_);rintro e w6 ⟨rfl,eR,dh⟩;have H6:=aM eR dh;clear eR dh);refine Mg ?_;have⟨lB,Cr⟩:=az ((w6.alloc (.cells #[.int .i64 0] 3)).alloc (.cells #[.int .i64 0] 30));rw[<-Cr];have⟨K0,_y⟩:=az wo.heap.size;have⟨aB,haB⟩:=az w6.heap.size;have Qk:=mo Cr;have zdi:lB.heap.size=aB+2:=by rw[Cr,haB];simp
   have xa:lB.heap[aB]?=some (.cells #[.int .i64 0] 3 (0,0)):=by rw[Cr,haB];exact(bZ _ _ _ (by simp)).trans (aq rfl)
   have xe:lB.heap[aB+1]?=some (.cells #[.int .i64 0] 30 (0,0)):=by rw[Cr,haB];exact aq (by simp)
   have hK6:K0+3<aB:=by rw[_y,haB];have:=H6.o.1.ltb;omega
   have HKw:=ae (show w.heap.size+1<K0 by rw[_y];exact(bQ HO.o.2));have _z:Below w.heap.size w lB:=(HO.o.1.tr H6.o.2).tr Qk;have hwK:w.heap.size<=K0:=by rw[_y];exact HO.o.1.size
   obtain⟨M,hM⟩:∃M:Nat->Prop,M=fun b=>b=K0+1\/b=K0+1+1\/b=aB\/b=aB+1:=⟨_,rfl⟩;have H_:ly (fun b=>¬M b) dx dV lB (K0+1+1+1) (K0+1) (K0+1+1) b.fs.length b.ts.length b:=by
    have h:=H6.o.1.later Qk;rw[<-_y]at h;exact h.move (fun b hb _=>⟨by rw[hM];omega,rfl⟩) rfl rfl rfl
   have zdj:=bY (H6.o.2.tr Qk) HO.o.2;rw[<-_y,<-haB];have nZ:=gN zdi hK6 _z hwK zdj;have H0:=bS xa xe H_;have HM:=ae hM;clear Cr Qk zdi xa xe hK6 _z hwK hM H_ zdj _y haB e0 e1;gi_wp2_with fail;refine nO [48,49,50,13,51,52,53,54,55,56,57,14,15,58,59,60,61,62,70,71] 48 (fun us ds wr=>∃i:Nat,i<=2/\us 48=.int .i64 i/\gW lB.heap.size wr ds/\Kp M lB wr/\wr.heap[aB+1]?=some (.cells #[.int .i64 0] 30 (0,0))/\wr.heap[aB]?=some (.cells #[.int .i64 0] 3 (0,0)) ∧
    ∃(k:Bd)(nF nT:Nat),ly (fun b=>¬M b) dx dV wr (K0+1+1+1) (K0+1) (K0+1+1) nF nT k/\nF<=1000+i*3200/\nT<=1000+i*1280000/\bF k=true/\(i=0->k=b)/\(i=1->dt bc 0 b l=(k,0,0))/\(i=2->∃k1,dt bc 0 b l=(k1,0,0)/\dt dE 0 k1 l=(k,0,0))) (fun v=>2-(intOf v).toNat) (by simp) (by decide) ?start2 ?round2
   case start2=>
    exact⟨0,by omega,rfl,gW.nil _ _,Kp.refl _,H0.o.2.1,H0.o.1,b,_,_,H0.o.2.2,by have:=HV.o.2.2.2.1.lf;omega,by have:=HV.o.2.2.2.1.lt;omega,Qj.o.symm,fun _=>rfl,fun h=>by omega,fun h=>by omega⟩
   case round2=>
    intro us ds wr hrel;obtain⟨i,hi,hu,AZ,bD,Kg,gH,k,nF,nT,eR,vh,tC,CX,sB,hi1,zH⟩:=hrel;have qnS:=();exact qfk
mutual
theorem si:∀(s f:Fm)(c:gO),gF true s=true->∀p∈bC c s f,gF true p.s=true
 |.mk o n a l,.mk o' n' a' l',c,h,p,hp=>by
  simp only[bC,dc]at hp;rcases hp with rfl|hp
  ·exact h
  ·simp only[gF,ak]at h;exact BN l l' _ h.2.2.2.2 p hp
theorem BN:∀(s f:List Fm)(c:gO),dJ true s=true->∀p∈ba c s f,gF true p.s=true
 |[],_,c,_,p,hp=>by simp[ba]at hp
 |_::_,[],c,_,p,hp=>by simp[ba]at hp
 |t::l,u::m,c,h,p,hp=>by
  simp only[dJ,ak]at h;simp only[ba,List.mem_append]at hp;rcases hp with hp|hp
  ·exact si t u c h.1 p hp
  ·exact BN l m c h.2 p hp
end
theorem Vg{qt:Nat->Prop}{kb mF mT nF nT:Nat}{k:Bd}(eR:ly qt dx dV W kb mF mT nF nT k)(s:Fm)(hs:gF true s=true)(uM:ag s<=400):nS k s<=1000000:=by
 obtain⟨o,n,a,l⟩:=s;have hn:=EJ (jC _ hs);rw[LA];have h1:ag (cZ k.fs n)<=400:=by obtain⟨q,_,_,h,_⟩:=eR.formOf (x:=n) (by have:=hn.2.1;omega);exact h
 split
 ·omega
 ·split
  ·rename_i gq;subst gq;obtain⟨x,y,rfl,hx,hy,hi⟩:=lA hs;rw[hi];have h2:=rT (cg x) (cZ k.fs n);have h3:=mW eR (x:=y) (by have:=iI hy;omega);have:fD (cg x) (cZ k.fs n)*(ap (b8 k.ts y)-1)<=400*1000:=Nat.mul_le_mul (by omega) (by omega);simp only;omega
  ·have h4:=uO (fun x hx=>mW eR (x:=x) hx) a (eV (by omega) a hn.2.2.1);have h5:af a<=400:=by simp only[ag]at uM;omega
   omega
theorem zk{f:α->Bool}{l:List α}{x:α}(h:l.any f=false):(l++[x]).any f=f x:=by simp[h]
theorem Qm{f:α->Bool}{l m:List α}(h:l <+: m)(hl:l.any f=true):m.any f=true:=by
 obtain⟨r,rfl⟩:=h;simp[hl]
theorem YJ{l m:List Nat}(h:l <+: m):l.sum<=m.sum:=by
 obtain⟨r,rfl⟩:=h;simp
theorem RR(qt:Nat->Prop)(kb mF mT nF nT:Nat)(kd:Bd)(s:Fm)(hs:gF true s=true)(uM:ag s<=400)(ok:Nat->Prop)(w:World)(eR:ly qt dx dV w kb mF mT nF nT kd)(q:FQ)(hq:aC ok w q.val s):
  Calls prog 71 #[.pointer (some ⟨kb,0,none⟩),q.val] w fun e w'=>e=.returned (.int .i64 (ti kd s))/\Below w.heap.size w w':=by
 have hq:=hq.lt;have aI:cJ s:=⟨by omega,iR (by omega) s (jC _ hs)⟩;have⟨R,hR⟩:=az (ti kd s);rw[<-hR];unfold ti at hR;obtain⟨so,sn,sa,sl,sc,sb,sm,se⟩:=q;have⟨W1,cC⟩:=az (((w.alloc (.cells #[.pointer (some ⟨kb,0,none⟩)] 80)).alloc (.cells #[.int .u8 so,.string sn,.slice sa sl sc,.slice sb sm se] 36)).alloc (.cells #[.int .i64 0] 30));have hb1:=xK cC;have jv:=Ki cC;have xk1:=xM cC;have xs1:=sy cC;have xr1:=qw cC;have HP:=gN hs uM aI eR hq;have H1:=gN hb1 jv xk1 xs1 xr1;have⟨kf,HR⟩:=bi cC hR;clear hs uM aI eR hq hb1 jv xk1 xs1 xr1 cC hR;refine Pb ?_;refine callsIn_of_wp_marks func71 rfl trivial ?_ rfl;simp only[FQ.val,ntmps71,Nat.reduceAdd,Nat.reduceSub,ng];have jq:=fP;have⟨d0,d1,d2,d3⟩:=pC H1.o.2.2.2.1;rw[kf.o]at d0 d1 d2 d3;have HMk:=ae (show w.heap.size≠w.heap.size+1+1 by omega);have HU1:=gN H1.o.1 H1.o.2.2.1 H1.o.2.2.2.1 H1.o.2.2.2.2 (gW.nil w.heap.size W1);obtain⟨YK,Vh⟩:∃bad:Pl->Bool,bad=fun p=>kz kd p.s:=⟨_,rfl⟩;have zdk:=ae (show ∀p,kz kd p.s=YK p from fun p=>by rw[Vh]);have YL:=ae Vh;clear Vh;obtain⟨YM,Vi⟩:∃bad:Pl->Bool,bad=fun p=>GJ kd p:=⟨_,rfl⟩;have zdl:=ae (show ∀p,GJ kd p=YM p from fun p=>by rw[Vi]);have za9:=ae Vi;clear Vi;obtain⟨JL,Vj⟩:∃bad:Pl->Nat,bad=fun p=>nS kd p.s:=⟨_,rfl⟩;have _A:=ae (show ∀p,nS kd p.s=JL p from fun p=>by rw[Vj]);have zdm:=ae Vj;clear Vj;have⟨V1,hV1⟩:=az (jG W1 ⟨so,sn,sa,sl,sc,sb,sm,se⟩ ⟨so,sn,sa,sl,sc,sb,sm,se⟩);obtain⟨M1,YE⟩:∃M:Nat->Prop,M=(fun b=>b=w.heap.size+1+1):=⟨_,rfl⟩;have PA:Below W1.heap.size W1 V1:=by rw[hV1];exact iJ _ _ _
 have jv:V1.heap.size=W1.heap.size+2:=by rw[hV1,mg]
 have xX1:V1.heap[W1.heap.size]?=some (.cells #[.int .u8 so,.string sn,.slice sa sl sc,.slice sb sm se] 36 (0,0)):=by rw[hV1];exact nC _ _ _
 have xY1:V1.heap[W1.heap.size+1]?=some (.cells #[.int .u8 so,.string sn,.slice sa sl sc,.slice sb sm se] 36 (0,0)):=by rw[hV1];exact nD _ _ _
 have YN:=HU1.o.1.tr PA;have zfE:=(bQ HU1.o.2.2.2.1);have Vk:∀b,M1 b->w.heap.size<=b/\b<W1.heap.size:=fun b hb=>by rw[YE]at hb;subst hb;omega
 have zba:aC (fun b=>b<V1.heap.size/\¬M1 b) V1 (FQ.val ⟨so,sn,sa,sl,sc,sb,sm,se⟩) s:=HP.o.2.2.2.2.move (fun b hb hlt=>⟨⟨bP hb YN.size,fun hm=>by have:=(Vk b hm).1;omega⟩,YN.block b hlt⟩);have _B:=o9 s s HP.o.2.2.1 (by have:=HP.o.2.1;omega) M1 V1.heap.size W1.heap.size (W1.heap.size+1) V1 ⟨so,sn,sa,sl,sc,sb,sm,se⟩ ⟨so,sn,sa,sl,sc,sb,sm,se⟩ xX1 (fun h=>by have:=(Vk _ h).2;omega) xY1 (fun h=>by have:=(Vk _ h).2;omega) zba zba;have⟨zfF,YO,I'⟩:=cU _B Vk YE;have Nx:=cH YN jv (bY PA HU1.o.2.1) (bY PA HU1.o.2.2.2.1);have Hv1:=aM PA (HU1.o.2.2.2.2.move (fun D _ hd=>(PA.block D (bQ hd)).trans hd));have zfG:=ae hV1;clear hV1 YE PA jv xX1 xY1 YN zfE Vk zba _B;gi_wp2_with fail;refine aO.2 ((o8 ⟨so,sn,sa,sl,sc,sb,sm,se⟩ ⟨so,sn,sa,sl,sc,sb,sm,se⟩ _).mono ?_);rintro e w' ⟨rfl,rfl⟩
 try clear d0 d1 d2 d3
 rw[<-kf.o];rw[<-zfG.o];gi_wp2_with fail;have qnT:=();exact qfl
