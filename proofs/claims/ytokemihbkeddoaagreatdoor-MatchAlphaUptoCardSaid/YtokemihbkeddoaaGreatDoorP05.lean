/-L-/
import Derived.Test.YtokemihbkeddoaaGreatDoorP04
open Go.Proofs.Tryz
namespace Go.Proofs.YtokemihbkeddoaaGreatDoor
open Go Go.RowKit Lib
set_option maxRecDepth 100000
set_option maxHeartbeats 0
variable{k kb mF mT nF nT j b cap i:Nat}{ok qt:Nat->Prop}{W:World}{x n:aj}{a:List Tm}{l:List aj}{s:List Fm}{pr:aj->Bool}{g f:Fm}{c:gO}{sc:Bool}
section
attribute [local go_sem] Oper.semAt_some
def Um(pr:Tm->Bool)(fn:Nat)(kb:Nat)(W0:World)(t:Tm):Prop:=∀(ok:Nat->Prop)(w:World)(q:TQ),Below W0.heap.size W0 w->aN ok w q.val t→
 Calls prog fn #[.pointer (some ⟨kb,0,none⟩),q.val] w fun e w'=>e=.returned (.bool (pr t))/\Below w.heap.size w w'
theorem N_(pr:Tm->Bool)(l:List Tm)(hl:l.length<=2000000)(kb:Nat)(W0:World)(hp:∀t∈l,Um pr 193 kb W0 t)(ok:Nat->Prop)(w:World)(a:Option Addr)(n c:Nat)(hb:Below W0.heap.size W0 w)(hv:cB ok w (.slice a n c) l):
  Calls prog 243 #[.slice a n c,.func (.func 193) #[.pointer (some ⟨kb,0,none⟩)] #[]] w fun e w'=>(∃r:Int,e=.returned (.int .i64 r)/\(decide (0<=r)=l.any pr))/\Below w.heap.size w w':=by
 obtain rfl:=hv.len;have⟨k0,cD⟩:=az l.length;rw[<-cD]at hl hv;rw[<-cD];have⟨HK,HV,HP,X_⟩:=f8 cD hv hp hb;clear cD hv hp hb;go_enter func243,ntmps243;have an:=();exact qe2
theorem vR(pr:Tm->Bool)(l:List Tm)(hl:l.length<=2000000)(kb:Nat)(W0:World)(hp:∀t∈l,Um pr 193 kb W0 t)(ok:Nat->Prop)(w:World)(a:Option Addr)(n c:Nat)(hb:Below W0.heap.size W0 w)(hv:cB ok w (.slice a n c) l):
  Calls prog 192 #[.slice a n c,.func (.func 193) #[.pointer (some ⟨kb,0,none⟩)] #[]] w fun e w'=>e=.returned (.bool (l.any pr))/\Below w.heap.size w w':=by
 have CC:=N_ pr l hl kb W0 hp ok w a n c hb hv;have⟨B,hB⟩:=az (l.any pr);rw[<-hB]at CC⊢;have HC:=ae CC;clear CC hv hb hB hp;go_enter func192,ntmps192;go_wp2_with (go_at_call 243;refine HC.o.mono ?_;rintro e w4 ⟨⟨r,rfl,hr⟩,aY⟩;have H4:=aM hr aY;clear hr aY);exact qcu
theorem tV(k:List (aj×Tm)):∀l,pG k l=l.any (lm k)
 |[]=>rfl
 |t::l=>by simp only[pG,List.any_cons,tV k l]
theorem Ge(W0:World)(PF:Fm->Prop)(PT:Tm->Prop)(qt:Nat->Prop)(kb mF mT nF nT:Nat)(k:Bd)(eR:ly qt PF PT W0 kb mF mT nF nT k):∀t,e7 t->Um (lm k.ts) 193 kb W0 t:=by
 have MZ:=ae eR;clear eR;have qng:=();exact qav
theorem Hn{α:Type}{l:List (aj×α)}(h:k<l.length)(n:aj):bG (l.drop k) n=if l[k].1==n then some l[k].2 else bG (l.drop (k+1)) n:=by
 rw[iL h];rfl
def PV:Tm:=.mk false [] []
theorem oE:aC ok W (FQ.val ⟨0,⟨#[]⟩,none,0,0,none,0,0⟩) oN:=aX.2 ⟨_,_,rfl,cE,iE⟩
theorem Ho:aN ok W (TQ.val ⟨false,⟨#[]⟩,none,0,0⟩) PV:=aW.2 ⟨_,rfl,cE⟩
theorem Rn(b:Bd)(hF:b.fs.length<=1000000)(aI:∀x∈b.fs,cJ x.2)(n:aj)(ok:Nat->Prop)(w:World)(q:BQ)(hq:fH ok w q b):
  Calls prog 16 #[q.val,.string ⟨n.toArray⟩] w fun e w'=>(∃p:FQ,e=.returned (.tuple #[p.val,.bool (bG b.fs n).isSome])/\aC (w.heap.size<=·) w' p.val ((bG b.fs n).getD oN))/\Below w.heap.size w w':=by
 have I8:=();exact qcv
theorem Ro(b:Bd)(hF:b.ts.length<=1000000)(aI:∀x∈b.ts,e7 x.2)(n:aj)(ok:Nat->Prop)(w:World)(q:BQ)(hq:fH ok w q b):
  Calls prog 18 #[q.val,.string ⟨n.toArray⟩] w fun e w'=>(∃p:TQ,e=.returned (.tuple #[p.val,.bool (bG b.ts n).isSome])/\aN (w.heap.size<=·) w' p.val ((bG b.ts n).getD PV))/\Below w.heap.size w w':=by
 have Ss:=();exact qcv
theorem ly.termOf{k:Bd}(h:ly qt dx dV W kb mF mT nF nT k)(hx:x.length<=2000000):
  ∃q:TQ,aN qt W q.val (b8 k.ts x)/\e7 (b8 k.ts x)/\ap (b8 k.ts x)<=1000/\kI 17 (b8 k.ts x)=true/\lI (b8 k.ts x)=true/\∀W',W'.heap[mT]?=W.heap[mT]?->(Instr.lookup 146 (.map (some mT)) (.string ⟨x.toArray⟩) false).run prog W'=.ok q.val W':=by
 rcases h.ts.look underlying9 underlying146 lx hx with⟨hg,hl⟩|⟨t,vt,hg,hvt,hl⟩
 ·have he:Go.Proofs.YtokemihbkeddoaaGreatDoor.b8 k.ts x=PV:=by unfold Go.Proofs.YtokemihbkeddoaaGreatDoor.b8;rw[hg];rfl
  rw[he];exact⟨⟨false,⟨#[]⟩,none,0,0⟩,Ho,⟨by decide,by decide⟩,by decide,by decide,by decide,fun W' hW=>(hl W' hW).2⟩
 ·have he:Go.Proofs.YtokemihbkeddoaaGreatDoor.b8 k.ts x=t:=by unfold Go.Proofs.YtokemihbkeddoaaGreatDoor.b8;rw[hg]
  obtain⟨q,rfl,hq,hp⟩:=hvt;rw[he];exact⟨q,hq,hp.fit,hp.2,hp.nm,by rw[<-Hf];exact tI _ hp.1,fun W' hW=>(hl W' hW).2⟩
theorem mW{k:Bd}(h:ly qt dx dV W kb mF mT nF nT k)(hx:x.length<=2000000):ap (b8 k.ts x)<=1000:=by
 obtain⟨q,_,_,h1,_⟩:=h.termOf hx;exact h1
theorem Uo{k:List (aj×Tm)}(hk:∀x:aj,x.length<=2000000->ap (b8 k x)<=1000):∀t:Tm,kI 2000000 t=true->th k t<=ap t*1000:=by
 have qnj:=();exact qav
theorem tW{k:List (aj×Tm)}:∀{a:List Tm}{j:Nat}(h:j<a.length),fj k (a.take (j+1))=fj k (a.take j)+th k a[j]
 |t::a,0,_=>by simp[fj]
 |t::a,j+1,h=>by
  have:=tW (k:=k) (a:=a) (j:=j) (by simpa using h);simp only[List.take_succ_cons,fj,this,List.getElem_cons_succ];omega
theorem ma{j:Nat}:af (a.take j)<=af a:=by
 induction a generalizing j with
 |nil=>simp
 |cons t a ih=>
  cases j with
  |zero=>simp[af]
  |succ j=>have:=ih (j:=j);simp only[List.take_succ_cons,af];omega
theorem uO{k:List (aj×Tm)}(hk:∀x:aj,x.length<=2000000->ap (b8 k x)<=1000):∀a:List Tm,d8 2000000 a=true->fj k a<=af a*1000
 |[],_=>by simp[fj]
 |t::a,h=>by
  simp only[d8,ak]at h;have h1:=Uo hk t h.1;have h2:=uO hk a h.2;simp only[fj,af];omega
theorem uP{p:Nat}(h:d8 p a=true)(j:Nat):d8 p (a.take j)=true:=ii.2 fun t ht=>ii.1 h t (List.mem_of_mem_take ht)
def zaH(k:List (aj×Tm))(kb:Nat)(W0:World)(t:Tm):Prop:=∀(ok:Nat->Prop)(w:World)(q:TQ),Below W0.heap.size W0 w->aN ok w q.val t→
 Calls prog 197 #[.pointer (some ⟨kb,0,none⟩),q.val] w fun e w'=>e=.returned (.int .i64 (th k t))/\Below w.heap.size w w'
theorem Jj(W0:World)(qt:Nat->Prop)(kb mF mT nF nT:Nat)(k:Bd)(eR:ly qt dx dV W0 kb mF mT nF nT k):∀t,e7 t->zaH k.ts kb W0 t:=by
 have WM:=ae (fun x hx=>mW eR (x:=x) hx);have MZ:=ae eR;clear eR;have qnk:=();exact qav
theorem iu(f:Fm)(hlen:2<=f.a.length)(vC:f.a.length<=2000000)(hx:∀t∈f.a,(match t with|.mk _ n _=>n).length<=2000000)(ok:Nat->Prop)(w:World)(q:FQ)(hq:aC ok w q.val f):
  Calls prog 96 #[q.val] w fun e w'=>e=.returned (.tuple #[.string ⟨(bx f).1.toArray⟩,.string ⟨(bx f).2.toArray⟩])/\Below w.heap.size w w':=by
 obtain⟨fo,fn,fa,fs⟩:=f;obtain⟨v1,v2,h1,j7,oY⟩:=aX.1 hq;obtain⟨qo,qn,qa,ql,qc,qb,qm,qe⟩:=q;simp only[FQ.val,c_,Array.mk.injEq,cF,and_true,Value.int.injEq,true_and,Value.string.injEq]at h1;obtain⟨rfl,rfl,rfl,rfl⟩:=h1;simp only[Fm.a]at hlen hx vC
 match fa,hlen,vC,hx,j7 with
 |⟨xv,x,xa⟩::⟨yv,y,ya⟩::r,hlen,vC,hx,j7=>
 have hql:=j7.len;obtain⟨b1,o1,⟨u0,u1,u2,u3,u4⟩,rfl,hok,hu,c0,c1,c2⟩:=j7.get (j:=0) (by simp);obtain⟨b2,o2,⟨z0,z1,z2,z3,z4⟩,dz,_,hz,d0,d1,d2⟩:=j7.get (j:=1) (by simp);injection dz with dz;injection dz with hb1 bU;subst hb1 bU;obtain⟨s1,h2,_⟩:=aW.1 hu;obtain⟨s2,h3,_⟩:=aW.1 hz;simp only[TQ.val,c_,Array.mk.injEq,cF,and_true,Value.bool.injEq,Value.string.injEq]at h2 h3;obtain⟨rfl,rfl,rfl⟩:=h2;obtain⟨rfl,rfl,rfl⟩:=h3;simp only at c1 d1;have z8:x.length<=1000000000:=by have:=hx (.mk u0 x xa) (by simp);simp only at this;omega
 have FI:2<=ql:=by rw[hql];exact hlen
 have hI:bx (.mk qo fn (.mk u0 x xa:: .mk z0 y ya::r) fs)=(cg x,y):=rfl;rw[hI];have⟨W2,bp⟩:=az (w.alloc (.cells #[.int .u8 qo,.string ⟨fn.toArray⟩,.slice (some ⟨b1,o1,none⟩) ql qc,.slice qb qm qe] 36));have bU:=dj bp;have x2:=cA bp;have qnl:=();exact qan
end
theorem Co(x:aj){l:List Tm}{k:Nat}(h:k<l.length):fV x (l.take (k+1))=fV x (l.take k)+xU x l[k]:=by
 induction l generalizing k with
 |nil=>simp at h
 |cons t l ih=>
  cases k with
  |zero=>simp[fV]
  |succ k=>have:=ih (k:=k) (by simpa using h);simp[fV]at this⊢;omega
theorem Cp(x:aj){l:List Fm}{k:Nat}(h:k<l.length):jo x (l.take (k+1))=jo x (l.take k)+fD x l[k]:=by
 induction l generalizing k with
 |nil=>simp at h
 |cons t l ih=>
  cases k with
  |zero=>simp[jo]
  |succ k=>have:=ih (k:=k) (by simpa using h);simp[jo]at this⊢;omega
mutual
theorem Ya(x:aj):∀t,xU x t<=ap t
 |.mk v n a=>by have:=tX x a;unfold xU ap;split<;>omega
theorem tX(x:aj):∀l,fV x l<=af l
 |[]=>by simp[fV]
 |t::l=>by have:=Ya x t;have:=tX x l;simp[fV,af];omega
end
mutual
theorem rT(x:aj):∀t,fD x t<=ag t
 |.mk o n a s=>by have:=tX x a;have:=yT x s;unfold fD ag;omega
theorem yT(x:aj):∀l,jo x l<=ah l
 |[]=>by simp[jo]
 |t::l=>by have:=rT x t;have:=yT x l;simp[jo,ah];omega
end
def Yb(x:aj)(l:List Tm):Prop:=∀(ok:Nat->Prop)(w:World)(a:Option Addr)(n c:Nat),jE l->cB ok w (.slice a n c) l→
 Calls prog 164 #[.slice a n c,.string ⟨x.toArray⟩] w fun e w'=>e=.returned (.int .i64 (fV x l))/\Below w.heap.size w w'
theorem PW(x:aj)(l:List Tm)(ih:∀t∈l,Yb x t.a):Yb x l:=by
 intro ok w a n c aI hl;obtain rfl:=hl.len;have hlen:=aI.len;have qY:=tX x l;have nH:=aI.1;have qnm:=();exact qe3
theorem Uq(x:aj):∀t:Tm,Yb x t.a:=by
 intro t
 induction t using Tm.ind with
 |h v n a ih=>exact PW x a ih
theorem vp(x:aj)(l:List Tm):Yb x l:=PW x l (fun t _=>Uq x t)
theorem lk(x:aj):∀(f:Fm),cJ f->∀(ok:Nat->Prop)(w:World)(q:FQ),aC ok w q.val f→
  Calls prog 97 #[q.val,.string ⟨x.toArray⟩] w fun e w'=>e=.returned (.int .i64 (fD x f))/\Below w.heap.size w w':=by
 intro t
 induction t using Fm.ind with
 |h o n a s ih=>
  intro aI ok w q hq;have qnn:=();exact qar
section
attribute [local go_sem] Oper.semAt_some
theorem lA(hs:gF true (.mk 16 n a s)=true):∃x y:aj,a=[bj x,bj y]/\fQ x=true/\dI y=true/\bx (.mk 16 n a s)=(cg x,y):=by
 have hp:mr ⟨.mk 16 n a s,.mk 2 [] [] [],[]⟩:=⟨hs,show gF false (.mk 2 [] [] [])=true by decide,fun x h=>by simp at h,show ag (.mk 2 [] [] [])<=400 by decide,show a_ (.mk 2 [] [] [])<=40 by decide⟩;exact mN hp rfl
theorem Rp(k:Bd)(o:Int)(n:aj)(a:List Tm)(s:List Fm):kz k (.mk o n a s)=if(o !=15&&o !=16)=true then a.any (lm k.ts)else match bG k.fs n with
  |none=>true
  |some f=>if o=15 then false else(bG k.ts (bx (.mk o n a s)).2).isNone&&decide (fD (bx (.mk o n a s)).1 f>0):=by
 rw[<-tV];rfl
theorem Rq(qt:Nat->Prop)(kb mF mT nF nT:Nat)(k:Bd)(s:Fm)(hs:gF true s=true)(uM:ag s<=400)(ok:Nat->Prop)(w:World)(eR:ly qt dx dV w kb mF mT nF nT k)(q:gd)(hq:aC ok w q.s.val s):
  Calls prog 124 #[.pointer (some ⟨kb,0,none⟩),q.val] w fun e w'=>e=.returned (.bool (kz k s))/\Below w.heap.size w w':=by
 obtain⟨o,n,a,ss⟩:=s;have qno:=();exact qai
theorem ly.formOf{k:Bd}(h:ly qt dx dV W kb mF mT nF nT k)(hx:x.length<=2000000):
  ∃q:FQ,aC qt W q.val (cZ k.fs x)/\cJ (cZ k.fs x)/\ag (cZ k.fs x)<=400/\iV (cZ k.fs x)=true/\il (cZ k.fs x)=true/\∀W',W'.heap[mF]?=W.heap[mF]?->(Instr.lookup 145 (.map (some mF)) (.string ⟨x.toArray⟩) false).run prog W'=.ok q.val W':=by
 rcases h.fs.look underlying9 underlying145 oD hx with⟨hg,hl⟩|⟨t,vt,hg,hvt,hl⟩
 ·have he:Go.Proofs.YtokemihbkeddoaaGreatDoor.cZ k.fs x=oN:=by unfold Go.Proofs.YtokemihbkeddoaaGreatDoor.cZ;rw[hg];rfl
  rw[he];exact⟨⟨0,⟨#[]⟩,none,0,0,none,0,0⟩,oE,⟨by decide,by decide⟩,by decide,by decide,by decide,fun W' hW=>(hl W' hW).2⟩
 ·have he:Go.Proofs.YtokemihbkeddoaaGreatDoor.cZ k.fs x=t:=by unfold Go.Proofs.YtokemihbkeddoaaGreatDoor.cZ;rw[hg]
  obtain⟨q,rfl,hq,hp⟩:=hvt;rw[he];exact⟨q,hq,hp.fit,hp.nodes,hp.wf,hp.qone,fun W' hW=>(hl W' hW).2⟩
theorem LA(k:Bd)(o:Int)(n:aj)(a:List Tm)(s:List Fm):nS k (.mk o n a s)=if o=15 then ag (cZ k.fs n)
  else if o=16 then ag (cZ k.fs n)+fD (bx (.mk o n a s)).1 (cZ k.fs n)*(ap (b8 k.ts (bx (.mk o n a s)).2)-1)
  else fj k.ts a+1:=rfl
theorem Rs(qt:Nat->Prop)(kb mF mT nF nT:Nat)(k:Bd)(s:Fm)(hs:gF true s=true)(uM:ag s<=400)(ok:Nat->Prop)(w:World)(eR:ly qt dx dV w kb mF mT nF nT k)(q:gd)(hq:aC ok w q.s.val s):
  Calls prog 126 #[.pointer (some ⟨kb,0,none⟩),q.val] w fun e w'=>e=.returned (.int .i64 (nS k s))/\Below w.heap.size w w':=by
 obtain⟨o,n,a,ss⟩:=s;have qnp:=();exact qai
theorem rU(k:List (aj×Tm))(c:List aj):∀l,iC k c l=l.map (dK k c)
 |[]=>rfl
 |t::l=>by simp[iC,rU k c l]
def zc4(kd:List (aj×Tm))(sc:List aj)(vL:Value)(kb:Nat)(W0:World)(t:Tm):Prop:=∀(ok:Nat->Prop)(w:World)(q:TQ),Below W0.heap.size W0 w->aN ok w q.val t→
 Calls prog 127 #[.pointer (some ⟨kb,0,none⟩),q.val,vL] w fun e w'=>(∃p:TQ,e=.returned p.val/\aN (w.heap.size<=·) w' p.val (dK kd sc t))/\Below w.heap.size w w'
theorem Jm(W0:World)(qt:Nat->Prop)(kb mF mT nF nT:Nat)(kd:Bd)(eR:ly qt dx dV W0 kb mF mT nF nT kd)(okl:Nat->Prop)(vL:Value)(L sc:List aj)(hL:fJ okl W0 vL L)(Yc:L.length<=2000000)(Uv:∀y,L.contains y=sc.contains y):∀t,e7 t->zc4 kd.ts sc vL kb W0 t:=by
 obtain⟨sB,hi,AV,xV,B8⟩:=info_parts ib;have MZ:=ae eR;have HLk:=ae (fun(W:World)(h:Below W0.heap.size W0 W)(y:aj)=>(Uv y)▸io L Yc y _ W vL (hL.later h));clear eR hL Yc Uv;intro t
 induction t using Tm.ind with
 |h v n a ih=>
  intro aI ok w q dz hq;exact qaH
def By(pr:aj->Bool)(g:Nat)(lb:Array Value)(l:List aj)(C:World->Prop):Prop:=∀x W,x∈l->C W->Calls prog g (#[.string ⟨x.toArray⟩]++lb) W fun e w'=>e=.returned (.bool (pr x))/\Below W.heap.size W w'
theorem By.mono{g:Nat}{lb:Array Value}{C C':World->Prop}(h:By pr g lb l C)(hC:∀W,C' W->C W):By pr g lb l C':=fun x W hx hW=>h x W hx (hC W hW)
theorem zaJ(hk:k<l.length)(iX:∀t∈l.take k,pr t=false)(hq:pr l[k]=false):∀t∈l.take (k+1),pr t=false:=by
 intro t hm;rw[List.take_add_one,jn hk]at hm;rcases List.mem_append.1 hm with h|h
 ·exact iX t h
 ·obtain rfl:t=l[k]:=by simpa using h
  exact hq
theorem Ee(pr:aj->Bool)(l:List aj)(hl:l.length<=2000000)(g:Nat)(lb:Array Value)(eg:∀args W,(callFunc g args).run prog W=.ok (.enter g args) W)(ok:Nat->Prop)(w:World)(v:Value)(hp:By pr g lb l (Below w.heap.size w))(hv:fJ ok w v l):
  Calls prog 244 #[v,.func (.func g) #[] lb] w fun e w'=>((e=.returned (.int .i64 (-1))/\∀x∈l,pr x=false)\/∃(k:Nat)(x:aj),l[k]?=some x/\e=.returned (.int .i64 (k:Int))/\pr x=true/\∀x∈l.take k,pr x=false)/\Below w.heap.size w w':=by
 obtain⟨a,c,rfl⟩:=hv.slice;have⟨k0,cD⟩:=az l.length;rw[<-cD]at hl hv;rw[<-cD];have⟨HK,HV,HP⟩:=cU cD hv hp;clear cD hv hp;go_enter func244,ntmps244;exact qe2
theorem Gf(pr:aj->Bool)(l:List aj)(hl:l.length<=2000000)(g:Nat)(lb:Array Value)(eg:∀args W,(callFunc g args).run prog W=.ok (.enter g args) W)(ok:Nat->Prop)(w:World)(v:Value)(hp:By pr g lb l (Below w.heap.size w))(hv:fJ ok w v l):
  Calls prog 194 #[v,.func (.func g) #[] lb] w fun e w'=>e=.returned (.bool (l.any pr))/\Below w.heap.size w w':=by
 have CC:Calls prog 244 #[v,.func (.func g) #[] lb] w fun e w'=>∃r:Int,e=.returned (.int .i64 r)/\decide (0<=r)=l.any pr/\Below w.heap.size w w':=(Ee pr l hl g lb eg ok w v hp hv).mono (by
  rintro e w' ⟨⟨rfl,h⟩|⟨k,x,hk,rfl,h,_⟩,hb⟩
  ·refine⟨-1,rfl,?_,hb⟩
   symm
   rw[show decide ((0:Int)<=-1)=false from rfl,List.any_eq_false];intro x hx;rw[h x hx];simp
  ·refine⟨k,rfl,?_,hb⟩;rw[show decide ((0:Int)<=(k:Int))=true by simp]
   symm
   exact List.any_eq_true.2 ⟨_,List.mem_of_getElem? hk,h⟩)
 obtain⟨a,c,rfl⟩:=hv.slice;have⟨B,hB⟩:=az (l.any pr);rw[<-hB]at CC⊢;have HC:=ae CC;clear CC hv hB hp;go_enter func194,ntmps194;go_wp2_with (go_at_call 244;refine HC.o.mono ?_;rintro e w4 ⟨r,rfl,hr,aY⟩;have H4:=aM hr aY;clear hr aY);exact qcu
def sY(keep:aj->Bool)(l:List aj)(b cap i j:Nat)(W:World):Prop:=∃cur:Array Value,W.heap[b]?=some (.cells cur 9 (0,0))/\cur.size=cap*1/\cur.toList.take i=((l.take j).filter keep).map encStr/\i=((l.take j).filter keep).length/\∀q (h:q<l.length),j<=q->cur[q]?=some (encStr l[q])
theorem sY.later{keep:aj->Bool}{W':World}(h:sY keep l b cap i j W)(hb:Below W.heap.size W W'):sY keep l b cap i j W':=by
 obtain⟨cur,h1,h2⟩:=h;exact⟨cur,(hb.block b (bQ h1)).trans h1,h2⟩
theorem sY.drop{keep:aj->Bool}(h:sY keep l b cap i j W)(hj:j<l.length)(hk:keep l[j]=false):sY keep l b cap i (j+1) W:=by
 obtain⟨cur,h1,h2,h3,h4,h5⟩:=h;have e:(l.take (j+1)).filter keep=(l.take j).filter keep:=by
  rw[List.take_add_one,jn hj,List.filter_append];simp only[Option.toList_some,List.filter_cons,List.filter_nil,hk,bR,if_false,List.append_nil]
 exact⟨cur,h1,h2,by rw[e];exact h3,by rw[e];exact h4,fun q h hq=>h5 q h (by omega)⟩
theorem sY.keep{keep:aj->Bool}(h:sY keep l b cap i j W)(hj:j<l.length)(hc:l.length<=cap)(Xk:i<=j)(hk:keep l[j]=true):sY keep l b cap (i+1) (j+1) (W.setCell ⟨b,i,none⟩ (.string ⟨l[j].toArray⟩)):=by
 obtain⟨cur,h1,h2,h3,h4,h5⟩:=h;have e:(l.take (j+1)).filter keep=(l.take j).filter keep++[l[j]]:=by
  rw[List.take_add_one,jn hj,List.filter_append];simp only[Option.toList_some,List.filter_cons,List.filter_nil,hk,if_true]
 refine⟨cur.setIfInBounds i (.string ⟨l[j].toArray⟩),bJ h1 _,by simpa using h2,?_,by rw[e];simpa using h4,fun q h hq=>?_⟩
 ·rw[e,List.map_append,<-h3,Array.toList_setIfInBounds];rw[List.take_add_one];simp only[List.getElem?_set_self (show i<cur.toList.length by simp;omega),Option.toList_some];rw[List.take_set_of_le (aK i)];rfl
 ·rw[Array.getElem?_setIfInBounds_ne (by omega)];exact h5 q h (by omega)
theorem Bz(b:Nat):∀(vs:List Value)(o:Nat)(W:World),Kp (fun c=>c=b) W (W.setCells b o vs)
 |[],o,W=>Kp.refl W
 |v::r,o,W=>by
  have h1:Kp (fun c=>c=b) W (W.setCell ⟨b,o,none⟩ v):=⟨rfl,rfl,rfl,by simp,fun c _ hc=>e_ _ _ _ _ (by simpa using hc)⟩;exact h1.trans (Bz b r (o+1) _)
theorem BA(b:Nat)(T:TypeId):∀(vs:List Value)(o:Nat)(W:World)(cur:Array Value),W.heap[b]?=some (.cells cur T (0,0))->∃zaK,(W.setCells b o vs).heap[b]?=some (.cells zaK T (0,0))/\zaK.size=cur.size/\zaK.toList.take o=cur.toList.take o
 |[],o,W,cur,h=>⟨cur,h,rfl,rfl⟩
 |v::r,o,W,cur,h=>by
  obtain⟨c2,h1,h2,h3⟩:=BA b T r (o+1) (W.setCell ⟨b,o,none⟩ v) _ (bJ h v);refine⟨c2,h1,by simpa using h2,?_⟩;have e:=congrArg (List.take o) h3;rw[List.take_take,List.take_take,Nat.min_eq_left (by omega)]at e;rw[e,Array.toList_setIfInBounds,List.take_set_of_le (aK o)]
theorem sY.start{keep:aj->Bool}{cur:Array Value}(hb:W.heap[b]?=some (.cells cur 9 (0,0)))(hs:cur.size=cap*1)(ht:cur.toList.take (l.length*1)=l.map encStr)(hk:k<l.length)(iX:∀x∈l.take k,keep x=true):sY keep l b cap k k W:=by
 have hf:(l.take k).filter keep=l.take k:=List.filter_eq_self.2 iX;refine⟨cur,hb,hs,?_,by rw[hf,dO];omega,fun q h hq=>?_⟩
 ·rw[hf,List.map_take,<-ht,List.take_take];congr 1;omega
 ·have:=congrArg (fun m=>m[q]?) ht;simp only[Nat.mul_one,List.getElem?_map,jn h,Option.map_some,List.getElem?_take,aG h,Array.getElem?_toList]at this;exact this
theorem sY.done{keep:aj->Bool}{lo:Nat}(h:sY keep l b cap i l.length W)(hlo:lo<=b)(hc:l.length<=cap)(Rd:i<=l.length)(hcm:cap<=maxLen)(vs:List Value):fK lo (W.setCells b i vs) (.slice (some ⟨b,0,none⟩) i cap) (l.filter keep):=by
 obtain⟨cur,h1,h2,h3,h4,_⟩:=h;rw[dA]at h3 h4;obtain⟨c2,g1,g2,g3⟩:=BA b _ vs i W cur h1;unfold fK;rw[<-h4];refine⟨by simp[h4],.inr ⟨b,cap,c2,rfl,hlo,g1,by omega,hcm,by rw[g2];exact h2,?_⟩⟩;rw[Nat.mul_one,g3,h3]
theorem BB(pr:aj->Bool)(l:List aj)(hl:l.length<=2000000)(g:Nat)(lb:Array Value)(eg:∀args W,(callFunc g args).run prog W=.ok (.enter g args) W)(lo:Nat)(w:World)(v:Value)(hp:By pr g lb l (Kp (fun c=>lo<=c/\v.ownBlock=some c) w))(hv:fK lo w v l):
  Calls prog 246 #[v,.func (.func g) #[] lb] w fun e w'=>(∃v',e=.returned v'/\fK lo w' v' (l.filter fun x=>!pr x))/\Kp (fun c=>lo<=c/\v.ownBlock=some c) w w':=by
 have CI:=Ee pr l hl g lb eg _ w v (hp.mono fun W h=>Kp.below h) hv.strs;rcases hv.2 with⟨rfl,h0⟩|⟨b,cap,cur,rfl,hlo,hb,hc,hcm,hcs,ht⟩
 ·obtain rfl:l=[]:=ku h0;have HC:=ae CI;clear CI hp hv;have an:=();exact qcw
 ·by_cases gt:∀x∈l,pr x=false
  ·have HC:=ae (CI.mono (fun e w' h=>(⟨h.1.elim (fun h=>h.1) (fun⟨k,x,hk,_,hx,_⟩=>absurd (gt x (List.mem_of_getElem? hk)) (by simp[hx])),h.2⟩:e=.returned (.int .i64 (-1))/\Below w.heap.size w w')));have HR:=ae hv;have HE:=ae (show(l.filter fun x=>!pr x)=l from List.filter_eq_self.2 (fun x hx=>by rw[gt x hx];rfl));clear CI hp hv gt hb hcs ht;have it:=();exact qcw
  ·have CJ:=CI.mono (fun e w' h=>(⟨h.1.elim (fun h=>absurd h.2 gt) id,h.2⟩:(∃(k:Nat)(x:aj),l[k]?=some x/\e=.returned (.int .i64 (k:Int))/\pr x=true/\∀x∈l.take k,pr x=false)/\Below w.heap.size w w'));have⟨n,hn⟩:=az l.length;have HB:=bS hb hcs ht;have⟨HN,HP⟩:=bi hn hp;rw[<-hn]at hl hc CJ⊢;have HC:=ae CJ;have wO:=bS hcm hlo hc;clear CI CJ hp hv gt hb hcs ht hn hcm;exact qcw
theorem Gg:∀args W,(callFunc 275 args).run prog W=.ok (.enter 275 args) W:=enters_of func275 (by kernel_rfl) rfl
theorem LD(l:List aj)(qq:∀x∈l,x.length<=2000000)(C:World->Prop):By (fun x=>!cW x) 275 #[] l C:=by
 intro n W hx _;have hn:=qq n hx;have CP:=ae (lQ n W (by omega));have⟨b,hb⟩:=az (cW n);simp only[<-hb]at CP⊢;clear hb qq hx;go_enter func275,ntmps275;go_wp2_with (go_at_call 123;refine CP.o.mono ?_;rintro e w' ⟨rfl,hb⟩;have HB:=ae hb;clear hb);go_ret;exact⟨rfl,HB.o⟩
theorem uQ(l:List aj)(hl:l.length<=2000000)(qq:∀x∈l,x.length<=2000000)(lo:Nat)(w:World)(v:Value)(hv:fK lo w v l):
  Calls prog 245 #[v] w fun e w'=>(∃v',e=.returned v'/\fK lo w' v' (l.filter cW))/\Kp (fun c=>lo<=c/\v.ownBlock=some c) w w':=by
 have CC:=BB (fun x=>!cW x) l hl 275 #[] Gg lo w v (LD l qq _) hv;simp only[Bool.not_not]at CC;obtain⟨a,c,hac⟩:=hv.strs.slice;rw[hac]at CC⊢;have HC:=ae CC;clear CC hv qq hac;go_enter func245,ntmps245;go_wp2_with (go_at_call 246;refine HC.o.mono ?_;rintro e w' ⟨⟨v',rfl,_t⟩,hk⟩;have H4:=aM _t hk;clear _t hk);go_ret;exact⟨⟨_,rfl,H4.o.1⟩,H4.o.2⟩
theorem nA{w X Y:World}{v:Value}(h:Below w.heap.size w X)(k:Kp (fun c=>w.heap.size<=c/\v.ownBlock=some c) X Y):Below w.heap.size w Y:=
 ⟨k.os.trans h.os,k.tape.trans h.tape,k.output.trans h.output,aR h.size k.size,fun b hb=>(k.same b (bP hb h.size) (fun hc=>by omega)).trans (h.block b hb)⟩
theorem Ru{k:List (aj×Tm)}(hk:∀x:aj,x.length<=2000000->ap (b8 k x)<=1000):∀t:Tm,kI 2000000 t=true->(mG k t).length<=ap t*1000:=by
 have qns:=();exact qav
theorem rV{k:List (aj×Tm)}:∀{a:List Tm}{j:Nat}(h:j<a.length),eH k (a.take (j+1))=eH k (a.take j)++mG k a[j]
 |t::a,0,_=>by simp[eH]
 |t::a,j+1,h=>by
  have:=rV (k:=k) (a:=a) (j:=j) (by simpa using h);simp only[List.take_succ_cons,eH,this,List.getElem_cons_succ,List.append_assoc]
theorem rW{k:List (aj×Tm)}(hk:∀x:aj,x.length<=2000000->ap (b8 k x)<=1000):∀a:List Tm,d8 2000000 a=true->(eH k a).length<=af a*1000
 |[],_=>by simp[eH]
 |t::a,h=>by
  simp only[d8,ak]at h;have h1:=Ru hk t h.1;have h2:=rW hk a h.2;simp only[eH,af,ei];omega
theorem Ef{t:Tm}(h:t∈a):ap t<=af a:=by
 induction a with
 |nil=>cases h
 |cons u a ih=>
  simp only[af];exact qbl
def zaL(k:List (aj×Tm))(kb:Nat)(W0:World)(t:Tm):Prop:=∀(ok:Nat->Prop)(w:World)(q:TQ),Below W0.heap.size W0 w->aN ok w q.val t→
 Calls prog 248 #[.pointer (some ⟨kb,0,none⟩),q.val] w fun e w'=>(∃v,e=.returned v/\fK w.heap.size w' v (mG k t))/\Below w.heap.size w w'
theorem Gh(W0:World)(qt:Nat->Prop)(kb mF mT nF nT:Nat)(k:Bd)(eR:ly qt dx dV W0 kb mF mT nF nT k):∀t,e7 t->ap t<=1000->zaL k.ts kb W0 t:=by
 have WM:=ae (fun x hx=>mW eR (x:=x) hx);have MZ:=ae eR;clear eR;have qnt:=();exact qav
theorem An(k:Bd)(o:Int)(n:aj)(a:List Tm)(s:List Fm):tg k (.mk o n a s)=if o=15 then(dX (aP [] (cZ k.fs n))).filter cW
  else if o=16 then
   (let l:=(dX (aP [] (cZ k.fs n))).filter cW
   if !l.contains (bx (.mk o n a s)).1 then l else l.filter (fun x=>x !=(bx (.mk o n a s)).1)++(dX (aL (b8 k.ts (bx (.mk o n a s)).2))).filter cW)
  else eH k.ts a:=rfl
theorem Eh:∀args W,(callFunc 247 args).run prog W=.ok (.enter 247 args) W:=enters_of func247 (by kernel_rfl) rfl
theorem LE(x n:aj)(X:Nat)(w:World)(hX:w.cell? ⟨X,0,none⟩=some (.string ⟨n.toArray⟩)):
  Calls prog 247 #[.string ⟨x.toArray⟩,.pointer (some ⟨X,0,none⟩)] w fun e w'=>e=.returned (.bool (x==n))/\Below w.heap.size w w':=by
 go_enter func247,ntmps247;exact qat
theorem Oe(qt:Nat->Prop)(kb mF mT nF nT:Nat)(k:Bd)(s:Fm)(hs:gF true s=true)(uM:ag s<=400)(ok:Nat->Prop)(w:World)(eR:ly qt dx dV w kb mF mT nF nT k)(q:gd)(hq:aC ok w q.s.val s):
  Calls prog 195 #[.pointer (some ⟨kb,0,none⟩),q.val] w fun e w'=>(∃v,e=.returned v/\fK w.heap.size w' v (tg k s))/\Below w.heap.size w w':=by
 obtain⟨o,n,a,ss⟩:=s;have qnu:=();exact qai
mutual
theorem LH(k:List (aj×Tm)):∀t,∀x∈mG k t,cW x=true
 |.mk v n a=>fun x hx=>by
  unfold mG at hx;split at hx
  ·exact(List.mem_filter.1 hx).2
  ·exact rX k a x hx
theorem rX(k:List (aj×Tm)):∀l,∀x∈eH k l,cW x=true
 |[]=>fun x hx=>by simp[eH]at hx
 |t::l=>fun x hx=>by
  simp only[eH,List.mem_append]at hx;exact hx.elim (LH k t x) (rX k l x)
end
theorem LI(k:Bd)(s:Fm):∀x∈tg k s,cW x=true:=by
 obtain⟨o,n,a,ss⟩:=s;intro x hx;rw[An]at hx;split at hx
 ·exact(List.mem_filter.1 hx).2
 ·split at hx
  ·simp only at hx;split at hx
   ·exact(List.mem_filter.1 hx).2
   ·rcases List.mem_append.1 hx with h|h
    ·exact(List.mem_filter.1 (List.mem_filter.1 h).1).2
    ·exact(List.mem_filter.1 h).2
  ·exact rX _ _ x hx
theorem Of(h:cW x=true):∃r,x=63::r:=wg (by
 cases h2:(x.head?==some 63)
 ·simp[cW,h2]at h
 ·rfl)
theorem Jp:∀args W,(callFunc 196 args).run prog W=.ok (.enter 196 args) W:=enters_of func196 (by kernel_rfl) rfl
theorem Rv(q:gd)(ps:List (aj×aj))(oe:ps.length<=1000000)(r:aj)(hr:r.length<=2000000)(B:Nat)(w:World)(hB:w.heap[B]?=some (.cells q.cells 89 (0,0)))(hv:cw w (.slice q.a q.l q.c) ps):
  Calls prog 196 #[.string ⟨(63::r).toArray⟩,.pointer (some ⟨B,0,none⟩)] w fun e w'=>e=.returned (.bool (!(ps.map (·.1)).contains r))/\Below w.heap.size w w':=by
 have HC:=ae (G_ q ps oe r w.drew (hv.later ((ar w.heap.size w).drew)));have qnv:=();exact qai
mutual
theorem Rw{k:List (aj×Tm)}(hk:∀x:aj,x.length<=2000000->kI 17 (b8 k x)=true):∀t,kI 2000000 t=true->∀x∈mG k t,x.length<=2000000
 |.mk v n a=>fun h x hx=>by
  simp only[kI,ak,bM]at h;unfold mG at hx;split at hx
  ·exact aR (oT _ (hk n h.1) x ((eG x _).1 (List.mem_filter.1 hx).1)) (by decide)
  ·exact wU hk a h.2 x hx
theorem wU{k:List (aj×Tm)}(hk:∀x:aj,x.length<=2000000->kI 17 (b8 k x)=true):∀l,d8 2000000 l=true->∀x∈eH k l,x.length<=2000000
 |[]=>fun _ x hx=>by simp[eH]at hx
 |t::l=>fun h x hx=>by
  simp only[d8,ak]at h;simp only[eH,List.mem_append]at hx;exact hx.elim (Rw hk t h.1 x) (wU hk l h.2 x)
end
theorem Rx{k:Bd}(eR:ly qt dx dV W kb mF mT nF nT k)(s:Fm)(hs:gF true s=true)(uM:ag s<=400):(tg k s).length<=2000000/\∀x∈tg k s,x.length<=2000000:=by
 have nM:=jC _ hs;obtain⟨o,n,a,ss⟩:=s;simp only[mI,ak,bM]at nM;have qnw:=();exact qbq
theorem Uy(qt:Nat->Prop)(kb mF mT nF nT:Nat)(k:Bd)(p:Pl)(ps:List (aj×aj))(_u:p.c=ps.reverse)(oe:ps.length<=1000000)(hs:gF true p.s=true)(uM:ag p.s<=400)(ok:Nat->Prop)(w:World)(eR:ly qt dx dV w kb mF mT nF nT k)(q:gd)(hq:aC ok w q.s.val p.s)(hv:cw w (.slice q.a q.l q.c) ps):
  Calls prog 125 #[.pointer (some ⟨kb,0,none⟩),q.val] w fun e w'=>e=.returned (.bool (GJ k p))/\Below w.heap.size w w':=by
 have⟨W1,cC⟩:=az (w.alloc (.cells q.cells 89));have hb1:=dj cC;have x1:=cA cC;have hbd:=Rx eR p.s hs uM;have Bw:=LI k p.s;have uW:=Oe qt kb mF mT nF nT k p.s hs uM ok W1 (eR.later hb1) q (hq.later hb1);have⟨l,hl⟩:=az (tg k p.s);have⟨R,hR⟩:=az (GJ k p);have hE:=hR;unfold GJ at hE;rw[<-hl]at hE uW hbd Bw;rw[<-hR];have HX:=aM hb1 x1;have hop:∀W,Below W1.heap.size W1 W->By (fun x=>!(ps.map (·.1)).contains x.tail) 196 #[.pointer (some ⟨w.heap.size,0,none⟩)] l (Below W.heap.size W):=fun W hW x V hx hV=>by
  obtain⟨r,rfl⟩:=Of (Bw x hx);have hr:=hbd.2 _ hx;exact Rv q ps oe r (by simp at hr;omega) w.heap.size V (bY ((hW.tr hV)) x1) (hv.later (hb1.tr (hW.tr hV)))
 have tN:R=l.any (fun x=>!(ps.map (·.1)).contains x.tail):=by
  rw[hE];congr 1
  funext x
  rw[_u];congr 1;rw[iM];simp only[List.contains_iff_mem,List.mem_map,List.mem_reverse]
 have oQ:=ae (fun(W:World)(v:Value)(hW:Below W1.heap.size W1 W)(hvv:fK W1.heap.size W v l)=>Gf _ l hbd.1 196 #[.pointer (some ⟨w.heap.size,0,none⟩)] Jp _ W v (hop W hW) hvv.strs);rw[<-tN]at oQ;have⟨uW,kf⟩:=bi uW cC;have qnx:=();exact qai
end
theorem LJ{step:Bd->Pl->Bd×Int}(hs:KM step):∀(l:List Pl)(k:Bd),ek step k l=(k,0)->∀p∈l,step k p=(k,0)
 |[],k,_,p,hp=>by cases hp
 |q::l,k,h,p,hp=>by
  unfold ek at h
  cases h1:step k q with
  |mk k1 e=>
   rw[h1]at h;simp only at h
   by_cases he:e=0
   ·subst he;rw[aG rfl]at h;obtain⟨_,a2⟩:=hs k q k1 h1;obtain⟨b1,b2⟩:=z9 hs l k1 k h;rcases dc.1 hp with rfl|hp
    ·exact a2 k b1
    ·exact LJ hs l k (b2 k (Di.refl _)) p hp
   ·rw[aw he]at h;exact qbo
def vS(c:gO)(ins:List aj)(σ:aj->Dt)(z:aj):Dt:=if ins.contains z then σ z else match cm c z with|some y=>σ y|none=>σ z
mutual
theorem Yd(σ:aj->Dt)(ins:List aj):∀(t u:Tm),iO c ins t=some u->iH σ u=iH (vS c ins σ) t
 |.mk v n a,u,h=>by
  unfold iO at h
  cases v with
  |true=>
   simp only[↓reduceIte]at h;simp only[iH,↓reduceIte,vS];split at h
   ·rename_i hc;simp only[dn]at h;subst h;rw[aG hc];simp[bj,iH]
   ·rename_i hc;obtain⟨y,hy,rfl⟩:=Option.map_eq_some_iff.1 h;rw[aw hc,hy];simp[bj,iH]
  |false=>
   have an:=();exact qe4
theorem yW(σ:aj->Dt)(ins:List aj):∀(t u:List Tm),eY c ins t=some u->dP σ u=dP (vS c ins σ) t
 |[],u,h=>by simp only[eY,dn]at h;subst h;simp[dP]
 |t::l,u,h=>by
  simp only[eY]at h
  cases h1:iO c ins t with
  |none=>rw[h1]at h;simp at h
  |some x=>
   cases h2:eY c ins l with
   |none=>rw[h1,h2]at h;simp at h
   |some m=>
    rw[h1,h2]at h;simp only[dn]at h;subst h;simp[dP,Yd σ ins t x h1,yW σ ins l m h2]
end
theorem Ry(hn:fQ n=true)(σ:aj->Dt)(ins:List aj)(v:Dt):vS c (n::ins) (jP σ n v)=jP (vS c ins σ) n v:=by
 funext z
 unfold vS jP
 by_cases hz:z=n
 ·subst hz;simp
 ·have e1:(z==n)=false:=by simpa using hz
  simp only[List.contains_cons,e1,Bool.false_or,bR,↓reduceIte];split
  ·rfl
  ·cases hy:cm c z with
   |none=>rfl
   |some y=>
    simp only;rcases Dp hy with rfl|⟨s,hs,rfl⟩
    ·simp[e1]
    ·have:(cg s==n)=false:=by
      rw[Bool.eq_false_iff];intro h;rw[ef]at h;have h1:=yg hn;rw[<-h]at h1 hn;simp only[fQ,cg,qD,ak]at hn;exact absurd hn.2.2.1.1 (by decide)
     simp[this]
theorem oF{o:Int}(h:gF sc (.mk o n a s)=true)(hq:br o=true):fQ n=true/\a=[]/\∃g,s=[g]:=by
 have h1:=h;simp only[gF,ak]at h;have:=yr _ h1;obtain⟨e1,e2⟩:=rJ hq this;have h5:=h.2.1.1;have:(eE o).2.2.1=2:=by
  exact qeF
 rw[this]at h5;exact⟨h5,e1,e2⟩
mutual
theorem PY:∀(f u:Fm)(ins:List aj)(σ:aj->Dt)(d:Nat),gF false f=true->f9 c ins f=some u->li σ d u=li (vS c ins σ) d f
 |.mk o n a s,u,ins,σ,d,hok,h=>by
  have Uz:=hok;simp only[gF,ak]at hok;unfold f9 at h
  cases h1:eY c ins a with
  |none=>rw[h1]at h;simp at h
  |some a'=>
   cases h2:gC c (if br o then n::ins else ins) s with
   |none=>rw[h1,h2]at h;simp at h
   |some s'=>
    rw[h1,h2]at h;simp only[dn]at h;subst h;simp only[li,yW σ ins a a' h1]
    by_cases hq:br o=true
    ·rw[aG hq]at h2;rw[aG hq,aG hq,Ei s s' _ (jP σ n (.lvl d)) (d+1) hok.2.2.2.2 h2,Ry (oF Uz hq).1]
    ·rw[aw hq]at h2;rw[aw hq,aw hq,Ei s s' _ σ d hok.2.2.2.2 h2]
theorem Ei:∀(f u:List Fm)(ins:List aj)(σ:aj->Dt)(d:Nat),dJ false f=true->gC c ins f=some u->fv σ d u=fv (vS c ins σ) d f
 |[],u,ins,σ,d,_,h=>by simp only[gC,dn]at h;subst h;simp[fv]
 |t::l,u,ins,σ,d,hok,h=>by
  simp only[gC]at h
  cases h1:f9 c ins t with
  |none=>rw[h1]at h;simp at h
  |some x=>
   cases h2:gC c ins l with
   |none=>rw[h1,h2]at h;simp at h
   |some m=>
    rw[h1,h2]at h;simp only[dn]at h;subst h;simp only[dJ,ak]at hok;simp[fv,PY t x ins σ d hok.1 h1,Ei l m ins σ d hok.2 h2]
end
def Dt.atom:Dt->Prop|.app _ _=>False|_=>True
def ov(σ:aj->Dt):Prop:=∀z,(σ z).atom
theorem iv(l:List aj):ov (gI l):=by
 intro z
 induction l with
 |nil=>trivial
 |cons n r ih=>unfold gI;split;trivial;exact ih
theorem ov.upd{σ:aj->Dt}(h:ov σ)(n:aj)(d:Nat):ov (jP σ n (.lvl d)):=fun z=>by unfold Go.Proofs.YtokemihbkeddoaaGreatDoor.jP;split;trivial;exact h z
mutual
def yX:Dt->Nat|.app _ a=>BC a+1|_=>1
def BC:List Dt->Nat|[]=>0|t::l=>yX t+BC l
end
mutual
def Og:Df->Nat|.mk _ _ a s=>BC a+Ej s+1
def Ej:List Df->Nat|[]=>0|t::l=>Og t+Ej l
end
mutual
def Ye:Dt->Nat|.app _ a=>Hp a+1|_=>1
def Hp:List Dt->Nat|[]=>0|t::l=>max (Ye t) (Hp l)
end
mutual
def Yf:Df->Nat|.mk _ _ a s=>max (Hp a) (LK s)+1
def LK:List Df->Nat|[]=>0|t::l=>max (Yf t) (LK l)
end
theorem UA{t:Dt}(h:t.atom):yX t=1/\Ye t=1:=by cases t<;>first|exact⟨rfl,rfl⟩|exact h.elim
mutual
theorem LL{σ:aj->Dt}(hσ:ov σ):∀t,lI t=true->yX (iH σ t)=ap t/\Ye (iH σ t)=dm t
 |.mk v n a,h=>by
  simp only[lI,ak]at h
  cases v with
  |true=>
   obtain rfl:a=[]:=by simpa using h.1
   simpa[iH,ap,af,dm,bO]using UA (hσ n)
  |false=>simp[iH,yX,Ye,ap,dm,Ao hσ a h.2]
theorem Ao{σ:aj->Dt}(hσ:ov σ):∀t,eC t=true->BC (dP σ t)=af t/\Hp (dP σ t)=bO t
 |[],_=>by simp[dP,BC,Hp,af,bO]
 |t::l,h=>by simp only[eC,ak]at h;simp[dP,BC,Hp,af,bO,LL hσ t h.1,Ao hσ l h.2]
end
mutual
theorem yY:∀(f:Fm)(σ:aj->Dt)(d:Nat),ov σ->iV f=true->Og (li σ d f)=ag f/\Yf (li σ d f)=a_ f
 |.mk o n a s,σ,d,hσ,h=>by
  simp only[iV,ak]at h;have h1:=Ao hσ a h.1;simp only[li];split
  ·have h2:=Ap s (jP σ n (.lvl d)) (d+1) (hσ.upd n d) h.2;simp[Og,Yf,ag,a_,h1,h2]
  ·have h2:=Ap s σ d hσ h.2;simp[Og,Yf,ag,a_,h1,h2]
theorem Ap:∀(f:List Fm)(σ:aj->Dt)(d:Nat),ov σ->gy f=true->Ej (fv σ d f)=ah f/\LK (fv σ d f)=bl f
 |[],σ,d,_,_=>by simp[fv,Ej,LK,ah,bl]
 |t::l,σ,d,hσ,h=>by simp only[gy,ak]at h;simp[fv,Ej,LK,ah,bl,yY t σ d hσ h.1,Ap l σ d hσ h.2]
end
theorem PZ{σ τ:aj->Dt}{d e:Nat}(hσ:ov σ)(hτ:ov τ)(hf:iV f=true)(hg:iV g=true)(h:li σ d f=li τ e g):ag f=ag g/\a_ f=a_ g:=by
 have h1:=yY f σ d hσ hf;have h2:=yY g τ e hτ hg;rw[h]at h1;exact⟨h1.1.symm.trans h2.1,h1.2.symm.trans h2.2⟩
theorem rY{u:Tm}(hu:lI u=true):∀(k:Nat)(f:Fm)(x:aj),iV f=true->il f=true->a_ f<=k->iV (h_ k x u f)=true/\il (h_ k x u f)=true
 |0,f,x,hw,hq,hd=>by have:=oB f;omega
 |k+1,.mk o n a s,x,hw,hq1,hd=>by
  have pD:=hw;exact qaW
mutual
theorem wV:∀f,il (bI f)=il f
 |.mk o n a s=>by
  have h1:(bW a).isEmpty=a.isEmpty:=by cases a<;>simp[bW]
  have h2:(cv s).length=s.length:=wW s;simp[bI,il,BD s,h1,h2]
theorem BD:∀f,hO (cv f)=hO f
 |[]=>by simp[cv]
 |t::l=>by simp[cv,hO,wV t,BD l]
theorem wW:∀s,(cv s).length=s.length
 |[]=>by simp[cv]
 |t::l=>by simp[cv,wW l]
end
theorem mc{l:List (aj×Fm)}(h:ZP l=true)(hg:bG l n=some g):bw (bI g)=true/\ej n=true:=by
 simp only[ZP,ak,List.all_eq_true]at h;exact qe5
theorem Ek{l:List (aj×Tm)}(h:Nj l=true){g:Tm}(hg:bG l n=some g):jA false (aU g)=true/\dI n=true:=by
 simp only[Nj,ak,List.all_eq_true]at h;exact qe5
theorem oG(h:bw (bI g)=true):iV g=true/\il g=true/\ag g<=400/\a_ g<=40:=by
 simp only[bw,ak,bM]at h;have h1:=oU _ h.1;have h2:=yr _ h.1;rw[z']at h1;rw[wV]at h2;have h3:=ja g;exact⟨h1,h2,by omega,by omega⟩
theorem oH{g:Tm}(h:jA false (aU g)=true):lI g=true:=by
 have h1:=tI _ h
 rwa [GU]at h1
theorem yZ(hc:mL (c.map (·.1))){im:Fm}{ins:List aj}(hf:gF false f=true)(h:f9 c ins f=some im):iV im=true/\il im=true/\ag im=ag f/\a_ im=a_ f:=by
 obtain⟨h1,h2,h3⟩:=Cx hc f im ins hf h;have e1:=oU _ h1;have e2:=yr _ h1;rw[z']at e1;rw[wV]at e2;exact⟨e1,e2,h2,h3⟩
mutual
theorem El(ins:List aj):∀(t u:Tm),lI t=true->iO c ins t=some u->∀z∈aL t,ins.contains z=true\/(cm c z).isSome=true
 |.mk v n a,u,hw,h,z,hz=>by
  unfold iO at h;simp only[lI,ak]at hw
  cases v with
  |true=>
   obtain rfl:a=[]:=by simpa using hw.1
   simp only[aL,↓reduceIte,aF,List.mem_singleton]at hz;subst hz;simp only[↓reduceIte]at h;split at h
   ·rename_i hc;exact .inl hc
   ·obtain⟨y,hy,_⟩:=Option.map_eq_some_iff.1 h;exact .inr (by rw[hy];rfl)
  |false=>
   exact qe4
theorem pR(ins:List aj):∀(t u:List Tm),eC t=true->eY c ins t=some u->∀z∈aF t,ins.contains z=true\/(cm c z).isSome=true
 |[],u,_,h,z,hz=>by simp[aF]at hz
 |t::l,u,hw,h,z,hz=>by
  simp only[eY]at h;simp only[eC,ak]at hw
  cases h1:iO c ins t with
  |none=>rw[h1]at h;simp at h
  |some x=>
   cases h2:eY c ins l with
   |none=>rw[h1,h2]at h;simp at h
   |some m=>
    simp only[aF,List.mem_append]at hz;rcases hz with hz|hz
    ·exact El ins t x hw.1 h1 z hz
    ·exact pR ins l m hw.2 h2 z hz
end
mutual
theorem wX:∀(f u:Fm)(ins:List aj),iV f=true->f9 c ins f=some u->∀z∈aP [] f,ins.contains z=true\/(cm c z).isSome=true
 |.mk o n a s,u,ins,hw,h,z,hz=>by
  unfold f9 at h;simp only[iV,ak]at hw
  cases h1:eY c ins a with
  |none=>rw[h1]at h;simp at h
  |some a'=>
   cases h2:gC c (if br o then n::ins else ins) s with
   |none=>rw[h1,h2]at h;simp at h
   |some s'=>
    simp only[aP,List.mem_append]at hz;rcases hz with hz|hz
    ·exact pR ins a a' hw.1 h1 z (List.mem_filter.1 hz).1
    ·by_cases hq:br o=true
     ·rw[aG hq]at h2 hz;rw[j5,List.mem_filter]at hz;rcases tY s s' _ hw.2 h2 z hz.1 with h|h
      ·left;rw[List.contains_cons]at h;have h3:=hz.2;simp only[Bool.not_eq_true']at h3;rw[h3]at h;simpa using h
      ·exact .inr h
     ·rw[aw hq]at h2 hz;exact tY s s' _ hw.2 h2 z hz
theorem tY:∀(f u:List Fm)(ins:List aj),gy f=true->gC c ins f=some u->∀z∈bK [] f,ins.contains z=true\/(cm c z).isSome=true
 |[],u,ins,_,h,z,hz=>by simp[bK]at hz
 |t::l,u,ins,hw,h,z,hz=>by
  simp only[gC]at h;simp only[gy,ak]at hw
  cases h1:f9 c ins t with
  |none=>rw[h1]at h;simp at h
  |some x=>
   cases h2:gC c ins l with
   |none=>rw[h1,h2]at h;simp at h
   |some m=>
    simp only[bK,List.mem_append]at hz;rcases hz with hz|hz
    ·exact wX t x ins hw.1 h1 z hz
    ·exact tY l m ins hw.2 h2 z hz
end
def UB(c:gO)(τ ρ:aj->Dt):Prop:=∀z y,fQ z=true->cm c z=some y->τ y=ρ z
theorem P9:∀(c:gO)(inn:List aj)(y:aj),cm.go x c inn=some y->∀UC,(∀z,UC.contains z=true->inn.contains z=true)->cm.go x c UC=some y
 |[],inn,y,h,UC,_=>by simpa only[cm.go]using h
 |(s,a)::r,inn,y,h,UC,hs=>by
  unfold cm.go at h⊢;split
  ·rename_i ha;rw[aG ha]at h;split at h
   ·cases h
   ·rename_i hc;rw[aw (fun e=>hc (hs s e))];exact h
  ·rename_i ha;rw[aw ha]at h;refine P9 r (s::inn) y h (s::UC) (fun z hz=>?_);rw[List.contains_cons]at hz⊢;cases h1:z==s
   ·rw[h1]at hz;simpa using hs z (by simpa using hz)
   ·rfl
theorem _v:∀(c:gO)(inn:List aj)(y:aj),cm.go x c inn=some y->y=x\/∃s,y=cg s/\inn.contains s=false
 |[],inn,y,h=>by simp only[cm.go,dn]at h;exact .inl h.symm
 |(s,a)::r,inn,y,h=>by
  unfold cm.go at h;split at h
  ·split at h
   ·cases h
   ·rename_i hc;simp only[dn]at h;exact .inr ⟨s,h.symm,by simpa using hc⟩
  ·rcases _v r (s::inn) y h with h|⟨z,hz,h⟩
   ·exact .inl h
   ·rw[List.contains_cons,Bool.or_eq_false_iff]at h;exact .inr ⟨z,hz,h.2⟩
theorem zaN{r:gO}{y:aj}(h:cm.go x r [n]=some y):cm r x=some y/\(y=x\/∃s,y=cg s/\s≠n):=by
 refine⟨P9 r [n] y h [] (fun z hz=>by simp at hz),?_⟩;rcases _v r [n] y h with h|⟨s,h1,h2⟩
 ·exact .inl h
 ·refine .inr ⟨s,h1,?_⟩;rintro rfl;simp at h2
theorem y'{z s:aj}(hz:fQ z=true):z≠cg s:=by
 rintro rfl;simp only[fQ,cg,qD,ak]at hz;exact absurd hz.2.2.1.1 (by decide)
theorem UB.under{τ ρ:aj->Dt}(hm:UB c τ ρ)(n n':aj)(v:Dt):UB ((n,n')::c) (jP τ (cg n) v) (jP ρ n' v):=by
 intro z y hz h;unfold cm cm.go at h;unfold jP
 by_cases h1:(n'==z)=true
 ·rw[aG h1]at h;rw[ef]at h1;subst h1;simp only[List.contains_nil,bR,↓reduceIte,dn]at h;subst h;simp
 ·rw[aw h1]at h;obtain⟨h2,h3⟩:=zaN h;have MT:(z==n')=false:=by
   rw[Bool.eq_false_iff];intro e;exact h1 (by rw[ef]at e⊢;exact e.symm)
  rw[MT];simp only[bR,↓reduceIte];rcases h3 with rfl|⟨s,rfl,hs⟩
  ·have:(y==cg n)=false:=by simpa using y' hz
   rw[this];exact hm y y hz h2
  ·have:(cg s==cg n)=false:=by simpa[cg]using hs
   rw[this];exact hm z _ hz h2
mutual
def Em:Fm->Bool|.mk o n _ s=>(!br o||fQ n)&&vq s
def vq:List Fm->Bool|[]=>true|t::l=>Em t&&vq l
end
mutual
theorem LM:∀f,Em (bI f)=Em f
 |.mk o n a s=>by simp[bI,Em,Hq s]
theorem Hq:∀f,vq (cv f)=vq f
 |[]=>by simp[cv]
 |t::l=>by simp[cv,vq,LM t,Hq l]
end
mutual
theorem _w:∀f,gF sc f=true->Em f=true
 |.mk o n a s,h=>by
  have h':=h;simp only[gF,ak]at h;simp only[Em,ak,Bool.or_eq_true,Bool.not_eq_true'];refine⟨?_,UD s h.2.2.2.2⟩;cases hq:br o
  ·exact .inl rfl
  ·exact .inr (oF h' hq).1
theorem UD:∀f,dJ sc f=true->vq f=true
 |[],_=>by simp[vq]
 |t::l,h=>by simp only[dJ,ak]at h;simp[vq,_w t h.1,UD l h.2]
end
theorem Rz{t:List aj}(h:t.length<10^14):fQ (dy t)=true:=by
 obtain⟨j,_,h2,h3,_⟩:=qL t (by omega);rw[h3];exact Q2 (by omega)
theorem pS(h:bw (bI g)=true):Em g=true:=by
 simp only[bw,ak]at h;have:=_w _ h.1
 rwa [LM]at this
theorem Yg:∀(x:aj),(gI l x=.fre x)\/(x∈l):=by
 induction l with
 |nil=>intro x;exact .inl rfl
 |cons n r ih=>
  intro x;unfold gI;split
  ·rename_i h;rw[ef]at h;subst h;exact .inr (fT ..)
  ·rcases ih x with h|h
   ·exact .inl h
   ·exact .inr (fS _ h)
mutual
def En:Dt->List aj|.fre n=>[n]|.lvl _=>[]|.app _ a=>Hr a
def Hr:List Dt->List aj|[]=>[]|t::l=>En t++Hr l
end
mutual
def UE:Df->List aj|.mk _ _ a s=>Hr a++LN s
def LN:List Df->List aj|[]=>[]|t::l=>UE t++LN l
end
mutual
theorem Yh(σ:aj->Dt):∀t,lI t=true->En (iH σ t)=(aL t).flatMap (fun z=>En (σ z))
 |.mk v n a,h=>by
  simp only[lI,ak]at h
  cases v with
  |true=>
   obtain rfl:a=[]:=by simpa using h.1
   simp[iH,aL,aF]
  |false=>simp[iH,En,aL,y_ σ a h.2]
theorem y_(σ:aj->Dt):∀t,eC t=true->Hr (dP σ t)=(aF t).flatMap (fun z=>En (σ z))
 |[],_=>by simp[dP,Hr,aF]
 |t::l,h=>by simp only[eC,ak]at h;simp[dP,Hr,aF,Yh σ t h.1,y_ σ l h.2]
end
theorem LO(σ:aj->Dt)(n:aj)(d:Nat):∀l:List aj,l.flatMap (fun z=>En (jP σ n (.lvl d) z))=(l.filter (fun x=>!(x==n))).flatMap (fun z=>En (σ z))
 |[]=>rfl
 |x::l=>by
  have ih:=LO σ n d l;rw[List.flatMap_cons,ih]
  by_cases h:(x==n)=true
  ·have:En (jP σ n (.lvl d) x)=[]:=by unfold jP;rw[aG h];rfl
   rw[this];simp[h]
  ·have:jP σ n (.lvl d) x=σ x:=by unfold jP;rw[aw h]
   rw[this];simp[h]
mutual
theorem P':∀(f:Fm)(σ:aj->Dt)(d:Nat),iV f=true->UE (li σ d f)=(aP [] f).flatMap (fun z=>En (σ z))
 |.mk o n a s,σ,d,h=>by
  simp only[iV,ak]at h;have up:=();exact qbr
theorem Eo:∀(f:List Fm)(σ:aj->Dt)(d:Nat),gy f=true->LN (fv σ d f)=(bK [] f).flatMap (fun z=>En (σ z))
 |[],σ,d,_=>by simp[fv,LN,bK]
 |t::l,σ,d,h=>by simp only[gy,ak]at h;simp[fv,LN,bK,P' t σ d h.1,Eo l σ d h.2]
end
theorem P_(h:iV f=true):UE (db f)=aP [] f:=by
 have h1:=P' f (gI []) 0 h;unfold db;rw[h1];simp[gI,En]
theorem Oh(hf:iV f=true)(hg:iV g=true)(h:db f=db g):aP [] f=aP [] g:=by
 rw[<-P_ hf,<-P_ hg,h]
theorem Qa(x y:aj):∀l:List aj,y∈vZ x l↔y=x\/y∈l
 |[]=>by simp[vZ]
 |z::l=>by
  unfold vZ;split
  ·rename_i h;rw[ef]at h;subst h;simp
  ·split
   ·simp
   ·simp only[dc,Qa x y l];constructor
    ·rintro(h|h|h)<;>simp[h]
    ·rintro(h|h|h)<;>simp[h]
theorem Jq(y:aj):∀l:List aj,y∈dX l↔y∈l
 |[]=>by simp[dX]
 |x::l=>by
  have ih:=Jq y l;simp only[dX,List.foldr_cons]at ih⊢;rw[Qa,ih];simp
mutual
theorem RA(x:aj):∀t,xU x t=0↔x∉aL t
 |.mk v n a=>by
  simp only[xU,aL];have ih:=wY x a
  cases v with
  |true=>
   simp only[dL,↓reduceIte,dc,not_or]
   by_cases h:n=x
   ·subst h;simp
   ·simp only[ef,h,↓reduceIte,Nat.zero_add,ih];exact⟨fun h2=>⟨fun e=>h e.symm,h2⟩,fun h2=>h2.2⟩
  |false=>simpa using ih
theorem wY(x:aj):∀t,fV x t=0↔x∉aF t
 |[]=>by simp[fV,aF]
 |t::l=>by simp only[fV,aF,List.mem_append,not_or,Nat.add_eq_zero_iff,RA x t,wY x l]
end
mutual
theorem Hs(hx:fQ x=false):∀f,Em f=true->(fD x f=0↔x∉aP [] f)
 |.mk o n a s,hb=>by
  simp only[Em,ak]at hb;have ih:=Ep hx s hb.2;have an:=();exact qbr
theorem Ep(hx:fQ x=false):∀f,vq f=true->(jo x f=0↔x∉bK [] f)
 |[],_=>by simp[jo,bK]
 |t::l,hb=>by
  simp only[vq,ak]at hb;simp only[jo,bK,List.mem_append,not_or,Nat.add_eq_zero_iff,Hs hx t hb.1,Ep hx l hb.2]
end
theorem zb(s:aj):fQ (cg s)=false:=by
 cases h:fQ (cg s)
 ·rfl
 ·exact absurd rfl (y' (s:=s) h)
mutual
theorem Oi{k:List (aj×Tm)}{c:List aj}:∀t,jA true t=true->th k t=ap (dK k c t)
 |.mk v n a,hok=>by
  unfold th dK
  by_cases hm:(v&&eA n)=true
  ·rw[aG hm,aG hm]
  ·rw[aw hm,aw hm]
   cases v with
   |true=>
    simp only[jA,↓reduceIte,ak]at hok;obtain rfl:a=[]:=by simpa using hok.1
    split<;>simp[bj,ap,af,fj,iC]
   |false=>
    simp only[jA,bR,↓reduceIte,ak]at hok;simp only[Bool.false_and,bR,↓reduceIte,ap,tZ (c:=c) a hok.2.2]
theorem tZ{k:List (aj×Tm)}{c:List aj}:∀t,eD true t=true->fj k t=af (iC k c t)
 |[],_=>by simp[fj,iC,af]
 |t::l,hok=>by
  simp only[eD,ak]at hok;simp[fj,iC,af,Oi (c:=c) t hok.1,tZ (c:=c) l hok.2]
end
