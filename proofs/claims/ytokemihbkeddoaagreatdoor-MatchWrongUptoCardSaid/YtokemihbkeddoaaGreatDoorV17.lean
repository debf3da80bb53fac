/-
'Match' of package match.
-/
import Derived.Test.YtokemihbkeddoaaGreatDoorV16
namespace Go.Proofs.YtokemihbkeddoaaGreatDoor
open Go Go.RowKit Lib
set_option maxRecDepth 100000
set_option maxHeartbeats 64000000
variable {o oj:Oper} {p:Value->Bx->World->Prop} {v v0 v1 z0 z1 u:Value} {γ:Bx} {ok:Nat->Prop} {c:Nat} {vJ:Array TypeId} {ty T:TypeId} {pos:String} {gK:Array Edge} {W Wb:World} {f:Fm} {q:FQ} {z:Array Value}
section
attribute [local go_sem] Oper.semAt_some
theorem NH (W0:World) (s f:Fm) (b:Bd) (hs:fitF s) (hf:fitF f) (hb:BdFit b) (ok MV ok3:Nat->Prop) (w:World) (p r:FQ) (q:BQ) (ht:Tabs W0 w) (hp:FormV ok w p.val s) (hr:FormV MV w r.val f) (yw:BindV ok3 w q b) :
  Calls Tryz.prog 20 #[p.val,r.val,q.val] w fun e w'=>(∃x:BQ,e=.returned (.tuple #[x.val,.int .i64 (dq [(s,f)] b).2.2])/\BindV (w.heap.size<=·) w' x (dq [(s,f)] b).1)/\Below w.heap.size w w':=by
 obtain ⟨R,hR⟩:=ao (dq [(s,f)] b);rw[<-hR];obtain ⟨a0,a1,a2,a3,a4,a5,a6,a7⟩:=p;obtain ⟨b0,b1,b2,b3,b4,b5,b6,b7⟩:=r;obtain ⟨qa,ql,qc,qb,qm,qe⟩:=q;obtain ⟨W4,wS⟩:=ao ((((w.alloc (.cells #[.int .u8 a0,.string a1,.slice a2 a3 a4,.slice a5 a6 a7] 36)).alloc (.cells #[.int .u8 b0,.string b1,.slice b2 b3 b4,.slice b5 b6 b7] 36)).alloc (.cells #[.slice qa ql qc,.slice qb qm qe] 26)).alloc (.cells #[.slice none 0 0,.slice none 0 0] 26));have aP:=Sk wS;have pP:=VS wS;have x0:=OH wS;have x1:=Uf wS;have x2:=Ug wS;have x3:=OI wS;obtain ⟨W5,eK⟩:=ao (W4.alloc (.cells #[.int .u8 a0,.string a1,.slice a2 a3 a4,.slice a5 a6 a7,.int .u8 b0,.string b1,.slice b2 b3 b4,.slice b5 b6 b7] 50));have bi:=cX eK;have x5:=bX eK;have NI:=aP.tr bi;have lh:SPairsV (fun _=>True) W5 (.slice (some ⟨W4.heap.size,0,none⟩) [(s,f)].length 1) [(s,f)]:=by
  refine ⟨_,1,fun _=>⟨a0,a1,a2,a3,a4,a5,a6,a7⟩,fun _=>⟨b0,b1,b2,b3,b4,b5,b6,b7⟩,rfl,aF _,.inr ⟨_,0,rfl,trivial,fun j hj=>?_⟩,fun j hj=>?_⟩
  ·obtain rfl:j=0:=by simp at hj;omega
   exact ⟨ah x5 0,ah x5 1,ah x5 2,ah x5 3,ah x5 4,ah x5 5,ah x5 6,ah x5 7⟩
  ·obtain rfl:j=0:=by simp at hj;omega
   exact ⟨(hp.later NI).any,(hr.later NI).any⟩
 have CM:=xK W0 [(s,f)] b (by simp) (fun x hx=>by simp at hx;subst hx;exact ⟨hs,hf⟩) hb _ W5 _ 1 ⟨qa,ql,qc,qb,qm,qe⟩ (ht.next NI) lh (yw.move (vQ NI));rw[<-hR]at CM;simp only[BQ.val,fF,List.length_nil,Nat.zero_add]at CM;obtain ⟨HC,HW4,p_⟩:=cD CM wS eK;have x35:=bT bi x3;have H5:=cC NI x35 pP bi.size;obtain ⟨e0,e1,e2,e3,_,_,_,_⟩:=dh x0;obtain ⟨f0,f1,f2,f3,_,_,_,_⟩:=dh x1;obtain ⟨g0,g1,_,_⟩:=tb (bT bi x2);rw[eK]at g0 g1;clear hp hr yw ht hb hs hf aP pP x0 x1 x2 x3 x5 bi NI lh CM hR wS eK x35;simp only[FQ.val,BQ.val];go_enter Tryz.func20,Tryz.ntmps20;go_upto_region 1 with fail;rw[<-HW4.o];go_upto_region 2 with (rw[<-p_.o];go_at_call 15;refine HC.o.mono ?_;rintro e w6 ⟨⟨⟨p0,p1,p2,p3,p4,p5⟩,rfl,JX⟩,cI⟩;have H6:=aC cI JX;clear cI JX);obtain ⟨W7,LC⟩:=ao (w6.alloc (.cells #[.slice p0 p1 p2,.slice p3 p4 p5] 26));rw[<-LC];have Yi:=cX LC;have x7:=bX LC;have Ki:=H6.o.1.tr Yi;have x37:=bT Ki H5.o.2.1;obtain ⟨y0,y1,z0,z1⟩:=tb x37;obtain ⟨v0,v1,_,_⟩:=tb x7;have H7:=bE x37 (H5.o.1.tr Ki) (H6.o.2.move (dr Yi));have HX:=aC (bn H5.o.2.1) H5.o.1.size;clear e0 e1 e2 e3 f0 f1 f2 f3 g0 g1 LC Yi x7 Ki x37;go_wp2;obtain ⟨W8,lQ,x8,k8,s0,s1⟩:=Cm H7.o.1 (.slice p0 p1 p2) (.slice p3 p4 p5);rw[<-lQ];refine bI (v:=.tuple #[BQ.val ⟨p0,p1,p2,p3,p4,p5⟩,.int .i64 R.2.2]) (by simp[BQ.val,results,Tryz.results20,go_sem,s0,s1]) rfl ⟨⟨⟨p0,p1,p2,p3,p4,p5⟩,rfl,H7.o.2.2.move (fun b hb hlt=>⟨aQ HX.o.2 hb,k8.same b hlt (by have:=HX.o.1;omega)⟩)⟩,Below.kp1 H7.o.2.1 k8 (by omega)⟩
end
theorem uS {α:Type} {l m:List α} {k:Nat} (h:l.take k=m.take k) (hl:k<l.length) (hm:k<m.length) (he:l[k]=m[k]):l.take (k+1)=m.take (k+1):=by
 rw[mQ hl,mQ hm,h,he]
def LZ (l:List Tm):Prop:=∀ (m:List Tm) (ok ok':Nat->Prop) (w:World) (a:Option Addr) (n c:Nat) (a':Option Addr) (n' c':Nat),fitTs l->TermsV ok w (.slice a n c) l->TermsV ok' w (.slice a' n' c') m →
 Calls Tryz.prog 19 #[.slice a n c,.slice a' n' c'] w fun e w'=>e=.returned (.bool (jm l m))/\Below w.heap.size w w'
theorem Ht (l:List Tm) (ih:∀ t∈l,LZ t.a):LZ l:=by
 have pp260:=();exact pm260
theorem NJ:∀ t:Tm,LZ t.a:=by
 intro t
 induction t using Tm.ind with
 | h v n a ih=>exact Ht a ih
theorem nv (l:List Tm):LZ l:=Ht l (fun t _=>NJ t)
def Vn (t:Fm):Prop:=∀ (u:Fm) (ok ok':Nat->Prop) (w:World) (p q:FQ),fitF t->FormV ok w p.val t->FormV ok' w q.val u →
 Calls Tryz.prog 17 #[p.val,q.val] w fun e w'=>e=.returned (.bool (vP t u))/\Below w.heap.size w w'
def zbi (l:List Fm):Prop:=∀ (m:List Fm) (ok ok':Nat->Prop) (w:World) (a:Option Addr) (n c:Nat) (a':Option Addr) (n' c':Nat),fitFs l->FormsV ok w (.slice a n c) l->FormsV ok' w (.slice a' n' c') m →
 Calls Tryz.prog 52 #[.slice a n c,.slice a' n' c'] w fun e w'=>e=.returned (.bool (nM l m))/\Below w.heap.size w w'
theorem Q1 (l:List Fm) (ih:∀ t∈l,Vn t):zbi l:=by
 exact pm260
theorem Hu:∀ t:Fm,Vn t:=by
 intro t
 induction t using Fm.ind with
 | h o n a s ih=>
  intro u ok ok' w p q aA hp hq;obtain ⟨o',n',a',s'⟩:=u;obtain ⟨po,pn,pa,pl,pc,pb,pm,pe⟩:=p;obtain ⟨qo,qn,qa,ql,qc,qb,qm,qe⟩:=q;obtain ⟨sa,ss,hs,bO,ek⟩:=aW.1 hp;obtain ⟨sa',ss',hs',Q2,Q3⟩:=aW.1 hq;unfold FQ.val at hs hs';simp only[cA,Array.mk.injEq,cr,and_true,Value.int.injEq,true_and,Value.string.injEq]at hs hs';obtain ⟨rfl,rfl,rfl,rfl⟩:=hs;obtain ⟨rfl,rfl,rfl,rfl⟩:=hs';have CT:=ab (fun (W:World) (hb:Below w.heap.size w W)=>nv a a' ok ok' W pa pl pc qa ql qc aA.args (bO.later hb) (Q2.later hb));have CF:=ab (fun (W:World) (hb:Below w.heap.size w W)=>Q1 s ih s' ok ok' W pb pm pe qb qm qe aA.subs (ek.later hb) (Q3.later hb));clear hp hq bO ek Q2 Q3 aA ih;unfold FQ.val vP;obtain ⟨T,hT⟩:=ao (jm a a');obtain ⟨F,hF⟩:=ao (nM s s');rw[<-hT]at CT ⊢;rw[<-hF]at CF ⊢;clear hT hF;have HB:=ab (show Below w.heap.size w ((w.alloc (.cells #[.int .u8 po,.string ⟨n.toArray⟩,.slice pa pl pc,.slice pb pm pe] 36)).alloc (.cells #[.int .u8 qo,.string ⟨n'.toArray⟩,.slice qa ql qc,.slice qb qm qe] 36)) from cQ.alloc (by simp) _)
  by_cases ho:po=qo
  ·subst ho
   by_cases hn:n=n'
   ·subst hn;simp only[beq_self_eq_true,dP,Bool.and_self];have X0:((w.alloc (.cells #[.int .u8 po,.string ⟨n.toArray⟩,.slice pa pl pc,.slice pb pm pe] 36)).alloc (.cells #[.int .u8 po,.string ⟨n.toArray⟩,.slice qa ql qc,.slice qb qm qe] 36)).heap[w.heap.size]?=some (.cells #[.int .u8 po,.string ⟨n.toArray⟩,.slice pa pl pc,.slice pb pm pe] 36 (0,0)):=(bK _ _ _ (by simp)).trans (aj rfl);have X1:((w.alloc (.cells #[.int .u8 po,.string ⟨n.toArray⟩,.slice pa pl pc,.slice pb pm pe] 36)).alloc (.cells #[.int .u8 po,.string ⟨n.toArray⟩,.slice qa ql qc,.slice qb qm qe] 36)).heap[w.heap.size+1]?=some (.cells #[.int .u8 po,.string ⟨n.toArray⟩,.slice qa ql qc,.slice qb qm qe] 36 (0,0)):=aj (by simp);have HX:=aC X0 X1;clear X0 X1
    cases T with
    | false=>
     have pp238:=();exact pm238
    | true=>
     cases F
     all_goals
      go_enter Tryz.func17,Tryz.ntmps17;go_wp2_with (first | (go_at_call 19;refine (CT.o _ HB.o).mono ?_;rintro e w1 ⟨rfl,hb1⟩;have p3:w1.cell? ⟨w.heap.size,3,none⟩=some (.slice pb pm pe):=ah (bT hb1 HX.o.1) 3;have q3:w1.cell? ⟨w.heap.size+1,3,none⟩=some (.slice qb qm qe):=ah (bT hb1 HX.o.2) 3;have dO:=ab hb1;clear hb1) | (go_at_call 52;refine (CF.o _ (HB.o.trans (dO.o.mono HB.o.size))).mono ?_;rintro e w2 ⟨rfl,bF⟩;have cJ:=ab bF;clear bF));go_ret;exact ⟨rfl,(HB.o.trans (dO.o.mono HB.o.size)).trans (cJ.o.mono (HB.o.trans (dO.o.mono HB.o.size)).size)⟩
   ·have dT:(n == n')=false:=by simpa using hn
    have e1:((po == po && n == n') && (T && F))=false:=by rw[dT];simp
    rw[e1];exact pm238
  ·have ho1:(po == qo)=false:=by simpa using ho
   have e1:((po == qo && n == n') && (T && F))=false:=by rw[ho1];simp
   rw[e1];exact pm238
section
attribute [local go_sem] Oper.semAt_some
structure Fact where
 p:Value->Bx->World->Prop
 st:∀ (v:Value) (γ:Bx) (w:World) (dY:Bx) (w':World),Gr γ w dY w'->p v γ w->p v dY w'
def e6 (l:List Fact) (k:Nat):Value->Bx->World->Prop:=(l.getD k ⟨fun _ _ _=>True,fun _ _ _ _ _ _ h=>h⟩).p
theorem uT (l:List Fact) (k:Nat) (v:Value) (γ:Bx) (w:World) (dY:Bx) (w':World):Gr γ w dY w'->e6 l k v γ w->e6 l k v dY w':=(l.getD k _).st v γ w dY w'
section facts
variable (L:Nat->Prop)
def L0 (s f:Fm) (v:Value) (γ:Bx) (w:World):Prop:=∃q r:FQ,v=.agg #[.int .u8 q.o,.string q.n,.slice q.a q.l q.c,.slice q.b q.m q.e,.int .u8 r.o,.string r.n,.slice r.a r.l r.c,.slice r.b r.m r.e]/\FormV (okB L γ w) w q.val s/\FormV (okB L γ w) w r.val f
def Ku (l:List (Fm×Fm)) (v:Value) (γ:Bx) (w:World):Prop:=∃a c,v=.slice a l.length c/\SPairsV (okB L γ w) w (.slice a l.length c) l
def ZW (n:Str) (f:Fm) (v:Value) (γ:Bx) (w:World):Prop:=∃q:FQ,v=.agg #[.string ⟨n.toArray⟩,.int .u8 q.o,.string q.n,.slice q.a q.l q.c,.slice q.b q.m q.e]/\FormV (okB L γ w) w q.val f
def TBG (n:Str) (t:Tm) (v:Value) (γ:Bx) (w:World):Prop:=∃q:TQ,v=.agg #[.string ⟨n.toArray⟩,.bool q.v,.string q.n,.slice q.a q.l q.c]/\TermV (okB L γ w) w q.val t
def Kv (l:List (Str×Fm)) (v:Value) (γ:Bx) (w:World):Prop:=∃a c,v=.slice a l.length c/\FBindsV (okB L γ w) w (.slice a l.length c) l
def TP (l:List (Str×Tm)) (v:Value) (γ:Bx) (w:World):Prop:=∃a c,v=.slice a l.length c/\TBindsV (okB L γ w) w (.slice a l.length c) l
def aE (x:Value):Fact:=⟨fun v _ _=>v=x,fun _ _ _ _ _ _ h=>h⟩
def aI (f:Fm):Fact:=⟨FormG L f,fun _ _ _ _ _ hG=>FormG.step hG⟩
def eq (t:Tm):Fact:=⟨TermG L t,fun _ _ _ _ _ hG=>TermG.step hG⟩
def eP (l:List Fm):Fact:=⟨FormsG L l,fun _ _ _ _ _ hG=>FormsG.step hG⟩
def je (l:List Tm):Fact:=⟨TermsG L l,fun _ _ _ _ _ hG=>TermsG.step hG⟩
def bG (b:Bd):Fact:=⟨BindG L b,fun _ _ _ _ _ hG=>BindG.step hG⟩
def xO (s f:Fm):Fact:=⟨L0 L s f,fun _ _ _ _ _ hG ⟨q,r,e,h1,h2⟩=>⟨q,r,e,h1.move hG.holds,h2.move hG.holds⟩⟩
def E9 (l:List (Fm×Fm)):Fact:=⟨Ku L l,fun _ _ _ _ _ hG ⟨a,c,e,h⟩=>⟨a,c,e,h.move hG.holds⟩⟩
def fFB (n:Str) (f:Fm):Fact:=⟨ZW L n f,fun _ _ _ _ _ hG ⟨q,e,h⟩=>⟨q,e,h.move hG.holds⟩⟩
def fTB (n:Str) (t:Tm):Fact:=⟨TBG L n t,fun _ _ _ _ _ hG ⟨q,e,h⟩=>⟨q,e,h.move hG.holds⟩⟩
def NK (l:List (Str×Fm)):Fact:=⟨Kv L l,fun _ _ _ _ _ hG ⟨a,c,e,h⟩=>⟨a,c,e,h.move hG.holds⟩⟩
def Yj (l:List (Str×Tm)):Fact:=⟨TP L l,fun _ _ _ _ _ hG ⟨a,c,e,h⟩=>⟨a,c,e,h.move hG.holds⟩⟩
def iy (F:Fact) (r:List Value):Fact:=⟨fun v γ w=>∃u,v=.tuple (u :: r).toArray/\F.p u γ w,fun _ γ w dY w' hG ⟨u,e,h⟩=>⟨u,e,F.st u γ w dY w' hG h⟩⟩
def mP (z:Array Value) (T:TypeId):Fact:=⟨BoxG z T,fun _ _ _ _ _ hG=>BoxG.step hG⟩
def gL (F:Fact) (T:TypeId):Fact:=⟨fun _ γ w=>SetG (fun cs γ w=>F.p (.agg cs) γ w) T γ w,fun _ γ w dY w' hG h=>SetG.step (fun _ h=>F.st _ γ w dY w' hG h) hG h⟩
end facts
section
variable {ops:Array Oper} {Q:Exit->Act->World->Prop} {a0:Act} {l:List Fact} {kA kS k:Nat} {M:Nat->Prop} {w0:World} {md:Region.Mode} {L:Nat->Prop}
abbrev cz (md:Region.Mode) (ops:Array Oper) (Q:Exit->Act->World->Prop) (a0:Act) (l:List Fact) (kA kS:Nat) (M:Nat->Prop) (w0:World) (k:Nat):Prop:=oz (e6 l) (PsB kA kS) (IG M w0) Gr Fence.wide 3 Tryz.prog md ops Q a0 k
abbrev ZX (md:Region.Mode) (ops:Array Oper) (a0:Act) (l:List Fact) (kA kS:Nat) (M:Nat->Prop) (w0:World) (k:Nat) (o:Oper) (a:Act) (γ:Bx) (w:World):Prop:=DagIn (e6 l) (PsB kA kS) (IG M w0) md ops a0 o k a γ w
def Dep (md:Region.Mode) (ops:Array Oper) (a0:Act) (l:List Fact) (kA kS:Nat) (M:Nat->Prop) (w0:World) (k:Nat) (o:Oper) (d:Nat) (p:Value->Bx->World->Prop):Prop:=∀ a γ w,ZX md ops a0 l kA kS M w0 k o a γ w->∃v,a.tmps[d]?=some v/\p v γ w
theorem af {d:Nat} (j:Nat) (hj:ops[j]?=some oj:=by rfl) (hd:oj.dst=some d:=by rfl) (hw:waitB md o j=true:=by kernel_rfl) (hp:e6 l j=p:=by rfl):Dep md ops a0 l kA kS M w0 k o d p:=fun _ _ _ h=>hp ▸ h.val j oj d hj hd hw
theorem old {d:Nat} (hv:a0.tmps[d]?=some v) (hf:freeB ops d=true:=by kernel_rfl):Dep md ops a0 l kA kS M w0 k o d (fun u _ _=>u=v):=fun _ _ _ h=>⟨v,(h.ou d hf).trans hv,rfl⟩
theorem Dep.is {d:Nat} (h:Dep md ops a0 l kA kS M w0 k o d p) {a:Act} {w:World} (aO:ZX md ops a0 l kA kS M w0 k o a γ w):∃v,a.tmps.getD d undef=v/\p v γ w:=by
 obtain ⟨v,h1,h2⟩:=h a γ w aO;exact ⟨v,aG h1,h2⟩
def Wt (md:Region.Mode) (ops:Array Oper) (a0:Act) (l:List Fact) (kA kS:Nat) (M:Nat->Prop) (w0:World) (k:Nat) (o:Oper):Prop:=∀ a γ w,ZX md ops a0 l kA kS M w0 k o a γ w->Region.wanted o (yielded ops a.tmps)=true
theorem ai {d:Nat} {b:Bool} (j:Nat) (hd:Dep md ops a0 l kA kS M w0 k o d (fun v _ _=>v=.bool b)) (hg:o.guard=some (j,b):=by rfl) (hj:ops[j]?=some oj:=by rfl) (Fz:oj.dst=some d:=by rfl):Wt md ops a0 l kA kS M w0 k o:=by
 intro a γ w h;obtain ⟨v,h1,rfl⟩:=hd a γ w h;simp[Region.wanted,hg,yielded,hj,Fz,h1]
theorem dR {d:Nat} (hw:Wt md ops a0 l kA kS M w0 k o) (ho:ops[k]?=some o) (hd:o.dst=some d) (f:Nat)
  (h:∀ a γ w,ZX md ops a0 l kA kS M w0 k o a γ w->∃args,(execOp a.eval o).run Tryz.prog w=.ok (.enter f args) w/\Calls Tryz.prog f args w fun e w'=>(∃v,e=.returned v/\e6 l k v γ w')/\Below w.heap.size w w'):cz md ops Q a0 l kA kS M w0 k:=
 CZ ho hd (fun _=>trivial) rfl rfl (fun a γ w aO=>by
  obtain ⟨args,h1,h2⟩:=h a γ w aO;refine ⟨hw a γ w aO,f,args,h1,aL.2 (h2.mono ?_)⟩;rintro e w' ⟨⟨v,rfl,h3⟩,h4⟩;exact ⟨v,rfl,γ,Gr.keep h4,fun _ _ h=>h,h3⟩)
theorem dC {d:Nat} (hw:Wt md ops a0 l kA kS M w0 k o) (ho:ops[k]?=some o) (hd:o.dst=some d)
  (h:∀ a γ w,ZX md ops a0 l kA kS M w0 k o a γ w->∃v,(execOp a.eval o).run Tryz.prog w=.ok (.value v) w/\e6 l k v γ w):cz md ops Q a0 l kA kS M w0 k:=
 dx ho hd (fun _=>trivial) rfl (fun a γ w aO=>by
  obtain ⟨v,h1,h2⟩:=h a γ w aO;exact ⟨hw a γ w aO,v,γ,w,h1,Gr.refl,fun _ _ h=>h,h2⟩)
end
end
def mA:Str:=[63,65]
def mB:Str:=[63,66]
def mT:Str:=[63,116]
def cT (s:Str) (l:List Tm):Tm:=.mk false s l
def em (s:Str) (l:List Tm):Fm:=.mk 1 s l []
def ji (s:Str):Fm:=.mk 15 s [] []
def Cp (s x t:Str):Fm:=.mk 16 s [am x,am t] []
def awP:Fm:=em [80] []
def awQ:Fm:=em [81] []
def E':Fm:=em [82] []
def Yk:Fm:=.mk 6 [] [] [ji mA,ji mB]
def sk:Fm:=.mk 4 [] [] [awP,awQ]
def Yl:Fm:=.mk 6 [] [] [sk,E']
def Vo:Fm:=.mk 8 [120] [] [ji mA]
def zbj:Fm:=.mk 9 [122] [] [em [82] [am [121],am [122]]]
def awr:Fm:=.mk 8 [121] [] [zbj]
def L1:Fm:=Cp mA [120] mT
def mC:Tm:=cT [102] [cT [97] []]
def awG:Fm:=.mk 9 [122] [] [em [82] [mC,am [122]]]
def zdt:Fm:=.mk 9 [122] [] [em [82] [am [122],am [122]]]
def nz:Fm:=.mk 9 [122] [] [em [82] [am [63,120],am [122]]]
def zdu:Fm:=em [80] [cT [97] []]
def zdv:Fm:=.mk 8 [120] [] [.mk 5 [] [] [ji mA,ji mB]]
def Ym:Fm:=em [80] [am [121]]
def zbk:Fm:=.mk 8 [121] [] [.mk 5 [] [] [Ym,Ym]]
def zbl:Fm:=em [80] [am [63,120],am [120]]
def Q4:Bd:=⟨[(mA,zbl)],[(mT,am [120])]⟩
def Yn:Fm:=.mk 9 [120] [] [ji mA]
def Cq:Fm:=.mk 9 [120,49] [] [em [80] [am [120,49],am [120]]]
def Cr:Fm:=em [80] [am [120],am [120]]
theorem aw1:dq [(Yk,Yl)] ⟨[],[]⟩=(⟨[(mA,sk),(mB,E')],[]⟩,0,0):=by kernel_rfl
theorem aw2:dq [(Vo,awr),(L1,awG)] ⟨[],[]⟩=(⟨[(mA,nz)],[(mT,mC)]⟩,0,0):=by kernel_rfl
theorem aw3:dq [(Vo,awr),(L1,zdt)] ⟨[],[]⟩=(⟨[],[]⟩,1,70):=by kernel_rfl
theorem aw4:dq [(L1,zdu)] ⟨[],[]⟩=(⟨[],[]⟩,0,71):=by kernel_rfl
theorem aw5:dq [(zdv,zbk),(ji mA,Ym)] ⟨[],[]⟩=(⟨[],[]⟩,1,70):=by kernel_rfl
theorem aw6:kQ Yn Q4=(Cq,0):=by kernel_rfl
theorem aw7:kQ L1 Q4=(Cr,0):=by kernel_rfl
theorem aw8:kQ (ji mA) Q4=(gB,72):=by kernel_rfl
theorem aw9:validB Q4=true:=by decide +kernel
theorem zdw:vP E' E'=true:=by decide +kernel
theorem zdx:vP nz nz=true:=by decide +kernel
theorem zdy:jm [mC] [mC]=true:=by decide +kernel
theorem zdz:vP Cq Cq=true:=by decide +kernel
theorem zdA:vP Cr Cr=true:=by decide +kernel
section
attribute [local go_sem] Oper.semAt_some
section
variable {ops:Array Oper} {Q:Exit->Act->World->Prop} {a0:Act} {l:List Fact} {kA kS k:Nat} {M:Nat->Prop} {w0:World} {md:Region.Mode} {L:Nat->Prop}
theorem AF {w:World} {s:Str} {a:Option Addr} {n:Nat} {ts:List Tm} (h:TermsV ok w (.slice a n c) ts):FormV ok w (FQ.val ⟨1,⟨s.toArray⟩,a,n,c,none,0,0⟩) (em s ts):=aW.2 ⟨_,_,rfl,h,fB⟩
def Oy (L M:Nat->Prop) (w0:World) (b:Nat):Prop:=L b/\b<w0.heap.size/\¬M b
theorem okB.old {w:World} (hI:IG M w0 γ w):gC (Oy L M w0) (okB L γ w) w0 w:=fun b hb hlt=>
 ⟨⟨hb.1,bN hlt hI.1.size,fun e=>by
  rcases (hI.2.1 b e).1 with h | h
  ·omega
  ·exact hb.2.2 h⟩,hI.1.same b hlt hb.2.2⟩
theorem AG (s:Str)  {d:Nat} {gu:Option (Nat×Bool)} (ho:ops[k]?=some o:=by rfl) (eo:o=⟨some d,.call ⟨.value (.func 29),#[.const (.string ⟨s.toArray⟩)],vJ⟩,ty,pos,gK,gu⟩:=by rfl) (hw:Wt md ops a0 l kA kS M w0 k o:=by exact fun _ _ _ _=>rfl) (hp:e6 l k=FormG L (ji s):=by rfl):cz md ops Q a0 l kA kS M w0 k:=
 by subst eo;exact dR hw ho rfl 29 (fun a γ w aO=>by
  refine ⟨#[.string ⟨s.toArray⟩],by go_simp,(Wu _ w).mono ?_⟩;rintro e w' ⟨rfl,hb⟩;exact ⟨⟨_,rfl,by rw[hp];exact ⟨⟨15,⟨s.toArray⟩,none,0,0,none,0,0⟩,rfl,aW.2 ⟨_,_,rfl,b_,fB⟩⟩⟩,hb⟩)
theorem ph (s:Str)  {d:Nat} {gu:Option (Nat×Bool)} (ho:ops[k]?=some o:=by rfl) (eo:o=⟨some d,.call ⟨.value (.func 30),#[.const (.string ⟨s.toArray⟩)],vJ⟩,ty,pos,gK,gu⟩:=by rfl) (hw:Wt md ops a0 l kA kS M w0 k o:=by exact fun _ _ _ _=>rfl) (hp:e6 l k=TermG L (am s):=by rfl):cz md ops Q a0 l kA kS M w0 k:=
 by subst eo;exact dR hw ho rfl 30 (fun a γ w aO=>by
  refine ⟨#[.string ⟨s.toArray⟩],by go_simp,(JI _ w).mono ?_⟩;rintro e w' ⟨rfl,hb⟩;exact ⟨⟨_,rfl,by rw[hp];exact ⟨⟨true,⟨s.toArray⟩,none,0,0⟩,rfl,aV.2 ⟨_,rfl,b_⟩⟩⟩,hb⟩)
theorem DL (s:Str)  {d:Nat} {gu:Option (Nat×Bool)} (ho:ops[k]?=some o:=by rfl) (eo:o=⟨some d,.call ⟨.value (.func 24),#[.const (.string ⟨s.toArray⟩),.const (.slice none 0 0)],vJ⟩,ty,pos,gK,gu⟩:=by rfl) (hw:Wt md ops a0 l kA kS M w0 k o:=by exact fun _ _ _ _=>rfl) (hp:e6 l k=FormG L (em s []):=by rfl):cz md ops Q a0 l kA kS M w0 k:=
 by subst eo;exact dR hw ho rfl 24 (fun a γ w aO=>by
  refine ⟨#[.string ⟨s.toArray⟩,.slice none 0 0],by go_simp,(Er _ _ _ _ w).mono ?_⟩;rintro e w' ⟨rfl,hb⟩;exact ⟨⟨_,rfl,by rw[hp];exact ⟨⟨1,⟨s.toArray⟩,none,0,0,none,0,0⟩,rfl,AF b_⟩⟩,hb⟩)
theorem L2 (s:Str)  {d:Nat} {gu:Option (Nat×Bool)} (ho:ops[k]?=some o:=by rfl) (eo:o=⟨some d,.call ⟨.value (.func 31),#[.const (.string ⟨s.toArray⟩),.const (.slice none 0 0)],vJ⟩,ty,pos,gK,gu⟩:=by rfl) (hw:Wt md ops a0 l kA kS M w0 k o:=by exact fun _ _ _ _=>rfl) (hp:e6 l k=TermG L (cT s []):=by rfl):cz md ops Q a0 l kA kS M w0 k:=
 by subst eo;exact dR hw ho rfl 31 (fun a γ w aO=>by
  refine ⟨#[.string ⟨s.toArray⟩,.slice none 0 0],by go_simp,(Pt _ _ _ _ w).mono ?_⟩;rintro e w' ⟨rfl,hb⟩;exact ⟨⟨_,rfl,by rw[hp];exact ⟨⟨false,⟨s.toArray⟩,none,0,0⟩,rfl,aV.2 ⟨_,rfl,b_⟩⟩⟩,hb⟩)
theorem yz (s:Str) (ts:List Tm) (x:Nat) {d:Nat} {gu:Option (Nat×Bool)}  (hx:Dep md ops a0 l kA kS M w0 k o x (TermsG L ts)) (ho:ops[k]?=some o:=by rfl) (eo:o=⟨some d,.call ⟨.value (.func 24),#[.const (.string ⟨s.toArray⟩),.tmp x],vJ⟩,ty,pos,gK,gu⟩:=by rfl) (hw:Wt md ops a0 l kA kS M w0 k o:=by exact fun _ _ _ _=>rfl) (hp:e6 l k=FormG L (em s ts):=by rfl):cz md ops Q a0 l kA kS M w0 k:=
 by subst eo;exact dR hw ho rfl 24 (fun a γ w aO=>by
  obtain ⟨vx,ex,fx⟩:=hx.is aO;obtain ⟨ax,cx,rfl,hx⟩:=fx;refine ⟨#[.string ⟨s.toArray⟩,.slice ax ts.length cx],by go_simp,(Er _ _ _ _ w).mono ?_⟩;rintro e w' ⟨rfl,hb⟩;exact ⟨⟨_,rfl,by rw[hp];exact ⟨⟨1,⟨s.toArray⟩,ax,ts.length,cx,none,0,0⟩,rfl,AF (hx.move (Gr.keep hb).holds)⟩⟩,hb⟩)
theorem zbm (s:Str) (ts:List Tm) (x:Nat) {d:Nat} {gu:Option (Nat×Bool)}  (hx:Dep md ops a0 l kA kS M w0 k o x (TermsG L ts)) (ho:ops[k]?=some o:=by rfl) (eo:o=⟨some d,.call ⟨.value (.func 31),#[.const (.string ⟨s.toArray⟩),.tmp x],vJ⟩,ty,pos,gK,gu⟩:=by rfl) (hw:Wt md ops a0 l kA kS M w0 k o:=by exact fun _ _ _ _=>rfl) (hp:e6 l k=TermG L (cT s ts):=by rfl):cz md ops Q a0 l kA kS M w0 k:=
 by subst eo;exact dR hw ho rfl 31 (fun a γ w aO=>by
  obtain ⟨vx,ex,fx⟩:=hx.is aO;obtain ⟨ax,cx,rfl,hx⟩:=fx;refine ⟨#[.string ⟨s.toArray⟩,.slice ax ts.length cx],by go_simp,(Pt _ _ _ _ w).mono ?_⟩;rintro e w' ⟨rfl,hb⟩;exact ⟨⟨_,rfl,by rw[hp];exact ⟨⟨false,⟨s.toArray⟩,ax,ts.length,cx⟩,rfl,aV.2 ⟨_,rfl,hx.move (Gr.keep hb).holds⟩⟩⟩,hb⟩)
theorem kz (o:Int) (s:Str) (fs:List Fm) (x:Nat) {d:Nat} {gu:Option (Nat×Bool)}  (hx:Dep md ops a0 l kA kS M w0 k ⟨some d,.call ⟨.value (.func 28),#[.const (.int .u8 o),.const (.string ⟨s.toArray⟩),.tmp x],vJ⟩,ty,pos,gK,gu⟩ x (FormsG L fs)) (ho:ops[k]?=some ⟨some d,.call ⟨.value (.func 28),#[.const (.int .u8 o),.const (.string ⟨s.toArray⟩),.tmp x],vJ⟩,ty,pos,gK,gu⟩:=by rfl) (hw:Wt md ops a0 l kA kS M w0 k ⟨some d,.call ⟨.value (.func 28),#[.const (.int .u8 o),.const (.string ⟨s.toArray⟩),.tmp x],vJ⟩,ty,pos,gK,gu⟩:=by exact fun _ _ _ _=>rfl) (hp:e6 l k=FormG L (.mk o s [] fs):=by rfl):cz md ops Q a0 l kA kS M w0 k:=
 dR hw ho rfl 28 (fun a γ w aO=>by
  obtain ⟨vx,ex,fx⟩:=hx.is aO;obtain ⟨ax,cx,rfl,hx⟩:=fx;refine ⟨#[.int .u8 o,.string ⟨s.toArray⟩,.slice ax fs.length cx],by go_simp,(SF _ _ _ _ _ w).mono ?_⟩;rintro e w' ⟨rfl,hb⟩;exact ⟨⟨_,rfl,by rw[hp];exact ⟨⟨o,⟨s.toArray⟩,none,0,0,ax,fs.length,cx⟩,rfl,aW.2 ⟨_,_,rfl,b_,hx.move (Gr.keep hb).holds⟩⟩⟩,hb⟩)
theorem DM {b:Nat} {x y:Tm} (p q:TQ) (c:Nat) (hb:W.heap[b]?=some (.cells #[.bool p.v,.string p.n,.slice p.a p.l p.c,.bool q.v,.string q.n,.slice q.a q.l q.c] T (0,0))) (hok:ok b) (hx:TermV ok W p.val x) (hy:TermV ok W q.val y):TermsV ok W (.slice (some ⟨b,0,none⟩) 2 c) [x,y]:=by
 have pp266:=();exact pm266
theorem NL {b:Nat} {x y:Fm} (p q:FQ) (c:Nat) (hb:W.heap[b]?=some (.cells #[.int .u8 p.o,.string p.n,.slice p.a p.l p.c,.slice p.b p.m p.e,.int .u8 q.o,.string q.n,.slice q.a q.l q.c,.slice q.b q.m q.e] T (0,0))) (hok:ok b) (hx:FormV ok W p.val x) (hy:FormV ok W q.val y):FormsV ok W (.slice (some ⟨b,0,none⟩) 2 c) [x,y]:=by
 exact pm266
theorem okB.here (hL:∀ b,w0.heap.size<=b->L b) {w:World} (hI:IG M w0 γ w) (o:Obj):okB L γ (w.alloc o) w.heap.size:=(okB.new hI (fun b hb=>hL b (aQ hI.1.size hb)) (w':=w.alloc o) _ (aF _) (by simp)).1
theorem yK (s x t:Str)  {d:Nat} {gu:Option (Nat×Bool)} (hL:∀ b,w0.heap.size<=b->L b) (ho:ops[k]?=some o:=by rfl) (eo:o=⟨some d,.call ⟨.value (.func 35),#[.const (.string ⟨s.toArray⟩),.const (.string ⟨x.toArray⟩),.const (.string ⟨t.toArray⟩)],vJ⟩,ty,pos,gK,gu⟩:=by rfl) (hw:Wt md ops a0 l kA kS M w0 k o:=by exact fun _ _ _ _=>rfl) (hp:e6 l k=FormG L (Cp s x t):=by rfl):cz md ops Q a0 l kA kS M w0 k:=
 by subst eo;exact dR hw ho rfl 35 (fun a γ w aO=>by
  refine ⟨#[.string ⟨s.toArray⟩,.string ⟨x.toArray⟩,.string ⟨t.toArray⟩],by go_simp,(MU _ _ _ w).mono ?_⟩;rintro e w' ⟨⟨kk,c,rfl,hk,T,hc⟩,hb⟩;have FE:=(okB.new aO.inv (L:=L) (fun b hb=>hL b (aQ aO.inv.1.size hb)) kk hk (bn hc)).1;exact ⟨⟨_,rfl,by rw[hp];exact ⟨⟨16,⟨s.toArray⟩,some ⟨kk,0,none⟩,2,c,none,0,0⟩,rfl,aW.2 ⟨_,_,rfl,DM ⟨true,⟨x.toArray⟩,none,0,0⟩ ⟨true,⟨t.toArray⟩,none,0,0⟩ c hc FE (aV.2 ⟨_,rfl,b_⟩) (aV.2 ⟨_,rfl,b_⟩),fB⟩⟩⟩,hb⟩)
theorem Hv (s f:Fm) (b b2:Bd) (i:Nat) (er:Int) (hR:dq [(s,f)] b=(b2,i,er)) (hs:fitF s) (hf:fitF f) (hb:BdFit b) (x:Nat) (y:Nat) (z:Nat) {d:Nat} {gu:Option (Nat×Bool)} (hT:Tabs Wb w0) (hM:∀ b,M b->Wb.heap.size<=b) (hL:∀ b,w0.heap.size<=b->L b) (hx:Dep md ops a0 l kA kS M w0 k o x (FormG L s)) (hy:Dep md ops a0 l kA kS M w0 k o y (FormG L f)) (hz:Dep md ops a0 l kA kS M w0 k o z (BindG L b)) (ho:ops[k]?=some o:=by rfl) (eo:o=⟨some d,.call ⟨.value (.func 20),#[.tmp x,.tmp y,.tmp z],vJ⟩,ty,pos,gK,gu⟩:=by rfl) (hw:Wt md ops a0 l kA kS M w0 k o:=by exact fun _ _ _ _=>rfl) (hp:e6 l k=(iy (bG L b2) [.int .i64 er]).p:=by rfl):cz md ops Q a0 l kA kS M w0 k:=
 by subst eo;exact dR hw ho rfl 20 (fun a γ w aO=>by
  obtain ⟨vx,ex,fx⟩:=hx.is aO;obtain ⟨vy,ey,fy⟩:=hy.is aO;obtain ⟨vz,ez,fz⟩:=hz.is aO;obtain ⟨qx,rfl,hx⟩:=fx;obtain ⟨qy,rfl,hy⟩:=fy;obtain ⟨qz,rfl,hz⟩:=fz;refine ⟨#[qx.val,qy.val,qz.val],by go_simp,(NH Wb s f b hs hf hb _ _ _ w qx qy qz (hT.kp aO.inv.1 hM) hx hy hz).mono ?_⟩;rw[hR];rintro e w' ⟨⟨u,rfl,hu⟩,hb⟩;exact ⟨⟨_,rfl,by rw[hp];exact ⟨_,rfl,u,rfl,hu.move (okB.new aO.inv (fun b hb=>hL b (aQ aO.inv.1.size hb)))⟩⟩,hb⟩)
theorem pi (ps:List (Fm×Fm)) (b b2:Bd) (i:Nat) (er:Int) (hR:dq ps b=(b2,i,er)) (hl:ps.length<=8) (hs:∀ x∈ps,fitF x.1/\fitF x.2) (hb:BdFit b) (x:Nat) (z:Nat) {d:Nat} {gu:Option (Nat×Bool)} (hT:Tabs Wb w0) (hM:∀ b,M b->Wb.heap.size<=b) (hL:∀ b,w0.heap.size<=b->L b) (hx:Dep md ops a0 l kA kS M w0 k o x (Ku L ps)) (hz:Dep md ops a0 l kA kS M w0 k o z (BindG L b)) (ho:ops[k]?=some o:=by rfl) (eo:o=⟨some d,.call ⟨.value (.func 15),#[.tmp x,.tmp z],vJ⟩,ty,pos,gK,gu⟩:=by rfl) (hw:Wt md ops a0 l kA kS M w0 k o:=by exact fun _ _ _ _=>rfl) (hp:e6 l k=(iy (bG L b2) [.int .i64 (i:Int),.int .i64 er]).p:=by rfl):cz md ops Q a0 l kA kS M w0 k:=
 by subst eo;exact dR hw ho rfl 15 (fun a γ w aO=>by
  obtain ⟨vx,ex,fx⟩:=hx.is aO;obtain ⟨vz,ez,fz⟩:=hz.is aO;obtain ⟨ax,cx,rfl,hx⟩:=fx;obtain ⟨qz,rfl,hz⟩:=fz;refine ⟨#[.slice ax ps.length cx,qz.val],by go_simp,(xK Wb ps b hl hs hb (okB L γ w) w ax cx qz (hT.kp aO.inv.1 hM) hx hz).mono ?_⟩;rw[hR];rintro e w' ⟨⟨u,rfl,hu⟩,hb⟩;exact ⟨⟨_,rfl,by rw[hp];exact ⟨_,rfl,u,rfl,hu.move (okB.new aO.inv (fun b hb=>hL b (aQ aO.inv.1.size hb)))⟩⟩,hb⟩)
theorem L3 (b:Bd) (n:Str) (hF:b.fs.length<=1000000) (aA:∀ x∈b.fs,fitF x.2) (x:Nat) {d:Nat} {gu:Option (Nat×Bool)} (hL:∀ b,w0.heap.size<=b->L b) (hx:Dep md ops a0 l kA kS M w0 k o x (BindG L b)) (ho:ops[k]?=some o:=by rfl) (eo:o=⟨some d,.call ⟨.value (.func 16),#[.tmp x,.const (.string ⟨n.toArray⟩)],vJ⟩,ty,pos,gK,gu⟩:=by rfl) (hw:Wt md ops a0 l kA kS M w0 k o:=by exact fun _ _ _ _=>rfl) (hp:e6 l k=(iy (aI L ((getB b.fs n).getD gB)) [.bool (getB b.fs n).isSome]).p:=by rfl):cz md ops Q a0 l kA kS M w0 k:=
 by subst eo;exact dR hw ho rfl 16 (fun a γ w aO=>by
  obtain ⟨vx,ex,fx⟩:=hx.is aO;obtain ⟨qx,rfl,hx⟩:=fx;refine ⟨#[qx.val,.string ⟨n.toArray⟩],by go_simp,(Nd b hF aA n _ w qx hx).mono ?_⟩;rintro e w' ⟨⟨u,rfl,hu⟩,hb⟩;exact ⟨⟨_,rfl,by rw[hp];exact ⟨_,rfl,u,rfl,hu.move (okB.new aO.inv (fun b hb=>hL b (aQ aO.inv.1.size hb)))⟩⟩,hb⟩)
theorem TR (b:Bd) (n:Str) (hF:b.ts.length<=1000000) (aA:∀ x∈b.ts,fitT x.2) (x:Nat) {d:Nat} {gu:Option (Nat×Bool)} (hL:∀ b,w0.heap.size<=b->L b) (hx:Dep md ops a0 l kA kS M w0 k o x (BindG L b)) (ho:ops[k]?=some o:=by rfl) (eo:o=⟨some d,.call ⟨.value (.func 18),#[.tmp x,.const (.string ⟨n.toArray⟩)],vJ⟩,ty,pos,gK,gu⟩:=by rfl) (hw:Wt md ops a0 l kA kS M w0 k o:=by exact fun _ _ _ _=>rfl) (hp:e6 l k=(iy (eq L ((getB b.ts n).getD LJ)) [.bool (getB b.ts n).isSome]).p:=by rfl):cz md ops Q a0 l kA kS M w0 k:=
 by subst eo;exact dR hw ho rfl 18 (fun a γ w aO=>by
  obtain ⟨vx,ex,fx⟩:=hx.is aO;obtain ⟨qx,rfl,hx⟩:=fx;refine ⟨#[qx.val,.string ⟨n.toArray⟩],by go_simp,(Nf b hF aA n _ w qx hx).mono ?_⟩;rintro e w' ⟨⟨u,rfl,hu⟩,hb⟩;exact ⟨⟨_,rfl,by rw[hp];exact ⟨_,rfl,u,rfl,hu.move (okB.new aO.inv (fun b hb=>hL b (aQ aO.inv.1.size hb)))⟩⟩,hb⟩)
theorem uU (f g2:Fm) (hf:fitF f) (x:Nat) (y:Nat) {d:Nat} {gu:Option (Nat×Bool)}  (hx:Dep md ops a0 l kA kS M w0 k o x (FormG L f)) (hy:Dep md ops a0 l kA kS M w0 k o y (FormG L g2)) (ho:ops[k]?=some o:=by rfl) (eo:o=⟨some d,.call ⟨.value (.func 17),#[.tmp x,.tmp y],vJ⟩,ty,pos,gK,gu⟩:=by rfl) (hw:Wt md ops a0 l kA kS M w0 k o:=by exact fun _ _ _ _=>rfl) (hp:e6 l k=fun v _ _=>v=.bool (vP f g2):=by rfl):cz md ops Q a0 l kA kS M w0 k:=
 by subst eo;exact dR hw ho rfl 17 (fun a γ w aO=>by
  obtain ⟨vx,ex,fx⟩:=hx.is aO;obtain ⟨vy,ey,fy⟩:=hy.is aO;obtain ⟨qx,rfl,hx⟩:=fx;obtain ⟨qy,rfl,hy⟩:=fy;refine ⟨#[qx.val,qy.val],by go_simp,(Hu f g2 _ _ w qx qy hf hx hy).mono ?_⟩;rintro e w' ⟨rfl,hb⟩;exact ⟨⟨_,rfl,by rw[hp]⟩,hb⟩)
theorem Q5 (f g2:List Tm) (hf:fitTs f) (x:Nat) (y:Nat) {d:Nat} {gu:Option (Nat×Bool)}  (hx:Dep md ops a0 l kA kS M w0 k o x (TermsG L f)) (hy:Dep md ops a0 l kA kS M w0 k o y (TermsG L g2)) (ho:ops[k]?=some o:=by rfl) (eo:o=⟨some d,.call ⟨.value (.func 19),#[.tmp x,.tmp y],vJ⟩,ty,pos,gK,gu⟩:=by rfl) (hw:Wt md ops a0 l kA kS M w0 k o:=by exact fun _ _ _ _=>rfl) (hp:e6 l k=fun v _ _=>v=.bool (jm f g2):=by rfl):cz md ops Q a0 l kA kS M w0 k:=
 by subst eo;exact dR hw ho rfl 19 (fun a γ w aO=>by
  obtain ⟨vx,ex,fx⟩:=hx.is aO;obtain ⟨vy,ey,fy⟩:=hy.is aO;obtain ⟨ax,cx,rfl,hx⟩:=fx;obtain ⟨ay,cy,rfl,hy⟩:=fy;refine ⟨#[.slice ax f.length cx,.slice ay g2.length cy],by go_simp,(nv f g2 _ _ w ax _ cx ay _ cy hf hx hy).mono ?_⟩;rintro e w' ⟨rfl,hb⟩;exact ⟨⟨_,rfl,by rw[hp]⟩,hb⟩)
theorem uV (s f:Fm) (b:Bd) (er:Int) (hR:kQ s b=(f,er)) (hs:fitF s) (hb:BdFit b) (x:Nat) (z:Nat) {d:Nat} {gu:Option (Nat×Bool)} (hT:Tabs Wb w0) (hM:∀ b,M b->Wb.heap.size<=b) (hL:∀ b,w0.heap.size<=b->L b) (hx:Dep md ops a0 l kA kS M w0 k o x (FormG L s)) (hz:Dep md ops a0 l kA kS M w0 k o z (BindG L b)) (ho:ops[k]?=some o:=by rfl) (eo:o=⟨some d,.call ⟨.value (.func 32),#[.tmp x,.tmp z],vJ⟩,ty,pos,gK,gu⟩:=by rfl) (hw:Wt md ops a0 l kA kS M w0 k o:=by exact fun _ _ _ _=>rfl) (hp:e6 l k=(iy (aI L f) [.int .i64 er]).p:=by rfl):cz md ops Q a0 l kA kS M w0 k:=
 by subst eo;exact dR hw ho rfl 32 (fun a γ w aO=>by
  obtain ⟨vx,ex,fx⟩:=hx.is aO;obtain ⟨vz,ez,fz⟩:=hz.is aO;obtain ⟨qx,rfl,hx⟩:=fx;obtain ⟨qz,rfl,hz⟩:=fz;refine ⟨#[qx.val,qz.val],by go_simp,(Q0 Wb s b hs hb (okB L γ w) w qx qz (hT.kp aO.inv.1 hM) hx hz).mono ?_⟩;rw[hR];rintro e w' ⟨⟨u,rfl,hu⟩,hb⟩;exact ⟨⟨_,rfl,by rw[hp];exact ⟨_,rfl,u,rfl,hu.move (okB.new aO.inv (fun b hb=>hL b (aQ aO.inv.1.size hb)))⟩⟩,hb⟩)
theorem q_ (b:Bd) (hb:BdFit b) (x:Nat) {d:Nat} {gu:Option (Nat×Bool)} (hT:Tabs Wb w0) (hM:∀ b,M b->Wb.heap.size<=b) (hx:Dep md ops a0 l kA kS M w0 k o x (BindG L b)) (ho:ops[k]?=some o:=by rfl) (eo:o=⟨some d,.call ⟨.value (.func 27),#[.tmp x],vJ⟩,ty,pos,gK,gu⟩:=by rfl) (hw:Wt md ops a0 l kA kS M w0 k o:=by exact fun _ _ _ _=>rfl) (hp:e6 l k=fun v _ _=>v=.bool (validB b):=by rfl):cz md ops Q a0 l kA kS M w0 k:=
 by subst eo;exact dR hw ho rfl 27 (fun a γ w aO=>by
  obtain ⟨vx,ex,fx⟩:=hx.is aO;obtain ⟨qx,rfl,hx⟩:=fx;refine ⟨#[qx.val],by go_simp,(wG Wb b hb (okB L γ w) w (hT.kp aO.inv.1 hM) qx hx).mono ?_⟩;rintro e w' ⟨rfl,hb⟩;exact ⟨⟨_,rfl,by rw[hp]⟩,hb⟩)
end
section
variable {ops:Array Oper} {Q:Exit->Act->World->Prop} {a0:Act} {l:List Fact} {kA kS k:Nat} {M:Nat->Prop} {w0:World} {md:Region.Mode} {L:Nat->Prop}
theorem pj {d:Nat} (hw:Wt md ops a0 l kA kS M w0 k o) (ho:ops[k]?=some o) (hd:o.dst=some d)
  (h:∀ a γ w,ZX md ops a0 l kA kS M w0 k o a γ w->∃v cs T,(execOp a.eval o).run Tryz.prog w=.ok (.value v) (w.alloc (.cells cs T))/\e6 l k v γ (w.alloc (.cells cs T))):cz md ops Q a0 l kA kS M w0 k:=
 dx ho hd (fun _=>trivial) rfl (fun a γ w aO=>by
  obtain ⟨v,cs,T,h1,h2⟩:=h a γ w aO;exact ⟨hw a γ w aO,v,γ,_,h1,Gr.keep cQ,fun _ _ h=>h,h2⟩)
theorem jB {w:World} (o:Obj):Gr γ w γ (w.alloc o):=Gr.keep cQ
theorem Kw {X:World} {B:Nat} {p:FQ} (h:FormV ok X p.val f) (hB:ok B) (hx:X.heap[B]?=some (.cells #[.int .u8 p.o,.string p.n,.slice p.a p.l p.c,.slice p.b p.m p.e] T (0,0))):FormsV ok X (.slice (some ⟨B,0,none⟩) 1 c) [f]:=
 ⟨_,c,fun _=>p.val,rfl,.inr ⟨B,0,rfl,hB,fun j hj=>by
  obtain rfl:j=0:=by simpa using hj
  exact ⟨_,_,_,_,rfl,ah hx 0,ah hx 1,ah hx 2,ah hx 3⟩⟩,fun j hj=>by
  obtain rfl:j=0:=by simpa using hj
  exact h⟩
variable (hL:∀ b,w0.heap.size<=b->L b)
include hL
theorem eb (f:Fm) (x:Nat) {d:Nat} {gu:Option (Nat×Bool)} (hx:Dep md ops a0 l kA kS M w0 k o x (FormG L f)) (ho:ops[k]?=some o:=by rfl) (eo:o=⟨some d,.buildSlice 34 1 #[(0,.tmp x)],ty,pos,gK,gu⟩:=by rfl) (hw:Wt md ops a0 l kA kS M w0 k o:=by exact fun _ _ _ _=>rfl) (hp:e6 l k=FormsG L [f]:=by rfl):cz md ops Q a0 l kA kS M w0 k:=
 by subst eo;exact pj hw ho rfl (fun a γ w aO=>by
  obtain ⟨vx,ex,q,rfl,hq⟩:=hx a γ w aO;refine ⟨.slice (some ⟨w.heap.size,0,none⟩) 1 1,#[.int .u8 q.o,.string q.n,.slice q.a q.l q.c,.slice q.b q.m q.e],36,by simp only[FQ.val]at ex;go_simp,?_⟩;rw[hp];exact ⟨_,_,rfl,Kw (hq.move (jB _).holds) (okB.here hL aO.inv _) (aj rfl)⟩)
theorem rd (f f2:Fm) (x y:Nat) {d:Nat} {gu:Option (Nat×Bool)} (hx:Dep md ops a0 l kA kS M w0 k o x (FormG L f)) (hy:Dep md ops a0 l kA kS M w0 k o y (FormG L f2)) (ho:ops[k]?=some o:=by rfl) (eo:o=⟨some d,.buildSlice 34 2 #[(0,.tmp x),(1,.tmp y)],ty,pos,gK,gu⟩:=by rfl) (hw:Wt md ops a0 l kA kS M w0 k o:=by exact fun _ _ _ _=>rfl) (hp:e6 l k=FormsG L [f,f2]:=by rfl):cz md ops Q a0 l kA kS M w0 k:=
 by subst eo;exact pj hw ho rfl (fun a γ w aO=>by
  obtain ⟨vx,ex,q,rfl,hq⟩:=hx a γ w aO;obtain ⟨vy,ey,r,rfl,hr⟩:=hy a γ w aO;refine ⟨.slice (some ⟨w.heap.size,0,none⟩) 2 2,#[.int .u8 q.o,.string q.n,.slice q.a q.l q.c,.slice q.b q.m q.e,.int .u8 r.o,.string r.n,.slice r.a r.l r.c,.slice r.b r.m r.e],36,by simp only[FQ.val]at ex ey;go_simp,?_⟩;rw[hp];exact ⟨_,_,rfl,NL q r _ (aj rfl) (okB.here hL aO.inv _) (hq.move (jB _).holds) (hr.move (jB _).holds)⟩)
theorem km (f:Tm) (x:Nat) {d:Nat} {gu:Option (Nat×Bool)} (hx:Dep md ops a0 l kA kS M w0 k o x (TermG L f)) (ho:ops[k]?=some o:=by rfl) (eo:o=⟨some d,.buildSlice 33 1 #[(0,.tmp x)],ty,pos,gK,gu⟩:=by rfl) (hw:Wt md ops a0 l kA kS M w0 k o:=by exact fun _ _ _ _=>rfl) (hp:e6 l k=TermsG L [f]:=by rfl):cz md ops Q a0 l kA kS M w0 k:=
 by subst eo;exact pj hw ho rfl (fun a γ w aO=>by
  obtain ⟨vx,ex,q,rfl,hq⟩:=hx a γ w aO;refine ⟨.slice (some ⟨w.heap.size,0,none⟩) 1 1,#[.bool q.v,.string q.n,.slice q.a q.l q.c],43,by simp only[TQ.val]at ex;go_simp,?_⟩;rw[hp];exact ⟨_,_,rfl,TermsV.one 1 (hq.move (jB _).holds) (okB.here hL aO.inv _) (aj rfl)⟩)
theorem mD (f f2:Tm) (x y:Nat) {d:Nat} {gu:Option (Nat×Bool)} (hx:Dep md ops a0 l kA kS M w0 k o x (TermG L f)) (hy:Dep md ops a0 l kA kS M w0 k o y (TermG L f2)) (ho:ops[k]?=some o:=by rfl) (eo:o=⟨some d,.buildSlice 33 2 #[(0,.tmp x),(1,.tmp y)],ty,pos,gK,gu⟩:=by rfl) (hw:Wt md ops a0 l kA kS M w0 k o:=by exact fun _ _ _ _=>rfl) (hp:e6 l k=TermsG L [f,f2]:=by rfl):cz md ops Q a0 l kA kS M w0 k:=
 by subst eo;exact pj hw ho rfl (fun a γ w aO=>by
  obtain ⟨vx,ex,q,rfl,hq⟩:=hx a γ w aO;obtain ⟨vy,ey,r,rfl,hr⟩:=hy a γ w aO;refine ⟨.slice (some ⟨w.heap.size,0,none⟩) 2 2,#[.bool q.v,.string q.n,.slice q.a q.l q.c,.bool r.v,.string r.n,.slice r.a r.l r.c],43,by simp only[TQ.val]at ex ey;go_simp,?_⟩;rw[hp];exact ⟨_,_,rfl,DM q r _ (aj rfl) (okB.here hL aO.inv _) (hq.move (jB _).holds) (hr.move (jB _).holds)⟩)
theorem uW (f f2 h1 h2:Fm) (x y:Nat) {d:Nat} {gu:Option (Nat×Bool)} {o:Oper} (hx:Dep md ops a0 l kA kS M w0 k o x (L0 L f f2)) (hy:Dep md ops a0 l kA kS M w0 k o y (L0 L h1 h2)) (ho:ops[k]?=some o:=by rfl) (eo:o=⟨some d,.buildSlice 22 2 #[(0,.tmp x),(1,.tmp y)],ty,pos,gK,gu⟩:=by rfl) (hw:Wt md ops a0 l kA kS M w0 k o:=by exact fun _ _ _ _=>rfl) (hp:e6 l k=Ku L [(f,f2),(h1,h2)]:=by rfl):cz md ops Q a0 l kA kS M w0 k:=
 by subst eo;exact pj hw ho rfl (fun a γ w aO=>by
  obtain ⟨vx,ex,q,r,rfl,hq,hr⟩:=hx a γ w aO;obtain ⟨vy,ey,q2,r2,rfl,FJ,R2⟩:=hy a γ w aO;refine ⟨.slice (some ⟨w.heap.size,0,none⟩) 2 2,#[.int .u8 q.o,.string q.n,.slice q.a q.l q.c,.slice q.b q.m q.e,.int .u8 r.o,.string r.n,.slice r.a r.l r.c,.slice r.b r.m r.e,.int .u8 q2.o,.string q2.n,.slice q2.a q2.l q2.c,.slice q2.b q2.m q2.e,.int .u8 r2.o,.string r2.n,.slice r2.a r2.l r2.c,.slice r2.b r2.m r2.e],50,by go_simp,?_⟩;rw[hp];have hx:=aj (w:=w) (o:=.cells #[.int .u8 q.o,.string q.n,.slice q.a q.l q.c,.slice q.b q.m q.e,.int .u8 r.o,.string r.n,.slice r.a r.l r.c,.slice r.b r.m r.e,.int .u8 q2.o,.string q2.n,.slice q2.a q2.l q2.c,.slice q2.b q2.m q2.e,.int .u8 r2.o,.string r2.n,.slice r2.a r2.l r2.c,.slice r2.b r2.m r2.e] 50) rfl;have C:=fun i=>aH hx i;refine ⟨_,_,rfl,some ⟨w.heap.size,0,none⟩,2,fun j=>if j=0 then q else q2,fun j=>if j=0 then r else r2,rfl,aF _,.inr ⟨w.heap.size,0,rfl,okB.here hL aO.inv _,fun j hj=>?_⟩,fun j hj=>?_⟩
  ·rcases j with _ | _ | j
   ·exact ⟨(C 0).trans rfl,(C 1).trans rfl,(C 2).trans rfl,(C 3).trans rfl,(C 4).trans rfl,(C 5).trans rfl,(C 6).trans rfl,(C 7).trans rfl⟩
   ·exact ⟨(C 8).trans rfl,(C 9).trans rfl,(C 10).trans rfl,(C 11).trans rfl,(C 12).trans rfl,(C 13).trans rfl,(C 14).trans rfl,(C 15).trans rfl⟩
   ·simp at hj;omega
  ·rcases j with _ | _ | j
   ·exact ⟨hq.move (jB _).holds,hr.move (jB _).holds⟩
   ·exact ⟨FJ.move (jB _).holds,R2.move (jB _).holds⟩
   ·simp at hj;omega)
end
section
variable {ops:Array Oper} {Q:Exit->Act->World->Prop} {a0:Act} {l:List Fact} {kA kS k:Nat} {M:Nat->Prop} {w0:World} {md:Region.Mode} {L:Nat->Prop}
abbrev ptr (b:Nat):Value:=.pointer (some ⟨b,0,none⟩)
theorem Hw (n:Str) (f:Fm) (x:Nat) {d:Nat} {gu:Option (Nat×Bool)} (hL:∀ b,w0.heap.size<=b->L b) {o:Oper} (hx:Dep md ops a0 l kA kS M w0 k o x (ZW L n f)) (ho:ops[k]?=some o:=by rfl) (eo:o=⟨some d,.buildSlice 23 1 #[(0,.tmp x)],ty,pos,gK,gu⟩:=by rfl) (hw:Wt md ops a0 l kA kS M w0 k o:=by exact fun _ _ _ _=>rfl) (hp:e6 l k=Kv L [(n,f)]:=by rfl):cz md ops Q a0 l kA kS M w0 k:=
 by subst eo;exact pj hw ho rfl (fun a γ w aO=>by
  obtain ⟨vx,ex,q,rfl,hq⟩:=hx a γ w aO;refine ⟨.slice (some ⟨w.heap.size,0,none⟩) 1 1,#[.string ⟨n.toArray⟩,.int .u8 q.o,.string q.n,.slice q.a q.l q.c,.slice q.b q.m q.e],40,by go_simp,?_⟩;rw[hp];have hx:=aj (w:=w) (o:=.cells #[.string ⟨n.toArray⟩,.int .u8 q.o,.string q.n,.slice q.a q.l q.c,.slice q.b q.m q.e] 40) rfl;have C:=fun i=>aH hx i;refine ⟨_,_,rfl,some ⟨w.heap.size,0,none⟩,1,fun _=>q,rfl,aF _,.inr ⟨w.heap.size,0,rfl,okB.here hL aO.inv _,fun j hj=>?_⟩,fun j hj=>?_⟩
  ·obtain rfl:j=0:=by simpa using hj
   exact ⟨(C 0).trans rfl,(C 1).trans rfl,(C 2).trans rfl,(C 3).trans rfl,(C 4).trans rfl⟩
  ·obtain rfl:j=0:=by simpa using hj
   exact hq.move (jB _).holds)
theorem AH (n:Str) (f:Tm) (x:Nat) {d:Nat} {gu:Option (Nat×Bool)} (hL:∀ b,w0.heap.size<=b->L b) {o:Oper} (hx:Dep md ops a0 l kA kS M w0 k o x (TBG L n f)) (ho:ops[k]?=some o:=by rfl) (eo:o=⟨some d,.buildSlice 24 1 #[(0,.tmp x)],ty,pos,gK,gu⟩:=by rfl) (hw:Wt md ops a0 l kA kS M w0 k o:=by exact fun _ _ _ _=>rfl) (hp:e6 l k=TP L [(n,f)]:=by rfl):cz md ops Q a0 l kA kS M w0 k:=
 by subst eo;exact pj hw ho rfl (fun a γ w aO=>by
  obtain ⟨vx,ex,q,rfl,hq⟩:=hx a γ w aO;refine ⟨.slice (some ⟨w.heap.size,0,none⟩) 1 1,#[.string ⟨n.toArray⟩,.bool q.v,.string q.n,.slice q.a q.l q.c],47,by go_simp,?_⟩;rw[hp];have hx:=aj (w:=w) (o:=.cells #[.string ⟨n.toArray⟩,.bool q.v,.string q.n,.slice q.a q.l q.c] 47) rfl;have C:=fun i=>aH hx i;refine ⟨_,_,rfl,some ⟨w.heap.size,0,none⟩,1,fun _=>q,rfl,aF _,.inr ⟨w.heap.size,0,rfl,okB.here hL aO.inv _,fun j hj=>?_⟩,fun j hj=>?_⟩
  ·obtain rfl:j=0:=by simpa using hj
   exact ⟨(C 0).trans rfl,(C 1).trans rfl,(C 2).trans rfl,(C 3).trans rfl⟩
  ·obtain rfl:j=0:=by simpa using hj
   exact hq.move (jB _).holds)
theorem m4 (f f2:Fm) (x:Nat) (y:Nat) {d:Nat} {gu:Option (Nat×Bool)}  (hx:Dep md ops a0 l kA kS M w0 k o x (FormG L f)) (hy:Dep md ops a0 l kA kS M w0 k o y (FormG L f2)) (ho:ops[k]?=some o:=by rfl) (eo:o=⟨some d,.build 50 #[(0,.tmp x),(1,.tmp y)],ty,pos,gK,gu⟩:=by rfl) (hw:Wt md ops a0 l kA kS M w0 k o:=by exact fun _ _ _ _=>rfl) (hp:e6 l k=L0 L f f2:=by rfl):cz md ops Q a0 l kA kS M w0 k:=
 by subst eo;exact dC hw ho rfl (fun a γ w aO=>by
  obtain ⟨vx,ex,q,rfl,hq⟩:=hx a γ w aO;obtain ⟨vy,ey,r,rfl,hr⟩:=hy a γ w aO;exact ⟨.agg #[.int .u8 q.o,.string q.n,.slice q.a q.l q.c,.slice q.b q.m q.e,.int .u8 r.o,.string r.n,.slice r.a r.l r.c,.slice r.b r.m r.e],by simp only[FQ.val]at ex ey;go_simp,by rw[hp];exact ⟨q,r,rfl,hq,hr⟩⟩)
theorem Hx (n:Str) (f:Fm) (x:Nat) {d:Nat} {gu:Option (Nat×Bool)}  (hx:Dep md ops a0 l kA kS M w0 k o x (FormG L f)) (ho:ops[k]?=some o:=by rfl) (eo:o=⟨some d,.build 40 #[(0,.const (.string ⟨n.toArray⟩)),(1,.tmp x)],ty,pos,gK,gu⟩:=by rfl) (hw:Wt md ops a0 l kA kS M w0 k o:=by exact fun _ _ _ _=>rfl) (hp:e6 l k=ZW L n f:=by rfl):cz md ops Q a0 l kA kS M w0 k:=
 by subst eo;exact dC hw ho rfl (fun a γ w aO=>by
  obtain ⟨vx,ex,q,rfl,hq⟩:=hx a γ w aO;exact ⟨.agg #[.string ⟨n.toArray⟩,.int .u8 q.o,.string q.n,.slice q.a q.l q.c,.slice q.b q.m q.e],by simp only[FQ.val]at ex;go_simp,by rw[hp];exact ⟨q,rfl,hq⟩⟩)
theorem Q6 (n:Str) (f:Tm) (x:Nat) {d:Nat} {gu:Option (Nat×Bool)}  (hx:Dep md ops a0 l kA kS M w0 k o x (TermG L f)) (ho:ops[k]?=some o:=by rfl) (eo:o=⟨some d,.build 47 #[(0,.const (.string ⟨n.toArray⟩)),(1,.tmp x)],ty,pos,gK,gu⟩:=by rfl) (hw:Wt md ops a0 l kA kS M w0 k o:=by exact fun _ _ _ _=>rfl) (hp:e6 l k=TBG L n f:=by rfl):cz md ops Q a0 l kA kS M w0 k:=
 by subst eo;exact dC hw ho rfl (fun a γ w aO=>by
  obtain ⟨vx,ex,q,rfl,hq⟩:=hx a γ w aO;exact ⟨.agg #[.string ⟨n.toArray⟩,.bool q.v,.string q.n,.slice q.a q.l q.c],by simp only[TQ.val]at ex;go_simp,by rw[hp];exact ⟨q,rfl,hq⟩⟩)
theorem TS (fs:List (Str×Fm)) (ts:List (Str×Tm)) (x:Nat) (y:Nat) {d:Nat} {gu:Option (Nat×Bool)}  (hx:Dep md ops a0 l kA kS M w0 k o x (Kv L fs)) (hy:Dep md ops a0 l kA kS M w0 k o y (TP L ts)) (ho:ops[k]?=some o:=by rfl) (eo:o=⟨some d,.build 26 #[(0,.tmp x),(1,.tmp y)],ty,pos,gK,gu⟩:=by rfl) (hw:Wt md ops a0 l kA kS M w0 k o:=by exact fun _ _ _ _=>rfl) (hp:e6 l k=BindG L ⟨fs,ts⟩:=by rfl):cz md ops Q a0 l kA kS M w0 k:=
 by subst eo;exact dC hw ho rfl (fun a γ w aO=>by
  obtain ⟨vx,ex,ax,cx,rfl,hx⟩:=hx a γ w aO;obtain ⟨vy,ey,ay,cy,rfl,hy⟩:=hy a γ w aO;exact ⟨BQ.val ⟨ax,fs.length,cx,ay,ts.length,cy⟩,by simp only[BQ.val];go_simp,by rw[hp];exact ⟨⟨ax,fs.length,cx,ay,ts.length,cy⟩,rfl,hx,hy⟩⟩)
theorem uX   {d:Nat} {gu:Option (Nat×Bool)} (ho:ops[k]?=some o:=by rfl) (eo:o=⟨some d,.build 26 #[],ty,pos,gK,gu⟩:=by rfl) (hw:Wt md ops a0 l kA kS M w0 k o:=by exact fun _ _ _ _=>rfl) (hp:e6 l k=BindG L ⟨[],[]⟩:=by rfl):cz md ops Q a0 l kA kS M w0 k:=
 by subst eo;exact dC hw ho rfl (fun a γ w aO=>⟨BQ.val ⟨none,0,0,none,0,0⟩,by simp only[BQ.val];go_simp,by rw[hp];exact ⟨⟨none,0,0,none,0,0⟩,rfl,oq⟩⟩)
theorem cB (q:FQ) (f:Fm) (x:Nat) {d:Nat} {gu:Option (Nat×Bool)} {b:Nat} (hb:w0.heap[b]?=some (.cells #[.int .u8 q.o,.string q.n,.slice q.a q.l q.c,.slice q.b q.m q.e] 36 (0,0))) (hM:¬M b) (hv:FormV (Oy L M w0) w0 q.val f) (hx:Dep md ops a0 l kA kS M w0 k o x (fun v _ _=>v=ptr b)) (ho:ops[k]?=some o:=by rfl) (eo:o=⟨some d,.load 36 (.tmp x),ty,pos,gK,gu⟩:=by rfl) (hw:Wt md ops a0 l kA kS M w0 k o:=by exact fun _ _ _ _=>rfl) (hp:e6 l k=FormG L f:=by rfl):cz md ops Q a0 l kA kS M w0 k:=
 by subst eo;exact dC hw ho rfl (fun a γ w aO=>by
  obtain ⟨vx,ex,rfl⟩:=hx a γ w aO;have hk:=aO.inv.1;have C:=fun i v (h:w0.cell? ⟨b,i,none⟩=some v)=>hk.cell (a:=⟨b,i,none⟩) hM h;have c0:=C 0 _ (ah hb 0);have c1:=C 1 _ (ah hb 1);have c2:=C 2 _ (ah hb 2);have c3:=C 3 _ (ah hb 3);exact ⟨FQ.val q,by simp only[FQ.val];go_simp,by rw[hp];exact ⟨q,rfl,hv.move (okB.old aO.inv)⟩⟩)
theorem Q7 (q:TQ) (f:Tm) (x:Nat) {d:Nat} {gu:Option (Nat×Bool)} {b:Nat} (hb:w0.heap[b]?=some (.cells #[.bool q.v,.string q.n,.slice q.a q.l q.c] 43 (0,0))) (hM:¬M b) (hv:TermV (Oy L M w0) w0 q.val f) (hx:Dep md ops a0 l kA kS M w0 k o x (fun v _ _=>v=ptr b)) (ho:ops[k]?=some o:=by rfl) (eo:o=⟨some d,.load 43 (.tmp x),ty,pos,gK,gu⟩:=by rfl) (hw:Wt md ops a0 l kA kS M w0 k o:=by exact fun _ _ _ _=>rfl) (hp:e6 l k=TermG L f:=by rfl):cz md ops Q a0 l kA kS M w0 k:=
 by subst eo;exact dC hw ho rfl (fun a γ w aO=>by
  obtain ⟨vx,ex,rfl⟩:=hx a γ w aO;have hk:=aO.inv.1;have C:=fun i v (h:w0.cell? ⟨b,i,none⟩=some v)=>hk.cell (a:=⟨b,i,none⟩) hM h;have c0:=C 0 _ (ah hb 0);have c1:=C 1 _ (ah hb 1);have c2:=C 2 _ (ah hb 2);exact ⟨TQ.val q,by simp only[TQ.val];go_simp,by rw[hp];exact ⟨q,rfl,hv.move (okB.old aO.inv)⟩⟩)
theorem cZ (q:BQ) (f:Bd) (x:Nat) {d:Nat} {gu:Option (Nat×Bool)} {b:Nat} (hb:w0.heap[b]?=some (.cells #[.slice q.a q.l q.c,.slice q.b q.m q.e] 26 (0,0))) (hM:¬M b) (hv:BindV (Oy L M w0) w0 q f) (hx:Dep md ops a0 l kA kS M w0 k o x (fun v _ _=>v=ptr b)) (ho:ops[k]?=some o:=by rfl) (eo:o=⟨some d,.load 26 (.tmp x),ty,pos,gK,gu⟩:=by rfl) (hw:Wt md ops a0 l kA kS M w0 k o:=by exact fun _ _ _ _=>rfl) (hp:e6 l k=BindG L f:=by rfl):cz md ops Q a0 l kA kS M w0 k:=
 by subst eo;exact dC hw ho rfl (fun a γ w aO=>by
  obtain ⟨vx,ex,rfl⟩:=hx a γ w aO;have hk:=aO.inv.1;have C:=fun i v (h:w0.cell? ⟨b,i,none⟩=some v)=>hk.cell (a:=⟨b,i,none⟩) hM h;have c0:=C 0 _ (ah hb 0);have c1:=C 1 _ (ah hb 1);exact ⟨BQ.val q,by simp only[BQ.val];go_simp,by rw[hp];exact ⟨q,rfl,hv.move (okB.old aO.inv)⟩⟩)
theorem bP (F:Fact) (x:Nat) {d:Nat} {gu:Option (Nat×Bool)}  (hx:Dep md ops a0 l kA kS M w0 k o x (F.p)) (ho:ops[k]?=some o:=by rfl) (eo:o=⟨some d,.move (.tmp x),ty,pos,gK,gu⟩:=by rfl) (hw:Wt md ops a0 l kA kS M w0 k o:=by exact fun _ _ _ _=>rfl) (hp:e6 l k=F.p:=by rfl):cz md ops Q a0 l kA kS M w0 k:=
 by subst eo;exact dC hw ho rfl (fun a γ w aO=>by
  obtain ⟨vx,ex,hf⟩:=hx a γ w aO;exact ⟨vx,by go_simp,by rw[hp];exact hf⟩)
theorem bq (F:Fact) (x:Nat) {d:Nat} {gu:Option (Nat×Bool)}  (hx:Dep md ops a0 l kA kS M w0 k o x (F.p)) (ho:ops[k]?=some o:=by rfl) (eo:o=⟨some d,.assign (.tmp x),ty,pos,gK,gu⟩:=by rfl) (hw:Wt md ops a0 l kA kS M w0 k o:=by exact fun _ _ _ _=>rfl) (hp:e6 l k=F.p:=by rfl):cz md ops Q a0 l kA kS M w0 k:=
 by subst eo;exact dC hw ho rfl (fun a γ w aO=>by
  obtain ⟨vx,ex,hf⟩:=hx a γ w aO;exact ⟨vx,by go_simp,by rw[hp];exact hf⟩)
theorem ia (F:Fact) (r:List Value) (x:Nat) {d:Nat} {gu:Option (Nat×Bool)}  (hx:Dep md ops a0 l kA kS M w0 k o x ((iy F r).p)) (ho:ops[k]?=some o:=by rfl) (eo:o=⟨some d,.extract (.tmp x) 0,ty,pos,gK,gu⟩:=by rfl) (hw:Wt md ops a0 l kA kS M w0 k o:=by exact fun _ _ _ _=>rfl) (hp:e6 l k=F.p:=by rfl):cz md ops Q a0 l kA kS M w0 k:=
 by subst eo;exact dC hw ho rfl (fun a γ w aO=>by
  obtain ⟨vx,ex,u,rfl,hf⟩:=hx a γ w aO;exact ⟨u,by go_simp,by rw[hp];exact hf⟩)
theorem gY (F:Fact) (r:List Value) (i:Nat) (v:Value) (hv:r[i]?=some v) (x:Nat) {d:Nat} {gu:Option (Nat×Bool)}  (hx:Dep md ops a0 l kA kS M w0 k o x ((iy F r).p)) (ho:ops[k]?=some o:=by rfl) (eo:o=⟨some d,.extract (.tmp x) (i+1),ty,pos,gK,gu⟩:=by rfl) (hw:Wt md ops a0 l kA kS M w0 k o:=by exact fun _ _ _ _=>rfl) (hp:e6 l k=fun u _ _=>u=v:=by rfl):cz md ops Q a0 l kA kS M w0 k:=
 by subst eo;exact dC hw ho rfl (fun a γ w aO=>by
  obtain ⟨vx,ex,u,rfl,hf⟩:=hx a γ w aO;exact ⟨v,by go_simp,by rw[hp]⟩)
theorem gT (hk:k=kA)  {d:Nat} {gu:Option (Nat×Bool)} (ho:ops[k]?=some o:=by rfl) (eo:o=⟨some d,.alloc 36,ty,pos,gK,gu⟩:=by rfl) (hw:Wt md ops a0 l kA kS M w0 k o:=by exact fun _ _ _ _=>rfl) (hp:e6 l k=(mP #[.int .u8 0,.string ⟨#[]⟩,.slice none 0 0,.slice none 0 0] 36).p:=by rfl):cz md ops Q a0 l kA kS M w0 k:=
 by subst eo;exact dx ho rfl (fun _=>trivial) rfl (fun a γ w aO=>⟨hw a γ w aO,ptr w.heap.size,(some w.heap.size,false),w.alloc (.cells #[.int .u8 0,.string ⟨#[]⟩,.slice none 0 0,.slice none 0 0] 36),by go_simp,uj _ (aO.psi.1 hk),hk ▸ rv,by rw[hp];exact uk⟩)
theorem NM (hk:k=kA)  {d:Nat} {gu:Option (Nat×Bool)} (ho:ops[k]?=some o:=by rfl) (eo:o=⟨some d,.alloc 43,ty,pos,gK,gu⟩:=by rfl) (hw:Wt md ops a0 l kA kS M w0 k o:=by exact fun _ _ _ _=>rfl) (hp:e6 l k=(mP #[.bool false,.string ⟨#[]⟩,.slice none 0 0] 43).p:=by rfl):cz md ops Q a0 l kA kS M w0 k:=
 by subst eo;exact dx ho rfl (fun _=>trivial) rfl (fun a γ w aO=>⟨hw a γ w aO,ptr w.heap.size,(some w.heap.size,false),w.alloc (.cells #[.bool false,.string ⟨#[]⟩,.slice none 0 0] 43),by go_simp,uj _ (aO.psi.1 hk),hk ▸ rv,by rw[hp];exact uk⟩)
theorem ot (hk:k=kA)  {d:Nat} {gu:Option (Nat×Bool)} (ho:ops[k]?=some o:=by rfl) (eo:o=⟨some d,.alloc 26,ty,pos,gK,gu⟩:=by rfl) (hw:Wt md ops a0 l kA kS M w0 k o:=by exact fun _ _ _ _=>rfl) (hp:e6 l k=(mP #[.slice none 0 0,.slice none 0 0] 26).p:=by rfl):cz md ops Q a0 l kA kS M w0 k:=
 by subst eo;exact dx ho rfl (fun _=>trivial) rfl (fun a γ w aO=>⟨hw a γ w aO,ptr w.heap.size,(some w.heap.size,false),w.alloc (.cells #[.slice none 0 0,.slice none 0 0] 26),by go_simp,uj _ (aO.psi.1 hk),hk ▸ rv,by rw[hp];exact uk⟩)
theorem zbn {b:Nat} {a0 a1:Value} (h:W.heap[b]?=some (.cells #[a0,a1] T (0,0))):((W.setCell ⟨b,0,none⟩ v0).setCell ⟨b,1,none⟩ v1).heap[b]?=some (.cells #[v0,v1] T (0,0)):=by
 have h0:=bm (F:=0) h v0;exact (bm (F:=1) h0 v1).trans rfl
theorem L5 {b:Nat}:Kp (fun c=>c=b) W ((W.setCell ⟨b,0,none⟩ v0).setCell ⟨b,1,none⟩ v1):=
 ⟨rfl,rfl,rfl,by simp,fun c _ hc=>(d9 _ _ _ _ (by simpa using hc)).trans (d9 _ _ _ _ (by simpa using hc))⟩
theorem gU (f:Fm) (x:Nat) (y:Nat) {gu:Option (Nat×Bool)} (hk:k=kS) (hx:Dep md ops a0 l kA kS M w0 k o x (BoxG #[.int .u8 0,.string ⟨#[]⟩,.slice none 0 0,.slice none 0 0] 36)) (hy:Dep md ops a0 l kA kS M w0 k o y (FormG L f)) (ho:ops[k]?=some o:=by rfl) (eo:o=⟨none,.store 36 (.tmp x) (.tmp y),ty,pos,gK,gu⟩:=by rfl) (hw:Wt md ops a0 l kA kS M w0 k o:=by exact fun _ _ _ _=>rfl) (hp:e6 l k=(gL (aI L f) 36).p:=by rfl):cz md ops Q a0 l kA kS M w0 k:=
 by subst eo;exact jE ho (fun _=>trivial) rfl (fun a γ w aO=>by
  obtain ⟨vx,ex,b,rfl,hb1,bF,aJ⟩:=hx a γ w aO;obtain ⟨LY,Kr⟩:=γ;obtain rfl:Kr=false:=aO.psi.2 hk;obtain rfl:LY=some b:=hb1;have x:=aJ rfl;obtain ⟨vy,ey,q,rfl,hq⟩:=hy a (some b,false) w aO;have c0:=ah x 0;have d0:=ac x 0;have c1:=ah x 1;have d1:=ac x 1;have c2:=ah x 2;have d2:=ac x 2;have c3:=ah x 3;have d3:=ac x 3;have k6:=dI (W:=w) (b:=b) (v0:=.int .u8 q.o) (v1:=.string q.n) (v2:=.slice q.a q.l q.c) (v3:=.slice q.b q.m q.e);have x6:=lm (v0:=.int .u8 q.o) (v1:=.string q.n) (v2:=.slice q.a q.l q.c) (v3:=.slice q.b q.m q.e) x;refine ⟨hw a (some b,false) w aO,(some b,true),_,by simp only[FQ.val]at ey;go_simp,fM k6,hk ▸ kX,?_⟩;rw[hp];exact ⟨b,_,rfl,x6,⟨q,rfl,hq.move (fM k6).holds⟩⟩)
theorem NN (f:Tm) (x:Nat) (y:Nat) {gu:Option (Nat×Bool)} (hk:k=kS) (hx:Dep md ops a0 l kA kS M w0 k o x (BoxG #[.bool false,.string ⟨#[]⟩,.slice none 0 0] 43)) (hy:Dep md ops a0 l kA kS M w0 k o y (TermG L f)) (ho:ops[k]?=some o:=by rfl) (eo:o=⟨none,.store 43 (.tmp x) (.tmp y),ty,pos,gK,gu⟩:=by rfl) (hw:Wt md ops a0 l kA kS M w0 k o:=by exact fun _ _ _ _=>rfl) (hp:e6 l k=(gL (eq L f) 43).p:=by rfl):cz md ops Q a0 l kA kS M w0 k:=
 by subst eo;exact jE ho (fun _=>trivial) rfl (fun a γ w aO=>by
  obtain ⟨vx,ex,b,rfl,hb1,bF,aJ⟩:=hx a γ w aO;obtain ⟨LY,Kr⟩:=γ;obtain rfl:Kr=false:=aO.psi.2 hk;obtain rfl:LY=some b:=hb1;have x:=aJ rfl;obtain ⟨vy,ey,q,rfl,hq⟩:=hy a (some b,false) w aO;have c0:=ah x 0;have d0:=ac x 0;have c1:=ah x 1;have d1:=ac x 1;have c2:=ah x 2;have d2:=ac x 2;have k6:=eF (W:=w) (b:=b) (v0:=.bool q.v) (v1:=.string q.n) (v2:=.slice q.a q.l q.c);have x6:=qt (v0:=.bool q.v) (v1:=.string q.n) (v2:=.slice q.a q.l q.c) x;refine ⟨hw a (some b,false) w aO,(some b,true),_,by simp only[TQ.val]at ey;go_simp,fM k6,hk ▸ kX,?_⟩;rw[hp];exact ⟨b,_,rfl,x6,⟨q,rfl,hq.move (fM k6).holds⟩⟩)
theorem ov (f:Bd) (x:Nat) (y:Nat) {gu:Option (Nat×Bool)} (hk:k=kS) (hx:Dep md ops a0 l kA kS M w0 k o x (BoxG #[.slice none 0 0,.slice none 0 0] 26)) (hy:Dep md ops a0 l kA kS M w0 k o y (BindG L f)) (ho:ops[k]?=some o:=by rfl) (eo:o=⟨none,.store 26 (.tmp x) (.tmp y),ty,pos,gK,gu⟩:=by rfl) (hw:Wt md ops a0 l kA kS M w0 k o:=by exact fun _ _ _ _=>rfl) (hp:e6 l k=(gL (bG L f) 26).p:=by rfl):cz md ops Q a0 l kA kS M w0 k:=
 by subst eo;exact jE ho (fun _=>trivial) rfl (fun a γ w aO=>by
  obtain ⟨vx,ex,b,rfl,hb1,bF,aJ⟩:=hx a γ w aO;obtain ⟨LY,Kr⟩:=γ;obtain rfl:Kr=false:=aO.psi.2 hk;obtain rfl:LY=some b:=hb1;have x:=aJ rfl;obtain ⟨vy,ey,q,rfl,hq⟩:=hy a (some b,false) w aO;have c0:=ah x 0;have d0:=ac x 0;have c1:=ah x 1;have d1:=ac x 1;have k6:=L5 (W:=w) (b:=b) (v0:=.slice q.a q.l q.c) (v1:=.slice q.b q.m q.e);have x6:=zbn (v0:=.slice q.a q.l q.c) (v1:=.slice q.b q.m q.e) x;refine ⟨hw a (some b,false) w aO,(some b,true),_,by simp only[BQ.val]at ey;go_simp,fM k6,hk ▸ kX,?_⟩;rw[hp];exact ⟨b,_,rfl,x6,⟨q,rfl,hq.move (fM k6).holds⟩⟩)
theorem pk (f:Fm) (x:Nat) (y:Nat) {gu:Option (Nat×Bool)} (hk:k=kS) {b:Nat} {z2 z3:Value} (R9:w0.heap[b]?=some (.cells #[z0,z1,z2,z3] 36 (0,0))) (hMb:M b) (hx:Dep md ops a0 l kA kS M w0 k o x (fun v _ _=>v=ptr b)) (hy:Dep md ops a0 l kA kS M w0 k o y (FormG L f)) (ho:ops[k]?=some o:=by rfl) (eo:o=⟨none,.store 36 (.tmp x) (.tmp y),ty,pos,gK,gu⟩:=by rfl) (hw:Wt md ops a0 l kA kS M w0 k o:=by exact fun _ _ _ _=>rfl) (hp:e6 l k=(gL (aI L f) 36).p:=by rfl):cz md ops Q a0 l kA kS M w0 k:=
 by subst eo;exact jE ho (fun _=>trivial) rfl (fun a γ w aO=>by
  obtain ⟨vx,ex,rfl⟩:=hx a γ w aO;obtain ⟨LY,Kr⟩:=γ;obtain rfl:Kr=false:=aO.psi.2 hk;obtain rfl:LY=some b:=(aO.inv.2.2 b hMb).1;have x:=((aO.inv.2.2 b hMb).2 rfl).trans R9;obtain ⟨vy,ey,q,rfl,hq⟩:=hy a (some b,false) w aO;have c0:=ah x 0;have d0:=ac x 0;have c1:=ah x 1;have d1:=ac x 1;have c2:=ah x 2;have d2:=ac x 2;have c3:=ah x 3;have d3:=ac x 3;have k6:=dI (W:=w) (b:=b) (v0:=.int .u8 q.o) (v1:=.string q.n) (v2:=.slice q.a q.l q.c) (v3:=.slice q.b q.m q.e);have x6:=lm (v0:=.int .u8 q.o) (v1:=.string q.n) (v2:=.slice q.a q.l q.c) (v3:=.slice q.b q.m q.e) x;refine ⟨hw a (some b,false) w aO,(some b,true),_,by simp only[FQ.val]at ey;go_simp,fM k6,hk ▸ kX,?_⟩;rw[hp];exact ⟨b,_,rfl,x6,⟨q,rfl,hq.move (fM k6).holds⟩⟩)
theorem Kx (f:Bd) (x:Nat) (y:Nat) {gu:Option (Nat×Bool)} (hk:k=kS) {b:Nat} (R9:w0.heap[b]?=some (.cells #[z0,z1] 26 (0,0))) (hMb:M b) (hx:Dep md ops a0 l kA kS M w0 k o x (fun v _ _=>v=ptr b)) (hy:Dep md ops a0 l kA kS M w0 k o y (BindG L f)) (ho:ops[k]?=some o:=by rfl) (eo:o=⟨none,.store 26 (.tmp x) (.tmp y),ty,pos,gK,gu⟩:=by rfl) (hw:Wt md ops a0 l kA kS M w0 k o:=by exact fun _ _ _ _=>rfl) (hp:e6 l k=(gL (bG L f) 26).p:=by rfl):cz md ops Q a0 l kA kS M w0 k:=
 by subst eo;exact jE ho (fun _=>trivial) rfl (fun a γ w aO=>by
  obtain ⟨vx,ex,rfl⟩:=hx a γ w aO;obtain ⟨LY,Kr⟩:=γ;obtain rfl:Kr=false:=aO.psi.2 hk;obtain rfl:LY=some b:=(aO.inv.2.2 b hMb).1;have x:=((aO.inv.2.2 b hMb).2 rfl).trans R9;obtain ⟨vy,ey,q,rfl,hq⟩:=hy a (some b,false) w aO;have c0:=ah x 0;have d0:=ac x 0;have c1:=ah x 1;have d1:=ac x 1;have k6:=L5 (W:=w) (b:=b) (v0:=.slice q.a q.l q.c) (v1:=.slice q.b q.m q.e);have x6:=zbn (v0:=.slice q.a q.l q.c) (v1:=.slice q.b q.m q.e) x;refine ⟨hw a (some b,false) w aO,(some b,true),_,by simp only[BQ.val]at ey;go_simp,fM k6,hk ▸ kX,?_⟩;rw[hp];exact ⟨b,_,rfl,x6,⟨q,rfl,hq.move (fM k6).holds⟩⟩)
theorem th {d:Nat} (ho:ops[k]?=some o) (r:Value) (m7:∀ (a:Act) (w:World),(execOp a.eval o).run Tryz.prog w=.ok (.value r) w) (hd:o.dst=some d:=by rfl) (hw:Wt md ops a0 l kA kS M w0 k o:=by exact fun _ _ _ _=>rfl) (hp:e6 l k=(aE r).p:=by rfl):cz md ops Q a0 l kA kS M w0 k:=
 dC hw ho hd (fun a _ w _=>⟨r,m7 a w,by rw[hp];rfl⟩)
theorem Yo {d:Nat} (ho:ops[k]?=some o) (x:Nat) (u r:Value) (hx:Dep md ops a0 l kA kS M w0 k o x (fun v _ _=>v=u)) (m7:∀ (a:Act) (w:World),a.tmps[x]?=some u->a.tmps.getD x undef=u->(execOp a.eval o).run Tryz.prog w=.ok (.value r) w) (hd:o.dst=some d:=by rfl) (hw:Wt md ops a0 l kA kS M w0 k o:=by exact fun _ _ _ _=>rfl) (hp:e6 l k=(aE r).p:=by rfl):cz md ops Q a0 l kA kS M w0 k:=
 dC hw ho hd (fun a γ w aO=>by
  obtain ⟨v,h1,rfl⟩:=hx a γ w aO;exact ⟨r,m7 a w h1 (aG h1),by rw[hp];rfl⟩)
theorem Yp {d:Nat} (ho:ops[k]?=some o) (x y:Nat) (u u2 r:Value) (hx:Dep md ops a0 l kA kS M w0 k o x (fun v _ _=>v=u)) (hy:Dep md ops a0 l kA kS M w0 k o y (fun v _ _=>v=u2)) (m7:∀ (a:Act) (w:World),a.tmps[x]?=some u->a.tmps.getD x undef=u->a.tmps[y]?=some u2->a.tmps.getD y undef=u2->(execOp a.eval o).run Tryz.prog w=.ok (.value r) w) (hd:o.dst=some d:=by rfl) (hw:Wt md ops a0 l kA kS M w0 k o:=by exact fun _ _ _ _=>rfl) (hp:e6 l k=(aE r).p:=by rfl):cz md ops Q a0 l kA kS M w0 k:=
 dC hw ho hd (fun a γ w aO=>by
  obtain ⟨v,h1,rfl⟩:=hx a γ w aO;obtain ⟨v2,h2,rfl⟩:=hy a γ w aO;exact ⟨r,m7 a w h1 (aG h1) h2 (aG h2),by rw[hp];rfl⟩)
theorem f9 {d:Nat} (ho:ops[k]?=some o) (x:Nat) (r:Value) (hx:Dep md ops a0 l kA kS M w0 k o x (fun v _ _=>v=u)) (m7:∀ (a:Act) (w:World),a.tmps[x]?=some u->a.tmps.getD x undef=u->(execOp a.eval o).run Tryz.prog w=.ok (.value r) w:=by intro _ _ _ _;go_simp) (hd:o.dst=some d:=by rfl) (hw:Wt md ops a0 l kA kS M w0 k o:=by exact fun _ _ _ _=>rfl) (hp:e6 l k=(aE r).p:=by rfl):cz md ops Q a0 l kA kS M w0 k:=
 Yo ho x u r hx m7 hd hw hp
theorem lA {d:Nat} (ho:ops[k]?=some o) (x y:Nat) (r:Value) {u2:Value} (hx:Dep md ops a0 l kA kS M w0 k o x (fun v _ _=>v=u)) (hy:Dep md ops a0 l kA kS M w0 k o y (fun v _ _=>v=u2)) (m7:∀ (a:Act) (w:World),a.tmps[x]?=some u->a.tmps.getD x undef=u->a.tmps[y]?=some u2->a.tmps.getD y undef=u2->(execOp a.eval o).run Tryz.prog w=.ok (.value r) w:=by intro _ _ _ _ _ _;go_simp) (hd:o.dst=some d:=by rfl) (hw:Wt md ops a0 l kA kS M w0 k o:=by exact fun _ _ _ _=>rfl) (hp:e6 l k=(aE r).p:=by rfl):cz md ops Q a0 l kA kS M w0 k:=
 Yp ho x y u u2 r hx hy m7 hd hw hp
end
end
def okS (L:Nat->Prop) (w:World) (b:Nat):Prop:=L b/\b<w.heap.size
structure LF (L:Nat->Prop) (a:Act) (w:World) (d b:Nat) (q:FQ) (f:Fm):Prop where
 slot:a.tmps[d]?=some (ptr b)
 box:w.heap[b]?=some (.cells #[.int .u8 q.o,.string q.n,.slice q.a q.l q.c,.slice q.b q.m q.e] 36 (0,0))
 val:FormV (okS L w) w q.val f
structure LT (L:Nat->Prop) (a:Act) (w:World) (d b:Nat) (q:TQ) (f:Tm):Prop where
 slot:a.tmps[d]?=some (ptr b)
 box:w.heap[b]?=some (.cells #[.bool q.v,.string q.n,.slice q.a q.l q.c] 43 (0,0))
 val:TermV (okS L w) w q.val f
structure LB (L:Nat->Prop) (a:Act) (w:World) (d b:Nat) (q:BQ) (f:Bd):Prop where
 slot:a.tmps[d]?=some (ptr b)
 box:w.heap[b]?=some (.cells #[.slice q.a q.l q.c,.slice q.b q.m q.e] 26 (0,0))
 val:BindV (okS L w) w q f
variable {L L' M:Nat->Prop} {a a':Act} {w w':World} {d b:Nat}
theorem okS.next (hk:Kp M w w') (hM:∀ c,L c->¬M c) (hL:∀ c,L c->c<w.heap.size->L' c):gC (okS L w) (okS L' w') w w':=fun c h hlt=>⟨⟨hL c h.1 hlt,bN hlt hk.size⟩,hk.same c hlt (hM c h.1)⟩
theorem LF.next (h:LF L a w d b q f) (hs:a'.tmps[d]?=a.tmps[d]?) (hk:Kp M w w') (hb:¬M b) (hM:∀ c,L c->¬M c) (hL:∀ c,L c->c<w.heap.size->L' c):LF L' a' w' d b q f:=
 ⟨hs.trans h.slot,(hk.same _ (bn h.box) hb).trans h.box,h.val.move (okS.next hk hM hL)⟩
theorem LT.next {q:TQ} {f:Tm} (h:LT L a w d b q f) (hs:a'.tmps[d]?=a.tmps[d]?) (hk:Kp M w w') (hb:¬M b) (hM:∀ c,L c->¬M c) (hL:∀ c,L c->c<w.heap.size->L' c):LT L' a' w' d b q f:=
 ⟨hs.trans h.slot,(hk.same _ (bn h.box) hb).trans h.box,h.val.move (okS.next hk hM hL)⟩
theorem LB.next {q:BQ} {f:Bd} (h:LB L a w d b q f) (hs:a'.tmps[d]?=a.tmps[d]?) (hk:Kp M w w') (hb:¬M b) (hM:∀ c,L c->¬M c) (hL:∀ c,L c->c<w.heap.size->L' c):LB L' a' w' d b q f:=
 ⟨hs.trans h.slot,(hk.same _ (bn h.box) hb).trans h.box,h.val.move (okS.next hk hM hL)⟩
theorem LF.nx (h:LF L a w d b q f) (hs:a'.tmps[d]?=a.tmps[d]?) (hk:Kp M w w') (hM:∀ c,L c->¬M c) (hb:¬M b:=by exact fun h=>h):LF L a' w' d b q f:=h.next hs hk hb hM (fun _ h _=>h)
theorem LT.nx {q:TQ} {f:Tm} (h:LT L a w d b q f) (hs:a'.tmps[d]?=a.tmps[d]?) (hk:Kp M w w') (hM:∀ c,L c->¬M c) (hb:¬M b:=by exact fun h=>h):LT L a' w' d b q f:=h.next hs hk hb hM (fun _ h _=>h)
theorem LB.nx {q:BQ} {f:Bd} (h:LB L a w d b q f) (hs:a'.tmps[d]?=a.tmps[d]?) (hk:Kp M w w') (hM:∀ c,L c->¬M c) (hb:¬M b:=by exact fun h=>h):LB L a' w' d b q f:=h.next hs hk hb hM (fun _ h _=>h)
theorem okS.at (hM:∀ c,L c->¬M c):gC (okS L w) (Oy L M w) w w:=fun c h _=>⟨⟨h.1,h.2,hM c h.1⟩,rfl⟩
theorem LF.at (h:LF L a w d b q f) (hM:∀ c,L c->¬M c):FormV (Oy L M w) w q.val f:=h.val.move (okS.at hM)
theorem LT.at {q:TQ} {f:Tm} (h:LT L a w d b q f) (hM:∀ c,L c->¬M c):TermV (Oy L M w) w q.val f:=h.val.move (okS.at hM)
theorem LB.at {q:BQ} {f:Bd} (h:LB L a w d b q f) (hM:∀ c,L c->¬M c):BindV (Oy L M w) w q f:=h.val.move (okS.at hM)
theorem LF.drew (h:LF L a w d b q f):LF L a w.drew d b q f:=⟨h.slot,h.box,h.val.move (show gC (okS L w) (okS L w.drew) w w.drew from fun _ h _=>⟨h,rfl⟩)⟩
theorem LT.drew {q:TQ} {f:Tm} (h:LT L a w d b q f):LT L a w.drew d b q f:=⟨h.slot,h.box,h.val.move (show gC (okS L w) (okS L w.drew) w w.drew from fun _ h _=>⟨h,rfl⟩)⟩
theorem LB.drew {q:BQ} {f:Bd} (h:LB L a w d b q f):LB L a w.drew d b q f:=⟨h.slot,h.box,h.val.move (show gC (okS L w) (okS L w.drew) w w.drew from fun _ h _=>⟨h,rfl⟩)⟩
section
variable {ops:Array Oper} {Q:Exit->Act->World->Prop} {a0:Act} {id sz:Nat}
abbrev bQ:Nat->Prop:=fun _=>False
abbrev pt (b:Nat):Nat->Prop:=fun c=>c=b
theorem Q8 (w:World):IG bQ w (none,false) w:=⟨Kp.refl _,(fun _ h=>by cases h),fun _ h=>h.elim⟩
theorem Q9 {w:World} {b:Nat} (h:b<w.heap.size):IG (pt b) w (some b,false) w:=⟨Kp.refl _,(fun c e=>by cases e;exact ⟨.inr rfl,h⟩),fun c hc=>by
 have:c=b:=hc;subst this;exact ⟨rfl,fun _=>rfl⟩⟩
abbrev E_ (ops:Array Oper) (a0:Act) (F:List Fact) (kA kS:Nat) (M:Nat->Prop) (w0:World) (a:Act) (γ:Bx) (w:World):Prop:=DagAt (e6 F) (PsB kA kS) (IG M w0) ops a0 (Array.replicate ops.size true) a γ w
theorem iz (F:List Fact) (kA kS:Nat) (hsz:a0.tmps.size=sz) (hd:I0 ops sz=true) (hm:(Tryz.prog.follows .mixedOrders && ops.toList.all me)=true) (cV:∀ k,k<ops.size->cz .any ops (NP Q) a0 F kA kS bQ w.drew k)
  (hQ:∀ a γ w',E_ ops a0 F kA kS bQ w.drew a γ w'->Q .normal a w'):(Code.region id ops true).wpIn Fence.wide 3 Tryz.prog Q a0 w:=
 lj _ _ _ Gr (none,false) hm hsz hd (Q8 _) (fun _ _=>⟨fun _=>rfl,fun _=>rfl⟩) (fun _ _ _ _ hG h=>h.step hG) (uT F) cV hQ
theorem aY (F:List Fact) (kA kS:Nat) (hsz:a0.tmps.size=sz) (hd:I0 ops sz=true) (cV:∀ k,k<ops.size->cz .any ops Q a0 F kA kS bQ w k)
  (hQ:∀ a γ w',E_ ops a0 F kA kS bQ w a γ w'->Q .normal a w'):(Code.region id ops false).wpIn Fence.wide 3 Tryz.prog Q a0 w:=
 nL _ _ _ Gr (none,false) hsz hd (Q8 _) (fun _ _=>⟨fun _=>rfl,fun _=>rfl⟩) (fun _ _ _ _ hG h=>h.step hG) (uT F) cV hQ
theorem Fa {b:Nat} (hb:b<w.heap.size) (F:List Fact) (kS:Nat) (hsz:a0.tmps.size=sz) (hd:I0 ops sz=true) (hm:(Tryz.prog.follows .mixedOrders && ops.toList.all me)=true) (cV:∀ k,k<ops.size->cz .any ops (NP Q) a0 F ops.size kS (pt b) w.drew k)
  (hQ:∀ a γ w',E_ ops a0 F ops.size kS (pt b) w.drew a γ w'->Q .normal a w'):(Code.region id ops true).wpIn Fence.wide 3 Tryz.prog Q a0 w:=
 lj _ _ _ Gr (some b,false) hm hsz hd (Q9 hb) (fun _ hk=>⟨fun e=>absurd hk (by omega),fun _=>rfl⟩) (fun _ _ _ _ hG h=>h.step hG) (uT F) cV hQ
theorem eH {b:Nat} (hb:b<w.heap.size) (F:List Fact) (kS:Nat) (hsz:a0.tmps.size=sz) (hd:I0 ops sz=true) (cV:∀ k,k<ops.size->cz .any ops Q a0 F ops.size kS (pt b) w k)
  (hQ:∀ a γ w',E_ ops a0 F ops.size kS (pt b) w a γ w'->Q .normal a w'):(Code.region id ops false).wpIn Fence.wide 3 Tryz.prog Q a0 w:=
 nL _ _ _ Gr (some b,false) hsz hd (Q9 hb) (fun _ hk=>⟨fun e=>absurd hk (by omega),fun _=>rfl⟩) (fun _ _ _ _ hG h=>h.step hG) (uT F) cV hQ
theorem nA (hs:a.tmps[d]?=some v) (hv:(mP z T).p v γ w) (hf:(gL (aI L f) 36).p undef γ w) (hI:IG bQ w' γ w):∃b q,LF (fun c=>L c/\c≠b) a w d b q f/\w'.heap.size<=b:=by
 have pp261a:=();exact pm261
theorem Yq {f:Tm} (hs:a.tmps[d]?=some v) (hv:(mP z T).p v γ w) (hf:(gL (eq L f) 43).p undef γ w) (hI:IG bQ w' γ w):∃b q,LT (fun c=>L c/\c≠b) a w d b q f/\w'.heap.size<=b:=by
 have pp261b:=();exact pm261
theorem AI {f:Bd} (hs:a.tmps[d]?=some v) (hv:(mP z T).p v γ w) (hf:(gL (bG L f) 26).p undef γ w) (hI:IG bQ w' γ w):∃b q,LB (fun c=>L c/\c≠b) a w d b q f/\w'.heap.size<=b:=by
 exact pm261
theorem yL {b:Nat} (hs:a.tmps[d]?=some (ptr b)) (hf:(gL (aI L f) 36).p undef γ w) (hI:IG (pt b) w' γ w):∃q,LF L a w d b q f:=by
 obtain ⟨b',cs,rfl,h3,q,hq,h4⟩:=hf;cases (hI.2.2 b rfl).1;simp only[FQ.val,cA]at hq;subst hq;exact ⟨q,hs,h3,h4.move (fun c hc _=>⟨⟨hc.1,hc.2.1⟩,rfl⟩)⟩
theorem rE {f:Bd} {b:Nat} (hs:a.tmps[d]?=some (ptr b)) (hf:(gL (bG L f) 26).p undef γ w) (hI:IG (pt b) w' γ w):∃q,LB L a w d b q f:=by
 obtain ⟨b',cs,rfl,h3,q,hq,h4⟩:=hf;cases (hI.2.2 b rfl).1;simp only[BQ.val,cA]at hq;subst hq;exact ⟨q,hs,h3,h4.move (fun c hc _=>⟨⟨hc.1,hc.2.1⟩,rfl⟩)⟩
