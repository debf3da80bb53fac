/-
'Match' of package match.
-/
import Derived.Test.YtokemihbkeddoaaGreatDoorU17
namespace Go.Proofs.YtokemihbkeddoaaGreatDoor
open Go Go.RowKit Lib
set_option maxRecDepth 100000
set_option maxHeartbeats 64000000
variable {o oj:Oper} {p:Value->Bx->World->Prop} {v v0 v1 z0 z1 u:Value} {γ:Bx} {ok:Nat->Prop} {c:Nat} {jf:Array TypeId} {ty T:TypeId} {pos:String} {cU:Array Edge} {W Wb:World} {f:Fm} {q:FQ} {z:Array Value}
section
attribute [local go_sem] Oper.semAt_some
theorem NT (W0:World) (s f:Fm) (b:Bd) (hs:fitF s) (hf:fitF f) (hb:BdFit b) (ok MZ ok3:Nat->Prop) (w:World) (p r:FQ) (q:BQ) (ht:Tabs W0 w) (hp:FormV ok w p.val s) (hr:FormV MZ w r.val f) (xz:BindV ok3 w q b) :
  Calls Tryz.prog 20 #[p.val,r.val,q.val] w fun e w'=>(∃x:BQ,e=.returned (.tuple #[x.val,.int .i64 (cg [(s,f)] b).2.2])/\BindV (w.heap.size<=·) w' x (cg [(s,f)] b).1)/\Below w.heap.size w w':=by
 obtain ⟨R,hR⟩:=am (cg [(s,f)] b);rw[<-hR];obtain ⟨a0,a1,a2,a3,a4,a5,a6,a7⟩:=p;obtain ⟨b0,b1,b2,b3,b4,b5,b6,b7⟩:=r;obtain ⟨qa,ql,qc,qb,qm,qe⟩:=q;obtain ⟨W4,xH⟩:=am ((((w.alloc (.cells #[.int .u8 a0,.string a1,.slice a2 a3 a4,.slice a5 a6 a7] 36)).alloc (.cells #[.int .u8 b0,.string b1,.slice b2 b3 b4,.slice b5 b6 b7] 36)).alloc (.cells #[.slice qa ql qc,.slice qb qm qe] 26)).alloc (.cells #[.slice none 0 0,.slice none 0 0] 26));have aO:=Sc xH;have pR:=VG xH;have x0:=OD xH;have x1:=Ua xH;have x2:=Ub xH;have x3:=OE xH;obtain ⟨W5,fv⟩:=am (W4.alloc (.cells #[.int .u8 a0,.string a1,.slice a2 a3 a4,.slice a5 a6 a7,.int .u8 b0,.string b1,.slice b2 b3 b4,.slice b5 b6 b7] 50));have bm:=cV fv;have x5:=bU fv;have NU:=aO.tr bm;have mK:SPairsV (fun _=>True) W5 (.slice (some ⟨W4.heap.size,0,none⟩) [(s,f)].length 1) [(s,f)]:=by
  refine ⟨_,1,fun _=>⟨a0,a1,a2,a3,a4,a5,a6,a7⟩,fun _=>⟨b0,b1,b2,b3,b4,b5,b6,b7⟩,rfl,aD _,.inr ⟨_,0,rfl,trivial,fun j hj=>?_⟩,fun j hj=>?_⟩
  ·obtain rfl:j=0:=by simp at hj;omega
   exact ⟨ah x5 0,ah x5 1,ah x5 2,ah x5 3,ah x5 4,ah x5 5,ah x5 6,ah x5 7⟩
  ·obtain rfl:j=0:=by simp at hj;omega
   exact ⟨(hp.later NU).any,(hr.later NU).any⟩
 have CM:=yD W0 [(s,f)] b (by simp) (fun x hx=>by simp at hx;subst hx;exact ⟨hs,hf⟩) hb _ W5 _ 1 ⟨qa,ql,qc,qb,qm,qe⟩ (ht.next NU) mK (xz.move (wC NU));rw[<-hR]at CM;simp only[BQ.val,eR,List.length_nil,Nat.zero_add]at CM;obtain ⟨HC,HW4,sJ⟩:=cH CM xH fv;have x35:=bJ bm x3;have H5:=cG NU x35 pR bm.size;obtain ⟨e0,e1,e2,e3,_,_,_,_⟩:=dy x0;obtain ⟨f0,f1,f2,f3,_,_,_,_⟩:=dy x1;obtain ⟨g0,g1,_,_⟩:=tN (bJ bm x2);rw[fv]at g0 g1;clear hp hr xz ht hb hs hf aO pR x0 x1 x2 x3 x5 bm NU mK CM hR xH fv x35;simp only[FQ.val,BQ.val];go_enter Tryz.func20,Tryz.ntmps20;go_upto_region 1 with fail;rw[<-HW4.o];go_upto_region 2 with (rw[<-sJ.o];go_at_call 15;refine HC.o.mono ?_;rintro e w6 ⟨⟨⟨p0,p1,p2,p3,p4,p5⟩,rfl,Kc⟩,da⟩;have H6:=aG da Kc;clear da Kc);obtain ⟨W7,LM⟩:=am (w6.alloc (.cells #[.slice p0 p1 p2,.slice p3 p4 p5] 26));rw[<-LM];have X6:=cV LM;have x7:=bU LM;have KG:=H6.o.1.tr X6;have x37:=bJ KG H5.o.2.1;obtain ⟨y0,y1,z0,z1⟩:=tN x37;obtain ⟨v0,v1,_,_⟩:=tN x7;have H7:=bF x37 (H5.o.1.tr KG) (H6.o.2.move (dw X6));have HX:=aG (bz H5.o.2.1) H5.o.1.size;clear e0 e1 e2 e3 f0 f1 f2 f3 g0 g1 LM X6 x7 KG x37;go_wp2;obtain ⟨W8,l8,x8,k8,s0,s1⟩:=Dv H7.o.1 (.slice p0 p1 p2) (.slice p3 p4 p5);rw[<-l8];refine bI (v:=.tuple #[BQ.val ⟨p0,p1,p2,p3,p4,p5⟩,.int .i64 R.2.2]) (by simp[BQ.val,results,Tryz.results20,go_sem,s0,s1]) rfl ⟨⟨⟨p0,p1,p2,p3,p4,p5⟩,rfl,H7.o.2.2.move (fun b hb hlt=>⟨aU HX.o.2 hb,k8.same b hlt (by have:=HX.o.1;omega)⟩)⟩,Below.kp1 H7.o.2.1 k8 (by omega)⟩
end
theorem vQ {α:Type} {l m:List α} {k:Nat} (h:l.take k=m.take k) (hl:k<l.length) (hm:k<m.length) (he:l[k]=m[k]):l.take (k+1)=m.take (k+1):=by
 rw[nV hl,nV hm,h,he]
def Mb (l:List Tm):Prop:=∀ (m:List Tm) (ok ok':Nat->Prop) (w:World) (a:Option Addr) (n c:Nat) (a':Option Addr) (n' c':Nat),fitTs l->TermsV ok w (.slice a n c) l->TermsV ok' w (.slice a' n' c') m →
 Calls Tryz.prog 19 #[.slice a n c,.slice a' n' c'] w fun e w'=>e=.returned (.bool (jl l m))/\Below w.heap.size w w'
theorem IP (l:List Tm) (ih:∀ t∈l,Mb t.a):Mb l:=by
 have pp266:=();exact pm266
theorem NV:∀ t:Tm,Mb t.a:=by
 intro t
 induction t using Tm.ind with
 | h v n a ih=>exact IP a ih
theorem nP (l:List Tm):Mb l:=IP l (fun t _=>NV t)
def Vf (t:Fm):Prop:=∀ (u:Fm) (ok ok':Nat->Prop) (w:World) (p q:FQ),fitF t->FormV ok w p.val t->FormV ok' w q.val u →
 Calls Tryz.prog 17 #[p.val,q.val] w fun e w'=>e=.returned (.bool (yL t u))/\Below w.heap.size w w'
def za4 (l:List Fm):Prop:=∀ (m:List Fm) (ok ok':Nat->Prop) (w:World) (a:Option Addr) (n c:Nat) (a':Option Addr) (n' c':Nat),fitFs l->FormsV ok w (.slice a n c) l->FormsV ok' w (.slice a' n' c') m →
 Calls Tryz.prog 52 #[.slice a n c,.slice a' n' c'] w fun e w'=>e=.returned (.bool (nY l m))/\Below w.heap.size w w'
theorem Rb (l:List Fm) (ih:∀ t∈l,Vf t):za4 l:=by
 exact pm266
theorem IQ:∀ t:Fm,Vf t:=by
 intro t
 induction t using Fm.ind with
 | h o n a s ih=>
  intro u ok ok' w p q hfit hp hq;obtain ⟨o',n',a',s'⟩:=u;obtain ⟨po,pn,pa,pl,pc,pb,pm,pe⟩:=p;obtain ⟨qo,qn,qa,ql,qc,qb,qm,qe⟩:=q;obtain ⟨sa,ss,hs,bL,eo⟩:=aT.1 hp;obtain ⟨sa',ss',Sd,Rc,Rd⟩:=aT.1 hq;unfold FQ.val at hs Sd;simp only[cF,Array.mk.injEq,b_,and_true,Value.int.injEq,true_and,Value.string.injEq]at hs Sd;obtain ⟨rfl,rfl,rfl,rfl⟩:=hs;obtain ⟨rfl,rfl,rfl,rfl⟩:=Sd;have CT:=ac (fun (W:World) (hb:Below w.heap.size w W)=>nP a a' ok ok' W pa pl pc qa ql qc hfit.args (bL.later hb) (Rc.later hb));have CF:=ac (fun (W:World) (hb:Below w.heap.size w W)=>Rb s ih s' ok ok' W pb pm pe qb qm qe hfit.subs (eo.later hb) (Rd.later hb));clear hp hq bL eo Rc Rd hfit ih;unfold FQ.val yL;obtain ⟨T,hT⟩:=am (jl a a');obtain ⟨F,hF⟩:=am (nY s s');rw[<-hT]at CT ⊢;rw[<-hF]at CF ⊢;clear hT hF;have HB:=ac (show Below w.heap.size w ((w.alloc (.cells #[.int .u8 po,.string ⟨n.toArray⟩,.slice pa pl pc,.slice pb pm pe] 36)).alloc (.cells #[.int .u8 qo,.string ⟨n'.toArray⟩,.slice qa ql qc,.slice qb qm qe] 36)) from cO.alloc (by simp) _)
  by_cases ho:po=qo
  ·subst ho
   by_cases hn:n=n'
   ·subst hn;simp only[beq_self_eq_true,du,Bool.and_self];have X0:((w.alloc (.cells #[.int .u8 po,.string ⟨n.toArray⟩,.slice pa pl pc,.slice pb pm pe] 36)).alloc (.cells #[.int .u8 po,.string ⟨n.toArray⟩,.slice qa ql qc,.slice qb qm qe] 36)).heap[w.heap.size]?=some (.cells #[.int .u8 po,.string ⟨n.toArray⟩,.slice pa pl pc,.slice pb pm pe] 36 (0,0)):=(bE _ _ _ (by simp)).trans (ai rfl);have X1:((w.alloc (.cells #[.int .u8 po,.string ⟨n.toArray⟩,.slice pa pl pc,.slice pb pm pe] 36)).alloc (.cells #[.int .u8 po,.string ⟨n.toArray⟩,.slice qa ql qc,.slice qb qm qe] 36)).heap[w.heap.size+1]?=some (.cells #[.int .u8 po,.string ⟨n.toArray⟩,.slice qa ql qc,.slice qb qm qe] 36 (0,0)):=ai (by simp);have HX:=aG X0 X1;clear X0 X1
    cases T with
    | false=>
     have pp256:=();exact pm256
    | true=>
     cases F
     all_goals
      go_enter Tryz.func17,Tryz.ntmps17;go_wp2_with (first | (go_at_call 19;refine (CT.o _ HB.o).mono ?_;rintro e w1 ⟨rfl,hb1⟩;have p3:w1.cell? ⟨w.heap.size,3,none⟩=some (.slice pb pm pe):=ah (bJ hb1 HX.o.1) 3;have q3:w1.cell? ⟨w.heap.size+1,3,none⟩=some (.slice qb qm qe):=ah (bJ hb1 HX.o.2) 3;have ec:=ac hb1;clear hb1) | (go_at_call 52;refine (CF.o _ (HB.o.trans (ec.o.mono HB.o.size))).mono ?_;rintro e w2 ⟨rfl,bB⟩;have cw:=ac bB;clear bB));go_ret;exact ⟨rfl,(HB.o.trans (ec.o.mono HB.o.size)).trans (cw.o.mono (HB.o.trans (ec.o.mono HB.o.size)).size)⟩
   ·have ea:(n == n')=false:=by simpa using hn
    have e1:((po == po && n == n') && (T && F))=false:=by rw[ea];simp
    rw[e1];exact pm256
  ·have ho1:(po == qo)=false:=by simpa using ho
   have e1:((po == qo && n == n') && (T && F))=false:=by rw[ho1];simp
   rw[e1];exact pm256
section
attribute [local go_sem] Oper.semAt_some
structure Fact where
 p:Value->Bx->World->Prop
 st:∀ (v:Value) (γ:Bx) (w:World) (d8:Bx) (w':World),Gr γ w d8 w'->p v γ w->p v d8 w'
def jg (l:List Fact) (k:Nat):Value->Bx->World->Prop:=(l.getD k ⟨fun _ _ _=>True,fun _ _ _ _ _ _ h=>h⟩).p
theorem vR (l:List Fact) (k:Nat) (v:Value) (γ:Bx) (w:World) (d8:Bx) (w':World):Gr γ w d8 w'->jg l k v γ w->jg l k v d8 w':=(l.getD k _).st v γ w d8 w'
section facts
variable (L:Nat->Prop)
def Mc (s f:Fm) (v:Value) (γ:Bx) (w:World):Prop:=∃q r:FQ,v=.agg #[.int .u8 q.o,.string q.n,.slice q.a q.l q.c,.slice q.b q.m q.e,.int .u8 r.o,.string r.n,.slice r.a r.l r.c,.slice r.b r.m r.e]/\FormV (okB L γ w) w q.val s/\FormV (okB L γ w) w r.val f
def BZ (l:List (Fm×Fm)) (v:Value) (γ:Bx) (w:World):Prop:=∃a c,v=.slice a l.length c/\SPairsV (okB L γ w) w (.slice a l.length c) l
def FBG (n:Str) (f:Fm) (v:Value) (γ:Bx) (w:World):Prop:=∃q:FQ,v=.agg #[.string ⟨n.toArray⟩,.int .u8 q.o,.string q.n,.slice q.a q.l q.c,.slice q.b q.m q.e]/\FormV (okB L γ w) w q.val f
def TBG (n:Str) (t:Tm) (v:Value) (γ:Bx) (w:World):Prop:=∃q:TQ,v=.agg #[.string ⟨n.toArray⟩,.bool q.v,.string q.n,.slice q.a q.l q.c]/\TermV (okB L γ w) w q.val t
def X7 (l:List (Str×Fm)) (v:Value) (γ:Bx) (w:World):Prop:=∃a c,v=.slice a l.length c/\FBindsV (okB L γ w) w (.slice a l.length c) l
def X8 (l:List (Str×Tm)) (v:Value) (γ:Bx) (w:World):Prop:=∃a c,v=.slice a l.length c/\TBindsV (okB L γ w) w (.slice a l.length c) l
def cA (x:Value):Fact:=⟨fun v _ _=>v=x,fun _ _ _ _ _ _ h=>h⟩
def bn (f:Fm):Fact:=⟨FormG L f,fun _ _ _ _ _ hG=>FormG.step hG⟩
def e8 (t:Tm):Fact:=⟨TermG L t,fun _ _ _ _ _ hG=>TermG.step hG⟩
def jH (l:List Fm):Fact:=⟨FormsG L l,fun _ _ _ _ _ hG=>FormsG.step hG⟩
def jI (l:List Tm):Fact:=⟨TermsG L l,fun _ _ _ _ _ hG=>TermsG.step hG⟩
def cm (b:Bd):Fact:=⟨BindG L b,fun _ _ _ _ _ hG=>BindG.step hG⟩
def EE (s f:Fm):Fact:=⟨Mc L s f,fun _ _ _ _ _ hG ⟨q,r,e,h1,h2⟩=>⟨q,r,e,h1.move hG.holds,h2.move hG.holds⟩⟩
def tS (l:List (Fm×Fm)):Fact:=⟨BZ L l,fun _ _ _ _ _ hG ⟨a,c,e,h⟩=>⟨a,c,e,h.move hG.holds⟩⟩
def fFB (n:Str) (f:Fm):Fact:=⟨FBG L n f,fun _ _ _ _ _ hG ⟨q,e,h⟩=>⟨q,e,h.move hG.holds⟩⟩
def fTB (n:Str) (t:Tm):Fact:=⟨TBG L n t,fun _ _ _ _ _ hG ⟨q,e,h⟩=>⟨q,e,h.move hG.holds⟩⟩
def zdi (l:List (Str×Fm)):Fact:=⟨X7 L l,fun _ _ _ _ _ hG ⟨a,c,e,h⟩=>⟨a,c,e,h.move hG.holds⟩⟩
def zdj (l:List (Str×Tm)):Fact:=⟨X8 L l,fun _ _ _ _ _ hG ⟨a,c,e,h⟩=>⟨a,c,e,h.move hG.holds⟩⟩
def jh (F:Fact) (r:List Value):Fact:=⟨fun v γ w=>∃u,v=.tuple (u :: r).toArray/\F.p u γ w,fun _ γ w d8 w' hG ⟨u,e,h⟩=>⟨u,e,F.st u γ w d8 w' hG h⟩⟩
def oD (z:Array Value) (T:TypeId):Fact:=⟨BoxG z T,fun _ _ _ _ _ hG=>BoxG.step hG⟩
def ln (F:Fact) (T:TypeId):Fact:=⟨fun _ γ w=>SetG (fun cs γ w=>F.p (.agg cs) γ w) T γ w,fun _ γ w d8 w' hG h=>SetG.step (fun _ h=>F.st _ γ w d8 w' hG h) hG h⟩
end facts
section
variable {ops:Array Oper} {Q:Exit->Act->World->Prop} {a0:Act} {l:List Fact} {kA kS k:Nat} {M:Nat->Prop} {w0:World} {md:Region.Mode} {L:Nat->Prop}
abbrev dM (md:Region.Mode) (ops:Array Oper) (Q:Exit->Act->World->Prop) (a0:Act) (l:List Fact) (kA kS:Nat) (M:Nat->Prop) (w0:World) (k:Nat):Prop:=oH (jg l) (PsB kA kS) (IG M w0) Gr Fence.wide 3 Tryz.prog md ops Q a0 k
abbrev ZC (md:Region.Mode) (ops:Array Oper) (a0:Act) (l:List Fact) (kA kS:Nat) (M:Nat->Prop) (w0:World) (k:Nat) (o:Oper) (a:Act) (γ:Bx) (w:World):Prop:=DagIn (jg l) (PsB kA kS) (IG M w0) md ops a0 o k a γ w
def Dep (md:Region.Mode) (ops:Array Oper) (a0:Act) (l:List Fact) (kA kS:Nat) (M:Nat->Prop) (w0:World) (k:Nat) (o:Oper) (d:Nat) (p:Value->Bx->World->Prop):Prop:=∀ a γ w,ZC md ops a0 l kA kS M w0 k o a γ w->∃v,a.tmps[d]?=some v/\p v γ w
theorem aF {d:Nat} (j:Nat) (hj:ops[j]?=some oj:=by rfl) (hd:oj.dst=some d:=by rfl) (hw:waitB md o j=true:=by kernel_rfl) (hp:jg l j=p:=by rfl):Dep md ops a0 l kA kS M w0 k o d p:=fun _ _ _ h=>hp ▸ h.val j oj d hj hd hw
theorem old {d:Nat} (hv:a0.tmps[d]?=some v) (hf:freeB ops d=true:=by kernel_rfl):Dep md ops a0 l kA kS M w0 k o d (fun u _ _=>u=v):=fun _ _ _ h=>⟨v,(h.ou d hf).trans hv,rfl⟩
theorem ere {d:Nat} (j:Nat) (hv:a0.tmps[d]?=some v) (hj:ops[j]?=some oj:=by rfl) (hd:oj.dst=some d:=by rfl) (hw:waitB md oj k=true:=by kernel_rfl):Dep md ops a0 l kA kS M w0 k o d (fun u _ _=>u=v):=fun _ _ _ h=>⟨v,(h.pre j oj d hj hd hw).trans hv,rfl⟩
theorem Dep.is {d:Nat} (h:Dep md ops a0 l kA kS M w0 k o d p) {a:Act} {w:World} (bl:ZC md ops a0 l kA kS M w0 k o a γ w):∃v,a.tmps.getD d undef=v/\p v γ w:=by
 obtain ⟨v,h1,h2⟩:=h a γ w bl;exact ⟨v,bP h1,h2⟩
def Wt (md:Region.Mode) (ops:Array Oper) (a0:Act) (l:List Fact) (kA kS:Nat) (M:Nat->Prop) (w0:World) (k:Nat) (o:Oper):Prop:=∀ a γ w,ZC md ops a0 l kA kS M w0 k o a γ w->Region.wanted o (yielded ops a.tmps)=true
theorem ba {d:Nat} {b:Bool} (j:Nat) (hd:Dep md ops a0 l kA kS M w0 k o d (fun v _ _=>v=.bool b)) (hg:o.guard=some (j,b):=by rfl) (hj:ops[j]?=some oj:=by rfl) (I4:oj.dst=some d:=by rfl):Wt md ops a0 l kA kS M w0 k o:=by
 intro a γ w h;obtain ⟨v,h1,rfl⟩:=hd a γ w h;simp[Region.wanted,hg,yielded,hj,I4,h1]
theorem en {d:Nat} (hw:Wt md ops a0 l kA kS M w0 k o) (ho:ops[k]?=some o) (hd:o.dst=some d) (f:Nat)
  (h:∀ a γ w,ZC md ops a0 l kA kS M w0 k o a γ w->∃args,(execOp a.eval o).run Tryz.prog w=.ok (.enter f args) w/\Calls Tryz.prog f args w fun e w'=>(∃v,e=.returned v/\jg l k v γ w')/\Below w.heap.size w w'):dM md ops Q a0 l kA kS M w0 k:=
 DO ho hd (fun _=>trivial) rfl rfl (fun a γ w bl=>by
  obtain ⟨args,h1,h2⟩:=h a γ w bl;refine ⟨hw a γ w bl,f,args,h1,aK.2 (h2.mono ?_)⟩;rintro e w' ⟨⟨v,rfl,h3⟩,h4⟩;exact ⟨v,rfl,γ,Gr.keep h4,fun _ _ h=>h,h3⟩)
theorem ij {d:Nat} (hw:Wt md ops a0 l kA kS M w0 k o) (ho:ops[k]?=some o) (hd:o.dst=some d)
  (h:∀ a γ w,ZC md ops a0 l kA kS M w0 k o a γ w->∃v,(execOp a.eval o).run Tryz.prog w=.ok (.value v) w/\jg l k v γ w):dM md ops Q a0 l kA kS M w0 k:=
 dE ho hd (fun _=>trivial) rfl (fun a γ w bl=>by
  obtain ⟨v,h1,h2⟩:=h a γ w bl;exact ⟨hw a γ w bl,v,γ,w,h1,Gr.refl,fun _ _ h=>h,h2⟩)
end
end
def mA:Str:=[63,65]
def mB:Str:=[63,66]
def mT:Str:=[63,116]
def cT (s:Str) (l:List Tm):Tm:=.mk false s l
def eB (s:Str) (l:List Tm):Fm:=.mk 1 s l []
def kC (s:Str):Fm:=.mk 15 s [] []
def Dy (s x t:Str):Fm:=.mk 16 s [ao x,ao t] []
def awP:Fm:=eB [80] []
def awQ:Fm:=eB [81] []
def F4:Fm:=eB [82] []
def X9:Fm:=.mk 6 [] [] [kC mA,kC mB]
def sM:Fm:=.mk 4 [] [] [awP,awQ]
def X':Fm:=.mk 6 [] [] [sM,F4]
def Vg:Fm:=.mk 8 [120] [] [kC mA]
def za5:Fm:=.mk 9 [122] [] [eB [82] [ao [121],ao [122]]]
def awr:Fm:=.mk 8 [121] [] [za5]
def Md:Fm:=Dy mA [120] mT
def mS:Tm:=cT [102] [cT [97] []]
def awG:Fm:=.mk 9 [122] [] [eB [82] [mS,ao [122]]]
def zdk:Fm:=.mk 9 [122] [] [eB [82] [ao [122],ao [122]]]
def nQ:Fm:=.mk 9 [122] [] [eB [82] [ao [63,120],ao [122]]]
def zdl:Fm:=eB [80] [cT [97] []]
def zdm:Fm:=.mk 8 [120] [] [.mk 5 [] [] [kC mA,kC mB]]
def X_:Fm:=eB [80] [ao [121]]
def za6:Fm:=.mk 8 [121] [] [.mk 5 [] [] [X_,X_]]
def za7:Fm:=eB [80] [ao [63,120],ao [120]]
def Re:Bd:=⟨[(mA,za7)],[(mT,ao [120])]⟩
def Ya:Fm:=.mk 9 [120] [] [kC mA]
def Dz:Fm:=.mk 9 [120,49] [] [eB [80] [ao [120,49],ao [120]]]
def DA:Fm:=eB [80] [ao [120],ao [120]]
theorem aw1:cg [(X9,X')] ⟨[],[]⟩=(⟨[(mA,sM),(mB,F4)],[]⟩,0,0):=by kernel_rfl
theorem aw2:cg [(Vg,awr),(Md,awG)] ⟨[],[]⟩=(⟨[(mA,nQ)],[(mT,mS)]⟩,0,0):=by kernel_rfl
theorem aw3:cg [(Vg,awr),(Md,zdk)] ⟨[],[]⟩=(⟨[],[]⟩,1,70):=by kernel_rfl
theorem aw4:cg [(Md,zdl)] ⟨[],[]⟩=(⟨[],[]⟩,0,71):=by kernel_rfl
theorem aw5:cg [(zdm,za6),(kC mA,X_)] ⟨[],[]⟩=(⟨[],[]⟩,1,70):=by kernel_rfl
theorem aw6:sy Ya Re=(Dz,0):=by kernel_rfl
theorem aw7:sy Md Re=(DA,0):=by kernel_rfl
theorem aw8:sy (kC mA) Re=(lg,72):=by kernel_rfl
theorem aw9:bw Re=true:=by decide +kernel
theorem zdn:yL F4 F4=true:=by decide +kernel
theorem zdo:yL nQ nQ=true:=by decide +kernel
theorem zdp:jl [mS] [mS]=true:=by decide +kernel
theorem zdq:yL Dz Dz=true:=by decide +kernel
theorem zdr:yL DA DA=true:=by decide +kernel
section
attribute [local go_sem] Oper.semAt_some
section
variable {ops:Array Oper} {Q:Exit->Act->World->Prop} {a0:Act} {l:List Fact} {kA kS k:Nat} {M:Nat->Prop} {w0:World} {md:Region.Mode} {L:Nat->Prop}
theorem B0 {w:World} {s:Str} {a:Option Addr} {n:Nat} {ts:List Tm} (h:TermsV ok w (.slice a n c) ts):FormV ok w (FQ.val ⟨1,⟨s.toArray⟩,a,n,c,none,0,0⟩) (eB s ts):=aT.2 ⟨_,_,rfl,h,gI⟩
def Vh (L M:Nat->Prop) (w0:World) (b:Nat):Prop:=L b/\b<w0.heap.size/\¬M b
theorem okB.old {w:World} (hI:IG M w0 γ w):fk (Vh L M w0) (okB L γ w) w0 w:=fun b hb hlt=>
 ⟨⟨hb.1,bH hlt hI.1.size,fun e=>by
  rcases (hI.2.1 b e).1 with h | h
  ·omega
  ·exact hb.2.2 h⟩,hI.1.same b hlt hb.2.2⟩
theorem IR (s:Str)  {d:Nat} {g:Option (Nat×Bool)}   (ho:ops[k]?=some ⟨some d,.call ⟨.value (.func 29),#[.const (.string ⟨s.toArray⟩)],jf⟩,ty,pos,cU,g⟩:=by rfl) (hw:Wt md ops a0 l kA kS M w0 k ⟨some d,.call ⟨.value (.func 29),#[.const (.string ⟨s.toArray⟩)],jf⟩,ty,pos,cU,g⟩:=by exact fun _ _ _ _=>rfl) (hp:jg l k=FormG L (kC s):=by rfl):dM md ops Q a0 l kA kS M w0 k:=
 en hw ho rfl 29 (fun a γ w bl=>by
  refine ⟨#[.string ⟨s.toArray⟩],by go_simp,(Wi _ w).mono ?_⟩;rintro e w' ⟨rfl,hb⟩;exact ⟨⟨_,rfl,by rw[hp];exact ⟨⟨15,⟨s.toArray⟩,none,0,0,none,0,0⟩,rfl,aT.2 ⟨_,_,rfl,cq,gI⟩⟩⟩,hb⟩)
theorem rt (s:Str)  {d:Nat} {g:Option (Nat×Bool)}   (ho:ops[k]?=some ⟨some d,.call ⟨.value (.func 30),#[.const (.string ⟨s.toArray⟩)],jf⟩,ty,pos,cU,g⟩:=by rfl) (hw:Wt md ops a0 l kA kS M w0 k ⟨some d,.call ⟨.value (.func 30),#[.const (.string ⟨s.toArray⟩)],jf⟩,ty,pos,cU,g⟩:=by exact fun _ _ _ _=>rfl) (hp:jg l k=TermG L (ao s):=by rfl):dM md ops Q a0 l kA kS M w0 k:=
 en hw ho rfl 30 (fun a γ w bl=>by
  refine ⟨#[.string ⟨s.toArray⟩],by go_simp,(J1 _ w).mono ?_⟩;rintro e w' ⟨rfl,hb⟩;exact ⟨⟨_,rfl,by rw[hp];exact ⟨⟨true,⟨s.toArray⟩,none,0,0⟩,rfl,aP.2 ⟨_,rfl,cq⟩⟩⟩,hb⟩)
theorem Me (s:Str)  {d:Nat} {g:Option (Nat×Bool)}   (ho:ops[k]?=some ⟨some d,.call ⟨.value (.func 24),#[.const (.string ⟨s.toArray⟩),.const (.slice none 0 0)],jf⟩,ty,pos,cU,g⟩:=by rfl) (hw:Wt md ops a0 l kA kS M w0 k ⟨some d,.call ⟨.value (.func 24),#[.const (.string ⟨s.toArray⟩),.const (.slice none 0 0)],jf⟩,ty,pos,cU,g⟩:=by exact fun _ _ _ _=>rfl) (hp:jg l k=FormG L (eB s []):=by rfl):dM md ops Q a0 l kA kS M w0 k:=
 en hw ho rfl 24 (fun a γ w bl=>by
  refine ⟨#[.string ⟨s.toArray⟩,.slice none 0 0],by go_simp,(Ff _ _ _ _ w).mono ?_⟩;rintro e w' ⟨rfl,hb⟩;exact ⟨⟨_,rfl,by rw[hp];exact ⟨⟨1,⟨s.toArray⟩,none,0,0,none,0,0⟩,rfl,B0 cq⟩⟩,hb⟩)
theorem Rf (s:Str)  {d:Nat} {g:Option (Nat×Bool)}   (ho:ops[k]?=some ⟨some d,.call ⟨.value (.func 31),#[.const (.string ⟨s.toArray⟩),.const (.slice none 0 0)],jf⟩,ty,pos,cU,g⟩:=by rfl) (hw:Wt md ops a0 l kA kS M w0 k ⟨some d,.call ⟨.value (.func 31),#[.const (.string ⟨s.toArray⟩),.const (.slice none 0 0)],jf⟩,ty,pos,cU,g⟩:=by exact fun _ _ _ _=>rfl) (hp:jg l k=TermG L (cT s []):=by rfl):dM md ops Q a0 l kA kS M w0 k:=
 en hw ho rfl 31 (fun a γ w bl=>by
  refine ⟨#[.string ⟨s.toArray⟩,.slice none 0 0],by go_simp,(Pu _ _ _ _ w).mono ?_⟩;rintro e w' ⟨rfl,hb⟩;exact ⟨⟨_,rfl,by rw[hp];exact ⟨⟨false,⟨s.toArray⟩,none,0,0⟩,rfl,aP.2 ⟨_,rfl,cq⟩⟩⟩,hb⟩)
theorem B4 (s:Str) (ts:List Tm) (x:Nat) {d:Nat} {g:Option (Nat×Bool)}  (hx:Dep md ops a0 l kA kS M w0 k ⟨some d,.call ⟨.value (.func 24),#[.const (.string ⟨s.toArray⟩),.tmp x],jf⟩,ty,pos,cU,g⟩ x (TermsG L ts)) (ho:ops[k]?=some ⟨some d,.call ⟨.value (.func 24),#[.const (.string ⟨s.toArray⟩),.tmp x],jf⟩,ty,pos,cU,g⟩:=by rfl) (hw:Wt md ops a0 l kA kS M w0 k ⟨some d,.call ⟨.value (.func 24),#[.const (.string ⟨s.toArray⟩),.tmp x],jf⟩,ty,pos,cU,g⟩:=by exact fun _ _ _ _=>rfl) (hp:jg l k=FormG L (eB s ts):=by rfl):dM md ops Q a0 l kA kS M w0 k:=
 en hw ho rfl 24 (fun a γ w bl=>by
  obtain ⟨vx,ex,fx⟩:=hx.is bl;obtain ⟨ax,cx,rfl,hx⟩:=fx;refine ⟨#[.string ⟨s.toArray⟩,.slice ax ts.length cx],by go_simp,(Ff _ _ _ _ w).mono ?_⟩;rintro e w' ⟨rfl,hb⟩;exact ⟨⟨_,rfl,by rw[hp];exact ⟨⟨1,⟨s.toArray⟩,ax,ts.length,cx,none,0,0⟩,rfl,B0 (hx.move (Gr.keep hb).holds)⟩⟩,hb⟩)
theorem za8 (s:Str) (ts:List Tm) (x:Nat) {d:Nat} {g:Option (Nat×Bool)}  (hx:Dep md ops a0 l kA kS M w0 k ⟨some d,.call ⟨.value (.func 31),#[.const (.string ⟨s.toArray⟩),.tmp x],jf⟩,ty,pos,cU,g⟩ x (TermsG L ts)) (ho:ops[k]?=some ⟨some d,.call ⟨.value (.func 31),#[.const (.string ⟨s.toArray⟩),.tmp x],jf⟩,ty,pos,cU,g⟩:=by rfl) (hw:Wt md ops a0 l kA kS M w0 k ⟨some d,.call ⟨.value (.func 31),#[.const (.string ⟨s.toArray⟩),.tmp x],jf⟩,ty,pos,cU,g⟩:=by exact fun _ _ _ _=>rfl) (hp:jg l k=TermG L (cT s ts):=by rfl):dM md ops Q a0 l kA kS M w0 k:=
 en hw ho rfl 31 (fun a γ w bl=>by
  obtain ⟨vx,ex,fx⟩:=hx.is bl;obtain ⟨ax,cx,rfl,hx⟩:=fx;refine ⟨#[.string ⟨s.toArray⟩,.slice ax ts.length cx],by go_simp,(Pu _ _ _ _ w).mono ?_⟩;rintro e w' ⟨rfl,hb⟩;exact ⟨⟨_,rfl,by rw[hp];exact ⟨⟨false,⟨s.toArray⟩,ax,ts.length,cx⟩,rfl,aP.2 ⟨_,rfl,hx.move (Gr.keep hb).holds⟩⟩⟩,hb⟩)
theorem mU (o:Int) (s:Str) (fs:List Fm) (x:Nat) {d:Nat} {g:Option (Nat×Bool)}  (hx:Dep md ops a0 l kA kS M w0 k ⟨some d,.call ⟨.value (.func 28),#[.const (.int .u8 o),.const (.string ⟨s.toArray⟩),.tmp x],jf⟩,ty,pos,cU,g⟩ x (FormsG L fs)) (ho:ops[k]?=some ⟨some d,.call ⟨.value (.func 28),#[.const (.int .u8 o),.const (.string ⟨s.toArray⟩),.tmp x],jf⟩,ty,pos,cU,g⟩:=by rfl) (hw:Wt md ops a0 l kA kS M w0 k ⟨some d,.call ⟨.value (.func 28),#[.const (.int .u8 o),.const (.string ⟨s.toArray⟩),.tmp x],jf⟩,ty,pos,cU,g⟩:=by exact fun _ _ _ _=>rfl) (hp:jg l k=FormG L (.mk o s [] fs):=by rfl):dM md ops Q a0 l kA kS M w0 k:=
 en hw ho rfl 28 (fun a γ w bl=>by
  obtain ⟨vx,ex,fx⟩:=hx.is bl;obtain ⟨ax,cx,rfl,hx⟩:=fx;refine ⟨#[.int .u8 o,.string ⟨s.toArray⟩,.slice ax fs.length cx],by go_simp,(SA _ _ _ _ _ w).mono ?_⟩;rintro e w' ⟨rfl,hb⟩;exact ⟨⟨_,rfl,by rw[hp];exact ⟨⟨o,⟨s.toArray⟩,none,0,0,ax,fs.length,cx⟩,rfl,aT.2 ⟨_,_,rfl,cq,hx.move (Gr.keep hb).holds⟩⟩⟩,hb⟩)
theorem EF {b:Nat} {x y:Tm} (p q:TQ) (c:Nat) (hb:W.heap[b]?=some (.cells #[.bool p.v,.string p.n,.slice p.a p.l p.c,.bool q.v,.string q.n,.slice q.a q.l q.c] T (0,0))) (hok:ok b) (hx:TermV ok W p.val x) (hy:TermV ok W q.val y):TermsV ok W (.slice (some ⟨b,0,none⟩) 2 c) [x,y]:=by
 have pp286:=();exact pm286
theorem NW {b:Nat} {x y:Fm} (p q:FQ) (c:Nat) (hb:W.heap[b]?=some (.cells #[.int .u8 p.o,.string p.n,.slice p.a p.l p.c,.slice p.b p.m p.e,.int .u8 q.o,.string q.n,.slice q.a q.l q.c,.slice q.b q.m q.e] T (0,0))) (hok:ok b) (hx:FormV ok W p.val x) (hy:FormV ok W q.val y):FormsV ok W (.slice (some ⟨b,0,none⟩) 2 c) [x,y]:=by
 exact pm286
theorem okB.here (hL:∀ b,w0.heap.size<=b->L b) {w:World} (hI:IG M w0 γ w) (o:Obj):okB L γ (w.alloc o) w.heap.size:=(okB.new hI (fun b hb=>hL b (aU hI.1.size hb)) (w':=w.alloc o) _ (aD _) (by simp)).1
theorem zJ (s x t:Str)  {d:Nat} {g:Option (Nat×Bool)} (hL:∀ b,w0.heap.size<=b->L b)  (ho:ops[k]?=some ⟨some d,.call ⟨.value (.func 35),#[.const (.string ⟨s.toArray⟩),.const (.string ⟨x.toArray⟩),.const (.string ⟨t.toArray⟩)],jf⟩,ty,pos,cU,g⟩:=by rfl) (hw:Wt md ops a0 l kA kS M w0 k ⟨some d,.call ⟨.value (.func 35),#[.const (.string ⟨s.toArray⟩),.const (.string ⟨x.toArray⟩),.const (.string ⟨t.toArray⟩)],jf⟩,ty,pos,cU,g⟩:=by exact fun _ _ _ _=>rfl) (hp:jg l k=FormG L (Dy s x t):=by rfl):dM md ops Q a0 l kA kS M w0 k:=
 en hw ho rfl 35 (fun a γ w bl=>by
  refine ⟨#[.string ⟨s.toArray⟩,.string ⟨x.toArray⟩,.string ⟨t.toArray⟩],by go_simp,(MY _ _ _ w).mono ?_⟩;rintro e w' ⟨⟨kk,c,rfl,hk,T,hc⟩,hb⟩;have As:=(okB.new bl.inv (L:=L) (fun b hb=>hL b (aU bl.inv.1.size hb)) kk hk (bz hc)).1;exact ⟨⟨_,rfl,by rw[hp];exact ⟨⟨16,⟨s.toArray⟩,some ⟨kk,0,none⟩,2,c,none,0,0⟩,rfl,aT.2 ⟨_,_,rfl,EF ⟨true,⟨x.toArray⟩,none,0,0⟩ ⟨true,⟨t.toArray⟩,none,0,0⟩ c hc As (aP.2 ⟨_,rfl,cq⟩) (aP.2 ⟨_,rfl,cq⟩),gI⟩⟩⟩,hb⟩)
theorem IS (s f:Fm) (b b2:Bd) (i:Nat) (er:Int) (hR:cg [(s,f)] b=(b2,i,er)) (hs:fitF s) (hf:fitF f) (hb:BdFit b) (x:Nat) (y:Nat) (z:Nat) {d:Nat} {g:Option (Nat×Bool)} (hT:Tabs Wb w0) (hM:∀ b,M b->Wb.heap.size<=b) (hL:∀ b,w0.heap.size<=b->L b) (hx:Dep md ops a0 l kA kS M w0 k ⟨some d,.call ⟨.value (.func 20),#[.tmp x,.tmp y,.tmp z],jf⟩,ty,pos,cU,g⟩ x (FormG L s)) (hy:Dep md ops a0 l kA kS M w0 k ⟨some d,.call ⟨.value (.func 20),#[.tmp x,.tmp y,.tmp z],jf⟩,ty,pos,cU,g⟩ y (FormG L f)) (hz:Dep md ops a0 l kA kS M w0 k ⟨some d,.call ⟨.value (.func 20),#[.tmp x,.tmp y,.tmp z],jf⟩,ty,pos,cU,g⟩ z (BindG L b)) (ho:ops[k]?=some ⟨some d,.call ⟨.value (.func 20),#[.tmp x,.tmp y,.tmp z],jf⟩,ty,pos,cU,g⟩:=by rfl) (hw:Wt md ops a0 l kA kS M w0 k ⟨some d,.call ⟨.value (.func 20),#[.tmp x,.tmp y,.tmp z],jf⟩,ty,pos,cU,g⟩:=by exact fun _ _ _ _=>rfl) (hp:jg l k=(jh (cm L b2) [.int .i64 er]).p:=by rfl):dM md ops Q a0 l kA kS M w0 k:=
 en hw ho rfl 20 (fun a γ w bl=>by
  obtain ⟨vx,ex,fx⟩:=hx.is bl;obtain ⟨vy,ey,fy⟩:=hy.is bl;obtain ⟨vz,ez,fz⟩:=hz.is bl;obtain ⟨qx,rfl,hx⟩:=fx;obtain ⟨qy,rfl,hy⟩:=fy;obtain ⟨qz,rfl,hz⟩:=fz;refine ⟨#[qx.val,qy.val,qz.val],by go_simp,(NT Wb s f b hs hf hb _ _ _ w qx qy qz (hT.kp bl.inv.1 hM) hx hy hz).mono ?_⟩;rw[hR];rintro e w' ⟨⟨u,rfl,hu⟩,hb⟩;exact ⟨⟨_,rfl,by rw[hp];exact ⟨_,rfl,u,rfl,hu.move (okB.new bl.inv (fun b hb=>hL b (aU bl.inv.1.size hb)))⟩⟩,hb⟩)
theorem pA (ps:List (Fm×Fm)) (b b2:Bd) (i:Nat) (er:Int) (hR:cg ps b=(b2,i,er)) (hl:ps.length<=8) (hs:∀ x∈ps,fitF x.1/\fitF x.2) (hb:BdFit b) (x:Nat) (z:Nat) {d:Nat} {g:Option (Nat×Bool)} (hT:Tabs Wb w0) (hM:∀ b,M b->Wb.heap.size<=b) (hL:∀ b,w0.heap.size<=b->L b) (hx:Dep md ops a0 l kA kS M w0 k ⟨some d,.call ⟨.value (.func 15),#[.tmp x,.tmp z],jf⟩,ty,pos,cU,g⟩ x (BZ L ps)) (hz:Dep md ops a0 l kA kS M w0 k ⟨some d,.call ⟨.value (.func 15),#[.tmp x,.tmp z],jf⟩,ty,pos,cU,g⟩ z (BindG L b)) (ho:ops[k]?=some ⟨some d,.call ⟨.value (.func 15),#[.tmp x,.tmp z],jf⟩,ty,pos,cU,g⟩:=by rfl) (hw:Wt md ops a0 l kA kS M w0 k ⟨some d,.call ⟨.value (.func 15),#[.tmp x,.tmp z],jf⟩,ty,pos,cU,g⟩:=by exact fun _ _ _ _=>rfl) (hp:jg l k=(jh (cm L b2) [.int .i64 (i:Int),.int .i64 er]).p:=by rfl):dM md ops Q a0 l kA kS M w0 k:=
 en hw ho rfl 15 (fun a γ w bl=>by
  obtain ⟨vx,ex,fx⟩:=hx.is bl;obtain ⟨vz,ez,fz⟩:=hz.is bl;obtain ⟨ax,cx,rfl,hx⟩:=fx;obtain ⟨qz,rfl,hz⟩:=fz;refine ⟨#[.slice ax ps.length cx,qz.val],by go_simp,(yD Wb ps b hl hs hb (okB L γ w) w ax cx qz (hT.kp bl.inv.1 hM) hx hz).mono ?_⟩;rw[hR];rintro e w' ⟨⟨u,rfl,hu⟩,hb⟩;exact ⟨⟨_,rfl,by rw[hp];exact ⟨_,rfl,u,rfl,hu.move (okB.new bl.inv (fun b hb=>hL b (aU bl.inv.1.size hb)))⟩⟩,hb⟩)
theorem Mf (b:Bd) (n:Str) (hF:b.fs.length<=1000000) (hfit:∀ x∈b.fs,fitF x.2) (x:Nat) {d:Nat} {g:Option (Nat×Bool)} (hL:∀ b,w0.heap.size<=b->L b) (hx:Dep md ops a0 l kA kS M w0 k ⟨some d,.call ⟨.value (.func 16),#[.tmp x,.const (.string ⟨n.toArray⟩)],jf⟩,ty,pos,cU,g⟩ x (BindG L b)) (ho:ops[k]?=some ⟨some d,.call ⟨.value (.func 16),#[.tmp x,.const (.string ⟨n.toArray⟩)],jf⟩,ty,pos,cU,g⟩:=by rfl) (hw:Wt md ops a0 l kA kS M w0 k ⟨some d,.call ⟨.value (.func 16),#[.tmp x,.const (.string ⟨n.toArray⟩)],jf⟩,ty,pos,cU,g⟩:=by exact fun _ _ _ _=>rfl) (hp:jg l k=(jh (bn L ((getB b.fs n).getD lg)) [.bool (getB b.fs n).isSome]).p:=by rfl):dM md ops Q a0 l kA kS M w0 k:=
 en hw ho rfl 16 (fun a γ w bl=>by
  obtain ⟨vx,ex,fx⟩:=hx.is bl;obtain ⟨qx,rfl,hx⟩:=fx;refine ⟨#[qx.val,.string ⟨n.toArray⟩],by go_simp,(Nf b hF hfit n _ w qx hx).mono ?_⟩;rintro e w' ⟨⟨u,rfl,hu⟩,hb⟩;exact ⟨⟨_,rfl,by rw[hp];exact ⟨_,rfl,u,rfl,hu.move (okB.new bl.inv (fun b hb=>hL b (aU bl.inv.1.size hb)))⟩⟩,hb⟩)
theorem TI (b:Bd) (n:Str) (hF:b.ts.length<=1000000) (hfit:∀ x∈b.ts,fitT x.2) (x:Nat) {d:Nat} {g:Option (Nat×Bool)} (hL:∀ b,w0.heap.size<=b->L b) (hx:Dep md ops a0 l kA kS M w0 k ⟨some d,.call ⟨.value (.func 18),#[.tmp x,.const (.string ⟨n.toArray⟩)],jf⟩,ty,pos,cU,g⟩ x (BindG L b)) (ho:ops[k]?=some ⟨some d,.call ⟨.value (.func 18),#[.tmp x,.const (.string ⟨n.toArray⟩)],jf⟩,ty,pos,cU,g⟩:=by rfl) (hw:Wt md ops a0 l kA kS M w0 k ⟨some d,.call ⟨.value (.func 18),#[.tmp x,.const (.string ⟨n.toArray⟩)],jf⟩,ty,pos,cU,g⟩:=by exact fun _ _ _ _=>rfl) (hp:jg l k=(jh (e8 L ((getB b.ts n).getD LV)) [.bool (getB b.ts n).isSome]).p:=by rfl):dM md ops Q a0 l kA kS M w0 k:=
 en hw ho rfl 18 (fun a γ w bl=>by
  obtain ⟨vx,ex,fx⟩:=hx.is bl;obtain ⟨qx,rfl,hx⟩:=fx;refine ⟨#[qx.val,.string ⟨n.toArray⟩],by go_simp,(Ng b hF hfit n _ w qx hx).mono ?_⟩;rintro e w' ⟨⟨u,rfl,hu⟩,hb⟩;exact ⟨⟨_,rfl,by rw[hp];exact ⟨_,rfl,u,rfl,hu.move (okB.new bl.inv (fun b hb=>hL b (aU bl.inv.1.size hb)))⟩⟩,hb⟩)
theorem zK (f g2:Fm) (hf:fitF f) (x:Nat) (y:Nat) {d:Nat} {g:Option (Nat×Bool)}  (hx:Dep md ops a0 l kA kS M w0 k ⟨some d,.call ⟨.value (.func 17),#[.tmp x,.tmp y],jf⟩,ty,pos,cU,g⟩ x (FormG L f)) (hy:Dep md ops a0 l kA kS M w0 k ⟨some d,.call ⟨.value (.func 17),#[.tmp x,.tmp y],jf⟩,ty,pos,cU,g⟩ y (FormG L g2)) (ho:ops[k]?=some ⟨some d,.call ⟨.value (.func 17),#[.tmp x,.tmp y],jf⟩,ty,pos,cU,g⟩:=by rfl) (hw:Wt md ops a0 l kA kS M w0 k ⟨some d,.call ⟨.value (.func 17),#[.tmp x,.tmp y],jf⟩,ty,pos,cU,g⟩:=by exact fun _ _ _ _=>rfl) (hp:jg l k=fun v _ _=>v=.bool (yL f g2):=by rfl):dM md ops Q a0 l kA kS M w0 k:=
 en hw ho rfl 17 (fun a γ w bl=>by
  obtain ⟨vx,ex,fx⟩:=hx.is bl;obtain ⟨vy,ey,fy⟩:=hy.is bl;obtain ⟨qx,rfl,hx⟩:=fx;obtain ⟨qy,rfl,hy⟩:=fy;refine ⟨#[qx.val,qy.val],by go_simp,(IQ f g2 _ _ w qx qy hf hx hy).mono ?_⟩;rintro e w' ⟨rfl,hb⟩;exact ⟨⟨_,rfl,by rw[hp]⟩,hb⟩)
theorem Rg (f g2:List Tm) (hf:fitTs f) (x:Nat) (y:Nat) {d:Nat} {g:Option (Nat×Bool)}  (hx:Dep md ops a0 l kA kS M w0 k ⟨some d,.call ⟨.value (.func 19),#[.tmp x,.tmp y],jf⟩,ty,pos,cU,g⟩ x (TermsG L f)) (hy:Dep md ops a0 l kA kS M w0 k ⟨some d,.call ⟨.value (.func 19),#[.tmp x,.tmp y],jf⟩,ty,pos,cU,g⟩ y (TermsG L g2)) (ho:ops[k]?=some ⟨some d,.call ⟨.value (.func 19),#[.tmp x,.tmp y],jf⟩,ty,pos,cU,g⟩:=by rfl) (hw:Wt md ops a0 l kA kS M w0 k ⟨some d,.call ⟨.value (.func 19),#[.tmp x,.tmp y],jf⟩,ty,pos,cU,g⟩:=by exact fun _ _ _ _=>rfl) (hp:jg l k=fun v _ _=>v=.bool (jl f g2):=by rfl):dM md ops Q a0 l kA kS M w0 k:=
 en hw ho rfl 19 (fun a γ w bl=>by
  obtain ⟨vx,ex,fx⟩:=hx.is bl;obtain ⟨vy,ey,fy⟩:=hy.is bl;obtain ⟨ax,cx,rfl,hx⟩:=fx;obtain ⟨ay,cy,rfl,hy⟩:=fy;refine ⟨#[.slice ax f.length cx,.slice ay g2.length cy],by go_simp,(nP f g2 _ _ w ax _ cx ay _ cy hf hx hy).mono ?_⟩;rintro e w' ⟨rfl,hb⟩;exact ⟨⟨_,rfl,by rw[hp]⟩,hb⟩)
theorem zL (s f:Fm) (b:Bd) (er:Int) (hR:sy s b=(f,er)) (hs:fitF s) (hb:BdFit b) (x:Nat) (z:Nat) {d:Nat} {g:Option (Nat×Bool)} (hT:Tabs Wb w0) (hM:∀ b,M b->Wb.heap.size<=b) (hL:∀ b,w0.heap.size<=b->L b) (hx:Dep md ops a0 l kA kS M w0 k ⟨some d,.call ⟨.value (.func 32),#[.tmp x,.tmp z],jf⟩,ty,pos,cU,g⟩ x (FormG L s)) (hz:Dep md ops a0 l kA kS M w0 k ⟨some d,.call ⟨.value (.func 32),#[.tmp x,.tmp z],jf⟩,ty,pos,cU,g⟩ z (BindG L b)) (ho:ops[k]?=some ⟨some d,.call ⟨.value (.func 32),#[.tmp x,.tmp z],jf⟩,ty,pos,cU,g⟩:=by rfl) (hw:Wt md ops a0 l kA kS M w0 k ⟨some d,.call ⟨.value (.func 32),#[.tmp x,.tmp z],jf⟩,ty,pos,cU,g⟩:=by exact fun _ _ _ _=>rfl) (hp:jg l k=(jh (bn L f) [.int .i64 er]).p:=by rfl):dM md ops Q a0 l kA kS M w0 k:=
 en hw ho rfl 32 (fun a γ w bl=>by
  obtain ⟨vx,ex,fx⟩:=hx.is bl;obtain ⟨vz,ez,fz⟩:=hz.is bl;obtain ⟨qx,rfl,hx⟩:=fx;obtain ⟨qz,rfl,hz⟩:=fz;refine ⟨#[qx.val,qz.val],by go_simp,(Ra Wb s b hs hb (okB L γ w) w qx qz (hT.kp bl.inv.1 hM) hx hz).mono ?_⟩;rw[hR];rintro e w' ⟨⟨u,rfl,hu⟩,hb⟩;exact ⟨⟨_,rfl,by rw[hp];exact ⟨_,rfl,u,rfl,hu.move (okB.new bl.inv (fun b hb=>hL b (aU bl.inv.1.size hb)))⟩⟩,hb⟩)
theorem IT (b:Bd) (hb:BdFit b) (x:Nat) {d:Nat} {g:Option (Nat×Bool)} (hT:Tabs Wb w0) (hM:∀ b,M b->Wb.heap.size<=b) (hx:Dep md ops a0 l kA kS M w0 k ⟨some d,.call ⟨.value (.func 27),#[.tmp x],jf⟩,ty,pos,cU,g⟩ x (BindG L b)) (ho:ops[k]?=some ⟨some d,.call ⟨.value (.func 27),#[.tmp x],jf⟩,ty,pos,cU,g⟩:=by rfl) (hw:Wt md ops a0 l kA kS M w0 k ⟨some d,.call ⟨.value (.func 27),#[.tmp x],jf⟩,ty,pos,cU,g⟩:=by exact fun _ _ _ _=>rfl) (hp:jg l k=fun v _ _=>v=.bool (bw b):=by rfl):dM md ops Q a0 l kA kS M w0 k:=
 en hw ho rfl 27 (fun a γ w bl=>by
  obtain ⟨vx,ex,fx⟩:=hx.is bl;obtain ⟨qx,rfl,hx⟩:=fx;refine ⟨#[qx.val],by go_simp,(xy Wb b hb (okB L γ w) w (hT.kp bl.inv.1 hM) qx hx).mono ?_⟩;rintro e w' ⟨rfl,hb⟩;exact ⟨⟨_,rfl,by rw[hp]⟩,hb⟩)
end
section
variable {ops:Array Oper} {Q:Exit->Act->World->Prop} {a0:Act} {l:List Fact} {kA kS k:Nat} {M:Nat->Prop} {w0:World} {md:Region.Mode} {L:Nat->Prop}
theorem tT {d:Nat} (hw:Wt md ops a0 l kA kS M w0 k o) (ho:ops[k]?=some o) (hd:o.dst=some d)
  (h:∀ a γ w,ZC md ops a0 l kA kS M w0 k o a γ w->∃v cs T,(execOp a.eval o).run Tryz.prog w=.ok (.value v) (w.alloc (.cells cs T))/\jg l k v γ (w.alloc (.cells cs T))):dM md ops Q a0 l kA kS M w0 k:=
 dE ho hd (fun _=>trivial) rfl (fun a γ w bl=>by
  obtain ⟨v,cs,T,h1,h2⟩:=h a γ w bl;exact ⟨hw a γ w bl,v,γ,_,h1,Gr.keep cO,fun _ _ h=>h,h2⟩)
theorem lE {w:World} (o:Obj):Gr γ w γ (w.alloc o):=Gr.keep cO
theorem KQ {X:World} {B:Nat} {p:FQ} (h:FormV ok X p.val f) (hB:ok B) (hx:X.heap[B]?=some (.cells #[.int .u8 p.o,.string p.n,.slice p.a p.l p.c,.slice p.b p.m p.e] T (0,0))):FormsV ok X (.slice (some ⟨B,0,none⟩) 1 c) [f]:=
 ⟨_,c,fun _=>p.val,rfl,.inr ⟨B,0,rfl,hB,fun j hj=>by
  obtain rfl:j=0:=by simpa using hj
  exact ⟨_,_,_,_,rfl,ah hx 0,ah hx 1,ah hx 2,ah hx 3⟩⟩,fun j hj=>by
  obtain rfl:j=0:=by simpa using hj
  exact h⟩
variable (hL:∀ b,w0.heap.size<=b->L b)
include hL
theorem jp (f:Fm) (x:Nat) {d:Nat} {g:Option (Nat×Bool)} (hx:Dep md ops a0 l kA kS M w0 k ⟨some d,.buildSlice 34 1 #[(0,.tmp x)],ty,pos,cU,g⟩ x (FormG L f)) (ho:ops[k]?=some ⟨some d,.buildSlice 34 1 #[(0,.tmp x)],ty,pos,cU,g⟩:=by rfl) (hw:Wt md ops a0 l kA kS M w0 k ⟨some d,.buildSlice 34 1 #[(0,.tmp x)],ty,pos,cU,g⟩:=by exact fun _ _ _ _=>rfl) (hp:jg l k=FormsG L [f]:=by rfl):dM md ops Q a0 l kA kS M w0 k:=
 tT hw ho rfl (fun a γ w bl=>by
  obtain ⟨vx,ex,q,rfl,hq⟩:=hx a γ w bl;refine ⟨.slice (some ⟨w.heap.size,0,none⟩) 1 1,#[.int .u8 q.o,.string q.n,.slice q.a q.l q.c,.slice q.b q.m q.e],36,by simp only[FQ.val]at ex;go_simp,?_⟩;rw[hp];exact ⟨_,_,rfl,KQ (hq.move (lE _).holds) (okB.here hL bl.inv _) (ai rfl)⟩)
theorem ru (f f2:Fm) (x y:Nat) {d:Nat} {g:Option (Nat×Bool)} (hx:Dep md ops a0 l kA kS M w0 k ⟨some d,.buildSlice 34 2 #[(0,.tmp x),(1,.tmp y)],ty,pos,cU,g⟩ x (FormG L f)) (hy:Dep md ops a0 l kA kS M w0 k ⟨some d,.buildSlice 34 2 #[(0,.tmp x),(1,.tmp y)],ty,pos,cU,g⟩ y (FormG L f2)) (ho:ops[k]?=some ⟨some d,.buildSlice 34 2 #[(0,.tmp x),(1,.tmp y)],ty,pos,cU,g⟩:=by rfl) (hw:Wt md ops a0 l kA kS M w0 k ⟨some d,.buildSlice 34 2 #[(0,.tmp x),(1,.tmp y)],ty,pos,cU,g⟩:=by exact fun _ _ _ _=>rfl) (hp:jg l k=FormsG L [f,f2]:=by rfl):dM md ops Q a0 l kA kS M w0 k:=
 tT hw ho rfl (fun a γ w bl=>by
  obtain ⟨vx,ex,q,rfl,hq⟩:=hx a γ w bl;obtain ⟨vy,ey,r,rfl,hr⟩:=hy a γ w bl;refine ⟨.slice (some ⟨w.heap.size,0,none⟩) 2 2,#[.int .u8 q.o,.string q.n,.slice q.a q.l q.c,.slice q.b q.m q.e,.int .u8 r.o,.string r.n,.slice r.a r.l r.c,.slice r.b r.m r.e],36,by simp only[FQ.val]at ex ey;go_simp,?_⟩;rw[hp];exact ⟨_,_,rfl,NW q r _ (ai rfl) (okB.here hL bl.inv _) (hq.move (lE _).holds) (hr.move (lE _).holds)⟩)
theorem lp (f:Tm) (x:Nat) {d:Nat} {g:Option (Nat×Bool)} (hx:Dep md ops a0 l kA kS M w0 k ⟨some d,.buildSlice 33 1 #[(0,.tmp x)],ty,pos,cU,g⟩ x (TermG L f)) (ho:ops[k]?=some ⟨some d,.buildSlice 33 1 #[(0,.tmp x)],ty,pos,cU,g⟩:=by rfl) (hw:Wt md ops a0 l kA kS M w0 k ⟨some d,.buildSlice 33 1 #[(0,.tmp x)],ty,pos,cU,g⟩:=by exact fun _ _ _ _=>rfl) (hp:jg l k=TermsG L [f]:=by rfl):dM md ops Q a0 l kA kS M w0 k:=
 tT hw ho rfl (fun a γ w bl=>by
  obtain ⟨vx,ex,q,rfl,hq⟩:=hx a γ w bl;refine ⟨.slice (some ⟨w.heap.size,0,none⟩) 1 1,#[.bool q.v,.string q.n,.slice q.a q.l q.c],43,by simp only[TQ.val]at ex;go_simp,?_⟩;rw[hp];exact ⟨_,_,rfl,TermsV.one 1 (hq.move (lE _).holds) (okB.here hL bl.inv _) (ai rfl)⟩)
theorem mV (f f2:Tm) (x y:Nat) {d:Nat} {g:Option (Nat×Bool)} (hx:Dep md ops a0 l kA kS M w0 k ⟨some d,.buildSlice 33 2 #[(0,.tmp x),(1,.tmp y)],ty,pos,cU,g⟩ x (TermG L f)) (hy:Dep md ops a0 l kA kS M w0 k ⟨some d,.buildSlice 33 2 #[(0,.tmp x),(1,.tmp y)],ty,pos,cU,g⟩ y (TermG L f2)) (ho:ops[k]?=some ⟨some d,.buildSlice 33 2 #[(0,.tmp x),(1,.tmp y)],ty,pos,cU,g⟩:=by rfl) (hw:Wt md ops a0 l kA kS M w0 k ⟨some d,.buildSlice 33 2 #[(0,.tmp x),(1,.tmp y)],ty,pos,cU,g⟩:=by exact fun _ _ _ _=>rfl) (hp:jg l k=TermsG L [f,f2]:=by rfl):dM md ops Q a0 l kA kS M w0 k:=
 tT hw ho rfl (fun a γ w bl=>by
  obtain ⟨vx,ex,q,rfl,hq⟩:=hx a γ w bl;obtain ⟨vy,ey,r,rfl,hr⟩:=hy a γ w bl;refine ⟨.slice (some ⟨w.heap.size,0,none⟩) 2 2,#[.bool q.v,.string q.n,.slice q.a q.l q.c,.bool r.v,.string r.n,.slice r.a r.l r.c],43,by simp only[TQ.val]at ex ey;go_simp,?_⟩;rw[hp];exact ⟨_,_,rfl,EF q r _ (ai rfl) (okB.here hL bl.inv _) (hq.move (lE _).holds) (hr.move (lE _).holds)⟩)
theorem B7 (f f2 h1 h2:Fm) (x y:Nat) {d:Nat} {g:Option (Nat×Bool)} (hx:Dep md ops a0 l kA kS M w0 k ⟨some d,.buildSlice 22 2 #[(0,.tmp x),(1,.tmp y)],ty,pos,cU,g⟩ x (Mc L f f2)) (hy:Dep md ops a0 l kA kS M w0 k ⟨some d,.buildSlice 22 2 #[(0,.tmp x),(1,.tmp y)],ty,pos,cU,g⟩ y (Mc L h1 h2)) (ho:ops[k]?=some ⟨some d,.buildSlice 22 2 #[(0,.tmp x),(1,.tmp y)],ty,pos,cU,g⟩:=by rfl) (hw:Wt md ops a0 l kA kS M w0 k ⟨some d,.buildSlice 22 2 #[(0,.tmp x),(1,.tmp y)],ty,pos,cU,g⟩:=by exact fun _ _ _ _=>rfl) (hp:jg l k=BZ L [(f,f2),(h1,h2)]:=by rfl):dM md ops Q a0 l kA kS M w0 k:=
 tT hw ho rfl (fun a γ w bl=>by
  obtain ⟨vx,ex,q,r,rfl,hq,hr⟩:=hx a γ w bl;obtain ⟨vy,ey,q2,r2,rfl,Gq,RW⟩:=hy a γ w bl;refine ⟨.slice (some ⟨w.heap.size,0,none⟩) 2 2,#[.int .u8 q.o,.string q.n,.slice q.a q.l q.c,.slice q.b q.m q.e,.int .u8 r.o,.string r.n,.slice r.a r.l r.c,.slice r.b r.m r.e,.int .u8 q2.o,.string q2.n,.slice q2.a q2.l q2.c,.slice q2.b q2.m q2.e,.int .u8 r2.o,.string r2.n,.slice r2.a r2.l r2.c,.slice r2.b r2.m r2.e],50,by go_simp,?_⟩;rw[hp];have hx:=ai (w:=w) (o:=.cells #[.int .u8 q.o,.string q.n,.slice q.a q.l q.c,.slice q.b q.m q.e,.int .u8 r.o,.string r.n,.slice r.a r.l r.c,.slice r.b r.m r.e,.int .u8 q2.o,.string q2.n,.slice q2.a q2.l q2.c,.slice q2.b q2.m q2.e,.int .u8 r2.o,.string r2.n,.slice r2.a r2.l r2.c,.slice r2.b r2.m r2.e] 50) rfl;have C:=fun i=>aI hx i;refine ⟨_,_,rfl,some ⟨w.heap.size,0,none⟩,2,fun j=>if j=0 then q else q2,fun j=>if j=0 then r else r2,rfl,aD _,.inr ⟨w.heap.size,0,rfl,okB.here hL bl.inv _,fun j hj=>?_⟩,fun j hj=>?_⟩
  ·rcases j with _ | _ | j
   ·exact ⟨(C 0).trans rfl,(C 1).trans rfl,(C 2).trans rfl,(C 3).trans rfl,(C 4).trans rfl,(C 5).trans rfl,(C 6).trans rfl,(C 7).trans rfl⟩
   ·exact ⟨(C 8).trans rfl,(C 9).trans rfl,(C 10).trans rfl,(C 11).trans rfl,(C 12).trans rfl,(C 13).trans rfl,(C 14).trans rfl,(C 15).trans rfl⟩
   ·simp at hj;omega
  ·rcases j with _ | _ | j
   ·exact ⟨hq.move (lE _).holds,hr.move (lE _).holds⟩
   ·exact ⟨Gq.move (lE _).holds,RW.move (lE _).holds⟩
   ·simp at hj;omega)
end
section
variable {ops:Array Oper} {Q:Exit->Act->World->Prop} {a0:Act} {l:List Fact} {kA kS k:Nat} {M:Nat->Prop} {w0:World} {md:Region.Mode} {L:Nat->Prop}
abbrev ptr (b:Nat):Value:=.pointer (some ⟨b,0,none⟩)
theorem Rh (n:Str) (f:Fm) (x:Nat) {d:Nat} {g:Option (Nat×Bool)} (hL:∀ b,w0.heap.size<=b->L b) (hx:Dep md ops a0 l kA kS M w0 k ⟨some d,.buildSlice 23 1 #[(0,.tmp x)],ty,pos,cU,g⟩ x (FBG L n f)) (ho:ops[k]?=some ⟨some d,.buildSlice 23 1 #[(0,.tmp x)],ty,pos,cU,g⟩:=by rfl) (hw:Wt md ops a0 l kA kS M w0 k ⟨some d,.buildSlice 23 1 #[(0,.tmp x)],ty,pos,cU,g⟩:=by exact fun _ _ _ _=>rfl) (hp:jg l k=X7 L [(n,f)]:=by rfl):dM md ops Q a0 l kA kS M w0 k:=
 tT hw ho rfl (fun a γ w bl=>by
  obtain ⟨vx,ex,q,rfl,hq⟩:=hx a γ w bl;refine ⟨.slice (some ⟨w.heap.size,0,none⟩) 1 1,#[.string ⟨n.toArray⟩,.int .u8 q.o,.string q.n,.slice q.a q.l q.c,.slice q.b q.m q.e],40,by go_simp,?_⟩;rw[hp];have hx:=ai (w:=w) (o:=.cells #[.string ⟨n.toArray⟩,.int .u8 q.o,.string q.n,.slice q.a q.l q.c,.slice q.b q.m q.e] 40) rfl;have C:=fun i=>aI hx i;refine ⟨_,_,rfl,some ⟨w.heap.size,0,none⟩,1,fun _=>q,rfl,aD _,.inr ⟨w.heap.size,0,rfl,okB.here hL bl.inv _,fun j hj=>?_⟩,fun j hj=>?_⟩
  ·obtain rfl:j=0:=by simpa using hj
   exact ⟨(C 0).trans rfl,(C 1).trans rfl,(C 2).trans rfl,(C 3).trans rfl,(C 4).trans rfl⟩
  ·obtain rfl:j=0:=by simpa using hj
   exact hq.move (lE _).holds)
theorem Ri (n:Str) (f:Tm) (x:Nat) {d:Nat} {g:Option (Nat×Bool)} (hL:∀ b,w0.heap.size<=b->L b) (hx:Dep md ops a0 l kA kS M w0 k ⟨some d,.buildSlice 24 1 #[(0,.tmp x)],ty,pos,cU,g⟩ x (TBG L n f)) (ho:ops[k]?=some ⟨some d,.buildSlice 24 1 #[(0,.tmp x)],ty,pos,cU,g⟩:=by rfl) (hw:Wt md ops a0 l kA kS M w0 k ⟨some d,.buildSlice 24 1 #[(0,.tmp x)],ty,pos,cU,g⟩:=by exact fun _ _ _ _=>rfl) (hp:jg l k=X8 L [(n,f)]:=by rfl):dM md ops Q a0 l kA kS M w0 k:=
 tT hw ho rfl (fun a γ w bl=>by
  obtain ⟨vx,ex,q,rfl,hq⟩:=hx a γ w bl;refine ⟨.slice (some ⟨w.heap.size,0,none⟩) 1 1,#[.string ⟨n.toArray⟩,.bool q.v,.string q.n,.slice q.a q.l q.c],47,by go_simp,?_⟩;rw[hp];have hx:=ai (w:=w) (o:=.cells #[.string ⟨n.toArray⟩,.bool q.v,.string q.n,.slice q.a q.l q.c] 47) rfl;have C:=fun i=>aI hx i;refine ⟨_,_,rfl,some ⟨w.heap.size,0,none⟩,1,fun _=>q,rfl,aD _,.inr ⟨w.heap.size,0,rfl,okB.here hL bl.inv _,fun j hj=>?_⟩,fun j hj=>?_⟩
  ·obtain rfl:j=0:=by simpa using hj
   exact ⟨(C 0).trans rfl,(C 1).trans rfl,(C 2).trans rfl,(C 3).trans rfl⟩
  ·obtain rfl:j=0:=by simpa using hj
   exact hq.move (lE _).holds)
theorem rR (f f2:Fm) (x:Nat) (y:Nat) {d:Nat} {g:Option (Nat×Bool)}  (hx:Dep md ops a0 l kA kS M w0 k ⟨some d,.build 50 #[(0,.tmp x),(1,.tmp y)],ty,pos,cU,g⟩ x (FormG L f)) (hy:Dep md ops a0 l kA kS M w0 k ⟨some d,.build 50 #[(0,.tmp x),(1,.tmp y)],ty,pos,cU,g⟩ y (FormG L f2)) (ho:ops[k]?=some ⟨some d,.build 50 #[(0,.tmp x),(1,.tmp y)],ty,pos,cU,g⟩:=by rfl) (hw:Wt md ops a0 l kA kS M w0 k ⟨some d,.build 50 #[(0,.tmp x),(1,.tmp y)],ty,pos,cU,g⟩:=by exact fun _ _ _ _=>rfl) (hp:jg l k=Mc L f f2:=by rfl):dM md ops Q a0 l kA kS M w0 k:=
 ij hw ho rfl (fun a γ w bl=>by
  obtain ⟨vx,ex,q,rfl,hq⟩:=hx a γ w bl;obtain ⟨vy,ey,r,rfl,hr⟩:=hy a γ w bl;exact ⟨.agg #[.int .u8 q.o,.string q.n,.slice q.a q.l q.c,.slice q.b q.m q.e,.int .u8 r.o,.string r.n,.slice r.a r.l r.c,.slice r.b r.m r.e],by simp only[FQ.val]at ex ey;go_simp,by rw[hp];exact ⟨q,r,rfl,hq,hr⟩⟩)
theorem za9 (n:Str) (f:Fm) (x:Nat) {d:Nat} {g:Option (Nat×Bool)}  (hx:Dep md ops a0 l kA kS M w0 k ⟨some d,.build 40 #[(0,.const (.string ⟨n.toArray⟩)),(1,.tmp x)],ty,pos,cU,g⟩ x (FormG L f)) (ho:ops[k]?=some ⟨some d,.build 40 #[(0,.const (.string ⟨n.toArray⟩)),(1,.tmp x)],ty,pos,cU,g⟩:=by rfl) (hw:Wt md ops a0 l kA kS M w0 k ⟨some d,.build 40 #[(0,.const (.string ⟨n.toArray⟩)),(1,.tmp x)],ty,pos,cU,g⟩:=by exact fun _ _ _ _=>rfl) (hp:jg l k=FBG L n f:=by rfl):dM md ops Q a0 l kA kS M w0 k:=
 ij hw ho rfl (fun a γ w bl=>by
  obtain ⟨vx,ex,q,rfl,hq⟩:=hx a γ w bl;exact ⟨.agg #[.string ⟨n.toArray⟩,.int .u8 q.o,.string q.n,.slice q.a q.l q.c,.slice q.b q.m q.e],by simp only[FQ.val]at ex;go_simp,by rw[hp];exact ⟨q,rfl,hq⟩⟩)
theorem zba (n:Str) (f:Tm) (x:Nat) {d:Nat} {g:Option (Nat×Bool)}  (hx:Dep md ops a0 l kA kS M w0 k ⟨some d,.build 47 #[(0,.const (.string ⟨n.toArray⟩)),(1,.tmp x)],ty,pos,cU,g⟩ x (TermG L f)) (ho:ops[k]?=some ⟨some d,.build 47 #[(0,.const (.string ⟨n.toArray⟩)),(1,.tmp x)],ty,pos,cU,g⟩:=by rfl) (hw:Wt md ops a0 l kA kS M w0 k ⟨some d,.build 47 #[(0,.const (.string ⟨n.toArray⟩)),(1,.tmp x)],ty,pos,cU,g⟩:=by exact fun _ _ _ _=>rfl) (hp:jg l k=TBG L n f:=by rfl):dM md ops Q a0 l kA kS M w0 k:=
 ij hw ho rfl (fun a γ w bl=>by
  obtain ⟨vx,ex,q,rfl,hq⟩:=hx a γ w bl;exact ⟨.agg #[.string ⟨n.toArray⟩,.bool q.v,.string q.n,.slice q.a q.l q.c],by simp only[TQ.val]at ex;go_simp,by rw[hp];exact ⟨q,rfl,hq⟩⟩)
theorem TJ (fs:List (Str×Fm)) (ts:List (Str×Tm)) (x:Nat) (y:Nat) {d:Nat} {g:Option (Nat×Bool)}  (hx:Dep md ops a0 l kA kS M w0 k ⟨some d,.build 26 #[(0,.tmp x),(1,.tmp y)],ty,pos,cU,g⟩ x (X7 L fs)) (hy:Dep md ops a0 l kA kS M w0 k ⟨some d,.build 26 #[(0,.tmp x),(1,.tmp y)],ty,pos,cU,g⟩ y (X8 L ts)) (ho:ops[k]?=some ⟨some d,.build 26 #[(0,.tmp x),(1,.tmp y)],ty,pos,cU,g⟩:=by rfl) (hw:Wt md ops a0 l kA kS M w0 k ⟨some d,.build 26 #[(0,.tmp x),(1,.tmp y)],ty,pos,cU,g⟩:=by exact fun _ _ _ _=>rfl) (hp:jg l k=BindG L ⟨fs,ts⟩:=by rfl):dM md ops Q a0 l kA kS M w0 k:=
 ij hw ho rfl (fun a γ w bl=>by
  obtain ⟨vx,ex,ax,cx,rfl,hx⟩:=hx a γ w bl;obtain ⟨vy,ey,ay,cy,rfl,hy⟩:=hy a γ w bl;exact ⟨BQ.val ⟨ax,fs.length,cx,ay,ts.length,cy⟩,by simp only[BQ.val];go_simp,by rw[hp];exact ⟨⟨ax,fs.length,cx,ay,ts.length,cy⟩,rfl,hx,hy⟩⟩)
theorem Mg   {d:Nat} {g:Option (Nat×Bool)}   (ho:ops[k]?=some ⟨some d,.build 26 #[],ty,pos,cU,g⟩:=by rfl) (hw:Wt md ops a0 l kA kS M w0 k ⟨some d,.build 26 #[],ty,pos,cU,g⟩:=by exact fun _ _ _ _=>rfl) (hp:jg l k=BindG L ⟨[],[]⟩:=by rfl):dM md ops Q a0 l kA kS M w0 k:=
 ij hw ho rfl (fun a γ w bl=>⟨BQ.val ⟨none,0,0,none,0,0⟩,by simp only[BQ.val];go_simp,by rw[hp];exact ⟨⟨none,0,0,none,0,0⟩,rfl,oC⟩⟩)
theorem jq (q:FQ) (f:Fm) (x:Nat) {d:Nat} {g:Option (Nat×Bool)} {b:Nat} (hb:w0.heap[b]?=some (.cells #[.int .u8 q.o,.string q.n,.slice q.a q.l q.c,.slice q.b q.m q.e] 36 (0,0))) (hM:¬M b) (hv:FormV (Vh L M w0) w0 q.val f) (hx:Dep md ops a0 l kA kS M w0 k ⟨some d,.load 36 (.tmp x),ty,pos,cU,g⟩ x (fun v _ _=>v=ptr b)) (ho:ops[k]?=some ⟨some d,.load 36 (.tmp x),ty,pos,cU,g⟩:=by rfl) (hw:Wt md ops a0 l kA kS M w0 k ⟨some d,.load 36 (.tmp x),ty,pos,cU,g⟩:=by exact fun _ _ _ _=>rfl) (hp:jg l k=FormG L f:=by rfl):dM md ops Q a0 l kA kS M w0 k:=
 ij hw ho rfl (fun a γ w bl=>by
  obtain ⟨vx,ex,rfl⟩:=hx a γ w bl;have hk:=bl.inv.1;have C:=fun i v (h:w0.cell? ⟨b,i,none⟩=some v)=>hk.cell (a:=⟨b,i,none⟩) hM h;have c0:=C 0 _ (ah hb 0);have c1:=C 1 _ (ah hb 1);have c2:=C 2 _ (ah hb 2);have c3:=C 3 _ (ah hb 3);exact ⟨FQ.val q,by simp only[FQ.val];go_simp,by rw[hp];exact ⟨q,rfl,hv.move (okB.old bl.inv)⟩⟩)
theorem Rj (q:TQ) (f:Tm) (x:Nat) {d:Nat} {g:Option (Nat×Bool)} {b:Nat} (hb:w0.heap[b]?=some (.cells #[.bool q.v,.string q.n,.slice q.a q.l q.c] 43 (0,0))) (hM:¬M b) (hv:TermV (Vh L M w0) w0 q.val f) (hx:Dep md ops a0 l kA kS M w0 k ⟨some d,.load 43 (.tmp x),ty,pos,cU,g⟩ x (fun v _ _=>v=ptr b)) (ho:ops[k]?=some ⟨some d,.load 43 (.tmp x),ty,pos,cU,g⟩:=by rfl) (hw:Wt md ops a0 l kA kS M w0 k ⟨some d,.load 43 (.tmp x),ty,pos,cU,g⟩:=by exact fun _ _ _ _=>rfl) (hp:jg l k=TermG L f:=by rfl):dM md ops Q a0 l kA kS M w0 k:=
 ij hw ho rfl (fun a γ w bl=>by
  obtain ⟨vx,ex,rfl⟩:=hx a γ w bl;have hk:=bl.inv.1;have C:=fun i v (h:w0.cell? ⟨b,i,none⟩=some v)=>hk.cell (a:=⟨b,i,none⟩) hM h;have c0:=C 0 _ (ah hb 0);have c1:=C 1 _ (ah hb 1);have c2:=C 2 _ (ah hb 2);exact ⟨TQ.val q,by simp only[TQ.val];go_simp,by rw[hp];exact ⟨q,rfl,hv.move (okB.old bl.inv)⟩⟩)
theorem ef (q:BQ) (f:Bd) (x:Nat) {d:Nat} {g:Option (Nat×Bool)} {b:Nat} (hb:w0.heap[b]?=some (.cells #[.slice q.a q.l q.c,.slice q.b q.m q.e] 26 (0,0))) (hM:¬M b) (hv:BindV (Vh L M w0) w0 q f) (hx:Dep md ops a0 l kA kS M w0 k ⟨some d,.load 26 (.tmp x),ty,pos,cU,g⟩ x (fun v _ _=>v=ptr b)) (ho:ops[k]?=some ⟨some d,.load 26 (.tmp x),ty,pos,cU,g⟩:=by rfl) (hw:Wt md ops a0 l kA kS M w0 k ⟨some d,.load 26 (.tmp x),ty,pos,cU,g⟩:=by exact fun _ _ _ _=>rfl) (hp:jg l k=BindG L f:=by rfl):dM md ops Q a0 l kA kS M w0 k:=
 ij hw ho rfl (fun a γ w bl=>by
  obtain ⟨vx,ex,rfl⟩:=hx a γ w bl;have hk:=bl.inv.1;have C:=fun i v (h:w0.cell? ⟨b,i,none⟩=some v)=>hk.cell (a:=⟨b,i,none⟩) hM h;have c0:=C 0 _ (ah hb 0);have c1:=C 1 _ (ah hb 1);exact ⟨BQ.val q,by simp only[BQ.val];go_simp,by rw[hp];exact ⟨q,rfl,hv.move (okB.old bl.inv)⟩⟩)
theorem bc (F:Fact) (x:Nat) {d:Nat} {g:Option (Nat×Bool)}  (hx:Dep md ops a0 l kA kS M w0 k ⟨some d,.move (.tmp x),ty,pos,cU,g⟩ x (F.p)) (ho:ops[k]?=some ⟨some d,.move (.tmp x),ty,pos,cU,g⟩:=by rfl) (hw:Wt md ops a0 l kA kS M w0 k ⟨some d,.move (.tmp x),ty,pos,cU,g⟩:=by exact fun _ _ _ _=>rfl) (hp:jg l k=F.p:=by rfl):dM md ops Q a0 l kA kS M w0 k:=
 ij hw ho rfl (fun a γ w bl=>by
  obtain ⟨vx,ex,hf⟩:=hx a γ w bl;exact ⟨vx,by go_simp,by rw[hp];exact hf⟩)
theorem dq (F:Fact) (x:Nat) {d:Nat} {g:Option (Nat×Bool)}  (hx:Dep md ops a0 l kA kS M w0 k ⟨some d,.assign (.tmp x),ty,pos,cU,g⟩ x (F.p)) (ho:ops[k]?=some ⟨some d,.assign (.tmp x),ty,pos,cU,g⟩:=by rfl) (hw:Wt md ops a0 l kA kS M w0 k ⟨some d,.assign (.tmp x),ty,pos,cU,g⟩:=by exact fun _ _ _ _=>rfl) (hp:jg l k=F.p:=by rfl):dM md ops Q a0 l kA kS M w0 k:=
 ij hw ho rfl (fun a γ w bl=>by
  obtain ⟨vx,ex,hf⟩:=hx a γ w bl;exact ⟨vx,by go_simp,by rw[hp];exact hf⟩)
theorem iX (F:Fact) (r:List Value) (x:Nat) {d:Nat} {g:Option (Nat×Bool)}  (hx:Dep md ops a0 l kA kS M w0 k ⟨some d,.extract (.tmp x) 0,ty,pos,cU,g⟩ x ((jh F r).p)) (ho:ops[k]?=some ⟨some d,.extract (.tmp x) 0,ty,pos,cU,g⟩:=by rfl) (hw:Wt md ops a0 l kA kS M w0 k ⟨some d,.extract (.tmp x) 0,ty,pos,cU,g⟩:=by exact fun _ _ _ _=>rfl) (hp:jg l k=F.p:=by rfl):dM md ops Q a0 l kA kS M w0 k:=
 ij hw ho rfl (fun a γ w bl=>by
  obtain ⟨vx,ex,u,rfl,hf⟩:=hx a γ w bl;exact ⟨u,by go_simp,by rw[hp];exact hf⟩)
theorem iI (F:Fact) (r:List Value) (i:Nat) (v:Value) (hv:r[i]?=some v) (x:Nat) {d:Nat} {g:Option (Nat×Bool)}  (hx:Dep md ops a0 l kA kS M w0 k ⟨some d,.extract (.tmp x) (i+1),ty,pos,cU,g⟩ x ((jh F r).p)) (ho:ops[k]?=some ⟨some d,.extract (.tmp x) (i+1),ty,pos,cU,g⟩:=by rfl) (hw:Wt md ops a0 l kA kS M w0 k ⟨some d,.extract (.tmp x) (i+1),ty,pos,cU,g⟩:=by exact fun _ _ _ _=>rfl) (hp:jg l k=fun u _ _=>u=v:=by rfl):dM md ops Q a0 l kA kS M w0 k:=
 ij hw ho rfl (fun a γ w bl=>by
  obtain ⟨vx,ex,u,rfl,hf⟩:=hx a γ w bl;exact ⟨v,by go_simp,by rw[hp]⟩)
theorem jX (hk:k=kA)  {d:Nat} {g:Option (Nat×Bool)}   (ho:ops[k]?=some ⟨some d,.alloc 36,ty,pos,cU,g⟩:=by rfl) (hw:Wt md ops a0 l kA kS M w0 k ⟨some d,.alloc 36,ty,pos,cU,g⟩:=by exact fun _ _ _ _=>rfl) (hp:jg l k=(oD #[.int .u8 0,.string ⟨#[]⟩,.slice none 0 0,.slice none 0 0] 36).p:=by rfl):dM md ops Q a0 l kA kS M w0 k:=
 dE ho rfl (fun _=>trivial) rfl (fun a γ w bl=>⟨hw a γ w bl,ptr w.heap.size,(some w.heap.size,false),w.alloc (.cells #[.int .u8 0,.string ⟨#[]⟩,.slice none 0 0,.slice none 0 0] 36),by go_simp,uN _ (bl.psi.1 hk),hk ▸ rG,by rw[hp];exact uO⟩)
theorem NX (hk:k=kA)  {d:Nat} {g:Option (Nat×Bool)}   (ho:ops[k]?=some ⟨some d,.alloc 43,ty,pos,cU,g⟩:=by rfl) (hw:Wt md ops a0 l kA kS M w0 k ⟨some d,.alloc 43,ty,pos,cU,g⟩:=by exact fun _ _ _ _=>rfl) (hp:jg l k=(oD #[.bool false,.string ⟨#[]⟩,.slice none 0 0] 43).p:=by rfl):dM md ops Q a0 l kA kS M w0 k:=
 dE ho rfl (fun _=>trivial) rfl (fun a γ w bl=>⟨hw a γ w bl,ptr w.heap.size,(some w.heap.size,false),w.alloc (.cells #[.bool false,.string ⟨#[]⟩,.slice none 0 0] 43),by go_simp,uN _ (bl.psi.1 hk),hk ▸ rG,by rw[hp];exact uO⟩)
theorem oE (hk:k=kA)  {d:Nat} {g:Option (Nat×Bool)}   (ho:ops[k]?=some ⟨some d,.alloc 26,ty,pos,cU,g⟩:=by rfl) (hw:Wt md ops a0 l kA kS M w0 k ⟨some d,.alloc 26,ty,pos,cU,g⟩:=by exact fun _ _ _ _=>rfl) (hp:jg l k=(oD #[.slice none 0 0,.slice none 0 0] 26).p:=by rfl):dM md ops Q a0 l kA kS M w0 k:=
 dE ho rfl (fun _=>trivial) rfl (fun a γ w bl=>⟨hw a γ w bl,ptr w.heap.size,(some w.heap.size,false),w.alloc (.cells #[.slice none 0 0,.slice none 0 0] 26),by go_simp,uN _ (bl.psi.1 hk),hk ▸ rG,by rw[hp];exact uO⟩)
theorem zbb {b:Nat} {a0 a1:Value} (h:W.heap[b]?=some (.cells #[a0,a1] T (0,0))):((W.setCell ⟨b,0,none⟩ v0).setCell ⟨b,1,none⟩ v1).heap[b]?=some (.cells #[v0,v1] T (0,0)):=by
 have h0:=aY (F:=0) h v0;exact (aY (F:=1) h0 v1).trans rfl
theorem Mh {b:Nat}:Kp (fun c=>c=b) W ((W.setCell ⟨b,0,none⟩ v0).setCell ⟨b,1,none⟩ v1):=
 ⟨rfl,rfl,rfl,by simp,fun c _ hc=>(dV _ _ _ _ (by simpa using hc)).trans (dV _ _ _ _ (by simpa using hc))⟩
theorem jY (f:Fm) (x:Nat) (y:Nat) {g:Option (Nat×Bool)} (hk:k=kS) (hx:Dep md ops a0 l kA kS M w0 k ⟨none,.store 36 (.tmp x) (.tmp y),ty,pos,cU,g⟩ x (BoxG #[.int .u8 0,.string ⟨#[]⟩,.slice none 0 0,.slice none 0 0] 36)) (hy:Dep md ops a0 l kA kS M w0 k ⟨none,.store 36 (.tmp x) (.tmp y),ty,pos,cU,g⟩ y (FormG L f)) (ho:ops[k]?=some ⟨none,.store 36 (.tmp x) (.tmp y),ty,pos,cU,g⟩:=by rfl) (hw:Wt md ops a0 l kA kS M w0 k ⟨none,.store 36 (.tmp x) (.tmp y),ty,pos,cU,g⟩:=by exact fun _ _ _ _=>rfl) (hp:jg l k=(ln (bn L f) 36).p:=by rfl):dM md ops Q a0 l kA kS M w0 k:=
 l_ ho (fun _=>trivial) rfl (fun a γ w bl=>by
  obtain ⟨vx,ex,b,rfl,hb1,bB,aM⟩:=hx a γ w bl;obtain ⟨R8,Q8⟩:=γ;obtain rfl:Q8=false:=bl.psi.2 hk;obtain rfl:R8=some b:=hb1;have x:=aM rfl;obtain ⟨vy,ey,q,rfl,hq⟩:=hy a (some b,false) w bl;have c0:=ah x 0;have d0:=ae x 0;have c1:=ah x 1;have d1:=ae x 1;have c2:=ah x 2;have d2:=ae x 2;have c3:=ah x 3;have d3:=ae x 3;have k6:=dL (W:=w) (b:=b) (v0:=.int .u8 q.o) (v1:=.string q.n) (v2:=.slice q.a q.l q.c) (v3:=.slice q.b q.m q.e);have x6:=lA (v0:=.int .u8 q.o) (v1:=.string q.n) (v2:=.slice q.a q.l q.c) (v3:=.slice q.b q.m q.e) x;refine ⟨hw a (some b,false) w bl,(some b,true),_,by simp only[FQ.val]at ey;go_simp,jw k6,hk ▸ oq,?_⟩;rw[hp];exact ⟨b,_,rfl,x6,⟨q,rfl,hq.move (jw k6).holds⟩⟩)
theorem NY (f:Tm) (x:Nat) (y:Nat) {g:Option (Nat×Bool)} (hk:k=kS) (hx:Dep md ops a0 l kA kS M w0 k ⟨none,.store 43 (.tmp x) (.tmp y),ty,pos,cU,g⟩ x (BoxG #[.bool false,.string ⟨#[]⟩,.slice none 0 0] 43)) (hy:Dep md ops a0 l kA kS M w0 k ⟨none,.store 43 (.tmp x) (.tmp y),ty,pos,cU,g⟩ y (TermG L f)) (ho:ops[k]?=some ⟨none,.store 43 (.tmp x) (.tmp y),ty,pos,cU,g⟩:=by rfl) (hw:Wt md ops a0 l kA kS M w0 k ⟨none,.store 43 (.tmp x) (.tmp y),ty,pos,cU,g⟩:=by exact fun _ _ _ _=>rfl) (hp:jg l k=(ln (e8 L f) 43).p:=by rfl):dM md ops Q a0 l kA kS M w0 k:=
 l_ ho (fun _=>trivial) rfl (fun a γ w bl=>by
  obtain ⟨vx,ex,b,rfl,hb1,bB,aM⟩:=hx a γ w bl;obtain ⟨R8,Q8⟩:=γ;obtain rfl:Q8=false:=bl.psi.2 hk;obtain rfl:R8=some b:=hb1;have x:=aM rfl;obtain ⟨vy,ey,q,rfl,hq⟩:=hy a (some b,false) w bl;have c0:=ah x 0;have d0:=ae x 0;have c1:=ah x 1;have d1:=ae x 1;have c2:=ah x 2;have d2:=ae x 2;have k6:=eM (W:=w) (b:=b) (v0:=.bool q.v) (v1:=.string q.n) (v2:=.slice q.a q.l q.c);have x6:=qA (v0:=.bool q.v) (v1:=.string q.n) (v2:=.slice q.a q.l q.c) x;refine ⟨hw a (some b,false) w bl,(some b,true),_,by simp only[TQ.val]at ey;go_simp,jw k6,hk ▸ oq,?_⟩;rw[hp];exact ⟨b,_,rfl,x6,⟨q,rfl,hq.move (jw k6).holds⟩⟩)
theorem oF (f:Bd) (x:Nat) (y:Nat) {g:Option (Nat×Bool)} (hk:k=kS) (hx:Dep md ops a0 l kA kS M w0 k ⟨none,.store 26 (.tmp x) (.tmp y),ty,pos,cU,g⟩ x (BoxG #[.slice none 0 0,.slice none 0 0] 26)) (hy:Dep md ops a0 l kA kS M w0 k ⟨none,.store 26 (.tmp x) (.tmp y),ty,pos,cU,g⟩ y (BindG L f)) (ho:ops[k]?=some ⟨none,.store 26 (.tmp x) (.tmp y),ty,pos,cU,g⟩:=by rfl) (hw:Wt md ops a0 l kA kS M w0 k ⟨none,.store 26 (.tmp x) (.tmp y),ty,pos,cU,g⟩:=by exact fun _ _ _ _=>rfl) (hp:jg l k=(ln (cm L f) 26).p:=by rfl):dM md ops Q a0 l kA kS M w0 k:=
 l_ ho (fun _=>trivial) rfl (fun a γ w bl=>by
  obtain ⟨vx,ex,b,rfl,hb1,bB,aM⟩:=hx a γ w bl;obtain ⟨R8,Q8⟩:=γ;obtain rfl:Q8=false:=bl.psi.2 hk;obtain rfl:R8=some b:=hb1;have x:=aM rfl;obtain ⟨vy,ey,q,rfl,hq⟩:=hy a (some b,false) w bl;have c0:=ah x 0;have d0:=ae x 0;have c1:=ah x 1;have d1:=ae x 1;have k6:=Mh (W:=w) (b:=b) (v0:=.slice q.a q.l q.c) (v1:=.slice q.b q.m q.e);have x6:=zbb (v0:=.slice q.a q.l q.c) (v1:=.slice q.b q.m q.e) x;refine ⟨hw a (some b,false) w bl,(some b,true),_,by simp only[BQ.val]at ey;go_simp,jw k6,hk ▸ oq,?_⟩;rw[hp];exact ⟨b,_,rfl,x6,⟨q,rfl,hq.move (jw k6).holds⟩⟩)
theorem KR (f:Fm) (x:Nat) (y:Nat) {g:Option (Nat×Bool)} (hk:k=kS) {b:Nat} {z2 z3:Value} (Oo:w0.heap[b]?=some (.cells #[z0,z1,z2,z3] 36 (0,0))) (hMb:M b) (hx:Dep md ops a0 l kA kS M w0 k ⟨none,.store 36 (.tmp x) (.tmp y),ty,pos,cU,g⟩ x (fun v _ _=>v=ptr b)) (hy:Dep md ops a0 l kA kS M w0 k ⟨none,.store 36 (.tmp x) (.tmp y),ty,pos,cU,g⟩ y (FormG L f)) (ho:ops[k]?=some ⟨none,.store 36 (.tmp x) (.tmp y),ty,pos,cU,g⟩:=by rfl) (hw:Wt md ops a0 l kA kS M w0 k ⟨none,.store 36 (.tmp x) (.tmp y),ty,pos,cU,g⟩:=by exact fun _ _ _ _=>rfl) (hp:jg l k=(ln (bn L f) 36).p:=by rfl):dM md ops Q a0 l kA kS M w0 k:=
 l_ ho (fun _=>trivial) rfl (fun a γ w bl=>by
  obtain ⟨vx,ex,rfl⟩:=hx a γ w bl;obtain ⟨R8,Q8⟩:=γ;obtain rfl:Q8=false:=bl.psi.2 hk;obtain rfl:R8=some b:=(bl.inv.2.2 b hMb).1;have x:=((bl.inv.2.2 b hMb).2 rfl).trans Oo;obtain ⟨vy,ey,q,rfl,hq⟩:=hy a (some b,false) w bl;have c0:=ah x 0;have d0:=ae x 0;have c1:=ah x 1;have d1:=ae x 1;have c2:=ah x 2;have d2:=ae x 2;have c3:=ah x 3;have d3:=ae x 3;have k6:=dL (W:=w) (b:=b) (v0:=.int .u8 q.o) (v1:=.string q.n) (v2:=.slice q.a q.l q.c) (v3:=.slice q.b q.m q.e);have x6:=lA (v0:=.int .u8 q.o) (v1:=.string q.n) (v2:=.slice q.a q.l q.c) (v3:=.slice q.b q.m q.e) x;refine ⟨hw a (some b,false) w bl,(some b,true),_,by simp only[FQ.val]at ey;go_simp,jw k6,hk ▸ oq,?_⟩;rw[hp];exact ⟨b,_,rfl,x6,⟨q,rfl,hq.move (jw k6).holds⟩⟩)
theorem KS (f:Bd) (x:Nat) (y:Nat) {g:Option (Nat×Bool)} (hk:k=kS) {b:Nat} (Oo:w0.heap[b]?=some (.cells #[z0,z1] 26 (0,0))) (hMb:M b) (hx:Dep md ops a0 l kA kS M w0 k ⟨none,.store 26 (.tmp x) (.tmp y),ty,pos,cU,g⟩ x (fun v _ _=>v=ptr b)) (hy:Dep md ops a0 l kA kS M w0 k ⟨none,.store 26 (.tmp x) (.tmp y),ty,pos,cU,g⟩ y (BindG L f)) (ho:ops[k]?=some ⟨none,.store 26 (.tmp x) (.tmp y),ty,pos,cU,g⟩:=by rfl) (hw:Wt md ops a0 l kA kS M w0 k ⟨none,.store 26 (.tmp x) (.tmp y),ty,pos,cU,g⟩:=by exact fun _ _ _ _=>rfl) (hp:jg l k=(ln (cm L f) 26).p:=by rfl):dM md ops Q a0 l kA kS M w0 k:=
 l_ ho (fun _=>trivial) rfl (fun a γ w bl=>by
  obtain ⟨vx,ex,rfl⟩:=hx a γ w bl;obtain ⟨R8,Q8⟩:=γ;obtain rfl:Q8=false:=bl.psi.2 hk;obtain rfl:R8=some b:=(bl.inv.2.2 b hMb).1;have x:=((bl.inv.2.2 b hMb).2 rfl).trans Oo;obtain ⟨vy,ey,q,rfl,hq⟩:=hy a (some b,false) w bl;have c0:=ah x 0;have d0:=ae x 0;have c1:=ah x 1;have d1:=ae x 1;have k6:=Mh (W:=w) (b:=b) (v0:=.slice q.a q.l q.c) (v1:=.slice q.b q.m q.e);have x6:=zbb (v0:=.slice q.a q.l q.c) (v1:=.slice q.b q.m q.e) x;refine ⟨hw a (some b,false) w bl,(some b,true),_,by simp only[BQ.val]at ey;go_simp,jw k6,hk ▸ oq,?_⟩;rw[hp];exact ⟨b,_,rfl,x6,⟨q,rfl,hq.move (jw k6).holds⟩⟩)
theorem F5 {d:Nat} (ho:ops[k]?=some o) (r:Value) (nv:∀ (a:Act) (w:World),(execOp a.eval o).run Tryz.prog w=.ok (.value r) w) (hd:o.dst=some d:=by rfl) (hw:Wt md ops a0 l kA kS M w0 k o:=by exact fun _ _ _ _=>rfl) (hp:jg l k=(cA r).p:=by rfl):dM md ops Q a0 l kA kS M w0 k:=
 ij hw ho hd (fun a _ w _=>⟨r,nv a w,by rw[hp];rfl⟩)
theorem Yb {d:Nat} (ho:ops[k]?=some o) (x:Nat) (u r:Value) (hx:Dep md ops a0 l kA kS M w0 k o x (fun v _ _=>v=u)) (nv:∀ (a:Act) (w:World),a.tmps[x]?=some u->a.tmps.getD x undef=u->(execOp a.eval o).run Tryz.prog w=.ok (.value r) w) (hd:o.dst=some d:=by rfl) (hw:Wt md ops a0 l kA kS M w0 k o:=by exact fun _ _ _ _=>rfl) (hp:jg l k=(cA r).p:=by rfl):dM md ops Q a0 l kA kS M w0 k:=
 ij hw ho hd (fun a γ w bl=>by
  obtain ⟨v,h1,rfl⟩:=hx a γ w bl;exact ⟨r,nv a w h1 (bP h1),by rw[hp];rfl⟩)
theorem Yc {d:Nat} (ho:ops[k]?=some o) (x y:Nat) (u u2 r:Value) (hx:Dep md ops a0 l kA kS M w0 k o x (fun v _ _=>v=u)) (hy:Dep md ops a0 l kA kS M w0 k o y (fun v _ _=>v=u2)) (nv:∀ (a:Act) (w:World),a.tmps[x]?=some u->a.tmps.getD x undef=u->a.tmps[y]?=some u2->a.tmps.getD y undef=u2->(execOp a.eval o).run Tryz.prog w=.ok (.value r) w) (hd:o.dst=some d:=by rfl) (hw:Wt md ops a0 l kA kS M w0 k o:=by exact fun _ _ _ _=>rfl) (hp:jg l k=(cA r).p:=by rfl):dM md ops Q a0 l kA kS M w0 k:=
 ij hw ho hd (fun a γ w bl=>by
  obtain ⟨v,h1,rfl⟩:=hx a γ w bl;obtain ⟨v2,h2,rfl⟩:=hy a γ w bl;exact ⟨r,nv a w h1 (bP h1) h2 (bP h2),by rw[hp];rfl⟩)
theorem et {d:Nat} (ho:ops[k]?=some o) (x:Nat) (r:Value) (hx:Dep md ops a0 l kA kS M w0 k o x (fun v _ _=>v=u)) (nv:∀ (a:Act) (w:World),a.tmps[x]?=some u->a.tmps.getD x undef=u->(execOp a.eval o).run Tryz.prog w=.ok (.value r) w:=by intro _ _ _ _;go_simp) (hd:o.dst=some d:=by rfl) (hw:Wt md ops a0 l kA kS M w0 k o:=by exact fun _ _ _ _=>rfl) (hp:jg l k=(cA r).p:=by rfl):dM md ops Q a0 l kA kS M w0 k:=
 Yb ho x u r hx nv hd hw hp
theorem iJ {d:Nat} (ho:ops[k]?=some o) (x y:Nat) (r:Value) {u2:Value} (hx:Dep md ops a0 l kA kS M w0 k o x (fun v _ _=>v=u)) (hy:Dep md ops a0 l kA kS M w0 k o y (fun v _ _=>v=u2)) (nv:∀ (a:Act) (w:World),a.tmps[x]?=some u->a.tmps.getD x undef=u->a.tmps[y]?=some u2->a.tmps.getD y undef=u2->(execOp a.eval o).run Tryz.prog w=.ok (.value r) w:=by intro _ _ _ _ _ _;go_simp) (hd:o.dst=some d:=by rfl) (hw:Wt md ops a0 l kA kS M w0 k o:=by exact fun _ _ _ _=>rfl) (hp:jg l k=(cA r).p:=by rfl):dM md ops Q a0 l kA kS M w0 k:=
 Yc ho x y u u2 r hx hy nv hd hw hp
end
end
def okS (L:Nat->Prop) (w:World) (b:Nat):Prop:=L b/\b<w.heap.size
structure LF (L:Nat->Prop) (a:Act) (w:World) (d b:Nat) (q:FQ) (f:Fm):Prop where
 slot:a.tmps[d]?=some (ptr b)
 box:w.heap[b]?=some (.cells #[.int .u8 q.o,.string q.n,.slice q.a q.l q.c,.slice q.b q.m q.e] 36 (0,0))
 val:FormV (okS L w) w q.val f
structure LT (L:Nat->Prop) (a:Act) (w:World) (d b:Nat) (q:TQ) (f:Tm):Prop where
 slot:a.tmps[d]?=some (ptr b)
 box:w.heap[b]?=some (.cells #[.bool q.v,.string q.n,.slice q.a q.l q.c] 43 (0,0))
 val:TermV (okS L w) w q.val f
structure LB (L:Nat->Prop) (a:Act) (w:World) (d b:Nat) (q:BQ) (f:Bd):Prop where
 slot:a.tmps[d]?=some (ptr b)
 box:w.heap[b]?=some (.cells #[.slice q.a q.l q.c,.slice q.b q.m q.e] 26 (0,0))
 val:BindV (okS L w) w q f
variable {L L' M:Nat->Prop} {a a':Act} {w w':World} {d b:Nat}
theorem okS.next (hk:Kp M w w') (hM:∀ c,L c->¬M c) (hL:∀ c,L c->c<w.heap.size->L' c):fk (okS L w) (okS L' w') w w':=fun c h hlt=>⟨⟨hL c h.1 hlt,bH hlt hk.size⟩,hk.same c hlt (hM c h.1)⟩
theorem LF.next (h:LF L a w d b q f) (hs:a'.tmps[d]?=a.tmps[d]?) (hk:Kp M w w') (hb:¬M b) (hM:∀ c,L c->¬M c) (hL:∀ c,L c->c<w.heap.size->L' c):LF L' a' w' d b q f:=
 ⟨hs.trans h.slot,(hk.same _ (bz h.box) hb).trans h.box,h.val.move (okS.next hk hM hL)⟩
theorem LT.next {q:TQ} {f:Tm} (h:LT L a w d b q f) (hs:a'.tmps[d]?=a.tmps[d]?) (hk:Kp M w w') (hb:¬M b) (hM:∀ c,L c->¬M c) (hL:∀ c,L c->c<w.heap.size->L' c):LT L' a' w' d b q f:=
 ⟨hs.trans h.slot,(hk.same _ (bz h.box) hb).trans h.box,h.val.move (okS.next hk hM hL)⟩
theorem LB.next {q:BQ} {f:Bd} (h:LB L a w d b q f) (hs:a'.tmps[d]?=a.tmps[d]?) (hk:Kp M w w') (hb:¬M b) (hM:∀ c,L c->¬M c) (hL:∀ c,L c->c<w.heap.size->L' c):LB L' a' w' d b q f:=
 ⟨hs.trans h.slot,(hk.same _ (bz h.box) hb).trans h.box,h.val.move (okS.next hk hM hL)⟩
theorem LF.nx (h:LF L a w d b q f) (hs:a'.tmps[d]?=a.tmps[d]?) (hk:Kp M w w') (hM:∀ c,L c->¬M c) (hb:¬M b:=by exact fun h=>h):LF L a' w' d b q f:=h.next hs hk hb hM (fun _ h _=>h)
theorem LT.nx {q:TQ} {f:Tm} (h:LT L a w d b q f) (hs:a'.tmps[d]?=a.tmps[d]?) (hk:Kp M w w') (hM:∀ c,L c->¬M c) (hb:¬M b:=by exact fun h=>h):LT L a' w' d b q f:=h.next hs hk hb hM (fun _ h _=>h)
theorem LB.nx {q:BQ} {f:Bd} (h:LB L a w d b q f) (hs:a'.tmps[d]?=a.tmps[d]?) (hk:Kp M w w') (hM:∀ c,L c->¬M c) (hb:¬M b:=by exact fun h=>h):LB L a' w' d b q f:=h.next hs hk hb hM (fun _ h _=>h)
theorem okS.at (hM:∀ c,L c->¬M c):fk (okS L w) (Vh L M w) w w:=fun c h _=>⟨⟨h.1,h.2,hM c h.1⟩,rfl⟩
theorem LF.at (h:LF L a w d b q f) (hM:∀ c,L c->¬M c):FormV (Vh L M w) w q.val f:=h.val.move (okS.at hM)
theorem LT.at {q:TQ} {f:Tm} (h:LT L a w d b q f) (hM:∀ c,L c->¬M c):TermV (Vh L M w) w q.val f:=h.val.move (okS.at hM)
theorem LB.at {q:BQ} {f:Bd} (h:LB L a w d b q f) (hM:∀ c,L c->¬M c):BindV (Vh L M w) w q f:=h.val.move (okS.at hM)
theorem LF.drew (h:LF L a w d b q f):LF L a w.drew d b q f:=⟨h.slot,h.box,h.val.move (show fk (okS L w) (okS L w.drew) w w.drew from fun _ h _=>⟨h,rfl⟩)⟩
theorem LT.drew {q:TQ} {f:Tm} (h:LT L a w d b q f):LT L a w.drew d b q f:=⟨h.slot,h.box,h.val.move (show fk (okS L w) (okS L w.drew) w w.drew from fun _ h _=>⟨h,rfl⟩)⟩
theorem LB.drew {q:BQ} {f:Bd} (h:LB L a w d b q f):LB L a w.drew d b q f:=⟨h.slot,h.box,h.val.move (show fk (okS L w) (okS L w.drew) w w.drew from fun _ h _=>⟨h,rfl⟩)⟩
section
variable {ops:Array Oper} {Q:Exit->Act->World->Prop} {a0:Act} {id sz:Nat}
abbrev ct:Nat->Prop:=fun _=>False
abbrev B8 (b:Nat):Nat->Prop:=fun c=>c=b
theorem Rk (w:World):IG ct w (none,false) w:=⟨Kp.refl _,(fun _ h=>by cases h),fun _ h=>h.elim⟩
theorem Rl {w:World} {b:Nat} (h:b<w.heap.size):IG (B8 b) w (some b,false) w:=⟨Kp.refl _,(fun c e=>by cases e;exact ⟨.inr rfl,h⟩),fun c hc=>by
 have:c=b:=hc;subst this;exact ⟨rfl,fun _=>rfl⟩⟩
abbrev F6 (ops:Array Oper) (a0:Act) (F:List Fact) (kA kS:Nat) (M:Nat->Prop) (w0:World) (a:Act) (γ:Bx) (w:World):Prop:=DagAt (jg F) (PsB kA kS) (IG M w0) ops a0 (Array.replicate ops.size true) a γ w
theorem g_ (F:List Fact) (kA kS:Nat) (hsz:a0.tmps.size=sz) (hd:Jl ops sz=true) (hm:(Tryz.prog.follows .mixedOrders && ops.toList.all mq)=true) (cR:∀ k,k<ops.size->dM .any ops (NP Q) a0 F kA kS ct w.drew k)
  (hQ:∀ a γ w',F6 ops a0 F kA kS ct w.drew a γ w'->Q .normal a w'):(Code.region id ops true).wpIn Fence.wide 3 Tryz.prog Q a0 w:=
 lw _ _ _ Gr (none,false) hm hsz hd (Rk _) (fun _ _=>⟨fun _=>rfl,fun _=>rfl⟩) (fun _ _ _ _ hG h=>h.step hG) (vR F) cR hQ
theorem dn (F:List Fact) (kA kS:Nat) (hsz:a0.tmps.size=sz) (hd:Jl ops sz=true) (cR:∀ k,k<ops.size->dM .any ops Q a0 F kA kS ct w k)
  (hQ:∀ a γ w',F6 ops a0 F kA kS ct w a γ w'->Q .normal a w'):(Code.region id ops false).wpIn Fence.wide 3 Tryz.prog Q a0 w:=
 nX _ _ _ Gr (none,false) hsz hd (Rk _) (fun _ _=>⟨fun _=>rfl,fun _=>rfl⟩) (fun _ _ _ _ hG h=>h.step hG) (vR F) cR hQ
theorem F7 {b:Nat} (hb:b<w.heap.size) (F:List Fact) (kS:Nat) (hsz:a0.tmps.size=sz) (hd:Jl ops sz=true) (hm:(Tryz.prog.follows .mixedOrders && ops.toList.all mq)=true) (cR:∀ k,k<ops.size->dM .any ops (NP Q) a0 F ops.size kS (B8 b) w.drew k)
  (hQ:∀ a γ w',F6 ops a0 F ops.size kS (B8 b) w.drew a γ w'->Q .normal a w'):(Code.region id ops true).wpIn Fence.wide 3 Tryz.prog Q a0 w:=
 lw _ _ _ Gr (some b,false) hm hsz hd (Rl hb) (fun _ hk=>⟨fun e=>absurd hk (by omega),fun _=>rfl⟩) (fun _ _ _ _ hG h=>h.step hG) (vR F) cR hQ
theorem F8 {b:Nat} (hb:b<w.heap.size) (F:List Fact) (kS:Nat) (hsz:a0.tmps.size=sz) (hd:Jl ops sz=true) (cR:∀ k,k<ops.size->dM .any ops Q a0 F ops.size kS (B8 b) w k)
  (hQ:∀ a γ w',F6 ops a0 F ops.size kS (B8 b) w a γ w'->Q .normal a w'):(Code.region id ops false).wpIn Fence.wide 3 Tryz.prog Q a0 w:=
 nX _ _ _ Gr (some b,false) hsz hd (Rl hb) (fun _ hk=>⟨fun e=>absurd hk (by omega),fun _=>rfl⟩) (fun _ _ _ _ hG h=>h.step hG) (vR F) cR hQ
theorem rv (hs:a.tmps[d]?=some v) (hv:(oD z T).p v γ w) (hf:(ln (bn L f) 36).p undef γ w) (hI:IG ct w' γ w):∃b q,LF (fun c=>L c/\c≠b) a w d b q f/\w'.heap.size<=b:=by
 have pp281a:=();exact pm281
theorem Yd {f:Tm} (hs:a.tmps[d]?=some v) (hv:(oD z T).p v γ w) (hf:(ln (e8 L f) 43).p undef γ w) (hI:IG ct w' γ w):∃b q,LT (fun c=>L c/\c≠b) a w d b q f/\w'.heap.size<=b:=by
 have pp281b:=();exact pm281
theorem B9 {f:Bd} (hs:a.tmps[d]?=some v) (hv:(oD z T).p v γ w) (hf:(ln (cm L f) 26).p undef γ w) (hI:IG ct w' γ w):∃b q,LB (fun c=>L c/\c≠b) a w d b q f/\w'.heap.size<=b:=by
 exact pm281
theorem TK {b:Nat} (hs:a.tmps[d]?=some (ptr b)) (hf:(ln (bn L f) 36).p undef γ w) (hI:IG (B8 b) w' γ w):∃q,LF L a w d b q f:=by
 obtain ⟨b',cs,rfl,h3,q,hq,h4⟩:=hf;cases (hI.2.2 b rfl).1;simp only[FQ.val,cF]at hq;subst hq;exact ⟨q,hs,h3,h4.move (fun c hc _=>⟨⟨hc.1,hc.2.1⟩,rfl⟩)⟩
theorem TL {f:Bd} {b:Nat} (hs:a.tmps[d]?=some (ptr b)) (hf:(ln (cm L f) 26).p undef γ w) (hI:IG (B8 b) w' γ w):∃q,LB L a w d b q f:=by
 obtain ⟨b',cs,rfl,h3,q,hq,h4⟩:=hf;cases (hI.2.2 b rfl).1;simp only[BQ.val,cF]at hq;subst hq;exact ⟨q,hs,h3,h4.move (fun c hc _=>⟨⟨hc.1,hc.2.1⟩,rfl⟩)⟩
