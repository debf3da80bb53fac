/-
'Match' of package match.
-/
import Derived.Test.YtokemihbkeddoaaGreatDoorU16
namespace Go.Proofs.YtokemihbkeddoaaGreatDoor
open Go Go.RowKit Lib
set_option maxRecDepth 100000
set_option maxHeartbeats 64000000
variable {o oj:Oper} {p:Value->Bx->World->Prop} {v v0 v1 z0 z1 u:Value} {γ:Bx} {ok:Nat->Prop} {c:Nat} {ic:Array TypeId} {ty T:TypeId} {pos:String} {ce:Array Edge} {W Wb:World} {f:Fm} {q:FQ} {z:Array Value}
section
attribute [local go_sem] Oper.semAt_some
theorem Ms (W0:World) (s f:Fm) (b:Bd) (hs:fitF s) (hf:fitF f) (hb:BdFit b) (ok LN ok3:Nat->Prop) (w:World) (p r:FQ) (q:BQ) (ht:Tabs W0 w) (hp:FormV ok w p.val s) (hr:FormV LN w r.val f) (vP:BindV ok3 w q b) :
  Calls Tryz.prog 20 #[p.val,r.val,q.val] w fun e w'=>(∃x:BQ,e=.returned (.tuple #[x.val,.int .i64 (cd [(s,f)] b).2.2])/\BindV (w.heap.size<=·) w' x (cd [(s,f)] b).1)/\Below w.heap.size w w':=by
 obtain ⟨R,hR⟩:=am (cd [(s,f)] b);rw[<-hR];obtain ⟨a0,a1,a2,a3,a4,a5,a6,a7⟩:=p;obtain ⟨b0,b1,b2,b3,b4,b5,b6,b7⟩:=r;obtain ⟨qa,ql,qc,qb,qm,qe⟩:=q;obtain ⟨W4,vY⟩:=am ((((w.alloc (.cells #[.int .u8 a0,.string a1,.slice a2 a3 a4,.slice a5 a6 a7] 36)).alloc (.cells #[.int .u8 b0,.string b1,.slice b2 b3 b4,.slice b5 b6 b7] 36)).alloc (.cells #[.slice qa ql qc,.slice qb qm qe] 26)).alloc (.cells #[.slice none 0 0,.slice none 0 0] 26));have aP:=QT vY;have oT:=UF vY;have x0:=Nf vY;have x1:=SU vY;have x2:=SV vY;have x3:=Ng vY;obtain ⟨W5,eP⟩:=am (W4.alloc (.cells #[.int .u8 a0,.string a1,.slice a2 a3 a4,.slice a5 a6 a7,.int .u8 b0,.string b1,.slice b2 b3 b4,.slice b5 b6 b7] 50));have bj:=cZ eP;have x5:=cb eP;have Mt:=aP.tr bj;have lV:SPairsV (fun _=>True) W5 (.slice (some ⟨W4.heap.size,0,none⟩) [(s,f)].length 1) [(s,f)]:=by
  refine ⟨_,1,fun _=>⟨a0,a1,a2,a3,a4,a5,a6,a7⟩,fun _=>⟨b0,b1,b2,b3,b4,b5,b6,b7⟩,rfl,aI _,.inr ⟨_,0,rfl,trivial,fun j hj=>?_⟩,fun j hj=>?_⟩
  ·obtain rfl:j=0:=by simp at hj;omega
   exact ⟨ai x5 0,ai x5 1,ai x5 2,ai x5 3,ai x5 4,ai x5 5,ai x5 6,ai x5 7⟩
  ·obtain rfl:j=0:=by simp at hj;omega
   exact ⟨(hp.later Mt).any,(hr.later Mt).any⟩
 have CM:=wO W0 [(s,f)] b (by simp) (fun x hx=>by simp at hx;subst hx;exact ⟨hs,hf⟩) hb _ W5 _ 1 ⟨qa,ql,qc,qb,qm,qe⟩ (ht.next Mt) lV (vP.move (uN Mt));rw[<-hR]at CM;simp only[BQ.val,fN,List.length_nil,Nat.zero_add]at CM;obtain ⟨HC,HW4,rD⟩:=cG CM vY eP;have x35:=bR bj x3;have H5:=cC Mt x35 oT bj.size;obtain ⟨e0,e1,e2,e3,_,_,_,_⟩:=dp x0;obtain ⟨f0,f1,f2,f3,_,_,_,_⟩:=dp x1;obtain ⟨g0,g1,_,_⟩:=sB (bR bj x2);rw[eP]at g0 g1;clear hp hr vP ht hb hs hf aP oT x0 x1 x2 x3 x5 bj Mt lV CM hR vY eP x35;simp only[FQ.val,BQ.val];go_enter Tryz.func20,Tryz.ntmps20;go_upto_region 1 with fail;rw[<-HW4.o];go_upto_region 2 with (rw[<-rD.o];go_at_call 15;refine HC.o.mono ?_;rintro e w6 ⟨⟨⟨p0,p1,p2,p3,p4,p5⟩,rfl,I6⟩,cR⟩;have H6:=aG cR I6;clear cR I6);obtain ⟨W7,KB⟩:=am (w6.alloc (.cells #[.slice p0 p1 p2,.slice p3 p4 p5] 26));rw[<-KB];have WX:=cZ KB;have x7:=cb KB;have Js:=H6.o.1.tr WX;have x37:=bR Js H5.o.2.1;obtain ⟨y0,y1,z0,z1⟩:=sB x37;obtain ⟨v0,v1,_,_⟩:=sB x7;have H7:=bG x37 (H5.o.1.tr Js) (H6.o.2.move (dm WX));have HX:=aG (bz H5.o.2.1) H5.o.1.size;clear e0 e1 e2 e3 f0 f1 f2 f3 g0 g1 KB WX x7 Js x37;go_wp2;obtain ⟨W8,lr,x8,k8,s0,s1⟩:=By H7.o.1 (.slice p0 p1 p2) (.slice p3 p4 p5);rw[<-lr];refine bJ (v:=.tuple #[BQ.val ⟨p0,p1,p2,p3,p4,p5⟩,.int .i64 R.2.2]) (by simp[BQ.val,results,Tryz.results20,go_sem,s0,s1]) rfl ⟨⟨⟨p0,p1,p2,p3,p4,p5⟩,rfl,H7.o.2.2.move (fun b hb hlt=>⟨aN HX.o.2 hb,k8.same b hlt (by have:=HX.o.1;omega)⟩)⟩,Below.kp1 H7.o.2.1 k8 (by omega)⟩
end
theorem tY {α:Type} {l m:List α} {k:Nat} (h:l.take k=m.take k) (hl:k<l.length) (hm:k<m.length) (he:l[k]=m[k]):l.take (k+1)=m.take (k+1):=by
 rw[mt hl,mt hm,h,he]
def KT (l:List Tm):Prop:=∀ (m:List Tm) (ok ok':Nat->Prop) (w:World) (a:Option Addr) (n c:Nat) (a':Option Addr) (n' c':Nat),fitTs l->TermsV ok w (.slice a n c) l->TermsV ok' w (.slice a' n' c') m →
 Calls Tryz.prog 19 #[.slice a n c,.slice a' n' c'] w fun e w'=>e=.returned (.bool (iE l m))/\Below w.heap.size w w'
theorem GX (l:List Tm) (ih:∀ t∈l,KT t.a):KT l:=by
 have pp256:=();exact pm256
theorem Mu:∀ t:Tm,KT t.a:=by
 intro t
 induction t using Tm.ind with
 | h v n a ih=>exact GX a ih
theorem mV (l:List Tm):KT l:=GX l (fun t _=>Mu t)
def T2 (t:Fm):Prop:=∀ (u:Fm) (ok ok':Nat->Prop) (w:World) (p q:FQ),fitF t->FormV ok w p.val t->FormV ok' w q.val u →
 Calls Tryz.prog 17 #[p.val,q.val] w fun e w'=>e=.returned (.bool (uM t u))/\Below w.heap.size w w'
def zaA (l:List Fm):Prop:=∀ (m:List Fm) (ok ok':Nat->Prop) (w:World) (a:Option Addr) (n c:Nat) (a':Option Addr) (n' c':Nat),fitFs l->FormsV ok w (.slice a n c) l->FormsV ok' w (.slice a' n' c') m →
 Calls Tryz.prog 52 #[.slice a n c,.slice a' n' c'] w fun e w'=>e=.returned (.bool (m7 l m))/\Below w.heap.size w w'
theorem Py (l:List Fm) (ih:∀ t∈l,T2 t):zaA l:=by
 exact pm256
theorem GY:∀ t:Fm,T2 t:=by
 intro t
 induction t using Fm.ind with
 | h o n a s ih=>
  intro u ok ok' w p q az hp hq;obtain ⟨o',n',a',s'⟩:=u;obtain ⟨po,pn,pa,pl,pc,pb,pm,pe⟩:=p;obtain ⟨qo,qn,qa,ql,qc,qb,qm,qe⟩:=q;obtain ⟨sa,ss,hs,bK,ej⟩:=aW.1 hp;obtain ⟨sa',ss',YY,Pz,PA⟩:=aW.1 hq;unfold FQ.val at hs YY;simp only[cE,Array.mk.injEq,cB,and_true,Value.int.injEq,true_and,Value.string.injEq]at hs YY;obtain ⟨rfl,rfl,rfl,rfl⟩:=hs;obtain ⟨rfl,rfl,rfl,rfl⟩:=YY;have CT:=ae (fun (W:World) (hb:Below w.heap.size w W)=>mV a a' ok ok' W pa pl pc qa ql qc az.args (bK.later hb) (Pz.later hb));have CF:=ae (fun (W:World) (hb:Below w.heap.size w W)=>Py s ih s' ok ok' W pb pm pe qb qm qe az.subs (ej.later hb) (PA.later hb));clear hp hq bK ej Pz PA az ih;unfold FQ.val uM;obtain ⟨T,hT⟩:=am (iE a a');obtain ⟨F,hF⟩:=am (m7 s s');rw[<-hT]at CT ⊢;rw[<-hF]at CF ⊢;clear hT hF;have HB:=ae (show Below w.heap.size w ((w.alloc (.cells #[.int .u8 po,.string ⟨n.toArray⟩,.slice pa pl pc,.slice pb pm pe] 36)).alloc (.cells #[.int .u8 qo,.string ⟨n'.toArray⟩,.slice qa ql qc,.slice qb qm qe] 36)) from cJ.alloc (by simp) _)
  by_cases ho:po=qo
  ·subst ho
   by_cases hn:n=n'
   ·subst hn;simp only[beq_self_eq_true,dU,Bool.and_self];have X0:((w.alloc (.cells #[.int .u8 po,.string ⟨n.toArray⟩,.slice pa pl pc,.slice pb pm pe] 36)).alloc (.cells #[.int .u8 po,.string ⟨n.toArray⟩,.slice qa ql qc,.slice qb qm qe] 36)).heap[w.heap.size]?=some (.cells #[.int .u8 po,.string ⟨n.toArray⟩,.slice pa pl pc,.slice pb pm pe] 36 (0,0)):=(bI _ _ _ (by simp)).trans (aj rfl);have X1:((w.alloc (.cells #[.int .u8 po,.string ⟨n.toArray⟩,.slice pa pl pc,.slice pb pm pe] 36)).alloc (.cells #[.int .u8 po,.string ⟨n.toArray⟩,.slice qa ql qc,.slice qb qm qe] 36)).heap[w.heap.size+1]?=some (.cells #[.int .u8 po,.string ⟨n.toArray⟩,.slice qa ql qc,.slice qb qm qe] 36 (0,0)):=aj (by simp);have HX:=aG X0 X1;clear X0 X1
    cases T with
    | false=>
     have pp233:=();exact pm233
    | true=>
     cases F
     all_goals
      go_enter Tryz.func17,Tryz.ntmps17;go_wp2_with (first | (go_at_call 19;refine (CT.o _ HB.o).mono ?_;rintro e w1 ⟨rfl,hb1⟩;have p3:w1.cell? ⟨w.heap.size,3,none⟩=some (.slice pb pm pe):=ai (bR hb1 HX.o.1) 3;have q3:w1.cell? ⟨w.heap.size+1,3,none⟩=some (.slice qb qm qe):=ai (bR hb1 HX.o.2) 3;have d_:=ae hb1;clear hb1) | (go_at_call 52;refine (CF.o _ (HB.o.trans (d_.o.mono HB.o.size))).mono ?_;rintro e w2 ⟨rfl,bD⟩;have cO:=ae bD;clear bD));go_ret;exact ⟨rfl,(HB.o.trans (d_.o.mono HB.o.size)).trans (cO.o.mono (HB.o.trans (d_.o.mono HB.o.size)).size)⟩
   ·have dX:(n == n')=false:=by simpa using hn
    have e1:((po == po && n == n') && (T && F))=false:=by rw[dX];simp
    rw[e1];exact pm233
  ·have Zv:(po == qo)=false:=by simpa using ho
   have e1:((po == qo && n == n') && (T && F))=false:=by rw[Zv];simp
   rw[e1];exact pm233
section
attribute [local go_sem] Oper.semAt_some
structure Fact where
 p:Value->Bx->World->Prop
 st:∀ (v:Value) (γ:Bx) (w:World) (dT:Bx) (w':World),Gr γ w dT w'->p v γ w->p v dT w'
def gN (l:List Fact) (k:Nat):Value->Bx->World->Prop:=(l.getD k ⟨fun _ _ _=>True,fun _ _ _ _ _ _ h=>h⟩).p
theorem qh (l:List Fact) (k:Nat) (v:Value) (γ:Bx) (w:World) (dT:Bx) (w':World):Gr γ w dT w'->gN l k v γ w->gN l k v dT w':=(l.getD k _).st v γ w dT w'
section facts
variable (L:Nat->Prop)
def Da (s f:Fm) (v:Value) (γ:Bx) (w:World):Prop:=∃q r:FQ,v=.agg #[.int .u8 q.o,.string q.n,.slice q.a q.l q.c,.slice q.b q.m q.e,.int .u8 r.o,.string r.n,.slice r.a r.l r.c,.slice r.b r.m r.e]/\FormV (okB L γ w) w q.val s/\FormV (okB L γ w) w r.val f
def sG (l:List (Fm×Fm)) (v:Value) (γ:Bx) (w:World):Prop:=∃a c,v=.slice a l.length c/\SPairsV (okB L γ w) w (.slice a l.length c) l
def FBG (n:Str) (f:Fm) (v:Value) (γ:Bx) (w:World):Prop:=∃q:FQ,v=.agg #[.string ⟨n.toArray⟩,.int .u8 q.o,.string q.n,.slice q.a q.l q.c,.slice q.b q.m q.e]/\FormV (okB L γ w) w q.val f
def TBG (n:Str) (t:Tm) (v:Value) (γ:Bx) (w:World):Prop:=∃q:TQ,v=.agg #[.string ⟨n.toArray⟩,.bool q.v,.string q.n,.slice q.a q.l q.c]/\TermV (okB L γ w) w q.val t
def WY (l:List (Str×Fm)) (v:Value) (γ:Bx) (w:World):Prop:=∃a c,v=.slice a l.length c/\FBindsV (okB L γ w) w (.slice a l.length c) l
def WZ (l:List (Str×Tm)) (v:Value) (γ:Bx) (w:World):Prop:=∃a c,v=.slice a l.length c/\TBindsV (okB L γ w) w (.slice a l.length c) l
def bn (x:Value):Fact:=⟨fun v _ _=>v=x,fun _ _ _ _ _ _ h=>h⟩
def bi (f:Fm):Fact:=⟨FormG L f,fun _ _ _ _ _ hG=>FormG.step hG⟩
def dP (t:Tm):Fact:=⟨TermG L t,fun _ _ _ _ _ hG=>TermG.step hG⟩
def jj (l:List Fm):Fact:=⟨FormsG L l,fun _ _ _ _ _ hG=>FormsG.step hG⟩
def ie (l:List Tm):Fact:=⟨TermsG L l,fun _ _ _ _ _ hG=>TermsG.step hG⟩
def bF (b:Bd):Fact:=⟨BindG L b,fun _ _ _ _ _ hG=>BindG.step hG⟩
def Ab (s f:Fm):Fact:=⟨Da L s f,fun _ _ _ _ _ hG ⟨q,r,e,h1,h2⟩=>⟨q,r,e,h1.move hG.holds,h2.move hG.holds⟩⟩
def oE (l:List (Fm×Fm)):Fact:=⟨sG L l,fun _ _ _ _ _ hG ⟨a,c,e,h⟩=>⟨a,c,e,h.move hG.holds⟩⟩
def fFB (n:Str) (f:Fm):Fact:=⟨FBG L n f,fun _ _ _ _ _ hG ⟨q,e,h⟩=>⟨q,e,h.move hG.holds⟩⟩
def fTB (n:Str) (t:Tm):Fact:=⟨TBG L n t,fun _ _ _ _ _ hG ⟨q,e,h⟩=>⟨q,e,h.move hG.holds⟩⟩
def zcR (l:List (Str×Fm)):Fact:=⟨WY L l,fun _ _ _ _ _ hG ⟨a,c,e,h⟩=>⟨a,c,e,h.move hG.holds⟩⟩
def zcS (l:List (Str×Tm)):Fact:=⟨WZ L l,fun _ _ _ _ _ hG ⟨a,c,e,h⟩=>⟨a,c,e,h.move hG.holds⟩⟩
def fY (F:Fact) (r:List Value):Fact:=⟨fun v γ w=>∃u,v=.tuple (u :: r).toArray/\F.p u γ w,fun _ γ w dT w' hG ⟨u,e,h⟩=>⟨u,e,F.st u γ w dT w' hG h⟩⟩
def l7 (z:Array Value) (T:TypeId):Fact:=⟨BoxG z T,fun _ _ _ _ _ hG=>BoxG.step hG⟩
def jT (F:Fact) (T:TypeId):Fact:=⟨fun _ γ w=>SetG (fun cs γ w=>F.p (.agg cs) γ w) T γ w,fun _ γ w dT w' hG h=>SetG.step (fun _ h=>F.st _ γ w dT w' hG h) hG h⟩
end facts
section
variable {ops:Array Oper} {Q:Exit->Act->World->Prop} {a0:Act} {l:List Fact} {kA kS k:Nat} {M:Nat->Prop} {w0:World} {md:Region.Mode} {L:Nat->Prop}
abbrev de (md:Region.Mode) (ops:Array Oper) (Q:Exit->Act->World->Prop) (a0:Act) (l:List Fact) (kA kS:Nat) (M:Nat->Prop) (w0:World) (k:Nat):Prop:=nE (gN l) (PsB kA kS) (IG M w0) Gr Fence.wide 3 Tryz.prog md ops Q a0 k
abbrev YK (md:Region.Mode) (ops:Array Oper) (a0:Act) (l:List Fact) (kA kS:Nat) (M:Nat->Prop) (w0:World) (k:Nat) (o:Oper) (a:Act) (γ:Bx) (w:World):Prop:=DagIn (gN l) (PsB kA kS) (IG M w0) md ops a0 o k a γ w
def Dep (md:Region.Mode) (ops:Array Oper) (a0:Act) (l:List Fact) (kA kS:Nat) (M:Nat->Prop) (w0:World) (k:Nat) (o:Oper) (d:Nat) (p:Value->Bx->World->Prop):Prop:=∀ a γ w,YK md ops a0 l kA kS M w0 k o a γ w->∃v,a.tmps[d]?=some v/\p v γ w
theorem aq {d:Nat} (j:Nat) (hj:ops[j]?=some oj:=by rfl) (hd:oj.dst=some d:=by rfl) (hw:waitB md o j=true:=by kernel_rfl) (hp:gN l j=p:=by rfl):Dep md ops a0 l kA kS M w0 k o d p:=fun _ _ _ h=>hp ▸ h.val j oj d hj hd hw
theorem old {d:Nat} (hv:a0.tmps[d]?=some v) (hf:freeB ops d=true:=by kernel_rfl):Dep md ops a0 l kA kS M w0 k o d (fun u _ _=>u=v):=fun _ _ _ h=>⟨v,(h.ou d hf).trans hv,rfl⟩
theorem ere {d:Nat} (j:Nat) (hv:a0.tmps[d]?=some v) (hj:ops[j]?=some oj:=by rfl) (hd:oj.dst=some d:=by rfl) (hw:waitB md oj k=true:=by kernel_rfl):Dep md ops a0 l kA kS M w0 k o d (fun u _ _=>u=v):=fun _ _ _ h=>⟨v,(h.pre j oj d hj hd hw).trans hv,rfl⟩
theorem Dep.is {d:Nat} (h:Dep md ops a0 l kA kS M w0 k o d p) {a:Act} {w:World} (aU:YK md ops a0 l kA kS M w0 k o a γ w):∃v,a.tmps.getD d undef=v/\p v γ w:=by
 obtain ⟨v,h1,h2⟩:=h a γ w aU;exact ⟨v,bg h1,h2⟩
def Wt (md:Region.Mode) (ops:Array Oper) (a0:Act) (l:List Fact) (kA kS:Nat) (M:Nat->Prop) (w0:World) (k:Nat) (o:Oper):Prop:=∀ a γ w,YK md ops a0 l kA kS M w0 k o a γ w->Region.wanted o (yielded ops a.tmps)=true
theorem aJ {d:Nat} {b:Bool} (j:Nat) (hd:Dep md ops a0 l kA kS M w0 k o d (fun v _ _=>v=.bool b)) (hg:o.guard=some (j,b):=by rfl) (hj:ops[j]?=some oj:=by rfl) (Hg:oj.dst=some d:=by rfl):Wt md ops a0 l kA kS M w0 k o:=by
 intro a γ w h;obtain ⟨v,h1,rfl⟩:=hd a γ w h;simp[Region.wanted,hg,yielded,hj,Hg,h1]
theorem dY {d:Nat} (hw:Wt md ops a0 l kA kS M w0 k o) (ho:ops[k]?=some o) (hd:o.dst=some d) (f:Nat)
  (h:∀ a γ w,YK md ops a0 l kA kS M w0 k o a γ w->∃args,(execOp a.eval o).run Tryz.prog w=.ok (.enter f args) w/\Calls Tryz.prog f args w fun e w'=>(∃v,e=.returned v/\gN l k v γ w')/\Below w.heap.size w w'):de md ops Q a0 l kA kS M w0 k:=
 BW ho hd (fun _=>trivial) rfl rfl (fun a γ w aU=>by
  obtain ⟨args,h1,h2⟩:=h a γ w aU;refine ⟨hw a γ w aU,f,args,h1,aK.2 (h2.mono ?_)⟩;rintro e w' ⟨⟨v,rfl,h3⟩,h4⟩;exact ⟨v,rfl,γ,Gr.keep h4,fun _ _ h=>h,h3⟩)
theorem eJ {d:Nat} (hw:Wt md ops a0 l kA kS M w0 k o) (ho:ops[k]?=some o) (hd:o.dst=some d)
  (h:∀ a γ w,YK md ops a0 l kA kS M w0 k o a γ w->∃v,(execOp a.eval o).run Tryz.prog w=.ok (.value v) w/\gN l k v γ w):de md ops Q a0 l kA kS M w0 k:=
 dr ho hd (fun _=>trivial) rfl (fun a γ w aU=>by
  obtain ⟨v,h1,h2⟩:=h a γ w aU;exact ⟨hw a γ w aU,v,γ,w,h1,Gr.refl,fun _ _ h=>h,h2⟩)
end
end
def mA:Str:=[63,65]
def mB:Str:=[63,66]
def mT:Str:=[63,116]
def cT (s:Str) (l:List Tm):Tm:=.mk false s l
def eo (s:Str) (l:List Tm):Fm:=.mk 1 s l []
def jY (s:Str):Fm:=.mk 15 s [] []
def BB (s x t:Str):Fm:=.mk 16 s [ap x,ap t] []
def awP:Fm:=eo [80] []
def awQ:Fm:=eo [81] []
def EH:Fm:=eo [82] []
def W_:Fm:=.mk 6 [] [] [jY mA,jY mB]
def rF:Fm:=.mk 4 [] [] [awP,awQ]
def Xa:Fm:=.mk 6 [] [] [rF,EH]
def T3:Fm:=.mk 8 [120] [] [jY mA]
def zaB:Fm:=.mk 9 [122] [] [eo [82] [ap [121],ap [122]]]
def awr:Fm:=.mk 8 [121] [] [zaB]
def KU:Fm:=BB mA [120] mT
def l8:Tm:=cT [102] [cT [97] []]
def awG:Fm:=.mk 9 [122] [] [eo [82] [l8,ap [122]]]
def zcT:Fm:=.mk 9 [122] [] [eo [82] [ap [122],ap [122]]]
def mW:Fm:=.mk 9 [122] [] [eo [82] [ap [63,120],ap [122]]]
def zcU:Fm:=eo [80] [cT [97] []]
def zcV:Fm:=.mk 8 [120] [] [.mk 5 [] [] [jY mA,jY mB]]
def Xb:Fm:=eo [80] [ap [121]]
def zaC:Fm:=.mk 8 [121] [] [.mk 5 [] [] [Xb,Xb]]
def zaD:Fm:=eo [80] [ap [63,120],ap [120]]
def PB:Bd:=⟨[(mA,zaD)],[(mT,ap [120])]⟩
def Xc:Fm:=.mk 9 [120] [] [jY mA]
def BC:Fm:=.mk 9 [120,49] [] [eo [80] [ap [120,49],ap [120]]]
def BD:Fm:=eo [80] [ap [120],ap [120]]
theorem aw1:cd [(W_,Xa)] ⟨[],[]⟩=(⟨[(mA,rF),(mB,EH)],[]⟩,0,0):=by kernel_rfl
theorem aw2:cd [(T3,awr),(KU,awG)] ⟨[],[]⟩=(⟨[(mA,mW)],[(mT,l8)]⟩,0,0):=by kernel_rfl
theorem aw3:cd [(T3,awr),(KU,zcT)] ⟨[],[]⟩=(⟨[],[]⟩,1,70):=by kernel_rfl
theorem aw4:cd [(KU,zcU)] ⟨[],[]⟩=(⟨[],[]⟩,0,71):=by kernel_rfl
theorem aw5:cd [(zcV,zaC),(jY mA,Xb)] ⟨[],[]⟩=(⟨[],[]⟩,1,70):=by kernel_rfl
theorem aw6:vX Xc PB=(BC,0):=by kernel_rfl
theorem aw7:vX KU PB=(BD,0):=by kernel_rfl
theorem aw8:vX (jY mA) PB=(j6,72):=by kernel_rfl
theorem aw9:bL PB=true:=by decide +kernel
theorem zcW:uM EH EH=true:=by decide +kernel
theorem zcX:uM mW mW=true:=by decide +kernel
theorem zcY:iE [l8] [l8]=true:=by decide +kernel
theorem zcZ:uM BC BC=true:=by decide +kernel
theorem zc0:uM BD BD=true:=by decide +kernel
section
attribute [local go_sem] Oper.semAt_some
section
variable {ops:Array Oper} {Q:Exit->Act->World->Prop} {a0:Act} {l:List Fact} {kA kS k:Nat} {M:Nat->Prop} {w0:World} {md:Region.Mode} {L:Nat->Prop}
theorem Ac {w:World} {s:Str} {a:Option Addr} {n:Nat} {ts:List Tm} (h:TermsV ok w (.slice a n c) ts):FormV ok w (FQ.val ⟨1,⟨s.toArray⟩,a,n,c,none,0,0⟩) (eo s ts):=aW.2 ⟨_,_,rfl,h,gh⟩
def T4 (L M:Nat->Prop) (w0:World) (b:Nat):Prop:=L b/\b<w0.heap.size/\¬M b
theorem okB.old {w:World} (hI:IG M w0 γ w):dW (T4 L M w0) (okB L γ w) w0 w:=fun b hb hlt=>
 ⟨⟨hb.1,bE hlt hI.1.size,fun e=>by
  rcases (hI.2.1 b e).1 with h | h
  ·omega
  ·exact hb.2.2 h⟩,hI.1.same b hlt hb.2.2⟩
theorem GZ (s:Str)  {d:Nat} {g:Option (Nat×Bool)}   (ho:ops[k]?=some ⟨some d,.call ⟨.value (.func 29),#[.const (.string ⟨s.toArray⟩)],ic⟩,ty,pos,ce,g⟩:=by rfl) (hw:Wt md ops a0 l kA kS M w0 k ⟨some d,.call ⟨.value (.func 29),#[.const (.string ⟨s.toArray⟩)],ic⟩,ty,pos,ce,g⟩:=by exact fun _ _ _ _=>rfl) (hp:gN l k=FormG L (jY s):=by rfl):de md ops Q a0 l kA kS M w0 k:=
 dY hw ho rfl 29 (fun a γ w aU=>by
  refine ⟨#[.string ⟨s.toArray⟩],by go_simp,(Vg _ w).mono ?_⟩;rintro e w' ⟨rfl,hb⟩;exact ⟨⟨_,rfl,by rw[hp];exact ⟨⟨15,⟨s.toArray⟩,none,0,0,none,0,0⟩,rfl,aW.2 ⟨_,_,rfl,cf,gh⟩⟩⟩,hb⟩)
theorem qi (s:Str)  {d:Nat} {g:Option (Nat×Bool)}   (ho:ops[k]?=some ⟨some d,.call ⟨.value (.func 30),#[.const (.string ⟨s.toArray⟩)],ic⟩,ty,pos,ce,g⟩:=by rfl) (hw:Wt md ops a0 l kA kS M w0 k ⟨some d,.call ⟨.value (.func 30),#[.const (.string ⟨s.toArray⟩)],ic⟩,ty,pos,ce,g⟩:=by exact fun _ _ _ _=>rfl) (hp:gN l k=TermG L (ap s):=by rfl):de md ops Q a0 l kA kS M w0 k:=
 dY hw ho rfl 30 (fun a γ w aU=>by
  refine ⟨#[.string ⟨s.toArray⟩],by go_simp,(IS _ w).mono ?_⟩;rintro e w' ⟨rfl,hb⟩;exact ⟨⟨_,rfl,by rw[hp];exact ⟨⟨true,⟨s.toArray⟩,none,0,0⟩,rfl,aV.2 ⟨_,rfl,cf⟩⟩⟩,hb⟩)
theorem KV (s:Str)  {d:Nat} {g:Option (Nat×Bool)}   (ho:ops[k]?=some ⟨some d,.call ⟨.value (.func 24),#[.const (.string ⟨s.toArray⟩),.const (.slice none 0 0)],ic⟩,ty,pos,ce,g⟩:=by rfl) (hw:Wt md ops a0 l kA kS M w0 k ⟨some d,.call ⟨.value (.func 24),#[.const (.string ⟨s.toArray⟩),.const (.slice none 0 0)],ic⟩,ty,pos,ce,g⟩:=by exact fun _ _ _ _=>rfl) (hp:gN l k=FormG L (eo s []):=by rfl):de md ops Q a0 l kA kS M w0 k:=
 dY hw ho rfl 24 (fun a γ w aU=>by
  refine ⟨#[.string ⟨s.toArray⟩,.slice none 0 0],by go_simp,(DY _ _ _ _ w).mono ?_⟩;rintro e w' ⟨rfl,hb⟩;exact ⟨⟨_,rfl,by rw[hp];exact ⟨⟨1,⟨s.toArray⟩,none,0,0,none,0,0⟩,rfl,Ac cf⟩⟩,hb⟩)
theorem PC (s:Str)  {d:Nat} {g:Option (Nat×Bool)}   (ho:ops[k]?=some ⟨some d,.call ⟨.value (.func 31),#[.const (.string ⟨s.toArray⟩),.const (.slice none 0 0)],ic⟩,ty,pos,ce,g⟩:=by rfl) (hw:Wt md ops a0 l kA kS M w0 k ⟨some d,.call ⟨.value (.func 31),#[.const (.string ⟨s.toArray⟩),.const (.slice none 0 0)],ic⟩,ty,pos,ce,g⟩:=by exact fun _ _ _ _=>rfl) (hp:gN l k=TermG L (cT s []):=by rfl):de md ops Q a0 l kA kS M w0 k:=
 dY hw ho rfl 31 (fun a γ w aU=>by
  refine ⟨#[.string ⟨s.toArray⟩,.slice none 0 0],by go_simp,(N6 _ _ _ _ w).mono ?_⟩;rintro e w' ⟨rfl,hb⟩;exact ⟨⟨_,rfl,by rw[hp];exact ⟨⟨false,⟨s.toArray⟩,none,0,0⟩,rfl,aV.2 ⟨_,rfl,cf⟩⟩⟩,hb⟩)
theorem Ad (s:Str) (ts:List Tm) (x:Nat) {d:Nat} {g:Option (Nat×Bool)}  (hx:Dep md ops a0 l kA kS M w0 k ⟨some d,.call ⟨.value (.func 24),#[.const (.string ⟨s.toArray⟩),.tmp x],ic⟩,ty,pos,ce,g⟩ x (TermsG L ts)) (ho:ops[k]?=some ⟨some d,.call ⟨.value (.func 24),#[.const (.string ⟨s.toArray⟩),.tmp x],ic⟩,ty,pos,ce,g⟩:=by rfl) (hw:Wt md ops a0 l kA kS M w0 k ⟨some d,.call ⟨.value (.func 24),#[.const (.string ⟨s.toArray⟩),.tmp x],ic⟩,ty,pos,ce,g⟩:=by exact fun _ _ _ _=>rfl) (hp:gN l k=FormG L (eo s ts):=by rfl):de md ops Q a0 l kA kS M w0 k:=
 dY hw ho rfl 24 (fun a γ w aU=>by
  obtain ⟨vx,ex,fx⟩:=hx.is aU;obtain ⟨ax,cx,rfl,hx⟩:=fx;refine ⟨#[.string ⟨s.toArray⟩,.slice ax ts.length cx],by go_simp,(DY _ _ _ _ w).mono ?_⟩;rintro e w' ⟨rfl,hb⟩;exact ⟨⟨_,rfl,by rw[hp];exact ⟨⟨1,⟨s.toArray⟩,ax,ts.length,cx,none,0,0⟩,rfl,Ac (hx.move (Gr.keep hb).holds)⟩⟩,hb⟩)
theorem zaE (s:Str) (ts:List Tm) (x:Nat) {d:Nat} {g:Option (Nat×Bool)}  (hx:Dep md ops a0 l kA kS M w0 k ⟨some d,.call ⟨.value (.func 31),#[.const (.string ⟨s.toArray⟩),.tmp x],ic⟩,ty,pos,ce,g⟩ x (TermsG L ts)) (ho:ops[k]?=some ⟨some d,.call ⟨.value (.func 31),#[.const (.string ⟨s.toArray⟩),.tmp x],ic⟩,ty,pos,ce,g⟩:=by rfl) (hw:Wt md ops a0 l kA kS M w0 k ⟨some d,.call ⟨.value (.func 31),#[.const (.string ⟨s.toArray⟩),.tmp x],ic⟩,ty,pos,ce,g⟩:=by exact fun _ _ _ _=>rfl) (hp:gN l k=TermG L (cT s ts):=by rfl):de md ops Q a0 l kA kS M w0 k:=
 dY hw ho rfl 31 (fun a γ w aU=>by
  obtain ⟨vx,ex,fx⟩:=hx.is aU;obtain ⟨ax,cx,rfl,hx⟩:=fx;refine ⟨#[.string ⟨s.toArray⟩,.slice ax ts.length cx],by go_simp,(N6 _ _ _ _ w).mono ?_⟩;rintro e w' ⟨rfl,hb⟩;exact ⟨⟨_,rfl,by rw[hp];exact ⟨⟨false,⟨s.toArray⟩,ax,ts.length,cx⟩,rfl,aV.2 ⟨_,rfl,hx.move (Gr.keep hb).holds⟩⟩⟩,hb⟩)
theorem l9 (o:Int) (s:Str) (fs:List Fm) (x:Nat) {d:Nat} {g:Option (Nat×Bool)}  (hx:Dep md ops a0 l kA kS M w0 k ⟨some d,.call ⟨.value (.func 28),#[.const (.int .u8 o),.const (.string ⟨s.toArray⟩),.tmp x],ic⟩,ty,pos,ce,g⟩ x (FormsG L fs)) (ho:ops[k]?=some ⟨some d,.call ⟨.value (.func 28),#[.const (.int .u8 o),.const (.string ⟨s.toArray⟩),.tmp x],ic⟩,ty,pos,ce,g⟩:=by rfl) (hw:Wt md ops a0 l kA kS M w0 k ⟨some d,.call ⟨.value (.func 28),#[.const (.int .u8 o),.const (.string ⟨s.toArray⟩),.tmp x],ic⟩,ty,pos,ce,g⟩:=by exact fun _ _ _ _=>rfl) (hp:gN l k=FormG L (.mk o s [] fs):=by rfl):de md ops Q a0 l kA kS M w0 k:=
 dY hw ho rfl 28 (fun a γ w aU=>by
  obtain ⟨vx,ex,fx⟩:=hx.is aU;obtain ⟨ax,cx,rfl,hx⟩:=fx;refine ⟨#[.int .u8 o,.string ⟨s.toArray⟩,.slice ax fs.length cx],by go_simp,(Rb _ _ _ _ _ w).mono ?_⟩;rintro e w' ⟨rfl,hb⟩;exact ⟨⟨_,rfl,by rw[hp];exact ⟨⟨o,⟨s.toArray⟩,none,0,0,ax,fs.length,cx⟩,rfl,aW.2 ⟨_,_,rfl,cf,hx.move (Gr.keep hb).holds⟩⟩⟩,hb⟩)
theorem Db {b:Nat} {x y:Tm} (p q:TQ) (c:Nat) (hb:W.heap[b]?=some (.cells #[.bool p.v,.string p.n,.slice p.a p.l p.c,.bool q.v,.string q.n,.slice q.a q.l q.c] T (0,0))) (hok:ok b) (hx:TermV ok W p.val x) (hy:TermV ok W q.val y):TermsV ok W (.slice (some ⟨b,0,none⟩) 2 c) [x,y]:=by
 have pp262:=();exact pm262
theorem Mv {b:Nat} {x y:Fm} (p q:FQ) (c:Nat) (hb:W.heap[b]?=some (.cells #[.int .u8 p.o,.string p.n,.slice p.a p.l p.c,.slice p.b p.m p.e,.int .u8 q.o,.string q.n,.slice q.a q.l q.c,.slice q.b q.m q.e] T (0,0))) (hok:ok b) (hx:FormV ok W p.val x) (hy:FormV ok W q.val y):FormsV ok W (.slice (some ⟨b,0,none⟩) 2 c) [x,y]:=by
 exact pm262
theorem okB.here (hL:∀ b,w0.heap.size<=b->L b) {w:World} (hI:IG M w0 γ w) (o:Obj):okB L γ (w.alloc o) w.heap.size:=(okB.new hI (fun b hb=>hL b (aN hI.1.size hb)) (w':=w.alloc o) _ (aI _) (by simp)).1
theorem xV (s x t:Str)  {d:Nat} {g:Option (Nat×Bool)} (hL:∀ b,w0.heap.size<=b->L b)  (ho:ops[k]?=some ⟨some d,.call ⟨.value (.func 35),#[.const (.string ⟨s.toArray⟩),.const (.string ⟨x.toArray⟩),.const (.string ⟨t.toArray⟩)],ic⟩,ty,pos,ce,g⟩:=by rfl) (hw:Wt md ops a0 l kA kS M w0 k ⟨some d,.call ⟨.value (.func 35),#[.const (.string ⟨s.toArray⟩),.const (.string ⟨x.toArray⟩),.const (.string ⟨t.toArray⟩)],ic⟩,ty,pos,ce,g⟩:=by exact fun _ _ _ _=>rfl) (hp:gN l k=FormG L (BB s x t):=by rfl):de md ops Q a0 l kA kS M w0 k:=
 dY hw ho rfl 35 (fun a γ w aU=>by
  refine ⟨#[.string ⟨s.toArray⟩,.string ⟨x.toArray⟩,.string ⟨t.toArray⟩],by go_simp,(LM _ _ _ w).mono ?_⟩;rintro e w' ⟨⟨kk,c,rfl,hk,T,hc⟩,hb⟩;have E7:=(okB.new aU.inv (L:=L) (fun b hb=>hL b (aN aU.inv.1.size hb)) kk hk (bz hc)).1;exact ⟨⟨_,rfl,by rw[hp];exact ⟨⟨16,⟨s.toArray⟩,some ⟨kk,0,none⟩,2,c,none,0,0⟩,rfl,aW.2 ⟨_,_,rfl,Db ⟨true,⟨x.toArray⟩,none,0,0⟩ ⟨true,⟨t.toArray⟩,none,0,0⟩ c hc E7 (aV.2 ⟨_,rfl,cf⟩) (aV.2 ⟨_,rfl,cf⟩),gh⟩⟩⟩,hb⟩)
theorem Ae (s f:Fm) (b b2:Bd) (i:Nat) (er:Int) (hR:cd [(s,f)] b=(b2,i,er)) (hs:fitF s) (hf:fitF f) (hb:BdFit b) (x:Nat) (y:Nat) (z:Nat) {d:Nat} {g:Option (Nat×Bool)} (hT:Tabs Wb w0) (hM:∀ b,M b->Wb.heap.size<=b) (hL:∀ b,w0.heap.size<=b->L b) (hx:Dep md ops a0 l kA kS M w0 k ⟨some d,.call ⟨.value (.func 20),#[.tmp x,.tmp y,.tmp z],ic⟩,ty,pos,ce,g⟩ x (FormG L s)) (hy:Dep md ops a0 l kA kS M w0 k ⟨some d,.call ⟨.value (.func 20),#[.tmp x,.tmp y,.tmp z],ic⟩,ty,pos,ce,g⟩ y (FormG L f)) (hz:Dep md ops a0 l kA kS M w0 k ⟨some d,.call ⟨.value (.func 20),#[.tmp x,.tmp y,.tmp z],ic⟩,ty,pos,ce,g⟩ z (BindG L b)) (ho:ops[k]?=some ⟨some d,.call ⟨.value (.func 20),#[.tmp x,.tmp y,.tmp z],ic⟩,ty,pos,ce,g⟩:=by rfl) (hw:Wt md ops a0 l kA kS M w0 k ⟨some d,.call ⟨.value (.func 20),#[.tmp x,.tmp y,.tmp z],ic⟩,ty,pos,ce,g⟩:=by exact fun _ _ _ _=>rfl) (hp:gN l k=(fY (bF L b2) [.int .i64 er]).p:=by rfl):de md ops Q a0 l kA kS M w0 k:=
 dY hw ho rfl 20 (fun a γ w aU=>by
  obtain ⟨vx,ex,fx⟩:=hx.is aU;obtain ⟨vy,ey,fy⟩:=hy.is aU;obtain ⟨vz,ez,fz⟩:=hz.is aU;obtain ⟨qx,rfl,hx⟩:=fx;obtain ⟨qy,rfl,hy⟩:=fy;obtain ⟨qz,rfl,hz⟩:=fz;refine ⟨#[qx.val,qy.val,qz.val],by go_simp,(Ms Wb s f b hs hf hb _ _ _ w qx qy qz (hT.kp aU.inv.1 hM) hx hy hz).mono ?_⟩;rw[hR];rintro e w' ⟨⟨u,rfl,hu⟩,hb⟩;exact ⟨⟨_,rfl,by rw[hp];exact ⟨_,rfl,u,rfl,hu.move (okB.new aU.inv (fun b hb=>hL b (aN aU.inv.1.size hb)))⟩⟩,hb⟩)
theorem l_ (ps:List (Fm×Fm)) (b b2:Bd) (i:Nat) (er:Int) (hR:cd ps b=(b2,i,er)) (hl:ps.length<=8) (hs:∀ x∈ps,fitF x.1/\fitF x.2) (hb:BdFit b) (x:Nat) (z:Nat) {d:Nat} {g:Option (Nat×Bool)} (hT:Tabs Wb w0) (hM:∀ b,M b->Wb.heap.size<=b) (hL:∀ b,w0.heap.size<=b->L b) (hx:Dep md ops a0 l kA kS M w0 k ⟨some d,.call ⟨.value (.func 15),#[.tmp x,.tmp z],ic⟩,ty,pos,ce,g⟩ x (sG L ps)) (hz:Dep md ops a0 l kA kS M w0 k ⟨some d,.call ⟨.value (.func 15),#[.tmp x,.tmp z],ic⟩,ty,pos,ce,g⟩ z (BindG L b)) (ho:ops[k]?=some ⟨some d,.call ⟨.value (.func 15),#[.tmp x,.tmp z],ic⟩,ty,pos,ce,g⟩:=by rfl) (hw:Wt md ops a0 l kA kS M w0 k ⟨some d,.call ⟨.value (.func 15),#[.tmp x,.tmp z],ic⟩,ty,pos,ce,g⟩:=by exact fun _ _ _ _=>rfl) (hp:gN l k=(fY (bF L b2) [.int .i64 (i:Int),.int .i64 er]).p:=by rfl):de md ops Q a0 l kA kS M w0 k:=
 dY hw ho rfl 15 (fun a γ w aU=>by
  obtain ⟨vx,ex,fx⟩:=hx.is aU;obtain ⟨vz,ez,fz⟩:=hz.is aU;obtain ⟨ax,cx,rfl,hx⟩:=fx;obtain ⟨qz,rfl,hz⟩:=fz;refine ⟨#[.slice ax ps.length cx,qz.val],by go_simp,(wO Wb ps b hl hs hb (okB L γ w) w ax cx qz (hT.kp aU.inv.1 hM) hx hz).mono ?_⟩;rw[hR];rintro e w' ⟨⟨u,rfl,hu⟩,hb⟩;exact ⟨⟨_,rfl,by rw[hp];exact ⟨_,rfl,u,rfl,hu.move (okB.new aU.inv (fun b hb=>hL b (aN aU.inv.1.size hb)))⟩⟩,hb⟩)
theorem KW (b:Bd) (n:Str) (hF:b.fs.length<=1000000) (az:∀ x∈b.fs,fitF x.2) (x:Nat) {d:Nat} {g:Option (Nat×Bool)} (hL:∀ b,w0.heap.size<=b->L b) (hx:Dep md ops a0 l kA kS M w0 k ⟨some d,.call ⟨.value (.func 16),#[.tmp x,.const (.string ⟨n.toArray⟩)],ic⟩,ty,pos,ce,g⟩ x (BindG L b)) (ho:ops[k]?=some ⟨some d,.call ⟨.value (.func 16),#[.tmp x,.const (.string ⟨n.toArray⟩)],ic⟩,ty,pos,ce,g⟩:=by rfl) (hw:Wt md ops a0 l kA kS M w0 k ⟨some d,.call ⟨.value (.func 16),#[.tmp x,.const (.string ⟨n.toArray⟩)],ic⟩,ty,pos,ce,g⟩:=by exact fun _ _ _ _=>rfl) (hp:gN l k=(fY (bi L ((getB b.fs n).getD j6)) [.bool (getB b.fs n).isSome]).p:=by rfl):de md ops Q a0 l kA kS M w0 k:=
 dY hw ho rfl 16 (fun a γ w aU=>by
  obtain ⟨vx,ex,fx⟩:=hx.is aU;obtain ⟨qx,rfl,hx⟩:=fx;refine ⟨#[qx.val,.string ⟨n.toArray⟩],by go_simp,(CU b hF az n _ w qx hx).mono ?_⟩;rintro e w' ⟨⟨u,rfl,hu⟩,hb⟩;exact ⟨⟨_,rfl,by rw[hp];exact ⟨_,rfl,u,rfl,hu.move (okB.new aU.inv (fun b hb=>hL b (aN aU.inv.1.size hb)))⟩⟩,hb⟩)
theorem Sk (b:Bd) (n:Str) (hF:b.ts.length<=1000000) (az:∀ x∈b.ts,fitT x.2) (x:Nat) {d:Nat} {g:Option (Nat×Bool)} (hL:∀ b,w0.heap.size<=b->L b) (hx:Dep md ops a0 l kA kS M w0 k ⟨some d,.call ⟨.value (.func 18),#[.tmp x,.const (.string ⟨n.toArray⟩)],ic⟩,ty,pos,ce,g⟩ x (BindG L b)) (ho:ops[k]?=some ⟨some d,.call ⟨.value (.func 18),#[.tmp x,.const (.string ⟨n.toArray⟩)],ic⟩,ty,pos,ce,g⟩:=by rfl) (hw:Wt md ops a0 l kA kS M w0 k ⟨some d,.call ⟨.value (.func 18),#[.tmp x,.const (.string ⟨n.toArray⟩)],ic⟩,ty,pos,ce,g⟩:=by exact fun _ _ _ _=>rfl) (hp:gN l k=(fY (dP L ((getB b.ts n).getD Gp)) [.bool (getB b.ts n).isSome]).p:=by rfl):de md ops Q a0 l kA kS M w0 k:=
 dY hw ho rfl 18 (fun a γ w aU=>by
  obtain ⟨vx,ex,fx⟩:=hx.is aU;obtain ⟨qx,rfl,hx⟩:=fx;refine ⟨#[qx.val,.string ⟨n.toArray⟩],by go_simp,(CW b hF az n _ w qx hx).mono ?_⟩;rintro e w' ⟨⟨u,rfl,hu⟩,hb⟩;exact ⟨⟨_,rfl,by rw[hp];exact ⟨_,rfl,u,rfl,hu.move (okB.new aU.inv (fun b hb=>hL b (aN aU.inv.1.size hb)))⟩⟩,hb⟩)
theorem tZ (f g2:Fm) (hf:fitF f) (x:Nat) (y:Nat) {d:Nat} {g:Option (Nat×Bool)}  (hx:Dep md ops a0 l kA kS M w0 k ⟨some d,.call ⟨.value (.func 17),#[.tmp x,.tmp y],ic⟩,ty,pos,ce,g⟩ x (FormG L f)) (hy:Dep md ops a0 l kA kS M w0 k ⟨some d,.call ⟨.value (.func 17),#[.tmp x,.tmp y],ic⟩,ty,pos,ce,g⟩ y (FormG L g2)) (ho:ops[k]?=some ⟨some d,.call ⟨.value (.func 17),#[.tmp x,.tmp y],ic⟩,ty,pos,ce,g⟩:=by rfl) (hw:Wt md ops a0 l kA kS M w0 k ⟨some d,.call ⟨.value (.func 17),#[.tmp x,.tmp y],ic⟩,ty,pos,ce,g⟩:=by exact fun _ _ _ _=>rfl) (hp:gN l k=fun v _ _=>v=.bool (uM f g2):=by rfl):de md ops Q a0 l kA kS M w0 k:=
 dY hw ho rfl 17 (fun a γ w aU=>by
  obtain ⟨vx,ex,fx⟩:=hx.is aU;obtain ⟨vy,ey,fy⟩:=hy.is aU;obtain ⟨qx,rfl,hx⟩:=fx;obtain ⟨qy,rfl,hy⟩:=fy;refine ⟨#[qx.val,qy.val],by go_simp,(GY f g2 _ _ w qx qy hf hx hy).mono ?_⟩;rintro e w' ⟨rfl,hb⟩;exact ⟨⟨_,rfl,by rw[hp]⟩,hb⟩)
theorem G0 (f g2:List Tm) (hf:fitTs f) (x:Nat) (y:Nat) {d:Nat} {g:Option (Nat×Bool)}  (hx:Dep md ops a0 l kA kS M w0 k ⟨some d,.call ⟨.value (.func 19),#[.tmp x,.tmp y],ic⟩,ty,pos,ce,g⟩ x (TermsG L f)) (hy:Dep md ops a0 l kA kS M w0 k ⟨some d,.call ⟨.value (.func 19),#[.tmp x,.tmp y],ic⟩,ty,pos,ce,g⟩ y (TermsG L g2)) (ho:ops[k]?=some ⟨some d,.call ⟨.value (.func 19),#[.tmp x,.tmp y],ic⟩,ty,pos,ce,g⟩:=by rfl) (hw:Wt md ops a0 l kA kS M w0 k ⟨some d,.call ⟨.value (.func 19),#[.tmp x,.tmp y],ic⟩,ty,pos,ce,g⟩:=by exact fun _ _ _ _=>rfl) (hp:gN l k=fun v _ _=>v=.bool (iE f g2):=by rfl):de md ops Q a0 l kA kS M w0 k:=
 dY hw ho rfl 19 (fun a γ w aU=>by
  obtain ⟨vx,ex,fx⟩:=hx.is aU;obtain ⟨vy,ey,fy⟩:=hy.is aU;obtain ⟨ax,cx,rfl,hx⟩:=fx;obtain ⟨ay,cy,rfl,hy⟩:=fy;refine ⟨#[.slice ax f.length cx,.slice ay g2.length cy],by go_simp,(mV f g2 _ _ w ax _ cx ay _ cy hf hx hy).mono ?_⟩;rintro e w' ⟨rfl,hb⟩;exact ⟨⟨_,rfl,by rw[hp]⟩,hb⟩)
theorem EI (s f:Fm) (b:Bd) (er:Int) (hR:vX s b=(f,er)) (hs:fitF s) (hb:BdFit b) (x:Nat) (z:Nat) {d:Nat} {g:Option (Nat×Bool)} (hT:Tabs Wb w0) (hM:∀ b,M b->Wb.heap.size<=b) (hL:∀ b,w0.heap.size<=b->L b) (hx:Dep md ops a0 l kA kS M w0 k ⟨some d,.call ⟨.value (.func 32),#[.tmp x,.tmp z],ic⟩,ty,pos,ce,g⟩ x (FormG L s)) (hz:Dep md ops a0 l kA kS M w0 k ⟨some d,.call ⟨.value (.func 32),#[.tmp x,.tmp z],ic⟩,ty,pos,ce,g⟩ z (BindG L b)) (ho:ops[k]?=some ⟨some d,.call ⟨.value (.func 32),#[.tmp x,.tmp z],ic⟩,ty,pos,ce,g⟩:=by rfl) (hw:Wt md ops a0 l kA kS M w0 k ⟨some d,.call ⟨.value (.func 32),#[.tmp x,.tmp z],ic⟩,ty,pos,ce,g⟩:=by exact fun _ _ _ _=>rfl) (hp:gN l k=(fY (bi L f) [.int .i64 er]).p:=by rfl):de md ops Q a0 l kA kS M w0 k:=
 dY hw ho rfl 32 (fun a γ w aU=>by
  obtain ⟨vx,ex,fx⟩:=hx.is aU;obtain ⟨vz,ez,fz⟩:=hz.is aU;obtain ⟨qx,rfl,hx⟩:=fx;obtain ⟨qz,rfl,hz⟩:=fz;refine ⟨#[qx.val,qz.val],by go_simp,(Px Wb s b hs hb (okB L γ w) w qx qz (hT.kp aU.inv.1 hM) hx hz).mono ?_⟩;rw[hR];rintro e w' ⟨⟨u,rfl,hu⟩,hb⟩;exact ⟨⟨_,rfl,by rw[hp];exact ⟨_,rfl,u,rfl,hu.move (okB.new aU.inv (fun b hb=>hL b (aN aU.inv.1.size hb)))⟩⟩,hb⟩)
theorem PD (b:Bd) (hb:BdFit b) (x:Nat) {d:Nat} {g:Option (Nat×Bool)} (hT:Tabs Wb w0) (hM:∀ b,M b->Wb.heap.size<=b) (hx:Dep md ops a0 l kA kS M w0 k ⟨some d,.call ⟨.value (.func 27),#[.tmp x],ic⟩,ty,pos,ce,g⟩ x (BindG L b)) (ho:ops[k]?=some ⟨some d,.call ⟨.value (.func 27),#[.tmp x],ic⟩,ty,pos,ce,g⟩:=by rfl) (hw:Wt md ops a0 l kA kS M w0 k ⟨some d,.call ⟨.value (.func 27),#[.tmp x],ic⟩,ty,pos,ce,g⟩:=by exact fun _ _ _ _=>rfl) (hp:gN l k=fun v _ _=>v=.bool (bL b):=by rfl):de md ops Q a0 l kA kS M w0 k:=
 dY hw ho rfl 27 (fun a γ w aU=>by
  obtain ⟨vx,ex,fx⟩:=hx.is aU;obtain ⟨qx,rfl,hx⟩:=fx;refine ⟨#[qx.val],by go_simp,(vO Wb b hb (okB L γ w) w (hT.kp aU.inv.1 hM) qx hx).mono ?_⟩;rintro e w' ⟨rfl,hb⟩;exact ⟨⟨_,rfl,by rw[hp]⟩,hb⟩)
end
section
variable {ops:Array Oper} {Q:Exit->Act->World->Prop} {a0:Act} {l:List Fact} {kA kS k:Nat} {M:Nat->Prop} {w0:World} {md:Region.Mode} {L:Nat->Prop}
theorem qj {d:Nat} (hw:Wt md ops a0 l kA kS M w0 k o) (ho:ops[k]?=some o) (hd:o.dst=some d)
  (h:∀ a γ w,YK md ops a0 l kA kS M w0 k o a γ w->∃v cs T,(execOp a.eval o).run Tryz.prog w=.ok (.value v) (w.alloc (.cells cs T))/\gN l k v γ (w.alloc (.cells cs T))):de md ops Q a0 l kA kS M w0 k:=
 dr ho hd (fun _=>trivial) rfl (fun a γ w aU=>by
  obtain ⟨v,cs,T,h1,h2⟩:=h a γ w aU;exact ⟨hw a γ w aU,v,γ,_,h1,Gr.keep cJ,fun _ _ h=>h,h2⟩)
theorem jU {w:World} (o:Obj):Gr γ w γ (w.alloc o):=Gr.keep cJ
theorem JC {X:World} {B:Nat} {p:FQ} (h:FormV ok X p.val f) (hB:ok B) (hx:X.heap[B]?=some (.cells #[.int .u8 p.o,.string p.n,.slice p.a p.l p.c,.slice p.b p.m p.e] T (0,0))):FormsV ok X (.slice (some ⟨B,0,none⟩) 1 c) [f]:=
 ⟨_,c,fun _=>p.val,rfl,.inr ⟨B,0,rfl,hB,fun j hj=>by
  obtain rfl:j=0:=by simpa using hj
  exact ⟨_,_,_,_,rfl,ai hx 0,ai hx 1,ai hx 2,ai hx 3⟩⟩,fun j hj=>by
  obtain rfl:j=0:=by simpa using hj
  exact h⟩
variable (hL:∀ b,w0.heap.size<=b->L b)
include hL
theorem iW (f:Fm) (x:Nat) {d:Nat} {g:Option (Nat×Bool)} (hx:Dep md ops a0 l kA kS M w0 k ⟨some d,.buildSlice 34 1 #[(0,.tmp x)],ty,pos,ce,g⟩ x (FormG L f)) (ho:ops[k]?=some ⟨some d,.buildSlice 34 1 #[(0,.tmp x)],ty,pos,ce,g⟩:=by rfl) (hw:Wt md ops a0 l kA kS M w0 k ⟨some d,.buildSlice 34 1 #[(0,.tmp x)],ty,pos,ce,g⟩:=by exact fun _ _ _ _=>rfl) (hp:gN l k=FormsG L [f]:=by rfl):de md ops Q a0 l kA kS M w0 k:=
 qj hw ho rfl (fun a γ w aU=>by
  obtain ⟨vx,ex,q,rfl,hq⟩:=hx a γ w aU;refine ⟨.slice (some ⟨w.heap.size,0,none⟩) 1 1,#[.int .u8 q.o,.string q.n,.slice q.a q.l q.c,.slice q.b q.m q.e],36,by simp only[FQ.val]at ex;go_simp,?_⟩;rw[hp];exact ⟨_,_,rfl,JC (hq.move (jU _).holds) (okB.here hL aU.inv _) (aj rfl)⟩)
theorem qk (f f2:Fm) (x y:Nat) {d:Nat} {g:Option (Nat×Bool)} (hx:Dep md ops a0 l kA kS M w0 k ⟨some d,.buildSlice 34 2 #[(0,.tmp x),(1,.tmp y)],ty,pos,ce,g⟩ x (FormG L f)) (hy:Dep md ops a0 l kA kS M w0 k ⟨some d,.buildSlice 34 2 #[(0,.tmp x),(1,.tmp y)],ty,pos,ce,g⟩ y (FormG L f2)) (ho:ops[k]?=some ⟨some d,.buildSlice 34 2 #[(0,.tmp x),(1,.tmp y)],ty,pos,ce,g⟩:=by rfl) (hw:Wt md ops a0 l kA kS M w0 k ⟨some d,.buildSlice 34 2 #[(0,.tmp x),(1,.tmp y)],ty,pos,ce,g⟩:=by exact fun _ _ _ _=>rfl) (hp:gN l k=FormsG L [f,f2]:=by rfl):de md ops Q a0 l kA kS M w0 k:=
 qj hw ho rfl (fun a γ w aU=>by
  obtain ⟨vx,ex,q,rfl,hq⟩:=hx a γ w aU;obtain ⟨vy,ey,r,rfl,hr⟩:=hy a γ w aU;refine ⟨.slice (some ⟨w.heap.size,0,none⟩) 2 2,#[.int .u8 q.o,.string q.n,.slice q.a q.l q.c,.slice q.b q.m q.e,.int .u8 r.o,.string r.n,.slice r.a r.l r.c,.slice r.b r.m r.e],36,by simp only[FQ.val]at ex ey;go_simp,?_⟩;rw[hp];exact ⟨_,_,rfl,Mv q r _ (aj rfl) (okB.here hL aU.inv _) (hq.move (jU _).holds) (hr.move (jU _).holds)⟩)
theorem iX (f:Tm) (x:Nat) {d:Nat} {g:Option (Nat×Bool)} (hx:Dep md ops a0 l kA kS M w0 k ⟨some d,.buildSlice 33 1 #[(0,.tmp x)],ty,pos,ce,g⟩ x (TermG L f)) (ho:ops[k]?=some ⟨some d,.buildSlice 33 1 #[(0,.tmp x)],ty,pos,ce,g⟩:=by rfl) (hw:Wt md ops a0 l kA kS M w0 k ⟨some d,.buildSlice 33 1 #[(0,.tmp x)],ty,pos,ce,g⟩:=by exact fun _ _ _ _=>rfl) (hp:gN l k=TermsG L [f]:=by rfl):de md ops Q a0 l kA kS M w0 k:=
 qj hw ho rfl (fun a γ w aU=>by
  obtain ⟨vx,ex,q,rfl,hq⟩:=hx a γ w aU;refine ⟨.slice (some ⟨w.heap.size,0,none⟩) 1 1,#[.bool q.v,.string q.n,.slice q.a q.l q.c],43,by simp only[TQ.val]at ex;go_simp,?_⟩;rw[hp];exact ⟨_,_,rfl,TermsV.one 1 (hq.move (jU _).holds) (okB.here hL aU.inv _) (aj rfl)⟩)
theorem ma (f f2:Tm) (x y:Nat) {d:Nat} {g:Option (Nat×Bool)} (hx:Dep md ops a0 l kA kS M w0 k ⟨some d,.buildSlice 33 2 #[(0,.tmp x),(1,.tmp y)],ty,pos,ce,g⟩ x (TermG L f)) (hy:Dep md ops a0 l kA kS M w0 k ⟨some d,.buildSlice 33 2 #[(0,.tmp x),(1,.tmp y)],ty,pos,ce,g⟩ y (TermG L f2)) (ho:ops[k]?=some ⟨some d,.buildSlice 33 2 #[(0,.tmp x),(1,.tmp y)],ty,pos,ce,g⟩:=by rfl) (hw:Wt md ops a0 l kA kS M w0 k ⟨some d,.buildSlice 33 2 #[(0,.tmp x),(1,.tmp y)],ty,pos,ce,g⟩:=by exact fun _ _ _ _=>rfl) (hp:gN l k=TermsG L [f,f2]:=by rfl):de md ops Q a0 l kA kS M w0 k:=
 qj hw ho rfl (fun a γ w aU=>by
  obtain ⟨vx,ex,q,rfl,hq⟩:=hx a γ w aU;obtain ⟨vy,ey,r,rfl,hr⟩:=hy a γ w aU;refine ⟨.slice (some ⟨w.heap.size,0,none⟩) 2 2,#[.bool q.v,.string q.n,.slice q.a q.l q.c,.bool r.v,.string r.n,.slice r.a r.l r.c],43,by simp only[TQ.val]at ex ey;go_simp,?_⟩;rw[hp];exact ⟨_,_,rfl,Db q r _ (aj rfl) (okB.here hL aU.inv _) (hq.move (jU _).holds) (hr.move (jU _).holds)⟩)
theorem Af (f f2 h1 h2:Fm) (x y:Nat) {d:Nat} {g:Option (Nat×Bool)} (hx:Dep md ops a0 l kA kS M w0 k ⟨some d,.buildSlice 22 2 #[(0,.tmp x),(1,.tmp y)],ty,pos,ce,g⟩ x (Da L f f2)) (hy:Dep md ops a0 l kA kS M w0 k ⟨some d,.buildSlice 22 2 #[(0,.tmp x),(1,.tmp y)],ty,pos,ce,g⟩ y (Da L h1 h2)) (ho:ops[k]?=some ⟨some d,.buildSlice 22 2 #[(0,.tmp x),(1,.tmp y)],ty,pos,ce,g⟩:=by rfl) (hw:Wt md ops a0 l kA kS M w0 k ⟨some d,.buildSlice 22 2 #[(0,.tmp x),(1,.tmp y)],ty,pos,ce,g⟩:=by exact fun _ _ _ _=>rfl) (hp:gN l k=sG L [(f,f2),(h1,h2)]:=by rfl):de md ops Q a0 l kA kS M w0 k:=
 qj hw ho rfl (fun a γ w aU=>by
  obtain ⟨vx,ex,q,r,rfl,hq,hr⟩:=hx a γ w aU;obtain ⟨vy,ey,q2,r2,rfl,Fa,QD⟩:=hy a γ w aU;refine ⟨.slice (some ⟨w.heap.size,0,none⟩) 2 2,#[.int .u8 q.o,.string q.n,.slice q.a q.l q.c,.slice q.b q.m q.e,.int .u8 r.o,.string r.n,.slice r.a r.l r.c,.slice r.b r.m r.e,.int .u8 q2.o,.string q2.n,.slice q2.a q2.l q2.c,.slice q2.b q2.m q2.e,.int .u8 r2.o,.string r2.n,.slice r2.a r2.l r2.c,.slice r2.b r2.m r2.e],50,by go_simp,?_⟩;rw[hp];have hx:=aj (w:=w) (o:=.cells #[.int .u8 q.o,.string q.n,.slice q.a q.l q.c,.slice q.b q.m q.e,.int .u8 r.o,.string r.n,.slice r.a r.l r.c,.slice r.b r.m r.e,.int .u8 q2.o,.string q2.n,.slice q2.a q2.l q2.c,.slice q2.b q2.m q2.e,.int .u8 r2.o,.string r2.n,.slice r2.a r2.l r2.c,.slice r2.b r2.m r2.e] 50) rfl;have C:=fun i=>aE hx i;refine ⟨_,_,rfl,some ⟨w.heap.size,0,none⟩,2,fun j=>if j=0 then q else q2,fun j=>if j=0 then r else r2,rfl,aI _,.inr ⟨w.heap.size,0,rfl,okB.here hL aU.inv _,fun j hj=>?_⟩,fun j hj=>?_⟩
  ·rcases j with _ | _ | j
   ·exact ⟨(C 0).trans rfl,(C 1).trans rfl,(C 2).trans rfl,(C 3).trans rfl,(C 4).trans rfl,(C 5).trans rfl,(C 6).trans rfl,(C 7).trans rfl⟩
   ·exact ⟨(C 8).trans rfl,(C 9).trans rfl,(C 10).trans rfl,(C 11).trans rfl,(C 12).trans rfl,(C 13).trans rfl,(C 14).trans rfl,(C 15).trans rfl⟩
   ·simp at hj;omega
  ·rcases j with _ | _ | j
   ·exact ⟨hq.move (jU _).holds,hr.move (jU _).holds⟩
   ·exact ⟨Fa.move (jU _).holds,QD.move (jU _).holds⟩
   ·simp at hj;omega)
end
section
variable {ops:Array Oper} {Q:Exit->Act->World->Prop} {a0:Act} {l:List Fact} {kA kS k:Nat} {M:Nat->Prop} {w0:World} {md:Region.Mode} {L:Nat->Prop}
abbrev ptr (b:Nat):Value:=.pointer (some ⟨b,0,none⟩)
theorem PE (n:Str) (f:Fm) (x:Nat) {d:Nat} {g:Option (Nat×Bool)} (hL:∀ b,w0.heap.size<=b->L b) (hx:Dep md ops a0 l kA kS M w0 k ⟨some d,.buildSlice 23 1 #[(0,.tmp x)],ty,pos,ce,g⟩ x (FBG L n f)) (ho:ops[k]?=some ⟨some d,.buildSlice 23 1 #[(0,.tmp x)],ty,pos,ce,g⟩:=by rfl) (hw:Wt md ops a0 l kA kS M w0 k ⟨some d,.buildSlice 23 1 #[(0,.tmp x)],ty,pos,ce,g⟩:=by exact fun _ _ _ _=>rfl) (hp:gN l k=WY L [(n,f)]:=by rfl):de md ops Q a0 l kA kS M w0 k:=
 qj hw ho rfl (fun a γ w aU=>by
  obtain ⟨vx,ex,q,rfl,hq⟩:=hx a γ w aU;refine ⟨.slice (some ⟨w.heap.size,0,none⟩) 1 1,#[.string ⟨n.toArray⟩,.int .u8 q.o,.string q.n,.slice q.a q.l q.c,.slice q.b q.m q.e],40,by go_simp,?_⟩;rw[hp];have hx:=aj (w:=w) (o:=.cells #[.string ⟨n.toArray⟩,.int .u8 q.o,.string q.n,.slice q.a q.l q.c,.slice q.b q.m q.e] 40) rfl;have C:=fun i=>aE hx i;refine ⟨_,_,rfl,some ⟨w.heap.size,0,none⟩,1,fun _=>q,rfl,aI _,.inr ⟨w.heap.size,0,rfl,okB.here hL aU.inv _,fun j hj=>?_⟩,fun j hj=>?_⟩
  ·obtain rfl:j=0:=by simpa using hj
   exact ⟨(C 0).trans rfl,(C 1).trans rfl,(C 2).trans rfl,(C 3).trans rfl,(C 4).trans rfl⟩
  ·obtain rfl:j=0:=by simpa using hj
   exact hq.move (jU _).holds)
theorem PG (n:Str) (f:Tm) (x:Nat) {d:Nat} {g:Option (Nat×Bool)} (hL:∀ b,w0.heap.size<=b->L b) (hx:Dep md ops a0 l kA kS M w0 k ⟨some d,.buildSlice 24 1 #[(0,.tmp x)],ty,pos,ce,g⟩ x (TBG L n f)) (ho:ops[k]?=some ⟨some d,.buildSlice 24 1 #[(0,.tmp x)],ty,pos,ce,g⟩:=by rfl) (hw:Wt md ops a0 l kA kS M w0 k ⟨some d,.buildSlice 24 1 #[(0,.tmp x)],ty,pos,ce,g⟩:=by exact fun _ _ _ _=>rfl) (hp:gN l k=WZ L [(n,f)]:=by rfl):de md ops Q a0 l kA kS M w0 k:=
 qj hw ho rfl (fun a γ w aU=>by
  obtain ⟨vx,ex,q,rfl,hq⟩:=hx a γ w aU;refine ⟨.slice (some ⟨w.heap.size,0,none⟩) 1 1,#[.string ⟨n.toArray⟩,.bool q.v,.string q.n,.slice q.a q.l q.c],47,by go_simp,?_⟩;rw[hp];have hx:=aj (w:=w) (o:=.cells #[.string ⟨n.toArray⟩,.bool q.v,.string q.n,.slice q.a q.l q.c] 47) rfl;have C:=fun i=>aE hx i;refine ⟨_,_,rfl,some ⟨w.heap.size,0,none⟩,1,fun _=>q,rfl,aI _,.inr ⟨w.heap.size,0,rfl,okB.here hL aU.inv _,fun j hj=>?_⟩,fun j hj=>?_⟩
  ·obtain rfl:j=0:=by simpa using hj
   exact ⟨(C 0).trans rfl,(C 1).trans rfl,(C 2).trans rfl,(C 3).trans rfl⟩
  ·obtain rfl:j=0:=by simpa using hj
   exact hq.move (jU _).holds)
theorem qP (f f2:Fm) (x:Nat) (y:Nat) {d:Nat} {g:Option (Nat×Bool)}  (hx:Dep md ops a0 l kA kS M w0 k ⟨some d,.build 50 #[(0,.tmp x),(1,.tmp y)],ty,pos,ce,g⟩ x (FormG L f)) (hy:Dep md ops a0 l kA kS M w0 k ⟨some d,.build 50 #[(0,.tmp x),(1,.tmp y)],ty,pos,ce,g⟩ y (FormG L f2)) (ho:ops[k]?=some ⟨some d,.build 50 #[(0,.tmp x),(1,.tmp y)],ty,pos,ce,g⟩:=by rfl) (hw:Wt md ops a0 l kA kS M w0 k ⟨some d,.build 50 #[(0,.tmp x),(1,.tmp y)],ty,pos,ce,g⟩:=by exact fun _ _ _ _=>rfl) (hp:gN l k=Da L f f2:=by rfl):de md ops Q a0 l kA kS M w0 k:=
 eJ hw ho rfl (fun a γ w aU=>by
  obtain ⟨vx,ex,q,rfl,hq⟩:=hx a γ w aU;obtain ⟨vy,ey,r,rfl,hr⟩:=hy a γ w aU;exact ⟨.agg #[.int .u8 q.o,.string q.n,.slice q.a q.l q.c,.slice q.b q.m q.e,.int .u8 r.o,.string r.n,.slice r.a r.l r.c,.slice r.b r.m r.e],by simp only[FQ.val]at ex ey;go_simp,by rw[hp];exact ⟨q,r,rfl,hq,hr⟩⟩)
theorem zaF (n:Str) (f:Fm) (x:Nat) {d:Nat} {g:Option (Nat×Bool)}  (hx:Dep md ops a0 l kA kS M w0 k ⟨some d,.build 40 #[(0,.const (.string ⟨n.toArray⟩)),(1,.tmp x)],ty,pos,ce,g⟩ x (FormG L f)) (ho:ops[k]?=some ⟨some d,.build 40 #[(0,.const (.string ⟨n.toArray⟩)),(1,.tmp x)],ty,pos,ce,g⟩:=by rfl) (hw:Wt md ops a0 l kA kS M w0 k ⟨some d,.build 40 #[(0,.const (.string ⟨n.toArray⟩)),(1,.tmp x)],ty,pos,ce,g⟩:=by exact fun _ _ _ _=>rfl) (hp:gN l k=FBG L n f:=by rfl):de md ops Q a0 l kA kS M w0 k:=
 eJ hw ho rfl (fun a γ w aU=>by
  obtain ⟨vx,ex,q,rfl,hq⟩:=hx a γ w aU;exact ⟨.agg #[.string ⟨n.toArray⟩,.int .u8 q.o,.string q.n,.slice q.a q.l q.c,.slice q.b q.m q.e],by simp only[FQ.val]at ex;go_simp,by rw[hp];exact ⟨q,rfl,hq⟩⟩)
theorem zaG (n:Str) (f:Tm) (x:Nat) {d:Nat} {g:Option (Nat×Bool)}  (hx:Dep md ops a0 l kA kS M w0 k ⟨some d,.build 47 #[(0,.const (.string ⟨n.toArray⟩)),(1,.tmp x)],ty,pos,ce,g⟩ x (TermG L f)) (ho:ops[k]?=some ⟨some d,.build 47 #[(0,.const (.string ⟨n.toArray⟩)),(1,.tmp x)],ty,pos,ce,g⟩:=by rfl) (hw:Wt md ops a0 l kA kS M w0 k ⟨some d,.build 47 #[(0,.const (.string ⟨n.toArray⟩)),(1,.tmp x)],ty,pos,ce,g⟩:=by exact fun _ _ _ _=>rfl) (hp:gN l k=TBG L n f:=by rfl):de md ops Q a0 l kA kS M w0 k:=
 eJ hw ho rfl (fun a γ w aU=>by
  obtain ⟨vx,ex,q,rfl,hq⟩:=hx a γ w aU;exact ⟨.agg #[.string ⟨n.toArray⟩,.bool q.v,.string q.n,.slice q.a q.l q.c],by simp only[TQ.val]at ex;go_simp,by rw[hp];exact ⟨q,rfl,hq⟩⟩)
theorem Sl (fs:List (Str×Fm)) (ts:List (Str×Tm)) (x:Nat) (y:Nat) {d:Nat} {g:Option (Nat×Bool)}  (hx:Dep md ops a0 l kA kS M w0 k ⟨some d,.build 26 #[(0,.tmp x),(1,.tmp y)],ty,pos,ce,g⟩ x (WY L fs)) (hy:Dep md ops a0 l kA kS M w0 k ⟨some d,.build 26 #[(0,.tmp x),(1,.tmp y)],ty,pos,ce,g⟩ y (WZ L ts)) (ho:ops[k]?=some ⟨some d,.build 26 #[(0,.tmp x),(1,.tmp y)],ty,pos,ce,g⟩:=by rfl) (hw:Wt md ops a0 l kA kS M w0 k ⟨some d,.build 26 #[(0,.tmp x),(1,.tmp y)],ty,pos,ce,g⟩:=by exact fun _ _ _ _=>rfl) (hp:gN l k=BindG L ⟨fs,ts⟩:=by rfl):de md ops Q a0 l kA kS M w0 k:=
 eJ hw ho rfl (fun a γ w aU=>by
  obtain ⟨vx,ex,ax,cx,rfl,hx⟩:=hx a γ w aU;obtain ⟨vy,ey,ay,cy,rfl,hy⟩:=hy a γ w aU;exact ⟨BQ.val ⟨ax,fs.length,cx,ay,ts.length,cy⟩,by simp only[BQ.val];go_simp,by rw[hp];exact ⟨⟨ax,fs.length,cx,ay,ts.length,cy⟩,rfl,hx,hy⟩⟩)
theorem Sm   {d:Nat} {g:Option (Nat×Bool)}   (ho:ops[k]?=some ⟨some d,.build 26 #[],ty,pos,ce,g⟩:=by rfl) (hw:Wt md ops a0 l kA kS M w0 k ⟨some d,.build 26 #[],ty,pos,ce,g⟩:=by exact fun _ _ _ _=>rfl) (hp:gN l k=BindG L ⟨[],[]⟩:=by rfl):de md ops Q a0 l kA kS M w0 k:=
 eJ hw ho rfl (fun a γ w aU=>⟨BQ.val ⟨none,0,0,none,0,0⟩,by simp only[BQ.val];go_simp,by rw[hp];exact ⟨⟨none,0,0,none,0,0⟩,rfl,nA⟩⟩)
theorem iY (q:FQ) (f:Fm) (x:Nat) {d:Nat} {g:Option (Nat×Bool)} {b:Nat} (hb:w0.heap[b]?=some (.cells #[.int .u8 q.o,.string q.n,.slice q.a q.l q.c,.slice q.b q.m q.e] 36 (0,0))) (hM:¬M b) (hv:FormV (T4 L M w0) w0 q.val f) (hx:Dep md ops a0 l kA kS M w0 k ⟨some d,.load 36 (.tmp x),ty,pos,ce,g⟩ x (fun v _ _=>v=ptr b)) (ho:ops[k]?=some ⟨some d,.load 36 (.tmp x),ty,pos,ce,g⟩:=by rfl) (hw:Wt md ops a0 l kA kS M w0 k ⟨some d,.load 36 (.tmp x),ty,pos,ce,g⟩:=by exact fun _ _ _ _=>rfl) (hp:gN l k=FormG L f:=by rfl):de md ops Q a0 l kA kS M w0 k:=
 eJ hw ho rfl (fun a γ w aU=>by
  obtain ⟨vx,ex,rfl⟩:=hx a γ w aU;have hk:=aU.inv.1;have C:=fun i v (h:w0.cell? ⟨b,i,none⟩=some v)=>hk.cell (a:=⟨b,i,none⟩) hM h;have c0:=C 0 _ (ai hb 0);have c1:=C 1 _ (ai hb 1);have c2:=C 2 _ (ai hb 2);have c3:=C 3 _ (ai hb 3);exact ⟨FQ.val q,by simp only[FQ.val];go_simp,by rw[hp];exact ⟨q,rfl,hv.move (okB.old aU.inv)⟩⟩)
theorem G1 (q:TQ) (f:Tm) (x:Nat) {d:Nat} {g:Option (Nat×Bool)} {b:Nat} (hb:w0.heap[b]?=some (.cells #[.bool q.v,.string q.n,.slice q.a q.l q.c] 43 (0,0))) (hM:¬M b) (hv:TermV (T4 L M w0) w0 q.val f) (hx:Dep md ops a0 l kA kS M w0 k ⟨some d,.load 43 (.tmp x),ty,pos,ce,g⟩ x (fun v _ _=>v=ptr b)) (ho:ops[k]?=some ⟨some d,.load 43 (.tmp x),ty,pos,ce,g⟩:=by rfl) (hw:Wt md ops a0 l kA kS M w0 k ⟨some d,.load 43 (.tmp x),ty,pos,ce,g⟩:=by exact fun _ _ _ _=>rfl) (hp:gN l k=TermG L f:=by rfl):de md ops Q a0 l kA kS M w0 k:=
 eJ hw ho rfl (fun a γ w aU=>by
  obtain ⟨vx,ex,rfl⟩:=hx a γ w aU;have hk:=aU.inv.1;have C:=fun i v (h:w0.cell? ⟨b,i,none⟩=some v)=>hk.cell (a:=⟨b,i,none⟩) hM h;have c0:=C 0 _ (ai hb 0);have c1:=C 1 _ (ai hb 1);have c2:=C 2 _ (ai hb 2);exact ⟨TQ.val q,by simp only[TQ.val];go_simp,by rw[hp];exact ⟨q,rfl,hv.move (okB.old aU.inv)⟩⟩)
theorem dq (q:BQ) (f:Bd) (x:Nat) {d:Nat} {g:Option (Nat×Bool)} {b:Nat} (hb:w0.heap[b]?=some (.cells #[.slice q.a q.l q.c,.slice q.b q.m q.e] 26 (0,0))) (hM:¬M b) (hv:BindV (T4 L M w0) w0 q f) (hx:Dep md ops a0 l kA kS M w0 k ⟨some d,.load 26 (.tmp x),ty,pos,ce,g⟩ x (fun v _ _=>v=ptr b)) (ho:ops[k]?=some ⟨some d,.load 26 (.tmp x),ty,pos,ce,g⟩:=by rfl) (hw:Wt md ops a0 l kA kS M w0 k ⟨some d,.load 26 (.tmp x),ty,pos,ce,g⟩:=by exact fun _ _ _ _=>rfl) (hp:gN l k=BindG L f:=by rfl):de md ops Q a0 l kA kS M w0 k:=
 eJ hw ho rfl (fun a γ w aU=>by
  obtain ⟨vx,ex,rfl⟩:=hx a γ w aU;have hk:=aU.inv.1;have C:=fun i v (h:w0.cell? ⟨b,i,none⟩=some v)=>hk.cell (a:=⟨b,i,none⟩) hM h;have c0:=C 0 _ (ai hb 0);have c1:=C 1 _ (ai hb 1);exact ⟨BQ.val q,by simp only[BQ.val];go_simp,by rw[hp];exact ⟨q,rfl,hv.move (okB.old aU.inv)⟩⟩)
theorem aF (F:Fact) (x:Nat) {d:Nat} {g:Option (Nat×Bool)}  (hx:Dep md ops a0 l kA kS M w0 k ⟨some d,.move (.tmp x),ty,pos,ce,g⟩ x (F.p)) (ho:ops[k]?=some ⟨some d,.move (.tmp x),ty,pos,ce,g⟩:=by rfl) (hw:Wt md ops a0 l kA kS M w0 k ⟨some d,.move (.tmp x),ty,pos,ce,g⟩:=by exact fun _ _ _ _=>rfl) (hp:gN l k=F.p:=by rfl):de md ops Q a0 l kA kS M w0 k:=
 eJ hw ho rfl (fun a γ w aU=>by
  obtain ⟨vx,ex,hf⟩:=hx a γ w aU;exact ⟨vx,by go_simp,by rw[hp];exact hf⟩)
theorem bY (F:Fact) (x:Nat) {d:Nat} {g:Option (Nat×Bool)}  (hx:Dep md ops a0 l kA kS M w0 k ⟨some d,.assign (.tmp x),ty,pos,ce,g⟩ x (F.p)) (ho:ops[k]?=some ⟨some d,.assign (.tmp x),ty,pos,ce,g⟩:=by rfl) (hw:Wt md ops a0 l kA kS M w0 k ⟨some d,.assign (.tmp x),ty,pos,ce,g⟩:=by exact fun _ _ _ _=>rfl) (hp:gN l k=F.p:=by rfl):de md ops Q a0 l kA kS M w0 k:=
 eJ hw ho rfl (fun a γ w aU=>by
  obtain ⟨vx,ex,hf⟩:=hx a γ w aU;exact ⟨vx,by go_simp,by rw[hp];exact hf⟩)
theorem fM (F:Fact) (r:List Value) (x:Nat) {d:Nat} {g:Option (Nat×Bool)}  (hx:Dep md ops a0 l kA kS M w0 k ⟨some d,.extract (.tmp x) 0,ty,pos,ce,g⟩ x ((fY F r).p)) (ho:ops[k]?=some ⟨some d,.extract (.tmp x) 0,ty,pos,ce,g⟩:=by rfl) (hw:Wt md ops a0 l kA kS M w0 k ⟨some d,.extract (.tmp x) 0,ty,pos,ce,g⟩:=by exact fun _ _ _ _=>rfl) (hp:gN l k=F.p:=by rfl):de md ops Q a0 l kA kS M w0 k:=
 eJ hw ho rfl (fun a γ w aU=>by
  obtain ⟨vx,ex,u,rfl,hf⟩:=hx a γ w aU;exact ⟨u,by go_simp,by rw[hp];exact hf⟩)
theorem fC (F:Fact) (r:List Value) (i:Nat) (v:Value) (hv:r[i]?=some v) (x:Nat) {d:Nat} {g:Option (Nat×Bool)}  (hx:Dep md ops a0 l kA kS M w0 k ⟨some d,.extract (.tmp x) (i+1),ty,pos,ce,g⟩ x ((fY F r).p)) (ho:ops[k]?=some ⟨some d,.extract (.tmp x) (i+1),ty,pos,ce,g⟩:=by rfl) (hw:Wt md ops a0 l kA kS M w0 k ⟨some d,.extract (.tmp x) (i+1),ty,pos,ce,g⟩:=by exact fun _ _ _ _=>rfl) (hp:gN l k=fun u _ _=>u=v:=by rfl):de md ops Q a0 l kA kS M w0 k:=
 eJ hw ho rfl (fun a γ w aU=>by
  obtain ⟨vx,ex,u,rfl,hf⟩:=hx a γ w aU;exact ⟨v,by go_simp,by rw[hp]⟩)
theorem ju (hk:k=kA)  {d:Nat} {g:Option (Nat×Bool)}   (ho:ops[k]?=some ⟨some d,.alloc 36,ty,pos,ce,g⟩:=by rfl) (hw:Wt md ops a0 l kA kS M w0 k ⟨some d,.alloc 36,ty,pos,ce,g⟩:=by exact fun _ _ _ _=>rfl) (hp:gN l k=(l7 #[.int .u8 0,.string ⟨#[]⟩,.slice none 0 0,.slice none 0 0] 36).p:=by rfl):de md ops Q a0 l kA kS M w0 k:=
 dr ho rfl (fun _=>trivial) rfl (fun a γ w aU=>⟨hw a γ w aU,ptr w.heap.size,(some w.heap.size,false),w.alloc (.cells #[.int .u8 0,.string ⟨#[]⟩,.slice none 0 0,.slice none 0 0] 36),by go_simp,tp _ (aU.psi.1 hk),hk ▸ qH,by rw[hp];exact tu⟩)
theorem Dc (hk:k=kA)  {d:Nat} {g:Option (Nat×Bool)}   (ho:ops[k]?=some ⟨some d,.alloc 43,ty,pos,ce,g⟩:=by rfl) (hw:Wt md ops a0 l kA kS M w0 k ⟨some d,.alloc 43,ty,pos,ce,g⟩:=by exact fun _ _ _ _=>rfl) (hp:gN l k=(l7 #[.bool false,.string ⟨#[]⟩,.slice none 0 0] 43).p:=by rfl):de md ops Q a0 l kA kS M w0 k:=
 dr ho rfl (fun _=>trivial) rfl (fun a γ w aU=>⟨hw a γ w aU,ptr w.heap.size,(some w.heap.size,false),w.alloc (.cells #[.bool false,.string ⟨#[]⟩,.slice none 0 0] 43),by go_simp,tp _ (aU.psi.1 hk),hk ▸ qH,by rw[hp];exact tu⟩)
theorem ko (hk:k=kA)  {d:Nat} {g:Option (Nat×Bool)}   (ho:ops[k]?=some ⟨some d,.alloc 26,ty,pos,ce,g⟩:=by rfl) (hw:Wt md ops a0 l kA kS M w0 k ⟨some d,.alloc 26,ty,pos,ce,g⟩:=by exact fun _ _ _ _=>rfl) (hp:gN l k=(l7 #[.slice none 0 0,.slice none 0 0] 26).p:=by rfl):de md ops Q a0 l kA kS M w0 k:=
 dr ho rfl (fun _=>trivial) rfl (fun a γ w aU=>⟨hw a γ w aU,ptr w.heap.size,(some w.heap.size,false),w.alloc (.cells #[.slice none 0 0,.slice none 0 0] 26),by go_simp,tp _ (aU.psi.1 hk),hk ▸ qH,by rw[hp];exact tu⟩)
theorem zaH {b:Nat} {a0 a1:Value} (h:W.heap[b]?=some (.cells #[a0,a1] T (0,0))):((W.setCell ⟨b,0,none⟩ v0).setCell ⟨b,1,none⟩ v1).heap[b]?=some (.cells #[v0,v1] T (0,0)):=by
 have h0:=bq (F:=0) h v0;exact (bq (F:=1) h0 v1).trans rfl
theorem KX {b:Nat}:Kp (fun c=>c=b) W ((W.setCell ⟨b,0,none⟩ v0).setCell ⟨b,1,none⟩ v1):=
 ⟨rfl,rfl,rfl,by simp,fun c _ hc=>(ei _ _ _ _ (by simpa using hc)).trans (ei _ _ _ _ (by simpa using hc))⟩
theorem jv (f:Fm) (x:Nat) (y:Nat) {g:Option (Nat×Bool)} (hk:k=kS) (hx:Dep md ops a0 l kA kS M w0 k ⟨none,.store 36 (.tmp x) (.tmp y),ty,pos,ce,g⟩ x (BoxG #[.int .u8 0,.string ⟨#[]⟩,.slice none 0 0,.slice none 0 0] 36)) (hy:Dep md ops a0 l kA kS M w0 k ⟨none,.store 36 (.tmp x) (.tmp y),ty,pos,ce,g⟩ y (FormG L f)) (ho:ops[k]?=some ⟨none,.store 36 (.tmp x) (.tmp y),ty,pos,ce,g⟩:=by rfl) (hw:Wt md ops a0 l kA kS M w0 k ⟨none,.store 36 (.tmp x) (.tmp y),ty,pos,ce,g⟩:=by exact fun _ _ _ _=>rfl) (hp:gN l k=(jT (bi L f) 36).p:=by rfl):de md ops Q a0 l kA kS M w0 k:=
 ls ho (fun _=>trivial) rfl (fun a γ w aU=>by
  obtain ⟨vx,ex,b,rfl,hb1,bD,aL⟩:=hx a γ w aU;obtain ⟨KS,Mp⟩:=γ;obtain rfl:Mp=false:=aU.psi.2 hk;obtain rfl:KS=some b:=hb1;have x:=aL rfl;obtain ⟨vy,ey,q,rfl,hq⟩:=hy a (some b,false) w aU;have c0:=ai x 0;have d0:=af x 0;have c1:=ai x 1;have d1:=af x 1;have c2:=ai x 2;have d2:=af x 2;have c3:=ai x 3;have d3:=af x 3;have k6:=dA (W:=w) (b:=b) (v0:=.int .u8 q.o) (v1:=.string q.n) (v2:=.slice q.a q.l q.c) (v3:=.slice q.b q.m q.e);have x6:=kP (v0:=.int .u8 q.o) (v1:=.string q.n) (v2:=.slice q.a q.l q.c) (v3:=.slice q.b q.m q.e) x;refine ⟨hw a (some b,false) w aU,(some b,true),_,by simp only[FQ.val]at ey;go_simp,ix k6,hk ▸ lU,?_⟩;rw[hp];exact ⟨b,_,rfl,x6,⟨q,rfl,hq.move (ix k6).holds⟩⟩)
theorem Dd (f:Tm) (x:Nat) (y:Nat) {g:Option (Nat×Bool)} (hk:k=kS) (hx:Dep md ops a0 l kA kS M w0 k ⟨none,.store 43 (.tmp x) (.tmp y),ty,pos,ce,g⟩ x (BoxG #[.bool false,.string ⟨#[]⟩,.slice none 0 0] 43)) (hy:Dep md ops a0 l kA kS M w0 k ⟨none,.store 43 (.tmp x) (.tmp y),ty,pos,ce,g⟩ y (TermG L f)) (ho:ops[k]?=some ⟨none,.store 43 (.tmp x) (.tmp y),ty,pos,ce,g⟩:=by rfl) (hw:Wt md ops a0 l kA kS M w0 k ⟨none,.store 43 (.tmp x) (.tmp y),ty,pos,ce,g⟩:=by exact fun _ _ _ _=>rfl) (hp:gN l k=(jT (dP L f) 43).p:=by rfl):de md ops Q a0 l kA kS M w0 k:=
 ls ho (fun _=>trivial) rfl (fun a γ w aU=>by
  obtain ⟨vx,ex,b,rfl,hb1,bD,aL⟩:=hx a γ w aU;obtain ⟨KS,Mp⟩:=γ;obtain rfl:Mp=false:=aU.psi.2 hk;obtain rfl:KS=some b:=hb1;have x:=aL rfl;obtain ⟨vy,ey,q,rfl,hq⟩:=hy a (some b,false) w aU;have c0:=ai x 0;have d0:=af x 0;have c1:=ai x 1;have d1:=af x 1;have c2:=ai x 2;have d2:=af x 2;have k6:=eD (W:=w) (b:=b) (v0:=.bool q.v) (v1:=.string q.n) (v2:=.slice q.a q.l q.c);have x6:=pC (v0:=.bool q.v) (v1:=.string q.n) (v2:=.slice q.a q.l q.c) x;refine ⟨hw a (some b,false) w aU,(some b,true),_,by simp only[TQ.val]at ey;go_simp,ix k6,hk ▸ lU,?_⟩;rw[hp];exact ⟨b,_,rfl,x6,⟨q,rfl,hq.move (ix k6).holds⟩⟩)
theorem kr (f:Bd) (x:Nat) (y:Nat) {g:Option (Nat×Bool)} (hk:k=kS) (hx:Dep md ops a0 l kA kS M w0 k ⟨none,.store 26 (.tmp x) (.tmp y),ty,pos,ce,g⟩ x (BoxG #[.slice none 0 0,.slice none 0 0] 26)) (hy:Dep md ops a0 l kA kS M w0 k ⟨none,.store 26 (.tmp x) (.tmp y),ty,pos,ce,g⟩ y (BindG L f)) (ho:ops[k]?=some ⟨none,.store 26 (.tmp x) (.tmp y),ty,pos,ce,g⟩:=by rfl) (hw:Wt md ops a0 l kA kS M w0 k ⟨none,.store 26 (.tmp x) (.tmp y),ty,pos,ce,g⟩:=by exact fun _ _ _ _=>rfl) (hp:gN l k=(jT (bF L f) 26).p:=by rfl):de md ops Q a0 l kA kS M w0 k:=
 ls ho (fun _=>trivial) rfl (fun a γ w aU=>by
  obtain ⟨vx,ex,b,rfl,hb1,bD,aL⟩:=hx a γ w aU;obtain ⟨KS,Mp⟩:=γ;obtain rfl:Mp=false:=aU.psi.2 hk;obtain rfl:KS=some b:=hb1;have x:=aL rfl;obtain ⟨vy,ey,q,rfl,hq⟩:=hy a (some b,false) w aU;have c0:=ai x 0;have d0:=af x 0;have c1:=ai x 1;have d1:=af x 1;have k6:=KX (W:=w) (b:=b) (v0:=.slice q.a q.l q.c) (v1:=.slice q.b q.m q.e);have x6:=zaH (v0:=.slice q.a q.l q.c) (v1:=.slice q.b q.m q.e) x;refine ⟨hw a (some b,false) w aU,(some b,true),_,by simp only[BQ.val]at ey;go_simp,ix k6,hk ▸ lU,?_⟩;rw[hp];exact ⟨b,_,rfl,x6,⟨q,rfl,hq.move (ix k6).holds⟩⟩)
theorem JD (f:Fm) (x:Nat) (y:Nat) {g:Option (Nat×Bool)} (hk:k=kS) {b:Nat} {z2 z3:Value} (M4:w0.heap[b]?=some (.cells #[z0,z1,z2,z3] 36 (0,0))) (hMb:M b) (hx:Dep md ops a0 l kA kS M w0 k ⟨none,.store 36 (.tmp x) (.tmp y),ty,pos,ce,g⟩ x (fun v _ _=>v=ptr b)) (hy:Dep md ops a0 l kA kS M w0 k ⟨none,.store 36 (.tmp x) (.tmp y),ty,pos,ce,g⟩ y (FormG L f)) (ho:ops[k]?=some ⟨none,.store 36 (.tmp x) (.tmp y),ty,pos,ce,g⟩:=by rfl) (hw:Wt md ops a0 l kA kS M w0 k ⟨none,.store 36 (.tmp x) (.tmp y),ty,pos,ce,g⟩:=by exact fun _ _ _ _=>rfl) (hp:gN l k=(jT (bi L f) 36).p:=by rfl):de md ops Q a0 l kA kS M w0 k:=
 ls ho (fun _=>trivial) rfl (fun a γ w aU=>by
  obtain ⟨vx,ex,rfl⟩:=hx a γ w aU;obtain ⟨KS,Mp⟩:=γ;obtain rfl:Mp=false:=aU.psi.2 hk;obtain rfl:KS=some b:=(aU.inv.2.2 b hMb).1;have x:=((aU.inv.2.2 b hMb).2 rfl).trans M4;obtain ⟨vy,ey,q,rfl,hq⟩:=hy a (some b,false) w aU;have c0:=ai x 0;have d0:=af x 0;have c1:=ai x 1;have d1:=af x 1;have c2:=ai x 2;have d2:=af x 2;have c3:=ai x 3;have d3:=af x 3;have k6:=dA (W:=w) (b:=b) (v0:=.int .u8 q.o) (v1:=.string q.n) (v2:=.slice q.a q.l q.c) (v3:=.slice q.b q.m q.e);have x6:=kP (v0:=.int .u8 q.o) (v1:=.string q.n) (v2:=.slice q.a q.l q.c) (v3:=.slice q.b q.m q.e) x;refine ⟨hw a (some b,false) w aU,(some b,true),_,by simp only[FQ.val]at ey;go_simp,ix k6,hk ▸ lU,?_⟩;rw[hp];exact ⟨b,_,rfl,x6,⟨q,rfl,hq.move (ix k6).holds⟩⟩)
theorem JE (f:Bd) (x:Nat) (y:Nat) {g:Option (Nat×Bool)} (hk:k=kS) {b:Nat} (M4:w0.heap[b]?=some (.cells #[z0,z1] 26 (0,0))) (hMb:M b) (hx:Dep md ops a0 l kA kS M w0 k ⟨none,.store 26 (.tmp x) (.tmp y),ty,pos,ce,g⟩ x (fun v _ _=>v=ptr b)) (hy:Dep md ops a0 l kA kS M w0 k ⟨none,.store 26 (.tmp x) (.tmp y),ty,pos,ce,g⟩ y (BindG L f)) (ho:ops[k]?=some ⟨none,.store 26 (.tmp x) (.tmp y),ty,pos,ce,g⟩:=by rfl) (hw:Wt md ops a0 l kA kS M w0 k ⟨none,.store 26 (.tmp x) (.tmp y),ty,pos,ce,g⟩:=by exact fun _ _ _ _=>rfl) (hp:gN l k=(jT (bF L f) 26).p:=by rfl):de md ops Q a0 l kA kS M w0 k:=
 ls ho (fun _=>trivial) rfl (fun a γ w aU=>by
  obtain ⟨vx,ex,rfl⟩:=hx a γ w aU;obtain ⟨KS,Mp⟩:=γ;obtain rfl:Mp=false:=aU.psi.2 hk;obtain rfl:KS=some b:=(aU.inv.2.2 b hMb).1;have x:=((aU.inv.2.2 b hMb).2 rfl).trans M4;obtain ⟨vy,ey,q,rfl,hq⟩:=hy a (some b,false) w aU;have c0:=ai x 0;have d0:=af x 0;have c1:=ai x 1;have d1:=af x 1;have k6:=KX (W:=w) (b:=b) (v0:=.slice q.a q.l q.c) (v1:=.slice q.b q.m q.e);have x6:=zaH (v0:=.slice q.a q.l q.c) (v1:=.slice q.b q.m q.e) x;refine ⟨hw a (some b,false) w aU,(some b,true),_,by simp only[BQ.val]at ey;go_simp,ix k6,hk ▸ lU,?_⟩;rw[hp];exact ⟨b,_,rfl,x6,⟨q,rfl,hq.move (ix k6).holds⟩⟩)
theorem sH {d:Nat} (ho:ops[k]?=some o) (r:Value) (lh:∀ (a:Act) (w:World),(execOp a.eval o).run Tryz.prog w=.ok (.value r) w) (hd:o.dst=some d:=by rfl) (hw:Wt md ops a0 l kA kS M w0 k o:=by exact fun _ _ _ _=>rfl) (hp:gN l k=(bn r).p:=by rfl):de md ops Q a0 l kA kS M w0 k:=
 eJ hw ho hd (fun a _ w _=>⟨r,lh a w,by rw[hp];rfl⟩)
theorem JF {d:Nat} (ho:ops[k]?=some o) (x:Nat) (u r:Value) (hx:Dep md ops a0 l kA kS M w0 k o x (fun v _ _=>v=u)) (lh:∀ (a:Act) (w:World),a.tmps[x]?=some u->a.tmps.getD x undef=u->(execOp a.eval o).run Tryz.prog w=.ok (.value r) w) (hd:o.dst=some d:=by rfl) (hw:Wt md ops a0 l kA kS M w0 k o:=by exact fun _ _ _ _=>rfl) (hp:gN l k=(bn r).p:=by rfl):de md ops Q a0 l kA kS M w0 k:=
 eJ hw ho hd (fun a γ w aU=>by
  obtain ⟨v,h1,rfl⟩:=hx a γ w aU;exact ⟨r,lh a w h1 (bg h1),by rw[hp];rfl⟩)
theorem Xd {d:Nat} (ho:ops[k]?=some o) (x y:Nat) (u u2 r:Value) (hx:Dep md ops a0 l kA kS M w0 k o x (fun v _ _=>v=u)) (hy:Dep md ops a0 l kA kS M w0 k o y (fun v _ _=>v=u2)) (lh:∀ (a:Act) (w:World),a.tmps[x]?=some u->a.tmps.getD x undef=u->a.tmps[y]?=some u2->a.tmps.getD y undef=u2->(execOp a.eval o).run Tryz.prog w=.ok (.value r) w) (hd:o.dst=some d:=by rfl) (hw:Wt md ops a0 l kA kS M w0 k o:=by exact fun _ _ _ _=>rfl) (hp:gN l k=(bn r).p:=by rfl):de md ops Q a0 l kA kS M w0 k:=
 eJ hw ho hd (fun a γ w aU=>by
  obtain ⟨v,h1,rfl⟩:=hx a γ w aU;obtain ⟨v2,h2,rfl⟩:=hy a γ w aU;exact ⟨r,lh a w h1 (bg h1) h2 (bg h2),by rw[hp];rfl⟩)
theorem cr {d:Nat} (ho:ops[k]?=some o) (x:Nat) (r:Value) (hx:Dep md ops a0 l kA kS M w0 k o x (fun v _ _=>v=u)) (lh:∀ (a:Act) (w:World),a.tmps[x]?=some u->a.tmps.getD x undef=u->(execOp a.eval o).run Tryz.prog w=.ok (.value r) w:=by intro _ _ _ _;go_simp) (hd:o.dst=some d:=by rfl) (hw:Wt md ops a0 l kA kS M w0 k o:=by exact fun _ _ _ _=>rfl) (hp:gN l k=(bn r).p:=by rfl):de md ops Q a0 l kA kS M w0 k:=
 JF ho x u r hx lh hd hw hp
theorem ep {d:Nat} (ho:ops[k]?=some o) (x y:Nat) (r:Value) {u2:Value} (hx:Dep md ops a0 l kA kS M w0 k o x (fun v _ _=>v=u)) (hy:Dep md ops a0 l kA kS M w0 k o y (fun v _ _=>v=u2)) (lh:∀ (a:Act) (w:World),a.tmps[x]?=some u->a.tmps.getD x undef=u->a.tmps[y]?=some u2->a.tmps.getD y undef=u2->(execOp a.eval o).run Tryz.prog w=.ok (.value r) w:=by intro _ _ _ _ _ _;go_simp) (hd:o.dst=some d:=by rfl) (hw:Wt md ops a0 l kA kS M w0 k o:=by exact fun _ _ _ _=>rfl) (hp:gN l k=(bn r).p:=by rfl):de md ops Q a0 l kA kS M w0 k:=
 Xd ho x y u u2 r hx hy lh hd hw hp
end
end
def okS (L:Nat->Prop) (w:World) (b:Nat):Prop:=L b/\b<w.heap.size
structure LF (L:Nat->Prop) (a:Act) (w:World) (d b:Nat) (q:FQ) (f:Fm):Prop where
 slot:a.tmps[d]?=some (ptr b)
 box:w.heap[b]?=some (.cells #[.int .u8 q.o,.string q.n,.slice q.a q.l q.c,.slice q.b q.m q.e] 36 (0,0))
 val:FormV (okS L w) w q.val f
structure LT (L:Nat->Prop) (a:Act) (w:World) (d b:Nat) (q:TQ) (f:Tm):Prop where
 slot:a.tmps[d]?=some (ptr b)
 box:w.heap[b]?=some (.cells #[.bool q.v,.string q.n,.slice q.a q.l q.c] 43 (0,0))
 val:TermV (okS L w) w q.val f
structure LB (L:Nat->Prop) (a:Act) (w:World) (d b:Nat) (q:BQ) (f:Bd):Prop where
 slot:a.tmps[d]?=some (ptr b)
 box:w.heap[b]?=some (.cells #[.slice q.a q.l q.c,.slice q.b q.m q.e] 26 (0,0))
 val:BindV (okS L w) w q f
variable {L L' M:Nat->Prop} {a a':Act} {w w':World} {d b:Nat}
theorem okS.next (hk:Kp M w w') (hM:∀ c,L c->¬M c) (hL:∀ c,L c->c<w.heap.size->L' c):dW (okS L w) (okS L' w') w w':=fun c h hlt=>⟨⟨hL c h.1 hlt,bE hlt hk.size⟩,hk.same c hlt (hM c h.1)⟩
theorem LF.next (h:LF L a w d b q f) (hs:a'.tmps[d]?=a.tmps[d]?) (hk:Kp M w w') (hb:¬M b) (hM:∀ c,L c->¬M c) (hL:∀ c,L c->c<w.heap.size->L' c):LF L' a' w' d b q f:=
 ⟨hs.trans h.slot,(hk.same _ (bz h.box) hb).trans h.box,h.val.move (okS.next hk hM hL)⟩
theorem LT.next {q:TQ} {f:Tm} (h:LT L a w d b q f) (hs:a'.tmps[d]?=a.tmps[d]?) (hk:Kp M w w') (hb:¬M b) (hM:∀ c,L c->¬M c) (hL:∀ c,L c->c<w.heap.size->L' c):LT L' a' w' d b q f:=
 ⟨hs.trans h.slot,(hk.same _ (bz h.box) hb).trans h.box,h.val.move (okS.next hk hM hL)⟩
theorem LB.next {q:BQ} {f:Bd} (h:LB L a w d b q f) (hs:a'.tmps[d]?=a.tmps[d]?) (hk:Kp M w w') (hb:¬M b) (hM:∀ c,L c->¬M c) (hL:∀ c,L c->c<w.heap.size->L' c):LB L' a' w' d b q f:=
 ⟨hs.trans h.slot,(hk.same _ (bz h.box) hb).trans h.box,h.val.move (okS.next hk hM hL)⟩
theorem LF.nx (h:LF L a w d b q f) (hs:a'.tmps[d]?=a.tmps[d]?) (hk:Kp M w w') (hM:∀ c,L c->¬M c) (hb:¬M b:=by exact fun h=>h):LF L a' w' d b q f:=h.next hs hk hb hM (fun _ h _=>h)
theorem LT.nx {q:TQ} {f:Tm} (h:LT L a w d b q f) (hs:a'.tmps[d]?=a.tmps[d]?) (hk:Kp M w w') (hM:∀ c,L c->¬M c) (hb:¬M b:=by exact fun h=>h):LT L a' w' d b q f:=h.next hs hk hb hM (fun _ h _=>h)
theorem LB.nx {q:BQ} {f:Bd} (h:LB L a w d b q f) (hs:a'.tmps[d]?=a.tmps[d]?) (hk:Kp M w w') (hM:∀ c,L c->¬M c) (hb:¬M b:=by exact fun h=>h):LB L a' w' d b q f:=h.next hs hk hb hM (fun _ h _=>h)
theorem okS.at (hM:∀ c,L c->¬M c):dW (okS L w) (T4 L M w) w w:=fun c h _=>⟨⟨h.1,h.2,hM c h.1⟩,rfl⟩
theorem LF.at (h:LF L a w d b q f) (hM:∀ c,L c->¬M c):FormV (T4 L M w) w q.val f:=h.val.move (okS.at hM)
theorem LT.at {q:TQ} {f:Tm} (h:LT L a w d b q f) (hM:∀ c,L c->¬M c):TermV (T4 L M w) w q.val f:=h.val.move (okS.at hM)
theorem LB.at {q:BQ} {f:Bd} (h:LB L a w d b q f) (hM:∀ c,L c->¬M c):BindV (T4 L M w) w q f:=h.val.move (okS.at hM)
theorem LF.drew (h:LF L a w d b q f):LF L a w.drew d b q f:=⟨h.slot,h.box,h.val.move (show dW (okS L w) (okS L w.drew) w w.drew from fun _ h _=>⟨h,rfl⟩)⟩
theorem LT.drew {q:TQ} {f:Tm} (h:LT L a w d b q f):LT L a w.drew d b q f:=⟨h.slot,h.box,h.val.move (show dW (okS L w) (okS L w.drew) w w.drew from fun _ h _=>⟨h,rfl⟩)⟩
theorem LB.drew {q:BQ} {f:Bd} (h:LB L a w d b q f):LB L a w.drew d b q f:=⟨h.slot,h.box,h.val.move (show dW (okS L w) (okS L w.drew) w w.drew from fun _ h _=>⟨h,rfl⟩)⟩
section
variable {ops:Array Oper} {Q:Exit->Act->World->Prop} {a0:Act} {id sz:Nat}
abbrev b8:Nat->Prop:=fun _=>False
abbrev Ag (b:Nat):Nat->Prop:=fun c=>c=b
theorem PH (w:World):IG b8 w (none,false) w:=⟨Kp.refl _,(fun _ h=>by cases h),fun _ h=>h.elim⟩
theorem PI {w:World} {b:Nat} (h:b<w.heap.size):IG (Ag b) w (some b,false) w:=⟨Kp.refl _,(fun c e=>by cases e;exact ⟨.inr rfl,h⟩),fun c hc=>by
 have:c=b:=hc;subst this;exact ⟨rfl,fun _=>rfl⟩⟩
abbrev Ah (ops:Array Oper) (a0:Act) (F:List Fact) (kA kS:Nat) (M:Nat->Prop) (w0:World) (a:Act) (γ:Bx) (w:World):Prop:=DagAt (gN F) (PsB kA kS) (IG M w0) ops a0 (Array.replicate ops.size true) a γ w
theorem eK (F:List Fact) (kA kS:Nat) (hsz:a0.tmps.size=sz) (hd:Fk ops sz=true) (hm:(Tryz.prog.follows .mixedOrders && ops.toList.all lG)=true) (cH:∀ k,k<ops.size->de .any ops (NP Q) a0 F kA kS b8 w.drew k)
  (hQ:∀ a γ w',Ah ops a0 F kA kS b8 w.drew a γ w'->Q .normal a w'):(Code.region id ops true).wpIn Fence.wide 3 Tryz.prog Q a0 w:=
 kN _ _ _ Gr (none,false) hm hsz hd (PH _) (fun _ _=>⟨fun _=>rfl,fun _=>rfl⟩) (fun _ _ _ _ hG h=>h.step hG) (qh F) cH hQ
theorem bO (F:List Fact) (kA kS:Nat) (hsz:a0.tmps.size=sz) (hd:Fk ops sz=true) (cH:∀ k,k<ops.size->de .any ops Q a0 F kA kS b8 w k)
  (hQ:∀ a γ w',Ah ops a0 F kA kS b8 w a γ w'->Q .normal a w'):(Code.region id ops false).wpIn Fence.wide 3 Tryz.prog Q a0 w:=
 j8 _ _ _ Gr (none,false) hsz hd (PH _) (fun _ _=>⟨fun _=>rfl,fun _=>rfl⟩) (fun _ _ _ _ hG h=>h.step hG) (qh F) cH hQ
theorem EJ {b:Nat} (hb:b<w.heap.size) (F:List Fact) (kS:Nat) (hsz:a0.tmps.size=sz) (hd:Fk ops sz=true) (hm:(Tryz.prog.follows .mixedOrders && ops.toList.all lG)=true) (cH:∀ k,k<ops.size->de .any ops (NP Q) a0 F ops.size kS (Ag b) w.drew k)
  (hQ:∀ a γ w',Ah ops a0 F ops.size kS (Ag b) w.drew a γ w'->Q .normal a w'):(Code.region id ops true).wpIn Fence.wide 3 Tryz.prog Q a0 w:=
 kN _ _ _ Gr (some b,false) hm hsz hd (PI hb) (fun _ hk=>⟨fun e=>absurd hk (by omega),fun _=>rfl⟩) (fun _ _ _ _ hG h=>h.step hG) (qh F) cH hQ
theorem EK {b:Nat} (hb:b<w.heap.size) (F:List Fact) (kS:Nat) (hsz:a0.tmps.size=sz) (hd:Fk ops sz=true) (cH:∀ k,k<ops.size->de .any ops Q a0 F ops.size kS (Ag b) w k)
  (hQ:∀ a γ w',Ah ops a0 F ops.size kS (Ag b) w a γ w'->Q .normal a w'):(Code.region id ops false).wpIn Fence.wide 3 Tryz.prog Q a0 w:=
 j8 _ _ _ Gr (some b,false) hsz hd (PI hb) (fun _ hk=>⟨fun e=>absurd hk (by omega),fun _=>rfl⟩) (fun _ _ _ _ hG h=>h.step hG) (qh F) cH hQ
theorem qp (hs:a.tmps[d]?=some v) (hv:(l7 z T).p v γ w) (hf:(jT (bi L f) 36).p undef γ w) (hI:IG b8 w' γ w):∃b q,LF (fun c=>L c/\c≠b) a w d b q f/\w'.heap.size<=b:=by
 have pp257a:=();exact pm257
theorem PJ {f:Tm} (hs:a.tmps[d]?=some v) (hv:(l7 z T).p v γ w) (hf:(jT (dP L f) 43).p undef γ w) (hI:IG b8 w' γ w):∃b q,LT (fun c=>L c/\c≠b) a w d b q f/\w'.heap.size<=b:=by
 have pp257b:=();exact pm257
theorem sI {f:Bd} (hs:a.tmps[d]?=some v) (hv:(l7 z T).p v γ w) (hf:(jT (bF L f) 26).p undef γ w) (hI:IG b8 w' γ w):∃b q,LB (fun c=>L c/\c≠b) a w d b q f/\w'.heap.size<=b:=by
 exact pm257
theorem Sn {b:Nat} (hs:a.tmps[d]?=some (ptr b)) (hf:(jT (bi L f) 36).p undef γ w) (hI:IG (Ag b) w' γ w):∃q,LF L a w d b q f:=by
 obtain ⟨b',cs,rfl,h3,q,hq,h4⟩:=hf;cases (hI.2.2 b rfl).1;simp only[FQ.val,cE]at hq;subst hq;exact ⟨q,hs,h3,h4.move (fun c hc _=>⟨⟨hc.1,hc.2.1⟩,rfl⟩)⟩
theorem So {f:Bd} {b:Nat} (hs:a.tmps[d]?=some (ptr b)) (hf:(jT (bF L f) 26).p undef γ w) (hI:IG (Ag b) w' γ w):∃q,LB L a w d b q f:=by
 obtain ⟨b',cs,rfl,h3,q,hq,h4⟩:=hf;cases (hI.2.2 b rfl).1;simp only[BQ.val,cE]at hq;subst hq;exact ⟨q,hs,h3,h4.move (fun c hc _=>⟨⟨hc.1,hc.2.1⟩,rfl⟩)⟩
