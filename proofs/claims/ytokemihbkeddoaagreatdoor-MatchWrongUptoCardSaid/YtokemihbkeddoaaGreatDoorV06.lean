/-
What is said of values in a region that draws its order and fills one box (the ghost.
-/
import Derived.Test.YtokemihbkeddoaaGreatDoorV05
namespace Go.Proofs.YtokemihbkeddoaaGreatDoor
open Go Go.RowKit Lib
set_option maxRecDepth 100000
set_option maxHeartbeats 64000000
variable {w w' w0 W W' W0:World} {L M:Nat->Prop} {kA kS k m n b p B mb s:Nat} {f:Fm} {v:Value} {l bs pre:List Str} {T:TypeId} {z:Array Value} {x:Str} {u:Tm} {α:Type}
abbrev Bx:=Option Nat×Bool
def okB (L:Nat->Prop) (γ:Bx) (w:World) (b:Nat):Prop:=L b/\b<w.heap.size/\γ.1≠some b
def Gr (γ:Bx) (w:World) (dY:Bx) (w':World):Prop:=
 (dY=γ/\Below w.heap.size w w')\/(γ.1=none/\dY=(some w.heap.size,false)/\w.heap.size<w'.heap.size/\Below w.heap.size w w')\/(∃b,γ=(some b,false)/\dY=(some b,true)/\Kp (fun c=>c=b) w w')
theorem Gr.keep {γ:Bx} (h:Below w.heap.size w w'):Gr γ w γ w':=.inl ⟨rfl,h⟩
theorem Gr.refl {γ:Bx}:Gr γ w γ w:=.inl ⟨rfl,ak _ _⟩
theorem Gr.holds {γ dY:Bx} (h:Gr γ w dY w'):gC (okB L γ w) (okB L dY w') w w':=by
 rintro b ⟨h1,h2,h3⟩ hlt;rcases h with ⟨rfl,hb⟩ | ⟨_,rfl,_,hb⟩ | ⟨c,rfl,rfl,hk⟩
 ·exact ⟨⟨h1,bN h2 hb.size,h3⟩,hb.block b hlt⟩
 ·exact ⟨⟨h1,bN h2 hb.size,fun e=>by cases e;omega⟩,hb.block b hlt⟩
 ·exact ⟨⟨h1,bN h2 hk.size,h3⟩,hk.same b hlt (fun e=>h3 (by rw[e]))⟩
theorem Gr.size {γ dY:Bx} (h:Gr γ w dY w'):w.heap.size<=w'.heap.size:=by
 rcases h with ⟨_,hb⟩ | ⟨_,_,_,hb⟩ | ⟨_,_,_,hk⟩
 ·exact hb.size
 ·exact hb.size
 ·exact hk.size
def IG (M:Nat->Prop) (w0:World) (γ:Bx) (w:World):Prop:=Kp M w0 w/\(∀ b,γ.1=some b->(w0.heap.size<=b\/M b)/\b<w.heap.size)/\∀ b,M b->γ.1=some b/\(γ.2=false->w.heap[b]?=w0.heap[b]?)
theorem IG.step {γ dY:Bx} (hG:Gr γ w dY w') (h:IG M w0 γ w):IG M w0 dY w':=by
 rcases hG with ⟨rfl,hb⟩ | ⟨hn,rfl,hlt,hb⟩ | ⟨c,rfl,rfl,hk⟩
 ·exact ⟨h.1.trans (Kp.below hb),fun b e=>⟨(h.2.1 b e).1,bN (h.2.1 b e).2 hb.size⟩,fun b hm=>⟨(h.2.2 b hm).1,fun e=>(hb.block b (h.2.1 b (h.2.2 b hm).1).2).trans ((h.2.2 b hm).2 e)⟩⟩
 ·exact ⟨h.1.trans (Kp.below hb),fun b Uv=>by cases Uv;exact ⟨.inl h.1.size,hlt⟩,fun b hm=>by have:=(h.2.2 b hm).1;rw[hn]at this;cases this⟩
 ·refine ⟨⟨hk.os.trans h.1.os,hk.tape.trans h.1.tape,hk.output.trans h.1.output,aQ h.1.size hk.size,fun b hb hm=>?_⟩,fun b e=>⟨(h.2.1 b e).1,bN (h.2.1 b e).2 hk.size⟩,fun b hm=>⟨(h.2.2 b hm).1,fun e=>by cases e⟩⟩;refine (hk.same b (bN hb h.1.size) (fun e=>?_)).trans (h.1.same b hb hm);rcases (h.2.1 c rfl).1 with h2 | h2
  ·omega
  ·exact hm (e ▸ h2)
def PsB (kA kS k:Nat) (γ:Bx):Prop:=(k=kA->γ.1=none)/\(k=kS->γ.2=false)
theorem PsB.same {γ:Bx}:∀ j,j≠k->PsB kA kS j γ->PsB kA kS j γ:=fun _ _ h=>h
/-! facts -/
def FormG (L:Nat->Prop) (f:Fm) (v:Value) (γ:Bx) (w:World):Prop:=∃q:FQ,v=q.val/\FormV (okB L γ w) w q.val f
def TermG (L:Nat->Prop) (t:Tm) (v:Value) (γ:Bx) (w:World):Prop:=∃q:TQ,v=q.val/\TermV (okB L γ w) w q.val t
def FormsG (L:Nat->Prop) (l:List Fm) (v:Value) (γ:Bx) (w:World):Prop:=∃a c,v=.slice a l.length c/\FormsV (okB L γ w) w (.slice a l.length c) l
def TermsG (L:Nat->Prop) (l:List Tm) (v:Value) (γ:Bx) (w:World):Prop:=∃a c,v=.slice a l.length c/\TermsV (okB L γ w) w (.slice a l.length c) l
def BindG (L:Nat->Prop) (b:Bd) (v:Value) (γ:Bx) (w:World):Prop:=∃q:BQ,v=q.val/\BindV (okB L γ w) w q b
def StrsG (L:Nat->Prop) (l:List Str) (v:Value) (γ:Bx) (w:World):Prop:=StrsO (okB L γ w) w v l
theorem FormG.step {γ dY:Bx} (hG:Gr γ w dY w'):FormG L f v γ w->FormG L f v dY w':=fun ⟨q,e,h⟩=>⟨q,e,h.move hG.holds⟩
theorem TermG.step {f:Tm} {γ dY:Bx} (hG:Gr γ w dY w'):TermG L f v γ w->TermG L f v dY w':=fun ⟨q,e,h⟩=>⟨q,e,h.move hG.holds⟩
theorem FormsG.step {f:List Fm} {γ dY:Bx} (hG:Gr γ w dY w'):FormsG L f v γ w->FormsG L f v dY w':=fun ⟨a,c,e,h⟩=>⟨a,c,e,h.move hG.holds⟩
theorem TermsG.step {f:List Tm} {γ dY:Bx} (hG:Gr γ w dY w'):TermsG L f v γ w->TermsG L f v dY w':=fun ⟨a,c,e,h⟩=>⟨a,c,e,h.move hG.holds⟩
theorem BindG.step {f:Bd} {γ dY:Bx} (hG:Gr γ w dY w'):BindG L f v γ w->BindG L f v dY w':=fun ⟨q,e,h⟩=>⟨q,e,h.move hG.holds⟩
theorem StrsG.step {γ dY:Bx} (hG:Gr γ w dY w'):StrsG L l v γ w->StrsG L l v dY w':=fun h=>h.move hG.holds
theorem okB.new {γ:Bx} (hI:IG M w0 γ w) (hlo:∀ b,w.heap.size<=b->L b):gC (w.heap.size<=·) (okB L γ w') w' w':=fun b hb hlt=>
 ⟨⟨hlo b hb,hlt,fun e=>by
  have:=(hI.2.1 b e).2;have Uv:w.heap.size<=b:=hb;omega⟩,rfl⟩
theorem FormG.new {γ:Bx} (hI:IG M w0 γ w) (hlo:∀ b,w.heap.size<=b->L b) {q:FQ} (h:FormV (w.heap.size<=·) w' q.val f):FormG L f q.val γ w':=⟨q,rfl,h.move (okB.new hI hlo)⟩
def RowG (L:Nat->Prop) (cs:Array Value) (T:TypeId) (m:Nat) (v:Value) (γ:Bx) (w:World):Prop:=∃b,v=.slice (some ⟨b,0,none⟩) m m/\okB L γ w b/\w.heap[b]?=some (.cells cs T (0,0))
theorem RowG.step {cs:Array Value} {γ dY:Bx} (hG:Gr γ w dY w'):RowG L cs T m v γ w->RowG L cs T m v dY w':=fun ⟨b,e,h1,h2⟩=>
 have h:=hG.holds b h1 (bn h2)
 ⟨b,e,h.1,h.2.trans h2⟩
theorem RowG.new {γ:Bx} (hI:IG M w0 γ w) (hlo:∀ b,w.heap.size<=b->L b) (cs:Array Value) (T:TypeId) (m:Nat):RowG L cs T m (.slice (some ⟨w.heap.size,0,none⟩) m m) γ (w.alloc (.cells cs T)):=
 ⟨_,rfl,(okB.new hI hlo _ (aF _) (by simp)).1,aj rfl⟩
def NamesG (l:List Str) (v:Value) (γ:Bx) (w:World):Prop:=StrsN w v l/\∀ b,v.ownBlock=some b->okB (fun _=>True) γ w b
theorem NamesG.step {γ dY:Bx} (hG:Gr γ w dY w'):NamesG l v γ w->NamesG l v dY w':=by
 rintro ⟨⟨a,cap,rfl,hc,h⟩,h2⟩;have h3:∀ b,(Value.slice a l.length cap).ownBlock=some b->okB (fun _=>True) dY w' b/\w'.heap[b]?=w.heap[b]?:=fun b hb=>hG.holds b (h2 b hb) (h2 b hb).2.1;refine ⟨⟨a,cap,rfl,hc,?_⟩,fun b hb=>(h3 b hb).1⟩;rcases h with h | ⟨b,off,rfl,h⟩
 ·exact .inl h
 ·exact .inr ⟨b,off,rfl,fun j hj=>(World.cell?_of_block (a:=⟨b,off+j,none⟩) (h3 b rfl).2).trans (h j hj)⟩
def BoxG (z:Array Value) (T:TypeId) (v:Value) (γ:Bx) (w:World):Prop:=∃b,v=.pointer (some ⟨b,0,none⟩)/\γ.1=some b/\b<w.heap.size/\(γ.2=false->w.heap[b]?=some (.cells z T (0,0)))
theorem BoxG.step {γ dY:Bx} (hG:Gr γ w dY w'):BoxG z T v γ w->BoxG z T v dY w':=by
 rintro ⟨b,rfl,h1,h2,h3⟩;rcases hG with ⟨rfl,hb⟩ | ⟨h,_⟩ | ⟨c,rfl,rfl,hk⟩
 ·exact ⟨b,rfl,h1,bN h2 hb.size,fun h=>(hb.block b h2).trans (h3 h)⟩
 ·rw[h]at h1;cases h1
 ·exact ⟨b,rfl,h1,bN h2 hk.size,fun h=>by cases h⟩
def SetG (R:Array Value->Bx->World->Prop) (T:TypeId) (γ:Bx) (w:World):Prop:=∃b cs,γ=(some b,true)/\w.heap[b]?=some (.cells cs T (0,0))/\R cs γ w
theorem SetG.step {R:Array Value->Bx->World->Prop} {γ dY:Bx} (hR:∀ cs,R cs γ w->R cs dY w') (hG:Gr γ w dY w'):SetG R T γ w->SetG R T dY w':=by
 rintro ⟨b,cs,rfl,h2,h3⟩;rcases hG with ⟨rfl,hb⟩ | ⟨h,_⟩ | ⟨c,h,_⟩
 ·exact ⟨b,cs,rfl,(hb.block b (bn h2)).trans h2,hR cs h3⟩
 ·cases h
 ·cases h
theorem uj {γ:Bx} (o:Obj) (h:γ.1=none):Gr γ w (some w.heap.size,false) (w.alloc o):=.inr (.inl ⟨h,rfl,by simp,cQ⟩)
theorem rv {γ:Bx}:∀ j,j≠kA->PsB kA kS j γ->PsB kA kS j (some n,false):=fun _ hj _=>⟨fun e=>absurd e hj,fun _=>rfl⟩
theorem uk:BoxG z T (.pointer (some ⟨w.heap.size,0,none⟩)) (some w.heap.size,false) (w.alloc (.cells z T)):=⟨_,rfl,rfl,by simp,fun _=>aj rfl⟩
theorem fM (h:Kp (fun c=>c=b) w w'):Gr (some b,false) w (some b,true) w':=.inr (.inr ⟨b,rfl,rfl,h⟩)
theorem kX:∀ j,j≠kS->PsB kA kS j (some b,false)->PsB kA kS j (some b,true):=fun _ hj h=>⟨fun e=>h.1 e,fun e=>absurd e hj⟩
theorem aG {t:Array Value} {d:Nat} (h:t[d]?=some v):t.getD d undef=v:=by
 obtain ⟨hlt,hv⟩:=Array.getElem?_eq_some_iff.1 h;simp[Array.getD,hlt,hv]
section
attribute [local go_sem] Oper.semAt_some
mutual
theorem Dk:∀ f:Fm,fitF f->∀ x∈kE f,fitF x
 | .mk o n a s,h,x,hx=>by
  unfold kE at hx;rcases dw.1 hx with rfl | hx
  ·exact h
  ·exact zJ s h.subs x hx
theorem zJ:∀ l:List Fm,fitFs l->∀ x∈dM l,fitF x
 | [],_,x,hx=>by simp[dM]at hx
 | t :: l,h,x,hx=>by
  unfold dM at hx;rcases List.mem_append.1 hx with hx | hx
  ·exact Dk t (h.mem (by simp)) x hx
  ·exact zJ l ⟨aQ (by simp[nodesFs]) h.1,qp.2 (fun u hu=>qp.1 h.2 u (by simp[hu]))⟩ x hx
end
theorem Pr (q:FQ) (w:World) :
  Calls Tryz.prog 86 #[q.val] w fun e w'=>e=.returned (.func (.func 150) #[] #[.pointer (some ⟨w.heap.size,0,none⟩)])/\w'=w.alloc (.cells #[.int .u8 q.o,.string q.n,.slice q.a q.l q.c,.slice q.b q.m q.e] 36):=by
 obtain ⟨o,n,a,l,c,b,m,e⟩:=q;unfold FQ.val;go_enter Tryz.func86,Tryz.ntmps86;go_wp2;go_ret;exact ⟨rfl,rfl⟩
theorem Ps (f:Fm) (aA:fitF f) (M:Nat->Prop) (B X:Nat) (w:World) (q:FQ) (hX:w.heap[X]?=some (.cells #[.int .u8 q.o,.string q.n,.slice q.a q.l q.c,.slice q.b q.m q.e] 36 (0,0))) (IK:¬M X) (hq:FormV (fun b=>b<B/\¬M b) w q.val f) :
  I2 M False Tryz.prog 150 #[.pointer (some ⟨X,0,none⟩)] (kE f) (Us M B) w:=by
 have pp210b:=();exact pm210
theorem MT (f:Fm) (aA:fitF f) (ok:Nat->Prop) (w:World) (q:FQ) (hq:FormV ok w q.val f) :
  Calls Tryz.prog 167 #[q.val,.int .i64 9223372036854775807] w fun e w'=>e=.returned (.int .i64 (nodesF f))/\Below w.heap.size w w':=by
 have hq:=hq.lt;have zeF:=aA.1;obtain ⟨ng,HQ⟩:=aZ aA hq;clear aA hq;refine K_ ?_;refine callsIn_of_wp_marks Tryz.func167 rfl trivial ?_ rfl;simp only[Tryz.ntmps167,Nat.reduceAdd,Nat.reduceSub,li];have jH:=eU;unfold FQ.val;gi_wp2_with (gi_at_call 86;refine aL.2 ((Pr q _).mono ?_);rintro e w' ⟨rfl,rfl⟩);obtain ⟨w1,ye⟩:=ao ((((w.alloc (.cells #[.int .u8 q.o,.string q.n,.slice q.a q.l q.c,.slice q.b q.m q.e] 36)).alloc (.cells #[.int .i64 9223372036854775807] 3)).alloc (.cells #[.int .i64 0] 3)).alloc (.cells #[.int .u8 q.o,.string q.n,.slice q.a q.l q.c,.slice q.b q.m q.e] 36));have hb1:=Sk ye;have iq:=VS ye;have xL:NAt (w.heap.size+1) 9223372036854775807 w1:=by rw[ye];exact (bK _ _ _ (by simp)).trans ((bK _ _ _ (by simp)).trans (aj (by simp)))
 have xN:NAt (w.heap.size+1+1) 0 w1:=by rw[ye];exact (bK _ _ _ (by simp)).trans (aj (by simp))
 have xX:=OI ye;rw[<-ye];clear ye;have hq1:FormV (fun b=>b<w1.heap.size/\¬(b=w.heap.size+1+1)) w1 q.val f:=(HQ.o.later hb1).move (fun b hb hlt=>⟨⟨hlt,by omega⟩,rfl⟩);have oB:=Ps f ng.o (fun b=>b=w.heap.size+1+1) w1.heap.size (w.heap.size+1+1+1) w1 q xX (by omega) hq1;obtain ⟨zcA,dO,R1,HL,HN⟩:=vK oB hb1 iq xL xN;have hNl:w.heap.size+1+1<w1.heap.size:=by omega
 have zay:=ab hNl;clear oB hb1 iq xL xN xX hq1 hNl;have eg:∀ args W,(callFunc 150 args).run Tryz.prog W=.ok (.enter 150 args) W:=enters_of Tryz.func150 (by kernel_rfl) rfl;refine gd rfl eg (fun b hb=>by subst hb;exact zay.o) zcA.o (fun _ _ _ h=>by obtain ⟨v,rfl,_⟩:=h;rfl)
  (fun pre X=>NAt (w.heap.size+1+1) (pM pre) X/\Kp (fun b=>b=w.heap.size+1+1) w1 X) (fun _ _ _=>False) (fun s=>?hI) (fun _ _ _ _ _ h=>h.elim) ⟨by simpa[pM] using HN.o,Kp.refl _⟩ ?round ?done (fun _ _ _ _ h=>h.elim)
 case hI=>
  rintro X Y hn ⟨h1,h2⟩;exact ⟨(hn.old zay.o (bn h1)).trans h1,hn.os.trans h2.os,hn.tape.trans h2.tape,hn.output.trans h2.output,aQ h2.size hn.size,fun b hb hm=>(hn.old hb (bN hb h2.size)).trans (h2.same b hb hm)⟩
 case done=>
  rintro D X hD ⟨hn,bj⟩ _ hd;rw[sI]at hn;have c0:=hn.c0;obtain ⟨HK,HD⟩:=aZ bj hd;clear hn bj hd;gi_wp2;refine ⟨by simp,.inl ⟨_,_,rfl,run_takeDeferred HD.o,?_⟩⟩;refine ⟨.int .i64 (nodesF f),by simp[results,Tryz.results167,go_sem],rfl,?_⟩;have hk:=D5 (.deferred none) HK.o hD;exact pm164
 case round=>
  rintro l pre vs x W hl yf ⟨hn,bj⟩ ⟨u,rfl,hu⟩ _ dt;obtain ⟨HU,FC,HK,HLr,nS⟩:=vK hu hn bj yf dt;clear hn bj hu yf dt;unfold FQ.val;gi_wp2;have hB:Below W.heap.size W (W.alloc (.cells #[.int .u8 u.o,.string u.n,.slice u.a u.l u.c,.slice u.b u.m u.e] 36)):=cQ;refine ⟨Kp.below hB,⟨FC.o.later hB,HK.o.trans (Kp.below hB)⟩,fun W2 gE ks fW=>?_⟩;have Bp:W2.heap[W.heap.size]?=some (.cells #[.int .u8 u.o,.string u.n,.slice u.a u.l u.c,.slice u.b u.m u.e] 36 (0,0)):=(gE.same _ (by obtain ⟨r,hr⟩:=HLr.o;have:=(bn hr);omega)).trans (aj rfl);have ym:FormV (fun b=>b<w1.heap.size/\¬(b=w.heap.size+1+1)) W2 u.val x:=((HU.o.later hB).move (ok':=fun b=>b<w1.heap.size/\¬(b=w.heap.size+1+1)) (fun b hb hlt=>⟨hb,gE.same b (by omega)⟩));have hL2:NAt (w.heap.size+1) 9223372036854775807 W2:=HL.o.kp fW (by omega);have hf:=Dk f ng.o x (nS.o.subset (by simp));have nC:=Su nS.o;rw[sI,mR]at nC;obtain ⟨⟨xo,xn,xa,xs⟩,hx⟩:∃y,x=y:=⟨_,rfl⟩;have au:pM (pre ++ [x])=pM pre+(1+nodesTs xa):=by rw[mR,hx];simp[pM,Fm.a]
  have ho1:pM [x]=1+nodesTs xa:=by rw[hx];simp[pM,Fm.a]
  rw[ho1]at nC;rw[hx]at ym hf;obtain ⟨uo,un,ua,ul,uc,ub,um,ue⟩:=u;obtain ⟨va,vs2,FJ,fL,FG⟩:=aW.1 ym;simp only[FQ.val,cA,Array.mk.injEq,cr,and_true,Value.int.injEq,true_and,Value.string.injEq]at FJ;obtain ⟨rfl,rfl,rfl,rfl⟩:=FJ;obtain ⟨P,hP⟩:=ao (pM pre);obtain ⟨m,hm⟩:=ao (nodesTs xa);rw[<-hP]at ks;have UH:pM (pre ++ [x])=P+(1+m):=by rw[au,hP,hm]
  have ur:P+(1+m)<=2000000:=by rw[hP,hm];omega
  have bl:w1.heap.size<=W2.heap.size:=fW.size;have CC:=fun (W3:World) (h:Kp (fun b=>b=w.heap.size+1+1) W2 W3) (hN:NAt (w.heap.size+1+1) (P+1) W3)=>y_ xa (w.heap.size+1+1) (w.heap.size+1) (fun b=>b<w1.heap.size/\¬(b=w.heap.size+1+1)) (P+1) W3 ua ul uc (by omega) hf.args (fL.move (fun b hb hlt=>⟨hb,h.same b hlt hb.2⟩)) (fun b hb=>hb.2) hN (hL2.kp h (by omega)) (by omega) (by omega);rw[<-hm]at CC;have C3:=CC (W2.setCell ⟨w.heap.size+1+1,0,none⟩ (.int .i64 (P+1))) (oI _) (ks.set _);have HC3:=ab C3;have cN:=ks.c0;have cL:=hL2.c0;have cx2:W2.cell? ⟨W.heap.size,2,none⟩=some (.slice ua ul uc):=ah Bp 2;have zN:=ac ks 0;have zeG:¬w.heap.size+1=w.heap.size+1+1:=by omega
  have zeH:¬W.heap.size=w.heap.size+1+1:=by have:=HK.o.size;have:=R1.o;omega
  obtain ⟨HL2,HK2,HO,HE2⟩:=eR hL2 fW UH ur;clear C3 CC ks hL2 fL FG ym hf hx au ho1 nC Bp hP hm UH fW;have zcp:decide ((9223372036854775807:Int)<(P:Int)+1+(m:Int))=false:=by simp;have:=HE2.o;omega
  have hfr:∀ f,(Fence.wide.inRound l).fn f:=fun _=>trivial;gi_wp2_with (gi_at_call 230;refine CallsIn.inRound l (aL.2 (HC3.o.mono ?_));rintro e w4 ⟨rfl,j7,IN⟩;have c4:=IN.c0;have l4:=(HL2.o.kp ((oI _).trans j7) (by omega)).c0;have HK4:=ab j7;have HN4:=ab IN;clear j7 IN);refine ⟨(oI _).trans HK4.o,?_,HK2.o.trans ((oI _).trans HK4.o)⟩;rw[HO.o,show ((P+(1+m):Nat):Int)=(P:Int)+1+(m:Int) by omega];exact HN4.o
theorem kI (f:Fm) (aA:fitF f) (ok:Nat->Prop) (w:World) (q:FQ) (hq:FormV ok w q.val f) :
  Calls Tryz.prog 99 #[q.val] w fun e w'=>e=.returned (.int .i64 (nodesF f))/\Below w.heap.size w w':=by
 have hb1:Below w.heap.size w (w.alloc (.cells #[.int .u8 q.o,.string q.n,.slice q.a q.l q.c,.slice q.b q.m q.e] 36)):=cQ;have C1:=MT f aA ok _ q (hq.later hb1);obtain ⟨HB,HC⟩:=aZ hb1 C1;clear hb1 C1 hq;unfold FQ.val at HC ⊢;go_enter Tryz.func99,Tryz.ntmps99;go_wp2_with (go_at_call 167;refine HC.o.mono ?_;rintro e w2 ⟨rfl,bF⟩);go_ret;exact ⟨rfl,HB.o.trans (bF.mono (by simp))⟩
theorem TermsV.one {ok:Nat->Prop} {q:TQ} {t:Tm} {fr:Nat×Nat} (c:Nat) (ht:TermV ok W q.val t) (hb:ok b) (dp:W.heap[b]?=some (.cells #[.bool q.v,.string q.n,.slice q.a q.l q.c] T fr)) :
  TermsV ok W (.slice (some ⟨b,0,none⟩) 1 c) [t]:=by
 refine ⟨_,c,fun _=>q.val,rfl,.inr ⟨b,0,rfl,hb,fun j hj=>?_⟩,fun j hj=>?_⟩
 ·simp at hj;subst hj;exact ⟨_,_,_,rfl,ah dp 0,ah dp 1,ah dp 2⟩
 ·simp at hj;subst hj;exact ht
theorem FormsV.zero (ok:Nat->Prop) (W:World):FormsV ok W (.slice none 0 0) []:=⟨none,0,fun _=>.bool true,rfl,.inl rfl,fun j h=>by simp at h⟩
theorem kN (t:Tm) (aA:fitT t) (hn:nodesT t<2000000) (ok:Nat->Prop) (w:World) (q:TQ) (hq:TermV ok w q.val t) :
  Calls Tryz.prog 100 #[q.val] w fun e w'=>e=.returned (.int .i64 (nodesT t))/\Below w.heap.size w w':=by
 have hb1:Below w.heap.size w (w.alloc (.cells #[.bool q.v,.string q.n,.slice q.a q.l q.c] 43)):=cQ;have bF:Below w.heap.size w ((w.alloc (.cells #[.bool q.v,.string q.n,.slice q.a q.l q.c] 43)).alloc (.cells #[.bool q.v,.string q.n,.slice q.a q.l q.c] 43)):=hb1.alloc (by simp) _;have hr:((w.alloc (.cells #[.bool q.v,.string q.n,.slice q.a q.l q.c] 43)).alloc (.cells #[.bool q.v,.string q.n,.slice q.a q.l q.c] 43)).heap[w.heap.size+1]?=some (.cells #[.bool q.v,.string q.n,.slice q.a q.l q.c] 43 (0,0)):=aj (by simp);have hf:fitF (.mk 0 [] [t] []):=⟨by have:=aA.1;simp[nodesF,nodesTs,nodesFs];omega,by have:=aA.2;simp[kT,nmTs,nmFs,this]⟩;have hv:FormV (fun _=>True) ((w.alloc (.cells #[.bool q.v,.string q.n,.slice q.a q.l q.c] 43)).alloc (.cells #[.bool q.v,.string q.n,.slice q.a q.l q.c] 43)) (FQ.val ⟨0,⟨#[]⟩,some ⟨w.heap.size+1,0,none⟩,1,1,none,0,0⟩) (.mk 0 [] [t] []):=
  aW.2 ⟨_,_,rfl,TermsV.one 1 ((hq.later bF).move (fun b _ _=>⟨trivial,rfl⟩)) trivial hr,FormsV.zero _ _⟩
 have C1:=kI _ hf _ _ _ hv;have mm:nodesF (.mk 0 [] [t] [])=nodesT t+1:=by simp[nodesF,nodesTs,nodesFs];try omega
 rw[mm]at C1;obtain ⟨HB,HC,HN⟩:=cD bF C1 hn;clear hb1 bF hr hf hv C1 hq aA mm hn;unfold TQ.val;unfold FQ.val at HC;go_enter Tryz.func100,Tryz.ntmps100;go_wp2_with (go_at_call 99;refine HC.o.mono ?_;rintro e w2 ⟨rfl,bF⟩;have cJ:=ab bF;clear bF);have hwr:wrap64 ((nodesT t:Int))=(nodesT t:Int):=Go.IntWalk.wrap64_in _ (by have:=HN.o;omega);simp only[hwr];go_ret;exact ⟨rfl,HB.o.trans (cJ.o.mono (by simp;omega))⟩
theorem JI (s:ByteArray) (w:World) :
  Calls Tryz.prog 30 #[.string s] w fun e w'=>e=.returned (.agg #[.bool true,.string s,.slice none 0 0])/\Below w.heap.size w w':=by
 go_enter Tryz.func30,Tryz.ntmps30;go_wp2;refine bI (v:=.agg #[.bool true,.string s,.slice none 0 0]) (by simp[results,Tryz.results30,go_sem]) rfl ⟨rfl,?_⟩;exact cQ
theorem Pt (s:ByteArray) (a:Option Addr) (l c:Nat) (w:World) :
  Calls Tryz.prog 31 #[.string s,.slice a l c] w fun e w'=>e=.returned (.agg #[.bool false,.string s,.slice a l c])/\Below w.heap.size w w':=by
 go_enter Tryz.func31,Tryz.ntmps31;go_wp2;refine bI (v:=.agg #[.bool false,.string s,.slice a l c]) (by simp[results,Tryz.results31,go_sem]) rfl ⟨rfl,?_⟩;exact cQ
theorem Er (s:ByteArray) (a:Option Addr) (l c:Nat) (w:World) :
  Calls Tryz.prog 24 #[.string s,.slice a l c] w fun e w'=>e=.returned (.agg #[.int .u8 1,.string s,.slice a l c,.slice none 0 0])/\Below w.heap.size w w':=by
 go_enter Tryz.func24,Tryz.ntmps24;go_wp2;refine bI (v:=.agg #[.int .u8 1,.string s,.slice a l c,.slice none 0 0]) (by simp[results,Tryz.results24,go_sem]) rfl ⟨rfl,?_⟩;exact cQ
theorem SF (o:Int) (s:ByteArray) (a:Option Addr) (l c:Nat) (w:World) :
  Calls Tryz.prog 28 #[.int .u8 o,.string s,.slice a l c] w fun e w'=>e=.returned (.agg #[.int .u8 o,.string s,.slice none 0 0,.slice a l c])/\Below w.heap.size w w':=by
 go_enter Tryz.func28,Tryz.ntmps28;go_wp2;refine bI (v:=.agg #[.int .u8 o,.string s,.slice none 0 0,.slice a l c]) (by simp[results,Tryz.results28,go_sem]) rfl ⟨rfl,?_⟩;exact cQ
theorem Wu (s:ByteArray) (w:World) :
  Calls Tryz.prog 29 #[.string s] w fun e w'=>e=.returned (.agg #[.int .u8 15,.string s,.slice none 0 0,.slice none 0 0])/\Below w.heap.size w w':=by
 go_enter Tryz.func29,Tryz.ntmps29;go_wp2;refine bI (v:=.agg #[.int .u8 15,.string s,.slice none 0 0,.slice none 0 0]) (by simp[results,Tryz.results29,go_sem]) rfl ⟨rfl,?_⟩;exact cQ
theorem MU (s x t:ByteArray) (w:World) :
  Calls Tryz.prog 35 #[.string s,.string x,.string t] w fun e w'=>(∃k c,e=.returned (.agg #[.int .u8 16,.string s,.slice (some ⟨k,0,none⟩) 2 c,.slice none 0 0])/\w.heap.size<=k/\∃T,w'.heap[k]?=some (.cells #[.bool true,.string x,.slice none 0 0,.bool true,.string t,.slice none 0 0] T (0,0)))/\Below w.heap.size w w':=by
 go_enter Tryz.func35,Tryz.ntmps35;go_wp2_with fail;refine (JI _ _).mono ?_;rintro e w1 ⟨rfl,hb1⟩;go_wp2_with fail;refine (JI _ _).mono ?_;rintro e w2 ⟨rfl,bF⟩;have x0:(w.alloc (.cells #[.int .u8 0,.string ⟨#[]⟩,.slice none 0 0,.slice none 0 0] 36)).heap[w.heap.size]?=some (.cells #[.int .u8 0,.string ⟨#[]⟩,.slice none 0 0,.slice none 0 0] 36 (0,0)):=aj rfl;have hb:Below (w.alloc (.cells #[.int .u8 0,.string ⟨#[]⟩,.slice none 0 0,.slice none 0 0] 36)).heap.size (w.alloc (.cells #[.int .u8 0,.string ⟨#[]⟩,.slice none 0 0,.slice none 0 0] 36)) w2:=hb1.trans (bF.mono hb1.size);have x2:=bT hb x0;have hsz:w.heap.size<w2.heap.size:=(bn x2);obtain ⟨W3,ec⟩:=ao (w2.alloc (.cells #[.bool true,.string x,.slice none 0 0,.bool true,.string t,.slice none 0 0] 43));have x3:W3.heap[w.heap.size]?=some (.cells #[.int .u8 0,.string ⟨#[]⟩,.slice none 0 0,.slice none 0 0] 36 (0,0)):=by rw[ec];exact (bK _ _ _ hsz).trans x2
 have y3:=bX ec;have aJ:Below w.heap.size w W3:=by rw[ec];exact ((((ak w.heap.size w).alloc (aF _) _).trans (hb.mono (by simp)))).alloc (by omega) _
 obtain ⟨c0,c1,c2,c3⟩:=mi x3;have z0:=ac x3 0;have z1:=ac x3 1;have z2:=ac x3 2;have z3:=ac x3 3;obtain ⟨W4,wS,x4,k4,g0⟩:=BV x3 (.int .u8 16) (.string s) (.slice (some ⟨w2.heap.size,0,none⟩) 2 2) (.slice none 0 0);rw[ec]at c0 c1 c2 c3 z0 z1 z2 z3;have H:=ab (Si ec wS g0 k4 aJ y3 hsz);clear hb1 bF x0 hb x2 x3 y3 aJ x4 k4 g0 ec wS hsz;go_wp2_with fail;rw[<-H.o.1,<-H.o.2.1];obtain ⟨g0,g1,g2,g3⟩:=H.o.2.2.1;have hk:=H.o.2.2.2.1;have aJ:=H.o.2.2.2.2.1;have hlt:=H.o.2.2.2.2.2.2;refine bI (v:=.agg #[.int .u8 16,.string s,.slice (some ⟨w2.heap.size,0,none⟩) 2 2,.slice none 0 0]) (by simp[results,Tryz.results35,go_sem,g0,g1,g2,g3]) rfl ⟨⟨_,_,rfl,by omega,_,(hk.same _ (bn H.o.2.2.2.2.2.1) (by omega)).trans H.o.2.2.2.2.2.1⟩,?_⟩;exact ⟨hk.os.trans aJ.os,hk.tape.trans aJ.tape,hk.output.trans aJ.output,aQ aJ.size hk.size,fun b hb=>(hk.same b (bN hb aJ.size) (by omega)).trans (aJ.block b hb)⟩
end
section
attribute [local go_sem] Oper.semAt_some run_makeMap
structure PutI (t:Value×Value×Value) (x:Str) (u:Tm) (w:World) (k:Nat) (wr:World):Prop where
 below:Below w.heap.size w wr
 b0:wr.heap[w.heap.size]?=some (.cells #[t.1,t.2.1,t.2.2] 43 (0,0))
 b1:wr.heap[w.heap.size+1]?=some (.cells #[.bool false,.string ⟨#[]⟩,.slice none 0 0] 43 (0,0))
 b3:wr.heap[w.heap.size+3]?=some (.cells #[.map (some (w.heap.size+2))] 146 (0,0))
 mp:MapV Tryz.prog 9 (TermIn w) wr (w.heap.size+2) k (if k=0 then [] else [(x,u)])
theorem PutI.later {t:Value×Value×Value} {wr:World} (h:PutI t x u w k wr) (hb:Below wr.heap.size wr w'):PutI t x u w k w':=
 ⟨h.below.tr hb,bT hb h.b0,bT hb h.b1,bT hb h.b3,h.mp.move (hb.block _ h.mp.lt) (fun _ _ _ _ h=>h)⟩
theorem GC (t:Tm) (aA:fitT t) (x:Str) (hx:x.length<=2000000) (u:Tm) (hfu:fitT u) (ok MV:Nat->Prop) (w:World) (q uq:TQ) (b off c:Nat) (hq:TermV ok w q.val t) (hu:TermV MV w uq.val u)
  (c0:w.cell? ⟨b,off,none⟩=some (.string ⟨x.toArray⟩)) (c1:w.cell? ⟨b,off+1,none⟩=some (.bool uq.v)) (c2:w.cell? ⟨b,off+2,none⟩=some (.string uq.n)) (c3:w.cell? ⟨b,off+3,none⟩=some (.slice uq.a uq.l uq.c)) :
  Calls Tryz.prog 168 #[q.val,.slice (some ⟨b,off,none⟩) 1 c] w fun e w'=>(∃p:TQ,e=.returned p.val/\TermV (w.heap.size<=·) w' p.val (iB x u t))/\Below w.heap.size w w':=by
 obtain ⟨qv,qn,qa,ql,qc⟩:=q;obtain ⟨uv,un,ua,ul,uc⟩:=uq;obtain ⟨W1,bR⟩:=ao ((((w.alloc (.cells #[.bool qv,.string qn,.slice qa ql qc] 43)).alloc (.cells #[.bool false,.string ⟨#[]⟩,.slice none 0 0] 43)).alloc (.map #[] 0)).alloc (.cells #[.map (some (w.heap.size+2))] 146));have hI:PutI (.bool qv,.string qn,.slice qa ql qc) x u w 0 W1:=by
  rw[bR];refine ⟨((cQ.alloc (by simp) _).alloc (by simp;omega) _).alloc (by simp;omega) _,?_,?_,aj (by simp),?_⟩
  ·exact (bK _ _ _ (by simp;omega)).trans ((bK _ _ _ (by simp;omega)).trans ((bK _ _ _ (by simp)).trans (aj rfl)))
  ·exact (bK _ _ _ (by simp)).trans ((bK _ _ _ (by simp)).trans (aj (by simp)))
  ·have h:=MapV.made (P:=Tryz.prog) (k:=9) (V:=TermIn w) ((w.alloc (.cells #[.bool qv,.string qn,.slice qa ql qc] 43)).alloc (.cells #[.bool false,.string ⟨#[]⟩,.slice none 0 0] 43));simp only[World.size_alloc]at h;exact h.move (bK _ _ _ (by simp)) (fun _ _ _ _ h=>h)
 obtain ⟨HI,iW,HQ,HU⟩:=eR hI bR hq hu;have HC:=cC c0 c1 c2 c3;have ng:=aC aA hfu;clear hI bR hq hu c0 c1 c2 c3 aA hfu;have hmf:∀ (fn:Fn) (first cap:Array Value) (w:World),(Instr.makeFunc fn first cap).run Tryz.prog w=.ok (.func fn first cap) w:=fun _ _ _ _=>rfl;unfold TQ.val;simp only;go_enter Tryz.func168,Tryz.ntmps168;go_wp2;rw[<-iW.o];go_loopw [13] (fun i wr=>∃k:Nat,k<=1/\i=.int .i64 k/\PutI (.bool qv,.string qn,.slice qa ql qc) x u w k wr) (fun i _=>1 - (intOf i).toNat)
 case atStart=>exact ⟨0,by omega,rfl,HI.o⟩
 case round=>
  obtain ⟨k,hk,rfl,hI⟩:=hrel
  by_cases hlt:k<1
  ·obtain rfl:k=0:=by omega
   obtain ⟨d0,d1,d2,d3⟩:=nb hI.below HC.o.1 HC.o.2.1 HC.o.2.2.1 HC.o.2.2.2;obtain ⟨A1,FK⟩:=ao (wr.alloc (.cells #[.string ⟨x.toArray⟩,.bool uv,.string un,.slice ua ul uc] 143));obtain ⟨A2,cv⟩:=ao (A1.alloc (.cells #[.bool false,.string ⟨#[]⟩,.slice none 0 0] 43));have b1:=cX FK;have b2:=cX cv;have hI1:=hI.later b1;have hI2:=hI1.later b2;have x1:=bX FK;have o0:A1.cell? ⟨wr.heap.size,0,none⟩=some (.string ⟨x.toArray⟩):=ah x1 0;have o1:A1.cell? ⟨wr.heap.size,1,none⟩=some (.bool uv):=ah x1 1;have o2:A1.cell? ⟨wr.heap.size,2,none⟩=some (.string un):=ah x1 2;have o3:A1.cell? ⟨wr.heap.size,3,none⟩=some (.slice ua ul uc):=ah x1 3;obtain ⟨p0,p1,p2,p3⟩:=nb b2 o0 o1 o2 o3;have m1:A1.cell? ⟨w.heap.size+3,0,none⟩=some (.map (some (w.heap.size+2))):=ah hI1.b3 0;have m2:=aa b2 m1;have hr:(Instr.lookup 146 (.map (some (w.heap.size+2))) (.string ⟨x.toArray⟩) true).run Tryz.prog A1=.ok (.tuple #[.agg #[.bool false,.string ⟨#[]⟩,.slice none 0 0],.bool false]) A1:=by
    rcases hI1.mp.look Tryz.underlying9 Tryz.underlying146 jK hx with ⟨_,hr⟩ | ⟨u',v,hs,_⟩
    ·exact (hr A1 rfl).1
    ·simp[getB]at hs
   obtain ⟨w4,cV,hm4,vA,wh⟩:=hI2.mp.store Tryz.underlying9 Tryz.underlying146 (by omega) hx (v:=.agg #[.bool uv,.string un,.slice ua ul uc]) (a:=u) (l':=[(x,u)]) (V':=TermIn w) ⟨⟨uv,un,ua,ul,uc⟩,rfl,HU.o.any⟩ (fun _ _ _ _ _ h=>h) (fun y=>by
    by_cases e:y=x
    ·subst e;simp[getB]
    ·have e2:¬x=y:=fun h=>e h.symm;simp[getB,e,e2])
   have j7:∀ b,b<A2.heap.size->b≠w.heap.size+2->w4.heap[b]?=A2.heap[b]?:=fun b hb jD=>vA.block b hb (fun h=>by cases h;exact jD rfl);have hI4:PutI (.bool qv,.string qn,.slice qa ql qc) x u w 1 w4:=⟨⟨vA.os.trans hI2.below.os,vA.tape.trans hI2.below.tape,vA.output.trans hI2.below.output,by have:=hI2.below.size;omega,fun b hb=>(j7 b (bN hb hI2.below.size) (by omega)).trans (hI2.below.block b hb)⟩,
    (j7 _ (bn hI2.b0) (by omega)).trans hI2.b0,(j7 _ (bn hI2.b1) (by omega)).trans hI2.b1,(j7 _ (bn hI2.b3) (by omega)).trans hI2.b3,by simpa using hm4⟩
   have HI4:=ab hI4;rw[cv]at m2 p0 p1 p2 p3 cV;rw[FK]at hr cV m1 m2 o0 o1 o2 o3 p0 p1 p2 p3;clear hI hI1 hI2 hI4 hm4 vA wh j7 x1 b1 b2 FK cv;go_wp2;go_roundw
   case rel=>exact ⟨1,by omega,by go_num,HI4.o⟩
   case measure=>simp[intOf]
  ·obtain rfl:k=1:=by omega
   have C:=zy 232 #[.pointer (some ⟨w.heap.size+3,0,none⟩)] Gy _ wr (MO w wr hI.below (w.heap.size+3) (w.heap.size+2) 1 [(x,u)] (ah hI.b3 0) (by simpa using hI.mp)) (fun n u' h=>by
    have iA:u=u':=by
     simp only[getB]at h;split at h
     ·injection h
     ·cases h
    subst iA;exact fun ok W q hq=>MN _ ng.o.2 ok W q hq) t ng.o.1 ok wr ⟨qv,qn,qa,ql,qc⟩ (ak _ _) (HQ.o.later hI.below)
   have UI:(fun n=>getB [(x,u)] n)=(fun n=>if n == x then some u else none):=by
    funext n
    simp only[getB]
    by_cases e:x=n
    ·subst e;simp
    ·have e2:¬n=x:=fun h=>e h.symm;simp[e,e2]
   rw[UI]at C;simp only[TQ.val]at C;obtain ⟨e0,e1,e2⟩:=lE hI.b0;obtain ⟨HC,HY⟩:=aZ C hI;clear C hI UI;go_wp2_with (go_at_call 154;refine HC.o.mono ?_;rintro e w5 ⟨⟨p5,rfl,rq⟩,bi⟩;obtain ⟨pv,pn,pa,pl,pc⟩:=p5;simp only at rq ⊢;have x1:=(HY.o.later bi).b1;have e0:=ah x1 0;have e1:=ah x1 1;have e2:=ah x1 2;have z0:=ac x1 0;have z1:=ac x1 1;have z2:=ac x1 2;have H5:=cC rq (HY.o.below.tr bi) x1 bi.size;clear bi rq x1);have hz:=HY.o.below.size;have SG:=(bn HY.o.b1);exact pm62
end
theorem oT {t:List Str} (h:t.length<10 ^ 14):(dN t).length<=2000000:=by
 obtain ⟨j,h1,nC,he,_⟩:=tZ t (by omega);rw[he];unfold gZ;have:=El 20 j 15 (by omega) (by omega);simp;omega
mutual
theorem SH {x:Str} (hu:jN p u=true):∀ t,jN p t=true->jN p (iB x u t)=true
 | .mk v n a,h=>by
  simp only[jN,ae,bw]at h;have ih:=zK (x:=x) hu a h.2;unfold dF at ih;unfold iB at ih ⊢;rw[eT]
  cases v with
  | false=>
   simp only[bZ,if_false,jN,ae,bw];exact ⟨h.1,by rw[eZ];exact ih⟩
  | true=>
   simp only[if_true]
   by_cases hx:(n == x)=true
   ·simp only[hx,if_true];exact hu
   ·have hx:(n == x)=false:=by simpa using hx
    simp only[hx,bZ,if_false,jN,ae,bw];exact ⟨h.1,by rw[eZ];exact ih⟩
theorem zK {x:Str} (hu:jN p u=true):∀ l,nmTs p l=true->nmTs p (dF x u l)=true
 | [],_=>by simp[dF,nmTs]
 | t :: l,h=>by
  simp only[nmTs,ae]at h;have h1:=SH (x:=x) hu t h.1;have h2:=zK (x:=x) hu l h.2;unfold dF at h2 ⊢;simp only[cU,nmTs,ae];exact ⟨h1,h2⟩
end
theorem wi {y:Str} (h:y.length<=2000000):jN 2000000 (am y)=true:=by simp[am,jN,nmTs,h]
theorem oU:∀ (k:Nat) (f:Fm) (x:Str) (u:Tm),lL f=true->qone f=true->depthF f<=k->nodesF f+nodesT u<10 ^ 10->kT 2000000 f=true->jN 2000000 u=true->kT 2000000 (eD k x u f)=true
 | 0,f,x,u,hw,hq,hd,hs,hf,hu=>by have:=kG f;omega
 | k+1,.mk o n a s,x,u,hw,hq1,hd,hs,hf,hu=>by
  have I4:=hf;have pp136c:=();exact pm136
theorem JJ {a b:List Str} (ha:a.length<10 ^ 18) (hb:b.length<10 ^ 18) (ha2:(cm a).length<10 ^ 18) (bF:(cm b).length<10 ^ 18):dN (cm a ++ cm b)=dN (a ++ b):=
 Dd (by simp;omega) (by simp;omega) (fun x=>by simp[dL])
theorem eO (l:List Str):(cm l).length<=l.length:=by
 unfold cm
 induction l with
 | nil=>simp
 | cons x l ih=>
  have h:∀ (m:List Str),(sy x m).length<=m.length+1:=fun m=>by
   induction m with
   | nil=>simp[sy]
   | cons y m ih2=>
    unfold sy;split
    ·simp
    ·split
     ·simp
     ·simp;omega
  simp only[List.foldr_cons,fF];have:=h (List.foldr sy [] l);omega
theorem lN (l:List Str) (x:Str):(cm l).contains x=l.contains x:=by
 rw[gA];simp[dL]
section
attribute [local go_sem] Oper.semAt_some
abbrev frV (c0 c1:Nat):Value:=.func (.func 213) #[] #[.pointer (some ⟨c0,0,none⟩),.pointer (some ⟨c1,0,none⟩)]
def FrG (M:Nat->Prop) (c0 c1:Nat) (J:List Str->World->Prop) (xs:List Str):Prop:=∀ (pre:List Str) (x:Str) (W1:World),J pre W1->(pre ++ [x]) <+: xs →
 Calls Tryz.prog 213 #[.string ⟨x.toArray⟩,.pointer (some ⟨c0,0,none⟩),.pointer (some ⟨c1,0,none⟩)] W1 fun e W'=>e=.returned (.bool true)/\J (pre ++ [x]) W'/\Kp M W1 W'
theorem zL (c0 c1:Nat):∀ (t:Tm),fitT t->∀ (M:Nat->Prop) (B:Nat) (J:List Str->World->Prop) (xs pre:List Str) (W:World) (q:TQ),(∀ b,M b->b<W.heap.size)->(∀ s,Abides W.heap.size (J s))->FrG M c0 c1 J xs->TermV (fun b=>b<B/\¬M b) W q.val t->(pre ++ aN t) <+: xs->J pre W →
  Calls Tryz.prog 214 #[q.val,frV c0 c1] W fun e W'=>e=.returned (.bool true)/\J (pre ++ aN t) W'/\Kp M W W':=by
 intro t
 induction t using Tm.ind with
 | h v n a ih=>
  intro aA M B J xs pre W q hM hJ hG hq dt hj;obtain ⟨qv,qn,qa,ql,qc⟩:=q;obtain ⟨sa,hs,bO⟩:=aV.1 hq;have pp38g:=();exact pm38
end
theorem Wv {P:Program} {k:TypeId} {β:Type} {V:Value->α->Prop} {V':Value->β->Prop} {n':Nat} {l:List (Str×α)} {l':List (Str×β)} (h:W.grownBy W' (some m)) (hm:MapV P k V W m n l) (hm':MapV P k V' W' m n' l') (hB:B<=m):Nw B W W':=by
 obtain ⟨D,⟨es,zd,h1,_⟩,_⟩:=hm;obtain ⟨D',⟨Sz,We,Wd,_⟩,_⟩:=hm';refine ⟨h.os,h.tape,h.output,h.size,fun b hb=>?_⟩
 by_cases e:b=m
 ·subst e;exact .inr ⟨hB,⟨_,h1,rfl⟩,_,Wd,rfl⟩
 ·exact .inl (h.block b hb (fun h=>by cases h;exact e rfl))
def BoundW (W:World) (m n:Nat) (bs:List Str):Prop:=∃l:List (Str×Nat),MapV Tryz.prog 9 (fun v (c:Nat)=>v=.int .i64 (c:Int)) W m n l/\∀ x,(getB l x).getD 0=bs.count x
theorem BoundW.lt (h:BoundW W m n bs):m<W.heap.size:=by obtain ⟨l,h,_⟩:=h;exact h.lt
theorem BoundW.same (h:BoundW W m n bs) (hb:W'.heap[m]?=W.heap[m]?):BoundW W' m n bs:=by
 obtain ⟨l,h,hx⟩:=h;exact ⟨l,h.move hb (fun _ _ _ _ h=>h),hx⟩
theorem BoundW.made (w:World):BoundW (w.alloc (.map #[] 0)) w.heap.size 0 []:=⟨[],MapV.made w,fun x=>by simp[getB]⟩
theorem BoundW.look (h:BoundW W m n bs) (hx:x.length<=2000000) :
  ∀ W':World,W'.heap[m]?=W.heap[m]?->(Instr.lookup 198 (.map (some m)) (.string ⟨x.toArray⟩) false).run Tryz.prog W'=.ok (.int .i64 (bs.count x:Int)) W':=by
 obtain ⟨l,h,hl⟩:=h;intro W' hW;have hz:∀ w,(zeroValue 3).run Tryz.prog w=.ok (.int .i64 0) w:=fun w=>by kernel_rfl
 have hc:=hl x;rcases h.look Tryz.underlying9 Tryz.underlying198 hz hx with ⟨hn,hr⟩ | ⟨a,v,hs,rfl,hr⟩
 ·rw[hn]at hc;rw[<-hc];exact (hr W' hW).2
 ·rw[hs]at hc;rw[<-hc];exact (hr W' hW).2
theorem BoundW.store {bs':List Str} (h:BoundW W m n bs) (hn:n<4000000) (hx:x.length<=2000000) (hb:∀ y,y≠x->bs'.count y=bs.count y) :
  ∃w',(Instr.mapUpdate 198 (.map (some m)) (.string ⟨x.toArray⟩) (.int .i64 (bs'.count x:Int))).run Tryz.prog W=.ok () w'/\BoundW w' m (n+1) bs'/\W.grownBy w' (some m)/\w'.heap.size=W.heap.size/\∀ B,B<=m->Nw B W w':=by
 obtain ⟨l,h,hl⟩:=h;obtain ⟨w',hr,hm,hg,hs⟩:=h.store Tryz.underlying9 Tryz.underlying198 hn hx (v:=.int .i64 (bs'.count x:Int)) (a:=bs'.count x) (l':=(x,bs'.count x) :: l) (V':=fun v (c:Nat)=>v=.int .i64 (c:Int)) rfl (fun _ _ _ _ _ h=>h) (fun y=>by
  rw[getB]
  by_cases e:y=x
  ·subst e;simp
  ·rw[aD e];rw[aD (by simpa using fun h=>e h.symm)])
 refine ⟨w',hr,⟨_,hm,fun y=>?_⟩,hg,hs,fun B hB=>Wv hg h hm hB⟩;rw[getB]
 by_cases e:y=x
 ·subst e;simp
 ·rw[aD (by simpa using fun h=>e h.symm),hl y,hb y e]
section
attribute [local go_sem] Oper.semAt_some
theorem Ww (mb n c0 c1:Nat) (bs:List Str) (x:Str) (hx:x.length<=2000000) (W:World) (h0:W.cell? ⟨c0,0,none⟩=some (.map (some mb))) (hb:BoundW W mb n bs) (hc:0<bs.count x) :
  Calls Tryz.prog 213 #[.string ⟨x.toArray⟩,.pointer (some ⟨c0,0,none⟩),.pointer (some ⟨c1,0,none⟩)] W fun e w'=>e=.returned (.bool true)/\w'=W:=by
 have hr:=hb.look hx W rfl;obtain ⟨k,hk⟩:=ao (bs.count x);rw[<-hk]at hr hc;have hd:decide ((0:Int)<(k:Int))=true:=by simp;omega
 have Uk:(0:Int)<(k:Int):=by omega
 clear hb hk hc;go_enter Tryz.func213,Tryz.ntmps213;go_wp2;go_ret;exact ⟨rfl,rfl⟩
theorem SI (mb n l c0 c1:Nat) (bs:List Str) (x:Str) (hx:x.length<=2000000) (W:World) (R:World->Prop) (h0:W.cell? ⟨c0,0,none⟩=some (.map (some mb))) (h1:W.cell? ⟨c1,0,none⟩=some (.func (.yield l) #[] #[])) (hb:BoundW W mb n bs) (hc:bs.count x=0)
  (hy:YieldAt Fence.wide 0 Tryz.prog l #[.string ⟨x.toArray⟩] W fun e W'=>e=.returned (.bool true)/\R W') :
  Calls Tryz.prog 213 #[.string ⟨x.toArray⟩,.pointer (some ⟨c0,0,none⟩),.pointer (some ⟨c1,0,none⟩)] W fun e w'=>e=.returned (.bool true)/\R w':=by
 have hr:=hb.look hx W rfl;rw[hc]at hr;have hr:(Instr.lookup 198 (.map (some mb)) (.string ⟨x.toArray⟩) false).run Tryz.prog W=.ok (.int .i64 0) W:=hr;obtain ⟨fn,tmps,assign,body,hy,Ga⟩:=jG 2 hy;clear hb hc;refine mM Tryz.func213 ?_;simp only[Tryz.ntmps213,Nat.reduceAdd,Nat.reduceSub,li];have jH:=eU;gi_wp2;refine Ga.mono ?_;rintro e W2 ⟨rfl,hR⟩;have HR:=ab hR;clear hR Ga hy hr;gi_wp2;go_ret;exact ⟨rfl,HR.o⟩
structure FrJ (J:List Str->World->Prop) (pre:List Str) (M:Nat->Prop) (W0:World) (mb n:Nat) (bs:List Str) (l s:Nat) (p:List Str) (X:World):Prop where
 j:J (pre ++ p.filter (fun x=>!bs.contains x)) X
 kp:Kp M W0 X
 bd:BoundW X mb n bs
 b1:X.heap[s+1]?=some (.cells #[.map (some mb)] 198 (0,0))
 b2:X.heap[s+2]?=some (.cells #[.func (.yield l) #[] #[]] 113 (0,0))
theorem Pu {X Y:World} (h:Kp M W0 X) (hn:Nw B X Y) (hB:W0.heap.size<=B):Kp M W0 Y:=
 ⟨hn.os.trans h.os,hn.tape.trans h.tape,hn.output.trans h.output,aQ h.size hn.size,fun b hb hm=>(hn.old (by omega) (bN hb h.size)).trans (h.same b hb hm)⟩
theorem FrJ.abides {J:List Str->World->Prop} {l:Nat} (hJ:∀ s,Abides W0.heap.size (J s)) (h0:W0.heap.size<=B) (hm:mb<B) (hs:s+2<B) (p:List Str):Abides B (FrJ J pre M W0 mb n bs l s p):=by
 intro X Y hn h;exact ⟨(hJ _).mono h0 X Y hn h.j,Pu h.kp hn h0,h.bd.same (hn.old hm h.bd.lt),(hn.old (by omega) (bn h.b1)).trans h.b1,(hn.old (by omega) (bn h.b2)).trans h.b2⟩
theorem BW (g:α->Bool) {a b:List α} (h:a <+: b):a.filter g <+: b.filter g:=by
 obtain ⟨r,rfl⟩:=h;rw[List.filter_append];exact ⟨_,rfl⟩
theorem JK {p:List α} {x:α} {xs:List α} (h:(p ++ [x]) <+: xs):x∈xs:=h.subset (by simp)
theorem Wx {J:List Str->World->Prop} {xs:List Str} {l:Nat} {a:List Tm} (hM:∀ b,M b->b<W0.heap.size) (Bn:W0.heap.size<=mb) (hs:W0.heap.size<=s) (hY:YieldK M l J zb xs W0) (aA:fitTs a)
  (dt:(pre ++ (aw a).filter (fun x=>!bs.contains x)) <+: xs):FrG (fun b=>M b\/b=mb) (s+1) (s+2) (FrJ J pre M W0 mb n bs l s) (aw a):=by
 intro p x W1 h hp;have hxm:=JK hp;have yg:x.length<=2000000:=n8 a aA.2 x hxm;have c0:W1.cell? ⟨s+1,0,none⟩=some (.map (some mb)):=ah h.b1 0;have c1:W1.cell? ⟨s+2,0,none⟩=some (.func (.yield l) #[] #[]):=ah h.b2 0
 by_cases hc:bs.contains x=true
 ·have hm:x∈bs:=by simpa using hc
  have hf:(p ++ [x]).filter (fun x=>!bs.contains x)=p.filter (fun x=>!bs.contains x):=by simp[List.filter_append,hm]
  refine (Ww mb n (s+1) (s+2) bs x yg W1 c0 h.bd (List.count_pos_iff.2 (by simpa using hc))).mono ?_;rintro e w' ⟨rfl,rfl⟩;exact ⟨rfl,⟨by rw[hf];exact h.j,h.kp,h.bd,h.b1,h.b2⟩,Kp.refl _⟩
 ·have hm:¬x∈bs:=by simpa using hc
  have hf:(p ++ [x]).filter (fun x=>!bs.contains x)=p.filter (fun x=>!bs.contains x) ++ [x]:=by simp[List.filter_append,hm]
  have hpx:(pre ++ p.filter (fun x=>!bs.contains x) ++ [x]) <+: xs:=by
   have h1:=BW (fun x=>!bs.contains x) hp;rw[hf]at h1;obtain ⟨r,hr⟩:=h1;rw[<-hr]at dt;obtain ⟨r2,R2⟩:=dt;exact ⟨r ++ r2,by rw[<-R2];simp⟩
  have hy:=hY (pre ++ p.filter (fun x=>!bs.contains x)) #[.string ⟨x.toArray⟩] x W1 h.j h.kp rfl hpx;refine (SI mb n l (s+1) (s+2) bs x yg W1 (fun W'=>J (pre ++ p.filter (fun x=>!bs.contains x) ++ [x]) W'/\Kp M W1 W') c0 c1 h.bd (by
   rw[List.count_eq_zero];simpa using hc) hy).mono ?_
  rintro e w' ⟨rfl,hj,hk⟩;have dK:∀ b,W0.heap.size<=b->¬M b:=fun b hb h=>by have:=hM b h;omega
  have l1:=(bn h.b1);have l2:=(bn h.b2);refine ⟨rfl,⟨by rw[hf,<-List.append_assoc];exact hj,h.kp.trans hk,h.bd.same (hk.same mb h.bd.lt (dK mb Bn)),(hk.same _ l1 (dK _ (by omega))).trans h.b1,(hk.same _ l2 (dK _ (by omega))).trans h.b2⟩,hk.mono (fun b _ hb=>.inl hb)⟩
theorem oc {b:List Str} {l:List Fm} {k:Nat} (h:k<l.length):bH b (l.take (k+1))=bH b (l.take k) ++ a_ b l[k]:=by
 induction l generalizing k with
 | nil=>simp at h
 | cons t l ih=>
  cases k with
  | zero=>simp[bH]
  | succ k=>have:=ih (k:=k) (by simpa using h);simp[bH]at this ⊢;rw[this]
theorem nn (b:List Str):∀ l m,bH b (l ++ m)=bH b l ++ bH b m
 | [],m=>rfl
 | t :: l,m=>by simp[bH,nn b l m]
theorem SJ (mb n s:Nat) (bs:List Str) (x:Str) (hx:x.length<=2000000) (hn:n<4000000) (hl:bs.length<=4000000) (u:FrameMode) (W:World) (h0:W.cell? ⟨s+1,0,none⟩=some (.map (some mb))) (h1:W.cell? ⟨s,1,none⟩=some (.string ⟨x.toArray⟩)) (hb:BoundW W mb n (x :: bs)) :
  CallsD Tryz.prog 215 #[.pointer (some ⟨s+1,0,none⟩),.pointer (some ⟨s,0,none⟩)] u W fun e u' w'=>u'=u/\(e=.returned (.tuple #[])/\BoundW w' mb (n+1) bs/\W.grownBy w' (some mb)/\w'.heap.size=W.heap.size/\∀ B,B<=mb->Nw B W w'):=by
 have hr:=hb.look hx W rfl;obtain ⟨w4,cV,aP,vA,wh,IN⟩:=hb.store (bs':=bs) hn hx (fun y hy=>by rw[List.count_cons_of_ne];exact fun h=>hy h.symm);have hcl:bs.count x<=4000000:=aQ List.count_le_length hl;rw[List.count_cons_self]at hr;obtain ⟨k,hk⟩:=ao (bs.count x);rw[<-hk]at hr cV hcl;have hr:(Instr.lookup 198 (.map (some mb)) (.string ⟨x.toArray⟩) false).run Tryz.prog W=.ok (.int .i64 ((k:Int)+1)) W:=by rw[hr];rfl
 have HQ:=cC aP vA wh IN;clear hb hk aP vA wh IN hl;go_enter_d Tryz.func215,Tryz.ntmps215;go_wp2;go_end0;exact ⟨rfl,HQ.o⟩
end
end Go.Proofs.YtokemihbkeddoaaGreatDoor
namespace Go.Proofs.YtokemihbkeddoaaGreatDoor
open Go Go.RowKit Go.Maps Go.Sort Go.Shelf
attribute [local go_sem] Oper.semAt_some
theorem BZ:∀ (f:Fm),fitF f->∀ (M:Nat->Prop) (B l:Nat) (J:List Str->World->Prop) (xs pre:List Str) (W0 W:World) (q:FQ) (mb n:Nat) (bs:List Str),(∀ b,M b->b<W0.heap.size)->W0.heap.size<=mb->(∀ s,Abides W0.heap.size (J s))->YieldK M l J zb xs W0->FormV (fun b=>b<B/\¬M b) W0 q.val f →
  Kp M W0 W->BoundW W mb n bs->n+2 * nodesF f<4000000->bs.length+nodesF f<=4000000->(pre ++ a_ bs f) <+: xs->J pre W →
  Calls Tryz.prog 149 #[q.val,.map (some mb),.func (.yield l) #[] #[]] W fun e W'=>e=.returned (.bool true)/\J (pre ++ a_ bs f) W'/\Kp M W0 W'/\(∃n',n'<=n+2 * nodesF f/\BoundW W' mb n' bs)/\Kp (fun b=>M b\/b=mb) W W':=by
 intro f
 induction f using Fm.ind with
 | h o nm a ss ih=>
 intro aA M B l J xs pre W0 W q mb n bs hM Bn hJ hY hq hk hb hn Om dt hj;obtain ⟨va,vs2,h1,fL,FG⟩:=aW.1 hq;obtain ⟨uo,un,ua,ul,uc,ub,um,ue⟩:=q;have pp32b:=();exact pm32
theorem B0 (q:FQ) (w:World) :
  Calls Tryz.prog 85 #[q.val] w fun e w'=>e=.returned (.func (.func 148) #[] #[.pointer (some ⟨w.heap.size,0,none⟩)])/\w'=w.alloc (.cells #[.int .u8 q.o,.string q.n,.slice q.a q.l q.c,.slice q.b q.m q.e] 36):=by
 obtain ⟨o,n,a,l,c,b,m,e⟩:=q;unfold FQ.val;go_enter Tryz.func85,Tryz.ntmps85;go_wp2;go_ret;exact ⟨rfl,rfl⟩
attribute [local go_sem] run_makeMap in
theorem B3 (f:Fm) (aA:fitF f) (JL:nodesF f<=1000000) (M:Nat->Prop) (B X:Nat) (w:World) (q:FQ) (hX:w.heap[X]?=some (.cells #[.int .u8 q.o,.string q.n,.slice q.a q.l q.c,.slice q.b q.m q.e] 36 (0,0))) (IK:¬M X) (hq:FormV (fun b=>b<B/\¬M b) w q.val f) :
  I2 M False Tryz.prog 148 #[.pointer (some ⟨X,0,none⟩)] (a_ [] f) zb w:=by
 exact pm210
theorem wj {bs:List Str} {l:List Tm} {x:Str} (h:x∈(aw l).filter (fun x=>!bs.contains x)):x∈aw l:=(List.mem_filter.1 h).1
mutual
theorem oV {p:Nat}:∀ (f:Fm) (b:List Str),kT p f=true->∀ x∈a_ b f,x.length<=p
 | .mk o n a s,b,h,x,hx=>by
  simp only[kT,ae]at h;unfold a_ at hx;rcases List.mem_append.1 hx with hx | hx
  ·exact n8 a h.2.2.1 x (wj hx)
  ·exact GD s _ h.2.2.2 x hx
theorem GD {p:Nat}:∀ (l:List Fm) (b:List Str),nmFs p l=true->∀ x∈bH b l,x.length<=p
 | [],_,_,x,hx=>by simp[bH]at hx
 | t :: l,b,h,x,hx=>by
  simp only[nmFs,ae]at h;unfold bH at hx;rcases List.mem_append.1 hx with hx | hx
  ·exact oV t b h.1 x hx
  ·exact GD l b h.2 x hx
end
theorem ut (t:Fm) (aA:fitF t) (JL:nodesF t<=1000000) (ok:Nat->Prop) (w:World) (q:FQ) (hq:FormV ok w q.val t) :
  Calls Tryz.prog 40 #[q.val] w fun e w'=>(∃v,e=.returned v/\RowS w.heap.size w' v (cm (a_ [] t)))/\RowKit.Below w.heap.size w w':=by
 have hq:=hq.lt;have nC:(a_ [] t).length<=2000000:=aQ (gH t []) aA.1;obtain ⟨W2,bl⟩:=ao ((w.alloc (.cells #[.int .u8 q.o,.string q.n,.slice q.a q.l q.c,.slice q.b q.m q.e] 36)).alloc (.cells #[.int .u8 q.o,.string q.n,.slice q.a q.l q.c,.slice q.b q.m q.e] 36));have bF:RowKit.Below w.heap.size w W2:=by rw[bl];exact cQ.alloc (by simp) _
 have gV:=xV bl;have oL:=jC bl;have C2:=Ed (a_ [] t) nC (oV t [] aA.2) 148 #[.pointer (some ⟨w.heap.size+1,0,none⟩)] W2 (enters_of Tryz.func148 (by kernel_rfl) rfl) (fun w1 hb hl=>B3 t aA JL (fun b=>b=W2.heap.size) W2.heap.size (w.heap.size+1) w1 q (bT hb oL) (by omega) ((hq.later (bF.trans (hb.mono bF.size))).move (fun b zco hlt=>⟨⟨by omega,by omega⟩,rfl⟩)));exact pm254
