/-
What is said of values in a region that draws its order and fills one box (the ghost.
-/
import Derived.Test.YtokemihbkeddoaaGreatDoorU05
namespace Go.Proofs.YtokemihbkeddoaaGreatDoor
open Go Go.RowKit Lib
set_option maxRecDepth 100000
set_option maxHeartbeats 64000000
variable {w w' w0 W W' W0:World} {L M:Nat->Prop} {kA kS k m n b p B mb s:Nat} {f:Fm} {v:Value} {l bs pre:List Str} {T:TypeId} {z:Array Value} {x:Str} {u:Tm} {α:Type}
abbrev Bx:=Option Nat×Bool
def okB (L:Nat->Prop) (γ:Bx) (w:World) (b:Nat):Prop:=L b/\b<w.heap.size/\γ.1≠some b
def Gr (γ:Bx) (w:World) (dT:Bx) (w':World):Prop:=
 (dT=γ/\Below w.heap.size w w')\/(γ.1=none/\dT=(some w.heap.size,false)/\w.heap.size<w'.heap.size/\Below w.heap.size w w')\/(∃b,γ=(some b,false)/\dT=(some b,true)/\Kp (fun c=>c=b) w w')
theorem Gr.keep {γ:Bx} (h:Below w.heap.size w w'):Gr γ w γ w':=.inl ⟨rfl,h⟩
theorem Gr.refl {γ:Bx}:Gr γ w γ w:=.inl ⟨rfl,ak _ _⟩
theorem Gr.holds {γ dT:Bx} (h:Gr γ w dT w'):dW (okB L γ w) (okB L dT w') w w':=by
 rintro b ⟨h1,h2,h3⟩ hlt;rcases h with ⟨rfl,hb⟩ | ⟨_,rfl,_,hb⟩ | ⟨c,rfl,rfl,hk⟩
 ·exact ⟨⟨h1,bE h2 hb.size,h3⟩,hb.block b hlt⟩
 ·exact ⟨⟨h1,bE h2 hb.size,fun e=>by cases e;omega⟩,hb.block b hlt⟩
 ·exact ⟨⟨h1,bE h2 hk.size,h3⟩,hk.same b hlt (fun e=>h3 (by rw[e]))⟩
theorem Gr.size {γ dT:Bx} (h:Gr γ w dT w'):w.heap.size<=w'.heap.size:=by
 rcases h with ⟨_,hb⟩ | ⟨_,_,_,hb⟩ | ⟨_,_,_,hk⟩
 ·exact hb.size
 ·exact hb.size
 ·exact hk.size
def IG (M:Nat->Prop) (w0:World) (γ:Bx) (w:World):Prop:=Kp M w0 w/\(∀ b,γ.1=some b->(w0.heap.size<=b\/M b)/\b<w.heap.size)/\∀ b,M b->γ.1=some b/\(γ.2=false->w.heap[b]?=w0.heap[b]?)
theorem IG.step {γ dT:Bx} (hG:Gr γ w dT w') (h:IG M w0 γ w):IG M w0 dT w':=by
 rcases hG with ⟨rfl,hb⟩ | ⟨hn,rfl,hlt,hb⟩ | ⟨c,rfl,rfl,hk⟩
 ·exact ⟨h.1.trans (Kp.below hb),fun b e=>⟨(h.2.1 b e).1,bE (h.2.1 b e).2 hb.size⟩,fun b hm=>⟨(h.2.2 b hm).1,fun e=>(hb.block b (h.2.1 b (h.2.2 b hm).1).2).trans ((h.2.2 b hm).2 e)⟩⟩
 ·exact ⟨h.1.trans (Kp.below hb),fun b S9=>by cases S9;exact ⟨.inl h.1.size,hlt⟩,fun b hm=>by have:=(h.2.2 b hm).1;rw[hn]at this;cases this⟩
 ·refine ⟨⟨hk.os.trans h.1.os,hk.tape.trans h.1.tape,hk.output.trans h.1.output,aN h.1.size hk.size,fun b hb hm=>?_⟩,fun b e=>⟨(h.2.1 b e).1,bE (h.2.1 b e).2 hk.size⟩,fun b hm=>⟨(h.2.2 b hm).1,fun e=>by cases e⟩⟩;refine (hk.same b (bE hb h.1.size) (fun e=>?_)).trans (h.1.same b hb hm);rcases (h.2.1 c rfl).1 with h2 | h2
  ·omega
  ·exact hm (e ▸ h2)
def PsB (kA kS k:Nat) (γ:Bx):Prop:=(k=kA->γ.1=none)/\(k=kS->γ.2=false)
theorem PsB.same {γ:Bx}:∀ j,j≠k->PsB kA kS j γ->PsB kA kS j γ:=fun _ _ h=>h
/-! facts -/
def FormG (L:Nat->Prop) (f:Fm) (v:Value) (γ:Bx) (w:World):Prop:=∃q:FQ,v=q.val/\FormV (okB L γ w) w q.val f
def TermG (L:Nat->Prop) (t:Tm) (v:Value) (γ:Bx) (w:World):Prop:=∃q:TQ,v=q.val/\TermV (okB L γ w) w q.val t
def FormsG (L:Nat->Prop) (l:List Fm) (v:Value) (γ:Bx) (w:World):Prop:=∃a c,v=.slice a l.length c/\FormsV (okB L γ w) w (.slice a l.length c) l
def TermsG (L:Nat->Prop) (l:List Tm) (v:Value) (γ:Bx) (w:World):Prop:=∃a c,v=.slice a l.length c/\TermsV (okB L γ w) w (.slice a l.length c) l
def BindG (L:Nat->Prop) (b:Bd) (v:Value) (γ:Bx) (w:World):Prop:=∃q:BQ,v=q.val/\BindV (okB L γ w) w q b
def StrsG (L:Nat->Prop) (l:List Str) (v:Value) (γ:Bx) (w:World):Prop:=StrsO (okB L γ w) w v l
theorem FormG.step {γ dT:Bx} (hG:Gr γ w dT w'):FormG L f v γ w->FormG L f v dT w':=fun ⟨q,e,h⟩=>⟨q,e,h.move hG.holds⟩
theorem TermG.step {f:Tm} {γ dT:Bx} (hG:Gr γ w dT w'):TermG L f v γ w->TermG L f v dT w':=fun ⟨q,e,h⟩=>⟨q,e,h.move hG.holds⟩
theorem FormsG.step {f:List Fm} {γ dT:Bx} (hG:Gr γ w dT w'):FormsG L f v γ w->FormsG L f v dT w':=fun ⟨a,c,e,h⟩=>⟨a,c,e,h.move hG.holds⟩
theorem TermsG.step {f:List Tm} {γ dT:Bx} (hG:Gr γ w dT w'):TermsG L f v γ w->TermsG L f v dT w':=fun ⟨a,c,e,h⟩=>⟨a,c,e,h.move hG.holds⟩
theorem BindG.step {f:Bd} {γ dT:Bx} (hG:Gr γ w dT w'):BindG L f v γ w->BindG L f v dT w':=fun ⟨q,e,h⟩=>⟨q,e,h.move hG.holds⟩
theorem StrsG.step {γ dT:Bx} (hG:Gr γ w dT w'):StrsG L l v γ w->StrsG L l v dT w':=fun h=>h.move hG.holds
theorem okB.new {γ:Bx} (hI:IG M w0 γ w) (hlo:∀ b,w.heap.size<=b->L b):dW (w.heap.size<=·) (okB L γ w') w' w':=fun b hb hlt=>
 ⟨⟨hlo b hb,hlt,fun e=>by
  have:=(hI.2.1 b e).2;have S9:w.heap.size<=b:=hb;omega⟩,rfl⟩
theorem FormG.new {γ:Bx} (hI:IG M w0 γ w) (hlo:∀ b,w.heap.size<=b->L b) {q:FQ} (h:FormV (w.heap.size<=·) w' q.val f):FormG L f q.val γ w':=⟨q,rfl,h.move (okB.new hI hlo)⟩
def RowG (L:Nat->Prop) (cs:Array Value) (T:TypeId) (m:Nat) (v:Value) (γ:Bx) (w:World):Prop:=∃b,v=.slice (some ⟨b,0,none⟩) m m/\okB L γ w b/\w.heap[b]?=some (.cells cs T (0,0))
theorem RowG.step {cs:Array Value} {γ dT:Bx} (hG:Gr γ w dT w'):RowG L cs T m v γ w->RowG L cs T m v dT w':=fun ⟨b,e,h1,h2⟩=>
 have h:=hG.holds b h1 (bz h2)
 ⟨b,e,h.1,h.2.trans h2⟩
theorem RowG.new {γ:Bx} (hI:IG M w0 γ w) (hlo:∀ b,w.heap.size<=b->L b) (cs:Array Value) (T:TypeId) (m:Nat):RowG L cs T m (.slice (some ⟨w.heap.size,0,none⟩) m m) γ (w.alloc (.cells cs T)):=
 ⟨_,rfl,(okB.new hI hlo _ (aI _) (by simp)).1,aj rfl⟩
def NamesG (l:List Str) (v:Value) (γ:Bx) (w:World):Prop:=StrsN w v l/\∀ b,v.ownBlock=some b->okB (fun _=>True) γ w b
theorem NamesG.step {γ dT:Bx} (hG:Gr γ w dT w'):NamesG l v γ w->NamesG l v dT w':=by
 rintro ⟨⟨a,cap,rfl,hc,h⟩,h2⟩;have h3:∀ b,(Value.slice a l.length cap).ownBlock=some b->okB (fun _=>True) dT w' b/\w'.heap[b]?=w.heap[b]?:=fun b hb=>hG.holds b (h2 b hb) (h2 b hb).2.1;refine ⟨⟨a,cap,rfl,hc,?_⟩,fun b hb=>(h3 b hb).1⟩;rcases h with h | ⟨b,off,rfl,h⟩
 ·exact .inl h
 ·exact .inr ⟨b,off,rfl,fun j hj=>(World.cell?_of_block (a:=⟨b,off+j,none⟩) (h3 b rfl).2).trans (h j hj)⟩
def BoxG (z:Array Value) (T:TypeId) (v:Value) (γ:Bx) (w:World):Prop:=∃b,v=.pointer (some ⟨b,0,none⟩)/\γ.1=some b/\b<w.heap.size/\(γ.2=false->w.heap[b]?=some (.cells z T (0,0)))
theorem BoxG.step {γ dT:Bx} (hG:Gr γ w dT w'):BoxG z T v γ w->BoxG z T v dT w':=by
 rintro ⟨b,rfl,h1,h2,h3⟩;rcases hG with ⟨rfl,hb⟩ | ⟨h,_⟩ | ⟨c,rfl,rfl,hk⟩
 ·exact ⟨b,rfl,h1,bE h2 hb.size,fun h=>(hb.block b h2).trans (h3 h)⟩
 ·rw[h]at h1;cases h1
 ·exact ⟨b,rfl,h1,bE h2 hk.size,fun h=>by cases h⟩
def SetG (R:Array Value->Bx->World->Prop) (T:TypeId) (γ:Bx) (w:World):Prop:=∃b cs,γ=(some b,true)/\w.heap[b]?=some (.cells cs T (0,0))/\R cs γ w
theorem SetG.step {R:Array Value->Bx->World->Prop} {γ dT:Bx} (hR:∀ cs,R cs γ w->R cs dT w') (hG:Gr γ w dT w'):SetG R T γ w->SetG R T dT w':=by
 rintro ⟨b,cs,rfl,h2,h3⟩;rcases hG with ⟨rfl,hb⟩ | ⟨h,_⟩ | ⟨c,h,_⟩
 ·exact ⟨b,cs,rfl,(hb.block b (bz h2)).trans h2,hR cs h3⟩
 ·cases h
 ·cases h
theorem tp {γ:Bx} (o:Obj) (h:γ.1=none):Gr γ w (some w.heap.size,false) (w.alloc o):=.inr (.inl ⟨h,rfl,by simp,cJ⟩)
theorem qH {γ:Bx}:∀ j,j≠kA->PsB kA kS j γ->PsB kA kS j (some n,false):=fun _ hj _=>⟨fun e=>absurd e hj,fun _=>rfl⟩
theorem tu:BoxG z T (.pointer (some ⟨w.heap.size,0,none⟩)) (some w.heap.size,false) (w.alloc (.cells z T)):=⟨_,rfl,rfl,by simp,fun _=>aj rfl⟩
theorem ix (h:Kp (fun c=>c=b) w w'):Gr (some b,false) w (some b,true) w':=.inr (.inr ⟨b,rfl,rfl,h⟩)
theorem lU:∀ j,j≠kS->PsB kA kS j (some b,false)->PsB kA kS j (some b,true):=fun _ hj h=>⟨fun e=>h.1 e,fun e=>absurd e hj⟩
theorem bg {t:Array Value} {d:Nat} (h:t[d]?=some v):t.getD d undef=v:=by
 obtain ⟨hlt,hv⟩:=Array.getElem?_eq_some_iff.1 h;simp[Array.getD,hlt,hv]
section
attribute [local go_sem] Oper.semAt_some
mutual
theorem Co:∀ f:Fm,fitF f->∀ x∈kg f,fitF x
 | .mk o n a s,h,x,hx=>by
  unfold kg at hx;rcases cY.1 hx with rfl | hx
  ·exact h
  ·exact y_ s h.subs x hx
theorem y_:∀ l:List Fm,fitFs l->∀ x∈dK l,fitF x
 | [],_,x,hx=>by simp[dK]at hx
 | t :: l,h,x,hx=>by
  unfold dK at hx;rcases List.mem_append.1 hx with hx | hx
  ·exact Co t (h.mem (by simp)) x hx
  ·exact y_ l ⟨aN (by simp[nodesFs]) h.1,pz.2 (fun u hu=>pz.1 h.2 u (by simp[hu]))⟩ x hx
end
theorem N4 (q:FQ) (w:World) :
  Calls Tryz.prog 86 #[q.val] w fun e w'=>e=.returned (.func (.func 150) #[] #[.pointer (some ⟨w.heap.size,0,none⟩)])/\w'=w.alloc (.cells #[.int .u8 q.o,.string q.n,.slice q.a q.l q.c,.slice q.b q.m q.e] 36):=by
 obtain ⟨o,n,a,l,c,b,m,e⟩:=q;unfold FQ.val;go_enter Tryz.func86,Tryz.ntmps86;go_wp2;go_ret;exact ⟨rfl,rfl⟩
theorem N5 (f:Fm) (az:fitF f) (M:Nat->Prop) (B X:Nat) (w:World) (q:FQ) (hX:w.heap[X]?=some (.cells #[.int .u8 q.o,.string q.n,.slice q.a q.l q.c,.slice q.b q.m q.e] 36 (0,0))) (Hj:¬M X) (hq:FormV (fun b=>b<B/\¬M b) w q.val f) :
  Hx M False Tryz.prog 150 #[.pointer (some ⟨X,0,none⟩)] (kg f) (S7 M B) w:=by
 have pp206b:=();exact pm206
theorem LL (f:Fm) (az:fitF f) (ok:Nat->Prop) (w:World) (q:FQ) (hq:FormV ok w q.val f) :
  Calls Tryz.prog 167 #[q.val,.int .i64 9223372036854775807] w fun e w'=>e=.returned (.int .i64 (nodesF f))/\Below w.heap.size w w':=by
 have hq:=hq.lt;have zec:=az.1;obtain ⟨mK,HQ⟩:=a_ az hq;clear az hq;refine J5 ?_;refine callsIn_of_wp_marks Tryz.func167 rfl trivial ?_ rfl;simp only[Tryz.ntmps167,Nat.reduceAdd,Nat.reduceSub,kM];have g_:=eM;unfold FQ.val;gi_wp2_with (gi_at_call 86;refine aK.2 ((N4 q _).mono ?_);rintro e w' ⟨rfl,rfl⟩);obtain ⟨w1,xh⟩:=am ((((w.alloc (.cells #[.int .u8 q.o,.string q.n,.slice q.a q.l q.c,.slice q.b q.m q.e] 36)).alloc (.cells #[.int .i64 9223372036854775807] 3)).alloc (.cells #[.int .i64 0] 3)).alloc (.cells #[.int .u8 q.o,.string q.n,.slice q.a q.l q.c,.slice q.b q.m q.e] 36));have hb1:=QT xh;have i_:=UF xh;have xL:NAt (w.heap.size+1) 9223372036854775807 w1:=by rw[xh];exact (bI _ _ _ (by simp)).trans ((bI _ _ _ (by simp)).trans (aj (by simp)))
 have xN:NAt (w.heap.size+1+1) 0 w1:=by rw[xh];exact (bI _ _ _ (by simp)).trans (aj (by simp))
 have xX:=Ng xh;rw[<-xh];clear xh;have hq1:FormV (fun b=>b<w1.heap.size/\¬(b=w.heap.size+1+1)) w1 q.val f:=(HQ.o.later hb1).move (fun b hb hlt=>⟨⟨hlt,by omega⟩,rfl⟩);have nH:=N5 f mK.o (fun b=>b=w.heap.size+1+1) w1.heap.size (w.heap.size+1+1+1) w1 q xX (by omega) hq1;obtain ⟨zbY,d_,QB,HL,HN⟩:=wV nH hb1 i_ xL xN;have hNl:w.heap.size+1+1<w1.heap.size:=by omega
 have Zu:=ae hNl;clear nH hb1 i_ xL xN xX hq1 hNl;have eg:∀ args W,(callFunc 150 args).run Tryz.prog W=.ok (.enter 150 args) W:=enters_of Tryz.func150 (by kernel_rfl) rfl;refine gi rfl eg (fun b hb=>by subst hb;exact Zu.o) zbY.o (fun _ _ _ h=>by obtain ⟨v,rfl,_⟩:=h;rfl)
  (fun pre X=>NAt (w.heap.size+1+1) (oQ pre) X/\Kp (fun b=>b=w.heap.size+1+1) w1 X) (fun _ _ _=>False) (fun s=>?hI) (fun _ _ _ _ _ h=>h.elim) ⟨by simpa[oQ] using HN.o,Kp.refl _⟩ ?round ?done (fun _ _ _ _ h=>h.elim)
 case hI=>
  rintro X Y hn ⟨h1,h2⟩;exact ⟨(hn.old Zu.o (bz h1)).trans h1,hn.os.trans h2.os,hn.tape.trans h2.tape,hn.output.trans h2.output,aN h2.size hn.size,fun b hb hm=>(hn.old hb (bE hb h2.size)).trans (h2.same b hb hm)⟩
 case done=>
  rintro D X hD ⟨hn,bh⟩ _ hd;rw[rT]at hn;have c0:=hn.c0;obtain ⟨HK,HD⟩:=a_ bh hd;clear hn bh hd;gi_wp2;refine ⟨by simp,.inl ⟨_,_,rfl,run_takeDeferred HD.o,?_⟩⟩;refine ⟨.int .i64 (nodesF f),by simp[results,Tryz.results167,go_sem],rfl,?_⟩;have hk:=Dy (.deferred none) HK.o hD;exact pm159
 case round=>
  rintro l pre vs x W hl xj ⟨hn,bh⟩ ⟨u,rfl,hu⟩ _ dn;obtain ⟨HU,E6,HK,HLr,nc⟩:=wV hu hn bh xj dn;clear hn bh hu xj dn;unfold FQ.val;gi_wp2;have hB:Below W.heap.size W (W.alloc (.cells #[.int .u8 u.o,.string u.n,.slice u.a u.l u.c,.slice u.b u.m u.e] 36)):=cJ;refine ⟨Kp.below hB,⟨E6.o.later hB,HK.o.trans (Kp.below hB)⟩,fun W2 gB ku io=>?_⟩;have AD:W2.heap[W.heap.size]?=some (.cells #[.int .u8 u.o,.string u.n,.slice u.a u.l u.c,.slice u.b u.m u.e] 36 (0,0)):=(gB.same _ (by obtain ⟨r,hr⟩:=HLr.o;have:=(bz hr);omega)).trans (aj rfl);have xw:FormV (fun b=>b<w1.heap.size/\¬(b=w.heap.size+1+1)) W2 u.val x:=((HU.o.later hB).move (ok':=fun b=>b<w1.heap.size/\¬(b=w.heap.size+1+1)) (fun b hb hlt=>⟨hb,gB.same b (by omega)⟩));have hL2:NAt (w.heap.size+1) 9223372036854775807 W2:=HL.o.kp io (by omega);have hf:=Co f mK.o x (nc.o.subset (by simp));have oP:=Q1 nc.o;rw[rT,mw]at oP;obtain ⟨⟨xo,xn,xa,xs⟩,hx⟩:∃y,x=y:=⟨_,rfl⟩;have au:oQ (pre ++ [x])=oQ pre+(1+nodesTs xa):=by rw[mw,hx];simp[oQ,Fm.a]
  have Zv:oQ [x]=1+nodesTs xa:=by rw[hx];simp[oQ,Fm.a]
  rw[Zv]at oP;rw[hx]at xw hf;obtain ⟨uo,un,ua,ul,uc,ub,um,ue⟩:=u;obtain ⟨va,vs2,Fa,fL,E9⟩:=aW.1 xw;simp only[FQ.val,cE,Array.mk.injEq,cB,and_true,Value.int.injEq,true_and,Value.string.injEq]at Fa;obtain ⟨rfl,rfl,rfl,rfl⟩:=Fa;obtain ⟨P,hP⟩:=am (oQ pre);obtain ⟨m,hm⟩:=am (nodesTs xa);rw[<-hP]at ku;have Tj:oQ (pre ++ [x])=P+(1+m):=by rw[au,hP,hm]
  have xx:P+(1+m)<=2000000:=by rw[hP,hm];omega
  have bm:w1.heap.size<=W2.heap.size:=io.size;have CC:=fun (W3:World) (h:Kp (fun b=>b=w.heap.size+1+1) W2 W3) (hN:NAt (w.heap.size+1+1) (P+1) W3)=>yo xa (w.heap.size+1+1) (w.heap.size+1) (fun b=>b<w1.heap.size/\¬(b=w.heap.size+1+1)) (P+1) W3 ua ul uc (by omega) hf.args (fL.move (fun b hb hlt=>⟨hb,h.same b hlt hb.2⟩)) (fun b hb=>hb.2) hN (hL2.kp h (by omega)) (by omega) (by omega);rw[<-hm]at CC;have C3:=CC (W2.setCell ⟨w.heap.size+1+1,0,none⟩ (.int .i64 (P+1))) (nP _) (ku.set _);have HC3:=ae C3;have cN:=ku.c0;have cL:=hL2.c0;have cx2:W2.cell? ⟨W.heap.size,2,none⟩=some (.slice ua ul uc):=ai AD 2;have zN:=af ku 0;have zed:¬w.heap.size+1=w.heap.size+1+1:=by omega
  have zee:¬W.heap.size=w.heap.size+1+1:=by have:=HK.o.size;have:=QB.o;omega
  obtain ⟨HL2,Zd,HO,HE2⟩:=eW hL2 io Tj xx;clear C3 CC ku hL2 fL E9 xw hf hx au Zv oP AD hP hm Tj io;have zbN:decide ((9223372036854775807:Int)<(P:Int)+1+(m:Int))=false:=by simp;have:=HE2.o;omega
  have Zw:∀ f,(Fence.wide.inRound l).fn f:=fun _=>trivial;gi_wp2_with (gi_at_call 230;refine CallsIn.inRound l (aK.2 (HC3.o.mono ?_));rintro e w4 ⟨rfl,kZ,Hl⟩;have c4:=Hl.c0;have l4:=(HL2.o.kp ((nP _).trans kZ) (by omega)).c0;have Zx:=ae kZ;have HN4:=ae Hl;clear kZ Hl);refine ⟨(nP _).trans Zx.o,?_,Zd.o.trans ((nP _).trans Zx.o)⟩;rw[HO.o,show ((P+(1+m):Nat):Int)=(P:Int)+1+(m:Int) by omega];exact HN4.o
theorem km (f:Fm) (az:fitF f) (ok:Nat->Prop) (w:World) (q:FQ) (hq:FormV ok w q.val f) :
  Calls Tryz.prog 99 #[q.val] w fun e w'=>e=.returned (.int .i64 (nodesF f))/\Below w.heap.size w w':=by
 have hb1:Below w.heap.size w (w.alloc (.cells #[.int .u8 q.o,.string q.n,.slice q.a q.l q.c,.slice q.b q.m q.e] 36)):=cJ;have C1:=LL f az ok _ q (hq.later hb1);obtain ⟨HB,HC⟩:=a_ hb1 C1;clear hb1 C1 hq;unfold FQ.val at HC ⊢;go_enter Tryz.func99,Tryz.ntmps99;go_wp2_with (go_at_call 167;refine HC.o.mono ?_;rintro e w2 ⟨rfl,bD⟩);go_ret;exact ⟨rfl,HB.o.trans (bD.mono (by simp))⟩
theorem TermsV.one {ok:Nat->Prop} {q:TQ} {t:Tm} {fr:Nat×Nat} (c:Nat) (ht:TermV ok W q.val t) (hb:ok b) (ek:W.heap[b]?=some (.cells #[.bool q.v,.string q.n,.slice q.a q.l q.c] T fr)) :
  TermsV ok W (.slice (some ⟨b,0,none⟩) 1 c) [t]:=by
 refine ⟨_,c,fun _=>q.val,rfl,.inr ⟨b,0,rfl,hb,fun j hj=>?_⟩,fun j hj=>?_⟩
 ·simp at hj;subst hj;exact ⟨_,_,_,rfl,ai ek 0,ai ek 1,ai ek 2⟩
 ·simp at hj;subst hj;exact ht
theorem FormsV.zero (ok:Nat->Prop) (W:World):FormsV ok W (.slice none 0 0) []:=⟨none,0,fun _=>.bool true,rfl,.inl rfl,fun j h=>by simp at h⟩
theorem kw (t:Tm) (az:fitT t) (hn:nodesT t<2000000) (ok:Nat->Prop) (w:World) (q:TQ) (hq:TermV ok w q.val t) :
  Calls Tryz.prog 100 #[q.val] w fun e w'=>e=.returned (.int .i64 (nodesT t))/\Below w.heap.size w w':=by
 have hb1:Below w.heap.size w (w.alloc (.cells #[.bool q.v,.string q.n,.slice q.a q.l q.c] 43)):=cJ;have bD:Below w.heap.size w ((w.alloc (.cells #[.bool q.v,.string q.n,.slice q.a q.l q.c] 43)).alloc (.cells #[.bool q.v,.string q.n,.slice q.a q.l q.c] 43)):=hb1.alloc (by simp) _;have hr:((w.alloc (.cells #[.bool q.v,.string q.n,.slice q.a q.l q.c] 43)).alloc (.cells #[.bool q.v,.string q.n,.slice q.a q.l q.c] 43)).heap[w.heap.size+1]?=some (.cells #[.bool q.v,.string q.n,.slice q.a q.l q.c] 43 (0,0)):=aj (by simp);have hf:fitF (.mk 0 [] [t] []):=⟨by have:=az.1;simp[nodesF,nodesTs,nodesFs];omega,by have:=az.2;simp[kJ,nmTs,nmFs,this]⟩;have hv:FormV (fun _=>True) ((w.alloc (.cells #[.bool q.v,.string q.n,.slice q.a q.l q.c] 43)).alloc (.cells #[.bool q.v,.string q.n,.slice q.a q.l q.c] 43)) (FQ.val ⟨0,⟨#[]⟩,some ⟨w.heap.size+1,0,none⟩,1,1,none,0,0⟩) (.mk 0 [] [t] []):=
  aW.2 ⟨_,_,rfl,TermsV.one 1 ((hq.later bD).move (fun b _ _=>⟨trivial,rfl⟩)) trivial hr,FormsV.zero _ _⟩
 have C1:=km _ hf _ _ _ hv;have lM:nodesF (.mk 0 [] [t] [])=nodesT t+1:=by simp[nodesF,nodesTs,nodesFs];try omega
 rw[lM]at C1;obtain ⟨HB,HC,HN⟩:=cG bD C1 hn;clear hb1 bD hr hf hv C1 hq az lM hn;unfold TQ.val;unfold FQ.val at HC;go_enter Tryz.func100,Tryz.ntmps100;go_wp2_with (go_at_call 99;refine HC.o.mono ?_;rintro e w2 ⟨rfl,bD⟩;have cO:=ae bD;clear bD);have MW:wrap64 ((nodesT t:Int))=(nodesT t:Int):=Go.IntWalk.wrap64_in _ (by have:=HN.o;omega);simp only[MW];go_ret;exact ⟨rfl,HB.o.trans (cO.o.mono (by simp;omega))⟩
theorem IS (s:ByteArray) (w:World) :
  Calls Tryz.prog 30 #[.string s] w fun e w'=>e=.returned (.agg #[.bool true,.string s,.slice none 0 0])/\Below w.heap.size w w':=by
 go_enter Tryz.func30,Tryz.ntmps30;go_wp2;refine bJ (v:=.agg #[.bool true,.string s,.slice none 0 0]) (by simp[results,Tryz.results30,go_sem]) rfl ⟨rfl,?_⟩;exact cJ
theorem N6 (s:ByteArray) (a:Option Addr) (l c:Nat) (w:World) :
  Calls Tryz.prog 31 #[.string s,.slice a l c] w fun e w'=>e=.returned (.agg #[.bool false,.string s,.slice a l c])/\Below w.heap.size w w':=by
 go_enter Tryz.func31,Tryz.ntmps31;go_wp2;refine bJ (v:=.agg #[.bool false,.string s,.slice a l c]) (by simp[results,Tryz.results31,go_sem]) rfl ⟨rfl,?_⟩;exact cJ
theorem DY (s:ByteArray) (a:Option Addr) (l c:Nat) (w:World) :
  Calls Tryz.prog 24 #[.string s,.slice a l c] w fun e w'=>e=.returned (.agg #[.int .u8 1,.string s,.slice a l c,.slice none 0 0])/\Below w.heap.size w w':=by
 go_enter Tryz.func24,Tryz.ntmps24;go_wp2;refine bJ (v:=.agg #[.int .u8 1,.string s,.slice a l c,.slice none 0 0]) (by simp[results,Tryz.results24,go_sem]) rfl ⟨rfl,?_⟩;exact cJ
theorem Rb (o:Int) (s:ByteArray) (a:Option Addr) (l c:Nat) (w:World) :
  Calls Tryz.prog 28 #[.int .u8 o,.string s,.slice a l c] w fun e w'=>e=.returned (.agg #[.int .u8 o,.string s,.slice none 0 0,.slice a l c])/\Below w.heap.size w w':=by
 go_enter Tryz.func28,Tryz.ntmps28;go_wp2;refine bJ (v:=.agg #[.int .u8 o,.string s,.slice none 0 0,.slice a l c]) (by simp[results,Tryz.results28,go_sem]) rfl ⟨rfl,?_⟩;exact cJ
theorem Vg (s:ByteArray) (w:World) :
  Calls Tryz.prog 29 #[.string s] w fun e w'=>e=.returned (.agg #[.int .u8 15,.string s,.slice none 0 0,.slice none 0 0])/\Below w.heap.size w w':=by
 go_enter Tryz.func29,Tryz.ntmps29;go_wp2;refine bJ (v:=.agg #[.int .u8 15,.string s,.slice none 0 0,.slice none 0 0]) (by simp[results,Tryz.results29,go_sem]) rfl ⟨rfl,?_⟩;exact cJ
theorem LM (s x t:ByteArray) (w:World) :
  Calls Tryz.prog 35 #[.string s,.string x,.string t] w fun e w'=>(∃k c,e=.returned (.agg #[.int .u8 16,.string s,.slice (some ⟨k,0,none⟩) 2 c,.slice none 0 0])/\w.heap.size<=k/\∃T,w'.heap[k]?=some (.cells #[.bool true,.string x,.slice none 0 0,.bool true,.string t,.slice none 0 0] T (0,0)))/\Below w.heap.size w w':=by
 go_enter Tryz.func35,Tryz.ntmps35;go_wp2_with fail;refine (IS _ _).mono ?_;rintro e w1 ⟨rfl,hb1⟩;go_wp2_with fail;refine (IS _ _).mono ?_;rintro e w2 ⟨rfl,bD⟩;have x0:(w.alloc (.cells #[.int .u8 0,.string ⟨#[]⟩,.slice none 0 0,.slice none 0 0] 36)).heap[w.heap.size]?=some (.cells #[.int .u8 0,.string ⟨#[]⟩,.slice none 0 0,.slice none 0 0] 36 (0,0)):=aj rfl;have hb:Below (w.alloc (.cells #[.int .u8 0,.string ⟨#[]⟩,.slice none 0 0,.slice none 0 0] 36)).heap.size (w.alloc (.cells #[.int .u8 0,.string ⟨#[]⟩,.slice none 0 0,.slice none 0 0] 36)) w2:=hb1.trans (bD.mono hb1.size);have x2:=bR hb x0;have hsz:w.heap.size<w2.heap.size:=(bz x2);obtain ⟨W3,ec⟩:=am (w2.alloc (.cells #[.bool true,.string x,.slice none 0 0,.bool true,.string t,.slice none 0 0] 43));have x3:W3.heap[w.heap.size]?=some (.cells #[.int .u8 0,.string ⟨#[]⟩,.slice none 0 0,.slice none 0 0] 36 (0,0)):=by rw[ec];exact (bI _ _ _ hsz).trans x2
 have y3:=cb ec;have aL:Below w.heap.size w W3:=by rw[ec];exact ((((ak w.heap.size w).alloc (aI _) _).trans (hb.mono (by simp)))).alloc (by omega) _
 obtain ⟨c0,c1,c2,c3⟩:=mm x3;have z0:=af x3 0;have z1:=af x3 1;have z2:=af x3 2;have z3:=af x3 3;obtain ⟨W4,vY,x4,k4,g0⟩:=Be x3 (.int .u8 16) (.string s) (.slice (some ⟨w2.heap.size,0,none⟩) 2 2) (.slice none 0 0);rw[ec]at c0 c1 c2 c3 z0 z1 z2 z3;have H:=ae (QS ec vY g0 k4 aL y3 hsz);clear hb1 bD x0 hb x2 x3 y3 aL x4 k4 g0 ec vY hsz;go_wp2_with fail;rw[<-H.o.1,<-H.o.2.1];obtain ⟨g0,g1,g2,g3⟩:=H.o.2.2.1;have hk:=H.o.2.2.2.1;have aL:=H.o.2.2.2.2.1;have hlt:=H.o.2.2.2.2.2.2;refine bJ (v:=.agg #[.int .u8 16,.string s,.slice (some ⟨w2.heap.size,0,none⟩) 2 2,.slice none 0 0]) (by simp[results,Tryz.results35,go_sem,g0,g1,g2,g3]) rfl ⟨⟨_,_,rfl,by omega,_,(hk.same _ (bz H.o.2.2.2.2.2.1) (by omega)).trans H.o.2.2.2.2.2.1⟩,?_⟩;exact ⟨hk.os.trans aL.os,hk.tape.trans aL.tape,hk.output.trans aL.output,aN aL.size hk.size,fun b hb=>(hk.same b (bE hb aL.size) (by omega)).trans (aL.block b hb)⟩
end
section
attribute [local go_sem] Oper.semAt_some run_makeMap
structure PutI (t:Value×Value×Value) (x:Str) (u:Tm) (w:World) (k:Nat) (wr:World):Prop where
 below:Below w.heap.size w wr
 b0:wr.heap[w.heap.size]?=some (.cells #[t.1,t.2.1,t.2.2] 43 (0,0))
 b1:wr.heap[w.heap.size+1]?=some (.cells #[.bool false,.string ⟨#[]⟩,.slice none 0 0] 43 (0,0))
 b3:wr.heap[w.heap.size+3]?=some (.cells #[.map (some (w.heap.size+2))] 146 (0,0))
 mp:MapV Tryz.prog 9 (TermIn w) wr (w.heap.size+2) k (if k=0 then [] else [(x,u)])
theorem PutI.later {t:Value×Value×Value} {wr:World} (h:PutI t x u w k wr) (hb:Below wr.heap.size wr w'):PutI t x u w k w':=
 ⟨h.below.tr hb,bR hb h.b0,bR hb h.b1,bR hb h.b3,h.mp.move (hb.block _ h.mp.lt) (fun _ _ _ _ h=>h)⟩
theorem F4 (t:Tm) (az:fitT t) (x:Str) (hx:x.length<=2000000) (u:Tm) (hfu:fitT u) (ok LN:Nat->Prop) (w:World) (q uq:TQ) (b off c:Nat) (hq:TermV ok w q.val t) (hu:TermV LN w uq.val u)
  (c0:w.cell? ⟨b,off,none⟩=some (.string ⟨x.toArray⟩)) (c1:w.cell? ⟨b,off+1,none⟩=some (.bool uq.v)) (c2:w.cell? ⟨b,off+2,none⟩=some (.string uq.n)) (c3:w.cell? ⟨b,off+3,none⟩=some (.slice uq.a uq.l uq.c)) :
  Calls Tryz.prog 168 #[q.val,.slice (some ⟨b,off,none⟩) 1 c] w fun e w'=>(∃p:TQ,e=.returned p.val/\TermV (w.heap.size<=·) w' p.val (kB x u t))/\Below w.heap.size w w':=by
 obtain ⟨qv,qn,qa,ql,qc⟩:=q;obtain ⟨uv,un,ua,ul,uc⟩:=uq;obtain ⟨W1,bX⟩:=am ((((w.alloc (.cells #[.bool qv,.string qn,.slice qa ql qc] 43)).alloc (.cells #[.bool false,.string ⟨#[]⟩,.slice none 0 0] 43)).alloc (.map #[] 0)).alloc (.cells #[.map (some (w.heap.size+2))] 146));have hI:PutI (.bool qv,.string qn,.slice qa ql qc) x u w 0 W1:=by
  rw[bX];refine ⟨((cJ.alloc (by simp) _).alloc (by simp;omega) _).alloc (by simp;omega) _,?_,?_,aj (by simp),?_⟩
  ·exact (bI _ _ _ (by simp;omega)).trans ((bI _ _ _ (by simp;omega)).trans ((bI _ _ _ (by simp)).trans (aj rfl)))
  ·exact (bI _ _ _ (by simp)).trans ((bI _ _ _ (by simp)).trans (aj (by simp)))
  ·have h:=MapV.made (P:=Tryz.prog) (k:=9) (V:=TermIn w) ((w.alloc (.cells #[.bool qv,.string qn,.slice qa ql qc] 43)).alloc (.cells #[.bool false,.string ⟨#[]⟩,.slice none 0 0] 43));simp only[World.size_alloc]at h;exact h.move (bI _ _ _ (by simp)) (fun _ _ _ _ h=>h)
 obtain ⟨HI,iR,HQ,HU⟩:=eW hI bX hq hu;have HC:=cC c0 c1 c2 c3;have mK:=aG az hfu;clear hI bX hq hu c0 c1 c2 c3 az hfu;have hmf:∀ (fn:Fn) (first cap:Array Value) (w:World),(Instr.makeFunc fn first cap).run Tryz.prog w=.ok (.func fn first cap) w:=fun _ _ _ _=>rfl;unfold TQ.val;simp only;go_enter Tryz.func168,Tryz.ntmps168;go_wp2;rw[<-iR.o];go_loopw [13] (fun i wr=>∃k:Nat,k<=1/\i=.int .i64 k/\PutI (.bool qv,.string qn,.slice qa ql qc) x u w k wr) (fun i _=>1 - (intOf i).toNat)
 case atStart=>exact ⟨0,by omega,rfl,HI.o⟩
 case round=>
  obtain ⟨k,hk,rfl,hI⟩:=hrel
  by_cases hlt:k<1
  ·obtain rfl:k=0:=by omega
   obtain ⟨d0,d1,d2,d3⟩:=mG hI.below HC.o.1 HC.o.2.1 HC.o.2.2.1 HC.o.2.2.2;obtain ⟨A1,Fb⟩:=am (wr.alloc (.cells #[.string ⟨x.toArray⟩,.bool uv,.string un,.slice ua ul uc] 143));obtain ⟨A2,cv⟩:=am (A1.alloc (.cells #[.bool false,.string ⟨#[]⟩,.slice none 0 0] 43));have b1:=cZ Fb;have b2:=cZ cv;have hI1:=hI.later b1;have hI2:=hI1.later b2;have x1:=cb Fb;have o0:A1.cell? ⟨wr.heap.size,0,none⟩=some (.string ⟨x.toArray⟩):=ai x1 0;have o1:A1.cell? ⟨wr.heap.size,1,none⟩=some (.bool uv):=ai x1 1;have o2:A1.cell? ⟨wr.heap.size,2,none⟩=some (.string un):=ai x1 2;have o3:A1.cell? ⟨wr.heap.size,3,none⟩=some (.slice ua ul uc):=ai x1 3;obtain ⟨p0,p1,p2,p3⟩:=mG b2 o0 o1 o2 o3;have m1:A1.cell? ⟨w.heap.size+3,0,none⟩=some (.map (some (w.heap.size+2))):=ai hI1.b3 0;have m2:=aa b2 m1;have hr:(Instr.lookup 146 (.map (some (w.heap.size+2))) (.string ⟨x.toArray⟩) true).run Tryz.prog A1=.ok (.tuple #[.agg #[.bool false,.string ⟨#[]⟩,.slice none 0 0],.bool false]) A1:=by
    rcases hI1.mp.look Tryz.underlying9 Tryz.underlying146 jr hx with ⟨_,hr⟩ | ⟨u',v,hs,_⟩
    ·exact (hr A1 rfl).1
    ·simp[getB]at hs
   obtain ⟨w4,cH,hm4,uy,DZ⟩:=hI2.mp.store Tryz.underlying9 Tryz.underlying146 (by omega) hx (v:=.agg #[.bool uv,.string un,.slice ua ul uc]) (a:=u) (l':=[(x,u)]) (V':=TermIn w) ⟨⟨uv,un,ua,ul,uc⟩,rfl,HU.o.any⟩ (fun _ _ _ _ _ h=>h) (fun y=>by
    by_cases e:y=x
    ·subst e;simp[getB]
    ·have e2:¬x=y:=fun h=>e h.symm;simp[getB,e,e2])
   have kZ:∀ b,b<A2.heap.size->b≠w.heap.size+2->w4.heap[b]?=A2.heap[b]?:=fun b hb i9=>uy.block b hb (fun h=>by cases h;exact i9 rfl);have hI4:PutI (.bool qv,.string qn,.slice qa ql qc) x u w 1 w4:=⟨⟨uy.os.trans hI2.below.os,uy.tape.trans hI2.below.tape,uy.output.trans hI2.below.output,by have:=hI2.below.size;omega,fun b hb=>(kZ b (bE hb hI2.below.size) (by omega)).trans (hI2.below.block b hb)⟩,
    (kZ _ (bz hI2.b0) (by omega)).trans hI2.b0,(kZ _ (bz hI2.b1) (by omega)).trans hI2.b1,(kZ _ (bz hI2.b3) (by omega)).trans hI2.b3,by simpa using hm4⟩
   have HI4:=ae hI4;rw[cv]at m2 p0 p1 p2 p3 cH;rw[Fb]at hr cH m1 m2 o0 o1 o2 o3 p0 p1 p2 p3;clear hI hI1 hI2 hI4 hm4 uy DZ kZ x1 b1 b2 Fb cv;go_wp2;go_roundw
   case rel=>exact ⟨1,by omega,by go_num,HI4.o⟩
   case measure=>simp[intOf]
  ·obtain rfl:k=1:=by omega
   have C:=yR 232 #[.pointer (some ⟨w.heap.size+3,0,none⟩)] F1 _ wr (LG w wr hI.below (w.heap.size+3) (w.heap.size+2) 1 [(x,u)] (ai hI.b3 0) (by simpa using hI.mp)) (fun n u' h=>by
    have iF:u=u':=by
     simp only[getB]at h;split at h
     ·injection h
     ·cases h
    subst iF;exact fun ok W q hq=>LE _ mK.o.2 ok W q hq) t mK.o.1 ok wr ⟨qv,qn,qa,ql,qc⟩ (ak _ _) (HQ.o.later hI.below)
   have MX:(fun n=>getB [(x,u)] n)=(fun n=>if n == x then some u else none):=by
    funext n
    simp only[getB]
    by_cases e:x=n
    ·subst e;simp
    ·have e2:¬n=x:=fun h=>e h.symm;simp[e,e2]
   rw[MX]at C;simp only[TQ.val]at C;obtain ⟨e0,e1,e2⟩:=li hI.b0;obtain ⟨HC,HY⟩:=a_ C hI;clear C hI MX;go_wp2_with (go_at_call 154;refine HC.o.mono ?_;rintro e w5 ⟨⟨p5,rfl,qE⟩,bj⟩;obtain ⟨pv,pn,pa,pl,pc⟩:=p5;simp only at qE ⊢;have x1:=(HY.o.later bj).b1;have e0:=ai x1 0;have e1:=ai x1 1;have e2:=ai x1 2;have z0:=af x1 0;have z1:=af x1 1;have z2:=af x1 2;have H5:=cC qE (HY.o.below.tr bj) x1 bj.size;clear bj qE x1);have hz:=HY.o.below.size;have Rc:=(bz HY.o.b1);exact pm60
end
theorem n_ {t:List Str} (h:t.length<10 ^ 14):(dL t).length<=2000000:=by
 obtain ⟨j,h1,oP,he,_⟩:=tb t (by omega);rw[he];unfold gO;have:=DR 20 j 15 (by omega) (by omega);simp;omega
mutual
theorem Rd {x:Str} (hu:jw p u=true):∀ t,jw p t=true->jw p (kB x u t)=true
 | .mk v n a,h=>by
  simp only[jw,ah,bx]at h;have ih:=zb (x:=x) hu a h.2;unfold el at ih;unfold kB at ih ⊢;rw[fR]
  cases v with
  | false=>
   simp only[dE,if_false,jw,ah,bx];exact ⟨h.1,by rw[gH];exact ih⟩
  | true=>
   simp only[if_true]
   by_cases hx:(n == x)=true
   ·simp only[hx,if_true];exact hu
   ·have hx:(n == x)=false:=by simpa using hx
    simp only[hx,dE,if_false,jw,ah,bx];exact ⟨h.1,by rw[gH];exact ih⟩
theorem zb {x:Str} (hu:jw p u=true):∀ l,nmTs p l=true->nmTs p (el x u l)=true
 | [],_=>by simp[el,nmTs]
 | t :: l,h=>by
  simp only[nmTs,ah]at h;have h1:=Rd (x:=x) hu t h.1;have h2:=zb (x:=x) hu l h.2;unfold el at h2 ⊢;simp only[cK,nmTs,ah];exact ⟨h1,h2⟩
end
theorem vp {y:Str} (h:y.length<=2000000):jw 2000000 (ap y)=true:=by simp[ap,jw,nmTs,h]
theorem oa:∀ (k:Nat) (f:Fm) (x:Str) (u:Tm),mr f=true->qone f=true->depthF f<=k->nodesF f+nodesT u<10 ^ 10->kJ 2000000 f=true->jw 2000000 u=true->kJ 2000000 (eQ k x u f)=true
 | 0,f,x,u,hw,hq,hd,hs,hf,hu=>by have:=lB f;omega
 | k+1,.mk o n a s,x,u,hw,hq1,hd,hs,hf,hu=>by
  have Hz:=hf;have pp132c:=();exact pm132
theorem IT {a b:List Str} (ha:a.length<10 ^ 18) (hb:b.length<10 ^ 18) (ha2:(dF a).length<10 ^ 18) (bD:(dF b).length<10 ^ 18):dL (dF a ++ dF b)=dL (a ++ b):=
 Cj (by simp;omega) (by simp;omega) (fun x=>by simp[dH])
theorem e9 (l:List Str):(dF l).length<=l.length:=by
 unfold dF
 induction l with
 | nil=>simp
 | cons x l ih=>
  have h:∀ (m:List Str),(wY x m).length<=m.length+1:=fun m=>by
   induction m with
   | nil=>simp[wY]
   | cons y m ih2=>
    unfold wY;split
    ·simp
    ·split
     ·simp
     ·simp;omega
  simp only[List.foldr_cons,fN];have:=h (List.foldr wY [] l);omega
theorem ln (l:List Str) (x:Str):(dF l).contains x=l.contains x:=by
 rw[gy];simp[dH]
section
attribute [local go_sem] Oper.semAt_some
abbrev frV (c0 c1:Nat):Value:=.func (.func 213) #[] #[.pointer (some ⟨c0,0,none⟩),.pointer (some ⟨c1,0,none⟩)]
def FrG (M:Nat->Prop) (c0 c1:Nat) (J:List Str->World->Prop) (xs:List Str):Prop:=∀ (pre:List Str) (x:Str) (W1:World),J pre W1->(pre ++ [x]) <+: xs →
 Calls Tryz.prog 213 #[.string ⟨x.toArray⟩,.pointer (some ⟨c0,0,none⟩),.pointer (some ⟨c1,0,none⟩)] W1 fun e W'=>e=.returned (.bool true)/\J (pre ++ [x]) W'/\Kp M W1 W'
theorem zd (c0 c1:Nat):∀ (t:Tm),fitT t->∀ (M:Nat->Prop) (B:Nat) (J:List Str->World->Prop) (xs pre:List Str) (W:World) (q:TQ),(∀ b,M b->b<W.heap.size)->(∀ s,Abides W.heap.size (J s))->FrG M c0 c1 J xs->TermV (fun b=>b<B/\¬M b) W q.val t->(pre ++ aQ t) <+: xs->J pre W →
  Calls Tryz.prog 214 #[q.val,frV c0 c1] W fun e W'=>e=.returned (.bool true)/\J (pre ++ aQ t) W'/\Kp M W W':=by
 intro t
 induction t using Tm.ind with
 | h v n a ih=>
  intro az M B J xs pre W q hM hJ hG hq dn hj;obtain ⟨qv,qn,qa,ql,qc⟩:=q;obtain ⟨sa,hs,bK⟩:=aV.1 hq;have pp37g:=();exact pm37
end
theorem Vh {P:Program} {k:TypeId} {β:Type} {V:Value->α->Prop} {V':Value->β->Prop} {n':Nat} {l:List (Str×α)} {l':List (Str×β)} (h:W.grownBy W' (some m)) (hm:MapV P k V W m n l) (hm':MapV P k V' W' m n' l') (hB:B<=m):Nw B W W':=by
 obtain ⟨D,⟨es,yq,h1,_⟩,_⟩:=hm;obtain ⟨D',⟨Q6,U3,U2,_⟩,_⟩:=hm';refine ⟨h.os,h.tape,h.output,h.size,fun b hb=>?_⟩
 by_cases e:b=m
 ·subst e;exact .inr ⟨hB,⟨_,h1,rfl⟩,_,U2,rfl⟩
 ·exact .inl (h.block b hb (fun h=>by cases h;exact e rfl))
def BoundW (W:World) (m n:Nat) (bs:List Str):Prop:=∃l:List (Str×Nat),MapV Tryz.prog 9 (fun v (c:Nat)=>v=.int .i64 (c:Int)) W m n l/\∀ x,(getB l x).getD 0=bs.count x
theorem BoundW.lt (h:BoundW W m n bs):m<W.heap.size:=by obtain ⟨l,h,_⟩:=h;exact h.lt
theorem BoundW.same (h:BoundW W m n bs) (hb:W'.heap[m]?=W.heap[m]?):BoundW W' m n bs:=by
 obtain ⟨l,h,hx⟩:=h;exact ⟨l,h.move hb (fun _ _ _ _ h=>h),hx⟩
theorem BoundW.made (w:World):BoundW (w.alloc (.map #[] 0)) w.heap.size 0 []:=⟨[],MapV.made w,fun x=>by simp[getB]⟩
theorem BoundW.look (h:BoundW W m n bs) (hx:x.length<=2000000) :
  ∀ W':World,W'.heap[m]?=W.heap[m]?->(Instr.lookup 198 (.map (some m)) (.string ⟨x.toArray⟩) false).run Tryz.prog W'=.ok (.int .i64 (bs.count x:Int)) W':=by
 obtain ⟨l,h,hl⟩:=h;intro W' hW;have hz:∀ w,(zeroValue 3).run Tryz.prog w=.ok (.int .i64 0) w:=fun w=>by kernel_rfl
 have hc:=hl x;rcases h.look Tryz.underlying9 Tryz.underlying198 hz hx with ⟨hn,hr⟩ | ⟨a,v,hs,rfl,hr⟩
 ·rw[hn]at hc;rw[<-hc];exact (hr W' hW).2
 ·rw[hs]at hc;rw[<-hc];exact (hr W' hW).2
theorem BoundW.store {bs':List Str} (h:BoundW W m n bs) (hn:n<4000000) (hx:x.length<=2000000) (hb:∀ y,y≠x->bs'.count y=bs.count y) :
  ∃w',(Instr.mapUpdate 198 (.map (some m)) (.string ⟨x.toArray⟩) (.int .i64 (bs'.count x:Int))).run Tryz.prog W=.ok () w'/\BoundW w' m (n+1) bs'/\W.grownBy w' (some m)/\w'.heap.size=W.heap.size/\∀ B,B<=m->Nw B W w':=by
 obtain ⟨l,h,hl⟩:=h;obtain ⟨w',hr,hm,hg,hs⟩:=h.store Tryz.underlying9 Tryz.underlying198 hn hx (v:=.int .i64 (bs'.count x:Int)) (a:=bs'.count x) (l':=(x,bs'.count x) :: l) (V':=fun v (c:Nat)=>v=.int .i64 (c:Int)) rfl (fun _ _ _ _ _ h=>h) (fun y=>by
  rw[getB]
  by_cases e:y=x
  ·subst e;simp
  ·rw[aw e];rw[aw (by simpa using fun h=>e h.symm)])
 refine ⟨w',hr,⟨_,hm,fun y=>?_⟩,hg,hs,fun B hB=>Vh hg h hm hB⟩;rw[getB]
 by_cases e:y=x
 ·subst e;simp
 ·rw[aw (by simpa using fun h=>e h.symm),hl y,hb y e]
section
attribute [local go_sem] Oper.semAt_some
theorem Vi (mb n c0 c1:Nat) (bs:List Str) (x:Str) (hx:x.length<=2000000) (W:World) (h0:W.cell? ⟨c0,0,none⟩=some (.map (some mb))) (hb:BoundW W mb n bs) (hc:0<bs.count x) :
  Calls Tryz.prog 213 #[.string ⟨x.toArray⟩,.pointer (some ⟨c0,0,none⟩),.pointer (some ⟨c1,0,none⟩)] W fun e w'=>e=.returned (.bool true)/\w'=W:=by
 have hr:=hb.look hx W rfl;obtain ⟨k,hk⟩:=am (bs.count x);rw[<-hk]at hr hc;have hd:decide ((0:Int)<(k:Int))=true:=by simp;omega
 have Nh:(0:Int)<(k:Int):=by omega
 clear hb hk hc;go_enter Tryz.func213,Tryz.ntmps213;go_wp2;go_ret;exact ⟨rfl,rfl⟩
theorem Re (mb n l c0 c1:Nat) (bs:List Str) (x:Str) (hx:x.length<=2000000) (W:World) (R:World->Prop) (h0:W.cell? ⟨c0,0,none⟩=some (.map (some mb))) (h1:W.cell? ⟨c1,0,none⟩=some (.func (.yield l) #[] #[])) (hb:BoundW W mb n bs) (hc:bs.count x=0)
  (hy:YieldAt Fence.wide 0 Tryz.prog l #[.string ⟨x.toArray⟩] W fun e W'=>e=.returned (.bool true)/\R W') :
  Calls Tryz.prog 213 #[.string ⟨x.toArray⟩,.pointer (some ⟨c0,0,none⟩),.pointer (some ⟨c1,0,none⟩)] W fun e w'=>e=.returned (.bool true)/\R w':=by
 have hr:=hb.look hx W rfl;rw[hc]at hr;have hr:(Instr.lookup 198 (.map (some mb)) (.string ⟨x.toArray⟩) false).run Tryz.prog W=.ok (.int .i64 0) W:=hr;obtain ⟨fn,tmps,assign,body,hy,FC⟩:=jl 2 hy;clear hb hc;refine ml Tryz.func213 ?_;simp only[Tryz.ntmps213,Nat.reduceAdd,Nat.reduceSub,kM];have g_:=eM;gi_wp2;refine FC.mono ?_;rintro e W2 ⟨rfl,hR⟩;have HR:=ae hR;clear hR FC hy hr;gi_wp2;go_ret;exact ⟨rfl,HR.o⟩
structure FrJ (J:List Str->World->Prop) (pre:List Str) (M:Nat->Prop) (W0:World) (mb n:Nat) (bs:List Str) (l s:Nat) (p:List Str) (X:World):Prop where
 j:J (pre ++ p.filter (fun x=>!bs.contains x)) X
 kp:Kp M W0 X
 bd:BoundW X mb n bs
 b1:X.heap[s+1]?=some (.cells #[.map (some mb)] 198 (0,0))
 b2:X.heap[s+2]?=some (.cells #[.func (.yield l) #[] #[]] 113 (0,0))
theorem N7 {X Y:World} (h:Kp M W0 X) (hn:Nw B X Y) (hB:W0.heap.size<=B):Kp M W0 Y:=
 ⟨hn.os.trans h.os,hn.tape.trans h.tape,hn.output.trans h.output,aN h.size hn.size,fun b hb hm=>(hn.old (by omega) (bE hb h.size)).trans (h.same b hb hm)⟩
theorem FrJ.abides {J:List Str->World->Prop} {l:Nat} (hJ:∀ s,Abides W0.heap.size (J s)) (h0:W0.heap.size<=B) (hm:mb<B) (hs:s+2<B) (p:List Str):Abides B (FrJ J pre M W0 mb n bs l s p):=by
 intro X Y hn h;exact ⟨(hJ _).mono h0 X Y hn h.j,N7 h.kp hn h0,h.bd.same (hn.old hm h.bd.lt),(hn.old (by omega) (bz h.b1)).trans h.b1,(hn.old (by omega) (bz h.b2)).trans h.b2⟩
theorem Bf (g:α->Bool) {a b:List α} (h:a <+: b):a.filter g <+: b.filter g:=by
 obtain ⟨r,rfl⟩:=h;rw[List.filter_append];exact ⟨_,rfl⟩
theorem IU {p:List α} {x:α} {xs:List α} (h:(p ++ [x]) <+: xs):x∈xs:=h.subset (by simp)
theorem Vj {J:List Str->World->Prop} {xs:List Str} {l:Nat} {a:List Tm} (hM:∀ b,M b->b<W0.heap.size) (AB:W0.heap.size<=mb) (hs:W0.heap.size<=s) (hY:YieldK M l J yp xs W0) (az:fitTs a)
  (dn:(pre ++ (aC a).filter (fun x=>!bs.contains x)) <+: xs):FrG (fun b=>M b\/b=mb) (s+1) (s+2) (FrJ J pre M W0 mb n bs l s) (aC a):=by
 intro p x W1 h hp;have hxm:=IU hp;have uW:x.length<=2000000:=nk a az.2 x hxm;have c0:W1.cell? ⟨s+1,0,none⟩=some (.map (some mb)):=ai h.b1 0;have c1:W1.cell? ⟨s+2,0,none⟩=some (.func (.yield l) #[] #[]):=ai h.b2 0
 by_cases hc:bs.contains x=true
 ·have hm:x∈bs:=by simpa using hc
  have hf:(p ++ [x]).filter (fun x=>!bs.contains x)=p.filter (fun x=>!bs.contains x):=by simp[List.filter_append,hm]
  refine (Vi mb n (s+1) (s+2) bs x uW W1 c0 h.bd (List.count_pos_iff.2 (by simpa using hc))).mono ?_;rintro e w' ⟨rfl,rfl⟩;exact ⟨rfl,⟨by rw[hf];exact h.j,h.kp,h.bd,h.b1,h.b2⟩,Kp.refl _⟩
 ·have hm:¬x∈bs:=by simpa using hc
  have hf:(p ++ [x]).filter (fun x=>!bs.contains x)=p.filter (fun x=>!bs.contains x) ++ [x]:=by simp[List.filter_append,hm]
  have hpx:(pre ++ p.filter (fun x=>!bs.contains x) ++ [x]) <+: xs:=by
   have h1:=Bf (fun x=>!bs.contains x) hp;rw[hf]at h1;obtain ⟨r,hr⟩:=h1;rw[<-hr]at dn;obtain ⟨r2,QD⟩:=dn;exact ⟨r ++ r2,by rw[<-QD];simp⟩
  have hy:=hY (pre ++ p.filter (fun x=>!bs.contains x)) #[.string ⟨x.toArray⟩] x W1 h.j h.kp rfl hpx;refine (Re mb n l (s+1) (s+2) bs x uW W1 (fun W'=>J (pre ++ p.filter (fun x=>!bs.contains x) ++ [x]) W'/\Kp M W1 W') c0 c1 h.bd (by
   rw[List.count_eq_zero];simpa using hc) hy).mono ?_
  rintro e w' ⟨rfl,hj,hk⟩;have dG:∀ b,W0.heap.size<=b->¬M b:=fun b hb h=>by have:=hM b h;omega
  have l1:=(bz h.b1);have l2:=(bz h.b2);refine ⟨rfl,⟨by rw[hf,<-List.append_assoc];exact hj,h.kp.trans hk,h.bd.same (hk.same mb h.bd.lt (dG mb AB)),(hk.same _ l1 (dG _ (by omega))).trans h.b1,(hk.same _ l2 (dG _ (by omega))).trans h.b2⟩,hk.mono (fun b _ hb=>.inl hb)⟩
theorem nr {b:List Str} {l:List Fm} {k:Nat} (h:k<l.length):bP b (l.take (k+1))=bP b (l.take k) ++ bl b l[k]:=by
 induction l generalizing k with
 | nil=>simp at h
 | cons t l ih=>
  cases k with
  | zero=>simp[bP]
  | succ k=>have:=ih (k:=k) (by simpa using h);simp[bP]at this ⊢;rw[this]
theorem mP (b:List Str):∀ l m,bP b (l ++ m)=bP b l ++ bP b m
 | [],m=>rfl
 | t :: l,m=>by simp[bP,mP b l m]
theorem Rf (mb n s:Nat) (bs:List Str) (x:Str) (hx:x.length<=2000000) (hn:n<4000000) (hl:bs.length<=4000000) (u:FrameMode) (W:World) (h0:W.cell? ⟨s+1,0,none⟩=some (.map (some mb))) (h1:W.cell? ⟨s,1,none⟩=some (.string ⟨x.toArray⟩)) (hb:BoundW W mb n (x :: bs)) :
  CallsD Tryz.prog 215 #[.pointer (some ⟨s+1,0,none⟩),.pointer (some ⟨s,0,none⟩)] u W fun e u' w'=>u'=u/\(e=.returned (.tuple #[])/\BoundW w' mb (n+1) bs/\W.grownBy w' (some mb)/\w'.heap.size=W.heap.size/\∀ B,B<=mb->Nw B W w'):=by
 have hr:=hb.look hx W rfl;obtain ⟨w4,cH,aP,uy,DZ,Hl⟩:=hb.store (bs':=bs) hn hx (fun y hy=>by rw[List.count_cons_of_ne];exact fun h=>hy h.symm);have hcl:bs.count x<=4000000:=aN List.count_le_length hl;rw[List.count_cons_self]at hr;obtain ⟨k,hk⟩:=am (bs.count x);rw[<-hk]at hr cH hcl;have hr:(Instr.lookup 198 (.map (some mb)) (.string ⟨x.toArray⟩) false).run Tryz.prog W=.ok (.int .i64 ((k:Int)+1)) W:=by rw[hr];rfl
 have HQ:=cC aP uy DZ Hl;clear hb hk aP uy DZ Hl hl;go_enter_d Tryz.func215,Tryz.ntmps215;go_wp2;go_end0;exact ⟨rfl,HQ.o⟩
end
end Go.Proofs.YtokemihbkeddoaaGreatDoor
namespace Go.Proofs.YtokemihbkeddoaaGreatDoor
open Go Go.RowKit Go.Maps Go.Sort Go.Shelf
attribute [local go_sem] Oper.semAt_some
theorem Bg:∀ (f:Fm),fitF f->∀ (M:Nat->Prop) (B l:Nat) (J:List Str->World->Prop) (xs pre:List Str) (W0 W:World) (q:FQ) (mb n:Nat) (bs:List Str),(∀ b,M b->b<W0.heap.size)->W0.heap.size<=mb->(∀ s,Abides W0.heap.size (J s))->YieldK M l J yp xs W0->FormV (fun b=>b<B/\¬M b) W0 q.val f →
  Kp M W0 W->BoundW W mb n bs->n+2 * nodesF f<4000000->bs.length+nodesF f<=4000000->(pre ++ bl bs f) <+: xs->J pre W →
  Calls Tryz.prog 149 #[q.val,.map (some mb),.func (.yield l) #[] #[]] W fun e W'=>e=.returned (.bool true)/\J (pre ++ bl bs f) W'/\Kp M W0 W'/\(∃n',n'<=n+2 * nodesF f/\BoundW W' mb n' bs)/\Kp (fun b=>M b\/b=mb) W W':=by
 intro f
 induction f using Fm.ind with
 | h o nm a ss ih=>
 intro az M B l J xs pre W0 W q mb n bs hM AB hJ hY hq hk hb hn Io dn hj;obtain ⟨va,vs2,h1,fL,E9⟩:=aW.1 hq;obtain ⟨uo,un,ua,ul,uc,ub,um,ue⟩:=q;have pp33b:=();exact pm33
theorem Bh (q:FQ) (w:World) :
  Calls Tryz.prog 85 #[q.val] w fun e w'=>e=.returned (.func (.func 148) #[] #[.pointer (some ⟨w.heap.size,0,none⟩)])/\w'=w.alloc (.cells #[.int .u8 q.o,.string q.n,.slice q.a q.l q.c,.slice q.b q.m q.e] 36):=by
 obtain ⟨o,n,a,l,c,b,m,e⟩:=q;unfold FQ.val;go_enter Tryz.func85,Tryz.ntmps85;go_wp2;go_ret;exact ⟨rfl,rfl⟩
attribute [local go_sem] run_makeMap in
theorem Bi (f:Fm) (az:fitF f) (xy:nodesF f<=1000000) (M:Nat->Prop) (B X:Nat) (w:World) (q:FQ) (hX:w.heap[X]?=some (.cells #[.int .u8 q.o,.string q.n,.slice q.a q.l q.c,.slice q.b q.m q.e] 36 (0,0))) (Hj:¬M X) (hq:FormV (fun b=>b<B/\¬M b) w q.val f) :
  Hx M False Tryz.prog 148 #[.pointer (some ⟨X,0,none⟩)] (bl [] f) yp w:=by
 exact pm206
theorem vq {bs:List Str} {l:List Tm} {x:Str} (h:x∈(aC l).filter (fun x=>!bs.contains x)):x∈aC l:=(List.mem_filter.1 h).1
mutual
theorem oe {p:Nat}:∀ (f:Fm) (b:List Str),kJ p f=true->∀ x∈bl b f,x.length<=p
 | .mk o n a s,b,h,x,hx=>by
  simp only[kJ,ah]at h;unfold bl at hx;rcases List.mem_append.1 hx with hx | hx
  ·exact nk a h.2.2.1 x (vq hx)
  ·exact F5 s _ h.2.2.2 x hx
theorem F5 {p:Nat}:∀ (l:List Fm) (b:List Str),nmFs p l=true->∀ x∈bP b l,x.length<=p
 | [],_,_,x,hx=>by simp[bP]at hx
 | t :: l,b,h,x,hx=>by
  simp only[nmFs,ah]at h;unfold bP at hx;rcases List.mem_append.1 hx with hx | hx
  ·exact oe t b h.1 x hx
  ·exact F5 l b h.2 x hx
end
theorem tw (t:Fm) (az:fitF t) (xy:nodesF t<=1000000) (ok:Nat->Prop) (w:World) (q:FQ) (hq:FormV ok w q.val t) :
  Calls Tryz.prog 40 #[q.val] w fun e w'=>(∃v,e=.returned v/\RowS w.heap.size w' v (dF (bl [] t)))/\RowKit.Below w.heap.size w w':=by
 have hq:=hq.lt;have oP:(bl [] t).length<=2000000:=aN (gC t []) az.1;obtain ⟨W2,bm⟩:=am ((w.alloc (.cells #[.int .u8 q.o,.string q.n,.slice q.a q.l q.c,.slice q.b q.m q.e] 36)).alloc (.cells #[.int .u8 q.o,.string q.n,.slice q.a q.l q.c,.slice q.b q.m q.e] 36));have bD:RowKit.Below w.heap.size w W2:=by rw[bm];exact cJ.alloc (by simp) _
 have ig:=wW bm;have o9:=jA bm;have C2:=DH (bl [] t) oP (oe t [] az.2) 148 #[.pointer (some ⟨w.heap.size+1,0,none⟩)] W2 (enters_of Tryz.func148 (by kernel_rfl) rfl) (fun w1 hb hl=>Bi t az xy (fun b=>b=W2.heap.size) W2.heap.size (w.heap.size+1) w1 q (bR hb o9) (by omega) ((hq.later (bD.trans (hb.mono bD.size))).move (fun b zbM hlt=>⟨⟨by omega,by omega⟩,rfl⟩)));exact pm250
