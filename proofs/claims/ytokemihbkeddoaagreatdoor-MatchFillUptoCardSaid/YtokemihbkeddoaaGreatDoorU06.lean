/-
The contract of 'image' of package match.
-/
import Derived.Test.YtokemihbkeddoaaGreatDoorU05
namespace Go.Proofs.YtokemihbkeddoaaGreatDoor
open Go Go.RowKit Lib
set_option maxRecDepth 100000
set_option maxHeartbeats 64000000
variable {c:Sco} {ins l bs:List Str} {k B n kA kS m b p:Nat} {X W W' w w' w0:World} {c0 c1 c2 c3 v:Value} {T:TypeId} {M L:Nat->Prop} {f:Fm} {z:Array Value} {x:Str} {u:Tm}
section
attribute [local go_sem] Oper.semAt_some
theorem pI {l:List Fm} {k:Nat} (h:k<l.length):fj c ins (l.take (k+1))=match fj c ins (l.take k),eT c ins l[k] with | some us,some u=>some (us ++ [u]) | _,_=>none:=by
 induction l generalizing k with
 | nil=>simp at h
 | cons t l ih=>
  cases k with
  | zero=>
   simp only[List.take_succ_cons,List.take_zero,List.getElem_cons_zero,fj];cases eT c ins t <;> rfl
  | succ k=>
   have:=ih (k:=k) (by simpa using h);simp only[List.take_succ_cons,List.getElem_cons_succ,fj];rw[this];cases eT c ins t <;> cases fj c ins (l.take k) <;> cases eT c ins (l[k]'(by simpa using h)) <;> rfl
theorem AF {l:List Fm} {t:Fm} (ht:t∈l) (h:eT c ins t=none):fj c ins l=none:=by
 induction l with
 | nil=>cases ht
 | cons u l ih=>
  rcases cd.1 ht with rfl | ht
  ·simp[fj,h]
  ·simp only[fj,ih ht];cases eT c ins u <;> rfl
theorem AG (hx:X.heap[B]?=some (.cells #[c0,c1,c2,c3] T (0,0))) (v0 v1 v2 v3:Value):∃W6,W6=(((X.setCell ⟨B,0,none⟩ v0).setCell ⟨B,1,none⟩ v1).setCell ⟨B,2,none⟩ v2).setCell ⟨B,3,none⟩ v3/\W6.heap[B]?=some (.cells #[v0,v1,v2,v3] T (0,0))/\Kp (fun b=>b=B) X W6/\W6.cell? ⟨B,0,none⟩=some v0/\W6.cell? ⟨B,1,none⟩=some v1/\W6.cell? ⟨B,2,none⟩=some v2/\W6.cell? ⟨B,3,none⟩=some v3:=
 have h:=lA (v0:=v0) (v1:=v1) (v2:=v2) (v3:=v3) hx
 ⟨_,rfl,h,dL,ah h 0,ah h 1,ah h 2,ah h 3⟩
theorem dy (hx:X.heap[B]?=some (.cells #[c0,c1,c2,c3] T (0,0))):X.cell? ⟨B,0,none⟩=some c0/\X.cell? ⟨B,1,none⟩=some c1/\X.cell? ⟨B,2,none⟩=some c2/\X.cell? ⟨B,3,none⟩=some c3/\X.frozen? ⟨B,0,none⟩=false/\X.frozen? ⟨B,1,none⟩=false/\X.frozen? ⟨B,2,none⟩=false/\X.frozen? ⟨B,3,none⟩=false:=
 ⟨ah hx 0,ah hx 1,ah hx 2,ah hx 3,ae hx 0,ae hx 1,ae hx 2,ae hx 3⟩
def StrsN (W:World) (v:Value) (l:List Str):Prop:=∃a cap,v=.slice a l.length cap/\l.length<=cap/\((l=[]/\a=none/\cap=0)\/∃b off,a=some ⟨b,off,none⟩/\∀ j (h:j<l.length),W.cell? ⟨b,off+j,none⟩=some (.string ⟨l[j].toArray⟩))
theorem StrsN.strs (h:StrsN W v l):StrsO (fun _=>True) W v l:=by
 have pp254c:=();exact pm254
theorem StrsN.later (h:StrsN W v l) (hb:Below W.heap.size W W'):StrsN W' v l:=by
 exact pm124
def StrsN.Far (v:Value) (M:Nat->Prop):Prop:=∀ b,v.ownBlock=some b->¬M b
theorem StrsN.kp (h:StrsN W v l) (hk:Kp M W W') (hf:StrsN.Far v M):StrsN W' v l:=by
 have pp254d:=();exact pm254
theorem StrsN.old (h:StrsN W v l) (hl:l≠[]):∀ b,v.ownBlock=some b->b<W.heap.size:=by
 obtain ⟨a,cap,rfl,hc,h⟩:=h;rcases h with ⟨h,_⟩ | ⟨b,off,rfl,h⟩
 ·exact absurd h hl
 ·intro b' hb;cases hb;exact World.block_lt_of_cell? W _ (h 0 (iZ.2 hl))
theorem StrsN.nil (W:World):StrsN W (.slice none 0 0) []:=⟨none,0,rfl,aD _,.inl ⟨rfl,rfl,rfl⟩⟩
theorem StrsN.own {base g c:Nat} (h:W.ownsRow base 9 1 (.slice (some ⟨g,0,none⟩) n c) n (l.map encStr)):StrsN W (.slice (some ⟨g,0,none⟩) n c) l:=by
 have hl:n=l.length:=by have:=h.1;simp at this;omega
 subst hl;obtain ⟨a,cap,hv,hc,h⟩:=OwnS.strs (lo:=base) h;injection hv with h1 _ h3;subst h3;refine ⟨_,_,rfl,hc,.inr ⟨g,0,rfl,fun j hj=>?_⟩⟩;rcases h with rfl | ⟨b,off,ha,_,hcl⟩
 ·simp at hj
 ·rw[ha]at h1;injection h1 with h1;injection h1 with h1 h2;subst h1;subst h2;exact hcl j hj
theorem Ea (q:PlQ) (ps:List (Str×Str)) (mg:ps.length<=1000000) (gX:∀ p∈ps,p.1.length<=2000000) :
  ∀ (f:Fm),fitF f->∀ (L ins:List Str),L.length+nodesF f<=2000000->(∀ y,L.contains y=ins.contains y)->∀ (vL:Value) (ok:Nat->Prop) (w:World) (fq:FQ),PairsV w (.slice q.a q.l q.c) ps->(StrsN w vL L/\∀ b,vL.ownBlock=some b->b<w.heap.size)->FormV ok w fq.val f →
  Calls Tryz.prog 91 #[q.val,fq.val,vL] w fun e w'=>(∃p:FQ,e=.returned (.tuple #[p.val,.bool (eT ps.reverse ins f).isSome])/\∀ u,eT ps.reverse ins f=some u->FormV (w.heap.size<=·) w' p.val u)/\Below w.heap.size w w':=by
 have pp174b:=();exact pm174
end
abbrev Bx:=Option Nat×Bool
def okB (L:Nat->Prop) (γ:Bx) (w:World) (b:Nat):Prop:=L b/\b<w.heap.size/\γ.1≠some b
def Gr (γ:Bx) (w:World) (d8:Bx) (w':World):Prop:=
 (d8=γ/\Below w.heap.size w w')\/(γ.1=none/\d8=(some w.heap.size,false)/\w.heap.size<w'.heap.size/\Below w.heap.size w w')\/(∃b,γ=(some b,false)/\d8=(some b,true)/\Kp (fun c=>c=b) w w')
theorem Gr.keep {γ:Bx} (h:Below w.heap.size w w'):Gr γ w γ w':=.inl ⟨rfl,h⟩
theorem Gr.refl {γ:Bx}:Gr γ w γ w:=.inl ⟨rfl,aj _ _⟩
theorem Gr.holds {γ d8:Bx} (h:Gr γ w d8 w'):fk (okB L γ w) (okB L d8 w') w w':=by
 rintro b ⟨h1,h2,h3⟩ hlt;rcases h with ⟨rfl,hb⟩ | ⟨_,rfl,_,hb⟩ | ⟨c,rfl,rfl,hk⟩
 ·exact ⟨⟨h1,bH h2 hb.size,h3⟩,hb.block b hlt⟩
 ·exact ⟨⟨h1,bH h2 hb.size,fun e=>by cases e;omega⟩,hb.block b hlt⟩
 ·exact ⟨⟨h1,bH h2 hk.size,h3⟩,hk.same b hlt (fun e=>h3 (by rw[e]))⟩
theorem Gr.size {γ d8:Bx} (h:Gr γ w d8 w'):w.heap.size<=w'.heap.size:=by
 rcases h with ⟨_,hb⟩ | ⟨_,_,_,hb⟩ | ⟨_,_,_,hk⟩
 ·exact hb.size
 ·exact hb.size
 ·exact hk.size
def IG (M:Nat->Prop) (w0:World) (γ:Bx) (w:World):Prop:=Kp M w0 w/\(∀ b,γ.1=some b->(w0.heap.size<=b\/M b)/\b<w.heap.size)/\∀ b,M b->γ.1=some b/\(γ.2=false->w.heap[b]?=w0.heap[b]?)
theorem IG.step {γ d8:Bx} (hG:Gr γ w d8 w') (h:IG M w0 γ w):IG M w0 d8 w':=by
 rcases hG with ⟨rfl,hb⟩ | ⟨hn,rfl,hlt,hb⟩ | ⟨c,rfl,rfl,hk⟩
 ·exact ⟨h.1.trans (Kp.below hb),fun b e=>⟨(h.2.1 b e).1,bH (h.2.1 b e).2 hb.size⟩,fun b hm=>⟨(h.2.2 b hm).1,fun e=>(hb.block b (h.2.1 b (h.2.2 b hm).1).2).trans ((h.2.2 b hm).2 e)⟩⟩
 ·exact ⟨h.1.trans (Kp.below hb),fun b Ol=>by cases Ol;exact ⟨.inl h.1.size,hlt⟩,fun b hm=>by have:=(h.2.2 b hm).1;rw[hn]at this;cases this⟩
 ·refine ⟨⟨hk.os.trans h.1.os,hk.tape.trans h.1.tape,hk.output.trans h.1.output,aU h.1.size hk.size,fun b hb hm=>?_⟩,fun b e=>⟨(h.2.1 b e).1,bH (h.2.1 b e).2 hk.size⟩,fun b hm=>⟨(h.2.2 b hm).1,fun e=>by cases e⟩⟩;refine (hk.same b (bH hb h.1.size) (fun e=>?_)).trans (h.1.same b hb hm);rcases (h.2.1 c rfl).1 with h2 | h2
  ·omega
  ·exact hm (e ▸ h2)
def PsB (kA kS k:Nat) (γ:Bx):Prop:=(k=kA->γ.1=none)/\(k=kS->γ.2=false)
theorem PsB.same {γ:Bx}:∀ j,j≠k->PsB kA kS j γ->PsB kA kS j γ:=fun _ _ h=>h
/-! facts -/
def FormG (L:Nat->Prop) (f:Fm) (v:Value) (γ:Bx) (w:World):Prop:=∃q:FQ,v=q.val/\FormV (okB L γ w) w q.val f
def TermG (L:Nat->Prop) (t:Tm) (v:Value) (γ:Bx) (w:World):Prop:=∃q:TQ,v=q.val/\TermV (okB L γ w) w q.val t
def FormsG (L:Nat->Prop) (l:List Fm) (v:Value) (γ:Bx) (w:World):Prop:=∃a c,v=.slice a l.length c/\FormsV (okB L γ w) w (.slice a l.length c) l
def TermsG (L:Nat->Prop) (l:List Tm) (v:Value) (γ:Bx) (w:World):Prop:=∃a c,v=.slice a l.length c/\TermsV (okB L γ w) w (.slice a l.length c) l
def BindG (L:Nat->Prop) (b:Bd) (v:Value) (γ:Bx) (w:World):Prop:=∃q:BQ,v=q.val/\BindV (okB L γ w) w q b
def StrsG (L:Nat->Prop) (l:List Str) (v:Value) (γ:Bx) (w:World):Prop:=StrsO (okB L γ w) w v l
theorem FormG.step {γ d8:Bx} (hG:Gr γ w d8 w'):FormG L f v γ w->FormG L f v d8 w':=fun ⟨q,e,h⟩=>⟨q,e,h.move hG.holds⟩
theorem TermG.step {f:Tm} {γ d8:Bx} (hG:Gr γ w d8 w'):TermG L f v γ w->TermG L f v d8 w':=fun ⟨q,e,h⟩=>⟨q,e,h.move hG.holds⟩
theorem FormsG.step {f:List Fm} {γ d8:Bx} (hG:Gr γ w d8 w'):FormsG L f v γ w->FormsG L f v d8 w':=fun ⟨a,c,e,h⟩=>⟨a,c,e,h.move hG.holds⟩
theorem TermsG.step {f:List Tm} {γ d8:Bx} (hG:Gr γ w d8 w'):TermsG L f v γ w->TermsG L f v d8 w':=fun ⟨a,c,e,h⟩=>⟨a,c,e,h.move hG.holds⟩
theorem BindG.step {f:Bd} {γ d8:Bx} (hG:Gr γ w d8 w'):BindG L f v γ w->BindG L f v d8 w':=fun ⟨q,e,h⟩=>⟨q,e,h.move hG.holds⟩
theorem StrsG.step {γ d8:Bx} (hG:Gr γ w d8 w'):StrsG L l v γ w->StrsG L l v d8 w':=fun h=>h.move hG.holds
theorem okB.new {γ:Bx} (hI:IG M w0 γ w) (hlo:∀ b,w.heap.size<=b->L b):fk (w.heap.size<=·) (okB L γ w') w' w':=fun b hb hlt=>
 ⟨⟨hlo b hb,hlt,fun e=>by
  have:=(hI.2.1 b e).2;have Ol:w.heap.size<=b:=hb;omega⟩,rfl⟩
theorem FormG.new {γ:Bx} (hI:IG M w0 γ w) (hlo:∀ b,w.heap.size<=b->L b) {q:FQ} (h:FormV (w.heap.size<=·) w' q.val f):FormG L f q.val γ w':=⟨q,rfl,h.move (okB.new hI hlo)⟩
def RowG (L:Nat->Prop) (cs:Array Value) (T:TypeId) (m:Nat) (v:Value) (γ:Bx) (w:World):Prop:=∃b,v=.slice (some ⟨b,0,none⟩) m m/\okB L γ w b/\w.heap[b]?=some (.cells cs T (0,0))
theorem RowG.step {cs:Array Value} {γ d8:Bx} (hG:Gr γ w d8 w'):RowG L cs T m v γ w->RowG L cs T m v d8 w':=fun ⟨b,e,h1,h2⟩=>
 have h:=hG.holds b h1 (bz h2)
 ⟨b,e,h.1,h.2.trans h2⟩
theorem RowG.new {γ:Bx} (hI:IG M w0 γ w) (hlo:∀ b,w.heap.size<=b->L b) (cs:Array Value) (T:TypeId) (m:Nat):RowG L cs T m (.slice (some ⟨w.heap.size,0,none⟩) m m) γ (w.alloc (.cells cs T)):=
 ⟨_,rfl,(okB.new hI hlo _ (aD _) (by simp)).1,ai rfl⟩
def NamesG (l:List Str) (v:Value) (γ:Bx) (w:World):Prop:=StrsN w v l/\∀ b,v.ownBlock=some b->okB (fun _=>True) γ w b
theorem NamesG.step {γ d8:Bx} (hG:Gr γ w d8 w'):NamesG l v γ w->NamesG l v d8 w':=by
 rintro ⟨⟨a,cap,rfl,hc,h⟩,h2⟩;have h3:∀ b,(Value.slice a l.length cap).ownBlock=some b->okB (fun _=>True) d8 w' b/\w'.heap[b]?=w.heap[b]?:=fun b hb=>hG.holds b (h2 b hb) (h2 b hb).2.1;refine ⟨⟨a,cap,rfl,hc,?_⟩,fun b hb=>(h3 b hb).1⟩;rcases h with h | ⟨b,off,rfl,h⟩
 ·exact .inl h
 ·exact .inr ⟨b,off,rfl,fun j hj=>(World.cell?_of_block (a:=⟨b,off+j,none⟩) (h3 b rfl).2).trans (h j hj)⟩
def BoxG (z:Array Value) (T:TypeId) (v:Value) (γ:Bx) (w:World):Prop:=∃b,v=.pointer (some ⟨b,0,none⟩)/\γ.1=some b/\b<w.heap.size/\(γ.2=false->w.heap[b]?=some (.cells z T (0,0)))
theorem BoxG.step {γ d8:Bx} (hG:Gr γ w d8 w'):BoxG z T v γ w->BoxG z T v d8 w':=by
 rintro ⟨b,rfl,h1,h2,h3⟩;rcases hG with ⟨rfl,hb⟩ | ⟨h,_⟩ | ⟨c,rfl,rfl,hk⟩
 ·exact ⟨b,rfl,h1,bH h2 hb.size,fun h=>(hb.block b h2).trans (h3 h)⟩
 ·rw[h]at h1;cases h1
 ·exact ⟨b,rfl,h1,bH h2 hk.size,fun h=>by cases h⟩
def SetG (R:Array Value->Bx->World->Prop) (T:TypeId) (γ:Bx) (w:World):Prop:=∃b cs,γ=(some b,true)/\w.heap[b]?=some (.cells cs T (0,0))/\R cs γ w
theorem SetG.step {R:Array Value->Bx->World->Prop} {γ d8:Bx} (hR:∀ cs,R cs γ w->R cs d8 w') (hG:Gr γ w d8 w'):SetG R T γ w->SetG R T d8 w':=by
 rintro ⟨b,cs,rfl,h2,h3⟩;rcases hG with ⟨rfl,hb⟩ | ⟨h,_⟩ | ⟨c,h,_⟩
 ·exact ⟨b,cs,rfl,(hb.block b (bz h2)).trans h2,hR cs h3⟩
 ·cases h
 ·cases h
theorem uN {γ:Bx} (o:Obj) (h:γ.1=none):Gr γ w (some w.heap.size,false) (w.alloc o):=.inr (.inl ⟨h,rfl,by simp,cO⟩)
theorem rG {γ:Bx}:∀ j,j≠kA->PsB kA kS j γ->PsB kA kS j (some n,false):=fun _ hj _=>⟨fun e=>absurd e hj,fun _=>rfl⟩
theorem uO:BoxG z T (.pointer (some ⟨w.heap.size,0,none⟩)) (some w.heap.size,false) (w.alloc (.cells z T)):=⟨_,rfl,rfl,by simp,fun _=>ai rfl⟩
theorem jw (h:Kp (fun c=>c=b) w w'):Gr (some b,false) w (some b,true) w':=.inr (.inr ⟨b,rfl,rfl,h⟩)
theorem oq:∀ j,j≠kS->PsB kA kS j (some b,false)->PsB kA kS j (some b,true):=fun _ hj h=>⟨fun e=>h.1 e,fun e=>absurd e hj⟩
theorem bP {t:Array Value} {d:Nat} (h:t[d]?=some v):t.getD d undef=v:=by
 obtain ⟨hlt,hv⟩:=Array.getElem?_eq_some_iff.1 h;simp[Array.getD,hlt,hv]
section
attribute [local go_sem] Oper.semAt_some
mutual
theorem Eb:∀ f:Fm,fitF f->∀ x∈kM f,fitF x
 | .mk o n a s,h,x,hx=>by
  unfold kM at hx;rcases cd.1 hx with rfl | hx
  ·exact h
  ·exact AH s h.subs x hx
theorem AH:∀ l:List Fm,fitFs l->∀ x∈dR l,fitF x
 | [],_,x,hx=>by simp[dR]at hx
 | t :: l,h,x,hx=>by
  unfold dR at hx;rcases List.mem_append.1 hx with hx | hx
  ·exact Eb t (h.mem (by simp)) x hx
  ·exact AH l ⟨aU (by simp[nodesFs]) h.1,qt.2 (fun u hu=>qt.1 h.2 u (by simp[hu]))⟩ x hx
end
theorem Ps (q:FQ) (w:World) :
  Calls Tryz.prog 86 #[q.val] w fun e w'=>e=.returned (.func (.func 150) #[] #[.pointer (some ⟨w.heap.size,0,none⟩)])/\w'=w.alloc (.cells #[.int .u8 q.o,.string q.n,.slice q.a q.l q.c,.slice q.b q.m q.e] 36):=by
 obtain ⟨o,n,a,l,c,b,m,e⟩:=q;unfold FQ.val;go_enter Tryz.func86,Tryz.ntmps86;go_wp2;go_ret;exact ⟨rfl,rfl⟩
theorem Pt (f:Fm) (hfit:fitF f) (M:Nat->Prop) (B X:Nat) (w:World) (q:FQ) (hX:w.heap[X]?=some (.cells #[.int .u8 q.o,.string q.n,.slice q.a q.l q.c,.slice q.b q.m q.e] 36 (0,0))) (I6:¬M X) (hq:FormV (fun b=>b<B/\¬M b) w q.val f) :
  Jn M False Tryz.prog 150 #[.pointer (some ⟨X,0,none⟩)] (kM f) (Um M B) w:=by
 have pp230b:=();exact pm230
theorem MX (f:Fm) (hfit:fitF f) (ok:Nat->Prop) (w:World) (q:FQ) (hq:FormV ok w q.val f) :
  Calls Tryz.prog 167 #[q.val,.int .i64 9223372036854775807] w fun e w'=>e=.returned (.int .i64 (nodesF f))/\Below w.heap.size w w':=by
 have hq:=hq.lt;have zev:=hfit.1;obtain ⟨nG,HQ⟩:=aW hfit hq;clear hfit hq;refine Lh ?_;refine callsIn_of_wp_marks Tryz.func167 rfl trivial ?_ rfl;simp only[Tryz.ntmps167,Nat.reduceAdd,Nat.reduceSub,lu];have iz:=fd;unfold FQ.val;gi_wp2_with (gi_at_call 86;refine aK.2 ((Ps q _).mono ?_);rintro e w' ⟨rfl,rfl⟩);obtain ⟨w1,yR⟩:=am ((((w.alloc (.cells #[.int .u8 q.o,.string q.n,.slice q.a q.l q.c,.slice q.b q.m q.e] 36)).alloc (.cells #[.int .i64 9223372036854775807] 3)).alloc (.cells #[.int .i64 0] 3)).alloc (.cells #[.int .u8 q.o,.string q.n,.slice q.a q.l q.c,.slice q.b q.m q.e] 36));have hb1:=Sc yR;have ju:=VG yR;have xL:NAt (w.heap.size+1) 9223372036854775807 w1:=by rw[yR];exact (bE _ _ _ (by simp)).trans ((bE _ _ _ (by simp)).trans (ai (by simp)))
 have xN:NAt (w.heap.size+1+1) 0 w1:=by rw[yR];exact (bE _ _ _ (by simp)).trans (ai (by simp))
 have xX:=OE yR;rw[<-yR];clear yR;have hq1:FormV (fun b=>b<w1.heap.size/\¬(b=w.heap.size+1+1)) w1 q.val f:=(HQ.o.later hb1).move (fun b hb hlt=>⟨⟨hlt,by omega⟩,rfl⟩);have oI:=Pt f nG.o (fun b=>b=w.heap.size+1+1) w1.heap.size (w.heap.size+1+1+1) w1 q xX (by omega) hq1;obtain ⟨zcp,ec,RT,HL,HN⟩:=t5 oI hb1 ju xL xN;have hNl:w.heap.size+1+1<w1.heap.size:=by omega
 have zaj:=ac hNl;clear oI hb1 ju xL xN xX hq1 hNl;have eg:∀ args W,(callFunc 150 args).run Tryz.prog W=.ok (.enter 150 args) W:=enters_of Tryz.func150 (by kernel_rfl) rfl;refine gJ rfl eg (fun b hb=>by subst hb;exact zaj.o) zcp.o (fun _ _ _ h=>by obtain ⟨v,rfl,_⟩:=h;rfl)
  (fun pre X=>NAt (w.heap.size+1+1) (pO pre) X/\Kp (fun b=>b=w.heap.size+1+1) w1 X) (fun _ _ _=>False) (fun s=>?hI) (fun _ _ _ _ _ h=>h.elim) ⟨by simpa[pO] using HN.o,Kp.refl _⟩ ?round ?done (fun _ _ _ _ h=>h.elim)
 case hI=>
  rintro X Y hn ⟨h1,h2⟩;exact ⟨(hn.old zaj.o (bz h1)).trans h1,hn.os.trans h2.os,hn.tape.trans h2.tape,hn.output.trans h2.output,aU h2.size hn.size,fun b hb hm=>(hn.old hb (bH hb h2.size)).trans (h2.same b hb hm)⟩
 case done=>
  rintro D X hD ⟨hn,bj⟩ _ hd;rw[s7]at hn;have c0:=hn.c0;obtain ⟨HK,HD⟩:=aW bj hd;clear hn bj hd;gi_wp2;refine ⟨by simp,.inl ⟨_,_,rfl,run_takeDeferred HD.o,?_⟩⟩;refine ⟨.int .i64 (nodesF f),by simp[results,Tryz.results167,go_sem],rfl,?_⟩;have hk:=EV (.deferred none) HK.o hD;exact pm181
 case round=>
  rintro l pre vs x W hl yS ⟨hn,bj⟩ ⟨u,rfl,hu⟩ _ dx;obtain ⟨HU,Gn,HK,HLr,ob⟩:=t5 hu hn bj yS dx;clear hn bj hu yS dx;unfold FQ.val;gi_wp2;have hB:Below W.heap.size W (W.alloc (.cells #[.int .u8 u.o,.string u.n,.slice u.a u.l u.c,.slice u.b u.m u.e] 36)):=cO;refine ⟨Kp.below hB,⟨Gn.o.later hB,HK.o.trans (Kp.below hB)⟩,fun W2 g9 kY iO=>?_⟩;have Cv:W2.heap[W.heap.size]?=some (.cells #[.int .u8 u.o,.string u.n,.slice u.a u.l u.c,.slice u.b u.m u.e] 36 (0,0)):=(g9.same _ (by obtain ⟨r,hr⟩:=HLr.o;have:=(bz hr);omega)).trans (ai rfl);have zb:FormV (fun b=>b<w1.heap.size/\¬(b=w.heap.size+1+1)) W2 u.val x:=((HU.o.later hB).move (ok':=fun b=>b<w1.heap.size/\¬(b=w.heap.size+1+1)) (fun b hb hlt=>⟨hb,g9.same b (by omega)⟩));have hL2:NAt (w.heap.size+1) 9223372036854775807 W2:=HL.o.kp iO (by omega);have hf:=Eb f nG.o x (ob.o.subset (by simp));have pN:=So ob.o;rw[s7,nb]at pN;obtain ⟨⟨xo,xn,xa,xs⟩,hx⟩:∃y,x=y:=⟨_,rfl⟩;have aA:pO (pre ++ [x])=pO pre+(1+nodesTs xa):=by rw[nb,hx];simp[pO,Fm.a]
  have ho1:pO [x]=1+nodesTs xa:=by rw[hx];simp[pO,Fm.a]
  rw[ho1]at pN;rw[hx]at zb hf;obtain ⟨uo,un,ua,ul,uc,ub,um,ue⟩:=u;obtain ⟨va,vs2,Gq,e_,Au⟩:=aT.1 zb;simp only[FQ.val,cF,Array.mk.injEq,b_,and_true,Value.int.injEq,true_and,Value.string.injEq]at Gq;obtain ⟨rfl,rfl,rfl,rfl⟩:=Gq;obtain ⟨P,hP⟩:=am (pO pre);obtain ⟨m,hm⟩:=am (nodesTs xa);rw[<-hP]at kY;have Uy:pO (pre ++ [x])=P+(1+m):=by rw[aA,hP,hm]
  have zd:P+(1+m)<=2000000:=by rw[hP,hm];omega
  have a_:w1.heap.size<=W2.heap.size:=iO.size;have CC:=fun (W3:World) (h:Kp (fun b=>b=w.heap.size+1+1) W2 W3) (hN:NAt (w.heap.size+1+1) (P+1) W3)=>z7 xa (w.heap.size+1+1) (w.heap.size+1) (fun b=>b<w1.heap.size/\¬(b=w.heap.size+1+1)) (P+1) W3 ua ul uc (by omega) hf.args (e_.move (fun b hb hlt=>⟨hb,h.same b hlt hb.2⟩)) (fun b hb=>hb.2) hN (hL2.kp h (by omega)) (by omega) (by omega);rw[<-hm]at CC;have C3:=CC (W2.setCell ⟨w.heap.size+1+1,0,none⟩ (.int .i64 (P+1))) (oP _) (kY.set _);have HC3:=ac C3;have cN:=kY.c0;have cL:=hL2.c0;have cx2:W2.cell? ⟨W.heap.size,2,none⟩=some (.slice ua ul uc):=ah Cv 2;have zN:=ae kY 0;have zew:¬w.heap.size+1=w.heap.size+1+1:=by omega
  have zex:¬W.heap.size=w.heap.size+1+1:=by have:=HK.o.size;have:=RT.o;omega
  obtain ⟨HL2,Z8,HO,HE2⟩:=eH hL2 iO Uy zd;clear C3 CC kY hL2 e_ Au zb hf hx aA ho1 pN Cv hP hm Uy iO;have zcd:decide ((9223372036854775807:Int)<(P:Int)+1+(m:Int))=false:=by simp;have:=HE2.o;omega
  have Uz:∀ f,(Fence.wide.inRound l).fn f:=fun _=>trivial;gi_wp2_with (gi_at_call 230;refine CallsIn.inRound l (aK.2 (HC3.o.mono ?_));rintro e w4 ⟨rfl,lK,I8⟩;have c4:=I8.c0;have l4:=(HL2.o.kp ((oP _).trans lK) (by omega)).c0;have HK4:=ac lK;have HN4:=ac I8;clear lK I8);refine ⟨(oP _).trans HK4.o,?_,Z8.o.trans ((oP _).trans HK4.o)⟩;rw[HO.o,show ((P+(1+m):Nat):Int)=(P:Int)+1+(m:Int) by omega];exact HN4.o
theorem kO (f:Fm) (hfit:fitF f) (ok:Nat->Prop) (w:World) (q:FQ) (hq:FormV ok w q.val f) :
  Calls Tryz.prog 99 #[q.val] w fun e w'=>e=.returned (.int .i64 (nodesF f))/\Below w.heap.size w w':=by
 have hb1:Below w.heap.size w (w.alloc (.cells #[.int .u8 q.o,.string q.n,.slice q.a q.l q.c,.slice q.b q.m q.e] 36)):=cO;have C1:=MX f hfit ok _ q (hq.later hb1);obtain ⟨HB,HC⟩:=aW hb1 C1;clear hb1 C1 hq;unfold FQ.val at HC ⊢;go_enter Tryz.func99,Tryz.ntmps99;go_wp2_with (go_at_call 167;refine HC.o.mono ?_;rintro e w2 ⟨rfl,bB⟩);go_ret;exact ⟨rfl,HB.o.trans (bB.mono (by simp))⟩
theorem TermsV.one {ok:Nat->Prop} {q:TQ} {t:Tm} {fr:Nat×Nat} (c:Nat) (ht:TermV ok W q.val t) (hb:ok b) (fh:W.heap[b]?=some (.cells #[.bool q.v,.string q.n,.slice q.a q.l q.c] T fr)) :
  TermsV ok W (.slice (some ⟨b,0,none⟩) 1 c) [t]:=by
 refine ⟨_,c,fun _=>q.val,rfl,.inr ⟨b,0,rfl,hb,fun j hj=>?_⟩,fun j hj=>?_⟩
 ·simp at hj;subst hj;exact ⟨_,_,_,rfl,ah fh 0,ah fh 1,ah fh 2⟩
 ·simp at hj;subst hj;exact ht
theorem FormsV.zero (ok:Nat->Prop) (W:World):FormsV ok W (.slice none 0 0) []:=⟨none,0,fun _=>.bool true,rfl,.inl rfl,fun j h=>by simp at h⟩
theorem ld (t:Tm) (hfit:fitT t) (hn:nodesT t<2000000) (ok:Nat->Prop) (w:World) (q:TQ) (hq:TermV ok w q.val t) :
  Calls Tryz.prog 100 #[q.val] w fun e w'=>e=.returned (.int .i64 (nodesT t))/\Below w.heap.size w w':=by
 have hb1:Below w.heap.size w (w.alloc (.cells #[.bool q.v,.string q.n,.slice q.a q.l q.c] 43)):=cO;have bB:Below w.heap.size w ((w.alloc (.cells #[.bool q.v,.string q.n,.slice q.a q.l q.c] 43)).alloc (.cells #[.bool q.v,.string q.n,.slice q.a q.l q.c] 43)):=hb1.alloc (by simp) _;have hr:((w.alloc (.cells #[.bool q.v,.string q.n,.slice q.a q.l q.c] 43)).alloc (.cells #[.bool q.v,.string q.n,.slice q.a q.l q.c] 43)).heap[w.heap.size+1]?=some (.cells #[.bool q.v,.string q.n,.slice q.a q.l q.c] 43 (0,0)):=ai (by simp);have hf:fitF (.mk 0 [] [t] []):=⟨by have:=hfit.1;simp[nodesF,nodesTs,nodesFs];omega,by have:=hfit.2;simp[ls,nmTs,nmFs,this]⟩;have hv:FormV (fun _=>True) ((w.alloc (.cells #[.bool q.v,.string q.n,.slice q.a q.l q.c] 43)).alloc (.cells #[.bool q.v,.string q.n,.slice q.a q.l q.c] 43)) (FQ.val ⟨0,⟨#[]⟩,some ⟨w.heap.size+1,0,none⟩,1,1,none,0,0⟩) (.mk 0 [] [t] []):=
  aT.2 ⟨_,_,rfl,TermsV.one 1 ((hq.later bB).move (fun b _ _=>⟨trivial,rfl⟩)) trivial hr,FormsV.zero _ _⟩
 have C1:=kO _ hf _ _ _ hv;have my:nodesF (.mk 0 [] [t] [])=nodesT t+1:=by simp[nodesF,nodesTs,nodesFs];try omega
 rw[my]at C1;obtain ⟨HB,HC,HN⟩:=cH bB C1 hn;clear hb1 bB hr hf hv C1 hq hfit my hn;unfold TQ.val;unfold FQ.val at HC;go_enter Tryz.func100,Tryz.ntmps100;go_wp2_with (go_at_call 99;refine HC.o.mono ?_;rintro e w2 ⟨rfl,bB⟩;have cw:=ac bB;clear bB);have Y4:wrap64 ((nodesT t:Int))=(nodesT t:Int):=Go.IntWalk.wrap64_in _ (by have:=HN.o;omega);simp only[Y4];go_ret;exact ⟨rfl,HB.o.trans (cw.o.mono (by simp;omega))⟩
theorem J1 (s:ByteArray) (w:World) :
  Calls Tryz.prog 30 #[.string s] w fun e w'=>e=.returned (.agg #[.bool true,.string s,.slice none 0 0])/\Below w.heap.size w w':=by
 go_enter Tryz.func30,Tryz.ntmps30;go_wp2;refine bI (v:=.agg #[.bool true,.string s,.slice none 0 0]) (by simp[results,Tryz.results30,go_sem]) rfl ⟨rfl,?_⟩;exact cO
theorem Pu (s:ByteArray) (a:Option Addr) (l c:Nat) (w:World) :
  Calls Tryz.prog 31 #[.string s,.slice a l c] w fun e w'=>e=.returned (.agg #[.bool false,.string s,.slice a l c])/\Below w.heap.size w w':=by
 go_enter Tryz.func31,Tryz.ntmps31;go_wp2;refine bI (v:=.agg #[.bool false,.string s,.slice a l c]) (by simp[results,Tryz.results31,go_sem]) rfl ⟨rfl,?_⟩;exact cO
theorem Ff (s:ByteArray) (a:Option Addr) (l c:Nat) (w:World) :
  Calls Tryz.prog 24 #[.string s,.slice a l c] w fun e w'=>e=.returned (.agg #[.int .u8 1,.string s,.slice a l c,.slice none 0 0])/\Below w.heap.size w w':=by
 go_enter Tryz.func24,Tryz.ntmps24;go_wp2;refine bI (v:=.agg #[.int .u8 1,.string s,.slice a l c,.slice none 0 0]) (by simp[results,Tryz.results24,go_sem]) rfl ⟨rfl,?_⟩;exact cO
theorem SA (o:Int) (s:ByteArray) (a:Option Addr) (l c:Nat) (w:World) :
  Calls Tryz.prog 28 #[.int .u8 o,.string s,.slice a l c] w fun e w'=>e=.returned (.agg #[.int .u8 o,.string s,.slice none 0 0,.slice a l c])/\Below w.heap.size w w':=by
 go_enter Tryz.func28,Tryz.ntmps28;go_wp2;refine bI (v:=.agg #[.int .u8 o,.string s,.slice none 0 0,.slice a l c]) (by simp[results,Tryz.results28,go_sem]) rfl ⟨rfl,?_⟩;exact cO
theorem Wi (s:ByteArray) (w:World) :
  Calls Tryz.prog 29 #[.string s] w fun e w'=>e=.returned (.agg #[.int .u8 15,.string s,.slice none 0 0,.slice none 0 0])/\Below w.heap.size w w':=by
 go_enter Tryz.func29,Tryz.ntmps29;go_wp2;refine bI (v:=.agg #[.int .u8 15,.string s,.slice none 0 0,.slice none 0 0]) (by simp[results,Tryz.results29,go_sem]) rfl ⟨rfl,?_⟩;exact cO
theorem MY (s x t:ByteArray) (w:World) :
  Calls Tryz.prog 35 #[.string s,.string x,.string t] w fun e w'=>(∃k c,e=.returned (.agg #[.int .u8 16,.string s,.slice (some ⟨k,0,none⟩) 2 c,.slice none 0 0])/\w.heap.size<=k/\∃T,w'.heap[k]?=some (.cells #[.bool true,.string x,.slice none 0 0,.bool true,.string t,.slice none 0 0] T (0,0)))/\Below w.heap.size w w':=by
 go_enter Tryz.func35,Tryz.ntmps35;go_wp2_with fail;refine (J1 _ _).mono ?_;rintro e w1 ⟨rfl,hb1⟩;go_wp2_with fail;refine (J1 _ _).mono ?_;rintro e w2 ⟨rfl,bB⟩;have x0:(w.alloc (.cells #[.int .u8 0,.string ⟨#[]⟩,.slice none 0 0,.slice none 0 0] 36)).heap[w.heap.size]?=some (.cells #[.int .u8 0,.string ⟨#[]⟩,.slice none 0 0,.slice none 0 0] 36 (0,0)):=ai rfl;have hb:Below (w.alloc (.cells #[.int .u8 0,.string ⟨#[]⟩,.slice none 0 0,.slice none 0 0] 36)).heap.size (w.alloc (.cells #[.int .u8 0,.string ⟨#[]⟩,.slice none 0 0,.slice none 0 0] 36)) w2:=hb1.trans (bB.mono hb1.size);have x2:=bJ hb x0;have hsz:w.heap.size<w2.heap.size:=(bz x2);obtain ⟨W3,dB⟩:=am (w2.alloc (.cells #[.bool true,.string x,.slice none 0 0,.bool true,.string t,.slice none 0 0] 43));have x3:W3.heap[w.heap.size]?=some (.cells #[.int .u8 0,.string ⟨#[]⟩,.slice none 0 0,.slice none 0 0] 36 (0,0)):=by rw[dB];exact (bE _ _ _ hsz).trans x2
 have y3:=bU dB;have aM:Below w.heap.size w W3:=by rw[dB];exact ((((aj w.heap.size w).alloc (aD _) _).trans (hb.mono (by simp)))).alloc (by omega) _
 obtain ⟨c0,c1,c2,c3⟩:=m5 x3;have z0:=ae x3 0;have z1:=ae x3 1;have z2:=ae x3 2;have z3:=ae x3 3;obtain ⟨W4,xH,x4,k4,g0⟩:=AG x3 (.int .u8 16) (.string s) (.slice (some ⟨w2.heap.size,0,none⟩) 2 2) (.slice none 0 0);rw[dB]at c0 c1 c2 c3 z0 z1 z2 z3;have H:=ac (Sa dB xH g0 k4 aM y3 hsz);clear hb1 bB x0 hb x2 x3 y3 aM x4 k4 g0 dB xH hsz;go_wp2_with fail;rw[<-H.o.1,<-H.o.2.1];obtain ⟨g0,g1,g2,g3⟩:=H.o.2.2.1;have hk:=H.o.2.2.2.1;have aM:=H.o.2.2.2.2.1;have hlt:=H.o.2.2.2.2.2.2;refine bI (v:=.agg #[.int .u8 16,.string s,.slice (some ⟨w2.heap.size,0,none⟩) 2 2,.slice none 0 0]) (by simp[results,Tryz.results35,go_sem,g0,g1,g2,g3]) rfl ⟨⟨_,_,rfl,by omega,_,(hk.same _ (bz H.o.2.2.2.2.2.1) (by omega)).trans H.o.2.2.2.2.2.1⟩,?_⟩;exact ⟨hk.os.trans aM.os,hk.tape.trans aM.tape,hk.output.trans aM.output,aU aM.size hk.size,fun b hb=>(hk.same b (bH hb aM.size) (by omega)).trans (aM.block b hb)⟩
end
section
attribute [local go_sem] Oper.semAt_some run_makeMap
structure PutI (t:Value×Value×Value) (x:Str) (u:Tm) (w:World) (k:Nat) (wr:World):Prop where
 below:Below w.heap.size w wr
 b0:wr.heap[w.heap.size]?=some (.cells #[t.1,t.2.1,t.2.2] 43 (0,0))
 b1:wr.heap[w.heap.size+1]?=some (.cells #[.bool false,.string ⟨#[]⟩,.slice none 0 0] 43 (0,0))
 b3:wr.heap[w.heap.size+3]?=some (.cells #[.map (some (w.heap.size+2))] 146 (0,0))
 mp:MapV Tryz.prog 9 (TermIn w) wr (w.heap.size+2) k (if k=0 then [] else [(x,u)])
theorem PutI.later {t:Value×Value×Value} {wr:World} (h:PutI t x u w k wr) (hb:Below wr.heap.size wr w'):PutI t x u w k w':=
 ⟨h.below.tr hb,bJ hb h.b0,bJ hb h.b1,bJ hb h.b3,h.mp.move (hb.block _ h.mp.lt) (fun _ _ _ _ h=>h)⟩
theorem Hj (t:Tm) (hfit:fitT t) (x:Str) (hx:x.length<=2000000) (u:Tm) (hfu:fitT u) (ok MZ:Nat->Prop) (w:World) (q uq:TQ) (b off c:Nat) (hq:TermV ok w q.val t) (hu:TermV MZ w uq.val u)
  (c0:w.cell? ⟨b,off,none⟩=some (.string ⟨x.toArray⟩)) (c1:w.cell? ⟨b,off+1,none⟩=some (.bool uq.v)) (c2:w.cell? ⟨b,off+2,none⟩=some (.string uq.n)) (c3:w.cell? ⟨b,off+3,none⟩=some (.slice uq.a uq.l uq.c)) :
  Calls Tryz.prog 168 #[q.val,.slice (some ⟨b,off,none⟩) 1 c] w fun e w'=>(∃p:TQ,e=.returned p.val/\TermV (w.heap.size<=·) w' p.val (le x u t))/\Below w.heap.size w w':=by
 obtain ⟨qv,qn,qa,ql,qc⟩:=q;obtain ⟨uv,un,ua,ul,uc⟩:=uq;obtain ⟨W1,bY⟩:=am ((((w.alloc (.cells #[.bool qv,.string qn,.slice qa ql qc] 43)).alloc (.cells #[.bool false,.string ⟨#[]⟩,.slice none 0 0] 43)).alloc (.map #[] 0)).alloc (.cells #[.map (some (w.heap.size+2))] 146));have hI:PutI (.bool qv,.string qn,.slice qa ql qc) x u w 0 W1:=by
  rw[bY];refine ⟨((cO.alloc (by simp) _).alloc (by simp;omega) _).alloc (by simp;omega) _,?_,?_,ai (by simp),?_⟩
  ·exact (bE _ _ _ (by simp;omega)).trans ((bE _ _ _ (by simp;omega)).trans ((bE _ _ _ (by simp)).trans (ai rfl)))
  ·exact (bE _ _ _ (by simp)).trans ((bE _ _ _ (by simp)).trans (ai (by simp)))
  ·have h:=MapV.made (P:=Tryz.prog) (k:=9) (V:=TermIn w) ((w.alloc (.cells #[.bool qv,.string qn,.slice qa ql qc] 43)).alloc (.cells #[.bool false,.string ⟨#[]⟩,.slice none 0 0] 43));simp only[World.size_alloc]at h;exact h.move (bE _ _ _ (by simp)) (fun _ _ _ _ h=>h)
 obtain ⟨HI,jj,HQ,HU⟩:=eH hI bY hq hu;have HC:=cG c0 c1 c2 c3;have nG:=aG hfit hfu;clear hI bY hq hu c0 c1 c2 c3 hfit hfu;have hmf:∀ (fn:Fn) (first cap:Array Value) (w:World),(Instr.makeFunc fn first cap).run Tryz.prog w=.ok (.func fn first cap) w:=fun _ _ _ _=>rfl;unfold TQ.val;simp only;go_enter Tryz.func168,Tryz.ntmps168;go_wp2;rw[<-jj.o];go_loopw [13] (fun i wr=>∃k:Nat,k<=1/\i=.int .i64 k/\PutI (.bool qv,.string qn,.slice qa ql qc) x u w k wr) (fun i _=>1 - (intOf i).toNat)
 case atStart=>exact ⟨0,by omega,rfl,HI.o⟩
 case round=>
  obtain ⟨k,hk,rfl,hI⟩:=hrel
  by_cases hlt:k<1
  ·obtain rfl:k=0:=by omega
   obtain ⟨d0,d1,d2,d3⟩:=mu hI.below HC.o.1 HC.o.2.1 HC.o.2.2.1 HC.o.2.2.2;obtain ⟨A1,Gs⟩:=am (wr.alloc (.cells #[.string ⟨x.toArray⟩,.bool uv,.string un,.slice ua ul uc] 143));obtain ⟨A2,cC⟩:=am (A1.alloc (.cells #[.bool false,.string ⟨#[]⟩,.slice none 0 0] 43));have b1:=cV Gs;have b2:=cV cC;have hI1:=hI.later b1;have hI2:=hI1.later b2;have x1:=bU Gs;have o0:A1.cell? ⟨wr.heap.size,0,none⟩=some (.string ⟨x.toArray⟩):=ah x1 0;have o1:A1.cell? ⟨wr.heap.size,1,none⟩=some (.bool uv):=ah x1 1;have o2:A1.cell? ⟨wr.heap.size,2,none⟩=some (.string un):=ah x1 2;have o3:A1.cell? ⟨wr.heap.size,3,none⟩=some (.slice ua ul uc):=ah x1 3;obtain ⟨p0,p1,p2,p3⟩:=mu b2 o0 o1 o2 o3;have m1:A1.cell? ⟨w.heap.size+3,0,none⟩=some (.map (some (w.heap.size+2))):=ah hI1.b3 0;have m2:=aa b2 m1;have hr:(Instr.lookup 146 (.map (some (w.heap.size+2))) (.string ⟨x.toArray⟩) true).run Tryz.prog A1=.ok (.tuple #[.agg #[.bool false,.string ⟨#[]⟩,.slice none 0 0],.bool false]) A1:=by
    rcases hI1.mp.look Tryz.underlying9 Tryz.underlying146 jT hx with ⟨_,hr⟩ | ⟨u',v,hs,_⟩
    ·exact (hr A1 rfl).1
    ·simp[getB]at hs
   obtain ⟨w4,cR,hm4,wg,Fg⟩:=hI2.mp.store Tryz.underlying9 Tryz.underlying146 (by omega) hx (v:=.agg #[.bool uv,.string un,.slice ua ul uc]) (a:=u) (l':=[(x,u)]) (V':=TermIn w) ⟨⟨uv,un,ua,ul,uc⟩,rfl,HU.o.any⟩ (fun _ _ _ _ _ h=>h) (fun y=>by
    by_cases e:y=x
    ·subst e;simp[getB]
    ·have e2:¬x=y:=fun h=>e h.symm;simp[getB,e,e2])
   have lK:∀ b,b<A2.heap.size->b≠w.heap.size+2->w4.heap[b]?=A2.heap[b]?:=fun b hb jZ=>wg.block b hb (fun h=>by cases h;exact jZ rfl);have hI4:PutI (.bool qv,.string qn,.slice qa ql qc) x u w 1 w4:=⟨⟨wg.os.trans hI2.below.os,wg.tape.trans hI2.below.tape,wg.output.trans hI2.below.output,by have:=hI2.below.size;omega,fun b hb=>(lK b (bH hb hI2.below.size) (by omega)).trans (hI2.below.block b hb)⟩,
    (lK _ (bz hI2.b0) (by omega)).trans hI2.b0,(lK _ (bz hI2.b1) (by omega)).trans hI2.b1,(lK _ (bz hI2.b3) (by omega)).trans hI2.b3,by simpa using hm4⟩
   have HI4:=ac hI4;rw[cC]at m2 p0 p1 p2 p3 cR;rw[Gs]at hr cR m1 m2 o0 o1 o2 o3 p0 p1 p2 p3;clear hI hI1 hI2 hI4 hm4 wg Fg lK x1 b1 b2 Gs cC;go_wp2;go_roundw
   case rel=>exact ⟨1,by omega,by go_num,HI4.o⟩
   case measure=>simp[intOf]
  ·obtain rfl:k=1:=by omega
   have C:=Ax 232 #[.pointer (some ⟨w.heap.size+3,0,none⟩)] Hf _ wr (MT w wr hI.below (w.heap.size+3) (w.heap.size+2) 1 [(x,u)] (ah hI.b3 0) (by simpa using hI.mp)) (fun n u' h=>by
    have gu:u=u':=by
     simp only[getB]at h;split at h
     ·injection h
     ·cases h
    subst gu;exact fun ok W q hq=>MS _ nG.o.2 ok W q hq) t nG.o.1 ok wr ⟨qv,qn,qa,ql,qc⟩ (aj _ _) (HQ.o.later hI.below)
   have Hk:(fun n=>getB [(x,u)] n)=(fun n=>if n == x then some u else none):=by
    funext n
    simp only[getB]
    by_cases e:x=n
    ·subst e;simp
    ·have e2:¬n=x:=fun h=>e h.symm;simp[e,e2]
   rw[Hk]at C;simp only[TQ.val]at C;obtain ⟨e0,e1,e2⟩:=lQ hI.b0;obtain ⟨HC,HY⟩:=aW C hI;clear C hI Hk;go_wp2_with (go_at_call 154;refine HC.o.mono ?_;rintro e w5 ⟨⟨p5,rfl,pS⟩,bm⟩;obtain ⟨pv,pn,pa,pl,pc⟩:=p5;simp only at pS ⊢;have x1:=(HY.o.later bm).b1;have e0:=ah x1 0;have e1:=ah x1 1;have e2:=ah x1 2;have z0:=ae x1 0;have z1:=ae x1 1;have z2:=ae x1 2;have H5:=cG pS (HY.o.below.tr bm) x1 bm.size;clear bm pS x1);have hz:=HY.o.below.size;have SB:=(bz HY.o.b1);exact pm69
end
theorem oZ {t:List Str} (h:t.length<10 ^ 14):(c_ t).length<=2000000:=by
 obtain ⟨j,h1,pN,he,_⟩:=qI t (by omega);rw[he];unfold fF;have:=zz 20 j 15 (by omega) (by omega);simp;omega
mutual
theorem SC {x:Str} (hu:j5 p u=true):∀ t,j5 p t=true->j5 p (le x u t)=true
 | .mk v n a,h=>by
  simp only[j5,af,bp]at h;have ih:=AI (x:=x) hu a h.2;unfold eu at ih;unfold le at ih ⊢;rw[gp]
  cases v with
  | false=>
   simp only[bW,if_false,j5,af,bp];exact ⟨h.1,by rw[ib];exact ih⟩
  | true=>
   simp only[if_true]
   by_cases hx:(n == x)=true
   ·simp only[hx,if_true];exact hu
   ·have hx:(n == x)=false:=by simpa using hx
    simp only[hx,bW,if_false,j5,af,bp];exact ⟨h.1,by rw[ib];exact ih⟩
theorem AI {x:Str} (hu:j5 p u=true):∀ l,nmTs p l=true->nmTs p (eu x u l)=true
 | [],_=>by simp[eu,nmTs]
 | t :: l,h=>by
  simp only[nmTs,af]at h;have h1:=SC (x:=x) hu t h.1;have h2:=AI (x:=x) hu l h.2;unfold eu at h2 ⊢;simp only[cz,nmTs,af];exact ⟨h1,h2⟩
end
theorem wV {y:Str} (h:y.length<=2000000):j5 2000000 (ao y)=true:=by simp[ao,j5,nmTs,h]
theorem o6:∀ (k:Nat) (f:Fm) (x:Str) (u:Tm),gS f=true->qone f=true->depthF f<=k->nodesF f+nodesT u<10 ^ 10->ls 2000000 f=true->j5 2000000 u=true->ls 2000000 (eW k x u f)=true
 | 0,f,x,u,hw,hq,hd,hs,hf,hu=>by have:=jS f;omega
 | k+1,.mk o n a s,x,u,hw,hq1,hd,hs,hf,hu=>by
  have EW:=hf;have pp112c:=();exact pm112
theorem J2 {a b:List Str} (ha:a.length<10 ^ 18) (hb:b.length<10 ^ 18) (ha2:(dI a).length<10 ^ 18) (bB:(dI b).length<10 ^ 18):c_ (dI a ++ dI b)=c_ (a ++ b):=
 D4 (by simp;omega) (by simp;omega) (fun x=>by simp[dQ])
theorem fO (l:List Str):(dI l).length<=l.length:=by
 unfold dI
 induction l with
 | nil=>simp
 | cons x l ih=>
  have h:∀ (m:List Str),(sR x m).length<=m.length+1:=fun m=>by
   induction m with
   | nil=>simp[sR]
   | cons y m ih2=>
    unfold sR;split
    ·simp
    ·split
     ·simp
     ·simp;omega
  simp only[List.foldr_cons,eR];have:=h (List.foldr sR [] l);omega
theorem lZ (l:List Str) (x:Str):(dI l).contains x=l.contains x:=by
 rw[gV];simp[dQ]
section
attribute [local go_sem] Oper.semAt_some
abbrev frV (c0 c1:Nat):Value:=.func (.func 213) #[] #[.pointer (some ⟨c0,0,none⟩),.pointer (some ⟨c1,0,none⟩)]
def FrG (M:Nat->Prop) (c0 c1:Nat) (J:List Str->World->Prop) (xs:List Str):Prop:=∀ (pre:List Str) (x:Str) (W1:World),J pre W1->(pre ++ [x]) <+: xs →
 Calls Tryz.prog 213 #[.string ⟨x.toArray⟩,.pointer (some ⟨c0,0,none⟩),.pointer (some ⟨c1,0,none⟩)] W1 fun e W'=>e=.returned (.bool true)/\J (pre ++ [x]) W'/\Kp M W1 W'
theorem AJ (c0 c1:Nat):∀ (t:Tm),fitT t->∀ (M:Nat->Prop) (B:Nat) (J:List Str->World->Prop) (xs pre:List Str) (W:World) (q:TQ),(∀ b,M b->b<W.heap.size)->(∀ s,Abides W.heap.size (J s))->FrG M c0 c1 J xs->TermV (fun b=>b<B/\¬M b) W q.val t->(pre ++ aC t) <+: xs->J pre W →
  Calls Tryz.prog 214 #[q.val,frV c0 c1] W fun e W'=>e=.returned (.bool true)/\J (pre ++ aC t) W'/\Kp M W W':=by
 intro t
 induction t using Tm.ind with
 | h v n a ih=>
  intro hfit M B J xs pre W q hM hJ hG hq dx hj;obtain ⟨qv,qn,qa,ql,qc⟩:=q;obtain ⟨sa,hs,bL⟩:=aP.1 hq;have pp40g:=();exact pm40
end
theorem Wj {P:Program} {k:TypeId} {α β:Type} {V:Value->α->Prop} {V':Value->β->Prop} {n':Nat} {l:List (Str×α)} {l':List (Str×β)} (h:W.grownBy W' (some m)) (hm:MapV P k V W m n l) (hm':MapV P k V' W' m n' l') (hB:B<=m):Nw B W W':=by
 obtain ⟨D,⟨es,z9,h1,_⟩,_⟩:=hm;obtain ⟨D',⟨St,V0,VZ,_⟩,_⟩:=hm';refine ⟨h.os,h.tape,h.output,h.size,fun b hb=>?_⟩
 by_cases e:b=m
 ·subst e;exact .inr ⟨hB,⟨_,h1,rfl⟩,_,VZ,rfl⟩
 ·exact .inl (h.block b hb (fun h=>by cases h;exact e rfl))
def BoundW (W:World) (m n:Nat) (bs:List Str):Prop:=∃l:List (Str×Nat),MapV Tryz.prog 9 (fun v (c:Nat)=>v=.int .i64 (c:Int)) W m n l/\∀ x,(getB l x).getD 0=bs.count x
theorem BoundW.lt (h:BoundW W m n bs):m<W.heap.size:=by obtain ⟨l,h,_⟩:=h;exact h.lt
theorem BoundW.same (h:BoundW W m n bs) (hb:W'.heap[m]?=W.heap[m]?):BoundW W' m n bs:=by
 obtain ⟨l,h,hx⟩:=h;exact ⟨l,h.move hb (fun _ _ _ _ h=>h),hx⟩
theorem BoundW.made (w:World):BoundW (w.alloc (.map #[] 0)) w.heap.size 0 []:=⟨[],MapV.made w,fun x=>by simp[getB]⟩
theorem BoundW.look (h:BoundW W m n bs) (hx:x.length<=2000000) :
  ∀ W':World,W'.heap[m]?=W.heap[m]?->(Instr.lookup 198 (.map (some m)) (.string ⟨x.toArray⟩) false).run Tryz.prog W'=.ok (.int .i64 (bs.count x:Int)) W':=by
 obtain ⟨l,h,hl⟩:=h;intro W' hW;have hz:∀ w,(zeroValue 3).run Tryz.prog w=.ok (.int .i64 0) w:=fun w=>by kernel_rfl
 have hc:=hl x;rcases h.look Tryz.underlying9 Tryz.underlying198 hz hx with ⟨hn,hr⟩ | ⟨a,v,hs,rfl,hr⟩
 ·rw[hn]at hc;rw[<-hc];exact (hr W' hW).2
 ·rw[hs]at hc;rw[<-hc];exact (hr W' hW).2
theorem BoundW.store {bs':List Str} (h:BoundW W m n bs) (hn:n<4000000) (hx:x.length<=2000000) (hb:∀ y,y≠x->bs'.count y=bs.count y) :
  ∃w',(Instr.mapUpdate 198 (.map (some m)) (.string ⟨x.toArray⟩) (.int .i64 (bs'.count x:Int))).run Tryz.prog W=.ok () w'/\BoundW w' m (n+1) bs'/\W.grownBy w' (some m)/\w'.heap.size=W.heap.size/\∀ B,B<=m->Nw B W w':=by
 obtain ⟨l,h,hl⟩:=h;obtain ⟨w',hr,hm,hg,hs⟩:=h.store Tryz.underlying9 Tryz.underlying198 hn hx (v:=.int .i64 (bs'.count x:Int)) (a:=bs'.count x) (l':=(x,bs'.count x) :: l) (V':=fun v (c:Nat)=>v=.int .i64 (c:Int)) rfl (fun _ _ _ _ _ h=>h) (fun y=>by
  rw[getB]
  by_cases e:y=x
  ·subst e;simp
  ·rw[ak e];rw[ak (by simpa using fun h=>e h.symm)])
 refine ⟨w',hr,⟨_,hm,fun y=>?_⟩,hg,hs,fun B hB=>Wj hg h hm hB⟩;rw[getB]
 by_cases e:y=x
 ·subst e;simp
 ·rw[ak (by simpa using fun h=>e h.symm),hl y,hb y e]
