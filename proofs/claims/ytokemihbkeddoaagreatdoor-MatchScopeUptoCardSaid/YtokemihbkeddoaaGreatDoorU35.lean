/-
What structs,loads,stores and pure operations leave.
Boxes that live from region to region,and the regions' laws for functions of that kind.
-/
import Derived.Test.YtokemihbkeddoaaGreatDoorU00
import Derived.Test.YtokemihbkeddoaaGreatDoorU34
namespace Go.Proofs.YtokemihbkeddoaaGreatDoor
open Go Go.RowKit Lib
set_option maxRecDepth 100000
set_option maxHeartbeats 64000000
section
attribute [local go_sem] Oper.semAt_some
section
variable {ops:Array Oper} {Q:Exit->Act->World->Prop} {a0:Act} {l:List Fact} {kA kS k:Nat} {M:Nat->Prop} {w0:World} {md:Region.Mode} {L:Nat->Prop}
abbrev ptr (b:Nat):Value:=.pointer (some ⟨b,0,none⟩)
theorem N_ (n:Str) (f:Fm) (x:Nat) {d:Nat} {ty:TypeId} {pos:String} {bK:Array Edge} {g:Option (Nat×Bool)} (hL:∀ b,w0.heap.size<=b->L b) (hx:Dep md ops a0 l kA kS M w0 k ⟨some d,.buildSlice 23 1 #[(0,.tmp x)],ty,pos,bK,g⟩ x (FBG L n f)) (ho:ops[k]?=some ⟨some d,.buildSlice 23 1 #[(0,.tmp x)],ty,pos,bK,g⟩:=by rfl) (hw:Wt md ops a0 l kA kS M w0 k ⟨some d,.buildSlice 23 1 #[(0,.tmp x)],ty,pos,bK,g⟩:=by exact fun _ _ _ _=>rfl) (hp:ie l k=UA L [(n,f)]:=by rfl):dl md ops Q a0 l kA kS M w0 k:=
 rh hw ho rfl (fun a γ w aW=>by
  obtain ⟨vx,ex,q,rfl,hq⟩:=hx a γ w aW
  refine ⟨.slice (some ⟨w.heap.size,0,none⟩) 1 1,#[.string ⟨n.toArray⟩,.int .u8 q.o,.string q.n,.slice q.a q.l q.c,.slice q.b q.m q.e],40,by go_simp,?_⟩
  rw[hp]
  have hx:=aj (w:=w) (o:=.cells #[.string ⟨n.toArray⟩,.int .u8 q.o,.string q.n,.slice q.a q.l q.c,.slice q.b q.m q.e] 40) rfl
  have C:=fun i=>aL hx i
  refine ⟨_,_,rfl,some ⟨w.heap.size,0,none⟩,1,fun _=>q,rfl,Nat.le_refl _,.inr ⟨w.heap.size,0,rfl,okB.here hL aW.inv _,fun j hj=>?_⟩,fun j hj=>?_⟩
  ·obtain rfl:j=0:=by simpa using hj
   exact ⟨(C 0).trans rfl,(C 1).trans rfl,(C 2).trans rfl,(C 3).trans rfl,(C 4).trans rfl⟩
  ·obtain rfl:j=0:=by simpa using hj
   exact hq.move (kn _).holds)
theorem Oa (n:Str) (f:Tm) (x:Nat) {d:Nat} {ty:TypeId} {pos:String} {bK:Array Edge} {g:Option (Nat×Bool)} (hL:∀ b,w0.heap.size<=b->L b) (hx:Dep md ops a0 l kA kS M w0 k ⟨some d,.buildSlice 24 1 #[(0,.tmp x)],ty,pos,bK,g⟩ x (TBG L n f)) (ho:ops[k]?=some ⟨some d,.buildSlice 24 1 #[(0,.tmp x)],ty,pos,bK,g⟩:=by rfl) (hw:Wt md ops a0 l kA kS M w0 k ⟨some d,.buildSlice 24 1 #[(0,.tmp x)],ty,pos,bK,g⟩:=by exact fun _ _ _ _=>rfl) (hp:ie l k=UB L [(n,f)]:=by rfl):dl md ops Q a0 l kA kS M w0 k:=
 rh hw ho rfl (fun a γ w aW=>by
  obtain ⟨vx,ex,q,rfl,hq⟩:=hx a γ w aW
  refine ⟨.slice (some ⟨w.heap.size,0,none⟩) 1 1,#[.string ⟨n.toArray⟩,.bool q.v,.string q.n,.slice q.a q.l q.c],47,by go_simp,?_⟩
  rw[hp]
  have hx:=aj (w:=w) (o:=.cells #[.string ⟨n.toArray⟩,.bool q.v,.string q.n,.slice q.a q.l q.c] 47) rfl
  have C:=fun i=>aL hx i
  refine ⟨_,_,rfl,some ⟨w.heap.size,0,none⟩,1,fun _=>q,rfl,Nat.le_refl _,.inr ⟨w.heap.size,0,rfl,okB.here hL aW.inv _,fun j hj=>?_⟩,fun j hj=>?_⟩
  ·obtain rfl:j=0:=by simpa using hj
   exact ⟨(C 0).trans rfl,(C 1).trans rfl,(C 2).trans rfl,(C 3).trans rfl⟩
  ·obtain rfl:j=0:=by simpa using hj
   exact hq.move (kn _).holds)
theorem pG (f f2:Fm) (x:Nat) (y:Nat) {d:Nat} {ty:TypeId} {pos:String} {bK:Array Edge} {g:Option (Nat×Bool)}  (hx:Dep md ops a0 l kA kS M w0 k ⟨some d,.build 50 #[(0,.tmp x),(1,.tmp y)],ty,pos,bK,g⟩ x (FormG L f)) (hy:Dep md ops a0 l kA kS M w0 k ⟨some d,.build 50 #[(0,.tmp x),(1,.tmp y)],ty,pos,bK,g⟩ y (FormG L f2)) (ho:ops[k]?=some ⟨some d,.build 50 #[(0,.tmp x),(1,.tmp y)],ty,pos,bK,g⟩:=by rfl) (hw:Wt md ops a0 l kA kS M w0 k ⟨some d,.build 50 #[(0,.tmp x),(1,.tmp y)],ty,pos,bK,g⟩:=by exact fun _ _ _ _=>rfl) (hp:ie l k=Jl L f f2:=by rfl):dl md ops Q a0 l kA kS M w0 k:=
 eV hw ho rfl (fun a γ w aW=>by
  obtain ⟨vx,ex,q,rfl,hq⟩:=hx a γ w aW
  obtain ⟨vy,ey,r,rfl,hr⟩:=hy a γ w aW
  exact ⟨.agg #[.int .u8 q.o,.string q.n,.slice q.a q.l q.c,.slice q.b q.m q.e,.int .u8 r.o,.string r.n,.slice r.a r.l r.c,.slice r.b r.m r.e],by simp only[FQ.val]at ex ey;go_simp,by rw[hp];exact ⟨q,r,rfl,hq,hr⟩⟩)
theorem Y9 (n:Str) (f:Fm) (x:Nat) {d:Nat} {ty:TypeId} {pos:String} {bK:Array Edge} {g:Option (Nat×Bool)}  (hx:Dep md ops a0 l kA kS M w0 k ⟨some d,.build 40 #[(0,.const (.string ⟨n.toArray⟩)),(1,.tmp x)],ty,pos,bK,g⟩ x (FormG L f)) (ho:ops[k]?=some ⟨some d,.build 40 #[(0,.const (.string ⟨n.toArray⟩)),(1,.tmp x)],ty,pos,bK,g⟩:=by rfl) (hw:Wt md ops a0 l kA kS M w0 k ⟨some d,.build 40 #[(0,.const (.string ⟨n.toArray⟩)),(1,.tmp x)],ty,pos,bK,g⟩:=by exact fun _ _ _ _=>rfl) (hp:ie l k=FBG L n f:=by rfl):dl md ops Q a0 l kA kS M w0 k:=
 eV hw ho rfl (fun a γ w aW=>by
  obtain ⟨vx,ex,q,rfl,hq⟩:=hx a γ w aW
  exact ⟨.agg #[.string ⟨n.toArray⟩,.int .u8 q.o,.string q.n,.slice q.a q.l q.c,.slice q.b q.m q.e],by simp only[FQ.val]at ex;go_simp,by rw[hp];exact ⟨q,rfl,hq⟩⟩)
theorem Y' (n:Str) (f:Tm) (x:Nat) {d:Nat} {ty:TypeId} {pos:String} {bK:Array Edge} {g:Option (Nat×Bool)}  (hx:Dep md ops a0 l kA kS M w0 k ⟨some d,.build 47 #[(0,.const (.string ⟨n.toArray⟩)),(1,.tmp x)],ty,pos,bK,g⟩ x (TermG L f)) (ho:ops[k]?=some ⟨some d,.build 47 #[(0,.const (.string ⟨n.toArray⟩)),(1,.tmp x)],ty,pos,bK,g⟩:=by rfl) (hw:Wt md ops a0 l kA kS M w0 k ⟨some d,.build 47 #[(0,.const (.string ⟨n.toArray⟩)),(1,.tmp x)],ty,pos,bK,g⟩:=by exact fun _ _ _ _=>rfl) (hp:ie l k=TBG L n f:=by rfl):dl md ops Q a0 l kA kS M w0 k:=
 eV hw ho rfl (fun a γ w aW=>by
  obtain ⟨vx,ex,q,rfl,hq⟩:=hx a γ w aW
  exact ⟨.agg #[.string ⟨n.toArray⟩,.bool q.v,.string q.n,.slice q.a q.l q.c],by simp only[TQ.val]at ex;go_simp,by rw[hp];exact ⟨q,rfl,hq⟩⟩)
theorem QC (fs:List (Str×Fm)) (ts:List (Str×Tm)) (x:Nat) (y:Nat) {d:Nat} {ty:TypeId} {pos:String} {bK:Array Edge} {g:Option (Nat×Bool)}  (hx:Dep md ops a0 l kA kS M w0 k ⟨some d,.build 26 #[(0,.tmp x),(1,.tmp y)],ty,pos,bK,g⟩ x (UA L fs)) (hy:Dep md ops a0 l kA kS M w0 k ⟨some d,.build 26 #[(0,.tmp x),(1,.tmp y)],ty,pos,bK,g⟩ y (UB L ts)) (ho:ops[k]?=some ⟨some d,.build 26 #[(0,.tmp x),(1,.tmp y)],ty,pos,bK,g⟩:=by rfl) (hw:Wt md ops a0 l kA kS M w0 k ⟨some d,.build 26 #[(0,.tmp x),(1,.tmp y)],ty,pos,bK,g⟩:=by exact fun _ _ _ _=>rfl) (hp:ie l k=BindG L ⟨fs,ts⟩:=by rfl):dl md ops Q a0 l kA kS M w0 k:=
 eV hw ho rfl (fun a γ w aW=>by
  obtain ⟨vx,ex,ax,cx,rfl,hx⟩:=hx a γ w aW
  obtain ⟨vy,ey,ay,cy,rfl,hy⟩:=hy a γ w aW
  exact ⟨BQ.val ⟨ax,fs.length,cx,ay,ts.length,cy⟩,by simp only[BQ.val];go_simp,by rw[hp];exact ⟨⟨ax,fs.length,cx,ay,ts.length,cy⟩,rfl,hx,hy⟩⟩)
theorem wH   {d:Nat} {ty:TypeId} {pos:String} {bK:Array Edge} {g:Option (Nat×Bool)}   (ho:ops[k]?=some ⟨some d,.build 26 #[],ty,pos,bK,g⟩:=by rfl) (hw:Wt md ops a0 l kA kS M w0 k ⟨some d,.build 26 #[],ty,pos,bK,g⟩:=by exact fun _ _ _ _=>rfl) (hp:ie l k=BindG L ⟨[],[]⟩:=by rfl):dl md ops Q a0 l kA kS M w0 k:=
 eV hw ho rfl (fun a γ w aW=>⟨BQ.val ⟨none,0,0,none,0,0⟩,by simp only[BQ.val];go_simp,by rw[hp];exact ⟨⟨none,0,0,none,0,0⟩,rfl,mN⟩⟩)
theorem cd (q:FQ) (f:Fm) (x:Nat) {d:Nat} {ty:TypeId} {pos:String} {bK:Array Edge} {g:Option (Nat×Bool)} {b:Nat} (hb:w0.heap[b]?=some (.cells #[.int .u8 q.o,.string q.n,.slice q.a q.l q.c,.slice q.b q.m q.e] 36 (0,0))) (hM:¬M b) (hv:FormV (Lt L M w0) w0 q.val f) (hx:Dep md ops a0 l kA kS M w0 k ⟨some d,.load 36 (.tmp x),ty,pos,bK,g⟩ x (fun v _ _=>v=ptr b)) (ho:ops[k]?=some ⟨some d,.load 36 (.tmp x),ty,pos,bK,g⟩:=by rfl) (hw:Wt md ops a0 l kA kS M w0 k ⟨some d,.load 36 (.tmp x),ty,pos,bK,g⟩:=by exact fun _ _ _ _=>rfl) (hp:ie l k=FormG L f:=by rfl):dl md ops Q a0 l kA kS M w0 k:=
 eV hw ho rfl (fun a γ w aW=>by
  obtain ⟨vx,ex,rfl⟩:=hx a γ w aW
  have hk:=aW.inv.1
  have C:=fun i v (h:w0.cell? ⟨b,i,none⟩=some v)=>hk.cell (a:=⟨b,i,none⟩) hM h
  have c0:=C 0 _ (ai hb 0)
  have c1:=C 1 _ (ai hb 1)
  have c2:=C 2 _ (ai hb 2)
  have c3:=C 3 _ (ai hb 3)
  exact ⟨FQ.val q,by simp only[FQ.val];go_simp,by rw[hp];exact ⟨q,rfl,hv.move (okB.old aW.inv)⟩⟩)
theorem Ob (q:TQ) (f:Tm) (x:Nat) {d:Nat} {ty:TypeId} {pos:String} {bK:Array Edge} {g:Option (Nat×Bool)} {b:Nat} (hb:w0.heap[b]?=some (.cells #[.bool q.v,.string q.n,.slice q.a q.l q.c] 43 (0,0))) (hM:¬M b) (hv:TermV (Lt L M w0) w0 q.val f) (hx:Dep md ops a0 l kA kS M w0 k ⟨some d,.load 43 (.tmp x),ty,pos,bK,g⟩ x (fun v _ _=>v=ptr b)) (ho:ops[k]?=some ⟨some d,.load 43 (.tmp x),ty,pos,bK,g⟩:=by rfl) (hw:Wt md ops a0 l kA kS M w0 k ⟨some d,.load 43 (.tmp x),ty,pos,bK,g⟩:=by exact fun _ _ _ _=>rfl) (hp:ie l k=TermG L f:=by rfl):dl md ops Q a0 l kA kS M w0 k:=
 eV hw ho rfl (fun a γ w aW=>by
  obtain ⟨vx,ex,rfl⟩:=hx a γ w aW
  have hk:=aW.inv.1
  have C:=fun i v (h:w0.cell? ⟨b,i,none⟩=some v)=>hk.cell (a:=⟨b,i,none⟩) hM h
  have c0:=C 0 _ (ai hb 0)
  have c1:=C 1 _ (ai hb 1)
  have c2:=C 2 _ (ai hb 2)
  exact ⟨TQ.val q,by simp only[TQ.val];go_simp,by rw[hp];exact ⟨q,rfl,hv.move (okB.old aW.inv)⟩⟩)
theorem fV (q:BQ) (f:Bd) (x:Nat) {d:Nat} {ty:TypeId} {pos:String} {bK:Array Edge} {g:Option (Nat×Bool)} {b:Nat} (hb:w0.heap[b]?=some (.cells #[.slice q.a q.l q.c,.slice q.b q.m q.e] 26 (0,0))) (hM:¬M b) (hv:BindV (Lt L M w0) w0 q f) (hx:Dep md ops a0 l kA kS M w0 k ⟨some d,.load 26 (.tmp x),ty,pos,bK,g⟩ x (fun v _ _=>v=ptr b)) (ho:ops[k]?=some ⟨some d,.load 26 (.tmp x),ty,pos,bK,g⟩:=by rfl) (hw:Wt md ops a0 l kA kS M w0 k ⟨some d,.load 26 (.tmp x),ty,pos,bK,g⟩:=by exact fun _ _ _ _=>rfl) (hp:ie l k=BindG L f:=by rfl):dl md ops Q a0 l kA kS M w0 k:=
 eV hw ho rfl (fun a γ w aW=>by
  obtain ⟨vx,ex,rfl⟩:=hx a γ w aW
  have hk:=aW.inv.1
  have C:=fun i v (h:w0.cell? ⟨b,i,none⟩=some v)=>hk.cell (a:=⟨b,i,none⟩) hM h
  have c0:=C 0 _ (ai hb 0)
  have c1:=C 1 _ (ai hb 1)
  exact ⟨BQ.val q,by simp only[BQ.val];go_simp,by rw[hp];exact ⟨q,rfl,hv.move (okB.old aW.inv)⟩⟩)
theorem au (F:Fact) (x:Nat) {d:Nat} {ty:TypeId} {pos:String} {bK:Array Edge} {g:Option (Nat×Bool)}  (hx:Dep md ops a0 l kA kS M w0 k ⟨some d,.move (.tmp x),ty,pos,bK,g⟩ x (F.p)) (ho:ops[k]?=some ⟨some d,.move (.tmp x),ty,pos,bK,g⟩:=by rfl) (hw:Wt md ops a0 l kA kS M w0 k ⟨some d,.move (.tmp x),ty,pos,bK,g⟩:=by exact fun _ _ _ _=>rfl) (hp:ie l k=F.p:=by rfl):dl md ops Q a0 l kA kS M w0 k:=
 eV hw ho rfl (fun a γ w aW=>by
  obtain ⟨vx,ex,hf⟩:=hx a γ w aW
  exact ⟨vx,by go_simp,by rw[hp];exact hf⟩)
theorem bF (F:Fact) (x:Nat) {d:Nat} {ty:TypeId} {pos:String} {bK:Array Edge} {g:Option (Nat×Bool)}  (hx:Dep md ops a0 l kA kS M w0 k ⟨some d,.assign (.tmp x),ty,pos,bK,g⟩ x (F.p)) (ho:ops[k]?=some ⟨some d,.assign (.tmp x),ty,pos,bK,g⟩:=by rfl) (hw:Wt md ops a0 l kA kS M w0 k ⟨some d,.assign (.tmp x),ty,pos,bK,g⟩:=by exact fun _ _ _ _=>rfl) (hp:ie l k=F.p:=by rfl):dl md ops Q a0 l kA kS M w0 k:=
 eV hw ho rfl (fun a γ w aW=>by
  obtain ⟨vx,ex,hf⟩:=hx a γ w aW
  exact ⟨vx,by go_simp,by rw[hp];exact hf⟩)
theorem gq (F:Fact) (r:List Value) (x:Nat) {d:Nat} {ty:TypeId} {pos:String} {bK:Array Edge} {g:Option (Nat×Bool)}  (hx:Dep md ops a0 l kA kS M w0 k ⟨some d,.extract (.tmp x) 0,ty,pos,bK,g⟩ x ((d9 F r).p)) (ho:ops[k]?=some ⟨some d,.extract (.tmp x) 0,ty,pos,bK,g⟩:=by rfl) (hw:Wt md ops a0 l kA kS M w0 k ⟨some d,.extract (.tmp x) 0,ty,pos,bK,g⟩:=by exact fun _ _ _ _=>rfl) (hp:ie l k=F.p:=by rfl):dl md ops Q a0 l kA kS M w0 k:=
 eV hw ho rfl (fun a γ w aW=>by
  obtain ⟨vx,ex,u,rfl,hf⟩:=hx a γ w aW
  exact ⟨u,by go_simp,by rw[hp];exact hf⟩)
theorem gD (F:Fact) (r:List Value) (i:Nat) (v:Value) (hv:r[i]?=some v) (x:Nat) {d:Nat} {ty:TypeId} {pos:String} {bK:Array Edge} {g:Option (Nat×Bool)}  (hx:Dep md ops a0 l kA kS M w0 k ⟨some d,.extract (.tmp x) (i+1),ty,pos,bK,g⟩ x ((d9 F r).p)) (ho:ops[k]?=some ⟨some d,.extract (.tmp x) (i+1),ty,pos,bK,g⟩:=by rfl) (hw:Wt md ops a0 l kA kS M w0 k ⟨some d,.extract (.tmp x) (i+1),ty,pos,bK,g⟩:=by exact fun _ _ _ _=>rfl) (hp:ie l k=fun u _ _=>u=v:=by rfl):dl md ops Q a0 l kA kS M w0 k:=
 eV hw ho rfl (fun a γ w aW=>by
  obtain ⟨vx,ex,u,rfl,hf⟩:=hx a γ w aW
  exact ⟨v,by go_simp,by rw[hp]⟩)
theorem iJ (hk:k=kA)  {d:Nat} {ty:TypeId} {pos:String} {bK:Array Edge} {g:Option (Nat×Bool)}   (ho:ops[k]?=some ⟨some d,.alloc 36,ty,pos,bK,g⟩:=by rfl) (hw:Wt md ops a0 l kA kS M w0 k ⟨some d,.alloc 36,ty,pos,bK,g⟩:=by exact fun _ _ _ _=>rfl) (hp:ie l k=(lO #[.int .u8 0,.string ⟨#[]⟩,.slice none 0 0,.slice none 0 0] 36).p:=by rfl):dl md ops Q a0 l kA kS M w0 k:=
 c_ ho rfl (fun _=>trivial) rfl (fun a γ w aW=>⟨hw a γ w aW,ptr w.heap.size,(some w.heap.size,false),w.alloc (.cells #[.int .u8 0,.string ⟨#[]⟩,.slice none 0 0,.slice none 0 0] 36),by go_simp,rR _ (aW.psi.1 hk),hk ▸ pu,by rw[hp];exact rS⟩)
theorem KY (hk:k=kA)  {d:Nat} {ty:TypeId} {pos:String} {bK:Array Edge} {g:Option (Nat×Bool)}   (ho:ops[k]?=some ⟨some d,.alloc 43,ty,pos,bK,g⟩:=by rfl) (hw:Wt md ops a0 l kA kS M w0 k ⟨some d,.alloc 43,ty,pos,bK,g⟩:=by exact fun _ _ _ _=>rfl) (hp:ie l k=(lO #[.bool false,.string ⟨#[]⟩,.slice none 0 0] 43).p:=by rfl):dl md ops Q a0 l kA kS M w0 k:=
 c_ ho rfl (fun _=>trivial) rfl (fun a γ w aW=>⟨hw a γ w aW,ptr w.heap.size,(some w.heap.size,false),w.alloc (.cells #[.bool false,.string ⟨#[]⟩,.slice none 0 0] 43),by go_simp,rR _ (aW.psi.1 hk),hk ▸ pu,by rw[hp];exact rS⟩)
theorem jI (hk:k=kA)  {d:Nat} {ty:TypeId} {pos:String} {bK:Array Edge} {g:Option (Nat×Bool)}   (ho:ops[k]?=some ⟨some d,.alloc 26,ty,pos,bK,g⟩:=by rfl) (hw:Wt md ops a0 l kA kS M w0 k ⟨some d,.alloc 26,ty,pos,bK,g⟩:=by exact fun _ _ _ _=>rfl) (hp:ie l k=(lO #[.slice none 0 0,.slice none 0 0] 26).p:=by rfl):dl md ops Q a0 l kA kS M w0 k:=
 c_ ho rfl (fun _=>trivial) rfl (fun a γ w aW=>⟨hw a γ w aW,ptr w.heap.size,(some w.heap.size,false),w.alloc (.cells #[.slice none 0 0,.slice none 0 0] 26),by go_simp,rR _ (aW.psi.1 hk),hk ▸ pu,by rw[hp];exact rS⟩)
theorem Y_ {W:World} {b:Nat} {a0 a1 v0 v1:Value} {T:TypeId} (h:W.heap[b]?=some (.cells #[a0,a1] T (0,0))):((W.setCell ⟨b,0,none⟩ v0).setCell ⟨b,1,none⟩ v1).heap[b]?=some (.cells #[v0,v1] T (0,0)):=by
 have h0:=aV (F:=0) h v0
 exact (aV (F:=1) h0 v1).trans rfl
theorem Jp {W:World} {b:Nat} {v0 v1:Value}:Kp (fun c=>c=b) W ((W.setCell ⟨b,0,none⟩ v0).setCell ⟨b,1,none⟩ v1):=
 ⟨rfl,rfl,rfl,by simp,fun c _ hc=>(Below.heap_setCell _ _ _ _ (by simpa using hc)).trans (Below.heap_setCell _ _ _ _ (by simpa using hc))⟩
theorem iK (f:Fm) (x:Nat) (y:Nat) {ty:TypeId} {pos:String} {bK:Array Edge} {g:Option (Nat×Bool)} (hk:k=kS) (hx:Dep md ops a0 l kA kS M w0 k ⟨none,.store 36 (.tmp x) (.tmp y),ty,pos,bK,g⟩ x (BoxG #[.int .u8 0,.string ⟨#[]⟩,.slice none 0 0,.slice none 0 0] 36)) (hy:Dep md ops a0 l kA kS M w0 k ⟨none,.store 36 (.tmp x) (.tmp y),ty,pos,bK,g⟩ y (FormG L f)) (ho:ops[k]?=some ⟨none,.store 36 (.tmp x) (.tmp y),ty,pos,bK,g⟩:=by rfl) (hw:Wt md ops a0 l kA kS M w0 k ⟨none,.store 36 (.tmp x) (.tmp y),ty,pos,bK,g⟩:=by exact fun _ _ _ _=>rfl) (hp:ie l k=(jv (aH L f) 36).p:=by rfl):dl md ops Q a0 l kA kS M w0 k:=
 kK ho (fun _=>trivial) rfl (fun a γ w aW=>by
  obtain ⟨vx,ex,b,rfl,hb1,bA,aJ⟩:=hx a γ w aW
  obtain ⟨OV,NX⟩:=γ
  obtain rfl:NX=false:=aW.psi.2 hk
  obtain rfl:OV=some b:=hb1
  have x:=aJ rfl
  obtain ⟨vy,ey,q,rfl,hq⟩:=hy a (some b,false) w aW
  have c0:=ai x 0
  have d0:=ae x 0
  have c1:=ai x 1
  have d1:=ae x 1
  have c2:=ai x 2
  have d2:=ae x 2
  have c3:=ai x 3
  have d3:=ae x 3
  have k6:=di (W:=w) (b:=b) (v0:=.int .u8 q.o) (v1:=.string q.n) (v2:=.slice q.a q.l q.c) (v3:=.slice q.b q.m q.e)
  have x6:=kf (v0:=.int .u8 q.o) (v1:=.string q.n) (v2:=.slice q.a q.l q.c) (v3:=.slice q.b q.m q.e) x
  refine ⟨hw a (some b,false) w aW,(some b,true),_,by simp only[FQ.val]at ey;go_simp,ij k6,hk ▸ mG,?_⟩
  rw[hp]
  exact ⟨b,_,rfl,x6,⟨q,rfl,hq.move (ij k6).holds⟩⟩)
theorem KZ (f:Tm) (x:Nat) (y:Nat) {ty:TypeId} {pos:String} {bK:Array Edge} {g:Option (Nat×Bool)} (hk:k=kS) (hx:Dep md ops a0 l kA kS M w0 k ⟨none,.store 43 (.tmp x) (.tmp y),ty,pos,bK,g⟩ x (BoxG #[.bool false,.string ⟨#[]⟩,.slice none 0 0] 43)) (hy:Dep md ops a0 l kA kS M w0 k ⟨none,.store 43 (.tmp x) (.tmp y),ty,pos,bK,g⟩ y (TermG L f)) (ho:ops[k]?=some ⟨none,.store 43 (.tmp x) (.tmp y),ty,pos,bK,g⟩:=by rfl) (hw:Wt md ops a0 l kA kS M w0 k ⟨none,.store 43 (.tmp x) (.tmp y),ty,pos,bK,g⟩:=by exact fun _ _ _ _=>rfl) (hp:ie l k=(jv (dV L f) 43).p:=by rfl):dl md ops Q a0 l kA kS M w0 k:=
 kK ho (fun _=>trivial) rfl (fun a γ w aW=>by
  obtain ⟨vx,ex,b,rfl,hb1,bA,aJ⟩:=hx a γ w aW
  obtain ⟨OV,NX⟩:=γ
  obtain rfl:NX=false:=aW.psi.2 hk
  obtain rfl:OV=some b:=hb1
  have x:=aJ rfl
  obtain ⟨vy,ey,q,rfl,hq⟩:=hy a (some b,false) w aW
  have c0:=ai x 0
  have d0:=ae x 0
  have c1:=ai x 1
  have d1:=ae x 1
  have c2:=ai x 2
  have d2:=ae x 2
  have k6:=d8 (W:=w) (b:=b) (v0:=.bool q.v) (v1:=.string q.n) (v2:=.slice q.a q.l q.c)
  have x6:=oy (v0:=.bool q.v) (v1:=.string q.n) (v2:=.slice q.a q.l q.c) x
  refine ⟨hw a (some b,false) w aW,(some b,true),_,by simp only[TQ.val]at ey;go_simp,ij k6,hk ▸ mG,?_⟩
  rw[hp]
  exact ⟨b,_,rfl,x6,⟨q,rfl,hq.move (ij k6).holds⟩⟩)
theorem jJ (f:Bd) (x:Nat) (y:Nat) {ty:TypeId} {pos:String} {bK:Array Edge} {g:Option (Nat×Bool)} (hk:k=kS) (hx:Dep md ops a0 l kA kS M w0 k ⟨none,.store 26 (.tmp x) (.tmp y),ty,pos,bK,g⟩ x (BoxG #[.slice none 0 0,.slice none 0 0] 26)) (hy:Dep md ops a0 l kA kS M w0 k ⟨none,.store 26 (.tmp x) (.tmp y),ty,pos,bK,g⟩ y (BindG L f)) (ho:ops[k]?=some ⟨none,.store 26 (.tmp x) (.tmp y),ty,pos,bK,g⟩:=by rfl) (hw:Wt md ops a0 l kA kS M w0 k ⟨none,.store 26 (.tmp x) (.tmp y),ty,pos,bK,g⟩:=by exact fun _ _ _ _=>rfl) (hp:ie l k=(jv (bi L f) 26).p:=by rfl):dl md ops Q a0 l kA kS M w0 k:=
 kK ho (fun _=>trivial) rfl (fun a γ w aW=>by
  obtain ⟨vx,ex,b,rfl,hb1,bA,aJ⟩:=hx a γ w aW
  obtain ⟨OV,NX⟩:=γ
  obtain rfl:NX=false:=aW.psi.2 hk
  obtain rfl:OV=some b:=hb1
  have x:=aJ rfl
  obtain ⟨vy,ey,q,rfl,hq⟩:=hy a (some b,false) w aW
  have c0:=ai x 0
  have d0:=ae x 0
  have c1:=ai x 1
  have d1:=ae x 1
  have k6:=Jp (W:=w) (b:=b) (v0:=.slice q.a q.l q.c) (v1:=.slice q.b q.m q.e)
  have x6:=Y_ (v0:=.slice q.a q.l q.c) (v1:=.slice q.b q.m q.e) x
  refine ⟨hw a (some b,false) w aW,(some b,true),_,by simp only[BQ.val]at ey;go_simp,ij k6,hk ▸ mG,?_⟩
  rw[hp]
  exact ⟨b,_,rfl,x6,⟨q,rfl,hq.move (ij k6).holds⟩⟩)
theorem Ia (f:Fm) (x:Nat) (y:Nat) {ty:TypeId} {pos:String} {bK:Array Edge} {g:Option (Nat×Bool)} (hk:k=kS) {b:Nat} {z0 z1 z2 z3:Value} (Vy:w0.heap[b]?=some (.cells #[z0,z1,z2,z3] 36 (0,0))) (Za:M b) (hx:Dep md ops a0 l kA kS M w0 k ⟨none,.store 36 (.tmp x) (.tmp y),ty,pos,bK,g⟩ x (fun v _ _=>v=ptr b)) (hy:Dep md ops a0 l kA kS M w0 k ⟨none,.store 36 (.tmp x) (.tmp y),ty,pos,bK,g⟩ y (FormG L f)) (ho:ops[k]?=some ⟨none,.store 36 (.tmp x) (.tmp y),ty,pos,bK,g⟩:=by rfl) (hw:Wt md ops a0 l kA kS M w0 k ⟨none,.store 36 (.tmp x) (.tmp y),ty,pos,bK,g⟩:=by exact fun _ _ _ _=>rfl) (hp:ie l k=(jv (aH L f) 36).p:=by rfl):dl md ops Q a0 l kA kS M w0 k:=
 kK ho (fun _=>trivial) rfl (fun a γ w aW=>by
  obtain ⟨vx,ex,rfl⟩:=hx a γ w aW
  obtain ⟨OV,NX⟩:=γ
  obtain rfl:NX=false:=aW.psi.2 hk
  obtain rfl:OV=some b:=(aW.inv.2.2 b Za).1
  have x:=((aW.inv.2.2 b Za).2 rfl).trans Vy
  obtain ⟨vy,ey,q,rfl,hq⟩:=hy a (some b,false) w aW
  have c0:=ai x 0
  have d0:=ae x 0
  have c1:=ai x 1
  have d1:=ae x 1
  have c2:=ai x 2
  have d2:=ae x 2
  have c3:=ai x 3
  have d3:=ae x 3
  have k6:=di (W:=w) (b:=b) (v0:=.int .u8 q.o) (v1:=.string q.n) (v2:=.slice q.a q.l q.c) (v3:=.slice q.b q.m q.e)
  have x6:=kf (v0:=.int .u8 q.o) (v1:=.string q.n) (v2:=.slice q.a q.l q.c) (v3:=.slice q.b q.m q.e) x
  refine ⟨hw a (some b,false) w aW,(some b,true),_,by simp only[FQ.val]at ey;go_simp,ij k6,hk ▸ mG,?_⟩
  rw[hp]
  exact ⟨b,_,rfl,x6,⟨q,rfl,hq.move (ij k6).holds⟩⟩)
theorem Ib (f:Bd) (x:Nat) (y:Nat) {ty:TypeId} {pos:String} {bK:Array Edge} {g:Option (Nat×Bool)} (hk:k=kS) {b:Nat} {z0 z1:Value} (Vy:w0.heap[b]?=some (.cells #[z0,z1] 26 (0,0))) (Za:M b) (hx:Dep md ops a0 l kA kS M w0 k ⟨none,.store 26 (.tmp x) (.tmp y),ty,pos,bK,g⟩ x (fun v _ _=>v=ptr b)) (hy:Dep md ops a0 l kA kS M w0 k ⟨none,.store 26 (.tmp x) (.tmp y),ty,pos,bK,g⟩ y (BindG L f)) (ho:ops[k]?=some ⟨none,.store 26 (.tmp x) (.tmp y),ty,pos,bK,g⟩:=by rfl) (hw:Wt md ops a0 l kA kS M w0 k ⟨none,.store 26 (.tmp x) (.tmp y),ty,pos,bK,g⟩:=by exact fun _ _ _ _=>rfl) (hp:ie l k=(jv (bi L f) 26).p:=by rfl):dl md ops Q a0 l kA kS M w0 k:=
 kK ho (fun _=>trivial) rfl (fun a γ w aW=>by
  obtain ⟨vx,ex,rfl⟩:=hx a γ w aW
  obtain ⟨OV,NX⟩:=γ
  obtain rfl:NX=false:=aW.psi.2 hk
  obtain rfl:OV=some b:=(aW.inv.2.2 b Za).1
  have x:=((aW.inv.2.2 b Za).2 rfl).trans Vy
  obtain ⟨vy,ey,q,rfl,hq⟩:=hy a (some b,false) w aW
  have c0:=ai x 0
  have d0:=ae x 0
  have c1:=ai x 1
  have d1:=ae x 1
  have k6:=Jp (W:=w) (b:=b) (v0:=.slice q.a q.l q.c) (v1:=.slice q.b q.m q.e)
  have x6:=Y_ (v0:=.slice q.a q.l q.c) (v1:=.slice q.b q.m q.e) x
  refine ⟨hw a (some b,false) w aW,(some b,true),_,by simp only[BQ.val]at ey;go_simp,ij k6,hk ▸ mG,?_⟩
  rw[hp]
  exact ⟨b,_,rfl,x6,⟨q,rfl,hq.move (ij k6).holds⟩⟩)
theorem zs {o:Oper} {d:Nat} (ho:ops[k]?=some o) (r:Value) (ob:∀ (a:Act) (w:World),(execOp a.eval o).run Tryz.prog w=.ok (.value r) w) (hd:o.dst=some d:=by rfl) (hw:Wt md ops a0 l kA kS M w0 k o:=by exact fun _ _ _ _=>rfl) (hp:ie l k=(aE r).p:=by rfl):dl md ops Q a0 l kA kS M w0 k:=
 eV hw ho hd (fun a _ w _=>⟨r,ob a w,by rw[hp];rfl⟩)
theorem bG {o:Oper} {d:Nat} (ho:ops[k]?=some o) (x:Nat) (u r:Value) (hx:Dep md ops a0 l kA kS M w0 k o x (fun v _ _=>v=u)) (ob:∀ (a:Act) (w:World),a.tmps[x]?=some u->a.tmps.getD x undef=u->(execOp a.eval o).run Tryz.prog w=.ok (.value r) w) (hd:o.dst=some d:=by rfl) (hw:Wt md ops a0 l kA kS M w0 k o:=by exact fun _ _ _ _=>rfl) (hp:ie l k=(aE r).p:=by rfl):dl md ops Q a0 l kA kS M w0 k:=
 eV hw ho hd (fun a γ w aW=>by
  obtain ⟨v,h1,rfl⟩:=hx a γ w aW
  exact ⟨r,ob a w h1 (bw h1),by rw[hp];rfl⟩)
theorem cr {o:Oper} {d:Nat} (ho:ops[k]?=some o) (x y:Nat) (u u2 r:Value) (hx:Dep md ops a0 l kA kS M w0 k o x (fun v _ _=>v=u)) (hy:Dep md ops a0 l kA kS M w0 k o y (fun v _ _=>v=u2)) (ob:∀ (a:Act) (w:World),a.tmps[x]?=some u->a.tmps.getD x undef=u->a.tmps[y]?=some u2->a.tmps.getD y undef=u2->(execOp a.eval o).run Tryz.prog w=.ok (.value r) w) (hd:o.dst=some d:=by rfl) (hw:Wt md ops a0 l kA kS M w0 k o:=by exact fun _ _ _ _=>rfl) (hp:ie l k=(aE r).p:=by rfl):dl md ops Q a0 l kA kS M w0 k:=
 eV hw ho hd (fun a γ w aW=>by
  obtain ⟨v,h1,rfl⟩:=hx a γ w aW
  obtain ⟨v2,h2,rfl⟩:=hy a γ w aW
  exact ⟨r,ob a w h1 (bw h1) h2 (bw h2),by rw[hp];rfl⟩)
end
end
def okS (L:Nat->Prop) (w:World) (b:Nat):Prop:=L b/\b<w.heap.size
structure LF (L:Nat->Prop) (a:Act) (w:World) (d b:Nat) (q:FQ) (f:Fm):Prop where
 slot:a.tmps[d]?=some (ptr b)
 box:w.heap[b]?=some (.cells #[.int .u8 q.o,.string q.n,.slice q.a q.l q.c,.slice q.b q.m q.e] 36 (0,0))
 val:FormV (okS L w) w q.val f
structure LT (L:Nat->Prop) (a:Act) (w:World) (d b:Nat) (q:TQ) (f:Tm):Prop where
 slot:a.tmps[d]?=some (ptr b)
 box:w.heap[b]?=some (.cells #[.bool q.v,.string q.n,.slice q.a q.l q.c] 43 (0,0))
 val:TermV (okS L w) w q.val f
structure LB (L:Nat->Prop) (a:Act) (w:World) (d b:Nat) (q:BQ) (f:Bd):Prop where
 slot:a.tmps[d]?=some (ptr b)
 box:w.heap[b]?=some (.cells #[.slice q.a q.l q.c,.slice q.b q.m q.e] 26 (0,0))
 val:BindV (okS L w) w q f
variable {L L' M:Nat->Prop} {a a':Act} {w w':World} {d b:Nat}
theorem okS.next (hk:Kp M w w') (hM:∀ c,L c->¬M c) (hL:∀ c,L c->c<w.heap.size->L' c):el (okS L w) (okS L' w') w w':=fun c h hlt=>⟨⟨hL c h.1 hlt,Nat.lt_of_lt_of_le hlt hk.size⟩,hk.same c hlt (hM c h.1)⟩
theorem LF.next {q:FQ} {f:Fm} (h:LF L a w d b q f) (hs:a'.tmps[d]?=a.tmps[d]?) (hk:Kp M w w') (hb:¬M b) (hM:∀ c,L c->¬M c) (hL:∀ c,L c->c<w.heap.size->L' c):LF L' a' w' d b q f:=
 ⟨hs.trans h.slot,(hk.same _ (bl h.box) hb).trans h.box,h.val.move (okS.next hk hM hL)⟩
theorem LT.next {q:TQ} {f:Tm} (h:LT L a w d b q f) (hs:a'.tmps[d]?=a.tmps[d]?) (hk:Kp M w w') (hb:¬M b) (hM:∀ c,L c->¬M c) (hL:∀ c,L c->c<w.heap.size->L' c):LT L' a' w' d b q f:=
 ⟨hs.trans h.slot,(hk.same _ (bl h.box) hb).trans h.box,h.val.move (okS.next hk hM hL)⟩
theorem LB.next {q:BQ} {f:Bd} (h:LB L a w d b q f) (hs:a'.tmps[d]?=a.tmps[d]?) (hk:Kp M w w') (hb:¬M b) (hM:∀ c,L c->¬M c) (hL:∀ c,L c->c<w.heap.size->L' c):LB L' a' w' d b q f:=
 ⟨hs.trans h.slot,(hk.same _ (bl h.box) hb).trans h.box,h.val.move (okS.next hk hM hL)⟩
theorem LF.nx {q:FQ} {f:Fm} (h:LF L a w d b q f) (hs:a'.tmps[d]?=a.tmps[d]?) (hk:Kp M w w') (hM:∀ c,L c->¬M c) (hb:¬M b:=by exact fun h=>h):LF L a' w' d b q f:=h.next hs hk hb hM (fun _ h _=>h)
theorem LT.nx {q:TQ} {f:Tm} (h:LT L a w d b q f) (hs:a'.tmps[d]?=a.tmps[d]?) (hk:Kp M w w') (hM:∀ c,L c->¬M c) (hb:¬M b:=by exact fun h=>h):LT L a' w' d b q f:=h.next hs hk hb hM (fun _ h _=>h)
theorem LB.nx {q:BQ} {f:Bd} (h:LB L a w d b q f) (hs:a'.tmps[d]?=a.tmps[d]?) (hk:Kp M w w') (hM:∀ c,L c->¬M c) (hb:¬M b:=by exact fun h=>h):LB L a' w' d b q f:=h.next hs hk hb hM (fun _ h _=>h)
theorem okS.at (hM:∀ c,L c->¬M c):el (okS L w) (Lt L M w) w w:=fun c h _=>⟨⟨h.1,h.2,hM c h.1⟩,rfl⟩
theorem LF.at {q:FQ} {f:Fm} (h:LF L a w d b q f) (hM:∀ c,L c->¬M c):FormV (Lt L M w) w q.val f:=h.val.move (okS.at hM)
theorem LT.at {q:TQ} {f:Tm} (h:LT L a w d b q f) (hM:∀ c,L c->¬M c):TermV (Lt L M w) w q.val f:=h.val.move (okS.at hM)
theorem LB.at {q:BQ} {f:Bd} (h:LB L a w d b q f) (hM:∀ c,L c->¬M c):BindV (Lt L M w) w q f:=h.val.move (okS.at hM)
theorem LF.drew {q:FQ} {f:Fm} (h:LF L a w d b q f):LF L a w.drew d b q f:=⟨h.slot,h.box,h.val.move (show el (okS L w) (okS L w.drew) w w.drew from fun _ h _=>⟨h,rfl⟩)⟩
theorem LT.drew {q:TQ} {f:Tm} (h:LT L a w d b q f):LT L a w.drew d b q f:=⟨h.slot,h.box,h.val.move (show el (okS L w) (okS L w.drew) w w.drew from fun _ h _=>⟨h,rfl⟩)⟩
theorem LB.drew {q:BQ} {f:Bd} (h:LB L a w d b q f):LB L a w.drew d b q f:=⟨h.slot,h.box,h.val.move (show el (okS L w) (okS L w.drew) w w.drew from fun _ h _=>⟨h,rfl⟩)⟩
section
variable {ops:Array Oper} {Q:Exit->Act->World->Prop} {a0:Act} {id sz:Nat}
abbrev bL:Nat->Prop:=fun _=>False
abbrev zt (b:Nat):Nat->Prop:=fun c=>c=b
theorem Oc (w:World):IG bL w (none,false) w:=⟨Kp.refl _,(fun _ h=>by cases h),fun _ h=>h.elim⟩
theorem Od {w:World} {b:Nat} (h:b<w.heap.size):IG (zt b) w (some b,false) w:=⟨Kp.refl _,(fun c e=>by cases e;exact ⟨.inr rfl,h⟩),fun c hc=>by
 have:c=b:=hc
 subst this
 exact ⟨rfl,fun _=>rfl⟩⟩
abbrev Dk (ops:Array Oper) (a0:Act) (F:List Fact) (kA kS:Nat) (M:Nat->Prop) (w0:World) (a:Act) (γ:Bx) (w:World):Prop:=DagAt (ie F) (PsB kA kS) (IG M w0) ops a0 (Array.replicate ops.size true) a γ w
theorem dM (F:List Fact) (kA kS:Nat) (hsz:a0.tmps.size=sz) (hd:F_ ops sz=true) (hm:(Tryz.prog.follows .mixedOrders && ops.toList.all mj)=true) (cw:∀ k,k<ops.size->dl .any ops (NP Q) a0 F kA kS bL w.drew k)
  (hQ:∀ a γ w',Dk ops a0 F kA kS bL w.drew a γ w'->Q .normal a w'):(Code.region id ops true).wpIn Fence.wide 3 Tryz.prog Q a0 w:=
 j8 _ _ _ Gr (none,false) hm hsz hd (Oc _) (fun _ _=>⟨fun _=>rfl,fun _=>rfl⟩) (fun _ _ _ _ hG h=>h.step hG) (sL F) cw hQ
theorem bX (F:List Fact) (kA kS:Nat) (hsz:a0.tmps.size=sz) (hd:F_ ops sz=true) (cw:∀ k,k<ops.size->dl .any ops Q a0 F kA kS bL w k)
  (hQ:∀ a γ w',Dk ops a0 F kA kS bL w a γ w'->Q .normal a w'):(Code.region id ops false).wpIn Fence.wide 3 Tryz.prog Q a0 w:=
 ml _ _ _ Gr (none,false) hsz hd (Oc _) (fun _ _=>⟨fun _=>rfl,fun _=>rfl⟩) (fun _ _ _ _ hG h=>h.step hG) (sL F) cw hQ
theorem Dl {b:Nat} (hb:b<w.heap.size) (F:List Fact) (kS:Nat) (hsz:a0.tmps.size=sz) (hd:F_ ops sz=true) (hm:(Tryz.prog.follows .mixedOrders && ops.toList.all mj)=true) (cw:∀ k,k<ops.size->dl .any ops (NP Q) a0 F ops.size kS (zt b) w.drew k)
  (hQ:∀ a γ w',Dk ops a0 F ops.size kS (zt b) w.drew a γ w'->Q .normal a w'):(Code.region id ops true).wpIn Fence.wide 3 Tryz.prog Q a0 w:=
 j8 _ _ _ Gr (some b,false) hm hsz hd (Od hb) (fun _ hk=>⟨fun e=>absurd hk (by omega),fun _=>rfl⟩) (fun _ _ _ _ hG h=>h.step hG) (sL F) cw hQ
theorem Dm {b:Nat} (hb:b<w.heap.size) (F:List Fact) (kS:Nat) (hsz:a0.tmps.size=sz) (hd:F_ ops sz=true) (cw:∀ k,k<ops.size->dl .any ops Q a0 F ops.size kS (zt b) w k)
  (hQ:∀ a γ w',Dk ops a0 F ops.size kS (zt b) w a γ w'->Q .normal a w'):(Code.region id ops false).wpIn Fence.wide 3 Tryz.prog Q a0 w:=
 ml _ _ _ Gr (some b,false) hsz hd (Od hb) (fun _ hk=>⟨fun e=>absurd hk (by omega),fun _=>rfl⟩) (fun _ _ _ _ hG h=>h.step hG) (sL F) cw hQ
theorem o_ {γ:Bx} {f:Fm} {v:Value} {z:Array Value} {T:TypeId} (hs:a.tmps[d]?=some v) (hv:(lO z T).p v γ w) (hf:(jv (aH L f) 36).p undef γ w) (hI:IG bL w' γ w):∃b q,LF (fun c=>L c/\c≠b) a w d b q f/\w'.heap.size<=b:=by
 have pp275a:=();exact pm275
theorem UG {γ:Bx} {f:Tm} {v:Value} {z:Array Value} {T:TypeId} (hs:a.tmps[d]?=some v) (hv:(lO z T).p v γ w) (hf:(jv (dV L f) 43).p undef γ w) (hI:IG bL w' γ w):∃b q,LT (fun c=>L c/\c≠b) a w d b q f/\w'.heap.size<=b:=by
 have pp275b:=();exact pm275
theorem ri {γ:Bx} {f:Bd} {v:Value} {z:Array Value} {T:TypeId} (hs:a.tmps[d]?=some v) (hv:(lO z T).p v γ w) (hf:(jv (bi L f) 26).p undef γ w) (hI:IG bL w' γ w):∃b q,LB (fun c=>L c/\c≠b) a w d b q f/\w'.heap.size<=b:=by
 exact pm275
theorem QD {γ:Bx} {f:Fm} {b:Nat} (hs:a.tmps[d]?=some (ptr b)) (hf:(jv (aH L f) 36).p undef γ w) (hI:IG (zt b) w' γ w):∃q,LF L a w d b q f:=by
 obtain ⟨b',cs,rfl,h3,q,hq,h4⟩:=hf
 cases (hI.2.2 b rfl).1
 simp only[FQ.val,Value.agg.injEq]at hq
 subst hq
 exact ⟨q,hs,h3,h4.move (fun c hc _=>⟨⟨hc.1,hc.2.1⟩,rfl⟩)⟩
theorem QE {γ:Bx} {f:Bd} {b:Nat} (hs:a.tmps[d]?=some (ptr b)) (hf:(jv (bi L f) 26).p undef γ w) (hI:IG (zt b) w' γ w):∃q,LB L a w d b q f:=by
 obtain ⟨b',cs,rfl,h3,q,hq,h4⟩:=hf
 cases (hI.2.2 b rfl).1
 simp only[BQ.val,Value.agg.injEq]at hq
 subst hq
 exact ⟨q,hs,h3,h4.move (fun c hc _=>⟨⟨hc.1,hc.2.1⟩,rfl⟩)⟩
end
end Go.Proofs.YtokemihbkeddoaaGreatDoor
