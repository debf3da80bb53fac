/-
What each kind of operation leaves.
What rows,structs,loads,stores and pure operations leave.
-/
import Derived.Test.YtokemihbkeddoaaGreatDoorU00
import Derived.Test.YtokemihbkeddoaaGreatDoorU33
namespace Go.Proofs.YtokemihbkeddoaaGreatDoor
open Go Go.RowKit Lib
set_option maxRecDepth 100000
set_option maxHeartbeats 64000000
section
attribute [local go_sem] Oper.semAt_some
section
variable {ops:Array Oper} {Q:Exit->Act->World->Prop} {a0:Act} {l:List Fact} {kA kS k:Nat} {M:Nat->Prop} {w0:World} {md:Region.Mode} {L:Nat->Prop}
theorem zo {ok:Nat->Prop} {w:World} {s:Str} {a:Option Addr} {n c:Nat} {ts:List Tm} (h:TermsV ok w (.slice a n c) ts):FormV ok w (FQ.val ⟨1,⟨s.toArray⟩,a,n,c,none,0,0⟩) (dR s ts):=aQ.2 ⟨_,_,rfl,h,jz⟩
def Lt (L M:Nat->Prop) (w0:World) (b:Nat):Prop:=L b/\b<w0.heap.size/\¬M b
theorem okB.old {γ:Bx} {w:World} (hI:IG M w0 γ w):el (Lt L M w0) (okB L γ w) w0 w:=fun b hb hlt=>
 ⟨⟨hb.1,Nat.lt_of_lt_of_le hlt hI.1.size,fun e=>by
  rcases (hI.2.1 b e).1 with h | h
  ·omega
  ·exact hb.2.2 h⟩,hI.1.same b hlt hb.2.2⟩
theorem sM (s:Str)  {d:Nat} {eK:Array TypeId} {ty:TypeId} {pos:String} {bK:Array Edge} {g:Option (Nat×Bool)}   (ho:ops[k]?=some ⟨some d,.call ⟨.value (.func 29),#[.const (.string ⟨s.toArray⟩)],eK⟩,ty,pos,bK,g⟩:=by rfl) (hw:Wt md ops a0 l kA kS M w0 k ⟨some d,.call ⟨.value (.func 29),#[.const (.string ⟨s.toArray⟩)],eK⟩,ty,pos,bK,g⟩:=by exact fun _ _ _ _=>rfl) (hp:ie l k=FormG L (ec s):=by rfl):dl md ops Q a0 l kA kS M w0 k:=
 dz hw ho rfl 29 (fun a γ w aW=>by
  refine ⟨#[.string ⟨s.toArray⟩],by go_simp,(S3 _ w).mono ?_⟩
  rintro e w' ⟨rfl,hb⟩
  exact ⟨⟨_,rfl,by rw[hp];exact ⟨⟨15,⟨s.toArray⟩,none,0,0,none,0,0⟩,rfl,aQ.2 ⟨_,_,rfl,bV,jz⟩⟩⟩,hb⟩)
theorem o7 (s:Str)  {d:Nat} {eK:Array TypeId} {ty:TypeId} {pos:String} {bK:Array Edge} {g:Option (Nat×Bool)}   (ho:ops[k]?=some ⟨some d,.call ⟨.value (.func 30),#[.const (.string ⟨s.toArray⟩)],eK⟩,ty,pos,bK,g⟩:=by rfl) (hw:Wt md ops a0 l kA kS M w0 k ⟨some d,.call ⟨.value (.func 30),#[.const (.string ⟨s.toArray⟩)],eK⟩,ty,pos,bK,g⟩:=by exact fun _ _ _ _=>rfl) (hp:ie l k=TermG L (ap s):=by rfl):dl md ops Q a0 l kA kS M w0 k:=
 dz hw ho rfl 30 (fun a γ w aW=>by
  refine ⟨#[.string ⟨s.toArray⟩],by go_simp,(GT _ w).mono ?_⟩
  rintro e w' ⟨rfl,hb⟩
  exact ⟨⟨_,rfl,by rw[hp];exact ⟨⟨true,⟨s.toArray⟩,none,0,0⟩,rfl,aP.2 ⟨_,rfl,bV⟩⟩⟩,hb⟩)
theorem Jn (s:Str)  {d:Nat} {eK:Array TypeId} {ty:TypeId} {pos:String} {bK:Array Edge} {g:Option (Nat×Bool)}   (ho:ops[k]?=some ⟨some d,.call ⟨.value (.func 24),#[.const (.string ⟨s.toArray⟩),.const (.slice none 0 0)],eK⟩,ty,pos,bK,g⟩:=by rfl) (hw:Wt md ops a0 l kA kS M w0 k ⟨some d,.call ⟨.value (.func 24),#[.const (.string ⟨s.toArray⟩),.const (.slice none 0 0)],eK⟩,ty,pos,bK,g⟩:=by exact fun _ _ _ _=>rfl) (hp:ie l k=FormG L (dR s []):=by rfl):dl md ops Q a0 l kA kS M w0 k:=
 dz hw ho rfl 24 (fun a γ w aW=>by
  refine ⟨#[.string ⟨s.toArray⟩,.slice none 0 0],by go_simp,(Mt _ _ _ _ w).mono ?_⟩
  rintro e w' ⟨rfl,hb⟩
  exact ⟨⟨_,rfl,by rw[hp];exact ⟨⟨1,⟨s.toArray⟩,none,0,0,none,0,0⟩,rfl,zo bV⟩⟩,hb⟩)
theorem N8 (s:Str)  {d:Nat} {eK:Array TypeId} {ty:TypeId} {pos:String} {bK:Array Edge} {g:Option (Nat×Bool)}   (ho:ops[k]?=some ⟨some d,.call ⟨.value (.func 31),#[.const (.string ⟨s.toArray⟩),.const (.slice none 0 0)],eK⟩,ty,pos,bK,g⟩:=by rfl) (hw:Wt md ops a0 l kA kS M w0 k ⟨some d,.call ⟨.value (.func 31),#[.const (.string ⟨s.toArray⟩),.const (.slice none 0 0)],eK⟩,ty,pos,bK,g⟩:=by exact fun _ _ _ _=>rfl) (hp:ie l k=TermG L (cT s []):=by rfl):dl md ops Q a0 l kA kS M w0 k:=
 dz hw ho rfl 31 (fun a γ w aW=>by
  refine ⟨#[.string ⟨s.toArray⟩,.slice none 0 0],by go_simp,(Ms _ _ _ _ w).mono ?_⟩
  rintro e w' ⟨rfl,hb⟩
  exact ⟨⟨_,rfl,by rw[hp];exact ⟨⟨false,⟨s.toArray⟩,none,0,0⟩,rfl,aP.2 ⟨_,rfl,bV⟩⟩⟩,hb⟩)
theorem zp (s:Str) (ts:List Tm) (x:Nat) {d:Nat} {eK:Array TypeId} {ty:TypeId} {pos:String} {bK:Array Edge} {g:Option (Nat×Bool)}  (hx:Dep md ops a0 l kA kS M w0 k ⟨some d,.call ⟨.value (.func 24),#[.const (.string ⟨s.toArray⟩),.tmp x],eK⟩,ty,pos,bK,g⟩ x (TermsG L ts)) (ho:ops[k]?=some ⟨some d,.call ⟨.value (.func 24),#[.const (.string ⟨s.toArray⟩),.tmp x],eK⟩,ty,pos,bK,g⟩:=by rfl) (hw:Wt md ops a0 l kA kS M w0 k ⟨some d,.call ⟨.value (.func 24),#[.const (.string ⟨s.toArray⟩),.tmp x],eK⟩,ty,pos,bK,g⟩:=by exact fun _ _ _ _=>rfl) (hp:ie l k=FormG L (dR s ts):=by rfl):dl md ops Q a0 l kA kS M w0 k:=
 dz hw ho rfl 24 (fun a γ w aW=>by
  obtain ⟨vx,ex,fx⟩:=hx.is aW
  obtain ⟨ax,cx,rfl,hx⟩:=fx
  refine ⟨#[.string ⟨s.toArray⟩,.slice ax ts.length cx],by go_simp,(Mt _ _ _ _ w).mono ?_⟩
  rintro e w' ⟨rfl,hb⟩
  exact ⟨⟨_,rfl,by rw[hp];exact ⟨⟨1,⟨s.toArray⟩,ax,ts.length,cx,none,0,0⟩,rfl,zo (hx.move (Gr.keep hb).holds)⟩⟩,hb⟩)
theorem Y8 (s:Str) (ts:List Tm) (x:Nat) {d:Nat} {eK:Array TypeId} {ty:TypeId} {pos:String} {bK:Array Edge} {g:Option (Nat×Bool)}  (hx:Dep md ops a0 l kA kS M w0 k ⟨some d,.call ⟨.value (.func 31),#[.const (.string ⟨s.toArray⟩),.tmp x],eK⟩,ty,pos,bK,g⟩ x (TermsG L ts)) (ho:ops[k]?=some ⟨some d,.call ⟨.value (.func 31),#[.const (.string ⟨s.toArray⟩),.tmp x],eK⟩,ty,pos,bK,g⟩:=by rfl) (hw:Wt md ops a0 l kA kS M w0 k ⟨some d,.call ⟨.value (.func 31),#[.const (.string ⟨s.toArray⟩),.tmp x],eK⟩,ty,pos,bK,g⟩:=by exact fun _ _ _ _=>rfl) (hp:ie l k=TermG L (cT s ts):=by rfl):dl md ops Q a0 l kA kS M w0 k:=
 dz hw ho rfl 31 (fun a γ w aW=>by
  obtain ⟨vx,ex,fx⟩:=hx.is aW
  obtain ⟨ax,cx,rfl,hx⟩:=fx
  refine ⟨#[.string ⟨s.toArray⟩,.slice ax ts.length cx],by go_simp,(Ms _ _ _ _ w).mono ?_⟩
  rintro e w' ⟨rfl,hb⟩
  exact ⟨⟨_,rfl,by rw[hp];exact ⟨⟨false,⟨s.toArray⟩,ax,ts.length,cx⟩,rfl,aP.2 ⟨_,rfl,hx.move (Gr.keep hb).holds⟩⟩⟩,hb⟩)
theorem gQ (o:Int) (s:Str) (fs:List Fm) (x:Nat) {d:Nat} {eK:Array TypeId} {ty:TypeId} {pos:String} {bK:Array Edge} {g:Option (Nat×Bool)}  (hx:Dep md ops a0 l kA kS M w0 k ⟨some d,.call ⟨.value (.func 28),#[.const (.int .u8 o),.const (.string ⟨s.toArray⟩),.tmp x],eK⟩,ty,pos,bK,g⟩ x (FormsG L fs)) (ho:ops[k]?=some ⟨some d,.call ⟨.value (.func 28),#[.const (.int .u8 o),.const (.string ⟨s.toArray⟩),.tmp x],eK⟩,ty,pos,bK,g⟩:=by rfl) (hw:Wt md ops a0 l kA kS M w0 k ⟨some d,.call ⟨.value (.func 28),#[.const (.int .u8 o),.const (.string ⟨s.toArray⟩),.tmp x],eK⟩,ty,pos,bK,g⟩:=by exact fun _ _ _ _=>rfl) (hp:ie l k=FormG L (.mk o s [] fs):=by rfl):dl md ops Q a0 l kA kS M w0 k:=
 dz hw ho rfl 28 (fun a γ w aW=>by
  obtain ⟨vx,ex,fx⟩:=hx.is aW
  obtain ⟨ax,cx,rfl,hx⟩:=fx
  refine ⟨#[.int .u8 o,.string ⟨s.toArray⟩,.slice ax fs.length cx],by go_simp,(IW _ _ _ _ _ w).mono ?_⟩
  rintro e w' ⟨rfl,hb⟩
  exact ⟨⟨_,rfl,by rw[hp];exact ⟨⟨o,⟨s.toArray⟩,none,0,0,ax,fs.length,cx⟩,rfl,aQ.2 ⟨_,_,rfl,bV,hx.move (Gr.keep hb).holds⟩⟩⟩,hb⟩)
theorem BA {ok:Nat->Prop} {W:World} {b:Nat} {T:TypeId} {x y:Tm} (p q:TQ) (c:Nat) (hb:W.heap[b]?=some (.cells #[.bool p.v,.string p.n,.slice p.a p.l p.c,.bool q.v,.string q.n,.slice q.a q.l q.c] T (0,0))) (hok:ok b) (hx:TermV ok W p.val x) (hy:TermV ok W q.val y):TermsV ok W (.slice (some ⟨b,0,none⟩) 2 c) [x,y]:=by
 have pp279:=();exact pm279
theorem KX {ok:Nat->Prop} {W:World} {b:Nat} {T:TypeId} {x y:Fm} (p q:FQ) (c:Nat) (hb:W.heap[b]?=some (.cells #[.int .u8 p.o,.string p.n,.slice p.a p.l p.c,.slice p.b p.m p.e,.int .u8 q.o,.string q.n,.slice q.a q.l q.c,.slice q.b q.m q.e] T (0,0))) (hok:ok b) (hx:FormV ok W p.val x) (hy:FormV ok W q.val y):FormsV ok W (.slice (some ⟨b,0,none⟩) 2 c) [x,y]:=by
 exact pm279
theorem okB.here (hL:∀ b,w0.heap.size<=b->L b) {γ:Bx} {w:World} (hI:IG M w0 γ w) (o:Obj):okB L γ (w.alloc o) w.heap.size:=(okB.new hI (fun b hb=>hL b (Nat.le_trans hI.1.size hb)) (w':=w.alloc o) _ (Nat.le_refl _) (by simp)).1
theorem wG (s x t:Str)  {d:Nat} {eK:Array TypeId} {ty:TypeId} {pos:String} {bK:Array Edge} {g:Option (Nat×Bool)} (hL:∀ b,w0.heap.size<=b->L b)  (ho:ops[k]?=some ⟨some d,.call ⟨.value (.func 35),#[.const (.string ⟨s.toArray⟩),.const (.string ⟨x.toArray⟩),.const (.string ⟨t.toArray⟩)],eK⟩,ty,pos,bK,g⟩:=by rfl) (hw:Wt md ops a0 l kA kS M w0 k ⟨some d,.call ⟨.value (.func 35),#[.const (.string ⟨s.toArray⟩),.const (.string ⟨x.toArray⟩),.const (.string ⟨t.toArray⟩)],eK⟩,ty,pos,bK,g⟩:=by exact fun _ _ _ _=>rfl) (hp:ie l k=FormG L (Ax s x t):=by rfl):dl md ops Q a0 l kA kS M w0 k:=
 dz hw ho rfl 35 (fun a γ w aW=>by
  refine ⟨#[.string ⟨s.toArray⟩,.string ⟨x.toArray⟩,.string ⟨t.toArray⟩],by go_simp,(J6 _ _ _ w).mono ?_⟩
  rintro e w' ⟨⟨kk,c,rfl,hk,T,hc⟩,hb⟩
  have xF:=(okB.new aW.inv (L:=L) (fun b hb=>hL b (Nat.le_trans aW.inv.1.size hb)) kk hk (bl hc)).1
  exact ⟨⟨_,rfl,by rw[hp];exact ⟨⟨16,⟨s.toArray⟩,some ⟨kk,0,none⟩,2,c,none,0,0⟩,rfl,aQ.2 ⟨_,_,rfl,BA ⟨true,⟨x.toArray⟩,none,0,0⟩ ⟨true,⟨t.toArray⟩,none,0,0⟩ c hc xF (aP.2 ⟨_,rfl,bV⟩) (aP.2 ⟨_,rfl,bV⟩),jz⟩⟩⟩,hb⟩)
theorem o9 (s f:Fm) (b b2:Bd) (i:Nat) (er:Int) (hR:cJ [(s,f)] b=(b2,i,er)) (hs:fitF s) (hf:fitF f) (hb:BdFit b) (x:Nat) (y:Nat) (z:Nat) {d:Nat} {eK:Array TypeId} {ty:TypeId} {pos:String} {bK:Array Edge} {g:Option (Nat×Bool)} {Wb:World} (hT:Tabs Wb w0) (hM:∀ b,M b->Wb.heap.size<=b) (hL:∀ b,w0.heap.size<=b->L b) (hx:Dep md ops a0 l kA kS M w0 k ⟨some d,.call ⟨.value (.func 20),#[.tmp x,.tmp y,.tmp z],eK⟩,ty,pos,bK,g⟩ x (FormG L s)) (hy:Dep md ops a0 l kA kS M w0 k ⟨some d,.call ⟨.value (.func 20),#[.tmp x,.tmp y,.tmp z],eK⟩,ty,pos,bK,g⟩ y (FormG L f)) (hz:Dep md ops a0 l kA kS M w0 k ⟨some d,.call ⟨.value (.func 20),#[.tmp x,.tmp y,.tmp z],eK⟩,ty,pos,bK,g⟩ z (BindG L b)) (ho:ops[k]?=some ⟨some d,.call ⟨.value (.func 20),#[.tmp x,.tmp y,.tmp z],eK⟩,ty,pos,bK,g⟩:=by rfl) (hw:Wt md ops a0 l kA kS M w0 k ⟨some d,.call ⟨.value (.func 20),#[.tmp x,.tmp y,.tmp z],eK⟩,ty,pos,bK,g⟩:=by exact fun _ _ _ _=>rfl) (hp:ie l k=(d9 (bi L b2) [.int .i64 er]).p:=by rfl):dl md ops Q a0 l kA kS M w0 k:=
 dz hw ho rfl 20 (fun a γ w aW=>by
  obtain ⟨vx,ex,fx⟩:=hx.is aW
  obtain ⟨vy,ey,fy⟩:=hy.is aW
  obtain ⟨vz,ez,fz⟩:=hz.is aW
  obtain ⟨qx,rfl,hx⟩:=fx
  obtain ⟨qy,rfl,hy⟩:=fy
  obtain ⟨qz,rfl,hz⟩:=fz
  refine ⟨#[qx.val,qy.val,qz.val],by go_simp,(KU Wb s f b hs hf hb _ _ _ w qx qy qz (hT.kp aW.inv.1 hM) hx hy hz).mono ?_⟩
  rw[hR]
  rintro e w' ⟨⟨u,rfl,hu⟩,hb⟩
  exact ⟨⟨_,rfl,by rw[hp];exact ⟨_,rfl,u,rfl,hu.move (okB.new aW.inv (fun b hb=>hL b (Nat.le_trans aW.inv.1.size hb)))⟩⟩,hb⟩)
theorem rg (ps:List (Fm×Fm)) (b b2:Bd) (i:Nat) (er:Int) (hR:cJ ps b=(b2,i,er)) (hl:ps.length<=8) (hs:∀ x∈ps,fitF x.1/\fitF x.2) (hb:BdFit b) (x:Nat) (z:Nat) {d:Nat} {eK:Array TypeId} {ty:TypeId} {pos:String} {bK:Array Edge} {g:Option (Nat×Bool)} {Wb:World} (hT:Tabs Wb w0) (hM:∀ b,M b->Wb.heap.size<=b) (hL:∀ b,w0.heap.size<=b->L b) (hx:Dep md ops a0 l kA kS M w0 k ⟨some d,.call ⟨.value (.func 15),#[.tmp x,.tmp z],eK⟩,ty,pos,bK,g⟩ x (Hz L ps)) (hz:Dep md ops a0 l kA kS M w0 k ⟨some d,.call ⟨.value (.func 15),#[.tmp x,.tmp z],eK⟩,ty,pos,bK,g⟩ z (BindG L b)) (ho:ops[k]?=some ⟨some d,.call ⟨.value (.func 15),#[.tmp x,.tmp z],eK⟩,ty,pos,bK,g⟩:=by rfl) (hw:Wt md ops a0 l kA kS M w0 k ⟨some d,.call ⟨.value (.func 15),#[.tmp x,.tmp z],eK⟩,ty,pos,bK,g⟩:=by exact fun _ _ _ _=>rfl) (hp:ie l k=(d9 (bi L b2) [.int .i64 (i:Int),.int .i64 er]).p:=by rfl):dl md ops Q a0 l kA kS M w0 k:=
 dz hw ho rfl 15 (fun a γ w aW=>by
  obtain ⟨vx,ex,fx⟩:=hx.is aW
  obtain ⟨vz,ez,fz⟩:=hz.is aW
  obtain ⟨ax,cx,rfl,hx⟩:=fx
  obtain ⟨qz,rfl,hz⟩:=fz
  refine ⟨#[.slice ax ps.length cx,qz.val],by go_simp,(vp Wb ps b hl hs hb (okB L γ w) w ax cx qz (hT.kp aW.inv.1 hM) hx hz).mono ?_⟩
  rw[hR]
  rintro e w' ⟨⟨u,rfl,hu⟩,hb⟩
  exact ⟨⟨_,rfl,by rw[hp];exact ⟨_,rfl,u,rfl,hu.move (okB.new aW.inv (fun b hb=>hL b (Nat.le_trans aW.inv.1.size hb)))⟩⟩,hb⟩)
theorem Jo (b:Bd) (n:Str) (hF:b.fs.length<=1000000) (aD:∀ x∈b.fs,fitF x.2) (x:Nat) {d:Nat} {eK:Array TypeId} {ty:TypeId} {pos:String} {bK:Array Edge} {g:Option (Nat×Bool)} (hL:∀ b,w0.heap.size<=b->L b) (hx:Dep md ops a0 l kA kS M w0 k ⟨some d,.call ⟨.value (.func 16),#[.tmp x,.const (.string ⟨n.toArray⟩)],eK⟩,ty,pos,bK,g⟩ x (BindG L b)) (ho:ops[k]?=some ⟨some d,.call ⟨.value (.func 16),#[.tmp x,.const (.string ⟨n.toArray⟩)],eK⟩,ty,pos,bK,g⟩:=by rfl) (hw:Wt md ops a0 l kA kS M w0 k ⟨some d,.call ⟨.value (.func 16),#[.tmp x,.const (.string ⟨n.toArray⟩)],eK⟩,ty,pos,bK,g⟩:=by exact fun _ _ _ _=>rfl) (hp:ie l k=(d9 (aH L ((getB b.fs n).getD i8)) [.bool (getB b.fs n).isSome]).p:=by rfl):dl md ops Q a0 l kA kS M w0 k:=
 dz hw ho rfl 16 (fun a γ w aW=>by
  obtain ⟨vx,ex,fx⟩:=hx.is aW
  obtain ⟨qx,rfl,hx⟩:=fx
  refine ⟨#[qx.val,.string ⟨n.toArray⟩],by go_simp,(Km b hF aD n _ w qx hx).mono ?_⟩
  rintro e w' ⟨⟨u,rfl,hu⟩,hb⟩
  exact ⟨⟨_,rfl,by rw[hp];exact ⟨_,rfl,u,rfl,hu.move (okB.new aW.inv (fun b hb=>hL b (Nat.le_trans aW.inv.1.size hb)))⟩⟩,hb⟩)
theorem QB (b:Bd) (n:Str) (hF:b.ts.length<=1000000) (aD:∀ x∈b.ts,fitT x.2) (x:Nat) {d:Nat} {eK:Array TypeId} {ty:TypeId} {pos:String} {bK:Array Edge} {g:Option (Nat×Bool)} (hL:∀ b,w0.heap.size<=b->L b) (hx:Dep md ops a0 l kA kS M w0 k ⟨some d,.call ⟨.value (.func 18),#[.tmp x,.const (.string ⟨n.toArray⟩)],eK⟩,ty,pos,bK,g⟩ x (BindG L b)) (ho:ops[k]?=some ⟨some d,.call ⟨.value (.func 18),#[.tmp x,.const (.string ⟨n.toArray⟩)],eK⟩,ty,pos,bK,g⟩:=by rfl) (hw:Wt md ops a0 l kA kS M w0 k ⟨some d,.call ⟨.value (.func 18),#[.tmp x,.const (.string ⟨n.toArray⟩)],eK⟩,ty,pos,bK,g⟩:=by exact fun _ _ _ _=>rfl) (hp:ie l k=(d9 (dV L ((getB b.ts n).getD I8)) [.bool (getB b.ts n).isSome]).p:=by rfl):dl md ops Q a0 l kA kS M w0 k:=
 dz hw ho rfl 18 (fun a γ w aW=>by
  obtain ⟨vx,ex,fx⟩:=hx.is aW
  obtain ⟨qx,rfl,hx⟩:=fx
  refine ⟨#[qx.val,.string ⟨n.toArray⟩],by go_simp,(Kn b hF aD n _ w qx hx).mono ?_⟩
  rintro e w' ⟨⟨u,rfl,hu⟩,hb⟩
  exact ⟨⟨_,rfl,by rw[hp];exact ⟨_,rfl,u,rfl,hu.move (okB.new aW.inv (fun b hb=>hL b (Nat.le_trans aW.inv.1.size hb)))⟩⟩,hb⟩)
theorem sN (f g2:Fm) (hf:fitF f) (x:Nat) (y:Nat) {d:Nat} {eK:Array TypeId} {ty:TypeId} {pos:String} {bK:Array Edge} {g:Option (Nat×Bool)}  (hx:Dep md ops a0 l kA kS M w0 k ⟨some d,.call ⟨.value (.func 17),#[.tmp x,.tmp y],eK⟩,ty,pos,bK,g⟩ x (FormG L f)) (hy:Dep md ops a0 l kA kS M w0 k ⟨some d,.call ⟨.value (.func 17),#[.tmp x,.tmp y],eK⟩,ty,pos,bK,g⟩ y (FormG L g2)) (ho:ops[k]?=some ⟨some d,.call ⟨.value (.func 17),#[.tmp x,.tmp y],eK⟩,ty,pos,bK,g⟩:=by rfl) (hw:Wt md ops a0 l kA kS M w0 k ⟨some d,.call ⟨.value (.func 17),#[.tmp x,.tmp y],eK⟩,ty,pos,bK,g⟩:=by exact fun _ _ _ _=>rfl) (hp:ie l k=fun v _ _=>v=.bool (vG f g2):=by rfl):dl md ops Q a0 l kA kS M w0 k:=
 dz hw ho rfl 17 (fun a γ w aW=>by
  obtain ⟨vx,ex,fx⟩:=hx.is aW
  obtain ⟨vy,ey,fy⟩:=hy.is aW
  obtain ⟨qx,rfl,hx⟩:=fx
  obtain ⟨qy,rfl,hy⟩:=fy
  refine ⟨#[qx.val,qy.val],by go_simp,(N4 f g2 _ _ w qx qy hf hx hy).mono ?_⟩
  rintro e w' ⟨rfl,hb⟩
  exact ⟨⟨_,rfl,by rw[hp]⟩,hb⟩)
theorem N9 (f g2:List Tm) (hf:fitTs f) (x:Nat) (y:Nat) {d:Nat} {eK:Array TypeId} {ty:TypeId} {pos:String} {bK:Array Edge} {g:Option (Nat×Bool)}  (hx:Dep md ops a0 l kA kS M w0 k ⟨some d,.call ⟨.value (.func 19),#[.tmp x,.tmp y],eK⟩,ty,pos,bK,g⟩ x (TermsG L f)) (hy:Dep md ops a0 l kA kS M w0 k ⟨some d,.call ⟨.value (.func 19),#[.tmp x,.tmp y],eK⟩,ty,pos,bK,g⟩ y (TermsG L g2)) (ho:ops[k]?=some ⟨some d,.call ⟨.value (.func 19),#[.tmp x,.tmp y],eK⟩,ty,pos,bK,g⟩:=by rfl) (hw:Wt md ops a0 l kA kS M w0 k ⟨some d,.call ⟨.value (.func 19),#[.tmp x,.tmp y],eK⟩,ty,pos,bK,g⟩:=by exact fun _ _ _ _=>rfl) (hp:ie l k=fun v _ _=>v=.bool (iy f g2):=by rfl):dl md ops Q a0 l kA kS M w0 k:=
 dz hw ho rfl 19 (fun a γ w aW=>by
  obtain ⟨vx,ex,fx⟩:=hx.is aW
  obtain ⟨vy,ey,fy⟩:=hy.is aW
  obtain ⟨ax,cx,rfl,hx⟩:=fx
  obtain ⟨ay,cy,rfl,hy⟩:=fy
  refine ⟨#[.slice ax f.length cx,.slice ay g2.length cy],by go_simp,(qh f g2 _ _ w ax _ cx ay _ cy hf hx hy).mono ?_⟩
  rintro e w' ⟨rfl,hb⟩
  exact ⟨⟨_,rfl,by rw[hp]⟩,hb⟩)
theorem Dj (s f:Fm) (b:Bd) (er:Int) (hR:ux s b=(f,er)) (hs:fitF s) (hb:BdFit b) (x:Nat) (z:Nat) {d:Nat} {eK:Array TypeId} {ty:TypeId} {pos:String} {bK:Array Edge} {g:Option (Nat×Bool)} {Wb:World} (hT:Tabs Wb w0) (hM:∀ b,M b->Wb.heap.size<=b) (hL:∀ b,w0.heap.size<=b->L b) (hx:Dep md ops a0 l kA kS M w0 k ⟨some d,.call ⟨.value (.func 32),#[.tmp x,.tmp z],eK⟩,ty,pos,bK,g⟩ x (FormG L s)) (hz:Dep md ops a0 l kA kS M w0 k ⟨some d,.call ⟨.value (.func 32),#[.tmp x,.tmp z],eK⟩,ty,pos,bK,g⟩ z (BindG L b)) (ho:ops[k]?=some ⟨some d,.call ⟨.value (.func 32),#[.tmp x,.tmp z],eK⟩,ty,pos,bK,g⟩:=by rfl) (hw:Wt md ops a0 l kA kS M w0 k ⟨some d,.call ⟨.value (.func 32),#[.tmp x,.tmp z],eK⟩,ty,pos,bK,g⟩:=by exact fun _ _ _ _=>rfl) (hp:ie l k=(d9 (aH L f) [.int .i64 er]).p:=by rfl):dl md ops Q a0 l kA kS M w0 k:=
 dz hw ho rfl 32 (fun a γ w aW=>by
  obtain ⟨vx,ex,fx⟩:=hx.is aW
  obtain ⟨vz,ez,fz⟩:=hz.is aW
  obtain ⟨qx,rfl,hx⟩:=fx
  obtain ⟨qz,rfl,hz⟩:=fz
  refine ⟨#[qx.val,qz.val],by go_simp,(N1 Wb s b hs hb (okB L γ w) w qx qz (hT.kp aW.inv.1 hM) hx hz).mono ?_⟩
  rw[hR]
  rintro e w' ⟨⟨u,rfl,hu⟩,hb⟩
  exact ⟨⟨_,rfl,by rw[hp];exact ⟨_,rfl,u,rfl,hu.move (okB.new aW.inv (fun b hb=>hL b (Nat.le_trans aW.inv.1.size hb)))⟩⟩,hb⟩)
theorem N' (b:Bd) (hb:BdFit b) (x:Nat) {d:Nat} {eK:Array TypeId} {ty:TypeId} {pos:String} {bK:Array Edge} {g:Option (Nat×Bool)} {Wb:World} (hT:Tabs Wb w0) (hM:∀ b,M b->Wb.heap.size<=b) (hx:Dep md ops a0 l kA kS M w0 k ⟨some d,.call ⟨.value (.func 27),#[.tmp x],eK⟩,ty,pos,bK,g⟩ x (BindG L b)) (ho:ops[k]?=some ⟨some d,.call ⟨.value (.func 27),#[.tmp x],eK⟩,ty,pos,bK,g⟩:=by rfl) (hw:Wt md ops a0 l kA kS M w0 k ⟨some d,.call ⟨.value (.func 27),#[.tmp x],eK⟩,ty,pos,bK,g⟩:=by exact fun _ _ _ _=>rfl) (hp:ie l k=fun v _ _=>v=.bool (bU b):=by rfl):dl md ops Q a0 l kA kS M w0 k:=
 dz hw ho rfl 27 (fun a γ w aW=>by
  obtain ⟨vx,ex,fx⟩:=hx.is aW
  obtain ⟨qx,rfl,hx⟩:=fx
  refine ⟨#[qx.val],by go_simp,(uh Wb b hb (okB L γ w) w (hT.kp aW.inv.1 hM) qx hx).mono ?_⟩
  rintro e w' ⟨rfl,hb⟩
  exact ⟨⟨_,rfl,by rw[hp]⟩,hb⟩)
end
section
variable {ops:Array Oper} {Q:Exit->Act->World->Prop} {a0:Act} {l:List Fact} {kA kS k:Nat} {M:Nat->Prop} {w0:World} {md:Region.Mode} {L:Nat->Prop}
theorem rh {o:Oper} {d:Nat} (hw:Wt md ops a0 l kA kS M w0 k o) (ho:ops[k]?=some o) (hd:o.dst=some d)
  (h:∀ a γ w,VY md ops a0 l kA kS M w0 k o a γ w->∃v cs T,(execOp a.eval o).run Tryz.prog w=.ok (.value v) (w.alloc (.cells cs T))/\ie l k v γ (w.alloc (.cells cs T))):dl md ops Q a0 l kA kS M w0 k:=
 c_ ho hd (fun _=>trivial) rfl (fun a γ w aW=>by
  obtain ⟨v,cs,T,h1,h2⟩:=h a γ w aW
  exact ⟨hw a γ w aW,v,γ,_,h1,Gr.keep ct,fun _ _ h=>h,h2⟩)
theorem kn {γ:Bx} {w:World} (o:Obj):Gr γ w γ (w.alloc o):=Gr.keep ct
theorem H_ {ok:Nat->Prop} {X:World} {B c:Nat} {T:TypeId} {p:FQ} {f:Fm} (h:FormV ok X p.val f) (hB:ok B) (hx:X.heap[B]?=some (.cells #[.int .u8 p.o,.string p.n,.slice p.a p.l p.c,.slice p.b p.m p.e] T (0,0))):FormsV ok X (.slice (some ⟨B,0,none⟩) 1 c) [f]:=
 ⟨_,c,fun _=>p.val,rfl,.inr ⟨B,0,rfl,hB,fun j hj=>by
  obtain rfl:j=0:=by simpa using hj
  exact ⟨_,_,_,_,rfl,ai hx 0,ai hx 1,ai hx 2,ai hx 3⟩⟩,fun j hj=>by
  obtain rfl:j=0:=by simpa using hj
  exact h⟩
variable (hL:∀ b,w0.heap.size<=b->L b)
include hL
theorem eL (f:Fm) (x:Nat) {d:Nat} {ty:TypeId} {pos:String} {bK:Array Edge} {g:Option (Nat×Bool)} (hx:Dep md ops a0 l kA kS M w0 k ⟨some d,.buildSlice 34 1 #[(0,.tmp x)],ty,pos,bK,g⟩ x (FormG L f)) (ho:ops[k]?=some ⟨some d,.buildSlice 34 1 #[(0,.tmp x)],ty,pos,bK,g⟩:=by rfl) (hw:Wt md ops a0 l kA kS M w0 k ⟨some d,.buildSlice 34 1 #[(0,.tmp x)],ty,pos,bK,g⟩:=by exact fun _ _ _ _=>rfl) (hp:ie l k=FormsG L [f]:=by rfl):dl md ops Q a0 l kA kS M w0 k:=
 rh hw ho rfl (fun a γ w aW=>by
  obtain ⟨vx,ex,q,rfl,hq⟩:=hx a γ w aW
  refine ⟨.slice (some ⟨w.heap.size,0,none⟩) 1 1,#[.int .u8 q.o,.string q.n,.slice q.a q.l q.c,.slice q.b q.m q.e],36,by simp only[FQ.val]at ex;go_simp,?_⟩
  rw[hp]
  exact ⟨_,_,rfl,H_ (hq.move (kn _).holds) (okB.here hL aW.inv _) (aj rfl)⟩)
theorem fU (f f2:Fm) (x y:Nat) {d:Nat} {ty:TypeId} {pos:String} {bK:Array Edge} {g:Option (Nat×Bool)} (hx:Dep md ops a0 l kA kS M w0 k ⟨some d,.buildSlice 34 2 #[(0,.tmp x),(1,.tmp y)],ty,pos,bK,g⟩ x (FormG L f)) (hy:Dep md ops a0 l kA kS M w0 k ⟨some d,.buildSlice 34 2 #[(0,.tmp x),(1,.tmp y)],ty,pos,bK,g⟩ y (FormG L f2)) (ho:ops[k]?=some ⟨some d,.buildSlice 34 2 #[(0,.tmp x),(1,.tmp y)],ty,pos,bK,g⟩:=by rfl) (hw:Wt md ops a0 l kA kS M w0 k ⟨some d,.buildSlice 34 2 #[(0,.tmp x),(1,.tmp y)],ty,pos,bK,g⟩:=by exact fun _ _ _ _=>rfl) (hp:ie l k=FormsG L [f,f2]:=by rfl):dl md ops Q a0 l kA kS M w0 k:=
 rh hw ho rfl (fun a γ w aW=>by
  obtain ⟨vx,ex,q,rfl,hq⟩:=hx a γ w aW
  obtain ⟨vy,ey,r,rfl,hr⟩:=hy a γ w aW
  refine ⟨.slice (some ⟨w.heap.size,0,none⟩) 2 2,#[.int .u8 q.o,.string q.n,.slice q.a q.l q.c,.slice q.b q.m q.e,.int .u8 r.o,.string r.n,.slice r.a r.l r.c,.slice r.b r.m r.e],36,by simp only[FQ.val]at ex ey;go_simp,?_⟩
  rw[hp]
  exact ⟨_,_,rfl,KX q r _ (aj rfl) (okB.here hL aW.inv _) (hq.move (kn _).holds) (hr.move (kn _).holds)⟩)
theorem jZ (f:Tm) (x:Nat) {d:Nat} {ty:TypeId} {pos:String} {bK:Array Edge} {g:Option (Nat×Bool)} (hx:Dep md ops a0 l kA kS M w0 k ⟨some d,.buildSlice 33 1 #[(0,.tmp x)],ty,pos,bK,g⟩ x (TermG L f)) (ho:ops[k]?=some ⟨some d,.buildSlice 33 1 #[(0,.tmp x)],ty,pos,bK,g⟩:=by rfl) (hw:Wt md ops a0 l kA kS M w0 k ⟨some d,.buildSlice 33 1 #[(0,.tmp x)],ty,pos,bK,g⟩:=by exact fun _ _ _ _=>rfl) (hp:ie l k=TermsG L [f]:=by rfl):dl md ops Q a0 l kA kS M w0 k:=
 rh hw ho rfl (fun a γ w aW=>by
  obtain ⟨vx,ex,q,rfl,hq⟩:=hx a γ w aW
  refine ⟨.slice (some ⟨w.heap.size,0,none⟩) 1 1,#[.bool q.v,.string q.n,.slice q.a q.l q.c],43,by simp only[TQ.val]at ex;go_simp,?_⟩
  rw[hp]
  exact ⟨_,_,rfl,TermsV.one 1 (hq.move (kn _).holds) (okB.here hL aW.inv _) (aj rfl)⟩)
theorem lB (f f2:Tm) (x y:Nat) {d:Nat} {ty:TypeId} {pos:String} {bK:Array Edge} {g:Option (Nat×Bool)} (hx:Dep md ops a0 l kA kS M w0 k ⟨some d,.buildSlice 33 2 #[(0,.tmp x),(1,.tmp y)],ty,pos,bK,g⟩ x (TermG L f)) (hy:Dep md ops a0 l kA kS M w0 k ⟨some d,.buildSlice 33 2 #[(0,.tmp x),(1,.tmp y)],ty,pos,bK,g⟩ y (TermG L f2)) (ho:ops[k]?=some ⟨some d,.buildSlice 33 2 #[(0,.tmp x),(1,.tmp y)],ty,pos,bK,g⟩:=by rfl) (hw:Wt md ops a0 l kA kS M w0 k ⟨some d,.buildSlice 33 2 #[(0,.tmp x),(1,.tmp y)],ty,pos,bK,g⟩:=by exact fun _ _ _ _=>rfl) (hp:ie l k=TermsG L [f,f2]:=by rfl):dl md ops Q a0 l kA kS M w0 k:=
 rh hw ho rfl (fun a γ w aW=>by
  obtain ⟨vx,ex,q,rfl,hq⟩:=hx a γ w aW
  obtain ⟨vy,ey,r,rfl,hr⟩:=hy a γ w aW
  refine ⟨.slice (some ⟨w.heap.size,0,none⟩) 2 2,#[.bool q.v,.string q.n,.slice q.a q.l q.c,.bool r.v,.string r.n,.slice r.a r.l r.c],43,by simp only[TQ.val]at ex ey;go_simp,?_⟩
  rw[hp]
  exact ⟨_,_,rfl,BA q r _ (aj rfl) (okB.here hL aW.inv _) (hq.move (kn _).holds) (hr.move (kn _).holds)⟩)
theorem zr (f f2 h1 h2:Fm) (x y:Nat) {d:Nat} {ty:TypeId} {pos:String} {bK:Array Edge} {g:Option (Nat×Bool)} (hx:Dep md ops a0 l kA kS M w0 k ⟨some d,.buildSlice 22 2 #[(0,.tmp x),(1,.tmp y)],ty,pos,bK,g⟩ x (Jl L f f2)) (hy:Dep md ops a0 l kA kS M w0 k ⟨some d,.buildSlice 22 2 #[(0,.tmp x),(1,.tmp y)],ty,pos,bK,g⟩ y (Jl L h1 h2)) (ho:ops[k]?=some ⟨some d,.buildSlice 22 2 #[(0,.tmp x),(1,.tmp y)],ty,pos,bK,g⟩:=by rfl) (hw:Wt md ops a0 l kA kS M w0 k ⟨some d,.buildSlice 22 2 #[(0,.tmp x),(1,.tmp y)],ty,pos,bK,g⟩:=by exact fun _ _ _ _=>rfl) (hp:ie l k=Hz L [(f,f2),(h1,h2)]:=by rfl):dl md ops Q a0 l kA kS M w0 k:=
 rh hw ho rfl (fun a γ w aW=>by
  obtain ⟨vx,ex,q,r,rfl,hq,hr⟩:=hx a γ w aW
  obtain ⟨vy,ey,q2,r2,rfl,OJ,OK⟩:=hy a γ w aW
  refine ⟨.slice (some ⟨w.heap.size,0,none⟩) 2 2,#[.int .u8 q.o,.string q.n,.slice q.a q.l q.c,.slice q.b q.m q.e,.int .u8 r.o,.string r.n,.slice r.a r.l r.c,.slice r.b r.m r.e,.int .u8 q2.o,.string q2.n,.slice q2.a q2.l q2.c,.slice q2.b q2.m q2.e,.int .u8 r2.o,.string r2.n,.slice r2.a r2.l r2.c,.slice r2.b r2.m r2.e],50,by go_simp,?_⟩
  rw[hp]
  have hx:=aj (w:=w) (o:=.cells #[.int .u8 q.o,.string q.n,.slice q.a q.l q.c,.slice q.b q.m q.e,.int .u8 r.o,.string r.n,.slice r.a r.l r.c,.slice r.b r.m r.e,.int .u8 q2.o,.string q2.n,.slice q2.a q2.l q2.c,.slice q2.b q2.m q2.e,.int .u8 r2.o,.string r2.n,.slice r2.a r2.l r2.c,.slice r2.b r2.m r2.e] 50) rfl
  have C:=fun i=>aL hx i
  refine ⟨_,_,rfl,some ⟨w.heap.size,0,none⟩,2,fun j=>if j=0 then q else q2,fun j=>if j=0 then r else r2,rfl,Nat.le_refl _,.inr ⟨w.heap.size,0,rfl,okB.here hL aW.inv _,fun j hj=>?_⟩,fun j hj=>?_⟩
  ·rcases j with _ | _ | j
   ·exact ⟨(C 0).trans rfl,(C 1).trans rfl,(C 2).trans rfl,(C 3).trans rfl,(C 4).trans rfl,(C 5).trans rfl,(C 6).trans rfl,(C 7).trans rfl⟩
   ·exact ⟨(C 8).trans rfl,(C 9).trans rfl,(C 10).trans rfl,(C 11).trans rfl,(C 12).trans rfl,(C 13).trans rfl,(C 14).trans rfl,(C 15).trans rfl⟩
   ·simp at hj
    omega
  ·rcases j with _ | _ | j
   ·exact ⟨hq.move (kn _).holds,hr.move (kn _).holds⟩
   ·exact ⟨OJ.move (kn _).holds,OK.move (kn _).holds⟩
   ·simp at hj
    omega)
end
end
end Go.Proofs.YtokemihbkeddoaaGreatDoor
