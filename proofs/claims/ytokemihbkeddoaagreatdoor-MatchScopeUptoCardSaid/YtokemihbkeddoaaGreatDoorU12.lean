/-
The contract of 'image' of package match. (Printed by gen_mimage.py.)
What is said of values in a region that draws its order and fills one box (the ghost: the box,and whether it is filled).
-/
import Derived.Test.YtokemihbkeddoaaGreatDoorU00
import Derived.Test.YtokemihbkeddoaaGreatDoorU11
import Derived.Test.YtokemihbkeddoaaGreatDoorU01
import Derived.Test.YtokemihbkeddoaaGreatDoorU09
namespace Go.Proofs.YtokemihbkeddoaaGreatDoor
open Go Go.RowKit Lib
set_option maxRecDepth 100000
set_option maxHeartbeats 64000000
section
attribute [local go_sem] Oper.semAt_some
theorem nH {c:Sco} {ins:List Str} {l:List Fm} {k:Nat} (h:k<l.length):ek c ins (l.take (k+1))=match ek c ins (l.take k),fD c ins l[k] with | some us,some u=>some (us ++ [u]) | _,_=>none:=by
 induction l generalizing k with
 | nil=>simp at h
 | cons t l ih=>
  cases k with
  | zero=>
   simp only[List.take_succ_cons,List.take_zero,List.getElem_cons_zero,ek]
   cases fD c ins t <;> rfl
  | succ k=>
   have:=ih (k:=k) (by simpa using h)
   simp only[List.take_succ_cons,List.getElem_cons_succ,ek]
   rw[this]
   cases fD c ins t <;> cases ek c ins (l.take k) <;> cases fD c ins (l[k]'(by simpa using h)) <;> rfl
theorem xV {c:Sco} {ins:List Str} {l:List Fm} {t:Fm} (ht:t∈l) (h:fD c ins t=none):ek c ins l=none:=by
 induction l with
 | nil=>cases ht
 | cons u l ih=>
  rcases List.mem_cons.1 ht with rfl | ht
  ·simp[ek,h]
  ·simp only[ek,ih ht]
   cases fD c ins u <;> rfl
theorem xW {X:World} {B:Nat} {c0 c1 c2 c3:Value} {T:TypeId} (hx:X.heap[B]?=some (.cells #[c0,c1,c2,c3] T (0,0))) (v0 v1 v2 v3:Value):∃W6,W6=(((X.setCell ⟨B,0,none⟩ v0).setCell ⟨B,1,none⟩ v1).setCell ⟨B,2,none⟩ v2).setCell ⟨B,3,none⟩ v3/\W6.heap[B]?=some (.cells #[v0,v1,v2,v3] T (0,0))/\Kp (fun b=>b=B) X W6/\W6.cell? ⟨B,0,none⟩=some v0/\W6.cell? ⟨B,1,none⟩=some v1/\W6.cell? ⟨B,2,none⟩=some v2/\W6.cell? ⟨B,3,none⟩=some v3:=
 have h:=kf (v0:=v0) (v1:=v1) (v2:=v2) (v3:=v3) hx
 ⟨_,rfl,h,di,ai h 0,ai h 1,ai h 2,ai h 3⟩
theorem cW {X:World} {B:Nat} {c0 c1 c2 c3:Value} {T:TypeId} (hx:X.heap[B]?=some (.cells #[c0,c1,c2,c3] T (0,0))):X.cell? ⟨B,0,none⟩=some c0/\X.cell? ⟨B,1,none⟩=some c1/\X.cell? ⟨B,2,none⟩=some c2/\X.cell? ⟨B,3,none⟩=some c3/\X.frozen? ⟨B,0,none⟩=false/\X.frozen? ⟨B,1,none⟩=false/\X.frozen? ⟨B,2,none⟩=false/\X.frozen? ⟨B,3,none⟩=false:=
 ⟨ai hx 0,ai hx 1,ai hx 2,ai hx 3,ae hx 0,ae hx 1,ae hx 2,ae hx 3⟩
def StrsN (W:World) (v:Value) (l:List Str):Prop:=∃a cap,v=.slice a l.length cap/\l.length<=cap/\((l=[]/\a=none/\cap=0)\/∃b off,a=some ⟨b,off,none⟩/\∀ j (h:j<l.length),W.cell? ⟨b,off+j,none⟩=some (.string ⟨l[j].toArray⟩))
theorem StrsN.strs {W:World} {v:Value} {l:List Str} (h:StrsN W v l):StrsO (fun _=>True) W v l:=by
 have pp250c:=();exact pm250
theorem StrsN.later {W W':World} {v:Value} {l:List Str} (h:StrsN W v l) (hb:Below W.heap.size W W'):StrsN W' v l:=by
 exact pm131
def StrsN.Far (v:Value) (M:Nat->Prop):Prop:=∀ b,v.ownBlock=some b->¬M b
theorem StrsN.kp {W W':World} {v:Value} {l:List Str} {M:Nat->Prop} (h:StrsN W v l) (hk:Kp M W W') (hf:StrsN.Far v M):StrsN W' v l:=by
 have pp250d:=();exact pm250
theorem StrsN.old {W:World} {v:Value} {l:List Str} (h:StrsN W v l) (hl:l≠[]):∀ b,v.ownBlock=some b->b<W.heap.size:=by
 obtain ⟨a,cap,rfl,hc,h⟩:=h
 rcases h with ⟨h,_⟩ | ⟨b,off,rfl,h⟩
 ·exact absurd h hl
 ·intro b' hb
  cases hb
  exact World.block_lt_of_cell? W _ (h 0 (List.length_pos_iff.2 hl))
theorem StrsN.nil (W:World):StrsN W (.slice none 0 0) []:=⟨none,0,rfl,Nat.le_refl _,.inl ⟨rfl,rfl,rfl⟩⟩
theorem StrsN.own {W:World} {base g n c:Nat} {l:List Str} (h:W.ownsRow base 9 1 (.slice (some ⟨g,0,none⟩) n c) n (l.map encStr)):StrsN W (.slice (some ⟨g,0,none⟩) n c) l:=by
 have hl:n=l.length:=by have:=h.1;simp at this;omega
 subst hl
 obtain ⟨a,cap,hv,hc,h⟩:=OwnS.strs (lo:=base) h
 injection hv with h1 _ h3
 subst h3
 refine ⟨_,_,rfl,hc,.inr ⟨g,0,rfl,fun j hj=>?_⟩⟩
 rcases h with rfl | ⟨b,off,ha,_,hcl⟩
 ·simp at hj
 ·rw[ha]at h1
  injection h1 with h1
  injection h1 with h1 h2
  subst h1;subst h2
  exact hcl j hj
theorem AW (q:PlQ) (ps:List (Str×Str)) (kP:ps.length<=1000000) (gh:∀ p∈ps,p.1.length<=2000000) :
  ∀ (f:Fm),fitF f->∀ (L ins:List Str),L.length+nodesF f<=2000000->(∀ y,L.contains y=ins.contains y)->∀ (vL:Value) (ok:Nat->Prop) (w:World) (fq:FQ),PairsV w (.slice q.a q.l q.c) ps->(StrsN w vL L/\∀ b,vL.ownBlock=some b->b<w.heap.size)->FormV ok w fq.val f →
  Calls Tryz.prog 91 #[q.val,fq.val,vL] w fun e w'=>(∃p:FQ,e=.returned (.tuple #[p.val,.bool (fD ps.reverse ins f).isSome])/\∀ u,fD ps.reverse ins f=some u->FormV (w.heap.size<=·) w' p.val u)/\Below w.heap.size w w':=by
 have pp180b:=();exact pm180
end
abbrev Bx:=Option Nat×Bool
def okB (L:Nat->Prop) (γ:Bx) (w:World) (b:Nat):Prop:=L b/\b<w.heap.size/\γ.1≠some b
def Gr (γ:Bx) (w:World) (dx:Bx) (w':World):Prop:=
 (dx=γ/\Below w.heap.size w w')\/(γ.1=none/\dx=(some w.heap.size,false)/\w.heap.size<w'.heap.size/\Below w.heap.size w w')\/(∃b,γ=(some b,false)/\dx=(some b,true)/\Kp (fun c=>c=b) w w')
theorem Gr.keep {γ:Bx} {w w':World} (h:Below w.heap.size w w'):Gr γ w γ w':=.inl ⟨rfl,h⟩
theorem Gr.refl {γ:Bx} {w:World}:Gr γ w γ w:=.inl ⟨rfl,Below.refl _ _⟩
theorem Gr.holds {L:Nat->Prop} {γ dx:Bx} {w w':World} (h:Gr γ w dx w'):el (okB L γ w) (okB L dx w') w w':=by
 rintro b ⟨h1,h2,h3⟩ hlt
 rcases h with ⟨rfl,hb⟩ | ⟨_,rfl,_,hb⟩ | ⟨c,rfl,rfl,hk⟩
 ·exact ⟨⟨h1,Nat.lt_of_lt_of_le h2 hb.size,h3⟩,hb.block b hlt⟩
 ·exact ⟨⟨h1,Nat.lt_of_lt_of_le h2 hb.size,fun e=>by cases e;omega⟩,hb.block b hlt⟩
 ·exact ⟨⟨h1,Nat.lt_of_lt_of_le h2 hk.size,h3⟩,hk.same b hlt (fun e=>h3 (by rw[e]))⟩
theorem Gr.size {γ dx:Bx} {w w':World} (h:Gr γ w dx w'):w.heap.size<=w'.heap.size:=by
 rcases h with ⟨_,hb⟩ | ⟨_,_,_,hb⟩ | ⟨_,_,_,hk⟩
 ·exact hb.size
 ·exact hb.size
 ·exact hk.size
def IG (M:Nat->Prop) (w0:World) (γ:Bx) (w:World):Prop:=Kp M w0 w/\(∀ b,γ.1=some b->(w0.heap.size<=b\/M b)/\b<w.heap.size)/\∀ b,M b->γ.1=some b/\(γ.2=false->w.heap[b]?=w0.heap[b]?)
theorem IG.step {M:Nat->Prop} {w0:World} {γ dx:Bx} {w w':World} (hG:Gr γ w dx w') (h:IG M w0 γ w):IG M w0 dx w':=by
 rcases hG with ⟨rfl,hb⟩ | ⟨hn,rfl,hlt,hb⟩ | ⟨c,rfl,rfl,hk⟩
 ·exact ⟨h.1.trans (Kp.below hb),fun b e=>⟨(h.2.1 b e).1,Nat.lt_of_lt_of_le (h.2.1 b e).2 hb.size⟩,fun b hm=>⟨(h.2.2 b hm).1,fun e=>(hb.block b (h.2.1 b (h.2.2 b hm).1).2).trans ((h.2.2 b hm).2 e)⟩⟩
 ·exact ⟨h.1.trans (Kp.below hb),fun b Ra=>by cases Ra;exact ⟨.inl h.1.size,hlt⟩,fun b hm=>by have:=(h.2.2 b hm).1;rw[hn]at this;cases this⟩
 ·refine ⟨⟨hk.os.trans h.1.os,hk.tape.trans h.1.tape,hk.output.trans h.1.output,Nat.le_trans h.1.size hk.size,fun b hb hm=>?_⟩,fun b e=>⟨(h.2.1 b e).1,Nat.lt_of_lt_of_le (h.2.1 b e).2 hk.size⟩,fun b hm=>⟨(h.2.2 b hm).1,fun e=>by cases e⟩⟩
  refine (hk.same b (Nat.lt_of_lt_of_le hb h.1.size) (fun e=>?_)).trans (h.1.same b hb hm)
  rcases (h.2.1 c rfl).1 with h2 | h2
  ·omega
  ·exact hm (e ▸ h2)
def PsB (kA kS k:Nat) (γ:Bx):Prop:=(k=kA->γ.1=none)/\(k=kS->γ.2=false)
theorem PsB.same {kA kS k:Nat} {γ:Bx}:∀ j,j≠k->PsB kA kS j γ->PsB kA kS j γ:=fun _ _ h=>h
/-! facts -/
def FormG (L:Nat->Prop) (f:Fm) (v:Value) (γ:Bx) (w:World):Prop:=∃q:FQ,v=q.val/\FormV (okB L γ w) w q.val f
def TermG (L:Nat->Prop) (t:Tm) (v:Value) (γ:Bx) (w:World):Prop:=∃q:TQ,v=q.val/\TermV (okB L γ w) w q.val t
def FormsG (L:Nat->Prop) (l:List Fm) (v:Value) (γ:Bx) (w:World):Prop:=∃a c,v=.slice a l.length c/\FormsV (okB L γ w) w (.slice a l.length c) l
def TermsG (L:Nat->Prop) (l:List Tm) (v:Value) (γ:Bx) (w:World):Prop:=∃a c,v=.slice a l.length c/\TermsV (okB L γ w) w (.slice a l.length c) l
def BindG (L:Nat->Prop) (b:Bd) (v:Value) (γ:Bx) (w:World):Prop:=∃q:BQ,v=q.val/\BindV (okB L γ w) w q b
def StrsG (L:Nat->Prop) (l:List Str) (v:Value) (γ:Bx) (w:World):Prop:=StrsO (okB L γ w) w v l
theorem FormG.step {L:Nat->Prop} {f:Fm} {v:Value} {γ dx:Bx} {w w':World} (hG:Gr γ w dx w'):FormG L f v γ w->FormG L f v dx w':=fun ⟨q,e,h⟩=>⟨q,e,h.move hG.holds⟩
theorem TermG.step {L:Nat->Prop} {f:Tm} {v:Value} {γ dx:Bx} {w w':World} (hG:Gr γ w dx w'):TermG L f v γ w->TermG L f v dx w':=fun ⟨q,e,h⟩=>⟨q,e,h.move hG.holds⟩
theorem FormsG.step {L:Nat->Prop} {f:List Fm} {v:Value} {γ dx:Bx} {w w':World} (hG:Gr γ w dx w'):FormsG L f v γ w->FormsG L f v dx w':=fun ⟨a,c,e,h⟩=>⟨a,c,e,h.move hG.holds⟩
theorem TermsG.step {L:Nat->Prop} {f:List Tm} {v:Value} {γ dx:Bx} {w w':World} (hG:Gr γ w dx w'):TermsG L f v γ w->TermsG L f v dx w':=fun ⟨a,c,e,h⟩=>⟨a,c,e,h.move hG.holds⟩
theorem BindG.step {L:Nat->Prop} {f:Bd} {v:Value} {γ dx:Bx} {w w':World} (hG:Gr γ w dx w'):BindG L f v γ w->BindG L f v dx w':=fun ⟨q,e,h⟩=>⟨q,e,h.move hG.holds⟩
theorem StrsG.step {L:Nat->Prop} {l:List Str} {v:Value} {γ dx:Bx} {w w':World} (hG:Gr γ w dx w'):StrsG L l v γ w->StrsG L l v dx w':=fun h=>h.move hG.holds
theorem okB.new {M:Nat->Prop} {w0:World} {L:Nat->Prop} {γ:Bx} {w w':World} (hI:IG M w0 γ w) (hlo:∀ b,w.heap.size<=b->L b):el (w.heap.size<=·) (okB L γ w') w' w':=fun b hb hlt=>
 ⟨⟨hlo b hb,hlt,fun e=>by
  have:=(hI.2.1 b e).2
  have Ra:w.heap.size<=b:=hb
  omega⟩,rfl⟩
theorem FormG.new {M:Nat->Prop} {w0:World} {L:Nat->Prop} {γ:Bx} {w w':World} (hI:IG M w0 γ w) (hlo:∀ b,w.heap.size<=b->L b) {q:FQ} {f:Fm} (h:FormV (w.heap.size<=·) w' q.val f):FormG L f q.val γ w':=⟨q,rfl,h.move (okB.new hI hlo)⟩
def RowG (L:Nat->Prop) (cs:Array Value) (T:TypeId) (m:Nat) (v:Value) (γ:Bx) (w:World):Prop:=∃b,v=.slice (some ⟨b,0,none⟩) m m/\okB L γ w b/\w.heap[b]?=some (.cells cs T (0,0))
theorem RowG.step {L:Nat->Prop} {cs:Array Value} {T:TypeId} {m:Nat} {v:Value} {γ dx:Bx} {w w':World} (hG:Gr γ w dx w'):RowG L cs T m v γ w->RowG L cs T m v dx w':=fun ⟨b,e,h1,h2⟩=>
 have h:=hG.holds b h1 (bl h2)
 ⟨b,e,h.1,h.2.trans h2⟩
theorem RowG.new {M:Nat->Prop} {w0:World} {L:Nat->Prop} {γ:Bx} {w:World} (hI:IG M w0 γ w) (hlo:∀ b,w.heap.size<=b->L b) (cs:Array Value) (T:TypeId) (m:Nat):RowG L cs T m (.slice (some ⟨w.heap.size,0,none⟩) m m) γ (w.alloc (.cells cs T)):=
 ⟨_,rfl,(okB.new hI hlo _ (Nat.le_refl _) (by simp)).1,aj rfl⟩
def NamesG (l:List Str) (v:Value) (γ:Bx) (w:World):Prop:=StrsN w v l/\∀ b,v.ownBlock=some b->okB (fun _=>True) γ w b
theorem NamesG.step {l:List Str} {v:Value} {γ dx:Bx} {w w':World} (hG:Gr γ w dx w'):NamesG l v γ w->NamesG l v dx w':=by
 rintro ⟨⟨a,cap,rfl,hc,h⟩,h2⟩
 have h3:∀ b,(Value.slice a l.length cap).ownBlock=some b->okB (fun _=>True) dx w' b/\w'.heap[b]?=w.heap[b]?:=fun b hb=>hG.holds b (h2 b hb) (h2 b hb).2.1
 refine ⟨⟨a,cap,rfl,hc,?_⟩,fun b hb=>(h3 b hb).1⟩
 rcases h with h | ⟨b,off,rfl,h⟩
 ·exact .inl h
 ·exact .inr ⟨b,off,rfl,fun j hj=>(World.cell?_of_block (a:=⟨b,off+j,none⟩) (h3 b rfl).2).trans (h j hj)⟩
def BoxG (z:Array Value) (T:TypeId) (v:Value) (γ:Bx) (w:World):Prop:=∃b,v=.pointer (some ⟨b,0,none⟩)/\γ.1=some b/\b<w.heap.size/\(γ.2=false->w.heap[b]?=some (.cells z T (0,0)))
theorem BoxG.step {z:Array Value} {T:TypeId} {v:Value} {γ dx:Bx} {w w':World} (hG:Gr γ w dx w'):BoxG z T v γ w->BoxG z T v dx w':=by
 rintro ⟨b,rfl,h1,h2,h3⟩
 rcases hG with ⟨rfl,hb⟩ | ⟨h,_⟩ | ⟨c,rfl,rfl,hk⟩
 ·exact ⟨b,rfl,h1,Nat.lt_of_lt_of_le h2 hb.size,fun h=>(hb.block b h2).trans (h3 h)⟩
 ·rw[h]at h1;cases h1
 ·exact ⟨b,rfl,h1,Nat.lt_of_lt_of_le h2 hk.size,fun h=>by cases h⟩
def SetG (R:Array Value->Bx->World->Prop) (T:TypeId) (γ:Bx) (w:World):Prop:=∃b cs,γ=(some b,true)/\w.heap[b]?=some (.cells cs T (0,0))/\R cs γ w
theorem SetG.step {R:Array Value->Bx->World->Prop} {T:TypeId} {γ dx:Bx} {w w':World} (hR:∀ cs,R cs γ w->R cs dx w') (hG:Gr γ w dx w'):SetG R T γ w->SetG R T dx w':=by
 rintro ⟨b,cs,rfl,h2,h3⟩
 rcases hG with ⟨rfl,hb⟩ | ⟨h,_⟩ | ⟨c,h,_⟩
 ·exact ⟨b,cs,rfl,(hb.block b (bl h2)).trans h2,hR cs h3⟩
 ·cases h
 ·cases h
theorem rR {γ:Bx} {w:World} (o:Obj) (h:γ.1=none):Gr γ w (some w.heap.size,false) (w.alloc o):=.inr (.inl ⟨h,rfl,by simp,ct⟩)
theorem pu {kA kS:Nat} {γ:Bx} {n:Nat}:∀ j,j≠kA->PsB kA kS j γ->PsB kA kS j (some n,false):=fun _ hj _=>⟨fun e=>absurd e hj,fun _=>rfl⟩
theorem rS {z:Array Value} {T:TypeId} {w:World}:BoxG z T (.pointer (some ⟨w.heap.size,0,none⟩)) (some w.heap.size,false) (w.alloc (.cells z T)):=⟨_,rfl,rfl,by simp,fun _=>aj rfl⟩
theorem ij {b:Nat} {w w':World} (h:Kp (fun c=>c=b) w w'):Gr (some b,false) w (some b,true) w':=.inr (.inr ⟨b,rfl,rfl,h⟩)
theorem mG {kA kS:Nat} {b:Nat}:∀ j,j≠kS->PsB kA kS j (some b,false)->PsB kA kS j (some b,true):=fun _ hj h=>⟨fun e=>h.1 e,fun e=>absurd e hj⟩
theorem bw {t:Array Value} {d:Nat} {v:Value} (h:t[d]?=some v):t.getD d undef=v:=by
 obtain ⟨hlt,hv⟩:=Array.getElem?_eq_some_iff.1 h
 simp[Array.getD,hlt,hv]
end Go.Proofs.YtokemihbkeddoaaGreatDoor
