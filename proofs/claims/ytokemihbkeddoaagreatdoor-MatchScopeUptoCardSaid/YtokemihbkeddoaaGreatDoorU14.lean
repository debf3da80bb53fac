/-
'visitForm','freeNames' and 'Free' of package subst. (Printed by gen_mfree.py.)
Contracts of 'copyList','copyTerm','Copy' of package syntax.
-/
import Derived.Test.YtokemihbkeddoaaGreatDoorU00
import Derived.Test.YtokemihbkeddoaaGreatDoorU13
import Derived.Test.YtokemihbkeddoaaGreatDoorU08
import Derived.Test.YtokemihbkeddoaaGreatDoorU05
namespace Go.Proofs.YtokemihbkeddoaaGreatDoor
open Go Go.RowKit Go.Maps Go.Sort Go.Shelf
attribute [local go_sem] Oper.semAt_some
theorem Ab:∀ (f:Fm),fitF f->∀ (M:Nat->Prop) (B l:Nat) (J:List Str->World->Prop) (xs pre:List Str) (W0 W:World) (q:FQ) (mb n:Nat) (bs:List Str),(∀ b,M b->b<W0.heap.size)->W0.heap.size<=mb->(∀ s,Abides W0.heap.size (J s))->YieldK M l J wY xs W0->FormV (fun b=>b<B/\¬M b) W0 q.val f →
  Kp M W0 W->BoundW W mb n bs->n+2 * nodesF f<4000000->bs.length+nodesF f<=4000000->(pre ++ aO bs f) <+: xs->J pre W →
  Calls Tryz.prog 149 #[q.val,.map (some mb),.func (.yield l) #[] #[]] W fun e W'=>e=.returned (.bool true)/\J (pre ++ aO bs f) W'/\Kp M W0 W'/\(∃n',n'<=n+2 * nodesF f/\BoundW W' mb n' bs)/\Kp (fun b=>M b\/b=mb) W W':=by
 intro f
 induction f using Fm.ind with
 | h o nm a ss ih=>
 intro aD M B l J xs pre W0 W q mb n bs hM zG hJ hY hq hk hb hn Vk cV hj
 obtain ⟨va,vs2,h1,ej,xG⟩:=aQ.1 hq
 obtain ⟨uo,un,ua,ul,uc,ub,um,ue⟩:=q
 have pp32b:=();exact pm32
theorem Ac (q:FQ) (w:World) :
  Calls Tryz.prog 85 #[q.val] w fun e w'=>e=.returned (.func (.func 148) #[] #[.pointer (some ⟨w.heap.size,0,none⟩)])/\w'=w.alloc (.cells #[.int .u8 q.o,.string q.n,.slice q.a q.l q.c,.slice q.b q.m q.e] 36):=by
 obtain ⟨o,n,a,l,c,b,m,e⟩:=q
 unfold FQ.val
 go_enter Tryz.func85,Tryz.ntmps85
 go_wp2
 go_ret
 exact ⟨rfl,rfl⟩
attribute [local go_sem] run_makeMap in
theorem Ad (f:Fm) (aD:fitF f) (yd:nodesF f<=1000000) (M:Nat->Prop) (B X:Nat) (w:World) (q:FQ) (hX:w.heap[X]?=some (.cells #[.int .u8 q.o,.string q.n,.slice q.a q.l q.c,.slice q.b q.m q.e] 36 (0,0))) (FP:¬M X) (hq:FormV (fun b=>b<B/\¬M b) w q.val f) :
  Gb M False Tryz.prog 148 #[.pointer (some ⟨X,0,none⟩)] (aO [] f) wY w:=by
 exact pm232
theorem tO {bs:List Str} {l:List Tm} {x:Str} (h:x∈(ar l).filter (fun x=>!bs.contains x)):x∈ar l:=(List.mem_filter.1 h).1
mutual
theorem nd {p:Nat}:∀ (f:Fm) (b:List Str),ks p f=true->∀ x∈aO b f,x.length<=p
 | .mk o n a s,b,h,x,hx=>by
  simp only[ks,Bool.and_eq_true]at h
  unfold aO at hx
  rcases List.mem_append.1 hx with hx | hx
  ·exact mC a h.2.2.1 x (tO hx)
  ·exact Ey s _ h.2.2.2 x hx
theorem Ey {p:Nat}:∀ (l:List Fm) (b:List Str),fd p l=true->∀ x∈bj b l,x.length<=p
 | [],_,_,x,hx=>by simp[bj]at hx
 | t :: l,b,h,x,hx=>by
  simp only[fd,Bool.and_eq_true]at h
  unfold bj at hx
  rcases List.mem_append.1 hx with hx | hx
  ·exact nd t b h.1 x hx
  ·exact Ey l b h.2 x hx
end
theorem oK (t:Fm) (aD:fitF t) (yd:nodesF t<=1000000) (ok:Nat->Prop) (w:World) (q:FQ) (hq:FormV ok w q.val t) :
  Calls Tryz.prog 40 #[q.val] w fun e w'=>(∃v,e=.returned v/\RowS w.heap.size w' v (de (aO [] t)))/\RowKit.Below w.heap.size w w':=by
 have hq:=hq.lt
 have nM:(aO [] t).length<=2000000:=Nat.le_trans (fj t []) aD.1
 obtain ⟨W2,aY⟩:=ao ((w.alloc (.cells #[.int .u8 q.o,.string q.n,.slice q.a q.l q.c,.slice q.b q.m q.e] 36)).alloc (.cells #[.int .u8 q.o,.string q.n,.slice q.a q.l q.c,.slice q.b q.m q.e] 36))
 have bA:RowKit.Below w.heap.size w W2:=by rw[aY];exact ct.alloc (by simp) _
 have hO:=vE aY
 have pi:=iV aY
 have C2:=BU (aO [] t) nM (nd t [] aD.2) 148 #[.pointer (some ⟨w.heap.size+1,0,none⟩)] W2 (enters_of Tryz.func148 (by kernel_rfl) rfl) (fun w1 hb hl=>Ad t aD yd (fun b=>b=W2.heap.size) W2.heap.size (w.heap.size+1) w1 q (bC hb pi) (by omega) ((hq.later (bA.trans (hb.mono bA.size))).move (fun b zar hlt=>⟨⟨by omega,by omega⟩,rfl⟩)))
 exact pm268
end Go.Proofs.YtokemihbkeddoaaGreatDoor
namespace Go.Proofs.YtokemihbkeddoaaGreatDoor
open Go Go.RowKit Lib
set_option maxRecDepth 100000
set_option maxHeartbeats 64000000
section
attribute [local go_sem] Oper.semAt_some
theorem RowT.made {lo:Nat} {W:World} (cur:Array Value) (cap:Nat) (hb:lo<=W.heap.size) (hm:cap<=maxLen) (hs:cur.size=cap * 3):RowT lo (.slice (some ⟨W.heap.size,0,none⟩) 0 cap) [] (W.alloc (.cells cur 43)):=
 ⟨[],rfl,World.ownsRow_made W cur cap hb hm hs,fun j h=>by simp at h⟩
theorem RowF.made {lo:Nat} {W:World} (cur:Array Value) (cap:Nat) (hb:lo<=W.heap.size) (hm:cap<=maxLen) (hs:cur.size=cap * 4):RowF lo (.slice (some ⟨W.heap.size,0,none⟩) 0 cap) [] (W.alloc (.cells cur 36)):=
 ⟨[],rfl,World.ownsRow_made W cur cap hb hm hs,fun j h=>by simp at h⟩
def Rm (t:Tm):Prop:=∀ (ok:Nat->Prop) (w:World) (q:TQ),TermV ok w q.val t->Calls Tryz.prog 107 #[q.val] w fun e w'=>∃p:TQ,e=.returned p.val/\TermV (w.heap.size<=·) w' p.val t/\Below w.heap.size w w'
theorem p_ (l:List Tm) (aD:fitTs l) (Xa:∀ t∈l,Rm t) (ok:Nat->Prop) (w:World) (a:Option Addr) (n c:Nat) (hv:TermsV ok w (.slice a n c) l) :
  Calls Tryz.prog 106 #[.slice a n c,.func (.func 107) #[] #[]] w fun e w'=>∃a' c',e=.returned (.slice a' l.length c')/\TermsV (w.heap.size<=·) w' (.slice a' l.length c') l/\Below w.heap.size w w':=by
 obtain ⟨i0,hi,rq,jS,hO⟩:=info_parts fW
 obtain rfl:=hv.len
 have cq:=aD.len
 by_cases h0:l=[]
 ·subst h0
  go_enter Tryz.func106,Tryz.ntmps106
  go_wp2
  go_ret
  exact ⟨none,0,rfl,bV,Below.refl _ _⟩
 ·obtain ⟨k0,bO⟩:=ao l.length
  have pp228:=();exact pm228
def Rn (t:Fm):Prop:=∀ (ok:Nat->Prop) (w:World) (q:FQ),FormV ok w q.val t->Calls Tryz.prog 51 #[q.val] w fun e w'=>∃p:FQ,e=.returned p.val/\FormV (w.heap.size<=·) w' p.val t/\Below w.heap.size w w'
theorem Ae (l:List Fm) (aD:fitFs l) (Xa:∀ t∈l,Rn t) (ok:Nat->Prop) (w:World) (a:Option Addr) (n c:Nat) (hv:FormsV ok w (.slice a n c) l) :
  Calls Tryz.prog 108 #[.slice a n c,.func (.func 51) #[] #[]] w fun e w'=>∃a' c',e=.returned (.slice a' l.length c')/\FormsV (w.heap.size<=·) w' (.slice a' l.length c') l/\Below w.heap.size w w':=by
 obtain ⟨i0,hi,rq,jS,hO⟩:=info_parts mr
 obtain rfl:=hv.len
 have cq:=aD.len
 by_cases h0:l=[]
 ·subst h0
  go_enter Tryz.func108,Tryz.ntmps108
  go_wp2
  go_ret
  exact ⟨none,0,rfl,jz,Below.refl _ _⟩
 ·obtain ⟨k0,bO⟩:=ao l.length
  exact pm228
theorem Af:∀ (t:Tm),fitT t->Rm t:=by
 intro t
 induction t using Tm.ind with
 | h v n a ih=>
  intro aD ok w q hq
  have pp197e:=();exact pm197
theorem mI:∀ (t:Fm),fitF t->Rn t:=by
 intro t
 induction t using Fm.ind with
 | h o n a s ih=>
  intro aD ok w q hq
  have pp23c:=();exact pm23
end
end Go.Proofs.YtokemihbkeddoaaGreatDoor
