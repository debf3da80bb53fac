/-
'compare' of package match: the first pass at a place. (Printed by gen_mcompare.py.)
'lacksTerm' of package match: whether a metavariable of a term is not known.
-/
import Derived.Test.YtokemihbkeddoaaGreatDoorU00
import Derived.Test.YtokemihbkeddoaaGreatDoorU18
import Derived.Test.YtokemihbkeddoaaGreatDoorU19
import Derived.Deep.Cut
import Derived.Deep.DeepCutAuto
namespace Go.Proofs.YtokemihbkeddoaaGreatDoor
open Go Go.RowKit Lib
set_option maxRecDepth 100000
set_option maxHeartbeats 64000000
section
attribute [local go_sem] Oper.semAt_some
structure PlV (M:Nat->Prop) (W:World) (q:PlQ) (ps:List (Str×Str)) (p:Pl):Prop where
 s:FormV (fun b=>¬M b) W q.s.val p.s
 f:FormV (fun b=>¬M b) W q.f.val p.f
 c:PairsN M W (.slice q.a q.l q.c) ps
 e:p.c=ps.reverse
 l:ps.length<=1000000
def N2 (mF mT:Nat):Nat->Prop:=fun b=>b=mF\/b=mT
theorem Kp.two {M:Nat->Prop} {mF mT:Nat} {X Y:World} (h:Kp (N2 mF mT) X Y) (hF:M mF) (hT:M mT):Kp M X Y:=h.mono (fun b _ hb=>by rcases hb with rfl | rfl;exact hF;exact hT)
def StepPost (M:Nat->Prop) (kb mF mT nF nT:Nat) (W:World) (r:Bd×Int) (e:Ending) (W':World):Prop:=Kp (N2 mF mT) W W'/\e=.returned (.int .i64 r.2)/\(r.2=0->∃uT r',uT<=nF+1/\r'<=nT+400/\KnV (fun b=>¬M b) goodF goodT W' kb mF mT uT r' r.1)
theorem StepPost.bad {M:Nat->Prop} {kb mF mT nF nT:Nat} {W W':World} {r:Bd×Int} {k:Bd} {er:Int} (h:r=(k,er)) (h0:er≠0) (hk:Kp (N2 mF mT) W W'):StepPost M kb mF mT nF nT W r (.returned (.int .i64 er)) W':=by
 subst h;exact ⟨hk,rfl,fun h=>absurd h h0⟩
theorem StepPost.good {M:Nat->Prop} {kb mF mT nF nT:Nat} {W W':World} {r:Bd×Int} {k:Bd} (uT r':Nat) (h:r=(k,0)) (hk:Kp (N2 mF mT) W W') (h1:uT<=nF+1) (h2:r'<=nT+400) (h3:KnV (fun b=>¬M b) goodF goodT W' kb mF mT uT r' k):StepPost M kb mF mT nF nT W r (.returned (.int .i64 0)) W':=by
 subst h;exact ⟨hk,rfl,fun _=>⟨uT,r',h1,h2,h3⟩⟩
def RH (W0:World) (fn:Nat) (step:Bd->Pl->Bd×Int):Prop:=
 ∀ (M:Nat->Prop) (kb mF mT:Nat),M mF->M mT->¬M kb->(∀ b,M b->W0.heap.size<=b)->∀ (p:Pl),PlOk p->nodesF p.s<=400->∀ (W:World) (nF nT:Nat) (k:Bd) (q:PlQ) (ps:List (Str×Str)),(∀ b,M b->b<W.heap.size)->Tabs W0 W →
  KnV (fun b=>¬M b) goodF goodT W kb mF mT nF nT k->nF<3000000->nT+400<=3000000->PlV M W q ps p →
  Calls Tryz.prog fn #[.pointer (some ⟨kb,0,none⟩),q.val] W fun e W'=>StepPost M kb mF mT nF nT W (step k p) e W'
section
variable {F:Fence} {n:Nat} {P:Program} {ops:Array Oper} {Q:Exit->Act->World->Prop} {md:Region.Mode} {S:World->Prop} {e:Nat}
theorem zaY {i j:Nat} {oi oj:Oper} {fuel:Nat} {listed:Array Bool} {a:Act} {w:World} (hi:ops[i]?=some oi) (hj:ops[j]?=some oj) (hr:Region.ready md ops listed=[i,j]) (hwi:Region.wanted oi (yielded ops a.tmps)=true) (hwj:Region.wanted oj (yielded ops a.tmps)=true)
  (h1:∀ K:Act->World->Prop,(∀ a w,(i<e->S w)->((i<e->S w)->e8 F n P md ops Q S e fuel (listed.setIfInBounds i true) a w)->K a w)->Oper.wpIn F n P oi a w K Q)
  (h2:∀ K:Act->World->Prop,(∀ a w,(j<e->S w)->((j<e->S w)->e8 F n P md ops Q S e fuel (listed.setIfInBounds j true) a w)->K a w)->Oper.wpIn F n P oj a w K Q):e8 F n P md ops Q S e (fuel+1) listed a w:=by
 refine ⟨fun h0=>(by rw[hr]at h0;cases h0),fun k hk=>?_⟩
 rw[hr]at hk
 simp only[List.mem_cons,List.not_mem_nil,or_false]at hk
 rcases hk with rfl | rfl
 ·refine wpOpIn_step hi (fun K' JF=>?_)
  rw[if_pos hwi]
  exact h1 K' (fun a w hS hW=>JF a w ⟨hS,hW hS⟩)
 ·refine wpOpIn_step hj (fun K' JF=>?_)
  rw[if_pos hwj]
  exact h2 K' (fun a w hS hW=>JF a w ⟨hS,hW hS⟩)
end
theorem Bi (W:World):StrsN W (.slice none 0 0) []/\∀ b,(Value.slice none 0 0).ownBlock=some b->b<W.heap.size:=⟨⟨none,0,rfl,Nat.le_refl _,.inl ⟨rfl,rfl,rfl⟩⟩,fun b h=>by simp[Value.ownBlock]at h⟩
theorem kX (W:World):(zeroValue 36).run Tryz.prog W=.ok (.agg #[.int .u8 0,.string ⟨#[]⟩,.slice none 0 0,.slice none 0 0]) W:=by kernel_rfl
theorem PlOk.sc {p:Pl} (hp:PlOk p):∀ x∈p.c.map (·.1),x.length<=16:=fun x hx=>gM (hp.c x hx)
theorem PlOk.ps {p:Pl} (hp:PlOk p) {ps:List (Str×Str)} (he:p.c=ps.reverse):∀ x∈ps,x.1.length<=2000000:=fun x hx=>by
 have h:=hp.sc x.1 (List.mem_map.2 ⟨x,by rw[he];simpa using hx,rfl⟩)
 omega
theorem ER {c:Sco} {k:List (Str×Tm)} {a a':List Tm} {j:Nat} (h:j<a.length) (h':j<a'.length):gd c k (a.drop j) (a'.drop j)=match io c [] a'[j] with | none=>none | some im=>match gT (c.map (·.1)) k a[j] im with | some k'=>gd c k' (a.drop (j+1)) (a'.drop (j+1)) | none=>none:=by
 rw[List.drop_eq_getElem_cons h,List.drop_eq_getElem_cons h',gd];rfl
theorem ES (k:Bd) (o o':Int) (n n':Str) (a a':List Tm) (s s':List Fm) (c:Sco):cm k ⟨.mk o n a s,.mk o' n' a' s',c⟩ =
  if o=16 then ((k,0):Bd×Int)
  else if o=15 then match fD c [] (.mk o' n' a' s') with
   | none=>(k,70)
   | some im=>match getB k.fs n with
    | none=>({ k with fs:=gw n im k.fs },0)
    | some g=>if bT [] g im=true then (k,(0:Int)) else (k,70)
  else if o != o' || (a.length != a'.length || (s.length != s'.length || (n != n' && !bn o))) then (k,70)
  else match gd c k.ts a a' with
   | none=>(k,70)
   | some ts=>({ k with ts:=ts },0):=rfl
structure Cmp (W W1:World) (B5 B6:Nat) (S F:Array Value) (W3:World):Prop where
 s:W3.heap[B5]?=some (.cells S 36 (0,0))
 f:W3.heap[B6]?=some (.cells F 36 (0,0))
 b:Below W1.heap.size W1 W3
 n:B5≠B6
 l:W1.heap.size<=B5/\W1.heap.size<=B6
theorem Cmp.one (W W1:World) (S F:Array Value):Cmp W W1 W1.heap.size (W1.heap.size+1) S F ((W1.alloc (.cells S 36)).alloc (.cells F 36)).drew:=
 ⟨(Below.heap_alloc _ _ _ (by simp)).trans (aj rfl),aj (by simp),(ct.alloc (by simp) _).drew,by omega,by omega,by omega⟩
theorem Cmp.two (W W1:World) (S F:Array Value):Cmp W W1 (W1.heap.size+1) W1.heap.size S F ((W1.alloc (.cells F 36)).alloc (.cells S 36)).drew:=
 ⟨aj (by simp),(Below.heap_alloc _ _ _ (by simp)).trans (aj rfl),(ct.alloc (by simp) _).drew,by omega,by omega,by omega⟩
theorem ET (W0:World):RH W0 47 cm:=by
 intro M kb mF mT ON OM OO Tv p hp pA W nF nT k q ps Tw yw dw pN oA hpv
 obtain ⟨⟨o,n,a,s⟩,⟨o',n',a',s'⟩,c⟩:=p
 have pp97c:=();exact pm97
def MZ (pr:Tm->Bool) (fn:Nat) (kb:Nat) (W0:World) (t:Tm):Prop:=∀ (ok:Nat->Prop) (w:World) (q:TQ),Below W0.heap.size W0 w->TermV ok w q.val t →
 Calls Tryz.prog fn #[.pointer (some ⟨kb,0,none⟩),q.val] w fun e w'=>e=.returned (.bool (pr t))/\Below w.heap.size w w'
theorem G_ (pr:Tm->Bool) (l:List Tm) (hl:l.length<=2000000) (kb:Nat) (W0:World) (hp:∀ t∈l,MZ pr 193 kb W0 t) (ok:Nat->Prop) (w:World) (a:Option Addr) (n c:Nat) (hb:Below W0.heap.size W0 w) (hv:TermsV ok w (.slice a n c) l) :
  Calls Tryz.prog 243 #[.slice a n c,.func (.func 193) #[.pointer (some ⟨kb,0,none⟩)] #[]] w fun e w'=>(∃r:Int,e=.returned (.int .i64 r)/\(decide (0<=r)=l.any pr))/\Below w.heap.size w w':=by
 obtain rfl:=hv.len
 obtain ⟨k0,bO⟩:=ao l.length
 rw[<-bO]at hl hv
 rw[<-bO]
 obtain ⟨HK,HV,HP,XM⟩:=eA bO hv hp hb
 clear bO hv hp hb
 go_enter Tryz.func243,Tryz.ntmps243
 have pp166:=();exact pm166
theorem qg (pr:Tm->Bool) (l:List Tm) (hl:l.length<=2000000) (kb:Nat) (W0:World) (hp:∀ t∈l,MZ pr 193 kb W0 t) (ok:Nat->Prop) (w:World) (a:Option Addr) (n c:Nat) (hb:Below W0.heap.size W0 w) (hv:TermsV ok w (.slice a n c) l) :
  Calls Tryz.prog 192 #[.slice a n c,.func (.func 193) #[.pointer (some ⟨kb,0,none⟩)] #[]] w fun e w'=>e=.returned (.bool (l.any pr))/\Below w.heap.size w w':=by
 have CC:=G_ pr l hl kb W0 hp ok w a n c hb hv
 obtain ⟨B,hB⟩:=ao (l.any pr)
 rw[<-hB]at CC ⊢
 have HC:=ab CC
 clear CC hv hb hB hp
 go_enter Tryz.func192,Tryz.ntmps192
 go_wp2_with (go_at_call 243;refine HC.o.mono ?_;rintro e w4 ⟨⟨r,rfl,hr⟩,aN⟩;have H4:=aF hr aN;clear hr aN)
 go_ret
 exact ⟨by rw[<-H4.o.1];rfl,H4.o.2⟩
theorem oN (k:List (Str×Tm)):∀ l,lP k l=l.any (ip k)
 | []=>rfl
 | t :: l=>by simp only[lP,List.any_cons,oN k l]
theorem Al (W0:World) (PF:Fm->Prop) (PT:Tm->Prop) (lN:Nat->Prop) (kb mF mT nF nT:Nat) (k:Bd) (dw:KnV lN PF PT W0 kb mF mT nF nT k):∀ t,fitT t->MZ (ip k.ts) 193 kb W0 t:=by
 have FZ:=ab dw
 clear dw
 have pp190c:=();exact pm190
end
end Go.Proofs.YtokemihbkeddoaaGreatDoor
