/-
'visitForm','freeNames' of package subst.
-/
import Derived.Test.YtokemihbkeddoaaGreatDoorU06
namespace Go.Proofs.YtokemihbkeddoaaGreatDoor
open Go Go.RowKit Lib
set_option maxRecDepth 100000
set_option maxHeartbeats 64000000
variable {M:Nat->Prop} {W0:World} {B mb n l s:Nat} {pre bs:List Str} {α:Type}
section
attribute [local go_sem] Oper.semAt_some
theorem Wk (mb n c0 c1:Nat) (bs:List Str) (x:Str) (hx:x.length<=2000000) (W:World) (h0:W.cell? ⟨c0,0,none⟩=some (.map (some mb))) (hb:BoundW W mb n bs) (hc:0<bs.count x) :
  Calls Tryz.prog 213 #[.string ⟨x.toArray⟩,.pointer (some ⟨c0,0,none⟩),.pointer (some ⟨c1,0,none⟩)] W fun e w'=>e=.returned (.bool true)/\w'=W:=by
 have hr:=hb.look hx W rfl;obtain ⟨k,hk⟩:=am (bs.count x);rw[<-hk]at hr hc;have hd:decide ((0:Int)<(k:Int))=true:=by simp;omega
 have Uf:(0:Int)<(k:Int):=by omega
 clear hb hk hc;go_enter Tryz.func213,Tryz.ntmps213;go_wp2;go_ret;exact ⟨rfl,rfl⟩
theorem SD (mb n l c0 c1:Nat) (bs:List Str) (x:Str) (hx:x.length<=2000000) (W:World) (R:World->Prop) (h0:W.cell? ⟨c0,0,none⟩=some (.map (some mb))) (h1:W.cell? ⟨c1,0,none⟩=some (.func (.yield l) #[] #[])) (hb:BoundW W mb n bs) (hc:bs.count x=0)
  (hy:YieldAt Fence.wide 0 Tryz.prog l #[.string ⟨x.toArray⟩] W fun e W'=>e=.returned (.bool true)/\R W') :
  Calls Tryz.prog 213 #[.string ⟨x.toArray⟩,.pointer (some ⟨c0,0,none⟩),.pointer (some ⟨c1,0,none⟩)] W fun e w'=>e=.returned (.bool true)/\R w':=by
 have hr:=hb.look hx W rfl;rw[hc]at hr;have hr:(Instr.lookup 198 (.map (some mb)) (.string ⟨x.toArray⟩) false).run Tryz.prog W=.ok (.int .i64 0) W:=hr;obtain ⟨fn,tmps,assign,body,hy,GR⟩:=jK 2 hy;clear hb hc;refine m4 Tryz.func213 ?_;simp only[Tryz.ntmps213,Nat.reduceAdd,Nat.reduceSub,lu];have iz:=fd;gi_wp2;refine GR.mono ?_;rintro e W2 ⟨rfl,hR⟩;have HR:=ac hR;clear hR GR hy hr;gi_wp2;go_ret;exact ⟨rfl,HR.o⟩
structure FrJ (J:List Str->World->Prop) (pre:List Str) (M:Nat->Prop) (W0:World) (mb n:Nat) (bs:List Str) (l s:Nat) (p:List Str) (X:World):Prop where
 j:J (pre ++ p.filter (fun x=>!bs.contains x)) X
 kp:Kp M W0 X
 bd:BoundW X mb n bs
 b1:X.heap[s+1]?=some (.cells #[.map (some mb)] 198 (0,0))
 b2:X.heap[s+2]?=some (.cells #[.func (.yield l) #[] #[]] 113 (0,0))
theorem Pv {X Y:World} (h:Kp M W0 X) (hn:Nw B X Y) (hB:W0.heap.size<=B):Kp M W0 Y:=
 ⟨hn.os.trans h.os,hn.tape.trans h.tape,hn.output.trans h.output,aU h.size hn.size,fun b hb hm=>(hn.old (by omega) (bH hb h.size)).trans (h.same b hb hm)⟩
theorem FrJ.abides {J:List Str->World->Prop} (hJ:∀ s,Abides W0.heap.size (J s)) (h0:W0.heap.size<=B) (hm:mb<B) (hs:s+2<B) (p:List Str):Abides B (FrJ J pre M W0 mb n bs l s p):=by
 intro X Y hn h;exact ⟨(hJ _).mono h0 X Y hn h.j,Pv h.kp hn h0,h.bd.same (hn.old hm h.bd.lt),(hn.old (by omega) (bz h.b1)).trans h.b1,(hn.old (by omega) (bz h.b2)).trans h.b2⟩
theorem Dc (g:α->Bool) {a b:List α} (h:a <+: b):a.filter g <+: b.filter g:=by
 obtain ⟨r,rfl⟩:=h;rw[List.filter_append];exact ⟨_,rfl⟩
theorem J3 {p:List α} {x:α} {xs:List α} (h:(p ++ [x]) <+: xs):x∈xs:=h.subset (by simp)
theorem Wl {J:List Str->World->Prop} {xs:List Str} {a:List Tm} (hM:∀ b,M b->b<W0.heap.size) (Cu:W0.heap.size<=mb) (hs:W0.heap.size<=s) (hY:YieldK M l J z8 xs W0) (hfit:fitTs a)
  (dx:(pre ++ (ap a).filter (fun x=>!bs.contains x)) <+: xs):FrG (fun b=>M b\/b=mb) (s+1) (s+2) (FrJ J pre M W0 mb n bs l s) (ap a):=by
 intro p x W1 h hp;have hxm:=J3 hp;have wM:x.length<=2000000:=og a hfit.2 x hxm;have c0:W1.cell? ⟨s+1,0,none⟩=some (.map (some mb)):=ah h.b1 0;have c1:W1.cell? ⟨s+2,0,none⟩=some (.func (.yield l) #[] #[]):=ah h.b2 0
 by_cases hc:bs.contains x=true
 ·have hm:x∈bs:=by simpa using hc
  have hf:(p ++ [x]).filter (fun x=>!bs.contains x)=p.filter (fun x=>!bs.contains x):=by simp[List.filter_append,hm]
  refine (Wk mb n (s+1) (s+2) bs x wM W1 c0 h.bd (List.count_pos_iff.2 (by simpa using hc))).mono ?_;rintro e w' ⟨rfl,rfl⟩;exact ⟨rfl,⟨by rw[hf];exact h.j,h.kp,h.bd,h.b1,h.b2⟩,Kp.refl _⟩
 ·have hm:¬x∈bs:=by simpa using hc
  have hf:(p ++ [x]).filter (fun x=>!bs.contains x)=p.filter (fun x=>!bs.contains x) ++ [x]:=by simp[List.filter_append,hm]
  have hpx:(pre ++ p.filter (fun x=>!bs.contains x) ++ [x]) <+: xs:=by
   have h1:=Dc (fun x=>!bs.contains x) hp;rw[hf]at h1;obtain ⟨r,hr⟩:=h1;rw[<-hr]at dx;obtain ⟨r2,RW⟩:=dx;exact ⟨r ++ r2,by rw[<-RW];simp⟩
  have hy:=hY (pre ++ p.filter (fun x=>!bs.contains x)) #[.string ⟨x.toArray⟩] x W1 h.j h.kp rfl hpx;refine (SD mb n l (s+1) (s+2) bs x wM W1 (fun W'=>J (pre ++ p.filter (fun x=>!bs.contains x) ++ [x]) W'/\Kp M W1 W') c0 c1 h.bd (by
   rw[List.count_eq_zero];simpa using hc) hy).mono ?_
  rintro e w' ⟨rfl,hj,hk⟩;have dD:∀ b,W0.heap.size<=b->¬M b:=fun b hb h=>by have:=hM b h;omega
  have l1:=(bz h.b1);have l2:=(bz h.b2);refine ⟨rfl,⟨by rw[hf,<-List.append_assoc];exact hj,h.kp.trans hk,h.bd.same (hk.same mb h.bd.lt (dD mb Cu)),(hk.same _ l1 (dD _ (by omega))).trans h.b1,(hk.same _ l2 (dD _ (by omega))).trans h.b2⟩,hk.mono (fun b _ hb=>.inl hb)⟩
theorem ot {b:List Str} {l:List Fm} {k:Nat} (h:k<l.length):bq b (l.take (k+1))=bq b (l.take k) ++ aL b l[k]:=by
 induction l generalizing k with
 | nil=>simp at h
 | cons t l ih=>
  cases k with
  | zero=>simp[bq]
  | succ k=>have:=ih (k:=k) (by simpa using h);simp[bq]at this ⊢;rw[this]
theorem nK (b:List Str):∀ l m,bq b (l ++ m)=bq b l ++ bq b m
 | [],m=>rfl
 | t :: l,m=>by simp[bq,nK b l m]
theorem SE (mb n s:Nat) (bs:List Str) (x:Str) (hx:x.length<=2000000) (hn:n<4000000) (hl:bs.length<=4000000) (u:FrameMode) (W:World) (h0:W.cell? ⟨s+1,0,none⟩=some (.map (some mb))) (h1:W.cell? ⟨s,1,none⟩=some (.string ⟨x.toArray⟩)) (hb:BoundW W mb n (x :: bs)) :
  CallsD Tryz.prog 215 #[.pointer (some ⟨s+1,0,none⟩),.pointer (some ⟨s,0,none⟩)] u W fun e u' w'=>u'=u/\(e=.returned (.tuple #[])/\BoundW w' mb (n+1) bs/\W.grownBy w' (some mb)/\w'.heap.size=W.heap.size/\∀ B,B<=mb->Nw B W w'):=by
 have hr:=hb.look hx W rfl;obtain ⟨w4,cR,aO,wg,Fg,I8⟩:=hb.store (bs':=bs) hn hx (fun y hy=>by rw[List.count_cons_of_ne];exact fun h=>hy h.symm);have hcl:bs.count x<=4000000:=aU List.count_le_length hl;rw[List.count_cons_self]at hr;obtain ⟨k,hk⟩:=am (bs.count x);rw[<-hk]at hr cR hcl;have hr:(Instr.lookup 198 (.map (some mb)) (.string ⟨x.toArray⟩) false).run Tryz.prog W=.ok (.int .i64 ((k:Int)+1)) W:=by rw[hr];rfl
 have HQ:=cG aO wg Fg I8;clear hb hk aO wg Fg I8 hl;go_enter_d Tryz.func215,Tryz.ntmps215;go_wp2;go_end0;exact ⟨rfl,HQ.o⟩
end
end Go.Proofs.YtokemihbkeddoaaGreatDoor
namespace Go.Proofs.YtokemihbkeddoaaGreatDoor
open Go Go.RowKit Go.Maps Go.Sort Go.Shelf
attribute [local go_sem] Oper.semAt_some
theorem Dd:∀ (f:Fm),fitF f->∀ (M:Nat->Prop) (B l:Nat) (J:List Str->World->Prop) (xs pre:List Str) (W0 W:World) (q:FQ) (mb n:Nat) (bs:List Str),(∀ b,M b->b<W0.heap.size)->W0.heap.size<=mb->(∀ s,Abides W0.heap.size (J s))->YieldK M l J z8 xs W0->FormV (fun b=>b<B/\¬M b) W0 q.val f →
  Kp M W0 W->BoundW W mb n bs->n+2 * nodesF f<4000000->bs.length+nodesF f<=4000000->(pre ++ aL bs f) <+: xs->J pre W →
  Calls Tryz.prog 149 #[q.val,.map (some mb),.func (.yield l) #[] #[]] W fun e W'=>e=.returned (.bool true)/\J (pre ++ aL bs f) W'/\Kp M W0 W'/\(∃n',n'<=n+2 * nodesF f/\BoundW W' mb n' bs)/\Kp (fun b=>M b\/b=mb) W W':=by
 intro f
 induction f using Fm.ind with
 | h o nm a ss ih=>
 intro hfit M B l J xs pre W0 W q mb n bs hM Cu hJ hY hq hk hb hn JD dx hj;obtain ⟨va,vs2,h1,e_,Au⟩:=aT.1 hq;obtain ⟨uo,un,ua,ul,uc,ub,um,ue⟩:=q;have pp35b:=();exact pm35
theorem De (q:FQ) (w:World) :
  Calls Tryz.prog 85 #[q.val] w fun e w'=>e=.returned (.func (.func 148) #[] #[.pointer (some ⟨w.heap.size,0,none⟩)])/\w'=w.alloc (.cells #[.int .u8 q.o,.string q.n,.slice q.a q.l q.c,.slice q.b q.m q.e] 36):=by
 obtain ⟨o,n,a,l,c,b,m,e⟩:=q;unfold FQ.val;go_enter Tryz.func85,Tryz.ntmps85;go_wp2;go_ret;exact ⟨rfl,rfl⟩
attribute [local go_sem] run_makeMap in
theorem Dg (f:Fm) (hfit:fitF f) (ze:nodesF f<=1000000) (M:Nat->Prop) (B X:Nat) (w:World) (q:FQ) (hX:w.heap[X]?=some (.cells #[.int .u8 q.o,.string q.n,.slice q.a q.l q.c,.slice q.b q.m q.e] 36 (0,0))) (I6:¬M X) (hq:FormV (fun b=>b<B/\¬M b) w q.val f) :
  Jn M False Tryz.prog 148 #[.pointer (some ⟨X,0,none⟩)] (aL [] f) z8 w:=by
 exact pm230
theorem wW {bs:List Str} {l:List Tm} {x:Str} (h:x∈(ap l).filter (fun x=>!bs.contains x)):x∈ap l:=(List.mem_filter.1 h).1
mutual
theorem o7 {p:Nat}:∀ (f:Fm) (b:List Str),ls p f=true->∀ x∈aL b f,x.length<=p
 | .mk o n a s,b,h,x,hx=>by
  simp only[ls,af]at h;unfold aL at hx;rcases List.mem_append.1 hx with hx | hx
  ·exact og a h.2.2.1 x (wW hx)
  ·exact Hl s _ h.2.2.2 x hx
theorem Hl {p:Nat}:∀ (l:List Fm) (b:List Str),nmFs p l=true->∀ x∈bq b l,x.length<=p
 | [],_,_,x,hx=>by simp[bq]at hx
 | t :: l,b,h,x,hx=>by
  simp only[nmFs,af]at h;unfold bq at hx;rcases List.mem_append.1 hx with hx | hx
  ·exact o7 t b h.1 x hx
  ·exact Hl l b h.2 x hx
end
theorem uP (t:Fm) (hfit:fitF t) (ze:nodesF t<=1000000) (ok:Nat->Prop) (w:World) (q:FQ) (hq:FormV ok w q.val t) :
  Calls Tryz.prog 40 #[q.val] w fun e w'=>(∃v,e=.returned v/\RowS w.heap.size w' v (dI (aL [] t)))/\RowKit.Below w.heap.size w w':=by
 have hq:=hq.lt;have pN:(aL [] t).length<=2000000:=aU (eY t []) hfit.1;obtain ⟨W2,a_⟩:=am ((w.alloc (.cells #[.int .u8 q.o,.string q.n,.slice q.a q.l q.c,.slice q.b q.m q.e] 36)).alloc (.cells #[.int .u8 q.o,.string q.n,.slice q.a q.l q.c,.slice q.b q.m q.e] 36));have bB:RowKit.Below w.heap.size w W2:=by rw[a_];exact cO.alloc (by simp) _
 have iy:=yJ a_;have qg:=j_ a_;have C2:=E3 (aL [] t) pN (o7 t [] hfit.2) 148 #[.pointer (some ⟨w.heap.size+1,0,none⟩)] W2 (enters_of Tryz.func148 (by kernel_rfl) rfl) (fun w1 hb hl=>Dg t hfit ze (fun b=>b=W2.heap.size) W2.heap.size (w.heap.size+1) w1 q (bJ hb qg) (by omega) ((hq.later (bB.trans (hb.mono bB.size))).move (fun b zcc hlt=>⟨⟨by omega,by omega⟩,rfl⟩)));exact pm275
end Go.Proofs.YtokemihbkeddoaaGreatDoor
namespace Go.Proofs.YtokemihbkeddoaaGreatDoor
open Go Go.RowKit Lib
set_option maxRecDepth 100000
set_option maxHeartbeats 64000000
section
attribute [local go_sem] Oper.semAt_some
theorem RowT.made {lo:Nat} {W:World} (cur:Array Value) (cap:Nat) (hb:lo<=W.heap.size) (hm:cap<=maxLen) (hs:cur.size=cap * 3):RowT lo (.slice (some ⟨W.heap.size,0,none⟩) 0 cap) [] (W.alloc (.cells cur 43)):=
 ⟨[],rfl,World.ownsRow_made W cur cap hb hm hs,fun j h=>by simp at h⟩
theorem RowF.made {lo:Nat} {W:World} (cur:Array Value) (cap:Nat) (hb:lo<=W.heap.size) (hm:cap<=maxLen) (hs:cur.size=cap * 4):RowF lo (.slice (some ⟨W.heap.size,0,none⟩) 0 cap) [] (W.alloc (.cells cur 36)):=
 ⟨[],rfl,World.ownsRow_made W cur cap hb hm hs,fun j h=>by simp at h⟩
def UB (t:Tm):Prop:=∀ (ok:Nat->Prop) (w:World) (q:TQ),TermV ok w q.val t->Calls Tryz.prog 107 #[q.val] w fun e w'=>∃p:TQ,e=.returned p.val/\TermV (w.heap.size<=·) w' p.val t/\Below w.heap.size w w'
theorem sH (l:List Tm) (hfit:fitTs l) (hcp:∀ t∈l,UB t) (ok:Nat->Prop) (w:World) (a:Option Addr) (n c:Nat) (hv:TermsV ok w (.slice a n c) l) :
  Calls Tryz.prog 106 #[.slice a n c,.func (.func 107) #[] #[]] w fun e w'=>∃a' c',e=.returned (.slice a' l.length c')/\TermsV (w.heap.size<=·) w' (.slice a' l.length c') l/\Below w.heap.size w w':=by
 obtain ⟨i0,hi,oM,ju,iy⟩:=info_parts hO;obtain rfl:=hv.len;have hlen:=hfit.len
 by_cases h0:l=[]
 ·subst h0;go_enter Tryz.func106,Tryz.ntmps106;go_wp2;go_ret;exact ⟨none,0,rfl,cq,aj _ _⟩
 ·obtain ⟨k0,bX⟩:=am l.length;have pp253:=();exact pm253
def UC (t:Fm):Prop:=∀ (ok:Nat->Prop) (w:World) (q:FQ),FormV ok w q.val t->Calls Tryz.prog 51 #[q.val] w fun e w'=>∃p:FQ,e=.returned p.val/\FormV (w.heap.size<=·) w' p.val t/\Below w.heap.size w w'
theorem Dh (l:List Fm) (hfit:fitFs l) (hcp:∀ t∈l,UC t) (ok:Nat->Prop) (w:World) (a:Option Addr) (n c:Nat) (hv:FormsV ok w (.slice a n c) l) :
  Calls Tryz.prog 108 #[.slice a n c,.func (.func 51) #[] #[]] w fun e w'=>∃a' c',e=.returned (.slice a' l.length c')/\FormsV (w.heap.size<=·) w' (.slice a' l.length c') l/\Below w.heap.size w w':=by
 obtain ⟨i0,hi,oM,ju,iy⟩:=info_parts jL;obtain rfl:=hv.len;have hlen:=hfit.len
 by_cases h0:l=[]
 ·subst h0;go_enter Tryz.func108,Tryz.ntmps108;go_wp2;go_ret;exact ⟨none,0,rfl,gI,aj _ _⟩
 ·obtain ⟨k0,bX⟩:=am l.length;exact pm253
theorem Di:∀ (t:Tm),fitT t->UB t:=by
 intro t
 induction t using Tm.ind with
 | h v n a ih=>
  intro hfit ok w q hq;have pp189e:=();exact pm189
theorem ov:∀ (t:Fm),fitF t->UC t:=by
 intro t
 induction t using Fm.ind with
 | h o n a s ih=>
  intro hfit ok w q hq;have pp24c:=();exact pm24
