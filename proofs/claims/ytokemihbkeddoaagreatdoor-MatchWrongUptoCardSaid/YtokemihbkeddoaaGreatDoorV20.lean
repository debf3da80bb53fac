/-
Laws for the regions of MatchWrong.
-/
import Derived.Test.YtokemihbkeddoaaGreatDoorV19
namespace Go.Proofs.YtokemihbkeddoaaGreatDoor
open Go Go.RowKit Lib
set_option maxRecDepth 100000
set_option maxHeartbeats 64000000
variable {d b ft:Nat} {ty T T2:TypeId} {pos:String} {gK:Array Edge} {o os:Oper} {y:Operand} {vJ:Array TypeId} {a:Act} {w:World} {n x:Str} {c:List Str} {s:Fm} {u:Tm}
section
attribute [local go_sem] Oper.semAt_some
theorem Cs (l m:List Str) (hl:l.length<=2000000) (ok ok':Nat->Prop) (w:World) (v v':Value) (hv:StrsO ok w v l) (Xo:StrsO ok' w v' m) :
  Calls Tryz.prog 34 #[v,v'] w fun e w'=>e=.returned (.bool (l == m))/\Below w.heap.size w w':=by
 obtain ⟨a,c,rfl⟩:=hv.slice;obtain ⟨a',c',rfl⟩:=Xo.slice;obtain ⟨R,hR⟩:=ao (l == m);rw[<-hR];obtain ⟨n1,dT⟩:=ao l.length;obtain ⟨n2,ks⟩:=ao m.length;rw[<-dT]at hv hl ⊢;rw[<-ks]at Xo ⊢;obtain ⟨HR,H1,H2,HV,HV'⟩:=vK hR dT ks hv Xo;clear hR hv Xo dT ks
 by_cases jD:n1=n2
 ·subst jD;go_enter Tryz.func34,Tryz.ntmps34;go_wp2;go_loopw [5] (fun i wr=>∃k:Nat,k<=n1/\i=.int .i64 k/\Below w.heap.size w wr/\Hd (l.take k=m.take k)) (fun i _=>n1 - (intOf i).toNat)
  case atStart=>exact ⟨0,bc _,rfl,ak _ _,ab rfl⟩
  case round=>
   obtain ⟨k,hk,rfl,ar,HT⟩:=hrel
   by_cases hlt:k<n1
   ·have ej:=ct H1.o hlt;have fW:=ct H2.o hlt;obtain ⟨b,o,rfl,_,c0⟩:=HV.o.get ej;obtain ⟨b',o',rfl,_,c1⟩:=HV'.o.get fW;obtain ⟨c0,c1⟩:=yR ar c0 c1;have DZ:(k:Int)<(n1:Int):=by omega
    obtain ⟨x,hx⟩:=ao (l[k]);obtain ⟨y,hy⟩:=ao (m[k]);rw[<-hx]at c0;rw[<-hy]at c1;have f0:=fun z:Later wr=>z.get c0;have f1:=fun z:Later wr=>z.get c1;obtain ⟨HX,HY,HB⟩:=cD hx hy ar;clear hx hy ar c0 c1;exact pm58
   ·obtain rfl:k=n1:=by omega
    have HE:=ab (show R=true by
     have:=HT.o;rw[ii (by rw[<-H1.o];exact aF _),ii (by rw[<-H2.o];exact aF _)]at this;rw[HR.o];simpa using this)
    have HB:=ab ar;clear ar;go_wp2;go_ret;exact ⟨aK HE.o.symm,HB.o⟩
 ·have hi:¬((n1:Int)=(n2:Int)):=by omega
  have HE:=ab (show R=false by
   rw[HR.o];simp only[beq_eq_false_iff_ne,ne_eq];intro e;exact jD (by rw[H1.o,H2.o,e]))
  have tY:((n1:Int) == (n2:Int))=false:=by simpa using hi
  go_enter Tryz.func34,Tryz.ntmps34;go_wp2;go_ret;exact ⟨aK HE.o.symm,ak _ _⟩
theorem AR:∀ (l:List (Str×Fm)) (qs:Nat->FQ) (W:World) (b off:Nat),(∀ j (h:j<l.length),W.cell? ⟨b,off+j * 5,none⟩=some (.string ⟨l[j].1.toArray⟩)/\W.cell? ⟨b,off+j * 5+1,none⟩=some (.int .u8 (qs j).o)/\W.cell? ⟨b,off+j * 5+2,none⟩=some (.string (qs j).n)/\W.cell? ⟨b,off+j * 5+3,none⟩=some (.slice (qs j).a (qs j).l (qs j).c)/\W.cell? ⟨b,off+j * 5+4,none⟩=some (.slice (qs j).b (qs j).m (qs j).e)) →
  ∃es:List (Str×FQ),es.length=l.length/\(∀ j (h:j<es.length) (h2:j<l.length),es[j].1=l[j].1/\es[j].2=qs j)/\∀ i u,(es.flatMap BF)[i]?=some u->W.cell? ⟨b,off+i,none⟩=some u
 | [],_,_,_,_,_=>⟨[],rfl,fun j h=>by simp at h,fun i u h=>by simp at h⟩
 | x :: l,qs,W,b,off,h=>by
  obtain ⟨es,h1,h2,h3⟩:=AR l (fun j=>qs (j+1)) W b (off+5) (fun j hj=>by
   have:=h (j+1) (by simpa using hj);rw[show off+5+j * 5=off+(j+1) * 5 by omega];simpa using this)
  refine ⟨(x.1,qs 0) :: es,by simp[h1],fun j hj sH=>?_,fun i u hu=>?_⟩
  ·cases j with
   | zero=>exact ⟨rfl,rfl⟩
   | succ j=>exact h2 j (by simpa using hj) (by simpa using sH)
  ·obtain ⟨c0,c1,c2,c3,c4⟩:=h 0 (by simp);rw[List.flatMap_cons]at hu;rcases Nat.lt_or_ge i 5 with hi | hi
   ·have:i=0\/i=1\/i=2\/i=3\/i=4:=by omega
    rcases this with rfl | rfl | rfl | rfl | rfl <;> (simp[BF,FQ.cells]at hu;subst hu;simpa using ‹_›)
   ·have hl:(BF (x.1,qs 0)).length=5:=rfl;rw[List.getElem?_append_right (by omega),hl]at hu;have:=h3 _ _ hu
    rwa [show off+5+(i - 5)=off+i by omega]at this
theorem Rr (es:List (Str×FQ)):(es.flatMap BF).length=es.length * 5:=by
 induction es with
 | nil=>rfl
 | cons q es ih=>rw[List.flatMap_cons,di,ih,fF,show (BF q).length=5 from rfl];omega
theorem KK {ok:Nat->Prop} {lo:Nat} {v:Value} {l:List (Str×Fm)} {W:World} {es:List (Str×FQ)} (hk:es.length=l.length) (ho:W.ownsRow lo 40 5 v l.length (es.flatMap BF)) (ht:∀ j (h:j<es.length) (h2:j<l.length),es[j].1=l[j].1/\FormV ok W es[j].2.val l[j].2) (hb:∀ b,v.ownBlock=some b->ok b):FBindsV ok W v l:=by
 exact pm178
theorem pL (ty:TypeId) (w:World) (b off n:Nat) (a2:Option Addr) (c2:Nat):(Builtin.append_ #[23,23] ty #[.slice (some ⟨b,off,none⟩) n n,.slice a2 0 c2]).run Tryz.prog w=.ok (.slice (some ⟨b,off,none⟩) n n) w:=by
 obtain ⟨i0,hi,_,_,_⟩:=info_parts s_;cases a2 <;> simp[Builtin.append_,run_underlying Tryz.underlying23,sizeOf,typeInfo,hi,Builtin.lenOf,Builtin.firstCells,loadCells,loadCellsFrom,storeCells]
theorem zdX (m:Nat):(m:Int).tmod 8=((m % 8:Nat):Int):=by rw[Int.tmod_eq_emod_of_nonneg (by omega)];omega
section
variable {ops:Array Oper} {Q:Exit->Act->World->Prop} {a0:Act} {l:List Fact} {kA kS k:Nat} {M:Nat->Prop} {w0:World} {md:Region.Mode} {L:Nat->Prop}
def Mg (L:Nat->Prop) (e:List (Str×Fm)) (v:Value) (γ:Bx) (w:World):Prop:=∃a,v=.slice (some a) e.length e.length/\FBindsV (okB L γ w) w v e
def VH (L:Nat->Prop) (e:List (Str×Fm)):Fact:=⟨Mg L e,fun _ _ _ _ _ hG ⟨a,h,h2⟩=>⟨a,h,h2.move hG.holds⟩⟩
theorem Rs (n0:Str) (f0:Fm) (x:Nat) (hL:∀ b,w0.heap.size<=b->L b) {gu:Option (Nat×Bool)}  {o:Oper} (hx:Dep md ops a0 l kA kS M w0 k o x (ZW L n0 f0)) (ho:ops[k]?=some o:=by rfl) (eo:o=⟨some d,.buildSlice 23 1 #[(0,.tmp x)],ty,pos,gK,gu⟩:=by rfl) (hw:Wt md ops a0 l kA kS M w0 k o:=by exact fun _ _ _ _=>rfl) (hp:e6 l k=Mg L [(n0,f0)]:=by rfl):cz md ops Q a0 l kA kS M w0 k:=
 by subst eo;exact pj hw ho rfl (fun a γ w aO=>by
  obtain ⟨v0,e0,q0,rfl,Ec⟩:=hx a γ w aO;refine ⟨.slice (some ⟨w.heap.size,0,none⟩) 1 1,#[.string ⟨n0.toArray⟩,.int .u8 q0.o,.string q0.n,.slice q0.a q0.l q0.c,.slice q0.b q0.m q0.e],40,by go_simp,?_⟩;rw[hp];have hx:=aj (w:=w) (o:=.cells #[.string ⟨n0.toArray⟩,.int .u8 q0.o,.string q0.n,.slice q0.a q0.l q0.c,.slice q0.b q0.m q0.e] 40) rfl;have C:=fun i=>aH hx i;refine ⟨_,rfl,some ⟨w.heap.size,0,none⟩,1,fun _=>q0,rfl,aF _,.inr ⟨w.heap.size,0,rfl,okB.here hL aO.inv _,fun j hj=>?_⟩,fun j hj=>?_⟩
  ·obtain rfl:j=0:=by simpa using hj
   exact ⟨(C 0).trans rfl,(C 1).trans rfl,(C 2).trans rfl,(C 3).trans rfl,(C 4).trans rfl⟩
  ·obtain rfl:j=0:=by simpa using hj
   exact Ec.move (jB _).holds)
theorem Rt (n0:Str) (f0:Fm) (n1:Str) (f1:Fm) (x y:Nat) (hL:∀ b,w0.heap.size<=b->L b) {gu:Option (Nat×Bool)}  {o:Oper} (hx:Dep md ops a0 l kA kS M w0 k o x (ZW L n0 f0)) (hy:Dep md ops a0 l kA kS M w0 k o y (ZW L n1 f1)) (ho:ops[k]?=some o:=by rfl) (eo:o=⟨some d,.buildSlice 23 2 #[(0,.tmp x),(1,.tmp y)],ty,pos,gK,gu⟩:=by rfl) (hw:Wt md ops a0 l kA kS M w0 k o:=by exact fun _ _ _ _=>rfl) (hp:e6 l k=Mg L [(n0,f0),(n1,f1)]:=by rfl):cz md ops Q a0 l kA kS M w0 k:=
 by subst eo;exact pj hw ho rfl (fun a γ w aO=>by
  obtain ⟨v0,e0,q0,rfl,Ec⟩:=hx a γ w aO;obtain ⟨v1,e1,q1,rfl,hq1⟩:=hy a γ w aO;refine ⟨.slice (some ⟨w.heap.size,0,none⟩) 2 2,#[.string ⟨n0.toArray⟩,.int .u8 q0.o,.string q0.n,.slice q0.a q0.l q0.c,.slice q0.b q0.m q0.e,.string ⟨n1.toArray⟩,.int .u8 q1.o,.string q1.n,.slice q1.a q1.l q1.c,.slice q1.b q1.m q1.e],40,by go_simp,?_⟩;rw[hp];have hx:=aj (w:=w) (o:=.cells #[.string ⟨n0.toArray⟩,.int .u8 q0.o,.string q0.n,.slice q0.a q0.l q0.c,.slice q0.b q0.m q0.e,.string ⟨n1.toArray⟩,.int .u8 q1.o,.string q1.n,.slice q1.a q1.l q1.c,.slice q1.b q1.m q1.e] 40) rfl;have C:=fun i=>aH hx i;refine ⟨_,rfl,some ⟨w.heap.size,0,none⟩,2,fun j=>if j=0 then q0 else q1,rfl,aF _,.inr ⟨w.heap.size,0,rfl,okB.here hL aO.inv _,fun j hj=>?_⟩,fun j hj=>?_⟩
  ·rcases j with _ | _ | j
   ·exact ⟨(C 0).trans rfl,(C 1).trans rfl,(C 2).trans rfl,(C 3).trans rfl,(C 4).trans rfl⟩
   ·exact ⟨(C 5).trans rfl,(C 6).trans rfl,(C 7).trans rfl,(C 8).trans rfl,(C 9).trans rfl⟩
   ·simp at hj;omega
  ·rcases j with _ | _ | j
   ·exact Ec.move (jB _).holds
   ·exact hq1.move (jB _).holds
   ·simp at hj;omega)
theorem Ij (e1 e2:List (Str×Fm)) (hn:0<e1.length) (cf:e1.length+e2.length<=1000000) (x y:Nat) (hL:∀ b,w0.heap.size<=b->L b) {gu:Option (Nat×Bool)}  (hx:Dep md ops a0 l kA kS M w0 k o x (Mg L e1)) (hy:Dep md ops a0 l kA kS M w0 k o y (Kv L e2)) (ho:ops[k]?=some o:=by rfl) (eo:o=⟨some d,.call ⟨.builtin .append,#[.tmp x,.tmp y],#[23,23]⟩,ty,pos,gK,gu⟩:=by rfl) (hw:Wt md ops a0 l kA kS M w0 k o:=by exact fun _ _ _ _=>rfl) (hp:e6 l k=Kv L (e1 ++ e2):=by rfl):cz md ops Q a0 l kA kS M w0 k:=
 by subst eo;exact dx ho rfl (fun _=>trivial) rfl (fun a γ w aO=>by
  obtain ⟨vx,ex,ad,rfl,hv⟩:=hx a γ w aO;obtain ⟨vy,ey,ay,cy,rfl,hu⟩:=hy a γ w aO;obtain ⟨i0,hi,pF,iq,gV⟩:=info_parts s_;have e1':=aG ex;have e2':=aG ey;obtain ⟨_,_,qs,hs,_,h1,hf⟩:=hv;injection hs with hs _ _;subst hs;rcases h1 with rfl | ⟨b,off,he,hok,hc⟩
  ·simp at hn
  cases he;obtain ⟨es,k1,k2,k3⟩:=AR e1 qs w b off hc;have iA:=hu;obtain ⟨_,_,ps,hs,_,h2,Sd⟩:=iA;injection hs with hs _ _;subst hs;rcases h2 with rfl | ⟨b2,off2,rfl,hok2,hc2⟩
  ·refine ⟨hw a γ w aO,.slice (some ⟨b,off,none⟩) e1.length e1.length,γ,w,?_,Gr.refl,fun _ _ h=>h,?_⟩
   ·have hr:=pL ty w b off e1.length ay cy;exact pm295
   ·rw[hp,List.append_nil];exact ⟨_,_,rfl,_,_,qs,rfl,aF _,.inr ⟨b,off,rfl,hok,hc⟩,hf⟩
  ·by_cases h0:e2=[]
   ·subst h0;refine ⟨hw a γ w aO,.slice (some ⟨b,off,none⟩) e1.length e1.length,γ,w,?_,Gr.refl,fun _ _ h=>h,?_⟩
    ·have hr:=pL ty w b off e1.length (some ⟨b2,off2,none⟩) cy;exact pm295
    ·rw[hp,List.append_nil];exact ⟨_,_,rfl,_,_,qs,rfl,aF _,.inr ⟨b,off,rfl,hok,hc⟩,hf⟩
   obtain ⟨fs,m1,m2,m3⟩:=AR e2 ps w b2 off2 hc2;have nj:0<e2.length:=ie.2 h0;have AD:=fun (c o i:Nat)=>(show (⟨c,o,none⟩:Addr).add i=⟨c,o+i,none⟩ by unfold Addr.add;split <;> simp_all)
   obtain ⟨v',w',hr,au,ap⟩:=run_append_arg_grows (P:=Tryz.prog) w 23 ty 40 i0 _ 5 88 Tryz.underlying23 hi pF iq gV rfl (by decide) ⟨b,off,none⟩ e1.length e1.length (es.flatMap BF) (by rw[Rr,k1]) (fun j u hj=>by rw[AD];exact k3 j u hj)
    ⟨b2,off2,none⟩ e2.length cy (fs.flatMap BF) (by rw[Rr,m1]) (fun j u hj=>by rw[AD];exact m3 j u hj) (by omega) (by unfold maxLen;omega) (by omega)
   have hG:Gr γ w γ w':=Gr.keep ⟨ap.os,ap.tape,ap.output,ap.size,fun c hc=>ap.block c hc (by simp)⟩;refine ⟨hw a γ w aO,v',γ,w',?_,hG,fun _ _ h=>h,?_⟩
   ·simp only[execOp,resolve,invoke,builtin]at hr ⊢;simp[hr,Result.andThen,Act.eval,e1',e2']
   ·rw[hp];have jo:(e1 ++ e2).length=e1.length+e2.length:=di;rw[<-List.flatMap_append,<-jo]at au;have hB:FBindsV (okB L γ w') w' v' (e1 ++ e2):=KK (by simp[k1,m1]) au (fun j hj sH=>by
     by_cases h:j<es.length
     ·rw[List.getElem_append_left h,List.getElem_append_left (by omega)];obtain ⟨p1,p2⟩:=k2 j h (by omega);rw[p2];exact ⟨p1,(hf j (by omega)).move hG.holds⟩
     ·rw[List.getElem_append_right (by omega),List.getElem_append_right (by omega)];simp only[k1];obtain ⟨p1,p2⟩:=m2 (j - e1.length) (by simp at hj;omega) (by simp at sH;omega);rw[p2];exact ⟨p1,(Sd (j - e1.length) (by simp at sH;omega)).move hG.holds⟩) (fun c hc=>by
     have hlt:=au.lt c hc;exact ⟨hL c (aQ aO.inv.1.size hlt.1),hlt.2,fun e=>by have:=(aO.inv.2.1 c e).2;omega⟩)
    obtain ⟨a',c',rfl⟩:=hB.slice;exact ⟨a',c',rfl,hB⟩)
theorem N0 (q:FQ) (f:Fm) (x:Nat) (hb:w0.heap[b]?=some (.cells #[.int .u8 q.o,.string q.n,.slice q.a q.l q.c,.slice q.b q.m q.e] 36 (0,0))) (hM:M b) (hv:FormV (Oy L M w0) w0 q.val f) (y':ops[kS]?=some os) (I1:waitB md os k=true) {gu:Option (Nat×Bool)}  (hx:Dep md ops a0 l kA kS M w0 k o x (fun v _ _=>v=ptr b)) (ho:ops[k]?=some o:=by rfl) (eo:o=⟨some d,.load 36 (.tmp x),ty,pos,gK,gu⟩:=by rfl) (hw:Wt md ops a0 l kA kS M w0 k o:=by exact fun _ _ _ _=>rfl) (hp:e6 l k=FormG L f:=by rfl):cz md ops Q a0 l kA kS M w0 k:=
 by subst eo;exact dC hw ho rfl (fun a γ w aO=>by
  obtain ⟨vx,ex,rfl⟩:=hx a γ w aO;have x:=((aO.inv.2.2 b hM).2 ((aO.psw kS os y' I1).2 rfl)).trans hb;obtain ⟨c0,c1,c2,c3⟩:=mi x;exact ⟨FQ.val q,by simp only[FQ.val];go_simp,by rw[hp];exact ⟨q,rfl,hv.move (okB.old aO.inv)⟩⟩)
theorem DR (q:BQ) (f:Bd) (x:Nat) (hb:w0.heap[b]?=some (.cells #[.slice q.a q.l q.c,.slice q.b q.m q.e] 26 (0,0))) (hM:M b) (hv:BindV (Oy L M w0) w0 q f) (y':ops[kS]?=some os) (I1:waitB md os k=true) {gu:Option (Nat×Bool)}  (hx:Dep md ops a0 l kA kS M w0 k o x (fun v _ _=>v=ptr b)) (ho:ops[k]?=some o:=by rfl) (eo:o=⟨some d,.load 23 (.tmp x),ty,pos,gK,gu⟩:=by rfl) (hw:Wt md ops a0 l kA kS M w0 k o:=by exact fun _ _ _ _=>rfl) (hp:e6 l k=Kv L f.fs:=by rfl):cz md ops Q a0 l kA kS M w0 k:=
 by subst eo;exact dC hw ho rfl (fun a γ w aO=>by
  obtain ⟨vx,ex,rfl⟩:=hx a γ w aO;have x:=((aO.inv.2.2 b hM).2 ((aO.psw kS os y' I1).2 rfl)).trans hb;have c0:=ah x 0;have h1:=hv.1;have hl:=h1.len;refine ⟨.slice q.a q.l q.c,by go_simp,?_⟩;rw[hp];rw[hl]at h1 ⊢;exact ⟨_,_,rfl,h1.move (okB.old aO.inv)⟩)
theorem ti (q:BQ) (f:Bd) (e:List (Str×Fm)) (x y:Nat) (hk:k=kS) (hb:w0.heap[b]?=some (.cells #[.slice q.a q.l q.c,.slice q.b q.m q.e] 26 (0,0))) (hM:M b) (hv:BindV (Oy L M w0) w0 q f) {gu:Option (Nat×Bool)}  (hx:Dep md ops a0 l kA kS M w0 k o x (fun v _ _=>v=.pointer (some ⟨b,0,none⟩))) (hy:Dep md ops a0 l kA kS M w0 k o y (Kv L e)) (ho:ops[k]?=some o:=by rfl) (eo:o=⟨none,.store 23 (.tmp x) (.tmp y),ty,pos,gK,gu⟩:=by rfl) (hw:Wt md ops a0 l kA kS M w0 k o:=by exact fun _ _ _ _=>rfl) (hp:e6 l k=(gL (bG L ⟨e,f.ts⟩) 26).p:=by rfl):cz md ops Q a0 l kA kS M w0 k:=
 by subst eo;exact jE ho (fun _=>trivial) rfl (fun a γ w aO=>by
  obtain ⟨vx,ex,rfl⟩:=hx a γ w aO;obtain ⟨LY,Kr⟩:=γ;obtain rfl:Kr=false:=aO.psi.2 hk;obtain rfl:LY=some b:=(aO.inv.2.2 b hM).1;have x:=((aO.inv.2.2 b hM).2 rfl).trans hb;obtain ⟨vy,ey,ay,cy,rfl,hq⟩:=hy a (some b,false) w aO;have c0:=ah x 0;have d0:=ac x 0;have k6:Kp (fun c=>c=b) w (w.setCell ⟨b,0,none⟩ (.slice ay e.length cy)):=⟨rfl,rfl,rfl,by simp,fun c _ hc=>d9 _ _ _ _ (by simpa using hc)⟩;have x6:=bm (F:=0) x (.slice ay e.length cy);have hV:BindV (okB L (some b,false) w) w ⟨ay,e.length,cy,q.b,q.m,q.e⟩ ⟨e,f.ts⟩:=⟨hq,hv.2.move (okB.old aO.inv)⟩;refine ⟨hw a (some b,false) w aO,(some b,true),_,by go_simp,fM k6,hk ▸ kX,?_⟩;rw[hp];exact ⟨b,_,rfl,x6,⟨ay,e.length,cy,q.b,q.m,q.e⟩,rfl,hV.move (fM k6).holds⟩)
theorem AS (q:BQ) (f:Bd) (e:List (Str×Tm)) (x y:Nat) (hk:k=kS) (hb:w0.heap[b]?=some (.cells #[.slice q.a q.l q.c,.slice q.b q.m q.e] 26 (0,0))) (hM:M b) (hv:BindV (Oy L M w0) w0 q f) {gu:Option (Nat×Bool)}  (hx:Dep md ops a0 l kA kS M w0 k o x (fun v _ _=>v=.pointer (some ⟨b,1,none⟩))) (hy:Dep md ops a0 l kA kS M w0 k o y (TP L e)) (ho:ops[k]?=some o:=by rfl) (eo:o=⟨none,.store 24 (.tmp x) (.tmp y),ty,pos,gK,gu⟩:=by rfl) (hw:Wt md ops a0 l kA kS M w0 k o:=by exact fun _ _ _ _=>rfl) (hp:e6 l k=(gL (bG L ⟨f.fs,e⟩) 26).p:=by rfl):cz md ops Q a0 l kA kS M w0 k:=
 by subst eo;exact jE ho (fun _=>trivial) rfl (fun a γ w aO=>by
  obtain ⟨vx,ex,rfl⟩:=hx a γ w aO;obtain ⟨LY,Kr⟩:=γ;obtain rfl:Kr=false:=aO.psi.2 hk;obtain rfl:LY=some b:=(aO.inv.2.2 b hM).1;have x:=((aO.inv.2.2 b hM).2 rfl).trans hb;obtain ⟨vy,ey,ay,cy,rfl,hq⟩:=hy a (some b,false) w aO;have c0:=ah x 1;have d0:=ac x 1;have k6:Kp (fun c=>c=b) w (w.setCell ⟨b,1,none⟩ (.slice ay e.length cy)):=⟨rfl,rfl,rfl,by simp,fun c _ hc=>d9 _ _ _ _ (by simpa using hc)⟩;have x6:=bm (F:=1) x (.slice ay e.length cy);have hV:BindV (okB L (some b,false) w) w ⟨q.a,q.l,q.c,ay,e.length,cy⟩ ⟨f.fs,e⟩:=⟨hv.1.move (okB.old aO.inv),hq⟩;refine ⟨hw a (some b,false) w aO,(some b,true),_,by go_simp,fM k6,hk ▸ kX,?_⟩;rw[hp];exact ⟨b,_,rfl,x6,⟨q.a,q.l,q.c,ay,e.length,cy⟩,rfl,hV.move (fM k6).holds⟩)
theorem Ru  {gu:Option (Nat×Bool)} (ho:ops[k]?=some o:=by rfl) (eo:o=⟨some d,.build 36 #[],ty,pos,gK,gu⟩:=by rfl) (hw:Wt md ops a0 l kA kS M w0 k o:=by exact fun _ _ _ _=>rfl) (hp:e6 l k=FormG L gB:=by rfl):cz md ops Q a0 l kA kS M w0 k:=
 by subst eo;exact dC hw ho rfl (fun a γ w aO=>⟨FQ.val ⟨0,⟨#[]⟩,none,0,0,none,0,0⟩,by simp only[FQ.val];go_simp,by rw[hp];exact ⟨_,rfl,aW.2 ⟨_,_,rfl,b_,fB⟩⟩⟩)
theorem ko (b:Bool) (x:Nat) {gu:Option (Nat×Bool)}  (hx:Dep md ops a0 l kA kS M w0 k o x (fun v _ _=>v=.bool b)) (ho:ops[k]?=some o:=by rfl) (eo:o=⟨some d,.unOp .not T (.tmp x),ty,pos,gK,gu⟩:=by rfl) (hw:Wt md ops a0 l kA kS M w0 k o:=by exact fun _ _ _ _=>rfl) (hp:e6 l k=(aE (.bool (!b))).p:=by rfl):cz md ops Q a0 l kA kS M w0 k:=
 by subst eo;exact dC hw ho rfl (fun a γ w aO=>by
  obtain ⟨v0,e0,h0⟩:=hx a γ w aO;rw[h0]at e0;have f0:=aG e0;exact ⟨.bool (!b),by go_simp,by rw[hp];rfl⟩)
theorem bg (u:Value) (x:Nat) {gu:Option (Nat×Bool)}  (hx:Dep md ops a0 l kA kS M w0 k o x (fun v _ _=>v=u)) (ho:ops[k]?=some o:=by rfl) (eo:o=⟨some d,.move (.tmp x),ty,pos,gK,gu⟩:=by rfl) (hw:Wt md ops a0 l kA kS M w0 k o:=by exact fun _ _ _ _=>rfl) (hp:e6 l k=(aE (u)).p:=by rfl):cz md ops Q a0 l kA kS M w0 k:=
 by subst eo;exact dC hw ho rfl (fun a γ w aO=>by
  obtain ⟨v0,e0,h0⟩:=hx a γ w aO;rw[h0]at e0;have f0:=aG e0;exact ⟨u,by go_simp,by rw[hp];rfl⟩)
theorem tj (u:Value) (x:Nat) {gu:Option (Nat×Bool)}  (hx:Dep md ops a0 l kA kS M w0 k o x (fun v _ _=>v=.bool true)) (ho:ops[k]?=some o:=by rfl) (eo:o=⟨some d,.pick (.tmp x) (.const u) y,ty,pos,gK,gu⟩:=by rfl) (hw:Wt md ops a0 l kA kS M w0 k o:=by exact fun _ _ _ _=>rfl) (hp:e6 l k=(aE (u)).p:=by rfl):cz md ops Q a0 l kA kS M w0 k:=
 by subst eo;exact dC hw ho rfl (fun a γ w aO=>by
  obtain ⟨v0,e0,h0⟩:=hx a γ w aO;rw[h0]at e0;have f0:=aG e0;exact ⟨u,by go_simp,by rw[hp];rfl⟩)
theorem fU (u v:Value) (x y:Nat) {gu:Option (Nat×Bool)}  (hx:Dep md ops a0 l kA kS M w0 k o x (fun v _ _=>v=.bool false)) (hy:Dep md ops a0 l kA kS M w0 k o y (fun w _ _=>w=v)) (ho:ops[k]?=some o:=by rfl) (eo:o=⟨some d,.pick (.tmp x) (.const u) (.tmp y),ty,pos,gK,gu⟩:=by rfl) (hw:Wt md ops a0 l kA kS M w0 k o:=by exact fun _ _ _ _=>rfl) (hp:e6 l k=(aE (v)).p:=by rfl):cz md ops Q a0 l kA kS M w0 k:=
 by subst eo;exact dC hw ho rfl (fun a γ w aO=>by
  obtain ⟨v0,e0,h0⟩:=hx a γ w aO;rw[h0]at e0;have f0:=aG e0;obtain ⟨v1,e1,h1⟩:=hy a γ w aO;rw[h1]at e1;have f1:=aG e1;exact ⟨v,by go_simp,by rw[hp];rfl⟩)
theorem pz (u v:Value) (x y:Nat) {gu:Option (Nat×Bool)}  (hx:Dep md ops a0 l kA kS M w0 k o x (fun v _ _=>v=.bool true)) (hy:Dep md ops a0 l kA kS M w0 k o y (fun w _ _=>w=v)) (ho:ops[k]?=some o:=by rfl) (eo:o=⟨some d,.pick (.tmp x) (.tmp y) (.const u),ty,pos,gK,gu⟩:=by rfl) (hw:Wt md ops a0 l kA kS M w0 k o:=by exact fun _ _ _ _=>rfl) (hp:e6 l k=(aE (v)).p:=by rfl):cz md ops Q a0 l kA kS M w0 k:=
 by subst eo;exact dC hw ho rfl (fun a γ w aO=>by
  obtain ⟨v0,e0,h0⟩:=hx a γ w aO;rw[h0]at e0;have f0:=aG e0;obtain ⟨v1,e1,h1⟩:=hy a γ w aO;rw[h1]at e1;have f1:=aG e1;exact ⟨v,by go_simp,by rw[hp];rfl⟩)
theorem Fk (u:Value) (x:Nat) {gu:Option (Nat×Bool)}  (hx:Dep md ops a0 l kA kS M w0 k o x (fun v _ _=>v=.bool false)) (ho:ops[k]?=some o:=by rfl) (eo:o=⟨some d,.pick (.tmp x) y (.const u),ty,pos,gK,gu⟩:=by rfl) (hw:Wt md ops a0 l kA kS M w0 k o:=by exact fun _ _ _ _=>rfl) (hp:e6 l k=(aE (u)).p:=by rfl):cz md ops Q a0 l kA kS M w0 k:=
 by subst eo;exact dC hw ho rfl (fun a γ w aO=>by
  obtain ⟨v0,e0,h0⟩:=hx a γ w aO;rw[h0]at e0;have f0:=aG e0;exact ⟨u,by go_simp,by rw[hp];rfl⟩)
theorem eQ (kd:IntKind) (i c:Int) (b:Bool) (hb:(i == c)=b) (x:Nat) {gu:Option (Nat×Bool)}  (hx:Dep md ops a0 l kA kS M w0 k o x (fun v _ _=>v=.int kd i)) (ho:ops[k]?=some o:=by rfl) (eo:o=⟨some d,.binOp .eql T (.tmp x) (.const (.int kd c)) T2,ty,pos,gK,gu⟩:=by rfl) (hw:Wt md ops a0 l kA kS M w0 k o:=by exact fun _ _ _ _=>rfl) (hp:e6 l k=(aE (.bool b)).p:=by rfl):cz md ops Q a0 l kA kS M w0 k:=
 by subst eo;exact dC hw ho rfl (fun a γ w aO=>by
  obtain ⟨v0,e0,h0⟩:=hx a γ w aO;rw[h0]at e0;have f0:=aG e0;exact ⟨.bool b,by subst hb;go_simp,by rw[hp];rfl⟩)
theorem kr (kd:IntKind) (i c:Int) (b:Bool) (hb:(i != c)=b) (x:Nat) {gu:Option (Nat×Bool)}  (hx:Dep md ops a0 l kA kS M w0 k o x (fun v _ _=>v=.int kd i)) (ho:ops[k]?=some o:=by rfl) (eo:o=⟨some d,.binOp .neq T (.tmp x) (.const (.int kd c)) T2,ty,pos,gK,gu⟩:=by rfl) (hw:Wt md ops a0 l kA kS M w0 k o:=by exact fun _ _ _ _=>rfl) (hp:e6 l k=(aE (.bool b)).p:=by rfl):cz md ops Q a0 l kA kS M w0 k:=
 by subst eo;exact dC hw ho rfl (fun a γ w aO=>by
  obtain ⟨v0,e0,h0⟩:=hx a γ w aO;rw[h0]at e0;have f0:=aG e0;exact ⟨.bool b,by subst hb;go_simp,by rw[hp];rfl⟩)
theorem KL (kd:IntKind) (i c:Int) (b:Bool) (hb:(i != c)=b) (x y:Nat) {gu:Option (Nat×Bool)}  (hx:Dep md ops a0 l kA kS M w0 k o x (fun v _ _=>v=.int kd i)) (hy:Dep md ops a0 l kA kS M w0 k o y (fun v _ _=>v=.int kd c)) (ho:ops[k]?=some o:=by rfl) (eo:o=⟨some d,.binOp .neq T (.tmp x) (.tmp y) T2,ty,pos,gK,gu⟩:=by rfl) (hw:Wt md ops a0 l kA kS M w0 k o:=by exact fun _ _ _ _=>rfl) (hp:e6 l k=(aE (.bool b)).p:=by rfl):cz md ops Q a0 l kA kS M w0 k:=
 by subst eo;exact dC hw ho rfl (fun a γ w aO=>by
  obtain ⟨v0,e0,h0⟩:=hx a γ w aO;rw[h0]at e0;have f0:=aG e0;obtain ⟨v1,e1,h1⟩:=hy a γ w aO;rw[h1]at e1;have f1:=aG e1;exact ⟨.bool b,by subst hb;go_simp,by rw[hp];rfl⟩)
theorem Rv (kd:IntKind) (i c:Int) (b:Bool) (hb:(decide (i<c))=b) (x:Nat) {gu:Option (Nat×Bool)}  (hx:Dep md ops a0 l kA kS M w0 k o x (fun v _ _=>v=.int kd i)) (ho:ops[k]?=some o:=by rfl) (eo:o=⟨some d,.binOp .lss T (.tmp x) (.const (.int kd c)) T2,ty,pos,gK,gu⟩:=by rfl) (hw:Wt md ops a0 l kA kS M w0 k o:=by exact fun _ _ _ _=>rfl) (hp:e6 l k=(aE (.bool b)).p:=by rfl):cz md ops Q a0 l kA kS M w0 k:=
 by subst eo;exact dC hw ho rfl (fun a γ w aO=>by
  obtain ⟨v0,e0,h0⟩:=hx a γ w aO;rw[h0]at e0;have f0:=aG e0;exact ⟨.bool b,by subst hb;go_simp,by rw[hp];rfl⟩)
theorem Fl (i c b:Bool) (hb:(i == c)=b) (x y:Nat) {gu:Option (Nat×Bool)}  (hx:Dep md ops a0 l kA kS M w0 k o x (fun v _ _=>v=.bool i)) (hy:Dep md ops a0 l kA kS M w0 k o y (fun v _ _=>v=.bool c)) (ho:ops[k]?=some o:=by rfl) (eo:o=⟨some d,.binOp .eql 4 (.tmp x) (.tmp y) 4,ty,pos,gK,gu⟩:=by rfl) (hw:Wt md ops a0 l kA kS M w0 k o:=by exact fun _ _ _ _=>rfl) (hp:e6 l k=(aE (.bool b)).p:=by rfl):cz md ops Q a0 l kA kS M w0 k:=
 by subst eo;exact dC hw ho rfl (fun a γ w aO=>by
  obtain ⟨v0,e0,h0⟩:=hx a γ w aO;rw[h0]at e0;have f0:=aG e0;obtain ⟨v1,e1,h1⟩:=hy a γ w aO;rw[h1]at e1;have f1:=aG e1;exact ⟨.bool b,by subst hb;go_simp,by rw[hp];rfl⟩)
theorem Rw (la:Option Addr) (n c:Nat) (x:Nat) {gu:Option (Nat×Bool)}  (hx:Dep md ops a0 l kA kS M w0 k o x (fun v _ _=>v=.slice la n c)) (ho:ops[k]?=some o:=by rfl) (eo:o=⟨some d,.call ⟨.builtin .len,#[.tmp x],#[66]⟩,ty,pos,gK,gu⟩:=by rfl) (hw:Wt md ops a0 l kA kS M w0 k o:=by exact fun _ _ _ _=>rfl) (hp:e6 l k=(aE (.int .i64 (n:Nat))).p:=by rfl):cz md ops Q a0 l kA kS M w0 k:=
 by subst eo;exact dC hw ho rfl (fun a γ w aO=>by
  obtain ⟨v0,e0,h0⟩:=hx a γ w aO;rw[h0]at e0;have f0:=aG e0;exact ⟨.int .i64 (n:Nat),by go_simp,by rw[hp];rfl⟩)
theorem gq (m:Nat) (x:Nat) {gu:Option (Nat×Bool)}  (hx:Dep md ops a0 l kA kS M w0 k o x (fun v _ _=>v=.int .u8 (m:Nat))) (ho:ops[k]?=some o:=by rfl) (eo:o=⟨some d,.binOp .rem T (.tmp x) (.const (.int .u8 8)) T2,ty,pos,gK,gu⟩:=by rfl) (hw:Wt md ops a0 l kA kS M w0 k o:=by exact fun _ _ _ _=>rfl) (hp:e6 l k=(aE (.int .u8 ((m % 8:Nat):Int))).p:=by rfl):cz md ops Q a0 l kA kS M w0 k:=
 by subst eo;exact dC hw ho rfl (fun a γ w aO=>by
  obtain ⟨v0,e0,h0⟩:=hx a γ w aO;rw[h0]at e0;have f0:=aG e0;exact ⟨.int .u8 ((m % 8:Nat):Int),by simp only[<-zdX];go_simp,by rw[hp];rfl⟩)
theorem wL (f:Fm) (hf:fitF f) (x:Nat) {gu:Option (Nat×Bool)} {Wb:World} (hT:Tabs Wb w0) (hM:∀ b,M b->Wb.heap.size<=b) (hx:Dep md ops a0 l kA kS M w0 k o x (FormG L f)) (ho:ops[k]?=some o:=by rfl) (eo:o=⟨some d,.call ⟨.value (.func 26),#[.tmp x],vJ⟩,ty,pos,gK,gu⟩:=by rfl) (hw:Wt md ops a0 l kA kS M w0 k o:=by exact fun _ _ _ _=>rfl) (hp:e6 l k=(aE (.bool (schemaF f))).p:=by rfl):cz md ops Q a0 l kA kS M w0 k:=
 by subst eo;exact dR hw ho rfl 26 (fun a γ w aO=>by
  obtain ⟨vx,ex,fx⟩:=hx.is aO;obtain ⟨qx,rfl,hx⟩:=fx;refine ⟨#[qx.val],by go_simp,(tf Wb f hf _ w (hT.kp aO.inv.1 hM) qx hx).mono ?_⟩;rintro e w' ⟨rfl,hb⟩;exact ⟨⟨_,rfl,by rw[hp];rfl⟩,hb⟩)
theorem AT (f:Fm) (hf:fitF f) (x:Nat) (hL:∀ b,w0.heap.size<=b->L b) {gu:Option (Nat×Bool)}  (hx:Dep md ops a0 l kA kS M w0 k o x (FormG L f)) (ho:ops[k]?=some o:=by rfl) (eo:o=⟨some d,.call ⟨.value (.func 33),#[.tmp x],vJ⟩,ty,pos,gK,gu⟩:=by rfl) (hw:Wt md ops a0 l kA kS M w0 k o:=by exact fun _ _ _ _=>rfl) (hp:e6 l k=(sq L (cm (pX f))).p:=by rfl):cz md ops Q a0 l kA kS M w0 k:=
 by subst eo;exact dR hw ho rfl 33 (fun a γ w aO=>by
  obtain ⟨vx,ex,fx⟩:=hx.is aO;obtain ⟨qx,rfl,hx⟩:=fx;refine ⟨#[qx.val],by go_simp,(NZ f hf _ w qx hx).mono ?_⟩;rintro e w' ⟨⟨v,rfl,hv⟩,hb⟩;exact ⟨⟨_,rfl,by rw[hp];exact hv.strs.move (okB.new aO.inv (fun b hb=>hL b (aQ aO.inv.1.size hb)))⟩,hb⟩)
theorem Ik (m n:List Str) (hl:m.length<=2000000) (x y:Nat) {gu:Option (Nat×Bool)}  (hx:Dep md ops a0 l kA kS M w0 k o x ((sq L m).p)) (hy:Dep md ops a0 l kA kS M w0 k o y ((sq L n).p)) (ho:ops[k]?=some o:=by rfl) (eo:o=⟨some d,.call ⟨.value (.func 34),#[.tmp x,.tmp y],vJ⟩,ty,pos,gK,gu⟩:=by rfl) (hw:Wt md ops a0 l kA kS M w0 k o:=by exact fun _ _ _ _=>rfl) (hp:e6 l k=(aE (.bool (m == n))).p:=by rfl):cz md ops Q a0 l kA kS M w0 k:=
 by subst eo;exact dR hw ho rfl 34 (fun a γ w aO=>by
  obtain ⟨vx,ex,fx⟩:=hx.is aO;obtain ⟨vy,ey,fy⟩:=hy.is aO;refine ⟨#[vx,vy],by go_simp,(Cs m n hl _ _ w vx vy fx fy).mono ?_⟩;rintro e w' ⟨rfl,hb⟩;exact ⟨⟨_,rfl,by rw[hp];rfl⟩,hb⟩)
theorem Il (ms:List Str) (x:Nat) (v:Value) (S:StrsO (okS L w0) w0 v ms) (hM:∀ c,L c->¬M c) {gu:Option (Nat×Bool)}  (hx:Dep md ops a0 l kA kS M w0 k o x (fun u _ _=>u=v)) (ho:ops[k]?=some o:=by rfl) (eo:o=⟨some d,.move (.tmp x),ty,pos,gK,gu⟩:=by rfl) (hw:Wt md ops a0 l kA kS M w0 k o:=by exact fun _ _ _ _=>rfl) (hp:e6 l k=(sq L ms).p:=by rfl):cz md ops Q a0 l kA kS M w0 k:=
 by subst eo;exact dC hw ho rfl (fun a γ w aO=>by
  obtain ⟨vx,ex,rfl⟩:=hx a γ w aO;exact ⟨vx,by go_simp,by rw[hp];exact (S.move (okS.at hM)).move (okB.old aO.inv)⟩)
end
theorem LF.weakW {L:Nat->Prop} {q:FQ} {f:Fm} (h:LF L a w d b q f):LF X0 a w d b q f:=⟨h.slot,h.box,h.val.move (fun _ h _=>⟨⟨trivial,h.2⟩,rfl⟩)⟩
theorem LB.weakW {L:Nat->Prop} {q:BQ} {f:Bd} (h:LB L a w d b q f):LB X0 a w d b q f:=⟨h.slot,h.box,h.val.move (fun _ h _=>⟨⟨trivial,h.2⟩,rfl⟩)⟩
end
/-! metavariables -/
mutual
def mH:Tm->List Str | .mk v n a=>(if v && da n then [n] else []) ++ iT a
def iT:List Tm->List Str | []=>[] | t :: l=>mH t ++ iT l
end
mutual
def fV:Fm->List Str | .mk o n a s=>(if (o == 15 || o == 16) && da n then [n] else []) ++ (iT a ++ jw s)
def jw:List Fm->List Str | []=>[] | t :: l=>fV t ++ jw l
end
theorem KM (h:dA n=true):da n=true:=by unfold da;rw[h];rfl
theorem KN (h:cW n=true):da n=true:=by unfold da;rw[h];simp
mutual
theorem N1:∀ t,nodesT t<=VD t
 | .mk v n a=>by have:=tk a;unfold nodesT VD;omega
theorem tk:∀ t,nodesTs t<=vh t
 | []=>by simp[nodesTs]
 | t :: l=>by have:=N1 t;have:=tk l;simp only[nodesTs,vh];omega
end
mutual
theorem N3:∀ t,nodesF t<=Sf t
 | .mk o n a s=>by have:=tk a;have:=tp s;unfold nodesF Sf;omega
theorem tp:∀ t,nodesFs t<=vi t
 | []=>by simp[nodesFs]
 | t :: l=>by have:=N3 t;have:=tp l;simp only[nodesFs,vi];omega
end
theorem AU:∀ {l:List Fm} {f:Fm},f∈l->nodesF f<=nodesFs l
 | y :: c,f,h=>by
  simp only[nodesFs];rcases dw.1 h with rfl | h
  ·omega
  ·have:=AU h;omega
theorem KO {b:Bd} (h:mG b=true) (aA:fitFs (kn b.fs ++ ld b.ts)):BdFit b/\b.fs.length<=10/\b.ts.length<=10:=by
 simp only[mG,ae,bw]at h;obtain ⟨h1,h2,h3⟩:=h;have hsz:=Ii h3;have Bm:=tp (kn b.fs ++ ld b.ts);have jh:∀ x∈b.fs,x.2∈kn b.fs ++ ld b.ts/\Fm.mk 1 x.1 [] []∈kn b.fs ++ ld b.ts:=fun x hx=>by
  refine ⟨List.mem_append.2 (.inl ?_),List.mem_append.2 (.inl ?_)⟩ <;> exact List.mem_flatMap.2 ⟨x,hx,by simp⟩
 have rR:∀ x∈b.ts,Fm.mk 1 x.1 [x.2] []∈kn b.fs ++ ld b.ts:=fun x hx=>List.mem_append.2 (.inr (List.mem_map.2 ⟨x,hx,rfl⟩));refine ⟨⟨by omega,by omega,fun x hx=>?_,fun x hx=>?_⟩,h1,h2⟩
 ·have a:=aA.mem (jh x hx).1;have c:=(aA.mem (jh x hx).2).2;simp only[kT,ae,bw]at c;exact ⟨c.2.1,a⟩
 ·have a:=aA.mem (rR x hx);have c:=a.2;have d:=AU (rR x hx);simp only[kT,nmTs,ae,bw]at c;simp only[nodesF,nodesTs]at d;exact ⟨c.2.1,⟨by omega,c.2.2.1.1⟩,by omega⟩
theorem Bu {b c:Bool} (h:b=c):(aE (.bool c)).p=(aE (.bool b)).p:=by rw[h]
theorem KP (f:Fm):vP f f=true:=(nW f f).2 rfl
def noneB:Bd:=⟨[],[]⟩
mutual
theorem Rx:∀ t,gw true t=true->mH t=[]->gw false t=true
 | .mk v n a,h,hm=>by
  simp only[mH,List.append_eq_nil_iff]at hm;unfold gw at h ⊢
  by_cases hv:v
  ·subst hv;simp only[↓reduceIte,ae,dP,Bool.or_eq_true,Bool.false_and,Bool.or_false]at h ⊢;refine ⟨h.1,h.2.resolve_right (fun ht=>?_)⟩;have:=hm.1;rw[KN ht]at this;simp at this
  ·have hv:v=false:=by simpa using hv
   subst hv;simp only[bZ,↓reduceIte,ae]at h ⊢;exact ⟨h.1,h.2.1,wM a h.2.2 hm.2⟩
theorem wM:∀ l,dB true l=true->iT l=[]->dB false l=true
 | [],_,_=>by simp[dB]
 | t :: l,h,hm=>by
  simp only[iT,List.append_eq_nil_iff]at hm;simp only[dB,ae]at h ⊢;exact ⟨Rx t h.1 hm.1,wM l h.2 hm.2⟩
end
theorem Fo {o:Int} {a:List Tm} {s:List Fm} (h:okF true (.mk o n a s)=true) (hm:fV (.mk o n a s)=[]):o≠15/\o≠16:=by
 have h2:∀ i:Int,i=15\/i=16->o≠i:=by
  rintro i hi rfl;simp only[okF,ae]at h;have hn:dA n=true:=by rcases hi with rfl | rfl <;> exact h.2.1.1
  simp only[fV,KM hn,List.append_eq_nil_iff]at hm;rcases hi with rfl | rfl <;> simp at hm
 exact ⟨h2 15 (.inl rfl),h2 16 (.inr rfl)⟩
theorem Ry {o:Int} (kt:o≠15) (gW:o≠16) (h:((rowOp o).1 || (true && (rowOp o).2.1))=true):(rowOp o).1=true:=by
 unfold rowOp at h ⊢;split <;> rename_i h1
 ·rfl
 ·rw[aD h1]at h;split <;> rename_i h2
  ·rfl
  ·rw[aD h2]at h;split <;> rename_i h3
   ·rfl
   ·rw[aD h3]at h;split <;> rename_i h4
    ·rfl
    ·rw[aD h4]at h;split <;> rename_i h5
     ·rfl
     ·rw[aD h5,aD kt,aD gW]at h;simp at h
mutual
theorem AV:∀ f,okF true f=true->fV f=[]->okF false f=true
 | .mk o n a s,h,hm=>by
  obtain ⟨kt,gW⟩:=Fo h hm;simp only[fV,List.append_eq_nil_iff]at hm;simp only[okF,ae]at h ⊢;exact ⟨by rw[Ry kt gW h.1];rfl,h.2.1,h.2.2.1,wM a h.2.2.2.1 hm.2.1,DS s h.2.2.2.2 hm.2.2⟩
theorem DS:∀ l,cG true l=true->jw l=[]->cG false l=true
 | [],_,_=>by simp[cG]
 | t :: l,h,hm=>by
  simp only[jw,List.append_eq_nil_iff]at hm;simp only[cG,ae]at h ⊢;exact ⟨AV t h.1 hm.1,DS l h.2 hm.2⟩
end
mutual
def AW (c:List Str):Fm->Fm | .mk o n a s=>.mk o n (cR [] c a) (lT (if bD o then c.filter (fun x=>x != n) else c) s)
def lT (c:List Str):List Fm->List Fm | []=>[] | t :: l=>AW c t :: lT c l
end
theorem mc (h:i8 n=true):bY [] c (.mk true n [])=if c.contains n then am (cM n) else am n:=by
 simp only[bY,Gd h,Bool.and_false,bZ,↓reduceIte,dP];rfl
def Fp (c:List Str) (z:Str):Prop:=(i8 z=true/\z ∉ c)\/∃y∈c,z=cM y
mutual
theorem N4:∀ t,gw false t=true->∀ z∈aN (bY [] c t),Fp c z
 | .mk v n a,h,z,hz=>by
  cases v
  ·simp only[gw,bZ,↓reduceIte,ae]at h;simp only[bY,Bool.false_and,bZ,↓reduceIte,aN]at hz;exact tu a h.2.2 z hz
  ·simp only[gw,↓reduceIte,ae,Bool.false_and,Bool.or_false]at h;obtain rfl:a=[]:=by simpa using h.1
   rw[mc h.2]at hz;split at hz <;> rename_i hc
   ·rw[n9]at hz;exact .inr ⟨n,List.contains_iff_mem.1 hc,by simpa using hz⟩
   ·rw[n9]at hz;obtain rfl:z=n:=by simpa using hz
    exact .inl ⟨h.2,fun e=>hc (List.contains_iff_mem.2 e)⟩
theorem tu:∀ t,dB false t=true->∀ z∈aw (cR [] c t),Fp c z
 | [],_,z,hz=>by simp[cR,aw]at hz
 | t :: l,h,z,hz=>by
  simp only[dB,ae]at h;simp only[cR,aw,List.mem_append]at hz;exact hz.elim (N4 t h.1 z) (tu l h.2 z)
end
mutual
theorem Fq:∀ (t:Fm) (c:List Str),okF false t=true->∀ z∈a_ [] (AW c t),Fp c z
 | .mk o n a s,c,h,z,hz=>by
  have h':=h;simp only[okF,ae]at h';simp only[AW,a_,List.mem_append]at hz;rcases hz with hz | hz
  ·exact tu a h'.2.2.2.1 z (List.mem_filter.1 hz).1
  ·by_cases hq:bD o=true
   ·simp only[hq,↓reduceIte]at hz;rw[mr,List.mem_filter]at hz;have jD:z≠n:=by simpa using hz.2
    rcases AX s _ h'.2.2.2.2 z hz.1 with ⟨h1,h2⟩ | ⟨y,hy,e⟩
    ·exact .inl ⟨h1,fun e=>h2 (List.mem_filter.2 ⟨e,by simpa using jD⟩)⟩
    ·exact .inr ⟨y,(List.mem_filter.1 hy).1,e⟩
   ·simp only[hq,bZ,↓reduceIte]at hz;exact AX s c h'.2.2.2.2 z hz
theorem AX:∀ (t:List Fm) (c:List Str),cG false t=true->∀ z∈bH [] (lT c t),Fp c z
 | [],c,_,z,hz=>by simp[lT,bH]at hz
 | t :: l,c,h,z,hz=>by
  simp only[cG,ae]at h;simp only[lT,bH,List.mem_append]at hz;exact hz.elim (Fq t c h.1 z) (AX l c h.2 z)
end
theorem Im {y:Str} (h:cM x=cM y):x=y:=(List.cons.inj h).2
mutual
theorem Mh {u:Tm}:∀ t,x ∉ aN t->pG t=true->iB x u t=t
 | .mk v n a,h,hw=>by
  simp only[pG,ae]at hw;cases v
  ·simp only[aN,bZ,↓reduceIte]at h;have:=AY (u:=u) a h hw.2;simp only[iB,dF,eT,bZ,↓reduceIte,eZ]at this ⊢;rw[show (a.map (eT fun n=>if (n == x)=true then some u else none))=a from this]
  ·simp only[aN,↓reduceIte,dw,not_or]at h;have hn:(n == x)=false:=by simpa using fun e=>h.1 e.symm
   obtain rfl:a=[]:=by simpa using hw.1
   simp[iB,eT,hn,qj]
theorem AY {u:Tm}:∀ t,x ∉ aw t->fR t=true->dF x u t=t
 | [],_,_=>rfl
 | t :: l,h,hw=>by
  simp only[aw,List.mem_append,not_or]at h;simp only[fR,ae]at hw;have:=AY (u:=u) l h.2 hw.2;simp only[dF]at this;simp only[dF,cU,Mh t h.1 hw.1,this]
end
theorem Mi:∀ (k:Nat) (f:Fm),x ∉ a_ [] f->lL f=true->qone f=true->eD k x u f=f
 | 0,f,_,_,_=>rfl
 | k+1,.mk o n a s,h,hw,hq1=>by
  have lH:=hw;simp only[lL,ae]at lH
  by_cases hq:bD o=true
  ·obtain ⟨rfl,g,rfl⟩:=mW hq hq1;rw[mt hq,aX]
   by_cases hn:n=x
   ·simp[hn]
   ·have:x ∉ a_ [] g:=fun e=>h (tW hq (by simpa[bH] using e) (fun e=>hn e.symm));simp[this]
  ·have hq:bD o=false:=by simpa using hq
   simp only[a_,hq,bZ,↓reduceIte,List.mem_append,not_or]at h;have ha:x ∉ aw a:=fun e=>h.1 (List.mem_filter.2 ⟨e,by simp⟩);simp only[qone,hq,Bool.not_false,Bool.true_or,dP]at hq1;rw[qH hq,AY a ha lH.1];congr 1;have:∀ l:List Fm,x ∉ bH [] l->gG l=true->ep l=true->l.map (eD k x u)=l:=fun l=>by
    induction l with
    | nil=>intros;rfl
    | cons t l ih=>
     intro a1 a2 a3;simp only[bH,List.mem_append,not_or]at a1;simp only[gG,ep,ae]at a2 a3;simp only[cU,Mi k t a1.1 a2.1 a3.1,ih a1.2 a2.2 a3.2]
   exact this s h.2 lH.2 hq1
theorem Rz {m:Str} {b:List Tm}:iB x u (.mk false m b)=.mk false m (b.map (iB x u)):=by
 simp only[iB,eT,bZ,↓reduceIte,eZ];rfl
mutual
theorem T5 (hn:n ∉ c):∀ t,gw false t=true->iB (cM n) (am n) (bY [] (n :: c) t)=bY [] c t
 | .mk v m a,h=>by
  cases v
  ·simp only[gw,bZ,↓reduceIte,ae]at h;have:=AZ hn a h.2.2;simp only[dF]at this;simp only[bY,Bool.false_and,bZ,↓reduceIte,Rz,this]
  ·simp only[gw,↓reduceIte,ae,Bool.false_and,Bool.or_false]at h;obtain rfl:a=[]:=by simpa using h.1
   rw[mc h.2,mc h.2]
   by_cases e:m=n
   ·subst e;have:c.contains m=false:=by simpa using hn
    simp only[List.contains_cons,beq_self_eq_true,Bool.true_or,↓reduceIte,this,bZ];simp[iB,am,eT]
   ·have e1:(m == n)=false:=by simpa using e
    simp only[List.contains_cons,e1,Bool.false_or];refine Mh _ ?_ (by split <;> exact yH _);split
    ·rw[n9];simpa using fun h=>e (Im h).symm
    ·rw[n9];simpa using fun e2=>lS h.2 e2.symm
theorem AZ (hn:n ∉ c):∀ t,dB false t=true->dF (cM n) (am n) (cR [] (n :: c) t)=cR [] c t
 | [],_=>rfl
 | t :: l,h=>by
  simp only[dB,ae]at h;have:=AZ hn l h.2;simp only[dF]at this;simp only[dF,cR,cU,T5 hn t h.1,this]
end
mutual
theorem YP:∀ t,gw false t=true->pG (bY [] c t)=true
 | .mk v m a,h=>by
  cases v
  ·simp only[gw,bZ,↓reduceIte,ae]at h;simp only[bY,Bool.false_and,bZ,↓reduceIte,pG,Fr a h.2.2,Bool.not_false,Bool.true_or,Bool.and_self]
  ·simp only[gw,↓reduceIte,ae,Bool.false_and,Bool.or_false]at h;obtain rfl:a=[]:=by simpa using h.1
   rw[mc h.2];split <;> exact yH _
theorem Fr:∀ t,dB false t=true->fR (cR [] c t)=true
 | [],_=>rfl
 | t :: l,h=>by
  simp only[dB,ae]at h;simp only[cR,fR,YP t h.1,Fr l h.2,Bool.and_self]
end
theorem In (c:List Str):∀ s,(lT c s).length=s.length
 | []=>rfl
 | t :: l=>by simp[lT,In c l]
mutual
theorem T6:∀ t,gw false t=true->cY (bY [] c t)=cY t
 | .mk v m a,h=>by
  cases v
  ·simp only[gw,bZ,↓reduceIte,ae]at h;simp only[bY,Bool.false_and,bZ,↓reduceIte,cY,A_ a h.2.2]
  ·simp only[gw,↓reduceIte,ae,Bool.false_and,Bool.or_false]at h;obtain rfl:a=[]:=by simpa using h.1
   rw[mc h.2];split <;> rfl
theorem A_:∀ t,dB false t=true->bx (cR [] c t)=bx t
 | [],_=>rfl
 | t :: l,h=>by
  simp only[dB,ae]at h;simp only[cR,bx,T6 t h.1,A_ l h.2]
end
mutual
theorem RA {d:List Str} (hcd:∀ z,c.contains z=d.contains z):∀ t,bY [] c t=bY [] d t
 | .mk v n a=>by simp only[bY,hcd,wN hcd a]
theorem wN {d:List Str} (hcd:∀ z,c.contains z=d.contains z):∀ t,cR [] c t=cR [] d t
 | []=>rfl
 | t :: l=>by simp only[cR,RA hcd t,wN hcd l]
end
mutual
theorem Mj:∀ (t:Fm) (c d:List Str),(∀ z,c.contains z=d.contains z)->AW c t=AW d t
 | .mk o n a s,c,d,h=>by
  have hs:=Io s (if bD o then c.filter (fun x=>x != n) else c) (if bD o then d.filter (fun x=>x != n) else d) (fun z=>by
   split
   ·have:=h z;simp only[List.contains_eq_mem,decide_eq_decide,List.mem_filter]at this ⊢;rw[this]
   ·exact h z)
  simp only[AW,wN h a,hs]
theorem Io:∀ (t:List Fm) (c d:List Str),(∀ z,c.contains z=d.contains z)->lT c t=lT d t
 | [],_,_,_=>rfl
 | t :: l,c,d,h=>by simp only[lT,Mj t c d h,Io l c d h]
end
mutual
theorem RB:∀ (t:Fm) (c:List Str),okF false t=true->lL (AW c t)=true/\qone (AW c t)=true/\depthF (AW c t)=depthF t
 | .mk o n a s,c,h=>by
  have hq1:=tX _ h;simp only[okF,ae]at h;obtain ⟨h1,h2,h3⟩:=RC s (if bD o then c.filter (fun x=>x != n) else c) h.2.2.2.2;have hd:bx (cR [] c a)=bx a:=A_ a h.2.2.2.1;simp only[qone,ae,Bool.or_eq_true,Bool.not_eq_true',List.isEmpty_iff]at hq1;simp only[AW,lL,qone,depthF,h1,h2,h3,hd,Fr a h.2.2.2.1,In,Bool.and_self,Bool.and_true,true_and,and_true];rcases hq1.1 with e | e
  ·simp[e]
  ·obtain ⟨e1,rfl⟩:=e;simp[e1,cR]
theorem RC:∀ (t:List Fm) (c:List Str),cG false t=true->gG (lT c t)=true/\ep (lT c t)=true/\aT (lT c t)=aT t
 | [],_,_=>⟨rfl,rfl,rfl⟩
 | t :: l,c,h=>by
  simp only[cG,ae]at h;obtain ⟨h1,h2,h3⟩:=RB t c h.1;obtain ⟨g1,g2,g3⟩:=RC l c h.2;simp only[lT,gG,ep,aT,h1,h2,h3,g1,g2,g3,Bool.and_self,and_self]
end
theorem KQ:∀ (k:Nat) (t:Fm) (c:List Str) (n:Str),n ∉ c->okF false t=true->depthF t<=k->eD k (cM n) (am n) (AW (n :: c) t)=AW c t
 | 0,t,_,_,_,_,hk=>by have:=kG t;omega
 | k+1,.mk o m a s,c,n,hn,h,hk=>by
  simp only[depthF]at hk
  by_cases hq:bD o=true
  ·obtain ⟨hm,rfl,g,rfl⟩:=ma h hq;simp only[okF,cG,ae]at h;simp only[aT]at hk;have hg:=h.2.2.2.2.1;simp only[AW,hq,↓reduceIte,cR,lT];rw[mt hq];have hmh:(m == cM n)=false:=by simpa using lS hm
   by_cases e:m=n
   ·subst e;have e1:(m :: c).filter (fun x=>x != m)=c:=by
     simp only[List.filter_cons,bne_self_eq_false,bZ,↓reduceIte];exact List.filter_eq_self.2 (fun x hx=>by have:x≠m:=fun e=>hn (by rw[<-e];exact hx);simpa using this)
    have e2:c.filter (fun x=>x != m)=c:=List.filter_eq_self.2 (fun x hx=>by have:x≠m:=fun e=>hn (by rw[<-e];exact hx);simpa using this);rw[e1,e2,aX];have:cM m ∉ a_ [] (AW c g):=fun hz=>by
     rcases Fq g c hg _ hz with ⟨h1,_⟩ | ⟨y,hy,e⟩
     ·rw[uM]at h1;cases h1
     ·exact hn (Im e ▸ hy)
    simp[this]
   ·have e1:(n :: c).filter (fun x=>x != m)=n :: c.filter (fun x=>x != m):=by
     rw[List.filter_cons,aX (by simpa using fun h=>e h.symm)]
    rw[e1];have ih:=KQ k g (c.filter fun x=>x != m) n (fun h=>hn (List.mem_filter.1 h).1) hg (by omega);obtain ⟨w1,w2,_⟩:=RB g (n :: c.filter fun x=>x != m) hg;split <;> rename_i hc
    ·simp only[hmh,Bool.false_or,Bool.not_eq_true',List.contains_eq_mem,decide_eq_false_iff_not]at hc;rw[Mi k _ hc w1 w2]at ih;rw[ih]
    ·have dK:([n]:List Str).contains m=false:=by simpa using e
     rw[n9,dK];simp only[bZ,↓reduceIte,ih,dF,List.map_nil]
  ·have hq:bD o=false:=by simpa using hq
   simp only[okF,ae]at h;simp only[AW,hq,bZ,↓reduceIte];rw[qH hq,AZ hn a h.2.2.2.1];congr 1;have:∀ l:List Fm,cG false l=true->aT l<=k->(lT (n :: c) l).map (eD k (cM n) (am n))=lT c l:=fun l=>by
    induction l with
    | nil=>intros;rfl
    | cons t l ih=>
     intro a1 a2;simp only[cG,ae]at a1;simp only[aT]at a2;simp only[lT,cU,KQ k t c n hn a1.1 (by omega),ih a1.2 (by omega)]
   exact this s h.2.2.2.2 (by omega)
mutual
theorem Mk:∀ (t:Fm) (c:List Str),okF true t=true->fV t=[]->cH noneB c t=AW c t
 | .mk o n a s,c,h,hm=>by
  have hb:=AV _ h hm;obtain ⟨kt,gW⟩:=Fo h hm;have hm':=hm;simp only[fV,List.append_eq_nil_iff]at hm;have h':=h;simp only[okF,ae]at h;have ih:=fun c=>Ip s c h.2.2.2.2 hm.2.2;unfold cH;rw[aD kt,aD gW]
  by_cases hq:bD o=true
  ·obtain ⟨hn,rfl,g,rfl⟩:=ma hb hq;have ig:=ih (n :: c);simp only[eu,lT,cr,and_true]at ig;simp only[okF,cG,ae]at hb;have hg:=hb.2.2.2.2.1;simp only[hq,↓reduceIte,eu,ig,na];have sW:n ∉ a_ [] (AW (n :: c) g):=fun hz=>by
    rcases Fq g _ hg _ hz with ⟨_,h2⟩ | ⟨y,_,e⟩
    ·exact h2 (ij ..)
    ·exact lS hn e
   rw[aD (by simpa using sW)];have e1:AW (n :: c) g=AW (n :: c.filter (fun x=>x != n)) g:=Mj g _ _ (fun z=>by
    by_cases e:z=n
    ·simp[e]
    ·simp[e])
   have hd:=(RB g (n :: c.filter (fun x=>x != n)) hg).2.2;rw[e1];unfold iD;rw[KQ _ g (c.filter fun x=>x != n) n (fun h=>by simpa using (List.mem_filter.1 h).2) hg (Nat.le_of_eq hd.symm)];simp only[AW,hq,↓reduceIte,lT];rfl
  ·have hq:bD o=false:=by simpa using hq
   simp only[hq,bZ,↓reduceIte,ih c,AW];rfl
theorem Ip:∀ (t:List Fm) (c:List Str),cG true t=true->jw t=[]->eu noneB c t=lT c t
 | [],_,_,_=>rfl
 | t :: l,c,h,hm=>by
  simp only[jw,List.append_eq_nil_iff]at hm;simp only[cG,ae]at h;simp only[eu,lT,Mk t c h.1 hm.1,Ip l c h.2 hm.2]
end
mutual
theorem KR:∀ t,mH t=[]->f_ [] t=false
 | .mk v n a,hm=>by
  have pp270:=();exact pm270
theorem rh:∀ t,iT t=[]->jt [] t=false
 | [],_=>rfl
 | t :: l,hm=>by
  simp only[iT,List.append_eq_nil_iff]at hm;simp only[jt,KR t hm.1,rh l hm.2,Bool.or_self]
end
mutual
theorem T7:∀ t,gw false t=true->bY [] [] t=t
 | .mk v n a,h=>by
  cases v
  ·simp only[gw,bZ,↓reduceIte,ae]at h;simp only[bY,Bool.false_and,bZ,↓reduceIte,Ba a h.2.2]
  ·simp only[gw,↓reduceIte,ae,Bool.false_and,Bool.or_false]at h;obtain rfl:a=[]:=by simpa using h.1
   rw[mc h.2];rfl
theorem Ba:∀ t,dB false t=true->cR [] [] t=t
 | [],_=>rfl
 | t :: l,h=>by
  simp only[dB,ae]at h;simp only[cR,T7 t h.1,Ba l h.2]
end
mutual
theorem RD:∀ t,okF false t=true->AW [] t=t
 | .mk o n a s,h=>by
  simp only[okF,ae]at h;simp only[AW,List.filter_nil,ite_self,Ba a h.2.2.2.1,Ml s h.2.2.2.2]
theorem Ml:∀ t,cG false t=true->lT [] t=t
 | [],_=>rfl
 | t :: l,h=>by
  simp only[cG,ae]at h;simp only[lT,RD t h.1,Ml l h.2]
end
mutual
theorem KS:∀ t,mH t=[]->jx [] t=[]/\nP [] t=nodesT t
 | .mk v n a,hm=>by
  exact pm270
theorem rj:∀ t,iT t=[]->dE [] t=[]/\dQ [] t=nodesTs t
 | [],_=>⟨rfl,rfl⟩
 | t :: l,hm=>by
  simp only[iT,List.append_eq_nil_iff]at hm;obtain ⟨h1,h2⟩:=KS t hm.1;obtain ⟨g1,g2⟩:=rj l hm.2;simp only[dE,dQ,nodesTs,h1,h2,g1,g2,List.append_nil,and_self]
end
theorem T8 (h:okF true s=true) (hm:fV s=[]):eV noneB s=false/\m_ noneB s=[]/\jF noneB s=nodesTs s.a+1:=by
 obtain ⟨o,n,a,l⟩:=s;obtain ⟨kt,gW⟩:=Fo h hm;simp only[fV,List.append_eq_nil_iff]at hm;obtain ⟨h1,h2⟩:=rj a hm.2.1;simp[eV,m_,jF,Fm.op,Fm.a,kt,gW,noneB,rh a hm.2.1,h1,h2]
mutual
theorem xQ:∀ (s:Fm) (c:Sco),okF true s=true->fV s=[]->(∀ p∈bJ c s s,eV noneB p.s=false/\tK noneB p=false)/\((bJ c s s).map fun p=>jF noneB p.s).sum=nodesF s
 | .mk o n a s,c,h,hm=>by
  obtain ⟨k1,k2,k3⟩:=T8 h hm;simp only[fV,List.append_eq_nil_iff]at hm;simp only[okF,ae]at h;obtain ⟨h1,h2⟩:=vp s (if bD o then (n,n) :: c else c) h.2.2.2.2 hm.2.2;refine ⟨fun p hp=>?_,?_⟩
  ·simp only[bJ,dw]at hp;rcases hp with rfl | hp
   ·exact ⟨k1,by simp[tK,k2]⟩
   ·exact h1 p hp
  ·simp only[bJ,cU,List.sum_cons,h2,k3,nodesF,Fm.a];omega
theorem vp:∀ (s:List Fm) (c:Sco),cG true s=true->jw s=[]->(∀ p∈aU c s s,eV noneB p.s=false/\tK noneB p=false)/\((aU c s s).map fun p=>jF noneB p.s).sum=nodesFs s
 | [],_,_,_=>⟨fun p hp=>by simp[aU]at hp,rfl⟩
 | t :: l,c,h,hm=>by
  simp only[jw,List.append_eq_nil_iff]at hm;simp only[cG,ae]at h;obtain ⟨h1,h2⟩:=xQ t c h.1 hm.1;obtain ⟨g1,g2⟩:=vp l c h.2 hm.2;refine ⟨fun p hp=>?_,by simp only[aU,List.map_append,List.sum_append,h2,g2,nodesFs]⟩;simp only[aU,List.mem_append]at hp;exact hp.elim (h1 p) (g1 p)
end
theorem N5 (h:schemaF s=true) (hm:fV s=[]):(kQ s noneB).2=0:=by
 have h':=h;simp only[schemaF,ae,bw]at h';obtain ⟨p1,p2⟩:=xQ s [] h'.1 hm;have hb:=AV s h'.1 hm;have hf:cH noneB [] s=s:=by rw[Mk s [] h'.1 hm,RD s hb]
 have Yh:lk noneB s=0:=by
  unfold lk;rw[aD,aD,aD]
  ·rw[p2];omega
  ·rw[Bool.not_eq_true,List.any_eq_false];intro p hp;rw[(p1 p hp).2];simp
  ·rw[Bool.not_eq_true,List.any_eq_false];intro p hp;rw[(p1 p hp).1];simp
 have hr:dn s=true:=by simp only[dn,ae,bw];exact ⟨hb,h'.2⟩
 have hv:validB noneB=true:=by decide
 unfold kQ;simp[h,hv,Yh,hf,hr]
mutual
theorem Iq:∀ t,f_ [] t=false->gw true t=true->mH t=[]
 | .mk v n a,h,hok=>by
  unfold f_ at h;split at h <;> rename_i hc
  ·simp[getB]at h
  ·have hc:(v && da n)=false:=by simpa using hc
   have ha:dB true a=true:=by
    unfold gw at hok;cases v
    ·simp only[bZ,↓reduceIte,ae]at hok;exact hok.2.2
    ·simp only[↓reduceIte,ae]at hok;have:a=[]:=by simpa using hok.1
     subst this;rfl
   simp only[mH,hc,bZ,↓reduceIte,pA a h ha,List.append_nil]
theorem pA:∀ t,jt [] t=false->dB true t=true->iT t=[]
 | [],_,_=>rfl
 | t :: l,h,hok=>by
  simp only[jt,Bool.or_eq_false_iff]at h;simp only[dB,ae]at hok;simp only[iT,Iq t h.1 hok.1,pA l h.2 hok.2,List.append_nil]
end
mutual
theorem Bb:∀ s,gX noneB s=true->okF true s=true->fV s=[]
 | .mk o n a s,h,hok=>by
  by_cases kt:o=15
  ·subst kt;obtain ⟨g,hg⟩:=s9 h;simp[noneB,getB]at hg
  ·by_cases gW:o=16
   ·subst gW;simp only[gX,ae,Bool.not_eq_true']at h;rw[He noneB n a s rfl]at h;simp at h
   ·obtain ⟨k1,k2⟩:=mx kt gW h;simp only[okF,ae]at hok;have e1:(o == 15)=false:=by simpa using kt
    have e2:(o == 16)=false:=by simpa using gW
    simp only[fV,e1,e2,Bool.or_self,Bool.false_and,bZ,↓reduceIte,pA a k1 hok.2.2.2.1,xS s k2 hok.2.2.2.2,List.append_nil]
theorem xS:∀ s,iP noneB s=true->cG true s=true->jw s=[]
 | [],_,_=>rfl
 | t :: l,h,hok=>by
  simp only[iP,ae]at h;simp only[cG,ae]at hok;simp only[jw,Bb t h.1 hok.1,xS l h.2 hok.2,List.append_nil]
end
theorem N6 (h:schemaF s=true) (hm:fV s≠[]):(kQ s noneB).2=6:=by
 have hok:okF true s=true:=by simp only[schemaF,ae]at h;exact h.1
 have hl:(bJ [] s s).any (fun p=>eV noneB p.s)=true:=by
  cases hc:(bJ [] s s).any (fun p=>eV noneB p.s)
  ·exact absurd (Bb s (Ae s [] hc) hok) hm
  ·rfl
 have Yh:lk noneB s=6:=by unfold lk;rw[aX hl]
 have hv:validB noneB=true:=by decide
 unfold kQ;simp[h,hv,Yh]
/-! the eight faults -/
def YQ:Str:=[81]
def RE:Str:=[80]
def ow:Str:=[63,116]
def d8:Fm:=.mk 1 YQ [] []
def c9 (s:Fm) (ft:Nat):Fm:=if ft=0 then .mk 3 [120] [] [s] else s
def et (ft:Nat):Fm:=if ft=1 then .mk 15 [63,65] [] [] else if ft=2 then .mk 1 RE [.mk true [63,120] []] [] else d8
def cd (b:Bd) (ft:Nat):Bd:=
 if ft=3 then ⟨([63,122,122],d8) :: b.fs,b.ts⟩
 else if ft=4 then ⟨([63,65],d8) :: ([63,65],d8) :: b.fs,b.ts⟩
 else if ft=5 then ⟨[([63,65],.mk 15 [63,66] [] [])],b.ts⟩
 else if ft=6 then ⟨b.fs,[(ow,.mk true ow [])]⟩
 else if ft=7 then ⟨b.fs,[([116],.mk false [97] [])]⟩ else b
def lU (s:Fm) (ft:Nat):List (Fm×Fm):=[(.mk 15 [63,81] [] [],d8),(c9 s ft,et ft)]
theorem wO {b:Bd} (h3:3<=ft) (h8:ft<8):validB (cd b ft)=false:=by
 have:ft=3\/ft=4\/ft=5\/ft=6\/ft=7:=by omega
 rcases this with rfl | rfl | rfl | rfl | rfl
 ·have:dA [63,122,122]=false:=by decide
  simp[cd,validB,this]
 ·have:Op.bytesLess [63,65] [63,65]=false:=by decide
  simp[cd,validB,dD,this]
 ·have:dn (bC (.mk 15 [63,66] [] []))=false:=by decide
  simp[cd,validB,this]
 ·have:gw false (aM (.mk true ow []))=false:=by decide
  simp[cd,validB,this]
 ·have:cW [116]=false:=by decide
  simp[cd,validB,this]
theorem pB {b:Bd} (h3:ft<3):cd b ft=b:=by
 unfold cd;rw[aD (by omega),aD (by omega),aD (by omega),aD (by omega),aD (by omega)]
theorem DT (s:Fm):schemaF (c9 s 0)=false:=by
 have:oA (rowOp 3).2.2.1 [120]=false:=by decide
 simp[c9,schemaF,okF,this]
theorem KT (h3:ft<3):e8 0 (lU s ft)=some 1:=by
 have h0:(schemaF (.mk 15 [63,81] [] []) && dn d8)=true:=by decide
 have h1:(schemaF (c9 s ft) && dn (et ft))=false:=by
  have:ft=0\/ft=1\/ft=2:=by omega
  rcases this with rfl | rfl | rfl
  ·rw[DT];rfl
  ·have:dn (et 1)=false:=by decide
   rw[this,Bool.and_false]
  ·have:dn (et 2)=false:=by decide
   rw[this,Bool.and_false]
 simp only[lU,e8,h0,↓reduceIte,h1,bZ,Nat.zero_add]
theorem Ct {b:Bd} (h8:ft<8) (hv:validB b=true):dq (lU s ft) (cd b ft)=(noneB,if ft<3 then 1 else 0,2):=by
 by_cases h3:ft<3
 ·rw[pB h3,aX h3];unfold dq;rw[hv,KT h3];rfl
 ·rw[aD h3];unfold dq;rw[wO (by omega) h8];rfl
theorem KU {b:Bd} (h8:ft<8) (h1:ft≠1) (h2:ft≠2):kQ (c9 s ft) (cd b ft)=(gB,2):=by
 unfold kQ
 by_cases h0:ft=0
 ·subst h0;rw[DT];rfl
 ·rw[wO (by omega) h8,Bool.and_false];rfl
