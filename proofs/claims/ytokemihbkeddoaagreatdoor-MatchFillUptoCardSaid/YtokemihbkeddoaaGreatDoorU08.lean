/-
The contract of 'put' of package match.
-/
import Derived.Test.YtokemihbkeddoaaGreatDoorU07
namespace Go.Proofs.YtokemihbkeddoaaGreatDoor
open Go Go.RowKit Lib
set_option maxRecDepth 100000
set_option maxHeartbeats 64000000
variable {ok M:Nat->Prop} {X w Y W W' A C:World} {B c i b kb mF mT nF nT:Nat} {o0 ou o1 o2:Obj} {T:TypeId} {v:Value} {t:Fm} {l:List Tm} {r:List Nat} {o:Option Nat} {x:Str} {PF:Fm->Prop} {PT:Tm->Prop} {k:Bd}
section
attribute [local go_sem] Oper.semAt_some
theorem rH {p:FQ} {f:Fm} (h:FormV ok X p.val f) (hB:ok B) (hx:X.heap[B]?=some (.cells #[.int .u8 p.o,.string p.n,.slice p.a p.l p.c,.slice p.b p.m p.e] 36 (0,0))):FormsV ok X (.slice (some ⟨B,0,none⟩) 1 c) [f]:=
 ⟨_,c,fun _=>p.val,rfl,.inr ⟨B,0,rfl,hB,fun j hj=>by
  obtain rfl:j=0:=by simpa using hj
  exact ⟨_,_,_,_,rfl,ah hx 0,ah hx 1,ah hx 2,ah hx 3⟩⟩,fun j hj=>by
  obtain rfl:j=0:=by simpa using hj
  exact h⟩
structure PutB (w:World) (o0 ou o1 o2:Obj) (X:World):Prop where
 below:Below w.heap.size w X
 b0:X.heap[w.heap.size]?=some o0
 bu:X.heap[w.heap.size+1]?=some ou
 b1:X.heap[w.heap.size+1+1]?=some o1
 b2:X.heap[w.heap.size+1+1+1]?=some o2
theorem PutB.keep (h:PutB w o0 ou o1 o2 X) (h1:Y.os=X.os) (h2:Y.tape=X.tape) (h3:Y.output=X.output) (h4:X.heap.size<=Y.heap.size) (h5:∀ b,b<=w.heap.size+3->Y.heap[b]?=X.heap[b]?):PutB w o0 ou o1 o2 Y:=
 ⟨⟨h1.trans h.below.os,h2.trans h.below.tape,h3.trans h.below.output,aU h.below.size h4,fun b hb=>(h5 b (by omega)).trans (h.below.block b hb)⟩,(h5 _ (by omega)).trans h.b0,(h5 _ (by omega)).trans h.bu,(h5 _ (by omega)).trans h.b1,(h5 _ (by omega)).trans h.b2⟩
theorem PutB.lt (h:PutB w o0 ou o1 o2 X):w.heap.size+3<X.heap.size:=(bz h.b2)
theorem PutB.later (h:PutB w o0 ou o1 o2 X) (hb:Below X.heap.size X Y):PutB w o0 ou o1 o2 Y:=
 h.keep hb.os hb.tape hb.output hb.size (fun b bB=>hb.block b (by have:=h.lt;omega))
theorem PutB.grown (h:PutB w o0 ou o1 o2 X) {bo:Option Nat} (hg:X.grownBy Y bo) (ja:∀ b,bo=some b->w.heap.size+3<b):PutB w o0 ou o1 o2 Y:=
 h.keep hg.os hg.tape hg.output hg.size (fun b bB=>hg.block b (by have:=h.lt;omega) (fun e=>by have:=ja b e.symm;omega))
theorem PutB.setR {cs:Array Value} (h:PutB w o0 ou o1 (.cells cs T (0,0)) X) (F:Nat) (v:Value):PutB w o0 ou o1 (.cells (cs.setIfInBounds F v) T (0,0)) (X.setCell ⟨w.heap.size+1+1+1,F,none⟩ v):=
 ⟨⟨h.below.os,h.below.tape,h.below.output,by simpa using h.below.size,fun b hb=>(dV _ _ _ _ (by simp <;> omega)).trans (h.below.block b hb)⟩,(dV _ _ _ _ (by simp <;> omega)).trans h.b0,(dV _ _ _ _ (by simp <;> omega)).trans h.bu,(dV _ _ _ _ (by simp)).trans h.b1,aY h.b2 v⟩
def Wo (kk:Nat):Prop:=∀ (W0:World) (f:Fm) (nx:Str) (z:Tm),fitF f->nodesF f<=100000->gS f=true->qone f=true->depthF f<=kk->nx.length<=2000000->fitT z->nodesT z<=100000->∀ (ok MZ:Nat->Prop) (w:World) (q:FQ) (zq:TQ),Tabs W0 w->FormV ok w q.val f->TermV MZ w zq.val z →
 Calls Tryz.prog 101 #[q.val,.string ⟨nx.toArray⟩,zq.val] w fun e w'=>(∃p:FQ,e=.returned p.val/\FormV (w.heap.size<=·) w' p.val (eW kk nx z f))/\Below w.heap.size w w'
theorem Wp (kk:Nat) (IH:Wo kk):Wo (kk+1):=by
 have pp174c:=();exact pm174
theorem Hq:∀ k,Wo k
 | 0=>fun W0 f nx z _ _ _ _ hd=>by have:=jS f;omega
 | k+1=>Wp k (Hq k)
theorem uS (W0:World) (f:Fm) (nx:Str) (z:Tm) (hf:fitF f) (hn:nodesF f<=100000) (hw:gS f=true) (hq:qone f=true) (hx:nx.length<=2000000) (hz:fitT z) (I9:nodesT z<=100000) (ok MZ:Nat->Prop) (w:World) (q:FQ) (zq:TQ) (hT:Tabs W0 w) (h:FormV ok w q.val f) (h2:TermV MZ w zq.val z) :
  Calls Tryz.prog 101 #[q.val,.string ⟨nx.toArray⟩,zq.val] w fun e w'=>(∃p:FQ,e=.returned p.val/\FormV (w.heap.size<=·) w' p.val (fH nx z f))/\Below w.heap.size w w':=
 Hq (depthF f) W0 f nx z hf hn hw hq (aD _) hx hz I9 ok MZ w q zq hT h h2
theorem FormV.kp3 (h:FormV (fun b=>b<B/\¬M b/\ok b) W v t) (hk:Kp M W W'):FormV (fun b=>b<B/\¬M b/\ok b) W' v t:=h.move (fun b hb hlt=>⟨hb,hk.same b hlt hb.2.1⟩)
theorem J6 (o:Int) (n:Str) (a:List Tm) (s:List Fm) (i:Nat) (r:List Nat) (ins:List Str):n8 (.mk o n a s) (i :: r) ins=match s[i]? with | some g=>n8 g r (if bh o then n :: ins else ins) | none=>none:=rfl
theorem AM (h:r≠[]):ms l (i :: r)=match l[i]? with | some t=>ms t.a r | none=>none:=by
 cases r with
 | nil=>exact absurd rfl h
 | cons j r=>rfl
theorem J7 (h:l[i]?=none):ms l (i :: r)=none:=by
 cases r with
 | nil=>exact h
 | cons j r=>rw[AM (by simp),h]
theorem ow {B:World} (h:Kp M A B) (hg:B.grownBy C o) (ho:∀ g,o=some g->A.heap.size<=g):Kp M A C:=
 ⟨hg.os.trans h.os,hg.tape.trans h.tape,hg.output.trans h.output,aU h.size hg.size,fun b hb hm=>(hg.block b (bH hb h.size) (fun e=>by have:=ho b (by first | exact e | exact e.symm);omega)).trans (h.same b hb hm)⟩
theorem zas {lo:Nat} {B:World} (h:Below A.heap.size A B) (hg:B.grownBy C o) (ho:∀ g,o=some g->lo<=g):Kp (fun b=>lo<=b) A C:=
 ⟨hg.os.trans h.os,hg.tape.trans h.tape,hg.output.trans h.output,aU h.size hg.size,fun b hb hm=>(hg.block b (bH hb h.size) (fun e=>by have:=ho b (by first | exact e | exact e.symm);omega)).trans (h.block b hb)⟩
theorem IntsV.apart {l:List Nat} (h:IntsV W v l) {off:Nat} {n:Nat} (hv:v=.slice (some ⟨b,off,none⟩) n c) (jZ:l≠[]) {o:Int} {s:ByteArray} {a1 a2:Option Addr} {n1 c1 n2 c2:Nat} (hx:W.heap[B]?=some (.cells #[.int .u8 o,.string s,.slice a1 n1 c1,.slice a2 n2 c2] T (0,0))):b≠B:=by
 rintro rfl;obtain ⟨a,cap,jy,_,h⟩:=h;rcases h with h | ⟨b2,off2,ha,hc⟩
 ·exact jZ h
 ·rw[ha,hv]at jy;injection jy with h1 _ _;injection h1 with h1;injection h1 with h1 h2;subst h1 h2;have h0:=hc 0 (iZ.2 jZ);rw[aI hx]at h0
  match hk:off+0,h0 with
  | 0,h=>simp at h
  | 1,h=>simp at h
  | 2,h=>simp at h
  | 3,h=>simp at h
  | n+4,h=>simp at h
theorem AN (h:W.heap[b]?=some (.cells #[.string ⟨x.toArray⟩] T (0,0))):StrsO (fun _=>True) W (.slice (some ⟨b,0,none⟩) 1 1) [x]:=
 ⟨_,1,rfl,aD _,.inr ⟨b,0,rfl,trivial,fun j hj=>by simp at hj;subst hj;exact ah h 0⟩⟩
theorem M4 (f im:Fm) (x:Str) (Hk:fitF f) (Y8:fitF im) (hp:(lI x f).isSome=true) (ok:Nat->Prop) (w:World) (q r:FQ) (hq:FormV ok w q.val f) (hr:FormV ok w r.val im) :
  Calls Tryz.prog 98 #[q.val,r.val,.string ⟨x.toArray⟩] w fun e w'=>(∃p:TQ,e=.returned (.tuple #[p.val,.bool (ie f im x).isSome])/\∀ u,ie f im x=some u->TermV (fun b=>b<w.heap.size/\ok b) w' p.val u)/\Below w.heap.size w w':=by
 obtain ⟨⟨p,pq⟩,mf⟩:=Option.isSome_iff_exists.1 hp;obtain ⟨hpq,mg,zat⟩:=uK f _ mf;have su:=Hk.1;simp only at hpq mg zat;obtain ⟨R,hR⟩:=am (ie f im x);have qN:=hR;unfold ie at qN;rw[mf]at qN;simp only at qN;rw[<-hR];obtain ⟨M,hM⟩:∃M:Nat->Prop,M=fun b=>b=w.heap.size+1:=⟨_,rfl⟩;obtain ⟨W3,dB⟩:=am (((w.alloc (.cells #[.int .u8 q.o,.string q.n,.slice q.a q.l q.c,.slice q.b q.m q.e] 36)).alloc (.cells #[.int .u8 r.o,.string r.n,.slice r.a r.l r.c,.slice r.b r.m r.e] 36)).alloc (.cells #[.bool false,.string ⟨#[]⟩,.slice none 0 0] 43));have aM:=yK dB;have pP:=Ji dB;have x1:=sk dB;have x2:=qi dB;have x0:=zO dB;have CC:=O_ f x ok W3 q Hk (hq.later aM);rw[mf]at CC;simp only[Option.map,Option.getD]at CC;have gP:FormV (fun b=>b<w.heap.size/\¬M b/\ok b) w r.val im:=hr.move (fun b hok hlt=>⟨⟨hlt,by rw[hM];simp;omega,hok⟩,rfl⟩);obtain ⟨q0,q1,q2,q3,q4,q5,q6,q7⟩:=q;obtain ⟨r0,r1,r2,r3,r4,r5,r6,r7⟩:=r;obtain ⟨n1,ea⟩:=am p.length;obtain ⟨n2,kY⟩:=am pq.length;have M5:n1<=2000000:=by omega
 have SM:n2<=2000000:=by omega
 obtain ⟨HC,HR⟩:=aW CC qN;have HM:=bF hM pP aM;have HN:=bF ea kY hpq;have UJ:=aG gP Y8;have HX:=bF x0 x1 x2;have y':=ac dB;simp only at y' HX UJ HC;clear CC qN hM pP aM ea kY hpq gP Y8 x0 x1 x2 dB hR hq hr Hk hp mf mg zat su;unfold FQ.val at HC UJ ⊢;go_enter Tryz.func98,Tryz.ntmps98;go_wp2_with (rw[<-y'.o];go_at_call 165;refine HC.o.mono ?_;rintro e w4 ⟨⟨v1,v2,rfl,h1,h2⟩,aO⟩;obtain ⟨a1,k1,rfl⟩:=h1.slice;obtain ⟨a2,k2,rfl⟩:=h2.slice;simp only[]at h1 h2 ⊢;have H4:=bF h1 h2 aO;rw[<-HN.o.1,<-HN.o.2.1];clear h1 h2 aO);go_loopw [10,27] (fun v i wr=>∃(k:Nat) (cur:Fm) (ins:List Str) (c:FQ),k<=n1/\i=.int .i64 k/\Kp M w4 wr/\wr.heap[w.heap.size+1]?=some (.cells #[.int .u8 c.o,.string c.n,.slice c.a c.l c.c,.slice c.b c.m c.e] 36 (0,0))/\FormV (fun b=>b<w.heap.size/\¬M b/\ok b) wr c.val cur/\fitF cur/\OwnS w4.heap.size wr v ins.reverse/\ins.length<=k/\n8 im p []=n8 cur (p.drop k) ins) (fun _ i _=>n1 - (intOf i).toNat)
 case atStart=>exact ⟨0,im,[],⟨r0,r1,r2,r3,r4,r5,r6,r7⟩,aX _,rfl,Kp.refl _,(H4.o.2.2.block _ (by have:=HM.o.2.1;omega)).trans HX.o.2.1,(UJ.o.1.later HM.o.2.2).later (H4.o.2.2.mono (by have:=HM.o.2.1;omega)),UJ.o.2,OwnS.nil _ _,aX _,by simp⟩
 case round=>
  obtain ⟨k,cur,ins,c,hk,rfl,bj,ye,WE,WF,aA,M6,I_⟩:=hrel
  by_cases hlt:k<n1
  ·have CO:=ce HN.o.1 hlt;have jZ:p≠[]:=fun h=>by rw[h]at CO;simp at CO
   obtain ⟨b,off,rfl,hcs⟩:=H4.o.1.get jZ;have wJ:b≠w.heap.size+1:=H4.o.1.apart rfl jZ ((H4.o.2.2.block _ (by have:=HM.o.2.1;omega)).trans HX.o.2.1);have ci:wr.cell? ⟨b,off+k,none⟩=some (.int .i64 (p[k]:Nat)):=bj.cell (by rw[HM.o.1];exact wJ) (hcs k CO);obtain ⟨i0,p9⟩:=am (p[k]);rw[<-p9]at ci;obtain ⟨co,cn,cas,lN⟩:=cur;rw[gj CO,J6,<-p9]at I_;obtain ⟨u1,u2,h1,J8,Hr⟩:=aT.1 WE;obtain ⟨c0,c1,c2,c3,c4,c5,c6,c7⟩:=c;have pp35c:=();exact pm35
  ·obtain rfl:k=n1:=by omega
   have hdn:p.drop k=[]:=by rw[HN.o.1];exact List.drop_length
   rw[hdn]at I_;obtain ⟨co,cn,cas,lN⟩:=cur;obtain ⟨u1,u2,h1,J8,Hr⟩:=aT.1 WE;obtain ⟨c0,c1,c2,c3,c4,c5,c6,c7⟩:=c;have pp35d:=();exact pm35
def FormK (ok:Nat->Prop) (PF:Fm->Prop) (W:World) (v:Value) (t:Fm):Prop:=∃q:FQ,v=q.val/\FormV ok W q.val t/\PF t
def TermK (ok:Nat->Prop) (PT:Tm->Prop) (W:World) (v:Value) (t:Tm):Prop:=∃q:TQ,v=q.val/\TermV ok W q.val t/\PT t
structure KnV (ok:Nat->Prop) (PF:Fm->Prop) (PT:Tm->Prop) (W:World) (kb mF mT nF nT:Nat) (k:Bd):Prop where
 box:W.heap[kb]?=some (.cells #[.map (some mF),.map (some mT)] 148 (0,0))
 fs:MapV Tryz.prog 9 (FormK ok PF W) W mF nF k.fs
 ts:MapV Tryz.prog 9 (TermK ok PT W) W mT nT k.ts
 ne1:mF≠mT
 ne2:kb≠mF
 ne3:kb≠mT
theorem KnV.move {ok':Nat->Prop} (h:KnV ok PF PT W kb mF mT nF nT k) (hb:fk ok ok' W W') (h1:W'.heap[kb]?=W.heap[kb]?) (h2:W'.heap[mF]?=W.heap[mF]?) (h3:W'.heap[mT]?=W.heap[mT]?):KnV ok' PF PT W' kb mF mT nF nT k:=
 ⟨h1.trans h.box,h.fs.move h2 (fun _ _ _ _ ⟨q,e,hv,hp⟩=>⟨q,e,hv.move hb,hp⟩),h.ts.move h3 (fun _ _ _ _ ⟨q,e,hv,hp⟩=>⟨q,e,hv.move hb,hp⟩),h.ne1,h.ne2,h.ne3⟩
theorem KnV.ltb (h:KnV ok PF PT W kb mF mT nF nT k):kb<W.heap.size:=(bz h.box)
theorem KnV.later (h:KnV ok PF PT W kb mF mT nF nT k) (hb:Below W.heap.size W W'):KnV ok PF PT W' kb mF mT nF nT k:=
 h.move (dw hb) (hb.block _ h.ltb) (hb.block _ h.fs.lt) (hb.block _ h.ts.lt)
theorem KnV.storeF (h:KnV ok PF PT W kb mF mT nF nT k) (hok:¬ok mF) (hn:nF<4000000) (hx:x.length<=2000000) {q:FQ} (hq:FormV ok W q.val t) (hp:PF t) {l':List (Str×Fm)} (hl:∀ y,getB l' y=if y=x then some t else getB k.fs y) :
  ∃w',(Instr.mapUpdate 145 (.map (some mF)) (.string ⟨x.toArray⟩) q.val).run Tryz.prog W=.ok () w'/\KnV ok PF PT w' kb mF mT (nF+1) nT ⟨l',k.ts⟩/\Kp (fun b=>b=mF) W w'/\w'.heap.size=W.heap.size:=by
 obtain ⟨w',hr,hm,hg,hs⟩:=h.fs.store Tryz.underlying9 Tryz.underlying145 hn hx (v:=q.val) (a:=t) (l':=l') (V':=FormK ok PF W) ⟨q,rfl,hq,hp⟩ (fun _ _ _ _ _ h=>h) hl;have kp:Kp (fun b=>b=mF) W w':=Kp.grown hg rfl;have SP:fk ok ok W w':=fun b hb hlt=>⟨hb,kp.same b hlt (fun e=>hok (e ▸ hb))⟩
 refine ⟨w',hr,⟨(kp.same _ h.ltb h.ne2).trans h.box,hm.move rfl (fun _ _ _ _ ⟨q,e,hv,hp⟩=>⟨q,e,hv.move SP,hp⟩),h.ts.move (kp.same _ h.ts.lt (fun e=>h.ne1 e.symm)) (fun _ _ _ _ ⟨q,e,hv,hp⟩=>⟨q,e,hv.move SP,hp⟩),h.ne1,h.ne2,h.ne3⟩,kp,hs⟩
theorem KnV.storeT (h:KnV ok PF PT W kb mF mT nF nT k) (hok:¬ok mT) (hn:nT<4000000) (hx:x.length<=2000000) {q:TQ} {t:Tm} (hq:TermV ok W q.val t) (hp:PT t) {l':List (Str×Tm)} (hl:∀ y,getB l' y=if y=x then some t else getB k.ts y) :
  ∃w',(Instr.mapUpdate 146 (.map (some mT)) (.string ⟨x.toArray⟩) q.val).run Tryz.prog W=.ok () w'/\KnV ok PF PT w' kb mF mT nF (nT+1) ⟨k.fs,l'⟩/\Kp (fun b=>b=mT) W w'/\w'.heap.size=W.heap.size:=by
 obtain ⟨w',hr,hm,hg,hs⟩:=h.ts.store Tryz.underlying9 Tryz.underlying146 hn hx (v:=q.val) (a:=t) (l':=l') (V':=TermK ok PT W) ⟨q,rfl,hq,hp⟩ (fun _ _ _ _ _ h=>h) hl;have kp:Kp (fun b=>b=mT) W w':=Kp.grown hg rfl;have SP:fk ok ok W w':=fun b hb hlt=>⟨hb,kp.same b hlt (fun e=>hok (e ▸ hb))⟩
 refine ⟨w',hr,⟨(kp.same _ h.ltb h.ne3).trans h.box,h.fs.move (kp.same _ h.fs.lt h.ne1) (fun _ _ _ _ ⟨q,e,hv,hp⟩=>⟨q,e,hv.move SP,hp⟩),hm.move rfl (fun _ _ _ _ ⟨q,e,hv,hp⟩=>⟨q,e,hv.move SP,hp⟩),h.ne1,h.ne2,h.ne3⟩,kp,hs⟩
theorem wY {α:Type} {l:List (Str×α)} (hd:(l.map (·.1)).Nodup) {k:Nat} (hk:k<l.length) (y:Str):getB (l.take (k+1)) y=if y=l[k].1 then some l[k].2 else getB (l.take k) y:=by
 rw[List.take_add_one,gT hk];have zcC:∀ (a:List (Str×α)) (x:Str×α),getB (a ++ [x]) y=match getB a y with | some v=>some v | none=>if x.1=y then some x.2 else none:=by
  intro a x
  induction a with
  | nil=>obtain ⟨x1,x2⟩:=x;simp[getB]
  | cons z a ih=>
   obtain ⟨z1,z2⟩:=z;simp only[lG,getB]
   by_cases hz:(z1 == y)=true
   ·simp[hz]
   ·simp only[hz];simpa using ih
 show getB (l.take k ++ [l[k]]) y=_;rw[zcC]
 by_cases hy:y=l[k].1
 ·have hn:getB (l.take k) y=none:=by
   rw[ia];intro hm;rw[hy]at hm;have h2:l.map (·.1)=(l.take k).map (·.1) ++ l[k].1 :: (l.drop (k+1)).map (·.1):=by
    have h3:l=l.take k ++ l[k] :: l.drop (k+1):=by rw[<-gj hk];exact (List.take_append_drop k l).symm
    have h4:=congrArg (List.map (·.1)) h3;rw[List.map_append,cz]at h4;exact h4
   rw[h2]at hd;exact (List.nodup_append.1 hd).2.2 _ hm _ (by simp) rfl
  rw[hn,au hy,au hy.symm]
 ·rw[ak hy,ak (fun h=>hy h.symm)];cases getB (l.take k) y <;> rfl
end
section
attribute [local go_sem] Oper.semAt_some
attribute [local go_sem] run_makeMap
theorem Hs (b:Bd) (hF:b.fs.length<=1000000) (hT:b.ts.length<=1000000) (sd:∀ x∈b.fs,x.1.length<=2000000) (qC:∀ x∈b.ts,x.1.length<=2000000) (hdF:(b.fs.map (·.1)).Nodup) (hdT:(b.ts.map (·.1)).Nodup) (PF:Fm->Prop) (PT:Tm->Prop) (hPF:∀ x∈b.fs,PF x.2) (UN:∀ x∈b.ts,PT x.2) (ok:Nat->Prop) (w:World) (q:BQ) (hq:BindV ok w q b) :
  Calls Tryz.prog 46 #[q.val] w fun e w'=>e=.returned (.pointer (some ⟨w.heap.size+1+1+1,0,none⟩))/\KnV (fun b=>b<w.heap.size) PF PT w' (w.heap.size+1+1+1) (w.heap.size+1) (w.heap.size+1+1) b.fs.length b.ts.length b/\Below w.heap.size w w':=by
 have hq:=hq.move (ok':=fun b=>b<w.heap.size) (fun b _ hlt=>⟨hlt,rfl⟩);have pp185:=();exact pm185
