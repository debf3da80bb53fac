/-
'found' of package match.
-/
import Derived.Test.YtokemihbkeddoaaGreatDoorU07
namespace Go.Proofs.YtokemihbkeddoaaGreatDoor
open Go Go.RowKit Lib
set_option maxRecDepth 100000
set_option maxHeartbeats 64000000
variable {M ok:Nat->Prop} {B i b kb mF mT nF nT:Nat} {W W' A C:World} {v:Value} {t:Fm} {l:List Tm} {r:List Nat} {o:Option Nat} {c:Sco} {T:TypeId} {x:Str} {PF:Fm->Prop} {PT:Tm->Prop} {k:Bd} {m:List Fm}
section
attribute [local go_sem] Oper.semAt_some
theorem FormV.kp3 (h:FormV (fun b=>b<B/\¬M b/\ok b) W v t) (hk:Kp M W W'):FormV (fun b=>b<B/\¬M b/\ok b) W' v t:=h.move (fun b hb hlt=>⟨hb,hk.same b hlt hb.2.1⟩)
theorem IW (o:Int) (n:Str) (a:List Tm) (s:List Fm) (i:Nat) (r:List Nat) (ins:List Str):m_ (.mk o n a s) (i :: r) ins=match s[i]? with | some g=>m_ g r (if bU o then n :: ins else ins) | none=>none:=rfl
theorem zg (h:r≠[]):lI l (i :: r)=match l[i]? with | some t=>lI t.a r | none=>none:=by
 cases r with
 | nil=>exact absurd rfl h
 | cons j r=>rfl
theorem IX (h:l[i]?=none):lI l (i :: r)=none:=by
 cases r with
 | nil=>exact h
 | cons j r=>rw[zg (by simp),h]
theorem nv {B:World} (h:Kp M A B) (hg:B.grownBy C o) (ho:∀ g,o=some g->A.heap.size<=g):Kp M A C:=
 ⟨hg.os.trans h.os,hg.tape.trans h.tape,hg.output.trans h.output,aN h.size hg.size,fun b hb hm=>(hg.block b (bE hb h.size) (fun e=>by have:=ho b (by first | exact e | exact e.symm);omega)).trans (h.same b hb hm)⟩
theorem ZO {lo:Nat} {B:World} (h:Below A.heap.size A B) (hg:B.grownBy C o) (ho:∀ g,o=some g->lo<=g):Kp (fun b=>lo<=b) A C:=
 ⟨hg.os.trans h.os,hg.tape.trans h.tape,hg.output.trans h.output,aN h.size hg.size,fun b hb hm=>(hg.block b (bE hb h.size) (fun e=>by have:=ho b (by first | exact e | exact e.symm);omega)).trans (h.block b hb)⟩
theorem IntsV.apart {l:List Nat} (h:IntsV W v l) {off:Nat} {n c:Nat} (hv:v=.slice (some ⟨b,off,none⟩) n c) (i9:l≠[]) {o:Int} {s:ByteArray} {a1 a2:Option Addr} {n1 c1 n2 c2:Nat} (hx:W.heap[B]?=some (.cells #[.int .u8 o,.string s,.slice a1 n1 c1,.slice a2 n2 c2] T (0,0))):b≠B:=by
 rintro rfl;obtain ⟨a,cap,jd,_,h⟩:=h;rcases h with h | ⟨b2,off2,ha,hc⟩
 ·exact i9 h
 ·rw[ha,hv]at jd;injection jd with h1 _ _;injection h1 with h1;injection h1 with h1 h2;subst h1 h2;have h0:=hc 0 (iD.2 i9);rw[aE hx]at h0
  match hk:off+0,h0 with
  | 0,h=>simp at h
  | 1,h=>simp at h
  | 2,h=>simp at h
  | 3,h=>simp at h
  | n+4,h=>simp at h
theorem zh (h:W.heap[b]?=some (.cells #[.string ⟨x.toArray⟩] T (0,0))):StrsO (fun _=>True) W (.slice (some ⟨b,0,none⟩) 1 1) [x]:=
 ⟨_,1,rfl,aI _,.inr ⟨b,0,rfl,trivial,fun j hj=>by simp at hj;subst hj;exact ai h 0⟩⟩
theorem LP (f im:Fm) (x:Str) (MX:fitF f) (Ye:fitF im) (hp:(kW x f).isSome=true) (ok:Nat->Prop) (w:World) (q r:FQ) (hq:FormV ok w q.val f) (hr:FormV ok w r.val im) :
  Calls Tryz.prog 98 #[q.val,r.val,.string ⟨x.toArray⟩] w fun e w'=>(∃p:TQ,e=.returned (.tuple #[p.val,.bool (gZ f im x).isSome])/\∀ u,gZ f im x=some u->TermV (fun b=>b<w.heap.size/\ok b) w' p.val u)/\Below w.heap.size w w':=by
 obtain ⟨⟨p,pq⟩,ly⟩:=Option.isSome_iff_exists.1 hp;obtain ⟨hpq,mq,ZP⟩:=th f _ ly;have rk:=MX.1;simp only at hpq mq ZP;obtain ⟨R,hR⟩:=am (gZ f im x);have pN:=hR;unfold gZ at pN;rw[ly]at pN;simp only at pN;rw[<-hR];obtain ⟨M,hM⟩:∃M:Nat->Prop,M=fun b=>b=w.heap.size+1:=⟨_,rfl⟩;obtain ⟨W3,ec⟩:=am (((w.alloc (.cells #[.int .u8 q.o,.string q.n,.slice q.a q.l q.c,.slice q.b q.m q.e] 36)).alloc (.cells #[.int .u8 r.o,.string r.n,.slice r.a r.l r.c,.slice r.b r.m r.e] 36)).alloc (.cells #[.bool false,.string ⟨#[]⟩,.slice none 0 0] 43));have aL:=wX ec;have oR:=Hu ec;have x1:=rj ec;have x2:=pg ec;have x0:=xZ ec;have CC:=NN f x ok W3 q MX (hq.later aL);rw[ly]at CC;simp only[Option.map,Option.getD]at CC;have gw:FormV (fun b=>b<w.heap.size/\¬M b/\ok b) w r.val im:=hr.move (fun b hok hlt=>⟨⟨hlt,by rw[hM];simp;omega,hok⟩,rfl⟩);obtain ⟨q0,q1,q2,q3,q4,q5,q6,q7⟩:=q;obtain ⟨r0,r1,r2,r3,r4,r5,r6,r7⟩:=r;obtain ⟨n1,dX⟩:=am p.length;obtain ⟨n2,ku⟩:=am pq.length;have LQ:n1<=2000000:=by omega
 have Rn:n2<=2000000:=by omega
 obtain ⟨HC,HR⟩:=a_ CC pN;have HM:=bG hM oR aL;have HN:=bG dX ku hpq;have Tw:=aG gw Ye;have HX:=bG x0 x1 x2;have xq:=ae ec;simp only at xq HX Tw HC;clear CC pN hM oR aL dX ku hpq gw Ye x0 x1 x2 ec hR hq hr MX hp ly mq ZP rk;unfold FQ.val at HC Tw ⊢;go_enter Tryz.func98,Tryz.ntmps98;go_wp2_with (rw[<-xq.o];go_at_call 165;refine HC.o.mono ?_;rintro e w4 ⟨⟨v1,v2,rfl,h1,h2⟩,aP⟩;obtain ⟨a1,k1,rfl⟩:=h1.slice;obtain ⟨a2,k2,rfl⟩:=h2.slice;simp only[]at h1 h2 ⊢;have H4:=bG h1 h2 aP;rw[<-HN.o.1,<-HN.o.2.1];clear h1 h2 aP);go_loopw [10,27] (fun v i wr=>∃(k:Nat) (cur:Fm) (ins:List Str) (c:FQ),k<=n1/\i=.int .i64 k/\Kp M w4 wr/\wr.heap[w.heap.size+1]?=some (.cells #[.int .u8 c.o,.string c.n,.slice c.a c.l c.c,.slice c.b c.m c.e] 36 (0,0))/\FormV (fun b=>b<w.heap.size/\¬M b/\ok b) wr c.val cur/\fitF cur/\OwnS w4.heap.size wr v ins.reverse/\ins.length<=k/\m_ im p []=m_ cur (p.drop k) ins) (fun _ i _=>n1 - (intOf i).toNat)
 case atStart=>exact ⟨0,im,[],⟨r0,r1,r2,r3,r4,r5,r6,r7⟩,bc _,rfl,Kp.refl _,(H4.o.2.2.block _ (by have:=HM.o.2.1;omega)).trans HX.o.2.1,(Tw.o.1.later HM.o.2.2).later (H4.o.2.2.mono (by have:=HM.o.2.1;omega)),Tw.o.2,OwnS.nil _ _,bc _,by simp⟩
 case round=>
  obtain ⟨k,cur,ins,c,hk,rfl,bh,wu,Vz,VA,au,LR,Hm⟩:=hrel
  by_cases hlt:k<n1
  ·have AL:=cF HN.o.1 hlt;have i9:p≠[]:=fun h=>by rw[h]at AL;simp at AL
   obtain ⟨b,off,rfl,hcs⟩:=H4.o.1.get i9;have uU:b≠w.heap.size+1:=H4.o.1.apart rfl i9 ((H4.o.2.2.block _ (by have:=HM.o.2.1;omega)).trans HX.o.2.1);have ci:wr.cell? ⟨b,off+k,none⟩=some (.int .i64 (p[k]:Nat)):=bh.cell (by rw[HM.o.1];exact uU) (hcs k AL);obtain ⟨i0,o6⟩:=am (p[k]);rw[<-o6]at ci;obtain ⟨co,cn,cas,k_⟩:=cur;rw[fO AL,IW,<-o6]at Hm;obtain ⟨u1,u2,h1,IY,Ga⟩:=aW.1 Vz;obtain ⟨c0,c1,c2,c3,c4,c5,c6,c7⟩:=c;have pp33c:=();exact pm33
  ·obtain rfl:k=n1:=by omega
   have hdn:p.drop k=[]:=by rw[HN.o.1];exact List.drop_length
   rw[hdn]at Hm;obtain ⟨co,cn,cas,k_⟩:=cur;obtain ⟨u1,u2,h1,IY,Ga⟩:=aW.1 Vz;obtain ⟨c0,c1,c2,c3,c4,c5,c6,c7⟩:=c;have pp33d:=();exact pm33
def FormK (ok:Nat->Prop) (PF:Fm->Prop) (W:World) (v:Value) (t:Fm):Prop:=∃q:FQ,v=q.val/\FormV ok W q.val t/\PF t
def TermK (ok:Nat->Prop) (PT:Tm->Prop) (W:World) (v:Value) (t:Tm):Prop:=∃q:TQ,v=q.val/\TermV ok W q.val t/\PT t
structure KnV (ok:Nat->Prop) (PF:Fm->Prop) (PT:Tm->Prop) (W:World) (kb mF mT nF nT:Nat) (k:Bd):Prop where
 box:W.heap[kb]?=some (.cells #[.map (some mF),.map (some mT)] 148 (0,0))
 fs:MapV Tryz.prog 9 (FormK ok PF W) W mF nF k.fs
 ts:MapV Tryz.prog 9 (TermK ok PT W) W mT nT k.ts
 ne1:mF≠mT
 ne2:kb≠mF
 ne3:kb≠mT
theorem KnV.move {ok':Nat->Prop} (h:KnV ok PF PT W kb mF mT nF nT k) (hb:dW ok ok' W W') (h1:W'.heap[kb]?=W.heap[kb]?) (h2:W'.heap[mF]?=W.heap[mF]?) (h3:W'.heap[mT]?=W.heap[mT]?):KnV ok' PF PT W' kb mF mT nF nT k:=
 ⟨h1.trans h.box,h.fs.move h2 (fun _ _ _ _ ⟨q,e,hv,hp⟩=>⟨q,e,hv.move hb,hp⟩),h.ts.move h3 (fun _ _ _ _ ⟨q,e,hv,hp⟩=>⟨q,e,hv.move hb,hp⟩),h.ne1,h.ne2,h.ne3⟩
theorem KnV.ltb (h:KnV ok PF PT W kb mF mT nF nT k):kb<W.heap.size:=(bz h.box)
theorem KnV.later (h:KnV ok PF PT W kb mF mT nF nT k) (hb:Below W.heap.size W W'):KnV ok PF PT W' kb mF mT nF nT k:=
 h.move (dm hb) (hb.block _ h.ltb) (hb.block _ h.fs.lt) (hb.block _ h.ts.lt)
theorem KnV.storeF (h:KnV ok PF PT W kb mF mT nF nT k) (hok:¬ok mF) (hn:nF<4000000) (hx:x.length<=2000000) {q:FQ} (hq:FormV ok W q.val t) (hp:PF t) {l':List (Str×Fm)} (hl:∀ y,getB l' y=if y=x then some t else getB k.fs y) :
  ∃w',(Instr.mapUpdate 145 (.map (some mF)) (.string ⟨x.toArray⟩) q.val).run Tryz.prog W=.ok () w'/\KnV ok PF PT w' kb mF mT (nF+1) nT ⟨l',k.ts⟩/\Kp (fun b=>b=mF) W w'/\w'.heap.size=W.heap.size:=by
 obtain ⟨w',hr,hm,hg,hs⟩:=h.fs.store Tryz.underlying9 Tryz.underlying145 hn hx (v:=q.val) (a:=t) (l':=l') (V':=FormK ok PF W) ⟨q,rfl,hq,hp⟩ (fun _ _ _ _ _ h=>h) hl;have kp:Kp (fun b=>b=mF) W w':=Kp.grown hg rfl;have Rq:dW ok ok W w':=fun b hb hlt=>⟨hb,kp.same b hlt (fun e=>hok (e ▸ hb))⟩
 refine ⟨w',hr,⟨(kp.same _ h.ltb h.ne2).trans h.box,hm.move rfl (fun _ _ _ _ ⟨q,e,hv,hp⟩=>⟨q,e,hv.move Rq,hp⟩),h.ts.move (kp.same _ h.ts.lt (fun e=>h.ne1 e.symm)) (fun _ _ _ _ ⟨q,e,hv,hp⟩=>⟨q,e,hv.move Rq,hp⟩),h.ne1,h.ne2,h.ne3⟩,kp,hs⟩
theorem KnV.storeT (h:KnV ok PF PT W kb mF mT nF nT k) (hok:¬ok mT) (hn:nT<4000000) (hx:x.length<=2000000) {q:TQ} {t:Tm} (hq:TermV ok W q.val t) (hp:PT t) {l':List (Str×Tm)} (hl:∀ y,getB l' y=if y=x then some t else getB k.ts y) :
  ∃w',(Instr.mapUpdate 146 (.map (some mT)) (.string ⟨x.toArray⟩) q.val).run Tryz.prog W=.ok () w'/\KnV ok PF PT w' kb mF mT nF (nT+1) ⟨k.fs,l'⟩/\Kp (fun b=>b=mT) W w'/\w'.heap.size=W.heap.size:=by
 obtain ⟨w',hr,hm,hg,hs⟩:=h.ts.store Tryz.underlying9 Tryz.underlying146 hn hx (v:=q.val) (a:=t) (l':=l') (V':=TermK ok PT W) ⟨q,rfl,hq,hp⟩ (fun _ _ _ _ _ h=>h) hl;have kp:Kp (fun b=>b=mT) W w':=Kp.grown hg rfl;have Rq:dW ok ok W w':=fun b hb hlt=>⟨hb,kp.same b hlt (fun e=>hok (e ▸ hb))⟩
 refine ⟨w',hr,⟨(kp.same _ h.ltb h.ne3).trans h.box,h.fs.move (kp.same _ h.fs.lt h.ne1) (fun _ _ _ _ ⟨q,e,hv,hp⟩=>⟨q,e,hv.move Rq,hp⟩),hm.move rfl (fun _ _ _ _ ⟨q,e,hv,hp⟩=>⟨q,e,hv.move Rq,hp⟩),h.ne1,h.ne2,h.ne3⟩,kp,hs⟩
theorem vw {α:Type} {l:List (Str×α)} (hd:(l.map (·.1)).Nodup) {k:Nat} (hk:k<l.length) (y:Str):getB (l.take (k+1)) y=if y=l[k].1 then some l[k].2 else getB (l.take k) y:=by
 rw[List.take_add_one,gx hk];have zcb:∀ (a:List (Str×α)) (x:Str×α),getB (a ++ [x]) y=match getB a y with | some v=>some v | none=>if x.1=y then some x.2 else none:=by
  intro a x
  induction a with
  | nil=>obtain ⟨x1,x2⟩:=x;simp[getB]
  | cons z a ih=>
   obtain ⟨z1,z2⟩:=z;simp only[ky,getB]
   by_cases hz:(z1 == y)=true
   ·simp[hz]
   ·simp only[hz];simpa using ih
 show getB (l.take k ++ [l[k]]) y=_;rw[zcb]
 by_cases hy:y=l[k].1
 ·have hn:getB (l.take k) y=none:=by
   rw[gG];intro hm;rw[hy]at hm;have h2:l.map (·.1)=(l.take k).map (·.1) ++ l[k].1 :: (l.drop (k+1)).map (·.1):=by
    have h3:l=l.take k ++ l[k] :: l.drop (k+1):=by rw[<-fO hk];exact (List.take_append_drop k l).symm
    have h4:=congrArg (List.map (·.1)) h3;rw[List.map_append,cK]at h4;exact h4
   rw[h2]at hd;exact (List.nodup_append.1 hd).2.2 _ hm _ (by simp) rfl
  rw[hn,aH hy,aH hy.symm]
 ·rw[aw hy,aw (fun h=>hy h.symm)];cases getB (l.take k) y <;> rfl
end
section
attribute [local go_sem] Oper.semAt_some
attribute [local go_sem] run_makeMap
theorem Gb (b:Bd) (hF:b.fs.length<=1000000) (hT:b.ts.length<=1000000) (qY:∀ x∈b.fs,x.1.length<=2000000) (pE:∀ x∈b.ts,x.1.length<=2000000) (hdF:(b.fs.map (·.1)).Nodup) (hdT:(b.ts.map (·.1)).Nodup) (PF:Fm->Prop) (PT:Tm->Prop) (ZX:∀ x∈b.fs,PF x.2) (TA:∀ x∈b.ts,PT x.2) (ok:Nat->Prop) (w:World) (q:BQ) (hq:BindV ok w q b) :
  Calls Tryz.prog 46 #[q.val] w fun e w'=>e=.returned (.pointer (some ⟨w.heap.size+1+1+1,0,none⟩))/\KnV (fun b=>b<w.heap.size) PF PT w' (w.heap.size+1+1+1) (w.heap.size+1) (w.heap.size+1+1) b.fs.length b.ts.length b/\Below w.heap.size w w':=by
 have hq:=hq.move (ok':=fun b=>b<w.heap.size) (fun b _ hlt=>⟨hlt,rfl⟩);have pp162:=();exact pm162
theorem lW {l m:List Fm} {k:Nat} (hl:k<l.length) (hm:k<m.length):aT c (l.take (k+1)) (m.take (k+1))=aT c (l.take k) (m.take k) ++ bA c l[k] m[k]:=by
 induction l generalizing k m with
 | nil=>simp at hl
 | cons t l ih=>
  cases m with
  | nil=>simp at hm
  | cons u m=>
   cases k with
   | zero=>simp[aT]
   | succ k=>have:=ih (k:=k) (m:=m) (by simpa using hl) (by simpa using hm);simp[aT]at this ⊢;rw[this]
theorem lX {l m:List Fm} {k:Nat}:aT c l m=aT c (l.take k) (m.take k) ++ aT c (l.drop k) (m.drop k):=by
 induction l generalizing k m with
 | nil=>simp[aT]
 | cons t l ih=>
  cases m with
  | nil=>cases k <;> simp[aT]
  | cons u m=>
   cases k with
   | zero=>simp[aT]
   | succ k=>have:=ih (k:=k) (m:=m);simp only[List.take_succ_cons,List.drop_succ_cons,aT,List.append_assoc];rw[this]
theorem tF {c:Sco} {l m:List Fm} {k:Nat} (hk:k=min l.length m.length):aT c (l.take k) (m.take k)=aT c l m:=by
 rw[lX (c:=c) (l:=l) (m:=m) (k:=k)];rcases Nat.le_total l.length m.length with h | h
 ·have h0:l.drop k=[]:=iS (by omega);rw[h0];simp[aT]
 ·have h0:m.drop k=[]:=iS (by omega);rw[h0];cases l.drop k <;> simp[aT]
theorem Ol:(Tryz.prog.info? 213).map (fun i=>(i.zero,i.size,i.bytes))=some (some (.agg #[.string ByteArray.empty,.string ByteArray.empty]),2,32):=by kernel_rfl
def PairsN (M:Nat->Prop) (W:World) (v:Value) (ps:List (Str×Str)):Prop:=PairsV W v ps/\∀ b,v.ownBlock=some b->¬M b
theorem PairsN.kp {ps:List (Str×Str)} (h:PairsN M W v ps) (hk:Kp M W W'):PairsN M W' v ps:=by
 have pp247:=();exact pm247
def Om (M:Nat->Prop) (B:Nat) (W:World) (vs:Array Value) (x:Pl):Prop:=∃(q:PlQ) (ps:List (Str×Str)),vs=#[q.val]/\x.c=ps.reverse/\ps.length<=1000000/\FormV (fun b=>b<B/\¬M b) W q.s.val x.s/\FormV (fun b=>b<B/\¬M b) W q.f.val x.f/\PairsN M W (.slice q.a q.l q.c) ps
def YieldX {T:Type} (M:Nat->Prop) (l:Nat) (J Jx:List T->World->Prop) (At:World->Array Value->T->Prop) (xs:List T) (W:World):Prop:=
 ∀ pre vs x W1,J pre W1->Kp M W W1->At W1 vs x->(pre ++ [x]) <+: xs->YieldAt Fence.wide 0 Tryz.prog l vs W1 fun e W'=>(e=.returned (.bool true)/\J (pre ++ [x]) W'/\Kp M W1 W')\/(e=.returned (.bool false)/\Jx (pre ++ [x]) W'/\KpFrom M (l+1) W1 W')
theorem YieldX.later {T:Type} {l:Nat} {J Jx:List T->World->Prop} {At:World->Array Value->T->Prop} {xs:List T} (h:YieldX M l J Jx At xs W) (hk:Kp M W W'):YieldX M l J Jx At xs W':=
 fun pre vs x W1 hj kC hat hp=>h pre vs x W1 hj (hk.trans kC) hat hp
theorem I0:∀ (s:Fm),∀ (f:Fm),fitF f->∀ (ps:List (Str×Str)),ps.length+nodesF s<=1000000->∀ (M:Nat->Prop) (B l:Nat) (J Jx:List Pl->World->Prop) (xs pre:List Pl) (W:World) (q:PlQ),
  (∀ b,M b->b<W.heap.size)->(l<W.heap.size/\¬M l)->(∀ t,Abides W.heap.size (J t))->(∀ t,Abides W.heap.size (Jx t))->YieldX M l J Jx (Om M B) xs W->FormV (fun b=>b<B/\¬M b) W q.s.val s->FormV (fun b=>b<B/\¬M b) W q.f.val f->PairsN M W (.slice q.a q.l q.c) ps →
  (pre ++ bA ps.reverse s f) <+: xs->J pre W →
  Calls Tryz.prog 103 #[q.val,.func (.yield l) #[] #[]] W fun e W'=>(e=.returned (.bool true)/\J (pre ++ bA ps.reverse s f) W'/\Kp M W W')\/(e=.returned (.bool false)/\∃D7,D7 <+: xs/\Jx D7 W'/\KpFrom M (l+1) W W'):=by
 obtain ⟨i0,hi,nM,i_,ig⟩:=info_parts Ol;intro s
 induction s using Fm.ind with
 | h so sn KD ss ih=>
 intro f On ps mq M B l J Jx xs pre W q hM hl hJ ZZ hY sO Bl gU dn hj;obtain ⟨fo,fn,TB,fs⟩:=f;obtain ⟨⟨Rr,sn',sa,sl,sc,sb,sm,se⟩,⟨Z0,fn',fa,fl,fc,fb,fm,fe⟩,ca,cl,cc⟩:=q;obtain ⟨v1,v2,h1,hsa,NT⟩:=aW.1 sO;obtain ⟨v3,v4,h2,E',Ku⟩:=aW.1 Bl;have pp187:=();exact pm187
theorem I3 (x y n:Str) (X:Nat) (w:World) (hX:w.cell? ⟨X,0,none⟩=some (.string ⟨n.toArray⟩)) :
  Calls Tryz.prog 228 #[.agg #[.string ⟨x.toArray⟩,.string ⟨y.toArray⟩],.pointer (some ⟨X,0,none⟩)] w fun e w'=>e=.returned (.bool (x == n))/\Below w.heap.size w w':=by
 have hb:Below w.heap.size w (w.alloc (.cells #[.string ⟨x.toArray⟩,.string ⟨y.toArray⟩] 213)):=cJ;have h1:=aa hb hX;have HB:=ae hb;clear hb;go_enter Tryz.func228,Tryz.ntmps228;go_wp2;go_ret;exact ⟨rfl,HB.o⟩
theorem I4 (ps:List (Str×Str)) (mq:ps.length<=1000000) (n:Str) (X:Nat) (w:World) (v:Value) (hv:PairsV w v ps) (hX:w.cell? ⟨X,0,none⟩=some (.string ⟨n.toArray⟩)) :
  Calls Tryz.prog 274 #[v,.func (.func 228) #[] #[.pointer (some ⟨X,0,none⟩)]] w fun e w'=>(∃r:Int,e=.returned (.int .i64 r)/\(decide (0<=r)=(ps.map (·.1)).contains n)/\-1<=r/\r<=1000000)/\Below w.heap.size w w':=by
 obtain ⟨a,cap,rfl,hc,hs⟩:=hv;obtain ⟨k0,cg⟩:=am ps.length;rw[<-cg]at mq hc;rw[<-cg];obtain ⟨HK,HS,HX⟩:=cG cg hs hX;clear cg hs hX;go_enter Tryz.func274,Tryz.ntmps274;go_wp2;go_loopw [8] (fun i wr=>∃k:Nat,k<=k0/\i=.int .i64 k/\Below w.heap.size w wr/\∀ p∈ps.take k,p.1≠n) (fun i _=>k0 - (intOf i).toNat)
 case atStart=>exact ⟨0,bc _,rfl,ak _ _,by simp⟩
 case round=>
  obtain ⟨k,hk,rfl,ar,f_⟩:=hrel
  by_cases hlt:k<k0
  ·have bp:=cF HK.o hlt;have gU:ps≠[]:=fun h=>by rw[h]at bp;simp at bp
   rcases HS.o with ⟨h,_⟩ | ⟨b,off,rfl,hcs⟩
   ·exact absurd h gU
   obtain ⟨c0,c1⟩:=hcs k bp;obtain ⟨d0,d1⟩:=AN ar c0 c1;obtain ⟨⟨px,py⟩,hp⟩:∃p,p=ps[k]:=⟨_,rfl⟩;rw[<-hp]at d0 d1;simp only at d0 d1;have CB:=I3 px py n X wr (aa ar HX.o);have BP:(k:Int)<(k0:Int):=by omega
   cases hq:(px == n) with
   | true=>
    rw[hq]at CB;have HC:=ae CB;have HE:=ae (show (ps.map (·.1)).contains n=true by rw[List.contains_iff_mem];exact List.mem_map.2 ⟨ps[k],aA bp,by rw[<-hp];exact eq_of_beq hq⟩);have pp168:=();exact pm168
   | false=>
    rw[hq]at CB;have HC:=ae CB;have yX:=ae (show ∀ p∈ps.take (k+1),p.1≠n by
     intro p hm;rw[List.take_add_one,gx bp,<-hp]at hm;rcases List.mem_append.1 hm with h | h
     ·exact f_ p h
     ·obtain rfl:p=(px,py):=by simpa using h
      exact fun e=>by rw[show px=n from e]at hq;simp at hq)
    exact pm168
  ·obtain rfl:k=k0:=by omega
   have HE:=ae (show (ps.map (·.1)).contains n=false by
    rw[HK.o,cV]at f_;rw[Bool.eq_false_iff,ne_eq,List.contains_iff_mem];intro h;obtain ⟨p,hp,he⟩:=List.mem_map.1 h;exact f_ p hp he)
   have HB:=ae ar;clear ar f_;go_wp2;go_ret;exact ⟨⟨_,rfl,by rw[HE.o];simp,by omega,by omega⟩,HB.o⟩
theorem Bo (ps:List (Str×Str)) (mq:ps.length<=1000000) (n:Str) (X:Nat) (w:World) (v:Value) (hv:PairsV w v ps) (hX:w.cell? ⟨X,0,none⟩=some (.string ⟨n.toArray⟩)) :
  Calls Tryz.prog 227 #[v,.func (.func 228) #[] #[.pointer (some ⟨X,0,none⟩)]] w fun e w'=>e=.returned (.bool ((ps.map (·.1)).contains n))/\Below w.heap.size w w':=by
 have CC:=I4 ps mq n X w v hv hX;obtain ⟨B,hB⟩:=am ((ps.map (·.1)).contains n);rw[<-hB]at CC ⊢;have HC:=ae CC;clear CC hv hX hB;go_enter Tryz.func227,Tryz.ntmps227;go_wp2_with (go_at_call 274;refine HC.o.mono ?_;rintro e w4 ⟨⟨r,rfl,hr,_,_⟩,aP⟩;have H4:=aG hr aP;clear hr aP);go_ret;exact ⟨by rw[<-H4.o.1];rfl,H4.o.2⟩
theorem Cp (q:PlQ) (ps:List (Str×Str)) (mq:ps.length<=1000000) (n:Str) (w:World) (hv:PairsV w (.slice q.a q.l q.c) ps) :
  Calls Tryz.prog 163 #[q.val,.string ⟨n.toArray⟩] w fun e w'=>e=.returned (.bool ((ps.map (·.1)).contains n))/\Below w.heap.size w w':=by
 obtain ⟨W2,bm⟩:=am ((w.alloc (.cells q.cells 89)).alloc (.cells #[.string ⟨n.toArray⟩] 9));have bD:=lF bm;have x1:W2.cell? ⟨w.heap.size+1,0,none⟩=some (.string ⟨n.toArray⟩):=by rw[bm];exact ai (aj (by simp)) 0
 have CC:=Bo ps mq n (w.heap.size+1) W2 _ (hv.later bD) x1;obtain ⟨B,hB⟩:=am ((ps.map (·.1)).contains n);rw[<-hB]at CC ⊢;obtain ⟨HC,HB,gK⟩:=cG CC bD bm;clear CC bD hv x1 bm hB;have pp72b:=();exact pm72
end
theorem mC:∀ a b:Str,Lib.compareBytes a b=0 ↔ a=b
 | [],[]=>by simp[Lib.compareBytes]
 | [],_ :: _=>by simp[Lib.compareBytes]
 | _ :: _,[]=>by simp[Lib.compareBytes]
 | x :: a,y :: b=>by
  have ih:=mC a b;have e:x.toNat=y.toNat ↔ x=y:=UInt8.toNat_inj;simp only[Lib.compareBytes,cB,UInt8.lt_iff_toNat_lt]at *
  by_cases h:x=y
  ·simp[h,ih]
  ·have:x.toNat≠y.toNat:=fun h'=>h (e.1 h');simp only[h,false_and,iff_false];split
   ·simp
   ·split
    ·simp
    ·omega
theorem oN (x y:Int):Lib.compareInt x y=0 ↔ x=y:=by
 unfold Lib.compareInt;split
 ·simp;omega
 ·split
  ·simp;omega
  ·simp;omega
mutual
def tG:Tm->Tm->Int
 | .mk v n a,.mk v' n' a'=>if (v != v')=true then (if v=true then -1 else 1) else if Lib.compareBytes n n'≠0 then Lib.compareBytes n n' else if Lib.compareInt a.length a'.length≠0 then Lib.compareInt a.length a'.length else zj a a'
def zj:List Tm->List Tm->Int
 | [],_=>0
 | t :: l,m=>match m with | []=>0 | u :: m=>if tG t u≠0 then tG t u else zj l m
end
def Cq (l m:List Tm):Int:=if Lib.compareInt l.length m.length≠0 then Lib.compareInt l.length m.length else zj l m
theorem KE (v v':Bool) (n n':Str) (a a':List Tm):tG (.mk v n a) (.mk v' n' a')=if (v != v')=true then (if v=true then -1 else 1) else if Lib.compareBytes n n'≠0 then Lib.compareBytes n n' else Cq a a':=by
 rw[tG];rfl
mutual
theorem Cr:∀ t u,tG t u=0 ↔ t=u
 | .mk v n a,.mk v' n' a'=>by
  rw[KE];have h1:=mC n n';have h2:=oN a.length a'.length;have h3:=Cs a a';unfold Cq;cases v <;> cases v' <;> simp only[bne_self_eq_false,dE,if_false,Tm.mk.injEq,true_and] <;> try (simp;done)
  all_goals
   by_cases hn:n=n'
   ·have hz:=h1.2 hn;rw[hz];simp only[ne_eq,not_true,if_false,hn,true_and]
    by_cases hl:a.length=a'.length
    ·have ig:=h2.2 (by omega);rw[ig];simp only[not_true,if_false];exact h3 hl
    ·have:Lib.compareInt a.length a'.length≠0:=fun h=>hl (by have:=h2.1 h;omega);simp only[this,not_false_eq_true,if_true,false_iff];intro h;exact hl (by rw[h])
   ·have hz:Lib.compareBytes n n'≠0:=fun h=>hn (h1.1 h);simp[hz,hn]
theorem Cs:∀ l m,l.length=m.length->(zj l m=0 ↔ l=m)
 | [],[],_=>by simp[zj]
 | [],_ :: _,h=>by simp at h
 | _ :: _,[],h=>by simp at h
 | t :: l,u :: m,h=>by
  have h1:=Cr t u;have h2:=Cs l m (by simpa using h);rw[zj]
  by_cases ht:t=u
  ·rw[h1.2 ht];simp[ht,h2]
  ·have hz:tG t u≠0:=fun h=>ht (h1.1 h);simp[hz,ht]
end
theorem LU {m:List Tm} {k:Nat} (hl:k<l.length) (hm:k<m.length):zj (l.drop k) (m.drop k)=if tG l[k] m[k]≠0 then tG l[k] m[k] else zj (l.drop (k+1)) (m.drop (k+1)):=by
 rw[fO hl,fO hm,zj]
def Rt (l:List Tm):Prop:=∀ (m:List Tm) (ok ok':Nat->Prop) (w:World) (a:Option Addr) (n c:Nat) (a':Option Addr) (n' c':Nat),fitTs l->fitTs m->TermsV ok w (.slice a n c) l->TermsV ok' w (.slice a' n' c') m →
 Calls Tryz.prog 273 #[.slice a n c,.slice a' n' c',.func (.func 226) #[] #[]] w fun e w'=>e=.returned (.int .i64 (Cq l m))/\Below w.heap.size w w'
theorem oO (t:Tm) (ih:Rt t.a) (u:Tm) (ok ok':Nat->Prop) (w:World) (q q':TQ) (hf:fitT t) (Hz:fitT u) (hq:TermV ok w q.val t) (mM:TermV ok' w q'.val u) :
  Calls Tryz.prog 226 #[q.val,q'.val] w fun e w'=>e=.returned (.int .i64 (tG t u))/\Below w.heap.size w w':=by
 obtain ⟨xv,xn,xa⟩:=t;exact pm211
theorem Ru (l:List Tm) (ih:∀ t∈l,Rt t.a):Rt l:=by
 intro m ok ok' w a n c a' n' c' az KF hl hm;obtain rfl:=hl.len;obtain rfl:=hm.len;have cm:=az.len;have Z4:=KF.len;obtain ⟨k0,cg⟩:=am l.length;obtain ⟨m0,eh⟩:=am m.length;obtain ⟨R,hR⟩:=am (Cq l m);have TD:=hR;unfold Cq at TD;rw[<-cg,<-eh]at TD;rw[<-cg]at cm;rw[<-eh]at Z4;rw[<-cg,<-eh,<-hR];obtain ⟨d,hd⟩:=am (Lib.compareInt (k0:Int) (m0:Int));have HC0:Hd (∀ W,Calls Tryz.prog 287 #[.int .i64 (k0:Int),.int .i64 (m0:Int)] W fun e w'=>e=.returned (.int .i64 d)/\w'=W):=ae (fun W=>by rw[hd];exact Tryz.cmp_Compare_int _ _ W);have hz:=oN (k0:Int) (m0:Int);rw[<-hd]at TD hz;obtain ⟨dB,gV,HL,HM,fS,HF,eR⟩:=UD cg eh hl hm ih az KF
 by_cases h0:d=0
 ·subst h0;have VF:k0=m0:=by have:=hz.1 rfl;omega
  simp at TD;obtain ⟨HR,HKM⟩:=a_ TD VF;clear cg eh hl hm ih az KF hd hz hR TD VF;have pp142:=();exact pm142
 ·have d1:(d == 0)=false:=by simpa using h0
  have d2:(d != 0)=true:=by simpa using h0
  simp[h0]at TD;subst TD;clear cg eh hl hm ih az KF hd hz hR;exact pm142
theorem Ot:∀ t:Tm,Rt t.a:=by
 intro t
 induction t using Tm.ind with
 | h v n a ih=>exact Ru a ih
theorem vA (t u:Tm) (ok ok':Nat->Prop) (w:World) (q q':TQ) (hf:fitT t) (Hz:fitT u) (hq:TermV ok w q.val t) (mM:TermV ok' w q'.val u) :
  Calls Tryz.prog 226 #[q.val,q'.val] w fun e w'=>e=.returned (.int .i64 (tG t u))/\Below w.heap.size w w':=oO t (Ot t) u ok ok' w q q' hf Hz hq mM
theorem tH (t u:Tm) (ok ok':Nat->Prop) (w:World) (q q':TQ) (hf:fitT t) (Hz:fitT u) (hq:TermV ok w q.val t) (mM:TermV ok' w q'.val u) :
  Calls Tryz.prog 162 #[q.val,q'.val] w fun e w'=>e=.returned (.bool (uL t u))/\Below w.heap.size w w':=by
 have hb:Below w.heap.size w ((w.alloc (.cells #[.bool q.v,.string q.n,.slice q.a q.l q.c] 43)).alloc (.cells #[.bool q'.v,.string q'.n,.slice q'.a q'.l q'.c] 43)):=cJ.alloc (by simp) _;have C1:=vA t u ok ok' _ q q' hf Hz (hq.later hb) (mM.later hb);have he:uL t u=(tG t u == 0):=by
  rw[gy,FD,<-Cr];simp
 rw[he];obtain ⟨c,hc⟩:=am (tG t u);rw[<-hc]at C1 ⊢;obtain ⟨HC,HB⟩:=a_ C1 hb;clear hb C1 hq mM he hc hf Hz;unfold TQ.val at HC ⊢;go_enter Tryz.func162,Tryz.ntmps162;go_wp2_with (go_at_call 226;refine HC.o.mono ?_;rintro e w3 ⟨rfl,aL⟩;have bQ:=ae aL;clear aL);go_ret;exact ⟨rfl,HB.o.trans (bQ.o.mono (by simp;omega))⟩
