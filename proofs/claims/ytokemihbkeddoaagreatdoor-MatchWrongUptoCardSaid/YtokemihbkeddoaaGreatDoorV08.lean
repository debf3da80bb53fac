/-
'found' of package match.
-/
import Derived.Test.YtokemihbkeddoaaGreatDoorV07
namespace Go.Proofs.YtokemihbkeddoaaGreatDoor
open Go Go.RowKit Lib
set_option maxRecDepth 100000
set_option maxHeartbeats 64000000
variable {M ok:Nat->Prop} {B i b kb mF mT nF nT:Nat} {W W' A C:World} {v:Value} {t:Fm} {l:List Tm} {r:List Nat} {o:Option Nat} {c:Sco} {T:TypeId} {x:Str} {PF:Fm->Prop} {PT:Tm->Prop} {k:Bd} {m:List Fm}
section
attribute [local go_sem] Oper.semAt_some
theorem FormV.kp3 (h:FormV (fun b=>b<B/\¬M b/\ok b) W v t) (hk:Kp M W W'):FormV (fun b=>b<B/\¬M b/\ok b) W' v t:=h.move (fun b hb hlt=>⟨hb,hk.same b hlt hb.2.1⟩)
theorem JO (o:Int) (n:Str) (a:List Tm) (s:List Fm) (i:Nat) (r:List Nat) (ins:List Str):nO (.mk o n a s) (i :: r) ins=match s[i]? with | some g=>nO g r (if bD o then n :: ins else ins) | none=>none:=rfl
theorem zP (h:r≠[]):mh l (i :: r)=match l[i]? with | some t=>mh t.a r | none=>none:=by
 cases r with
 | nil=>exact absurd rfl h
 | cons j r=>rfl
theorem JP (h:l[i]?=none):mh l (i :: r)=none:=by
 cases r with
 | nil=>exact h
 | cons j r=>rw[zP (by simp),h]
theorem og {B:World} (h:Kp M A B) (hg:B.grownBy C o) (ho:∀ g,o=some g->A.heap.size<=g):Kp M A C:=
 ⟨hg.os.trans h.os,hg.tape.trans h.tape,hg.output.trans h.output,aQ h.size hg.size,fun b hb hm=>(hg.block b (bN hb h.size) (fun e=>by have:=ho b (by first | exact e | exact e.symm);omega)).trans (h.same b hb hm)⟩
theorem zaH {lo:Nat} {B:World} (h:Below A.heap.size A B) (hg:B.grownBy C o) (ho:∀ g,o=some g->lo<=g):Kp (fun b=>lo<=b) A C:=
 ⟨hg.os.trans h.os,hg.tape.trans h.tape,hg.output.trans h.output,aQ h.size hg.size,fun b hb hm=>(hg.block b (bN hb h.size) (fun e=>by have:=ho b (by first | exact e | exact e.symm);omega)).trans (h.block b hb)⟩
theorem IntsV.apart {l:List Nat} (h:IntsV W v l) {off:Nat} {n c:Nat} (hv:v=.slice (some ⟨b,off,none⟩) n c) (jD:l≠[]) {o:Int} {s:ByteArray} {a1 a2:Option Addr} {n1 c1 n2 c2:Nat} (hx:W.heap[B]?=some (.cells #[.int .u8 o,.string s,.slice a1 n1 c1,.slice a2 n2 c2] T (0,0))):b≠B:=by
 rintro rfl;obtain ⟨a,cap,jS,_,h⟩:=h;rcases h with h | ⟨b2,off2,ha,hc⟩
 ·exact jD h
 ·rw[ha,hv]at jS;injection jS with h1 _ _;injection h1 with h1;injection h1 with h1 h2;subst h1 h2;have h0:=hc 0 (ie.2 jD);rw[aH hx]at h0
  match hk:off+0,h0 with
  | 0,h=>simp at h
  | 1,h=>simp at h
  | 2,h=>simp at h
  | 3,h=>simp at h
  | n+4,h=>simp at h
theorem zQ (h:W.heap[b]?=some (.cells #[.string ⟨x.toArray⟩] T (0,0))):StrsO (fun _=>True) W (.slice (some ⟨b,0,none⟩) 1 1) [x]:=
 ⟨_,1,rfl,aF _,.inr ⟨b,0,rfl,trivial,fun j hj=>by simp at hj;subst hj;exact ah h 0⟩⟩
theorem MX (f im:Fm) (x:Str) (UI:fitF f) (Zp:fitF im) (hp:(lu x f).isSome=true) (ok:Nat->Prop) (w:World) (q r:FQ) (hq:FormV ok w q.val f) (hr:FormV ok w r.val im) :
  Calls Tryz.prog 98 #[q.val,r.val,.string ⟨x.toArray⟩] w fun e w'=>(∃p:TQ,e=.returned (.tuple #[p.val,.bool (jU f im x).isSome])/\∀ u,jU f im x=some u->TermV (fun b=>b<w.heap.size/\ok b) w' p.val u)/\Below w.heap.size w w':=by
 obtain ⟨⟨p,pq⟩,lZ⟩:=Option.isSome_iff_exists.1 hp;obtain ⟨hpq,lJ,zaI⟩:=uh f _ lZ;have qh:=UI.1;simp only at hpq lJ zaI;obtain ⟨R,hR⟩:=ao (jU f im x);have qI:=hR;unfold jU at qI;rw[lZ]at qI;simp only at qI;rw[<-hR];obtain ⟨M,hM⟩:∃M:Nat->Prop,M=fun b=>b=w.heap.size+1:=⟨_,rfl⟩;obtain ⟨W3,ec⟩:=ao (((w.alloc (.cells #[.int .u8 q.o,.string q.n,.slice q.a q.l q.c,.slice q.b q.m q.e] 36)).alloc (.cells #[.int .u8 r.o,.string r.n,.slice r.a r.l r.c,.slice r.b r.m r.e] 36)).alloc (.cells #[.bool false,.string ⟨#[]⟩,.slice none 0 0] 43));have aJ:=xW ec;have pN:=IX ec;have x1:=rW ec;have x2:=qd ec;have x0:=yN ec;have CC:=O_ f x ok W3 q UI (hq.later aJ);rw[lZ]at CC;simp only[Option.map,Option.getD]at CC;have gt:FormV (fun b=>b<w.heap.size/\¬M b/\ok b) w r.val im:=hr.move (fun b hok hlt=>⟨⟨hlt,by rw[hM];simp;omega,hok⟩,rfl⟩);obtain ⟨q0,q1,q2,q3,q4,q5,q6,q7⟩:=q;obtain ⟨r0,r1,r2,r3,r4,r5,r6,r7⟩:=r;obtain ⟨n1,dT⟩:=ao p.length;obtain ⟨n2,ks⟩:=ao pq.length;have MY:n1<=2000000:=by omega
 have SR:n2<=2000000:=by omega
 obtain ⟨HC,HR⟩:=aZ CC qI;have HM:=bE hM pN aJ;have HN:=bE dT ks hpq;have UT:=aC gt Zp;have HX:=bE x0 x1 x2;have yi:=ab ec;simp only at yi HX UT HC;clear CC qI hM pN aJ dT ks hpq gt Zp x0 x1 x2 ec hR hq hr UI hp lZ lJ zaI qh;unfold FQ.val at HC UT ⊢;go_enter Tryz.func98,Tryz.ntmps98;go_wp2_with (rw[<-yi.o];go_at_call 165;refine HC.o.mono ?_;rintro e w4 ⟨⟨v1,v2,rfl,h1,h2⟩,aP⟩;obtain ⟨a1,k1,rfl⟩:=h1.slice;obtain ⟨a2,k2,rfl⟩:=h2.slice;simp only[]at h1 h2 ⊢;have H4:=bE h1 h2 aP;rw[<-HN.o.1,<-HN.o.2.1];clear h1 h2 aP);go_loopw [10,27] (fun v i wr=>∃(k:Nat) (cur:Fm) (ins:List Str) (c:FQ),k<=n1/\i=.int .i64 k/\Kp M w4 wr/\wr.heap[w.heap.size+1]?=some (.cells #[.int .u8 c.o,.string c.n,.slice c.a c.l c.c,.slice c.b c.m c.e] 36 (0,0))/\FormV (fun b=>b<w.heap.size/\¬M b/\ok b) wr c.val cur/\fitF cur/\OwnS w4.heap.size wr v ins.reverse/\ins.length<=k/\nO im p []=nO cur (p.drop k) ins) (fun _ i _=>n1 - (intOf i).toNat)
 case atStart=>exact ⟨0,im,[],⟨r0,r1,r2,r3,r4,r5,r6,r7⟩,bc _,rfl,Kp.refl _,(H4.o.2.2.block _ (by have:=HM.o.2.1;omega)).trans HX.o.2.1,(UT.o.1.later HM.o.2.2).later (H4.o.2.2.mono (by have:=HM.o.2.1;omega)),UT.o.2,OwnS.nil _ _,bc _,by simp⟩
 case round=>
  obtain ⟨k,cur,ins,c,hk,rfl,bj,xh,WO,WP,au,MZ,IP⟩:=hrel
  by_cases hlt:k<n1
  ·have Bz:=ct HN.o.1 hlt;have jD:p≠[]:=fun h=>by rw[h]at Bz;simp at Bz
   obtain ⟨b,off,rfl,hcs⟩:=H4.o.1.get jD;have vX:b≠w.heap.size+1:=H4.o.1.apart rfl jD ((H4.o.2.2.block _ (by have:=HM.o.2.1;omega)).trans HX.o.2.1);have ci:wr.cell? ⟨b,off+k,none⟩=some (.int .i64 (p[k]:Nat)):=bj.cell (by rw[HM.o.1];exact vX) (hcs k Bz);obtain ⟨i0,pY⟩:=ao (p[k]);rw[<-pY]at ci;obtain ⟨co,cn,cas,np⟩:=cur;rw[fN Bz,JO,<-pY]at IP;obtain ⟨u1,u2,h1,JQ,GJ⟩:=aW.1 WO;obtain ⟨c0,c1,c2,c3,c4,c5,c6,c7⟩:=c;have pp32c:=();exact pm32
  ·obtain rfl:k=n1:=by omega
   have hdn:p.drop k=[]:=by rw[HN.o.1];exact List.drop_length
   rw[hdn]at IP;obtain ⟨co,cn,cas,np⟩:=cur;obtain ⟨u1,u2,h1,JQ,GJ⟩:=aW.1 WO;obtain ⟨c0,c1,c2,c3,c4,c5,c6,c7⟩:=c;have pp32d:=();exact pm32
def FormK (ok:Nat->Prop) (PF:Fm->Prop) (W:World) (v:Value) (t:Fm):Prop:=∃q:FQ,v=q.val/\FormV ok W q.val t/\PF t
def TermK (ok:Nat->Prop) (PT:Tm->Prop) (W:World) (v:Value) (t:Tm):Prop:=∃q:TQ,v=q.val/\TermV ok W q.val t/\PT t
structure KnV (ok:Nat->Prop) (PF:Fm->Prop) (PT:Tm->Prop) (W:World) (kb mF mT nF nT:Nat) (k:Bd):Prop where
 box:W.heap[kb]?=some (.cells #[.map (some mF),.map (some mT)] 148 (0,0))
 fs:MapV Tryz.prog 9 (FormK ok PF W) W mF nF k.fs
 ts:MapV Tryz.prog 9 (TermK ok PT W) W mT nT k.ts
 ne1:mF≠mT
 ne2:kb≠mF
 ne3:kb≠mT
theorem KnV.move {ok':Nat->Prop} (h:KnV ok PF PT W kb mF mT nF nT k) (hb:gC ok ok' W W') (h1:W'.heap[kb]?=W.heap[kb]?) (h2:W'.heap[mF]?=W.heap[mF]?) (h3:W'.heap[mT]?=W.heap[mT]?):KnV ok' PF PT W' kb mF mT nF nT k:=
 ⟨h1.trans h.box,h.fs.move h2 (fun _ _ _ _ ⟨q,e,hv,hp⟩=>⟨q,e,hv.move hb,hp⟩),h.ts.move h3 (fun _ _ _ _ ⟨q,e,hv,hp⟩=>⟨q,e,hv.move hb,hp⟩),h.ne1,h.ne2,h.ne3⟩
theorem KnV.ltb (h:KnV ok PF PT W kb mF mT nF nT k):kb<W.heap.size:=(bn h.box)
theorem KnV.later (h:KnV ok PF PT W kb mF mT nF nT k) (hb:Below W.heap.size W W'):KnV ok PF PT W' kb mF mT nF nT k:=
 h.move (dr hb) (hb.block _ h.ltb) (hb.block _ h.fs.lt) (hb.block _ h.ts.lt)
theorem KnV.storeF (h:KnV ok PF PT W kb mF mT nF nT k) (hok:¬ok mF) (hn:nF<4000000) (hx:x.length<=2000000) {q:FQ} (hq:FormV ok W q.val t) (hp:PF t) {l':List (Str×Fm)} (hl:∀ y,getB l' y=if y=x then some t else getB k.fs y) :
  ∃w',(Instr.mapUpdate 145 (.map (some mF)) (.string ⟨x.toArray⟩) q.val).run Tryz.prog W=.ok () w'/\KnV ok PF PT w' kb mF mT (nF+1) nT ⟨l',k.ts⟩/\Kp (fun b=>b=mF) W w'/\w'.heap.size=W.heap.size:=by
 obtain ⟨w',hr,hm,hg,hs⟩:=h.fs.store Tryz.underlying9 Tryz.underlying145 hn hx (v:=q.val) (a:=t) (l':=l') (V':=FormK ok PF W) ⟨q,rfl,hq,hp⟩ (fun _ _ _ _ _ h=>h) hl;have kp:Kp (fun b=>b=mF) W w':=Kp.grown hg rfl;have SU:gC ok ok W w':=fun b hb hlt=>⟨hb,kp.same b hlt (fun e=>hok (e ▸ hb))⟩
 refine ⟨w',hr,⟨(kp.same _ h.ltb h.ne2).trans h.box,hm.move rfl (fun _ _ _ _ ⟨q,e,hv,hp⟩=>⟨q,e,hv.move SU,hp⟩),h.ts.move (kp.same _ h.ts.lt (fun e=>h.ne1 e.symm)) (fun _ _ _ _ ⟨q,e,hv,hp⟩=>⟨q,e,hv.move SU,hp⟩),h.ne1,h.ne2,h.ne3⟩,kp,hs⟩
theorem KnV.storeT (h:KnV ok PF PT W kb mF mT nF nT k) (hok:¬ok mT) (hn:nT<4000000) (hx:x.length<=2000000) {q:TQ} {t:Tm} (hq:TermV ok W q.val t) (hp:PT t) {l':List (Str×Tm)} (hl:∀ y,getB l' y=if y=x then some t else getB k.ts y) :
  ∃w',(Instr.mapUpdate 146 (.map (some mT)) (.string ⟨x.toArray⟩) q.val).run Tryz.prog W=.ok () w'/\KnV ok PF PT w' kb mF mT nF (nT+1) ⟨k.fs,l'⟩/\Kp (fun b=>b=mT) W w'/\w'.heap.size=W.heap.size:=by
 obtain ⟨w',hr,hm,hg,hs⟩:=h.ts.store Tryz.underlying9 Tryz.underlying146 hn hx (v:=q.val) (a:=t) (l':=l') (V':=TermK ok PT W) ⟨q,rfl,hq,hp⟩ (fun _ _ _ _ _ h=>h) hl;have kp:Kp (fun b=>b=mT) W w':=Kp.grown hg rfl;have SU:gC ok ok W w':=fun b hb hlt=>⟨hb,kp.same b hlt (fun e=>hok (e ▸ hb))⟩
 refine ⟨w',hr,⟨(kp.same _ h.ltb h.ne3).trans h.box,h.fs.move (kp.same _ h.fs.lt h.ne1) (fun _ _ _ _ ⟨q,e,hv,hp⟩=>⟨q,e,hv.move SU,hp⟩),hm.move rfl (fun _ _ _ _ ⟨q,e,hv,hp⟩=>⟨q,e,hv.move SU,hp⟩),h.ne1,h.ne2,h.ne3⟩,kp,hs⟩
theorem wl {α:Type} {l:List (Str×α)} (hd:(l.map (·.1)).Nodup) {k:Nat} (hk:k<l.length) (y:Str):getB (l.take (k+1)) y=if y=l[k].1 then some l[k].2 else getB (l.take k) y:=by
 rw[List.take_add_one,gy hk];have zcN:∀ (a:List (Str×α)) (x:Str×α),getB (a ++ [x]) y=match getB a y with | some v=>some v | none=>if x.1=y then some x.2 else none:=by
  intro a x
  induction a with
  | nil=>obtain ⟨x1,x2⟩:=x;simp[getB]
  | cons z a ih=>
   obtain ⟨z1,z2⟩:=z;simp only[nK,getB]
   by_cases hz:(z1 == y)=true
   ·simp[hz]
   ·simp only[hz];simpa using ih
 show getB (l.take k ++ [l[k]]) y=_;rw[zcN]
 by_cases hy:y=l[k].1
 ·have hn:getB (l.take k) y=none:=by
   rw[gQ];intro hm;rw[hy]at hm;have h2:l.map (·.1)=(l.take k).map (·.1) ++ l[k].1 :: (l.drop (k+1)).map (·.1):=by
    have h3:l=l.take k ++ l[k] :: l.drop (k+1):=by rw[<-fN hk];exact (List.take_append_drop k l).symm
    have h4:=congrArg (List.map (·.1)) h3;rw[List.map_append,cU]at h4;exact h4
   rw[h2]at hd;exact (List.nodup_append.1 hd).2.2 _ hm _ (by simp) rfl
  rw[hn,aX hy,aX hy.symm]
 ·rw[aD hy,aD (fun h=>hy h.symm)];cases getB (l.take k) y <;> rfl
end
section
attribute [local go_sem] Oper.semAt_some
attribute [local go_sem] run_makeMap
theorem GK (b:Bd) (hF:b.fs.length<=1000000) (hT:b.ts.length<=1000000) (rP:∀ x∈b.fs,x.1.length<=2000000) (qw:∀ x∈b.ts,x.1.length<=2000000) (hdF:(b.fs.map (·.1)).Nodup) (hdT:(b.ts.map (·.1)).Nodup) (PF:Fm->Prop) (PT:Tm->Prop) (hPF:∀ x∈b.fs,PF x.2) (UX:∀ x∈b.ts,PT x.2) (ok:Nat->Prop) (w:World) (q:BQ) (hq:BindV ok w q b) :
  Calls Tryz.prog 46 #[q.val] w fun e w'=>e=.returned (.pointer (some ⟨w.heap.size+1+1+1,0,none⟩))/\KnV (fun b=>b<w.heap.size) PF PT w' (w.heap.size+1+1+1) (w.heap.size+1) (w.heap.size+1+1) b.fs.length b.ts.length b/\Below w.heap.size w w':=by
 have hq:=hq.move (ok':=fun b=>b<w.heap.size) (fun b _ hlt=>⟨hlt,rfl⟩);have pp167:=();exact pm167
theorem mv {l m:List Fm} {k:Nat} (hl:k<l.length) (hm:k<m.length):aU c (l.take (k+1)) (m.take (k+1))=aU c (l.take k) (m.take k) ++ bJ c l[k] m[k]:=by
 induction l generalizing k m with
 | nil=>simp at hl
 | cons t l ih=>
  cases m with
  | nil=>simp at hm
  | cons u m=>
   cases k with
   | zero=>simp[aU]
   | succ k=>have:=ih (k:=k) (m:=m) (by simpa using hl) (by simpa using hm);simp[aU]at this ⊢;rw[this]
theorem mw {l m:List Fm} {k:Nat}:aU c l m=aU c (l.take k) (m.take k) ++ aU c (l.drop k) (m.drop k):=by
 induction l generalizing k m with
 | nil=>simp[aU]
 | cons t l ih=>
  cases m with
  | nil=>cases k <;> simp[aU]
  | cons u m=>
   cases k with
   | zero=>simp[aU]
   | succ k=>have:=ih (k:=k) (m:=m);simp only[List.take_succ_cons,List.drop_succ_cons,aU,List.append_assoc];rw[this]
theorem uz {c:Sco} {l m:List Fm} {k:Nat} (hk:k=min l.length m.length):aU c (l.take k) (m.take k)=aU c l m:=by
 rw[mw (c:=c) (l:=l) (m:=m) (k:=k)];rcases Nat.le_total l.length m.length with h | h
 ·have h0:l.drop k=[]:=jk (by omega);rw[h0];simp[aU]
 ·have h0:m.drop k=[]:=jk (by omega);rw[h0];cases l.drop k <;> simp[aU]
theorem PI:(Tryz.prog.info? 213).map (fun i=>(i.zero,i.size,i.bytes))=some (some (.agg #[.string ByteArray.empty,.string ByteArray.empty]),2,32):=by kernel_rfl
def PairsN (M:Nat->Prop) (W:World) (v:Value) (ps:List (Str×Str)):Prop:=PairsV W v ps/\∀ b,v.ownBlock=some b->¬M b
theorem PairsN.kp {ps:List (Str×Str)} (h:PairsN M W v ps) (hk:Kp M W W'):PairsN M W' v ps:=by
 have pp251:=();exact pm251
def PJ (M:Nat->Prop) (B:Nat) (W:World) (vs:Array Value) (x:Pl):Prop:=∃(q:PlQ) (ps:List (Str×Str)),vs=#[q.val]/\x.c=ps.reverse/\ps.length<=1000000/\FormV (fun b=>b<B/\¬M b) W q.s.val x.s/\FormV (fun b=>b<B/\¬M b) W q.f.val x.f/\PairsN M W (.slice q.a q.l q.c) ps
def YieldX {T:Type} (M:Nat->Prop) (l:Nat) (J Jx:List T->World->Prop) (At:World->Array Value->T->Prop) (xs:List T) (W:World):Prop:=
 ∀ pre vs x W1,J pre W1->Kp M W W1->At W1 vs x->(pre ++ [x]) <+: xs->YieldAt Fence.wide 0 Tryz.prog l vs W1 fun e W'=>(e=.returned (.bool true)/\J (pre ++ [x]) W'/\Kp M W1 W')\/(e=.returned (.bool false)/\Jx (pre ++ [x]) W'/\KpFrom M (l+1) W1 W')
theorem YieldX.later {T:Type} {l:Nat} {J Jx:List T->World->Prop} {At:World->Array Value->T->Prop} {xs:List T} (h:YieldX M l J Jx At xs W) (hk:Kp M W W'):YieldX M l J Jx At xs W':=
 fun pre vs x W1 hj ej hat hp=>h pre vs x W1 hj (hk.trans ej) hat hp
theorem JS:∀ (s:Fm),∀ (f:Fm),fitF f->∀ (ps:List (Str×Str)),ps.length+nodesF s<=1000000->∀ (M:Nat->Prop) (B l:Nat) (J Jx:List Pl->World->Prop) (xs pre:List Pl) (W:World) (q:PlQ),
  (∀ b,M b->b<W.heap.size)->(l<W.heap.size/\¬M l)->(∀ t,Abides W.heap.size (J t))->(∀ t,Abides W.heap.size (Jx t))->YieldX M l J Jx (PJ M B) xs W->FormV (fun b=>b<B/\¬M b) W q.s.val s->FormV (fun b=>b<B/\¬M b) W q.f.val f->PairsN M W (.slice q.a q.l q.c) ps →
  (pre ++ bJ ps.reverse s f) <+: xs->J pre W →
  Calls Tryz.prog 103 #[q.val,.func (.yield l) #[] #[]] W fun e W'=>(e=.returned (.bool true)/\J (pre ++ bJ ps.reverse s f) W'/\Kp M W W')\/(e=.returned (.bool false)/\∃Ey,Ey <+: xs/\Jx Ey W'/\KpFrom M (l+1) W W'):=by
 obtain ⟨i0,hi,pF,iq,gV⟩:=info_parts PI;intro s
 induction s using Fm.ind with
 | h so sn LE ss ih=>
 intro f PK ps lJ M B l J Jx xs pre W q hM hl hJ hJx hY tF B_ iF dt hj;obtain ⟨fo,fn,UY,fs⟩:=f;obtain ⟨⟨SV,sn',sa,sl,sc,sb,sm,se⟩,⟨fo',fn',fa,fl,fc,fb,fm,fe⟩,ca,cl,cc⟩:=q;obtain ⟨v1,v2,h1,hsa,Pg⟩:=aW.1 tF;obtain ⟨v3,v4,h2,FH,hfs⟩:=aW.1 B_;have pp192:=();exact pm192
theorem JV (x y n:Str) (X:Nat) (w:World) (hX:w.cell? ⟨X,0,none⟩=some (.string ⟨n.toArray⟩)) :
  Calls Tryz.prog 228 #[.agg #[.string ⟨x.toArray⟩,.string ⟨y.toArray⟩],.pointer (some ⟨X,0,none⟩)] w fun e w'=>e=.returned (.bool (x == n))/\Below w.heap.size w w':=by
 have hb:Below w.heap.size w (w.alloc (.cells #[.string ⟨x.toArray⟩,.string ⟨y.toArray⟩] 213)):=cQ;have h1:=aa hb hX;have HB:=ab hb;clear hb;go_enter Tryz.func228,Tryz.ntmps228;go_wp2;go_ret;exact ⟨rfl,HB.o⟩
theorem JW (ps:List (Str×Str)) (lJ:ps.length<=1000000) (n:Str) (X:Nat) (w:World) (v:Value) (hv:PairsV w v ps) (hX:w.cell? ⟨X,0,none⟩=some (.string ⟨n.toArray⟩)) :
  Calls Tryz.prog 274 #[v,.func (.func 228) #[] #[.pointer (some ⟨X,0,none⟩)]] w fun e w'=>(∃r:Int,e=.returned (.int .i64 r)/\(decide (0<=r)=(ps.map (·.1)).contains n)/\-1<=r/\r<=1000000)/\Below w.heap.size w w':=by
 obtain ⟨a,cap,rfl,hc,hs⟩:=hv;obtain ⟨k0,cg⟩:=ao ps.length;rw[<-cg]at lJ hc;rw[<-cg];obtain ⟨HK,HS,HX⟩:=cD cg hs hX;clear cg hs hX;go_enter Tryz.func274,Tryz.ntmps274;go_wp2;go_loopw [8] (fun i wr=>∃k:Nat,k<=k0/\i=.int .i64 k/\Below w.heap.size w wr/\∀ p∈ps.take k,p.1≠n) (fun i _=>k0 - (intOf i).toNat)
 case atStart=>exact ⟨0,bc _,rfl,ak _ _,by simp⟩
 case round=>
  obtain ⟨k,hk,rfl,ar,fZ⟩:=hrel
  by_cases hlt:k<k0
  ·have br:=ct HK.o hlt;have iF:ps≠[]:=fun h=>by rw[h]at br;simp at br
   rcases HS.o with ⟨h,_⟩ | ⟨b,off,rfl,hcs⟩
   ·exact absurd h iF
   obtain ⟨c0,c1⟩:=hcs k br;obtain ⟨d0,d1⟩:=yR ar c0 c1;obtain ⟨⟨px,py⟩,hp⟩:∃p,p=ps[k]:=⟨_,rfl⟩;rw[<-hp]at d0 d1;simp only at d0 d1;have CB:=JV px py n X wr (aa ar HX.o);have DZ:(k:Int)<(k0:Int):=by omega
   cases hq:(px == n) with
   | true=>
    rw[hq]at CB;have HC:=ab CB;have HE:=ab (show (ps.map (·.1)).contains n=true by rw[List.contains_iff_mem];exact List.mem_map.2 ⟨ps[k],az br,by rw[<-hp];exact eq_of_beq hq⟩);have pp172:=();exact pm172
   | false=>
    rw[hq]at CB;have HC:=ab CB;have zF:=ab (show ∀ p∈ps.take (k+1),p.1≠n by
     intro p hm;rw[List.take_add_one,gy br,<-hp]at hm;rcases List.mem_append.1 hm with h | h
     ·exact fZ p h
     ·obtain rfl:p=(px,py):=by simpa using h
      exact fun e=>by rw[show px=n from e]at hq;simp at hq)
    exact pm172
  ·obtain rfl:k=k0:=by omega
   have HE:=ab (show (ps.map (·.1)).contains n=false by
    rw[HK.o,cO]at fZ;rw[Bool.eq_false_iff,ne_eq,List.contains_iff_mem];intro h;obtain ⟨p,hp,he⟩:=List.mem_map.1 h;exact fZ p hp he)
   have HB:=ab ar;clear ar fZ;go_wp2;go_ret;exact ⟨⟨_,rfl,by rw[HE.o];simp,by omega,by omega⟩,HB.o⟩
theorem Cc (ps:List (Str×Str)) (lJ:ps.length<=1000000) (n:Str) (X:Nat) (w:World) (v:Value) (hv:PairsV w v ps) (hX:w.cell? ⟨X,0,none⟩=some (.string ⟨n.toArray⟩)) :
  Calls Tryz.prog 227 #[v,.func (.func 228) #[] #[.pointer (some ⟨X,0,none⟩)]] w fun e w'=>e=.returned (.bool ((ps.map (·.1)).contains n))/\Below w.heap.size w w':=by
 have CC:=JW ps lJ n X w v hv hX;obtain ⟨B,hB⟩:=ao ((ps.map (·.1)).contains n);rw[<-hB]at CC ⊢;have HC:=ab CC;clear CC hv hX hB;go_enter Tryz.func227,Tryz.ntmps227;go_wp2_with (go_at_call 274;refine HC.o.mono ?_;rintro e w4 ⟨⟨r,rfl,hr,_,_⟩,aP⟩;have H4:=aC hr aP;clear hr aP);go_ret;exact ⟨by rw[<-H4.o.1];rfl,H4.o.2⟩
theorem Dm (q:PlQ) (ps:List (Str×Str)) (lJ:ps.length<=1000000) (n:Str) (w:World) (hv:PairsV w (.slice q.a q.l q.c) ps) :
  Calls Tryz.prog 163 #[q.val,.string ⟨n.toArray⟩] w fun e w'=>e=.returned (.bool ((ps.map (·.1)).contains n))/\Below w.heap.size w w':=by
 obtain ⟨W2,bl⟩:=ao ((w.alloc (.cells q.cells 89)).alloc (.cells #[.string ⟨n.toArray⟩] 9));have bF:=lB bl;have x1:W2.cell? ⟨w.heap.size+1,0,none⟩=some (.string ⟨n.toArray⟩):=by rw[bl];exact ah (aj (by simp)) 0
 have CC:=Cc ps lJ n (w.heap.size+1) W2 _ (hv.later bF) x1;obtain ⟨B,hB⟩:=ao ((ps.map (·.1)).contains n);rw[<-hB]at CC ⊢;obtain ⟨HC,HB,gF⟩:=cD CC bF bl;clear CC bF hv x1 bl hB;have pp73b:=();exact pm73
end
theorem mX:∀ a b:Str,Lib.compareBytes a b=0 ↔ a=b
 | [],[]=>by simp[Lib.compareBytes]
 | [],_ :: _=>by simp[Lib.compareBytes]
 | _ :: _,[]=>by simp[Lib.compareBytes]
 | x :: a,y :: b=>by
  have ih:=mX a b;have e:x.toNat=y.toNat ↔ x=y:=UInt8.toNat_inj;simp only[Lib.compareBytes,cr,UInt8.lt_iff_toNat_lt]at *
  by_cases h:x=y
  ·simp[h,ih]
  ·have:x.toNat≠y.toNat:=fun h'=>h (e.1 h');simp only[h,false_and,iff_false];split
   ·simp
   ·split
    ·simp
    ·omega
theorem pJ (x y:Int):Lib.compareInt x y=0 ↔ x=y:=by
 unfold Lib.compareInt;split
 ·simp;omega
 ·split
  ·simp;omega
  ·simp;omega
mutual
def uA:Tm->Tm->Int
 | .mk v n a,.mk v' n' a'=>if (v != v')=true then (if v=true then -1 else 1) else if Lib.compareBytes n n'≠0 then Lib.compareBytes n n' else if Lib.compareInt a.length a'.length≠0 then Lib.compareInt a.length a'.length else zS a a'
def zS:List Tm->List Tm->Int
 | [],_=>0
 | t :: l,m=>match m with | []=>0 | u :: m=>if uA t u≠0 then uA t u else zS l m
end
def Dn (l m:List Tm):Int:=if Lib.compareInt l.length m.length≠0 then Lib.compareInt l.length m.length else zS l m
theorem LG (v v':Bool) (n n':Str) (a a':List Tm):uA (.mk v n a) (.mk v' n' a')=if (v != v')=true then (if v=true then -1 else 1) else if Lib.compareBytes n n'≠0 then Lib.compareBytes n n' else Dn a a':=by
 rw[uA];rfl
mutual
theorem Do:∀ t u,uA t u=0 ↔ t=u
 | .mk v n a,.mk v' n' a'=>by
  rw[LG];have h1:=mX n n';have h2:=pJ a.length a'.length;have h3:=Dp a a';unfold Dn;cases v <;> cases v' <;> simp only[bne_self_eq_false,bZ,if_false,Tm.mk.injEq,true_and] <;> try (simp;done)
  all_goals
   by_cases hn:n=n'
   ·have hz:=h1.2 hn;rw[hz];simp only[ne_eq,not_true,if_false,hn,true_and]
    by_cases hl:a.length=a'.length
    ·have gV:=h2.2 (by omega);rw[gV];simp only[not_true,if_false];exact h3 hl
    ·have:Lib.compareInt a.length a'.length≠0:=fun h=>hl (by have:=h2.1 h;omega);simp only[this,not_false_eq_true,if_true,false_iff];intro h;exact hl (by rw[h])
   ·have hz:Lib.compareBytes n n'≠0:=fun h=>hn (h1.1 h);simp[hz,hn]
theorem Dp:∀ l m,l.length=m.length->(zS l m=0 ↔ l=m)
 | [],[],_=>by simp[zS]
 | [],_ :: _,h=>by simp at h
 | _ :: _,[],h=>by simp at h
 | t :: l,u :: m,h=>by
  have h1:=Do t u;have h2:=Dp l m (by simpa using h);rw[zS]
  by_cases ht:t=u
  ·rw[h1.2 ht];simp[ht,h2]
  ·have hz:uA t u≠0:=fun h=>ht (h1.1 h);simp[hz,ht]
end
theorem M5 {m:List Tm} {k:Nat} (hl:k<l.length) (hm:k<m.length):zS (l.drop k) (m.drop k)=if uA l[k] m[k]≠0 then uA l[k] m[k] else zS (l.drop (k+1)) (m.drop (k+1)):=by
 rw[fN hl,fN hm,zS]
def SX (l:List Tm):Prop:=∀ (m:List Tm) (ok ok':Nat->Prop) (w:World) (a:Option Addr) (n c:Nat) (a':Option Addr) (n' c':Nat),fitTs l->fitTs m->TermsV ok w (.slice a n c) l->TermsV ok' w (.slice a' n' c') m →
 Calls Tryz.prog 273 #[.slice a n c,.slice a' n' c',.func (.func 226) #[] #[]] w fun e w'=>e=.returned (.int .i64 (Dn l m))/\Below w.heap.size w w'
theorem pK (t:Tm) (ih:SX t.a) (u:Tm) (ok ok':Nat->Prop) (w:World) (q q':TQ) (hf:fitT t) (I4:fitT u) (hq:TermV ok w q.val t) (oy:TermV ok' w q'.val u) :
  Calls Tryz.prog 226 #[q.val,q'.val] w fun e w'=>e=.returned (.int .i64 (uA t u))/\Below w.heap.size w w':=by
 obtain ⟨xv,xn,xa⟩:=t;exact pm215
theorem SY (l:List Tm) (ih:∀ t∈l,SX t.a):SX l:=by
 intro m ok ok' w a n c a' n' c' aA LH hl hm;obtain rfl:=hl.len;obtain rfl:=hm.len;have cf:=aA.len;have zaQ:=LH.len;obtain ⟨k0,cg⟩:=ao l.length;obtain ⟨m0,el⟩:=ao m.length;obtain ⟨R,hR⟩:=ao (Dn l m);have U0:=hR;unfold Dn at U0;rw[<-cg,<-el]at U0;rw[<-cg]at cf;rw[<-el]at zaQ;rw[<-cg,<-el,<-hR];obtain ⟨d,hd⟩:=ao (Lib.compareInt (k0:Int) (m0:Int));have HC0:Hd (∀ W,Calls Tryz.prog 287 #[.int .i64 (k0:Int),.int .i64 (m0:Int)] W fun e w'=>e=.returned (.int .i64 d)/\w'=W):=ab (fun W=>by rw[hd];exact Tryz.cmp_Compare_int _ _ W);have hz:=pJ (k0:Int) (m0:Int);rw[<-hd]at U0 hz;obtain ⟨dJ,ib,HL,HM,fd,HF,eW⟩:=VQ cg el hl hm ih aA LH
 by_cases h0:d=0
 ·subst h0;have WT:k0=m0:=by have:=hz.1 rfl;omega
  simp at U0;obtain ⟨HR,HKM⟩:=aZ U0 WT;clear cg el hl hm ih aA LH hd hz hR U0 WT;have pp147:=();exact pm147
 ·have d1:(d == 0)=false:=by simpa using h0
  have d2:(d != 0)=true:=by simpa using h0
  simp[h0]at U0;subst U0;clear cg el hl hm ih aA LH hd hz hR;exact pm147
theorem PN:∀ t:Tm,SX t.a:=by
 intro t
 induction t using Tm.ind with
 | h v n a ih=>exact SY a ih
theorem wn (t u:Tm) (ok ok':Nat->Prop) (w:World) (q q':TQ) (hf:fitT t) (I4:fitT u) (hq:TermV ok w q.val t) (oy:TermV ok' w q'.val u) :
  Calls Tryz.prog 226 #[q.val,q'.val] w fun e w'=>e=.returned (.int .i64 (uA t u))/\Below w.heap.size w w':=pK t (PN t) u ok ok' w q q' hf I4 hq oy
theorem uB (t u:Tm) (ok ok':Nat->Prop) (w:World) (q q':TQ) (hf:fitT t) (I4:fitT u) (hq:TermV ok w q.val t) (oy:TermV ok' w q'.val u) :
  Calls Tryz.prog 162 #[q.val,q'.val] w fun e w'=>e=.returned (.bool (vO t u))/\Below w.heap.size w w':=by
 have hb:Below w.heap.size w ((w.alloc (.cells #[.bool q.v,.string q.n,.slice q.a q.l q.c] 43)).alloc (.cells #[.bool q'.v,.string q'.n,.slice q'.a q'.l q'.c] 43)):=cQ.alloc (by simp) _;have C1:=wn t u ok ok' _ q q' hf I4 (hq.later hb) (oy.later hb);have he:vO t u=(uA t u == 0):=by
  rw[gA,Gc,<-Do];simp
 rw[he];obtain ⟨c,hc⟩:=ao (uA t u);rw[<-hc]at C1 ⊢;obtain ⟨HC,HB⟩:=aZ C1 hb;clear hb C1 hq oy he hc hf I4;unfold TQ.val at HC ⊢;go_enter Tryz.func162,Tryz.ntmps162;go_wp2_with (go_at_call 226;refine HC.o.mono ?_;rintro e w3 ⟨rfl,aJ⟩;have bM:=ab aJ;clear aJ);go_ret;exact ⟨rfl,HB.o.trans (bM.o.mono (by simp;omega))⟩
