/-
'found' of package match: the term of an image at the first place of a placeholder.
What metavariables stand for,in memory (the struct 'known' of package match);'knownBy'.
'knownBy' of package match.
-/
import Derived.Test.YtokemihbkeddoaaGreatDoorU00
import Derived.Test.YtokemihbkeddoaaGreatDoorU09
import Derived.Test.YtokemihbkeddoaaGreatDoorU12
import Derived.Test.YtokemihbkeddoaaGreatDoorU15
import Derived.Test.YtokemihbkeddoaaGreatDoorU10
import Derived.Test.YtokemihbkeddoaaGreatDoorU01
namespace Go.Proofs.YtokemihbkeddoaaGreatDoor
open Go Go.RowKit Lib
set_option maxRecDepth 100000
set_option maxHeartbeats 64000000
section
attribute [local go_sem] Oper.semAt_some
theorem FormV.kp3 {M ok:Nat->Prop} {B:Nat} {W W':World} {v:Value} {t:Fm} (h:FormV (fun b=>b<B/\¬M b/\ok b) W v t) (hk:Kp M W W'):FormV (fun b=>b<B/\¬M b/\ok b) W' v t:=h.move (fun b hb hlt=>⟨hb,hk.same b hlt hb.2.1⟩)
theorem GX (o:Int) (n:Str) (a:List Tm) (s:List Fm) (i:Nat) (r:List Nat) (ins:List Str):mo (.mk o n a s) (i :: r) ins=match s[i]? with | some g=>mo g r (if bn o then n :: ins else ins) | none=>none:=rfl
theorem yg {l:List Tm} {i:Nat} {r:List Nat} (h:r≠[]):le l (i :: r)=match l[i]? with | some t=>le t.a r | none=>none:=by
 cases r with
 | nil=>exact absurd rfl h
 | cons j r=>rfl
theorem GY {l:List Tm} {i:Nat} {r:List Nat} (h:l[i]?=none):le l (i :: r)=none:=by
 cases r with
 | nil=>exact h
 | cons j r=>rw[yg (by simp),h]
theorem mJ {M:Nat->Prop} {A B C:World} {o:Option Nat} (h:Kp M A B) (hg:B.grownBy C o) (ho:∀ g,o=some g->A.heap.size<=g):Kp M A C:=
 ⟨hg.os.trans h.os,hg.tape.trans h.tape,hg.output.trans h.output,Nat.le_trans h.size hg.size,fun b hb hm=>(hg.block b (Nat.lt_of_lt_of_le hb h.size) (fun e=>by have:=ho b (by first | exact e | exact e.symm);omega)).trans (h.same b hb hm)⟩
theorem Xn {lo:Nat} {A B C:World} {o:Option Nat} (h:Below A.heap.size A B) (hg:B.grownBy C o) (ho:∀ g,o=some g->lo<=g):Kp (fun b=>lo<=b) A C:=
 ⟨hg.os.trans h.os,hg.tape.trans h.tape,hg.output.trans h.output,Nat.le_trans h.size hg.size,fun b hb hm=>(hg.block b (Nat.lt_of_lt_of_le hb h.size) (fun e=>by have:=ho b (by first | exact e | exact e.symm);omega)).trans (h.block b hb)⟩
theorem IntsV.apart {W:World} {v:Value} {l:List Nat} (h:IntsV W v l) {b off:Nat} {n c:Nat} (hv:v=.slice (some ⟨b,off,none⟩) n c) (jt:l≠[]) {B:Nat} {o:Int} {s:ByteArray} {a1 a2:Option Addr} {n1 c1 n2 c2:Nat} {T:TypeId} (hx:W.heap[B]?=some (.cells #[.int .u8 o,.string s,.slice a1 n1 c1,.slice a2 n2 c2] T (0,0))):b≠B:=by
 rintro rfl
 obtain ⟨a,cap,iW,_,h⟩:=h
 rcases h with h | ⟨b2,off2,ha,hc⟩
 ·exact jt h
 ·rw[ha,hv]at iW
  injection iW with h1 _ _
  injection h1 with h1
  injection h1 with h1 h2
  subst h1 h2
  have h0:=hc 0 (List.length_pos_iff.2 jt)
  rw[aL hx]at h0
  match hk:off+0,h0 with
  | 0,h=>simp at h
  | 1,h=>simp at h
  | 2,h=>simp at h
  | 3,h=>simp at h
  | n+4,h=>simp at h
theorem yh {W:World} {b:Nat} {x:Str} {T:TypeId} (h:W.heap[b]?=some (.cells #[.string ⟨x.toArray⟩] T (0,0))):StrsO (fun _=>True) W (.slice (some ⟨b,0,none⟩) 1 1) [x]:=
 ⟨_,1,rfl,Nat.le_refl _,.inr ⟨b,0,rfl,trivial,fun j hj=>by simp at hj;subst hj;exact ai h 0⟩⟩
theorem J' (f im:Fm) (x:Str) (J8:fitF f) (Rt:fitF im) (hp:(ko x f).isSome=true) (ok:Nat->Prop) (w:World) (q r:FQ) (hq:FormV ok w q.val f) (hr:FormV ok w r.val im) :
  Calls Tryz.prog 98 #[q.val,r.val,.string ⟨x.toArray⟩] w fun e w'=>(∃p:TQ,e=.returned (.tuple #[p.val,.bool (iZ f im x).isSome])/\∀ u,iZ f im x=some u->TermV (fun b=>b<w.heap.size/\ok b) w' p.val u)/\Below w.heap.size w w':=by
 obtain ⟨⟨p,pq⟩,kO⟩:=Option.isSome_iff_exists.1 hp
 obtain ⟨hpq,kP,Xo⟩:=rP f _ kO
 have pU:=J8.1
 simp only at hpq kP Xo
 obtain ⟨R,hR⟩:=ao (iZ f im x)
 have oI:=hR
 unfold iZ at oI
 rw[kO]at oI
 simp only at oI
 rw[<-hR]
 obtain ⟨M,hM⟩:∃M:Nat->Prop,M=fun b=>b=w.heap.size+1:=⟨_,rfl⟩
 obtain ⟨W3,cZ⟩:=ao (((w.alloc (.cells #[.int .u8 q.o,.string q.n,.slice q.a q.l q.c,.slice q.b q.m q.e] 36)).alloc (.cells #[.int .u8 r.o,.string r.n,.slice r.a r.l r.c,.slice r.b r.m r.e] 36)).alloc (.cells #[.bool false,.string ⟨#[]⟩,.slice none 0 0] 43))
 have aJ:=vF cZ
 have nP:=F6 cZ
 have x1:=pR cZ
 have x2:=oa cZ
 have x0:=wK cZ
 have CC:=L9 f x ok W3 q J8 (hq.later aJ)
 rw[kO]at CC
 simp only[Option.map,Option.getD]at CC
 have fL:FormV (fun b=>b<w.heap.size/\¬M b/\ok b) w r.val im:=hr.move (fun b hok hlt=>⟨⟨hlt,by rw[hM];simp;omega,hok⟩,rfl⟩)
 obtain ⟨q0,q1,q2,q3,q4,q5,q6,q7⟩:=q
 obtain ⟨r0,r1,r2,r3,r4,r5,r6,r7⟩:=r
 obtain ⟨n1,dT⟩:=ao p.length
 obtain ⟨n2,lH⟩:=ao pq.length
 have J_:n1<=2000000:=by omega
 have Pt:n2<=2000000:=by omega
 obtain ⟨HC,HR⟩:=aS CC oI
 have HM:=bx hM nP aJ
 have HN:=bx dT lH hpq
 have Ru:=aF fL Rt
 have HX:=bx x0 x1 x2
 have vW:=ab cZ
 simp only at vW HX Ru HC
 clear CC oI hM nP aJ dT lH hpq fL Rt x0 x1 x2 cZ hR hq hr J8 hp kO kP Xo pU
 unfold FQ.val at HC Ru ⊢
 go_enter Tryz.func98,Tryz.ntmps98
 go_wp2_with (rw[<-vW.o];go_at_call 165;refine HC.o.mono ?_;rintro e w4 ⟨⟨v1,v2,rfl,h1,h2⟩,aN⟩;obtain ⟨a1,k1,rfl⟩:=h1.slice;obtain ⟨a2,k2,rfl⟩:=h2.slice;simp only[]at h1 h2 ⊢;have H4:=bx h1 h2 aN;rw[<-HN.o.1,<-HN.o.2.1];clear h1 h2 aN)
 go_loopw [10,27] (fun v i wr=>∃(k:Nat) (cur:Fm) (ins:List Str) (c:FQ),k<=n1/\i=.int .i64 k/\Kp M w4 wr/\wr.heap[w.heap.size+1]?=some (.cells #[.int .u8 c.o,.string c.n,.slice c.a c.l c.c,.slice c.b c.m c.e] 36 (0,0))/\FormV (fun b=>b<w.heap.size/\¬M b/\ok b) wr c.val cur/\fitF cur/\OwnS w4.heap.size wr v ins.reverse/\ins.length<=k/\mo im p []=mo cur (p.drop k) ins) (fun _ i _=>n1 - (intOf i).toNat)
 case atStart=>exact ⟨0,im,[],⟨r0,r1,r2,r3,r4,r5,r6,r7⟩,Nat.zero_le _,rfl,Kp.refl _,(H4.o.2.2.block _ (by have:=HM.o.2.1;omega)).trans HX.o.2.1,(Ru.o.1.later HM.o.2.2).later (H4.o.2.2.mono (by have:=HM.o.2.1;omega)),Ru.o.2,OwnS.nil _ _,Nat.zero_le _,by simp⟩
 case round=>
  obtain ⟨k,cur,ins,c,hk,rfl,aZ,uO,Tl,Tn,aC,Ka,FU⟩:=hrel
  by_cases hlt:k<n1
  ·have zO:=bR HN.o.1 hlt
   have jt:p≠[]:=fun h=>by rw[h]at zO;simp at zO
   obtain ⟨b,off,rfl,hcs⟩:=H4.o.1.get jt
   have tu:b≠w.heap.size+1:=H4.o.1.apart rfl jt ((H4.o.2.2.block _ (by have:=HM.o.2.1;omega)).trans HX.o.2.1)
   have ci:wr.cell? ⟨b,off+k,none⟩=some (.int .i64 (p[k]:Nat)):=aZ.cell (by rw[HM.o.1];exact tu) (hcs k zO)
   obtain ⟨i0,nZ⟩:=ao (p[k])
   rw[<-nZ]at ci
   obtain ⟨co,cn,cas,rW⟩:=cur
   rw[List.drop_eq_getElem_cons zO,GX,<-nZ]at FU
   obtain ⟨u1,u2,h1,GZ,EF⟩:=aQ.1 Tl
   obtain ⟨c0,c1,c2,c3,c4,c5,c6,c7⟩:=c
   have pp32c:=();exact pm32
  ·obtain rfl:k=n1:=by omega
   have Z9:p.drop k=[]:=by rw[HN.o.1];exact List.drop_length
   rw[Z9]at FU
   obtain ⟨co,cn,cas,rW⟩:=cur
   obtain ⟨u1,u2,h1,GZ,EF⟩:=aQ.1 Tl
   obtain ⟨c0,c1,c2,c3,c4,c5,c6,c7⟩:=c
   have pp32d:=();exact pm32
def FormK (ok:Nat->Prop) (PF:Fm->Prop) (W:World) (v:Value) (t:Fm):Prop:=∃q:FQ,v=q.val/\FormV ok W q.val t/\PF t
def TermK (ok:Nat->Prop) (PT:Tm->Prop) (W:World) (v:Value) (t:Tm):Prop:=∃q:TQ,v=q.val/\TermV ok W q.val t/\PT t
structure KnV (ok:Nat->Prop) (PF:Fm->Prop) (PT:Tm->Prop) (W:World) (kb mF mT nF nT:Nat) (k:Bd):Prop where
 box:W.heap[kb]?=some (.cells #[.map (some mF),.map (some mT)] 148 (0,0))
 fs:MapV Tryz.prog 9 (FormK ok PF W) W mF nF k.fs
 ts:MapV Tryz.prog 9 (TermK ok PT W) W mT nT k.ts
 ne1:mF≠mT
 ne2:kb≠mF
 ne3:kb≠mT
theorem KnV.move {ok ok':Nat->Prop} {PF:Fm->Prop} {PT:Tm->Prop} {W W':World} {kb mF mT nF nT:Nat} {k:Bd} (h:KnV ok PF PT W kb mF mT nF nT k) (hb:el ok ok' W W') (h1:W'.heap[kb]?=W.heap[kb]?) (h2:W'.heap[mF]?=W.heap[mF]?) (h3:W'.heap[mT]?=W.heap[mT]?):KnV ok' PF PT W' kb mF mT nF nT k:=
 ⟨h1.trans h.box,h.fs.move h2 (fun _ _ _ _ ⟨q,e,hv,hp⟩=>⟨q,e,hv.move hb,hp⟩),h.ts.move h3 (fun _ _ _ _ ⟨q,e,hv,hp⟩=>⟨q,e,hv.move hb,hp⟩),h.ne1,h.ne2,h.ne3⟩
theorem KnV.ltb {ok:Nat->Prop} {PF:Fm->Prop} {PT:Tm->Prop} {W:World} {kb mF mT nF nT:Nat} {k:Bd} (h:KnV ok PF PT W kb mF mT nF nT k):kb<W.heap.size:=(bl h.box)
theorem KnV.later {ok:Nat->Prop} {PF:Fm->Prop} {PT:Tm->Prop} {W W':World} {kb mF mT nF nT:Nat} {k:Bd} (h:KnV ok PF PT W kb mF mT nF nT k) (hb:Below W.heap.size W W'):KnV ok PF PT W' kb mF mT nF nT k:=
 h.move (cU hb) (hb.block _ h.ltb) (hb.block _ h.fs.lt) (hb.block _ h.ts.lt)
theorem KnV.storeF {ok:Nat->Prop} {PF:Fm->Prop} {PT:Tm->Prop} {W:World} {kb mF mT nF nT:Nat} {k:Bd} (h:KnV ok PF PT W kb mF mT nF nT k) (hok:¬ok mF) (hn:nF<4000000) {x:Str} (hx:x.length<=2000000) {q:FQ} {t:Fm} (hq:FormV ok W q.val t) (hp:PF t) {l':List (Str×Fm)} (hl:∀ y,getB l' y=if y=x then some t else getB k.fs y) :
  ∃w',(Instr.mapUpdate 145 (.map (some mF)) (.string ⟨x.toArray⟩) q.val).run Tryz.prog W=.ok () w'/\KnV ok PF PT w' kb mF mT (nF+1) nT ⟨l',k.ts⟩/\Kp (fun b=>b=mF) W w'/\w'.heap.size=W.heap.size:=by
 obtain ⟨w',hr,hm,hg,hs⟩:=h.fs.store Tryz.underlying9 Tryz.underlying145 hn hx (v:=q.val) (a:=t) (l':=l') (V':=FormK ok PF W) ⟨q,rfl,hq,hp⟩ (fun _ _ _ _ _ h=>h) hl
 have kp:Kp (fun b=>b=mF) W w':=Kp.grown hg rfl
 have Pw:el ok ok W w':=fun b hb hlt=>⟨hb,kp.same b hlt (fun e=>hok (e ▸ hb))⟩
 refine ⟨w',hr,⟨(kp.same _ h.ltb h.ne2).trans h.box,hm.move rfl (fun _ _ _ _ ⟨q,e,hv,hp⟩=>⟨q,e,hv.move Pw,hp⟩),h.ts.move (kp.same _ h.ts.lt (fun e=>h.ne1 e.symm)) (fun _ _ _ _ ⟨q,e,hv,hp⟩=>⟨q,e,hv.move Pw,hp⟩),h.ne1,h.ne2,h.ne3⟩,kp,hs⟩
theorem KnV.storeT {ok:Nat->Prop} {PF:Fm->Prop} {PT:Tm->Prop} {W:World} {kb mF mT nF nT:Nat} {k:Bd} (h:KnV ok PF PT W kb mF mT nF nT k) (hok:¬ok mT) (hn:nT<4000000) {x:Str} (hx:x.length<=2000000) {q:TQ} {t:Tm} (hq:TermV ok W q.val t) (hp:PT t) {l':List (Str×Tm)} (hl:∀ y,getB l' y=if y=x then some t else getB k.ts y) :
  ∃w',(Instr.mapUpdate 146 (.map (some mT)) (.string ⟨x.toArray⟩) q.val).run Tryz.prog W=.ok () w'/\KnV ok PF PT w' kb mF mT nF (nT+1) ⟨k.fs,l'⟩/\Kp (fun b=>b=mT) W w'/\w'.heap.size=W.heap.size:=by
 obtain ⟨w',hr,hm,hg,hs⟩:=h.ts.store Tryz.underlying9 Tryz.underlying146 hn hx (v:=q.val) (a:=t) (l':=l') (V':=TermK ok PT W) ⟨q,rfl,hq,hp⟩ (fun _ _ _ _ _ h=>h) hl
 have kp:Kp (fun b=>b=mT) W w':=Kp.grown hg rfl
 have Pw:el ok ok W w':=fun b hb hlt=>⟨hb,kp.same b hlt (fun e=>hok (e ▸ hb))⟩
 refine ⟨w',hr,⟨(kp.same _ h.ltb h.ne3).trans h.box,h.fs.move (kp.same _ h.fs.lt h.ne1) (fun _ _ _ _ ⟨q,e,hv,hp⟩=>⟨q,e,hv.move Pw,hp⟩),hm.move rfl (fun _ _ _ _ ⟨q,e,hv,hp⟩=>⟨q,e,hv.move Pw,hp⟩),h.ne1,h.ne2,h.ne3⟩,kp,hs⟩
theorem tR {α:Type} {l:List (Str×α)} (hd:(l.map (·.1)).Nodup) {k:Nat} (hk:k<l.length) (y:Str):getB (l.take (k+1)) y=if y=l[k].1 then some l[k].2 else getB (l.take k) y:=by
 rw[List.take_add_one,List.getElem?_eq_getElem hk]
 have zaR:∀ (a:List (Str×α)) (x:Str×α),getB (a ++ [x]) y=match getB a y with | some v=>some v | none=>if x.1=y then some x.2 else none:=by
  intro a x
  induction a with
  | nil=>obtain ⟨x1,x2⟩:=x;simp[getB]
  | cons z a ih=>
   obtain ⟨z1,z2⟩:=z
   simp only[List.cons_append,getB]
   by_cases hz:(z1 == y)=true
   ·simp[hz]
   ·simp only[hz];simpa using ih
 show getB (l.take k ++ [l[k]]) y=_
 rw[zaR]
 by_cases hy:y=l[k].1
 ·have hn:getB (l.take k) y=none:=by
   rw[fY]
   intro hm
   rw[hy]at hm
   have h2:l.map (·.1)=(l.take k).map (·.1) ++ l[k].1 :: (l.drop (k+1)).map (·.1):=by
    have h3:l=l.take k ++ l[k] :: l.drop (k+1):=by rw[<-List.drop_eq_getElem_cons hk];exact (List.take_append_drop k l).symm
    have h4:=congrArg (List.map (·.1)) h3
    rw[List.map_append,List.map_cons]at h4
    exact h4
   rw[h2]at hd
   exact (List.nodup_append.1 hd).2.2 _ hm _ (by simp) rfl
  rw[hn,if_pos hy,if_pos hy.symm]
 ·rw[if_neg hy,if_neg (fun h=>hy h.symm)]
  cases getB (l.take k) y <;> rfl
end
section
attribute [local go_sem] Oper.semAt_some
attribute [local go_sem] run_makeMap
theorem EG (b:Bd) (hF:b.fs.length<=1000000) (hT:b.ts.length<=1000000) (pN:∀ x∈b.fs,x.1.length<=2000000) (oA:∀ x∈b.ts,x.1.length<=2000000) (hdF:(b.fs.map (·.1)).Nodup) (hdT:(b.ts.map (·.1)).Nodup) (PF:Fm->Prop) (PT:Tm->Prop) (Xw:∀ x∈b.fs,PF x.2) (Rz:∀ x∈b.ts,PT x.2) (ok:Nat->Prop) (w:World) (q:BQ) (hq:BindV ok w q b) :
  Calls Tryz.prog 46 #[q.val] w fun e w'=>e=.returned (.pointer (some ⟨w.heap.size+1+1+1,0,none⟩))/\KnV (fun b=>b<w.heap.size) PF PT w' (w.heap.size+1+1+1) (w.heap.size+1) (w.heap.size+1+1) b.fs.length b.ts.length b/\Below w.heap.size w w':=by
 have hq:=hq.move (ok':=fun b=>b<w.heap.size) (fun b _ hlt=>⟨hlt,rfl⟩)
 have pp193:=();exact pm193
end
end Go.Proofs.YtokemihbkeddoaaGreatDoor
