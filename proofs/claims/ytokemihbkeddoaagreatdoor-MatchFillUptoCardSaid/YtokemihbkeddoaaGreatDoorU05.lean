/-
Contracts of 'mapTerm','copyTerm' and 'PutTerm' of package subst.
-/
import Derived.Test.YtokemihbkeddoaaGreatDoorU04
namespace Go.Proofs.YtokemihbkeddoaaGreatDoor
open Go Go.RowKit Lib
set_option maxRecDepth 100000
set_option maxHeartbeats 64000000
variable {a:Option Addr} {c n j B:Nat} {W X:World} {l:List Tm} {ins:List Str} {T:TypeId} {c0 c1 c2:Value}
section
attribute [local go_sem] Oper.semAt_some
theorem _root_.Go.RowKit.Below.tr {a b c:World} (h:Below a.heap.size a b) (k:Below b.heap.size b c):Below a.heap.size a c:=h.trans (k.mono h.size)
def Pb (g:Nat) (lb:Array Value) (f:Str->Option Tm) (Wb:World):Prop:=∀ (n:Str) (W:World),n.length<=2000000->Below Wb.heap.size Wb W →
 Calls Tryz.prog g (#[.string ⟨n.toArray⟩] ++ lb) W fun e W'=>(∃q:TQ,e=.returned (.tuple #[q.val,.bool (f n).isSome])/\∀ u,f n=some u->TermV (fun _=>True) W' q.val u)/\Below W.heap.size W W'
def zcg (f:Str->Option Tm):Prop:=∀ n u,f n=some u->∀ (ok:Nat->Prop) (W:World) (q:TQ),TermV ok W q.val u->Calls Tryz.prog 218 #[q.val] W fun e w'=>(∃p:TQ,e=.returned p.val/\TermV (W.heap.size<=·) w' p.val u)/\Below W.heap.size W w'
theorem Ax (g:Nat) (lb:Array Value) (eg:∀ args W,(callFunc g args).run Tryz.prog W=.ok (.enter g args) W) (f:Str->Option Tm) (Wb:World) (hI:Pb g lb f Wb) (hC:zcg f):∀ (t:Tm),fitT t->∀ (ok:Nat->Prop) (w:World) (q:TQ),Below Wb.heap.size Wb w->TermV ok w q.val t →
  Calls Tryz.prog 154 #[q.val,.func (.func g) #[] lb] w fun e w'=>(∃p:TQ,e=.returned p.val/\TermV (w.heap.size<=·) w' p.val (gp f t))/\Below w.heap.size w w':=by
 obtain ⟨p9,hi,zp,wJ,zY⟩:=info_parts hO;intro t
 induction t using Tm.ind with
 | h v n a ih=>
  intro hfit ok w q cQ hq;have pp189d:=();exact pm189
mutual
theorem D7:∀ t,gp (fun _=>none) t=t
 | .mk v n a=>by cases v <;> simp[gp,Ay a]
theorem Ay:∀ l,sw (fun _=>none) l=l
 | []=>rfl
 | t :: l=>by simp[sw,D7 t,Ay l]
end
theorem Fb:∀ args W,(callFunc 268 args).run Tryz.prog W=.ok (.enter 268 args) W:=enters_of Tryz.func268 (by kernel_rfl) rfl
theorem Hf:∀ args W,(callFunc 232 args).run Tryz.prog W=.ok (.enter 232 args) W:=enters_of Tryz.func232 (by kernel_rfl) rfl
theorem JQ (Wb:World):Pb 268 #[] (fun _=>none) Wb:=by
 intro n W hn _;have rY:(W.alloc (.cells #[.bool false,.string ⟨#[]⟩,.slice none 0 0] 43)).heap[W.heap.size]?=some (.cells #[.bool false,.string ⟨#[]⟩,.slice none 0 0] 43 (0,0)):=ai rfl;have hB:Below W.heap.size W (W.alloc (.cells #[.bool false,.string ⟨#[]⟩,.slice none 0 0] 43)):=cO;have e0:(W.alloc (.cells #[.bool false,.string ⟨#[]⟩,.slice none 0 0] 43)).cell? ⟨W.heap.size,0,none⟩=some (.bool false):=ah rY 0;have e1:(W.alloc (.cells #[.bool false,.string ⟨#[]⟩,.slice none 0 0] 43)).cell? ⟨W.heap.size,1,none⟩=some (.string ⟨#[]⟩):=ah rY 1;have e2:(W.alloc (.cells #[.bool false,.string ⟨#[]⟩,.slice none 0 0] 43)).cell? ⟨W.heap.size,2,none⟩=some (.slice none 0 0):=ah rY 2;have HB:=ac hB;clear rY hB;go_enter Tryz.func268,Tryz.ntmps268;go_wp2;refine bI (v:=.tuple #[TQ.val ⟨false,⟨#[]⟩,none,0,0⟩,.bool false]) (by simp[TQ.val,results,Tryz.results268,go_sem,e0,e1,e2]) rfl ⟨⟨⟨false,⟨#[]⟩,none,0,0⟩,rfl,fun u h=>by cases h⟩,HB.o⟩
theorem MS (t:Tm) (hfit:fitT t) (ok:Nat->Prop) (w:World) (q:TQ) (hq:TermV ok w q.val t) :
  Calls Tryz.prog 218 #[q.val] w fun e w'=>(∃p:TQ,e=.returned p.val/\TermV (w.heap.size<=·) w' p.val t)/\Below w.heap.size w w':=by
 obtain ⟨qv,qn,qa,ql,qc⟩:=q;obtain ⟨W2,a_⟩:=am ((w.alloc (.cells #[.bool qv,.string qn,.slice qa ql qc] 43)).alloc (.cells #[.bool false,.string ⟨#[]⟩,.slice none 0 0] 43));have bB:=lv a_;have jP:=yJ a_;have y1:=j_ a_;have C:=Ax 268 #[] Fb (fun _=>none) W2 (JQ W2) (fun n u h=>by cases h) t hfit ok W2 ⟨qv,qn,qa,ql,qc⟩ (aj _ _) (hq.later bB);rw[D7]at C;simp only[TQ.val]at C;have HC:=ac C;have HY:=bF bB y1 jP;have fp:=ac a_;clear C bB y1 jP a_ hq hfit;unfold TQ.val;go_enter Tryz.func218,Tryz.ntmps218;go_wp2_with (rw[<-fp.o];go_at_call 154;refine HC.o.mono ?_;rintro e w5 ⟨⟨p5,rfl,pS⟩,bm⟩;obtain ⟨pv,pn,pa,pl,pc⟩:=p5;simp only at pS ⊢;have x1:=(bm.block _ (by have:=HY.o.2.2;omega)).trans HY.o.2.1;have e0:=ah x1 0;have e1:=ah x1 1;have e2:=ah x1 2;have z0:=ae x1 0;have z1:=ae x1 1;have z2:=ae x1 2;have H5:=cG pS (HY.o.1.tr bm) x1 bm.size;clear bm pS x1);have pp69:=();exact pm69
theorem jT (W:World):(zeroValue 43).run Tryz.prog W=.ok (.agg #[.bool false,.string ⟨#[]⟩,.slice none 0 0]) W:=by kernel_rfl
def TermIn (w:World) (v:Value) (t:Tm):Prop:=∃q:TQ,v=q.val/\TermV (fun _=>True) w q.val t
theorem MT (w Wb:World) (hwb:Below w.heap.size w Wb) (B m n:Nat) (l:List (Str×Tm)) (hB:Wb.cell? ⟨B,0,none⟩=some (.map (some m))) (hm:MapV Tryz.prog 9 (TermIn w) Wb m n l):Pb 232 #[.pointer (some ⟨B,0,none⟩)] (fun n=>getB l n) Wb:=by
 intro x W hx hb;obtain ⟨W1,bY⟩:=am (W.alloc (.cells #[.bool false,.string ⟨#[]⟩,.slice none 0 0] 43));have hb1:=cV bY;have hc:W1.cell? ⟨B,0,none⟩=some (.map (some m)):=aa (hb.tr hb1) hB;have Cu:W1.heap[m]?=Wb.heap[m]?:=(hb.tr hb1).block m hm.lt;rcases hm.look Tryz.underlying9 Tryz.underlying146 jT hx with ⟨hn,hr⟩ | ⟨u,v,hs,⟨⟨qv,qn,qa,ql,qc⟩,rfl,hq⟩,hr⟩
 ·have hr:=(hr W1 Cu).1;rw[bY]at hr hc;simp only[hn,Option.isSome];clear hb1 Cu bY hm hB hb hwb;go_enter Tryz.func232,Tryz.ntmps232;go_wp2;have wT:Below (W.alloc (.cells #[.bool false,.string ⟨#[]⟩,.slice none 0 0] 43)).heap.size (W.alloc (.cells #[.bool false,.string ⟨#[]⟩,.slice none 0 0] 43)) ((W.alloc (.cells #[.bool false,.string ⟨#[]⟩,.slice none 0 0] 43)).alloc (.cells #[.bool false,.string ⟨#[]⟩,.slice none 0 0] 43)):=cO;have hba:Below W.heap.size W (W.alloc (.cells #[.bool false,.string ⟨#[]⟩,.slice none 0 0] 43)):=cO;have hx:(W.alloc (.cells #[.bool false,.string ⟨#[]⟩,.slice none 0 0] 43)).heap[W.heap.size]?=some (.cells #[.bool false,.string ⟨#[]⟩,.slice none 0 0] 43 (0,0)):=ai rfl;have g0:=aa wT (ah hx 0);have g1:=aa wT (ah hx 1);have g2:=aa wT (ah hx 2);refine bI (v:=.tuple #[TQ.val ⟨false,⟨#[]⟩,none,0,0⟩,.bool false]) (by simp[TQ.val,results,Tryz.results232,go_sem,g0,g1,g2]) rfl ⟨⟨⟨false,⟨#[]⟩,none,0,0⟩,rfl,fun u h=>by cases h⟩,hba.tr wT⟩
 ·have hr:=(hr W1 Cu).1;rw[bY]at hr hc;simp only[hs,Option.isSome];have hqw:=(hq.later hwb).move (wC hb);clear hb1 Cu bY hm hB hb hwb hq;simp only[TQ.val]at hr;go_enter Tryz.func232,Tryz.ntmps232;go_wp2;have wT:Below (W.alloc (.cells #[.bool qv,.string qn,.slice qa ql qc] 43)).heap.size (W.alloc (.cells #[.bool qv,.string qn,.slice qa ql qc] 43)) ((W.alloc (.cells #[.bool qv,.string qn,.slice qa ql qc] 43)).alloc (.cells #[.bool qv,.string qn,.slice qa ql qc] 43)):=cO;have hba:Below W.heap.size W (W.alloc (.cells #[.bool qv,.string qn,.slice qa ql qc] 43)):=cO;have hx:(W.alloc (.cells #[.bool qv,.string qn,.slice qa ql qc] 43)).heap[W.heap.size]?=some (.cells #[.bool qv,.string qn,.slice qa ql qc] 43 (0,0)):=ai rfl;have g0:=aa wT (ah hx 0);have g1:=aa wT (ah hx 1);have g2:=aa wT (ah hx 2);refine bI (v:=.tuple #[TQ.val ⟨qv,qn,qa,ql,qc⟩,.bool true]) (by simp[TQ.val,results,Tryz.results232,go_sem,g0,g1,g2]) rfl ⟨⟨⟨qv,qn,qa,ql,qc⟩,rfl,fun u2 h=>by cases h;exact hqw.later (hba.tr wT)⟩,hba.tr wT⟩
end
def PairsV (W:World) (v:Value) (ps:List (Str×Str)):Prop:=∃a cap,v=.slice a ps.length cap/\ps.length<=cap/\((ps=[]/\a=none/\cap=0)\/∃b off,a=some ⟨b,off,none⟩/\∀ j (h:j<ps.length),W.cell? ⟨b,off+j * 2,none⟩=some (.string ⟨ps[j].1.toArray⟩)/\W.cell? ⟨b,off+j * 2+1,none⟩=some (.string ⟨ps[j].2.toArray⟩))
theorem PairsV.nil (W:World):PairsV W (.slice none 0 0) []:=⟨none,0,rfl,aD _,.inl ⟨rfl,rfl,rfl⟩⟩
theorem PairsV.later {W':World} {v:Value} {ps:List (Str×Str)} (h:PairsV W v ps) (hb:Below W.heap.size W W'):PairsV W' v ps:=by
 obtain ⟨a,cap,hv,Fc,h⟩:=h;refine ⟨a,cap,hv,Fc,?_⟩;rcases h with h | ⟨b,off,ha,hc⟩
 ·exact .inl h
 ·exact .inr ⟨b,off,ha,fun j hj=>⟨aa hb (hc j hj).1,aa hb (hc j hj).2⟩⟩
theorem PairsV.get {ps:List (Str×Str)} (h:PairsV W (.slice a n c) ps) (hj:j<ps.length) :
  ∃b off,a=some ⟨b,off,none⟩/\W.cell? ⟨b,off+j * 2,none⟩=some (.string ⟨ps[j].1.toArray⟩)/\W.cell? ⟨b,off+j * 2+1,none⟩=some (.string ⟨ps[j].2.toArray⟩):=by
 exact pm269
theorem PairsV.len {ps:List (Str×Str)} (h:PairsV W (.slice a n c) ps):n=ps.length:=by
 obtain ⟨a',cap,hv,h⟩:=h;injection hv
theorem PairsV.cap {ps:List (Str×Str)} (h:PairsV W (.slice a n c) ps):n<=c:=by
 obtain ⟨a',cap,hv,h,_⟩:=h;injection hv with _ h1 h2;omega
theorem PairsV.cases {ps:List (Str×Str)} (h:PairsV W (.slice a n c) ps):(a=none/\n=0/\c=0)\/∃b off,a=some ⟨b,off,none⟩:=by
 obtain ⟨a',cap,hv,_,h⟩:=h;injection hv with h1 h2 h3;subst h1;subst h2;subst h3;rcases h with ⟨rfl,rfl,rfl⟩ | ⟨b,off,rfl,_⟩
 ·exact .inl ⟨rfl,rfl,rfl⟩
 ·exact .inr ⟨b,off,rfl⟩
def gd:List (Str×Str)->List Value
 | []=>[]
 | p :: l=>.string ⟨p.1.toArray⟩ :: .string ⟨p.2.toArray⟩ :: gd l
theorem gM:∀ ps,(gd ps).length=ps.length * 2
 | []=>rfl
 | p :: l=>by simp[gd,gM l];omega
theorem kr (p:Str×Str):∀ ps,gd (ps ++ [p])=gd ps ++ [.string ⟨p.1.toArray⟩,.string ⟨p.2.toArray⟩]
 | []=>rfl
 | q :: l=>by simp[gd,kr p l]
theorem wU:∀ (ps:List (Str×Str)) (j:Nat) (h:j<ps.length),(gd ps)[j * 2]?=some (.string ⟨ps[j].1.toArray⟩)/\(gd ps)[j * 2+1]?=some (.string ⟨ps[j].2.toArray⟩)
 | [],j,h=>by simp at h
 | p :: l,0,h=>by simp[gd]
 | p :: l,j+1,h=>by
  have:=wU l j (by simpa using h);rw[show (j+1) * 2=j * 2+2 by omega];simpa[gd] using this
theorem PairsV.olds {b:Addr} {ps:List (Str×Str)} (h:PairsV W (.slice (some b) n c) ps):∀ j u,(gd ps)[j]?=some u->W.cell? (b.add j)=some u:=by
 intro j u hu;have hj:j<ps.length * 2:=by rw[<-gM];exact (List.getElem?_eq_some_iff.1 hu).1
 have hd:j / 2<ps.length:=by omega
 obtain ⟨b',off,hb,h0,h1⟩:=h.get hd;obtain rfl:b=⟨b',off,none⟩:=by injection hb
 have hf:=wU ps (j / 2) hd;have zch:∀ k,Addr.add ⟨b',off,none⟩ k=⟨b',off+k,none⟩:=fun k=>Addr.add_lit _ _ _;rw[zch];rcases Nat.mod_two_eq_zero_or_one j with hm | hm
 ·have e:j / 2 * 2=j:=by omega
  rw[e]at hf h0;rw[hf.1]at hu;rw[h0,<-hu]
 ·have e:j / 2 * 2+1=j:=by omega
  rw[e]at hf;rw[Nat.add_assoc,e]at h1;rw[hf.2]at hu;rw[h1,<-hu]
theorem PairsV.own {base g:Nat} {e:TypeId} {ps:List (Str×Str)} (h:W.ownsRow base e 2 (.slice (some ⟨g,0,none⟩) n c) n (gd ps)):PairsV W (.slice (some ⟨g,0,none⟩) n c) ps:=by
 have pp186b:=();exact pm186
section
variable {F:Fence} {k:Nat} {P:Program} {Q:Exit->Act->World->Prop}
theorem gA {o:Oper} {a:Act} {w:World} {K:Act->World->Prop} (s x:Operand) (t:TypeId)
  (ho:o.op=.call { callee:=.builtin .append,args:=#[s,x],argTypes:=#[t,t] })
  (e:TypeId) (i:TypeInfo) (z:Value) (size bytes:Nat) (ht:P.underlying t=some (.slice e)) (hi:P.info? e=some i) (hz:i.zero=some z)
  (Ls:i.size=size) (hby:i.bytes=bytes) (hzs:z.cells.size=size) (hsz:0<size)
  (v:Value) (n:Nat) (olds:List Value) (hs:a.eval s=v)
  (hv:(v=.slice none 0 0/\n=0/\olds=[])\/∃b,v=.slice (some b) n n/\olds.length=n * size/\∀ j u,olds[j]?=some u->w.cell? (b.add j)=some u)
  (ad:Addr) (m c:Nat) (wH:List Value) (hx:a.eval x=.slice (some ad) m c) (hl:wH.length=m * size) (Lt:∀ j u,wH[j]?=some u->w.cell? (ad.add j)=some u) (h1:∀ u∈wH,u.oneCell'=true)
  (hm:0<m) (h63:n+m<=maxLen) (E1:(n+m) * bytes<=140737488355328)
  (h:∀ g cap w',w'.ownsRow w.heap.size e size (.slice (some ⟨g,0,none⟩) (n+m) cap) (n+m) (olds ++ wH)->w.grownBy w' none->K (a.put o.dst (.slice (some ⟨g,0,none⟩) (n+m) cap)) w'):o.wpIn F k P a w K Q:=by
 have hr:∃g cap w',(Builtin.append_ #[t,t] o.type #[v,.slice (some ad) m c]).run P w=.ok (.slice (some ⟨g,0,none⟩) (n+m) cap) w'/\w'.ownsRow w.heap.size e size (.slice (some ⟨g,0,none⟩) (n+m) cap) (n+m) (olds ++ wH)/\w.grownBy w' none:=by
  rcases hv with ⟨rfl,rfl,rfl⟩ | ⟨b,rfl,hlo,holds⟩
  ·obtain ⟨g,cap,w',hr,h2,h3,_,_⟩:=run_append_lies (P:=P) w t o.type w.heap.size e i z size bytes ht hi hz Ls hby hzs hsz (.slice none 0 0) 0 [] (World.ownsRow_nil _ _ _ _) ad m c wH hl Lt h1 hm h63 E1 (aD _) _ rfl;exact ⟨g,cap,w',hr,h2,h3⟩
  ·obtain ⟨v',w',hr,h2,h3⟩:=run_append_arg_grows (P:=P) w t o.type e i z size bytes ht hi hz Ls hby hzs hsz b n n olds hlo holds ad m c wH hl Lt (by omega) h63 E1;obtain ⟨g,cap,rfl,_,_⟩:=h2.form (by omega);exact ⟨g,cap,w',hr,h2,h3⟩
 obtain ⟨g,cap,w',hr,h2,h3⟩:=hr;unfold Oper.wpIn;refine ⟨?_,?_⟩
 ·simp[Oper.about,ho,resolve,Target.leads,Sem.run_pure]
 ·rw[Oper.semAt_plain F _ _ (by rw[ho];intro c Sm;cases Sm)];simp[execOp,ho,resolve,invoke,builtin,hs,hx,hr,Result.andThen];exact h g cap w' h2 h3
end
theorem Hg {ps:List (Str×Str)} (h:j<ps.length):(ps.take (j+1)).reverse=ps[j] :: (ps.take j).reverse:=by
 rw[nV h];simp
theorem fN {c:Sco} {m:List Tm} {k:Nat} (hl:k<l.length) (hm:k<m.length):bM c (l.drop k) (m.drop k)=(eU c l[k] m[k] && bM c (l.drop (k+1)) (m.drop (k+1))):=by
 rw[gj hl,gj hm,bM]
theorem ks {c:Sco} {l m:List Fm} {k:Nat} (hl:k<l.length) (hm:k<m.length):cb c (l.drop k) (m.drop k)=(cP c l[k] m[k] && cb c (l.drop (k+1)) (m.drop (k+1))):=by
 rw[gj hl,gj hm,cb]
def lL (c:Sco) (x y:Str):Option Bool:=if c.any (fun p=>p.1 == x || p.2 == y) then some (kK c x y) else none
theorem D8 (x y:Str):lL [] x y=none:=rfl
theorem Az (p:Str×Str) (c:Sco) (x y:Str):lL (p :: c) x y=if p.1 == x || p.2 == y then some (p.1 == x && p.2 == y) else lL c x y:=by
 unfold lL;simp only[List.any_cons,kK]
 by_cases h:(p.1 == x || p.2 == y)=true
 ·simp only[h,Bool.true_or,if_true]
 ·rw[Bool.not_eq_true]at h;simp only[h,Bool.false_or,bW,if_false]
theorem D9 (c:Sco) (v v':Bool) (n n':Str) (a a':List Tm):eU c (.mk v n a) (.mk v' n' a')=((v == v' && a.length == a'.length) && (match (if v then lL c n n' else none) with | some b=>b | none=>n == n' && bM c a a')):=by
 rw[eU];unfold lL;cases v
 ·simp
 ·cases h:c.any (fun p=>p.1 == n || p.2 == n') <;> simp
def zci (t:Tm):Prop:=∀ (u:Tm) (ps:List (Str×Str)) (v:Value) (ok ok':Nat->Prop) (w:World) (q q':TQ),ps.length<=1000000000->fitT t->TermV ok w q.val t->TermV ok' w q'.val u->PairsV w v ps →
 Calls Tryz.prog 160 #[q.val,q'.val,v] w fun e w'=>e=.returned (.bool (eU ps.reverse t u))/\Below w.heap.size w w'
theorem AA:∀ t,zci t:=by
 intro t
 induction t using Tm.ind with
 | h xv xn xa ih=>
 intro u ps v ok ok' w q q' gX hf hq ip hp;have pp136a:=();exact pm136
section
attribute [local go_sem] Oper.semAt_some
structure PlQ where
 s:FQ
 f:FQ
 a:Option Addr
 l:Nat
 c:Nat
def PlQ.cells (q:PlQ):Array Value:=#[.int .u8 q.s.o,.string q.s.n,.slice q.s.a q.s.l q.s.c,.slice q.s.b q.s.m q.s.e,.int .u8 q.f.o,.string q.f.n,.slice q.f.a q.f.l q.f.c,.slice q.f.b q.f.m q.f.e,.slice q.a q.l q.c]
def PlQ.val (q:PlQ):Value:=.agg q.cells
def x_ (ps:List (Str×Str)) (x:Str) (k:Nat):Option Str:=b8.go x (ps.take k).reverse ((ps.drop k).map (·.1))
theorem MV (ps:List (Str×Str)) (x:Str):x_ ps x ps.length=b8 ps.reverse x:=by
 unfold x_ b8;rw[cY,List.drop_length];rfl
theorem JR (ps:List (Str×Str)) (x:Str):x_ ps x 0=some x:=by simp[x_,b8.go]
theorem JS {ps:List (Str×Str)} {x:Str} {k:Nat} (h:k<ps.length):x_ ps x (k+1)=if ps[k].2 == x then (if ((ps.drop (k+1)).map (·.1)).contains ps[k].1 then none else some (bQ ps[k].1)) else x_ ps x k:=by
 unfold x_;rw[nV h,List.reverse_append,List.reverse_singleton,List.singleton_append];have hd:(ps.drop k).map (·.1)=ps[k].1 :: (ps.drop (k+1)).map (·.1):=by rw[gj h];rfl
 rw[hd];obtain ⟨⟨s,a⟩,hsa⟩:∃p,p=ps[k]:=⟨_,rfl⟩;rw[<-hsa];rfl
theorem C9 (q:PlQ) (ps:List (Str×Str)) (mg:ps.length<=1000000) (gX:∀ p∈ps,p.1.length<=2000000) (x:Str) (w:World) (hv:PairsV w (.slice q.a q.l q.c) ps) :
  Calls Tryz.prog 161 #[q.val,.string ⟨x.toArray⟩] w fun e w'=>e=.returned (.tuple #[.string ⟨((b8 ps.reverse x).getD []).toArray⟩,.bool (b8 ps.reverse x).isSome])/\Below w.heap.size w w':=by
 obtain ⟨⟨so,sn,sa,sl,sc,sb,sm,se⟩,⟨fo,fn,fa,fl,fc,fb,fm,fe⟩,qa,ql,qc⟩:=q;obtain rfl:=hv.len;obtain ⟨R,hR⟩:=am (b8 ps.reverse x);rw[<-hR];rw[<-MV]at hR;obtain ⟨k0,bX⟩:=am ps.length;rw[<-bX]at mg hR;simp only at hv;have Fc:=hv.cap;obtain ⟨Y2,HV⟩:=aW gX hv;rw[<-bX]at Fc;unfold PlQ.val PlQ.cells;simp only;rw[<-bX];obtain ⟨HR,dA⟩:=aW hR bX;obtain ⟨W1,bY⟩:=am (w.alloc (.cells #[.int .u8 so,.string sn,.slice sa sl sc,.slice sb sm se,.int .u8 fo,.string fn,.slice fa fl fc,.slice fb fm fe,.slice qa k0 qc] 89));have hb1:=cV bY;have rY:=bU bY;obtain ⟨jj,ec,jN⟩:=cH bY hb1 rY;clear bX hR gX hv bY hb1 rY;go_enter Tryz.func161,Tryz.ntmps161;go_wp2;rw[<-jj.o];go_loopw [6] (fun i wr=>∃k:Nat,k<=k0/\i=.int .i64 ((k:Int) - 1)/\Below W1.heap.size W1 wr/\R=x_ ps x k) (fun i _=>(intOf i+1).toNat)
 case atStart=>exact ⟨k0,aD _,rfl,aj _ _,HR.o⟩
 case round=>
  obtain ⟨k,hk,rfl,ar,ht⟩:=hrel;obtain ⟨wo,JT⟩:=am wr;subst JT;have b1:=bJ ar jN.o
  cases k with
  | zero=>
   have HE:=ac (show R=some x by rw[ht,JR]);have HB:=ac (ec.o.tr ar);have hd0:decide ((0:Int)<=((0:Nat):Int) - 1)=false:=by simp
   clear ar ht b1;go_wp2;refine bI (v:=.tuple #[.string ⟨x.toArray⟩,.bool true]) (by simp[results,Tryz.results161,go_sem]) rfl ⟨by rw[HE.o];rfl,HB.o⟩
  | succ j=>
   have lr:j<ps.length:=by rw[<-dA.o];omega
   obtain ⟨b,off,rfl,c0,c1⟩:=HV.o.get lr;rw[JS lr]at ht;obtain ⟨s,hs⟩:=am (ps[j].1);obtain ⟨a,ha⟩:=am (ps[j].2);rw[<-hs,<-ha]at ht;rw[<-hs]at c0;rw[<-ha]at c1;have hsl:s.length<=2000000:=by rw[hs];exact Y2.o _ (aw lr)
   have d0:=aa (ec.o.tr ar) c0;have d1:=aa (ec.o.tr ar) c1;have x8:=ah b1 8;have YU:(((j+1:Nat):Int) - 1)=(j:Int):=by omega
   have bB:Below wo.heap.size wo (wo.alloc (.cells #[.string ⟨s.toArray⟩,.string ⟨a.toArray⟩] 213)):=cO;have y8:=aa bB x8;have hy:=ai (w:=wo) (o:=.cells #[.string ⟨s.toArray⟩,.string ⟨a.toArray⟩] 213) rfl;have y0:(wo.alloc (.cells #[.string ⟨s.toArray⟩,.string ⟨a.toArray⟩] 213)).cell? ⟨wo.heap.size,0,none⟩=some (.string ⟨s.toArray⟩):=ah hy 0;have y1:(wo.alloc (.cells #[.string ⟨s.toArray⟩,.string ⟨a.toArray⟩] 213)).cell? ⟨wo.heap.size,1,none⟩=some (.string ⟨a.toArray⟩):=ah hy 1;have cw:=ac (ar.tr bB);have HY:=ac hy;rw[YU];have I5:(j:Int)<(k0:Int):=by omega
   by_cases hax:a=x
   ·subst hax;simp only[beq_self_eq_true,if_true]at ht;have HT:=ac ht;obtain ⟨r0,hr0⟩:=am (k0 - (j+1));have C_:j+1<=k0:=by omega
    obtain ⟨Y3,HSl⟩:=aW hr0 hsl;clear ht ar b1 c0 c1 hs ha bB hy hsl;go_wp2
    all_goals (
     rw[<-Y3.o];go_loopw [33] (fun i wr=>∃q:Nat,q<=r0/\i=.int .i64 q/\Below (wo.alloc (.cells #[.string ⟨s.toArray⟩,.string ⟨a.toArray⟩] 213)).heap.size (wo.alloc (.cells #[.string ⟨s.toArray⟩,.string ⟨a.toArray⟩] 213)) wr/\∀ p (hp:p<ps.length),j+1<=p->p<j+1+q->ps[p].1≠s) (fun i _=>r0 - (intOf i).toNat)
     case atStart=>exact ⟨0,by omega,rfl,aj _ _,fun p hp h1 h2=>by omega⟩
     case round=>
      obtain ⟨q,hq,rfl,dt,jZ⟩:=hrel;have z0:=aa dt y0
      by_cases hlt:q<r0
      ·have zet:=Y3.o
       first
       | omega
       | (have mg:j+1+q<ps.length:=by have:=dA.o;have:=Y3.o;omega
          obtain ⟨b',jD,cQ,e0,e1⟩:=HV.o.get mg;cases cQ;obtain ⟨s2,jP⟩:=am (ps[j+1+q].1);obtain ⟨a2,ha2⟩:=am (ps[j+1+q].2);rw[<-jP]at e0;rw[<-ha2]at e1;have nJ:=(ec.o.tr cw.o).tr dt;obtain ⟨f0,f1⟩:=zS nJ e0 e1;have V_:off+(j+1+q) * 2=off+(j+1) * 2+q * 2:=by omega
          rw[V_]at f0 f1;have aM:Below wr.heap.size wr (wr.alloc (.cells #[.string ⟨s2.toArray⟩,.string ⟨a2.toArray⟩] 213)):=cO;have z1:=aa aM z0;have lY:=ac (dt.tr aM)
          by_cases Ph:s2=s
          ·have HE:=ac (show R=none by
            rw[HT.o,au];simp only[List.contains_iff_mem,List.mem_map];refine ⟨ps[j+1+q],List.mem_iff_getElem.2 ⟨q,by rw[List.length_drop];omega,by rw[List.getElem_drop]⟩,by rw[<-Ph,jP]⟩)
           subst Ph;clear dt jZ nJ V_ aM e0 e1 jP ha2;go_wp2;refine bI (v:=.tuple #[.string ⟨#[]⟩,.bool false]) (by simp[results,Tryz.results161,go_sem]) rfl ⟨by rw[HE.o];rfl,(ec.o.tr cw.o).tr lY.o⟩
          ·have LJ:(s2 == s)=false:=by simpa using Ph
           have HN:=ac (show ∀ p (hp:p<ps.length),j+1<=p->p<j+1+(q+1)->ps[p].1≠s from fun p hp h1 h2=>by
            by_cases e:p=j+1+q
            ·subst e;rw[<-jP];exact Ph
            ·exact jZ p hp h1 (by omega))
           clear dt jZ nJ V_ aM e0 e1 jP ha2;go_wp2;go_roundw
           case rel=>exact ⟨q+1,by omega,by go_num,lY.o,HN.o⟩
           case measure=>simp[intOf];omega)
      ·obtain rfl:q=r0:=by omega
       have HE:=ac (show R=some (bQ s) by
        rw[HT.o,ak];simp only[List.contains_iff_mem,List.mem_map];rintro ⟨p,hp,rfl⟩;obtain ⟨i,hi,rfl⟩:=List.mem_iff_getElem.1 hp;rw[List.length_drop]at hi;rw[List.getElem_drop]at jZ;exact jZ (j+1+i) (by omega) (by omega) (by have:=dA.o;have:=Y3.o;omega) rfl)
       have CH:=fC s wr (by have:=HSl.o;omega);obtain ⟨Wc,lY⟩:=aW CH dt;clear dt jZ CH;go_wp2_with (go_at_call 130;refine Wc.o.mono ?_;rintro e w5 ⟨rfl,rfl⟩);refine bI (v:=.tuple #[.string ⟨(bQ s).toArray⟩,.bool true]) (by simp[results,Tryz.results161,go_sem]) rfl ⟨by rw[HE.o];rfl,(ec.o.tr cw.o).tr lY.o⟩)
   ·have Cz:(a == x)=false:=by simpa using hax
    simp only[Cz,bW,if_false]at ht;have HT:=ac ht;clear ht ar b1 c0 c1 hs ha bB hy hsl;go_wp2;go_roundw
    case rel=>exact ⟨j,by omega,by go_num,cw.o,HT.o⟩
    case measure=>simp[intOf]
theorem pH {c:Sco} {k:Nat} (h:k<l.length):d9 c ins (l.take (k+1))=match d9 c ins (l.take k),ir c ins l[k] with | some us,some u=>some (us ++ [u]) | _,_=>none:=by
 induction l generalizing k with
 | nil=>simp at h
 | cons t l ih=>
  cases k with
  | zero=>
   simp only[List.take_succ_cons,List.take_zero,List.getElem_cons_zero,d9];cases ir c ins t <;> rfl
  | succ k=>
   have:=ih (k:=k) (by simpa using h);simp only[List.take_succ_cons,List.getElem_cons_succ,d9];rw[this];cases ir c ins t <;> cases d9 c ins (l.take k) <;> cases ir c ins (l[k]'(by simpa using h)) <;> rfl
theorem AB {c:Sco} {t:Tm} (ht:t∈l) (h:ir c ins t=none):d9 c ins l=none:=by
 induction l with
 | nil=>cases ht
 | cons u l ih=>
  rcases cd.1 ht with rfl | ht
  ·simp[d9,h]
  ·simp only[d9,ih ht];cases ir c ins u <;> rfl
theorem iE {q:PlQ} (h:W.heap[B]?=some (.cells q.cells T (0,0))) :
  W.cell? ⟨B,0,none⟩=some (.int .u8 q.s.o)/\W.cell? ⟨B,1,none⟩=some (.string q.s.n)/\W.cell? ⟨B,2,none⟩=some (.slice q.s.a q.s.l q.s.c)/\W.cell? ⟨B,3,none⟩=some (.slice q.s.b q.s.m q.s.e)/\W.cell? ⟨B,4,none⟩=some (.int .u8 q.f.o)/\W.cell? ⟨B,5,none⟩=some (.string q.f.n)/\W.cell? ⟨B,6,none⟩=some (.slice q.f.a q.f.l q.f.c)/\W.cell? ⟨B,7,none⟩=some (.slice q.f.b q.f.m q.f.e)/\W.cell? ⟨B,8,none⟩=some (.slice q.a q.l q.c):=
 ⟨ah h 0,ah h 1,ah h 2,ah h 3,ah h 4,ah h 5,ah h 6,ah h 7,ah h 8⟩
theorem uL (hx:X.heap[B]?=some (.cells #[c0,c1,c2] T (0,0))) (v0 v1 v2:Value):∃W6,W6=((X.setCell ⟨B,0,none⟩ v0).setCell ⟨B,1,none⟩ v1).setCell ⟨B,2,none⟩ v2/\W6.heap[B]?=some (.cells #[v0,v1,v2] T (0,0))/\Kp (fun b=>b=B) X W6/\W6.cell? ⟨B,0,none⟩=some v0/\W6.cell? ⟨B,1,none⟩=some v1/\W6.cell? ⟨B,2,none⟩=some v2:=
 have h:=qA (v0:=v0) (v1:=v1) (v2:=v2) hx
 ⟨_,rfl,h,eM,ah h 0,ah h 1,ah h 2⟩
theorem gN (hx:X.heap[B]?=some (.cells #[c0,c1,c2] T (0,0))):X.cell? ⟨B,0,none⟩=some c0/\X.cell? ⟨B,1,none⟩=some c1/\X.cell? ⟨B,2,none⟩=some c2/\X.frozen? ⟨B,0,none⟩=false/\X.frozen? ⟨B,1,none⟩=false/\X.frozen? ⟨B,2,none⟩=false:=
 ⟨ah hx 0,ah hx 1,ah hx 2,ae hx 0,ae hx 1,ae hx 2⟩
theorem sG (q:PlQ) (ps:List (Str×Str)) (mg:ps.length<=1000000) (gX:∀ p∈ps,p.1.length<=2000000) (L ins:List Str) (hL:L.length<=2000000) (Pi:∀ y,L.contains y=ins.contains y) (okL:Nat->Prop) (vL:Value) :
  ∀ (t:Tm),fitT t->∀ (ok:Nat->Prop) (w:World) (tq:TQ),PairsV w (.slice q.a q.l q.c) ps->StrsO okL w vL L->TermV ok w tq.val t →
  Calls Tryz.prog 94 #[q.val,tq.val,vL] w fun e w'=>(∃p:TQ,e=.returned (.tuple #[p.val,.bool (ir ps.reverse ins t).isSome])/\∀ u,ir ps.reverse ins t=some u->TermV (w.heap.size<=·) w' p.val u)/\Below w.heap.size w w':=by
 obtain ⟨i0,hi,oM,ju,iy⟩:=info_parts hO;have JU:=cG mg gX hL Pi;clear mg gX hL Pi;have pp184a:=();exact pm184
