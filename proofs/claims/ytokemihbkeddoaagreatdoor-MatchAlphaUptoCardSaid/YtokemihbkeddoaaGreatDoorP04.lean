/-L-/
import Derived.Test.YtokemihbkeddoaaGreatDoorP03
open Go.Proofs.Tryz
namespace Go.Proofs.YtokemihbkeddoaaGreatDoor
open Go Go.RowKit Lib
set_option maxRecDepth 100000
set_option maxHeartbeats 0
variable{c:gO}{l m:List Fm}{k j mF mT kb nF nT:Nat}{M:Nat->Prop}{W W':World}{v:Value}{t u:Tm}{a:List Tm}{s x:aj}{f im:Fm}{b:Bd}{p:Pl}
section
attribute [local go_sem] Oper.semAt_some
theorem oZ{m:List Fm}{k:Nat}(hl:k<l.length)(hm:k<m.length):ba c (l.take (k+1)) (m.take (k+1))=ba c (l.take k) (m.take k)++bC c l[k] m[k]:=by
 induction l generalizing k m with
 |nil=>simp at hl
 |cons t l ih=>
  cases m with
  |nil=>simp at hm
  |cons u m=>
   cases k with
   |zero=>simp[ba]
   |succ k=>have:=ih (k:=k) (m:=m) (by simpa using hl) (by simpa using hm);simp[ba]at this⊢;rw[this]
theorem o6{m:List Fm}{k:Nat}:ba c l m=ba c (l.take k) (m.take k)++ba c (l.drop k) (m.drop k):=by
 induction l generalizing k m with
 |nil=>simp[ba]
 |cons t l ih=>
  cases m with
  |nil=>cases k<;>simp[ba]
  |cons u m=>
   cases k with
   |zero=>simp[ba]
   |succ k=>have:=ih (k:=k) (m:=m);simp only[List.take_succ_cons,List.drop_succ_cons,ba,List.append_assoc];rw[this]
theorem yI{c:gO}{l m:List Fm}{k:Nat}(hk:k=min l.length m.length):ba c (l.take k) (m.take k)=ba c l m:=by
 rw[o6 (c:=c) (l:=l) (m:=m) (k:=k)];rcases Nat.le_total l.length m.length with h|h
 ·have h0:l.drop k=[]:=iW (by omega);rw[h0];simp[ba]
 ·have h0:m.drop k=[]:=iW (by omega);rw[h0];cases l.drop k<;>simp[ba]
theorem T5:(prog.info? 213).map (fun i=>(i.zero,i.size,i.bytes))=some (some (.agg #[.string ByteArray.empty,.string ByteArray.empty]),2,32):=by kernel_rfl
def nK(M:Nat->Prop)(W:World)(v:Value)(ps:List (aj×aj)):Prop:=cw W v ps/\∀b,v.ownBlock=some b->¬M b
theorem nK.kp{ps:List (aj×aj)}(h:nK M W v ps)(hk:Kp M W W'):nK M W' v ps:=by
 have an:=();exact qeX
def T6(M:Nat->Prop)(B:Nat)(W:World)(vs:Array Value)(x:Pl):Prop:=∃(q:gd)(ps:List (aj×aj)),vs=#[q.val]/\x.c=ps.reverse/\ps.length<=1000000/\aC (fun b=>b<B/\¬M b) W q.s.val x.s/\aC (fun b=>b<B/\¬M b) W q.f.val x.f/\nK M W (.slice q.a q.l q.c) ps
def I4{T:Type}(M:Nat->Prop)(l:Nat)(J Jx:List T->World->Prop)(At:World->Array Value->T->Prop)(xs:List T)(W:World):Prop:=
 ∀pre vs x W1,J pre W1->Kp M W W1->At W1 vs x->(pre++[x]) <+: xs->YieldAt Fence.wide 0 prog l vs W1 fun e W'=>(e=.returned (.bool true)/\J (pre++[x]) W'/\Kp M W1 W')\/(e=.returned (.bool false)/\Jx (pre++[x]) W'/\jB M (l+1) W1 W')
theorem I4.later{T:Type}{l:Nat}{J Jx:List T->World->Prop}{At:World->Array Value->T->Prop}{xs:List T}(h:I4 M l J Jx At xs W)(hk:Kp M W W'):I4 M l J Jx At xs W':=
 fun pre vs x W1 hj le hat hp=>h pre vs x W1 hj (hk.trans le) hat hp
theorem NZ:∀(s:Fm),∀(f:Fm),cJ f->∀(ps:List (aj×aj)),ps.length+ag s<=1000000->∀(M:Nat->Prop)(B l:Nat)(J Jx:List Pl->World->Prop)(xs pre:List Pl)(W:World)(q:gd),
  (∀b,M b->b<W.heap.size)->(l<W.heap.size/\¬M l)->(∀t,jT W.heap.size (J t))->(∀t,jT W.heap.size (Jx t))->I4 M l J Jx (T6 M B) xs W->aC (fun b=>b<B/\¬M b) W q.s.val s->aC (fun b=>b<B/\¬M b) W q.f.val f->nK M W (.slice q.a q.l q.c) ps→
  (pre++bC ps.reverse s f) <+: xs->J pre W→
  Calls prog 103 #[q.val,.func (.yield l) #[] #[]] W fun e W'=>(e=.returned (.bool true)/\J (pre++bC ps.reverse s f) W'/\Kp M W W')\/(e=.returned (.bool false)/\∃I5,I5 <+: xs/\Jx I5 W'/\jB M (l+1) W W'):=by
 obtain⟨i0,hi,oO,jv,iG⟩:=info_parts T5;intro s
 induction s using Fm.ind with
 |h so sn PK ss ih=>
 intro f T7 ps oe M B l J Jx xs pre W q hM hl hJ hJx hY xI F_ hps dU hj;obtain⟨fo,fn,_h,fs⟩:=f;obtain⟨⟨XU,sn',sa,sl,sc,sb,sm,se⟩,⟨fo',fn',fa,fl,fc,fb,fm,fe⟩,ca,cl,cc⟩:=q;obtain⟨v1,v2,h1,hsa,Ty⟩:=aX.1 xI;obtain⟨v3,v4,h2,xH,Ka⟩:=aX.1 F_;have qm6:=();exact qct
theorem N1(x y n:aj)(X:Nat)(w:World)(hX:w.cell? ⟨X,0,none⟩=some (.string ⟨n.toArray⟩)):
  Calls prog 228 #[.agg #[.string ⟨x.toArray⟩,.string ⟨y.toArray⟩],.pointer (some ⟨X,0,none⟩)] w fun e w'=>e=.returned (.bool (x==n))/\Below w.heap.size w w':=by
 have hb:Below w.heap.size w (w.alloc (.cells #[.string ⟨x.toArray⟩,.string ⟨y.toArray⟩] 213)):=dp;have h1:=aa hb hX;have HB:=ae hb;clear hb;go_enter func228,ntmps228;go_wp2;go_ret;exact⟨rfl,HB.o⟩
theorem N3(ps:List (aj×aj))(oe:ps.length<=1000000)(n:aj)(X:Nat)(w:World)(v:Value)(hv:cw w v ps)(hX:w.cell? ⟨X,0,none⟩=some (.string ⟨n.toArray⟩)):
  Calls prog 274 #[v,.func (.func 228) #[] #[.pointer (some ⟨X,0,none⟩)]] w fun e w'=>(∃r:Int,e=.returned (.int .i64 r)/\(decide (0<=r)=(ps.map (·.1)).contains n)/\-1<=r/\r<=1000000)/\Below w.heap.size w w':=by
 obtain⟨a,cap,rfl,hc,hs⟩:=hv;have⟨k0,cD⟩:=az ps.length;rw[<-cD]at oe hc;rw[<-cD];have⟨HK,HS,HX⟩:=cU cD hs hX;clear cD hs hX;go_enter func274,ntmps274;go_wp2;go_loopw [8] (fun i wr=>∃k:Nat,k<=k0/\i=.int .i64 k/\Below w.heap.size w wr/\∀p∈ps.take k,p.1≠n) (fun i _=>k0-(intOf i).toNat)
 case atStart=>exact⟨0,bn _,rfl,ar _ _,by simp⟩
 case round=>
  obtain⟨k,hk,rfl,aD,iX⟩:=hrel
  by_cases hlt:k<k0
  ·have bA:=cG HK.o hlt;have hps:ps≠[]:=fun h=>by rw[h]at bA;simp at bA
   rcases HS.o with⟨h,_⟩|⟨b,off,rfl,hcs⟩
   ·exact absurd h hps
   obtain⟨c0,c1⟩:=hcs k bA;have⟨d0,d1⟩:=C8 aD c0 c1;obtain⟨⟨px,py⟩,hp⟩:∃p,p=ps[k]:=⟨_,rfl⟩;rw[<-hp]at d0 d1;simp only at d0 d1;have CB:=N1 px py n X wr (aa aD HX.o);have Cu:(k:Int)<(k0:Int):=by omega
   cases hq:(px==n)with
   |true=>
    rw[hq]at CB;have HC:=ae CB;have HE:=ae (show(ps.map (·.1)).contains n=true by rw[List.contains_iff_mem];exact List.mem_map.2 ⟨ps[k],aH bA,by rw[<-hp];exact eq_of_beq hq⟩);have an:=();exact qeY
   |false=>
    rw[hq]at CB;have HC:=ae CB;have Bl:=ae (show ∀ p∈ps.take (k+1),p.1≠n by
     intro p hm;rw[List.take_add_one,jn bA,<-hp]at hm;rcases List.mem_append.1 hm with h|h
     ·exact iX p h
     ·obtain rfl:p=(px,py):=by simpa using h
      exact fun e=>by rw[show px=n from e]at hq;simp at hq)
    exact qeY
  ·obtain rfl:k=k0:=by omega
   have HE:=ae (show (ps.map (·.1)).contains n=false by
    rw[HK.o,dA]at iX;rw[Bool.eq_false_iff,ne_eq,List.contains_iff_mem];intro h;obtain⟨p,hp,he⟩:=List.mem_map.1 h;exact iX p hp he)
   have HB:=ae aD;clear aD iX;go_wp2;go_ret;exact⟨⟨_,rfl,by rw[HE.o];simp,by omega,by omega⟩,HB.o⟩
theorem Gb(ps:List (aj×aj))(oe:ps.length<=1000000)(n:aj)(X:Nat)(w:World)(v:Value)(hv:cw w v ps)(hX:w.cell? ⟨X,0,none⟩=some (.string ⟨n.toArray⟩)):
  Calls prog 227 #[v,.func (.func 228) #[] #[.pointer (some ⟨X,0,none⟩)]] w fun e w'=>e=.returned (.bool ((ps.map (·.1)).contains n))/\Below w.heap.size w w':=by
 have CC:=N3 ps oe n X w v hv hX;have⟨B,hB⟩:=az ((ps.map (·.1)).contains n);rw[<-hB]at CC⊢;have HC:=ae CC;clear CC hv hX hB;go_enter func227,ntmps227;go_wp2_with (go_at_call 274;refine HC.o.mono ?_;rintro e w4 ⟨⟨r,rfl,hr,_,_⟩,aY⟩;have H4:=aM hr aY;clear hr aY);exact qcu
theorem G_(q:gd)(ps:List (aj×aj))(oe:ps.length<=1000000)(n:aj)(w:World)(hv:cw w (.slice q.a q.l q.c) ps):
  Calls prog 163 #[q.val,.string ⟨n.toArray⟩] w fun e w'=>e=.returned (.bool ((ps.map (·.1)).contains n))/\Below w.heap.size w w':=by
 have⟨W2,bp⟩:=az ((w.alloc (.cells q.cells 89)).alloc (.cells #[.string ⟨n.toArray⟩] 9));have bU:=mo bp;have x1:W2.cell? ⟨w.heap.size+1,0,none⟩=some (.string ⟨n.toArray⟩):=by rw[bp];exact ao (aq (by simp)) 0
 have CC:=Gb ps oe n (w.heap.size+1) W2 _ (hv.later bU) x1;have⟨B,hB⟩:=az ((ps.map (·.1)).contains n);rw[<-hB]at CC⊢;have⟨HC,HB,gh⟩:=cU CC bU bp;clear CC bU hv x1 bp hB;have qm8:=();exact qai
end
theorem pO:∀a b:aj,Lib.compareBytes a b=0↔a=b
 |[],[]=>by simp[Lib.compareBytes]
 |[],_::_=>by simp[Lib.compareBytes]
 |_::_,[]=>by simp[Lib.compareBytes]
 |x::a,y::b=>by
  have ih:=pO a b;have e:x.toNat=y.toNat↔x=y:=UInt8.toNat_inj;simp only[Lib.compareBytes,cF,UInt8.lt_iff_toNat_lt]at *
  by_cases h:x=y
  ·simp[h,ih]
  ·have:x.toNat≠y.toNat:=fun h'=>h (e.1 h');simp only[h,false_and,iff_false];split
   ·simp
   ·split
    ·simp
    ·omega
theorem sI(x y:Int):Lib.compareInt x y=0↔x=y:=by
 unfold Lib.compareInt;split
 ·simp;omega
 ·split
  ·simp;omega
  ·simp;omega
mutual
def yJ:Tm->Tm->Int
 |.mk v n a,.mk v' n' a'=>if(v !=v')=true then(if v=true then -1 else 1)else if Lib.compareBytes n n'≠0 then Lib.compareBytes n n' else if Lib.compareInt a.length a'.length≠0 then Lib.compareInt a.length a'.length else D4 a a'
def D4:List Tm->List Tm->Int
 |[],_=>0
 |t::l,m=>match m with|[]=>0|u::m=>if yJ t u≠0 then yJ t u else D4 l m
end
def Ha(l m:List Tm):Int:=if Lib.compareInt l.length m.length≠0 then Lib.compareInt l.length m.length else D4 l m
theorem PL(v v':Bool)(n n':aj)(a a':List Tm):yJ (.mk v n a) (.mk v' n' a')=if(v !=v')=true then(if v=true then -1 else 1)else if Lib.compareBytes n n'≠0 then Lib.compareBytes n n' else Ha a a':=by
 rw[yJ];rfl
mutual
theorem Hb:∀t u,yJ t u=0↔t=u
 |.mk v n a,.mk v' n' a'=>by
  rw[PL];have h1:=pO n n';have h2:=sI a.length a'.length;have h3:=Hc a a';unfold Ha;cases v<;>cases v'<;>simp only[bne_self_eq_false,bR,if_false,Tm.mk.injEq,true_and]<;>try (simp;done)
  all_goals
   by_cases hn:n=n'
   ·have hz:=h1.2 hn;rw[hz];simp only[ne_eq,not_true,if_false,hn,true_and]
    by_cases hl:a.length=a'.length
    ·have iG:=h2.2 (by omega);rw[iG];simp only[not_true,if_false];exact h3 hl
    ·have:Lib.compareInt a.length a'.length≠0:=fun h=>hl (by have:=h2.1 h;omega);simp only[this,not_false_eq_true,if_true,false_iff];intro h;exact hl (by rw[h])
   ·have hz:Lib.compareBytes n n'≠0:=fun h=>hn (h1.1 h);simp[hz,hn]
theorem Hc:∀l m,l.length=m.length->(D4 l m=0↔l=m)
 |[],[],_=>by simp[D4]
 |[],_::_,h=>by simp at h
 |_::_,[],h=>by simp at h
 |t::l,u::m,h=>by
  have h1:=Hb t u;have h2:=Hc l m (by simpa using h);rw[D4]
  by_cases ht:t=u
  ·rw[h1.2 ht];simp[ht,h2]
  ·have hz:yJ t u≠0:=fun h=>ht (h1.1 h);simp[hz,ht]
end
theorem Rg{l m:List Tm}(hl:k<l.length)(hm:k<m.length):D4 (l.drop k) (m.drop k)=if yJ l[k] m[k]≠0 then yJ l[k] m[k]else D4 (l.drop (k+1)) (m.drop (k+1)):=by
 rw[iL hl,iL hm,D4]
def XV(l:List Tm):Prop:=∀(m:List Tm)(ok ok':Nat->Prop)(w:World)(a:Option Addr)(n c:Nat)(a':Option Addr)(n' c':Nat),jE l->jE m->cB ok w (.slice a n c) l->cB ok' w (.slice a' n' c') m→
 Calls prog 273 #[.slice a n c,.slice a' n' c',.func (.func 226) #[] #[]] w fun e w'=>e=.returned (.int .i64 (Ha l m))/\Below w.heap.size w w'
theorem sJ(t:Tm)(ih:XV t.a)(u:Tm)(ok ok':Nat->Prop)(w:World)(q q':TQ)(hf:e7 t)(AW:e7 u)(hq:aN ok w q.val t)(gY:aN ok' w q'.val u):
  Calls prog 226 #[q.val,q'.val] w fun e w'=>e=.returned (.int .i64 (yJ t u))/\Below w.heap.size w w':=by
 obtain⟨xv,xn,xa⟩:=t;have qm9:=();exact qcs
theorem XW(l:List Tm)(ih:∀t∈l,XV t.a):XV l:=by
 intro m ok ok' w a n c a' n' c' aI PN hl hm;obtain rfl:=hl.len;obtain rfl:=hm.len;have hlen:=aI.len;have zcZ:=PN.len;have⟨k0,cD⟩:=az l.length;have⟨m0,eh⟩:=az m.length;have⟨R,hR⟩:=az (Ha l m);have _j:=hR;unfold Ha at _j;rw[<-cD,<-eh]at _j;rw[<-cD]at hlen;rw[<-eh]at zcZ;rw[<-cD,<-eh,<-hR];have⟨d,hd⟩:=az (Lib.compareInt (k0:Int) (m0:Int));have HC0:Hd (∀W,Calls prog 287 #[.int .i64 (k0:Int),.int .i64 (m0:Int)] W fun e w'=>e=.returned (.int .i64 d)/\w'=W):=ae (fun W=>by rw[hd];exact Tryz.cmp_Compare_int _ _ W);have hz:=sI (k0:Int) (m0:Int);rw[<-hd]at _j hz;have⟨dN,gT,HL,HM,gZ,HF,fk⟩:=Xh cD eh hl hm ih aI PN
 by_cases h0:d=0
 ·subst h0;have zaB:k0=m0:=by have:=hz.1 rfl;omega
  simp at _j;have⟨HR,HKM⟩:=bi _j zaB;clear cD eh hl hm ih aI PN hd hz hR _j zaB;have an:=();exact qeZ
 ·have d1:(d==0)=false:=by simpa using h0
  have d2:(d !=0)=true:=by simpa using h0
  simp[h0]at _j;subst _j;clear cD eh hl hm ih aI PN hd hz hR;exact qeZ
theorem T':∀t:Tm,XV t.a:=by
 intro t
 induction t using Tm.ind with
 |h v n a ih=>exact XW a ih
theorem Ak(t u:Tm)(ok ok':Nat->Prop)(w:World)(q q':TQ)(hf:e7 t)(AW:e7 u)(hq:aN ok w q.val t)(gY:aN ok' w q'.val u):
  Calls prog 226 #[q.val,q'.val] w fun e w'=>e=.returned (.int .i64 (yJ t u))/\Below w.heap.size w w':=sJ t (T' t) u ok ok' w q q' hf AW hq gY
theorem yK(t u:Tm)(ok ok':Nat->Prop)(w:World)(q q':TQ)(hf:e7 t)(AW:e7 u)(hq:aN ok w q.val t)(gY:aN ok' w q'.val u):
  Calls prog 162 #[q.val,q'.val] w fun e w'=>e=.returned (.bool (zS t u))/\Below w.heap.size w w':=by
 have hb:Below w.heap.size w ((w.alloc (.cells #[.bool q.v,.string q.n,.slice q.a q.l q.c] 43)).alloc (.cells #[.bool q'.v,.string q'.n,.slice q'.a q'.l q'.c] 43)):=dp.alloc (by simp) _;have C1:=Ak t u ok ok' _ q q' hf AW (hq.later hb) (gY.later hb);have he:zS t u=(yJ t u==0):=by
  rw[iM,KJ,<-Hb];simp
 rw[he];have⟨c,hc⟩:=az (yJ t u);rw[<-hc]at C1⊢;have⟨HC,HB⟩:=bi C1 hb;clear hb C1 hq gY he hc hf AW;unfold TQ.val at HC⊢;go_enter func162,ntmps162;go_wp2_with (go_at_call 226;refine HC.o.mono ?_;rintro e w3 ⟨rfl,aS⟩;have bV:=ae aS;clear aS);exact qeQ
section
attribute [local go_sem] Oper.semAt_some
theorem aN.kpM{M':Nat->Prop}(h:aN (fun b=>¬M b) W v t)(hk:Kp M' W W')(hM:∀b,M' b->M b):aN (fun b=>¬M b) W' v t:=h.move (fun b hb hlt=>⟨hb,hk.same b hlt (fun h=>hb (hM b h))⟩)
theorem D5{α:Type}{n:aj}{v:α}{l:List (aj×α)}(h:bG l n=none)(y:aj):bG (iB n v l) y=if y=n then some v else bG l y:=by
 rw[yf n _ _ h y]
 by_cases e:y=n
 ·subst e;simp
 ·rw[aw e,aw (fun b=>e (eq_of_beq b).symm)]
theorem rP{j:Nat}(h:j<a.length):af (a.take j)+ap a[j]=af (a.take (j+1))/\af (a.take (j+1))<=af a:=by
 induction a generalizing j with
 |nil=>simp at h
 |cons t a ih=>
  cases j with
  |zero=>simp[af]
  |succ j=>have:=ih (j:=j) (by simpa using h);simp[af]at this⊢;omega
theorem T_{n:aj}(h:n.length<=1999999):e7 (bj (cg n)):=by
 refine⟨by unfold bj ap af;omega,?_⟩;unfold bj kI d8 cg;simp;omega
def EqA(q:gd)(ps:List (aj×aj))(PF:Fm->Prop)(PT:Tm->Prop)(M:Nat->Prop)(kb mF mT:Nat)(t:Tm):Prop:=
 ∀im,PT im->∀(W:World)(nF nT:Nat)(k:Bd)(tq uq:TQ),ly (fun b=>¬M b) PF PT W kb mF mT nF nT k->nT+ap t<=3000000->nK M W (.slice q.a q.l q.c) ps->aN (fun b=>¬M b) W tq.val t->aN (fun b=>¬M b) W uq.val im→
  Calls prog 95 #[.pointer (some ⟨kb,0,none⟩),q.val,tq.val,uq.val] W fun e W'=>Kp (fun b=>b=mT) W W'/\∃r:Bool,e=.returned (.bool r)∧
   (dY (ps.reverse.map (·.1)) k.ts t im=none->r=false)/\∀ts,dY (ps.reverse.map (·.1)) k.ts t im=some ts->r=true/\∃yL,yL<=nT+ap t/\ly (fun b=>¬M b) PF PT W' kb mF mT nF yL ⟨k.fs,ts⟩
theorem Rh(q:gd)(ps:List (aj×aj))(oe:ps.length<=1000000)(PF:Fm->Prop)(PT:Tm->Prop)(_g:∀t,PT t->e7 t)(hPA:∀v n a,PT (.mk v n a)->∀u∈a,PT u)(M:Nat->Prop)(kb mF mT:Nat)(WO:M mT)(WP:M mF)(WQ:¬M kb):
  ∀t,e7 t->kI 1999999 t=true->EqA q ps PF PT M kb mF mT t:=by
 have HG:=uU oe _g hPA WO WP WQ;clear oe _g hPA WO WP WQ;have qnb:=();exact qav
end
theorem ko{f o:UInt8->Bool}(h:qD f o s=true):s.length<=16:=by
 cases s with
 |nil=>simp
 |cons c r=>simp only[qD,ak,bM]at h;simp;omega
theorem iI(h:dI s=true):s.length<=16:=by
 simp only[dI,ak,bM]at h;exact h.1
theorem wP(h:ej s=true):s.length<=16:=by
 simp only[ej,ak,bM]at h;exact h.1
mutual
theorem Ue{sc:Bool}:∀t,jA sc t=true->kI 16 t=true
 |.mk v n a,h=>by
  simp only[jA]at h
  cases v with
  |true=>
   simp only[↓reduceIte,ak,Bool.or_eq_true]at h;obtain rfl:a=[]:=by simpa using h.1
   simp only[kI,d8,Bool.and_true,bM];rcases h.2 with h|h
   ·exact ko h
   ·exact iI h.2
  |false=>
   simp only[bR,↓reduceIte,ak]at h;simp only[kI,ak,bM];exact⟨ko h.2.1,I9 a h.2.2⟩
theorem I9{sc:Bool}:∀l,eD sc l=true->d8 16 l=true
 |[],_=>rfl
 |t::l,h=>by
  simp only[eD,ak]at h;simp only[d8,ak];exact⟨Ue t h.1,I9 l h.2⟩
end
mutual
theorem He:∀t,kI 16 (aU t)=true->kI 17 t=true
 |.mk v n a,h=>by
  simp only[aU,kI,ak,bM]at h⊢;refine⟨?_,wQ a h.2⟩;have h1:=h.1;split at h1
  ·simp at h1;omega
  ·omega
theorem wQ:∀l,d8 16 (bW l)=true->d8 17 l=true
 |[],_=>rfl
 |t::l,h=>by
  simp only[bW,d8,ak]at h⊢;exact⟨He t h.1,wQ l h.2⟩
end
mutual
theorem Hf:∀t,lI (aU t)=lI t
 |.mk v n a=>by
  have h:(bW a).isEmpty=a.isEmpty:=by cases a<;>rfl
  simp only[aU,lI,h,wR a]
theorem wR:∀l,eC (bW l)=eC l
 |[]=>rfl
 |t::l=>by simp only[bW,eC,Hf t,wR l]
end
theorem Ri{o:Int}{sc:Bool}(h:((eE o).1||(sc&&(eE o).2.1))=true):0<=o/\o<=255:=by
 unfold eE at h
 by_cases h1:o=1
 ·omega
 by_cases h2:o=2
 ·omega
 by_cases h3:o=8\/o=9
 ·omega
 by_cases h4:o=3\/(10<=o/\o<=13)
 ·omega
 by_cases h5:(4<=o/\o<=7)\/o=14
 ·omega
 by_cases h6:o=15
 ·omega
 by_cases h7:o=16
 ·omega
 simp[h1,h2,h3,h4,h5,h6,h7]at h
theorem Rj(h:rj k s=true):s.length<=16:=by
 unfold rj at h;split at h
 ·exact ko h
 ·exact ko h
 ·exact wP h
 ·simp at h;simp[h]
mutual
theorem jC{sc:Bool}:∀f,gF sc f=true->mI 16 f=true
 |.mk o n a s,h=>by
  simp only[gF]at h;rw[ak,ak,ak,ak,ak,ak]at h;simp only[mI,ak,bM];exact⟨Ri h.1,Rj h.2.1.1,I9 a h.2.2.2.1,PO s h.2.2.2.2⟩
theorem PO{sc:Bool}:∀l,dJ sc l=true->eu 16 l=true
 |[],_=>rfl
 |t::l,h=>by
  simp only[dJ,ak]at h;simp only[eu,ak];exact⟨jC t h.1,PO l h.2⟩
end
mutual
theorem Hg:∀f,mI 16 (bI f)=true->mI 17 f=true
 |.mk o n a s,h=>by
  simp only[bI,mI,ak,bM]at h⊢;exact⟨h.1,by omega,wQ a h.2.2.1,D7 s h.2.2.2⟩
theorem D7:∀l,eu 16 (cv l)=true->eu 17 l=true
 |[],_=>rfl
 |t::l,h=>by
  simp only[cv,eu,ak]at h⊢;exact⟨Hg t h.1,D7 l h.2⟩
end
mutual
theorem Hh:∀f,iV (bI f)=iV f
 |.mk o n a s=>by simp only[bI,iV,wR a,D8 s]
theorem D8:∀l,gy (cv l)=gy l
 |[]=>rfl
 |t::l=>by simp only[cv,gy,Hh t,D8 l]
end
theorem Bq:∀s,(cv s).length=s.length
 |[]=>rfl
 |t::l=>by simp only[cv,fB,Bq l]
mutual
theorem Br:∀f,il (bI f)=il f
 |.mk o n a s=>by
  have h1:(cv s).length=s.length:=Bq s;have h2:(bW a).isEmpty=a.isEmpty:=by cases a<;>rfl
  simp only[bI,il,h1,h2,yM s]
theorem yM:∀l,hO (cv l)=hO l
 |[]=>rfl
 |t::l=>by simp only[cv,hO,Br t,yM l]
end
def dV(t:Tm):Prop:=jA false (aU t)=true/\ap t<=1000
def dx(f:Fm):Prop:=bw (bI f)=true
theorem dV.nm(h:dV t):kI 17 t=true:=He t (Ue _ h.1)
theorem dV.fit(h:dV t):e7 t:=⟨by have:=h.2;omega,lO (by omega) t h.nm⟩
theorem dV.args{v:Bool}{n:aj}(h:dV (.mk v n a)):∀u∈a,dV u:=by
 intro u hu;obtain⟨i,hi,rfl⟩:=List.getElem_of_mem hu;refine⟨tG (bW a) i _ (Dr h.1) (by rw[pK];simp[hi]),?_⟩;have h2:=h.2;have:=i8 hu;simp only[ap]at h2;omega
theorem dx.ok(h:dx f):gF false (bI f)=true:=by unfold dx bw at h;simp only[ak]at h;exact h.1
theorem dx.nodes(h:dx f):ag f<=400:=by unfold dx bw at h;simp only[ak,bM]at h;have:=(ja f).1;omega
theorem dx.nm(h:dx f):mI 17 f=true:=Hg f (jC _ h.ok)
theorem dx.fit(h:dx f):cJ f:=⟨by have:=h.nodes;omega,iR (by omega) f h.nm⟩
theorem dx.wf(h:dx f):iV f=true:=by rw[<-Hh];exact oU _ h.ok
theorem dx.qone(h:dx f):il f=true:=by rw[<-Br];exact yr _ h.ok
theorem PP(hv:bF b=true):∀x∈b.fs,dx x.2/\ej x.1=true:=by
 intro x hx;simp only[bF,ak,List.all_eq_true]at hv;exact⟨(hv.1.1 x hx).2,(hv.1.1 x hx).1⟩
theorem CO(hv:bF b=true)(hn:∀x∈b.ts,ap x.2<=1000):∀x∈b.ts,dV x.2/\dI x.1=true:=by
 intro x hx;simp only[bF,ak,List.all_eq_true]at hv;exact⟨⟨(hv.1.2 x hx).2,hn x hx⟩,(hv.1.2 x hx).1⟩
mutual
theorem oC:∀(s f:Fm)(c:gO),∀p∈bC c s f,ag p.s<=ag s
 |.mk o n a l,.mk o' n' a' l',c,p,hp=>by
  unfold bC at hp;rcases dc.1 hp with rfl|hp
  ·exact aK _
  ·have:=D9 l l' _ p hp;simp only[ag];omega
theorem D9:∀(s f:List Fm)(c:gO),∀p∈ba c s f,ag p.s<=ah s
 |[],_,c,p,hp=>by simp[ba]at hp
 |_::_,[],c,p,hp=>by simp[ba]at hp
 |t::l,u::m,c,p,hp=>by
  unfold ba at hp;simp only[ah];rcases List.mem_append.1 hp with hp|hp
  ·have:=oC t u c p hp;omega
  ·have:=D9 l m c p hp;omega
end
mutual
theorem tU:∀(s f:Fm)(c:gO),(bC c s f).length<=ag s
 |.mk o n a l,.mk o' n' a' l',c=>by
  have:=Hi l l' (if br o then(n,n')::c else c);unfold bC;simp only[fB,ag];omega
theorem Hi:∀(s f:List Fm)(c:gO),(ba c s f).length<=ah s
 |[],_,c=>by simp[ba]
 |_::_,[],c=>by simp[ba]
 |t::l,u::m,c=>by
  have h1:=tU t u c;have h2:=Hi l m c;simp only[ba,ei,ah];omega
end
mutual
theorem XZ{x:aj}{u:Tm}:∀t,ap (nl x u t)<=ap t*ap u
 |.mk v n a=>by
  have hu:=ln u;have ih:=D_ (x:=x) (u:=u) a;unfold nl ep
  by_cases h:v=true/\n=x
  ·obtain⟨rfl,rfl⟩:=h;simp only[↓reduceIte,beq_self_eq_true,ap];exact Nat.le_mul_of_pos_left _ (by omega)
  ·have h0:(if v=true then(if(n==x)=true then some u else none)else none)=none:=by
    by_cases hv:v=true
    ·have hn:(n==x)=false:=by simp;exact fun e=>h ⟨hv,e⟩
     simp[hv,hn]
    ·simp[hv]
   simp only[h0,ap,Nat.add_mul];rw[gJ];have ih2:af (a.map (ep fun n=>if(n==x)=true then some u else none))<=af a*ap u:=ih;omega
theorem D_{x:aj}{u:Tm}:∀l,af (fU x u l)<=af l*ap u
 |[]=>by simp[fU,af]
 |t::l=>by
  have h1:=XZ (x:=x) (u:=u) t;have h2:=D_ (x:=x) (u:=u) l;simp only[fU,cM,af,Nat.add_mul]at h2⊢;omega
end
theorem Uf{φ:Fm->Fm}{U:Nat}:∀(s:List Fm),(∀g∈s,ag (φ g)<=ag g*U)->ah (s.map φ)<=ah s*U
 |[],_=>by simp[ah]
 |g::s,h=>by
  have h1:=h g (fT ..);have h2:=Uf s (fun g hg=>h g (fS _ hg));simp only[cM,ah,Nat.add_mul];omega
theorem yN:∀(k:Nat)(f:Fm)(x:aj)(u:Tm),iV f=true->il f=true->a_ f<=k->ag (h_ k x u f)<=ag f*ap u
 |0,f,x,u,hw,hq,hd=>by have:=oB f;omega
 |k+1,.mk o n a s,x,u,hw,hq1,hd=>by
  have hu:=ln u;have qnc:=();exact qaW
theorem yO(hf:dx f)(hu:dV u):cJ (gQ x u f):=by
 have h1:=hf.nodes;have h2:=hu.2;have h3:=yN (a_ f) f x u hf.wf hf.qone (aK _);have h4:ag f*ap u<=400*1000:=Nat.mul_le_mul h1 h2;exact⟨by unfold gQ;omega,rN _ f x u hf.wf hf.qone (aK _) (by omega) hf.fit.2 hu.fit.2⟩
theorem Bs:∀(p:List Nat)(l:List Tm)(t:Tm),kP l p=some t->ap t<=af l
 |[],l,t,h=>by cases l<;>simp[kP]at h
 |[i],l,t,h=>by
  simp only[kP]at h;exact i8 (List.mem_of_getElem? h)
 |i::j::r,l,t,h=>by
  simp only[kP]at h
  cases hi:l[i]? with
  |none=>rw[hi]at h;cases h
  |some u=>
   rw[hi]at h;have h1:=Bs (j::r) u.a t h;have h2:=i8 (List.mem_of_getElem? hi);obtain⟨v,n,a⟩:=u;simp only[Tm.a]at h1;simp only[ap]at h2;omega
theorem Bt:∀(p:List Nat)(f:Fm)(ins:List aj)(g:Fm)(u_:List aj),ls f p ins=some (g,u_)->ag g<=ag f
 |[],f,ins,g,u_,h=>by simp only[ls,dn,Prod.mk.injEq]at h;rw[h.1];exact aK _
 |i::r,f,ins,g,u_,h=>by
  simp only[ls]at h
  cases hi:f.s[i]? with
  |none=>rw[hi]at h;cases h
  |some u=>
   rw[hi]at h;have h1:=Bt r u _ g u_ h;have h2:=i9 (List.mem_of_getElem? hi);obtain⟨o,n,a,s⟩:=f;simp only[Fm.s]at h2;simp only[ag];omega
theorem N7(g:Fm):af g.a<=ag g:=by
 obtain⟨o,n,a,s⟩:=g;simp only[Fm.a,ag];omega
theorem Lp(h:fG f im x=some t):ap t<=ag im:=by
 unfold fG at h;split at h
 ·cases h
 ·split at h
  ·cases h
  ·rename_i hw;split at h
   ·cases h
   ·rename_i Kr;split at h
    ·cases h
    ·cases h;have h1:=Bt _ _ _ _ _ hw;have h2:=Bs _ _ _ Kr;exact aR h2 (aR (N7 _) h1)
theorem Ea(hok:gF false (bI im)=true)(hn:ag im<=400)(h:fG f im x=some t):dV t:=⟨KR hok h,by have:=Lp h;omega⟩
theorem Eb(hp:mr p)(h:f9 p.c [] p.f=some im):dx im:=GR hp h
theorem Hj(hp:mr p)(ht:t∈p.f.a)(h:iO p.c [] t=some u):dV u:=by
 obtain⟨s,⟨o,n,a,l⟩,c⟩:=p;have hf:=hp.f;have hn:=hp.n;simp only[Fm.a]at ht;simp only[gF,ak]at hf;simp only[ag]at hn;obtain⟨i,hi,rfl⟩:=List.getElem_of_mem ht;have h1:=tG a i _ hf.2.2.2.1 (jn hi);obtain⟨h2,h3,_⟩:=yh hp.c [] _ _ h1 h;have h4:=i8 (aH hi);exact⟨h2,by omega⟩
def fL(f:Fm):Nat:=ag f
theorem yP(o:Int)(n:aj)(a:List Tm)(s:List Fm):∀t∈s,fL t+1<=fL (.mk o n a s):=fun t ht=>by
 have:=i9 ht;simp only[fL,ag];omega
theorem Hk(c:gO)(o o':Int)(n n':aj)(a a':List Tm)(s s':List Fm):cI c (.mk o n a s) (.mk o' n' a' s')=((o==o'&&(a.length==a'.length&&s.length==s'.length))&&((n==n'||br o)&&(ct c a a'&&cX (if br o then(n,n')::c else c) s s'))):=by
 rw[cI]
theorem Rk:(prog.info? 213).map (fun i=>(i.zero,i.size,i.bytes))=some (some (.agg #[.string ByteArray.empty,.string ByteArray.empty]),2,32):=by kernel_rfl
def zfk(t:Fm):Prop:=∀(u:Fm)(ps:List (aj×aj))(v:Value)(ok ok':Nat->Prop)(w:World)(q q':FQ),ps.length+fL t<=1000000000->cJ t->aC ok w q.val t->aC ok' w q'.val u->cw w v ps→
 Calls prog 92 #[q.val,q'.val,v] w fun e w'=>e=.returned (.bool (cI ps.reverse t u))/\Below w.heap.size w w'
theorem yQ:∀t,zfk t:=by
 obtain⟨i0,hi,oO,jv,iG⟩:=info_parts Rk;intro t
 induction t using Fm.ind with
 |h uo xn xa xs ih=>
 intro u ps v ok ok' w q q' hps hf hq gY hp;have qnd:=();exact qe0
section
attribute [local go_sem] Oper.semAt_some
structure PlV(M:Nat->Prop)(W:World)(q:gd)(ps:List (aj×aj))(p:Pl):Prop where
 s:aC (fun b=>¬M b) W q.s.val p.s
 f:aC (fun b=>¬M b) W q.f.val p.f
 c:nK M W (.slice q.a q.l q.c) ps
 e:p.c=ps.reverse
 l:ps.length<=1000000
def N2(mF mT:Nat):Nat->Prop:=fun b=>b=mF\/b=mT
theorem Kp.two{X Y:World}(h:Kp (N2 mF mT) X Y)(hF:M mF)(hT:M mT):Kp M X Y:=h.mono (fun b _ hb=>by rcases hb with rfl|rfl;exact hF;exact hT)
def dq(M:Nat->Prop)(kb mF mT nF nT:Nat)(W:World)(r:Bd×Int)(e:Ending)(W':World):Prop:=Kp (N2 mF mT) W W'/\e=.returned (.int .i64 r.2)/\(r.2=0->∃Bv yL,Bv<=nF+1/\yL<=nT+400/\ly (fun b=>¬M b) dx dV W' kb mF mT Bv yL r.1)
theorem dq.bad{r:Bd×Int}{k:Bd}{er:Int}(h:r=(k,er))(h0:er≠0)(hk:Kp (N2 mF mT) W W'):dq M kb mF mT nF nT W r (.returned (.int .i64 er)) W':=by
 subst h;exact⟨hk,rfl,fun h=>absurd h h0⟩
theorem dq.good{r:Bd×Int}{k:Bd}(Bv yL:Nat)(h:r=(k,0))(hk:Kp (N2 mF mT) W W')(h1:Bv<=nF+1)(h2:yL<=nT+400)(h3:ly (fun b=>¬M b) dx dV W' kb mF mT Bv yL k):dq M kb mF mT nF nT W r (.returned (.int .i64 0)) W':=by
 subst h;exact⟨hk,rfl,fun _=>⟨Bv,yL,h1,h2,h3⟩⟩
def _m(W0:World)(fn:Nat)(step:Bd->Pl->Bd×Int):Prop:=
 ∀(M:Nat->Prop)(kb mF mT:Nat),M mF->M mT->¬M kb->(∀b,M b->W0.heap.size<=b)->∀(p:Pl),mr p->ag p.s<=400->∀(W:World)(nF nT:Nat)(k:Bd)(q:gd)(ps:List (aj×aj)),(∀b,M b->b<W.heap.size)->gG W0 W→
  ly (fun b=>¬M b) dx dV W kb mF mT nF nT k->nF<3000000->nT+400<=3000000->PlV M W q ps p→
  Calls prog fn #[.pointer (some ⟨kb,0,none⟩),q.val] W fun e W'=>dq M kb mF mT nF nT W (step k p) e W'
section
variable{F:Fence}{n:Nat}{P:Program}{ops:Array Oper}{Q:Exit->Act->World->Prop}{md:Region.Mode}{S:World->Prop}{e:Nat}
theorem zaC{i:Nat}{oi oj:Oper}{dl:Nat}{listed:Array Bool}{a:Act}{w:World}(hi:ops[i]?=some oi)(hj:ops[j]?=some oj)(hr:Region.ready md ops listed=[i,j])(hwi:Region.wanted oi (yielded ops a.tmps)=true)(X9:Region.wanted oj (yielded ops a.tmps)=true)
  (h1:∀K:Act->World->Prop,(∀a w,(i<e->S w)->((i<e->S w)->ee F n P md ops Q S e dl (listed.setIfInBounds i true) a w)->K a w)->Oper.wpIn F n P oi a w K Q)
  (h2:∀K:Act->World->Prop,(∀a w,(j<e->S w)->((j<e->S w)->ee F n P md ops Q S e dl (listed.setIfInBounds j true) a w)->K a w)->Oper.wpIn F n P oj a w K Q):ee F n P md ops Q S e (dl+1) listed a w:=by
 exact qe1
end
theorem Hl(W:World):js W (.slice none 0 0) []/\∀b,(Value.slice none 0 0).ownBlock=some b->b<W.heap.size:=⟨⟨none,0,rfl,aK _,.inl ⟨rfl,rfl,rfl⟩⟩,fun b h=>by simp[Value.ownBlock]at h⟩
theorem oD(W:World):(zeroValue 36).run prog W=.ok (.agg #[.int .u8 0,.string ⟨#[]⟩,.slice none 0 0,.slice none 0 0]) W:=by kernel_rfl
theorem mr.sc(hp:mr p):∀x∈p.c.map (·.1),x.length<=16:=fun x hx=>ko (hp.c x hx)
theorem mr.ps(hp:mr p){ps:List (aj×aj)}(he:p.c=ps.reverse):∀x∈ps,x.1.length<=2000000:=fun x hx=>by
 have h:=hp.sc x.1 (List.mem_map.2 ⟨x,by rw[he];simpa using hx,rfl⟩);omega
theorem Ls{k:List (aj×Tm)}{a':List Tm}(h:j<a.length)(h':j<a'.length):dB c k (a.drop j) (a'.drop j)=match iO c [] a'[j]with|none=>none|some im=>match dY (c.map (·.1)) k a[j] im with|some k'=>dB c k' (a.drop (j+1)) (a'.drop (j+1))|none=>none:=by
 rw[iL h,iL h',dB];rfl
theorem Lt(k:Bd)(o o':Int)(n n':aj)(a a':List Tm)(s s':List Fm)(c:gO):bc k ⟨.mk o n a s,.mk o' n' a' s',c⟩=
  if o=16 then((k,0):Bd×Int)
  else if o=15 then match f9 c [] (.mk o' n' a' s')with
   |none=>(k,70)
   |some im=>match bG k.fs n with
    |none=>({k with fs:=iB n im k.fs },0)
    |some g=>if cI [] g im=true then(k,(0:Int))else(k,70)
  else if o !=o'||(a.length !=a'.length||(s.length !=s'.length||(n !=n'&& !br o)))then(k,70)
  else match dB c k.ts a a' with
   |none=>(k,70)
   |some ts=>({k with ts:=ts },0):=rfl
structure Cmp(W W1:World)(B5 B6:Nat)(S F:Array Value)(W3:World):Prop where
 s:W3.heap[B5]?=some (.cells S 36 (0,0))
 f:W3.heap[B6]?=some (.cells F 36 (0,0))
 b:Below W1.heap.size W1 W3
 n:B5≠B6
 l:W1.heap.size<=B5/\W1.heap.size<=B6
theorem Cmp.one(W W1:World)(S F:Array Value):Cmp W W1 W1.heap.size (W1.heap.size+1) S F ((W1.alloc (.cells S 36)).alloc (.cells F 36)).drew:=
 ⟨(bZ _ _ _ (by simp)).trans (aq rfl),aq (by simp),(dp.alloc (by simp) _).drew,by omega,by omega,by omega⟩
theorem Cmp.two(W W1:World)(S F:Array Value):Cmp W W1 (W1.heap.size+1) W1.heap.size S F ((W1.alloc (.cells F 36)).alloc (.cells S 36)).drew:=
 ⟨aq (by simp),(bZ _ _ _ (by simp)).trans (aq rfl),(dp.alloc (by simp) _).drew,by omega,by omega,by omega⟩
theorem Lu(W0:World):_m W0 47 bc:=by
 intro M kb mF mT WP WO WQ hM0 p hp uM W nF nT k q ps hMs Ec eR vh tC hpv;obtain⟨⟨o,n,a,s⟩,⟨o',n',a',s'⟩,c⟩:=p;have qne:=();exact qai
