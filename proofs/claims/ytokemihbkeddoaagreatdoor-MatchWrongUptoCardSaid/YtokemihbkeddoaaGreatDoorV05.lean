/-
Rows of pairs of names in memory;a contract of 'alikeTerm' of package match.
-/
import Derived.Test.YtokemihbkeddoaaGreatDoorV04
namespace Go.Proofs.YtokemihbkeddoaaGreatDoor
open Go Go.RowKit Lib
set_option maxRecDepth 100000
set_option maxHeartbeats 64000000
variable {W W' X:World} {v c0 c1 c2 c3:Value} {a:Option Addr} {n c j base g B:Nat} {l ins:List Str} {T:TypeId}
def PairsV (W:World) (v:Value) (ps:List (Str×Str)):Prop:=∃a cap,v=.slice a ps.length cap/\ps.length<=cap/\((ps=[]/\a=none/\cap=0)\/∃b off,a=some ⟨b,off,none⟩/\∀ j (h:j<ps.length),W.cell? ⟨b,off+j * 2,none⟩=some (.string ⟨ps[j].1.toArray⟩)/\W.cell? ⟨b,off+j * 2+1,none⟩=some (.string ⟨ps[j].2.toArray⟩))
theorem PairsV.nil (W:World):PairsV W (.slice none 0 0) []:=⟨none,0,rfl,aF _,.inl ⟨rfl,rfl,rfl⟩⟩
theorem PairsV.later {ps:List (Str×Str)} (h:PairsV W v ps) (hb:Below W.heap.size W W'):PairsV W' v ps:=by
 obtain ⟨a,cap,hv,Jt,h⟩:=h;refine ⟨a,cap,hv,Jt,?_⟩;rcases h with h | ⟨b,off,ha,hc⟩
 ·exact .inl h
 ·exact .inr ⟨b,off,ha,fun j hj=>⟨aa hb (hc j hj).1,aa hb (hc j hj).2⟩⟩
theorem PairsV.get {ps:List (Str×Str)} (h:PairsV W (.slice a n c) ps) (hj:j<ps.length) :
  ∃b off,a=some ⟨b,off,none⟩/\W.cell? ⟨b,off+j * 2,none⟩=some (.string ⟨ps[j].1.toArray⟩)/\W.cell? ⟨b,off+j * 2+1,none⟩=some (.string ⟨ps[j].2.toArray⟩):=by
 exact pm249
theorem PairsV.len {ps:List (Str×Str)} (h:PairsV W (.slice a n c) ps):n=ps.length:=by
 obtain ⟨a',cap,hv,h⟩:=h;injection hv
theorem PairsV.cap {ps:List (Str×Str)} (h:PairsV W (.slice a n c) ps):n<=c:=by
 obtain ⟨a',cap,hv,h,_⟩:=h;injection hv with _ h1 h2;omega
theorem PairsV.cases {ps:List (Str×Str)} (h:PairsV W (.slice a n c) ps):(a=none/\n=0/\c=0)\/∃b off,a=some ⟨b,off,none⟩:=by
 obtain ⟨a',cap,hv,_,h⟩:=h;injection hv with h1 h2 h3;subst h1;subst h2;subst h3;rcases h with ⟨rfl,rfl,rfl⟩ | ⟨b,off,rfl,_⟩
 ·exact .inl ⟨rfl,rfl,rfl⟩
 ·exact .inr ⟨b,off,rfl⟩
def hZ:List (Str×Str)->List Value
 | []=>[]
 | p :: l=>.string ⟨p.1.toArray⟩ :: .string ⟨p.2.toArray⟩ :: hZ l
theorem iM:∀ ps,(hZ ps).length=ps.length * 2
 | []=>rfl
 | p :: l=>by simp[hZ,iM l];omega
theorem lM (p:Str×Str):∀ ps,hZ (ps ++ [p])=hZ ps ++ [.string ⟨p.1.toArray⟩,.string ⟨p.2.toArray⟩]
 | []=>rfl
 | q :: l=>by simp[hZ,lM p l]
theorem wg:∀ (ps:List (Str×Str)) (j:Nat) (h:j<ps.length),(hZ ps)[j * 2]?=some (.string ⟨ps[j].1.toArray⟩)/\(hZ ps)[j * 2+1]?=some (.string ⟨ps[j].2.toArray⟩)
 | [],j,h=>by simp at h
 | p :: l,0,h=>by simp[hZ]
 | p :: l,j+1,h=>by
  have:=wg l j (by simpa using h);rw[show (j+1) * 2=j * 2+2 by omega];simpa[hZ] using this
theorem PairsV.olds {b:Addr} {ps:List (Str×Str)} (h:PairsV W (.slice (some b) n c) ps):∀ j u,(hZ ps)[j]?=some u->W.cell? (b.add j)=some u:=by
 intro j u hu;have hj:j<ps.length * 2:=by rw[<-iM];exact (List.getElem?_eq_some_iff.1 hu).1
 have hd:j / 2<ps.length:=by omega
 obtain ⟨b',off,hb,h0,h1⟩:=h.get hd;obtain rfl:b=⟨b',off,none⟩:=by injection hb
 have hf:=wg ps (j / 2) hd;have zct:∀ k,Addr.add ⟨b',off,none⟩ k=⟨b',off+k,none⟩:=fun k=>Addr.add_lit _ _ _;rw[zct];rcases Nat.mod_two_eq_zero_or_one j with hm | hm
 ·have e:j / 2 * 2=j:=by omega
  rw[e]at hf h0;rw[hf.1]at hu;rw[h0,<-hu]
 ·have e:j / 2 * 2+1=j:=by omega
  rw[e]at hf;rw[Nat.add_assoc,e]at h1;rw[hf.2]at hu;rw[h1,<-hu]
theorem PairsV.own {e:TypeId} {ps:List (Str×Str)} (h:W.ownsRow base e 2 (.slice (some ⟨g,0,none⟩) n c) n (hZ ps)):PairsV W (.slice (some ⟨g,0,none⟩) n c) ps:=by
 have pp168b:=();exact pm168
section
variable {F:Fence} {k:Nat} {P:Program} {Q:Exit->Act->World->Prop}
theorem iN {o:Oper} {a:Act} {w:World} {K:Act->World->Prop} (s x:Operand) (t:TypeId)
  (ho:o.op=.call { callee:=.builtin .append,args:=#[s,x],argTypes:=#[t,t] })
  (e:TypeId) (i:TypeInfo) (z:Value) (size bytes:Nat) (ht:P.underlying t=some (.slice e)) (hi:P.info? e=some i) (hz:i.zero=some z)
  (Lk:i.size=size) (hby:i.bytes=bytes) (hzs:z.cells.size=size) (hsz:0<size)
  (v:Value) (n:Nat) (olds:List Value) (hs:a.eval s=v)
  (hv:(v=.slice none 0 0/\n=0/\olds=[])\/∃b,v=.slice (some b) n n/\olds.length=n * size/\∀ j u,olds[j]?=some u->w.cell? (b.add j)=some u)
  (ad:Addr) (m c:Nat) (vV:List Value) (hx:a.eval x=.slice (some ad) m c) (hl:vV.length=m * size) (Ll:∀ j u,vV[j]?=some u->w.cell? (ad.add j)=some u) (h1:∀ u∈vV,u.oneCell'=true)
  (hm:0<m) (h63:n+m<=maxLen) (D_:(n+m) * bytes<=140737488355328)
  (h:∀ g cap w',w'.ownsRow w.heap.size e size (.slice (some ⟨g,0,none⟩) (n+m) cap) (n+m) (olds ++ vV)->w.grownBy w' none->K (a.put o.dst (.slice (some ⟨g,0,none⟩) (n+m) cap)) w'):o.wpIn F k P a w K Q:=by
 have hr:∃g cap w',(Builtin.append_ #[t,t] o.type #[v,.slice (some ad) m c]).run P w=.ok (.slice (some ⟨g,0,none⟩) (n+m) cap) w'/\w'.ownsRow w.heap.size e size (.slice (some ⟨g,0,none⟩) (n+m) cap) (n+m) (olds ++ vV)/\w.grownBy w' none:=by
  rcases hv with ⟨rfl,rfl,rfl⟩ | ⟨b,rfl,hlo,holds⟩
  ·obtain ⟨g,cap,w',hr,h2,h3,_,_⟩:=run_append_lies (P:=P) w t o.type w.heap.size e i z size bytes ht hi hz Lk hby hzs hsz (.slice none 0 0) 0 [] (World.ownsRow_nil _ _ _ _) ad m c vV hl Ll h1 hm h63 D_ (aF _) _ rfl;exact ⟨g,cap,w',hr,h2,h3⟩
  ·obtain ⟨v',w',hr,h2,h3⟩:=run_append_arg_grows (P:=P) w t o.type e i z size bytes ht hi hz Lk hby hzs hsz b n n olds hlo holds ad m c vV hl Ll (by omega) h63 D_;obtain ⟨g,cap,rfl,_,_⟩:=h2.form (by omega);exact ⟨g,cap,w',hr,h2,h3⟩
 obtain ⟨g,cap,w',hr,h2,h3⟩:=hr;unfold Oper.wpIn;refine ⟨?_,?_⟩
 ·simp[Oper.about,ho,resolve,Target.leads,Sem.run_pure]
 ·rw[Oper.semAt_plain F _ _ (by rw[ho];intro c hc';cases hc')];simp[execOp,ho,resolve,invoke,builtin,hs,hx,hr,Result.andThen];exact h g cap w' h2 h3
end
theorem Pe {ps:List (Str×Str)} (h:j<ps.length):(ps.take (j+1)).reverse=ps[j] :: (ps.take j).reverse:=by
 rw[mQ h];simp
theorem ke {c:Sco} {l m:List Tm} {k:Nat} (hl:k<l.length) (hm:k<m.length):dH c (l.drop k) (m.drop k)=(mf c l[k] m[k] && dH c (l.drop (k+1)) (m.drop (k+1))):=by
 rw[fN hl,fN hm,dH]
theorem oS {c:Sco} {l m:List Fm} {k:Nat} (hl:k<l.length) (hm:k<m.length):ee c (l.drop k) (m.drop k)=(eB c l[k] m[k] && ee c (l.drop (k+1)) (m.drop (k+1))):=by
 rw[fN hl,fN hm,ee]
def sd (c:Sco) (x y:Str):Option Bool:=if c.any (fun p=>p.1 == x || p.2 == y) then some (D2 c x y) else none
theorem MP (x y:Str):sd [] x y=none:=rfl
theorem Ju (p:Str×Str) (c:Sco) (x y:Str):sd (p :: c) x y=if p.1 == x || p.2 == y then some (p.1 == x && p.2 == y) else sd c x y:=by
 unfold sd;simp only[List.any_cons,D2]
 by_cases h:(p.1 == x || p.2 == y)=true
 ·simp only[h,Bool.true_or,if_true]
 ·rw[Bool.not_eq_true]at h;simp only[h,Bool.false_or,bZ,if_false]
theorem MQ (c:Sco) (v v':Bool) (n n':Str) (a a':List Tm):mf c (.mk v n a) (.mk v' n' a')=((v == v' && a.length == a'.length) && (match (if v then sd c n n' else none) with | some b=>b | none=>n == n' && dH c a a')):=by
 rw[mf];unfold sd;cases v
 ·simp
 ·cases h:c.any (fun p=>p.1 == n || p.2 == n') <;> simp
def zcu (t:Tm):Prop:=∀ (u:Tm) (ps:List (Str×Str)) (v:Value) (ok ok':Nat->Prop) (w:World) (q q':TQ),ps.length<=1000000000->fitT t->TermV ok w q.val t->TermV ok' w q'.val u->PairsV w v ps →
 Calls Tryz.prog 160 #[q.val,q'.val,v] w fun e w'=>e=.returned (.bool (mf ps.reverse t u))/\Below w.heap.size w w'
theorem zA:∀ t,zcu t:=by
 intro t
 induction t using Tm.ind with
 | h xv xn xa ih=>
 intro u ps v ok ok' w q q' iF hf hq oy hp;have pp215:=();exact pm215
section
attribute [local go_sem] Oper.semAt_some
structure PlQ where
 s:FQ
 f:FQ
 a:Option Addr
 l:Nat
 c:Nat
def PlQ.cells (q:PlQ):Array Value:=#[.int .u8 q.s.o,.string q.s.n,.slice q.s.a q.s.l q.s.c,.slice q.s.b q.s.m q.s.e,.int .u8 q.f.o,.string q.f.n,.slice q.f.a q.f.l q.f.c,.slice q.f.b q.f.m q.f.e,.slice q.a q.l q.c]
def PlQ.val (q:PlQ):Value:=.agg q.cells
def xd (ps:List (Str×Str)) (x:Str) (k:Nat):Option Str:=e7.go x (ps.take k).reverse ((ps.drop k).map (·.1))
theorem MR (ps:List (Str×Str)) (x:Str):xd ps x ps.length=e7 ps.reverse x:=by
 unfold xd e7;rw[cO,List.drop_length];rfl
theorem Jz (ps:List (Str×Str)) (x:Str):xd ps x 0=some x:=by simp[xd,e7.go]
theorem JA {ps:List (Str×Str)} {x:Str} {k:Nat} (h:k<ps.length):xd ps x (k+1)=if ps[k].2 == x then (if ((ps.drop (k+1)).map (·.1)).contains ps[k].1 then none else some (cM ps[k].1)) else xd ps x k:=by
 unfold xd;rw[mQ h,List.reverse_append,List.reverse_singleton,List.singleton_append];have hd:(ps.drop k).map (·.1)=ps[k].1 :: (ps.drop (k+1)).map (·.1):=by rw[fN h];rfl
 rw[hd];obtain ⟨⟨s,a⟩,hsa⟩:∃p,p=ps[k]:=⟨_,rfl⟩;rw[<-hsa];rfl
theorem BP (q:PlQ) (ps:List (Str×Str)) (lJ:ps.length<=1000000) (iF:∀ p∈ps,p.1.length<=2000000) (x:Str) (w:World) (hv:PairsV w (.slice q.a q.l q.c) ps) :
  Calls Tryz.prog 161 #[q.val,.string ⟨x.toArray⟩] w fun e w'=>e=.returned (.tuple #[.string ⟨((e7 ps.reverse x).getD []).toArray⟩,.bool (e7 ps.reverse x).isSome])/\Below w.heap.size w w':=by
 obtain ⟨⟨so,sn,sa,sl,sc,sb,sm,se⟩,⟨fo,fn,fa,fl,fc,fb,fm,fe⟩,qa,ql,qc⟩:=q;obtain rfl:=hv.len;obtain ⟨R,hR⟩:=ao (e7 ps.reverse x);rw[<-hR];rw[<-MR]at hR;obtain ⟨k0,cg⟩:=ao ps.length;rw[<-cg]at lJ hR;simp only at hv;have Jt:=hv.cap;obtain ⟨Zm,HV⟩:=aZ iF hv;rw[<-cg]at Jt;unfold PlQ.val PlQ.cells;simp only;rw[<-cg];obtain ⟨HR,dJ⟩:=aZ hR cg;obtain ⟨W1,bR⟩:=ao (w.alloc (.cells #[.int .u8 so,.string sn,.slice sa sl sc,.slice sb sm se,.int .u8 fo,.string fn,.slice fa fl fc,.slice fb fm fe,.slice qa k0 qc] 89));have hb1:=cX bR;have tP:=bX bR;obtain ⟨iW,dO,jI⟩:=cD bR hb1 tP;clear cg hR iF hv bR hb1 tP;go_enter Tryz.func161,Tryz.ntmps161;go_wp2;rw[<-iW.o];go_loopw [6] (fun i wr=>∃k:Nat,k<=k0/\i=.int .i64 ((k:Int) - 1)/\Below W1.heap.size W1 wr/\R=xd ps x k) (fun i _=>(intOf i+1).toNat)
 case atStart=>exact ⟨k0,aF _,rfl,ak _ _,HR.o⟩
 case round=>
  obtain ⟨k,hk,rfl,ar,ht⟩:=hrel;obtain ⟨wo,JB⟩:=ao wr;subst JB;have b1:=bT ar jI.o
  cases k with
  | zero=>
   have HE:=ab (show R=some x by rw[ht,Jz]);have HB:=ab (dO.o.tr ar);have hd0:decide ((0:Int)<=((0:Nat):Int) - 1)=false:=by simp
   clear ar ht b1;go_wp2;refine bI (v:=.tuple #[.string ⟨x.toArray⟩,.bool true]) (by simp[results,Tryz.results161,go_sem]) rfl ⟨by rw[HE.o];rfl,HB.o⟩
  | succ j=>
   have lC:j<ps.length:=by rw[<-dJ.o];omega
   obtain ⟨b,off,rfl,c0,c1⟩:=HV.o.get lC;rw[JA lC]at ht;obtain ⟨s,hs⟩:=ao (ps[j].1);obtain ⟨a,ha⟩:=ao (ps[j].2);rw[<-hs,<-ha]at ht;rw[<-hs]at c0;rw[<-ha]at c1;have hsl:s.length<=2000000:=by rw[hs];exact Zm.o _ (az lC)
   have d0:=aa (dO.o.tr ar) c0;have d1:=aa (dO.o.tr ar) c1;have x8:=ah b1 8;have Zd:(((j+1:Nat):Int) - 1)=(j:Int):=by omega
   have bF:Below wo.heap.size wo (wo.alloc (.cells #[.string ⟨s.toArray⟩,.string ⟨a.toArray⟩] 213)):=cQ;have y8:=aa bF x8;have hy:=aj (w:=wo) (o:=.cells #[.string ⟨s.toArray⟩,.string ⟨a.toArray⟩] 213) rfl;have y0:(wo.alloc (.cells #[.string ⟨s.toArray⟩,.string ⟨a.toArray⟩] 213)).cell? ⟨wo.heap.size,0,none⟩=some (.string ⟨s.toArray⟩):=ah hy 0;have y1:(wo.alloc (.cells #[.string ⟨s.toArray⟩,.string ⟨a.toArray⟩] 213)).cell? ⟨wo.heap.size,1,none⟩=some (.string ⟨a.toArray⟩):=ah hy 1;have cJ:=ab (ar.tr bF);have HY:=ab hy;rw[Zd];have IJ:(j:Int)<(k0:Int):=by omega
   by_cases hax:a=x
   ·subst hax;simp only[beq_self_eq_true,if_true]at ht;have HT:=ab ht;obtain ⟨r0,hr0⟩:=ao (k0 - (j+1));have BR:j+1<=k0:=by omega
    obtain ⟨Zn,HSl⟩:=aZ hr0 hsl;clear ht ar b1 c0 c1 hs ha bF hy hsl;go_wp2
    all_goals (
     rw[<-Zn.o];go_loopw [33] (fun i wr=>∃q:Nat,q<=r0/\i=.int .i64 q/\Below (wo.alloc (.cells #[.string ⟨s.toArray⟩,.string ⟨a.toArray⟩] 213)).heap.size (wo.alloc (.cells #[.string ⟨s.toArray⟩,.string ⟨a.toArray⟩] 213)) wr/\∀ p (hp:p<ps.length),j+1<=p->p<j+1+q->ps[p].1≠s) (fun i _=>r0 - (intOf i).toNat)
     case atStart=>exact ⟨0,by omega,rfl,ak _ _,fun p hp h1 h2=>by omega⟩
     case round=>
      obtain ⟨q,hq,rfl,fp,jD⟩:=hrel;have z0:=aa fp y0
      by_cases hlt:q<r0
      ·have zeD:=Zn.o
       first
       | omega
       | (have lJ:j+1+q<ps.length:=by have:=dJ.o;have:=Zn.o;omega
          obtain ⟨b',nh,cK,e0,e1⟩:=HV.o.get lJ;cases cK;obtain ⟨s2,lg⟩:=ao (ps[j+1+q].1);obtain ⟨a2,ha2⟩:=ao (ps[j+1+q].2);rw[<-lg]at e0;rw[<-ha2]at e1;have nl:=(dO.o.tr cJ.o).tr fp;obtain ⟨f0,f1⟩:=yR nl e0 e1;have Wm:off+(j+1+q) * 2=off+(j+1) * 2+q * 2:=by omega
          rw[Wm]at f0 f1;have aJ:Below wr.heap.size wr (wr.alloc (.cells #[.string ⟨s2.toArray⟩,.string ⟨a2.toArray⟩] 213)):=cQ;have z1:=aa aJ z0;have sU:=ab (fp.tr aJ)
          by_cases Pg:s2=s
          ·have HE:=ab (show R=none by
            rw[HT.o,aX];simp only[List.contains_iff_mem,List.mem_map];refine ⟨ps[j+1+q],List.mem_iff_getElem.2 ⟨q,by rw[List.length_drop];omega,by rw[List.getElem_drop]⟩,by rw[<-Pg,lg]⟩)
           subst Pg;clear fp jD nl Wm aJ e0 e1 lg ha2;go_wp2;refine bI (v:=.tuple #[.string ⟨#[]⟩,.bool false]) (by simp[results,Tryz.results161,go_sem]) rfl ⟨by rw[HE.o];rfl,(dO.o.tr cJ.o).tr sU.o⟩
          ·have xf:(s2 == s)=false:=by simpa using Pg
           have HN:=ab (show ∀ p (hp:p<ps.length),j+1<=p->p<j+1+(q+1)->ps[p].1≠s from fun p hp h1 h2=>by
            by_cases e:p=j+1+q
            ·subst e;rw[<-lg];exact Pg
            ·exact jD p hp h1 (by omega))
           clear fp jD nl Wm aJ e0 e1 lg ha2;go_wp2;go_roundw
           case rel=>exact ⟨q+1,by omega,by go_num,sU.o,HN.o⟩
           case measure=>simp[intOf];omega)
      ·obtain rfl:q=r0:=by omega
       have HE:=ab (show R=some (cM s) by
        rw[HT.o,aD];simp only[List.contains_iff_mem,List.mem_map];rintro ⟨p,hp,rfl⟩;obtain ⟨i,hi,rfl⟩:=List.mem_iff_getElem.1 hp;rw[List.length_drop]at hi;rw[List.getElem_drop]at jD;exact jD (j+1+i) (by omega) (by omega) (by have:=dJ.o;have:=Zn.o;omega) rfl)
       have CH:=eY s wr (by have:=HSl.o;omega);obtain ⟨Wn,sU⟩:=aZ CH fp;clear fp jD CH;go_wp2_with (go_at_call 130;refine Wn.o.mono ?_;rintro e w5 ⟨rfl,rfl⟩);refine bI (v:=.tuple #[.string ⟨(cM s).toArray⟩,.bool true]) (by simp[results,Tryz.results161,go_sem]) rfl ⟨by rw[HE.o];rfl,(dO.o.tr cJ.o).tr sU.o⟩)
   ·have Bv:(a == x)=false:=by simpa using hax
    simp only[Bv,bZ,if_false]at ht;have HT:=ab ht;clear ht ar b1 c0 c1 hs ha bF hy hsl;go_wp2;go_roundw
    case rel=>exact ⟨j,by omega,by go_num,cJ.o,HT.o⟩
    case measure=>simp[intOf]
theorem pH {c:Sco} {l:List Tm} {k:Nat} (h:k<l.length):g9 c ins (l.take (k+1))=match g9 c ins (l.take k),lD c ins l[k] with | some us,some u=>some (us ++ [u]) | _,_=>none:=by
 induction l generalizing k with
 | nil=>simp at h
 | cons t l ih=>
  cases k with
  | zero=>
   simp only[List.take_succ_cons,List.take_zero,List.getElem_cons_zero,g9];cases lD c ins t <;> rfl
  | succ k=>
   have:=ih (k:=k) (by simpa using h);simp only[List.take_succ_cons,List.getElem_cons_succ,g9];rw[this];cases lD c ins t <;> cases g9 c ins (l.take k) <;> cases lD c ins (l[k]'(by simpa using h)) <;> rfl
theorem zC {c:Sco} {l:List Tm} {t:Tm} (ht:t∈l) (h:lD c ins t=none):g9 c ins l=none:=by
 induction l with
 | nil=>cases ht
 | cons u l ih=>
  rcases dw.1 ht with rfl | ht
  ·simp[g9,h]
  ·simp only[g9,ih ht];cases lD c ins u <;> rfl
theorem ir {q:PlQ} (h:W.heap[B]?=some (.cells q.cells T (0,0))) :
  W.cell? ⟨B,0,none⟩=some (.int .u8 q.s.o)/\W.cell? ⟨B,1,none⟩=some (.string q.s.n)/\W.cell? ⟨B,2,none⟩=some (.slice q.s.a q.s.l q.s.c)/\W.cell? ⟨B,3,none⟩=some (.slice q.s.b q.s.m q.s.e)/\W.cell? ⟨B,4,none⟩=some (.int .u8 q.f.o)/\W.cell? ⟨B,5,none⟩=some (.string q.f.n)/\W.cell? ⟨B,6,none⟩=some (.slice q.f.a q.f.l q.f.c)/\W.cell? ⟨B,7,none⟩=some (.slice q.f.b q.f.m q.f.e)/\W.cell? ⟨B,8,none⟩=some (.slice q.a q.l q.c):=
 ⟨ah h 0,ah h 1,ah h 2,ah h 3,ah h 4,ah h 5,ah h 6,ah h 7,ah h 8⟩
theorem ui (hx:X.heap[B]?=some (.cells #[c0,c1,c2] T (0,0))) (v0 v1 v2:Value):∃W6,W6=((X.setCell ⟨B,0,none⟩ v0).setCell ⟨B,1,none⟩ v1).setCell ⟨B,2,none⟩ v2/\W6.heap[B]?=some (.cells #[v0,v1,v2] T (0,0))/\Kp (fun b=>b=B) X W6/\W6.cell? ⟨B,0,none⟩=some v0/\W6.cell? ⟨B,1,none⟩=some v1/\W6.cell? ⟨B,2,none⟩=some v2:=
 have h:=qt (v0:=v0) (v1:=v1) (v2:=v2) hx
 ⟨_,rfl,h,eF,ah h 0,ah h 1,ah h 2⟩
theorem fX (hx:X.heap[B]?=some (.cells #[c0,c1,c2] T (0,0))):X.cell? ⟨B,0,none⟩=some c0/\X.cell? ⟨B,1,none⟩=some c1/\X.cell? ⟨B,2,none⟩=some c2/\X.frozen? ⟨B,0,none⟩=false/\X.frozen? ⟨B,1,none⟩=false/\X.frozen? ⟨B,2,none⟩=false:=
 ⟨ah hx 0,ah hx 1,ah hx 2,ac hx 0,ac hx 1,ac hx 2⟩
theorem sf (q:PlQ) (ps:List (Str×Str)) (lJ:ps.length<=1000000) (iF:∀ p∈ps,p.1.length<=2000000) (L ins:List Str) (hL:L.length<=2000000) (Ph:∀ y,L.contains y=ins.contains y) (okL:Nat->Prop) (vL:Value) :
  ∀ (t:Tm),fitT t->∀ (ok:Nat->Prop) (w:World) (tq:TQ),PairsV w (.slice q.a q.l q.c) ps->StrsO okL w vL L->TermV ok w tq.val t →
  Calls Tryz.prog 94 #[q.val,tq.val,vL] w fun e w'=>(∃p:TQ,e=.returned (.tuple #[p.val,.bool (lD ps.reverse ins t).isSome])/\∀ u,lD ps.reverse ins t=some u->TermV (w.heap.size<=·) w' p.val u)/\Below w.heap.size w w':=by
 obtain ⟨i0,hi,pF,iq,gV⟩:=info_parts gN;have Di:=cC lJ iF hL Ph;clear lJ iF hL Ph;have pp166a:=();exact pm166
theorem pI {c:Sco} {l:List Fm} {k:Nat} (h:k<l.length):jn c ins (l.take (k+1))=match jn c ins (l.take k),kv c ins l[k] with | some us,some u=>some (us ++ [u]) | _,_=>none:=by
 induction l generalizing k with
 | nil=>simp at h
 | cons t l ih=>
  cases k with
  | zero=>
   simp only[List.take_succ_cons,List.take_zero,List.getElem_cons_zero,jn];cases kv c ins t <;> rfl
  | succ k=>
   have:=ih (k:=k) (by simpa using h);simp only[List.take_succ_cons,List.getElem_cons_succ,jn];rw[this];cases kv c ins t <;> cases jn c ins (l.take k) <;> cases kv c ins (l[k]'(by simpa using h)) <;> rfl
theorem zH {c:Sco} {l:List Fm} {t:Fm} (ht:t∈l) (h:kv c ins t=none):jn c ins l=none:=by
 induction l with
 | nil=>cases ht
 | cons u l ih=>
  rcases dw.1 ht with rfl | ht
  ·simp[jn,h]
  ·simp only[jn,ih ht];cases kv c ins u <;> rfl
theorem BV (hx:X.heap[B]?=some (.cells #[c0,c1,c2,c3] T (0,0))) (v0 v1 v2 v3:Value):∃W6,W6=(((X.setCell ⟨B,0,none⟩ v0).setCell ⟨B,1,none⟩ v1).setCell ⟨B,2,none⟩ v2).setCell ⟨B,3,none⟩ v3/\W6.heap[B]?=some (.cells #[v0,v1,v2,v3] T (0,0))/\Kp (fun b=>b=B) X W6/\W6.cell? ⟨B,0,none⟩=some v0/\W6.cell? ⟨B,1,none⟩=some v1/\W6.cell? ⟨B,2,none⟩=some v2/\W6.cell? ⟨B,3,none⟩=some v3:=
 have h:=lm (v0:=v0) (v1:=v1) (v2:=v2) (v3:=v3) hx
 ⟨_,rfl,h,dI,ah h 0,ah h 1,ah h 2,ah h 3⟩
theorem dh (hx:X.heap[B]?=some (.cells #[c0,c1,c2,c3] T (0,0))):X.cell? ⟨B,0,none⟩=some c0/\X.cell? ⟨B,1,none⟩=some c1/\X.cell? ⟨B,2,none⟩=some c2/\X.cell? ⟨B,3,none⟩=some c3/\X.frozen? ⟨B,0,none⟩=false/\X.frozen? ⟨B,1,none⟩=false/\X.frozen? ⟨B,2,none⟩=false/\X.frozen? ⟨B,3,none⟩=false:=
 ⟨ah hx 0,ah hx 1,ah hx 2,ah hx 3,ac hx 0,ac hx 1,ac hx 2,ac hx 3⟩
def StrsN (W:World) (v:Value) (l:List Str):Prop:=∃a cap,v=.slice a l.length cap/\l.length<=cap/\((l=[]/\a=none/\cap=0)\/∃b off,a=some ⟨b,off,none⟩/\∀ j (h:j<l.length),W.cell? ⟨b,off+j,none⟩=some (.string ⟨l[j].toArray⟩))
theorem StrsN.strs (h:StrsN W v l):StrsO (fun _=>True) W v l:=by
 have pp235c:=();exact pm235
theorem StrsN.later (h:StrsN W v l) (hb:Below W.heap.size W W'):StrsN W' v l:=by
 exact pm114
def StrsN.Far (v:Value) (M:Nat->Prop):Prop:=∀ b,v.ownBlock=some b->¬M b
theorem StrsN.kp {M:Nat->Prop} (h:StrsN W v l) (hk:Kp M W W') (hf:StrsN.Far v M):StrsN W' v l:=by
 have pp235d:=();exact pm235
theorem StrsN.old (h:StrsN W v l) (hl:l≠[]):∀ b,v.ownBlock=some b->b<W.heap.size:=by
 obtain ⟨a,cap,rfl,hc,h⟩:=h;rcases h with ⟨h,_⟩ | ⟨b,off,rfl,h⟩
 ·exact absurd h hl
 ·intro b' hb;cases hb;exact World.block_lt_of_cell? W _ (h 0 (ie.2 hl))
theorem StrsN.nil (W:World):StrsN W (.slice none 0 0) []:=⟨none,0,rfl,aF _,.inl ⟨rfl,rfl,rfl⟩⟩
theorem StrsN.own (h:W.ownsRow base 9 1 (.slice (some ⟨g,0,none⟩) n c) n (l.map encStr)):StrsN W (.slice (some ⟨g,0,none⟩) n c) l:=by
 have hl:n=l.length:=by have:=h.1;simp at this;omega
 subst hl;obtain ⟨a,cap,hv,hc,h⟩:=OwnS.strs (lo:=base) h;injection hv with h1 _ h3;subst h3;refine ⟨_,_,rfl,hc,.inr ⟨g,0,rfl,fun j hj=>?_⟩⟩;rcases h with rfl | ⟨b,off,ha,_,hcl⟩
 ·simp at hj
 ·rw[ha]at h1;injection h1 with h1;injection h1 with h1 h2;subst h1;subst h2;exact hcl j hj
theorem Dj (q:PlQ) (ps:List (Str×Str)) (lJ:ps.length<=1000000) (iF:∀ p∈ps,p.1.length<=2000000) :
  ∀ (f:Fm),fitF f->∀ (L ins:List Str),L.length+nodesF f<=2000000->(∀ y,L.contains y=ins.contains y)->∀ (vL:Value) (ok:Nat->Prop) (w:World) (fq:FQ),PairsV w (.slice q.a q.l q.c) ps->(StrsN w vL L/\∀ b,vL.ownBlock=some b->b<w.heap.size)->FormV ok w fq.val f →
  Calls Tryz.prog 91 #[q.val,fq.val,vL] w fun e w'=>(∃p:FQ,e=.returned (.tuple #[p.val,.bool (kv ps.reverse ins f).isSome])/\∀ u,kv ps.reverse ins f=some u->FormV (w.heap.size<=·) w' p.val u)/\Below w.heap.size w w':=by
 have pp159b:=();exact pm159
