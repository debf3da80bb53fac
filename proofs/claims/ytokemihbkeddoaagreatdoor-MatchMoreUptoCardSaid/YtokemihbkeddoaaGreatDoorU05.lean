/-
Rows of pairs of names in memory;a contract of 'alikeTerm' of package match.
-/
import Derived.Test.YtokemihbkeddoaaGreatDoorU04
namespace Go.Proofs.YtokemihbkeddoaaGreatDoor
open Go Go.RowKit Lib
set_option maxRecDepth 100000
set_option maxHeartbeats 64000000
variable {W W' X:World} {v c0 c1 c2 c3:Value} {a:Option Addr} {n c j base g B:Nat} {l ins:List Str} {T:TypeId}
def PairsV (W:World) (v:Value) (ps:List (Str×Str)):Prop:=∃a cap,v=.slice a ps.length cap/\ps.length<=cap/\((ps=[]/\a=none/\cap=0)\/∃b off,a=some ⟨b,off,none⟩/\∀ j (h:j<ps.length),W.cell? ⟨b,off+j * 2,none⟩=some (.string ⟨ps[j].1.toArray⟩)/\W.cell? ⟨b,off+j * 2+1,none⟩=some (.string ⟨ps[j].2.toArray⟩))
theorem PairsV.nil (W:World):PairsV W (.slice none 0 0) []:=⟨none,0,rfl,aI _,.inl ⟨rfl,rfl,rfl⟩⟩
theorem PairsV.later {ps:List (Str×Str)} (h:PairsV W v ps) (hb:Below W.heap.size W W'):PairsV W' v ps:=by
 obtain ⟨a,cap,hv,DV,h⟩:=h;refine ⟨a,cap,hv,DV,?_⟩;rcases h with h | ⟨b,off,ha,hc⟩
 ·exact .inl h
 ·exact .inr ⟨b,off,ha,fun j hj=>⟨aa hb (hc j hj).1,aa hb (hc j hj).2⟩⟩
theorem PairsV.get {ps:List (Str×Str)} (h:PairsV W (.slice a n c) ps) (hj:j<ps.length) :
  ∃b off,a=some ⟨b,off,none⟩/\W.cell? ⟨b,off+j * 2,none⟩=some (.string ⟨ps[j].1.toArray⟩)/\W.cell? ⟨b,off+j * 2+1,none⟩=some (.string ⟨ps[j].2.toArray⟩):=by
 exact pm245
theorem PairsV.len {ps:List (Str×Str)} (h:PairsV W (.slice a n c) ps):n=ps.length:=by
 obtain ⟨a',cap,hv,h⟩:=h;injection hv
theorem PairsV.cap {ps:List (Str×Str)} (h:PairsV W (.slice a n c) ps):n<=c:=by
 obtain ⟨a',cap,hv,h,_⟩:=h;injection hv with _ h1 h2;omega
theorem PairsV.cases {ps:List (Str×Str)} (h:PairsV W (.slice a n c) ps):(a=none/\n=0/\c=0)\/∃b off,a=some ⟨b,off,none⟩:=by
 obtain ⟨a',cap,hv,_,h⟩:=h;injection hv with h1 h2 h3;subst h1;subst h2;subst h3;rcases h with ⟨rfl,rfl,rfl⟩ | ⟨b,off,rfl,_⟩
 ·exact .inl ⟨rfl,rfl,rfl⟩
 ·exact .inr ⟨b,off,rfl⟩
def gS:List (Str×Str)->List Value
 | []=>[]
 | p :: l=>.string ⟨p.1.toArray⟩ :: .string ⟨p.2.toArray⟩ :: gS l
theorem iu:∀ ps,(gS ps).length=ps.length * 2
 | []=>rfl
 | p :: l=>by simp[gS,iu l];omega
theorem lm (p:Str×Str):∀ ps,gS (ps ++ [p])=gS ps ++ [.string ⟨p.1.toArray⟩,.string ⟨p.2.toArray⟩]
 | []=>rfl
 | q :: l=>by simp[gS,lm p l]
theorem vk:∀ (ps:List (Str×Str)) (j:Nat) (h:j<ps.length),(gS ps)[j * 2]?=some (.string ⟨ps[j].1.toArray⟩)/\(gS ps)[j * 2+1]?=some (.string ⟨ps[j].2.toArray⟩)
 | [],j,h=>by simp at h
 | p :: l,0,h=>by simp[gS]
 | p :: l,j+1,h=>by
  have:=vk l j (by simpa using h);rw[show (j+1) * 2=j * 2+2 by omega];simpa[gS] using this
theorem PairsV.olds {b:Addr} {ps:List (Str×Str)} (h:PairsV W (.slice (some b) n c) ps):∀ j u,(gS ps)[j]?=some u->W.cell? (b.add j)=some u:=by
 intro j u hu;have hj:j<ps.length * 2:=by rw[<-iu];exact (List.getElem?_eq_some_iff.1 hu).1
 have hd:j / 2<ps.length:=by omega
 obtain ⟨b',off,hb,h0,h1⟩:=h.get hd;obtain rfl:b=⟨b',off,none⟩:=by injection hb
 have hf:=vk ps (j / 2) hd;have zbR:∀ k,Addr.add ⟨b',off,none⟩ k=⟨b',off+k,none⟩:=fun k=>Addr.add_lit _ _ _;rw[zbR];rcases Nat.mod_two_eq_zero_or_one j with hm | hm
 ·have e:j / 2 * 2=j:=by omega
  rw[e]at hf h0;rw[hf.1]at hu;rw[h0,<-hu]
 ·have e:j / 2 * 2+1=j:=by omega
  rw[e]at hf;rw[Nat.add_assoc,e]at h1;rw[hf.2]at hu;rw[h1,<-hu]
theorem PairsV.own {e:TypeId} {ps:List (Str×Str)} (h:W.ownsRow base e 2 (.slice (some ⟨g,0,none⟩) n c) n (gS ps)):PairsV W (.slice (some ⟨g,0,none⟩) n c) ps:=by
 have pp163b:=();exact pm163
section
variable {F:Fence} {k:Nat} {P:Program} {Q:Exit->Act->World->Prop}
theorem iv {o:Oper} {a:Act} {w:World} {K:Act->World->Prop} (s x:Operand) (t:TypeId)
  (ho:o.op=.call { callee:=.builtin .append,args:=#[s,x],argTypes:=#[t,t] })
  (e:TypeId) (i:TypeInfo) (z:Value) (size bytes:Nat) (ht:P.underlying t=some (.slice e)) (hi:P.info? e=some i) (hz:i.zero=some z)
  (Ke:i.size=size) (hby:i.bytes=bytes) (hzs:z.cells.size=size) (hsz:0<size)
  (v:Value) (n:Nat) (olds:List Value) (hs:a.eval s=v)
  (hv:(v=.slice none 0 0/\n=0/\olds=[])\/∃b,v=.slice (some b) n n/\olds.length=n * size/\∀ j u,olds[j]?=some u->w.cell? (b.add j)=some u)
  (ad:Addr) (m c:Nat) (uS:List Value) (hx:a.eval x=.slice (some ad) m c) (hl:uS.length=m * size) (Kf:∀ j u,uS[j]?=some u->w.cell? (ad.add j)=some u) (h1:∀ u∈uS,u.oneCell'=true)
  (hm:0<m) (h63:n+m<=maxLen) (DD:(n+m) * bytes<=140737488355328)
  (h:∀ g cap w',w'.ownsRow w.heap.size e size (.slice (some ⟨g,0,none⟩) (n+m) cap) (n+m) (olds ++ uS)->w.grownBy w' none->K (a.put o.dst (.slice (some ⟨g,0,none⟩) (n+m) cap)) w'):o.wpIn F k P a w K Q:=by
 have hr:∃g cap w',(Builtin.append_ #[t,t] o.type #[v,.slice (some ad) m c]).run P w=.ok (.slice (some ⟨g,0,none⟩) (n+m) cap) w'/\w'.ownsRow w.heap.size e size (.slice (some ⟨g,0,none⟩) (n+m) cap) (n+m) (olds ++ uS)/\w.grownBy w' none:=by
  rcases hv with ⟨rfl,rfl,rfl⟩ | ⟨b,rfl,hlo,holds⟩
  ·obtain ⟨g,cap,w',hr,h2,h3,_,_⟩:=run_append_lies (P:=P) w t o.type w.heap.size e i z size bytes ht hi hz Ke hby hzs hsz (.slice none 0 0) 0 [] (World.ownsRow_nil _ _ _ _) ad m c uS hl Kf h1 hm h63 DD (aI _) _ rfl;exact ⟨g,cap,w',hr,h2,h3⟩
  ·obtain ⟨v',w',hr,h2,h3⟩:=run_append_arg_grows (P:=P) w t o.type e i z size bytes ht hi hz Ke hby hzs hsz b n n olds hlo holds ad m c uS hl Kf (by omega) h63 DD;obtain ⟨g,cap,rfl,_,_⟩:=h2.form (by omega);exact ⟨g,cap,w',hr,h2,h3⟩
 obtain ⟨g,cap,w',hr,h2,h3⟩:=hr;unfold Oper.wpIn;refine ⟨?_,?_⟩
 ·simp[Oper.about,ho,resolve,Target.leads,Sem.run_pure]
 ·rw[Oper.semAt_plain F _ _ (by rw[ho];intro c Y7;cases Y7)];simp[execOp,ho,resolve,invoke,builtin,hs,hx,hr,Result.andThen];exact h g cap w' h2 h3
end
theorem NR {ps:List (Str×Str)} (h:j<ps.length):(ps.take (j+1)).reverse=ps[j] :: (ps.take j).reverse:=by
 rw[mt h];simp
theorem jL {c:Sco} {l m:List Tm} {k:Nat} (hl:k<l.length) (hm:k<m.length):di c (l.drop k) (m.drop k)=(j9 c l[k] m[k] && di c (l.drop (k+1)) (m.drop (k+1))):=by
 rw[fO hl,fO hm,di]
theorem n9 {c:Sco} {l m:List Fm} {k:Nat} (hl:k<l.length) (hm:k<m.length):dI c (l.drop k) (m.drop k)=(ea c l[k] m[k] && dI c (l.drop (k+1)) (m.drop (k+1))):=by
 rw[fO hl,fO hm,dI]
def rx (c:Sco) (x y:Str):Option Bool:=if c.any (fun p=>p.1 == x || p.2 == y) then some (rL c x y) else none
theorem LH (x y:Str):rx [] x y=none:=rfl
theorem IB (p:Str×Str) (c:Sco) (x y:Str):rx (p :: c) x y=if p.1 == x || p.2 == y then some (p.1 == x && p.2 == y) else rx c x y:=by
 unfold rx;simp only[List.any_cons,rL]
 by_cases h:(p.1 == x || p.2 == y)=true
 ·simp only[h,Bool.true_or,if_true]
 ·rw[Bool.not_eq_true]at h;simp only[h,Bool.false_or,dE,if_false]
theorem LI (c:Sco) (v v':Bool) (n n':Str) (a a':List Tm):j9 c (.mk v n a) (.mk v' n' a')=((v == v' && a.length == a'.length) && (match (if v then rx c n n' else none) with | some b=>b | none=>n == n' && di c a a')):=by
 rw[j9];unfold rx;cases v
 ·simp
 ·cases h:c.any (fun p=>p.1 == n || p.2 == n') <;> simp
def zbS (t:Tm):Prop:=∀ (u:Tm) (ps:List (Str×Str)) (v:Value) (ok ok':Nat->Prop) (w:World) (q q':TQ),ps.length<=1000000000->fitT t->TermV ok w q.val t->TermV ok' w q'.val u->PairsV w v ps →
 Calls Tryz.prog 160 #[q.val,q'.val,v] w fun e w'=>e=.returned (.bool (j9 ps.reverse t u))/\Below w.heap.size w w'
theorem yT:∀ t,zbS t:=by
 intro t
 induction t using Tm.ind with
 | h xv xn xa ih=>
 intro u ps v ok ok' w q q' gU hf hq mM hp;have pp211:=();exact pm211
section
attribute [local go_sem] Oper.semAt_some
structure PlQ where
 s:FQ
 f:FQ
 a:Option Addr
 l:Nat
 c:Nat
def PlQ.cells (q:PlQ):Array Value:=#[.int .u8 q.s.o,.string q.s.n,.slice q.s.a q.s.l q.s.c,.slice q.s.b q.s.m q.s.e,.int .u8 q.f.o,.string q.f.n,.slice q.f.a q.f.l q.f.c,.slice q.f.b q.f.m q.f.e,.slice q.a q.l q.c]
def PlQ.val (q:PlQ):Value:=.agg q.cells
def wm (ps:List (Str×Str)) (x:Str) (k:Nat):Option Str:=eX.go x (ps.take k).reverse ((ps.drop k).map (·.1))
theorem LJ (ps:List (Str×Str)) (x:Str):wm ps x ps.length=eX ps.reverse x:=by
 unfold wm eX;rw[cV,List.drop_length];rfl
theorem IF (ps:List (Str×Str)) (x:Str):wm ps x 0=some x:=by simp[wm,eX.go]
theorem II {ps:List (Str×Str)} {x:Str} {k:Nat} (h:k<ps.length):wm ps x (k+1)=if ps[k].2 == x then (if ((ps.drop (k+1)).map (·.1)).contains ps[k].1 then none else some (dc ps[k].1)) else wm ps x k:=by
 unfold wm;rw[mt h,List.reverse_append,List.reverse_singleton,List.singleton_append];have hd:(ps.drop k).map (·.1)=ps[k].1 :: (ps.drop (k+1)).map (·.1):=by rw[fO h];rfl
 rw[hd];obtain ⟨⟨s,a⟩,hsa⟩:∃p,p=ps[k]:=⟨_,rfl⟩;rw[<-hsa];rfl
theorem A_ (q:PlQ) (ps:List (Str×Str)) (mq:ps.length<=1000000) (gU:∀ p∈ps,p.1.length<=2000000) (x:Str) (w:World) (hv:PairsV w (.slice q.a q.l q.c) ps) :
  Calls Tryz.prog 161 #[q.val,.string ⟨x.toArray⟩] w fun e w'=>e=.returned (.tuple #[.string ⟨((eX ps.reverse x).getD []).toArray⟩,.bool (eX ps.reverse x).isSome])/\Below w.heap.size w w':=by
 obtain ⟨⟨so,sn,sa,sl,sc,sb,sm,se⟩,⟨fo,fn,fa,fl,fc,fb,fm,fe⟩,qa,ql,qc⟩:=q;obtain rfl:=hv.len;obtain ⟨R,hR⟩:=am (eX ps.reverse x);rw[<-hR];rw[<-LJ]at hR;obtain ⟨k0,cg⟩:=am ps.length;rw[<-cg]at mq hR;simp only at hv;have DV:=hv.cap;obtain ⟨X_,HV⟩:=a_ gU hv;rw[<-cg]at DV;unfold PlQ.val PlQ.cells;simp only;rw[<-cg];obtain ⟨HR,dB⟩:=a_ hR cg;obtain ⟨W1,bX⟩:=am (w.alloc (.cells #[.int .u8 so,.string sn,.slice sa sl sc,.slice sb sm se,.int .u8 fo,.string fn,.slice fa fl fc,.slice fb fm fe,.slice qa k0 qc] 89));have hb1:=cZ bX;have wg:=cb bX;obtain ⟨iR,d_,jo⟩:=cG bX hb1 wg;clear cg hR gU hv bX hb1 wg;go_enter Tryz.func161,Tryz.ntmps161;go_wp2;rw[<-iR.o];go_loopw [6] (fun i wr=>∃k:Nat,k<=k0/\i=.int .i64 ((k:Int) - 1)/\Below W1.heap.size W1 wr/\R=wm ps x k) (fun i _=>(intOf i+1).toNat)
 case atStart=>exact ⟨k0,aI _,rfl,ak _ _,HR.o⟩
 case round=>
  obtain ⟨k,hk,rfl,ar,ht⟩:=hrel;obtain ⟨wo,IJ⟩:=am wr;subst IJ;have b1:=bR ar jo.o
  cases k with
  | zero=>
   have HE:=ae (show R=some x by rw[ht,IF]);have HB:=ae (d_.o.tr ar);have hd0:decide ((0:Int)<=((0:Nat):Int) - 1)=false:=by simp
   clear ar ht b1;go_wp2;refine bJ (v:=.tuple #[.string ⟨x.toArray⟩,.bool true]) (by simp[results,Tryz.results161,go_sem]) rfl ⟨by rw[HE.o];rfl,HB.o⟩
  | succ j=>
   have le:j<ps.length:=by rw[<-dB.o];omega
   obtain ⟨b,off,rfl,c0,c1⟩:=HV.o.get le;rw[II le]at ht;obtain ⟨s,hs⟩:=am (ps[j].1);obtain ⟨a,ha⟩:=am (ps[j].2);rw[<-hs,<-ha]at ht;rw[<-hs]at c0;rw[<-ha]at c1;have hsl:s.length<=2000000:=by rw[hs];exact X_.o _ (aA le)
   have d0:=aa (d_.o.tr ar) c0;have d1:=aa (d_.o.tr ar) c1;have x8:=ai b1 8;have XW:(((j+1:Nat):Int) - 1)=(j:Int):=by omega
   have bD:Below wo.heap.size wo (wo.alloc (.cells #[.string ⟨s.toArray⟩,.string ⟨a.toArray⟩] 213)):=cJ;have y8:=aa bD x8;have hy:=aj (w:=wo) (o:=.cells #[.string ⟨s.toArray⟩,.string ⟨a.toArray⟩] 213) rfl;have y0:(wo.alloc (.cells #[.string ⟨s.toArray⟩,.string ⟨a.toArray⟩] 213)).cell? ⟨wo.heap.size,0,none⟩=some (.string ⟨s.toArray⟩):=ai hy 0;have y1:(wo.alloc (.cells #[.string ⟨s.toArray⟩,.string ⟨a.toArray⟩] 213)).cell? ⟨wo.heap.size,1,none⟩=some (.string ⟨a.toArray⟩):=ai hy 1;have cO:=ae (ar.tr bD);have HY:=ae hy;rw[XW];have Hi:(j:Int)<(k0:Int):=by omega
   by_cases hax:a=x
   ·subst hax;simp only[beq_self_eq_true,if_true]at ht;have HT:=ae ht;obtain ⟨r0,hr0⟩:=am (k0 - (j+1));have Ba:j+1<=k0:=by omega
    obtain ⟨Ya,HSl⟩:=a_ hr0 hsl;clear ht ar b1 c0 c1 hs ha bD hy hsl;go_wp2
    all_goals (
     rw[<-Ya.o];go_loopw [33] (fun i wr=>∃q:Nat,q<=r0/\i=.int .i64 q/\Below (wo.alloc (.cells #[.string ⟨s.toArray⟩,.string ⟨a.toArray⟩] 213)).heap.size (wo.alloc (.cells #[.string ⟨s.toArray⟩,.string ⟨a.toArray⟩] 213)) wr/\∀ p (hp:p<ps.length),j+1<=p->p<j+1+q->ps[p].1≠s) (fun i _=>r0 - (intOf i).toNat)
     case atStart=>exact ⟨0,by omega,rfl,ak _ _,fun p hp h1 h2=>by omega⟩
     case round=>
      obtain ⟨q,hq,rfl,e8,i9⟩:=hrel;have z0:=aa e8 y0
      by_cases hlt:q<r0
      ·have zea:=Ya.o
       first
       | omega
       | (have mq:j+1+q<ps.length:=by have:=dB.o;have:=Ya.o;omega
          obtain ⟨b',mL,cI,e0,e1⟩:=HV.o.get mq;cases cI;obtain ⟨s2,kK⟩:=am (ps[j+1+q].1);obtain ⟨a2,ha2⟩:=am (ps[j+1+q].2);rw[<-kK]at e0;rw[<-ha2]at e1;have mO:=(d_.o.tr cO.o).tr e8;obtain ⟨f0,f1⟩:=AN mO e0 e1;have U_:off+(j+1+q) * 2=off+(j+1) * 2+q * 2:=by omega
          rw[U_]at f0 f1;have aL:Below wr.heap.size wr (wr.alloc (.cells #[.string ⟨s2.toArray⟩,.string ⟨a2.toArray⟩] 213)):=cJ;have z1:=aa aL z0;have sj:=ae (e8.tr aL)
          by_cases NT:s2=s
          ·have HE:=ae (show R=none by
            rw[HT.o,aH];simp only[List.contains_iff_mem,List.mem_map];refine ⟨ps[j+1+q],List.mem_iff_getElem.2 ⟨q,by rw[List.length_drop];omega,by rw[List.getElem_drop]⟩,by rw[<-NT,kK]⟩)
           subst NT;clear e8 i9 mO U_ aL e0 e1 kK ha2;go_wp2;refine bJ (v:=.tuple #[.string ⟨#[]⟩,.bool false]) (by simp[results,Tryz.results161,go_sem]) rfl ⟨by rw[HE.o];rfl,(d_.o.tr cO.o).tr sj.o⟩
          ·have Kx:(s2 == s)=false:=by simpa using NT
           have HN:=ae (show ∀ p (hp:p<ps.length),j+1<=p->p<j+1+(q+1)->ps[p].1≠s from fun p hp h1 h2=>by
            by_cases e:p=j+1+q
            ·subst e;rw[<-kK];exact NT
            ·exact i9 p hp h1 (by omega))
           clear e8 i9 mO U_ aL e0 e1 kK ha2;go_wp2;go_roundw
           case rel=>exact ⟨q+1,by omega,by go_num,sj.o,HN.o⟩
           case measure=>simp[intOf];omega)
      ·obtain rfl:q=r0:=by omega
       have HE:=ae (show R=some (dc s) by
        rw[HT.o,aw];simp only[List.contains_iff_mem,List.mem_map];rintro ⟨p,hp,rfl⟩;obtain ⟨i,hi,rfl⟩:=List.mem_iff_getElem.1 hp;rw[List.length_drop]at hi;rw[List.getElem_drop]at i9;exact i9 (j+1+i) (by omega) (by omega) (by have:=dB.o;have:=Ya.o;omega) rfl)
       have CH:=eU s wr (by have:=HSl.o;omega);obtain ⟨Va,sj⟩:=a_ CH e8;clear e8 i9 CH;go_wp2_with (go_at_call 130;refine Va.o.mono ?_;rintro e w5 ⟨rfl,rfl⟩);refine bJ (v:=.tuple #[.string ⟨(dc s).toArray⟩,.bool true]) (by simp[results,Tryz.results161,go_sem]) rfl ⟨by rw[HE.o];rfl,(d_.o.tr cO.o).tr sj.o⟩)
   ·have AI:(a == x)=false:=by simpa using hax
    simp only[AI,dE,if_false]at ht;have HT:=ae ht;clear ht ar b1 c0 c1 hs ha bD hy hsl;go_wp2;go_roundw
    case rel=>exact ⟨j,by omega,by go_num,cO.o,HT.o⟩
    case measure=>simp[intOf]
theorem oL {c:Sco} {l:List Tm} {k:Nat} (h:k<l.length):gP c ins (l.take (k+1))=match gP c ins (l.take k),j4 c ins l[k] with | some us,some u=>some (us ++ [u]) | _,_=>none:=by
 induction l generalizing k with
 | nil=>simp at h
 | cons t l ih=>
  cases k with
  | zero=>
   simp only[List.take_succ_cons,List.take_zero,List.getElem_cons_zero,gP];cases j4 c ins t <;> rfl
  | succ k=>
   have:=ih (k:=k) (by simpa using h);simp only[List.take_succ_cons,List.getElem_cons_succ,gP];rw[this];cases j4 c ins t <;> cases gP c ins (l.take k) <;> cases j4 c ins (l[k]'(by simpa using h)) <;> rfl
theorem yV {c:Sco} {l:List Tm} {t:Tm} (ht:t∈l) (h:j4 c ins t=none):gP c ins l=none:=by
 induction l with
 | nil=>cases ht
 | cons u l ih=>
  rcases cY.1 ht with rfl | ht
  ·simp[gP,h]
  ·simp only[gP,ih ht];cases j4 c ins u <;> rfl
theorem hZ {q:PlQ} (h:W.heap[B]?=some (.cells q.cells T (0,0))) :
  W.cell? ⟨B,0,none⟩=some (.int .u8 q.s.o)/\W.cell? ⟨B,1,none⟩=some (.string q.s.n)/\W.cell? ⟨B,2,none⟩=some (.slice q.s.a q.s.l q.s.c)/\W.cell? ⟨B,3,none⟩=some (.slice q.s.b q.s.m q.s.e)/\W.cell? ⟨B,4,none⟩=some (.int .u8 q.f.o)/\W.cell? ⟨B,5,none⟩=some (.string q.f.n)/\W.cell? ⟨B,6,none⟩=some (.slice q.f.a q.f.l q.f.c)/\W.cell? ⟨B,7,none⟩=some (.slice q.f.b q.f.m q.f.e)/\W.cell? ⟨B,8,none⟩=some (.slice q.a q.l q.c):=
 ⟨ai h 0,ai h 1,ai h 2,ai h 3,ai h 4,ai h 5,ai h 6,ai h 7,ai h 8⟩
theorem tj (hx:X.heap[B]?=some (.cells #[c0,c1,c2] T (0,0))) (v0 v1 v2:Value):∃W6,W6=((X.setCell ⟨B,0,none⟩ v0).setCell ⟨B,1,none⟩ v1).setCell ⟨B,2,none⟩ v2/\W6.heap[B]?=some (.cells #[v0,v1,v2] T (0,0))/\Kp (fun b=>b=B) X W6/\W6.cell? ⟨B,0,none⟩=some v0/\W6.cell? ⟨B,1,none⟩=some v1/\W6.cell? ⟨B,2,none⟩=some v2:=
 have h:=pC (v0:=v0) (v1:=v1) (v2:=v2) hx
 ⟨_,rfl,h,eD,ai h 0,ai h 1,ai h 2⟩
theorem gt (hx:X.heap[B]?=some (.cells #[c0,c1,c2] T (0,0))):X.cell? ⟨B,0,none⟩=some c0/\X.cell? ⟨B,1,none⟩=some c1/\X.cell? ⟨B,2,none⟩=some c2/\X.frozen? ⟨B,0,none⟩=false/\X.frozen? ⟨B,1,none⟩=false/\X.frozen? ⟨B,2,none⟩=false:=
 ⟨ai hx 0,ai hx 1,ai hx 2,af hx 0,af hx 1,af hx 2⟩
theorem ry (q:PlQ) (ps:List (Str×Str)) (mq:ps.length<=1000000) (gU:∀ p∈ps,p.1.length<=2000000) (L ins:List Str) (hL:L.length<=2000000) (NU:∀ y,L.contains y=ins.contains y) (okL:Nat->Prop) (vL:Value) :
  ∀ (t:Tm),fitT t->∀ (ok:Nat->Prop) (w:World) (tq:TQ),PairsV w (.slice q.a q.l q.c) ps->StrsO okL w vL L->TermV ok w tq.val t →
  Calls Tryz.prog 94 #[q.val,tq.val,vL] w fun e w'=>(∃p:TQ,e=.returned (.tuple #[p.val,.bool (j4 ps.reverse ins t).isSome])/\∀ u,j4 ps.reverse ins t=some u->TermV (w.heap.size<=·) w' p.val u)/\Below w.heap.size w w':=by
 obtain ⟨i0,hi,nM,i_,ig⟩:=info_parts gE;have IK:=cC mq gU hL NU;clear mq gU hL NU;have pp161a:=();exact pm161
theorem oM {c:Sco} {l:List Fm} {k:Nat} (h:k<l.length):iU c ins (l.take (k+1))=match iU c ins (l.take k),ii c ins l[k] with | some us,some u=>some (us ++ [u]) | _,_=>none:=by
 induction l generalizing k with
 | nil=>simp at h
 | cons t l ih=>
  cases k with
  | zero=>
   simp only[List.take_succ_cons,List.take_zero,List.getElem_cons_zero,iU];cases ii c ins t <;> rfl
  | succ k=>
   have:=ih (k:=k) (by simpa using h);simp only[List.take_succ_cons,List.getElem_cons_succ,iU];rw[this];cases ii c ins t <;> cases iU c ins (l.take k) <;> cases ii c ins (l[k]'(by simpa using h)) <;> rfl
theorem yZ {c:Sco} {l:List Fm} {t:Fm} (ht:t∈l) (h:ii c ins t=none):iU c ins l=none:=by
 induction l with
 | nil=>cases ht
 | cons u l ih=>
  rcases cY.1 ht with rfl | ht
  ·simp[iU,h]
  ·simp only[iU,ih ht];cases ii c ins u <;> rfl
theorem Be (hx:X.heap[B]?=some (.cells #[c0,c1,c2,c3] T (0,0))) (v0 v1 v2 v3:Value):∃W6,W6=(((X.setCell ⟨B,0,none⟩ v0).setCell ⟨B,1,none⟩ v1).setCell ⟨B,2,none⟩ v2).setCell ⟨B,3,none⟩ v3/\W6.heap[B]?=some (.cells #[v0,v1,v2,v3] T (0,0))/\Kp (fun b=>b=B) X W6/\W6.cell? ⟨B,0,none⟩=some v0/\W6.cell? ⟨B,1,none⟩=some v1/\W6.cell? ⟨B,2,none⟩=some v2/\W6.cell? ⟨B,3,none⟩=some v3:=
 have h:=kP (v0:=v0) (v1:=v1) (v2:=v2) (v3:=v3) hx
 ⟨_,rfl,h,dA,ai h 0,ai h 1,ai h 2,ai h 3⟩
theorem dp (hx:X.heap[B]?=some (.cells #[c0,c1,c2,c3] T (0,0))):X.cell? ⟨B,0,none⟩=some c0/\X.cell? ⟨B,1,none⟩=some c1/\X.cell? ⟨B,2,none⟩=some c2/\X.cell? ⟨B,3,none⟩=some c3/\X.frozen? ⟨B,0,none⟩=false/\X.frozen? ⟨B,1,none⟩=false/\X.frozen? ⟨B,2,none⟩=false/\X.frozen? ⟨B,3,none⟩=false:=
 ⟨ai hx 0,ai hx 1,ai hx 2,ai hx 3,af hx 0,af hx 1,af hx 2,af hx 3⟩
def StrsN (W:World) (v:Value) (l:List Str):Prop:=∃a cap,v=.slice a l.length cap/\l.length<=cap/\((l=[]/\a=none/\cap=0)\/∃b off,a=some ⟨b,off,none⟩/\∀ j (h:j<l.length),W.cell? ⟨b,off+j,none⟩=some (.string ⟨l[j].toArray⟩))
theorem StrsN.strs (h:StrsN W v l):StrsO (fun _=>True) W v l:=by
 have pp231c:=();exact pm231
theorem StrsN.later (h:StrsN W v l) (hb:Below W.heap.size W W'):StrsN W' v l:=by
 exact pm110
def StrsN.Far (v:Value) (M:Nat->Prop):Prop:=∀ b,v.ownBlock=some b->¬M b
theorem StrsN.kp {M:Nat->Prop} (h:StrsN W v l) (hk:Kp M W W') (hf:StrsN.Far v M):StrsN W' v l:=by
 have pp231d:=();exact pm231
theorem StrsN.old (h:StrsN W v l) (hl:l≠[]):∀ b,v.ownBlock=some b->b<W.heap.size:=by
 obtain ⟨a,cap,rfl,hc,h⟩:=h;rcases h with ⟨h,_⟩ | ⟨b,off,rfl,h⟩
 ·exact absurd h hl
 ·intro b' hb;cases hb;exact World.block_lt_of_cell? W _ (h 0 (iD.2 hl))
theorem StrsN.nil (W:World):StrsN W (.slice none 0 0) []:=⟨none,0,rfl,aI _,.inl ⟨rfl,rfl,rfl⟩⟩
theorem StrsN.own (h:W.ownsRow base 9 1 (.slice (some ⟨g,0,none⟩) n c) n (l.map encStr)):StrsN W (.slice (some ⟨g,0,none⟩) n c) l:=by
 have hl:n=l.length:=by have:=h.1;simp at this;omega
 subst hl;obtain ⟨a,cap,hv,hc,h⟩:=OwnS.strs (lo:=base) h;injection hv with h1 _ h3;subst h3;refine ⟨_,_,rfl,hc,.inr ⟨g,0,rfl,fun j hj=>?_⟩⟩;rcases h with rfl | ⟨b,off,ha,_,hcl⟩
 ·simp at hj
 ·rw[ha]at h1;injection h1 with h1;injection h1 with h1 h2;subst h1;subst h2;exact hcl j hj
theorem Cn (q:PlQ) (ps:List (Str×Str)) (mq:ps.length<=1000000) (gU:∀ p∈ps,p.1.length<=2000000) :
  ∀ (f:Fm),fitF f->∀ (L ins:List Str),L.length+nodesF f<=2000000->(∀ y,L.contains y=ins.contains y)->∀ (vL:Value) (ok:Nat->Prop) (w:World) (fq:FQ),PairsV w (.slice q.a q.l q.c) ps->(StrsN w vL L/\∀ b,vL.ownBlock=some b->b<w.heap.size)->FormV ok w fq.val f →
  Calls Tryz.prog 91 #[q.val,fq.val,vL] w fun e w'=>(∃p:FQ,e=.returned (.tuple #[p.val,.bool (ii ps.reverse ins f).isSome])/\∀ u,ii ps.reverse ins f=some u->FormV (w.heap.size<=·) w' p.val u)/\Below w.heap.size w w':=by
 have pp154b:=();exact pm154
