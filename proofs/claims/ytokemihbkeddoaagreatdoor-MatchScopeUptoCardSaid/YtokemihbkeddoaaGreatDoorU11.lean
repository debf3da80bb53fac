/-
Rows of pairs of names in memory;a contract of 'alikeTerm' of package match. (Printed by gen_malike.py.)
Places in memory;the contract of 'imageName' of package match.
The contract of 'imageTerm' of package match.
-/
import Derived.Test.YtokemihbkeddoaaGreatDoorU00
import Derived.Test.YtokemihbkeddoaaGreatDoorU08
import Derived.Test.YtokemihbkeddoaaGreatDoorU07
import Derived.Test.YtokemihbkeddoaaGreatDoorU03
import Derived.ArgAppend
import Derived.Test.YtokemihbkeddoaaGreatDoorU09
import Derived.Test.YtokemihbkeddoaaGreatDoorU10
namespace Go.Proofs.YtokemihbkeddoaaGreatDoor
open Go Go.RowKit Lib
set_option maxRecDepth 100000
set_option maxHeartbeats 64000000
def PairsV (W:World) (v:Value) (ps:List (Str×Str)):Prop:=∃a cap,v=.slice a ps.length cap/\ps.length<=cap/\((ps=[]/\a=none/\cap=0)\/∃b off,a=some ⟨b,off,none⟩/\∀ j (h:j<ps.length),W.cell? ⟨b,off+j * 2,none⟩=some (.string ⟨ps[j].1.toArray⟩)/\W.cell? ⟨b,off+j * 2+1,none⟩=some (.string ⟨ps[j].2.toArray⟩))
theorem PairsV.nil (W:World):PairsV W (.slice none 0 0) []:=⟨none,0,rfl,Nat.le_refl _,.inl ⟨rfl,rfl,rfl⟩⟩
theorem PairsV.later {W W':World} {v:Value} {ps:List (Str×Str)} (h:PairsV W v ps) (hb:Below W.heap.size W W'):PairsV W' v ps:=by
 obtain ⟨a,cap,hv,Ca,h⟩:=h
 refine ⟨a,cap,hv,Ca,?_⟩
 rcases h with h | ⟨b,off,ha,hc⟩
 ·exact .inl h
 ·exact .inr ⟨b,off,ha,fun j hj=>⟨aa hb (hc j hj).1,aa hb (hc j hj).2⟩⟩
theorem PairsV.get {W:World} {a:Option Addr} {n c:Nat} {ps:List (Str×Str)} (h:PairsV W (.slice a n c) ps) {j:Nat} (hj:j<ps.length) :
  ∃b off,a=some ⟨b,off,none⟩/\W.cell? ⟨b,off+j * 2,none⟩=some (.string ⟨ps[j].1.toArray⟩)/\W.cell? ⟨b,off+j * 2+1,none⟩=some (.string ⟨ps[j].2.toArray⟩):=by
 exact pm262
theorem PairsV.len {W:World} {a:Option Addr} {n c:Nat} {ps:List (Str×Str)} (h:PairsV W (.slice a n c) ps):n=ps.length:=by
 obtain ⟨a',cap,hv,h⟩:=h
 injection hv
theorem PairsV.cap {W:World} {a:Option Addr} {n c:Nat} {ps:List (Str×Str)} (h:PairsV W (.slice a n c) ps):n<=c:=by
 obtain ⟨a',cap,hv,h,_⟩:=h
 injection hv with _ h1 h2
 omega
theorem PairsV.cases {W:World} {a:Option Addr} {n c:Nat} {ps:List (Str×Str)} (h:PairsV W (.slice a n c) ps):(a=none/\n=0/\c=0)\/∃b off,a=some ⟨b,off,none⟩:=by
 obtain ⟨a',cap,hv,_,h⟩:=h
 injection hv with h1 h2 h3
 subst h1;subst h2;subst h3
 rcases h with ⟨rfl,rfl,rfl⟩ | ⟨b,off,rfl,_⟩
 ·exact .inl ⟨rfl,rfl,rfl⟩
 ·exact .inr ⟨b,off,rfl⟩
def eY:List (Str×Str)->List Value
 | []=>[]
 | p :: l=>.string ⟨p.1.toArray⟩ :: .string ⟨p.2.toArray⟩ :: eY l
theorem fH:∀ ps,(eY ps).length=ps.length * 2
 | []=>rfl
 | p :: l=>by simp[eY,fH l];omega
theorem ji (p:Str×Str):∀ ps,eY (ps ++ [p])=eY ps ++ [.string ⟨p.1.toArray⟩,.string ⟨p.2.toArray⟩]
 | []=>rfl
 | q :: l=>by simp[eY,ji p l]
theorem tL:∀ (ps:List (Str×Str)) (j:Nat) (h:j<ps.length),(eY ps)[j * 2]?=some (.string ⟨ps[j].1.toArray⟩)/\(eY ps)[j * 2+1]?=some (.string ⟨ps[j].2.toArray⟩)
 | [],j,h=>by simp at h
 | p :: l,0,h=>by simp[eY]
 | p :: l,j+1,h=>by
  have:=tL l j (by simpa using h)
  rw[show (j+1) * 2=j * 2+2 by omega]
  simpa[eY] using this
theorem PairsV.olds {W:World} {b:Addr} {n c:Nat} {ps:List (Str×Str)} (h:PairsV W (.slice (some b) n c) ps):∀ j u,(eY ps)[j]?=some u->W.cell? (b.add j)=some u:=by
 intro j u hu
 have hj:j<ps.length * 2:=by rw[<-fH];exact (List.getElem?_eq_some_iff.1 hu).1
 have hd:j / 2<ps.length:=by omega
 obtain ⟨b',off,hb,h0,h1⟩:=h.get hd
 obtain rfl:b=⟨b',off,none⟩:=by injection hb
 have hf:=tL ps (j / 2) hd
 have zaw:∀ k,Addr.add ⟨b',off,none⟩ k=⟨b',off+k,none⟩:=fun k=>Addr.add_lit _ _ _
 rw[zaw]
 rcases Nat.mod_two_eq_zero_or_one j with hm | hm
 ·have e:j / 2 * 2=j:=by omega
  rw[e]at hf h0
  rw[hf.1]at hu
  rw[h0,<-hu]
 ·have e:j / 2 * 2+1=j:=by omega
  rw[e]at hf
  rw[Nat.add_assoc,e]at h1
  rw[hf.2]at hu
  rw[h1,<-hu]
theorem PairsV.own {W:World} {base g n c:Nat} {e:TypeId} {ps:List (Str×Str)} (h:W.ownsRow base e 2 (.slice (some ⟨g,0,none⟩) n c) n (eY ps)):PairsV W (.slice (some ⟨g,0,none⟩) n c) ps:=by
 have pp194b:=();exact pm194
section
variable {F:Fence} {k:Nat} {P:Program} {Q:Exit->Act->World->Prop}
theorem fk {o:Oper} {a:Act} {w:World} {K:Act->World->Prop} (s x:Operand) (t:TypeId)
  (ho:o.op=.call { callee:=.builtin .append,args:=#[s,x],argTypes:=#[t,t] })
  (e:TypeId) (i:TypeInfo) (z:Value) (size bytes:Nat) (ht:P.underlying t=some (.slice e)) (hi:P.info? e=some i) (hz:i.zero=some z)
  (IB:i.size=size) (Z5:i.bytes=bytes) (Z6:z.cells.size=size) (hsz:0<size)
  (v:Value) (n:Nat) (olds:List Value) (hs:a.eval s=v)
  (hv:(v=.slice none 0 0/\n=0/\olds=[])\/∃b,v=.slice (some b) n n/\olds.length=n * size/\∀ j u,olds[j]?=some u->w.cell? (b.add j)=some u)
  (ad:Addr) (m c:Nat) (tk:List Value) (hx:a.eval x=.slice (some ad) m c) (hl:tk.length=m * size) (IC:∀ j u,tk[j]?=some u->w.cell? (ad.add j)=some u) (h1:∀ u∈tk,u.oneCell'=true)
  (hm:0<m) (Z7:n+m<=maxLen) (BR:(n+m) * bytes<=140737488355328)
  (h:∀ g cap w',w'.ownsRow w.heap.size e size (.slice (some ⟨g,0,none⟩) (n+m) cap) (n+m) (olds ++ tk)->w.grownBy w' none->K (a.put o.dst (.slice (some ⟨g,0,none⟩) (n+m) cap)) w'):o.wpIn F k P a w K Q:=by
 have hr:∃g cap w',(Builtin.append_ #[t,t] o.type #[v,.slice (some ad) m c]).run P w=.ok (.slice (some ⟨g,0,none⟩) (n+m) cap) w'/\w'.ownsRow w.heap.size e size (.slice (some ⟨g,0,none⟩) (n+m) cap) (n+m) (olds ++ tk)/\w.grownBy w' none:=by
  rcases hv with ⟨rfl,rfl,rfl⟩ | ⟨b,rfl,hlo,holds⟩
  ·obtain ⟨g,cap,w',hr,h2,h3,_,_⟩:=run_append_lies (P:=P) w t o.type w.heap.size e i z size bytes ht hi hz IB Z5 Z6 hsz (.slice none 0 0) 0 [] (World.ownsRow_nil _ _ _ _) ad m c tk hl IC h1 hm Z7 BR (Nat.le_refl _) _ rfl
   exact ⟨g,cap,w',hr,h2,h3⟩
  ·obtain ⟨v',w',hr,h2,h3⟩:=run_append_arg_grows (P:=P) w t o.type e i z size bytes ht hi hz IB Z5 Z6 hsz b n n olds hlo holds ad m c tk hl IC (by omega) Z7 BR
   obtain ⟨g,cap,rfl,_,_⟩:=h2.form (by omega)
   exact ⟨g,cap,w',hr,h2,h3⟩
 obtain ⟨g,cap,w',hr,h2,h3⟩:=hr
 unfold Oper.wpIn
 refine ⟨?_,?_⟩
 ·simp[Oper.about,ho,resolve,Target.leads,Sem.run_pure]
 ·rw[Oper.semAt_plain F _ _ (by rw[ho];intro c Wq;cases Wq)]
  simp[execOp,ho,resolve,invoke,builtin,hs,hx,hr,Result.andThen]
  exact h g cap w' h2 h3
end
theorem Ev {ps:List (Str×Str)} {j:Nat} (h:j<ps.length):(ps.take (j+1)).reverse=ps[j] :: (ps.take j).reverse:=by
 rw[List.take_succ_eq_append_getElem h];simp
theorem eH {c:Sco} {l m:List Tm} {k:Nat} (hl:k<l.length) (hm:k<m.length):bH c (l.drop k) (m.drop k)=(eP c l[k] m[k] && bH c (l.drop (k+1)) (m.drop (k+1))):=by
 rw[List.drop_eq_getElem_cons hl,List.drop_eq_getElem_cons hm,bH]
theorem jj {c:Sco} {l m:List Fm} {k:Nat} (hl:k<l.length) (hm:k<m.length):cb c (l.drop k) (m.drop k)=(bT c l[k] m[k] && cb c (l.drop (k+1)) (m.drop (k+1))):=by
 rw[List.drop_eq_getElem_cons hl,List.drop_eq_getElem_cons hm,cb]
def kx (c:Sco) (x y:Str):Option Bool:=if c.any (fun p=>p.1 == x || p.2 == y) then some (lZ c x y) else none
theorem AT (x y:Str):kx [] x y=none:=rfl
theorem xO (p:Str×Str) (c:Sco) (x y:Str):kx (p :: c) x y=if p.1 == x || p.2 == y then some (p.1 == x && p.2 == y) else kx c x y:=by
 unfold kx
 simp only[List.any_cons,lZ]
 by_cases h:(p.1 == x || p.2 == y)=true
 ·simp only[h,Bool.true_or,if_true]
 ·rw[Bool.not_eq_true]at h
  simp only[h,Bool.false_or,Bool.false_eq_true,if_false]
theorem AU (c:Sco) (v v':Bool) (n n':Str) (a a':List Tm):eP c (.mk v n a) (.mk v' n' a')=((v == v' && a.length == a'.length) && (match (if v then kx c n n' else none) with | some b=>b | none=>n == n' && bH c a a')):=by
 rw[eP]
 unfold kx
 cases v
 ·simp
 ·cases h:c.any (fun p=>p.1 == n || p.2 == n') <;> simp
def zax (t:Tm):Prop:=∀ (u:Tm) (ps:List (Str×Str)) (v:Value) (ok ok':Nat->Prop) (w:World) (q q':TQ),ps.length<=1000000000->fitT t->TermV ok w q.val t->TermV ok' w q'.val u->PairsV w v ps →
 Calls Tryz.prog 160 #[q.val,q'.val,v] w fun e w'=>e=.returned (.bool (eP ps.reverse t u))/\Below w.heap.size w w'
theorem xP:∀ t,zax t:=by
 intro t
 induction t using Tm.ind with
 | h xv xn xa ih=>
 intro u ps v ok ok' w q q' gh hf hq jC hp
 have pp140a:=();exact pm140
section
attribute [local go_sem] Oper.semAt_some
structure PlQ where
 s:FQ
 f:FQ
 a:Option Addr
 l:Nat
 c:Nat
def PlQ.cells (q:PlQ):Array Value:=#[.int .u8 q.s.o,.string q.s.n,.slice q.s.a q.s.l q.s.c,.slice q.s.b q.s.m q.s.e,.int .u8 q.f.o,.string q.f.n,.slice q.f.a q.f.l q.f.c,.slice q.f.b q.f.m q.f.e,.slice q.a q.l q.c]
def PlQ.val (q:PlQ):Value:=.agg q.cells
def uL (ps:List (Str×Str)) (x:Str) (k:Nat):Option Str:=cP.go x (ps.take k).reverse ((ps.drop k).map (·.1))
theorem J3 (ps:List (Str×Str)) (x:Str):uL ps x ps.length=cP ps.reverse x:=by
 unfold uL cP
 rw[List.take_length,List.drop_length];rfl
theorem GJ (ps:List (Str×Str)) (x:Str):uL ps x 0=some x:=by simp[uL,cP.go]
theorem GK {ps:List (Str×Str)} {x:Str} {k:Nat} (h:k<ps.length):uL ps x (k+1)=if ps[k].2 == x then (if ((ps.drop (k+1)).map (·.1)).contains ps[k].1 then none else some (cH ps[k].1)) else uL ps x k:=by
 unfold uL
 rw[List.take_succ_eq_append_getElem h,List.reverse_append,List.reverse_singleton,List.singleton_append]
 have hd:(ps.drop k).map (·.1)=ps[k].1 :: (ps.drop (k+1)).map (·.1):=by rw[List.drop_eq_getElem_cons h];rfl
 rw[hd]
 obtain ⟨⟨s,a⟩,hsa⟩:∃p,p=ps[k]:=⟨_,rfl⟩
 rw[<-hsa]
 rfl
theorem z8 (q:PlQ) (ps:List (Str×Str)) (kP:ps.length<=1000000) (gh:∀ p∈ps,p.1.length<=2000000) (x:Str) (w:World) (hv:PairsV w (.slice q.a q.l q.c) ps) :
  Calls Tryz.prog 161 #[q.val,.string ⟨x.toArray⟩] w fun e w'=>e=.returned (.tuple #[.string ⟨((cP ps.reverse x).getD []).toArray⟩,.bool (cP ps.reverse x).isSome])/\Below w.heap.size w w':=by
 obtain ⟨⟨so,sn,sa,sl,sc,sb,sm,se⟩,⟨fo,fn,fa,fl,fc,fb,fm,fe⟩,qa,ql,qc⟩:=q
 obtain rfl:=hv.len
 obtain ⟨R,hR⟩:=ao (cP ps.reverse x)
 rw[<-hR]
 rw[<-J3]at hR
 obtain ⟨k0,bO⟩:=ao ps.length
 rw[<-bO]at kP hR
 simp only at hv
 have Ca:=hv.cap
 obtain ⟨Vo,HV⟩:=aS gh hv
 rw[<-bO]at Ca
 unfold PlQ.val PlQ.cells
 simp only
 rw[<-bO]
 obtain ⟨HR,cY⟩:=aS hR bO
 obtain ⟨W1,bQ⟩:=ao (w.alloc (.cells #[.int .u8 so,.string sn,.slice sa sl sc,.slice sb sm se,.int .u8 fo,.string fn,.slice fa fl fc,.slice fb fm fe,.slice qa k0 qc] 89))
 have hb1:=cB bQ
 have tC:=bN bQ
 obtain ⟨lI,dG,iB⟩:=cf bQ hb1 tC
 clear bO hR gh hv bQ hb1 tC
 go_enter Tryz.func161,Tryz.ntmps161
 go_wp2
 rw[<-lI.o]
 go_loopw [6] (fun i wr=>∃k:Nat,k<=k0/\i=.int .i64 ((k:Int) - 1)/\Below W1.heap.size W1 wr/\R=uL ps x k) (fun i _=>(intOf i+1).toNat)
 case atStart=>exact ⟨k0,Nat.le_refl _,rfl,Below.refl _ _,HR.o⟩
 case round=>
  obtain ⟨k,hk,rfl,az,ht⟩:=hrel
  obtain ⟨wo,Me⟩:=ao wr
  subst Me
  have b1:=bC az iB.o
  cases k with
  | zero=>
   have HE:=ab (show R=some x by rw[ht,GJ])
   have HB:=ab (dG.o.tr az)
   have hd0:decide ((0:Int)<=((0:Nat):Int) - 1)=false:=by simp
   clear az ht b1
   go_wp2
   refine bodyPost_ret (v:=.tuple #[.string ⟨x.toArray⟩,.bool true]) (by simp[results,Tryz.results161,go_sem]) rfl ⟨by rw[HE.o];rfl,HB.o⟩
  | succ j=>
   have j5:j<ps.length:=by rw[<-cY.o];omega
   obtain ⟨b,off,rfl,c0,c1⟩:=HV.o.get j5
   rw[GK j5]at ht
   obtain ⟨s,hs⟩:=ao (ps[j].1)
   obtain ⟨a,ha⟩:=ao (ps[j].2)
   rw[<-hs,<-ha]at ht
   rw[<-hs]at c0
   rw[<-ha]at c1
   have hsl:s.length<=2000000:=by rw[hs];exact Vo.o _ (List.getElem_mem j5)
   have d0:=aa (dG.o.tr az) c0
   have d1:=aa (dG.o.tr az) c1
   have x8:=ai b1 8
   have Ve:(((j+1:Nat):Int) - 1)=(j:Int):=by omega
   have bA:Below wo.heap.size wo (wo.alloc (.cells #[.string ⟨s.toArray⟩,.string ⟨a.toArray⟩] 213)):=ct
   have y8:=aa bA x8
   have hy:=aj (w:=wo) (o:=.cells #[.string ⟨s.toArray⟩,.string ⟨a.toArray⟩] 213) rfl
   have y0:(wo.alloc (.cells #[.string ⟨s.toArray⟩,.string ⟨a.toArray⟩] 213)).cell? ⟨wo.heap.size,0,none⟩=some (.string ⟨s.toArray⟩):=ai hy 0
   have y1:(wo.alloc (.cells #[.string ⟨s.toArray⟩,.string ⟨a.toArray⟩] 213)).cell? ⟨wo.heap.size,1,none⟩=some (.string ⟨a.toArray⟩):=ai hy 1
   have bZ:=ab (az.tr bA)
   have HY:=ab hy
   rw[Ve]
   have FO:(j:Int)<(k0:Int):=by omega
   by_cases hax:a=x
   ·subst hax
    simp only[beq_self_eq_true,if_true]at ht
    have HT:=ab ht
    obtain ⟨r0,hr0⟩:=ao (k0 - (j+1))
    have z9:j+1<=k0:=by omega
    obtain ⟨HR0,HSl⟩:=aS hr0 hsl
    clear ht az b1 c0 c1 hs ha bA hy hsl
    go_wp2
    all_goals (
     rw[<-HR0.o]
     go_loopw [33] (fun i wr=>∃q:Nat,q<=r0/\i=.int .i64 q/\Below (wo.alloc (.cells #[.string ⟨s.toArray⟩,.string ⟨a.toArray⟩] 213)).heap.size (wo.alloc (.cells #[.string ⟨s.toArray⟩,.string ⟨a.toArray⟩] 213)) wr/\∀ p (hp:p<ps.length),j+1<=p->p<j+1+q->ps[p].1≠s) (fun i _=>r0 - (intOf i).toNat)
     case atStart=>exact ⟨0,by omega,rfl,Below.refl _ _,fun p hp h1 h2=>by omega⟩
     case round=>
      obtain ⟨q,hq,rfl,cQ,jt⟩:=hrel
      have z0:=aa cQ y0
      by_cases hlt:q<r0
      ·have zcz:=HR0.o
       first
       | omega
       | (have kP:j+1+q<ps.length:=by have:=cY.o;have:=HR0.o;omega
          obtain ⟨b',iN,cv,e0,e1⟩:=HV.o.get kP
          cases cv
          obtain ⟨s2,iD⟩:=ao (ps[j+1+q].1)
          obtain ⟨a2,ha2⟩:=ao (ps[j+1+q].2)
          rw[<-iD]at e0
          rw[<-ha2]at e1
          have ma:=(dG.o.tr bZ.o).tr cQ
          obtain ⟨f0,f1⟩:=wN ma e0 e1
          have SU:off+(j+1+q) * 2=off+(j+1) * 2+q * 2:=by omega
          rw[SU]at f0 f1
          have aJ:Below wr.heap.size wr (wr.alloc (.cells #[.string ⟨s2.toArray⟩,.string ⟨a2.toArray⟩] 213)):=ct
          have z1:=aa aJ z0
          have kF:=ab (cQ.tr aJ)
          by_cases Mf:s2=s
          ·have HE:=ab (show R=none by
            rw[HT.o,if_pos]
            simp only[List.contains_iff_mem,List.mem_map]
            refine ⟨ps[j+1+q],List.mem_iff_getElem.2 ⟨q,by rw[List.length_drop];omega,by rw[List.getElem_drop]⟩,by rw[<-Mf,iD]⟩)
           subst Mf
           clear cQ jt ma SU aJ e0 e1 iD ha2
           go_wp2
           refine bodyPost_ret (v:=.tuple #[.string ⟨#[]⟩,.bool false]) (by simp[results,Tryz.results161,go_sem]) rfl ⟨by rw[HE.o];rfl,(dG.o.tr bZ.o).tr kF.o⟩
          ·have IU:(s2 == s)=false:=by simpa using Mf
           have HN:=ab (show ∀ p (hp:p<ps.length),j+1<=p->p<j+1+(q+1)->ps[p].1≠s from fun p hp h1 h2=>by
            by_cases e:p=j+1+q
            ·subst e;rw[<-iD];exact Mf
            ·exact jt p hp h1 (by omega))
           clear cQ jt ma SU aJ e0 e1 iD ha2
           go_wp2
           go_roundw
           case rel=>exact ⟨q+1,by omega,by go_num,kF.o,HN.o⟩
           case measure=>simp[intOf];omega)
      ·obtain rfl:q=r0:=by omega
       have HE:=ab (show R=some (cH s) by
        rw[HT.o,if_neg]
        simp only[List.contains_iff_mem,List.mem_map]
        rintro ⟨p,hp,rfl⟩
        obtain ⟨i,hi,rfl⟩:=List.mem_iff_getElem.1 hp
        rw[List.length_drop]at hi
        rw[List.getElem_drop]at jt
        exact jt (j+1+i) (by omega) (by omega) (by have:=cY.o;have:=HR0.o;omega) rfl)
       have CH:=ew s wr (by have:=HSl.o;omega)
       obtain ⟨SV,kF⟩:=aS CH cQ
       clear cQ jt CH
       go_wp2_with (go_at_call 130;refine SV.o.mono ?_;rintro e w5 ⟨rfl,rfl⟩)
       refine bodyPost_ret (v:=.tuple #[.string ⟨(cH s).toArray⟩,.bool true]) (by simp[results,Tryz.results161,go_sem]) rfl ⟨by rw[HE.o];rfl,(dG.o.tr bZ.o).tr kF.o⟩)
   ·have F8:(a == x)=false:=by simpa using hax
    simp only[F8,Bool.false_eq_true,if_false]at ht
    have HT:=ab ht
    clear ht az b1 c0 c1 hs ha bA hy hsl
    go_wp2
    go_roundw
    case rel=>exact ⟨j,by omega,by go_num,bZ.o,HT.o⟩
    case measure=>simp[intOf]
theorem nG {c:Sco} {ins:List Str} {l:List Tm} {k:Nat} (h:k<l.length):dU c ins (l.take (k+1))=match dU c ins (l.take k),io c ins l[k] with | some us,some u=>some (us ++ [u]) | _,_=>none:=by
 induction l generalizing k with
 | nil=>simp at h
 | cons t l ih=>
  cases k with
  | zero=>
   simp only[List.take_succ_cons,List.take_zero,List.getElem_cons_zero,dU]
   cases io c ins t <;> rfl
  | succ k=>
   have:=ih (k:=k) (by simpa using h)
   simp only[List.take_succ_cons,List.getElem_cons_succ,dU]
   rw[this]
   cases io c ins t <;> cases dU c ins (l.take k) <;> cases io c ins (l[k]'(by simpa using h)) <;> rfl
theorem xQ {c:Sco} {ins:List Str} {l:List Tm} {t:Tm} (ht:t∈l) (h:io c ins t=none):dU c ins l=none:=by
 induction l with
 | nil=>cases ht
 | cons u l ih=>
  rcases List.mem_cons.1 ht with rfl | ht
  ·simp[dU,h]
  ·simp only[dU,ih ht]
   cases io c ins u <;> rfl
theorem gA {W:World} {B:Nat} {q:PlQ} {T:TypeId} (h:W.heap[B]?=some (.cells q.cells T (0,0))) :
  W.cell? ⟨B,0,none⟩=some (.int .u8 q.s.o)/\W.cell? ⟨B,1,none⟩=some (.string q.s.n)/\W.cell? ⟨B,2,none⟩=some (.slice q.s.a q.s.l q.s.c)/\W.cell? ⟨B,3,none⟩=some (.slice q.s.b q.s.m q.s.e)/\W.cell? ⟨B,4,none⟩=some (.int .u8 q.f.o)/\W.cell? ⟨B,5,none⟩=some (.string q.f.n)/\W.cell? ⟨B,6,none⟩=some (.slice q.f.a q.f.l q.f.c)/\W.cell? ⟨B,7,none⟩=some (.slice q.f.b q.f.m q.f.e)/\W.cell? ⟨B,8,none⟩=some (.slice q.a q.l q.c):=
 ⟨ai h 0,ai h 1,ai h 2,ai h 3,ai h 4,ai h 5,ai h 6,ai h 7,ai h 8⟩
theorem rQ {X:World} {B:Nat} {c0 c1 c2:Value} {T:TypeId} (hx:X.heap[B]?=some (.cells #[c0,c1,c2] T (0,0))) (v0 v1 v2:Value):∃W6,W6=((X.setCell ⟨B,0,none⟩ v0).setCell ⟨B,1,none⟩ v1).setCell ⟨B,2,none⟩ v2/\W6.heap[B]?=some (.cells #[v0,v1,v2] T (0,0))/\Kp (fun b=>b=B) X W6/\W6.cell? ⟨B,0,none⟩=some v0/\W6.cell? ⟨B,1,none⟩=some v1/\W6.cell? ⟨B,2,none⟩=some v2:=
 have h:=oy (v0:=v0) (v1:=v1) (v2:=v2) hx
 ⟨_,rfl,h,d8,ai h 0,ai h 1,ai h 2⟩
theorem fI {X:World} {B:Nat} {c0 c1 c2:Value} {T:TypeId} (hx:X.heap[B]?=some (.cells #[c0,c1,c2] T (0,0))):X.cell? ⟨B,0,none⟩=some c0/\X.cell? ⟨B,1,none⟩=some c1/\X.cell? ⟨B,2,none⟩=some c2/\X.frozen? ⟨B,0,none⟩=false/\X.frozen? ⟨B,1,none⟩=false/\X.frozen? ⟨B,2,none⟩=false:=
 ⟨ai hx 0,ai hx 1,ai hx 2,ae hx 0,ae hx 1,ae hx 2⟩
theorem p9 (q:PlQ) (ps:List (Str×Str)) (kP:ps.length<=1000000) (gh:∀ p∈ps,p.1.length<=2000000) (L ins:List Str) (hL:L.length<=2000000) (Mg:∀ y,L.contains y=ins.contains y) (okL:Nat->Prop) (vL:Value) :
  ∀ (t:Tm),fitT t->∀ (ok:Nat->Prop) (w:World) (tq:TQ),PairsV w (.slice q.a q.l q.c) ps->StrsO okL w vL L->TermV ok w tq.val t →
  Calls Tryz.prog 94 #[q.val,tq.val,vL] w fun e w'=>(∃p:TQ,e=.returned (.tuple #[p.val,.bool (io ps.reverse ins t).isSome])/\∀ u,io ps.reverse ins t=some u->TermV (w.heap.size<=·) w' p.val u)/\Below w.heap.size w w':=by
 obtain ⟨i0,hi,rq,jS,hO⟩:=info_parts fW
 have GL:=ce kP gh hL Mg
 clear kP gh hL Mg
 have pp190a:=();exact pm190
end
end Go.Proofs.YtokemihbkeddoaaGreatDoor
