/-
The plain law of MatchBack.
-/
import Derived.Test.YtokemihbkeddoaaGreatDoorRows
import Derived.Test.YtokemihbkeddoaaGreatDoorV09
namespace Go.Proofs.YtokemihbkeddoaaGreatDoor
open Go Go.RowKit Lib
set_option maxRecDepth 100000
set_option maxHeartbeats 64000000
variable{α:Type}{m ns:List Str}{n:Str}{p:Pl}{b:Bd}{s f g:Fm}{o:Oper}{W:World}{v:Value}{j d:Nat}{wM:Array TypeId}{ty T T2:TypeId}{pos:String}{ee:Array Edge}
mutual
def pY:Tm->List Str|.mk v n a=>(if v&&dl n then[n]else[])++ij a
def ij:List Tm->List Str|[]=>[]|t::l=>pY t++ij l
end
mutual
def metasF:Fm->List Str|.mk o n a s=>(if(o==15||o==16)&&dl n then[n]else[])++(ij a++mD s)
def mD:List Fm->List Str|[]=>[]|t::l=>metasF t++mD l
end
theorem sA(x:Str)(v:α):∀(l:List (Str×α))(y:Str),y∈(g_ x v l).map (·.1)↔y=x\/y∈l.map (·.1)
 |[],y=>by simp[g_]
 |(z,u)::r,y=>by
  unfold g_;split
  ·simp
  ·simp only[cC,cG,sA x v r y];constructor
   ·rintro(h|h|h)
    ·exact .inr (.inl h)
    ·exact .inl h
    ·exact .inr (.inr h)
   ·rintro(h|h|h)
    ·exact .inr (.inl h)
    ·exact .inl h
    ·exact .inr (.inr h)
mutual
theorem wW(sc:List Str):∀(t u:Tm)(k k':List (Str×Tm)),(∀x∈k.map (·.1),x∈m)->(∀x∈pY t,x∈m)->cY sc k t u=some k'->∀x∈k'.map (·.1),x∈m
 |.mk v n a,.mk v' n' a',k,k',hk,ht,h=>by
  unfold cY at h
  by_cases hm:(v&&dl n)=true
  ·rw[aw hm]at h;have hn:n∈m:=ht n (by simp[pY,hm])
   cases hg:getB k n with
   |none=>
    rw[hg]at h;simp only[c9]at h;subst h;intro x hx;rw[sA]at hx;rcases hx with rfl|hx
    ·exact hn
    ·exact hk x hx
   |some w=>
    have qet:=();exact qb6
  ·rw[ak hm]at h;split at h
   ·split at h
    ·cases h;exact hk
    ·cases h
   ·split at h
    ·cases h
    ·exact tu sc a a' k k' hk (fun x hx=>ht x (by simp[pY,hx])) h
theorem tu(sc:List Str):∀(t u:List Tm)(k k':List (Str×Tm)),(∀x∈k.map (·.1),x∈m)->(∀x∈ij t,x∈m)->bL sc k t u=some k'->∀x∈k'.map (·.1),x∈m
 |[],u,k,k',hk,_,h=>by simp only[bL,c9]at h;rw[<-h];exact hk
 |_::_,[],k,k',hk,_,h=>by simp only[bL,c9]at h;rw[<-h];exact hk
 |t::l,u::w,k,k',hk,ht,h=>by
  simp only[bL]at h
  cases h1:cY sc k t u with
  |none=>rw[h1]at h;cases h
  |some k1=>
   rw[h1]at h;exact tu sc l w k1 k' (wW sc t u k k1 hk (fun x hx=>ht x (by simp[ij,hx])) h1) (fun x hx=>ht x (by simp[ij,hx])) h
end
theorem wX{c:Sco}:∀(t u:List Tm)(k k':List (Str×Tm)),(∀x∈k.map (·.1),x∈m)->(∀x∈ij t,x∈m)->cA c k t u=some k'->∀x∈k'.map (·.1),x∈m
 |[],u,k,k',hk,_,h=>by simp only[cA,c9]at h;rw[<-h];exact hk
 |_::_,[],k,k',hk,_,h=>by simp only[cA,c9]at h;rw[<-h];exact hk
 |t::l,u::w,k,k',hk,ht,h=>by
  simp only[cA]at h
  cases h0:iB c [] u with
  |none=>rw[h0]at h;cases h
  |some im=>
   rw[h0]at h;simp only at h
   cases h1:cY (c.map (·.1)) k t im with
   |none=>rw[h1]at h;cases h
   |some k1=>
    rw[h1]at h;exact wX l w k1 k' (wW _ t im k k1 hk (fun x hx=>ht x (by simp[ij,hx])) h1) (fun x hx=>ht x (by simp[ij,hx])) h
structure NamesIn(k:Bd)(m:List Str):Prop where
 f:∀x∈k.fs.map (·.1),x∈m
 t:∀x∈k.ts.map (·.1),x∈m
theorem MM(h:dA n=true):dl n=true:=by unfold dl;rw[h];rfl
theorem MN(h:cX n=true):dl n=true:=by unfold dl;rw[h];simp
theorem T9(hp:PlOk p)(h:p.s.op=15\/p.s.op=16):p.s.n∈metasF p.s:=by
 have hs:=hp.s;obtain⟨⟨o,n,a,s⟩,f,c⟩:=p;simp only[okF,ae]at hs;simp only[Fm.op,Fm.n]at h⊢;have hn:dA n=true:=by
  have:=hs.2.1.1;rcases h with rfl|rfl
  ·exact this
  ·exact this
 have:((o==15||o==16)&&dl n)=true:=by
  rw[MM hn];rcases h with rfl|rfl<;>decide
 simp[metasF,this]
theorem EM{k:Bd}(hp:PlOk p)(hk:NamesIn k m)(hm:∀x∈metasF p.s,x∈m):NamesIn (aY k p).1 m:=by
 unfold aY
 by_cases h16:p.s.op=16
 ·rw[aw h16];exact hk
 ·rw[ak h16]
  by_cases ja:p.s.op=15
  ·rw[aw ja]
   cases e8 p.c [] p.f with
   |none=>exact hk
   |some im=>
    simp only
    cases getB k.fs p.s.n with
    |none=>
     refine⟨fun x hx=>?_,hk.t⟩;simp only at hx;rw[sA]at hx;rcases hx with rfl|hx
     ·exact hm _ (T9 hp (.inl ja))
     ·exact hk.f x hx
    |some g=>
     simp only;split
     ·exact hk
     ·exact hk
  ·rw[ak ja];split
   ·exact hk
   ·cases ha:cA p.c k.ts p.s.a p.f.a with
    |none=>exact hk
    |some ts=>
     refine⟨hk.f,wX p.s.a p.f.a k.ts ts hk.t (fun x hx=>hm x ?_) ha⟩;obtain⟨⟨o,n,a,s⟩,f,c⟩:=p;simp only[Fm.a]at hx;simp[metasF,hx]
theorem T'{k:Bd}(hp:PlOk p)(hk:NamesIn k m)(hm:∀x∈metasF p.s,x∈m):NamesIn (dp k p).1 m:=by
 unfold dp
 by_cases h16:(p.s.op !=16)=true
 ·rw[aw h16];exact hk
 ·rw[ak h16];obtain⟨x0,y0,ha,hx0,hy0,hn⟩:=lk hp (by simpa using h16);have hy:y0∈m:=hm y0 (by
   obtain⟨⟨o,n,a,s⟩,f,c⟩:=p;simp only[Fm.a]at ha;subst ha;simp[metasF,ij,pY,aP,MN hy0])
  have add:∀(t:Tm)(l:List (Str×Tm)),(∀x∈l.map (·.1),x∈m)->∀x∈(g_ y0 t l).map (·.1),x∈m:=fun t l hl x hx=>by
   rw[sA]at hx;rcases hx with rfl|hx
   ·exact hy
   ·exact hl x hx
  cases getB k.fs p.s.n with
  |none=>exact hk
  |some g=>
   simp only
   cases e8 p.c [] p.f with
   |none=>exact hk
   |some im=>
    simp only[hn];split
    ·split
     ·exact hk
     ·exact hk
    ·cases getB k.ts y0 with
     |some t=>
      simp only;split
      ·exact⟨hk.f,hk.t⟩
      ·split
       ·exact⟨hk.f,hk.t⟩
       ·exact⟨hk.f,hk.t⟩
     |none=>
      simp only
      cases gD g im (bI x0)with
      |none=>exact hk
      |some t=>
       simp only[Option.map_some];split
       ·exact⟨hk.f,add t _ hk.t⟩
       ·split
        ·exact⟨hk.f,add t _ hk.t⟩
        ·exact⟨hk.f,add t _ hk.t⟩
mutual
theorem wY:∀(s f:Fm)(c:Sco),∀p∈a_ c s f,∀x∈metasF p.s,x∈metasF s
 |.mk o n a s,.mk o' n' a' s',c,p,hp,x,hx=>by
  simp only[a_,cG]at hp;rcases hp with rfl|hp
  ·exact hx
  ·have:=tw s s' _ p hp x hx;simp[metasF,this]
theorem tw:∀(s f:List Fm)(c:Sco),∀p∈aJ c s f,∀x∈metasF p.s,x∈mD s
 |[],_,_,p,hp,_,_=>by simp[aJ]at hp
 |_::_,[],_,p,hp,_,_=>by simp[aJ]at hp
 |t::l,u::m,c,p,hp,x,hx=>by
  simp only[aJ,List.mem_append]at hp;simp only[mD,List.mem_append];rcases hp with hp|hp
  ·exact .inl (wY t u c p hp x hx)
  ·exact .inr (tw l m c p hp x hx)
end
theorem o7(hb:validB b=true):∀(l:List Pl)(k:Bd),(∀p∈l,PlOk p/\Cf b p/\∀x∈metasF p.s,x∈m)->Less k b->NamesIn k m->(gE aY k l).2=0/\Less (gE aY k l).1 b/\NamesIn (gE aY k l).1 m
 |[],k,_,hl,hn=>⟨rfl,hl,hn⟩
 |p::l,k,h,hl,hn=>by
  obtain⟨h1,h2,h3⟩:=h p (gp ..);obtain⟨e,hl'⟩:=He hb h1 h2 hl;have Ay:=EM h1 hn h3;simp only[gE];rw[aw e];exact o7 hb l _ (fun q hq=>h q (fL _ hq)) hl' Ay
theorem tC(hb:validB b=true):∀(l:List Pl)(k:Bd),(∀p∈l,PlOk p/\Cf b p/\∀x∈metasF p.s,x∈m)->Less k b->NamesIn k m→
  ((gE dp k l).2=0/\Less (gE dp k l).1 b/\NamesIn (gE dp k l).1 m)\/(((gE dp k l).2=70\/(gE dp k l).2=71)/\∃p∈l,p.s.op=16)
 |[],k,_,hl,hn=>.inl ⟨rfl,hl,hn⟩
 |p::l,k,h,hl,hn=>by
  obtain⟨h1,h2,h3⟩:=h p (gp ..);have Ay:=T' h1 hn h3;simp only[gE];rcases Pq hb h1 h2 hl with⟨e,hl'⟩|⟨e16,e⟩
  ·rw[aw e];rcases tC hb l _ (fun q hq=>h q (fL _ hq)) hl' Ay with h|⟨h,q,hq,h16⟩
   ·exact .inl h
   ·exact .inr ⟨h,q,fL _ hq,h16⟩
  ·rw[ak (by rcases e with e|e<;>rw[e]<;>decide)];exact .inr ⟨e,p,gp ..,e16⟩
theorem Qa(h:fillS s b=(f,0))(eW:sq b):
  ((cP [(s,f)] ⟨[],[]⟩).2=(0,0)/\Less (cP [(s,f)] ⟨[],[]⟩).1 b/\NamesIn (cP [(s,f)] ⟨[],[]⟩).1 (metasF s))∨
  (∃e,(e=70\/e=71)/\cP [(s,f)] ⟨[],[]⟩=(⟨[],[]⟩,0,e)/\∃p∈a_ [] s f,p.s.op=16):=by
 have ar:=FM h eW;obtain⟨h1,h2,h3,_,_⟩:=AF h;have hve:validB ⟨[],[]⟩=true:=by decide
 have hok:(fM s&&bT f)=true:=by rw[h1,h3];rfl
 have hb:fA 0 [(s,f)]=none:=(kF _ 0).2 (fun x hx=>by simp only[List.mem_singleton]at hx;subst hx;exact hok);have eJ:∀p∈a_ [] s f,PlOk p/\Cf b p/\∀x∈metasF p.s,x∈metasF s:=fun p hp=>⟨mJ s f [] (xV hok) p hp,ar p hp,wY s f [] p hp⟩
 have tf:Less ⟨[],[]⟩ b:=⟨fun n g hg=>by simp[getB]at hg,fun n t ht=>by simp[getB]at ht,hve⟩;have tW:NamesIn ⟨[],[]⟩ (metasF s):=⟨fun x hx=>by simp at hx,fun x hx=>by simp at hx⟩;obtain⟨c1,c2,c3⟩:=o7 h2 (a_ [] s f) ⟨[],[]⟩ eJ tf tW;have p1:e7 aY 0 ⟨[],[]⟩ [(s,f)]=((gE aY ⟨[],[]⟩ (a_ [] s f)).1,0,0):=by
  rw[Cs,aw c1];rfl
 rw[Ct hb hve,p1];simp only;rw[Cs];rcases tC h2 (a_ [] s f) _ eJ c2 c3 with⟨d1,d2,d3⟩|⟨d1,d2⟩
 ·rw[aw d1];left;simp only[e7];rw[_w rfl rfl];exact⟨rfl,d2,d3⟩
 ·have jb:(gE dp (gE aY ⟨[],[]⟩ (a_ [] s f)).1 (a_ [] s f)).2≠0:=by rcases d1 with e|e<;>rw[e]<;>decide
  rw[ak jb];right;rw[VZ rfl jb];exact⟨_,d1,rfl,d2⟩
def T_(k:Nat):Str:=[104,111,108,101,UInt8.ofNat (97+k % 26),UInt8.ofNat (97+k / 26 % 26)]
mutual
def nA(ns:List Str):Tm->Tm
 |.mk v n a=>if v&&ns.contains n then .mk false (T_ (ns.idxOf n)) []else .mk v n (dC ns a)
def dC(ns:List Str):List Tm->List Tm|[]=>[]|t::l=>nA ns t::dC ns l
end
mutual
def et(ns:List Str):Fm->Fm|.mk o n a s=>.mk o n (dC ns a) (jC ns s)
def jC(ns:List Str):List Fm->List Fm|[]=>[]|t::l=>et ns t::jC ns l
end
def eS(l:List Fm):List Str:=l.flatMap fun f=>(di (aL [] f)).filter ct
theorem Y0:∀k,k<26->M7 (UInt8.ofNat (97+k))=true:=by decide
theorem Xe(k:Nat):xG (T_ k)=true:=by
 have h1:=Y0 (k % 26) (Nat.mod_lt _ (by omega));have h2:=Y0 (k / 26 % 26) (Nat.mod_lt _ (by omega));have hr:Ou.contains (T_ k)=false:=by simp[Ou,T_]
 have he:xG (T_ k)=(decide (5<16)&&(!Ou.contains (T_ k)&&(((97:UInt8)<=104&&(104:UInt8)<=116)&&([111,108,101,UInt8.ofNat (97+k % 26),UInt8.ofNat (97+k / 26 % 26)]:Str).all EZ))):=rfl;rw[he,hr];simp only[List.all_cons,List.all_nil,EZ,h1,h2,Bool.true_or,Bool.and_true];decide
mutual
theorem Ua(ns:List Str):∀t,jc false (aK t)=true->(∀z,ct z=true->uX z t≠0->z∈ns)->jc false (nA ns t)=true/\nodesT (nA ns t)=nodesT t/\dh (nA ns t)=dh t
 |.mk v n a,h,hz=>by
  by_cases hc:(v&&ns.contains n)=true
  ·simp only[nA,hc,↓reduceIte];simp only[ae]at hc;obtain⟨rfl,_⟩:=hc;simp only[aK,jc,↓reduceIte,ae]at h;have qnV:=();exact qfo
  ·simp only[nA,hc,bO,↓reduceIte];cases v
   ·simp only[aK,Bool.false_and,bO,↓reduceIte,jc,ae]at h;obtain⟨h1,h2,h3⟩:=yR ns a h.2.2 (fun z h1 h2=>hz z h1 (by simp only[uX];omega));have e:(bF a).length=(dC ns a).length:=by rw[nC ns a];exact uF a
    simp only[jc,bO,↓reduceIte,ae,nodesT,dh,h2,h3,<-e];exact⟨⟨h.1,h.2.1,h1⟩,trivial,trivial⟩
   ·simp only[dz,Bool.not_eq_true]at hc;simp only[aK,dz,jc,↓reduceIte,ae,Bool.false_and,Bool.or_false]at h;exact qfo
theorem yR(ns:List Str):∀t,d9 false (bF t)=true->(∀z,ct z=true->eM z t≠0->z∈ns)->d9 false (dC ns t)=true/\nodesTs (dC ns t)=nodesTs t/\bE (dC ns t)=bE t
 |[],_,_=>⟨rfl,rfl,rfl⟩
 |t::l,h,hz=>by
  simp only[bF,d9,ae]at h;obtain⟨h1,h2,h3⟩:=Ua ns t h.1 (fun z a b=>hz z a (by simp only[eM];omega));obtain⟨g1,g2,g3⟩:=yR ns l h.2 (fun z a b=>hz z a (by simp only[eM];omega));simp only[dC,d9,nodesTs,bE,h1,h2,h3,g1,g2,g3,Bool.and_self,and_self]
theorem nC(ns:List Str):∀t,(dC ns t).length=t.length
 |[]=>rfl
 |t::l=>by simp[dC,nC ns l]
theorem uF:∀t,(bF t).length=t.length
 |[]=>rfl
 |t::l=>by simp[bF,uF l]
end
theorem DD(ns:List Str):∀t,(jC ns t).length=t.length
 |[]=>rfl
 |t::l=>by simp[jC,DD ns l]
mutual
theorem Ky(ns:List Str):∀f,okF false (bl f)=true->(∀z,ct z=true->ea z f≠0->z∈ns)->okF false (et ns f)=true/\nodesF (et ns f)=nodesF f/\depthF (et ns f)=depthF f
 |.mk o n a s,h,hz=>by
  simp only[bl,okF,Bool.false_and,Bool.or_false,ae]at h;obtain⟨h1,h2,h3⟩:=yR ns a h.2.2.2.1 (fun z a b=>hz z a (by simp only[ea];omega));obtain⟨g1,g2,g3⟩:=F6 ns s h.2.2.2.2 (fun z a b=>hz z a (by simp only[ea];omega));have e1:(bF a).length=(dC ns a).length:=by rw[nC ns a];exact uF a
  have e2:(bR s).length=(jC ns s).length:=by rw[DD ns s];exact uk s
  have ho:(o !=16)=true:=by
   rw[bne_iff_ne];rintro rfl;have:=h.1;revert this;decide
  simp only[et,okF,nodesF,depthF,h1,h2,h3,g1,g2,g3,ho,Bool.false_and,Bool.or_false,ae,<-e1,<-e2,Bool.true_or,and_self];exact⟨⟨h.1,h.2.1,trivial⟩,trivial⟩
theorem F6(ns:List Str):∀f,dt false (bR f)=true->(∀z,ct z=true->iq z f≠0->z∈ns)->dt false (jC ns f)=true/\nodesFs (jC ns f)=nodesFs f/\aV (jC ns f)=aV f
 |[],_,_=>⟨rfl,rfl,rfl⟩
 |t::l,h,hz=>by
  simp only[bR,dt,ae]at h;obtain⟨h1,h2,h3⟩:=Ky ns t h.1 (fun z a b=>hz z a (by simp only[iq];omega));obtain⟨g1,g2,g3⟩:=F6 ns l h.2 (fun z a b=>hz z a (by simp only[iq];omega));simp only[jC,dt,nodesFs,aV,h1,h2,h3,g1,g2,g3,Bool.and_self,and_self]
end
def Ib(ns:List Str)(τ:Str->Dt)(z:Str):Dt:=if ns.contains z then .app (T_ (ns.idxOf z)) []else τ z
mutual
theorem Ub(ns:List Str)(τ:Str->Dt):∀t,fY τ (nA ns t)=fY (Ib ns τ) t
 |.mk v n a=>by
  cases v
  ·simp[nA,fY,sB ns τ a]
  ·by_cases hc:ns.contains n=true
   ·simp only[nA,Ib,hc,Bool.and_self,↓reduceIte,fY,bO,dB]
   ·have hc:ns.contains n=false:=by simpa using hc
    simp only[nA,fY,hc,Ib,Bool.and_false,bO,↓reduceIte]
theorem sB(ns:List Str)(τ:Str->Dt):∀t,dB τ (dC ns t)=dB (Ib ns τ) t
 |[]=>rfl
 |t::l=>by simp only[dC,dB,Ub ns τ t,sB ns τ l]
end
theorem Uc(τ:Str->Dt)(hn:ns.contains n=false)(v:Dt):Ib ns (upd τ n v)=upd (Ib ns τ) n v:=by
 funext z
 unfold Ib upd
 by_cases h:z=n
 ·subst h;simp only[hn,beq_self_eq_true,bO,↓reduceIte]
 ·have:(z==n)=false:=by simpa using h
  simp only[this,bO,↓reduceIte]
mutual
theorem DE(ns:List Str)(hns:∀z∈ns,ct z=true):∀(f:Fm)(τ:Str->Dt)(d:Nat),EG f=true->jF τ d (et ns f)=jF (Ib ns τ) d f
 |.mk o n a s,τ,d,hb=>by
  simp only[EG,ae,Bool.or_eq_true,Bool.not_eq_true']at hb
  by_cases hq:bm o=true
  ·have hn:ns.contains n=false:=by
    cases hc:ns.contains n
    ·rfl
    ·have h1:=hns n (List.contains_iff_mem.1 hc);have h2:=hb.1.resolve_left (by rw[hq];simp);rw[vp h2]at h1;cases h1
   simp only[et,jF,hq,↓reduceIte,sB,yS ns hns s _ _ hb.2,Uc τ hn]
  ·simp only[et,jF,hq,bO,↓reduceIte,sB,yS ns hns s _ _ hb.2]
theorem yS(ns:List Str)(hns:∀z∈ns,ct z=true):∀(f:List Fm)(τ:Str->Dt)(d:Nat),sQ f=true->em τ d (jC ns f)=em (Ib ns τ) d f
 |[],_,_,_=>rfl
 |t::l,τ,d,hb=>by
  simp only[sQ,ae]at hb;simp only[jC,em,DE ns hns t τ d hb.1,yS ns hns l τ d hb.2]
end
theorem DF{l:List Fm}:∀z∈eS l,ct z=true:=by
 intro z hz;simp only[eS,List.mem_flatMap,List.mem_filter]at hz;obtain⟨_,_,_,h⟩:=hz;exact h
theorem Ud{l:List Fm}(hf:f∈l)(hb:EG f=true):∀z,ct z=true->ea z f≠0->z∈eS l:=by
 intro z hz ho;have hv:fH z=false:=by
  cases h:fH z
  ·rfl
  ·rw[vp h]at hz;cases hz
 have:z∈aL [] f:=Classical.not_not.1 (fun h=>ho ((yx hv f hb).2 h));simp only[eS,List.mem_flatMap,List.mem_filter];exact⟨f,hf,(AC _ _).2 this,hz⟩
theorem Ic(hf:bT (bl f)=true)(hg:bT (bl g)=true)(h:db f=db g):
  bT (et (eS [f,g]) f)=true/\bT (et (eS [f,g]) g)=true/\cg [] (et (eS [f,g]) f) (et (eS [f,g]) g)=true:=by
 have bf:=nY hf;have bg:=nY hg;have ht:∀x:Fm,x∈[f,g]->bT (bl x)=true->EG x=true->okF false (et (eS [f,g]) x)=true/\bT (et (eS [f,g]) x)=true:=fun x hx hr hb=>by
  simp only[bT,ae,(g9 x).1,(g9 x).2]at hr⊢;obtain⟨h1,h2,h3⟩:=Ky (eS [f,g]) x hr.1 (Ud hx hb);rw[h2,h3];exact⟨h1,h1,hr.2⟩
 obtain⟨f1,f2⟩:=ht f (by simp) hf bf;obtain⟨g1,g2⟩:=ht g (by simp) hg bg;refine⟨f2,g2,(jg (oh _ f1) (oh _ g1)).2 ?_⟩;unfold db;rw[DE _ DF f _ _ bf,DE _ DF g _ _ bg];exact Q' h _ _
theorem zW:∀(l:List Str)(x:Str),dw (x::l)=true->∀y∈l,Op.bytesLess x y=true
 |[],_,_,y,hy=>by cases hy
 |z::l,x,h,y,hy=>by
  simp only[dw,ae]at h;rcases cG.1 hy with rfl|hy
  ·exact h.1
  ·exact rd _ _ _ h.1 (zW l z h.2 y hy)
theorem kU:∀l:List Str,dw l=true->l.Nodup
 |[],_=>List.nodup_nil
 |x::l,h=>by
  refine List.nodup_cons.2 ⟨fun hx=>?_,kU l ((lK.1 h).2)⟩;have:=zW l x h x hx;rw[mK]at this;cases this
theorem Kz(h:dA n=true)(h2:cX n=true):False:=by
 simp only[dA,cX,ae]at h h2;have a:=h.2.2;have b:=h2.2.2
 cases hn:n.tail with
 |nil=>rw[hn]at a;simp[sV,nN]at a
 |cons c r=>
  rw[hn]at a b;simp only[sV,xG,nN,IA,ae,br,UInt8.le_iff_toNat_le]at a b;have e1:(90:UInt8).toNat=90:=rfl;have e2:(97:UInt8).toNat=97:=rfl;omega
theorem Ue{k:Bd}(hv:validB k=true)(hn:NamesIn k (metasF s)):k.fs.length+k.ts.length<=(di (metasF s)).length:=by
 obtain⟨h1,h2⟩:=(dj k).1 hv;simp only[U7,Ij,ae,List.all_eq_true]at h1 h2;have h:=vF (k.fs.map (·.1)++k.ts.map (·.1)) (di (metasF s)) (List.nodup_append.2 ⟨kU _ h1.2,kU _ h2.2,fun x hx y hy e=>by
  subst e;obtain⟨p,hp,rfl⟩:=List.mem_map.1 hx;obtain⟨q,hq,e⟩:=List.mem_map.1 hy;have a:=h1.1 p hp;have b:=h2.1 q hq;rw[e]at b;exact Kz a.1 b.1⟩) (fun x hx=>(AC _ _).2 (by
   rcases List.mem_append.1 hx with hx|hx
   ·exact hn.f x hx
   ·exact hn.t x hx))
 simpa using h
theorem uG:∀{l:List (Str×α)}{j:Nat}(_:(l.map (·.1)).Nodup)(h:j<l.length),getB l l[j].1=some l[j].2
 |(x,v)::l,0,_,_=>by simp[getB]
 |(x,v)::l,j+1,hn,h=>by
  simp only[cC,List.nodup_cons]at hn;have hj:j<l.length:=by simpa using h
  have ih:=uG hn.2 hj;simp only[List.getElem_cons_succ,getB];rw[ak (fun e=>hn.1 (by rw[ej]at e;rw[e];exact List.mem_map.2 ⟨_,ap hj,rfl⟩))];exact ih
theorem Uf{k:Bd}(hl:Less k b)(hb:validB b=true):∀j (h:j<k.fs.length),∃g',getB b.fs k.fs[j].1=some g'/\db g'=db k.fs[j].2/\bT (bl g')=true/\bT (bl k.fs[j].2)=true:=by
 intro j h;obtain⟨h1,_⟩:=(dj k).1 hl.v;obtain⟨h2,_⟩:=(dj b).1 hb;have Rb:=h1;simp only[U7,ae,List.all_eq_true]at Rb;have hg:getB k.fs k.fs[j].1=some k.fs[j].2:=uG (kU _ Rb.2) h;obtain⟨g',e1,e2⟩:=hl.f _ _ hg;have:=Rb.1 _ (ap h);exact⟨g',e1,e2.symm,(iZ h2 e1).1,this.2⟩
theorem F7{k:Bd}(hl:Less k b):∀j (h:j<k.ts.length),getB b.ts k.ts[j].1=some k.ts[j].2:=by
 intro j h;obtain⟨_,h1⟩:=(dj k).1 hl.v;simp only[Ij,ae]at h1;exact hl.t _ _ (uG (kU _ h1.2) h)
def lT(l:List Fm):BitVec 32:=l.foldl (fun m p=>if p.op<32 then m ||| BitVec.twoPow 32 p.op.toNat else m) 0#32
theorem Qb(l:List Fm)(p:Fm):lT (l++[p])=if p.op<32 then lT l ||| BitVec.twoPow 32 p.op.toNat else lT l:=by simp[lT]
theorem F8:∀(l:List Fm)(m:BitVec 32)(i:Nat),m.getLsbD i=true->(l.foldl (fun m (p:Fm)=>if p.op<32 then m ||| BitVec.twoPow 32 p.op.toNat else m) m).getLsbD i=true
 |[],m,i,h=>h
 |p::l,m,i,h=>by
  refine F8 l _ i ?_;show(if p.op<32 then _ else _:BitVec 32).getLsbD i=true;split
  ·simp[h]
  ·exact h
theorem Of:∀(l:List Fm)(m:BitVec 32)(p:Fm),p∈l->p.op=16->(l.foldl (fun m (p:Fm)=>if p.op<32 then m ||| BitVec.twoPow 32 p.op.toNat else m) m).getLsbD 16=true
 |q::l,m,p,h,h16=>by
  rcases cG.1 h with rfl|h
  ·refine F8 l _ 16 ?_;show(if p.op<32 then _ else _:BitVec 32).getLsbD 16=true;rw[h16];simp
  ·exact Of l _ p h h16
theorem Ug{l:List Fm}{p:Fm}(h:p∈l)(h16:p.op=16):BitVec.ofInt 32 (((lT l).toNat:Int).fdiv (2^16)) &&& 1#32=1#32:=by
 have hb:(lT l).getLsbD 16=true:=Of l _ p h h16;have e:((lT l).toNat:Int).fdiv (2^16)=(((lT l) >>> 16).toNat:Int):=by
  rw[Int.fdiv_eq_ediv_of_nonneg _ (by decide),BitVec.toNat_ushiftRight,Nat.shiftRight_eq_div_pow]
  norm_cast
 rw[e];have e2:BitVec.ofInt 32 (((lT l) >>> 16).toNat:Int)=(lT l) >>> 16:=by rw[BitVec.ofInt_natCast,BitVec.ofNat_toNat,BitVec.setWidth_eq]
 rw[e2];generalize lT l=m at hb;apply BitVec.eq_of_getLsbD_eq;intro i hi;simp only[BitVec.getLsbD_and,BitVec.getLsbD_ushiftRight,BitVec.getLsbD_one]
 by_cases h0:i=0
 ·subst h0;simpa using hb
 ·simp[h0]
section
attribute [local go_sem] Oper.semAt_some
theorem Qc(x:BitVec 32):IntKind.u32.wrap (x.toNat:Int)=(x.toNat:Int):=by
 have h:=x.isLt;have h1:(x.toNat:Int) % 2^IntKind.u32.bits=x.toNat:=by
  show(x.toNat:Int) % 4294967296=_;omega
 unfold IntKind.wrap;rw[h1];simp[IntKind.signed]
theorem Xf(m:BitVec 32)(n:Int):bits .or .u32 (m.toNat:Int) (2^n.toNat % 4294967296)=((m ||| BitVec.twoPow 32 n.toNat).toNat:Int):=by
 have e:BitVec.ofInt 32 ((2:Int)^n.toNat % 4294967296)=BitVec.twoPow 32 n.toNat:=by
  have h2:(2:Int)^n.toNat % 4294967296=(((BitVec.twoPow 32 n.toNat).toNat:Nat):Int):=by
   rw[BitVec.toNat_twoPow,Int.natCast_emod,Int.natCast_pow];rfl
  rw[h2,BitVec.ofInt_natCast,BitVec.ofNat_toNat,BitVec.setWidth_eq]
 have e2:BitVec.ofInt 32 (m.toNat:Int)=m:=by rw[BitVec.ofInt_natCast,BitVec.ofNat_toNat,BitVec.setWidth_eq]
 show IntKind.u32.wrap (((BitVec.ofInt 32 (m.toNat:Int) ||| BitVec.ofInt 32 ((2:Int)^n.toNat % 4294967296)).toNat:Int))=_;rw[e,e2];exact Qc _
def MAt(b:Nat)(l:List Fm)(W:World):Prop:=W.heap[b]?=some (.cells #[.int .u32 ((lT l).toNat:Int)] 74 (0,0))
theorem Xg(f:Fm)(ar:fitF f)(ok:Nat->Prop)(w:World)(q:FQ)(hq:FormV ok w q.val f):
  Calls Tryz.prog 41 #[q.val] w fun e w'=>e=.returned (.int .u32 ((lT (iC f)).toNat:Int))/\Below w.heap.size w w':=by
 have hq:=hq.lt;have⟨jw,HQ⟩:=aS ar hq;clear ar hq;refine Is ?_;refine callsIn_of_wp_marks Tryz.func41 rfl trivial ?_ rfl;simp only[Tryz.ntmps41,Nat.reduceAdd,Nat.reduceSub,lE];exact qeD
theorem yT(w:World)(lo:Nat)(hlo:lo<=w.heap.size)(v1:Value)(l1:List Str)(h1:OwnS lo w v1 l1)(b2:Nat)(x:Str)(h2:w.cell? ⟨b2,0,none⟩=some (.string ⟨x.toArray⟩))(hl:l1.length+1<=4000000)(ty:TypeId):
  ∃v' w',(Builtin.append_ #[66,66] ty #[v1,.slice (some ⟨b2,0,none⟩) 1 1]).run Tryz.prog w=.ok v' w'/\OwnS lo w' v' (l1++[x])/\w.grownBy w' v1.ownBlock/\∀b,v'.ownBlock=some b->v1.ownBlock=some b\/w.heap.size<=b:=by
 obtain⟨i0,hi,ow,iM,gY⟩:=info_parts vN;obtain⟨g,cap,w',hr,h3,h4,h5,_⟩:=run_append_lies (P:=Tryz.prog) w 66 ty lo 9 i0 (.string ByteArray.empty) 1 16 Tryz.underlying66 hi ow iM gY rfl (by decide) v1 l1.length (l1.map encStr) h1 ⟨b2,0,none⟩ 1 1 [encStr x] rfl (fun j u hu=>by
  cases j with
  |zero=>rw[rY,h2];simpa using hu
  |succ j=>simp at hu) (by simp[encStr,Value.oneCell']) (by decide) (by unfold maxLen;omega) (by omega) hlo _ rfl
 refine⟨_,_,hr,?_,h4,fun b hb=>?_⟩
 ·unfold OwnS;rw[cU,List.map_append];exact h3
 ·cases hb;rcases h5 with h|h
  ·exact .inl h
  ·exact .inr (Nat.le_of_eq h.symm)
theorem sR{ops:Array Oper}{rest:List Oper}{a:Act}{w:World}{Q:Exit->Act->World->Prop}(uN:o.guard=none)(s x:Operand)
  (ho:o.op=.call {callee:=.builtin .append,args:=#[s,x],argTypes:=#[66,66] }) (lo:Nat) (hlo:lo<=w.heap.size) (v1:Value) (l1:List Str) (hs:a.eval s=v1) (h1:OwnS lo w v1 l1) (b2:Nat) (y:Str) (hx:a.eval x=.slice (some ⟨b2,0,none⟩) 1 1) (h2:w.cell? ⟨b2,0,none⟩=some (.string ⟨y.toArray⟩)) (hl:l1.length+1<=4000000)
  (h:∀v' w',OwnS lo w' v' (l1++[y])->w.grownBy w' v1.ownBlock->(∀b,v'.ownBlock=some b->v1.ownBlock=some b\/w.heap.size<=b)->wpList Tryz.prog ops Q rest (a.put o.dst v') w'):wpList Tryz.prog ops Q (o::rest) a w:=by
 refine wpList_plain uN fun K hK=>?_;obtain⟨v',w',hr,h3,h4,h5⟩:=yT w lo hlo v1 l1 h1 b2 y h2 hl o.type;exact qca
theorem StrsO.own{ok:Nat->Prop}{l:List Str}(h:StrsO ok W v l):StrsO (fun b=>v.ownBlock=some b) W v l:=by
 obtain⟨a,cap,rfl,hc,h⟩:=h;refine⟨a,cap,rfl,hc,?_⟩;rcases h with h|⟨b,off,rfl,_,h⟩
 ·exact .inl h
 ·exact .inr ⟨b,off,rfl,rfl,h⟩
theorem StrsO.grown{W':World}{row:Option Nat}{l:List Str}(h:StrsO (fun b=>v.ownBlock=some b) W v l)(hg:W.grownBy W' row)(jb:∀b,row=some b->v.ownBlock≠some b):StrsO (fun b=>v.ownBlock=some b) W' v l:=by
 exact qaH
theorem KA{l:List Fm}(h:j<l.length):eS (l.take (j+1))=eS (l.take j)++(di (aL [] l[j])).filter ct:=by
 rw[mh h];simp only[eS,List.flatMap_append,List.flatMap_cons,List.flatMap_nil,List.append_nil]
theorem uH:∀l:List Fm,(eS l).length<=nodesFs l
 |[]=>by simp[eS]
 |t::l=>by
  have h1:=uH l;have h2:=List.length_filter_le ct (di (aL [] t));have h3:=eH (aL [] t);have h4:=fp t [];simp only[eS,List.flatMap_cons,cU,nodesFs]at h1⊢;omega
theorem yU(l:List Fm)(ar:fitFs l)(Im:nodesFs l<=1000000)(ok:Nat->Prop)(w:World)(la:Option Addr)(lc:Nat)(hl:FormsV ok w (.slice la l.length lc) l):
  Calls Tryz.prog 87 #[.slice la l.length lc] w fun e w'=>(∃v,e=.returned v/\OwnS w.heap.size w' v (eS l))/\Below w.heap.size w w':=by
 have LR:=hl.move (ok':=fun b=>b<w.heap.size) (fun _ _ h=>⟨h,rfl⟩);have hln:=ar.len;have⟨n1,eh⟩:=aj l.length;rw[<-eh]at LR hln⊢;have⟨HN,HLV⟩:=aS eh LR;have HF:=aA ar Im;clear hl LR eh ar Im;go_enter Tryz.func87,Tryz.ntmps87;go_wp2;go_loopw [3,4] (fun r i wr=>∃j:Nat,j<=n1/\i=.int .i64 j/\OwnS w.heap.size wr r (eS (l.take j))/\Below w.heap.size w wr) (fun _ i _=>n1-(intOf i).toNat)
 case atStart=>exact⟨0,aX _,rfl,OwnS.nil _ _,ai _ _⟩
 case round=>
  obtain⟨j,hj,rfl,de,aq⟩:=hrel;have⟨wo,Gx⟩:=aj wr;subst Gx
  by_cases hlt:j<n1
  ·have gZ:=cb HN.o hlt;obtain⟨b,o,u,rfl,hok,hx,c0,c1,c2,c3⟩:=HLV.o.get gZ;have qnW:=();exact qaI
  ·have X_:j=n1:=by omega
   subst X_;have hlt:¬((j:Int)<(j:Int)):=by omega
   have hpl:eS (l.take j)=eS l:=by rw[HN.o,cK]
   rw[hpl]at de;go_wp2;go_ret;exact⟨⟨_,rfl,de⟩,aq⟩
theorem Qd(w:World)(x y:Int):(convert 246 9 (.slice (some ⟨w.heap.size,0,none⟩) 2 2)).run Tryz.prog (w.alloc (.cells #[.int .u8 x,.int .u8 y] 5))=.ok (.string (strOfNums [x,y])) (w.alloc (.cells #[.int .u8 x,.int .u8 y] 5)):=by
 exact run_convert_bytes_arg (P:=Tryz.prog) (w.alloc (.cells #[.int .u8 x,.int .u8 y] 5)) 246 5 Tryz.underlying246 Tryz.underlying5 w.heap.size 0 2 2 [x,y] rfl (fun i hi=>by
  have:i=0\/i=1:=by omega
  rcases this with rfl|rfl<;>simp) 9 Tryz.underlying9
theorem Uh(j:Nat):(⟨#[104,111,108,101]⟩:ByteArray)++strOfNums [97+(j:Int) % 26,97+(j:Int) / 26 % 26]=⟨(T_ j).toArray⟩:=by
 have h1:(97+(j:Int) % 26).toNat=97+j % 26:=by omega
 have h2:(97+(j:Int) / 26 % 26).toNat=97+j / 26 % 26:=by omega
 have e:strOfNums [97+(j:Int) % 26,97+(j:Int) / 26 % 26]=⟨#[UInt8.ofNat (97+j % 26),UInt8.ofNat (97+j / 26 % 26)]⟩:=by
  unfold strOfNums;simp[h1,h2]
 rw[e];rfl
theorem zX:∀{ns:List Str}{n:Str}{j:Nat}(hj:j<ns.length),ns[j]=n->(ns.take j).contains n=false->ns.idxOf n=j
 |x::ns,n,0,_,h,_=>by simp at h;simp[h]
 |x::ns,n,j+1,hj,h,hc=>by
  simp only[List.take_succ_cons,List.contains_cons,Bool.or_eq_false_iff]at hc;have h1:=zX (ns:=ns) (by simpa using hj) (by simpa using h) hc.2;have h2:(x==n)=false:=by simpa[beq_eq_false_iff_ne,ne_comm]using hc.1
  rw[List.idxOf_cons,h2,h1];rfl
theorem DG(ns:List Str):∀l,dC ns l=l.map (nA ns)
 |[]=>rfl
 |t::l=>by simp[dC,DG ns l]
def eQ(ns:List Str)(v:Bool)(n:Str)(a:List Tm)(k:Nat):Tm:=if v&&(ns.take k).contains n then .mk false (T_ (ns.idxOf n)) []else .mk v n (dC ns a)
theorem Ie{v:Bool}{a:List Tm}(hj:j<ns.length):
  ((eQ ns v n a j).v=false->eQ ns v n a (j+1)=eQ ns v n a j)∧
  ((eQ ns v n a j).v=true->eQ ns v n a j=.mk true n (dC ns a)/\(ns[j]=n->eQ ns v n a (j+1)=.mk false (T_ j) [])/\(ns[j]≠n->eQ ns v n a (j+1)=eQ ns v n a j)):=by
 have hs:(ns.take (j+1)).contains n=((ns.take j).contains n||(n==ns[j])):=by
  rw[mh hj,List.contains_append];simp[Bool.beq_eq_decide_eq]
 unfold eQ;rw[hs];cases v
 ·simp[Tm.v]
 ·cases hc:(ns.take j).contains n
  ·simp only[dz,bO,↓reduceIte,Tm.v,Bool.false_or,ej];refine⟨fun h=>(by cases h),fun _=>⟨trivial,fun e=>?_,fun e=>ak fun h=>e h.symm⟩⟩;rw[aw e.symm];have hi:ns.idxOf n=j:=zX hj e hc;rw[hi]
  ·simp[Tm.v]
def KB(ns:List Str)(l:List Tm):Prop:=∀(ok Y1:Nat->Prop)(w:World)(a:Option Addr)(n c:Nat)(nv:Value),TermsV ok w (.slice a n c) l->StrsO Y1 w nv ns→
 Calls Tryz.prog 153 #[.slice a n c,nv] w fun e w'=>(∃a' c',e=.returned (.slice a' l.length c')/\TermsV (w.heap.size<=·) w' (.slice a' l.length c') (dC ns l))/\Below w.heap.size w w'
theorem wZ(ns:List Str)(hns:ns.length<=4000000)(l:List Tm)(ar:fitTs l)(XT:∀t∈l,KB ns t.a):KB ns l:=by
 intro ok Y1 w a n c nv hv Xh;exact qeG
theorem EN(ns:List Str)(hns:ns.length<=4000000)(l:List Tm)(ar:fitTs l):KB ns l:=by
 have h:∀t,fitT t->KB ns t.a:=by
  intro t
  induction t using Tm.ind with
  |h v n a ih=>exact fun hf=>wZ ns hns a hf.args (fun t ht=>ih t ht (hf.args.mem ht))
 exact wZ ns hns l ar (fun t ht=>h t (ar.mem ht))
theorem DH(ns:List Str):∀l,jC ns l=l.map (et ns)
 |[]=>rfl
 |t::l=>by simp[jC,DH ns l]
theorem DI(ns:List Str)(hns:ns.length<=4000000):∀(t:Fm),fitF t->∀(ok Y1:Nat->Prop)(w:World)(q:FQ)(nv:Value),FormV ok w q.val t->StrsO Y1 w nv ns→
  Calls Tryz.prog 88 #[q.val,nv] w fun e w'=>∃p:FQ,e=.returned p.val/\FormV (w.heap.size<=·) w' p.val (et ns t)/\Below w.heap.size w w':=by
 obtain⟨KO,hj,gZ,AU,Uy⟩:=info_parts j9;intro t
 induction t using Fm.ind with
 |h o n a s ih=>
  intro ar ok Y1 w q nv hq Xh;have hp:et ns (.mk o n a s)=.mk o n (dC ns a) (s.map (et ns)):=by simp[et,DH]
  rw[hp];clear hp;obtain⟨na,nc,rfl⟩:=Xh.slice;have⟨n2,i_⟩:=aj ns.length;rw[<-i_]at Xh⊢;have HNs:=ab Xh;clear Xh i_;exact qas
mutual
theorem Qe(ns:List Str):∀t,nodesT (nA ns t)<=nodesT t/\(jJ 2000000 t=true->jJ 2000000 (nA ns t)=true)
 |.mk v n a=>by
  obtain⟨h1,h2⟩:=uI ns a;unfold nA;split
  ·exact⟨by simp only[nodesT,nodesTs];omega,fun _=>by simp[jJ,nmTs,T_]⟩
  ·simp only[nodesT,jJ,ae];exact⟨by omega,fun h=>⟨h.1,h2 h.2⟩⟩
theorem uI(ns:List Str):∀t,nodesTs (dC ns t)<=nodesTs t/\(nmTs 2000000 t=true->nmTs 2000000 (dC ns t)=true)
 |[]=>⟨aC _,fun h=>h⟩
 |t::l=>by
  obtain⟨h1,h2⟩:=Qe ns t;obtain⟨h3,h4⟩:=uI ns l;simp only[dC,nodesTs,nmTs,ae];exact qfp
end
mutual
theorem uJ(ns:List Str):∀f,nodesF (et ns f)<=nodesF f/\(li 2000000 f=true->li 2000000 (et ns f)=true)
 |.mk o n a s=>by
  obtain⟨h1,h2⟩:=uI ns a;obtain⟨h3,h4⟩:=zY ns s;simp only[et,nodesF,li,ae];exact⟨by omega,fun h=>⟨h.1,h.2.1,h2 h.2.2.1,h4 h.2.2.2⟩⟩
theorem zY(ns:List Str):∀f,nodesFs (jC ns f)<=nodesFs f/\(nmFs 2000000 f=true->nmFs 2000000 (jC ns f)=true)
 |[]=>⟨aC _,fun h=>h⟩
 |t::l=>by
  obtain⟨h1,h2⟩:=uJ ns t;obtain⟨h3,h4⟩:=zY ns l;simp only[jC,nodesFs,nmFs,ae];exact qfp
end
theorem F9(ns:List Str)(h:fitF f):fitF (et ns f):=⟨aN (uJ ns f).1 h.1,(uJ ns f).2 h.2⟩
def yW(f g:Fm):Bool:=H' (et (eS [f,g]) f) (et (eS [f,g]) g)
theorem Qf(W0:World)(f g:Fm)(hf:fitF f)(hg:fitF g)(O4:nodesF f+nodesF g<=1000000)(ok ok':Nat->Prop)(w:World)(ht:Tabs W0 w)(q q':FQ)(hq:FormV ok w q.val f)(iN:FormV ok' w q'.val g):
  Calls Tryz.prog 42 #[q.val,q'.val] w fun e w'=>e=.returned (.bool (yW f g))/\Below w.heap.size w w':=by
 have⟨ns,hns⟩:=aj (eS [f,g]);unfold yW;rw[<-hns];have kz:ns.length<=4000000:=by have:=uH [f,g];rw[hns];simp only[nodesFs]at this;omega
 have⟨W2,aZ⟩:=aj (((w.alloc (.cells #[.int .u8 q.o,.string q.n,.slice q.a q.l q.c,.slice q.b q.m q.e] 36)).alloc (.cells #[.int .u8 q'.o,.string q'.n,.slice q'.a q'.l q'.c,.slice q'.b q'.m q'.e] 36)).alloc (.cells #[.int .u8 q.o,.string q.n,.slice q.a q.l q.c,.slice q.b q.m q.e,.int .u8 q'.o,.string q'.n,.slice q'.a q'.l q'.c,.slice q'.b q'.m q'.e] 36));have eV:=uS aZ;have x0:=yX aZ;have x1:=qN aZ;have x2:=oD aZ;have Qz:=FX (ok:=fun _=>True) q q' 2 x2 trivial ((hq.later eV).move (fun _ _ _=>⟨trivial,rfl⟩)) ((iN.later eV).move (fun _ _ _=>⟨trivial,rfl⟩));have CP:=ab (yU [f,g] ⟨by simp only[nodesFs];omega,by simp only[nmFs,hf.2,hg.2,Bool.and_self]⟩ (by simp only[nodesFs];omega) _ W2 _ 2 Qz);simp only[<-hns,eT,List.length_nil,Nat.zero_add,Nat.reduceAdd]at CP;have H0:=fG eV x0 x1 hq iN;have fj:=ab aZ;have jw:=bx hf hg kz;have J8:=ab ht;clear eV x0 x1 x2 hq iN aZ hf hg O4 ht hns kz Qz;go_enter Tryz.func42,Tryz.ntmps42;unfold FQ.val;go_wp2_with (rw[<-fj.o];go_at_call 87;refine CP.o.mono ?_;rintro e W5 ⟨⟨v3,rfl,UM⟩,aG⟩;have H3:=aA UM aG;clear aG UM);have cD:=H3.o.1.strs;obtain⟨na,nc,rfl⟩:=cD.slice;have aG:=H3.o.2;have y0:=bN aG H0.o.2.1;have y1:=bN aG H0.o.2.2.1;have qnX:=();exact qaS
theorem KC(hf:bT (bl f)=true)(hg:bT (bl g)=true)(h:db f=db g):yW f g=true:=by
 obtain⟨h1,h2,h3⟩:=Ic hf hg h;simp[yW,H',h1,h2,h3]
section
variable{ops:Array Oper}{Q:Exit->Act->World->Prop}{a0:Act}{l:List Fact}{kA kS k:Nat}{M:Nat->Prop}{w0:World}{md:Region.Mode}{L:Nat->Prop}
theorem Ui(f:Fm)(hf:fitF f)(x:Nat){gu:Option (Nat×Bool)}(hx:Dep md ops a0 l kA kS M w0 k o x (FormG L f))(ho:ops[k]?=some o:=by rfl)(eo:o=⟨some d,.call ⟨.value (.func 41),#[.tmp x],wM⟩,ty,pos,ee,gu⟩:=by rfl)(hw:Wt md ops a0 l kA kS M w0 k o:=by exact fun _ _ _ _=>rfl)(hp:dR l k=(lV (.int .u32 ((lT (iC f)).toNat:Int))).p:=by rfl):cH md ops Q a0 l kA kS M w0 k:=
 by subst eo;exact dP hw ho rfl 41 (fun a γ w aT=>by
  obtain⟨vx,ex,fx⟩:=hx.is aT;obtain⟨qx,rfl,hx⟩:=fx;refine⟨#[qx.val],by go_simp,(Xg f hf _ w qx hx).mono ?_⟩;rintro e w' ⟨rfl,hb⟩;exact⟨⟨_,rfl,by rw[hp];rfl⟩,hb⟩)
theorem Uj(f f2:Fm)(hf:fitF f)(UL:fitF f2)(hn:nodesF f+nodesF f2<=1000000)(x y:Nat){Wb:World}(hT:Tabs Wb w0)(hM:∀b,M b->Wb.heap.size<=b){gu:Option (Nat×Bool)}(hx:Dep md ops a0 l kA kS M w0 k o x (FormG L f))(hy:Dep md ops a0 l kA kS M w0 k o y (FormG L f2))(ho:ops[k]?=some o:=by rfl)(eo:o=⟨some d,.call ⟨.value (.func 42),#[.tmp x,.tmp y],wM⟩,ty,pos,ee,gu⟩:=by rfl)(hw:Wt md ops a0 l kA kS M w0 k o:=by exact fun _ _ _ _=>rfl)(hp:dR l k=(lV (.bool (yW f f2))).p:=by rfl):cH md ops Q a0 l kA kS M w0 k:=
 by subst eo;exact dP hw ho rfl 42 (fun a γ w aT=>by
  obtain⟨vx,ex,fx⟩:=hx.is aT;obtain⟨vy,ey,fy⟩:=hy.is aT;obtain⟨qx,rfl,hx⟩:=fx;obtain⟨qy,rfl,hy⟩:=fy;refine⟨#[qx.val,qy.val],by go_simp,(Qf Wb f f2 hf UL hn _ _ w (hT.kp aT.inv.1 hM) qx qy hx hy).mono ?_⟩;rintro e w' ⟨rfl,hb⟩;exact⟨⟨_,rfl,by rw[hp];rfl⟩,hb⟩)
theorem KD(m:BitVec 32)(x:Nat){gu:Option (Nat×Bool)}(hx:Dep md ops a0 l kA kS M w0 k o x (fun v _ _=>v=.int .u32 (m.toNat:Int)))(ho:ops[k]?=some o:=by rfl)(eo:o=⟨some d,.binOp .shr T (.tmp x) (.const (.int .u8 16)) T2,ty,pos,ee,gu⟩:=by rfl)(hw:Wt md ops a0 l kA kS M w0 k o:=by exact fun _ _ _ _=>rfl)(hp:dR l k=(lV (.int .u32 ((m.toNat:Int).fdiv (2^16)))).p:=by rfl):cH md ops Q a0 l kA kS M w0 k:=
 by subst eo;exact dH hw ho rfl (fun a γ w aT=>by
  obtain⟨v0,e0,h0⟩:=hx a γ w aT;rw[h0]at e0;have f0:=aW e0;exact⟨.int .u32 ((m.toNat:Int).fdiv (2^16)),by go_simp;exact(Int.fdiv_eq_ediv_of_nonneg _ (by omega)).symm,by rw[hp];rfl⟩)
theorem Og(v:Int)(x:Nat)(h1:BitVec.ofInt 32 v &&& 1#32=1#32){gu:Option (Nat×Bool)}(hx:Dep md ops a0 l kA kS M w0 k o x (fun u _ _=>u=.int .u32 v))(ho:ops[k]?=some o:=by rfl)(eo:o=⟨some d,.binOp .and T (.tmp x) (.const (.int .u32 1)) T2,ty,pos,ee,gu⟩:=by rfl)(hw:Wt md ops a0 l kA kS M w0 k o:=by exact fun _ _ _ _=>rfl)(hp:dR l k=(lV (.int .u32 1)).p:=by rfl):cH md ops Q a0 l kA kS M w0 k:=
 by subst eo;exact dH hw ho rfl (fun a γ w aT=>by
  obtain⟨v0,e0,h0⟩:=hx a γ w aT;rw[h0]at e0;have f0:=aW e0;have hv:bits .and .u32 v 1=1:=by
   show IntKind.u32.wrap (((BitVec.ofInt 32 v &&& 1#32).toNat:Int))=1;rw[h1];rfl
  exact⟨.int .u32 1,by go_simp,by rw[hp];rfl⟩)
theorem Xj(ms:List Str)(x:Nat){gu:Option (Nat×Bool)}(hx:Dep md ops a0 l kA kS M w0 k o x (StrsG L ms))(ho:ops[k]?=some o:=by rfl)(eo:o=⟨some d,.call ⟨.builtin .len,#[.tmp x],#[66]⟩,ty,pos,ee,gu⟩:=by rfl)(hw:Wt md ops a0 l kA kS M w0 k o:=by exact fun _ _ _ _=>rfl)(hp:dR l k=(lV (.int .i64 (ms.length:Nat))).p:=by rfl):cH md ops Q a0 l kA kS M w0 k:=
 by subst eo;exact dH hw ho rfl (fun a γ w aT=>by
  obtain⟨v0,e0,h0⟩:=hx a γ w aT;obtain⟨la,c,rfl⟩:=StrsO.slice h0;have f0:=aW e0;exact⟨.int .i64 (ms.length:Nat),by go_simp,by rw[hp];rfl⟩)
end
section
variable{ops:Array Oper}{Q:Exit->Act->World->Prop}{a0:Act}{l:List Fact}{kA kS k:Nat}{M:Nat->Prop}{w0:World}{md:Region.Mode}{L:Nat->Prop}
theorem rP(x:Nat)(b off:Nat)(v:Value)(c:w0.cell? ⟨b,off,none⟩=some v)(hb:¬M b){gu:Option (Nat×Bool)}(hx:Dep md ops a0 l kA kS M w0 k o x (fun u _ _=>u=.pointer (some ⟨b,off,none⟩)))(ho:ops[k]?=some o:=by rfl)(eo:o=⟨some d,.load 23 (.tmp x),ty,pos,ee,gu⟩:=by rfl)(hw:Wt md ops a0 l kA kS M w0 k o:=by exact fun _ _ _ _=>rfl)(hp:dR l k=(lV v).p:=by rfl):cH md ops Q a0 l kA kS M w0 k:=
 by subst eo;exact dH hw ho rfl (fun a γ w aT=>by
  obtain⟨vx,ex,rfl⟩:=hx a γ w aT;have c:=aT.inv.1.cell (a:=⟨b,off,none⟩) hb c;have e2:=aW ex;exact⟨v,by go_simp,by rw[hp];rfl⟩)
theorem rQ(x:Nat)(b off:Nat)(v:Value)(c:w0.cell? ⟨b,off,none⟩=some v)(hb:¬M b){gu:Option (Nat×Bool)}(hx:Dep md ops a0 l kA kS M w0 k o x (fun u _ _=>u=.pointer (some ⟨b,off,none⟩)))(ho:ops[k]?=some o:=by rfl)(eo:o=⟨some d,.load 24 (.tmp x),ty,pos,ee,gu⟩:=by rfl)(hw:Wt md ops a0 l kA kS M w0 k o:=by exact fun _ _ _ _=>rfl)(hp:dR l k=(lV v).p:=by rfl):cH md ops Q a0 l kA kS M w0 k:=
 by subst eo;exact dH hw ho rfl (fun a γ w aT=>by
  obtain⟨vx,ex,rfl⟩:=hx a γ w aT;have c:=aT.inv.1.cell (a:=⟨b,off,none⟩) hb c;have e2:=aW ex;exact⟨v,by go_simp,by rw[hp];rfl⟩)
theorem KE(x:Nat)(b off:Nat)(v:Value)(c:w0.cell? ⟨b,off,none⟩=some v)(hb:¬M b){gu:Option (Nat×Bool)}(hx:Dep md ops a0 l kA kS M w0 k o x (fun u _ _=>u=.pointer (some ⟨b,off,none⟩)))(ho:ops[k]?=some o:=by rfl)(eo:o=⟨some d,.load 9 (.tmp x),ty,pos,ee,gu⟩:=by rfl)(hw:Wt md ops a0 l kA kS M w0 k o:=by exact fun _ _ _ _=>rfl)(hp:dR l k=(lV v).p:=by rfl):cH md ops Q a0 l kA kS M w0 k:=
 by subst eo;exact dH hw ho rfl (fun a γ w aT=>by
  obtain⟨vx,ex,rfl⟩:=hx a γ w aT;have c:=aT.inv.1.cell (a:=⟨b,off,none⟩) hb c;have e2:=aW ex;exact⟨v,by go_simp,by rw[hp];rfl⟩)
theorem Uk(b:Bd)(n:Str)(hF:b.fs.length<=1000000)(ar:∀x∈b.fs,fitF x.2)(x y:Nat){gu:Option (Nat×Bool)}(hL:∀b,w0.heap.size<=b->L b)(hx:Dep md ops a0 l kA kS M w0 k o x (BindG L b))(hy:Dep md ops a0 l kA kS M w0 k o y (fun u _ _=>u=.string ⟨n.toArray⟩))(ho:ops[k]?=some o:=by rfl)(eo:o=⟨some d,.call ⟨.value (.func 16),#[.tmp x,.tmp y],wM⟩,ty,pos,ee,gu⟩:=by rfl)(hw:Wt md ops a0 l kA kS M w0 k o:=by exact fun _ _ _ _=>rfl)(hp:dR l k=(Dk (ec L ((getB b.fs n).getD jq)) [.bool (getB b.fs n).isSome]).p:=by rfl):cH md ops Q a0 l kA kS M w0 k:=
 by subst eo;exact dP hw ho rfl 16 (fun a γ w aT=>by
  obtain⟨vx,ex,fx⟩:=hx.is aT;obtain⟨vy,ey,rfl⟩:=hy.is aT;obtain⟨qx,rfl,hx⟩:=fx;refine⟨#[qx.val,.string ⟨n.toArray⟩],by go_simp,(FA b hF ar n _ w qx hx).mono ?_⟩;rintro e w' ⟨⟨u,rfl,hu⟩,hb⟩;exact⟨⟨_,rfl,by rw[hp];exact⟨_,rfl,u,rfl,hu.move (okB.new aT.inv (fun b hb=>hL b (aN aT.inv.1.size hb)))⟩⟩,hb⟩)
theorem Ul(b:Bd)(n:Str)(hF:b.ts.length<=1000000)(ar:∀x∈b.ts,fitT x.2)(x y:Nat){gu:Option (Nat×Bool)}(hL:∀b,w0.heap.size<=b->L b)(hx:Dep md ops a0 l kA kS M w0 k o x (BindG L b))(hy:Dep md ops a0 l kA kS M w0 k o y (fun u _ _=>u=.string ⟨n.toArray⟩))(ho:ops[k]?=some o:=by rfl)(eo:o=⟨some d,.call ⟨.value (.func 18),#[.tmp x,.tmp y],wM⟩,ty,pos,ee,gu⟩:=by rfl)(hw:Wt md ops a0 l kA kS M w0 k o:=by exact fun _ _ _ _=>rfl)(hp:dR l k=(Dk (eO L ((getB b.ts n).getD Jz)) [.bool (getB b.ts n).isSome]).p:=by rfl):cH md ops Q a0 l kA kS M w0 k:=
 by subst eo;exact dP hw ho rfl 18 (fun a γ w aT=>by
  obtain⟨vx,ex,fx⟩:=hx.is aT;obtain⟨vy,ey,rfl⟩:=hy.is aT;obtain⟨qx,rfl,hx⟩:=fx;refine⟨#[qx.val,.string ⟨n.toArray⟩],by go_simp,(FB b hF ar n _ w qx hx).mono ?_⟩;rintro e w' ⟨⟨u,rfl,hu⟩,hb⟩;exact⟨⟨_,rfl,by rw[hp];exact⟨_,rfl,u,rfl,hu.move (okB.new aT.inv (fun b hb=>hL b (aN aT.inv.1.size hb)))⟩⟩,hb⟩)
theorem Xk(f:Tm)(x:Nat)(b off:Nat)(q:TQ)(hf:TermV (okS L w0) w0 q.val f)(c0:w0.cell? ⟨b,off,none⟩=some (.bool q.v))(c1:w0.cell? ⟨b,off+1,none⟩=some (.string q.n))(c2:w0.cell? ⟨b,off+2,none⟩=some (.slice q.a q.l q.c))(hb:¬M b)(hM:∀c,L c->¬M c){gu:Option (Nat×Bool)}(hx:Dep md ops a0 l kA kS M w0 k o x (fun v _ _=>v=.pointer (some ⟨b,off,none⟩)))(ho:ops[k]?=some o:=by rfl)(eo:o=⟨some d,.load 43 (.tmp x),ty,pos,ee,gu⟩:=by rfl)(hw:Wt md ops a0 l kA kS M w0 k o:=by exact fun _ _ _ _=>rfl)(hp:dR l k=(eO L f).p:=by rfl):cH md ops Q a0 l kA kS M w0 k:=
 by subst eo;have hp:dR l k=TermG L f:=hp;exact dH hw ho rfl (fun a γ w aT=>by
  obtain⟨vx,ex,rfl⟩:=hx a γ w aT;have C:=fun i v (h:w0.cell? ⟨b,i,none⟩=some v)=>aT.inv.1.cell (a:=⟨b,i,none⟩) hb h;have c0:=C _ _ c0;have c1:=C _ _ c1;have c2:=C _ _ c2;exact⟨TQ.val q,by simp only[TQ.val];go_simp,by rw[hp];exact⟨q,rfl,(hf.move (okS.at hM)).move (okB.old aT.inv)⟩⟩)
end
section
variable{ops:Array Oper}{Q:Exit->Act->World->Prop}{a0:Act}{l:List Fact}{kA kS k:Nat}{w0:World}{md:Region.Mode}{L:Nat->Prop}{id sz:Nat}{w:World}
end
end
def TsN(k:List (Str×Tm)):Prop:=∀y∈k,nodesT y.2<=1000
mutual
theorem MO:∀t,(pY t).length<=nodesT t
 |.mk v n a=>by
  have:=rR a;unfold pY nodesT;split<;>simp <;>omega
theorem rR:∀t,(ij t).length<=nodesTs t
 |[]=>by simp[ij]
 |t::l=>by
  have:=MO t;have:=rR l;simp only[ij,nodesTs,cU];omega
end
mutual
theorem DJ:∀t,(metasF t).length<=nodesF t
 |.mk o n a s=>by
  have:=rR a;have:=zZ s;unfold metasF nodesF;split<;>simp <;>omega
theorem zZ:∀t,(mD t).length<=nodesFs t
 |[]=>by simp[mD]
 |t::l=>by
  have:=DJ t;have:=zZ l;simp only[mD,nodesFs,cU];omega
end
mutual
theorem Qg:∀t,nodesT t<=YU t
 |.mk v n a=>by have:=uK a;unfold nodesT YU;omega
theorem uK:∀t,nodesTs t<=wS t
 |[]=>by simp[nodesTs]
 |t::l=>by have:=Qg t;have:=uK l;simp only[nodesTs,wS];omega
end
mutual
theorem Qh:∀t,nodesF t<=UP t
 |.mk o n a s=>by have:=uK a;have:=uL s;unfold nodesF UP;omega
theorem uL:∀t,nodesFs t<=wT t
 |[]=>by simp[nodesFs]
 |t::l=>by have:=Qh t;have:=uL l;simp only[nodesFs,wT];omega
end
theorem DK:∀{l:List Fm}{f:Fm},f∈l->nodesF f<=nodesFs l
 |y::c,f,h=>by
  simp only[nodesFs];rcases cG.1 h with rfl|h
  ·omega
  ·have:=DK h;omega
theorem MP(h:nr b=true)(ar:fitFs (kT b.fs++lS b.ts)):BdFit b/\b.fs.length<=10/\b.ts.length<=10:=by
 simp only[nr,ae,br]at h;obtain⟨h1,h2,h3⟩:=h;have hsz:=Kw h3;have DV:=uL (kT b.fs++lS b.ts);have iI:∀x∈b.fs,x.2∈kT b.fs++lS b.ts/\Fm.mk 1 x.1 [] []∈kT b.fs++lS b.ts:=fun x hx=>by
  refine⟨List.mem_append.2 (.inl ?_),List.mem_append.2 (.inl ?_)⟩<;>exact List.mem_flatMap.2 ⟨x,hx,by simp⟩
 have sO:∀x∈b.ts,Fm.mk 1 x.1 [x.2] []∈kT b.fs++lS b.ts:=fun x hx=>List.mem_append.2 (.inr (List.mem_map.2 ⟨x,hx,rfl⟩));refine⟨⟨by omega,by omega,fun x hx=>?_,fun x hx=>?_⟩,h1,h2⟩
 ·have a:=ar.mem (iI x hx).1;have c:=(ar.mem (iI x hx).2).2;simp only[li,ae,br]at c;exact⟨c.2.1,a⟩
 ·have a:=ar.mem (sO x hx);have c:=a.2;have d:=DK (sO x hx);simp only[li,nmTs,ae,br]at c;simp only[nodesF,nodesTs]at d;exact⟨c.2.1,⟨by omega,c.2.2.1.1⟩,by omega⟩
theorem Xl{b c:Bool}(h:b=c):(lV (.bool c)).p=(lV (.bool b)).p:=by rw[h]
theorem MQ(f:Fm):uV f f=true:=(oL f f).2 rfl
theorem KF(f:List Tm):iR f f=true:=(gK f f).2 rfl
theorem MR{t:Tm}(h:fitT t):fitTs [t]:=⟨by simp only[nodesTs];have:=h.1;omega,by simp[nmTs,h.2]⟩
theorem Qi(h:bT f=true):fitF f:=by
 have h1:=h;simp only[bT,ae,br]at h1;exact⟨by omega,jK (by omega) f (iD _ h1.1)⟩
theorem Qj{e:Int}(h:fillS s b=(f,e))(he:e≠0):f=jq:=by
 unfold fillS at h;split at h
 ·cases h;rfl
 ·split at h
  ·cases h;rfl
  ·split at h
   ·cases h;rfl
   ·cases h;exact absurd rfl he
theorem KG(h:BdFit b):sq b:=fun _ _ ht=>aN (h.ts _ (su ht)).2.2 (by decide)
mutual
theorem w_:∀(s f:Fm)(c:Sco),∀p∈a_ c s f,p.s∈iC s
 |.mk o n a s,.mk o' n' a' s',c,p,hp=>by
  simp only[a_,cG]at hp;rcases hp with rfl|hp
  ·exact gp ..
  ·exact fL _ (tD s s' _ p hp)
theorem tD:∀(s f:List Fm)(c:Sco),∀p∈aJ c s f,p.s∈dJ s
 |[],_,_,p,hp=>by simp[aJ]at hp
 |_::_,[],_,p,hp=>by simp[aJ]at hp
 |t::l,u::m,c,p,hp=>by
  simp only[aJ,List.mem_append]at hp;simp only[dJ,List.mem_append];rcases hp with hp|hp
  ·exact .inl (w_ t u c p hp)
  ·exact .inr (tD l m c p hp)
end
theorem MS{k:Bd}(hl:Less k b)(hn:NamesIn k (metasF s))(hs:nodesF s<=900)(hb:BdFit b):BdFit k:=by
 have jW:=hl.v;simp only[validB,ae]at jW;have l1:=vF _ _ (iW (lv jW.2.1)) hn.f;have l2:=vF _ _ (iW (lv jW.2.2)) hn.t;have lm:=DJ s;simp only[List.length_map]at l1 l2;have ht:TsN k.ts:=fun x hx=>by
  obtain⟨j,hj,rfl⟩:=List.getElem_of_mem hx;exact(hb.ts _ (su (F7 hl j hj))).2.2
 refine⟨by omega,by omega,fun x hx=>?_,fun x hx=>?_⟩
 ·have a:=NC hl.v x hx;exact⟨by have:=t_ a.2;omega,a.1.fit⟩
 ·have a:=AB hl.v ht x hx;exact⟨by have:=gh a.2;omega,a.1.fit,ht x hx⟩
theorem KH(h:bT f=true):nodesF f<=400:=by simp only[bT,ae,br]at h;exact h.2.1
theorem z6(h:bT (bl f)=true):nodesF f<=400:=by have:=KH h;rwa [(g9 f).1]at this
section
attribute [local go_sem] Oper.semAt_some
def sRk:Code->Code|.seq _ b=>b|c=>c
def drK(c:Code):Nat->Code|0=>c|n+1=>sRk (drK c n)
abbrev BkQ(w:World):Exit->Act->World->Prop:=bodyPost Tryz.prog Tryz.f9 fun e w'=>e=.returned (.bool true)/\Below w.heap.size w w'
mutual
theorem Xm:∀t,UQ t=pY t
 |.mk v n a=>by simp only[UQ,pY,DL a]
theorem DL:∀t,j5 t=ij t
 |[]=>rfl
 |t::l=>by simp only[j5,ij,Xm t,DL l]
end
mutual
theorem Oh:∀t,Kx t=metasF t
 |.mk o n a s=>by simp only[Kx,metasF,DL a,KI s,List.append_assoc]
theorem KI:∀t,lx t=mD t
 |[]=>rfl
 |t::l=>by simp only[lx,mD,Oh t,KI l]
end
structure BkI(w0:World)(s f:Fm)(bd:Bd)(b2 b3 b5:Nat)(a:Act)(W:World):Prop where
 hs:a.tmps.size=151
 hd:a.defers=[]
 HB:Below w0.heap.size w0 W
 F2:∃q,LF X0 a W 2 b2 q s
 B3:∃q,LB X0 a W 3 b3 q bd
 F5:∃q,LF X0 a W 5 b5 q f
structure BkJ(w0:World)(s:Fm)(bd kd:Bd)(b2 b3 b9:Nat)(q9:BQ)(a:Act)(W:World):Prop where
 hs:a.tmps.size=151
 hd:a.defers=[]
 HB:Below w0.heap.size w0 W
 F2:∃q,LF X0 a W 2 b2 q s
 B3:∃q,LB X0 a W 3 b3 q bd
 B9:LB X0 a W 9 b9 q9 kd
structure BkL(w0:World)(s:Fm)(bd kd:Bd)(b2 b3 b9:Nat)(q9:BQ)(sl i:Nat)(a:Act)(W:World):Prop extends BkJ w0 s bd kd b2 b3 b9 q9 a W where
 ti:a.tmps[sl]?=some (.int .i64 i)
structure BkP(s f:Fm)(bd:Bd):Prop where
 hfs:fitF s
 hbd:BdFit bd
 hM:fillS s bd=(f,0)
structure BkR(s:Fm)(bd kd:Bd):Prop where
 hfs:fitF s
 hns:nodesF s<=400
 hbd:BdFit bd
 hkd:BdFit kd
 hvb:validB bd=true
 hl:Less kd bd
 hn:NamesIn kd (metasF s)
theorem zez(WB w:World)(i8:Tabs WB w)(s:Fm)(bd kd:Bd)(hP:BkR s bd kd)(b2 b3 b9:Nat)(q9:BQ)(Y2:∃a c b e,q9=⟨a,kd.fs.length,c,b,kd.ts.length,e⟩):∀a W,BkJ w s bd kd b2 b3 b9 q9 a W->Code.wpIn Fence.wide 3 Tryz.prog (drK ((Tryz.f9.body).getD .skip) 11) (BkQ w) a W:=by
 rintro a W ⟨hs,hd,HB,⟨q2,F2⟩,⟨q3,B3⟩,B9⟩;have kQ:∀c,bC c->WB.heap.size<=c:=fun _ h=>h.elim;have kn:∀c,X0 c->¬bC c:=fun _ _ h=>h;have hL:∀{u:World}(c),u.heap.size<=c->X0 c:=fun _ _=>trivial;obtain⟨qa,qc,qb,qe,Y2⟩:=Y2;have hfs:=hP.hfs;have bW:=Ue hP.hl.v hP.hn;rw[<-Oh]at bW;have ro:(di (Kx s)).length<=2000000:=by have h1:=eH (Kx s);have h2:=ML s;have h3:=hfs.1;omega
 have c26:W.drew.cell? ⟨b9,0,none⟩=some (.slice qa kd.fs.length qc):=(aF B9.box 0).trans (by rw[Y2];rfl);have d26:W.drew.cell? ⟨b9,1,none⟩=some (.slice qb kd.ts.length qe):=(aF B9.box 1).trans (by rw[Y2];rfl);have Vg:IntKind.i64.wrap ((kd.fs.length:Int)+(kd.ts.length:Int))=((kd.fs.length+kd.ts.length:Nat):Int):=by rw[gU _ (by omega)];simp
 have nO:decide (((kd.fs.length+kd.ts.length:Nat):Int)<=((di (Kx s)).length:Int))=true:=by simp;omega
 clear B3;have hT:=i8.next HB.drew;replace F2:=F2.drew;replace B9:=B9.drew;refine bX (fun zfP zcw=>?_);refine fw [_,_,_,_,_,_,_,_,_,_,_,_] 12 12 hs (by kernel_rfl) (by kernel_rfl) (fun|0,_=>dW rfl 9 (.pointer (some ⟨b9,0,none⟩)) (old B9.slot)|1,_=>rP 140 b9 0 (.slice qa kd.fs.length qc) c26 (fun h=>h) (aD 0)|2,_=>dW rfl 141 (.int .i64 (kd.fs.length:Nat)) (aD 1)|3,_=>dW rfl 9 (.pointer (some ⟨b9,1,none⟩)) (old B9.slot)|4,_=>rQ 143 b9 1 (.slice qb kd.ts.length qe) d26 (fun h=>h) (aD 3)|5,_=>dW rfl 144 (.int .i64 (kd.ts.length:Nat)) (aD 4)|6,_=>MD rfl 142 145 (.int .i64 (kd.fs.length:Nat)) (.int .i64 (kd.ts.length:Nat)) (.int .i64 ((kd.fs.length+kd.ts.length:Nat):Int)) (aD 2) (aD 5) (fun _ _ _ _ _ _=>by simp only[<-Vg];go_simp)|7,_=>F2.ld|8,_=>T8 s hfs 147 hL (aD 7)|9,_=>Xj _ 148 (aD 8)|10,_=>MD rfl 146 149 (.int .i64 ((kd.fs.length+kd.ts.length:Nat):Int)) (.int .i64 ((di (Kx s)).length:Nat)) (.bool true) (aD 6) (aD 9) (fun _ _ _ _ _ _=>by simp only[<-nO];go_simp)|11,_=>nu _ 150 (aD 10)|k+12,hk=>nk hk) fun A26 γ W26 h=>?_;obtain⟨zfQ,zeA,zeB⟩:=h.n3 hs hd HB.drew;replace F2:=F2.nz h;replace B9:=B9.nz h;clear hT hs hd HB;have tr:=h.gv 11 4;refine zcw _ _ ?_;refine wpIn_ret ?_
 try simp only[Exit.then]
 exact bK (v:=.bool true) (by simp[results,Tryz.results9,go_sem,tr]) zeA ⟨rfl,zeB⟩
theorem zeC(WB w:World)(i8:Tabs WB w)(s:Fm)(bd kd:Bd)(hP:BkR s bd kd)(b2 b3 b9:Nat)(q9:BQ)(Y2:∃a c b e,q9=⟨a,kd.fs.length,c,b,kd.ts.length,e⟩):∀a W,BkJ w s bd kd b2 b3 b9 q9 a W->Code.wpIn Fence.wide 3 Tryz.prog (drK ((Tryz.f9.body).getD .skip) 10) (BkQ w) a W:=by
 rintro a W ⟨hs,hd,HB,⟨q2,F2⟩,⟨q3,B3⟩,B9⟩;have kQ:∀c,bC c->WB.heap.size<=c:=fun _ h=>h.elim;have kn:∀c,X0 c->¬bC c:=fun _ _ h=>h;have hL:∀{u:World}(c),u.heap.size<=c->X0 c:=fun _ _=>trivial;have hbd:=hP.hbd;have hkd:=hP.hkd;have tf:=hP.hkd.lf;have Cd:=hP.hkd.lt;have hT:=i8.next HB;refine bX (fun zfR zcx=>?_);refine bX (fun zeD Y3=>?_);refine b8 [_] 1 1 hs (by kernel_rfl) (fun|0,_=>Kk (.int .i64 0)|k+1,hk=>nk hk) fun A20 γ TP h=>?_;obtain⟨TR,WM,PQ⟩:=h.n3 hs hd HB;replace F2:=F2.nz h;replace B3:=B3.nz h;replace B9:=B9.nz h;clear hT hs hd HB;have ti:=h.gv 0 14;clear h;refine Y3 _ _ ?_;clear Y3 zeD;refine wpIn_block ?_;refine wpIn_loop (fun a W=>∃i,i<=kd.ts.length/\BkL w s bd kd b2 b3 b9 q9 14 i a W) (fun a _=>kd.ts.length-(intOf (a.tmps.getD 14 undef)).toNat) ⟨0,aX _,⟨⟨TR,WM,PQ,⟨_,F2⟩,⟨_,B3⟩,B9⟩,ti⟩⟩ ?_;clear TR WM PQ ti F2 B3 B9;rintro a W ⟨i,hi,⟨⟨hs,hd,HB,⟨q2,F2⟩,⟨q3,B3⟩,B9⟩,ti⟩⟩;obtain⟨qa,qc,qb,qe,If⟩:=Y2;rw[aW ti];have c20:W.cell? ⟨b9,1,none⟩=some (.slice qb kd.ts.length qe):=(aF B9.box 1).trans (by rw[If];rfl)
 by_cases hlt:i<kd.ts.length
 case pos=>
  have K3:decide ((i:Int)<(kd.ts.length:Int))=true:=by simp;omega
  have hd0:decide ((i:Int)<0)=false:=by simp
  have hT:=i8.next HB;refine bX (fun zcy Um=>?_);refine bX (fun zcz Oi=>?_);refine b8 [_,_,_,_,_] 5 5 hs (by kernel_rfl) (fun|0,_=>d8 _ 14 (old ti)|1,_=>dW rfl 9 (.pointer (some ⟨b9,1,none⟩)) (old B9.slot)|2,_=>rQ 108 b9 1 (.slice qb kd.ts.length qe) c20 (fun h=>h) (aD 1)|3,_=>dW rfl 109 (.int .i64 kd.ts.length) (aD 2)|4,_=>iL rfl 107 110 (.bool true) (aD 0) (aD 3)|k+5,hk=>nk hk) fun A21 γ EL h=>?_;obtain⟨Ks,PS,Hy⟩:=h.n3 hs hd HB;replace F2:=F2.nz h;replace B3:=B3.nz h;replace B9:=B9.nz h;replace ti:=h.ol 14 ti;clear hT hs hd HB;have tc:=h.gv 4 111;clear h;refine Oi _ _ ?_;refine wpIn_cond_true (aW tc) (wpIn_skip ?_);refine Um _ _ ?_;clear Um Oi zcy zcz tc c20;refine bX (fun Kq hKq=>?_);refine wpIn_block ?_;have hg:=F7 hP.hl i hlt;obtain⟨⟨nm,tt⟩,YX⟩:∃x,x=kd.ts[i]:=⟨_,rfl⟩;have ar:fitT tt:=by
   have:=hkd.ts _ (ap hlt);rw[<-YX]at this;exact this.2.1
  have BV:TBindsV (okS X0 EL) EL (.slice qb kd.ts.length qe) kd.ts:=by have:=B9.val.2;rw[If]at this;exact this
  obtain⟨fb,fo,fq,_z,_,r_,c0,c1,c2,c3⟩:=BV.get hlt;have KN:EL.cell? ⟨b9,1,none⟩=some (.slice qb kd.ts.length qe):=(aF B9.box 1).trans (by rw[If];rfl);rw[_z]at KN;rw[<-YX]at hg r_ c0;simp only at hg r_ c0;have hT:=i8.next Hy.drew;replace F2:=F2.drew;replace B3:=B3.drew;replace B9:=B9.drew;refine bX (fun zeE Y4=>?_);refine fw [_,_,_,_,_,_,_,Dk (eO X0 (tt)) [.bool true],_,_,_,_,_,_] 11 12 Ks (by kernel_rfl) (by kernel_rfl) (fun|0,_=>B3.ld|1,_=>dW rfl 9 (.pointer (some ⟨b9,1,none⟩)) (old B9.slot)|2,_=>rQ 116 b9 1 (.slice (some ⟨fb,fo,none⟩) kd.ts.length qe) KN (fun h=>h) (aD 1)|3,_=>d8 _ 14 (old ti)|4,_=>iL rfl 117 118 (.pointer (some ⟨fb,fo+i*4,none⟩)) (aD 2) (aD 3)|5,_=>dW rfl 119 (.pointer (some ⟨fb,fo+i*4,none⟩)) (aD 4)|6,_=>KE 120 fb (fo+i*4) (.string ⟨nm.toArray⟩) c0 (fun h=>h) (aD 5)|7,_=>Ul bd nm (by have:=hbd.lt;omega) (fun x hx=>(hbd.ts x hx).2.1) 115 121 hL (aD 0) (aD 6) (hp:=by rw[hg];rfl)|8,_=>bM _ 122 (aD 7)|9,_=>gA _ _ 114 (aD 8)|10,_=>ii (eO X0 (tt)) [.bool true] 0 (.bool true) rfl 114 (aD 8)|11,_=>FY rfl|12,_=>FZ _ 15 123 rfl (aD 11) (aD 9)|13,_=>nu _ 124 (aD 10)|k+14,hk=>nk hk) fun A23 γ YT h=>?_;obtain⟨WZ,W_,TT⟩:=h.n3 Ks PS Hy.drew;replace F2:=F2.nz h;replace B3:=B3.nz h;replace B9:=B9.nz h;replace ti:=h.ol 14 ti;obtain⟨PR,q15,T15⟩:=h.mkT 11 12 15;have zeF:=h.inv.1;clear hT Ks PS Hy;have tk:=h.gv 13 16;clear h;refine Y4 _ _ ?_;clear Y4 zeE;have SD:Below EL.heap.size EL YT:=dE (ai _ _).drew zeF (fun _ h=>h.elim);have⟨c1,c2,c3,KN⟩:=lH SD c1 c2 c3 KN;have zas:TermV (okS X0 YT.drew) YT.drew fq.val tt:=r_.move (show gF (okS X0 EL) (okS X0 YT.drew) EL YT.drew from fun c h hlt=>⟨⟨h.1,bJ hlt SD.size⟩,SD.block c hlt⟩);have hT:=i8.next TT.drew;replace F2:=F2.drew;replace B3:=B3.drew;replace B9:=B9.drew;replace T15:=T15.drew;refine bX (fun zeG Y5=>?_);refine fw [_,_,_,_,_,_,_,_,_,_,_,_,_,_,_] 15 15 WZ (by kernel_rfl) (by kernel_rfl) (fun|0,_=>d8 _ 16 (old tk)|1,_=>rO _ 125 (aD 0)|2,_=>d8 _ 126 (aD 1)|3,_=>T15.ld (hw:=wd 2)|4,_=>jO hL tt 128 (aD 3) (hw:=wd 2)|5,_=>dW rfl 9 (.pointer (some ⟨b9,1,none⟩)) (old B9.slot) (hw:=wd 2)|6,_=>rQ 130 b9 1 (.slice (some ⟨fb,fo,none⟩) kd.ts.length qe) KN (fun h=>h) (aD 5) (hw:=wd 2)|7,_=>d8 _ 14 (old ti) (hw:=wd 2)|8,_=>iL rfl 131 132 (.pointer (some ⟨fb,fo+i*4,none⟩)) (aD 6) (aD 7) (hw:=wd 2)|9,_=>dW rfl 133 (.pointer (some ⟨fb,fo+i*4+1,none⟩)) (aD 8) (hw:=wd 2)|10,_=>Xk tt 134 fb (fo+i*4+1) fq zas c1 c2 c3 (fun h=>h) kn (aD 9) (hw:=wd 2)|11,_=>jO hL tt 135 (aD 10) (hw:=wd 2)|12,_=>Kj [tt] [tt] (MR ar) 129 136 (aD 4) (aD 11) (hw:=wd 2) (hp:=Xl (KF [tt]))|13,_=>rO _ 137 (aD 12) (hw:=wd 2)|14,_=>yQ _ _ 127 138 (aD 2) (aD 13)|k+15,hk=>nk hk) fun A24 γ W24 h=>?_;obtain⟨zat,zcA,zau⟩:=h.n3 WZ W_ TT.drew;replace F2:=F2.nz h;replace B3:=B3.nz h;replace B9:=B9.nz h;replace T15:=T15.nz h;replace ti:=h.ol 14 ti;replace tk:=h.ol 16 tk;clear hT WZ W_ TT;have tc:=h.gv 14 139;clear h;refine Y5 _ _ ?_;refine wpIn_cond_false (aW tc) (wpIn_skip ?_);clear Y5 zeG tc;simp only[Exit.inBlock,Exit.then];refine hKq _ _ ?_;have Vg:IntKind.i64.wrap ((i:Int)+1)=((i+1:Nat):Int):=by rw[gU _ (by omega)];simp
  have hT:=i8.next zau;refine b8 [_,_,_] 3 3 zat (by kernel_rfl) (fun|0,_=>d8 _ 14 (ere 2 ti)|1,_=>dW rfl 112 (.int .i64 ((i+1:Nat):Int)) (aD 0)|2,_=>nu _ 113 (aD 1)|k+3,hk=>nk hk) fun A22 γ W22 h=>?_;obtain⟨WQ,zao,WR⟩:=h.n3 zat zcA zau;replace F2:=F2.nz h;replace B3:=B3.nz h;replace B9:=B9.nz h;clear hT zat zcA zau;have ti:=h.gv 2 14;simp only[Exit.then];refine⟨⟨i+1,hlt,⟨⟨WQ,zao,WR,⟨_,F2⟩,⟨_,B3⟩,B9⟩,ti⟩⟩,?_⟩;exact qfq
 have K3:decide ((i:Int)<(kd.ts.length:Int))=false:=by simp;omega
 have hT:=i8.next HB;refine bX (fun zcy Um=>?_);refine bX (fun zcz Oi=>?_);refine b8 [_,_,_,_,_] 5 5 hs (by kernel_rfl) (fun|0,_=>d8 _ 14 (old ti)|1,_=>dW rfl 9 (.pointer (some ⟨b9,1,none⟩)) (old B9.slot)|2,_=>rQ 108 b9 1 (.slice qb kd.ts.length qe) c20 (fun h=>h) (aD 1)|3,_=>dW rfl 109 (.int .i64 kd.ts.length) (aD 2)|4,_=>iL rfl 107 110 (.bool false) (aD 0) (aD 3)|k+5,hk=>nk hk) fun A21 γ EL h=>?_;obtain⟨Ks,PS,Hy⟩:=h.n3 hs hd HB;replace F2:=F2.nz h;replace B3:=B3.nz h;replace B9:=B9.nz h;replace ti:=h.ol 14 ti;clear hT hs hd HB;have tc:=h.gv 4 111;have qnY:=();exact qfr
theorem zeH(WB w:World)(i8:Tabs WB w)(s:Fm)(bd kd:Bd)(hP:BkR s bd kd)(b2 b3 b9:Nat)(q9:BQ)(Y2:∃a c b e,q9=⟨a,kd.fs.length,c,b,kd.ts.length,e⟩):∀a W,BkJ w s bd kd b2 b3 b9 q9 a W->Code.wpIn Fence.wide 3 Tryz.prog (drK ((Tryz.f9.body).getD .skip) 9) (BkQ w) a W:=by
 rintro a W ⟨hs,hd,HB,⟨q2,F2⟩,⟨q3,B3⟩,B9⟩;have kQ:∀c,bC c->WB.heap.size<=c:=fun _ h=>h.elim;have kn:∀c,X0 c->¬bC c:=fun _ _ h=>h;have hL:∀{u:World}(c),u.heap.size<=c->X0 c:=fun _ _=>trivial;have hbd:=hP.hbd;have hkd:=hP.hkd;have tf:=hP.hkd.lf;have Cd:=hP.hkd.lt;have hT:=i8.next HB;refine bX (fun zfS zcB=>?_);refine bX (fun zeI Y6=>?_);refine b8 [_] 1 1 hs (by kernel_rfl) (fun|0,_=>Kk (.int .i64 0)|k+1,hk=>nk hk) fun A14 γ W14 h=>?_;obtain⟨TL,WI,TM⟩:=h.n3 hs hd HB;replace F2:=F2.nz h;replace B3:=B3.nz h;replace B9:=B9.nz h;clear hT hs hd HB;have ti:=h.gv 0 11;clear h;refine Y6 _ _ ?_;clear Y6 zeI;refine wpIn_block ?_;refine wpIn_loop (fun a W=>∃i,i<=kd.fs.length/\BkL w s bd kd b2 b3 b9 q9 11 i a W) (fun a _=>kd.fs.length-(intOf (a.tmps.getD 11 undef)).toNat) ⟨0,aX _,⟨⟨TL,WI,TM,⟨_,F2⟩,⟨_,B3⟩,B9⟩,ti⟩⟩ ?_;clear TL WI TM ti F2 B3 B9;rintro a W ⟨i,hi,⟨⟨hs,hd,HB,⟨q2,F2⟩,⟨q3,B3⟩,B9⟩,ti⟩⟩;obtain⟨qa,qc,qb,qe,If⟩:=Y2;rw[aW ti];have c14:W.cell? ⟨b9,0,none⟩=some (.slice qa kd.fs.length qc):=(aF B9.box 0).trans (by rw[If];rfl)
 by_cases hlt:i<kd.fs.length
 case pos=>
  have K3:decide ((i:Int)<(kd.fs.length:Int))=true:=by simp;omega
  have hd0:decide ((i:Int)<0)=false:=by simp
  have hT:=i8.next HB;refine bX (fun zcC Un=>?_);refine bX (fun zcD Oi=>?_);refine b8 [_,_,_,_,_] 5 5 hs (by kernel_rfl) (fun|0,_=>d8 _ 11 (old ti)|1,_=>dW rfl 9 (.pointer (some ⟨b9,0,none⟩)) (old B9.slot)|2,_=>rP 77 b9 0 (.slice qa kd.fs.length qc) c14 (fun h=>h) (aD 1)|3,_=>dW rfl 78 (.int .i64 kd.fs.length) (aD 2)|4,_=>iL rfl 76 79 (.bool true) (aD 0) (aD 3)|k+5,hk=>nk hk) fun A15 γ K5 h=>?_;obtain⟨Kr,PM,Hv⟩:=h.n3 hs hd HB;replace F2:=F2.nz h;replace B3:=B3.nz h;replace B9:=B9.nz h;replace ti:=h.ol 11 ti;clear hT hs hd HB;have tc:=h.gv 4 80;clear h;refine Oi _ _ ?_;refine wpIn_cond_true (aW tc) (wpIn_skip ?_);refine Un _ _ ?_;clear Un Oi zcC zcD tc c14;refine bX (fun Kq hKq=>?_);refine wpIn_block ?_;obtain⟨gg,hg,QD,hrg,hrf⟩:=Uf hP.hl hP.hvb i hlt;obtain⟨⟨nm,ff⟩,YX⟩:∃x,x=kd.fs[i]:=⟨_,rfl⟩;have ar:fitF ff:=by
   have:=hkd.fs _ (ap hlt);rw[<-YX]at this;exact this.2
  have BV:FBindsV (okS X0 K5) K5 (.slice qa kd.fs.length qc) kd.fs:=by have:=B9.val.1;rw[If]at this;exact this
  obtain⟨fb,fo,fq,_z,_,r_,c0,c1,c2,c3,c4⟩:=BV.get hlt;have KN:K5.cell? ⟨b9,0,none⟩=some (.slice qa kd.fs.length qc):=(aF B9.box 0).trans (by rw[If];rfl);rw[_z]at KN;rw[<-YX]at hg QD hrf r_ c0;simp only at hg QD hrf r_ c0;have O4:fitF gg:=(hbd.fs _ (su hg)).2;have mt:nodesF gg+nodesF ff<=1000000:=by have:=z6 hrg;have:=z6 hrf;omega
  have Io:yW gg ff=true:=KC hrg hrf QD;have hT:=i8.next Hv.drew;replace F2:=F2.drew;replace B3:=B3.drew;replace B9:=B9.drew;refine bX (fun zeJ Y7=>?_);refine fw [_,_,_,_,_,_,_,Dk (ec X0 (gg)) [.bool true],_,_,_,_,_,_] 11 12 Kr (by kernel_rfl) (by kernel_rfl) (fun|0,_=>B3.ld|1,_=>dW rfl 9 (.pointer (some ⟨b9,0,none⟩)) (old B9.slot)|2,_=>rP 85 b9 0 (.slice (some ⟨fb,fo,none⟩) kd.fs.length qc) KN (fun h=>h) (aD 1)|3,_=>d8 _ 11 (old ti)|4,_=>iL rfl 86 87 (.pointer (some ⟨fb,fo+i*5,none⟩)) (aD 2) (aD 3)|5,_=>dW rfl 88 (.pointer (some ⟨fb,fo+i*5,none⟩)) (aD 4)|6,_=>KE 89 fb (fo+i*5) (.string ⟨nm.toArray⟩) c0 (fun h=>h) (aD 5)|7,_=>Uk bd nm (by have:=hbd.lf;omega) (fun x hx=>(hbd.fs x hx).2) 84 90 hL (aD 0) (aD 6) (hp:=by rw[hg];rfl)|8,_=>bM _ 91 (aD 7)|9,_=>gA _ _ 83 (aD 8)|10,_=>ii (ec X0 (gg)) [.bool true] 0 (.bool true) rfl 83 (aD 8)|11,_=>jn rfl|12,_=>jo _ 12 92 rfl (aD 11) (aD 9)|13,_=>nu _ 93 (aD 10)|k+14,hk=>nk hk) fun A17 γ TO h=>?_;obtain⟨PN,WJ,PO⟩:=h.n3 Kr PM Hv.drew;replace F2:=F2.nz h;replace B3:=B3.nz h;replace B9:=B9.nz h;replace ti:=h.ol 11 ti;obtain⟨b12,q12,F12⟩:=h.mkF 11 12 12;have zeK:=h.inv.1;clear hT Kr PM Hv;have tk:=h.gv 13 13;clear h;refine Y7 _ _ ?_;clear Y7 zeJ;have SD:Below K5.heap.size K5 TO:=dE (ai _ _).drew zeK (fun _ h=>h.elim);have⟨c1,c2,c3,c4,KN⟩:=Zj SD c1 c2 c3 c4 KN;have zas:FormV (okS X0 TO.drew) TO.drew fq.val ff:=r_.move (show gF (okS X0 K5) (okS X0 TO.drew) K5 TO.drew from fun c h hlt=>⟨⟨h.1,bJ hlt SD.size⟩,SD.block c hlt⟩);have hT:=i8.next PO.drew;replace F2:=F2.drew;replace B3:=B3.drew;replace B9:=B9.drew;replace F12:=F12.drew;refine bX (fun zeL Y8=>?_);refine fw [_,_,_,_,_,_,_,_,_,_,_,_,_] 13 13 PN (by kernel_rfl) (by kernel_rfl) (fun|0,_=>d8 _ 13 (old tk)|1,_=>rO _ 94 (aD 0)|2,_=>d8 _ 95 (aD 1)|3,_=>F12.ld (hw:=wd 2)|4,_=>dW rfl 9 (.pointer (some ⟨b9,0,none⟩)) (old B9.slot) (hw:=wd 2)|5,_=>rP 98 b9 0 (.slice (some ⟨fb,fo,none⟩) kd.fs.length qc) KN (fun h=>h) (aD 4) (hw:=wd 2)|6,_=>d8 _ 11 (old ti) (hw:=wd 2)|7,_=>iL rfl 99 100 (.pointer (some ⟨fb,fo+i*5,none⟩)) (aD 5) (aD 6) (hw:=wd 2)|8,_=>dW rfl 101 (.pointer (some ⟨fb,fo+i*5+1,none⟩)) (aD 7) (hw:=wd 2)|9,_=>Xd ff 102 fb (fo+i*5+1) fq zas c1 c2 c3 c4 (fun h=>h) kn (aD 8) (hw:=wd 2)|10,_=>Uj gg ff O4 ar mt 97 103 hT kQ (aD 3) (aD 9) (hw:=wd 2) (hp:=Xl Io)|11,_=>rO _ 104 (aD 10) (hw:=wd 2)|12,_=>yQ _ _ 96 105 (aD 2) (aD 11)|k+13,hk=>nk hk) fun A18 γ W18 h=>?_;obtain⟨PP,WL,MF⟩:=h.n3 PN WJ PO.drew;replace F2:=F2.nz h;replace B3:=B3.nz h;replace B9:=B9.nz h;replace F12:=F12.nz h;replace ti:=h.ol 11 ti;replace tk:=h.ol 13 tk;clear hT PN WJ PO;have tc:=h.gv 12 106;clear h;refine Y8 _ _ ?_;refine wpIn_cond_false (aW tc) (wpIn_skip ?_);clear Y8 zeL tc;simp only[Exit.inBlock,Exit.then];refine hKq _ _ ?_;have Vg:IntKind.i64.wrap ((i:Int)+1)=((i+1:Nat):Int):=by rw[gU _ (by omega)];simp
  have hT:=i8.next MF;refine b8 [_,_,_] 3 3 PP (by kernel_rfl) (fun|0,_=>d8 _ 11 (ere 2 ti)|1,_=>dW rfl 81 (.int .i64 ((i+1:Nat):Int)) (aD 0)|2,_=>nu _ 82 (aD 1)|k+3,hk=>nk hk) fun A16 γ W16 h=>?_;obtain⟨zeM,zeN,zeO⟩:=h.n3 PP WL MF;replace F2:=F2.nz h;replace B3:=B3.nz h;replace B9:=B9.nz h;clear hT PP WL MF;have ti:=h.gv 2 11;simp only[Exit.then];refine⟨⟨i+1,hlt,⟨⟨zeM,zeN,zeO,⟨_,F2⟩,⟨_,B3⟩,B9⟩,ti⟩⟩,?_⟩;exact qfq
 have K3:decide ((i:Int)<(kd.fs.length:Int))=false:=by simp;omega
 have hT:=i8.next HB;refine bX (fun zcC Un=>?_);refine bX (fun zcD Oi=>?_);refine b8 [_,_,_,_,_] 5 5 hs (by kernel_rfl) (fun|0,_=>d8 _ 11 (old ti)|1,_=>dW rfl 9 (.pointer (some ⟨b9,0,none⟩)) (old B9.slot)|2,_=>rP 77 b9 0 (.slice qa kd.fs.length qc) c14 (fun h=>h) (aD 1)|3,_=>dW rfl 78 (.int .i64 kd.fs.length) (aD 2)|4,_=>iL rfl 76 79 (.bool false) (aD 0) (aD 3)|k+5,hk=>nk hk) fun A15 γ K5 h=>?_;obtain⟨Kr,PM,Hv⟩:=h.n3 hs hd HB;replace F2:=F2.nz h;replace B3:=B3.nz h;replace B9:=B9.nz h;replace ti:=h.ol 11 ti;clear hT hs hd HB;have tc:=h.gv 4 80;exact qfr
theorem bk8(WB w:World)(i8:Tabs WB w)(s f:Fm)(bd:Bd)(hP:BkP s f bd)(b2 b3 b5:Nat):∀a W,BkI w s f bd b2 b3 b5 a W->Code.wpIn Fence.wide 3 Tryz.prog (drK ((Tryz.f9.body).getD .skip) 5) (BkQ w) a W:=by
 rintro a W ⟨hs,hd,HB,⟨q2,F2⟩,⟨q3,B3⟩,⟨q5,F5⟩⟩;have kQ:∀c,bC c->WB.heap.size<=c:=fun _ h=>h.elim;have kn:∀c,X0 c->¬bC c:=fun _ _ h=>h;have hL:∀{u:World}(c),u.heap.size<=c->X0 c:=fun _ _=>trivial;have hfs:=hP.hfs;have hbd:=hP.hbd;obtain⟨h1s,h2v,h3r,_,_⟩:=AF hP.hM;have Rx:fitF f:=Qi h3r;have eW:=KG hbd;have hS:=Pp hP.hM eW;have Y9:=Qa hP.hM eW;have hns:nodesF s<=400:=by simp only[fM,ae,br]at h1s;exact h1s.2.1
 clear h1s h3r eW;have hT:=i8.next HB;refine bX (fun K8a zcE=>?_);refine b8 [_,_,_,_,_,_,_,_,_,_] 7 8 hs (by kernel_rfl) (fun|0,_=>F2.ld|1,_=>F5.ld|2,_=>B3.ld|3,_=>wP s f bd bd 0 0 hS hfs Rx hbd 40 41 42 hT kQ hL (aD 0) (aD 1) (aD 2)|4,_=>bM _ 43 (aD 3)|5,_=>gA _ _ 39 (aD 4)|6,_=>ii (i9 X0 bd) [.int .i64 0] 0 (.int .i64 0) rfl 39 (aD 4)|7,_=>mQ rfl|8,_=>mR _ 7 44 rfl (aD 7) (aD 5)|9,_=>nu _ 45 (aD 6)|k+10,hk=>nk hk) fun A8 γ W8 h=>?_;obtain⟨WC,hd8,Ω⟩:=h.n3 hs hd HB;replace F2:=F2.nz h;replace B3:=B3.nz h;replace F5:=F5.nz h;obtain⟨b7,q7,B7⟩:=h.mkB 7 8 7;clear hT hs hd HB;have t8:=h.gv 9 8;clear h;refine zcE _ _ ?_;clear zcE K8a;have hT:=i8.next Ω;refine bX (fun K9a zcF=>?_);refine bX (fun K9b zcG=>?_);refine b8 [_,_,_,_,_,_,_,_] 8 8 WC (by kernel_rfl) (fun|0,_=>d8 _ 8 (old t8)|1,_=>DC .i64 0 0 false rfl 46 (aD 0)|2,_=>d8 _ 47 (aD 1)|3,_=>B7.ld (hw:=wd 2)|4,_=>B3.ld (hw:=wd 2)|5,_=>T1 _ _ hbd 49 50 (aD 3) (aD 4) (hw:=wd 2) (hp:=Xl (F1.2 rfl))|6,_=>rO _ 51 (aD 5) (hw:=wd 2)|7,_=>yQ _ _ 48 52 (aD 2) (aD 6)|k+8,hk=>nk hk) fun A9 γ W9 h=>?_;obtain⟨hs9,hd9,HB9⟩:=h.n3 WC hd8 Ω;replace F2:=F2.nz h;replace B3:=B3.nz h;replace F5:=F5.nz h;replace B7:=B7.nz h;replace t8:=h.ol 8 t8;clear hT WC hd8 Ω;have tc:=h.gv 7 53;clear h hS;refine zcG _ _ ?_;refine wpIn_cond_false (aW tc) (wpIn_skip ?_);refine zcF _ _ ?_;clear zcF zcG K9a K9b tc B7 t8;obtain⟨kd,ki,er,hM⟩:∃kd ki er,cP [(s,f)] ⟨[],[]⟩=(kd,ki,er):=⟨_,_,_,rfl⟩;rw[hM]at Y9;have hT:=i8.next HB9;refine bX (fun zeP Y'=>?_);refine b8 [_,_,i9 X0 (⟨[],[]⟩),_,_,_,_,_,_,_] 7 8 hs9 (by kernel_rfl) (fun|0,_=>F2.ld|1,_=>F5.ld|2,_=>N6|3,_=>wP s f ⟨[],[]⟩ kd ki er hM hfs Rx mS 55 56 57 hT kQ hL (aD 0) (aD 1) (aD 2)|4,_=>bM _ 58 (aD 3)|5,_=>gA _ _ 54 (aD 4)|6,_=>ii (i9 X0 kd) [.int .i64 er] 0 (.int .i64 er) rfl 54 (aD 4)|7,_=>mQ rfl|8,_=>mR _ 9 59 rfl (aD 7) (aD 5)|9,_=>nu _ 60 (aD 6)|k+10,hk=>nk hk) fun A11 γ wH h=>?_;obtain⟨CX,PL,Hu⟩:=h.n3 hs9 hd9 HB9;replace F2:=F2.nz h;replace B3:=B3.nz h;replace F5:=F5.nz h;obtain⟨b9,q9,B9⟩:=h.mkB 7 8 9;clear hT hs9 hd9 HB9;have Qk:=h.gv 9 10;clear h;refine Y' _ _ ?_;clear Y' zeP;clear F5 hM;rcases Y9 with⟨hh,hl,hn⟩|⟨e,he,hm,p,hp,h16⟩
 case inl=>
  simp only at hh hl hn;obtain⟨rfl,rfl⟩:=Prod.mk.inj hh;clear hh;have hT:=i8.next Hu;refine bX (fun zeQ Y_=>?_);refine bX (fun zeR hK2=>?_);refine b8 [_,_] 2 2 CX (by kernel_rfl) (fun|0,_=>d8 _ 10 (old Qk)|1,_=>DC .i64 0 0 false rfl 61 (aD 0)|k+2,hk=>nk hk) fun A12 γ W12 h=>?_;obtain⟨KJ,Ql,KK⟩:=h.n3 CX PL Hu;replace F2:=F2.nz h;replace B3:=B3.nz h;replace B9:=B9.nz h;replace Qk:=h.ol 10 Qk;clear hT CX PL Hu;have tc:=h.gv 1 62;clear h;refine hK2 _ _ ?_;refine wpIn_cond_false (aW tc) (wpIn_skip ?_);refine Y_ _ _ ?_;have hq:=B9.val;obtain⟨qa,ql,qc,qb,qm,qe⟩:=q9;obtain rfl:=hq.1.len;obtain rfl:=hq.2.len;exact zeH WB w i8 s bd kd ⟨hfs,hns,hbd,MS hl hn (by omega) hbd,h2v,hl,hn⟩ b2 b3 b9 _ ⟨_,_,_,_,rfl⟩ _ _ ⟨KJ,Ql,KK,⟨_,F2⟩,⟨_,B3⟩,B9⟩
 obtain⟨iI,hm⟩:=Prod.mk.inj hm;obtain⟨rfl,rfl⟩:=Prod.mk.inj hm;subst iI;clear hm;have zcH:=Ug (w_ s f [] p hp) h16;have gY:(er !=0)=true:=by rcases he with rfl|rfl<;>rfl
 have hT:=i8.next Hu;refine bX (fun zeQ Y_=>?_);refine bX (fun zeR hK2=>?_);refine b8 [_,_] 2 2 CX (by kernel_rfl) (fun|0,_=>d8 _ 10 (old Qk)|1,_=>DC .i64 er 0 true gY 61 (aD 0)|k+2,hk=>nk hk) fun A12 γ W12 h=>?_;obtain⟨KJ,Ql,KK⟩:=h.n3 CX PL Hu;replace F2:=F2.nz h;replace B3:=B3.nz h;replace B9:=B9.nz h;replace Qk:=h.ol 10 Qk;clear hT CX PL Hu;have tc:=h.gv 1 62;clear h;refine hK2 _ _ ?_;refine wpIn_cond_true (aW tc) ?_;rcases he with rfl|rfl
 case inl=>
  have hT:=i8.next KK;refine bX (fun zeS Uq=>?_);refine b8 [_,_,_,_,_,_,_,_,_,_,_,_,_,_] 14 14 KJ (by kernel_rfl) (fun|0,_=>F2.ld|1,_=>Ui s hfs 63 (aD 0)|2,_=>KD _ 64 (aD 1)|3,_=>Og _ 65 zcH (aD 2)|4,_=>DB .u32 1 1 true rfl 66 (aD 3)|5,_=>d8 _ 67 (aD 4)|6,_=>d8 _ 10 (old Qk) (hw:=wd 5)|7,_=>DB .i64 70 71 false rfl 69 (aD 6) (hw:=wd 5)|8,_=>d8 _ 70 (aD 7) (hw:=wd 5)|9,_=>d8 _ 10 (old Qk) (hw:=wd 8)|10,_=>DB .i64 70 70 true rfl 72 (aD 9) (hw:=wd 8)|11,_=>yQ _ _ 71 73 (aD 8) (aD 10) (hw:=wd 5)|12,_=>T7 _ _ 68 74 (aD 5) (aD 11)|13,_=>nu _ 75 (aD 12)|k+14,hk=>nk hk) fun A13 γ m8 h=>?_;obtain⟨WH,TK,ig⟩:=h.n3 KJ Ql KK;replace F2:=F2.nz h;replace B3:=B3.nz h;replace B9:=B9.nz h;replace Qk:=h.ol 10 Qk;clear hT KJ Ql KK;have tr:=h.gv 13 4;refine Uq _ _ ?_;refine wpIn_ret ?_
  try simp only[Exit.then]
  exact qfs
 have hT:=i8.next KK;refine bX (fun zeS Uq=>?_);refine b8 [_,_,_,_,_,_,_,_,_,_,_,_,_,_] 14 14 KJ (by kernel_rfl) (fun|0,_=>F2.ld|1,_=>Ui s hfs 63 (aD 0)|2,_=>KD _ 64 (aD 1)|3,_=>Og _ 65 zcH (aD 2)|4,_=>DB .u32 1 1 true rfl 66 (aD 3)|5,_=>d8 _ 67 (aD 4)|6,_=>d8 _ 10 (old Qk) (hw:=wd 5)|7,_=>DB .i64 71 71 true rfl 69 (aD 6) (hw:=wd 5)|8,_=>d8 _ 70 (aD 7) (hw:=wd 5)|9,_=>Dy false 8 (aD 8)|10,_=>Dy false 8 (aD 8)|11,_=>T6 _ 71 (aD 8) (hw:=wd 5)|12,_=>T7 _ _ 68 74 (aD 5) (aD 11)|13,_=>nu _ 75 (aD 12)|k+14,hk=>nk hk) fun A13 γ m8 h=>?_;obtain⟨WH,TK,ig⟩:=h.n3 KJ Ql KK;replace F2:=F2.nz h;replace B3:=B3.nz h;replace B9:=B9.nz h;replace Qk:=h.ol 10 Qk;clear hT KJ Ql KK;have tr:=h.gv 13 4;refine Uq _ _ ?_;refine wpIn_ret ?_
 try simp only[Exit.then]
 exact qfs
theorem Ur(WB:World)(s:Fm)(bd:Bd)(hfs:fitF s)(hb1:bd.fs.length<=1000000)(bG:bd.ts.length<=1000000)(xq:bd.fs.length<=10->bd.ts.length<=10->fitFs (kT bd.fs++lS bd.ts))(ok ok':Nat->Prop)(w:World)(i8:Tabs WB w)(q:FQ)(qb:BQ)(hq:FormV ok w q.val s)(hb:BindV ok' w qb bd):
  Calls Tryz.prog 9 #[q.val,qb.val] w fun e w'=>e=.returned (.bool true)/\Below w.heap.size w w':=by
 have⟨W2,aZ⟩:=aj ((w.alloc (.cells #[.int .u8 q.o,.string q.n,.slice q.a q.l q.c,.slice q.b q.m q.e] 36)).alloc (.cells #[.slice qb.a qb.l qb.c,.slice qb.b qb.m qb.e] 26));have HB:=k_ aZ;have hx:=qM aZ;have hy:=jH aZ;have⟨b2,U_⟩:=aj w.heap.size;have⟨b3,zcI⟩:=aj (w.heap.size+1);have hvf:FormV (okS X0 W2) W2 q.val s:=((hq.lt).later HB).move (fun c h hlt=>⟨⟨trivial,hlt⟩,rfl⟩);have hqw:BindV (fun b=>b<w.heap.size) w qb bd:=hb.move (fun _ _ h=>⟨h,rfl⟩);have hvb:BindV (okS X0 W2) W2 qb bd:=(hqw.later HB).move (fun c h hlt=>⟨⟨trivial,hlt⟩,rfl⟩);clear hq hb hqw;simp only[FQ.val,BQ.val];refine nG Tryz.func9 ?_;simp only[Tryz.ntmps9,Nat.reduceAdd,Nat.reduceSub,lE];refine bX (fun K hK=>?_);refine wpIn_region_lit ?_
 iterate 10 gi_step
 refine hK _ _ ?_;rw[<-aZ];refine(fun(A:Act)(hs:A.tmps.size=151)(hd:A.defers=[])(t2:A.tmps[2]?=some (ptr w.heap.size))(t3:A.tmps[3]?=some (ptr (w.heap.size+1)))=>?_:∀A:Act,A.tmps.size=151->A.defers=[]->A.tmps[2]?=some (ptr w.heap.size)->A.tmps[3]?=some (ptr (w.heap.size+1))->Code.wpIn Fence.wide 3 _ _ _ A W2) _ rfl rfl rfl rfl;clear hK K;rw[<-U_]at t2 hx;rw[<-zcI]at t3 hy;have F2:LF X0 A W2 2 b2 q s:=⟨t2,hx,hvf⟩;have B3:LB X0 A W2 3 b3 qb bd:=⟨t3,hy,hvb⟩;clear t2 t3 hx hy hvf hvb aZ U_ zcI;have kQ:∀c,bC c->WB.heap.size<=c:=fun _ h=>h.elim;have kn:∀c,X0 c->¬bC c:=fun _ _ h=>h;have hL:∀{u:World}(c),u.heap.size<=c->X0 c:=fun _ _=>trivial;have uM:fitFs [s]:=⟨by simp only[nodesFs];have:=hfs.1;omega,by simp[nmFs,hfs.2]⟩;have hT:=i8.next HB;refine bX (fun K1a zcJ=>?_);refine bX (fun K1b zcK=>?_);refine b8 [_,_] 2 2 hs (by kernel_rfl) (fun|0,_=>T0 hT kQ|1,_=>rO _ 17 (aD 0)|k+2,hk=>nk hk) fun A1 γ W1 h=>?_;obtain⟨gG,K3,dY⟩:=h.n3 hs hd HB;replace F2:=F2.nz h;replace B3:=B3.nz h;clear hT hs hd HB;have tc:=h.gv 1 18;clear h;refine zcK _ _ ?_;refine wpIn_cond_false (aW tc) (wpIn_skip ?_);refine zcJ _ _ ?_;clear zcJ zcK K1a K1b tc
 by_cases Mv:mg [s]=true
 case neg=>
  have Mv:mg [s]=false:=by simpa using Mv
  have hT:=i8.next dY;refine bX (fun K3a Xn=>?_);refine bX (fun K3b hK2=>?_);refine b8 [_,_,_,_,_,_,_,_,_] 9 9 gG (by kernel_rfl) (fun|0,_=>F2.ld|1,_=>gQ hL _ 19 (aD 0)|2,_=>Dz [s] uM 20 (aD 1) (hp:=Xl Mv)|3,_=>rO _ 21 (aD 2)|4,_=>d8 _ 22 (aD 3)|5,_=>Dy false 4 (aD 4)|6,_=>Dy false 4 (aD 4)|7,_=>Dy false 4 (aD 4)|8,_=>T6 _ 23 (aD 4)|k+9,hk=>nk hk) fun A3 γ W3 h=>?_;obtain⟨rV,M_,bD⟩:=h.n3 gG K3 dY;replace F2:=F2.nz h;replace B3:=B3.nz h;clear hT gG K3 dY;have tc:=h.gv 8 27;clear h;refine hK2 _ _ ?_;refine wpIn_cond_true (aW tc) ?_;have hT:=i8.next bD;refine bX (fun K4a zav=>?_);refine b8 [_] 1 1 rV (by kernel_rfl) (fun|0,_=>Kk (.bool true)|k+1,hk=>nk hk) fun A4 γ W4 h=>?_;obtain⟨yh,UV,eG⟩:=h.n3 rV M_ bD;replace F2:=F2.nz h;replace B3:=B3.nz h;clear hT rV M_ bD;have tr:=h.gv 0 4;refine zav _ _ ?_;refine wpIn_ret ?_
  try simp only[Exit.then]
  exact qft
 by_cases Az:nr bd=true
 case neg=>
  have Az:nr bd=false:=by simpa using Az
  have hT:=i8.next dY;refine bX (fun K3a Xn=>?_);refine bX (fun K3b hK2=>?_);refine b8 [_,_,_,_,_,_,_,_,_] 9 9 gG (by kernel_rfl) (fun|0,_=>F2.ld|1,_=>gQ hL _ 19 (aD 0)|2,_=>Dz [s] uM 20 (aD 1) (hp:=Xl Mv)|3,_=>rO _ 21 (aD 2)|4,_=>d8 _ 22 (aD 3)|5,_=>B3.ld (hw:=wd 4)|6,_=>F3 bd hb1 bG xq 24 (aD 5) (hw:=wd 4) (hp:=Xl Az)|7,_=>rO _ 25 (aD 6) (hw:=wd 4)|8,_=>yQ _ _ 23 26 (aD 4) (aD 7)|k+9,hk=>nk hk) fun A3 γ W3 h=>?_;obtain⟨rV,M_,bD⟩:=h.n3 gG K3 dY;replace F2:=F2.nz h;replace B3:=B3.nz h;clear hT gG K3 dY;have tc:=h.gv 8 27;clear h;refine hK2 _ _ ?_;refine wpIn_cond_true (aW tc) ?_;have hT:=i8.next bD;refine bX (fun K4a zav=>?_);refine b8 [_] 1 1 rV (by kernel_rfl) (fun|0,_=>Kk (.bool true)|k+1,hk=>nk hk) fun A4 γ W4 h=>?_;obtain⟨yh,UV,eG⟩:=h.n3 rV M_ bD;replace F2:=F2.nz h;replace B3:=B3.nz h;clear hT rV M_ bD;have tr:=h.gv 0 4;refine zav _ _ ?_;refine wpIn_ret ?_
  try simp only[Exit.then]
  exact qft
 have hT:=i8.next dY;refine bX (fun K3a Xn=>?_);refine bX (fun K3b hK2=>?_);refine b8 [_,_,_,_,_,_,_,_,_] 9 9 gG (by kernel_rfl) (fun|0,_=>F2.ld|1,_=>gQ hL _ 19 (aD 0)|2,_=>Dz [s] uM 20 (aD 1) (hp:=Xl Mv)|3,_=>rO _ 21 (aD 2)|4,_=>d8 _ 22 (aD 3)|5,_=>B3.ld (hw:=wd 4)|6,_=>F3 bd hb1 bG xq 24 (aD 5) (hw:=wd 4) (hp:=Xl Az)|7,_=>rO _ 25 (aD 6) (hw:=wd 4)|8,_=>yQ _ _ 23 26 (aD 4) (aD 7)|k+9,hk=>nk hk) fun A3 γ W3 h=>?_;obtain⟨rV,M_,bD⟩:=h.n3 gG K3 dY;replace F2:=F2.nz h;replace B3:=B3.nz h;clear hT gG K3 dY;have tc:=h.gv 8 27;clear h;refine hK2 _ _ ?_;refine wpIn_cond_false (aW tc) (wpIn_skip ?_);refine Xn _ _ ?_;clear Xn hK2 K3a K3b tc;have wn:bd.fs.length<=10/\bd.ts.length<=10:=by
  simp only[nr,ae,br]at Az;exact⟨Az.1,Az.2.1⟩
 have hbd:BdFit bd:=(MP Az (xq wn.1 wn.2)).1;obtain⟨f,er,hM⟩:∃f er,fillS s bd=(f,er):=⟨_,_,rfl⟩;clear Mv Az hb1 bG xq wn uM;have hT:=i8.next bD;refine bX (fun K5a zcL=>?_);refine b8 [_,_,_,_,_,_,_,_,_] 6 7 rV (by kernel_rfl) (fun|0,_=>F2.ld|1,_=>B3.ld|2,_=>AI _ _ _ _ hM hfs hbd 29 30 hT kQ hL (aD 0) (aD 1)|3,_=>bM _ 31 (aD 2)|4,_=>gA _ _ 28 (aD 3)|5,_=>ii (ec X0 f) [.int .i64 er] 0 (.int .i64 er) rfl 28 (aD 3)|6,_=>jn rfl|7,_=>jo _ 5 32 rfl (aD 6) (aD 4)|8,_=>nu _ 33 (aD 5)|k+9,hk=>nk hk) fun A5 γ W5 h=>?_;obtain⟨zt,hd5,xr⟩:=h.n3 rV M_ bD;replace F2:=F2.nz h;replace B3:=B3.nz h;obtain⟨b5,q5,F5⟩:=h.mkF 6 7 5;clear hT rV M_ bD;have t6:=h.gv 8 6;clear h;refine zcL _ _ ?_;clear zcL K5a
 by_cases hz:er=0
 case neg=>
  have gY:(er !=0)=true:=by simpa using hz
  obtain rfl:=Qj hM hz;have GY:fitF jq:=⟨by decide,by decide⟩;have hT:=i8.next xr;refine bX (fun K6a zcM=>?_);refine bX (fun K6b zaw=>?_);refine b8 [_,_] 2 2 zt (by kernel_rfl) (fun|0,_=>d8 _ 6 (old t6)|1,_=>DC .i64 er 0 true gY 34 (aD 0)|k+2,hk=>nk hk) fun A6 γ W6 h=>?_;obtain⟨sd,hd6,RK⟩:=h.n3 zt hd5 xr;replace F2:=F2.nz h;replace B3:=B3.nz h;replace F5:=F5.nz h;replace t6:=h.ol 6 t6;clear hT zt hd5 xr;have tc:=h.gv 1 35;clear h;refine zaw _ _ ?_;refine wpIn_cond_true (aW tc) ?_;have hT:=i8.next RK;refine bX (fun K7a zeT=>?_);refine b8 [_,ec X0 jq,_,_] 4 4 sd (by kernel_rfl) (fun|0,_=>F5.ld|1,_=>T5|2,_=>wQ jq jq GY 36 37 (aD 0) (aD 1) (hp:=Xl (MQ jq))|3,_=>nu _ 38 (aD 2)|k+4,hk=>nk hk) fun A7 γ W7 h=>?_;obtain⟨NG,hd7,HB7⟩:=h.n3 sd hd6 RK;replace F2:=F2.nz h;replace B3:=B3.nz h;replace F5:=F5.nz h;replace t6:=h.ol 6 t6;clear hT sd hd6 RK;have tr:=h.gv 3 4;refine zeT _ _ ?_;refine wpIn_ret ?_
  try simp only[Exit.then]
  exact bK (v:=.bool true) (by simp[results,Tryz.results9,go_sem,tr]) hd7 ⟨rfl,HB7⟩
 subst hz;have hT:=i8.next xr;refine bX (fun K6a zcM=>?_);refine bX (fun K6b zaw=>?_);refine b8 [_,_] 2 2 zt (by kernel_rfl) (fun|0,_=>d8 _ 6 (old t6)|1,_=>DC .i64 0 0 false rfl 34 (aD 0)|k+2,hk=>nk hk) fun A6 γ W6 h=>?_;obtain⟨sd,hd6,RK⟩:=h.n3 zt hd5 xr;replace F2:=F2.nz h;replace B3:=B3.nz h;replace F5:=F5.nz h;replace t6:=h.ol 6 t6;clear hT zt hd5 xr;have tc:=h.gv 1 35;clear h;refine zaw _ _ ?_;refine wpIn_cond_false (aW tc) (wpIn_skip ?_);refine zcM _ _ ?_;exact bk8 WB w i8 s f bd ⟨hfs,hbd,hM⟩ b2 b3 b5 _ _ ⟨sd,hd6,RK,⟨_,F2⟩,⟨_,B3⟩,⟨_,F5⟩⟩
end
end Go.Proofs.YtokemihbkeddoaaGreatDoor
namespace Go.Proofs.YtokemihbkeddoaaGreatDoor
set_option maxRecDepth 100000
set_option maxHeartbeats 64000000
open Go Go.RowKit Go.Lib Go.ChangeShapes
def lst:List (String×DataW Unit):=[("math/bits.deBruijn32tab",Rows.laid_math_bits_deBruijn32tab),("math/bits.deBruijn64tab",Rows.laid_math_bits_deBruijn64tab),("internal/strconv.uint64pow10",Rows.laid_internal_strconv_uint64pow10),("lyceum/syntax.rows",Rows.laid_lyceum_syntax_rows)]
def zax(r:Bool×Bool×Nat×Nat×Nat):DataW Unit:=.agg [.lit (.bool r.1),.lit (.bool r.2.1),.lit (.int .u8 (r.2.2.1:Nat)),.lit (.int .i64 (r.2.2.2.1:Nat)),.lit (.int .i64 (r.2.2.2.2:Nat))]
theorem zay:(Rows.laid_internal_strconv_uint64pow10:DataW Unit)=tabData .u64 pow10Tab:=by kernel_rfl
theorem Xo:(Rows.laid_lyceum_syntax_rows:DataW Unit)=.agg ((List.range 17).map fun(o:Nat)=>zax (rowOp o)):=by kernel_rfl
theorem Za:Tryz.prog.globalNamed "lyceum/syntax.rows"=some 0:=by kernel_rfl
theorem zaz:(Tryz.prog.globals[0]?).map (·.type)=some 174:=by kernel_rfl
theorem zcN:(Tryz.prog.globals[2]?).map (·.type)=some 304:=by kernel_rfl
theorem zaA:Tryz.prog.cellsOf 173=5:=by kernel_rfl
theorem Xp:Tryz.prog.cellsOf 304=20:=by kernel_rfl
theorem Us:Tryz.prog.cellsOf 275=1:=by kernel_rfl
section
variable{W:World}{base cO:Nat}{sp:Nat->Bool}{held:Bool}{cs:List Value}{p:List MemPlace}{enc:TypeId×Value->Unit}
theorem zcO{α:Type}{l:List α}(h:l.length=5):∃a b c d e,l=[a,b,c,d,e]:=by
 match l,h with
 |[a,b,c,d,e],_=>exact⟨a,b,c,d,e,rfl⟩
theorem Qn{r:Bool×Bool×Nat×Nat×Nat}(h:DataW.trod enc Tryz.prog W base sp held cO 173 cs=some (zax r,p)):cs=[.bool r.1,.bool r.2.1,.int .u8 (r.2.2.1:Nat),.int .i64 (r.2.2.2.1:Nat),.int .i64 (r.2.2.2.2:Nat)]:=by
 obtain⟨xs,n,_,hx,bW,z_,hf⟩:=DataW.trod_struct Tryz.underlying173 h;obtain⟨c0,c1,c2,c3,c4,rfl⟩:=zcO (bW.trans (by kernel_rfl));obtain⟨x0,x1,x2,x3,x4,rfl⟩:=zcO (z_.trans (by kernel_rfl));have h0:DataW.trod enc Tryz.prog W base sp held n 4 [c0]=some x0:=hf 0 _ rfl;have h1:DataW.trod enc Tryz.prog W base sp held n 4 [c1]=some x1:=hf 1 _ rfl;have h2:DataW.trod enc Tryz.prog W base sp held n 5 [c2]=some x2:=hf 2 _ rfl;have h3:DataW.trod enc Tryz.prog W base sp held n 3 [c3]=some x3:=hf 3 _ rfl;have h4:DataW.trod enc Tryz.prog W base sp held n 3 [c4]=some x4:=hf 4 _ rfl;obtain⟨b0,e0,rfl⟩:=DataW.trod_bool Tryz.underlying4 h0;obtain⟨b1,e1,rfl⟩:=DataW.trod_bool Tryz.underlying4 h1;obtain⟨z2,e2,rfl,_⟩:=DataW.trod_int Tryz.underlying5 h2;obtain⟨z3,e3,rfl,_⟩:=DataW.trod_int Tryz.underlying3 h3;obtain⟨z4,e4,rfl,_⟩:=DataW.trod_int Tryz.underlying3 h4;have:=congrArg Prod.fst hx;simp[zax]at this e0 e1 e2 e3 e4;obtain⟨g0,g1,g2,g3,g4⟩:=this;subst e0 e1 e2 e3 e4;rw[g0,g1,g2,g3,g4]
theorem Ig{f:Nat->DataW Unit}(h:DataW.trod enc Tryz.prog W base sp held cO 174 cs=some (.agg ((List.range 17).map f),p)):∀o,o<17->∃n p',DataW.trod enc Tryz.prog W base sp held n 173 ((cs.drop (o*5)).take 5)=some (f o,p'):=by
 intro o ho
 cases cO with
 |zero=>simp[DataW.trod]at h
 |succ cO=>
  simp only[DataW.trod,Tryz.underlying174,zaA]at h;split at h
  ·obtain⟨xs,hm,hx⟩:=Option.map_eq_some_iff.1 h;obtain⟨b,hb,hf⟩:=mapM_at hm o o (by simp[ho]);have h2:xs.map (·.1)=(List.range 17).map f:=by
    have:=congrArg Prod.fst hx;simpa using this
   have h3:=congrArg (·[o]?) h2;simp[hb,ho]at h3;exact⟨cO,b.2,by rw[hf,<-h3]⟩
  ·cases h
end
theorem EO{W:World}(hL:laidMet Tryz.prog lst W):Tabs0 W:=by
 refine⟨?_,fun o ho=>?_⟩
 ·obtain⟨g',t',cs,cO,p,hg,ht,zaB,hd⟩:=laidMet.reads hL (n:="internal/strconv.uint64pow10") (d:=Rows.laid_internal_strconv_uint64pow10) (.tail _ (.tail _ (.head _)));obtain rfl:=Option.some.inj (Zo.symm.trans hg);obtain rfl:=Option.some.inj (zcN.symm.trans ht);rw[zay]at hd;unfold TabIs;rw[zaB,<-cells_of_tab Tryz.underlying304 Tryz.underlying275 Us Xp hd]
 ·obtain⟨g',t',cs,cO,p,hg,ht,zaB,hd⟩:=laidMet.reads hL (n:="lyceum/syntax.rows") (d:=Rows.laid_lyceum_syntax_rows) (.tail _ (.tail _ (.tail _ (.head _))));obtain rfl:=Option.some.inj (Za.symm.trans hg);obtain rfl:=Option.some.inj (zaz.symm.trans ht);rw[Xo]at hd;obtain⟨n,p',h⟩:=Ig hd o ho;have hc:=Qn h;have Iz:∀j,j<5->W.cell? ⟨0,o*5+j,none⟩=((cs.toList.drop (o*5)).take 5)[j]?:=fun j hj=>by
   rw[World.var?_cell Za zaB (o*5+j),List.getElem?_take_of_lt hj,List.getElem?_drop];simp
  rw[hc]at Iz;exact⟨Iz 0 (by omega),Iz 1 (by omega),Iz 2 (by omega),Iz 3 (by omega),Iz 4 (by omega)⟩
noncomputable def laidWorld (os:Os):World:=
 let w0:=World.holding Tryz.prog os ⟨#[],#[],[]⟩
 let put (h:Array Obj) (g:Nat) (cs:Array Value):Array Obj:=h.modify g fun
  |.cells _ t zaC=>.cells cs t zaC
  |o=>o
 let ints (d:DataW Unit) (k:IntKind):Array Value:=match d with
  |.agg l=>(l.map fun|.lit (.int _ z)=>Value.int k z|_=>undef).toArray
  |_=>#[]
 let h1:=put w0.heap 3 (ints Rows.laid_math_bits_deBruijn32tab .u8)
 let h2:=put h1 4 (ints Rows.laid_math_bits_deBruijn64tab .u8)
 let h3:=put h2 2 (ints Rows.laid_internal_strconv_uint64pow10 .u64)
 let h4:=put h3 0 ((List.range 17).flatMap fun(o:Nat)=>[.bool (rowOp o).1,.bool (rowOp o).2.1,.int .u8 ((rowOp o).2.2.1:Nat),.int .i64 ((rowOp o).2.2.2.1:Nat),.int .i64 ((rowOp o).2.2.2.2:Nat)]).toArray
 {w0 with heap:=h4 }
theorem Ut(os:Os)(args:Array Value):laidMet Tryz.prog lst ((laidWorld os).forCall (fun _ _=>0) ⟨#[],args,[]⟩).memory:=
 laidMet_of_run' 8 (by kernel_rfl) (by kernel_rfl)
