/-L-/
import Derived.Test.YtokemihbkeddoaaGreatDoorP05
open Go.Proofs.Tryz
namespace Go.Proofs.YtokemihbkeddoaaGreatDoor
open Go Go.RowKit Lib
set_option maxRecDepth 100000
set_option maxHeartbeats 0
variable{t:Tm}{ρ:aj->Dt}{d i g lo cap R F:Nat}{f im f':Fm}{l ins:List aj}{c c':gO}{z y x n:aj}{v row:Value}{k b:Bd}{p:Pl}{o:Int}{W W' W1 w4 wr A:World}{T:TypeId}
mutual
def mpT(θ:Dt->Dt):Dt->Dt|.app n a=>.app n (Oj θ a)|t=>θ t
def Oj(θ:Dt->Dt):List Dt->List Dt|[]=>[]|t::l=>mpT θ t::Oj θ l
end
mutual
def mpF(θ:Dt->Dt):Df->Df|.mk o n a s=>.mk o n (Oj θ a) (Yi θ s)
def Yi(θ:Dt->Dt):List Df->List Df|[]=>[]|t::l=>mpF θ t::Yi θ l
end
theorem Yj{θ:Dt->Dt}{t:Dt}(h:t.atom):mpT θ t=θ t:=by cases t<;>first|rfl|exact h.elim
mutual
theorem zaO(θ:Dt->Dt)(hρ:ov ρ):∀t,iH (fun z=>θ (ρ z)) t=mpT θ (iH ρ t)
 |.mk v n a=>by
  cases v with
  |true=>simp[iH,Yj (hρ n)]
  |false=>simp[iH,mpT,CU θ hρ a]
theorem CU(θ:Dt->Dt)(hρ:ov ρ):∀t,dP (fun z=>θ (ρ z)) t=Oj θ (dP ρ t)
 |[]=>rfl
 |t::l=>by simp[dP,Oj,zaO θ hρ t,CU θ hρ l]
end
theorem zaP(θ:Dt->Dt)(ρ:aj->Dt)(n:aj){e:Nat}(h:θ (.lvl e)=.lvl d):jP (fun z=>θ (ρ z)) n (.lvl d)=fun z=>θ (jP ρ n (.lvl e) z):=by
 funext z
 unfold jP;split
 ·exact h.symm
 ·rfl
mutual
theorem UF(θ:Dt->Dt):∀(f:Fm)(ρ:aj->Dt)(e e':Nat),ov ρ->(∀j,θ (.lvl (e+j))=.lvl (e'+j))->li (fun z=>θ (ρ z)) e' f=mpF θ (li ρ e f)
 |.mk o n a s,ρ,e,e',hρ,h=>by
  have h0:=h 0;simp only[Nat.add_zero]at h0;simp only[li,CU θ hρ a];split
  ·rw[zaP θ ρ n h0,Jr θ s (jP ρ n (.lvl e)) (e+1) (e'+1) (hρ.upd n e) (fun j=>by rw[show e+1+j=e+(1+j) by omega,h (1+j)];congr 1;omega)];rfl
  ·rw[Jr θ s ρ e e' hρ h];rfl
theorem Jr(θ:Dt->Dt):∀(f:List Fm)(ρ:aj->Dt)(e e':Nat),ov ρ->(∀j,θ (.lvl (e+j))=.lvl (e'+j))->fv (fun z=>θ (ρ z)) e' f=Yi θ (fv ρ e f)
 |[],_,_,_,_,_=>rfl
 |t::l,ρ,e,e',hρ,h=>by simp[fv,Yi,UF θ t ρ e e' hρ h,Jr θ l ρ e e' hρ h]
end
mutual
def atD:Dt->List Dt|.app _ a=>UG a|t=>[t]
def UG:List Dt->List Dt|[]=>[]|t::l=>atD t++UG l
end
def zd(d:Nat):Dt->Bool|.lvl i=>decide (i<d)|_=>true
mutual
def atG(d:Nat):Df->List Dt|.mk _ _ a s=>(UG a).filter (zd d)++Yk d s
def Yk(d:Nat):List Df->List Dt|[]=>[]|t::l=>atG d t++Yk d l
end
def UH(d:Nat)(ρ:aj->Dt):Prop:=∀z i,ρ z=.lvl i->i<d
theorem Yl{t:Dt}(h:t.atom):atD t=[t]:=by cases t<;>first|rfl|exact h.elim
mutual
theorem Js(hρ:ov ρ):∀t,lI t=true->atD (iH ρ t)=(aL t).map ρ
 |.mk v n a,h=>by
  simp only[lI,ak]at h
  cases v with
  |true=>
   obtain rfl:a=[]:=by simpa using h.1
   simp[iH,aL,aF,Yl (hρ n)]
  |false=>simp[iH,atD,aL,CW hρ a h.2]
theorem CW(hρ:ov ρ):∀t,eC t=true->UG (dP ρ t)=(aF t).map ρ
 |[],_=>rfl
 |t::l,h=>by simp only[eC,ak]at h;simp[dP,UG,aF,Js hρ t h.1,CW hρ l h.2]
end
theorem zaQ(h:UH d ρ)(z:aj):zd d (ρ z)=true:=by
 cases e:ρ z with
 |lvl i=>simpa[zd]using h z i e
 |fre n=>rfl
 |app n a=>rfl
theorem Ym(l:List aj):UH l.length (gI l):=fun z i h=>uI l z i h
mutual
theorem UI:∀(f:Fm)(ρ:aj->Dt)(d e:Nat),ov ρ->iV f=true->d<=e->atG d (li ρ e f)=((aP [] f).map ρ).filter (zd d)
 |.mk o n a s,ρ,d,e,hρ,h,hde=>by
  simp only[iV,ak]at h;have e1:(aF a).filter (fun x=>!([]:List aj).contains x)=aF a:=List.filter_eq_self.2 (fun x _=>by simp);simp only[li,aP,e1,List.map_append,List.filter_append]
  by_cases hq:br o=true
  ·rw[aG hq,aG hq];simp only[atG,CW hρ a h.1];rw[Jt s _ d (e+1) (hρ.upd n e) h.2 (by omega),j5];congr 1;have:∀l:List aj,(l.map (jP ρ n (.lvl e))).filter (zd d)=((l.filter fun x=>!(x==n)).map ρ).filter (zd d):=by
    intro l
    induction l with
    |nil=>rfl
    |cons x l ih=>
     rw[cM,List.filter_cons,List.filter_cons]
     by_cases hx:(x==n)=true
     ·have e2:jP ρ n (.lvl e) x=.lvl e:=by unfold jP;rw[aG hx]
      have e3:zd d (.lvl e)=false:=by simp only[zd,decide_eq_false_iff_not];omega
      rw[e2,e3,hx];simpa using ih
     ·have e2:jP ρ n (.lvl e) x=ρ x:=by unfold jP;rw[aw hx]
      have hx':(x==n)=false:=by simpa using hx
      rw[e2,hx',ih];simp only[Bool.not_false,if_true,cM,List.filter_cons]
   exact this _
  ·rw[aw hq,aw hq];simp only[atG,CW hρ a h.1,Jt s ρ d e hρ h.2 hde]
theorem Jt:∀(f:List Fm)(ρ:aj->Dt)(d e:Nat),ov ρ->gy f=true->d<=e->Yk d (fv ρ e f)=((bK [] f).map ρ).filter (zd d)
 |[],_,_,_,_,_,_=>rfl
 |t::l,ρ,d,e,hρ,h,hde=>by
  simp only[gy,ak]at h;simp[fv,Yk,bK,UI t ρ d e hρ h.1 hde,Jt l ρ d e hρ h.2 hde]
end
theorem LP(h:iV f=true):atG l.length (li (gI l) l.length f)=(aP [] f).map (gI l):=by
 rw[UI f _ _ _ (iv l) h (aK _)];refine List.filter_eq_self.2 (fun t ht=>?_);obtain⟨z,_,rfl⟩:=List.mem_map.1 ht;exact zaQ (Ym l) z
def LQ(n:Nat):Dt->Bool|.lvl i=>i==n|_=>false
def imL:List aj->List aj->Dt->Option aj
 |[],_,.fre z=>some z
 |[],_,_=>none
 |s::r,inn,t=>if LQ r.length t then(if inn.contains s then none else some (cg s))else imL r (s::inn) t
theorem UJ(x:aj):∀(c:gO)(inn:List aj),cm.go x c inn=imL (c.map (·.1)) inn (gI (c.map (·.2)) x)
 |[],inn=>rfl
 |(s,a)::r,inn=>by
  simp only[cm.go,cM,imL,gI,List.length_map]
  by_cases h:a=x
  ·subst h;simp[LQ]
  ·have e1:(a==x)=false:=by simpa using h
   have e2:(x==a)=false:=by simpa using fun h2=>h h2.symm
   simp only[e1,e2,bR,↓reduceIte];have e3:LQ r.length (gI (r.map (·.2)) x)=false:=by
    cases e:gI (r.map (·.2)) x with
    |lvl i=>
     have:=uI _ _ _ e;simp only[List.length_map]at this;simp only[LQ,beq_eq_false_iff_ne,ne_eq];omega
    |fre n=>rfl
    |app n a=>rfl
   rw[e3];simp only[bR,↓reduceIte];exact UJ x r (s::inn)
theorem qT(c:gO)(x:aj):cm c x=imL (c.map (·.1)) [] (gI (c.map (·.2)) x):=UJ x c []
def Ok(ns:List aj):Dt->Dt
 |.lvl i=>if i<ns.length then(match imL ns [] (.lvl i)with|some y=>.fre y|none=>.fre [])else .lvl (i-ns.length)
 |t=>t
theorem Yn(ns:List aj)(z:aj):∀inn,imL ns inn (.fre z)=some z:=by
 induction ns with
 |nil=>intro inn;rfl
 |cons s r ih=>intro inn;simp only[imL,LQ,bR,↓reduceIte];exact ih _
theorem Ht(h:cm c z=some y):Ok (c.map (·.1)) (gI (c.map (·.2)) z)=.fre y:=by
 rw[qT]at h
 cases e:gI (c.map (·.2)) z with
 |lvl i=>
  have:=uI _ _ _ e;rw[e]at h;simp only[List.length_map]at this;simp only[Ok,List.length_map,aG this,h]
 |fre n=>
  rw[e,Yn]at h;simp only[dn]at h;rw[<-h];rfl
 |app n a=>exact absurd e (IN _ _ _ _)
theorem UK(hf:gF false f=true)(h:f9 c [] f=some im):db im=mpF (Ok (c.map (·.1))) (li (gI (c.map (·.2))) c.length f):=by
 unfold db;rw[PY f im [] _ 0 hf h,<-UF (Ok (c.map (·.1))) f (gI (c.map (·.2))) c.length 0 (iv _) (fun j=>by
  simp only[Ok,List.length_map];rw[aw (by omega)];congr 1;omega)]
 refine yp f _ _ 0 (fun z hz=>?_);rcases wX f im [] (oU _ hf) h z hz with h1|h1
 ·simp at h1
 ·obtain⟨y,hy⟩:=Option.isSome_iff_exists.1 h1;rw[Ht hy];simp[vS,hy,gI]
theorem Qb{f im:List Tm}(hf:eC f=true)(h:eY c [] f=some im):dP (gI []) im=Oj (Ok (c.map (·.1))) (dP (gI (c.map (·.2))) f):=by
 rw[yW _ [] f im h,<-CU (Ok (c.map (·.1))) (iv _) f];refine uH f (fun z hz=>?_);rcases pR [] f im hf h z hz with h1|h1
 ·simp at h1
 ·obtain⟨y,hy⟩:=Option.isSome_iff_exists.1 h1;rw[Ht hy];simp[vS,hy,gI]
def Hu(c:gO)(ins l:List aj):Prop:=∀z∈l,ins.contains z=true\/(cm c z).isSome=true
mutual
theorem Ju:∀t,Hu c ins (aL t)->(iO c ins t).isSome=true
 |.mk v n a,h=>by
  unfold iO
  cases v with
  |true=>
   simp only[↓reduceIte];rcases h n (by simp[aL])with h|h
   ·rw[aG h];rfl
   ·split
    ·rfl
    ·simpa using h
  |false=>
   simp only[bR,↓reduceIte];simpa using Er a (by simpa[aL]using h)
theorem Er:∀t,Hu c ins (aF t)->(eY c ins t).isSome=true
 |[],_=>rfl
 |t::l,h=>by
  obtain⟨u,hu⟩:=Option.isSome_iff_exists.1 (Ju t (fun z hz=>h z (by simp[aF,hz])));obtain⟨m,hm⟩:=Option.isSome_iff_exists.1 (Er l (fun z hz=>h z (by simp[aF,hz])));simp[eY,hu,hm]
end
mutual
theorem Jv{c:gO}:∀(f:Fm)(ins:List aj),Hu c ins (aP [] f)->(f9 c ins f).isSome=true
 |.mk o n a s,ins,h=>by
  obtain ⟨m,hm⟩:=Option.isSome_iff_exists.1 (Er (c:=c) (ins:=ins) a (fun z hz=>h z (rI hz)));obtain ⟨m',hm'⟩:=Option.isSome_iff_exists.1 (LR (c:=c) s (if br o then n :: ins else ins) (fun z hz=>by
   by_cases hq:br o=true
   ·rw[aG hq]
    by_cases e:z=n
    ·subst e;left;simp
    ·rcases h z (rH hq hz e)with h|h
     ·left;rw[List.contains_cons,h];simp
     ·exact .inr h
   ·rw[aw hq];exact h z (by simp only[aP,List.mem_append];right;rw[aw hq];exact hz)))
  simp[f9,hm,hm']
theorem LR{c:gO}:∀(f:List Fm)(ins:List aj),Hu c ins (bK [] f)->(gC c ins f).isSome=true
 |[],_,_=>rfl
 |t::l,ins,h=>by
  obtain⟨u,hu⟩:=Option.isSome_iff_exists.1 (Jv t ins (fun z hz=>h z (by simp[bK,hz])));obtain⟨m,hm⟩:=Option.isSome_iff_exists.1 (LR l ins (fun z hz=>h z (by simp[bK,hz])));simp[gC,hu,hm]
end
structure Yo(c c':gO)(f f':Fm):Prop where
 n:c.map (·.1)=c'.map (·.1)
 d:li (gI (c.map (·.2))) c.length f=li (gI (c'.map (·.2))) c'.length f'
theorem Yo.len(h:Yo c c' f f'):c.length=c'.length:=by have:=congrArg List.length h.n;simpa using this
theorem LS{c:gO}(h:Yo c c' f f')(hf:gF false f=true)(AW:gF false f'=true):
  (f9 c [] f=none/\f9 c' [] f'=none)\/∃im im',f9 c [] f=some im/\f9 c' [] f'=some im'/\db im=db im':=by
 have h1:=LP (l:=c.map (·.2)) (oU _ hf);have h2:=LP (l:=c'.map (·.2)) (oU _ AW);simp only[List.length_map]at h1 h2;rw[h.d,h.len,h2]at h1;have names:∀{c c':gO}{f f':Fm},c.map (·.1)=c'.map (·.1)->(aP [] f').map (gI (c'.map (·.2)))=(aP [] f).map (gI (c.map (·.2)))->(∀z∈aP [] f,(cm c z).isSome=true)->Hu c' [] (aP [] f'):=by
  intro c c' f f' hn he hz z hz';right;have:gI (c'.map (·.2)) z∈(aP [] f).map (gI (c.map (·.2))):=by rw[<-he];exact List.mem_map_of_mem hz'
  exact qe6
 have all:∀{c:gO}{f im:Fm},gF false f=true->f9 c [] f=some im->∀z∈aP [] f,(cm c z).isSome=true:=by
  intro c f im hf h z hz;rcases wX f im [] (oU _ hf) h z hz with h|h
  ·simp at h
  ·exact h
 cases hi:f9 c [] f with
 |none=>
  left;refine⟨rfl,?_⟩
  cases MQ:f9 c' [] f' with
  |none=>rfl
  |some im'=>
   have:=Jv (c:=c) f [] (names h.n.symm h1.symm (all AW MQ));rw[hi]at this;cases this
 |some im=>
  right;obtain⟨im',MQ⟩:=Option.isSome_iff_exists.1 (Jv (c:=c') f' [] (names h.n h1 (all hf hi)));refine⟨im,im',rfl,MQ,?_⟩;rw[UK hf hi,UK AW MQ,h.d,h.n]
mutual
theorem Jw:∀t u,lI t=true->lI u=true->iH (gI []) t=iH (gI []) u->t=u
 |.mk v n a,.mk v' n' a',ht,hu,h=>by
  simp only[lI,ak]at ht hu
  cases v with
  |true=>
   obtain rfl:a=[]:=by simpa using ht.1
   cases v' with
   |true=>
    obtain rfl:a'=[]:=by simpa using hu.1
    simp only[iH,↓reduceIte,gI,Dt.fre.injEq]at h;rw[h]
   |false=>simp[iH,gI]at h
  |false=>
   cases v' with
   |true=>simp[iH,gI]at h
   |false=>
    simp only[iH,bR,↓reduceIte,Dt.app.injEq]at h;rw[h.1,LU a a' ht.2 hu.2 h.2]
theorem LU:∀t u,eC t=true->eC u=true->dP (gI []) t=dP (gI []) u->t=u
 |[],[],_,_,_=>rfl
 |[],_::_,_,_,h=>by simp[dP]at h
 |_::_,[],_,_,h=>by simp[dP]at h
 |t::l,u::m,ht,hu,h=>by
  simp only[eC,dP,ak,cF]at ht hu h;rw[Jw t u ht.1 hu.1 h.1,LU l m ht.2 hu.2 h.2]
end
theorem RB{c:gO}(hc:mL (c.map (·.1)))(hn:c.map (·.1)=c'.map (·.1)){t':Tm}(ht:jA false t=true)(ht':jA false t'=true)(h:iH (gI (c.map (·.2))) t=iH (gI (c'.map (·.2))) t'):iO c [] t=iO c' [] t':=by
 have h1:=Js (iv (c.map (·.2))) t (tI _ ht);have h2:=Js (iv (c'.map (·.2))) t' (tI _ ht');rw[h,h2]at h1;have names:∀{c c':gO}{f f':Tm},c.map (·.1)=c'.map (·.1)->(aL f').map (gI (c'.map (·.2)))=(aL f).map (gI (c.map (·.2)))->(∀z∈aL f,(cm c z).isSome=true)->Hu c' [] (aL f'):=by
  intro c c' f f' hn he hz z hz';right;have:gI (c'.map (·.2)) z∈(aL f).map (gI (c.map (·.2))):=by rw[<-he];exact List.mem_map_of_mem hz'
  exact qe6
 have all:∀{c:gO}{f im:Tm},jA false f=true->iO c [] f=some im->∀z∈aL f,(cm c z).isSome=true:=by
  intro c f im hf h z hz;rcases El [] f im (tI _ hf) h z hz with h|h
  ·simp at h
  ·exact h
 cases hi:iO c [] t with
 |none=>
  cases MQ:iO c' [] t' with
  |none=>rfl
  |some im'=>
   have:=Ju (c:=c) (ins:=[]) t (names hn.symm h1.symm (all ht' MQ));rw[hi]at this;cases this
 |some im=>
  obtain⟨im',MQ⟩:=Option.isSome_iff_exists.1 (Ju (c:=c') (ins:=[]) t' (names hn h1 (all ht hi)));rw[MQ];have w1:=oH (yh hc [] t im ht hi).1;have w2:=oH (yh (hn▸hc) [] t' im' ht' MQ).1;congr 1;refine Jw im im' w1 w2 ?_;have e1:=Qb (c:=c) (f:=[t]) (im:=[im]) (by simp[eC,tI _ ht]) (by simp[eY,hi]);have e2:=Qb (c:=c') (f:=[t']) (im:=[im']) (by simp[eC,tI _ ht']) (by simp[eY,MQ]);simp only[dP,Oj,cF,and_true]at e1 e2;rw[e1,e2,h,hn]
mutual
def LV(x:aj):Dt->Option (List Nat)|.fre n=>if n==x then some []else none|.lvl _=>none|.app _ a=>Es x a 0
def Es(x:aj):List Dt->Nat->Option (List Nat)
 |[],_=>none
 |t::l,i=>match LV x t with|some p=>some (i::p)|none=>Es x l (i+1)
end
mutual
def Et(x:aj):Df->Option (List Nat×List Nat)
 |.mk _ _ a s=>match Es x a 0 with|some p=>some ([],p)|none=>Jy x s 0
def Jy(x:aj):List Df->Nat->Option (List Nat×List Nat)
 |[],_=>none
 |t::l,i=>match Et x t with|some (p,q)=>some (i::p,q)|none=>Jy x l (i+1)
end
def LW(x:aj)(ρ:aj->Dt):Prop:=∀z,ρ z=.fre x↔z=x
theorem UL(x:aj):LW x (gI []):=fun z=>by simp[gI]
theorem LW.upd(h:LW x ρ)(hn:n≠x)(d:Nat):LW x (jP ρ n (.lvl d)):=fun z=>by
 unfold Go.Proofs.YtokemihbkeddoaaGreatDoor.jP
 by_cases e:z=n
 ·subst e;simp[hn]
 ·have:(z==n)=false:=by simpa using e
  simp only[this,bR,↓reduceIte];exact h z
mutual
theorem UM(hρ:ov ρ)(ho:LW x ρ):∀t,lI t=true->nR x t=LV x (iH ρ t)
 |.mk v n a,h=>by
  simp only[lI,ak]at h
  cases v with
  |true=>
   obtain rfl:a=[]:=by simpa using h.1
   simp only[nR,dL,iH,↓reduceIte,fh]
   by_cases e:n=x
   ·have:=(ho n).2 e;rw[this];simp[e,LV]
   ·have e1:(n==x)=false:=by simpa using e
    rw[e1];simp only[bR,↓reduceIte];have h0:=hρ n
    cases e2:ρ n with
    |lvl i=>rfl
    |fre m=>
     have:m≠x:=fun e3=>e ((ho n).1 (by rw[e2,e3]));simp[LV,this]
    |app m b=>rw[e2]at h0;exact h0.elim
  |false=>
   simp only[nR,Bool.false_and,bR,↓reduceIte,iH,LV];exact Aq hρ ho a 0 h.2
theorem Aq(hρ:ov ρ)(ho:LW x ρ):∀t i,eC t=true->fh x t i=Es x (dP ρ t) i
 |[],_,_=>rfl
 |t::l,i,h=>by
  simp only[eC,ak]at h;simp only[fh,dP,Es,UM hρ ho t h.1,Aq hρ ho l (i+1) h.2];rfl
end
mutual
theorem LX(hx:fQ x=false):∀(f:Fm)(ρ:aj->Dt)(d:Nat),ov ρ->LW x ρ->iV f=true->Em f=true->lN x f=Et x (li ρ d f)
 |.mk o n a s,ρ,d,hρ,ho,h,hb=>by
  simp only[iV,ak]at h;simp only[Em,ak]at hb;simp only[lN,li,Aq hρ ho a 0 h.1]
  by_cases hq:br o=true
  ·have hn:n≠x:=fun e=>by have:=hb.1;rw[hq,e,hx]at this;simp at this
   rw[aG hq];simp only[Et,Ar hx s (jP ρ n (.lvl d)) (d+1) 0 (hρ.upd n d) (ho.upd hn d) h.2 hb.2];rfl
  ·rw[aw hq];simp only[Et,Ar hx s ρ d 0 hρ ho h.2 hb.2];rfl
theorem Ar(hx:fQ x=false):∀(f:List Fm)(ρ:aj->Dt)(d i:Nat),ov ρ->LW x ρ->gy f=true->vq f=true->mE x f i=Jy x (fv ρ d f) i
 |[],_,_,_,_,_,_,_=>rfl
 |t::l,ρ,d,i,hρ,ho,h,hb=>by
  simp only[gy,ak]at h;simp only[vq,ak]at hb;simp only[mE,fv,Jy,LX hx t ρ d hρ ho h.1 hb.1,Ar hx l ρ d (i+1) hρ ho h.2 hb.2];rfl
end
def Df.s:Df->List Df|.mk _ _ _ s=>s
def Df.a:Df->List Dt|.mk _ _ a _=>a
def Hv:Df->List Nat->Option Df
 |f,[]=>some f
 |f,i::r=>match f.s[i]? with|some g=>Hv g r|none=>none
def UN:Dt->List Dt|.app _ a=>a|_=>[]
def LY:List Dt->List Nat->Option Dt
 |_,[]=>none
 |l,[i]=>l[i]?
 |l,i::j::r=>match l[i]? with|some t=>LY (UN t) (j::r)|none=>none
theorem Eu(ρ:aj->Dt):∀(l:List Tm)(i:Nat),(dP ρ l)[i]?=l[i]?.map (iH ρ)
 |[],i=>by simp[dP]
 |t::l,0=>by simp[dP]
 |t::l,i+1=>by simp[dP,Eu ρ l i]
theorem Ev(ρ:aj->Dt)(d:Nat):∀(l:List Fm)(i:Nat),(fv ρ d l)[i]?=l[i]?.map (li ρ d)
 |[],i=>by simp[fv]
 |t::l,0=>by simp[fv]
 |t::l,i+1=>by simp[fv,Ev ρ d l i]
theorem Yp(hρ:ov ρ)(h:lI t=true):UN (iH ρ t)=dP ρ t.a:=by
 obtain⟨v,n,a⟩:=t;simp only[lI,ak]at h
 cases v with
 |true=>
  obtain rfl:a=[]:=by simpa using h.1
  simp only[iH,↓reduceIte,Tm.a,dP];have:=hρ n
  cases e:ρ n with
  |lvl i=>rfl
  |fre m=>rfl
  |app m b=>rw[e]at this;exact this.elim
 |false=>simp[iH,UN,Tm.a]
theorem Yq(h:lI t=true):eC t.a=true:=by
 obtain⟨v,n,a⟩:=t;simp only[lI,ak]at h;exact h.2
theorem LZ{l:List Tm}(h:eC l=true)(ht:l[i]?=some t):lI t=true:=by
 induction l generalizing i with
 |nil=>simp at ht
 |cons x l ih=>
  simp only[eC,ak]at h
  cases i with
  |zero=>simp only[List.getElem?_cons_zero,dn]at ht;subst ht;exact h.1
  |succ i=>exact ih h.2 (by simpa using ht)
theorem L0{l:List Fm}(h:gy l=true){t:Fm}(ht:l[i]?=some t):iV t=true:=(kT l).1 h t (List.mem_of_getElem? ht)
theorem L1(hρ:ov ρ):∀(p:List Nat)(l:List Tm),eC l=true->(kP l p).map (iH ρ)=LY (dP ρ l) p/\∀t,kP l p=some t->lI t=true
 |[],l,_=>⟨rfl,fun t h=>by simp[kP]at h⟩
 |[i],l,h=>⟨by simp only[kP,LY,Eu],fun t ht=>LZ h ht⟩
 |i::j::r,l,h=>by
  simp only[kP,LY,Eu]
  cases h1:l[i]? with
  |none=>exact⟨rfl,fun t ht=>by cases ht⟩
  |some t=>
   have hw:=LZ h h1;simp only[Option.map_some];rw[Yp hρ hw];exact L1 hρ (j::r) t.a (Yq hw)
theorem UO(o:Int)(n:aj)(a:List Tm)(s:List Fm)(i:Nat)(r:List Nat)(ins:List aj):ls (.mk o n a s) (i::r) ins=match s[i]? with|some g=>ls g r (if br o then n::ins else ins)|none=>none:=rfl
theorem L2(o:Int)(n:aj)(a:List Dt)(s:List Df)(i:Nat)(r:List Nat):Hv (.mk o n a s) (i::r)=match s[i]? with|some g=>Hv g r|none=>none:=rfl
theorem Ew:∀(p:List Nat)(f:Fm)(ins:List aj),iV f=true->(ls f p ins).map (fun x=>li (gI x.2) x.2.length x.1)=Hv (li (gI ins) ins.length f) p/\∀x,ls f p ins=some x->iV x.1=true
 |[],f,ins,h=>⟨rfl,fun x hx=>by simp only[ls,dn]at hx;rw[<-hx];exact h⟩
 |i::r,.mk o n a s,ins,h=>by
  simp only[iV,ak]at h;rw[UO]
  by_cases hq:br o=true
  ·rw[aG hq];simp only[li,aG hq,L2,<-yq,Ev]
   cases h1:s[i]? with
   |none=>exact⟨rfl,fun x hx=>by cases hx⟩
   |some g=>
    simp only[Option.map_some];exact Ew r g (n::ins) (L0 h.2 h1)
  ·rw[aw hq];simp only[li,aw hq,L2,Ev]
   cases h1:s[i]? with
   |none=>exact⟨rfl,fun x hx=>by cases hx⟩
   |some g=>
    simp only[Option.map_some];exact Ew r g ins (L0 h.2 h1)
def Hw(t:Dt):Bool:=(atD t).all fun u=>match u with|.lvl _=>false|_=>true
def UP(f im:Df)(x:aj):Option Dt:=match Et x f with
 |none=>none
 |some (p,q)=>match Hv im p with
  |none=>none
  |some g=>match LY g.a q with
   |none=>none
   |some t=>if Hw t then some t else none
theorem UQ:(∃i,gI l z=.lvl i)↔z∈l:=by
 induction l with
 |nil=>simp[gI]
 |cons n r ih=>
  unfold gI
  by_cases h:z=n
  ·subst h;simp
  ·have:(z==n)=false:=by simpa using h
   simp only[this,bR,↓reduceIte,ih,dc,h,false_or]
theorem RC{l:List aj}(h:lI t=true):Hw (iH (gI l) t)=!(aL t).any l.contains/\(Hw (iH (gI l) t)=true->iH (gI l) t=iH (gI []) t):=by
 have h1:=Js (iv l) t h;have FC:Hw (iH (gI l) t)=true↔∀z∈aL t,z∉l:=by
  unfold Hw;rw[h1,List.all_eq_true];constructor
  ·intro h2 z hz hl;obtain⟨i,hi⟩:=UQ.2 hl;have:=h2 _ (List.mem_map_of_mem hz);rw[hi]at this;cases this
  ·intro h2 u hu;obtain⟨z,hz,rfl⟩:=List.mem_map.1 hu
   cases e:gI l z with
   |lvl i=>exact absurd (UQ.1 ⟨i,e⟩) (h2 z hz)
   |fre n=>rfl
   |app n a=>rfl
 constructor
 ·cases h3:(aL t).any l.contains with
  |true=>
   obtain⟨z,hz,hl⟩:=List.any_eq_true.1 h3;cases h4:Hw (iH (gI l) t)
   ·rfl
   ·exact absurd (by simpa using hl) (FC.1 h4 z hz)
  |false=>
   rw[List.any_eq_false]at h3;exact FC.2 (fun z hz hl=>h3 z hz (by simpa using hl))
 ·intro h3;refine DA t (fun z hz=>?_);rcases Yg (l:=l) z with h4|h4
  ·rw[h4];rfl
  ·exact absurd h4 (FC.1 h3 z hz)
theorem Ex(hx:fQ x=false)(hf:iV f=true)(hb:Em f=true)(hi:iV im=true):(fG f im x).map (iH (gI []))=UP (db f) (db im) x/\∀t,fG f im x=some t->lI t=true:=by
 unfold fG UP;have h1:lN x f=Et x (db f):=LX hx f (gI []) 0 (iv []) (UL x) hf hb;rw[h1]
 cases Et x (db f)with
 |none=>exact⟨rfl,fun t h=>by cases h⟩
 |some pq=>
  obtain⟨p,q⟩:=pq;simp only;obtain⟨h2,h3⟩:=Ew p im [] hi;have h2:(ls im p []).map (fun x=>li (gI x.2) x.2.length x.1)=Hv (db im) p:=h2;rw[<-h2]
  cases hw:ls im p []with
  |none=>exact⟨rfl,fun t h=>by cases h⟩
  |some gi=>
   obtain⟨g,ins⟩:=gi;have hg:=h3 _ hw;simp only at hg;simp only[Option.map_some];have ha:(li (gI ins) ins.length g).a=dP (gI ins) g.a:=by
    obtain⟨o,n,a,s⟩:=g;simp only[li,Fm.a];split<;>rfl
   have hwa:eC g.a=true:=by
    obtain⟨o,n,a,s⟩:=g;simp only[iV,ak]at hg;exact hg.1
   obtain⟨h4,h5⟩:=L1 (iv ins) q g.a hwa;rw[ha,<-h4]
   cases ht:kP g.a q with
   |none=>exact⟨rfl,fun t h=>by cases h⟩
   |some t=>
    have Kr:=h5 t ht;obtain⟨h6,h7⟩:=RC (l:=ins) Kr;simp only[Option.map_some];rw[h6]
    cases hn:(aL t).any ins.contains with
    |true=>exact⟨by simp,fun t h=>by simp at h⟩
    |false=>
     rw[hn]at h6;refine⟨by simp[h7 h6],fun t' h=>?_⟩;simp only[bR,↓reduceIte,dn]at h;rw[<-h];exact Kr
theorem Ol{im':Fm}(hx:fQ x=false)(hf:iV f=true)(hb:Em f=true)(hi:iV im=true)(AW:iV f'=true)(SC:Em f'=true)(MQ:iV im'=true)(h1:db f=db f')(h2:db im=db im'):fG f im x=fG f' im' x:=by
 obtain⟨a1,a2⟩:=Ex hx hf hb hi;obtain⟨b1,b2⟩:=Ex hx AW SC MQ;rw[h1,h2,<-b1]at a1
 cases h3:fG f im x with
 |none=>
  rw[h3]at a1
  cases h4:fG f' im' x with
  |none=>rfl
  |some t=>rw[h4]at a1;cases a1
 |some t=>
  rw[h3]at a1
  cases h4:fG f' im' x with
  |none=>rw[h4]at a1;cases a1
  |some t'=>
   rw[h4]at a1;simp only[Option.map_some,dn]at a1;rw[Jw t t' (a2 t h3) (b2 t' h4) a1]
mutual
theorem Om(x:aj):∀t,xU x t=(aL t).count x
 |.mk v n a=>by
  have ih:=t4 x a
  cases v with
  |true=>simp only[xU,dL,aL,↓reduceIte,List.count_cons,ih];omega
  |false=>simp[xU,aL,ih]
theorem t4(x:aj):∀t,fV x t=(aF t).count x
 |[]=>by simp[fV,aF]
 |t::l=>by simp[fV,aF,List.count_append,Om x t,t4 x l]
end
mutual
theorem rZ(hx:fQ x=false):∀f,Em f=true->fD x f=(aP [] f).count x
 |.mk o n a s,hb=>by
  simp only[Em,ak]at hb;have ih:=BE hx s hb.2;have it:=();exact qbr
theorem BE(hx:fQ x=false):∀f,vq f=true->jo x f=(bK [] f).count x
 |[],_=>by simp[jo,bK]
 |t::l,hb=>by
  simp only[vq,ak]at hb;simp[jo,bK,List.count_append,rZ hx t hb.1,BE hx l hb.2]
end
theorem UR(hx:fQ x=false)(hf:iV f=true)(hb:Em f=true)(AW:iV f'=true)(SC:Em f'=true)(h:db f=db f'):fD x f=fD x f':=by
 rw[rZ hx f hb,rZ hx f' SC,Oh hf AW h]
def qU:List (aj×Fm)->List (aj×Fm)->Prop
 |[],[]=>True
 |(n,g)::l,(n',g')::l'=>n=n'/\db g=db g'/\qU l l'
 |_,_=>False
theorem qU.refl:∀l,qU l l
 |[]=>trivial
 |(_,_)::l=>⟨rfl,rfl,qU.refl l⟩
theorem qU.get:∀{l l':List (aj×Fm)},qU l l'->∀n,(bG l n=none/\bG l' n=none)\/∃g g',bG l n=some g/\bG l' n=some g'/\db g=db g'
 |[],[],_,n=>.inl ⟨rfl,rfl⟩
 |[],_::_,h,_=>h.elim
 |_::_,[],h,_=>h.elim
 |(m,g)::l,(m',g')::l',h,n=>by
  obtain⟨rfl,h2,h3⟩:=h;unfold bG;split
  ·exact .inr ⟨g,g',rfl,rfl,h2⟩
  ·exact qU.get h3 n
theorem qU.add{v v':Fm}(hv:db v=db v'):∀{l l':List (aj×Fm)},qU l l'->qU (iB x v l) (iB x v' l')
 |[],[],_=>⟨rfl,hv,trivial⟩
 |[],_::_,h=>h.elim
 |_::_,[],h=>h.elim
 |(m,g)::l,(m',g')::l',h=>by
  obtain⟨rfl,h2,h3⟩:=h;unfold iB;split
  ·exact⟨rfl,hv,rfl,h2,h3⟩
  ·exact⟨rfl,h2,qU.add hv h3⟩
structure Ey(k k':Bd):Prop where
 f:qU k.fs k'.fs
 t:k.ts=k'.ts
 v:bF k=true
 v':bF k'=true
theorem Ez(hc:mL (c.map (·.1)))(hn:c.map (·.1)=c'.map (·.1)):∀(s a a':List Tm)(k:List (aj×Tm)),eD false a=true->eD false a'=true->dP (gI (c.map (·.2))) a=dP (gI (c'.map (·.2))) a'->dB c k s a=dB c' k s a'
 |[],_,_,_,_,_,_=>rfl
 |_::_,[],[],_,_,_,_=>rfl
 |_::_,[],_::_,_,_,_,h=>by simp[dP]at h
 |_::_,_::_,[],_,_,_,h=>by simp[dP]at h
 |t::l,u::m,u'::m',k,h1,h2,h=>by
  simp only[eD,dP,ak,cF]at h1 h2 h;simp only[dB,RB hc hn h1.1 h2.1 h.1,hn]
  cases iO c' [] u' with
  |none=>rfl
  |some im=>
   simp only
   cases dY (c'.map (·.1)) k t im with
   |none=>rfl
   |some k1=>exact Ez hc hn l m m' k1 h1.2 h2.2 h.2
structure On(p p':Pl):Prop where
 s:p.s=p'.s
 t:Yo p.c p'.c p.f p'.f
 o:mr p
 o':mr p'
def qV(step:Bd->Pl->Bd×Int):Prop:=∀k k' p p',Ey k k'->On p p'->(step k p).2=(step k' p').2/\((step k p).2=0->Ey (step k p).1 (step k' p').1)
theorem Jz:qV bc:=by
 intro k k' p p' hk hp;have hv:(bc k p).2=0->bF (bc k p).1=true:=fun h=>m8 k p _ hp.o hk.v (by rw[<-h]);have _t:(bc k' p').2=0->bF (bc k' p').1=true:=fun h=>m8 k' p' _ hp.o' hk.v' (by rw[<-h])
 suffices(bc k p).2=(bc k' p').2/\((bc k p).2=0->qU (bc k p).1.fs (bc k' p').1.fs/\(bc k p).1.ts=(bc k' p').1.ts)from
  ⟨this.1,fun h=>⟨(this.2 h).1,(this.2 h).2,hv h,_t (this.1▸h)⟩⟩
 clear hv _t;have it:=();exact qe7
theorem RD:qV dE:=by
 intro k k' p p' hk hp;have hv:(dE k p).2=0->bF (dE k p).1=true:=fun h=>rG k p _ hp.o hk.v (by rw[<-h]);have _t:(dE k' p').2=0->bF (dE k' p').1=true:=fun h=>rG k' p' _ hp.o' hk.v' (by rw[<-h])
 suffices(dE k p).2=(dE k' p').2/\((dE k p).2=0->qU (dE k p).1.fs (dE k' p').1.fs/\(dE k p).1.ts=(dE k' p').1.ts)from
  ⟨this.1,fun h=>⟨(this.2 h).1,(this.2 h).2,hv h,_t (this.1▸h)⟩⟩
 clear hv _t;have Eg:=fun gq=>mN hp.o gq;exact qe7
def nN(p:Pl):Bool:=(p.s.op==15||p.s.op==16)||(p.s.op==p.f.op&&p.s.s.length==p.f.s.length)
theorem vT(h:(bc k p).2=0):nN p=true:=by
 unfold bc at h;unfold nN
 by_cases gq:p.s.op=16
 ·simp[gq]
 ·by_cases kL:p.s.op=15
  ·simp[kL]
  ·rw[aw gq,aw kL]at h;split at h
   ·cases h
   ·rename_i hd;simp only[Bool.or_eq_true,bne_iff_ne,ne_eq,not_or,Decidable.not_not]at hd;simp[hd.1,hd.2.2.1]
def t7(k:Bd)(p:Pl):Bd×Int:=if nN p then dE k p else(k,70)
theorem US{l:List Pl}(h:∀p∈l,nN p=true):∀k,ek t7 k l=ek dE k l:=by
 induction l with
 |nil=>intro k;rfl
 |cons p l ih=>
  intro k;unfold ek;have:t7 k p=dE k p:=by unfold t7;rw[aG (h p (fT ..))]
  rw[this]
  cases dE k p with
  |mk k1 e=>simp only;rw[ih (fun q hq=>h q (fS _ hq))]
theorem Oo{p':Pl}(h:On p p'):nN p=nN p':=by
 obtain⟨s,⟨o,n,a,l⟩,c⟩:=p;obtain⟨s',⟨o',n',a',l'⟩,c'⟩:=p';obtain⟨hs,ht,_,_⟩:=h;simp only at hs ht;subst hs;have hd:=ht.d;simp only[li]at hd;have FC:o=o'/\l.length=l'.length:=by
  by_cases hq:br o=true
  ·rw[aG hq]at hd
   by_cases gY:br o'=true
   ·rw[aG gY]at hd;simp only[Df.mk.injEq,true_and]at hd;refine⟨hd.1,?_⟩;exact qe8
   ·rw[aw gY]at hd;exact qcx
  ·rw[aw hq]at hd;have an:=();exact qcy
 unfold nN;simp only[Fm.op,Fm.s,FC.1,FC.2]
theorem Oq:qV t7:=by
 intro k k' p p' hk hp;unfold t7;rw[<-Oo hp];split
 ·exact RD k k' p p' hk hp
 ·exact⟨rfl,fun h=>by cases h⟩
def EA(step:Bd->Pl->Bd×Int):Prop:=∀k p,(step k p).2=0->nN p=true
theorem EC:EA bc:=fun _ _ h=>vT h
theorem L3:EA t7:=fun k p h=>by
 unfold t7 at h
 cases hs:nN p with
 |true=>rfl
 |false=>rw[hs]at h;cases h
def Qc(x y:Bd×Int):Prop:=x.2=y.2/\(x.2=0->Ey x.1 y.1)
theorem wZ(step:Bd->Pl->Bd×Int):∀(l m:List Pl)(k:Bd),ek step k (l++m)=if(ek step k l).2=0 then ek step (ek step k l).1 m else ek step k l
 |[],m,k=>by simp[ek]
 |p::l,m,k=>by
  have e:∀q:List Pl,ek step k (p::q)=if(step k p).2=0 then ek step (step k p).1 q else step k p:=fun q=>by
   simp only[ek]
  rw[lL,e,e]
  by_cases h:(step k p).2=0
  ·rw[aG h,aG h];exact wZ step l m _
  ·rw[aw h,aw h,aw h]
mutual
theorem BG{step:Bd->Pl->Bd×Int}(ht:qV step)(FF:EA step):∀(s f f':Fm)(c c':gO)(k k':Bd),On ⟨s,f,c⟩ ⟨s,f',c'⟩->Ey k k'->Qc (ek step k (bC c s f)) (ek step k' (bC c' s f'))
 |.mk so sn sa ss,.mk o n a l,.mk o' n' a' l',c,c',k,k',h,hk=>by
  obtain⟨h1,h2⟩:=ht k k' _ _ hk h;have h3:=FF k ⟨.mk so sn sa ss,.mk o n a l,c⟩;simp only[bC,ek]
  cases e:step k ⟨.mk so sn sa ss,.mk o n a l,c⟩with
  |mk k1 n0=>
   cases e':step k' ⟨.mk so sn sa ss,.mk o' n' a' l',c'⟩with
   |mk k1' e1'=>
    rw[e,e']at h1 h2;rw[e]at h3;simp only at h1 h2 h3⊢;subst h1
    by_cases h0:n0=0
    ·subst h0;simp only[if_true];have le:=h2 rfl;have hsp:=h3 rfl;have Kd:=h.o.s;have hfo:=h.o.f;have zaR:=h.o'.f;have hn:=h.o.n;have sM:=h.o.d;have FE:=h.o'.n;have zft:=h.o'.d;have zfu:=Kd;simp only[gF,ak]at Kd hfo zaR;simp only[ag,a_]at hn sM FE zft;simp only[nN,Fm.op,Fm.s,Bool.or_eq_true,ak,ef]at hsp;rcases hsp with hsp|⟨rfl,hlen⟩
     ·have:ss=[]:=by
       rcases hsp with rfl|rfl
       ·exact List.length_eq_zero_iff.1 (ef.1 Kd.2.1.2.2)
       ·exact List.length_eq_zero_iff.1 (ef.1 Kd.2.1.2.2)
      subst this;simp only[ba,ek];exact⟨rfl,fun _=>le⟩
     ·have hd:=h.t.d;simp only[li]at hd
      by_cases hq:br so=true
      ·rw[aG hq]at hd
       by_cases gY:br o'=true
       ·rw[aG gY]at hd;simp only[Df.mk.injEq,true_and]at hd;rw[aG hq,aG hq];have hc:mL (((sn,n)::c).map (·.1)):=fun x hx=>by
         simp only[cM,dc]at hx;rcases hx with rfl|hx
         ·exact(oF zfu hq).1
         ·exact h.o.c x hx
        refine r' ht FF ss l l' ((sn,n)::c) ((sn,n')::c') k1 k1' ?_ ?_ Kd.2.2.2.2 hfo.2.2.2.2 zaR.2.2.2.2 hc (by omega) (by omega) (by omega) (by omega) hlen le
        ·simp only[cM];rw[h.t.n]
        ·simp only[cM,yq,List.length_map,fB];exact hd.2.2
       ·rw[aw gY]at hd;exact qcx
      ·rw[aw hq]at hd;exact qcy
    ·simp only[h0,↓reduceIte];exact⟨rfl,fun h=>absurd h h0⟩
theorem r'{step:Bd->Pl->Bd×Int}(ht:qV step)(FF:EA step):∀(s f f':List Fm)(c c':gO)(k k':Bd),c.map (·.1)=c'.map (·.1)->fv (gI (c.map (·.2))) c.length f=fv (gI (c'.map (·.2))) c'.length f'->dJ true s=true->dJ false f=true->dJ false f'=true->mL (c.map (·.1))->ah f<=400->bl f<=40->ah f'<=400->bl f'<=40->s.length=f.length->Ey k k'->Qc (ek step k (ba c s f)) (ek step k' (ba c' s f'))
 |[],_,_,_,_,_,_,_,_,_,_,_,_,_,_,_,_,_,hk=>by simp only[ba,ek];exact⟨rfl,fun _=>hk⟩
 |_::_,[],_,_,_,_,_,_,_,_,_,_,_,_,_,_,_,h,_=>by simp at h
 |_::_,_::_,[],_,_,_,_,_,h,_,_,_,_,_,_,_,_,_,_=>by simp[fv]at h
 |s::ss,f::l,f'::l',c,c',k,k',hn,hd,h1,h2,h3,h4,h5,h6,h7,h8,hlen,hk=>by
  simp only[dJ,ak]at h1 h2 h3;simp only[ah,bl]at h5 h6 h7 h8;simp only[fv,cF]at hd;have a:=BG ht FF s f f' c c' k k' ⟨rfl,⟨hn,hd.1⟩,⟨h1.1,h2.1,h4,by show ag f<=400;omega,by show a_ f<=40;omega⟩,⟨h1.1,h3.1,by show mL (c'.map (·.1));rw[<-hn];exact h4,by show ag f'<=400;omega,by show a_ f'<=40;omega⟩⟩ hk;simp only[ba];rw[wZ,wZ,<-a.1]
  by_cases h0:(ek step k (bC c s f)).2=0
  ·rw[aG h0,aG h0];exact r' ht FF ss l l' c c' _ _ hn hd.2 h1.2 h2.2 h3.2 h4 (by omega) (by omega) (by omega) (by omega) (by simpa using hlen) (a.2 h0)
  ·rw[aw h0,aw h0];exact⟨a.1,fun h=>absurd h h0⟩
end
theorem r_(step:Bd->Pl->Bd×Int)(i:Nat)(k:Bd)(s f:Fm)(l:List (Fm×Fm)):dt step i k ((s,f)::l)=if(ek step k (bC [] s f)).2=0 then dt step (i+1) (ek step k (bC [] s f)).1 l else((ek step k (bC [] s f)).1,i,(ek step k (bC [] s f)).2):=by
 simp only[dt]
def oI:List (Fm×Fm)->List (Fm×Fm)->Prop
 |[],[]=>True
 |(s,f)::l,(s',f')::l'=>s=s'/\db f=db f'/\(eS s&&bw f)=true/\(eS s&&bw f')=true/\oI l l'
 |_,_=>False
theorem As{step:Bd->Pl->Bd×Int}(ht:qV step)(FF:EA step):∀(l l':List (Fm×Fm))(i:Nat)(k k':Bd),oI l l'->Ey k k'->(dt step i k l).2=(dt step i k' l').2/\((dt step i k l).2.2=0->Ey (dt step i k l).1 (dt step i k' l').1)
 |[],[],i,k,k',_,hk=>⟨rfl,fun _=>hk⟩
 |[],_::_,_,_,_,h,_=>h.elim
 |_::_,[],_,_,_,h,_=>h.elim
 |(s,f)::l,(s',f')::l',i,k,k',h,hk=>by
  obtain⟨rfl,h1,h2,h3,h4⟩:=h;have a:=BG ht FF s f f' [] [] k k' ⟨rfl,⟨rfl,h1⟩,tH h2,tH h3⟩ hk;rw[r_,r_,<-a.1]
  by_cases h0:(ek step k (bC [] s f)).2=0
  ·rw[aG h0,aG h0];exact As ht FF l l' (i+1) _ _ h4 (a.2 h0)
  ·rw[aw h0,aw h0];exact⟨rfl,fun h=>absurd h h0⟩
theorem Hx{l:List (Fm×Fm)}(h:∀x∈l,∀p∈bC [] x.1 x.2,nN p=true):∀(i:Nat)(k:Bd),dt t7 i k l=dt dE i k l:=by
 induction l with
 |nil=>intro i k;rfl
 |cons x l ih=>
  intro i k;obtain⟨s,f⟩:=x;rw[r_,r_,US (h (s,f) (fT ..)),ih (fun x hx=>h x (fS _ hx))]
theorem RE:∀{l l':List (Fm×Fm)},oI l l'->eT 0 l=none/\eT 0 l'=none:=by
 have all:∀{l l':List (Fm×Fm)},oI l l'->(∀x∈l,(eS x.1&&bw x.2)=true)/\(∀x∈l',(eS x.1&&bw x.2)=true):=by
  intro l
  induction l with
  |nil=>
   intro l' h
   cases l' with
   |nil=>exact⟨fun x hx=>(by cases hx),fun x hx=>(by cases hx)⟩
   |cons _ _=>exact h.elim
  |cons x l ih=>
   intro l' h
   cases l' with
   |nil=>exact h.elim
   |cons y l'=>
    obtain⟨s,f⟩:=x;obtain⟨s',f'⟩:=y;obtain⟨rfl,_,h2,h3,h4⟩:=h;obtain⟨i1,i2⟩:=ih h4;constructor
    ·intro x hx;rcases dc.1 hx with rfl|hx
     ·exact h2
     ·exact i1 x hx
    ·intro x hx;rcases dc.1 hx with rfl|hx
     ·exact h3
     ·exact i2 x hx
 intro l l' h;exact⟨(gx l 0).2 (all h).1,(gx l' 0).2 (all h).2⟩
def L4(x y:Bd×Nat×Int):Bd×Nat×Int:=if x.2.2≠0 then(⟨[],[]⟩,x.2)else if y.2.2≠0 then(⟨[],[]⟩,y.2)else(y.1,0,0)
theorem Qd{x y:Bd×Nat×Int}(h:x.2.2≠0):L4 x y=(⟨[],[]⟩,x.2):=by unfold L4;rw[aG h]
theorem Qe{x y:Bd×Nat×Int}(h:x.2.2=0)(h2:y.2.2≠0):L4 x y=(⟨[],[]⟩,y.2):=by unfold L4;rw[aw (by simp[h]),aG h2]
theorem UT{x y:Bd×Nat×Int}(h:x.2.2=0)(h2:y.2.2=0):L4 x y=(y.1,0,0):=by unfold L4;rw[aw (by simp[h]),aw (by simp[h2])]
theorem ED{l:List (Fm×Fm)}(hb:eT 0 l=none)(hv:bF b=true):bm l b=L4 (dt bc 0 b l) (dt dE 0 (dt bc 0 b l).1 l):=by
 unfold bm L4;rw[hb,hv];simp only[Bool.not_true,bR,↓reduceIte]
theorem JA{l l':List (Fm×Fm)}(h:oI l l')(hv:bF b=true):(bm l b).2=(bm l' b).2/\qU (bm l b).1.fs (bm l' b).1.fs/\(bm l b).1.ts=(bm l' b).1.ts/\bF (bm l b).1=true/\bF (bm l' b).1=true:=by
 obtain⟨b1,b2⟩:=RE h;have hve:bF ⟨[],[]⟩=true:=by decide
 rw[ED b1 hv,ED b2 hv];obtain⟨c1,c2⟩:=As Jz EC l l' 0 b b h ⟨qU.refl _,rfl,hv,hv⟩
 by_cases h0:(dt bc 0 b l).2.2=0
 ·have hk:=c2 h0;have sh:∀{l:List (Fm×Fm)},(dt bc 0 b l).2.2=0->∀x∈l,∀p∈bC [] x.1 x.2,nN p=true:=by
   intro l h0 x hx p hp;have e:dt bc 0 b l=((dt bc 0 b l).1,(dt bc 0 b l).2.1,0):=by rw[<-h0]
   obtain⟨_,_,a3⟩:=rE p9 l 0 b _ _ e;exact vT (by rw[LJ p9 _ _ (a3 _ (Di.refl _) x hx) p hp])
  have h0':(dt bc 0 b l').2.2=0:=by rw[<-c1];exact h0
  obtain⟨d1,d2⟩:=As Oq L3 l l' 0 _ _ h hk;rw[Hx (sh h0),Hx (sh h0')]at d1 d2
  by_cases h1:(dt dE 0 (dt bc 0 b l).1 l).2.2=0
  ·rw[UT h0 h1,UT h0' (by rw[<-d1];exact h1)];have:=d2 h1;exact⟨rfl,this.f,this.t,this.v,this.v'⟩
  ·rw[Qe h0 h1,Qe h0' (by rw[<-d1];exact h1)];exact⟨d1,trivial,rfl,hve,hve⟩
 ·rw[Qd h0,Qd (by rw[<-c1];exact h0)];exact⟨c1,trivial,rfl,hve,hve⟩
theorem Qf(σ:aj->Dt)(n:aj)(d:Nat):∀l:List aj,(l.map fun z=>yX (jP σ n (.lvl d) z)).sum+(l.filter fun x=>!(x==n)).length=((l.filter fun x=>!(x==n)).map fun z=>yX (σ z)).sum+l.length
 |[]=>rfl
 |x::l=>by
  have ih:=Qf σ n d l;rw[cM,List.sum_cons,List.filter_cons]
  by_cases h:(x==n)=true
  ·have e1:jP σ n (.lvl d) x=.lvl d:=by unfold jP;rw[aG h]
   rw[e1,h];simp only[Bool.not_true,bR,↓reduceIte,yX,fB];omega
  ·have e1:jP σ n (.lvl d) x=σ x:=by unfold jP;rw[aw h]
   have h':(x==n)=false:=by simpa using h
   rw[e1,h'];simp only[Bool.not_false,if_true,cM,List.sum_cons,fB];omega
mutual
theorem Yr(σ:aj->Dt):∀t,lI t=true->yX (iH σ t)+(aL t).length=ap t+((aL t).map fun z=>yX (σ z)).sum
 |.mk v n a,h=>by
  simp only[lI,ak]at h
  cases v with
  |true=>
   obtain rfl:a=[]:=by simpa using h.1
   simp only[iH,↓reduceIte,aL,aF,ap,af,fB,List.length_nil,cM,List.map_nil,List.sum_cons,List.sum_nil];omega
  |false=>
   have:=EE σ a h.2;simp only[iH,bR,↓reduceIte,yX,aL,ap];omega
theorem EE(σ:aj->Dt):∀t,eC t=true->BC (dP σ t)+(aF t).length=af t+((aF t).map fun z=>yX (σ z)).sum
 |[],_=>rfl
 |t::l,h=>by
  simp only[eC,ak]at h;have h1:=Yr σ t h.1;have h2:=EE σ l h.2;simp only[dP,BC,aF,af,ei,List.map_append,List.sum_append];omega
end
mutual
theorem Qg:∀(f:Fm)(σ:aj->Dt)(d:Nat),iV f=true->Og (li σ d f)+(aP [] f).length=ag f+((aP [] f).map fun z=>yX (σ z)).sum
 |.mk o n a s,σ,d,h=>by
  simp only[iV,ak]at h;exact qbr
theorem EF:∀(f:List Fm)(σ:aj->Dt)(d:Nat),gy f=true->Ej (fv σ d f)+(bK [] f).length=ah f+((bK [] f).map fun z=>yX (σ z)).sum
 |[],_,_,_=>rfl
 |t::l,σ,d,h=>by
  simp only[gy,ak]at h;have h1:=Qg t σ d h.1;have h2:=EF l σ d h.2;simp only[fv,Ej,bK,ah,ei,List.map_append,List.sum_append];omega
end
theorem Qh(x:aj)(N:Nat)(hN:1<=N):∀l:List aj,(l.map fun z=>if z==x then N else 1).sum=l.length+l.count x*(N-1)
 |[]=>by simp
 |y::l=>by
  have ih:=Qh x N hN l;rw[cM,List.sum_cons,List.count_cons,fB,ih,Nat.add_mul]
  by_cases h:(y==x)=true
  ·rw[aG h,aG h];omega
  ·rw[aw h,aw h];omega
theorem RF(t:Tm):1<=ap t:=by obtain⟨_,_,_⟩:=t;simp[ap]
theorem RG{u:Tm}(hx:fQ x=false)(hf:iV f=true)(hq:il f=true)(hb:Em f=true)(hu:lI u=true)(hn:ag f+ap u<10^19):ag (gQ x u f)=ag f+fD x f*(ap u-1):=by
 have hw:=(rY hu (a_ f) f x hf hq (aK _)).1;have h1:=yY (gQ x u f) (gI []) 0 (iv []) hw;unfold gQ at h1;rw[rL (a_ f) f x u _ _ hf hq (aK _) hn]at h1;have h2:=Qg f (jP (gI []) x (iH (gI []) u)) 0 hf;have e:(fun z=>yX (jP (gI []) x (iH (gI []) u) z))=fun z=>if z==x then ap u else 1:=by
  funext z
  unfold jP;split
  ·exact(LL (iv []) u hu).1
  ·rfl
 rw[e,Qh x (ap u) (RF u),h1.1]at h2;rw[rZ hx f hb];unfold gQ;omega
mutual
def kD(k:Bd):Fm->Bool|.mk o n a s=>!kz k (.mk o n a s)&&me k s
def me(k:Bd):List Fm->Bool|[]=>true|t::l=>kD k t&&me k l
end
mutual
theorem L5:∀(s:Fm)(c:gO),(bC c s s).any (fun p=>kz k p.s)=false->kD k s=true
 |.mk o n a s,c,h=>by
  simp only[bC,List.any_cons,Bool.or_eq_false_iff]at h;simp only[kD,h.1,Bool.not_false,dL];exact Hy s _ h.2
theorem Hy:∀(s:List Fm)(c:gO),(ba c s s).any (fun p=>kz k p.s)=false->me k s=true
 |[],_,_=>rfl
 |t::l,c,h=>by
  simp only[ba,List.any_append,Bool.or_eq_false_iff]at h;simp only[me,L5 t c h.1,Hy l c h.2,Bool.and_self]
end
theorem Hz{a:List Tm}{s:List Fm}(h:gF true (.mk 16 n a s)=true):s=[]/\∃x y:aj,a=[bj x,bj y]/\fQ x=true/\dI y=true:=by
 have h':=h;simp only[gF,ak]at h;obtain⟨x,y,h1,h2,h3,_⟩:=mN (p:=⟨.mk 16 n a s,.mk 2 [] [] [],[]⟩) ⟨h',(by show gF false (.mk 2 [] [] [])=true;decide),(by intro x hx;cases hx),(by show ag (.mk 2 [] [] [])<=400;decide),(by show a_ (.mk 2 [] [] [])<=40;decide)⟩ rfl;exact⟨List.length_eq_zero_iff.1 (ef.1 h.2.1.2.2),x,y,h1,h2,h3⟩
def L6(k:Bd)(n x y:aj):Fm:=if fD (cg x) (cZ k.fs n)=0 then cZ k.fs n else gQ (cg x) (b8 k.ts y) (cZ k.fs n)
theorem Au{c:List aj}{s:List Fm}:dF k c (.mk 16 n [bj x,bj y] s)=L6 k n x y:=by
 simp only[dF,bj,Tm.n];rw[aw (by decide)];simp only[if_true];rfl
theorem Ys(k:Bd)(n:aj)(a:List Tm)(s:List Fm):kz k (.mk 15 n a s)=(bG k.fs n).isNone:=by
 cases e:bG k.fs n<;>simp[kz,Fm.op,Fm.n,e]
theorem Yt(k:Bd)(n:aj)(a:List Tm)(s:List Fm){g:Fm}(h:bG k.fs n=some g):kz k (.mk 16 n a s)=((bG k.ts (bx (.mk 16 n a s)).2).isNone&&decide (fD (bx (.mk 16 n a s)).1 g>0)):=by
 simp[kz,Fm.op,Fm.n,h]
theorem UU(k:Bd)(n:aj)(a:List Tm)(s:List Fm)(h:bG k.fs n=none):kz k (.mk 16 n a s)=true:=by
 simp[kz,Fm.op,Fm.n,h]
theorem EG{a:List Tm}{s:List Fm}(h:kD k (.mk 15 n a s)=true):∃g,bG k.fs n=some g:=by
 simp only[kD,ak,Bool.not_eq_true',Ys]at h
 cases e:bG k.fs n with
 |none=>rw[e]at h;cases h.1
 |some g=>exact⟨g,rfl⟩
theorem EH{s:List Fm}(h:kD k (.mk 16 n [bj x,bj y] s)=true):∃g,bG k.fs n=some g/\(fD (cg x) g=0\/∃t,bG k.ts y=some t):=by
 simp only[kD,ak,Bool.not_eq_true']at h;have h1:=h.1
 cases e:bG k.fs n with
 |none=>rw[UU k n _ s e]at h1;cases h1
 |some g=>
  rw[Yt k n _ s e]at h1;refine⟨g,rfl,?_⟩;have hn:bx (.mk 16 n [bj x,bj y] s)=(cg x,y):=rfl;rw[hn]at h1
  cases ht:bG k.ts y with
  |none=>
   rw[ht]at h1;simp only[Option.isNone_none,dL,decide_eq_false_iff_not]at h1;exact .inl (by omega)
  |some t=>exact .inr ⟨t,rfl⟩
theorem Ot(hk:bF k=true){s:List Fm}(h:kD k (.mk 16 n [bj x,bj y] s)=true):iV (L6 k n x y)=true/\il (L6 k n x y)=true:=by
 obtain⟨k1,k2⟩:=(fp k).1 hk;obtain⟨g,hg,h2⟩:=EH h;have rS:=mc k1 hg;obtain⟨w1,w2,_⟩:=oG rS.1;have e:cZ k.fs n=g:=by unfold cZ;rw[hg]
 unfold L6;rw[e];split
 ·exact⟨w1,w2⟩
 ·rename_i h0;obtain⟨t,ht⟩:=h2.resolve_left h0;have e2:b8 k.ts y=t:=by unfold b8;rw[ht]
  rw[e2];exact rY (oH (Ek k2 ht).1) (a_ g) g (cg x) w1 w2 (aK _)
mutual
theorem UV{k:List (aj×Tm)}(hk:Nj k=true){c:List aj}:∀t,jA true t=true->lm k t=false->lI (dK k c t)=true
 |.mk v n a,hok,h=>by
  unfold lm at h;unfold dK
  by_cases hm:(v&&eA n)=true
  ·rw[aG hm]at h⊢
   cases e:bG k n with
   |none=>rw[e]at h;cases h
   |some u=>
    have e2:b8 k n=u:=by unfold b8;rw[e]
    rw[e2];exact oH (Ek hk e).1
  ·rw[aw hm]at h⊢;split
   ·exact Pw _
   ·cases v with
    |true=>
     simp only[jA,↓reduceIte,ak]at hok;obtain rfl:a=[]:=by simpa using hok.1
     simp[lI,iC,eC]
    |false=>
     simp only[jA,bR,↓reduceIte,ak]at hok;simp[lI,Av hk (c:=c) a hok.2.2 h]
theorem Av{k:List (aj×Tm)}(hk:Nj k=true){c:List aj}:∀t,eD true t=true->pG k t=false->eC (iC k c t)=true
 |[],_,_=>by simp[iC,eC]
 |t::l,hok,h=>by
  simp only[eD,ak]at hok;simp only[pG,Bool.or_eq_false_iff]at h;simp[iC,eC,UV hk (c:=c) t hok.1 h.1,Av hk (c:=c) l hok.2 h.2]
end
theorem sd{a:List Tm}{s:List Fm}(kL:o≠15)(gq:o≠16)(h:kD k (.mk o n a s)=true):pG k.ts a=false/\me k s=true:=by
 simp only[kD,ak,Bool.not_eq_true',kz,Fm.op,Fm.a]at h;rw[aG (by simp[kL,gq])]at h;exact h
mutual
theorem Yu(hk:bF k=true):∀(s:Fm)(c:List aj),gF true s=true->kD k s=true->iV (dF k c s)=true/\il (dF k c s)=true
 |.mk o n a s,c,hok,h=>by
  obtain⟨k1,k2⟩:=(fp k).1 hk
  by_cases kL:o=15
  ·subst kL;obtain⟨g,hg⟩:=EG h;have e:dF k c (.mk 15 n a s)=g:=by
    simp only[dF,if_true];unfold cZ;rw[hg]
   rw[e];have:=oG (mc k1 hg).1;exact⟨this.1,this.2.1⟩
  ·by_cases gq:o=16
   ·subst gq;obtain⟨rfl,x,y,rfl,_,_⟩:=Hz hok;rw[Au];exact Ot hk h
   ·obtain⟨h1,h2⟩:=sd kL gq h;have Uz:=hok;simp only[gF,ak]at hok
    by_cases hq:br o=true
    ·obtain⟨_,rfl,g,rfl⟩:=oF Uz hq;obtain⟨i1,i2⟩:=t_ hk [g] (n::c) hok.2.2.2.2 h2;simp only[iD,gy,hO,Bool.and_true]at i1 i2;have an:=();exact qe9
    ·obtain⟨i1,i2⟩:=t_ hk s c hok.2.2.2.2 h2;have an:=();exact qfa
theorem t_(hk:bF k=true):∀(s:List Fm)(c:List aj),dJ true s=true->me k s=true->gy (iD k c s)=true/\hO (iD k c s)=true
 |[],_,_,_=>by simp[iD,gy,hO]
 |t::l,c,hok,h=>by
  simp only[dJ,me,ak]at hok h;simp[iD,gy,hO,Yu hk t c hok.1 h.1,t_ hk l c hok.2 h.2]
end
theorem JB{α:Type}:∀{l:List (aj×α)}{z:aj}{v:α},bG l z=some v->(z,v)∈l
 |[],_,_,h=>by simp[bG]at h
 |(y,u)::r,z,v,h=>by
  unfold bG at h;split at h
  ·rename_i e;obtain rfl:=Option.some.inj h;obtain rfl:=ef.1 e;exact fT
  ·exact fS _ (JB h)
mutual
def ze(k:Bd):Fm->Nat|.mk o n a s=>nS k (.mk o n a s)+ud k s
def ud(k:Bd):List Fm->Nat|[]=>0|t::l=>ze k t+ud k l
end
mutual
theorem H'(k:Bd):∀(s:Fm)(c:gO),((bC c s s).map fun p=>nS k p.s).sum=ze k s
 |.mk o n a s,c=>by simp only[bC,cM,List.sum_cons,ze,EI k s]
theorem EI(k:Bd):∀(s:List Fm)(c:gO),((ba c s s).map fun p=>nS k p.s).sum=ud k s
 |[],_=>by simp[ba,ud]
 |t::l,c=>by simp only[ba,List.map_append,List.sum_append,ud,H' k t,EI k l]
end
theorem L7(hk:bF k=true)(hts:∀x∈k.ts,ap x.2<=1000)(n:aj):dV (b8 k.ts n)\/b8 k.ts n=.mk false [] []:=by
 unfold b8
 cases e:bG k.ts n with
 |none=>exact .inr rfl
 |some t=>exact .inl (CO hk hts _ (JB e)).1
theorem RH(hk:bF k=true)(hts:∀x∈k.ts,ap x.2<=1000)(n:aj):kI 17 (b8 k.ts n)=true:=by
 rcases L7 hk hts n with h|h
 ·exact h.nm
 ·rw[h];rfl
mutual
theorem UW{k:List (aj×Tm)}(hk:∀n,kI 17 (b8 k n)=true){c:List aj}:∀t,kI 16 t=true->kI 17 (dK k c t)=true
 |.mk v n a,h=>by
  simp only[kI,ak,bM]at h;unfold dK;split
  ·exact hk n
  ·split
   ·simp[bj,kI,d8,cg];exact h.1
   ·simp only[kI,ak,bM];exact⟨by omega,Aw hk a h.2⟩
theorem Aw{k:List (aj×Tm)}(hk:∀n,kI 17 (b8 k n)=true){c:List aj}:∀l,d8 16 l=true->d8 17 (iC k c l)=true
 |[],_=>rfl
 |t::l,h=>by
  simp only[d8,ak]at h;simp[iC,d8,UW hk t h.1,Aw hk l h.2]
end
theorem EJ{p:Nat}{a:List Tm}{s:List Fm}(h:mI p (.mk o n a s)=true):(0<=o/\o<=255)/\n.length<=p/\d8 p a=true/\eu p s=true:=by
 simpa only[mI,ak,bM]using h
theorem Ou{r:Fm}(hn:n.length<=16)(hr:ag r<=100000):(if(aP [] r).contains n then dy (aP [] r)else n).length<=2000000:=by
 split
 ·exact rM (by have:=fI r [];omega)
 ·omega
mutual
theorem EK{k:Bd}(hk:bF k=true)(hts:∀x∈k.ts,ap x.2<=1000):∀(s:Fm)(c:List aj),gF true s=true->kD k s=true->ze k s<=1000->ag (dF k c s)<=ze k s/\mI 2000000 (dF k c s)=true
 |.mk o n a s,c,hok,h,hsz=>by
  obtain⟨k1,k2⟩:=(fp k).1 hk;have dQ:=EJ (jC _ hok)
  by_cases kL:o=15
  ·subst kL;obtain⟨g,hg⟩:=EG h;have e2:cZ k.fs n=g:=by unfold cZ;rw[hg]
   have e:dF k c (.mk 15 n a s)=g:=by simp only[dF,if_true];exact e2
   have xF:dx g:=(mc k1 hg).1;rw[e];refine⟨?_,xF.fit.2⟩;have:nS k (.mk 15 n a s)=ag g:=by simp only[nS,Fm.op,Fm.n,if_true,e2]
   unfold ze;omega
  ·by_cases gq:o=16
   ·subst gq;obtain⟨rfl,x,y,rfl,hx,_⟩:=Hz hok;rw[Au];obtain⟨g,hg,h2⟩:=EH h;have e2:cZ k.fs n=g:=by unfold cZ;rw[hg]
    have xF:dx g:=(mc k1 hg).1;have hz:nS k (.mk 16 n [bj x,bj y] [])=ag g+fD (cg x) g*(ap (b8 k.ts y)-1):=by
     simp only[nS,Fm.op,Fm.n,e2];rw[aw (by decide)];rfl
    unfold ze;rw[hz];unfold L6;rw[e2];split
    ·exact⟨by omega,xF.fit.2⟩
    ·rename_i h0;obtain⟨t,ht⟩:=h2.resolve_left h0;have e3:b8 k.ts y=t:=by unfold b8;rw[ht]
     have htg:=(CO hk hts _ (JB ht)).1;rw[e3];have hn:=xF.nodes;have jY:ap t<=1000:=htg.2;refine⟨?_,(yO xF htg).2⟩;have hlt:ag g+ap t<10^19:=by omega
     rw[RG (zb x) xF.wf xF.qone (pS (mc k1 hg).1) (oH htg.1) hlt];exact Nat.le_add_right _ _
   ·obtain⟨h1,h2⟩:=sd kL gq h;have Uz:=hok;simp only[gF,ak]at hok;have hz:nS k (.mk o n a s)=fj k.ts a+1:=by unfold nS;rw[aw (show ¬(Fm.mk o n a s).op=15 from kL),aw (show ¬(Fm.mk o n a s).op=16 from gq)];rfl
    unfold ze at hsz⊢;rw[hz]at hsz⊢
    by_cases hq:br o=true
    ·obtain⟨_,rfl,g,rfl⟩:=oF Uz hq;have ih:=pT hk hts [g] (n::c) hok.2.2.2.2 h2 (by omega);have iw:=t_ hk [g] (n::c) hok.2.2.2.2 h2;simp only[iD,ah,eu,Bool.and_true,gy,hO]at ih iw;exact qe9
    ·have ih:=pT hk hts s c hok.2.2.2.2 h2 (by omega);exact qfa
theorem pT{k:Bd}(hk:bF k=true)(hts:∀x∈k.ts,ap x.2<=1000):∀(s:List Fm)(c:List aj),dJ true s=true->me k s=true->ud k s<=1000->ah (iD k c s)<=ud k s/\eu 2000000 (iD k c s)=true
 |[],_,_,_,_=>by simp[iD,ah,eu]
 |t::l,c,hok,h,hsz=>by
  simp only[dJ,me,ak]at hok h;simp only[ud]at hsz⊢;have i1:=EK hk hts t c hok.1 h.1 (by omega);have i2:=pT hk hts l c hok.2 h.2 (by omega);simp only[iD,ah,eu,i1.2,i2.2,Bool.and_self,and_true];omega
end
theorem L8{w:World}{base size n c:Nat}{e:TypeId}{xs:List Value}(h:w.ownsRow base e size (.slice (some ⟨g,0,none⟩) n c) n xs):n<=c:=by
 exact qco
def BF(e:aj×FQ):List Value:=.string ⟨e.1.toArray⟩::e.2.cells
theorem zaS(es:List (aj×FQ)):∀j (h:j<es.length),(es.flatMap BF)[j*5]?=some (.string ⟨es[j].1.toArray⟩)/\(es.flatMap BF)[j*5+1]?=some (.int .u8 es[j].2.o)/\(es.flatMap BF)[j*5+2]?=some (.string es[j].2.n)/\(es.flatMap BF)[j*5+3]?=some (.slice es[j].2.a es[j].2.l es[j].2.c)/\(es.flatMap BF)[j*5+4]?=some (.slice es[j].2.b es[j].2.m es[j].2.e):=by
 induction es with
 |nil=>intro j h;simp at h
 |cons q es ih=>
  intro j h
  cases j with
  |zero=>simp[BF,FQ.cells]
  |succ j=>
   have:=ih j (by simpa using h);simp only[List.flatMap_cons,BF,FQ.cells,lL,sw];rw[show(j+1)*5=j*5+1+1+1+1+1 by omega,show j*5+1+1+1+1+1+1=(j*5+1)+1+1+1+1+1 by omega,show j*5+1+1+1+1+1+2=(j*5+2)+1+1+1+1+1 by omega,show j*5+1+1+1+1+1+3=(j*5+3)+1+1+1+1+1 by omega,show j*5+1+1+1+1+1+4=(j*5+4)+1+1+1+1+1 by omega];simpa[BF,FQ.cells]using this
def mz(lo:Nat)(v:Value)(l:List (aj×Fm))(W:World):Prop:=
 ∃es:List (aj×FQ),es.length=l.length/\W.ownsRow lo 40 5 v l.length (es.flatMap BF)/\∀j (h:j<es.length) (h2:j<l.length),es[j].1=l[j].1/\aC (fun b=>lo<=b/\v.ownBlock≠some b) W es[j].2.val l[j].2
theorem mz.nil(lo:Nat)(W:World):mz lo (.slice none 0 0) [] W:=⟨[],rfl,World.ownsRow_nil _ _ _ _,fun j h=>by simp at h⟩
theorem mz.slice{ts:List (aj×Fm)}(h:mz lo v ts W):∃a c,v=.slice a ts.length c:=by
 exact qcz
theorem mz.held{ts:List (aj×Fm)}(h:mz lo v ts W)(hb:∀b,lo<=b->b<W.heap.size->W'.heap[b]?=W.heap[b]?):mz lo v ts W':=by
 exact qfb
theorem mz.binds{ts:List (aj×Fm)}(h:mz lo v ts W):et (lo<=·) W v ts:=by
 have an:=();exact qfc
theorem mz.step{ts:List (aj×Fm)}{t:Fm}{qs:List (aj×FQ)}{q:FQ}(hk:qs.length=ts.length)(hb:Below W.heap.size W W1)(hlo:lo<=W.heap.size)
  (ht:∀j (h:j<qs.length) (h2:j<ts.length),qs[j].1=ts[j].1/\aC (fun b=>lo<=b/\v.ownBlock≠some b) W qs[j].2.val ts[j].2) (hv:∀b,v.ownBlock=some b->b<W.heap.size)
  (hq:aC (W.heap.size<=·) W1 q.val t) (aV:w4.ownsRow lo 40 5 (.slice (some ⟨g,0,none⟩) (ts.length+1) cap) (ts.length+1) (qs.flatMap BF++BF (x,q)))
  (hold:∀c,lo<=c->c<W1.heap.size->v.ownBlock≠some c->w4.heap[c]?=W1.heap[c]?) (hg:v.ownBlock=some g\/W1.heap.size<=g):
  mz lo (.slice (some ⟨g,0,none⟩) (ts.length+1) cap) (ts++[(x,t)]) w4:=by
 exact qfd
theorem ce.stepFB{mk:Value->Array Value}{ts:List (aj×Fm)}{t:Fm}{qs:List (aj×FQ)}{p:FQ}{o:Obj}
  (h:ce T R lo mk (fun r=>mz lo r ts) W1 wr row) (aE:wr.ownsRow lo 40 5 row ts.length (qs.flatMap BF)) (eJ:qs.length=ts.length) (gM:∀j (h:j<qs.length) (h2:j<ts.length),qs[j].1=ts[j].1/\aC (fun b=>lo<=b/\row.ownBlock≠some b) wr qs[j].2.val ts[j].2)
  (hA:Below wr.heap.size wr A) (hp:aC (wr.heap.size<=·) A p.val t)
  (aV:w4.ownsRow lo 40 5 (.slice (some ⟨g,0,none⟩) (ts.length+1) cap) (ts.length+1) (qs.flatMap BF++BF (x,p))) (au:(A.alloc o).grownBy w4 row.ownBlock) (hg:row.ownBlock=some g\/g=A.heap.size+1)
  (AZ:(mk row).setIfInBounds F (.slice (some ⟨g,0,none⟩) (ts.length+1) cap)=mk (.slice (some ⟨g,0,none⟩) (ts.length+1) cap)):
  ce T R lo mk (fun r=>mz lo r (ts++[(x,t)])) W1 (w4.setCell ⟨R,F,none⟩ (.slice (some ⟨g,0,none⟩) (ts.length+1) cap)) (.slice (some ⟨g,0,none⟩) (ts.length+1) cap):=by
 have up:=();exact qbm
theorem Ov:(prog.info? 40).map (fun i=>(i.zero,i.size,i.bytes))=some (some (.agg #[.string ByteArray.empty,.int .u8 0,.string ByteArray.empty,.slice none 0 0,.slice none 0 0]),5,88):=by kernel_rfl
def BT(e:aj×TQ):List Value:=.string ⟨e.1.toArray⟩::e.2.cells
theorem zaT(es:List (aj×TQ)):∀j (h:j<es.length),(es.flatMap BT)[j*4]?=some (.string ⟨es[j].1.toArray⟩)/\(es.flatMap BT)[j*4+1]?=some (.bool es[j].2.v)/\(es.flatMap BT)[j*4+2]?=some (.string es[j].2.n)/\(es.flatMap BT)[j*4+3]?=some (.slice es[j].2.a es[j].2.l es[j].2.c):=by
 induction es with
 |nil=>intro j h;simp at h
 |cons q es ih=>
  intro j h
  cases j with
  |zero=>simp[BT,TQ.cells]
  |succ j=>
   have:=ih j (by simpa using h);simp only[List.flatMap_cons,BT,TQ.cells,lL,sw];exact qei
def mC(lo:Nat)(v:Value)(l:List (aj×Tm))(W:World):Prop:=
 ∃es:List (aj×TQ),es.length=l.length/\W.ownsRow lo 47 4 v l.length (es.flatMap BT)/\∀j (h:j<es.length) (h2:j<l.length),es[j].1=l[j].1/\aN (fun b=>lo<=b/\v.ownBlock≠some b) W es[j].2.val l[j].2
theorem mC.nil(lo:Nat)(W:World):mC lo (.slice none 0 0) [] W:=⟨[],rfl,World.ownsRow_nil _ _ _ _,fun j h=>by simp at h⟩
theorem mC.slice{ts:List (aj×Tm)}(h:mC lo v ts W):∃a c,v=.slice a ts.length c:=by
 exact qcz
theorem mC.held{ts:List (aj×Tm)}(h:mC lo v ts W)(hb:∀b,lo<=b->b<W.heap.size->W'.heap[b]?=W.heap[b]?):mC lo v ts W':=by
 exact qfb
theorem mC.binds{ts:List (aj×Tm)}(h:mC lo v ts W):eI (lo<=·) W v ts:=by
 exact qfc
theorem mC.step{ts:List (aj×Tm)}{qs:List (aj×TQ)}{q:TQ}(hk:qs.length=ts.length)(hb:Below W.heap.size W W1)(hlo:lo<=W.heap.size)
  (ht:∀j (h:j<qs.length) (h2:j<ts.length),qs[j].1=ts[j].1/\aN (fun b=>lo<=b/\v.ownBlock≠some b) W qs[j].2.val ts[j].2) (hv:∀b,v.ownBlock=some b->b<W.heap.size)
  (hq:aN (W.heap.size<=·) W1 q.val t) (aV:w4.ownsRow lo 47 4 (.slice (some ⟨g,0,none⟩) (ts.length+1) cap) (ts.length+1) (qs.flatMap BT++BT (x,q)))
  (hold:∀c,lo<=c->c<W1.heap.size->v.ownBlock≠some c->w4.heap[c]?=W1.heap[c]?) (hg:v.ownBlock=some g\/W1.heap.size<=g):
  mC lo (.slice (some ⟨g,0,none⟩) (ts.length+1) cap) (ts++[(x,t)]) w4:=by
 exact qfd
theorem ce.stepTB{mk:Value->Array Value}{ts:List (aj×Tm)}{qs:List (aj×TQ)}{p:TQ}{o:Obj}
  (h:ce T R lo mk (fun r=>mC lo r ts) W1 wr row) (aE:wr.ownsRow lo 47 4 row ts.length (qs.flatMap BT)) (eJ:qs.length=ts.length) (gM:∀j (h:j<qs.length) (h2:j<ts.length),qs[j].1=ts[j].1/\aN (fun b=>lo<=b/\row.ownBlock≠some b) wr qs[j].2.val ts[j].2)
  (hA:Below wr.heap.size wr A) (hp:aN (wr.heap.size<=·) A p.val t)
  (aV:w4.ownsRow lo 47 4 (.slice (some ⟨g,0,none⟩) (ts.length+1) cap) (ts.length+1) (qs.flatMap BT++BT (x,p))) (au:(A.alloc o).grownBy w4 row.ownBlock) (hg:row.ownBlock=some g\/g=A.heap.size+1)
  (AZ:(mk row).setIfInBounds F (.slice (some ⟨g,0,none⟩) (ts.length+1) cap)=mk (.slice (some ⟨g,0,none⟩) (ts.length+1) cap)):
  ce T R lo mk (fun r=>mC lo r (ts++[(x,t)])) W1 (w4.setCell ⟨R,F,none⟩ (.slice (some ⟨g,0,none⟩) (ts.length+1) cap)) (.slice (some ⟨g,0,none⟩) (ts.length+1) cap):=by
 exact qbm
theorem Ow:(prog.info? 47).map (fun i=>(i.zero,i.size,i.bytes))=some (some (.agg #[.string ByteArray.empty,.bool false,.string ByteArray.empty,.slice none 0 0]),4,64):=by kernel_rfl
end Go.Proofs.YtokemihbkeddoaaGreatDoor
namespace Go.Proofs
open Go.RowKit Go.Maps Go.Sort Go.Shelf
shelf_lay_g SlLaysZ.n7 Ggz 7 at Tryz 104 as Tryz.keysF
shelf_lay_g SlLaysZ.n7 Ggz 7 at Tryz 105 as Tryz.keysT
end Go.Proofs
namespace Go.Proofs.YtokemihbkeddoaaGreatDoor
open Go Go.RowKit Go.Maps Go.Sort Go.Shelf
theorem RI(mb:Option Nat)(W:World):Calls prog 104 #[.map mb] W fun e w'=>e=.returned (.func (.func 169) #[] #[.pointer (some ⟨W.heap.size,0,none⟩)])/\w'=W.alloc (.cells #[.map mb] 145):=
 aO.1 (AnyZ.keys_in Tryz.keysF Fence.wide 5 trivial rfl mb W)
theorem RJ(mb:Option Nat)(W:World):Calls prog 105 #[.map mb] W fun e w'=>e=.returned (.func (.func 170) #[] #[.pointer (some ⟨W.heap.size,0,none⟩)])/\w'=W.alloc (.cells #[.map mb] 146):=
 aO.1 (AnyZ.keys_in Tryz.keysT Fence.wide 5 trivial rfl mb W)
theorem mX:∀{l:List aj},eq l=true->Up l
 |[],_=>List.Pairwise.nil
 |x::l,h=>by
  obtain⟨h1,h2⟩:=pL.1 h;have h3:=mX h2;refine List.pairwise_cons.2 ⟨fun y hy=>?_,h3⟩
  cases l with
  |nil=>cases hy
  |cons z l=>
   have h4:=h1 z rfl;rcases dc.1 hy with rfl|hy
   ·exact h4
   ·exact yk _ _ _ h4 ((List.pairwise_cons.1 h3).1 y hy)
theorem JC{l:List aj}(h:Up l):dX l=l:=Nl _ _ (wy l) h (fun x=>eG x l)
theorem L9{V:Value->Fm->Prop}(m n:Nat)(l:List (aj×Fm))(hn:n<=3000000)(hup:Up (l.map (·.1)))(W:World)(hs:ms prog 9 V W m n l):
  Calls prog 74 #[.func (.func 169) #[] #[.pointer (some ⟨W.heap.size,0,none⟩)]] (W.alloc (.cells #[.map (some m)] 145)) fun e w'=>∃v,e=.returned v/\Nm W.heap.size w' v (l.map (·.1))/\RowKit.Below W.heap.size W w':=by
 obtain⟨D0,aE,hx⟩:=hs;have Nn:=aE.lt;have hsz:=aE.size_le;have rn:SeqGives Fence.wide 2 prog 169 #[.pointer (some ⟨W.heap.size,0,none⟩)] encStr (fun ss=>ss.Perm (strKeys D0)) (Maps.size D0) (W.alloc (.cells #[.map (some m)] 145)):=
  AnyZ.keys_gives (ρ:=Tryz.keysF_ren) {Tryz.keysF with } Fence.wide _ trivial rfl (by omega) W.heap.size m n D0 _ (by simp) (by simp) (aE.alloc _)
 have cS:=AnyZ.sorted_in Tryz.sortedA Fence.wide 5 trivial trivial trivial trivial rfl (by omega) (Tryz.sortsA _) (enters_of func134 (by kernel_rfl) rfl) 169 #[.pointer (some ⟨W.heap.size,0,none⟩)] trivial (enters_of func169 (by kernel_rfl) rfl) _ _ (by unfold maxLen;omega) (by omega) _ rn;exact qcm
theorem L_{V:Value->Tm->Prop}(m n:Nat)(l:List (aj×Tm))(hn:n<=3000000)(hup:Up (l.map (·.1)))(W:World)(hs:ms prog 9 V W m n l):
  Calls prog 74 #[.func (.func 170) #[] #[.pointer (some ⟨W.heap.size,0,none⟩)]] (W.alloc (.cells #[.map (some m)] 146)) fun e w'=>∃v,e=.returned v/\Nm W.heap.size w' v (l.map (·.1))/\RowKit.Below W.heap.size W w':=by
 obtain⟨D0,aE,hx⟩:=hs;have Nn:=aE.lt;have hsz:=aE.size_le;have rn:SeqGives Fence.wide 2 prog 170 #[.pointer (some ⟨W.heap.size,0,none⟩)] encStr (fun ss=>ss.Perm (strKeys D0)) (Maps.size D0) (W.alloc (.cells #[.map (some m)] 146)):=
  AnyZ.keys_gives (ρ:=Tryz.keysT_ren) {Tryz.keysT with } Fence.wide _ trivial rfl (by omega) W.heap.size m n D0 _ (by simp) (by simp) (aE.alloc _)
 have cS:=AnyZ.sorted_in Tryz.sortedA Fence.wide 5 trivial trivial trivial trivial rfl (by omega) (Tryz.sortsA _) (enters_of func134 (by kernel_rfl) rfl) 170 #[.pointer (some ⟨W.heap.size,0,none⟩)] trivial (enters_of func170 (by kernel_rfl) rfl) _ _ (by unfold maxLen;omega) (by omega) _ rn;exact qcm
end Go.Proofs.YtokemihbkeddoaaGreatDoor
namespace Go.Proofs.YtokemihbkeddoaaGreatDoor
open Go Go.RowKit Go.Maps Go.Sort Go.Shelf
variable{α:Type}{X:World}{B:Nat}{c0 c1:Value}{T:TypeId}
attribute [local go_sem] Oper.semAt_some
theorem ms.len{k:TypeId}{V:Value->α->Prop}{W:World}{m n:Nat}{l:List (aj×α)}(hk:prog.underlying k=some .string)(h:ms prog k V W m n l)(hup:Up (l.map (·.1))):l.length<=n:=by
 obtain⟨D0,aE,hx⟩:=h;obtain⟨es,hD,WL,_⟩:=aE.entries (Maps.string_keyed hk);have it:=();exact qfe
theorem w_(hx:X.heap[B]?=some (.cells #[c0,c1] T (0,0))):X.cell? ⟨B,0,none⟩=some c0/\X.cell? ⟨B,1,none⟩=some c1/\X.frozen? ⟨B,0,none⟩=false/\X.frozen? ⟨B,1,none⟩=false:=
 ⟨ao hx 0,ao hx 1,ai hx 0,ai hx 1⟩
theorem Gj(hx:X.heap[B]?=some (.cells #[c0,c1] T (0,0)))(v0 v1:Value):∃W6,W6=(X.setCell ⟨B,0,none⟩ v0).setCell ⟨B,1,none⟩ v1/\W6.heap[B]?=some (.cells #[v0,v1] T (0,0))/\Kp (fun b=>b=B) X W6/\W6.cell? ⟨B,0,none⟩=some v0/\W6.cell? ⟨B,1,none⟩=some v1:=by
 have h0:=bJ (F:=0) hx v0;have h1:=(bJ (F:=1) h0 v1).trans rfl;exact⟨_,rfl,h1,⟨rfl,rfl,rfl,by simp,fun c _ hc=>(e_ _ _ _ _ (by simpa using hc)).trans (e_ _ _ _ _ (by simpa using hc))⟩,ao h1 0,ao h1 1⟩
theorem Qi{l:List (aj×α)}(h:(l.map (·.1)).Nodup){j:Nat}(hj:j<l.length):bG l l[j].1=some l[j].2:=by
 have h1:=Ai h hj l[j].1;rw[aG rfl]at h1;have h2:∀(a b:List (aj×α))(x:aj)(v:α),bG a x=some v->bG (a++b) x=some v:=by
  intro a b x v ha
  induction a with
  |nil=>cases ha
  |cons z a ih=>
   obtain⟨z1,z2⟩:=z;simp only[lL,bG]at ha⊢
   by_cases hz:(z1==x)=true
   ·simpa[hz]using ha
   ·simp only[hz]at ha⊢;exact ih ha
 have h3:=h2 _ (l.drop (j+1)) _ _ h1
 rwa [List.take_append_drop]at h3
theorem Ma(k:Bd)(hv:bF k=true)(PF:Fm->Prop)(PT:Tm->Prop)(hPF:∀f,PF f->cJ f)(_g:∀t,PT t->e7 t)(ok:Nat->Prop)(w:World)(kb mF mT nF nT:Nat)(eR:ly ok PF PT w kb mF mT nF nT k)(vh:nF<=3000000)(tC:nT<=3000000):
  Calls prog 50 #[.pointer (some ⟨kb,0,none⟩)] w fun e w'=>(∃q:BQ,e=.returned q.val/\fH (w.heap.size<=·) w' q k)/\Below w.heap.size w w':=by
 obtain⟨sB,hi,AV,xV,B8⟩:=info_parts Ov;obtain⟨QV,hq,hqa,MY,hqc⟩:=info_parts Ow;have ll:=hv;simp only[bF,ak,List.all_eq_true]at ll;have huF:=mX ll.2.1;have huT:=mX ll.2.2;have hlF:=eR.fs.len underlying9 huF;have hlT:=eR.ts.len underlying9 huT;have⟨n1,eB⟩:=az k.fs.length;have⟨p0,jY⟩:=az k.ts.length;have Rc:n1<=3000000:=by omega
 have XP:p0<=3000000:=by omega
 have HN:=aM eB jY;have HP:=cH (jZ huF) (jZ huT) hPF _g;have KH:=aM (show ∀x∈k.fs,x.1.length<=2000000 from fun x hx=>by have:=wP (ll.1.1 x hx).1;omega) (show ∀x∈k.ts,x.1.length<=2000000 from fun x hx=>by have:=iI (ll.1.2 x hx).1;omega);have⟨W2,bp⟩:=az ((w.alloc (.cells #[.slice none 0 0,.slice none 0 0] 26)).alloc (.cells #[.slice none 0 0,.slice none 0 0] 26));have bU:=mo bp;have iG:=zP bp;have x0:=sx bp;have x1:=kv bp;have ia:=eR.later bU;have k0:=ao ia.box 0;have CK:=L9 mF nF k.fs vh huF W2 ia.fs;have MX:=ae (fun(V:World)(m n:Nat)(hs:ms prog 9 (PJ ok PT V) V m n k.ts)(h:n<=3000000)=>L_ m n k.ts h huT V hs);have HCK:=ae CK;have H2:=cH bU iG x0 x1;have MZ:=ae eR;have HNB:=aM vh tC;have gh:=ae bp;rw[bp]at k0;clear hv ll huF huT hlF hlT hPF _g eR bU iG x0 x1 ia CK bp vh tC eB jY;go_enter func50,ntmps50;go_wp2_with (first|(go_at_call 104;rw[<-gh.o];refine(RI _ _).mono ?_;rintro e w4 ⟨rfl,rfl⟩)|(go_at_call 74;refine HCK.o.mono ?_;rintro e w5 ⟨v5,rfl,QY,bE⟩;obtain⟨ka,kc,rfl⟩:=QY.strs.slice;have H5:=aM QY bE;clear QY bE));have⟨W3,ec⟩:=az w5;have⟨Yv,DO⟩:=bi H5.o.1.strs H5.o.2;clear H5;rw[List.length_map,<-HN.o.1]at Yv;rw[<-HN.o.1];rw[<-ec]at Yv DO⊢;clear ec w5;have zdd:Below w.heap.size w W3:=H2.o.1.tr DO.o;have SL:=bY DO.o H2.o.2.2.2;have x03:=bY DO.o H2.o.2.2.1;have zaU:=ae (ce.start (R:=w.heap.size+1) (mk:=fun rr=>#[rr,.slice none 0 0]) (Row:=fun r W=>mz W3.heap.size r (k.fs.take 0) W) SL (mz.nil _ _));have KA:=ae x03;have H3:=bS zdd Yv.o H2.o.2.1;clear zdd SL x03 Yv;go_loopw [15] (fun i wr=>∃j:Nat,j<=n1/\i=.int .i64 j/\∃row,ce 26 (w.heap.size+1) W3.heap.size (fun rr=>#[rr,.slice none 0 0]) (fun r W=>mz W3.heap.size r (k.fs.take j) W) W3 wr row) (fun i _=>n1-(intOf i).toNat)
 case atStart=>exact⟨0,bn _,rfl,_,zaU.o⟩
 case round=>
  obtain⟨j,hj,rfl,row,hF⟩:=hrel;have aD:=hF.below H3.o.1 (by omega)
  by_cases hlt:j<n1
  ·have dG:j<k.fs.length:=by rw[<-HN.o.1];exact hlt
   have eR:j<(k.fs.map (·.1)).length:=by simpa using dG
   obtain⟨bk,Q',rfl,hbk,ck⟩:=H3.o.2.1.get eR;have⟨nm,dQ⟩:=az (k.fs[j].1);simp only[List.getElem_map,<-dQ]at ck;have M4:=Qi HP.o.1 dG;rw[<-dQ]at M4;have UX:Kp (fun b=>b=w.heap.size+1) W3 wr:=hF.kp;have UY:bk≠w.heap.size+1:=by have:=H3.o.2.2;omega
   have dk:=UX.cell (a:=⟨bk,Q'+j,none⟩) UY ck;have kH:=MZ.o.later aD;rcases kH.fs.look underlying9 underlying145 oD (x:=nm) (by rw[dQ];exact KH.o.1 _ (aH dG))with⟨hg,_⟩|⟨g,vg,hg,hvg,hlk⟩
   ·rw[M4]at hg;cases hg
   rw[M4]at hg;obtain rfl:k.fs[j].2=g:=by injection hg
   obtain⟨⟨g0,g1,g2,g3,g4,g5,g6,g7⟩,rfl,rS,Lw⟩:=hvg;simp only[FQ.val]at hlk;have cr:(k.fs.take j).length=j:=by rw[dO];omega
   have qnJ:=();exact qaY
  ·obtain rfl:n1=j:=by omega
   have cr:(k.fs.take n1).length=n1:=by rw[dO];have:=HN.o;omega
   have jW:k.fs.take n1=k.fs:=gB (by have:=HN.o;omega);obtain⟨fra,frc,rfl⟩:=hF.row.slice;rw[cr]at hF;rw[jW]at hF;have HRF:=ae hF.row;have kH:=MZ.o.later aD;have xb:=hF.box;have kpF:=hF.kp;have zde:=hF.size;have⟨wo,IU⟩:=az wr;subst IU;have k1:=ao kH.box 1;have zfv:=ae (MX.o wo mT nT kH.ts HNB.o.2);have HO:=cH aD xb kpF zde;clear aD kH xb kpF zde hF cr jW;go_wp2_with (first|(go_at_call 105;refine(RJ _ _).mono ?_;rintro e w4 ⟨rfl,rfl⟩)|(go_at_call 74;refine zfv.o.mono ?_;rintro e w5 ⟨v5,rfl,QY,bE⟩;obtain⟨kta,ktc,rfl⟩:=QY.strs.slice;have H5:=aM QY bE;clear QY bE));clear k1;have⟨W6,dr⟩:=az w5;have⟨Yv,Mb⟩:=bi H5.o.1.strs H5.o.2;clear H5;rw[List.length_map,<-HN.o.2]at Yv;rw[<-HN.o.2];rw[<-dr]at Yv Mb⊢;clear dr w5;have zdf:Below w.heap.size w W6:=HO.o.1.tr Mb.o;have WX:=bY Mb.o HO.o.2.1;have zaV:=ae (ce.start (R:=w.heap.size+1) (mk:=fun rr=>#[.slice fra n1 frc,rr]) (Row:=fun r W=>mC W6.heap.size r (k.ts.take 0) W) WX (mC.nil _ _));have H6:=bS zdf Yv.o (show w.heap.size+1<wo.heap.size from(bQ HO.o.2.1));clear zdf WX Yv;go_loopw [41] (fun i wr=>∃j:Nat,j<=p0/\i=.int .i64 j/\∃row,ce 26 (w.heap.size+1) W6.heap.size (fun rr=>#[.slice fra n1 frc,rr]) (fun r W=>mC W6.heap.size r (k.ts.take j) W) W6 wr row) (fun i _=>p0-(intOf i).toNat)
   case atStart=>exact⟨0,bn _,rfl,_,zaV.o⟩
   case round=>
    obtain⟨j,hj,rfl,row,hF⟩:=hrel;have aD:=hF.below H6.o.1 (by omega)
    by_cases hlt:j<p0
    ·have dG:j<k.ts.length:=by rw[<-HN.o.2];exact hlt
     have eR:j<(k.ts.map (·.1)).length:=by simpa using dG
     obtain⟨bk,Q',rfl,hbk,ck⟩:=H6.o.2.1.get eR;have⟨nm,dQ⟩:=az (k.ts[j].1);simp only[List.getElem_map,<-dQ]at ck;have M4:=Qi HP.o.2.1 dG;rw[<-dQ]at M4;have UX:Kp (fun b=>b=w.heap.size+1) W6 wr:=hF.kp;have UY:bk≠w.heap.size+1:=by have:=H6.o.2.2;omega
     have dk:=UX.cell (a:=⟨bk,Q'+j,none⟩) UY ck;have kH:=MZ.o.later aD;rcases kH.ts.look underlying9 underlying146 lx (x:=nm) (by rw[dQ];exact KH.o.2 _ (aH dG))with⟨hg,_⟩|⟨g,vg,hg,hvg,hlk⟩
     ·rw[M4]at hg;cases hg
     rw[M4]at hg;obtain rfl:k.ts[j].2=g:=by injection hg
     obtain⟨⟨g0,g1,g2,g3,g4⟩,rfl,rS,Lw⟩:=hvg;simp only[TQ.val]at hlk;have cr:(k.ts.take j).length=j:=by rw[dO];omega
     have qnK:=();exact qaY
    ·obtain rfl:p0=j:=by omega
     have cr:(k.ts.take p0).length=p0:=by rw[dO];have:=HN.o;omega
     have jW:k.ts.take p0=k.ts:=gB (by have:=HN.o;omega);have qnL:=();exact qaY
end Go.Proofs.YtokemihbkeddoaaGreatDoor
namespace Go.Proofs.YtokemihbkeddoaaGreatDoor
open Go Go.RowKit Lib
set_option maxRecDepth 100000
set_option maxHeartbeats 0
variable{B n:Nat}{x:aj}{tm:Array Value}{ds:List Deferred}{w w':World}{F:Fence}{P:Program}
section
attribute [local go_sem] Oper.semAt_some
theorem UZ(k:Bd)(o:Int)(n:aj)(a:List Tm)(s:List Fm)(F:Fm)(c:gO):dE k ⟨.mk o n a s,F,c⟩=
  if(o !=16)=true then((k,0):Bd×Int)
  else match bG k.fs n with
  |none=>(k,71)
  |some f=>match f9 c [] F with
   |none=>(k,70)
   |some im=>
    if fD (bx (.mk o n a s)).1 f=0 then(if cI [] f im=true then(k,0)else(k,70))
    else match(match bG k.ts (bx (.mk o n a s)).2 with|some t=>some (t,k.ts)|none=>(fG f im (bx (.mk o n a s)).1).map fun t=>(t,iB (bx (.mk o n a s)).2 t k.ts))with
     |none=>(k,70)
     |some (t,ts)=>if(ag f+fD (bx (.mk o n a s)).1 f*(ap t-1)!=ag im)=true then({k with ts:=ts },70)
      else if cI [] (gQ (bx (.mk o n a s)).1 t f) im=true then({k with ts:=ts },0)else({k with ts:=ts },70):=rfl
theorem Ox{M:Nat->Prop}{W X Y:World}(h:Kp M W X)(k:Kp (fun b=>b=B) X Y)(hB:W.heap.size<=B):Kp M W Y:=
 ⟨k.os.trans h.os,k.tape.trans h.tape,k.output.trans h.output,aR h.size k.size,fun b hb hm=>(k.same b (bP hb h.size) (by omega)).trans (h.same b hb hm)⟩
theorem Oy:∀(l:List Tm)(i:Nat),fV x l≠0->(fh x l i).isSome=true:=by
 have FC:∀t:Tm,xU x t≠0->(nR x t).isSome=true:=by
  exact qav
 intro l
 induction l with
 |nil=>intro i h;simp[fV]at h
 |cons u a ihs=>
  intro i h;simp only[fV]at h;unfold fh
  cases hp:nR x u with
  |some p=>rfl
  |none=>
   simp only;refine ihs _ ?_;intro h0;have:=FC u (by omega);rw[hp]at this;cases this
theorem RK:∀f:Fm,fD x f≠0->(lN x f).isSome=true:=by
 intro f
 induction f using Fm.ind with
 |h o n a s ih=>
 intro h;unfold lN
 cases hp:fh x a 0 with
 |some p=>rfl
 |none=>
  simp only;have h1:fV x a=0:=by
   by_cases h0:fV x a=0
   ·exact h0
   ·have:=Oy a 0 h0;rw[hp]at this;cases this
  simp only[fD,h1,Nat.zero_add]at h;clear hp h1;generalize 0=i
  induction s generalizing i with
  |nil=>simp[jo]at h
  |cons u s ihs=>
   simp only[jo]at h;unfold mE
   cases hp:lN x u with
   |some p=>rfl
   |none=>
    exact qff
theorem RL(W0:World):_m W0 48 dE:=by
 intro M kb mF mT WP WO WQ hM0 p hp uM W nF nT k q ps hMs Ec eR vh tC hpv;obtain⟨⟨o,n,a,s⟩,F,c⟩:=p;have qnM:=();exact qai
def jG(w:World)(q r:FQ):World:=(w.alloc (.cells #[.int .u8 q.o,.string q.n,.slice q.a q.l q.c,.slice q.b q.m q.e] 36)).alloc (.cells #[.int .u8 r.o,.string r.n,.slice r.a r.l r.c,.slice r.b r.m r.e] 36)
theorem iJ(w:World)(q r:FQ):Below w.heap.size w (jG w q r):=dp.alloc (by simp) _
theorem mg(w:World)(q r:FQ):(jG w q r).heap.size=w.heap.size+2:=by simp[jG]
theorem nC(w:World)(q r:FQ):(jG w q r).heap[w.heap.size]?=some (.cells #[.int .u8 q.o,.string q.n,.slice q.a q.l q.c,.slice q.b q.m q.e] 36 (0,0)):=by
 unfold jG;exact((((ar _ (w.alloc (.cells #[.int .u8 q.o,.string q.n,.slice q.a q.l q.c,.slice q.b q.m q.e] 36))).alloc (aK _) _).block w.heap.size (by simp)).trans (aq rfl))
theorem nD(w:World)(q r:FQ):(jG w q r).heap[w.heap.size+1]?=some (.cells #[.int .u8 r.o,.string r.n,.slice r.a r.l r.c,.slice r.b r.m r.e] 36 (0,0)):=by
 unfold jG;exact aq (by simp)
theorem o8(q r:FQ)(w:World):
  Calls prog 49 #[q.val,r.val] w fun e w'=>e=.returned (.func (.func 102) #[] #[.pointer (some ⟨w.heap.size,0,none⟩),.pointer (some ⟨w.heap.size+1,0,none⟩)])/\w'=jG w q r:=by
 obtain⟨o,n,a,l,c,b,m,e⟩:=q;obtain⟨o2,n2,a2,l2,c2,b2,m2,e2⟩:=r;unfold FQ.val jG;go_enter func49,ntmps49;go_wp2;go_ret;exact⟨by simp,rfl⟩
theorem o9(s f:Fm)(aI:cJ f)(Kc:ag s<=1000000)(M:Nat->Prop)(B X Y:Nat)(w:World)(q r:FQ)(hX:w.heap[X]?=some (.cells #[.int .u8 q.o,.string q.n,.slice q.a q.l q.c,.slice q.b q.m q.e] 36 (0,0)))(MP:¬M X)
  (hY0:w.heap[Y]?=some (.cells #[.int .u8 r.o,.string r.n,.slice r.a r.l r.c,.slice r.b r.m r.e] 36 (0,0))) (hYM:¬M Y) (hq:aC (fun b=>b<B/\¬M b) w q.val s) (hr:aC (fun b=>b<B/\¬M b) w r.val f):
  M8 M True prog 102 #[.pointer (some ⟨X,0,none⟩),.pointer (some ⟨Y,0,none⟩)] (bC [] s f) (T6 M B) w:=by
 intro l J Jx W hk hM hl hlM hJ hJx hY hj;have WI:=(bQ hX);have hYl:=(bQ hY0);have Cc:=(hk.same X WI MP).trans hX;have hYW:=(hk.same Y hYl hYM).trans hY0;exact qcA
end
def kE(tm:Array Value)(us:Nat->Value):List Nat->Array Value
 |[]=>tm
 |s::l=>(kE tm us l).setIfInBounds s (us s)
theorem BI(tm:Array Value)(us:Nat->Value):∀ss,(kE tm us ss).size=tm.size
 |[]=>rfl
 |s::l=>by simp only[kE,Array.size_setIfInBounds,BI tm us l]
theorem BJ(tm:Array Value):∀ss,kE tm (fun s=>tm.getD s undef) ss=tm
 |[]=>rfl
 |s::l=>by
  simp only[kE,BJ tm l];apply Array.ext
  ·simp
  ·intro i h1 h2;rw[Array.getElem_setIfInBounds];split
   ·rename_i h;subst h;simp[Array.getD,h2]
   ·rfl
theorem EO(tm:Array Value)(us:Nat->Value)(s0:Nat)(h0:s0<tm.size):∀ss,s0∈ss->(kE tm us ss).getD s0 undef=us s0
 |[],h=>by cases h
 |s::l,h=>by
  simp only[kE];have hz:=BI tm us l
  by_cases hs:s=s0
  ·subst hs;simp[Array.getD,hz,h0]
  ·have ih:=EO tm us s0 h0 l (by rcases dc.1 h with h|h;exact absurd h.symm hs;exact h);rw[<-ih];simp only[Array.getD,Array.size_setIfInBounds]
   by_cases hlt:s0<(kE tm us l).size
   ·simp[hlt,hs]
   ·simp[hlt]
def o_(tm:Array Value)(ss:List Nat)(s0:Nat)(rel:(Nat->Value)->List Deferred->World->Prop)(μ:Value->Nat)(m:Nat)(a:Act)(w:World):Prop:=(∃us',a.tmps=kE tm us' ss/\rel us' a.defers w)/\μ (a.tmps.getD s0 undef)<m
theorem o_.mk{ss:List Nat}{s0:Nat}{rel:(Nat->Value)->List Deferred->World->Prop}{μ:Value->Nat}{m:Nat}{T:Array Value}(hT:kE tm (fun s=>T.getD s undef) ss=T)(hr:rel (fun s=>T.getD s undef) ds w)(hm:μ (T.getD s0 undef)<m):o_ tm ss s0 rel μ m {tmps:=T,defers:=ds } w:=⟨⟨_,hT.symm,hr⟩,hm⟩
theorem nO{Q:Exit->Act->World->Prop}{c:Code}(ss:List Nat)(s0:Nat)(rel:(Nat->Value)->List Deferred->World->Prop)(μ:Value->Nat)
  (iZ:s0<tm.size) (lw:s0∈ss) (h0:rel (fun s=>tm.getD s undef) ds w)
  (round:∀us ds' wr,rel us ds' wr->c.wpIn F n P (Exit.then (o_ tm ss s0 rel μ (μ (us s0))) Q) {tmps:=kE tm us ss,defers:=ds' } wr):
  (Code.loop c).wpIn F n P Q {tmps:=tm,defers:=ds } w:=by
 refine wpIn_loop (fun a w=>∃us,a.tmps=kE tm us ss/\rel us a.defers w) (fun a _=>μ (a.tmps.getD s0 undef)) ⟨_,(BJ tm ss).symm,h0⟩ ?_;have J_:∀us,(kE tm us ss).getD s0 undef=us s0:=fun us=>EO tm us s0 iZ ss lw;rintro⟨T,ds'⟩ wr ⟨us,hT,hr⟩;simp only at hT hr;subst hT;refine wpIn_mono (round us ds' wr hr) ?_;intro e a' w' h
 cases e with
 |normal=>exact⟨h.1,by have:=h.2;rw[<-J_ us]at this;exact this⟩
 |_=>exact h
def mkD(D:Nat):Deferred:={target:=.collected D,args:=#[] }
def gW(B:Nat)(w:World)(ds:List Deferred):Prop:=∃Ds:List Nat,ds=Ds.map mkD/\Ds.Nodup/\∀D∈Ds,B<=D/\w.heap[D]?=some (.deferred (some []))
theorem gW.nil(B:Nat)(w:World):gW B w []:=⟨[],rfl,List.nodup_nil,fun _ h=>by cases h⟩
theorem gW.move(h:gW B w ds)(hk:∀D,B<=D->w.heap[D]?=some (.deferred (some []))->w'.heap[D]?=some (.deferred (some []))):gW B w' ds:=by
 obtain⟨Ds,rfl,hn,h⟩:=h;exact⟨Ds,rfl,hn,fun D hD=>⟨(h D hD).1,hk D (h D hD).1 (h D hD).2⟩⟩
theorem gW.more{D:Nat}(h:gW B w ds)(hk:∀D,B<=D->w.heap[D]?=some (.deferred (some []))->w'.heap[D]?=some (.deferred (some [])))(hD:w.heap.size<=D)(hB:B<=D)(hd:w'.heap[D]?=some (.deferred (some []))):gW B w' ({target:=.collected D,args:=#[] }::ds):=by
 obtain⟨Ds,rfl,hn,h⟩:=h;refine⟨D::Ds,rfl,List.nodup_cons.2 ⟨fun hm=>?_,hn⟩,fun E hE=>?_⟩
 ·have:=(bQ (h D hm).2);omega
 ·rcases dc.1 hE with rfl|hE
  ·exact⟨hB,hd⟩
  ·exact⟨(h E hE).1,hk E (h E hE).1 (h E hE).2⟩
theorem fE{fn:Func}{tmps:Array Value}{R:Ending->World->Prop}(h:gW B w ds)(hR:∀w',Nw B w w'->LeavesInM F n P fn tmps R [] .returning w'):LeavesInM F n P fn tmps R ds .returning w:=by
 obtain⟨Ds,rfl,hn,h⟩:=h
 induction Ds generalizing w with
 |nil=>exact hR w (Nw.refl _ _)
 |cons D Ds ih=>
  have hd:=h D (fT ..);have hD:=(List.nodup_cons.1 hn).1;refine⟨by simp,.inl ⟨D,_,rfl,run_takeDeferred hd.2,?_⟩⟩;have hw:Nw B w (w.putObj D (.deferred none)):=Nw.put hd.1 hd.2 rfl rfl;refine ih (fun w' hk=>hR w' (hw.trans hk)) (List.nodup_cons.1 hn).2 (fun E hE=>⟨(h E (fS _ hE)).1,?_⟩);exact(qu (fun e=>hD (by rw[<-e];exact hE))).trans (h E (fS _ hE)).2
