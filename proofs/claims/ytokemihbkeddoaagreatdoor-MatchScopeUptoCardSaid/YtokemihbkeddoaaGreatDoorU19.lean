/-
Bounds on the nodes of what 'put' and 'found' give. Plain.
A contract of 'alike' of package match. (Printed by gen_malikef.py.)
-/
import Derived.Test.YtokemihbkeddoaaGreatDoorU00
import Derived.Test.YtokemihbkeddoaaGreatDoorU18
import Derived.Test.YtokemihbkeddoaaGreatDoorU13
import Derived.Test.YtokemihbkeddoaaGreatDoorU11
import Derived.Test.YtokemihbkeddoaaGreatDoorU03
namespace Go.Proofs.YtokemihbkeddoaaGreatDoor
open Go Go.RowKit Lib
set_option maxRecDepth 100000
set_option maxHeartbeats 64000000
mutual
theorem PH {x:Str} {u:Tm}:∀ t,nodesT (jQ x u t)<=nodesT t * nodesT u
 | .mk v n a=>by
  have hu:=iq u
  have ih:=yu (x:=x) (u:=u) a
  unfold jQ e_
  by_cases h:v=true/\n=x
  ·obtain ⟨rfl,rfl⟩:=h
   simp only[↓reduceIte,beq_self_eq_true,nodesT]
   exact Nat.le_mul_of_pos_left _ (by omega)
  ·have h0:(if v=true then (if (n == x)=true then some u else none) else none)=none:=by
    by_cases hv:v=true
    ·have hn:(n == x)=false:=by simp;exact fun e=>h ⟨hv,e⟩
     simp[hv,hn]
    ·simp[hv]
   simp only[h0,nodesT,Nat.add_mul]
   rw[fZ]
   have ih2:ac (a.map (e_ fun n=>if (n == x)=true then some u else none))<=ac a * nodesT u:=ih
   omega
theorem yu {x:Str} {u:Tm}:∀ l,ac (dP x u l)<=ac l * nodesT u
 | []=>by simp[dP,ac]
 | t :: l=>by
  have h1:=PH (x:=x) (u:=u) t
  have h2:=yu (x:=x) (u:=u) l
  simp only[dP,List.map_cons,ac,Nat.add_mul]at h2 ⊢
  omega
end
theorem MT {φ:Fm->Fm} {U:Nat}:∀ (s:List Fm),(∀ g∈s,nodesF (φ g)<=nodesF g * U)->ah (s.map φ)<=ah s * U
 | [],_=>by simp[ah]
 | g :: s,h=>by
  have h1:=h g (List.mem_cons_self ..)
  have h2:=MT s (fun g hg=>h g (List.mem_cons_of_mem _ hg))
  simp only[List.map_cons,ah,Nat.add_mul]
  omega
theorem sd:∀ (k:Nat) (f:Fm) (x:Str) (u:Tm),iF f=true->qone f=true->depthF f<=k->nodesF (ep k x u f)<=nodesF f * nodesT u
 | 0,f,x,u,hw,hq,hd=>by have:=kU f;omega
 | k+1,.mk o n a s,x,u,hw,hq1,hd=>by
  have hu:=iq u
  have pp116d:=();exact pm116
theorem sh {f:Fm} {x:Str} {u:Tm} (hf:goodF f) (hu:goodT u):fitF (gS x u f):=by
 have h1:=hf.nodes
 have h2:=hu.2
 have h3:=sd (depthF f) f x u hf.wf hf.qone (Nat.le_refl _)
 have h4:nodesF f * nodesT u<=400 * 1000:=Nat.mul_le_mul h1 h2
 exact ⟨by unfold gS;omega,nc _ f x u hf.wf hf.qone (Nat.le_refl _) (by omega) hf.fit.2 hu.fit.2⟩
theorem uR:∀ (p:List Nat) (l:List Tm) (t:Tm),le l p=some t->nodesT t<=ac l
 | [],l,t,h=>by cases l <;> simp[le]at h
 | [i],l,t,h=>by
  simp only[le]at h
  exact fA (List.mem_of_getElem? h)
 | i :: j :: r,l,t,h=>by
  simp only[le]at h
  cases hi:l[i]? with
  | none=>rw[hi]at h;cases h
  | some u=>
   rw[hi]at h
   have h1:=uR (j :: r) u.a t h
   have h2:=fA (List.mem_of_getElem? hi)
   obtain ⟨v,n,a⟩:=u
   simp only[Tm.a]at h1
   simp only[nodesT]at h2
   omega
theorem uS:∀ (p:List Nat) (f:Fm) (ins:List Str) (g:Fm) (pL:List Str),mo f p ins=some (g,pL)->nodesF g<=nodesF f
 | [],f,ins,g,pL,h=>by simp only[mo,Option.some.injEq,Prod.mk.injEq]at h;rw[h.1];exact Nat.le_refl _
 | i :: r,f,ins,g,pL,h=>by
  simp only[mo]at h
  cases hi:f.s[i]? with
  | none=>rw[hi]at h;cases h
  | some u=>
   rw[hi]at h
   have h1:=uS r u _ g pL h
   have h2:=iA (List.mem_of_getElem? hi)
   obtain ⟨o,n,a,s⟩:=f
   simp only[Fm.s]at h2
   simp only[nodesF]
   omega
theorem G7 (g:Fm):ac g.a<=nodesF g:=by
 obtain ⟨o,n,a,s⟩:=g
 simp only[Fm.a,nodesF];omega
theorem EL {f im:Fm} {x:Str} {t:Tm} (h:iZ f im x=some t):nodesT t<=nodesF im:=by
 unfold iZ at h
 split at h
 ·cases h
 ·split at h
  ·cases h
  ·rename_i hw
   split at h
   ·cases h
   ·rename_i Ss
    split at h
    ·cases h
    ·cases h
     have h1:=uS _ _ _ _ _ hw
     have h2:=uR _ _ _ Ss
     exact Nat.le_trans h2 (Nat.le_trans (G7 _) h1)
theorem G8 {f im:Fm} {x:Str} {t:Tm} (hok:okF false (bm im)=true) (hn:nodesF im<=400) (h:iZ f im x=some t):goodT t:=⟨Ed hok h,by have:=EL h;omega⟩
theorem EM {p:Pl} (hp:PlOk p) {im:Fm} (h:fD p.c [] p.f=some im):goodF im:=AK hp h
theorem Kh {p:Pl} (hp:PlOk p) {t u:Tm} (ht:t∈p.f.a) (h:io p.c [] t=some u):goodT u:=by
 obtain ⟨s,⟨o,n,a,l⟩,c⟩:=p
 have hf:=hp.f
 have hn:=hp.n
 simp only[Fm.a]at ht
 simp only[okF,Bool.and_eq_true]at hf
 simp only[nodesF]at hn
 obtain ⟨i,hi,rfl⟩:=List.getElem_of_mem ht
 have h1:=oC a i _ hf.2.2.2.1 (List.getElem?_eq_getElem hi)
 obtain ⟨h2,h3,_⟩:=BW hp.c [] _ _ h1 h
 have h4:=fA (List.getElem_mem hi)
 exact ⟨h2,by omega⟩
def dK (f:Fm):Nat:=nodesF f
theorem si (o:Int) (n:Str) (a:List Tm) (s:List Fm):∀ t∈s,dK t+1<=dK (.mk o n a s):=fun t ht=>by
 have:=iA ht
 simp only[dK,nodesF];omega
theorem Bh (c:Sco) (o o':Int) (n n':Str) (a a':List Tm) (s s':List Fm):bT c (.mk o n a s) (.mk o' n' a' s')=((o == o' && (a.length == a'.length && s.length == s'.length)) && ((n == n' || bn o) && (bH c a a' && cb (if bn o then (n,n') :: c else c) s s'))):=by
 rw[bT]
theorem Ki:(Tryz.prog.info? 213).map (fun i=>(i.zero,i.size,i.bytes))=some (some (.agg #[.string ByteArray.empty,.string ByteArray.empty]),2,32):=by kernel_rfl
def zaX (t:Fm):Prop:=∀ (u:Fm) (ps:List (Str×Str)) (v:Value) (ok ok':Nat->Prop) (w:World) (q q':FQ),ps.length+dK t<=1000000000->fitF t->FormV ok w q.val t->FormV ok' w q'.val u->PairsV w v ps →
 Calls Tryz.prog 92 #[q.val,q'.val,v] w fun e w'=>e=.returned (.bool (bT ps.reverse t u))/\Below w.heap.size w w'
theorem sj:∀ t,zaX t:=by
 obtain ⟨i0,hi,rq,jS,hO⟩:=info_parts Ki
 intro t
 induction t using Fm.ind with
 | h uo xn xa xs ih=>
 intro u ps v ok ok' w q q' gh hf hq jC hp
 have pp81:=();exact pm81
end Go.Proofs.YtokemihbkeddoaaGreatDoor
