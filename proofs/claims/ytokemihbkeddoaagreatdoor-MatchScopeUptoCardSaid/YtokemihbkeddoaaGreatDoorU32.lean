/-
'fill' of package match at schemas that are no metavariables. (Printed by gen_mfillo.py.)
-/
import Derived.Test.YtokemihbkeddoaaGreatDoorU00
import Derived.Test.YtokemihbkeddoaaGreatDoorU31
import Derived.Test.YtokemihbkeddoaaGreatDoorU12
namespace Go.Proofs.YtokemihbkeddoaaGreatDoor
open Go Go.RowKit Lib
set_option maxRecDepth 100000
set_option maxHeartbeats 64000000
section
attribute [local go_sem] Oper.semAt_some
theorem uk (W:World) (n:Str) (rb:Nat) (hrc:W.heap[rb]?=some (.cells #[.string ⟨n.toArray⟩] 9 (0,0))) (la:Option Addr) (l0 lc:Nat) (L:List Str) (sW:l0=L.length) (cq:L.length<=1000000) (hL:StrsN W (.slice la l0 lc) L) (ty:TypeId) :
  ∃v' w',(Builtin.append_ #[66,66] ty #[.slice la l0 l0,.slice (some ⟨rb,0,none⟩) 1 1]).run Tryz.prog W=.ok v' w'/\StrsN w' v' (L ++ [n])/\Below W.heap.size W w'/\∀ b,v'.ownBlock=some b->W.heap.size<=b/\b<w'.heap.size:=by
 obtain ⟨i0,hi,wy,tu,wT⟩:=info_parts xI
 obtain ⟨a',cap,hv,hc,pX⟩:=hL
 obtain ⟨rfl,_,rfl⟩:la=a'/\l0=L.length/\lc=cap:=by injection hv with h1 h2 h3;exact ⟨h1,h2,h3⟩
 have hr:∃g cap w',(Builtin.append_ #[66,66] ty #[.slice la l0 l0,.slice (some ⟨rb,0,none⟩) 1 1]).run Tryz.prog W=.ok (.slice (some ⟨g,0,none⟩) (l0+1) cap) w'/\w'.ownsRow W.heap.size 9 1 (.slice (some ⟨g,0,none⟩) (l0+1) cap) (l0+1) (L.map encStr ++ [.string ⟨n.toArray⟩])/\W.grownBy w' none:=by
  rcases pX with ⟨h1,h2,h3⟩ | ⟨b,off,h1,h4⟩
  ·subst h1 h2
   obtain rfl:l0=0:=sW
   obtain ⟨g,cap,w',hr,h2,h3,_,_⟩:=run_append_lies (P:=Tryz.prog) W 66 ty W.heap.size 9 i0 (.string ByteArray.empty) 1 16 Tryz.underlying66 hi wy tu wT rfl (by decide) (.slice none 0 0) 0 [] (World.ownsRow_nil _ _ _ _) ⟨rb,0,none⟩ 1 1 [.string ⟨n.toArray⟩] rfl (cK (cs:=#[.string ⟨n.toArray⟩]) (t:=9) (fr:=(0,0)) hrc) (by simp[Value.oneCell']) (by decide) (by unfold maxLen;omega) (by omega) (Nat.le_refl _) _ rfl
   exact ⟨g,cap,w',hr,h2,h3⟩
  ·subst h1
   obtain ⟨v',w',hr,h2,h3⟩:=run_append_arg_grows (P:=Tryz.prog) W 66 ty 9 i0 (.string ByteArray.empty) 1 16 Tryz.underlying66 hi wy tu wT rfl (by decide) ⟨b,off,none⟩ l0 l0 (L.map encStr) (by rw[List.length_map,sW];omega) (fun j u hu=>by
    rw[List.getElem?_map]at hu
    by_cases hj:j<L.length
    ·rw[List.getElem?_eq_getElem hj]at hu
     rw[tK]
     refine (h4 j hj).trans ?_
     rw[<-hu];rfl
    ·rw[List.getElem?_eq_none (by omega)]at hu;cases hu) ⟨rb,0,none⟩ 1 1 [.string ⟨n.toArray⟩] rfl (cK (cs:=#[.string ⟨n.toArray⟩]) (t:=9) (fr:=(0,0)) hrc) (by omega) (by unfold maxLen;omega) (by omega)
   obtain ⟨g,cap,rfl,_,_⟩:=h2.form (by omega)
   exact ⟨g,cap,w',hr,h2,h3⟩
 obtain ⟨g,cap,w',hr,h2,h3⟩:=hr
 have hmp:L.map encStr ++ [.string ⟨n.toArray⟩]=(L ++ [n]).map encStr:=by rw[List.map_append];rfl
 rw[hmp]at h2
 refine ⟨_,w',hr,StrsN.own h2,⟨h3.os,h3.tape,h3.output,h3.size,fun b hb=>h3.block b hb (by simp)⟩,fun b hb=>?_⟩
 obtain rfl:g=b:=by simpa[Value.ownBlock] using hb
 exact h2.lt g rfl
theorem zk (k:Bd) (c:List Str):∀ l,eR k c l=l.map (cz k c)
 | []=>rfl
 | t :: l=>by simp[eR,zk k c l]
theorem Qv {k:Bd} {c:List Str} {o:Int} {n:Str} {a:List Tm} {s:List Fm} (lK:o≠15) (iE:o≠16) (hq:bn o=false):cz k c (.mk o n a s)=.mk o n (a.map (cC k.ts c)) (s.map (cz k c)):=by
 simp only[cz,if_neg lK,if_neg iE,hq,Bool.false_eq_true,if_false,np,zk]
theorem Qw {k:Bd} {c:List Str} {o:Int} {n:Str} {g:Fm} (lK:o≠15) (iE:o≠16) (hq:bn o=true):cz k c (.mk o n [] [g])=mQ o n [] (cz k (n :: c) g):=by
 simp only[cz,if_neg lK,if_neg iE,hq,if_true,eR,eQ]
theorem Hx (W0:World) (lN:Nat->Prop) (kb mF mT nF nT:Nat) (kd:Bd) (dw:KnV lN goodF goodT W0 kb mF mT nF nT kd) (WB:World) (iU:Tabs WB W0) (Bw:bU kd=true) (fB:∀ x∈kd.ts,nodesT x.2<=1000) (Uw:Int) (n:Str) (a:List Tm) (ss:List Fm) (lK:Uw≠15) (iE:Uw≠16) (hs:okF true (.mk Uw n a ss)=true) (pA:nodesF (.mk Uw n a ss)<=400) (YH:gY kd (.mk Uw n a ss)=true) (hsz:sF kd (.mk Uw n a ss)<=1000) (IH:∀ g∈ss,Fr W0 kd kb g):Fr W0 kd kb (.mk Uw n a ss):=by
 exact pm180
end
end Go.Proofs.YtokemihbkeddoaaGreatDoor
