/-
The walk of MatchScope of lyceumlaw07. (Printed by gen_mscope.py.)
-/
import Derived.Test.YtokemihbkeddoaaGreatDoorU00
import Derived.Test.YtokemihbkeddoaaGreatDoorU38
import Derived.Test.YtokemihbkeddoaaGreatDoorU24
namespace Go.Proofs.YtokemihbkeddoaaGreatDoor
open Go Go.RowKit Lib
set_option maxRecDepth 100000
set_option maxHeartbeats 64000000
section
attribute [local go_sem] Oper.semAt_some
theorem vw {b c:Bool} (h:b=c):(aE (.bool c)).p=(aE (.bool b)).p:=by rw[h]
structure ScopeI (w0:World) (f g wh:Fm) (y:Str) (l:List Str) (v8:Value) (b3 b4 b7:Nat) (q3 q4 q7:FQ) (i:Nat) (a:Act) (W:World):Prop where
 hs:a.tmps.size=99
 hd:a.defers=[]
 HB:Below w0.heap.size w0 W
 t10:a.tmps[10]?=some (.int .i64 i)
 t9:a.tmps[9]?=some (.bool ((l.take i).contains y))
 t2:a.tmps[2]?=some (.string ⟨y.toArray⟩)
 t8:a.tmps[8]?=some v8
 F3:LF X0 a W 3 b3 q3 f
 F4:LF X0 a W 4 b4 q4 g
 F7:LF X0 a W 7 b7 q7 wh
 S8:StrsO (okS X0 W) W v8 l
theorem mh {l:List Str} {i:Nat} {y:Str} (h:i<l.length):(l.take (i+1)).contains y=((l.take i).contains y || l[i] == y):=by
 rw[List.take_succ_eq_append_getElem h,List.contains_append]
 by_cases h1:l[i]=y
 ·subst h1
  simp
 ·have h2:¬y=l[i]:=fun e=>h1 e.symm
  simp[h1,h2]
theorem FJ {f g:Fm} {y:Str} (h:bP (.mk 6 [] [] [.mk 8 y [] [f],g])=true):pf f g=bT [] f g:=by
 simp only[bP,Bool.and_eq_true,decide_eq_true_eq]at h
 obtain ⟨h1,h2,h3⟩:=h
 simp only[nodesF,ah,ac]at h2
 simp only[depthF,aU]at h3
 simp only[okF,cX,Bool.and_eq_true]at h1
 have hf:bP f=true:=by
  simp only[bP,Bool.and_eq_true,decide_eq_true_eq]
  exact ⟨h1.2.2.2.2.1.2.2.2.2.1,by omega,by omega⟩
 have hg:bP g=true:=by
  simp only[bP,Bool.and_eq_true,decide_eq_true_eq]
  exact ⟨h1.2.2.2.2.2.1,by omega,by omega⟩
 simp[pf,hf,hg]
theorem K_ (f:Fm):vG f f=true:=(rB f f).2 rfl
theorem La (WB:World) (f g:Fm) (y:Str) (aD:fitF (.mk 6 [] [] [.mk 8 y [] [f],g])) (ok ok':Nat->Prop) (w:World) (iU:Tabs WB w) (q q':FQ) (hq:FormV ok w q.val f) (jC:FormV ok' w q'.val g) :
  Calls Tryz.prog 8 #[q.val,q'.val,.string ⟨y.toArray⟩] w fun e w'=>e=.returned (.bool true)/\Below w.heap.size w w':=by
 exact pm158
end
end Go.Proofs.YtokemihbkeddoaaGreatDoor
