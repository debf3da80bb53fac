/-
What packages syntax,subst and match compute,as plain functions of terms and formulas.
Terms and formulas in memory.
Bindings and pairs in memory.
-/
import Derived.Test.YtokemihbkeddoaaGreatDoorU00
import Derived.Test.YtokemihbkeddoaaGreatDoorProg
import Derived.Below
import Derived.Laws.World
namespace Go.Proofs.YtokemihbkeddoaaGreatDoor
open Go Go.RowKit Lib
set_option maxRecDepth 100000
set_option maxHeartbeats 64000000
abbrev Str:=List UInt8
inductive Tm where
 | mk (v:Bool) (n:Str) (a:List Tm)
inductive Fm where
 | mk (op:Int) (n:Str) (a:List Tm) (s:List Fm)
def Tm.v:Tm->Bool | .mk v _ _=>v
def Tm.n:Tm->Str | .mk _ n _=>n
def Tm.a:Tm->List Tm | .mk _ _ a=>a
def Fm.op:Fm->Int | .mk o _ _ _=>o
def Fm.n:Fm->Str | .mk _ n _ _=>n
def Fm.a:Fm->List Tm | .mk _ _ a _=>a
def Fm.s:Fm->List Fm | .mk _ _ _ s=>s
theorem Tm.ind {p:Tm->Prop} (h:∀ v n a,(∀ t∈a,p t)->p (.mk v n a)):∀ t,p t:=by
 intro t
 exact Tm.rec (motive_1:=p) (motive_2:=fun l=>∀ t∈l,p t) (fun v n a ih=>h v n a ih) (fun t ht=>by cases ht) (fun t l h1 h2 u hu=>by
  rcases List.mem_cons.1 hu with rfl | hu
  ·exact h1
  ·exact h2 u hu) t
theorem Fm.ind {p:Fm->Prop} (h:∀ o n a s,(∀ t∈s,p t)->p (.mk o n a s)):∀ t,p t:=by
 intro t
 exact Fm.rec (motive_1:=p) (motive_2:=fun l=>∀ t∈l,p t) (fun o n a s ih=>h o n a s ih) (fun t ht=>by cases ht) (fun t l h1 h2 u hu=>by
  rcases List.mem_cons.1 hu with rfl | hu
  ·exact h1
  ·exact h2 u hu) t
mutual
def te:Tm->Tm->Bool
 | .mk v n a,.mk v' n' a'=>(v == v' && n == n') && iy a a'
def iy:List Tm->List Tm->Bool
 | [],[]=>true
 | a :: xs,b :: ys=>te a b && iy xs ys
 | _,_=>false
end
mutual
def vG:Fm->Fm->Bool
 | .mk o n a s,.mk o' n' a' s'=>(o == o' && n == n') && (iy a a' && mm s s')
def mm:List Fm->List Fm->Bool
 | [],[]=>true
 | a :: xs,b :: ys=>vG a b && mm xs ys
 | _,_=>false
end
/-! names -/
def LI (c:UInt8):Bool:=97<=c && c<=122
def It (c:UInt8):Bool:=65<=c && c<=90
def Iu (c:UInt8):Bool:=48<=c && c<=57
def Iv (c:UInt8):Bool:=LI c || (It c || Iu c)
def Sv:List Str:=[[97,108,108],[115,111,109,101],[102,97,108,115,101],[110,101,120,116],[97,108,119,97,121,115],[117,110,116,105,108]]
def oe (f o:UInt8->Bool):Str->Bool
 | []=>false
 | c :: r=>decide (r.length<16) && (!Sv.contains (c :: r) && (f c && r.all o))
def fQ (s:Str):Bool:=oe (fun c=>117<=c && c<=122) Iu s
def zL (s:Str):Bool:=oe (fun c=>97<=c && c<=116) Iv s
def uw (s:Str):Bool:=oe It Iv s
def dp (s:Str):Bool:=decide (s.length<=16) && (s.head? == some 63 && uw s.tail)
def cG (s:Str):Bool:=decide (s.length<=16) && (s.head? == some 63 && zL s.tail)
def ea (s:Str):Bool:=dp s || cG s
def dy (s:Str):Bool:=s.head? == some 63 && fQ s.tail
def cH (s:Str):Str:=63 :: s
def ap (s:Str):Tm:=.mk true s []
/-! what is right -/
mutual
def nodesT:Tm->Nat | .mk _ _ a=>ac a+1
def ac:List Tm->Nat | []=>0 | t :: l=>nodesT t+ac l
end
mutual
def nodesF:Fm->Nat | .mk _ _ a s=>ac a+ah s+1
def ah:List Fm->Nat | []=>0 | t :: l=>nodesF t+ah l
end
mutual
def cR:Tm->Nat | .mk _ _ a=>bz a+1
def bz:List Tm->Nat | []=>0 | t :: l=>max (cR t) (bz l)
end
mutual
def depthF:Fm->Nat | .mk _ _ a s=>max (bz a) (aU s)+1
def aU:List Fm->Nat | []=>0 | t :: l=>max (depthF t) (aU l)
end
mutual
def iX (sc:Bool):Tm->Bool
 | .mk v n a=>if v then a.isEmpty && (fQ n || (sc && cG n)) else decide (a.length<=4) && (zL n && dO sc a)
def dO (sc:Bool):List Tm->Bool | []=>true | t :: l=>iX sc t && dO sc l
end
def rowOp (op:Int):Bool×Bool×Nat×Nat×Nat:=
 if op=1 then (true,true,1,4,0) else if op=2 then (true,true,0,0,0)
 else if op=8\/op=9 then (true,true,2,0,1)
 else if op=3\/(10<=op/\op<=13) then (true,true,0,0,1)
 else if (4<=op/\op<=7)\/op=14 then (true,true,0,0,2)
 else if op=15 then (false,true,3,0,0) else if op=16 then (false,true,3,2,0) else (false,false,0,0,0)
def oh (zak:Nat) (s:Str):Bool:=match zak with | 1=>uw s | 2=>fQ s | 3=>dp s | _=>s.isEmpty
def rp:List Tm->Bool
 | [x,y]=>x.v && (fQ x.n && (y.v && cG y.n))
 | _=>false
mutual
def okF (sc:Bool):Fm->Bool
 | .mk op n a s=>((rowOp op).1 || (sc && (rowOp op).2.1)) && ((oh (rowOp op).2.2.1 n && (decide (a.length<=(rowOp op).2.2.2.1) && s.length == (rowOp op).2.2.2.2)) && ((op != 16 || rp a) && (dO sc a && cX sc s)))
def cX (sc:Bool):List Fm->Bool | []=>true | t :: l=>okF sc t && cX sc l
end
def bP (f:Fm):Bool:=okF false f && (decide (nodesF f<=400) && decide (depthF f<=40))
def fC (f:Fm):Bool:=okF true f && (decide (nodesF f<=400) && decide (depthF f<=40))
def bn (op:Int):Bool:=op == 8 || op == 9
/-! free variables -/
mutual
def aI:Tm->List Str | .mk v n a=>if v then n :: ar a else ar a
def ar:List Tm->List Str | []=>[] | t :: l=>aI t ++ ar l
end
mutual
def aO (b:List Str):Fm->List Str
 | .mk op n a s=>(ar a).filter (fun x=>!b.contains x) ++ bj (if bn op then n :: b else b) s
def bj (b:List Str):List Fm->List Str | []=>[] | t :: l=>aO b t ++ bj b l
end
def vH (x:Str):List Str->List Str
 | []=>[x]
 | y :: l=>if x == y then y :: l else if Op.bytesLess x y then x :: y :: l else y :: vH x l
def de (l:List Str):List Str:=l.foldr vH []
def zM:Nat->Nat->Str
 | 0,_=>[]
 | k+1,n=>if n<10 then [UInt8.ofNat (48+n)] else zM k (n / 10) ++ [UInt8.ofNat (48+n % 10)]
def gg (n:Nat):Str:=120 :: zM 20 n
def kL (t:List Str):Nat->Nat->Str
 | 0,n=>gg n
 | k+1,n=>if t.contains (gg n) then kL t k (n+1) else gg n
def dq (t:List Str):Str:=kL t t.length 1
mutual
def e_ (f:Str->Option Tm):Tm->Tm
 | .mk v n a=>match (if v then f n else none) with | some u=>u | none=>.mk v n (pV f a)
def pV (f:Str->Option Tm):List Tm->List Tm | []=>[] | t :: l=>e_ f t :: pV f l
end
def jQ (x:Str) (u:Tm) (t:Tm):Tm:=e_ (fun n=>if n == x then some u else none) t
def dP (x:Str) (u:Tm) (l:List Tm):List Tm:=l.map (jQ x u)
/-! matching -/
abbrev Sco:=List (Str×Str)
def cP (c:Sco) (x:Str):Option Str:=go c []
 where go:Sco->List Str->Option Str
  | [],_=>some x
  | (s,a) :: r,inn=>if a == x then (if inn.contains s then none else some (cH s)) else go r (s :: inn)
mutual
def io (c:Sco) (ins:List Str):Tm->Option Tm
 | .mk v n a=>if v then (if ins.contains n then some (ap n) else (cP c n).map ap) else (dU c ins a).map (Tm.mk false n)
def dU (c:Sco) (ins:List Str):List Tm->Option (List Tm)
 | []=>some []
 | t :: l=>match io c ins t,dU c ins l with | some u,some m=>some (u :: m) | _,_=>none
end
mutual
def fD (c:Sco) (ins:List Str):Fm->Option Fm
 | .mk op n a s=>match dU c ins a,ek c (if bn op then n :: ins else ins) s with | some a',some s'=>some (.mk op n a' s') | _,_=>none
def ek (c:Sco) (ins:List Str):List Fm->Option (List Fm)
 | []=>some []
 | t :: l=>match fD c ins t,ek c ins l with | some u,some m=>some (u :: m) | _,_=>none
end
def lZ:Sco->Str->Str->Bool
 | [],x,y=>x == y
 | (s,a) :: r,x,y=>if s == x || a == y then s == x && a == y else lZ r x y
mutual
def eP (c:Sco):Tm->Tm->Bool
 | .mk v n a,.mk v' n' a'=>(v == v' && a.length == a'.length) && (if v && c.any (fun p=>p.1 == n || p.2 == n') then lZ c n n' else n == n' && bH c a a')
def bH (c:Sco):List Tm->List Tm->Bool
 | t :: l,u :: m=>eP c t u && bH c l m
 | _,_=>true
end
mutual
def bT (c:Sco):Fm->Fm->Bool
 | .mk op n a s,.mk op' n' a' s'=>(op == op' && (a.length == a'.length && s.length == s'.length)) && ((n == n' || bn op) && (bH c a a' && cb (if bn op then (n,n') :: c else c) s s'))
def cb (c:Sco):List Fm->List Fm->Bool
 | t :: l,u :: m=>bT c t u && cb c l m
 | _,_=>true
end
mutual
def BJ (x:Str):Tm->Nat | .mk v n a=>(if v && n == x then 1 else 0)+eW x a
def eW (x:Str):List Tm->Nat | []=>0 | t :: l=>BJ x t+eW x l
end
mutual
def gF (x:Str):Fm->Nat | .mk _ _ a s=>eW x a+iY x s
def iY (x:Str):List Fm->Nat | []=>0 | t :: l=>gF x t+iY x l
end
mutual
def mn (x:Str):Tm->Option (List Nat) | .mk v n a=>if v && n == x then some [] else dX x a 0
def dX (x:Str):List Tm->Nat->Option (List Nat)
 | [],_=>none
 | t :: l,i=>match mn x t with | some p=>some (i :: p) | none=>dX x l (i+1)
end
mutual
def ko (x:Str):Fm->Option (List Nat×List Nat)
 | .mk _ _ a s=>match dX x a 0 with | some p=>some ([],p) | none=>ld x s 0
def ld (x:Str):List Fm->Nat->Option (List Nat×List Nat)
 | [],_=>none
 | t :: l,i=>match ko x t with | some (p,q)=>some (i :: p,q) | none=>ld x l (i+1)
end
def le:List Tm->List Nat->Option Tm
 | _,[]=>none
 | l,[i]=>l[i]?
 | l,i :: j :: r=>match l[i]? with | some t=>le t.a (j :: r) | none=>none
def mo:Fm->List Nat->List Str->Option (Fm×List Str)
 | f,[],ins=>some (f,ins)
 | f,i :: r,ins=>match f.s[i]? with | some g=>mo g r (if bn f.op then f.n :: ins else ins) | none=>none
def iZ (f im:Fm) (x:Str):Option Tm:=match ko x f with
 | none=>none
 | some (p,q)=>match mo im p [] with
  | none=>none
  | some (g,ins)=>match le g.a q with
   | none=>none
   | some t=>if (aI t).any ins.contains then none else some t
def ep:Nat->Str->Tm->Fm->Fm
 | 0,_,_,f=>f
 | k+1,x,u,.mk op n a s=>
  if bn op then match s with
   | g :: _=>if n == x || !(aO [] g).contains x then .mk op n a s
    else if (aI u).contains n then
     .mk op (dq (aO [] g ++ aI u)) (dP x u a) [ep k x u (ep k n (ap (dq (aO [] g ++ aI u))) g)]
    else .mk op n (dP x u a) [ep k x u g]
   | []=>.mk op n a s
  else .mk op n (dP x u a) (s.map (ep k x u))
def gS (x:Str) (u:Tm) (f:Fm):Fm:=ep (depthF f) x u f
mutual
def aK:Tm->Tm | .mk v n a=>.mk v (if v && dy n then n.tail else n) (bI a)
def bI:List Tm->List Tm | []=>[] | t :: l=>aK t :: bI l
end
mutual
def bm:Fm->Fm | .mk op n a s=>.mk op n (bI a) (bJ s)
def bJ:List Fm->List Fm | []=>[] | t :: l=>bm t :: bJ l
end
structure Bd where
 fs:List (Str×Fm)
 ts:List (Str×Tm)
def dh:List Str->Bool
 | x :: y :: l=>Op.bytesLess x y && dh (y :: l)
 | _=>true
def bU (b:Bd):Bool:=(b.fs.all (fun x=>dp x.1 && bP (bm x.2)) && b.ts.all (fun x=>cG x.1 && iX false (aK x.2))) && (dh (b.fs.map (·.1)) && dh (b.ts.map (·.1)))
def getB {α:Type} (l:List (Str×α)) (x:Str):Option α:=match l with | []=>none | (y,v) :: r=>if y == x then some v else getB r x
def gw {α:Type} (x:Str) (v:α):List (Str×α)->List (Str×α)
 | []=>[(x,v)]
 | (y,u) :: r=>if Op.bytesLess x y then (x,v) :: (y,u) :: r else (y,u) :: gw x v r
mutual
def gT (sc:List Str) (k:List (Str×Tm)):Tm->Tm->Option (List (Str×Tm))
 | .mk v n a,.mk v' n' a'=>
  if v && ea n then match getB k n with
   | none=>some (gw n (.mk v' n' a') k)
   | some u=>if te u (.mk v' n' a') then some k else none
  else if v && sc.contains n then (if te (.mk v' n' a') (ap (cH n)) then some k else none)
  else if v != v' || (n != n' || a.length != a'.length) then none
  else dE sc k a a'
def dE (sc:List Str) (k:List (Str×Tm)):List Tm->List Tm->Option (List (Str×Tm))
 | t :: l,u :: m=>match gT sc k t u with | some k'=>dE sc k' l m | none=>none
 | _,_=>some k
end
def gd (c:Sco) (k:List (Str×Tm)):List Tm->List Tm->Option (List (Str×Tm))
 | t :: l,u :: m=>match io c [] u with
  | none=>none
  | some im=>match gT (c.map (·.1)) k t im with | some k'=>gd c k' l m | none=>none
 | _,_=>some k
structure Pl where
 s:Fm
 f:Fm
 c:Sco
mutual
def bE (c:Sco):Fm->Fm->List Pl
 | .mk o n a s,.mk o' n' a' s'=>⟨.mk o n a s,.mk o' n' a' s',c⟩ :: aT (if bn o then (n,n') :: c else c) s s'
def aT (c:Sco):List Fm->List Fm->List Pl
 | t :: l,u :: m=>bE c t u ++ aT c l m
 | _,_=>[]
end
def cm (k:Bd) (p:Pl):Bd×Int:=
 if p.s.op=16 then (k,0)
 else if p.s.op=15 then match fD p.c [] p.f with
  | none=>(k,70)
  | some im=>match getB k.fs p.s.n with
   | none=>({ k with fs:=gw p.s.n im k.fs },0)
   | some g=>if bT [] g im then (k,0) else (k,70)
 else if p.s.op != p.f.op || (p.s.a.length != p.f.a.length || (p.s.s.length != p.f.s.length || (p.s.n != p.f.n && !bn p.s.op))) then (k,70)
 else match gd p.c k.ts p.s.a p.f.a with
  | none=>(k,70)
  | some ts=>({ k with ts:=ts },0)
def bg (f:Fm):Str×Str:=match f.a with | x :: y :: _=>(cH x.n,y.n) | _=>([],[])
def gP (k:Bd) (p:Pl):Bd×Int:=
 if p.s.op != 16 then (k,0)
 else match getB k.fs p.s.n with
  | none=>(k,71)
  | some f=>match fD p.c [] p.f with
   | none=>(k,70)
   | some im=>
    if gF (bg p.s).1 f=0 then (if bT [] f im then (k,0) else (k,70))
    else match (match getB k.ts (bg p.s).2 with | some t=>some (t,k.ts) | none=>(iZ f im (bg p.s).1).map fun t=>(t,gw (bg p.s).2 t k.ts)) with
     | none=>(k,70)
     | some (t,ts)=>if nodesF f+gF (bg p.s).1 f * (nodesT t - 1) != nodesF im then ({ k with ts:=ts },70)
      else if bT [] (gS (bg p.s).1 t f) im then ({ k with ts:=ts },0) else ({ k with ts:=ts },70)
def j9 (step:Bd->Pl->Bd×Int):Bd->List Pl->Bd×Int
 | k,[]=>(k,0)
 | k,p :: l=>match step k p with | (k',e)=>if e=0 then j9 step k' l else (k',e)
def fw (step:Bd->Pl->Bd×Int):Nat->Bd->List (Fm×Fm)->Bd×Nat×Int
 | _,k,[]=>(k,0,0)
 | i,k,(s,f) :: l=>match j9 step k (bE [] s f) with | (k',e)=>if e=0 then fw step (i+1) k' l else (k',i,e)
def eZ:Nat->List (Fm×Fm)->Option Nat
 | _,[]=>none
 | i,(s,f) :: l=>if fC s && bP f then eZ (i+1) l else some i
def cJ (l:List (Fm×Fm)) (b:Bd):Bd×Nat×Int:=
 if !bU b then (⟨[],[]⟩,0,2)
 else match eZ 0 l with
  | some i=>(⟨[],[]⟩,i,2)
  | none=>match fw cm 0 b l with
   | (k,i,e)=>if e≠0 then (⟨[],[]⟩,i,e) else match fw gP 0 k l with
    | (k',i',e')=>if e'≠0 then (⟨[],[]⟩,i',e') else (k',0,0)
/-! filling -/
mutual
def ip (k:List (Str×Tm)):Tm->Bool
 | .mk v n a=>if v && ea n then (getB k n).isNone else lP k a
def lP (k:List (Str×Tm)):List Tm->Bool | []=>false | t :: l=>ip k t || lP k l
end
def gU (k:Bd) (s:Fm):Bool:=
 if s.op != 15 && s.op != 16 then lP k.ts s.a
 else match getB k.fs s.n with
  | none=>true
  | some f=>if s.op=15 then false else (getB k.ts (bg s).2).isNone && decide (gF (bg s).1 f > 0)
def termOf (k:List (Str×Tm)) (n:Str):Tm:=match getB k n with | some t=>t | none=>.mk false [] []
def formOf (k:List (Str×Fm)) (n:Str):Fm:=match getB k n with | some t=>t | none=>.mk 0 [] [] []
mutual
def jy (k:List (Str×Tm)):Tm->List Str
 | .mk v n a=>if v && ea n then (de (aI (termOf k n))).filter dy else dm k a
def dm (k:List (Str×Tm)):List Tm->List Str | []=>[] | t :: l=>jy k t ++ dm k l
end
def om (k:Bd) (s:Fm):List Str:=
 if s.op=15 then (de (aO [] (formOf k.fs s.n))).filter dy
 else if s.op=16 then
  let l:=(de (aO [] (formOf k.fs s.n))).filter dy
  if !l.contains (bg s).1 then l else l.filter (fun x=>x != (bg s).1) ++ (de (aI (termOf k.ts (bg s).2))).filter dy
 else dm k.ts s.a
def AE (k:Bd) (p:Pl):Bool:=(om k p.s).any fun x=>!(p.c.map (·.1)).contains x.tail
mutual
def oo (k:List (Str×Tm)):Tm->Nat
 | .mk v n a=>if v && ea n then nodesT (termOf k n) else dC k a+1
def dC (k:List (Str×Tm)):List Tm->Nat | []=>0 | t :: l=>oo k t+dC k l
end
def kr (k:Bd) (s:Fm):Nat:=
 if s.op=15 then nodesF (formOf k.fs s.n)
 else if s.op=16 then nodesF (formOf k.fs s.n)+gF (bg s).1 (formOf k.fs s.n) * (nodesT (termOf k.ts (bg s).2) - 1)
 else dC k.ts s.a+1
def oq (k:Bd) (s:Fm):Int:=
 if (bE [] s s).any (fun p=>gU k p.s) then 6
 else if (bE [] s s).any (AE k) then 72
 else if ((bE [] s s).map fun p=>kr k p.s).sum > 400 then 3 else 0
mutual
def cC (k:List (Str×Tm)) (c:List Str):Tm->Tm
 | .mk v n a=>if v && ea n then termOf k n else if v && c.contains n then ap (cH n) else .mk v n (eQ k c a)
def eQ (k:List (Str×Tm)) (c:List Str):List Tm->List Tm | []=>[] | t :: l=>cC k c t :: eQ k c l
end
def mQ (op:Int) (n:Str) (a:List Tm) (g:Fm):Fm:=
 let m:=if (aO [] g).contains n then dq (aO [] g) else n
 .mk op m a [gS (cH n) (ap m) g]
mutual
def cz (k:Bd) (c:List Str):Fm->Fm
 | .mk op n a s=>
  if op=15 then formOf k.fs n
  else if op=16 then (match a with
   | x :: y :: _=>if gF (cH x.n) (formOf k.fs n)=0 then formOf k.fs n else gS (cH x.n) (termOf k.ts y.n) (formOf k.fs n)
   | _=>.mk op n a s)
  else if bn op then (match eR k (n :: c) s with | g :: _=>mQ op n (eQ k.ts c a) g | []=>.mk op n a s)
  else .mk op n (eQ k.ts c a) (eR k c s)
def eR (k:Bd) (c:List Str):List Fm->List Fm | []=>[] | t :: l=>cz k c t :: eR k c l
end
def i8:Fm:=.mk 0 [] [] []
def ux (s:Fm) (b:Bd):Fm×Int:=
 if !(fC s && bU b) then (i8,2)
 else if oq b s≠0 then (i8,oq b s)
 else if !bP (cz b [] s) then (i8,3) else (cz b [] s,0)
def Cells3 (W:World) (b o:Nat) (v:Value):Prop:=∃x0 x1 x2,v=.agg #[x0,x1,x2]/\W.cell? ⟨b,o,none⟩=some x0/\W.cell? ⟨b,o+1,none⟩=some x1/\W.cell? ⟨b,o+2,none⟩=some x2
def Cells4 (W:World) (b o:Nat) (v:Value):Prop:=∃x0 x1 x2 x3,v=.agg #[x0,x1,x2,x3]/\W.cell? ⟨b,o,none⟩=some x0/\W.cell? ⟨b,o+1,none⟩=some x1/\W.cell? ⟨b,o+2,none⟩=some x2/\W.cell? ⟨b,o+3,none⟩=some x3
theorem Cells3.kept {W W':World} {b o:Nat} {v:Value} (h:Cells3 W b o v) (hb:W'.heap[b]?=W.heap[b]?):Cells3 W' b o v:=by
 obtain ⟨x0,x1,x2,rfl,h0,h1,h2⟩:=h
 exact ⟨x0,x1,x2,rfl,(World.cell?_of_block (a:=⟨b,o,none⟩) hb).trans h0,(World.cell?_of_block (a:=⟨b,o+1,none⟩) hb).trans h1,(World.cell?_of_block (a:=⟨b,o+2,none⟩) hb).trans h2⟩
theorem Cells4.kept {W W':World} {b o:Nat} {v:Value} (h:Cells4 W b o v) (hb:W'.heap[b]?=W.heap[b]?):Cells4 W' b o v:=by
 obtain ⟨x0,x1,x2,x3,rfl,h0,h1,h2,h3⟩:=h
 exact ⟨x0,x1,x2,x3,rfl,(World.cell?_of_block (a:=⟨b,o,none⟩) hb).trans h0,(World.cell?_of_block (a:=⟨b,o+1,none⟩) hb).trans h1,(World.cell?_of_block (a:=⟨b,o+2,none⟩) hb).trans h2,(World.cell?_of_block (a:=⟨b,o+3,none⟩) hb).trans h3⟩
inductive TermV (ok:Nat->Prop) (W:World):Value->Tm->Prop
 | mk (v:Bool) (n:Str) (al:List Tm) (a:Option Addr) (cap:Nat) (vs:Nat->Value)
   (hs:al=[]\/∃b off,a=some ⟨b,off,none⟩/\ok b/\∀ j,j<al.length->Cells3 W b (off+j * 3) (vs j))
   (h:∀ j (hj:j<al.length),TermV ok W (vs j) al[j]):TermV ok W (.agg #[.bool v,.string ⟨n.toArray⟩,.slice a al.length cap]) (.mk v n al)
def TermsV (ok:Nat->Prop) (W:World) (v:Value) (l:List Tm):Prop:=∃(a:Option Addr) (cap:Nat) (vs:Nat->Value),v=.slice a l.length cap/\(l=[]\/∃b off,a=some ⟨b,off,none⟩/\ok b/\∀ j,j<l.length->Cells3 W b (off+j * 3) (vs j))/\∀ j (hj:j<l.length),TermV ok W (vs j) l[j]
theorem aP {ok:Nat->Prop} {W:World} {x:Value} {v:Bool} {n:Str} {al:List Tm}:TermV ok W x (.mk v n al) ↔ ∃s,x=.agg #[.bool v,.string ⟨n.toArray⟩,s]/\TermsV ok W s al:=by
 constructor
 ·intro h
  cases h with
  | mk _ _ _ a cap vs hs h=>exact ⟨_,rfl,a,cap,vs,rfl,hs,h⟩
 ·rintro ⟨s,rfl,a,cap,vs,rfl,hs,h⟩
  exact .mk v n al a cap vs hs h
inductive FormV (ok:Nat->Prop) (W:World):Value->Fm->Prop
 | mk (op:Int) (n:Str) (al:List Tm) (ss:List Fm) (va:Value) (a:Option Addr) (cap:Nat) (vs:Nat->Value) (ha:TermsV ok W va al)
   (hs:ss=[]\/∃b off,a=some ⟨b,off,none⟩/\ok b/\∀ j,j<ss.length->Cells4 W b (off+j * 4) (vs j))
   (h:∀ j (hj:j<ss.length),FormV ok W (vs j) ss[j]):FormV ok W (.agg #[.int .u8 op,.string ⟨n.toArray⟩,va,.slice a ss.length cap]) (.mk op n al ss)
def FormsV (ok:Nat->Prop) (W:World) (v:Value) (l:List Fm):Prop:=∃(a:Option Addr) (cap:Nat) (vs:Nat->Value),v=.slice a l.length cap/\(l=[]\/∃b off,a=some ⟨b,off,none⟩/\ok b/\∀ j,j<l.length->Cells4 W b (off+j * 4) (vs j))/\∀ j (hj:j<l.length),FormV ok W (vs j) l[j]
theorem aQ {ok:Nat->Prop} {W:World} {x:Value} {op:Int} {n:Str} {al:List Tm} {ss:List Fm}:FormV ok W x (.mk op n al ss) ↔ ∃va s,x=.agg #[.int .u8 op,.string ⟨n.toArray⟩,va,s]/\TermsV ok W va al/\FormsV ok W s ss:=by
 constructor
 ·intro h
  cases h with
  | mk _ _ _ _ va a cap vs ha hs h=>exact ⟨va,_,rfl,ha,a,cap,vs,rfl,hs,h⟩
 ·rintro ⟨va,s,rfl,ha,a,cap,vs,rfl,hs,h⟩
  exact .mk op n al ss va a cap vs ha hs h
def el (ok ok':Nat->Prop) (W W':World):Prop:=∀ b,ok b->b<W.heap.size->ok' b/\W'.heap[b]?=W.heap[b]?
theorem AF {W:World} {b o:Nat} {v:Value} (h:Cells3 W b o v):b<W.heap.size:=by
 obtain ⟨_,_,_,_,h0,_⟩:=h
 exact World.block_lt_of_cell? W _ h0
theorem AG {W:World} {b o:Nat} {v:Value} (h:Cells4 W b o v):b<W.heap.size:=by
 obtain ⟨_,_,_,_,_,h0,_⟩:=h
 exact World.block_lt_of_cell? W _ h0
theorem TermV.move {ok ok':Nat->Prop} {W W':World} (hb:el ok ok' W W') {v:Value} {t:Tm} (h:TermV ok W v t):TermV ok' W' v t:=by
 induction h with
 | mk v n al a cap vs hs _ ih=>
  refine .mk v n al a cap vs ?_ ih
  have pp306a:=();exact pm306
theorem TermsV.move {ok ok':Nat->Prop} {W W':World} (hb:el ok ok' W W') {v:Value} {l:List Tm} (h:TermsV ok W v l):TermsV ok' W' v l:=by
 have pp241:=();exact pm241
theorem FormV.move {ok ok':Nat->Prop} {W W':World} (hb:el ok ok' W W') {v:Value} {t:Fm} (h:FormV ok W v t):FormV ok' W' v t:=by
 induction h with
 | mk op n al ss va a cap vs ha hs _ ih=>
  refine .mk op n al ss va a cap vs (ha.move hb) ?_ ih
  have pp306b:=();exact pm306
theorem FormsV.move {ok ok':Nat->Prop} {W W':World} (hb:el ok ok' W W') {v:Value} {l:List Fm} (h:FormsV ok W v l):FormsV ok' W' v l:=by
 exact pm241
theorem cU {ok:Nat->Prop} {W W':World} (hb:Below W.heap.size W W'):el ok ok W W':=fun b h hlt=>⟨h,hb.block b hlt⟩
theorem tf {ok:Nat->Prop} {W W':World} (hb:Below W.heap.size W W'):el ok (fun _=>True) W W':=fun b _ hlt=>⟨trivial,hb.block b hlt⟩
theorem TermV.later {ok:Nat->Prop} {W W':World} {v:Value} {t:Tm} (h:TermV ok W v t) (hb:Below W.heap.size W W'):TermV ok W' v t:=h.move (cU hb)
theorem TermsV.later {ok:Nat->Prop} {W W':World} {v:Value} {t:List Tm} (h:TermsV ok W v t) (hb:Below W.heap.size W W'):TermsV ok W' v t:=h.move (cU hb)
theorem FormV.later {ok:Nat->Prop} {W W':World} {v:Value} {t:Fm} (h:FormV ok W v t) (hb:Below W.heap.size W W'):FormV ok W' v t:=h.move (cU hb)
theorem FormsV.later {ok:Nat->Prop} {W W':World} {v:Value} {t:List Fm} (h:FormsV ok W v t) (hb:Below W.heap.size W W'):FormsV ok W' v t:=h.move (cU hb)
theorem TermV.any {ok:Nat->Prop} {W:World} {v:Value} {t:Tm} (h:TermV ok W v t):TermV (fun _=>True) W v t:=h.move (fun _ _ _=>⟨trivial,rfl⟩)
theorem TermsV.any {ok:Nat->Prop} {W:World} {v:Value} {t:List Tm} (h:TermsV ok W v t):TermsV (fun _=>True) W v t:=h.move (fun _ _ _=>⟨trivial,rfl⟩)
theorem FormV.any {ok:Nat->Prop} {W:World} {v:Value} {t:Fm} (h:FormV ok W v t):FormV (fun _=>True) W v t:=h.move (fun _ _ _=>⟨trivial,rfl⟩)
theorem FormsV.any {ok:Nat->Prop} {W:World} {v:Value} {t:List Fm} (h:FormsV ok W v t):FormsV (fun _=>True) W v t:=h.move (fun _ _ _=>⟨trivial,rfl⟩)
theorem bV {ok:Nat->Prop} {W:World} {a:Option Addr} {cap:Nat}:TermsV ok W (.slice a 0 cap) []:=⟨a,cap,fun _=>.bool false,rfl,.inl rfl,fun j hj=>by simp at hj⟩
theorem jz {ok:Nat->Prop} {W:World} {a:Option Addr} {cap:Nat}:FormsV ok W (.slice a 0 cap) []:=⟨a,cap,fun _=>.bool false,rfl,.inl rfl,fun j hj=>by simp at hj⟩
structure TQ where
 v:Bool
 n:ByteArray
 a:Option Addr
 l:Nat
 c:Nat
def TQ.val (q:TQ):Value:=.agg #[.bool q.v,.string q.n,.slice q.a q.l q.c]
structure FQ where
 o:Int
 n:ByteArray
 a:Option Addr
 l:Nat
 c:Nat
 b:Option Addr
 m:Nat
 e:Nat
def FQ.val (q:FQ):Value:=.agg #[.int .u8 q.o,.string q.n,.slice q.a q.l q.c,.slice q.b q.m q.e]
theorem TermV.form {ok:Nat->Prop} {W:World} {x:Value} {t:Tm} (h:TermV ok W x t):∃q:TQ,x=q.val/\q.v=t.v/\q.n=⟨t.n.toArray⟩/\q.l=t.a.length/\TermsV ok W (.slice q.a q.l q.c) t.a:=by
 cases h with
 | mk v n al a cap vs hs h=>exact ⟨⟨v,_,a,al.length,cap⟩,rfl,rfl,rfl,rfl,a,cap,vs,rfl,hs,h⟩
theorem FormV.form {ok:Nat->Prop} {W:World} {x:Value} {t:Fm} (h:FormV ok W x t):∃q:FQ,x=q.val/\q.o=t.op/\q.n=⟨t.n.toArray⟩/\q.l=t.a.length/\q.m=t.s.length/\TermsV ok W (.slice q.a q.l q.c) t.a/\FormsV ok W (.slice q.b q.m q.e) t.s:=by
 cases h with
 | mk op n al ss va a cap vs ha hs h=>
  obtain ⟨a',We,vs',rfl,Wf,h'⟩:=ha
  exact ⟨⟨op,_,a',al.length,We,a,ss.length,cap⟩,rfl,rfl,rfl,rfl,rfl,⟨a',We,vs',rfl,Wf,h'⟩,a,cap,vs,rfl,hs,h⟩
theorem TermsV.get {ok:Nat->Prop} {W:World} {a:Option Addr} {n c:Nat} {l:List Tm} (h:TermsV ok W (.slice a n c) l) {j:Nat} (hj:j<l.length) :
  ∃b off q,a=some ⟨b,off,none⟩/\ok b/\TermV ok W (TQ.val q) l[j]/\W.cell? ⟨b,off+j * 3,none⟩=some (.bool q.v)/\W.cell? ⟨b,off+j * 3+1,none⟩=some (.string q.n)/\W.cell? ⟨b,off+j * 3+2,none⟩=some (.slice q.a q.l q.c):=by
 obtain ⟨a',cap,vs,hv,hs,ht⟩:=h
 have pp138a:=();exact pm138
theorem FormsV.get {ok:Nat->Prop} {W:World} {a:Option Addr} {n c:Nat} {l:List Fm} (h:FormsV ok W (.slice a n c) l) {j:Nat} (hj:j<l.length) :
  ∃b off q,a=some ⟨b,off,none⟩/\ok b/\FormV ok W (FQ.val q) l[j]/\W.cell? ⟨b,off+j * 4,none⟩=some (.int .u8 q.o)/\W.cell? ⟨b,off+j * 4+1,none⟩=some (.string q.n)/\W.cell? ⟨b,off+j * 4+2,none⟩=some (.slice q.a q.l q.c)/\W.cell? ⟨b,off+j * 4+3,none⟩=some (.slice q.b q.m q.e):=by
 obtain ⟨a',cap,vs,hv,hs,ht⟩:=h
 have pp138b:=();exact pm138
theorem TermsV.len {ok:Nat->Prop} {W:World} {a:Option Addr} {n c:Nat} {l:List Tm} (h:TermsV ok W (.slice a n c) l):n=l.length:=by
 obtain ⟨_,_,_,hv,_⟩:=h
 injection hv
theorem FormsV.len {ok:Nat->Prop} {W:World} {a:Option Addr} {n c:Nat} {l:List Fm} (h:FormsV ok W (.slice a n c) l):n=l.length:=by
 obtain ⟨_,_,_,hv,_⟩:=h
 injection hv
theorem TermsV.slice {ok:Nat->Prop} {W:World} {v:Value} {l:List Tm} (h:TermsV ok W v l):∃a c,v=.slice a l.length c:=by obtain ⟨a,c,_,hv,_⟩:=h;exact ⟨a,c,hv⟩
theorem FormsV.slice {ok:Nat->Prop} {W:World} {v:Value} {l:List Fm} (h:FormsV ok W v l):∃a c,v=.slice a l.length c:=by obtain ⟨a,c,_,hv,_⟩:=h;exact ⟨a,c,hv⟩
def FBindsV (ok:Nat->Prop) (W:World) (v:Value) (l:List (Str×Fm)):Prop:=∃(a:Option Addr) (cap:Nat) (qs:Nat->FQ),v=.slice a l.length cap/\l.length<=cap ∧
 (l=[]\/∃b off,a=some ⟨b,off,none⟩/\ok b/\∀ j (h:j<l.length),W.cell? ⟨b,off+j * 5,none⟩=some (.string ⟨l[j].1.toArray⟩)/\W.cell? ⟨b,off+j * 5+1,none⟩=some (.int .u8 (qs j).o)/\W.cell? ⟨b,off+j * 5+2,none⟩=some (.string (qs j).n)/\W.cell? ⟨b,off+j * 5+3,none⟩=some (.slice (qs j).a (qs j).l (qs j).c)/\W.cell? ⟨b,off+j * 5+4,none⟩=some (.slice (qs j).b (qs j).m (qs j).e)) ∧
 ∀ j (h:j<l.length),FormV ok W (qs j).val l[j].2
def TBindsV (ok:Nat->Prop) (W:World) (v:Value) (l:List (Str×Tm)):Prop:=∃(a:Option Addr) (cap:Nat) (qs:Nat->TQ),v=.slice a l.length cap/\l.length<=cap ∧
 (l=[]\/∃b off,a=some ⟨b,off,none⟩/\ok b/\∀ j (h:j<l.length),W.cell? ⟨b,off+j * 4,none⟩=some (.string ⟨l[j].1.toArray⟩)/\W.cell? ⟨b,off+j * 4+1,none⟩=some (.bool (qs j).v)/\W.cell? ⟨b,off+j * 4+2,none⟩=some (.string (qs j).n)/\W.cell? ⟨b,off+j * 4+3,none⟩=some (.slice (qs j).a (qs j).l (qs j).c)) ∧
 ∀ j (h:j<l.length),TermV ok W (qs j).val l[j].2
def SPairsV (ok:Nat->Prop) (W:World) (v:Value) (l:List (Fm×Fm)):Prop:=∃(a:Option Addr) (cap:Nat) (ps qs:Nat->FQ),v=.slice a l.length cap/\l.length<=cap ∧
 (l=[]\/∃b off,a=some ⟨b,off,none⟩/\ok b/\∀ j (h:j<l.length),W.cell? ⟨b,off+j * 8,none⟩=some (.int .u8 (ps j).o)/\W.cell? ⟨b,off+j * 8+1,none⟩=some (.string (ps j).n)/\W.cell? ⟨b,off+j * 8+2,none⟩=some (.slice (ps j).a (ps j).l (ps j).c)/\W.cell? ⟨b,off+j * 8+3,none⟩=some (.slice (ps j).b (ps j).m (ps j).e) ∧
   W.cell? ⟨b,off+j * 8+4,none⟩=some (.int .u8 (qs j).o)/\W.cell? ⟨b,off+j * 8+5,none⟩=some (.string (qs j).n)/\W.cell? ⟨b,off+j * 8+6,none⟩=some (.slice (qs j).a (qs j).l (qs j).c)/\W.cell? ⟨b,off+j * 8+7,none⟩=some (.slice (qs j).b (qs j).m (qs j).e)) ∧
 ∀ j (h:j<l.length),FormV ok W (ps j).val l[j].1/\FormV ok W (qs j).val l[j].2
structure BQ where
 a:Option Addr
 l:Nat
 c:Nat
 b:Option Addr
 m:Nat
 e:Nat
def BQ.val (q:BQ):Value:=.agg #[.slice q.a q.l q.c,.slice q.b q.m q.e]
def BindV (ok:Nat->Prop) (W:World) (q:BQ) (b:Bd):Prop:=FBindsV ok W (.slice q.a q.l q.c) b.fs/\TBindsV ok W (.slice q.b q.m q.e) b.ts
theorem cI {W W':World} {b o:Nat} {v:Value} (hb:W'.heap[b]?=W.heap[b]?) (h:W.cell? ⟨b,o,none⟩=some v):W'.cell? ⟨b,o,none⟩=some v:=(World.cell?_of_block (a:=⟨b,o,none⟩) hb).trans h
theorem FBindsV.move {ok ok':Nat->Prop} {W W':World} (hb:el ok ok' W W') {v:Value} {l:List (Str×Fm)} (h:FBindsV ok W v l):FBindsV ok' W' v l:=by
 have pp226:=();exact pm226
theorem TBindsV.move {ok ok':Nat->Prop} {W W':World} (hb:el ok ok' W W') {v:Value} {l:List (Str×Tm)} (h:TBindsV ok W v l):TBindsV ok' W' v l:=by
 exact pm226
theorem SPairsV.move {ok ok':Nat->Prop} {W W':World} (hb:el ok ok' W W') {v:Value} {l:List (Fm×Fm)} (h:SPairsV ok W v l):SPairsV ok' W' v l:=by
 obtain ⟨a,cap,ps,qs,hv,hc,hs,hf⟩:=h
 refine ⟨a,cap,ps,qs,hv,hc,?_,fun j hj=>⟨(hf j hj).1.move hb,(hf j hj).2.move hb⟩⟩
 rcases hs with hs | ⟨b,off,ha,hok,hcl⟩
 ·exact .inl hs
 ·by_cases h0:l=[]
  ·exact .inl h0
  ·have hk:=hb b hok (World.block_lt_of_cell? W _ (hcl 0 (List.length_pos_iff.2 h0)).1)
   refine .inr ⟨b,off,ha,hk.1,fun j hj=>?_⟩
   obtain ⟨h0,h1,h2,h3,h4,h5,h6,h7⟩:=hcl j hj
   exact ⟨cI hk.2 h0,cI hk.2 h1,cI hk.2 h2,cI hk.2 h3,cI hk.2 h4,cI hk.2 h5,cI hk.2 h6,cI hk.2 h7⟩
theorem BindV.move {ok ok':Nat->Prop} {W W':World} (hb:el ok ok' W W') {q:BQ} {b:Bd} (h:BindV ok W q b):BindV ok' W' q b:=⟨h.1.move hb,h.2.move hb⟩
theorem FBindsV.later {ok:Nat->Prop} {W W':World} {v:Value} {l:List (Str×Fm)} (h:FBindsV ok W v l) (hb:Below W.heap.size W W'):FBindsV ok W' v l:=h.move (cU hb)
theorem TBindsV.later {ok:Nat->Prop} {W W':World} {v:Value} {l:List (Str×Tm)} (h:TBindsV ok W v l) (hb:Below W.heap.size W W'):TBindsV ok W' v l:=h.move (cU hb)
theorem SPairsV.later {ok:Nat->Prop} {W W':World} {v:Value} {l:List (Fm×Fm)} (h:SPairsV ok W v l) (hb:Below W.heap.size W W'):SPairsV ok W' v l:=h.move (cU hb)
theorem BindV.later {ok:Nat->Prop} {W W':World} {q:BQ} {b:Bd} (h:BindV ok W q b) (hb:Below W.heap.size W W'):BindV ok W' q b:=h.move (cU hb)
theorem FBindsV.len {ok:Nat->Prop} {W:World} {a:Option Addr} {n c:Nat} {l:List (Str×Fm)} (h:FBindsV ok W (.slice a n c) l):n=l.length:=by
 obtain ⟨_,_,_,hv,_⟩:=h
 injection hv
theorem TBindsV.len {ok:Nat->Prop} {W:World} {a:Option Addr} {n c:Nat} {l:List (Str×Tm)} (h:TBindsV ok W (.slice a n c) l):n=l.length:=by
 obtain ⟨_,_,_,hv,_⟩:=h
 injection hv
theorem SPairsV.len {ok:Nat->Prop} {W:World} {a:Option Addr} {n c:Nat} {l:List (Fm×Fm)} (h:SPairsV ok W (.slice a n c) l):n=l.length:=by
 obtain ⟨_,_,_,_,hv,_⟩:=h
 injection hv
theorem FBindsV.slice {ok:Nat->Prop} {W:World} {v:Value} {l:List (Str×Fm)} (h:FBindsV ok W v l):∃a c,v=.slice a l.length c:=by obtain ⟨a,c,_,hv,_⟩:=h;exact ⟨a,c,hv⟩
theorem TBindsV.slice {ok:Nat->Prop} {W:World} {v:Value} {l:List (Str×Tm)} (h:TBindsV ok W v l):∃a c,v=.slice a l.length c:=by obtain ⟨a,c,_,hv,_⟩:=h;exact ⟨a,c,hv⟩
theorem SPairsV.slice {ok:Nat->Prop} {W:World} {v:Value} {l:List (Fm×Fm)} (h:SPairsV ok W v l):∃a c,v=.slice a l.length c:=by obtain ⟨a,c,_,_,hv,_⟩:=h;exact ⟨a,c,hv⟩
theorem FBindsV.get {ok:Nat->Prop} {W:World} {a:Option Addr} {n c:Nat} {l:List (Str×Fm)} (h:FBindsV ok W (.slice a n c) l) {j:Nat} (hj:j<l.length) :
  ∃b off,∃q:FQ,a=some ⟨b,off,none⟩/\ok b/\FormV ok W q.val l[j].2/\W.cell? ⟨b,off+j * 5,none⟩=some (.string ⟨l[j].1.toArray⟩)/\W.cell? ⟨b,off+j * 5+1,none⟩=some (.int .u8 q.o)/\W.cell? ⟨b,off+j * 5+2,none⟩=some (.string q.n)/\W.cell? ⟨b,off+j * 5+3,none⟩=some (.slice q.a q.l q.c)/\W.cell? ⟨b,off+j * 5+4,none⟩=some (.slice q.b q.m q.e):=by
 obtain ⟨a',cap,qs,hv,_,hs,hf⟩:=h
 have pp138c:=();exact pm138
theorem TBindsV.get {ok:Nat->Prop} {W:World} {a:Option Addr} {n c:Nat} {l:List (Str×Tm)} (h:TBindsV ok W (.slice a n c) l) {j:Nat} (hj:j<l.length) :
  ∃b off,∃q:TQ,a=some ⟨b,off,none⟩/\ok b/\TermV ok W q.val l[j].2/\W.cell? ⟨b,off+j * 4,none⟩=some (.string ⟨l[j].1.toArray⟩)/\W.cell? ⟨b,off+j * 4+1,none⟩=some (.bool q.v)/\W.cell? ⟨b,off+j * 4+2,none⟩=some (.string q.n)/\W.cell? ⟨b,off+j * 4+3,none⟩=some (.slice q.a q.l q.c):=by
 obtain ⟨a',cap,qs,hv,_,hs,hf⟩:=h
 have pp138c:=();exact pm138
theorem SPairsV.get {ok:Nat->Prop} {W:World} {a:Option Addr} {n c:Nat} {l:List (Fm×Fm)} (h:SPairsV ok W (.slice a n c) l) {j:Nat} (hj:j<l.length) :
  ∃b off,∃p q:FQ,a=some ⟨b,off,none⟩/\ok b/\FormV ok W p.val l[j].1/\FormV ok W q.val l[j].2/\W.cell? ⟨b,off+j * 8,none⟩=some (.int .u8 p.o)/\W.cell? ⟨b,off+j * 8+1,none⟩=some (.string p.n)/\W.cell? ⟨b,off+j * 8+2,none⟩=some (.slice p.a p.l p.c)/\W.cell? ⟨b,off+j * 8+3,none⟩=some (.slice p.b p.m p.e) ∧
   W.cell? ⟨b,off+j * 8+4,none⟩=some (.int .u8 q.o)/\W.cell? ⟨b,off+j * 8+5,none⟩=some (.string q.n)/\W.cell? ⟨b,off+j * 8+6,none⟩=some (.slice q.a q.l q.c)/\W.cell? ⟨b,off+j * 8+7,none⟩=some (.slice q.b q.m q.e):=by
 obtain ⟨a',cap,ps,qs,hv,_,hs,hf⟩:=h
 exact pm138
end Go.Proofs.YtokemihbkeddoaaGreatDoor
