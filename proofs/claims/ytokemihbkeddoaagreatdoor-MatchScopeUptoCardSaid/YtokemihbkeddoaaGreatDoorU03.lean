/-
Contracts of the names of package syntax: 'Variable','Function','Predicate','Meta',and what they call.
Contracts of 'HasPrefix' at "?",'isPlaceholder','formMeta','termMeta','Meta' (of syntax and of match),'quantifier','placeholder','variable'.
A loop that fills a field of a box of the call's own by append: what it keeps;append in a fence.
-/
import Derived.Test.YtokemihbkeddoaaGreatDoorU00
import Derived.Test.YtokemihbkeddoaaGreatDoorU02
import Derived.WalkKit
import Derived.WalkLawsBesides
import Derived.WalkSpells
import Derived.Lib.Hide
import Derived.BigQuiet
import Derived.Deep.QuietTactic
import Derived.LoopIn
namespace Go.Proofs.YtokemihbkeddoaaGreatDoor
open Go Go.RowKit Lib
set_option maxRecDepth 100000
set_option maxHeartbeats 64000000
theorem aA {a b:Bool} (h:a=b):Ending.returned (.bool a)=.returned (.bool b):=by rw[h]
theorem ph {k:IntKind} {a b:Int} (h:a=b):Ending.returned (.int k a)=.returned (.int k b):=by rw[h]
theorem O1 {a b:ByteArray} (h:a=b):Ending.returned (.string a)=.returned (.string b):=by rw[h]
theorem eS {P:Program} {f:FuncId} {args:Array Value} {w:World} {n:Nat} {v:Value}
  (h:Calls P f args (w.drewN n) fun e w'=>e=.returned v/\w.drewN n=w'):Calls P f args (w.drewN n) fun e LC=>e=.returned v/\∃m,LC=w.drewN m:=
 h.mono fun _ _ ⟨he,hm⟩=>⟨he,n,hm.symm⟩
theorem AH {w wr:World} (h:∃n,wr=w.drewN n) (m:Nat):∃n,wr.drewN m=w.drewN n:=by
 obtain ⟨n,rfl⟩:=h;exact ⟨_,by rw[World.drewN_drewN]⟩
theorem i9 (s:ByteArray):s.data.toList.length=s.size:=by simp
theorem wP (s:ByteArray):s.data.toList.take s.size=s.data.toList:=List.take_of_length_le (by simp)
theorem gi (n:Str):(⟨n.toArray⟩:ByteArray).size=n.length:=by simp[ByteArray.size]
theorem BM (n:Str):(⟨n.toArray⟩:ByteArray).data.toList=n:=by simp
theorem ow {w w':World} (h:∃n,w'=w.drewN n):Below w.heap.size w w':=by obtain ⟨n,rfl⟩:=h;exact ⟨rfl,rfl,rfl,Nat.le_refl _,fun _ _=>rfl⟩
def Q6 (c:Int):Bool:=decide (97<=c/\c<=116)
def DV (c:Int):Bool:=decide (117<=c/\c<=122)
def tg (c:Int):Bool:=decide (97<=c/\c<=122)
def BN (c:Int):Bool:=decide (65<=c/\c<=90)
def zQ (c:Int):Bool:=decide (48<=c/\c<=57)
def j_ (c:Int):Bool:=tg c || BN c || zQ c
theorem Iy (c:Int) (w:World) :
  Calls Tryz.prog 190 #[.int .u8 c] w fun e w'=>e=.returned (.bool (Q6 c))/\w=w':=by
 by_cases h1:97<=c <;> by_cases h2:c<=116
 all_goals
  have hs:Q6 c=(decide (97<=c) && decide (c<=116)):=by simp[Q6]
  rw[hs];clear hs
  go_enter Tryz.func190,Tryz.ntmps190
  go_wp2
  go_ret
  simp[h1,h2]
theorem DW (c:Int) (w:World) :
  Calls Tryz.prog 216 #[.int .u8 c] w fun e w'=>e=.returned (.bool (DV c))/\w=w':=by
 by_cases h1:117<=c <;> by_cases h2:c<=122
 all_goals
  have hs:DV c=(decide (117<=c) && decide (c<=122)):=by simp[DV]
  rw[hs];clear hs
  go_enter Tryz.func216,Tryz.ntmps216
  go_wp2
  go_ret
  simp[h1,h2]
theorem Gg (c:Int) (w:World) :
  Calls Tryz.prog 241 #[.int .u8 c] w fun e w'=>e=.returned (.bool (tg c))/\w=w':=by
 by_cases h1:97<=c <;> by_cases h2:c<=122
 all_goals
  have hs:tg c=(decide (97<=c) && decide (c<=122)):=by simp[tg]
  rw[hs];clear hs
  go_enter Tryz.func241,Tryz.ntmps241
  go_wp2
  go_ret
  simp[h1,h2]
theorem wQ (c:Int) (w:World) :
  Calls Tryz.prog 188 #[.int .u8 c] w fun e w'=>e=.returned (.bool (BN c))/\w=w':=by
 by_cases h1:65<=c <;> by_cases h2:c<=90
 all_goals
  have hs:BN c=(decide (65<=c) && decide (c<=90)):=by simp[BN]
  rw[hs];clear hs
  go_enter Tryz.func188,Tryz.ntmps188
  go_wp2
  go_ret
  simp[h1,h2]
theorem wR (c:Int) (w:World) :
  Calls Tryz.prog 217 #[.int .u8 c] w fun e w'=>e=.returned (.bool (zQ c))/\w=w':=by
 by_cases h1:48<=c <;> by_cases h2:c<=57
 all_goals
  have hs:zQ c=(decide (48<=c) && decide (c<=57)):=by simp[zQ]
  rw[hs];clear hs
  go_enter Tryz.func217,Tryz.ntmps217
  go_wp2
  go_ret
  simp[h1,h2]
theorem mS (c:Int) (w:World) :
  Calls Tryz.prog 189 #[.int .u8 c] w fun e w'=>e=.returned (.bool (j_ c))/\w=w':=by
 unfold j_
 go_enter Tryz.func189,Tryz.ntmps189
 go_wp2_with (first
  | (go_at_call 241;refine (Gg _ _).mono ?_;rintro e w' ⟨rfl,rfl⟩)
  | (go_at_call 188;refine (wQ _ _).mono ?_;rintro e w' ⟨rfl,rfl⟩)
  | (go_at_call 217;refine (wR _ _).mono ?_;rintro e w' ⟨rfl,rfl⟩))
 all_goals (go_ret;simp_all)
def gG (l:List UInt8):Bool:=Sv.contains l
theorem dY (s:ByteArray) (w:World) :
  Calls Tryz.prog 240 #[.string s] w fun e w'=>e=.returned (.bool (gG s.data.toList))/\w=w':=by
 go_enter Tryz.func240,Tryz.ntmps240
 go_wp2
 all_goals
  go_ret
  refine ⟨aA ?_,rfl⟩
  rw[<-ByteArray.toList_eq]
  simp_all [gG,Sv]
def kt (p:Int->Bool) (l:List UInt8):Bool:=l.all fun c=>p c.toNat
def jw (first other:Int->Bool) (l:List UInt8):Bool:=decide (1<=l.length/\l.length<=16) && (!gG l && (first (l.headD 0).toNat && kt other l.tail))
theorem mt {s:ByteArray} (h:1<=s.size):s.data.toList.headD 0=s[0]:=by
 have h':0<s.data.toList.length:=by simp;omega
 cases hs:s.data.toList with
 | nil=>rw[hs]at h';simp at h'
 | cons a b=>
  have:s[0]=s.data.toList[0]:=by simp[ByteArray.getElem_eq_getElem_data]
  rw[this];simp[hs]
theorem th (s:ByteArray) (k:Nat) (h1:1<=k) (h:k<s.size) (p:Int->Bool) :
  kt p (s.data.toList.take (k+1)).tail=(kt p (s.data.toList.take k).tail && p s[k].toNat):=by
 rw[List.take_succ_eq_append_getElem (by simpa using h)]
 have h0:(s.data.toList.take k)≠[]:=by
  intro e
  have:(s.data.toList.take k).length=0:=by rw[e];rfl
  have hl:s.data.toList.length=s.size:=by simp
  rw[List.length_take,hl]at this
  omega
 rw[List.tail_append_of_ne_nil h0]
 simp[kt,ByteArray.getElem_eq_getElem_data]
theorem qp (s:ByteArray) (k:Nat) (h1:1<=k) (h:k<s.size) (p:Int->Bool) (hp:p s[k].toNat=false):kt p s.data.toList.tail=false:=by
 unfold kt
 rw[List.all_eq_false]
 refine ⟨s[k],?_,by simp[hp]⟩
 rw[List.mem_iff_getElem]
 refine ⟨k - 1,by simp;omega,?_⟩
 simp only[List.getElem_tail]
 simp[ByteArray.getElem_eq_getElem_data,show k - 1+1=k by omega]
theorem kM {p q:Int->Bool} {l:List UInt8} (h:¬(1<=l.length/\l.length<=16)):jw p q l=false:=by simp[jw,h]
theorem ti {p q:Int->Bool} {l:List UInt8} (h:gG l=true):jw p q l=false:=by simp[jw,h]
theorem ox {p q:Int->Bool} {l:List UInt8} (h:p (l.headD 0).toNat=false):jw p q l=false:=by unfold jw;rw[h];simp
theorem qq {p q:Int->Bool} {l:List UInt8} (h:kt q l.tail=false):jw p q l=false:=by simp[jw,h]
theorem tj {p q:Int->Bool} {l:List UInt8} (h1:1<=l.length/\l.length<=16) (h2:gG l=false) (h3:p (l.headD 0).toNat=true) (h4:kt q l.tail=true):jw p q l=true:=by unfold jw;rw[h3,h2,h4];simp[h1]
theorem wS {p q:Int->Bool} {f o:UInt8->Bool} (h1:∀ c:UInt8,p c.toNat=f c) (h2:∀ c:UInt8,q c.toNat=o c):∀ n:Str,jw p q n=oe f o n
 | []=>rfl
 | c :: r=>by
  have e:kt q r=r.all o:=by unfold kt;congr 1;funext c;exact h2 c
  have d:decide (1<=(c :: r).length/\(c :: r).length<=16)=decide (r.length<16):=by rw[Bool.eq_iff_iff];simp;omega
  unfold jw oe gG
  rw[d]
  simp[h1,e]
theorem Gh (b1 b2:Nat) (s:ByteArray) (w:World) (hs:s.size<=9223372036854775807) (Sy:w.cell? ⟨b1,0,none⟩=some (.func (.func 190) #[] #[])) (AI:w.cell? ⟨b2,0,none⟩=some (.func (.func 189) #[] #[])) :
  Calls Tryz.prog 239 #[.string s,.pointer (some ⟨b1,0,none⟩),.pointer (some ⟨b2,0,none⟩)] w fun e w'=>e=.returned (.bool (jw Q6 j_ s.data.toList))/\∃n,w'=w.drewN n:=by
 by_cases h1:1<=s.size
 ·have d1:decide ((s.size:Int)<1)=false:=by simp;omega
  have h0:0<s.size:=h1
  by_cases h2:s.size<=16
  ·have d2:decide (16<(s.size:Int))=false:=by simp;omega
   cases hr:gG s.data.toList
   ·cases hf:Q6 s[0].toNat
    ·have HR:=ab hr
     have pp221a:=();exact pm221
    ·have HR:=ab hr
     have pp221b:=();exact pm221
   ·have HR:=ab hr
    exact pm288
  ·have d2:decide (16<(s.size:Int))=true:=by simp;omega
   have pp51d:=();exact pm51
 ·have d1:decide ((s.size:Int)<1)=true:=by simp;omega
  have pp51d:=();exact pm51
theorem DX (b1 b2:Nat) (s:ByteArray) (w:World) (hs:s.size<=9223372036854775807) (Sy:w.cell? ⟨b1,0,none⟩=some (.func (.func 216) #[] #[])) (AI:w.cell? ⟨b2,0,none⟩=some (.func (.func 217) #[] #[])) :
  Calls Tryz.prog 239 #[.string s,.pointer (some ⟨b1,0,none⟩),.pointer (some ⟨b2,0,none⟩)] w fun e w'=>e=.returned (.bool (jw DV zQ s.data.toList))/\∃n,w'=w.drewN n:=by
 by_cases h1:1<=s.size
 ·have d1:decide ((s.size:Int)<1)=false:=by simp;omega
  have h0:0<s.size:=h1
  by_cases h2:s.size<=16
  ·have d2:decide (16<(s.size:Int))=false:=by simp;omega
   cases hr:gG s.data.toList
   ·cases hf:DV s[0].toNat
    ·have HR:=ab hr
     have pp221c:=();exact pm221
    ·have HR:=ab hr
     have pp221d:=();exact pm221
   ·have HR:=ab hr
    exact pm288
  ·have d2:decide (16<(s.size:Int))=true:=by simp;omega
   have pp51d:=();exact pm51
 ·have d1:decide ((s.size:Int)<1)=true:=by simp;omega
  have pp51d:=();exact pm51
theorem DY (b1 b2:Nat) (s:ByteArray) (w:World) (hs:s.size<=9223372036854775807) (Sy:w.cell? ⟨b1,0,none⟩=some (.func (.func 188) #[] #[])) (AI:w.cell? ⟨b2,0,none⟩=some (.func (.func 189) #[] #[])) :
  Calls Tryz.prog 239 #[.string s,.pointer (some ⟨b1,0,none⟩),.pointer (some ⟨b2,0,none⟩)] w fun e w'=>e=.returned (.bool (jw BN j_ s.data.toList))/\∃n,w'=w.drewN n:=by
 by_cases h1:1<=s.size
 ·have d1:decide ((s.size:Int)<1)=false:=by simp;omega
  have h0:0<s.size:=h1
  by_cases h2:s.size<=16
  ·have d2:decide (16<(s.size:Int))=false:=by simp;omega
   cases hr:gG s.data.toList
   ·cases hf:BN s[0].toNat
    ·have HR:=ab hr
     have pp221e:=();exact pm221
    ·have HR:=ab hr
     exact pm221
   ·have HR:=ab hr
    exact pm288
  ·have d2:decide (16<(s.size:Int))=true:=by simp;omega
   have pp51d:=();exact pm51
 ·have d1:decide ((s.size:Int)<1)=true:=by simp;omega
  have pp51d:=();exact pm51
theorem Sz (c:UInt8):Q6 c.toNat=(decide (97<=c) && decide (c<=116)):=by rw[Bool.eq_iff_iff];simp[Q6,UInt8.le_iff_toNat_le];omega
theorem O2 (c:UInt8):DV c.toNat=(decide (117<=c) && decide (c<=122)):=by rw[Bool.eq_iff_iff];simp[DV,UInt8.le_iff_toNat_le];omega
theorem JI (c:UInt8):tg c.toNat=LI c:=by rw[Bool.eq_iff_iff];simp[tg,LI,UInt8.le_iff_toNat_le];omega
theorem Iz (c:UInt8):BN c.toNat=It c:=by rw[Bool.eq_iff_iff];simp[BN,It,UInt8.le_iff_toNat_le];omega
theorem IA (c:UInt8):zQ c.toNat=Iu c:=by rw[Bool.eq_iff_iff];simp[zQ,Iu,UInt8.le_iff_toNat_le];omega
theorem AJ (c:UInt8):j_ c.toNat=Iv c:=by simp only[j_,Iv,JI,Iz,IA,Bool.or_assoc]
theorem qt (f o:Nat) (w:World) :
  Calls Tryz.prog 187 #[.func (.func f) #[] #[],.func (.func o) #[] #[]] w fun e w'=>
   e=.returned (.func (.func 239) #[] #[.pointer (some ⟨w.heap.size,0,none⟩),.pointer (some ⟨w.heap.size+1,0,none⟩)])/\w'=(w.alloc (.cells #[.func (.func f) #[] #[]] 228)).alloc (.cells #[.func (.func o) #[] #[]] 228):=by
 go_enter Tryz.func187,Tryz.ntmps187
 go_wp2
 go_ret
 simp
theorem O3 (n:Str):jw DV zQ n=fQ n:=wS O2 IA n
theorem gH (n:Str) (w:World) (hn:n.length<=1000000000) :
  Calls Tryz.prog 152 #[.string ⟨n.toArray⟩] w fun e w'=>e=.returned (.bool (fQ n))/\Below w.heap.size w w':=by
 have hc:=DX w.heap.size (w.heap.size+1) ⟨n.toArray⟩ ((w.alloc (.cells #[.func (.func 216) #[] #[]] 228)).alloc (.cells #[.func (.func 217) #[] #[]] 228)) (by rw[gi];omega) (by simp) (by simp)
 rw[BM,O3]at hc
 have HC:=ab hc
 clear hc
 go_enter Tryz.func152,Tryz.ntmps152
 exact pm89
theorem O4 (n:Str):jw Q6 j_ n=zL n:=wS Sz AJ n
theorem kB (n:Str) (w:World) (hn:n.length<=1000000000) :
  Calls Tryz.prog 121 #[.string ⟨n.toArray⟩] w fun e w'=>e=.returned (.bool (zL n))/\Below w.heap.size w w':=by
 have hc:=Gh w.heap.size (w.heap.size+1) ⟨n.toArray⟩ ((w.alloc (.cells #[.func (.func 190) #[] #[]] 228)).alloc (.cells #[.func (.func 189) #[] #[]] 228)) (by rw[gi];omega) (by simp) (by simp)
 rw[BM,O4]at hc
 have HC:=ab hc
 clear hc
 go_enter Tryz.func121,Tryz.ntmps121
 exact pm89
theorem LK (n:Str):jw BN j_ n=uw n:=wS Iz AJ n
theorem l7 (n:Str) (w:World) (hn:n.length<=1000000000) :
  Calls Tryz.prog 120 #[.string ⟨n.toArray⟩] w fun e w'=>e=.returned (.bool (uw n))/\Below w.heap.size w w':=by
 have hc:=DY w.heap.size (w.heap.size+1) ⟨n.toArray⟩ ((w.alloc (.cells #[.func (.func 188) #[] #[]] 228)).alloc (.cells #[.func (.func 189) #[] #[]] 228)) (by rw[gi];omega) (by simp) (by simp)
 rw[BM,LK]at hc
 have HC:=ab hc
 clear hc
 go_enter Tryz.func120,Tryz.ntmps120
 exact pm89
theorem JJ (c:UInt8) (r:Str):(⟨(c :: r).toArray⟩:ByteArray).extract 1 (c :: r).length=⟨r.toArray⟩:=by
 apply ByteArray.ext
 simp[ByteArray.data_extract]
theorem ir (c:UInt8) (r:Str):(⟨(c :: r).toArray⟩:ByteArray).extract 1 (r.length+1)=⟨r.toArray⟩:=JJ c r
theorem LL (c:UInt8) (r:Str):(((⟨(c :: r).toArray⟩:ByteArray).extract 0 1)).toList=[c]:=by
 have:(⟨(c :: r).toArray⟩:ByteArray).extract 0 1=⟨#[c]⟩:=by apply ByteArray.ext;simp[ByteArray.data_extract]
 rw[this]
 simp[ByteArray.toList_eq]
theorem mu (n:Str) (w:World) (hn:n.length<=1000000000) :
  Calls Tryz.prog 242 #[.string ⟨n.toArray⟩,.string ⟨#[63]⟩] w fun e w'=>e=.returned (.bool (n.head? == some 63))/\w=w':=by
 cases n with
 | nil=>
  have pp303:=();exact pm303
 | cons c r=>
  have hs:=gi (c :: r)
  simp at hs
  have h1:((1:Int)<=((c :: r).length:Int)):=by simp;omega
  exact pm303
theorem uz (n:Str) (w:World) (hn:n.length<=1000000000) :
  Calls Tryz.prog 191 #[.string ⟨n.toArray⟩,.string ⟨#[63]⟩] w fun e w'=>e=.returned (.bool (n.head? == some 63))/\w=w':=by
 go_enter Tryz.func191,Tryz.ntmps191
 go_wp2_with (go_at_call 242;refine (mu n _ hn).mono ?_;rintro e w' ⟨rfl,rfl⟩)
 go_ret
 exact ⟨rfl,rfl⟩
theorem l8 (r:Str) (w:World) (hn:(63 :: r).length<=1000000000) :
  Calls Tryz.prog 191 #[.string ⟨(63 :: r).toArray⟩,.string ⟨#[63]⟩] w fun e w'=>e=.returned (.bool true)/\w=w':=uz (63 :: r) w hn
theorem mU (n:Str) (w:World) (hn:n.length<=1000000000) (h:(n.head? == some 63)=false) :
  Calls Tryz.prog 191 #[.string ⟨n.toArray⟩,.string ⟨#[63]⟩] w fun e w'=>e=.returned (.bool false)/\w=w':=h ▸ uz n w hn
theorem qu {n:Str} (h:(n.head? == some 63)=true):∃r,n=63 :: r:=by
 cases n with
 | nil=>simp at h
 | cons c r=>simp at h;exact ⟨r,by rw[h]⟩
theorem i_ (n:Str) (w:World) (hn:n.length<=1000000000) :
  Calls Tryz.prog 123 #[.string ⟨n.toArray⟩] w fun e w'=>e=.returned (.bool (dy n))/\Below w.heap.size w w':=by
 cases h:(n.head? == some 63) with
 | false=>
  have hp:dy n=false:=by simp only[dy,h,Bool.false_and]
  rw[hp]
  have CP:=ab (fun w=>mU n w hn h)
  clear h hp
  go_enter Tryz.func123,Tryz.ntmps123
  exact pm149
 | true=>
  obtain ⟨r,rfl⟩:=qu h
  have hp:dy (63 :: r)=fQ r:=by simp[dy]
  rw[hp]
  have CP:=ab (fun w=>l8 r w hn)
  have pp216:=();exact pm216
theorem l9 (n:Str) (w:World) (hn:n.length<=1000000000) :
  Calls Tryz.prog 185 #[.string ⟨n.toArray⟩] w fun e w'=>e=.returned (.bool (dp n))/\Below w.heap.size w w':=by
 have hs:=gi n
 by_cases hl:n.length<=16
 ·have d1:decide ((n.length:Int)<=16)=true:=by simp;omega
  cases h:(n.head? == some 63) with
  | false=>
   have hp:dp n=false:=by simp only[dp,h,Bool.false_and,Bool.and_false]
   rw[hp]
   have CP:=ab (fun w=>mU n w hn h)
   clear h hp
   go_enter Tryz.func185,Tryz.ntmps185
   exact pm149
  | true=>
   obtain ⟨r,rfl⟩:=qu h
   have hp:dp (63 :: r)=uw r:=by simp only[dp,hl,List.head?_cons,List.tail_cons,decide_true,Bool.true_and,beq_self_eq_true]
   have pp151:=();exact pm151
 ·have d1:decide ((n.length:Int)<=16)=false:=by simp;omega
  have hp:dp n=false:=by simp[dp,hl]
  rw[hp]
  clear hp
  go_enter Tryz.func185,Tryz.ntmps185
  go_wp2
  go_ret
  exact ⟨rfl,Below.refl _ _⟩
theorem jL (n:Str) (w:World) (hn:n.length<=1000000000) :
  Calls Tryz.prog 186 #[.string ⟨n.toArray⟩] w fun e w'=>e=.returned (.bool (cG n))/\Below w.heap.size w w':=by
 have hs:=gi n
 by_cases hl:n.length<=16
 ·have d1:decide ((n.length:Int)<=16)=true:=by simp;omega
  cases h:(n.head? == some 63) with
  | false=>
   have hp:cG n=false:=by simp only[cG,h,Bool.false_and,Bool.and_false]
   rw[hp]
   have CP:=ab (fun w=>mU n w hn h)
   clear h hp
   go_enter Tryz.func186,Tryz.ntmps186
   exact pm149
  | true=>
   obtain ⟨r,rfl⟩:=qu h
   have hp:cG (63 :: r)=zL r:=by simp only[cG,hl,List.head?_cons,List.tail_cons,decide_true,Bool.true_and,beq_self_eq_true]
   exact pm151
 ·have d1:decide ((n.length:Int)<=16)=false:=by simp;omega
  have hp:cG n=false:=by simp[cG,hl]
  rw[hp]
  clear hp
  go_enter Tryz.func186,Tryz.ntmps186
  go_wp2
  go_ret
  exact ⟨rfl,Below.refl _ _⟩
theorem ja (n:Str) (w:World) (hn:n.length<=1000000000) :
  Calls Tryz.prog 119 #[.string ⟨n.toArray⟩] w fun e w'=>e=.returned (.bool (ea n))/\Below w.heap.size w w':=by
 unfold ea
 cases h1:dp n with
 | true=>
  have pp286:=();exact pm286
 | false=>
  exact pm286
theorem Gi (n:Str):dp n=(ea n && uw n.tail):=by
 exact pm282
theorem BO (n:Str) (w:World) (hn:n.length<=1000000000) :
  Calls Tryz.prog 65 #[.string ⟨n.toArray⟩] w fun e w'=>e=.returned (.bool (dp n))/\Below w.heap.size w w':=by
 rw[Gi]
 cases h:ea n with
 | false=>
  have C1:=ab (fun w=>h ▸ ja n w hn)
  clear h
  go_enter Tryz.func65,Tryz.ntmps65
  exact pm266
 | true=>
  have pp126:=();exact pm126
theorem Gj (n:Str):cG n=(ea n && zL n.tail):=by
 exact pm282
theorem BP (n:Str) (w:World) (hn:n.length<=1000000000) :
  Calls Tryz.prog 67 #[.string ⟨n.toArray⟩] w fun e w'=>e=.returned (.bool (cG n))/\Below w.heap.size w w':=by
 rw[Gj]
 cases h:ea n with
 | false=>
  have C1:=ab (fun w=>h ▸ ja n w hn)
  clear h
  go_enter Tryz.func67,Tryz.ntmps67
  exact pm266
 | true=>
  exact pm126
theorem ef (q:FQ) (w:World) :
  Calls Tryz.prog 93 #[q.val] w fun e w'=>e=.returned (.bool (bn q.o))/\Below w.heap.size w w':=by
 obtain ⟨o,n,a,l,c,b,m,e⟩:=q
 unfold FQ.val bn
 go_enter Tryz.func93,Tryz.ntmps93
 go_wp2
 all_goals (go_ret;refine ⟨aA (by simp_all),ct⟩)
theorem ke (q:FQ) (w:World) :
  Calls Tryz.prog 146 #[q.val] w fun e w'=>e=.returned (.bool (bn q.o))/\Below w.heap.size w w':=by
 obtain ⟨o,n,a,l,c,b,m,e⟩:=q
 unfold FQ.val bn
 go_enter Tryz.func146,Tryz.ntmps146
 go_wp2
 all_goals (go_ret;refine ⟨aA (by simp_all),ct⟩)
theorem ew (n:Str) (w:World) (hn:n.length<=1000000000) :
  Calls Tryz.prog 130 #[.string ⟨n.toArray⟩] w fun e w'=>e=.returned (.string ⟨(cH n).toArray⟩)/\w=w':=by
 have hs:=gi n
 go_enter Tryz.func130,Tryz.ntmps130
 go_wp2
 go_ret
 exact ⟨O1 (by apply ByteArray.ext;simp[cH]),rfl⟩
theorem fF (n:Str) (w:World) :
  Calls Tryz.prog 131 #[.string ⟨n.toArray⟩] w fun e w'=>e=.returned (.agg #[.bool true,.string ⟨n.toArray⟩,.slice none 0 0])/\Below w.heap.size w w':=by
 go_enter Tryz.func131,Tryz.ntmps131
 go_wp2
 refine bodyPost_ret (v:=.agg #[.bool true,.string ⟨n.toArray⟩,.slice none 0 0]) (by simp[results,Tryz.results131,go_sem]) rfl ⟨rfl,?_⟩
 exact ct
section
variable {F:Fence} {n:Nat} {P:Program} {Q:Exit->Act->World->Prop}
theorem bq {o:Oper} {a:Act} {w:World} {K:Act->World->Prop} (s x:Operand) (t:TypeId)
  (ho:o.op=.call { callee:=.builtin .append,args:=#[s,x],argTypes:=#[t,t] })
  (base:Nat) (e:TypeId) (i:TypeInfo) (z:Value) (size bytes:Nat) (ht:P.underlying t=some (.slice e)) (hi:P.info? e=some i) (hz:i.zero=some z)
  (IB:i.size=size) (Z5:i.bytes=bytes) (Z6:z.cells.size=size) (hsz:0<size)
  (v:Value) (k:Nat) (xs:List Value) (hs:a.eval s=v) (aC:w.ownsRow base e size v k xs)
  (ad:Addr) (m c:Nat) (tk:List Value) (hx:a.eval x=.slice (some ad) m c) (hl:tk.length=m * size) (IC:∀ j u,tk[j]?=some u->w.cell? (ad.add j)=some u) (h1:∀ u∈tk,u.oneCell'=true)
  (hm:0<m) (Z7:k+m<=maxLen) (BR:(k+m) * bytes<=140737488355328) (Wp:base<=w.heap.size) (H:Nat) (hH:w.heap.size=H)
  (h:∀ g cap w',w'.ownsRow base e size (.slice (some ⟨g,0,none⟩) (k+m) cap) (k+m) (xs ++ tk)->w.grownBy w' v.ownBlock->(v.ownBlock=some g\/g=H)->g<w'.heap.size->K (a.put o.dst (.slice (some ⟨g,0,none⟩) (k+m) cap)) w'):o.wpIn F n P a w K Q:=by
 obtain ⟨g,cap,w',hr,h2,h3,h4,h5⟩:=run_append_lies (P:=P) w t o.type base e i z size bytes ht hi hz IB Z5 Z6 hsz v k xs aC ad m c tk hl IC h1 hm Z7 BR Wp H hH
 unfold Oper.wpIn
 refine ⟨?_,?_⟩
 ·simp[Oper.about,ho,resolve,Target.leads,Sem.run_pure]
 ·rw[Oper.semAt_plain F _ _ (by rw[ho];intro c Wq;cases Wq)]
  simp[execOp,ho,resolve,invoke,builtin,hs,hx,hr,Result.andThen]
  exact h g cap w' h2 h3 h4 h5
end
structure Fills (T:TypeId) (R lo:Nat) (mk:Value->Array Value) (Row:Value->World->Prop) (W1 W:World) (row:Value):Prop where
 box:W.heap[R]?=some (.cells (mk row) T (0,0))
 row:Row row W
 kp:Kp (fun b=>b=R) W1 W
 lt:R<lo
 base:lo=W1.heap.size
theorem Fills.size {T:TypeId} {R lo:Nat} {mk:Value->Array Value} {Row:Value->World->Prop} {W1 W:World} {row:Value} (h:Fills T R lo mk Row W1 W row):lo<=W.heap.size:=by have:=h.kp.size;have:=h.base;omega
theorem Fills.cell {T:TypeId} {R lo:Nat} {mk:Value->Array Value} {Row:Value->World->Prop} {W1 W:World} {row:Value} (h:Fills T R lo mk Row W1 W row) (k:Nat):W.cell? ⟨R,k,none⟩=(mk row)[k]?:=aL h.box k
theorem Fills.below {T:TypeId} {R lo:Nat} {mk:Value->Array Value} {Row:Value->World->Prop} {w W1 W:World} {row:Value} (h:Fills T R lo mk Row W1 W row) (hb:Below w.heap.size w W1) (hR:w.heap.size<=R):Below w.heap.size w W:=
 ⟨h.kp.os.trans hb.os,h.kp.tape.trans hb.tape,h.kp.output.trans hb.output,Nat.le_trans hb.size h.kp.size,fun b hlt=>(h.kp.same b (Nat.lt_of_lt_of_le hlt hb.size) (by omega)).trans (hb.block b hlt)⟩
theorem Fills.start {T:TypeId} {R:Nat} {mk:Value->Array Value} {Row:Value->World->Prop} {W1:World} {row:Value} (hx:W1.heap[R]?=some (.cells (mk row) T (0,0))) (hr:Row row W1):Fills T R W1.heap.size mk Row W1 W1 row:=
 ⟨hx,hr,Kp.refl _,(bl hx),rfl⟩
theorem Fills.later {T:TypeId} {R lo:Nat} {mk:Value->Array Value} {Row:Value->World->Prop} {W1 W W':World} {row:Value} (h:Fills T R lo mk Row W1 W row) (hb:Below W.heap.size W W') (hr:Row row W->Row row W'):Fills T R lo mk Row W1 W' row:=
 ⟨(hb.block R (bl h.box)).trans h.box,hr h.row,h.kp.trans (Kp.below hb),h.lt,h.base⟩
theorem Fills.other {T:TypeId} {R lo:Nat} {mk:Value->Array Value} {Row:Value->World->Prop} {W1 W:World} {row:Value} (h:Fills T R lo mk Row W1 W row) {b:Nat} {o:Obj} (jt:b≠R) (hb:W1.heap[b]?=some o):W.heap[b]?=some o:=
 (h.kp.same b (bl hb) jt).trans hb
theorem aV {W:World} {R F:Nat} {cs:Array Value} {T:TypeId} (h:W.heap[R]?=some (.cells cs T (0,0))) (u:Value):(W.setCell ⟨R,F,none⟩ u).heap[R]?=some (.cells (cs.setIfInBounds F u) T (0,0)):=heap_setCell_same _ _ F _ _ u h
theorem Fills.at4 {T:TypeId} {R lo size n kk:Nat} {e:TypeId} {xs:List Value} {mk:Value->Array Value} {Row:Value->World->Prop} {W1 wr A w4:World} {row:Value} {o:Obj}
  (h:Fills T R lo mk Row W1 wr row) (aC:wr.ownsRow lo e size row n xs) (hA:Below wr.heap.size wr A) (aq:(A.alloc o).grownBy w4 row.ownBlock):w4.heap[R]?=some (.cells (mk row) T (0,0))/\w4.frozen? ⟨R,kk,none⟩=false/\w4.cell? ⟨R,kk,none⟩=(mk row)[kk]?:=by
 have hlt:=(bl h.box)
 have hs:=hA.size
 have hx:w4.heap[R]?=some (.cells (mk row) T (0,0)):=(aq.block R (by simp;omega) (fun e=>by have:=(aC.lt R e.symm).1;have:=h.lt;omega)).trans ((Below.heap_alloc _ _ _ (by omega)).trans ((hA.block R hlt).trans h.box))
 exact ⟨hx,by simp[World.frozen?,hx],aL hx kk⟩
theorem Fills.kp5 {T:TypeId} {R lo size n F:Nat} {e:TypeId} {xs:List Value} {mk:Value->Array Value} {Row:Value->World->Prop} {W1 wr A w4:World} {row u:Value} {o:Obj}
  (h:Fills T R lo mk Row W1 wr row) (aC:wr.ownsRow lo e size row n xs) (hA:Below wr.heap.size wr A) (aq:(A.alloc o).grownBy w4 row.ownBlock):Kp (fun b=>b=R) W1 (w4.setCell ⟨R,F,none⟩ u):=by
 have hs:=hA.size
 have hg:=aq.size
 simp only[World.size_alloc]at hg
 have h1:Kp (fun b=>b=R) wr (w4.setCell ⟨R,F,none⟩ u)->Kp (fun b=>b=R) W1 (w4.setCell ⟨R,F,none⟩ u):=fun k=>h.kp.trans k
 refine ⟨aq.os.trans (hA.os.trans h.kp.os),aq.tape.trans (hA.tape.trans h.kp.tape),aq.output.trans (hA.output.trans h.kp.output),by have:=h.kp.size;simp;omega,fun b hb jt=>?_⟩
 have bA:b<wr.heap.size:=Nat.lt_of_lt_of_le hb h.kp.size
 exact (Below.heap_setCell _ _ _ _ (by simpa using jt)).trans ((aq.block b (by simp;omega) (fun e=>by have:=(aC.lt b e.symm).1;have:=h.base;omega)).trans ((Below.heap_alloc _ _ _ (by omega)).trans ((hA.block b bA).trans (h.kp.same b hb jt))))
theorem Fills.stepT {T:TypeId} {R lo F:Nat} {mk:Value->Array Value} {ts:List Tm} {t:Tm} {W1 wr A w4:World} {row:Value} {qs:List TQ} {p:TQ} {g cap:Nat} {o:Obj}
  (h:Fills T R lo mk (fun r=>RowT lo r ts) W1 wr row) (aC:wr.ownsRow lo 43 3 row ts.length (qs.flatMap TQ.cells)) (dZ:qs.length=ts.length) (fR:∀ j (h:j<qs.length) (h2:j<ts.length),TermV (fun b=>lo<=b/\row.ownBlock≠some b) wr qs[j].val ts[j])
  (hA:Below wr.heap.size wr A) (hp:TermV (wr.heap.size<=·) A p.val t)
  (aR:w4.ownsRow lo 43 3 (.slice (some ⟨g,0,none⟩) (ts.length+1) cap) (ts.length+1) (qs.flatMap TQ.cells ++ p.cells)) (aq:(A.alloc o).grownBy w4 row.ownBlock) (hg:row.ownBlock=some g\/g=A.heap.size+1)
  (uA:(mk row).setIfInBounds F (.slice (some ⟨g,0,none⟩) (ts.length+1) cap)=mk (.slice (some ⟨g,0,none⟩) (ts.length+1) cap)) :
  Fills T R lo mk (fun r=>RowT lo r (ts ++ [t])) W1 (w4.setCell ⟨R,F,none⟩ (.slice (some ⟨g,0,none⟩) (ts.length+1) cap)) (.slice (some ⟨g,0,none⟩) (ts.length+1) cap):=by
 have pp102a:=();exact pm102
theorem Fills.stepF {T:TypeId} {R lo F:Nat} {mk:Value->Array Value} {ts:List Fm} {t:Fm} {W1 wr A w4:World} {row:Value} {qs:List FQ} {p:FQ} {g cap:Nat} {o:Obj}
  (h:Fills T R lo mk (fun r=>RowF lo r ts) W1 wr row) (aC:wr.ownsRow lo 36 4 row ts.length (qs.flatMap FQ.cells)) (dZ:qs.length=ts.length) (fR:∀ j (h:j<qs.length) (h2:j<ts.length),FormV (fun b=>lo<=b/\row.ownBlock≠some b) wr qs[j].val ts[j])
  (hA:Below wr.heap.size wr A) (hp:FormV (wr.heap.size<=·) A p.val t)
  (aR:w4.ownsRow lo 36 4 (.slice (some ⟨g,0,none⟩) (ts.length+1) cap) (ts.length+1) (qs.flatMap FQ.cells ++ p.cells)) (aq:(A.alloc o).grownBy w4 row.ownBlock) (hg:row.ownBlock=some g\/g=A.heap.size+1)
  (uA:(mk row).setIfInBounds F (.slice (some ⟨g,0,none⟩) (ts.length+1) cap)=mk (.slice (some ⟨g,0,none⟩) (ts.length+1) cap)) :
  Fills T R lo mk (fun r=>RowF lo r (ts ++ [t])) W1 (w4.setCell ⟨R,F,none⟩ (.slice (some ⟨g,0,none⟩) (ts.length+1) cap)) (.slice (some ⟨g,0,none⟩) (ts.length+1) cap):=by
 have pp102b:=();exact pm102
theorem oy {W:World} {b:Nat} {a0 a1 a2 v0 v1 v2:Value} {T:TypeId} (h:W.heap[b]?=some (.cells #[a0,a1,a2] T (0,0))) :
  (((W.setCell ⟨b,0,none⟩ v0).setCell ⟨b,1,none⟩ v1).setCell ⟨b,2,none⟩ v2).heap[b]?=some (.cells #[v0,v1,v2] T (0,0)):=by
 have h0:=aV (F:=0) h v0
 have h1:=aV (F:=1) h0 v1
 exact (aV (F:=2) h1 v2).trans rfl
theorem kf {W:World} {b:Nat} {a0 a1 a2 a3 v0 v1 v2 v3:Value} {T:TypeId} (h:W.heap[b]?=some (.cells #[a0,a1,a2,a3] T (0,0))) :
  ((((W.setCell ⟨b,0,none⟩ v0).setCell ⟨b,1,none⟩ v1).setCell ⟨b,2,none⟩ v2).setCell ⟨b,3,none⟩ v3).heap[b]?=some (.cells #[v0,v1,v2,v3] T (0,0)):=by
 have h0:=aV (F:=0) h v0
 have h1:=aV (F:=1) h0 v1
 have h2:=aV (F:=2) h1 v2
 exact (aV (F:=3) h2 v3).trans rfl
theorem d8 {W:World} {b:Nat} {v0 v1 v2:Value}:Kp (fun c=>c=b) W (((W.setCell ⟨b,0,none⟩ v0).setCell ⟨b,1,none⟩ v1).setCell ⟨b,2,none⟩ v2):=
 ⟨rfl,rfl,rfl,by simp,fun c _ hc=>(Below.heap_setCell _ _ _ _ (by simpa using hc)).trans ((Below.heap_setCell _ _ _ _ (by simpa using hc)).trans (Below.heap_setCell _ _ _ _ (by simpa using hc)))⟩
theorem di {W:World} {b:Nat} {v0 v1 v2 v3:Value}:Kp (fun c=>c=b) W ((((W.setCell ⟨b,0,none⟩ v0).setCell ⟨b,1,none⟩ v1).setCell ⟨b,2,none⟩ v2).setCell ⟨b,3,none⟩ v3):=
 ⟨rfl,rfl,rfl,by simp,fun c _ hc=>(Below.heap_setCell _ _ _ _ (by simpa using hc)).trans ((Below.heap_setCell _ _ _ _ (by simpa using hc)).trans ((Below.heap_setCell _ _ _ _ (by simpa using hc)).trans (Below.heap_setCell _ _ _ _ (by simpa using hc))))⟩
theorem Below.kp1 {w W W':World} {b:Nat} (h:Below w.heap.size w W) (hk:Kp (fun c=>c=b) W W') (hb:w.heap.size<=b):Below w.heap.size w W':=
 ⟨hk.os.trans h.os,hk.tape.trans h.tape,hk.output.trans h.output,Nat.le_trans h.size hk.size,fun c hc=>(hk.same c (Nat.lt_of_lt_of_le hc h.size) (by omega)).trans (h.block c hc)⟩
theorem RowT.kp1 {lo b:Nat} {v:Value} {ts:List Tm} {W W':World} (h:RowT lo v ts W) (hk:Kp (fun c=>c=b) W W') (hb:b<lo):RowT lo v ts W':=h.held (fun c hc hlt=>hk.same c hlt (by omega))
theorem RowF.kp1 {lo b:Nat} {v:Value} {ts:List Fm} {W W':World} (h:RowF lo v ts W) (hk:Kp (fun c=>c=b) W W') (hb:b<lo):RowF lo v ts W':=h.held (fun c hc hlt=>hk.same c hlt (by omega))
theorem RowT.term {lo w:Nat} {W:World} {v:Bool} {n:Str} {ts:List Tm} {a:Option Addr} {l c:Nat} (h:RowT lo (.slice a l c) ts W) (hw:w<=lo):TermV (w<=·) W (TQ.val ⟨v,⟨n.toArray⟩,a,l,c⟩) (.mk v n ts):=
 aP.2 ⟨_,rfl,h.terms.move (fun _ hok _=>⟨Nat.le_trans hw hok,rfl⟩)⟩
theorem RowF.form {lo lo2 w:Nat} {W:World} {o:Int} {n:Str} {ts:List Tm} {fs:List Fm} {a b:Option Addr} {l c m e:Nat} (ht:RowT lo (.slice a l c) ts W) (hf:RowF lo2 (.slice b m e) fs W) (hw:w<=lo) (Lh:w<=lo2):FormV (w<=·) W (FQ.val ⟨o,⟨n.toArray⟩,a,l,c,b,m,e⟩) (.mk o n ts fs):=
 aQ.2 ⟨_,_,rfl,ht.terms.move (fun _ hok _=>⟨Nat.le_trans hw hok,rfl⟩),hf.forms.move (fun _ hok _=>⟨Nat.le_trans Lh hok,rfl⟩)⟩
end Go.Proofs.YtokemihbkeddoaaGreatDoor
