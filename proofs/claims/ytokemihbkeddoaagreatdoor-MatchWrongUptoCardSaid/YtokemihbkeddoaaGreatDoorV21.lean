/-
The walk of MatchWrong of lyceumlaw07.
-/
import Derived.Test.YtokemihbkeddoaaGreatDoorV20
namespace Go.Proofs.YtokemihbkeddoaaGreatDoor
open Go Go.RowKit Lib
set_option maxRecDepth 100000
set_option maxHeartbeats 64000000
theorem Ki{A:Type}{B C:A->Prop}:∀a,B a->C a->B a:=fun _ h _=>h
theorem DagAt.oK{p:Array Bool}{x a:Act}{w:World}{o:Array Oper}{Γ:Type}{F:Nat->Value->Γ->World->Prop}{G:Nat->Γ->Prop}{I:Γ->World->Prop}{γ:Γ}(h:DagAt F G I o x p a γ w)(d:Nat)(e:freeB o d=true:=by kernel_rfl):a.tmps[d]?=x.tmps[d]?:=h.old d e
section
attribute [local go_sem] Oper.semAt_some
abbrev L4 (b3 b4:Nat):Nat->Prop:=fun c=>c≠b3/\c≠b4
abbrev L7 (b3 b4 b7:Nat):Nat->Prop:=fun c=>(c≠b3/\c≠b4)/\c≠b7
mutual
theorem YR:∀ t,Sg t=mH t
 | .mk v n a=>by simp only[Sg,mH,Fs a]
theorem Fs:∀ t,js t=iT t
 | []=>rfl
 | t :: l=>by simp only[js,iT,YR t,Fs l]
end
mutual
theorem RF:∀ t,pX t=fV t
 | .mk o n a s=>by simp only[pX,fV,Fs a,Mm s,List.append_assoc]
theorem Mm:∀ t,kw t=jw t
 | []=>rfl
 | t :: l=>by simp only[kw,jw,RF t,Mm l]
end
theorem RG {s:Fm} (h:schemaF s=true):nodesF s<=400:=by simp only[schemaF,ae,bw]at h;exact h.2.1
theorem Bc {s:Fm} (hf:fitF s) (hsc:schemaF s=true) (ft:Nat):fitF (c9 s ft):=by
 unfold c9;split
 ·exact ⟨by simp only[nodesF,nodesFs,nodesTs];have:=RG hsc;omega,by simp[kT,nmFs,nmTs,hf.2]⟩
 ·exact hf
theorem KV (ft:Nat):fitF (et ft):=by
 unfold et;split
 ·exact ⟨by decide,by decide⟩
 ·split <;> exact ⟨by decide,by decide⟩
theorem tw {b:Bd} (h:BdFit b) (h1:b.fs.length<=10) (ft:Nat):BdFit (cd b ft):=by
 have hq:fitF d8:=⟨by decide,by decide⟩;unfold cd;split
 ·exact ⟨by simp only[fF];omega,h.lt,List.forall_mem_cons.2 ⟨⟨by decide,hq⟩,h.fs⟩,h.ts⟩
 ·split
  ·exact ⟨by simp only[fF];omega,h.lt,List.forall_mem_cons.2 ⟨⟨by decide,hq⟩,List.forall_mem_cons.2 ⟨⟨by decide,hq⟩,h.fs⟩⟩,h.ts⟩
  ·split
   ·exact ⟨by simp,h.lt,List.forall_mem_cons.2 ⟨⟨by decide,by decide,by decide⟩,fun _ h=>by cases h⟩,h.ts⟩
   ·split
    ·exact ⟨h.lf,by simp,h.fs,List.forall_mem_cons.2 ⟨⟨by decide,⟨by decide,by decide⟩,by decide⟩,fun _ h=>by cases h⟩⟩
    ·split
     ·exact ⟨h.lf,by simp,h.fs,List.forall_mem_cons.2 ⟨⟨by decide,⟨by decide,by decide⟩,by decide⟩,fun _ h=>by cases h⟩⟩
     ·exact h
theorem KW {s:Fm} {ft:Nat} (h1:fitF (c9 s ft)) (h2:fitF (et ft)):∀ x∈lU s ft,fitF x.1/\fitF x.2:=
 List.forall_mem_cons.2 ⟨⟨⟨by decide,by decide⟩,⟨by decide,by decide⟩⟩,List.forall_mem_cons.2 ⟨⟨h1,h2⟩,fun _ h=>by cases h⟩⟩
theorem Ir (l:List Str):(cm l).length=0 ↔ l=[]:=by
 constructor
 ·intro h;have h:=jj h
  cases l with
  | nil=>rfl
  | cons x r=>have:=(LN x (x :: r)).2 (ij ..);rw[h]at this;cases this
 ·rintro rfl;rfl
theorem KX {s f:Fm} {e:Int} (hsc:schemaF s=true) (h:kQ s noneB=(f,e)) {x:Nat} (hx:(cm (fV s)).length=x):(x=0 ↔ e=0)/\(e=0\/e=6):=by
 by_cases hm:fV s=[]
 ·have h1:=N5 hsc hm;rw[h]at h1;have h2:=(Ir _).2 hm;simp only at h1;exact ⟨⟨fun _=>h1,fun _=>by omega⟩,.inl h1⟩
 ·have h1:=N6 hsc hm;rw[h]at h1;simp only at h1;have h2:(cm (fV s)).length≠0:=fun e=>hm ((Ir _).1 e);exact ⟨⟨fun h=>absurd (hx.trans h) h2,fun h=>by omega⟩,.inr h1⟩
structure WrI (w0:World) (L:Nat->Prop) (m b3 b4 b7:Nat) (s f:Fm) (k:Bd) (a:Act) (W:World):Prop where
 hs:a.tmps.size=189
 hd:a.defers=[]
 HB:Below w0.heap.size w0 W
 t2:a.tmps[2]?=some (.int .u8 (m:Nat))
 F3:∃q,LF L a W 3 b3 q s
 F7:∃q,LF L a W 7 b7 q f
 B4:∃q,LB L a W 4 b4 q k
structure WrJ (w0:World) (m ri b3 b4 b8:Nat) (s:Fm) (k:Bd) (a:Act) (W:World):Prop where
 hs:a.tmps.size=189
 hd:a.defers=[]
 HB:Below w0.heap.size w0 W
 t2:a.tmps[2]?=some (.int .u8 (m:Nat))
 t9:a.tmps[9]?=some (.int .i64 (ri:Nat))
 t10:a.tmps[10]?=some (.int .i64 2)
 t11:a.tmps[11]?=some (.int .i64 (ri:Nat))
 F3:∃q,LF X0 a W 3 b3 q s
 B4:∃q,LB X0 a W 4 b4 q k
 B8:∃q,LB X0 a W 8 b8 q noneB
structure WrT (w0:World) (m b3 b4:Nat) (s:Fm) (k:Bd) (a:Act) (W:World):Prop where
 hs:a.tmps.size=189
 hd:a.defers=[]
 HB:Below w0.heap.size w0 W
 t2:a.tmps[2]?=some (.int .u8 (m:Nat))
 F3:∃q,LF X0 a W 3 b3 q s
 B4:∃q,LB X0 a W 4 b4 q k
def sR:Code->Code | .seq _ b=>b | c=>c
def drC (c:Code):Nat->Code | 0=>c | n+1=>sR (drC c n)
abbrev WrQ (w:World):Exit->Act->World->Prop:=bodyPost Tryz.prog Tryz.f5 fun e w'=>e=.returned (.bool true)/\Below w.heap.size w w'
structure WrP (s:Fm) (bd:Bd) (m ft:Nat):Prop where
 hfs:fitF s
 hsc:schemaF s=true
 hv:validB bd=true
 hbd:BdFit bd
 h10:bd.fs.length<=10
 hf8:ft<8
 HFT:Hd (ft=m % 8)
theorem zbP (WB w:World) (fw:Tabs WB w) (s:Fm) (bd:Bd) (m ft:Nat) (hP:WrP s bd m ft) (b3 b4:Nat):∀ a W,WrT w m b3 b4 s bd a W->Code.wpIn Fence.wide 3 Tryz.prog (drC ((Tryz.f5.body).getD .skip) 11) (WrQ w) a W:=by
 rintro a W ⟨hs,hd,HB,t2,⟨q3,F3⟩,⟨q4,B4⟩⟩;have jq:∀ c,bQ c->WB.heap.size<=c:=fun _ h=>h.elim;have cq:∀ c,X0 c->¬bQ c:=fun _ _ h=>h;have hL:∀ {u:World} (c),u.heap.size<=c->X0 c:=fun _ _=>trivial;clear B4 t2;obtain ⟨f0,e0,hf0⟩:∃f0 e0,kQ s noneB=(f0,e0):=⟨_,_,rfl⟩;have hfs:=hP.hfs;have pS:(cm (pX s)).length<=2000000:=by have h1:=eO (pX s);have h2:=KJ s;have h3:=hfs.1;omega
 have zbQ:pX (.mk 3 [] [] [s])=pX s:=by simp[pX,js,kw]
 have qh:fitF (.mk 3 [] [] [s]):=⟨by simp only[nodesF,nodesFs,nodesTs];have:=RG hP.hsc;omega,by simp[kT,nmFs,nmTs,hfs.2]⟩;obtain ⟨h01,h02⟩:=KX hP.hsc hf0 (x:=(cm (pX s)).length) (by rw[<-RF]);have hT:Tabs WB W:=fw.next (HB);refine bA (fun zdY VI=>?_);refine aY [aI X0 (s),
  bG X0 (⟨[],[]⟩),
  iy (aI X0 f0) [.int .i64 e0],
  iy (aI X0 f0) [.int .i64 e0],
  aI X0 f0,
  aE (.int .i64 e0),
  mP #[.int .u8 0,.string ⟨#[]⟩,.slice none 0 0,.slice none 0 0] 36,
  gL (aI X0 f0) 36,
  aE (.int .i64 e0)]
  6 7 hs (by kernel_rfl) (fun k hk=>?_) (fun A31 γ W31 h=>?_)
 ·exact match k,hk with
  | 0,_=>cB _ _ 3 F3.box (fun h=>h) (F3.at cq) (old F3.slot)
  | 1,_=>uX
  | 2,_=>uV _ _ _ _ hf0 hfs iS 160 161 hT jq hL (af 0) (af 1)
  | 3,_=>bP _ 162 (af 2)
  | 4,_=>ia _ _ 159 (af 3)
  | 5,_=>gY (aI X0 f0) [.int .i64 e0] 0 (.int .i64 e0) rfl 159 (af 3)
  | 6,_=>gT rfl
  | 7,_=>gU _ 14 163 rfl (af 6) (af 4)
  | 8,_=>bq _ 164 (af 5)
  | k+9,hk=>absurd hk (by simp)
 have YS:=h.sz.trans hs;have zbR:=h.df.trans hd;have YT:Below w.heap.size w W31:=aq HB h.inv.1 (fun _ h=>h.elim)
 replace F3:=F3.next (L':=X0) (h.oK 3) h.inv.1 (fun h=>h) cq Ki
 obtain ⟨vz,tz,fz⟩:=h.get 6 _ 14 rfl rfl;obtain ⟨NQ,q14,lz,_⟩:=nA tz fz (h.did 7 _ rfl rfl) h.inv;have F14:=lz.next (L':=X0) rfl (Kp.refl (M:=bQ) _) (fun h=>h) (fun _ _ h=>h) (fun _ h _=>h.1);clear vz tz fz lz;clear hT;clear hs hd HB;obtain ⟨vz,RH,fz⟩:=h.get 8 _ 15 rfl rfl;obtain rfl:vz=.int .i64 e0:=fz;clear h;refine VI _ _ ?_;clear VI zdY;clear F14;have hT:Tabs WB W31:=fw.next (YT);refine bA (fun zdZ VJ=>?_);refine aY [aI X0 (s),
  sq X0 (cm (pX s)),
  sq X0 (cm (pX s))]
  3 3 YS (by kernel_rfl) (fun k hk=>?_) (fun A32 γ W32 h=>?_)
 ·exact match k,hk with
  | 0,_=>cB _ _ 3 F3.box (fun h=>h) (F3.at cq) (old F3.slot)
  | 1,_=>AT s hfs 165 hL (af 0)
  | 2,_=>bq _ 166 (af 1)
  | k+3,hk=>absurd hk (by simp)
 have N7:=h.sz.trans YS;have T9:=h.df.trans zbR;have N8:Below w.heap.size w W32:=aq YT h.inv.1 (fun _ h=>h.elim)
 replace F3:=F3.next (L':=X0) (h.oK 3) h.inv.1 (fun h=>h) cq Ki
 replace RH:=(h.oK 15).trans RH
 clear hT;clear YS zbR YT;obtain ⟨v16,VK,fz⟩:=h.get 2 _ 16 rfl rfl;have S16:StrsO (okS X0 W32) W32 v16 (cm (pX s)):=StrsO.move fz (fun c hc _=>⟨⟨trivial,hc.2.1⟩,rfl⟩);obtain ⟨a16,c16,rfl⟩:=S16.slice;clear h fz;refine VJ _ _ ?_;clear VJ zdZ;clear hf0
 by_cases hz:e0=0
 ·subst hz;have iq:=h01.2 rfl;have gV:(((cm (pX s)).length:Int) == 0)=true:=by rw[iq];rfl
  clear h01 h02 iq;have hT:Tabs WB W32:=fw.next (N8);refine bA (fun zd0 RI=>?_);refine aY [aE (.int .i64 0),
   aE (.bool true),
   aE (.slice a16 (cm (pX s)).length c16),
   aE (.int .i64 ((cm (pX s)).length:Nat)),
   aE (.bool true),
   aE (.bool true),
   aE (.bool true),
   aE (.int .i64 0),
   aE (.bool true),
   aE (.bool true),
   aE undef,
   aE undef,
   aE (.bool true),
   aE (.bool true),
   aE (.bool true),
   sq X0 (cm (pX s)),
   aI X0 (s),
   eP X0 [s],
   aI X0 (.mk 3 [] [] [s]),
   sq X0 (cm (pX s)),
   aE (.bool true),
   aE (.bool true),
   aE (.bool true)]
   23 23 N7 (by kernel_rfl) (fun k hk=>?_) (fun A33 γ W33 h=>?_)
  ·exact match k,hk with
   | 0,_=>bg (.int .i64 0) 15 (old RH)
   | 1,_=>eQ .i64 0 0 true rfl 167 (af 0)
   | 2,_=>bg (.slice a16 (cm (pX s)).length c16) 16 (old VK)
   | 3,_=>Rw _ _ _ 169 (af 2)
   | 4,_=>eQ .i64 (((cm (pX s)).length:Nat):Int) 0 true gV 170 (af 3)
   | 5,_=>Fl true true true rfl 168 171 (af 1) (af 4)
   | 6,_=>bg (.bool true) 172 (af 5)
   | 7,_=>bg (.int .i64 0) 15 (old RH) (hw:=ai 6 (af 6))
   | 8,_=>eQ .i64 0 0 true rfl 174 (af 7) (hw:=ai 6 (af 6))
   | 9,_=>bg (.bool true) 175 (af 8) (hw:=ai 6 (af 6))
   | 10,_=>dv false 9 (af 9)
   | 11,_=>dv false 9 (af 9)
   | 12,_=>tj (.bool true) 176 (af 9) (hw:=ai 6 (af 6))
   | 13,_=>pz (.bool false) (.bool true) 173 179 (af 6) (af 12)
   | 14,_=>bg (.bool true) 180 (af 13)
   | 15,_=>Il _ 16 _ S16 cq (old VK) (hw:=ai 14 (af 14))
   | 16,_=>cB _ _ 3 F3.box (fun h=>h) (F3.at cq) (old F3.slot) (hw:=ai 14 (af 14))
   | 17,_=>eb hL _ 183 (af 16) (hw:=ai 14 (af 14))
   | 18,_=>kz 3 [] [s] 184 (af 17) (hw:=ai 14 (af 14))
   | 19,_=>AT _ qh 185 hL (af 18) (hw:=ai 14 (af 14)) (hp:=by rw[<-zbQ];rfl)
   | 20,_=>Ik _ _ pS 182 186 (af 15) (af 19) (hw:=ai 14 (af 14)) (hp:=Bu (by simp))
   | 21,_=>pz (.bool false) (.bool true) 181 187 (af 14) (af 20)
   | 22,_=>bq _ 188 (af 21)
   | k+23,hk=>absurd hk (by simp)
  have zd1:=h.sz.trans N7;have YU:=h.df.trans T9;have YV:Below w.heap.size w W33:=aq N8 h.inv.1 (fun _ h=>h.elim)
  replace F3:=F3.next (L':=X0) (h.oK 3) h.inv.1 (fun h=>h) cq Ki
  replace RH:=(h.oK 15).trans RH
  replace VK:=(h.oK 16).trans VK
  clear hT;clear N7 T9 N8;obtain ⟨vz,tr,fz⟩:=h.get 22 _ 6 rfl rfl;obtain rfl:vz=.bool true:=fz;refine RI _ _ ?_;refine wpIn_ret ?_
  try simp only[Exit.then]
  exact pm285
 ·obtain rfl:=h02.resolve_left hz;have iq:¬(cm (pX s)).length=0:=fun e=>hz (h01.1 e);have gV:(((cm (pX s)).length:Int) == 0)=false:=by simpa using iq
  clear h01 h02 iq hz;have hT:Tabs WB W32:=fw.next (N8);refine bA (fun zd0 RI=>?_);refine aY [aE (.int .i64 6),
   aE (.bool false),
   aE (.slice a16 (cm (pX s)).length c16),
   aE (.int .i64 ((cm (pX s)).length:Nat)),
   aE (.bool false),
   aE (.bool true),
   aE (.bool true),
   aE (.int .i64 6),
   aE (.bool false),
   aE (.bool false),
   aE (.int .i64 6),
   aE (.bool true),
   aE (.bool true),
   aE (.bool true),
   aE (.bool true),
   sq X0 (cm (pX s)),
   aI X0 (s),
   eP X0 [s],
   aI X0 (.mk 3 [] [] [s]),
   sq X0 (cm (pX s)),
   aE (.bool true),
   aE (.bool true),
   aE (.bool true)]
   23 23 N7 (by kernel_rfl) (fun k hk=>?_) (fun A33 γ W33 h=>?_)
  ·exact match k,hk with
   | 0,_=>bg (.int .i64 6) 15 (old RH)
   | 1,_=>eQ .i64 6 0 false rfl 167 (af 0)
   | 2,_=>bg (.slice a16 (cm (pX s)).length c16) 16 (old VK)
   | 3,_=>Rw _ _ _ 169 (af 2)
   | 4,_=>eQ .i64 (((cm (pX s)).length:Nat):Int) 0 false gV 170 (af 3)
   | 5,_=>Fl false false true rfl 168 171 (af 1) (af 4)
   | 6,_=>bg (.bool true) 172 (af 5)
   | 7,_=>bg (.int .i64 6) 15 (old RH) (hw:=ai 6 (af 6))
   | 8,_=>eQ .i64 6 0 false rfl 174 (af 7) (hw:=ai 6 (af 6))
   | 9,_=>bg (.bool false) 175 (af 8) (hw:=ai 6 (af 6))
   | 10,_=>bg (.int .i64 6) 15 (old RH) (hw:=ai 9 (af 9))
   | 11,_=>eQ .i64 6 6 true rfl 177 (af 10) (hw:=ai 9 (af 9))
   | 12,_=>fU (.bool true) (.bool true) 176 178 (af 9) (af 11) (hw:=ai 6 (af 6))
   | 13,_=>pz (.bool false) (.bool true) 173 179 (af 6) (af 12)
   | 14,_=>bg (.bool true) 180 (af 13)
   | 15,_=>Il _ 16 _ S16 cq (old VK) (hw:=ai 14 (af 14))
   | 16,_=>cB _ _ 3 F3.box (fun h=>h) (F3.at cq) (old F3.slot) (hw:=ai 14 (af 14))
   | 17,_=>eb hL _ 183 (af 16) (hw:=ai 14 (af 14))
   | 18,_=>kz 3 [] [s] 184 (af 17) (hw:=ai 14 (af 14))
   | 19,_=>AT _ qh 185 hL (af 18) (hw:=ai 14 (af 14)) (hp:=by rw[<-zbQ];rfl)
   | 20,_=>Ik _ _ pS 182 186 (af 15) (af 19) (hw:=ai 14 (af 14)) (hp:=Bu (by simp))
   | 21,_=>pz (.bool false) (.bool true) 181 187 (af 14) (af 20)
   | 22,_=>bq _ 188 (af 21)
   | k+23,hk=>absurd hk (by simp)
  have zd1:=h.sz.trans N7;have YU:=h.df.trans T9;have YV:Below w.heap.size w W33:=aq N8 h.inv.1 (fun _ h=>h.elim)
  replace F3:=F3.next (L':=X0) (h.oK 3) h.inv.1 (fun h=>h) cq Ki
  replace RH:=(h.oK 15).trans RH
  replace VK:=(h.oK 16).trans VK
  clear hT;clear N7 T9 N8;obtain ⟨vz,tr,fz⟩:=h.get 22 _ 6 rfl rfl;obtain rfl:vz=.bool true:=fz;refine RI _ _ ?_;refine wpIn_ret ?_
  try simp only[Exit.then]
  exact pm285
theorem YW (WB w:World) (fw:Tabs WB w) (s:Fm) (bd:Bd) (m ft:Nat) (hP:WrP s bd m ft) (b3 b4:Nat):∀ a W,WrT w m b3 b4 (c9 s ft) (cd bd ft) a W->Code.wpIn Fence.wide 3 Tryz.prog (drC ((Tryz.f5.body).getD .skip) 10) (WrQ w) a W:=by
 rintro a W ⟨hs,hd,HB,t2,⟨q3,F3⟩,⟨q4,B4⟩⟩;have jq:∀ c,bQ c->WB.heap.size<=c:=fun _ h=>h.elim;have cq:∀ c,X0 c->¬bQ c:=fun _ _ h=>h;have hL:∀ {u:World} (c),u.heap.size<=c->X0 c:=fun _ _=>trivial
 by_cases h1:ft=1
 ·have ej:((ft:Int) != 1)=false:=by rw[h1];rfl
  have hT:Tabs WB W:=fw.next (HB);refine bA (fun T' DU=>?_);refine bA (fun RJ xU=>?_);refine aY [aE (.int .u8 (m:Nat)),
   aE (.int .u8 (ft:Nat)),
   aE (.bool false),
   aE (.bool false),
   aE undef,
   aE undef,
   aE undef,
   aE (.bool false)]
   8 8 hs (by kernel_rfl) (fun k hk=>?_) (fun A29 γ YX h=>?_)
  ·exact match k,hk with
   | 0,_=>bg (.int .u8 (m:Nat)) 2 (old t2)
   | 1,_=>gq m 145 (af 0) (hp:=by rw[<-hP.HFT.o];rfl)
   | 2,_=>kr .u8 ((ft:Nat):Int) 1 false ej 146 (af 1)
   | 3,_=>bg (.bool false) 147 (af 2)
   | 4,_=>dv true 3 (af 3)
   | 5,_=>dv true 3 (af 3)
   | 6,_=>dv true 3 (af 3)
   | 7,_=>Fk (.bool false) 148 (af 3)
   | k+8,hk=>absurd hk (by simp)
  have Cu:=h.sz.trans hs;have Is:=h.df.trans hd;have Cv:Below w.heap.size w YX:=aq HB h.inv.1 (fun _ h=>h.elim)
  replace F3:=F3.next (L':=X0) (h.oK 3) h.inv.1 (fun h=>h) cq Ki
  replace B4:=B4.next (L':=X0) (h.oK 4) h.inv.1 (fun h=>h) cq Ki
  replace t2:=(h.oK 2).trans t2
  clear hT;exact pm92
 by_cases h2:ft=2
 ·have ej:((ft:Int) != 1)=true:=by rw[h2];rfl
  have fW:((ft:Int) != 2)=false:=by rw[h2];rfl
  have hT:Tabs WB W:=fw.next (HB);refine bA (fun T' DU=>?_);refine bA (fun RJ xU=>?_);refine aY [aE (.int .u8 (m:Nat)),
   aE (.int .u8 (ft:Nat)),
   aE (.bool true),
   aE (.bool true),
   aE (.int .u8 (m:Nat)),
   aE (.int .u8 (ft:Nat)),
   aE (.bool false),
   aE (.bool false)]
   8 8 hs (by kernel_rfl) (fun k hk=>?_) (fun A29 γ YX h=>?_)
  ·exact match k,hk with
   | 0,_=>bg (.int .u8 (m:Nat)) 2 (old t2)
   | 1,_=>gq m 145 (af 0) (hp:=by rw[<-hP.HFT.o];rfl)
   | 2,_=>kr .u8 ((ft:Nat):Int) 1 true ej 146 (af 1)
   | 3,_=>bg (.bool true) 147 (af 2)
   | 4,_=>bg (.int .u8 (m:Nat)) 2 (old t2) (hw:=ai 3 (af 3))
   | 5,_=>gq m 149 (af 4) (hw:=ai 3 (af 3)) (hp:=by rw[<-hP.HFT.o];rfl)
   | 6,_=>kr .u8 ((ft:Nat):Int) 2 false fW 150 (af 5) (hw:=ai 3 (af 3))
   | 7,_=>pz (.bool false) (.bool false) 148 151 (af 3) (af 6)
   | k+8,hk=>absurd hk (by simp)
  have Cu:=h.sz.trans hs;have Is:=h.df.trans hd;have Cv:Below w.heap.size w YX:=aq HB h.inv.1 (fun _ h=>h.elim)
  replace F3:=F3.next (L':=X0) (h.oK 3) h.inv.1 (fun h=>h) cq Ki
  replace B4:=B4.next (L':=X0) (h.oK 4) h.inv.1 (fun h=>h) cq Ki
  replace t2:=(h.oK 2).trans t2
  clear hT;exact pm92
 have ej:((ft:Int) != 1)=true:=by simp;omega
 have fW:((ft:Int) != 2)=true:=by simp;omega
 have hf8:=hP.hf8;have It:BdFit (cd bd ft):=tw hP.hbd hP.h10 ft;have hT:Tabs WB W:=fw.next (HB);refine bA (fun T' DU=>?_);refine bA (fun RJ xU=>?_);refine aY [aE (.int .u8 (m:Nat)),
  aE (.int .u8 (ft:Nat)),
  aE (.bool true),
  aE (.bool true),
  aE (.int .u8 (m:Nat)),
  aE (.int .u8 (ft:Nat)),
  aE (.bool true),
  aE (.bool true)]
  8 8 hs (by kernel_rfl) (fun k hk=>?_) (fun A29 γ YX h=>?_)
 ·exact match k,hk with
  | 0,_=>bg (.int .u8 (m:Nat)) 2 (old t2)
  | 1,_=>gq m 145 (af 0) (hp:=by rw[<-hP.HFT.o];rfl)
  | 2,_=>kr .u8 ((ft:Nat):Int) 1 true ej 146 (af 1)
  | 3,_=>bg (.bool true) 147 (af 2)
  | 4,_=>bg (.int .u8 (m:Nat)) 2 (old t2) (hw:=ai 3 (af 3))
  | 5,_=>gq m 149 (af 4) (hw:=ai 3 (af 3)) (hp:=by rw[<-hP.HFT.o];rfl)
  | 6,_=>kr .u8 ((ft:Nat):Int) 2 true fW 150 (af 5) (hw:=ai 3 (af 3))
  | 7,_=>pz (.bool false) (.bool true) 148 151 (af 3) (af 6)
  | k+8,hk=>absurd hk (by simp)
 have Cu:=h.sz.trans hs;have Is:=h.df.trans hd;have Cv:Below w.heap.size w YX:=aq HB h.inv.1 (fun _ h=>h.elim)
 replace F3:=F3.next (L':=X0) (h.oK 3) h.inv.1 (fun h=>h) cq Ki
 replace B4:=B4.next (L':=X0) (h.oK 4) h.inv.1 (fun h=>h) cq Ki
 replace t2:=(h.oK 2).trans t2
 clear hT;clear hs hd HB;obtain ⟨vz,tc,fz⟩:=h.get 7 _ 152 rfl rfl;obtain rfl:vz=.bool true:=fz;clear h;refine xU _ _ ?_;clear xU RJ;refine wpIn_cond_true (aG tc) ?_;clear ej fW
 by_cases h0:ft=0
 ·have cg:((ft:Int) == 0)=true:=by rw[h0];rfl
  have mn:validB (cd bd ft)=true:=by rw[pB (by omega)];exact hP.hv
  have hT:Tabs WB YX:=fw.next (Cv);refine bA (fun zd2 RK=>?_);refine aY [bG X0 (cd bd ft),
   aE (.bool true),
   aE (.int .u8 (m:Nat)),
   aE (.int .u8 (ft:Nat)),
   aE (.bool true),
   aE (.bool true),
   aE (.bool true)]
   7 7 Cu (by kernel_rfl) (fun k hk=>?_) (fun A30 γ W30 h=>?_)
  ·exact match k,hk with
   | 0,_=>cZ _ _ 4 B4.box (fun h=>h) (B4.at cq) (old B4.slot)
   | 1,_=>q_ _ It 153 hT jq (af 0) (hp:=Bu mn)
   | 2,_=>bg (.int .u8 (m:Nat)) 2 (old t2)
   | 3,_=>gq m 155 (af 2) (hp:=by rw[<-hP.HFT.o];rfl)
   | 4,_=>eQ .u8 ((ft:Nat):Int) 0 true cg 156 (af 3)
   | 5,_=>Fl true true true rfl 154 157 (af 1) (af 4)
   | 6,_=>bq _ 158 (af 5)
   | k+7,hk=>absurd hk (by simp)
  have zd3:=h.sz.trans Cu;have YY:=h.df.trans Is;have YZ:Below w.heap.size w W30:=aq Cv h.inv.1 (fun _ h=>h.elim)
  replace F3:=F3.next (L':=X0) (h.oK 3) h.inv.1 (fun h=>h) cq Ki
  replace B4:=B4.next (L':=X0) (h.oK 4) h.inv.1 (fun h=>h) cq Ki
  replace t2:=(h.oK 2).trans t2
  clear hT;clear Cu Is Cv;obtain ⟨vz,tr,fz⟩:=h.get 6 _ 6 rfl rfl;obtain rfl:vz=.bool true:=fz;refine RK _ _ ?_;refine wpIn_ret ?_
  try simp only[Exit.then]
  exact pm286
 ·have cg:((ft:Int) == 0)=false:=by simpa using h0
  have mn:validB (cd bd ft)=false:=wO (by omega) hf8;have hT:Tabs WB YX:=fw.next (Cv);refine bA (fun zd2 RK=>?_);refine aY [bG X0 (cd bd ft),
   aE (.bool false),
   aE (.int .u8 (m:Nat)),
   aE (.int .u8 (ft:Nat)),
   aE (.bool false),
   aE (.bool true),
   aE (.bool true)]
   7 7 Cu (by kernel_rfl) (fun k hk=>?_) (fun A30 γ W30 h=>?_)
  ·exact match k,hk with
   | 0,_=>cZ _ _ 4 B4.box (fun h=>h) (B4.at cq) (old B4.slot)
   | 1,_=>q_ _ It 153 hT jq (af 0) (hp:=Bu mn)
   | 2,_=>bg (.int .u8 (m:Nat)) 2 (old t2)
   | 3,_=>gq m 155 (af 2) (hp:=by rw[<-hP.HFT.o];rfl)
   | 4,_=>eQ .u8 ((ft:Nat):Int) 0 false cg 156 (af 3)
   | 5,_=>Fl false false true rfl 154 157 (af 1) (af 4)
   | 6,_=>bq _ 158 (af 5)
   | k+7,hk=>absurd hk (by simp)
  have zd3:=h.sz.trans Cu;have YY:=h.df.trans Is;have YZ:Below w.heap.size w W30:=aq Cv h.inv.1 (fun _ h=>h.elim)
  replace F3:=F3.next (L':=X0) (h.oK 3) h.inv.1 (fun h=>h) cq Ki
  replace B4:=B4.next (L':=X0) (h.oK 4) h.inv.1 (fun h=>h) cq Ki
  replace t2:=(h.oK 2).trans t2
  clear hT;clear Cu Is Cv;obtain ⟨vz,tr,fz⟩:=h.get 6 _ 6 rfl rfl;obtain rfl:vz=.bool true:=fz;refine RK _ _ ?_;refine wpIn_ret ?_
  try simp only[Exit.then]
  exact pm286
theorem zbS (WB w:World) (fw:Tabs WB w) (s:Fm) (bd:Bd) (m ft:Nat) (hP:WrP s bd m ft) (ri b3 b4 b8:Nat):∀ a W,WrJ w m ri b3 b4 b8 (c9 s ft) (cd bd ft) a W->Code.wpIn Fence.wide 3 Tryz.prog (drC ((Tryz.f5.body).getD .skip) 8) (WrQ w) a W:=by
 rintro a W ⟨hs,hd,HB,t2,t9,t10,t11,⟨q3,F3⟩,⟨q4,B4⟩,⟨q8,B8⟩⟩;have jq:∀ c,bQ c->WB.heap.size<=c:=fun _ h=>h.elim;have cq:∀ c,X0 c->¬bQ c:=fun _ _ h=>h;have hL:∀ {u:World} (c),u.heap.size<=c->X0 c:=fun _ _=>trivial;obtain ⟨fg,eg,LK⟩:∃fg eg,kQ (c9 s ft) (cd bd ft)=(fg,eg):=⟨_,_,rfl⟩;have RL:fitF (c9 s ft):=Bc hP.hfs hP.hsc ft;have It:BdFit (cd bd ft):=tw hP.hbd hP.h10 ft;have hT:Tabs WB W:=fw.next (HB);refine bA (fun zd4 VL=>?_);refine aY [aI X0 (c9 s ft),
  bG X0 (cd bd ft),
  iy (aI X0 fg) [.int .i64 eg],
  iy (aI X0 fg) [.int .i64 eg],
  aI X0 fg,
  aE (.int .i64 eg),
  mP #[.int .u8 0,.string ⟨#[]⟩,.slice none 0 0,.slice none 0 0] 36,
  gL (aI X0 fg) 36,
  aE (.int .i64 eg)]
  6 7 hs (by kernel_rfl) (fun k hk=>?_) (fun A26 γ W26 h=>?_)
 ·exact match k,hk with
  | 0,_=>cB _ _ 3 F3.box (fun h=>h) (F3.at cq) (old F3.slot)
  | 1,_=>cZ _ _ 4 B4.box (fun h=>h) (B4.at cq) (old B4.slot)
  | 2,_=>uV _ _ _ _ LK RL It 107 108 hT jq hL (af 0) (af 1)
  | 3,_=>bP _ 109 (af 2)
  | 4,_=>ia _ _ 106 (af 3)
  | 5,_=>gY (aI X0 fg) [.int .i64 eg] 0 (.int .i64 eg) rfl 106 (af 3)
  | 6,_=>gT rfl
  | 7,_=>gU _ 12 110 rfl (af 6) (af 4)
  | 8,_=>bq _ 111 (af 5)
  | k+9,hk=>absurd hk (by simp)
 have Ft:=h.sz.trans hs;have N9:=h.df.trans hd;have Fu:Below w.heap.size w W26:=aq HB h.inv.1 (fun _ h=>h.elim)
 replace F3:=F3.next (L':=X0) (h.oK 3) h.inv.1 (fun h=>h) cq Ki
 replace B4:=B4.next (L':=X0) (h.oK 4) h.inv.1 (fun h=>h) cq Ki
 replace B8:=B8.next (L':=X0) (h.oK 8) h.inv.1 (fun h=>h) cq Ki
 replace t2:=(h.oK 2).trans t2
 replace t9:=(h.oK 9).trans t9
 replace t10:=(h.oK 10).trans t10
 replace t11:=(h.oK 11).trans t11
 obtain ⟨vz,tz,fz⟩:=h.get 6 _ 12 rfl rfl;obtain ⟨b12,q12,lz,_⟩:=nA tz fz (h.did 7 _ rfl rfl) h.inv;have T_:=lz.next (L':=X0) rfl (Kp.refl (M:=bQ) _) (fun h=>h) (fun _ _ h=>h) (fun _ h _=>h.1);clear vz tz fz lz;clear hT;clear hs hd HB;obtain ⟨vz,JN,fz⟩:=h.get 8 _ 13 rfl rfl;obtain rfl:vz=.int .i64 eg:=fz;clear h;refine VL _ _ ?_;clear VL zd4;clear RL It
 by_cases h1:ft=1
 ·have ej:((ft:Int) != 1)=false:=by rw[h1];rfl
  have hT:Tabs WB W26:=fw.next (Fu);refine bA (fun zbT Iu=>?_);refine bA (fun zbU Iv=>?_);refine aY [aE (.int .i64 2),
   aE (.bool false),
   aE (.bool false),
   aE (.int .i64 (ri:Nat)),
   aE (.int .i64 (ri:Nat)),
   aE (.bool false),
   aE (.bool false),
   aE (.bool false),
   bG X0 (noneB),
   bG X0 (⟨[],[]⟩),
   aE (.bool true),
   aE (.bool false),
   aE (.bool false),
   aE (.bool false),
   aE (.int .u8 (m:Nat)),
   aE (.int .u8 (ft:Nat)),
   aE (.bool false),
   aE (.bool false),
   aE undef,
   aE undef,
   aE undef,
   aE (.bool false),
   aE (.bool false),
   aE undef,
   aE undef,
   aE undef,
   aE undef,
   aE undef,
   aE undef,
   aE undef,
   aE undef,
   aE (.bool false),
   aE (.bool false)]
   33 33 Ft (by kernel_rfl) (fun k hk=>?_) (fun A27 γ W27 h=>?_)
  ·exact match k,hk with
   | 0,_=>bg (.int .i64 2) 10 (old t10)
   | 1,_=>kr .i64 2 2 false rfl 112 (af 0)
   | 2,_=>bg (.bool false) 113 (af 1)
   | 3,_=>bg (.int .i64 (ri:Nat)) 9 (old t9) (hw:=ai 2 (af 2))
   | 4,_=>bg (.int .i64 (ri:Nat)) 11 (old t11) (hw:=ai 2 (af 2))
   | 5,_=>KL .i64 ((ri:Nat):Int) ((ri:Nat):Int) false (by simp) 115 116 (af 3) (af 4) (hw:=ai 2 (af 2))
   | 6,_=>fU (.bool true) (.bool false) 114 117 (af 2) (af 5)
   | 7,_=>bg (.bool false) 118 (af 6)
   | 8,_=>cZ _ _ 8 B8.box (fun h=>h) (B8.at cq) (old B8.slot) (hw:=ai 7 (af 7))
   | 9,_=>uX (hw:=ai 7 (af 7))
   | 10,_=>AQ _ _ iS 120 121 (af 8) (af 9) (hw:=ai 7 (af 7)) (hp:=Bu (rG.2 rfl))
   | 11,_=>ko true 122 (af 10) (hw:=ai 7 (af 7))
   | 12,_=>fU (.bool true) (.bool false) 119 123 (af 7) (af 11)
   | 13,_=>bg (.bool false) 124 (af 12)
   | 14,_=>bg (.int .u8 (m:Nat)) 2 (old t2) (hw:=ai 13 (af 13))
   | 15,_=>gq m 126 (af 14) (hw:=ai 13 (af 13)) (hp:=by rw[<-hP.HFT.o];rfl)
   | 16,_=>kr .u8 ((ft:Nat):Int) 1 false ej 127 (af 15) (hw:=ai 13 (af 13))
   | 17,_=>bg (.bool false) 128 (af 16) (hw:=ai 13 (af 13))
   | 18,_=>dv true 17 (af 17)
   | 19,_=>dv true 17 (af 17)
   | 20,_=>dv true 17 (af 17)
   | 21,_=>Fk (.bool false) 129 (af 17) (hw:=ai 13 (af 13))
   | 22,_=>bg (.bool false) 133 (af 21) (hw:=ai 13 (af 13))
   | 23,_=>dv true 22 (af 22)
   | 24,_=>dv true 22 (af 22)
   | 25,_=>dv true 22 (af 22)
   | 26,_=>m5 false 25 (af 25)
   | 27,_=>m5 false 25 (af 25)
   | 28,_=>m5 false 25 (af 25)
   | 29,_=>m5 false 25 (af 25)
   | 30,_=>dv true 22 (af 22)
   | 31,_=>Fk (.bool false) 134 (af 22) (hw:=ai 13 (af 13))
   | 32,_=>fU (.bool true) (.bool false) 125 143 (af 13) (af 31)
   | k+33,hk=>absurd hk (by simp)
  have RM:=h.sz.trans Ft;have RN:=h.df.trans N9;have RO:Below w.heap.size w W27:=aq Fu h.inv.1 (fun _ h=>h.elim)
  replace F3:=F3.next (L':=X0) (h.oK 3) h.inv.1 (fun h=>h) cq Ki
  replace B4:=B4.next (L':=X0) (h.oK 4) h.inv.1 (fun h=>h) cq Ki
  replace B8:=B8.next (L':=X0) (h.oK 8) h.inv.1 (fun h=>h) cq Ki
  replace T_:=T_.next (L':=X0) (h.oK 12) h.inv.1 (fun h=>h) cq Ki
  replace t2:=(h.oK 2).trans t2
  replace t9:=(h.oK 9).trans t9
  replace t10:=(h.oK 10).trans t10
  replace t11:=(h.oK 11).trans t11
  replace JN:=(h.oK 13).trans JN
  exact pm77
 by_cases h2:ft=2
 ·have ej:((ft:Int) != 1)=true:=by rw[h2];rfl
  have fW:((ft:Int) != 2)=false:=by rw[h2];rfl
  have hT:Tabs WB W26:=fw.next (Fu);refine bA (fun zbT Iu=>?_);refine bA (fun zbU Iv=>?_);refine aY [aE (.int .i64 2),
   aE (.bool false),
   aE (.bool false),
   aE (.int .i64 (ri:Nat)),
   aE (.int .i64 (ri:Nat)),
   aE (.bool false),
   aE (.bool false),
   aE (.bool false),
   bG X0 (noneB),
   bG X0 (⟨[],[]⟩),
   aE (.bool true),
   aE (.bool false),
   aE (.bool false),
   aE (.bool false),
   aE (.int .u8 (m:Nat)),
   aE (.int .u8 (ft:Nat)),
   aE (.bool true),
   aE (.bool true),
   aE (.int .u8 (m:Nat)),
   aE (.int .u8 (ft:Nat)),
   aE (.bool false),
   aE (.bool false),
   aE (.bool false),
   aE undef,
   aE undef,
   aE undef,
   aE undef,
   aE undef,
   aE undef,
   aE undef,
   aE undef,
   aE (.bool false),
   aE (.bool false)]
   33 33 Ft (by kernel_rfl) (fun k hk=>?_) (fun A27 γ W27 h=>?_)
  ·exact match k,hk with
   | 0,_=>bg (.int .i64 2) 10 (old t10)
   | 1,_=>kr .i64 2 2 false rfl 112 (af 0)
   | 2,_=>bg (.bool false) 113 (af 1)
   | 3,_=>bg (.int .i64 (ri:Nat)) 9 (old t9) (hw:=ai 2 (af 2))
   | 4,_=>bg (.int .i64 (ri:Nat)) 11 (old t11) (hw:=ai 2 (af 2))
   | 5,_=>KL .i64 ((ri:Nat):Int) ((ri:Nat):Int) false (by simp) 115 116 (af 3) (af 4) (hw:=ai 2 (af 2))
   | 6,_=>fU (.bool true) (.bool false) 114 117 (af 2) (af 5)
   | 7,_=>bg (.bool false) 118 (af 6)
   | 8,_=>cZ _ _ 8 B8.box (fun h=>h) (B8.at cq) (old B8.slot) (hw:=ai 7 (af 7))
   | 9,_=>uX (hw:=ai 7 (af 7))
   | 10,_=>AQ _ _ iS 120 121 (af 8) (af 9) (hw:=ai 7 (af 7)) (hp:=Bu (rG.2 rfl))
   | 11,_=>ko true 122 (af 10) (hw:=ai 7 (af 7))
   | 12,_=>fU (.bool true) (.bool false) 119 123 (af 7) (af 11)
   | 13,_=>bg (.bool false) 124 (af 12)
   | 14,_=>bg (.int .u8 (m:Nat)) 2 (old t2) (hw:=ai 13 (af 13))
   | 15,_=>gq m 126 (af 14) (hw:=ai 13 (af 13)) (hp:=by rw[<-hP.HFT.o];rfl)
   | 16,_=>kr .u8 ((ft:Nat):Int) 1 true ej 127 (af 15) (hw:=ai 13 (af 13))
   | 17,_=>bg (.bool true) 128 (af 16) (hw:=ai 13 (af 13))
   | 18,_=>bg (.int .u8 (m:Nat)) 2 (old t2) (hw:=ai 17 (af 17))
   | 19,_=>gq m 130 (af 18) (hw:=ai 17 (af 17)) (hp:=by rw[<-hP.HFT.o];rfl)
   | 20,_=>kr .u8 ((ft:Nat):Int) 2 false fW 131 (af 19) (hw:=ai 17 (af 17))
   | 21,_=>pz (.bool false) (.bool false) 129 132 (af 17) (af 20) (hw:=ai 13 (af 13))
   | 22,_=>bg (.bool false) 133 (af 21) (hw:=ai 13 (af 13))
   | 23,_=>dv true 22 (af 22)
   | 24,_=>dv true 22 (af 22)
   | 25,_=>dv true 22 (af 22)
   | 26,_=>m5 false 25 (af 25)
   | 27,_=>m5 false 25 (af 25)
   | 28,_=>m5 false 25 (af 25)
   | 29,_=>m5 false 25 (af 25)
   | 30,_=>dv true 22 (af 22)
   | 31,_=>Fk (.bool false) 134 (af 22) (hw:=ai 13 (af 13))
   | 32,_=>fU (.bool true) (.bool false) 125 143 (af 13) (af 31)
   | k+33,hk=>absurd hk (by simp)
  have RM:=h.sz.trans Ft;have RN:=h.df.trans N9;have RO:Below w.heap.size w W27:=aq Fu h.inv.1 (fun _ h=>h.elim)
  replace F3:=F3.next (L':=X0) (h.oK 3) h.inv.1 (fun h=>h) cq Ki
  replace B4:=B4.next (L':=X0) (h.oK 4) h.inv.1 (fun h=>h) cq Ki
  replace B8:=B8.next (L':=X0) (h.oK 8) h.inv.1 (fun h=>h) cq Ki
  replace T_:=T_.next (L':=X0) (h.oK 12) h.inv.1 (fun h=>h) cq Ki
  replace t2:=(h.oK 2).trans t2
  replace t9:=(h.oK 9).trans t9
  replace t10:=(h.oK 10).trans t10
  replace t11:=(h.oK 11).trans t11
  replace JN:=(h.oK 13).trans JN
  exact pm77
 have ej:((ft:Int) != 1)=true:=by simp;omega
 have fW:((ft:Int) != 2)=true:=by simp;omega
 have ER:fitF gB:=⟨by decide,by decide⟩;rw[KU hP.hf8 h1 h2]at LK;obtain ⟨rfl,rfl⟩:=Prod.mk.inj LK;clear LK;have hT:Tabs WB W26:=fw.next (Fu);refine bA (fun zbT Iu=>?_);refine bA (fun zbU Iv=>?_);refine aY [aE (.int .i64 2),
  aE (.bool false),
  aE (.bool false),
  aE (.int .i64 (ri:Nat)),
  aE (.int .i64 (ri:Nat)),
  aE (.bool false),
  aE (.bool false),
  aE (.bool false),
  bG X0 (noneB),
  bG X0 (⟨[],[]⟩),
  aE (.bool true),
  aE (.bool false),
  aE (.bool false),
  aE (.bool false),
  aE (.int .u8 (m:Nat)),
  aE (.int .u8 (ft:Nat)),
  aE (.bool true),
  aE (.bool true),
  aE (.int .u8 (m:Nat)),
  aE (.int .u8 (ft:Nat)),
  aE (.bool true),
  aE (.bool true),
  aE (.bool true),
  aE (.int .i64 2),
  aE (.bool false),
  aE (.bool false),
  aI X0 (gB),
  aI X0 gB,
  aE (.bool true),
  aE (.bool false),
  aE (.bool false),
  aE (.bool false),
  aE (.bool false)]
  33 33 Ft (by kernel_rfl) (fun k hk=>?_) (fun A27 γ W27 h=>?_)
 ·exact match k,hk with
  | 0,_=>bg (.int .i64 2) 10 (old t10)
  | 1,_=>kr .i64 2 2 false rfl 112 (af 0)
  | 2,_=>bg (.bool false) 113 (af 1)
  | 3,_=>bg (.int .i64 (ri:Nat)) 9 (old t9) (hw:=ai 2 (af 2))
  | 4,_=>bg (.int .i64 (ri:Nat)) 11 (old t11) (hw:=ai 2 (af 2))
  | 5,_=>KL .i64 ((ri:Nat):Int) ((ri:Nat):Int) false (by simp) 115 116 (af 3) (af 4) (hw:=ai 2 (af 2))
  | 6,_=>fU (.bool true) (.bool false) 114 117 (af 2) (af 5)
  | 7,_=>bg (.bool false) 118 (af 6)
  | 8,_=>cZ _ _ 8 B8.box (fun h=>h) (B8.at cq) (old B8.slot) (hw:=ai 7 (af 7))
  | 9,_=>uX (hw:=ai 7 (af 7))
  | 10,_=>AQ _ _ iS 120 121 (af 8) (af 9) (hw:=ai 7 (af 7)) (hp:=Bu (rG.2 rfl))
  | 11,_=>ko true 122 (af 10) (hw:=ai 7 (af 7))
  | 12,_=>fU (.bool true) (.bool false) 119 123 (af 7) (af 11)
  | 13,_=>bg (.bool false) 124 (af 12)
  | 14,_=>bg (.int .u8 (m:Nat)) 2 (old t2) (hw:=ai 13 (af 13))
  | 15,_=>gq m 126 (af 14) (hw:=ai 13 (af 13)) (hp:=by rw[<-hP.HFT.o];rfl)
  | 16,_=>kr .u8 ((ft:Nat):Int) 1 true ej 127 (af 15) (hw:=ai 13 (af 13))
  | 17,_=>bg (.bool true) 128 (af 16) (hw:=ai 13 (af 13))
  | 18,_=>bg (.int .u8 (m:Nat)) 2 (old t2) (hw:=ai 17 (af 17))
  | 19,_=>gq m 130 (af 18) (hw:=ai 17 (af 17)) (hp:=by rw[<-hP.HFT.o];rfl)
  | 20,_=>kr .u8 ((ft:Nat):Int) 2 true fW 131 (af 19) (hw:=ai 17 (af 17))
  | 21,_=>pz (.bool false) (.bool true) 129 132 (af 17) (af 20) (hw:=ai 13 (af 13))
  | 22,_=>bg (.bool true) 133 (af 21) (hw:=ai 13 (af 13))
  | 23,_=>bg (.int .i64 2) 13 (old JN) (hw:=ai 22 (af 22))
  | 24,_=>kr .i64 2 2 false rfl 135 (af 23) (hw:=ai 22 (af 22))
  | 25,_=>bg (.bool false) 136 (af 24) (hw:=ai 22 (af 22))
  | 26,_=>cB _ _ 12 T_.box (fun h=>h) (T_.at cq) (old T_.slot) (hw:=ai 25 (af 25))
  | 27,_=>Ru (hw:=ai 25 (af 25))
  | 28,_=>uU gB gB ER 138 139 (af 26) (af 27) (hw:=ai 25 (af 25)) (hp:=Bu (KP gB))
  | 29,_=>ko true 140 (af 28) (hw:=ai 25 (af 25))
  | 30,_=>fU (.bool true) (.bool false) 137 141 (af 25) (af 29) (hw:=ai 22 (af 22))
  | 31,_=>pz (.bool false) (.bool false) 134 142 (af 22) (af 30) (hw:=ai 13 (af 13))
  | 32,_=>fU (.bool true) (.bool false) 125 143 (af 13) (af 31)
  | k+33,hk=>absurd hk (by simp)
 have RM:=h.sz.trans Ft;have RN:=h.df.trans N9;have RO:Below w.heap.size w W27:=aq Fu h.inv.1 (fun _ h=>h.elim)
 replace F3:=F3.next (L':=X0) (h.oK 3) h.inv.1 (fun h=>h) cq Ki
 replace B4:=B4.next (L':=X0) (h.oK 4) h.inv.1 (fun h=>h) cq Ki
 replace B8:=B8.next (L':=X0) (h.oK 8) h.inv.1 (fun h=>h) cq Ki
 replace T_:=T_.next (L':=X0) (h.oK 12) h.inv.1 (fun h=>h) cq Ki
 replace t2:=(h.oK 2).trans t2
 replace t9:=(h.oK 9).trans t9
 replace t10:=(h.oK 10).trans t10
 replace t11:=(h.oK 11).trans t11
 replace JN:=(h.oK 13).trans JN
 exact pm77
theorem zd5 (WB w:World) (fw:Tabs WB w) (s:Fm) (bd:Bd) (m ft:Nat) (hP:WrP s bd m ft) (b3 b4 b7:Nat):∀ a W,WrI w (L7 b3 b4 b7) m b3 b4 b7 (c9 s ft) (et ft) (cd bd ft) a W->Code.wpIn Fence.wide 3 Tryz.prog (drC ((Tryz.f5.body).getD .skip) 5) (WrQ w) a W:=by
 rintro a W ⟨hs,hd,HB,t2,⟨q3,F3⟩,⟨q7,F7⟩,⟨q4,B4⟩⟩;have jq:∀ c,bQ c->WB.heap.size<=c:=fun _ h=>h.elim;have cq:∀ c,X0 c->¬bQ c:=fun _ _ h=>h;have hL:∀ {u:World} (c),u.heap.size<=c->X0 c:=fun _ _=>trivial
 replace F3:=F3.weakW
 replace F7:=F7.weakW
 replace B4:=B4.weakW
 have RL:fitF (c9 s ft):=Bc hP.hfs hP.hsc ft;have zbV:fitF (et ft):=KV ft;have It:BdFit (cd bd ft):=tw hP.hbd hP.h10 ft;obtain ⟨ri,E0⟩:∃ri:Nat,ri=if ft<3 then 1 else 0:=⟨_,rfl⟩
 have hM:dq (lU s ft) (cd bd ft)=(noneB,ri,2):=by rw[E0];exact Ct hP.hf8 hP.hv
 have hPf:∀ x∈lU s ft,fitF x.1/\fitF x.2:=KW RL zbV;have hP8:(lU s ft).length<=8:=by simp[lU]
 have hT:Tabs WB W.drew:=fw.next (HB.drew)
 replace F3:=F3.drew
 replace B4:=B4.drew
 replace F7:=F7.drew
 refine bA (fun zd6 VM=>?_);refine iz [aI X0 (.mk 15 [63,81] [] []:Fm),
  aI X0 d8,
  xO X0 (.mk 15 [63,81] [] []:Fm) d8,
  aI X0 (c9 s ft),
  aI X0 (et ft),
  xO X0 (c9 s ft) (et ft),
  E9 X0 (lU s ft),
  bG X0 (cd bd ft),
  iy (bG X0 noneB) [.int .i64 (ri:Nat),.int .i64 2],
  iy (bG X0 noneB) [.int .i64 (ri:Nat),.int .i64 2],
  bG X0 noneB,
  aE (.int .i64 (ri:Nat)),
  aE (.int .i64 2),
  mP #[.slice none 0 0,.slice none 0 0] 26,
  gL (bG X0 noneB) 26,
  aE (.int .i64 (ri:Nat)),
  aE (.int .i64 2)]
  13 14 hs (by kernel_rfl) (by kernel_rfl) (fun k hk=>?_) (fun A22 γ Se h=>?_)
 ·exact match k,hk with
  | 0,_=>AG [63,81]
  | 1,_=>DL YQ
  | 2,_=>m4 _ _ 91 92 (af 0) (af 1)
  | 3,_=>cB _ _ 3 F3.box (fun h=>h) (F3.at cq) (old F3.slot)
  | 4,_=>cB _ _ 7 F7.box (fun h=>h) (F7.at cq) (old F7.slot)
  | 5,_=>m4 _ _ 94 95 (af 3) (af 4)
  | 6,_=>uW hL _ _ _ _ 93 96 (af 2) (af 5)
  | 7,_=>cZ _ _ 4 B4.box (fun h=>h) (B4.at cq) (old B4.slot)
  | 8,_=>pi _ _ _ _ _ hM hP8 hPf It 97 98 hT jq hL (af 6) (af 7)
  | 9,_=>bP _ 99 (af 8)
  | 10,_=>ia _ _ 90 (af 9)
  | 11,_=>gY (bG X0 noneB) [.int .i64 (ri:Nat),.int .i64 2] 0 (.int .i64 (ri:Nat)) rfl 90 (af 9)
  | 12,_=>gY (bG X0 noneB) [.int .i64 (ri:Nat),.int .i64 2] 1 (.int .i64 2) rfl 90 (af 9)
  | 13,_=>ot rfl
  | 14,_=>ov _ 8 100 rfl (af 13) (af 10)
  | 15,_=>bq _ 101 (af 11)
  | 16,_=>bq _ 102 (af 12)
  | k+17,hk=>absurd hk (by simp)
 have NR:=h.sz.trans hs;have TX:=h.df.trans hd;have NS:Below w.heap.size w Se:=aq HB.drew h.inv.1 (fun _ h=>h.elim)
 replace F3:=F3.next (L':=X0) (h.oK 3) h.inv.1 (fun h=>h) cq Ki
 replace B4:=B4.next (L':=X0) (h.oK 4) h.inv.1 (fun h=>h) cq Ki
 replace F7:=F7.next (L':=X0) (h.oK 7) h.inv.1 (fun h=>h) cq Ki
 replace t2:=(h.oK 2).trans t2
 obtain ⟨vz,tz,fz⟩:=h.get 13 _ 8 rfl rfl;obtain ⟨b8,q8,lz,_⟩:=AI tz fz (h.did 14 _ rfl rfl) h.inv;have B8:=lz.next (L':=X0) rfl (Kp.refl (M:=bQ) _) (fun h=>h) (fun _ _ h=>h) (fun _ h _=>h.1);clear vz tz fz lz;clear hT;clear hs hd HB;obtain ⟨vz,t9,fz⟩:=h.get 15 _ 9 rfl rfl;obtain rfl:vz=.int .i64 (ri:Nat):=fz;obtain ⟨vz,t10,fz⟩:=h.get 16 _ 10 rfl rfl;obtain rfl:vz=.int .i64 2:=fz;clear h F7 hM hPf hP8 RL zbV It;refine VM _ _ ?_;clear VM zd6;have hT:Tabs WB Se:=fw.next (NS);refine bA (fun zd7 VN=>?_);refine aY [aE (.int .i64 0)]
  1 1 NR (by kernel_rfl) (fun k hk=>?_) (fun A23 γ YI h=>?_)
 ·exact match k,hk with
  | 0,_=>th rfl (.int .i64 0) (fun _ _=>by go_simp)
  | k+1,hk=>absurd hk (by simp)
 have KD:=h.sz.trans NR;have NT:=h.df.trans TX;have Ig:Below w.heap.size w YI:=aq NS h.inv.1 (fun _ h=>h.elim)
 replace F3:=F3.next (L':=X0) (h.oK 3) h.inv.1 (fun h=>h) cq Ki
 replace B4:=B4.next (L':=X0) (h.oK 4) h.inv.1 (fun h=>h) cq Ki
 replace B8:=B8.next (L':=X0) (h.oK 8) h.inv.1 (fun h=>h) cq Ki
 replace t2:=(h.oK 2).trans t2
 replace t9:=(h.oK 9).trans t9
 replace t10:=(h.oK 10).trans t10
 clear hT;clear NR TX NS;obtain ⟨vz,t11,fz⟩:=h.get 0 _ 11 rfl rfl;obtain rfl:vz=.int .i64 0:=fz;clear h;refine VN _ _ ?_;clear VN zd7
 by_cases h3:ft<3
 ·have ej:decide ((ft:Int)<3)=true:=by simp;omega
  rw[aX h3]at E0;have hT:Tabs WB YI:=fw.next (Ig);refine bA (fun zd8 RP=>?_);refine bA (fun Y0 Iw=>?_);refine aY [aE (.int .u8 (m:Nat)),
   aE (.int .u8 (ft:Nat)),
   aE (.bool true)]
   3 3 KD (by kernel_rfl) (fun k hk=>?_) (fun A24 γ W24 h=>?_)
  ·exact match k,hk with
   | 0,_=>bg (.int .u8 (m:Nat)) 2 (old t2)
   | 1,_=>gq m 103 (af 0) (hp:=by rw[<-hP.HFT.o];rfl)
   | 2,_=>Rv .u8 ((ft:Nat):Int) 3 true ej 104 (af 1)
   | k+3,hk=>absurd hk (by simp)
  have RQ:=h.sz.trans KD;have Ua:=h.df.trans NT;have RR:Below w.heap.size w W24:=aq Ig h.inv.1 (fun _ h=>h.elim)
  replace F3:=F3.next (L':=X0) (h.oK 3) h.inv.1 (fun h=>h) cq Ki
  replace B4:=B4.next (L':=X0) (h.oK 4) h.inv.1 (fun h=>h) cq Ki
  replace B8:=B8.next (L':=X0) (h.oK 8) h.inv.1 (fun h=>h) cq Ki
  replace t2:=(h.oK 2).trans t2
  replace t9:=(h.oK 9).trans t9
  replace t10:=(h.oK 10).trans t10
  replace t11:=(h.oK 11).trans t11
  clear hT;clear KD NT Ig;obtain ⟨vz,tc,fz⟩:=h.get 2 _ 105 rfl rfl;obtain rfl:vz=.bool true:=fz;clear h;refine Iw _ _ ?_;clear Iw Y0;refine wpIn_cond_true (aG tc) ?_;have hT:Tabs WB W24:=fw.next (RR);refine aY [aE (.int .i64 1)]
   1 1 RQ (by kernel_rfl) (fun k hk=>?_) (fun A25 γ W25 h=>?_)
  ·exact match k,hk with
   | 0,_=>th rfl (.int .i64 1) (fun _ _=>by go_simp)
   | k+1,hk=>absurd hk (by simp)
  have zd9:=h.sz.trans RQ;have zea:=h.df.trans Ua;have zeb:Below w.heap.size w W25:=aq RR h.inv.1 (fun _ h=>h.elim)
  replace F3:=F3.next (L':=X0) (h.oK 3) h.inv.1 (fun h=>h) cq Ki
  replace B4:=B4.next (L':=X0) (h.oK 4) h.inv.1 (fun h=>h) cq Ki
  replace B8:=B8.next (L':=X0) (h.oK 8) h.inv.1 (fun h=>h) cq Ki
  replace t2:=(h.oK 2).trans t2
  replace t9:=(h.oK 9).trans t9
  replace t10:=(h.oK 10).trans t10
  clear hT;clear RQ Ua RR;obtain ⟨vz,t11,fz⟩:=h.get 0 _ 11 rfl rfl;obtain rfl:vz=.int .i64 1:=fz;subst E0
  try simp only[Exit.then]
  refine RP _ _ ?_;exact zbS WB w fw s bd m ft hP 1 b3 b4 b8 _ _ ⟨zd9,zea,zeb,t2,t9,t10,t11,⟨_,F3⟩,⟨_,B4⟩,⟨_,B8⟩⟩
 ·have ej:decide ((ft:Int)<3)=false:=by simp;omega
  rw[aD h3]at E0;have hT:Tabs WB YI:=fw.next (Ig);refine bA (fun zd8 RP=>?_);refine bA (fun Y0 Iw=>?_);refine aY [aE (.int .u8 (m:Nat)),
   aE (.int .u8 (ft:Nat)),
   aE (.bool false)]
   3 3 KD (by kernel_rfl) (fun k hk=>?_) (fun A24 γ W24 h=>?_)
  ·exact match k,hk with
   | 0,_=>bg (.int .u8 (m:Nat)) 2 (old t2)
   | 1,_=>gq m 103 (af 0) (hp:=by rw[<-hP.HFT.o];rfl)
   | 2,_=>Rv .u8 ((ft:Nat):Int) 3 false ej 104 (af 1)
   | k+3,hk=>absurd hk (by simp)
  have RQ:=h.sz.trans KD;have Ua:=h.df.trans NT;have RR:Below w.heap.size w W24:=aq Ig h.inv.1 (fun _ h=>h.elim)
  replace F3:=F3.next (L':=X0) (h.oK 3) h.inv.1 (fun h=>h) cq Ki
  replace B4:=B4.next (L':=X0) (h.oK 4) h.inv.1 (fun h=>h) cq Ki
  replace B8:=B8.next (L':=X0) (h.oK 8) h.inv.1 (fun h=>h) cq Ki
  replace t2:=(h.oK 2).trans t2
  replace t9:=(h.oK 9).trans t9
  replace t10:=(h.oK 10).trans t10
  replace t11:=(h.oK 11).trans t11
  clear hT;clear KD NT Ig;obtain ⟨vz,tc,fz⟩:=h.get 2 _ 105 rfl rfl;obtain rfl:vz=.bool false:=fz;clear h;refine Iw _ _ ?_;clear Iw Y0;refine wpIn_cond_false (aG tc) (wpIn_skip ?_);subst E0;refine RP _ _ ?_;exact zbS WB w fw s bd m ft hP 0 b3 b4 b8 _ _ ⟨RQ,Ua,RR,t2,t9,t10,t11,⟨_,F3⟩,⟨_,B4⟩,⟨_,B8⟩⟩
theorem N' (WB:World) (s:Fm) (bd:Bd) (m:Nat) (hfs:fitF s) (hb1:bd.fs.length<=1000000) (bF:bd.ts.length<=1000000) (tD:bd.fs.length<=10->bd.ts.length<=10->fitFs (kn bd.fs ++ ld bd.ts)) (ok ok':Nat->Prop) (w:World) (fw:Tabs WB w) (q:FQ) (qb:BQ) (hq:FormV ok w q.val s) (hb:BindV ok' w qb bd) :
  Calls Tryz.prog 5 #[q.val,qb.val,.int .u8 (m:Nat)] w fun e w'=>e=.returned (.bool true)/\Below w.heap.size w w':=by
 obtain ⟨W2,bl⟩:=ao ((w.alloc (.cells #[.int .u8 q.o,.string q.n,.slice q.a q.l q.c,.slice q.b q.m q.e] 36)).alloc (.cells #[.slice qb.a qb.l qb.c,.slice qb.b qb.m qb.e] 26));have HB:=lB bl;have hx:=rV bl;have hy:=jC bl;obtain ⟨b3,aJ⟩:=ao w.heap.size;obtain ⟨b4,aP⟩:=ao (w.heap.size+1);have hvf:FormV (okS (L4 b3 b4) W2) W2 q.val s:=((hq.lt).later HB).move (fun c h hlt=>⟨⟨⟨by omega,by omega⟩,hlt⟩,rfl⟩);have hqw:BindV (fun b=>b<w.heap.size) w qb bd:=hb.move (fun _ _ h=>⟨h,rfl⟩);have hvb:BindV (okS (L4 b3 b4) W2) W2 qb bd:=(hqw.later HB).move (fun c h hlt=>⟨⟨⟨by omega,by omega⟩,hlt⟩,rfl⟩);clear hq hb hqw;simp only[FQ.val,BQ.val];refine mM Tryz.func5 ?_;simp only[Tryz.ntmps5,Nat.reduceAdd,Nat.reduceSub,li];refine bA (fun K hK=>?_);refine wpIn_region_lit ?_
 iterate 10 gi_step
 refine hK _ _ ?_;rw[<-bl];refine (fun (A:Act) (hs:A.tmps.size=189) (hd:A.defers=[]) (t2:A.tmps[2]?=some (.int .u8 (m:Nat))) (t3:A.tmps[3]?=some (ptr w.heap.size)) (t4:A.tmps[4]?=some (ptr (w.heap.size+1)))=>?_:∀ A:Act,A.tmps.size=189->A.defers=[]->A.tmps[2]?=some (.int .u8 (m:Nat))->A.tmps[3]?=some (ptr w.heap.size)->A.tmps[4]?=some (ptr (w.heap.size+1))->Code.wpIn Fence.wide 3 _ _ _ A W2) _ rfl rfl rfl rfl rfl;clear hK K;rw[<-aJ]at t3 hx;rw[<-aP]at t4 hy;have Z2:b3≠b4:=by omega
 have U_:w.heap.size<=b3:=by omega
 have Tb:w.heap.size<=b4:=by omega
 have F3:LF (L4 b3 b4) A W2 3 b3 q s:=⟨t3,hx,hvf⟩;have B4:LB (L4 b3 b4) A W2 4 b4 qb bd:=⟨t4,hy,hvb⟩;clear t3 t4 hx hy hvf hvb bl aJ aP;have jq:∀ c,bQ c->WB.heap.size<=c:=fun _ h=>h.elim;have cq:∀ c,X0 c->¬bQ c:=fun _ _ h=>h;have hL:∀ {u:World} (c),u.heap.size<=c->X0 c:=fun _ _=>trivial;have ug:fitFs [s]:=⟨by simp only[nodesFs];have:=hfs.1;omega,by simp[nmFs,hfs.2]⟩;have hT:Tabs WB W2:=fw.next (HB);refine bA (fun K1a zbW=>?_);refine bA (fun K1b zbX=>?_);refine aY [aE (.bool true),
  aE (.bool false)]
  2 2 hs (by kernel_rfl) (fun k hk=>?_) (fun A1 γ W1 h=>?_)
 ·exact match k,hk with
  | 0,_=>Ro hT jq
  | 1,_=>ko true 17 (af 0)
  | k+2,hk=>absurd hk (by simp)
 have gx:=h.sz.trans hs;have Oz:=h.df.trans hd;have dO:Below w.heap.size w W1:=aq HB h.inv.1 (fun _ h=>h.elim)
 replace F3:=F3.next (L':=(L4 b3 b4)) (h.oK 3) h.inv.1 (fun h=>h) (fun _ _ h=>h) Ki
 replace B4:=B4.next (L':=(L4 b3 b4)) (h.oK 4) h.inv.1 (fun h=>h) (fun _ _ h=>h) Ki
 replace t2:=(h.oK 2).trans t2
 clear hT;clear hs hd HB;obtain ⟨vz,tc,fz⟩:=h.get 1 _ 18 rfl rfl;obtain rfl:vz=.bool false:=fz;clear h;refine zbX _ _ ?_;refine wpIn_cond_false (aG tc) (wpIn_skip ?_);refine zbW _ _ ?_;clear zbW zbX K1a K1b tc
 by_cases Hn:ls [s]=true
 case neg=>
  have Hn:ls [s]=false:=by simpa using Hn
  have hT:Tabs WB W1:=fw.next (dO);refine bA (fun K3a N_=>?_);refine bA (fun K3b Cw=>?_);refine aY [aI X0 (s),
   eP X0 [s],
   aE (.bool false),
   aE (.bool true),
   aE (.bool true),
   aE undef,
   aE undef,
   aE undef,
   aE (.bool true),
   aE (.bool true),
   aE undef,
   aE undef,
   aE undef,
   aE (.bool true),
   aE (.bool true),
   aE undef,
   aE undef,
   aE undef,
   aE (.bool true)]
   19 19 gx (by kernel_rfl) (fun k hk=>?_) (fun A3 γ W3 h=>?_)
  ·exact match k,hk with
   | 0,_=>cB _ _ 3 F3.weakW.box (fun h=>h) (F3.weakW.at cq) (old F3.slot)
   | 1,_=>eb hL _ 19 (af 0)
   | 2,_=>rg [s] ug 20 (af 1) (hp:=Bu Hn)
   | 3,_=>ko false 21 (af 2)
   | 4,_=>bg (.bool true) 22 (af 3)
   | 5,_=>dv false 4 (af 4)
   | 6,_=>dv false 4 (af 4)
   | 7,_=>dv false 4 (af 4)
   | 8,_=>tj (.bool true) 23 (af 4)
   | 9,_=>bg (.bool true) 27 (af 8)
   | 10,_=>dv false 9 (af 9)
   | 11,_=>dv false 9 (af 9)
   | 12,_=>dv false 9 (af 9)
   | 13,_=>tj (.bool true) 28 (af 9)
   | 14,_=>bg (.bool true) 32 (af 13)
   | 15,_=>dv false 14 (af 14)
   | 16,_=>dv false 14 (af 14)
   | 17,_=>dv false 14 (af 14)
   | 18,_=>tj (.bool true) 33 (af 14)
   | k+19,hk=>absurd hk (by simp)
  have nE:=h.sz.trans gx;have FA:=h.df.trans Oz;have bM:Below w.heap.size w W3:=aq dO h.inv.1 (fun _ h=>h.elim)
  replace F3:=F3.next (L':=(L4 b3 b4)) (h.oK 3) h.inv.1 (fun h=>h) (fun _ _ h=>h) Ki
  replace B4:=B4.next (L':=(L4 b3 b4)) (h.oK 4) h.inv.1 (fun h=>h) (fun _ _ h=>h) Ki
  replace t2:=(h.oK 2).trans t2
  clear hT;clear gx Oz dO;obtain ⟨vz,tc,fz⟩:=h.get 18 _ 37 rfl rfl;obtain rfl:vz=.bool true:=fz;clear h;refine Cw _ _ ?_;refine wpIn_cond_true (aG tc) ?_;have hT:Tabs WB W3:=fw.next (bM);refine bA (fun K4a KY=>?_);refine aY [aE (.bool true)]
   1 1 nE (by kernel_rfl) (fun k hk=>?_) (fun A4 γ W4 h=>?_)
  ·exact match k,hk with
   | 0,_=>th rfl (.bool true) (fun _ _=>by go_simp)
   | k+1,hk=>absurd hk (by simp)
  have wh:=h.sz.trans nE;have Mw:=h.df.trans FA;have eL:Below w.heap.size w W4:=aq bM h.inv.1 (fun _ h=>h.elim)
  replace F3:=F3.next (L':=(L4 b3 b4)) (h.oK 3) h.inv.1 (fun h=>h) (fun _ _ h=>h) Ki
  replace B4:=B4.next (L':=(L4 b3 b4)) (h.oK 4) h.inv.1 (fun h=>h) (fun _ _ h=>h) Ki
  replace t2:=(h.oK 2).trans t2
  clear hT;clear nE FA bM;obtain ⟨vz,tr,fz⟩:=h.get 0 _ 6 rfl rfl;obtain rfl:vz=.bool true:=fz;refine KY _ _ ?_;refine wpIn_ret ?_
  try simp only[Exit.then]
  exact pm117
 by_cases xf:mG bd=true
 case neg=>
  have xf:mG bd=false:=by simpa using xf
  have hT:Tabs WB W1:=fw.next (dO);refine bA (fun K3a N_=>?_);refine bA (fun K3b Cw=>?_);refine aY [aI X0 (s),
   eP X0 [s],
   aE (.bool true),
   aE (.bool false),
   aE (.bool false),
   bG X0 (bd),
   aE (.bool false),
   aE (.bool true),
   aE (.bool true),
   aE (.bool true),
   aE undef,
   aE undef,
   aE undef,
   aE (.bool true),
   aE (.bool true),
   aE undef,
   aE undef,
   aE undef,
   aE (.bool true)]
   19 19 gx (by kernel_rfl) (fun k hk=>?_) (fun A3 γ W3 h=>?_)
  ·exact match k,hk with
   | 0,_=>cB _ _ 3 F3.weakW.box (fun h=>h) (F3.weakW.at cq) (old F3.slot)
   | 1,_=>eb hL _ 19 (af 0)
   | 2,_=>rg [s] ug 20 (af 1) (hp:=Bu Hn)
   | 3,_=>ko true 21 (af 2)
   | 4,_=>bg (.bool false) 22 (af 3)
   | 5,_=>cZ _ _ 4 B4.weakW.box (fun h=>h) (B4.weakW.at cq) (old B4.slot) (hw:=ai 4 (af 4))
   | 6,_=>rH bd hb1 bF tD 24 (af 5) (hw:=ai 4 (af 4)) (hp:=Bu xf)
   | 7,_=>ko false 25 (af 6) (hw:=ai 4 (af 4))
   | 8,_=>fU (.bool true) (.bool true) 23 26 (af 4) (af 7)
   | 9,_=>bg (.bool true) 27 (af 8)
   | 10,_=>dv false 9 (af 9)
   | 11,_=>dv false 9 (af 9)
   | 12,_=>dv false 9 (af 9)
   | 13,_=>tj (.bool true) 28 (af 9)
   | 14,_=>bg (.bool true) 32 (af 13)
   | 15,_=>dv false 14 (af 14)
   | 16,_=>dv false 14 (af 14)
   | 17,_=>dv false 14 (af 14)
   | 18,_=>tj (.bool true) 33 (af 14)
   | k+19,hk=>absurd hk (by simp)
  have nE:=h.sz.trans gx;have FA:=h.df.trans Oz;have bM:Below w.heap.size w W3:=aq dO h.inv.1 (fun _ h=>h.elim)
  replace F3:=F3.next (L':=(L4 b3 b4)) (h.oK 3) h.inv.1 (fun h=>h) (fun _ _ h=>h) Ki
  replace B4:=B4.next (L':=(L4 b3 b4)) (h.oK 4) h.inv.1 (fun h=>h) (fun _ _ h=>h) Ki
  replace t2:=(h.oK 2).trans t2
  clear hT;clear gx Oz dO;obtain ⟨vz,tc,fz⟩:=h.get 18 _ 37 rfl rfl;obtain rfl:vz=.bool true:=fz;clear h;refine Cw _ _ ?_;refine wpIn_cond_true (aG tc) ?_;have hT:Tabs WB W3:=fw.next (bM);refine bA (fun K4a KY=>?_);refine aY [aE (.bool true)]
   1 1 nE (by kernel_rfl) (fun k hk=>?_) (fun A4 γ W4 h=>?_)
  ·exact match k,hk with
   | 0,_=>th rfl (.bool true) (fun _ _=>by go_simp)
   | k+1,hk=>absurd hk (by simp)
  have wh:=h.sz.trans nE;have Mw:=h.df.trans FA;have eL:Below w.heap.size w W4:=aq bM h.inv.1 (fun _ h=>h.elim)
  replace F3:=F3.next (L':=(L4 b3 b4)) (h.oK 3) h.inv.1 (fun h=>h) (fun _ _ h=>h) Ki
  replace B4:=B4.next (L':=(L4 b3 b4)) (h.oK 4) h.inv.1 (fun h=>h) (fun _ _ h=>h) Ki
  replace t2:=(h.oK 2).trans t2
  clear hT;clear nE FA bM;obtain ⟨vz,tr,fz⟩:=h.get 0 _ 6 rfl rfl;obtain rfl:vz=.bool true:=fz;refine KY _ _ ?_;refine wpIn_ret ?_
  try simp only[Exit.then]
  exact pm117
 have rT:bd.fs.length<=10/\bd.ts.length<=10:=by
  simp only[mG,ae,bw]at xf;exact ⟨xf.1,xf.2.1⟩
 have hbd:BdFit bd:=(KO xf (tD rT.1 rT.2)).1
 by_cases hsc:schemaF s=true
 case neg=>
  have hsc:schemaF s=false:=by simpa using hsc
  have hT:Tabs WB W1:=fw.next (dO);refine bA (fun K3a N_=>?_);refine bA (fun K3b Cw=>?_);refine aY [aI X0 (s),
   eP X0 [s],
   aE (.bool true),
   aE (.bool false),
   aE (.bool false),
   bG X0 (bd),
   aE (.bool true),
   aE (.bool false),
   aE (.bool false),
   aE (.bool false),
   aI X0 (s),
   aE (.bool false),
   aE (.bool true),
   aE (.bool true),
   aE (.bool true),
   aE undef,
   aE undef,
   aE undef,
   aE (.bool true)]
   19 19 gx (by kernel_rfl) (fun k hk=>?_) (fun A3 γ W3 h=>?_)
  ·exact match k,hk with
   | 0,_=>cB _ _ 3 F3.weakW.box (fun h=>h) (F3.weakW.at cq) (old F3.slot)
   | 1,_=>eb hL _ 19 (af 0)
   | 2,_=>rg [s] ug 20 (af 1) (hp:=Bu Hn)
   | 3,_=>ko true 21 (af 2)
   | 4,_=>bg (.bool false) 22 (af 3)
   | 5,_=>cZ _ _ 4 B4.weakW.box (fun h=>h) (B4.weakW.at cq) (old B4.slot) (hw:=ai 4 (af 4))
   | 6,_=>rH bd hb1 bF tD 24 (af 5) (hw:=ai 4 (af 4)) (hp:=Bu xf)
   | 7,_=>ko true 25 (af 6) (hw:=ai 4 (af 4))
   | 8,_=>fU (.bool true) (.bool false) 23 26 (af 4) (af 7)
   | 9,_=>bg (.bool false) 27 (af 8)
   | 10,_=>cB _ _ 3 F3.weakW.box (fun h=>h) (F3.weakW.at cq) (old F3.slot) (hw:=ai 9 (af 9))
   | 11,_=>wL s hfs 29 hT jq (af 10) (hw:=ai 9 (af 9)) (hp:=Bu hsc)
   | 12,_=>ko false 30 (af 11) (hw:=ai 9 (af 9))
   | 13,_=>fU (.bool true) (.bool true) 28 31 (af 9) (af 12)
   | 14,_=>bg (.bool true) 32 (af 13)
   | 15,_=>dv false 14 (af 14)
   | 16,_=>dv false 14 (af 14)
   | 17,_=>dv false 14 (af 14)
   | 18,_=>tj (.bool true) 33 (af 14)
   | k+19,hk=>absurd hk (by simp)
  have nE:=h.sz.trans gx;have FA:=h.df.trans Oz;have bM:Below w.heap.size w W3:=aq dO h.inv.1 (fun _ h=>h.elim)
  replace F3:=F3.next (L':=(L4 b3 b4)) (h.oK 3) h.inv.1 (fun h=>h) (fun _ _ h=>h) Ki
  replace B4:=B4.next (L':=(L4 b3 b4)) (h.oK 4) h.inv.1 (fun h=>h) (fun _ _ h=>h) Ki
  replace t2:=(h.oK 2).trans t2
  clear hT;clear gx Oz dO;obtain ⟨vz,tc,fz⟩:=h.get 18 _ 37 rfl rfl;obtain rfl:vz=.bool true:=fz;clear h;refine Cw _ _ ?_;refine wpIn_cond_true (aG tc) ?_;have hT:Tabs WB W3:=fw.next (bM);refine bA (fun K4a KY=>?_);refine aY [aE (.bool true)]
   1 1 nE (by kernel_rfl) (fun k hk=>?_) (fun A4 γ W4 h=>?_)
  ·exact match k,hk with
   | 0,_=>th rfl (.bool true) (fun _ _=>by go_simp)
   | k+1,hk=>absurd hk (by simp)
  have wh:=h.sz.trans nE;have Mw:=h.df.trans FA;have eL:Below w.heap.size w W4:=aq bM h.inv.1 (fun _ h=>h.elim)
  replace F3:=F3.next (L':=(L4 b3 b4)) (h.oK 3) h.inv.1 (fun h=>h) (fun _ _ h=>h) Ki
  replace B4:=B4.next (L':=(L4 b3 b4)) (h.oK 4) h.inv.1 (fun h=>h) (fun _ _ h=>h) Ki
  replace t2:=(h.oK 2).trans t2
  clear hT;clear nE FA bM;obtain ⟨vz,tr,fz⟩:=h.get 0 _ 6 rfl rfl;obtain rfl:vz=.bool true:=fz;refine KY _ _ ?_;refine wpIn_ret ?_
  try simp only[Exit.then]
  exact pm117
 by_cases hv:validB bd=true
 case neg=>
  have hv:validB bd=false:=by simpa using hv
  have hT:Tabs WB W1:=fw.next (dO);refine bA (fun K3a N_=>?_);refine bA (fun K3b Cw=>?_);refine aY [aI X0 (s),
   eP X0 [s],
   aE (.bool true),
   aE (.bool false),
   aE (.bool false),
   bG X0 (bd),
   aE (.bool true),
   aE (.bool false),
   aE (.bool false),
   aE (.bool false),
   aI X0 (s),
   aE (.bool true),
   aE (.bool false),
   aE (.bool false),
   aE (.bool false),
   bG X0 (bd),
   aE (.bool false),
   aE (.bool true),
   aE (.bool true)]
   19 19 gx (by kernel_rfl) (fun k hk=>?_) (fun A3 γ W3 h=>?_)
  ·exact match k,hk with
   | 0,_=>cB _ _ 3 F3.weakW.box (fun h=>h) (F3.weakW.at cq) (old F3.slot)
   | 1,_=>eb hL _ 19 (af 0)
   | 2,_=>rg [s] ug 20 (af 1) (hp:=Bu Hn)
   | 3,_=>ko true 21 (af 2)
   | 4,_=>bg (.bool false) 22 (af 3)
   | 5,_=>cZ _ _ 4 B4.weakW.box (fun h=>h) (B4.weakW.at cq) (old B4.slot) (hw:=ai 4 (af 4))
   | 6,_=>rH bd hb1 bF tD 24 (af 5) (hw:=ai 4 (af 4)) (hp:=Bu xf)
   | 7,_=>ko true 25 (af 6) (hw:=ai 4 (af 4))
   | 8,_=>fU (.bool true) (.bool false) 23 26 (af 4) (af 7)
   | 9,_=>bg (.bool false) 27 (af 8)
   | 10,_=>cB _ _ 3 F3.weakW.box (fun h=>h) (F3.weakW.at cq) (old F3.slot) (hw:=ai 9 (af 9))
   | 11,_=>wL s hfs 29 hT jq (af 10) (hw:=ai 9 (af 9)) (hp:=Bu hsc)
   | 12,_=>ko true 30 (af 11) (hw:=ai 9 (af 9))
   | 13,_=>fU (.bool true) (.bool false) 28 31 (af 9) (af 12)
   | 14,_=>bg (.bool false) 32 (af 13)
   | 15,_=>cZ _ _ 4 B4.weakW.box (fun h=>h) (B4.weakW.at cq) (old B4.slot) (hw:=ai 14 (af 14))
   | 16,_=>q_ bd hbd 34 hT jq (af 15) (hw:=ai 14 (af 14)) (hp:=Bu hv)
   | 17,_=>ko false 35 (af 16) (hw:=ai 14 (af 14))
   | 18,_=>fU (.bool true) (.bool true) 33 36 (af 14) (af 17)
   | k+19,hk=>absurd hk (by simp)
  have nE:=h.sz.trans gx;have FA:=h.df.trans Oz;have bM:Below w.heap.size w W3:=aq dO h.inv.1 (fun _ h=>h.elim)
  replace F3:=F3.next (L':=(L4 b3 b4)) (h.oK 3) h.inv.1 (fun h=>h) (fun _ _ h=>h) Ki
  replace B4:=B4.next (L':=(L4 b3 b4)) (h.oK 4) h.inv.1 (fun h=>h) (fun _ _ h=>h) Ki
  replace t2:=(h.oK 2).trans t2
  clear hT;clear gx Oz dO;obtain ⟨vz,tc,fz⟩:=h.get 18 _ 37 rfl rfl;obtain rfl:vz=.bool true:=fz;clear h;refine Cw _ _ ?_;refine wpIn_cond_true (aG tc) ?_;have hT:Tabs WB W3:=fw.next (bM);refine bA (fun K4a KY=>?_);refine aY [aE (.bool true)]
   1 1 nE (by kernel_rfl) (fun k hk=>?_) (fun A4 γ W4 h=>?_)
  ·exact match k,hk with
   | 0,_=>th rfl (.bool true) (fun _ _=>by go_simp)
   | k+1,hk=>absurd hk (by simp)
  have wh:=h.sz.trans nE;have Mw:=h.df.trans FA;have eL:Below w.heap.size w W4:=aq bM h.inv.1 (fun _ h=>h.elim)
  replace F3:=F3.next (L':=(L4 b3 b4)) (h.oK 3) h.inv.1 (fun h=>h) (fun _ _ h=>h) Ki
  replace B4:=B4.next (L':=(L4 b3 b4)) (h.oK 4) h.inv.1 (fun h=>h) (fun _ _ h=>h) Ki
  replace t2:=(h.oK 2).trans t2
  clear hT;clear nE FA bM;obtain ⟨vz,tr,fz⟩:=h.get 0 _ 6 rfl rfl;obtain rfl:vz=.bool true:=fz;refine KY _ _ ?_;refine wpIn_ret ?_
  try simp only[Exit.then]
  exact pm117
 have hT:Tabs WB W1:=fw.next (dO);refine bA (fun K3a N_=>?_);refine bA (fun K3b Cw=>?_);refine aY [aI X0 (s),
  eP X0 [s],
  aE (.bool true),
  aE (.bool false),
  aE (.bool false),
  bG X0 (bd),
  aE (.bool true),
  aE (.bool false),
  aE (.bool false),
  aE (.bool false),
  aI X0 (s),
  aE (.bool true),
  aE (.bool false),
  aE (.bool false),
  aE (.bool false),
  bG X0 (bd),
  aE (.bool true),
  aE (.bool false),
  aE (.bool false)]
  19 19 gx (by kernel_rfl) (fun k hk=>?_) (fun A3 γ W3 h=>?_)
 ·exact match k,hk with
  | 0,_=>cB _ _ 3 F3.weakW.box (fun h=>h) (F3.weakW.at cq) (old F3.slot)
  | 1,_=>eb hL _ 19 (af 0)
  | 2,_=>rg [s] ug 20 (af 1) (hp:=Bu Hn)
  | 3,_=>ko true 21 (af 2)
  | 4,_=>bg (.bool false) 22 (af 3)
  | 5,_=>cZ _ _ 4 B4.weakW.box (fun h=>h) (B4.weakW.at cq) (old B4.slot) (hw:=ai 4 (af 4))
  | 6,_=>rH bd hb1 bF tD 24 (af 5) (hw:=ai 4 (af 4)) (hp:=Bu xf)
  | 7,_=>ko true 25 (af 6) (hw:=ai 4 (af 4))
  | 8,_=>fU (.bool true) (.bool false) 23 26 (af 4) (af 7)
  | 9,_=>bg (.bool false) 27 (af 8)
  | 10,_=>cB _ _ 3 F3.weakW.box (fun h=>h) (F3.weakW.at cq) (old F3.slot) (hw:=ai 9 (af 9))
  | 11,_=>wL s hfs 29 hT jq (af 10) (hw:=ai 9 (af 9)) (hp:=Bu hsc)
  | 12,_=>ko true 30 (af 11) (hw:=ai 9 (af 9))
  | 13,_=>fU (.bool true) (.bool false) 28 31 (af 9) (af 12)
  | 14,_=>bg (.bool false) 32 (af 13)
  | 15,_=>cZ _ _ 4 B4.weakW.box (fun h=>h) (B4.weakW.at cq) (old B4.slot) (hw:=ai 14 (af 14))
  | 16,_=>q_ bd hbd 34 hT jq (af 15) (hw:=ai 14 (af 14)) (hp:=Bu hv)
  | 17,_=>ko true 35 (af 16) (hw:=ai 14 (af 14))
  | 18,_=>fU (.bool true) (.bool false) 33 36 (af 14) (af 17)
  | k+19,hk=>absurd hk (by simp)
 have nE:=h.sz.trans gx;have FA:=h.df.trans Oz;have bM:Below w.heap.size w W3:=aq dO h.inv.1 (fun _ h=>h.elim)
 replace F3:=F3.next (L':=(L4 b3 b4)) (h.oK 3) h.inv.1 (fun h=>h) (fun _ _ h=>h) Ki
 replace B4:=B4.next (L':=(L4 b3 b4)) (h.oK 4) h.inv.1 (fun h=>h) (fun _ _ h=>h) Ki
 replace t2:=(h.oK 2).trans t2
 clear hT;clear gx Oz dO;obtain ⟨vz,tc,fz⟩:=h.get 18 _ 37 rfl rfl;obtain rfl:vz=.bool false:=fz;clear h;refine Cw _ _ ?_;refine wpIn_cond_false (aG tc) (wpIn_skip ?_);refine N_ _ _ ?_;clear N_ Cw K3a K3b tc;have hWs:=bM.size;have hT:Tabs WB W3:=fw.next (bM);refine bA (fun K5a zbY=>?_);refine aY [aI (L4 b3 b4) d8,
  mP #[.int .u8 0,.string ⟨#[]⟩,.slice none 0 0,.slice none 0 0] 36,
  gL (aI (L4 b3 b4) d8) 36]
  1 2 nE (by kernel_rfl) (fun k hk=>?_) (fun A5 γ W5 h=>?_)
 ·exact match k,hk with
  | 0,_=>DL YQ
  | 1,_=>gT rfl
  | 2,_=>gU _ 7 38 rfl (af 1) (af 0)
  | k+3,hk=>absurd hk (by simp)
 have Dl:=h.sz.trans nE;have hd5:=h.df.trans FA;have yk:Below w.heap.size w W5:=aq bM h.inv.1 (fun _ h=>h.elim);have zbZ:=(bn F3.box);have zb0:=(bn B4.box)
 replace F3:=fun (b7:Nat) (hge:W3.heap.size<=b7)=>F3.next (L':=L7 b3 b4 b7) (h.oK 3) h.inv.1 (fun h=>h) (fun _ _ h=>h) (fun c h hlt=>⟨h,by omega⟩)
 replace B4:=fun (b7:Nat) (hge:W3.heap.size<=b7)=>B4.next (L':=L7 b3 b4 b7) (h.oK 4) h.inv.1 (fun h=>h) (fun _ _ h=>h) (fun c h hlt=>⟨h,by omega⟩)
 replace t2:=(h.oK 2).trans t2
 clear hT;clear nE FA bM;obtain ⟨vz,tz,fz⟩:=h.get 1 _ 7 rfl rfl;obtain ⟨b7,q7,F7,hge⟩:=nA tz fz (h.did 2 _ rfl rfl) h.inv;clear vz tz fz h
 replace F3:=F3 b7 hge
 replace B4:=B4 b7 hge
 have h3W:=zbZ;have h4W:=zb0;have WU:b3≠b7:=by omega
 have Sh:b4≠b7:=by omega
 have hw7:w.heap.size<=b7:=aQ hWs hge;clear hWs hge h3W h4W zbZ zb0;refine zbY _ _ ?_;clear zbY K5a;obtain ⟨ft,ky⟩:=ao (m % 8);have hf8:ft<8:=by omega
 have HFT:=ab ky;clear ky;have hP:WrP s bd m ft:=⟨hfs,hsc,hv,hbd,rT.1,hf8,HFT⟩;refine bA (fun Ko hKo=>?_);have HT:∀ a W,WrI w (L7 b3 b4 b7) m b3 b4 b7 (c9 s ft) (et ft) (cd bd ft) a W->Ko a W:=fun a W h=>hKo a W (zd5 WB w fw s bd m ft hP b3 b4 b7 a W h);clear hKo ug Hn xf tD hb1 bF hsc hv hbd hfs
 replace rT:=rT.1
 have hT:Tabs WB W5:=fw.next (yk);refine bA (fun K6a zb1=>?_);refine aY [aE (.int .u8 (m:Nat)),
  aE (.int .u8 (ft:Nat))]
  2 2 Dl (by kernel_rfl) (fun k hk=>?_) (fun A6 γ W6 h=>?_)
 ·exact match k,hk with
  | 0,_=>bg (.int .u8 (m:Nat)) 2 (old t2)
  | 1,_=>gq m 39 (af 0) (hp:=by rw[<-HFT.o];rfl)
  | k+2,hk=>absurd hk (by simp)
 have qJ:=h.sz.trans Dl;have ZY:=h.df.trans hd5;have Oo:Below w.heap.size w W6:=aq yk h.inv.1 (fun _ h=>h.elim)
 replace F3:=F3.next (L':=(L7 b3 b4 b7)) (h.oK 3) h.inv.1 (fun h=>h) (fun _ _ h=>h) Ki
 replace B4:=B4.next (L':=(L7 b3 b4 b7)) (h.oK 4) h.inv.1 (fun h=>h) (fun _ _ h=>h) Ki
 replace F7:=F7.next (L':=(L7 b3 b4 b7)) (h.oK 7) h.inv.1 (fun h=>h) (fun _ _ h=>h) Ki
 replace t2:=(h.oK 2).trans t2
 clear hT;clear Dl hd5 yk;obtain ⟨vz,nI,fz⟩:=h.get 1 _ 40 rfl rfl;obtain rfl:vz=.int .u8 (ft:Nat):=fz;clear h;refine zb1 _ _ ?_;clear zb1 K6a;refine wpIn_block ?_
 by_cases hc0:ft=0
 ·have ej:((ft:Int) == 0)=true:=by rw[hc0];rfl
  have hT:Tabs WB W6:=fw.next (Oo);refine bA (fun K8a RT=>?_);refine aY [aE (.bool true),
   aE (.bool true)]
   2 2 qJ (by kernel_rfl) (fun k hk=>?_) (fun A8 γ W8 h=>?_)
  ·exact match k,hk with
   | 0,_=>eQ .u8 ((ft:Nat):Int) 0 true ej 40 (old nI)
   | 1,_=>bq _ 46 (af 0)
   | k+2,hk=>absurd hk (by simp)
  have Kt:=h.sz.trans qJ;have Vy:=h.df.trans ZY;have OA:Below w.heap.size w W8:=aq Oo h.inv.1 (fun _ h=>h.elim)
  replace F3:=F3.next (L':=(L7 b3 b4 b7)) (h.oK 3) h.inv.1 (fun h=>h) (fun _ _ h=>h) Ki
  replace B4:=B4.next (L':=(L7 b3 b4 b7)) (h.oK 4) h.inv.1 (fun h=>h) (fun _ _ h=>h) Ki
  replace F7:=F7.next (L':=(L7 b3 b4 b7)) (h.oK 7) h.inv.1 (fun h=>h) (fun _ _ h=>h) Ki
  replace t2:=(h.oK 2).trans t2
  replace nI:=(h.oK 40).trans nI
  clear hT;clear qJ ZY Oo;obtain ⟨vz,tc,fz⟩:=h.get 1 _ 45 rfl rfl;obtain rfl:vz=.bool true:=fz;clear h;refine RT _ _ ?_;clear RT K8a;refine wpIn_cond_true (aG tc) ?_;have rJ:∀ c,(L7 b3 b4 b7) c->¬pt b3 c:=fun c hc e=>hc.1.1 e;have g3:=(bn F3.box);have g4:=(bn B4.box);have g7:=(bn F7.box);have IW:∀ c,W8.heap.size<=c->(L7 b3 b4 b7) c:=fun c hc=>⟨⟨by omega,by omega⟩,by omega⟩
  refine eH (b:=b3) (by omega) [aI (L7 b3 b4 b7) s,
   eP (L7 b3 b4 b7) [s],
   aI (L7 b3 b4 b7) (.mk 3 [120] [] [s]),
   gL (aI (L7 b3 b4 b7) (.mk 3 [120] [] [s])) 36]
   3 Kt (by kernel_rfl) (fun k hk=>?_) (fun A9 γ W9 h=>?_)
  ·exact match k,hk with
   | 0,_=>N0 _ _ 3 F3.box rfl (F3.at rJ) rfl (by kernel_rfl) (old F3.slot)
   | 1,_=>eb IW _ 47 (af 0)
   | 2,_=>kz 3 [120] [s] 48 (af 1)
   | 3,_=>pk _ 3 49 rfl F3.box rfl (old F3.slot) (af 2)
   | k+4,hk=>absurd hk (by simp)
  obtain ⟨qz,KZ⟩:=yL ((h.oK 3).trans F3.slot) (h.did 3 _ rfl rfl) h.inv;have K1:=B4.next (L':=(L7 b3 b4 b7)) (h.oK 4) h.inv.1 Z2.symm rJ Ki;have K3:=F7.next (L':=(L7 b3 b4 b7)) (h.oK 7) h.inv.1 WU.symm rJ Ki;have e1:c9 s ft=.mk 3 [120] [] [s]:=by rw[hc0];rfl
  have e2:et ft=d8:=by rw[hc0];rfl
  have e3:cd bd ft=bd:=by rw[hc0];rfl
  have K4:Below w.heap.size w W9:=aq OA h.inv.1 (fun c e=>by have:c=b3:=e;omega)
  try simp only[Exit.inBlock,Exit.then]
  exact HT _ _ (by rw[e1,e2,e3];exact ⟨h.sz.trans Kt,h.df.trans Vy,K4,(h.oK 2).trans t2,⟨_,KZ⟩,⟨_,K3⟩,⟨_,K1⟩⟩)
 have ej:((ft:Int) == 0)=false:=by simp;omega
 have hT:Tabs WB W6:=fw.next (Oo);refine bA (fun K8a RT=>?_);refine aY [aE (.bool false),
  aE (.bool false)]
  2 2 qJ (by kernel_rfl) (fun k hk=>?_) (fun A8 γ W8 h=>?_)
 ·exact match k,hk with
  | 0,_=>eQ .u8 ((ft:Nat):Int) 0 false ej 40 (old nI)
  | 1,_=>bq _ 46 (af 0)
  | k+2,hk=>absurd hk (by simp)
 have Kt:=h.sz.trans qJ;have Vy:=h.df.trans ZY;have OA:Below w.heap.size w W8:=aq Oo h.inv.1 (fun _ h=>h.elim)
 replace F3:=F3.next (L':=(L7 b3 b4 b7)) (h.oK 3) h.inv.1 (fun h=>h) (fun _ _ h=>h) Ki
 replace B4:=B4.next (L':=(L7 b3 b4 b7)) (h.oK 4) h.inv.1 (fun h=>h) (fun _ _ h=>h) Ki
 replace F7:=F7.next (L':=(L7 b3 b4 b7)) (h.oK 7) h.inv.1 (fun h=>h) (fun _ _ h=>h) Ki
 replace t2:=(h.oK 2).trans t2
 replace nI:=(h.oK 40).trans nI
 clear hT;clear qJ ZY Oo;obtain ⟨vz,tc,fz⟩:=h.get 1 _ 45 rfl rfl;obtain rfl:vz=.bool false:=fz;clear h;refine RT _ _ ?_;clear RT K8a;refine wpIn_cond_false (aG tc) ?_;clear ej tc
 by_cases Oj:ft=1
 ·have ej:((ft:Int) == 1)=true:=by rw[Oj];rfl
  have hT:Tabs WB W8:=fw.next (OA);refine bA (fun Y1 Iy=>?_);refine aY [aE (.bool true),
   aE (.bool true)]
   2 2 Kt (by kernel_rfl) (fun k hk=>?_) (fun A10 γ ly h=>?_)
  ·exact match k,hk with
   | 0,_=>eQ .u8 ((ft:Nat):Int) 1 true ej 40 (old nI)
   | 1,_=>bq _ 51 (af 0)
   | k+2,hk=>absurd hk (by simp)
  have yB:=h.sz.trans Kt;have Ib:=h.df.trans Vy;have AK:Below w.heap.size w ly:=aq OA h.inv.1 (fun _ h=>h.elim)
  replace F3:=F3.next (L':=(L7 b3 b4 b7)) (h.oK 3) h.inv.1 (fun h=>h) (fun _ _ h=>h) Ki
  replace B4:=B4.next (L':=(L7 b3 b4 b7)) (h.oK 4) h.inv.1 (fun h=>h) (fun _ _ h=>h) Ki
  replace F7:=F7.next (L':=(L7 b3 b4 b7)) (h.oK 7) h.inv.1 (fun h=>h) (fun _ _ h=>h) Ki
  replace t2:=(h.oK 2).trans t2
  replace nI:=(h.oK 40).trans nI
  clear hT;clear Kt Vy OA;obtain ⟨vz,tc,fz⟩:=h.get 1 _ 50 rfl rfl;obtain rfl:vz=.bool true:=fz;clear h;refine Iy _ _ ?_;clear Iy Y1;refine wpIn_cond_true (aG tc) ?_;have rJ:∀ c,(L7 b3 b4 b7) c->¬pt b7 c:=fun c hc e=>hc.2 e;have g3:=(bn F3.box);have g4:=(bn B4.box);have g7:=(bn F7.box);have IW:∀ c,ly.heap.size<=c->(L7 b3 b4 b7) c:=fun c hc=>⟨⟨by omega,by omega⟩,by omega⟩
  refine eH (b:=b7) (by omega) [aI (L7 b3 b4 b7) (ji [63,65]),
   gL (aI (L7 b3 b4 b7) (ji [63,65])) 36]
   1 yB (by kernel_rfl) (fun k hk=>?_) (fun A11 γ sj h=>?_)
  ·exact match k,hk with
   | 0,_=>AG [63,65]
   | 1,_=>pk _ 7 52 rfl F7.box rfl (old F7.slot) (af 0)
   | k+2,hk=>absurd hk (by simp)
  obtain ⟨qz,K3⟩:=yL ((h.oK 7).trans F7.slot) (h.did 1 _ rfl rfl) h.inv;have KZ:=F3.next (L':=(L7 b3 b4 b7)) (h.oK 3) h.inv.1 WU rJ Ki;have K1:=B4.next (L':=(L7 b3 b4 b7)) (h.oK 4) h.inv.1 Sh rJ Ki;have e1:c9 s ft=s:=by rw[Oj];rfl
  have e2:et ft=ji [63,65]:=by rw[Oj];rfl
  have e3:cd bd ft=bd:=by rw[Oj];rfl
  have K4:Below w.heap.size w sj:=aq AK h.inv.1 (fun c e=>by have:c=b7:=e;omega)
  try simp only[Exit.inBlock,Exit.then]
  exact HT _ _ (by rw[e1,e2,e3];exact ⟨h.sz.trans yB,h.df.trans Ib,K4,(h.oK 2).trans t2,⟨_,KZ⟩,⟨_,K3⟩,⟨_,K1⟩⟩)
 have ej:((ft:Int) == 1)=false:=by simp;omega
 have hT:Tabs WB W8:=fw.next (OA);refine bA (fun Y1 Iy=>?_);refine aY [aE (.bool false),
  aE (.bool false)]
  2 2 Kt (by kernel_rfl) (fun k hk=>?_) (fun A10 γ ly h=>?_)
 ·exact match k,hk with
  | 0,_=>eQ .u8 ((ft:Nat):Int) 1 false ej 40 (old nI)
  | 1,_=>bq _ 51 (af 0)
  | k+2,hk=>absurd hk (by simp)
 have yB:=h.sz.trans Kt;have Ib:=h.df.trans Vy;have AK:Below w.heap.size w ly:=aq OA h.inv.1 (fun _ h=>h.elim)
 replace F3:=F3.next (L':=(L7 b3 b4 b7)) (h.oK 3) h.inv.1 (fun h=>h) (fun _ _ h=>h) Ki
 replace B4:=B4.next (L':=(L7 b3 b4 b7)) (h.oK 4) h.inv.1 (fun h=>h) (fun _ _ h=>h) Ki
 replace F7:=F7.next (L':=(L7 b3 b4 b7)) (h.oK 7) h.inv.1 (fun h=>h) (fun _ _ h=>h) Ki
 replace t2:=(h.oK 2).trans t2
 replace nI:=(h.oK 40).trans nI
 clear hT;clear Kt Vy OA;obtain ⟨vz,tc,fz⟩:=h.get 1 _ 50 rfl rfl;obtain rfl:vz=.bool false:=fz;clear h;refine Iy _ _ ?_;clear Iy Y1;refine wpIn_cond_false (aG tc) ?_;clear ej tc
 by_cases hc2:ft=2
 ·have ej:((ft:Int) == 2)=true:=by rw[hc2];rfl
  have hT:Tabs WB ly:=fw.next (AK);refine bA (fun Y2 Iz=>?_);refine aY [aE (.bool true),
   aE (.bool true)]
   2 2 yB (by kernel_rfl) (fun k hk=>?_) (fun A12 γ Z3 h=>?_)
  ·exact match k,hk with
   | 0,_=>eQ .u8 ((ft:Nat):Int) 2 true ej 40 (old nI)
   | 1,_=>bq _ 54 (af 0)
   | k+2,hk=>absurd hk (by simp)
  have Fv:=h.sz.trans yB;have Oa:=h.df.trans Ib;have IA:Below w.heap.size w Z3:=aq AK h.inv.1 (fun _ h=>h.elim)
  replace F3:=F3.next (L':=(L7 b3 b4 b7)) (h.oK 3) h.inv.1 (fun h=>h) (fun _ _ h=>h) Ki
  replace B4:=B4.next (L':=(L7 b3 b4 b7)) (h.oK 4) h.inv.1 (fun h=>h) (fun _ _ h=>h) Ki
  replace F7:=F7.next (L':=(L7 b3 b4 b7)) (h.oK 7) h.inv.1 (fun h=>h) (fun _ _ h=>h) Ki
  replace t2:=(h.oK 2).trans t2
  replace nI:=(h.oK 40).trans nI
  clear hT;clear yB Ib AK;obtain ⟨vz,tc,fz⟩:=h.get 1 _ 53 rfl rfl;obtain rfl:vz=.bool true:=fz;clear h;refine Iz _ _ ?_;clear Iz Y2;refine wpIn_cond_true (aG tc) ?_;have rJ:∀ c,(L7 b3 b4 b7) c->¬pt b7 c:=fun c hc e=>hc.2 e;have g3:=(bn F3.box);have g4:=(bn B4.box);have g7:=(bn F7.box);have IW:∀ c,Z3.heap.size<=c->(L7 b3 b4 b7) c:=fun c hc=>⟨⟨by omega,by omega⟩,by omega⟩
  refine eH (b:=b7) (by omega) [eq (L7 b3 b4 b7) (am [63,120]),
   je (L7 b3 b4 b7) [am [63,120]],
   aI (L7 b3 b4 b7) (em RE [am [63,120]]),
   gL (aI (L7 b3 b4 b7) (em RE [am [63,120]])) 36]
   3 Fv (by kernel_rfl) (fun k hk=>?_) (fun A13 γ lP h=>?_)
  ·exact match k,hk with
   | 0,_=>ph [63,120]
   | 1,_=>km IW _ 55 (af 0)
   | 2,_=>yz RE _ 56 (af 1)
   | 3,_=>pk _ 7 57 rfl F7.box rfl (old F7.slot) (af 2)
   | k+4,hk=>absurd hk (by simp)
  obtain ⟨qz,K3⟩:=yL ((h.oK 7).trans F7.slot) (h.did 3 _ rfl rfl) h.inv;have KZ:=F3.next (L':=(L7 b3 b4 b7)) (h.oK 3) h.inv.1 WU rJ Ki;have K1:=B4.next (L':=(L7 b3 b4 b7)) (h.oK 4) h.inv.1 Sh rJ Ki;have e1:c9 s ft=s:=by rw[hc2];rfl
  have e2:et ft=em RE [am [63,120]]:=by rw[hc2];rfl
  have e3:cd bd ft=bd:=by rw[hc2];rfl
  have K4:Below w.heap.size w lP:=aq IA h.inv.1 (fun c e=>by have:c=b7:=e;omega)
  try simp only[Exit.inBlock,Exit.then]
  exact HT _ _ (by rw[e1,e2,e3];exact ⟨h.sz.trans Fv,h.df.trans Oa,K4,(h.oK 2).trans t2,⟨_,KZ⟩,⟨_,K3⟩,⟨_,K1⟩⟩)
 have ej:((ft:Int) == 2)=false:=by simp;omega
 have hT:Tabs WB ly:=fw.next (AK);refine bA (fun Y2 Iz=>?_);refine aY [aE (.bool false),
  aE (.bool false)]
  2 2 yB (by kernel_rfl) (fun k hk=>?_) (fun A12 γ Z3 h=>?_)
 ·exact match k,hk with
  | 0,_=>eQ .u8 ((ft:Nat):Int) 2 false ej 40 (old nI)
  | 1,_=>bq _ 54 (af 0)
  | k+2,hk=>absurd hk (by simp)
 have Fv:=h.sz.trans yB;have Oa:=h.df.trans Ib;have IA:Below w.heap.size w Z3:=aq AK h.inv.1 (fun _ h=>h.elim)
 replace F3:=F3.next (L':=(L7 b3 b4 b7)) (h.oK 3) h.inv.1 (fun h=>h) (fun _ _ h=>h) Ki
 replace B4:=B4.next (L':=(L7 b3 b4 b7)) (h.oK 4) h.inv.1 (fun h=>h) (fun _ _ h=>h) Ki
 replace F7:=F7.next (L':=(L7 b3 b4 b7)) (h.oK 7) h.inv.1 (fun h=>h) (fun _ _ h=>h) Ki
 replace t2:=(h.oK 2).trans t2
 replace nI:=(h.oK 40).trans nI
 clear hT;clear yB Ib AK;obtain ⟨vz,tc,fz⟩:=h.get 1 _ 53 rfl rfl;obtain rfl:vz=.bool false:=fz;clear h;refine Iz _ _ ?_;clear Iz Y2;refine wpIn_cond_false (aG tc) ?_;clear ej tc
 by_cases So:ft=3
 ·have ej:((ft:Int) == 3)=true:=by rw[So];rfl
  have hT:Tabs WB Z3:=fw.next (IA);refine bA (fun Y3 IB=>?_);refine aY [aE (.bool true),
   aE (.bool true)]
   2 2 Fv (by kernel_rfl) (fun k hk=>?_) (fun A14 γ Ma h=>?_)
  ·exact match k,hk with
   | 0,_=>eQ .u8 ((ft:Nat):Int) 3 true ej 40 (old nI)
   | 1,_=>bq _ 59 (af 0)
   | k+2,hk=>absurd hk (by simp)
  have yC:=h.sz.trans Fv;have Ic:=h.df.trans Oa;have AM:Below w.heap.size w Ma:=aq IA h.inv.1 (fun _ h=>h.elim)
  replace F3:=F3.next (L':=(L7 b3 b4 b7)) (h.oK 3) h.inv.1 (fun h=>h) (fun _ _ h=>h) Ki
  replace B4:=B4.next (L':=(L7 b3 b4 b7)) (h.oK 4) h.inv.1 (fun h=>h) (fun _ _ h=>h) Ki
  replace F7:=F7.next (L':=(L7 b3 b4 b7)) (h.oK 7) h.inv.1 (fun h=>h) (fun _ _ h=>h) Ki
  replace t2:=(h.oK 2).trans t2
  replace nI:=(h.oK 40).trans nI
  clear hT;clear Fv Oa IA;obtain ⟨vz,tc,fz⟩:=h.get 1 _ 58 rfl rfl;obtain rfl:vz=.bool true:=fz;clear h;refine IB _ _ ?_;clear IB Y3;refine wpIn_cond_true (aG tc) ?_;have rJ:∀ c,(L7 b3 b4 b7) c->¬pt b4 c:=fun c hc e=>hc.1.2 e;have g3:=(bn F3.box);have g4:=(bn B4.box);have g7:=(bn F7.box);have IW:∀ c,Ma.heap.size<=c->(L7 b3 b4 b7) c:=fun c hc=>⟨⟨by omega,by omega⟩,by omega⟩
  refine eH (b:=b4) (by omega) [aI (L7 b3 b4 b7) d8,
   fFB (L7 b3 b4 b7) [63,122,122] d8,
   VH (L7 b3 b4 b7) [([63,122,122],d8)],
   aE (.pointer (some ⟨b4,0,none⟩)),
   NK (L7 b3 b4 b7) bd.fs,
   NK (L7 b3 b4 b7) ([([63,122,122],d8)] ++ bd.fs),
   aE (.pointer (some ⟨b4,0,none⟩)),
   gL (bG (L7 b3 b4 b7) (⟨[([63,122,122],d8)] ++ bd.fs,bd.ts⟩)) 26]
   7 yC (by kernel_rfl) (fun k hk=>?_) (fun A15 γ Rf h=>?_)
  ·exact match k,hk with
   | 0,_=>cB _ _ 7 F7.box Sh.symm (F7.at rJ) (old F7.slot)
   | 1,_=>Hx _ _ 60 (af 0)
   | 2,_=>Rs _ _ 61 IW (af 1)
   | 3,_=>f9 rfl 4 (.pointer (some ⟨b4,0,none⟩)) (old B4.slot)
   | 4,_=>DR _ _ 63 B4.box rfl (B4.at rJ) rfl (by kernel_rfl) (af 3)
   | 5,_=>Ij [([63,122,122],d8)] bd.fs (by simp) (by simp;omega) 62 64 IW (af 2) (af 4)
   | 6,_=>f9 rfl 4 (.pointer (some ⟨b4,0,none⟩)) (old B4.slot)
   | 7,_=>ti _ _ _ 66 65 rfl B4.box rfl (B4.at rJ) (af 6) (af 5)
   | k+8,hk=>absurd hk (by simp)
  obtain ⟨qz,K1⟩:=rE ((h.oK 4).trans B4.slot) (h.did 7 _ rfl rfl) h.inv;have KZ:=F3.next (L':=(L7 b3 b4 b7)) (h.oK 3) h.inv.1 Z2 rJ Ki;have K3:=F7.next (L':=(L7 b3 b4 b7)) (h.oK 7) h.inv.1 Sh.symm rJ Ki;have e1:c9 s ft=s:=by rw[So];rfl
  have e2:et ft=d8:=by rw[So];rfl
  have e3:cd bd ft=⟨[([63,122,122],d8)] ++ bd.fs,bd.ts⟩:=by rw[So];rfl
  have K4:Below w.heap.size w Rf:=aq AM h.inv.1 (fun c e=>by have:c=b4:=e;omega)
  try simp only[Exit.inBlock,Exit.then]
  exact HT _ _ (by rw[e1,e2,e3];exact ⟨h.sz.trans yC,h.df.trans Ic,K4,(h.oK 2).trans t2,⟨_,KZ⟩,⟨_,K3⟩,⟨_,K1⟩⟩)
 have ej:((ft:Int) == 3)=false:=by simp;omega
 have hT:Tabs WB Z3:=fw.next (IA);refine bA (fun Y3 IB=>?_);refine aY [aE (.bool false),
  aE (.bool false)]
  2 2 Fv (by kernel_rfl) (fun k hk=>?_) (fun A14 γ Ma h=>?_)
 ·exact match k,hk with
  | 0,_=>eQ .u8 ((ft:Nat):Int) 3 false ej 40 (old nI)
  | 1,_=>bq _ 59 (af 0)
  | k+2,hk=>absurd hk (by simp)
 have yC:=h.sz.trans Fv;have Ic:=h.df.trans Oa;have AM:Below w.heap.size w Ma:=aq IA h.inv.1 (fun _ h=>h.elim)
 replace F3:=F3.next (L':=(L7 b3 b4 b7)) (h.oK 3) h.inv.1 (fun h=>h) (fun _ _ h=>h) Ki
 replace B4:=B4.next (L':=(L7 b3 b4 b7)) (h.oK 4) h.inv.1 (fun h=>h) (fun _ _ h=>h) Ki
 replace F7:=F7.next (L':=(L7 b3 b4 b7)) (h.oK 7) h.inv.1 (fun h=>h) (fun _ _ h=>h) Ki
 replace t2:=(h.oK 2).trans t2
 replace nI:=(h.oK 40).trans nI
 clear hT;clear Fv Oa IA;obtain ⟨vz,tc,fz⟩:=h.get 1 _ 58 rfl rfl;obtain rfl:vz=.bool false:=fz;clear h;refine IB _ _ ?_;clear IB Y3;refine wpIn_cond_false (aG tc) ?_;clear ej tc
 by_cases hc4:ft=4
 ·have ej:((ft:Int) == 4)=true:=by rw[hc4];rfl
  have hT:Tabs WB Ma:=fw.next (AM);refine bA (fun Y4 IC=>?_);refine aY [aE (.bool true),
   aE (.bool true)]
   2 2 yC (by kernel_rfl) (fun k hk=>?_) (fun A16 γ Z4 h=>?_)
  ·exact match k,hk with
   | 0,_=>eQ .u8 ((ft:Nat):Int) 4 true ej 40 (old nI)
   | 1,_=>bq _ 68 (af 0)
   | k+2,hk=>absurd hk (by simp)
  have Fw:=h.sz.trans yC;have Ob:=h.df.trans Ic;have ID:Below w.heap.size w Z4:=aq AM h.inv.1 (fun _ h=>h.elim)
  replace F3:=F3.next (L':=(L7 b3 b4 b7)) (h.oK 3) h.inv.1 (fun h=>h) (fun _ _ h=>h) Ki
  replace B4:=B4.next (L':=(L7 b3 b4 b7)) (h.oK 4) h.inv.1 (fun h=>h) (fun _ _ h=>h) Ki
  replace F7:=F7.next (L':=(L7 b3 b4 b7)) (h.oK 7) h.inv.1 (fun h=>h) (fun _ _ h=>h) Ki
  replace t2:=(h.oK 2).trans t2
  replace nI:=(h.oK 40).trans nI
  clear hT;clear yC Ic AM;obtain ⟨vz,tc,fz⟩:=h.get 1 _ 67 rfl rfl;obtain rfl:vz=.bool true:=fz;clear h;refine IC _ _ ?_;clear IC Y4;refine wpIn_cond_true (aG tc) ?_;have rJ:∀ c,(L7 b3 b4 b7) c->¬pt b4 c:=fun c hc e=>hc.1.2 e;have g3:=(bn F3.box);have g4:=(bn B4.box);have g7:=(bn F7.box);have IW:∀ c,Z4.heap.size<=c->(L7 b3 b4 b7) c:=fun c hc=>⟨⟨by omega,by omega⟩,by omega⟩
  refine eH (b:=b4) (by omega) [aI (L7 b3 b4 b7) d8,
   fFB (L7 b3 b4 b7) [63,65] d8,
   aI (L7 b3 b4 b7) d8,
   fFB (L7 b3 b4 b7) [63,65] d8,
   VH (L7 b3 b4 b7) [([63,65],d8),([63,65],d8)],
   aE (.pointer (some ⟨b4,0,none⟩)),
   NK (L7 b3 b4 b7) bd.fs,
   NK (L7 b3 b4 b7) ([([63,65],d8),([63,65],d8)] ++ bd.fs),
   aE (.pointer (some ⟨b4,0,none⟩)),
   gL (bG (L7 b3 b4 b7) (⟨[([63,65],d8),([63,65],d8)] ++ bd.fs,bd.ts⟩)) 26]
   9 Fw (by kernel_rfl) (fun k hk=>?_) (fun A17 γ TT h=>?_)
  ·exact match k,hk with
   | 0,_=>cB _ _ 7 F7.box Sh.symm (F7.at rJ) (old F7.slot)
   | 1,_=>Hx _ _ 69 (af 0)
   | 2,_=>cB _ _ 7 F7.box Sh.symm (F7.at rJ) (old F7.slot)
   | 3,_=>Hx _ _ 71 (af 2)
   | 4,_=>Rt _ _ _ _ 70 72 IW (af 1) (af 3)
   | 5,_=>f9 rfl 4 (.pointer (some ⟨b4,0,none⟩)) (old B4.slot)
   | 6,_=>DR _ _ 74 B4.box rfl (B4.at rJ) rfl (by kernel_rfl) (af 5)
   | 7,_=>Ij [([63,65],d8),([63,65],d8)] bd.fs (by simp) (by simp;omega) 73 75 IW (af 4) (af 6)
   | 8,_=>f9 rfl 4 (.pointer (some ⟨b4,0,none⟩)) (old B4.slot)
   | 9,_=>ti _ _ _ 77 76 rfl B4.box rfl (B4.at rJ) (af 8) (af 7)
   | k+10,hk=>absurd hk (by simp)
  obtain ⟨qz,K1⟩:=rE ((h.oK 4).trans B4.slot) (h.did 9 _ rfl rfl) h.inv;have KZ:=F3.next (L':=(L7 b3 b4 b7)) (h.oK 3) h.inv.1 Z2 rJ Ki;have K3:=F7.next (L':=(L7 b3 b4 b7)) (h.oK 7) h.inv.1 Sh.symm rJ Ki;have e1:c9 s ft=s:=by rw[hc4];rfl
  have e2:et ft=d8:=by rw[hc4];rfl
  have e3:cd bd ft=⟨[([63,65],d8),([63,65],d8)] ++ bd.fs,bd.ts⟩:=by rw[hc4];rfl
  have K4:Below w.heap.size w TT:=aq ID h.inv.1 (fun c e=>by have:c=b4:=e;omega)
  try simp only[Exit.inBlock,Exit.then]
  exact HT _ _ (by rw[e1,e2,e3];exact ⟨h.sz.trans Fw,h.df.trans Ob,K4,(h.oK 2).trans t2,⟨_,KZ⟩,⟨_,K3⟩,⟨_,K1⟩⟩)
 have ej:((ft:Int) == 4)=false:=by simp;omega
 have hT:Tabs WB Ma:=fw.next (AM);refine bA (fun Y4 IC=>?_);refine aY [aE (.bool false),
  aE (.bool false)]
  2 2 yC (by kernel_rfl) (fun k hk=>?_) (fun A16 γ Z4 h=>?_)
 ·exact match k,hk with
  | 0,_=>eQ .u8 ((ft:Nat):Int) 4 false ej 40 (old nI)
  | 1,_=>bq _ 68 (af 0)
  | k+2,hk=>absurd hk (by simp)
 have Fw:=h.sz.trans yC;have Ob:=h.df.trans Ic;have ID:Below w.heap.size w Z4:=aq AM h.inv.1 (fun _ h=>h.elim)
 replace F3:=F3.next (L':=(L7 b3 b4 b7)) (h.oK 3) h.inv.1 (fun h=>h) (fun _ _ h=>h) Ki
 replace B4:=B4.next (L':=(L7 b3 b4 b7)) (h.oK 4) h.inv.1 (fun h=>h) (fun _ _ h=>h) Ki
 replace F7:=F7.next (L':=(L7 b3 b4 b7)) (h.oK 7) h.inv.1 (fun h=>h) (fun _ _ h=>h) Ki
 replace t2:=(h.oK 2).trans t2
 replace nI:=(h.oK 40).trans nI
 clear hT;clear yC Ic AM;obtain ⟨vz,tc,fz⟩:=h.get 1 _ 67 rfl rfl;obtain rfl:vz=.bool false:=fz;clear h;refine IC _ _ ?_;clear IC Y4;refine wpIn_cond_false (aG tc) ?_;clear ej tc
 by_cases hc5:ft=5
 ·have ej:((ft:Int) == 5)=true:=by rw[hc5];rfl
  have hT:Tabs WB Z4:=fw.next (ID);refine bA (fun Y5 IE=>?_);refine aY [aE (.bool true),
   aE (.bool true)]
   2 2 Fw (by kernel_rfl) (fun k hk=>?_) (fun A18 γ Mb h=>?_)
  ·exact match k,hk with
   | 0,_=>eQ .u8 ((ft:Nat):Int) 5 true ej 40 (old nI)
   | 1,_=>bq _ 79 (af 0)
   | k+2,hk=>absurd hk (by simp)
  have yD:=h.sz.trans Fw;have Ie:=h.df.trans Ob;have yE:Below w.heap.size w Mb:=aq ID h.inv.1 (fun _ h=>h.elim)
  replace F3:=F3.next (L':=(L7 b3 b4 b7)) (h.oK 3) h.inv.1 (fun h=>h) (fun _ _ h=>h) Ki
  replace B4:=B4.next (L':=(L7 b3 b4 b7)) (h.oK 4) h.inv.1 (fun h=>h) (fun _ _ h=>h) Ki
  replace F7:=F7.next (L':=(L7 b3 b4 b7)) (h.oK 7) h.inv.1 (fun h=>h) (fun _ _ h=>h) Ki
  replace t2:=(h.oK 2).trans t2
  replace nI:=(h.oK 40).trans nI
  clear hT;clear Fw Ob ID;obtain ⟨vz,tc,fz⟩:=h.get 1 _ 78 rfl rfl;obtain rfl:vz=.bool true:=fz;clear h;refine IE _ _ ?_;clear IE Y5;refine wpIn_cond_true (aG tc) ?_;have rJ:∀ c,(L7 b3 b4 b7) c->¬pt b4 c:=fun c hc e=>hc.1.2 e;have g3:=(bn F3.box);have g4:=(bn B4.box);have g7:=(bn F7.box);have IW:∀ c,Mb.heap.size<=c->(L7 b3 b4 b7) c:=fun c hc=>⟨⟨by omega,by omega⟩,by omega⟩
  refine eH (b:=b4) (by omega) [aI (L7 b3 b4 b7) (ji [63,66]),
   fFB (L7 b3 b4 b7) [63,65] (ji [63,66]),
   NK (L7 b3 b4 b7) [([63,65],ji [63,66])],
   aE (.pointer (some ⟨b4,0,none⟩)),
   gL (bG (L7 b3 b4 b7) (⟨[([63,65],ji [63,66])],bd.ts⟩)) 26]
   4 yD (by kernel_rfl) (fun k hk=>?_) (fun A19 γ OB h=>?_)
  ·exact match k,hk with
   | 0,_=>AG [63,66]
   | 1,_=>Hx _ _ 80 (af 0)
   | 2,_=>Hw _ _ 81 IW (af 1)
   | 3,_=>f9 rfl 4 (.pointer (some ⟨b4,0,none⟩)) (old B4.slot)
   | 4,_=>ti _ _ _ 83 82 rfl B4.box rfl (B4.at rJ) (af 3) (af 2)
   | k+5,hk=>absurd hk (by simp)
  obtain ⟨qz,K1⟩:=rE ((h.oK 4).trans B4.slot) (h.did 4 _ rfl rfl) h.inv;have KZ:=F3.next (L':=(L7 b3 b4 b7)) (h.oK 3) h.inv.1 Z2 rJ Ki;have K3:=F7.next (L':=(L7 b3 b4 b7)) (h.oK 7) h.inv.1 Sh.symm rJ Ki;have e1:c9 s ft=s:=by rw[hc5];rfl
  have e2:et ft=d8:=by rw[hc5];rfl
  have e3:cd bd ft=⟨[([63,65],ji [63,66])],bd.ts⟩:=by rw[hc5];rfl
  have K4:Below w.heap.size w OB:=aq yE h.inv.1 (fun c e=>by have:c=b4:=e;omega)
  try simp only[Exit.inBlock,Exit.then]
  exact HT _ _ (by rw[e1,e2,e3];exact ⟨h.sz.trans yD,h.df.trans Ie,K4,(h.oK 2).trans t2,⟨_,KZ⟩,⟨_,K3⟩,⟨_,K1⟩⟩)
 have ej:((ft:Int) == 5)=false:=by simp;omega
 have hT:Tabs WB Z4:=fw.next (ID);refine bA (fun Y5 IE=>?_);refine aY [aE (.bool false),
  aE (.bool false)]
  2 2 Fw (by kernel_rfl) (fun k hk=>?_) (fun A18 γ Mb h=>?_)
 ·exact match k,hk with
  | 0,_=>eQ .u8 ((ft:Nat):Int) 5 false ej 40 (old nI)
  | 1,_=>bq _ 79 (af 0)
  | k+2,hk=>absurd hk (by simp)
 have yD:=h.sz.trans Fw;have Ie:=h.df.trans Ob;have yE:Below w.heap.size w Mb:=aq ID h.inv.1 (fun _ h=>h.elim)
 replace F3:=F3.next (L':=(L7 b3 b4 b7)) (h.oK 3) h.inv.1 (fun h=>h) (fun _ _ h=>h) Ki
 replace B4:=B4.next (L':=(L7 b3 b4 b7)) (h.oK 4) h.inv.1 (fun h=>h) (fun _ _ h=>h) Ki
 replace F7:=F7.next (L':=(L7 b3 b4 b7)) (h.oK 7) h.inv.1 (fun h=>h) (fun _ _ h=>h) Ki
 replace t2:=(h.oK 2).trans t2
 replace nI:=(h.oK 40).trans nI
 clear hT;clear Fw Ob ID;obtain ⟨vz,tc,fz⟩:=h.get 1 _ 78 rfl rfl;obtain rfl:vz=.bool false:=fz;clear h;refine IE _ _ ?_;clear IE Y5;refine wpIn_cond_false (aG tc) ?_;clear ej tc
 by_cases hc6:ft=6
 ·have ej:((ft:Int) == 6)=true:=by rw[hc6];rfl
  have hT:Tabs WB Mb:=fw.next (yE);refine bA (fun Y6 IF=>?_);refine aY [aE (.bool true),
   aE (.bool true)]
   2 2 yD (by kernel_rfl) (fun k hk=>?_) (fun A20 γ FP h=>?_)
  ·exact match k,hk with
   | 0,_=>eQ .u8 ((ft:Nat):Int) 6 true ej 40 (old nI)
   | 1,_=>bq _ 85 (af 0)
   | k+2,hk=>absurd hk (by simp)
  have If:=h.sz.trans yD;have Rh:=h.df.trans Ie;have KC:Below w.heap.size w FP:=aq yE h.inv.1 (fun _ h=>h.elim)
  replace F3:=F3.next (L':=(L7 b3 b4 b7)) (h.oK 3) h.inv.1 (fun h=>h) (fun _ _ h=>h) Ki
  replace B4:=B4.next (L':=(L7 b3 b4 b7)) (h.oK 4) h.inv.1 (fun h=>h) (fun _ _ h=>h) Ki
  replace F7:=F7.next (L':=(L7 b3 b4 b7)) (h.oK 7) h.inv.1 (fun h=>h) (fun _ _ h=>h) Ki
  replace t2:=(h.oK 2).trans t2
  replace nI:=(h.oK 40).trans nI
  clear hT;clear yD Ie yE;obtain ⟨vz,tc,fz⟩:=h.get 1 _ 84 rfl rfl;obtain rfl:vz=.bool true:=fz;clear h;refine IF _ _ ?_;clear IF Y6;refine wpIn_cond_true (aG tc) ?_;have rJ:∀ c,(L7 b3 b4 b7) c->¬pt b4 c:=fun c hc e=>hc.1.2 e;have g3:=(bn F3.box);have g4:=(bn B4.box);have g7:=(bn F7.box);have IW:∀ c,FP.heap.size<=c->(L7 b3 b4 b7) c:=fun c hc=>⟨⟨by omega,by omega⟩,by omega⟩
  refine eH (b:=b4) (by omega) [eq (L7 b3 b4 b7) (am ow),
   fTB (L7 b3 b4 b7) ow (am ow),
   Yj (L7 b3 b4 b7) [(ow,am ow)],
   aE (.pointer (some ⟨b4,1,none⟩)),
   gL (bG (L7 b3 b4 b7) (⟨bd.fs,[(ow,am ow)]⟩)) 26]
   4 If (by kernel_rfl) (fun k hk=>?_) (fun A21 γ IV h=>?_)
  ·exact match k,hk with
   | 0,_=>ph ow
   | 1,_=>Q6 _ _ 86 (af 0)
   | 2,_=>AH _ _ 87 IW (af 1)
   | 3,_=>f9 rfl 4 (.pointer (some ⟨b4,1,none⟩)) (old B4.slot)
   | 4,_=>AS _ _ _ 89 88 rfl B4.box rfl (B4.at rJ) (af 3) (af 2)
   | k+5,hk=>absurd hk (by simp)
  obtain ⟨qz,K1⟩:=rE ((h.oK 4).trans B4.slot) (h.did 4 _ rfl rfl) h.inv;have KZ:=F3.next (L':=(L7 b3 b4 b7)) (h.oK 3) h.inv.1 Z2 rJ Ki;have K3:=F7.next (L':=(L7 b3 b4 b7)) (h.oK 7) h.inv.1 Sh.symm rJ Ki;have e1:c9 s ft=s:=by rw[hc6];rfl
  have e2:et ft=d8:=by rw[hc6];rfl
  have e3:cd bd ft=⟨bd.fs,[(ow,am ow)]⟩:=by rw[hc6];rfl
  have K4:Below w.heap.size w IV:=aq KC h.inv.1 (fun c e=>by have:c=b4:=e;omega)
  try simp only[Exit.inBlock,Exit.then]
  exact pm230
 have ej:((ft:Int) == 6)=false:=by simp;omega
 have hT:Tabs WB Mb:=fw.next (yE);refine bA (fun Y6 IF=>?_);refine aY [aE (.bool false),
  aE (.bool false)]
  2 2 yD (by kernel_rfl) (fun k hk=>?_) (fun A20 γ FP h=>?_)
 ·exact match k,hk with
  | 0,_=>eQ .u8 ((ft:Nat):Int) 6 false ej 40 (old nI)
  | 1,_=>bq _ 85 (af 0)
  | k+2,hk=>absurd hk (by simp)
 have If:=h.sz.trans yD;have Rh:=h.df.trans Ie;have KC:Below w.heap.size w FP:=aq yE h.inv.1 (fun _ h=>h.elim)
 replace F3:=F3.next (L':=(L7 b3 b4 b7)) (h.oK 3) h.inv.1 (fun h=>h) (fun _ _ h=>h) Ki
 replace B4:=B4.next (L':=(L7 b3 b4 b7)) (h.oK 4) h.inv.1 (fun h=>h) (fun _ _ h=>h) Ki
 replace F7:=F7.next (L':=(L7 b3 b4 b7)) (h.oK 7) h.inv.1 (fun h=>h) (fun _ _ h=>h) Ki
 replace t2:=(h.oK 2).trans t2
 replace nI:=(h.oK 40).trans nI
 clear hT;clear yD Ie yE;obtain ⟨vz,tc,fz⟩:=h.get 1 _ 84 rfl rfl;obtain rfl:vz=.bool false:=fz;clear h;refine IF _ _ ?_;clear IF Y6;refine wpIn_cond_false (aG tc) ?_;clear ej tc;have hc7:ft=7:=by omega
 have rJ:∀ c,(L7 b3 b4 b7) c->¬pt b4 c:=fun c hc e=>hc.1.2 e;have g3:=(bn F3.box);have g4:=(bn B4.box);have g7:=(bn F7.box);have IW:∀ c,FP.heap.size<=c->(L7 b3 b4 b7) c:=fun c hc=>⟨⟨by omega,by omega⟩,by omega⟩
 refine eH (b:=b4) (by omega) [eq (L7 b3 b4 b7) (cT [97] []),
  fTB (L7 b3 b4 b7) [116] (cT [97] []),
  Yj (L7 b3 b4 b7) [([116],cT [97] [])],
  aE (.pointer (some ⟨b4,1,none⟩)),
  gL (bG (L7 b3 b4 b7) (⟨bd.fs,[([116],cT [97] [])]⟩)) 26]
  4 If (by kernel_rfl) (fun k hk=>?_) (fun A7 γ W7 h=>?_)
 ·exact match k,hk with
  | 0,_=>L2 [97]
  | 1,_=>Q6 _ _ 41 (af 0)
  | 2,_=>AH _ _ 42 IW (af 1)
  | 3,_=>f9 rfl 4 (.pointer (some ⟨b4,1,none⟩)) (old B4.slot)
  | 4,_=>AS _ _ _ 44 43 rfl B4.box rfl (B4.at rJ) (af 3) (af 2)
  | k+5,hk=>absurd hk (by simp)
 obtain ⟨qz,K1⟩:=rE ((h.oK 4).trans B4.slot) (h.did 4 _ rfl rfl) h.inv;have KZ:=F3.next (L':=(L7 b3 b4 b7)) (h.oK 3) h.inv.1 Z2 rJ Ki;have K3:=F7.next (L':=(L7 b3 b4 b7)) (h.oK 7) h.inv.1 Sh.symm rJ Ki;have e1:c9 s ft=s:=by rw[hc7];rfl
 have e2:et ft=d8:=by rw[hc7];rfl
 have e3:cd bd ft=⟨bd.fs,[([116],cT [97] [])]⟩:=by rw[hc7];rfl
 have K4:Below w.heap.size w W7:=aq KC h.inv.1 (fun c e=>by have:c=b4:=e;omega)
 try simp only[Exit.inBlock,Exit.then]
 exact pm230
