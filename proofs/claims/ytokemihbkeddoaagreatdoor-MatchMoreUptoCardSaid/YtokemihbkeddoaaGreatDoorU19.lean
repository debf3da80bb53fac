/-
The contract of 'few' of lyceumlaw07;rows of formulas whose parts lie anywhere.
-/
import Derived.Test.YtokemihbkeddoaaGreatDoorU18
namespace Go.Proofs.YtokemihbkeddoaaGreatDoor
open Go Go.RowKit Lib
set_option maxRecDepth 100000
set_option maxHeartbeats 64000000
variable {lo g cap cw d:Nat} {v:Value} {ts:List Fm} {W w4:World} {o oi:Oper} {a:Act} {b:Bd} {listed:Array Bool} {c:Sco} {p:Pl} {α:Type} {ic:Array TypeId} {ty:TypeId} {pos:String} {ce:Array Edge} {ob:Option Nat} {m:List Str}
section
attribute [local go_sem] Oper.semAt_some
def RowX (lo:Nat) (v:Value) (ts:List Fm) (W:World):Prop:=
 ∃qs:List FQ,qs.length=ts.length/\W.ownsRow lo 36 4 v ts.length (qs.flatMap FQ.cells)/\∀ j (h:j<qs.length) (h2:j<ts.length),FormV (fun b=>v.ownBlock≠some b) W qs[j].val ts[j]
theorem RowX.nil (lo:Nat) (W:World):RowX lo (.slice none 0 0) [] W:=⟨[],rfl,World.ownsRow_nil _ _ _ _,fun j h=>by simp at h⟩
theorem RowX.slice (h:RowX lo v ts W):∃a c,v=.slice a ts.length c:=by
 obtain ⟨qs,_,ho,_⟩:=h;exact pm177
theorem RowX.forms (h:RowX lo v ts W):FormsV (fun _=>True) W v ts:=by
 exact pm241
theorem RowX.step {k:Nat} {fs:List Fm} {W1:World} {qs ps:List FQ} (hk:qs.length=ts.length) (hp:ps.length=fs.length) (hb:Below W.heap.size W W1)
  (ht:∀ j (h:j<qs.length) (h2:j<ts.length),FormV (fun b=>v.ownBlock≠some b) W qs[j].val ts[j]) (hq:∀ j (h:j<ps.length) (h2:j<fs.length),FormV (fun b=>v.ownBlock≠some b) W1 ps[j].val fs[j])
  (aR:w4.ownsRow lo 36 4 (.slice (some ⟨g,0,none⟩) k cap) k (qs.flatMap FQ.cells ++ ps.flatMap FQ.cells)) (io:k=ts.length+fs.length)
  (ao:W1.grownBy w4 v.ownBlock) (hg:v.ownBlock=some g\/W1.heap.size<=g):RowX lo (.slice (some ⟨g,0,none⟩) k cap) (ts ++ fs) w4:=by
 have hs:=hb.size;have rh:∀ c,c<W1.heap.size->v.ownBlock≠some c->(Value.slice (some ⟨g,0,none⟩) k cap).ownBlock≠some c:=fun c hc hn e=>by
  injection e with e;obtain rfl:g=c:=e;rcases hg with hg | hg
  ·exact hn hg
  ·omega
 refine ⟨qs ++ ps,by simp[hk,hp],by rw[List.flatMap_append,dZ,<-io];exact aR,fun j h1 h2=>?_⟩
 by_cases hj:j<qs.length
 ·rw[List.getElem_append_left hj,List.getElem_append_left (by omega)];exact (ht j hj (by omega)).move (fun b hok hlt=>⟨rh b (by omega) hok,(ao.block b (by omega) (fun e=>hok e.symm)).trans (hb.block b hlt)⟩)
 ·rw[List.getElem_append_right (by omega),List.getElem_append_right (by omega)];simp only[hk];refine (hq (j - ts.length) (by simp at h1;omega) (by simp at h2;omega)).move (fun b hok hlt=>⟨rh b hlt hok,ao.block b hlt (fun e=>hok e.symm)⟩)
theorem mX {F:Fence} {n:Nat} {Q:Exit->Act->World->Prop} {K:Act->World->Prop} (s x:Operand) (ho:o.op=.call { callee:=.builtin .append,args:=#[s,x],argTypes:=#[34,34] })
  (lo:Nat) (ra:Option Addr) (m rc:Nat) (ts fs:List Fm) (ps:List FQ) (wr V:World) (cs:Array Value) (ek:RowX lo (.slice ra m rc) ts wr) (hm:ts.length=m) (hV:Below wr.heap.size wr V) (hlo:lo<=wr.heap.size) (hp:ps.length=fs.length) (nn:0<ps.length)
  (hq:∀ j (h:j<ps.length) (h2:j<fs.length),FormV (fun b=>(Value.slice ra m rc).ownBlock≠some b) V ps[j].val fs[j]) (hs:a.eval s=.slice ra m rc) (hx:a.eval x=.slice (some ⟨V.heap.size,0,none⟩) ps.length ps.length)
  (hcs:cs.toList=ps.flatMap FQ.cells) (zey:m+ps.length<=4000000)
  (h:∀ g cap w',RowX lo (.slice (some ⟨g,0,none⟩) (m+ps.length) cap) (ts ++ fs) w'->(∀ w0:World,Below w0.heap.size w0 V->w0.heap.size<=lo->Below w0.heap.size w0 w')->K (a.put o.dst (.slice (some ⟨g,0,none⟩) (m+ps.length) cap)) w') :
  o.wpIn F n Tryz.prog a (V.alloc (.cells cs 36)) K Q:=by
 obtain ⟨i0,hi,nM,i_,ig⟩:=info_parts jm;obtain ⟨qs,et,au,gp⟩:=ek;rw[hm]at et au;have hsz:=hV.size;have hb1:Below wr.heap.size wr (V.alloc (.cells cs 36)):=hV.alloc hV.size _;have Fr:∀ l:List FQ,(l.flatMap FQ.cells).length=l.length * 4:=fun l=>by
  induction l with
  | nil=>rfl
  | cons x l ih=>simp only[List.flatMap_cons,dZ,ih,fN,FQ.cells,List.length_nil];omega
 have zez:cs=(ps.flatMap FQ.cells).toArray:=by rw[<-hcs]
 refine bw s x 34 ho lo 36 i0 (.agg #[.int .u8 0,.string ByteArray.empty,.slice none 0 0,.slice none 0 0]) 4 72 Tryz.underlying34 hi nM i_ ig rfl (by decide) (.slice ra m rc) m _ hs (aZ au (fun b _ hlt=>hb1.block b hlt)) ⟨V.heap.size,0,none⟩ ps.length ps.length (ps.flatMap FQ.cells) hx (Fr ps)
  (by rw[<-hcs];exact c_ (cs:=cs) (t:=36) (fr:=(0,0)) (fP V _)) ?_ nn (by unfold maxLen;omega) (by omega) (by simp;omega) (V.heap.size+1) (by simp) ?_
 ·intro u hu;obtain ⟨z,_,hz⟩:=List.mem_flatMap.1 hu;simp only[FQ.cells,cY,List.not_mem_nil,or_false]at hz;rcases hz with rfl | rfl | rfl | rfl <;> rfl
 ·intro g ev w4 aR ao hg _;refine h g ev w4 (RowX.step (et.trans hm.symm) hp hb1 (fun j h1 h2=>gp j h1 h2) (fun j h1 h2=>(hq j h1 h2).move (fun c hc hlt=>⟨hc,bI _ _ _ hlt⟩)) aR (by rw[hm,hp]) ao (by rcases hg with h | h;exact .inl h;exact .inr (by simp;omega))) (fun w0 h0 hw0=>?_);exact (h0.alloc h0.size _).grown ao (by have:=h0.size;simp;omega) (fun c hc=>aN hw0 (au.lt c hc).1)
def EW (l:List (Fm×Fm)):Bool:=decide (l.length<=8) && kV (cz (l.take 9))
theorem sJ (l:List (Fm×Fm)):(cz l).length=2 * l.length:=by
 induction l with
 | nil=>rfl
 | cons x l ih=>simp[cz]at ih ⊢;omega
theorem G_ {l:List (Fm×Fm)} {k:Nat} (h:k<l.length):cz (l.take (k+1))=cz (l.take k) ++ [l[k].1,l[k].2]:=by
 rw[mt h];simp only[cz,List.flatMap_append,List.flatMap_cons,List.flatMap_nil,List.append_nil]
theorem MD {a b:List Fm} (h:fitFs (a ++ b)):fitFs a:=by
 obtain ⟨h1,h2⟩:=h
 induction a with
 | nil=>exact ⟨by simp[nodesFs],by simp[nmFs]⟩
 | cons x a ih=>
  simp only[ky,nodesFs,nmFs,ah]at h1 h2;have:=ih (by omega) h2.2;refine ⟨?_,by simp[nmFs,h2.1,this.2]⟩;have e:∀ c d:List Fm,nodesFs (c ++ d)=nodesFs c+nodesFs d:=fun c d=>by
   induction c with
   | nil=>simp[nodesFs]
   | cons y c ihc=>simp only[ky,nodesFs,ihc];omega
  rw[e]at h1;simp only[nodesFs];omega
theorem JP {l:List (Fm×Fm)} (h:fitFs (cz l)) (k:Nat):fitFs (cz (l.take k)):=by
 have e:cz l=cz (l.take k) ++ cz (l.drop k):=by
  simp only[cz];rw[<-List.flatMap_append,List.take_append_drop]
 rw[e]at h;exact MD h
theorem SE (l:List (Fm×Fm)) (az:fitFs (cz l)) (ok:Nat->Prop) (w:World) (la:Option Addr) (lc:Nat) (hl:SPairsV ok w (.slice la l.length lc) l) :
  Calls Tryz.prog 13 #[.slice la l.length lc] w fun e w'=>e=.returned (.bool (EW l))/\Below w.heap.size w w':=by
 have mY:2 * l.length<=2000000:=by have:=az.len;rw[sJ]at this;exact this
 have IZ:=hl.move (ok':=fun b=>b<w.heap.size) (fun b _ hlt=>⟨hlt,rfl⟩);obtain ⟨R,hR⟩:=am (EW l);rw[<-hR];obtain ⟨n1,dX⟩:=am l.length;rw[<-dX]at IZ mY ⊢;obtain ⟨i0,hi,nM,i_,ig⟩:=info_parts jm;obtain ⟨HN,xr,HLV,HF⟩:=eW dX hR IZ az;clear hl IZ dX hR az;go_enter Tryz.func13,Tryz.ntmps13;go_wp2;go_loopw [3,4] (fun r i wr=>∃k:Nat,k<=n1/\k<=9/\i=.int .i64 k/\RowX w.heap.size r (cz (l.take k)) wr/\Below w.heap.size w wr) (fun _ i _=>n1 - (intOf i).toNat)
 case atStart=>exact ⟨0,bc _,by omega,rfl,RowX.nil _ _,ak _ _⟩
 case round=>
  obtain ⟨k,hk,hk9,rfl,hR,ar⟩:=hrel;obtain ⟨ra,rc,rfl⟩:=hR.slice
  by_cases hlt:k<n1/\k<9
  ·have bp:k<l.length:=by rw[<-HN.o];exact hlt.1
   obtain ⟨b,off,p,q,rfl,hok,hp,hq,c0,c1,c2,c3,c4,c5,c6,c7⟩:=HLV.o.get bp;have hm:(cz (l.take k)).length=2 * k:=by rw[sJ,dM];omega
   rw[hm]at hR ⊢;have BP:(k:Int)<(n1:Int):=by omega
   have hkj:(k:Int)<9:=by omega
   obtain ⟨wz,XC⟩:=am wr;subst XC;obtain ⟨S,hS⟩:∃S:World->Prop,S=fun V=>Below w.heap.size w V:=⟨_,rfl⟩;have ff:∀ V,S V->V.cell? ⟨b,off+k * 8,none⟩=some (.int .u8 p.o)/\V.cell? ⟨b,off+k * 8+1,none⟩=some (.string p.n)/\V.cell? ⟨b,off+k * 8+2,none⟩=some (.slice p.a p.l p.c)/\V.cell? ⟨b,off+k * 8+3,none⟩=some (.slice p.b p.m p.e):=fun V h=>by
    rw[hS]at h;exact ⟨aa h c0,aa h c1,aa h c2,aa h c3⟩
   have fg:∀ V,S V->V.cell? ⟨b,off+k * 8+4,none⟩=some (.int .u8 q.o)/\V.cell? ⟨b,off+k * 8+5,none⟩=some (.string q.n)/\V.cell? ⟨b,off+k * 8+6,none⟩=some (.slice q.a q.l q.c)/\V.cell? ⟨b,off+k * 8+7,none⟩=some (.slice q.b q.m q.e):=fun V h=>by
    rw[hS]at h;exact ⟨aa h c4,aa h c5,aa h c6,aa h c7⟩
   have dO:S wz.drew:=by rw[hS];exact ar.drew
   have HP:=aG (hp.later ar) (hq.later ar);obtain ⟨HB,HR,dh,HM⟩:=eW ar hR hS hm;clear hS hR ar hp hq c0 c1 c2 c3 c4 c5 c6 c7 hm;go_wp2;refine (wpIn_wide (n:=3)).1 ?_;have g_:=eM;refine lg S 14 dO fun jp bN=>?_;refine bC 0 15 (.slice ra (2 * k:Nat) rc) rfl bN fun cq=>?_;simp only[ag];refine bC 1 16 (.slice (some ⟨b,off,none⟩) n1 lc) rfl bN fun cq=>?_;simp only[ag];refine bC 2 17 (.int .i64 k) rfl bN fun cq=>?_;simp only[ag];refine bC 3 18 (.pointer (some ⟨b,off+k * 8,none⟩)) rfl bN fun cq=>?_;simp only[ag];refine bC 4 19 (.pointer (some ⟨b,off+k * 8,none⟩)) rfl bN fun cq=>?_;simp only[ag];refine c9 5 20 (.agg #[.int .u8 p.o,.string p.n,.slice p.a p.l p.c,.slice p.b p.m p.e]) rfl (fun V hX=>by obtain ⟨g0,g1,g2,g3⟩:=ff V hX;go_simp) bN fun cq=>?_;simp only[ag];refine bC 6 21 (.slice (some ⟨b,off,none⟩) n1 lc) rfl bN fun cq=>?_;simp only[ag];refine bC 7 22 (.int .i64 k) rfl bN fun cq=>?_;simp only[ag];refine bC 8 23 (.pointer (some ⟨b,off+k * 8,none⟩)) rfl bN fun cq=>?_;simp only[ag];refine bC 9 24 (.pointer (some ⟨b,off+k * 8+4,none⟩)) rfl bN fun cq=>?_;simp only[ag];refine c9 10 25 (.agg #[.int .u8 q.o,.string q.n,.slice q.a q.l q.c,.slice q.b q.m q.e]) rfl (fun V hX=>by obtain ⟨g0,g1,g2,g3⟩:=fg V hX;go_simp) bN fun cq=>?_;simp only[ag];refine bZ 11 rfl fun K hK=>?_;go_simp;refine hK _ _ (fun _=>by rw[dh.o];exact (HB.o.drew).alloc HB.o.size _) (fun _=>?_);clear hK K;refine bZ 12 rfl fun K hK=>?_;refine mX (.tmp 15) (.tmp 26) rfl w.heap.size ra (2 * k) rc (cz (l.take k)) [l[k].1,l[k].2] [p,q] wz wz.drew _ HR.o HM.o ((ak _ _).drew) HB.o.size rfl (by simp) (fun j h1 h2=>?_) rfl rfl rfl (by simp;omega) (fun g ev w4 ek Io=>?_)
   ·have QP:∀ {x:Value} {f:Fm},FormV (fun b=>b<w.heap.size) wz x f->FormV (fun b=>(Value.slice ra (2 * k:Nat) rc).ownBlock≠some b) wz.drew x f:=fun h=>
     h.move (show dW (fun b=>b<w.heap.size) (fun b=>(Value.slice ra (2 * k:Nat) rc).ownBlock≠some b) wz wz.drew from fun c hc hlt=>⟨fun e=>by obtain ⟨_,_,ho,_⟩:=HR.o;have:=(ho.lt c e).1;omega,rfl⟩)
    rcases j with _ | _ | j
    ·exact QP HP.o.1
    ·exact QP HP.o.2
    ·simp only[fN,List.length_nil]at h1;omega
   rw[<-G_ bp]at ek;have sg:=ae ek;have eG:=ae (Io w HB.o.drew (aI _));clear ek Io;have pp164a:=();exact pm164
  ·have hm:(cz (l.take k)).length=2 * k:=by rw[sJ,dM];have:=HN.o;omega
   have ht9:cz (l.take k)=cz (l.take 9):=by
    congr 1
    by_cases h9:k=9
    ·rw[h9]
    ·rw[f8 (by have:=HN.o;omega),f8 (by have:=HN.o;omega)]
   rw[hm]at hR ⊢;have Qi:=hR.forms;rw[ht9]at Qi;have qW:EW l=(decide (n1<=8) && kV (cz (l.take 9))):=by unfold EW;rw[HN.o]
   have CS:=Dh (cz (l.take 9)) (JP HF.o 9) _ wr ra _ rc Qi;obtain ⟨rC,HB⟩:=a_ CS ar;have Q_:=ae (xr.o.trans qW);clear hR Qi CS ar hm ht9 qW
   by_cases eA:k<n1
   ·obtain rfl:k=9:=by omega
    have h8:decide ((n1:Int)<=8)=false:=by simp;omega
    have BP:((9:Nat):Int)<(n1:Int):=by omega
    have HE:=ae (show R=false by rw[Q_.o,show decide (n1<=8)=false by simp;omega];rfl);go_wp2;go_ret;exact ⟨by rw[HE.o];rfl,HB.o⟩
   ·obtain rfl:k=n1:=by omega
    by_cases h8:k<=8
    ·have h8':decide ((k:Int)<=8)=true:=by simp;omega
     have HE:=ae (show R=kV (cz (l.take 9)) by rw[Q_.o,show decide (k<=8)=true by simp;omega];rfl);have pp242:=();exact pm242
    ·have h8':decide ((k:Int)<=8)=false:=by simp;omega
     have HE:=ae (show R=false by rw[Q_.o,show decide (k<=8)=false by simp;omega];rfl);go_wp2;go_ret;exact ⟨by rw[HE.o];rfl,HB.o⟩
def jV (b:List (Str×Fm)):List Fm:=b.flatMap fun x=>[x.2,.mk 1 x.1 [] []]
def kI (b:List (Str×Tm)):List Fm:=b.map fun x=>.mk 1 x.1 [x.2] []
def me (b:Bd):Bool:=decide (b.fs.length<=10) && (decide (b.ts.length<=10) && kV (jV b.fs ++ kI b.ts))
theorem uh (l:List (Str×Fm)):(jV l).length=2 * l.length:=by
 induction l with
 | nil=>rfl
 | cons x l ih=>simp[jV]at ih ⊢;omega
theorem ME {l:List (Str×Fm)} {k:Nat} (h:k<l.length):jV (l.take (k+1))=jV (l.take k) ++ [l[k].2,.mk 1 l[k].1 [] []]:=by
 rw[mt h];simp only[jV,List.flatMap_append,List.flatMap_cons,List.flatMap_nil,List.append_nil]
theorem MF {l:List (Str×Tm)} {k:Nat} (h:k<l.length):kI (l.take (k+1))=kI (l.take k) ++ [.mk 1 l[k].1 [l[k].2] []]:=by
 rw[mt h];simp only[kI,List.map_append,cK,List.map_nil]
theorem JQ (bd:Bd) (YO:bd.fs.length<=1000000) (Pc:bd.ts.length<=1000000) (az:bd.fs.length<=10->bd.ts.length<=10->fitFs (jV bd.fs ++ kI bd.ts)) (ok:Nat->Prop) (w:World) (q:BQ) (hq:BindV ok w q bd) :
  Calls Tryz.prog 14 #[q.val] w fun e w'=>e=.returned (.bool (me bd))/\Below w.heap.size w w':=by
 have hqv:=hq.move (ok':=fun b=>b<w.heap.size) (fun b _ hlt=>⟨hlt,rfl⟩);obtain ⟨R,hR⟩:=am (me bd);rw[<-hR];obtain ⟨n1,dX⟩:=am bd.fs.length;obtain ⟨n2,ku⟩:=am bd.ts.length;obtain ⟨qa,ql,qc,qb,qm,qe⟩:=q;obtain rfl:=hqv.1.len;obtain rfl:=hqv.2.len;have hq1:FBindsV (fun b=>b<w.heap.size) w (.slice qa bd.fs.length qc) bd.fs:=hqv.1;have Fa:TBindsV (fun b=>b<w.heap.size) w (.slice qb bd.ts.length qe) bd.ts:=hqv.2;rw[<-dX]at hq1;rw[<-ku]at Fa;obtain ⟨i0,hi,nM,i_,ig⟩:=info_parts jm;obtain ⟨W1,bX⟩:=am (w.alloc (.cells #[.slice qa n1 qc,.slice qb n2 qe] 26));have il:=cZ bX;have x1:=cb bX;have e0:W1.cell? ⟨w.heap.size,0,none⟩=some (.slice qa n1 qc):=aE x1 0;have e1:W1.cell? ⟨w.heap.size,1,none⟩=some (.slice qb n2 qe):=aE x1 1;have iR:=bG il e0 e1;obtain ⟨HWW,oV,E6,xr⟩:=eW bX dX ku hR;have HQV:=aG hq1 Fa;have mK:=ae az;rw[bX]at e0 e1;clear hq hqv hq1 Fa hR az dX ku bX il x1;simp only[BQ.val];rw[<-oV.o,<-E6.o]
 by_cases h10:n1<=10
 case neg=>
  have t1:decide ((10:Int)<(n1:Int))=true:=by simp;omega
  have HE:=ae (show R=false by rw[xr.o];unfold me;rw[<-oV.o];simp[h10]);exact pm195
 have t1:decide ((10:Int)<(n1:Int))=false:=by simp;omega
 by_cases h20:n2<=10
 case neg=>
  have t2:decide ((10:Int)<(n2:Int))=true:=by simp;omega
  have HE:=ae (show R=false by rw[xr.o];unfold me;rw[<-E6.o];simp[h20]);exact pm195
 have t2:decide ((10:Int)<(n2:Int))=false:=by simp;omega
 have HE:=ae (show R=kV (jV bd.fs ++ kI bd.ts) by rw[xr.o];unfold me;rw[<-oV.o,<-E6.o];simp[h10,h20]);have TL:=ae (mK.o (by rw[<-oV.o];exact h10) (by rw[<-E6.o];exact h20));go_enter Tryz.func14,Tryz.ntmps14;go_wp2;rw[<-HWW.o];clear e0 e1;go_loopw [3,4] (fun r i wr=>∃k:Nat,k<=n1/\i=.int .i64 k/\RowX W1.heap.size r (jV (bd.fs.take k)) wr/\Below W1.heap.size W1 wr) (fun _ i _=>n1 - (intOf i).toNat)
 case atStart=>exact ⟨0,bc _,rfl,RowX.nil _ _,ak _ _⟩
 case round=>
  obtain ⟨k,hk,rfl,hR,ar⟩:=hrel;obtain ⟨ra,rc,rfl⟩:=hR.slice
  by_cases hlt:k<n1
  case pos=>
   have bp:k<bd.fs.length:=by rw[<-oV.o];exact hlt
   obtain ⟨⟨nm,fm⟩,tk⟩:∃x,x=bd.fs[k]:=⟨_,rfl⟩;obtain ⟨b,off,x,rfl,hok,hx,c0,c1,c2,c3,c4⟩:=(HQV.o.1).get bp;rw[<-tk]at hx c0;simp only at hx c0;have hm:(jV (bd.fs.take k)).length=2 * k:=by rw[uh,dM];omega
   obtain ⟨M,XD⟩:=am (2 * k);rw[hm,<-XD]at hR ⊢;rw[<-XD]at hm;have BP:(k:Int)<(n1:Int):=by omega
   have pp281:=();exact pm281
  obtain rfl:k=n1:=by omega
  obtain ⟨wo,IJ⟩:=am wr;subst IJ;have hm:(jV (bd.fs.take k)).length=2 * k:=by rw[uh,dM];have:=oV.o;omega
  rw[hm]at hR ⊢;rw[f8 (by rw[<-oV.o];exact aI _)]at hR;have d0:=aa ar iR.o.2.1;obtain ⟨Ya,RC⟩:=a_ hR ar;clear hR ar hm;go_wp2;go_loopw [3,5] (fun r i wr=>∃j:Nat,j<=n2/\i=.int .i64 j/\RowX W1.heap.size r (jV bd.fs ++ kI (bd.ts.take j)) wr/\Below W1.heap.size W1 wr) (fun _ i _=>n2 - (intOf i).toNat)
  case atStart=>exact ⟨0,bc _,rfl,by simpa[kI] using Ya.o,RC.o⟩
  case round=>
   obtain ⟨j,hj,rfl,hR,ar⟩:=hrel;obtain ⟨ra,rc,rfl⟩:=hR.slice;clear d0
   by_cases eA:j<n2
   case pos=>
    have bp:j<bd.ts.length:=by rw[<-E6.o];exact eA
    obtain ⟨⟨nm,tm⟩,tk⟩:∃x,x=bd.ts[j]:=⟨_,rfl⟩;obtain ⟨b,off,x,rfl,hok,hx,c0,c1,c2,c3⟩:=(HQV.o.2).get bp;rw[<-tk]at hx c0;simp only at hx c0;have hm:(jV bd.fs ++ kI (bd.ts.take j)).length=2 * k+j:=by rw[dZ,uh,<-oV.o];simp[kI];omega
    obtain ⟨M,XD⟩:=am (2 * k+j);rw[hm,<-XD]at hR ⊢;rw[<-XD]at hm;have BP:(j:Int)<(n2:Int):=by omega
    exact pm281
   obtain rfl:j=n2:=by omega
   have hm:(jV bd.fs ++ kI (bd.ts.take j)).length=2 * k+j:=by rw[dZ,uh,<-oV.o];simp[kI];have:=E6.o;omega
   rw[hm]at hR ⊢;rw[f8 (by rw[<-E6.o];exact aI _)]at hR;have d0:=aa ar iR.o.2.2;have CS:=Dh (jV bd.fs ++ kI bd.ts) TL.o _ wr ra _ rc hR.forms;obtain ⟨rC,HB⟩:=a_ CS ar;clear hR CS ar hm;exact pm242
section
variable {F:Fence} {n:Nat} {P:Program} {ops:Array Oper} {Q:Exit->Act->World->Prop} {md:Region.Mode} {S:World->Prop} {e:Nat}
theorem JR (i d:Nat) {w:World} (hi:ops[i]?=some oi) (hS:S w)
  (h:S w->du F n P md ops Q S e cw (listed.setIfInBounds i true) { a with tmps:=a.tmps.setIfInBounds d undef } w)
  (ph:gX F ops:=by assumption)
  (hs:(Region.noSelect ops && (Region.free md ops listed i && ((Region.ready md ops listed).contains i && (BN md ops e i && qu md ops listed))))=true:=by kernel_rfl)
  (hQ:∀ c a w,Q (.panic c) (a.put oi.dst undef) w->Q (.panic c) a w:=by exact fun _ _ _ h=>h) (uK:oi.dst=some d:=by rfl) (hw:Region.wanted oi (yielded ops a.tmps)=false:=by rfl)
  (AI:∀ w,oi.about P w a.eval=none:=by exact fun _=>rfl):du F n P md ops Q S e (cw+1) listed a w:=
 YU d ph hi hs hQ uK hw AI hS h
theorem nnA (i d:Nat) {w:World} (hi:ops[i]?=some oi) (hS:S w)
  (h:S w->du F n P md ops Q S e cw (listed.setIfInBounds i true) { a with tmps:=a.tmps.setIfInBounds d undef } w) (hF:∀ f,F.fn f:=by exact fun _=>trivial)
  (hr:Region.ready md ops listed=[i]:=by kernel_rfl) (uK:oi.dst=some d:=by rfl) (hw:Region.wanted oi (yielded ops a.tmps)=false:=by rfl):du F n P md ops Q S e (cw+1) listed a w:=
 YV d hi hr uK hw (fun f _=>hF f) hS h
theorem twM (i j:Nat) {oj:Oper} {w:World} (hi:ops[i]?=some oi) (hj:ops[j]?=some oj)
  (h1:∀ K:Act->World->Prop,(∀ a w,(i<e->S w)->((i<e->S w)->du F n P md ops Q S e cw (listed.setIfInBounds i true) a w)->K a w)->Oper.wpIn F n P oi a w K Q)
  (h2:∀ K:Act->World->Prop,(∀ a w,(j<e->S w)->((j<e->S w)->du F n P md ops Q S e cw (listed.setIfInBounds j true) a w)->K a w)->Oper.wpIn F n P oj a w K Q)
  (hr:Region.ready md ops listed=[i,j]:=by kernel_rfl) (hwi:Region.wanted oi (yielded ops a.tmps)=true:=by rfl) (hwj:Region.wanted oj (yielded ops a.tmps)=true:=by rfl):du F n P md ops Q S e (cw+1) listed a w:=by
 exact pm97
end
theorem Am {ok:Nat->Prop} {X:World} {B c:Nat} {p:TQ} {f:Tm} (h:TermV ok X p.val f) (hB:ok B) (hx:X.heap[B]?=some (.cells #[.bool p.v,.string p.n,.slice p.a p.l p.c] 43 (0,0))):TermsV ok X (.slice (some ⟨B,0,none⟩) 1 c) [f]:=
 ⟨_,c,fun _=>p.val,rfl,.inr ⟨B,0,rfl,hB,fun j hj=>by
  obtain rfl:j=0:=by simpa using hj
  exact ⟨_,_,_,rfl,li hx⟩⟩,fun j hj=>by
  obtain rfl:j=0:=by simpa using hj
  exact h⟩
open Classical in
noncomputable def sameB (x y:Bd):Bool:=decide (x=y)
theorem vT {x y:Bd}:sameB x y=true ↔ x=y:=by simp[sameB]
theorem oF {l m:List α} {k:Nat} (h:l.take k=m.take k) (hl:k<l.length) (hm:k<m.length) (e:l[k]=m[k]):l.take (k+1)=m.take (k+1):=by
 rw[mt hl,mt hm,h,e]
theorem MG (x y:Bd) (wg:x.fs.length<=1000000) (o9:x.ts.length<=1000000) (Y_:∀ f∈x.fs,fitF f.2) (htx:∀ t∈x.ts,fitT t.2) (ok ok':Nat->Prop) (w:World) (q q':BQ) (hq:BindV ok w q x) (mM:BindV ok' w q' y) :
  Calls Tryz.prog 21 #[q.val,q'.val] w fun e w'=>e=.returned (.bool (sameB x y))/\Below w.heap.size w w':=by
 obtain ⟨R,hR⟩:=am (sameB x y);have I_:R=true ↔ x=y:=by rw[hR];exact vT
 rw[<-hR];clear hR;obtain ⟨qa,ql,qc,qb,qm,qe⟩:=q;obtain ⟨ra,rl,rc,rb,rm,re⟩:=q';obtain rfl:=hq.1.len;obtain rfl:=hq.2.len;obtain rfl:=mM.1.len;obtain rfl:=mM.2.len;obtain ⟨n1,dX⟩:=am x.fs.length;obtain ⟨n2,ku⟩:=am x.ts.length;obtain ⟨m1,jz⟩:=am y.fs.length;obtain ⟨m2,rd⟩:=am y.ts.length;have hq1:FBindsV ok w (.slice qa x.fs.length qc) x.fs:=hq.1;have Fa:TBindsV ok w (.slice qb x.ts.length qe) x.ts:=hq.2;have DT:FBindsV ok' w (.slice ra y.fs.length rc) y.fs:=mM.1;have hq4:TBindsV ok' w (.slice rb y.ts.length re) y.ts:=mM.2;rw[<-dX]at hq1 wg;rw[<-ku]at Fa o9;rw[<-jz]at DT;rw[<-rd]at hq4;simp only[BQ.val];rw[<-dX,<-ku,<-jz,<-rd];obtain ⟨W2,bm⟩:=am ((w.alloc (.cells #[.slice qa n1 qc,.slice qb n2 qe] 26)).alloc (.cells #[.slice ra m1 rc,.slice rb m2 re] 26));have fF:Below w.heap.size w W2:=lF bm;have x0:W2.heap[w.heap.size]?=some (.cells #[.slice qa n1 qc,.slice qb n2 qe] 26 (0,0)):=sQ bm;have x1:W2.heap[w.heap.size+1]?=some (.cells #[.slice ra m1 rc,.slice rb m2 re] 26 (0,0)):=jA bm;obtain ⟨e0,e1⟩:=QV x0;obtain ⟨e2,e3⟩:=QV x1;have gK:=ae bm;have HE:=fh fF e0 e1 e2 e3;have HQ:=cC (hq1.later fF) (Fa.later fF) (DT.later fF) (hq4.later fF);have HN:=cC dX ku jz rd;have HF:=aG Y_ htx;have HR:=ae I_;rw[bm]at e0 e1 e2 e3;clear hq mM hq1 Fa DT hq4 Y_ htx I_ bm fF x0 x1 dX ku jz rd;have f_:(¬x=y)->R=false:=fun h=>by
  cases hr:R with
  | false=>rfl
  | true=>exact absurd (HR.o.1 hr) h
 have yX:=ae f_;clear f_
 by_cases h1:n1=m1
 case neg=>
  have t1:((n1:Int) == (m1:Int))=false:=by simp;omega
  have t2:((n1:Int) != (m1:Int))=true:=by simp;omega
  have HZ:=ae (yX.o fun h=>by subst h;exact h1 (by rw[HN.o.1,HN.o.2.2.1]));exact pm201
 subst h1
 by_cases h2:n2=m2
 case neg=>
  have t1:((n2:Int) == (m2:Int))=false:=by simp;omega
  have t2:((n2:Int) != (m2:Int))=true:=by simp;omega
  have HZ:=ae (yX.o fun h=>by subst h;exact h2 (by rw[HN.o.2.1,HN.o.2.2.2]));exact pm201
 subst h2;go_enter Tryz.func21,Tryz.ntmps21;go_wp2;rw[<-gK.o];clear e0 e1 e2 e3;go_loopw [5] (fun i wr=>∃k:Nat,k<=n1/\i=.int .i64 k/\Below W2.heap.size W2 wr/\x.fs.take k=y.fs.take k) (fun i _=>n1 - (intOf i).toNat)
 case atStart=>exact ⟨0,bc _,rfl,ak _ _,by simp⟩
 case round=>
  obtain ⟨k,hk,rfl,ar,ct⟩:=hrel
  by_cases hlt:k<n1
  case pos=>
   have bp:k<x.fs.length:=by rw[<-HN.o.1];exact hlt
   have mN:k<y.fs.length:=by rw[<-HN.o.2.2.1];exact hlt
   obtain ⟨⟨nx,fx⟩,rU⟩:∃z,z=x.fs[k]:=⟨_,rfl⟩;obtain ⟨⟨ny,fy⟩,XF⟩:∃z,z=y.fs[k]:=⟨_,rfl⟩;obtain ⟨b,off,u,rfl,_,hu,c0,c1,c2,c3,c4⟩:=HQ.o.1.get bp;obtain ⟨b',mL,u',rfl,_,iF,mg,nd,ne,Gh,c4'⟩:=HQ.o.2.2.1.get mN;have qF:=HF.o.1 _ (aA bp);rw[<-rU]at hu c0 qF;rw[<-XF]at iF mg;simp only at hu iF c0 mg qF;have f0:=fun z:Later wr=>z.get (aa ar HE.o.2.1);have f1:=fun z:Later wr=>z.get (aa ar HE.o.2.2.2.1);have f2:=fun z:Later wr=>z.get (aa ar c0);have f3:=fun z:Later wr=>z.get (aa ar c1);have f4:=fun z:Later wr=>z.get (aa ar c2);have f5:=fun z:Later wr=>z.get (aa ar c3);have f6:=fun z:Later wr=>z.get (aa ar c4);have g2:=fun z:Later wr=>z.get (aa ar mg);have g3:=fun z:Later wr=>z.get (aa ar nd);have g4:=fun z:Later wr=>z.get (aa ar ne);have g5:=fun z:Later wr=>z.get (aa ar Gh);have g6:=fun z:Later wr=>z.get (aa ar c4');have d0:=aa ar HE.o.2.1;have BP:(k:Int)<(n1:Int):=by omega
   have CC:=fun (z:Later wr)=>GY fx fy ok ok' z.w u u' qF ((hu.later ar).later z.below) ((iF.later ar).later z.below);obtain ⟨V,hV⟩:=am (uM fx fy);rw[<-hV]at CC;obtain ⟨HC,HV,HB,HT⟩:=eW CC hV ar ct;have HX:=aG rU XF;clear hu iF hV ar ct qF CC c0 c1 c2 c3 c4 mg nd ne Gh c4' rU XF
   by_cases lM:nx=ny
   case neg=>
    have pp171:=();exact pm171
   subst lM;exact pm100
  obtain rfl:k=n1:=by omega
  have MH:x.fs=y.fs:=by
   have h1:x.fs.take k=x.fs:=by rw[HN.o.1];exact cV
   have h2:y.fs.take k=y.fs:=by rw[HN.o.2.2.1];exact cV
   rw[<-h1,ct,h2]
  obtain ⟨wo,IJ⟩:=am wr;subst IJ;have d0:=aa ar HE.o.2.1;obtain ⟨HFe,RC⟩:=a_ MH ar;clear MH ar ct;go_wp2;go_loopw [6] (fun i wr=>∃j:Nat,j<=n2/\i=.int .i64 j/\Below W2.heap.size W2 wr/\x.ts.take j=y.ts.take j) (fun i _=>n2 - (intOf i).toNat)
  case atStart=>exact ⟨0,bc _,rfl,RC.o,by simp⟩
  case round=>
   obtain ⟨j,hj,rfl,ar,ct⟩:=hrel;clear d0;have d1:=aa ar HE.o.2.2.1
   by_cases eA:j<n2
   case pos=>
    have bp:j<x.ts.length:=by rw[<-HN.o.2.1];exact eA
    have mN:j<y.ts.length:=by rw[<-HN.o.2.2.2];exact eA
    obtain ⟨⟨nx,tx⟩,rU⟩:∃z,z=x.ts[j]:=⟨_,rfl⟩;obtain ⟨⟨ny,ty⟩,XF⟩:∃z,z=y.ts[j]:=⟨_,rfl⟩;obtain ⟨b,off,u,rfl,_,hu,c0,c1,c2,c3⟩:=HQ.o.2.1.get bp;obtain ⟨b2,off2,v,rfl,_,hv,mg,nd,ne,Gh⟩:=HQ.o.2.2.2.get mN;have qF:=HF.o.2 _ (aA bp);rw[<-rU]at hu c0 qF;rw[<-XF]at hv mg;simp only at hu hv c0 mg qF;have BP:(j:Int)<(n2:Int):=by omega
    obtain ⟨wz,XC⟩:=am wr;subst XC;obtain ⟨S,hS⟩:∃S:World->Prop,S=fun Z=>Below W2.heap.size W2 Z:=⟨_,rfl⟩;have f0:∀ Z,S Z->Z.cell? ⟨w.heap.size,1,none⟩=some (.slice (some ⟨b,off,none⟩) n2 qe)/\Z.cell? ⟨w.heap.size+1,1,none⟩=some (.slice (some ⟨b2,off2,none⟩) n2 re):=fun Z h=>by rw[hS]at h;exact ⟨aa h HE.o.2.2.1,aa h HE.o.2.2.2.2⟩
    have f1:∀ Z,S Z->Z.cell? ⟨b,off+j * 4,none⟩=some (.string ⟨nx.toArray⟩)/\Z.cell? ⟨b,off+j * 4+1,none⟩=some (.bool u.v)/\Z.cell? ⟨b,off+j * 4+2,none⟩=some (.string u.n)/\Z.cell? ⟨b,off+j * 4+3,none⟩=some (.slice u.a u.l u.c):=fun Z h=>by rw[hS]at h;exact ⟨aa h c0,aa h c1,aa h c2,aa h c3⟩
    have f2:∀ Z,S Z->Z.cell? ⟨b2,off2+j * 4,none⟩=some (.string ⟨ny.toArray⟩)/\Z.cell? ⟨b2,off2+j * 4+1,none⟩=some (.bool v.v)/\Z.cell? ⟨b2,off2+j * 4+2,none⟩=some (.string v.n)/\Z.cell? ⟨b2,off2+j * 4+3,none⟩=some (.slice v.a v.l v.c):=fun Z h=>by rw[hS]at h;exact ⟨aa h mg,aa h nd,aa h ne,aa h Gh⟩
    have dO:S wz.drew:=by rw[hS];exact ar.drew
    obtain ⟨V,hV⟩:=am (iE [tx] [ty]);have F2:=ae (show ∀ (A:World),Below W2.heap.size W2 A->∀ BX BY:Nat,A.heap[BX]?=some (.cells #[.bool u.v,.string u.n,.slice u.a u.l u.c] 43 (0,0))->A.heap[BY]?=some (.cells #[.bool v.v,.string v.n,.slice v.a v.l v.c] 43 (0,0)) →
      Calls Tryz.prog 19 #[.slice (some ⟨BX,0,none⟩) 1 1,.slice (some ⟨BY,0,none⟩) 1 1] A fun e w'=>e=.returned (.bool V)/\Below A.heap.size A w' from fun A hA BX BY hX hY=>by
     rw[hV];exact mV [tx] [ty] (fun _=>True) (fun _=>True) A _ 1 1 _ 1 1 ⟨by simp only[nodesTs];have:=qF.1;omega,by simp[nmTs];exact qF.2⟩ (Am ((hu.later hA).move (fun _ _ _=>⟨trivial,rfl⟩)) trivial hX) (Am ((hv.later hA).move (fun _ _ _=>⟨trivial,rfl⟩)) trivial hY))
    obtain ⟨HV,HB,HT,dh⟩:=eW hV ar ct hS;have HX:=aG rU XF;clear hu hv hV ar ct qF c0 c1 c2 c3 mg nd ne Gh rU XF hS;have g_:=eM
    by_cases lM:nx=ny
    case neg=>
     exact pm171
    subst lM;go_wp2;refine (wpIn_wide (n:=3)).1 ?_;refine lg S 31 dO fun jp bN=>?_;refine bC 0 66 (.pointer (some ⟨w.heap.size,1,none⟩)) rfl bN fun cq=>?_;simp only[ag];exact pm52
   obtain rfl:j=n2:=by omega
   have hte:x.ts=y.ts:=by
    have h1:x.ts.take j=x.ts:=by rw[HN.o.2.1];exact cV
    have h2:y.ts.take j=y.ts:=by rw[HN.o.2.2.2];exact cV
    rw[<-h1,ct,h2]
   have HZ:=ae (show R=true from HR.o.2 (by
    cases x with
    | mk a b=>cases y with
     | mk c d=>simp only at HFe hte;rw[show a=c from HFe.o,show b=d from hte]))
   have HB:=ae ar;clear hte ar ct;go_wp2;go_ret;exact ⟨by rw[HZ.o];rfl,HE.o.1.tr HB.o⟩
section
variable {ops:Array Oper} {Q:Exit->Act->World->Prop} {a0:Act} {l:List Fact} {kA kS k:Nat} {M:Nat->Prop} {w0:World} {md:Region.Mode} {L:Nat->Prop}
theorem JS (ps:List (Fm×Fm)) (hf:fitFs (cz ps)) (x:Nat) {g:Option (Nat×Bool)} (hx:Dep md ops a0 l kA kS M w0 k ⟨some d,.call ⟨.value (.func 13),#[.tmp x],ic⟩,ty,pos,ce,g⟩ x (sG L ps)) (ho:ops[k]?=some ⟨some d,.call ⟨.value (.func 13),#[.tmp x],ic⟩,ty,pos,ce,g⟩:=by rfl) (hw:Wt md ops a0 l kA kS M w0 k ⟨some d,.call ⟨.value (.func 13),#[.tmp x],ic⟩,ty,pos,ce,g⟩:=by exact fun _ _ _ _=>rfl) (hp:gN l k=(bn (.bool (EW ps))).p:=by rfl):de md ops Q a0 l kA kS M w0 k:=
 dY hw ho rfl 13 (fun a γ w aU=>by
  obtain ⟨vx,ex,fx⟩:=hx.is aU;obtain ⟨ax,cx,rfl,hx⟩:=fx;refine ⟨#[.slice ax ps.length cx],by go_simp,(SE ps hf _ w ax cx hx).mono ?_⟩;rintro e w' ⟨rfl,hb⟩;exact ⟨⟨_,rfl,by rw[hp];rfl⟩,hb⟩)
theorem Di (b:Bd) (h1:b.fs.length<=1000000) (h2:b.ts.length<=1000000) (hf:b.fs.length<=10->b.ts.length<=10->fitFs (jV b.fs ++ kI b.ts)) (x:Nat) {g:Option (Nat×Bool)} (hx:Dep md ops a0 l kA kS M w0 k ⟨some d,.call ⟨.value (.func 14),#[.tmp x],ic⟩,ty,pos,ce,g⟩ x (BindG L b)) (ho:ops[k]?=some ⟨some d,.call ⟨.value (.func 14),#[.tmp x],ic⟩,ty,pos,ce,g⟩:=by rfl) (hw:Wt md ops a0 l kA kS M w0 k ⟨some d,.call ⟨.value (.func 14),#[.tmp x],ic⟩,ty,pos,ce,g⟩:=by exact fun _ _ _ _=>rfl) (hp:gN l k=(bn (.bool (me b))).p:=by rfl):de md ops Q a0 l kA kS M w0 k:=
 dY hw ho rfl 14 (fun a γ w aU=>by
  obtain ⟨vx,ex,fx⟩:=hx.is aU;obtain ⟨qx,rfl,hx⟩:=fx;refine ⟨#[qx.val],by go_simp,(JQ b h1 h2 hf _ w qx hx).mono ?_⟩;rintro e w' ⟨rfl,hb⟩;exact ⟨⟨_,rfl,by rw[hp];rfl⟩,hb⟩)
theorem Ha (b b2:Bd) (hb:BdFit b) (x y:Nat) {g:Option (Nat×Bool)} (hx:Dep md ops a0 l kA kS M w0 k ⟨some d,.call ⟨.value (.func 21),#[.tmp x,.tmp y],ic⟩,ty,pos,ce,g⟩ x (BindG L b)) (hy:Dep md ops a0 l kA kS M w0 k ⟨some d,.call ⟨.value (.func 21),#[.tmp x,.tmp y],ic⟩,ty,pos,ce,g⟩ y (BindG L b2)) (ho:ops[k]?=some ⟨some d,.call ⟨.value (.func 21),#[.tmp x,.tmp y],ic⟩,ty,pos,ce,g⟩:=by rfl) (hw:Wt md ops a0 l kA kS M w0 k ⟨some d,.call ⟨.value (.func 21),#[.tmp x,.tmp y],ic⟩,ty,pos,ce,g⟩:=by exact fun _ _ _ _=>rfl) (hp:gN l k=(bn (.bool (sameB b b2))).p:=by rfl):de md ops Q a0 l kA kS M w0 k:=
 dY hw ho rfl 21 (fun a γ w aU=>by
  obtain ⟨vx,ex,fx⟩:=hx.is aU;obtain ⟨vy,ey,fy⟩:=hy.is aU;obtain ⟨qx,rfl,hx⟩:=fx;obtain ⟨qy,rfl,hy⟩:=fy;refine ⟨#[qx.val,qy.val],by go_simp,(MG b b2 (by have:=hb.lf;omega) (by have:=hb.lt;omega) (fun x hx=>(hb.fs x hx).2) (fun x hx=>(hb.ts x hx).2.1) _ _ w qx qy hx hy).mono ?_⟩;rintro e w' ⟨rfl,hb⟩;exact ⟨⟨_,rfl,by rw[hp];rfl⟩,hb⟩)
theorem qr (ps:List (Fm×Fm)) (x:Nat) (la:Option Addr) (lc:Nat) (P:SPairsV (okS L w0) w0 (.slice la ps.length lc) ps) (hM:∀ c,L c->¬M c) {g:Option (Nat×Bool)} (hx:Dep md ops a0 l kA kS M w0 k ⟨some d,.move (.tmp x),ty,pos,ce,g⟩ x (fun v _ _=>v=.slice la ps.length lc)) (ho:ops[k]?=some ⟨some d,.move (.tmp x),ty,pos,ce,g⟩:=by rfl) (hw:Wt md ops a0 l kA kS M w0 k ⟨some d,.move (.tmp x),ty,pos,ce,g⟩:=by exact fun _ _ _ _=>rfl) (hp:gN l k=sG L ps:=by rfl):de md ops Q a0 l kA kS M w0 k:=
 eJ hw ho rfl (fun a γ w aU=>by
  obtain ⟨vx,ex,rfl⟩:=hx a γ w aU;exact ⟨.slice la ps.length lc,by go_simp,by rw[hp];exact ⟨la,lc,rfl,(P.move (okS.at hM)).move (okB.old aU.inv)⟩⟩)
theorem EX (f:Fm) (x:Nat) (b off:Nat) (q:FQ) (hf:FormV (okS L w0) w0 q.val f) (c0:w0.cell? ⟨b,off,none⟩=some (.int .u8 q.o)) (c1:w0.cell? ⟨b,off+1,none⟩=some (.string q.n)) (c2:w0.cell? ⟨b,off+2,none⟩=some (.slice q.a q.l q.c)) (c3:w0.cell? ⟨b,off+3,none⟩=some (.slice q.b q.m q.e)) (hb:¬M b) (hM:∀ c,L c->¬M c) {g:Option (Nat×Bool)} (hx:Dep md ops a0 l kA kS M w0 k ⟨some d,.load 36 (.tmp x),ty,pos,ce,g⟩ x (fun v _ _=>v=.pointer (some ⟨b,off,none⟩))) (ho:ops[k]?=some ⟨some d,.load 36 (.tmp x),ty,pos,ce,g⟩:=by rfl) (hw:Wt md ops a0 l kA kS M w0 k ⟨some d,.load 36 (.tmp x),ty,pos,ce,g⟩:=by exact fun _ _ _ _=>rfl) (hp:gN l k=FormG L f:=by rfl):de md ops Q a0 l kA kS M w0 k:=
 eJ hw ho rfl (fun a γ w aU=>by
  obtain ⟨vx,ex,rfl⟩:=hx a γ w aU;have C:=fun i v (h:w0.cell? ⟨b,i,none⟩=some v)=>aU.inv.1.cell (a:=⟨b,i,none⟩) hb h;have c0:=C _ _ c0;have c1:=C _ _ c1;have c2:=C _ _ c2;have c3:=C _ _ c3;exact ⟨FQ.val q,by simp only[FQ.val];go_simp,by rw[hp];exact ⟨q,rfl,(hf.move (okS.at hM)).move (okB.old aU.inv)⟩⟩)
end
def P8 (x:FQ×FQ):List Value:=x.1.cells ++ x.2.cells
theorem za5 (qs:List (FQ×FQ)):∀ j (h:j<qs.length) i (_:i<8),(qs.flatMap P8)[j * 8+i]?=(P8 qs[j])[i]?:=by
 induction qs with
 | nil=>intro j h;simp at h
 | cons q qs ih=>
  intro j h i hi;have hl:(P8 q).length=8:=rfl;rw[List.flatMap_cons]
  cases j with
  | zero=>rw[List.getElem?_append_left (by omega)];simp
  | succ j=>
   rw[List.getElem?_append_right (by omega),hl,show (j+1) * 8+i - 8=j * 8+i by omega];exact ih j (by simpa using h) i hi
def RowP (lo:Nat) (v:Value) (ps:List (Fm×Fm)) (W:World):Prop:=
 ∃qs:List (FQ×FQ),qs.length=ps.length/\W.ownsRow lo 50 8 v ps.length (qs.flatMap P8)/\∀ j (h:j<qs.length) (h2:j<ps.length),FormV (fun b=>v.ownBlock≠some b) W qs[j].1.val ps[j].1/\FormV (fun b=>v.ownBlock≠some b) W qs[j].2.val ps[j].2
theorem RowP.nil (lo:Nat) (W:World):RowP lo (.slice none 0 0) [] W:=⟨[],rfl,World.ownsRow_nil _ _ _ _,fun j h=>by simp at h⟩
theorem RowP.lt {ps:List (Fm×Fm)} (h:RowP lo v ps W):∀ b,v.ownBlock=some b->lo<=b/\b<W.heap.size:=by
 obtain ⟨_,_,ho,_⟩:=h;exact ho.lt
theorem RowP.kept {ps:List (Fm×Fm)} {W':World} (h:RowP lo v ps W) (hk:∀ b,b<W.heap.size->W'.heap[b]?=W.heap[b]?):RowP lo v ps W':=by
 obtain ⟨qs,h1,ho,h2⟩:=h;exact ⟨qs,h1,aZ ho (fun b _ hlt=>hk b hlt),fun j a b=>⟨(h2 j a b).1.move (fun c hc hlt=>⟨hc,hk c hlt⟩),(h2 j a b).2.move (fun c hc hlt=>⟨hc,hk c hlt⟩)⟩⟩
theorem RowP.pairs {ps:List (Fm×Fm)} (h:RowP lo v ps W):∃a c,v=.slice a ps.length c/\SPairsV (fun b=>b<W.heap.size) W (.slice a ps.length c) ps:=by
 obtain ⟨qs,hk,ho,ht⟩:=h;have hm:∀ (b:Nat),v.ownBlock≠some b->b<W.heap.size->b<W.heap.size/\W.heap[b]?=W.heap[b]?:=fun b _ hlt=>⟨hlt,rfl⟩
 rcases eH ho with ⟨rfl,h0⟩ | ⟨g,cap,rfl,hg,hlt⟩
 ·obtain rfl:=jk h0;exact ⟨none,0,rfl,none,0,fun _=>⟨0,⟨#[]⟩,none,0,0,none,0,0⟩,fun _=>⟨0,⟨#[]⟩,none,0,0,none,0,0⟩,rfl,aI _,.inl rfl,fun j hj=>by simp at hj⟩
 ·have DV:ps.length<=cap:=by
   rcases ho.2 with ⟨e,_⟩ | ⟨g',cap',cur,e,_,_,h4⟩
   ·cases e
   ·injection e with _ _ e3;subst e3;exact h4.1
  refine ⟨_,_,rfl,_,cap,fun j=>if h:j<qs.length then qs[j].1 else ⟨0,⟨#[]⟩,none,0,0,none,0,0⟩,fun j=>if h:j<qs.length then qs[j].2 else ⟨0,⟨#[]⟩,none,0,0,none,0,0⟩,rfl,DV,.inr ⟨g,0,rfl,hlt,fun j hj=>?_⟩,fun j hj=>?_⟩
  ·have oJ:j<qs.length:=by omega
   simp only[dif_pos oJ,Nat.zero_add];have C:=fun i (hi:i<8) u (hu:(P8 qs[j])[i]?=some u)=>ho.cells (g:=g) rfl _ _ ((za5 qs j oJ i hi).trans hu);have c0:=C 0 (by omega) _ rfl;have c1:=C 1 (by omega) _ rfl;have c2:=C 2 (by omega) _ rfl;have c3:=C 3 (by omega) _ rfl;have c4:=C 4 (by omega) _ rfl;have c5:=C 5 (by omega) _ rfl;have c6:=C 6 (by omega) _ rfl;have c7:=C 7 (by omega) _ rfl;rw[lv]at c0 c1 c2 c3 c4 c5 c6 c7;exact ⟨c0,c1,c2,c3,c4,c5,c6,c7⟩
  ·have oJ:j<qs.length:=by omega
   simp only[dif_pos oJ];exact ⟨(ht j oJ hj).1.move hm,(ht j oJ hj).2.move hm⟩
theorem RowP.step {ps:List (Fm×Fm)} {x:Fm×Fm} {qs:List (FQ×FQ)} {q:FQ×FQ} (hk:qs.length=ps.length)
  (ht:∀ j (h:j<qs.length) (h2:j<ps.length),FormV (fun b=>v.ownBlock≠some b) W qs[j].1.val ps[j].1/\FormV (fun b=>v.ownBlock≠some b) W qs[j].2.val ps[j].2)
  (hq:FormV (fun b=>v.ownBlock≠some b) W q.1.val x.1/\FormV (fun b=>v.ownBlock≠some b) W q.2.val x.2)
  (aR:w4.ownsRow lo 50 8 (.slice (some ⟨g,0,none⟩) (ps.length+1) cap) (ps.length+1) (qs.flatMap P8 ++ P8 q))
  (ao:W.grownBy w4 v.ownBlock) (hg:v.ownBlock=some g\/W.heap.size<=g):RowP lo (.slice (some ⟨g,0,none⟩) (ps.length+1) cap) (ps ++ [x]) w4:=by
 have rh:∀ c,v.ownBlock≠some c->c<W.heap.size->(Value.slice (some ⟨g,0,none⟩) (ps.length+1) cap).ownBlock≠some c/\w4.heap[c]?=W.heap[c]?:=fun c hn hc=>⟨fun e=>by
  injection e with e;obtain rfl:g=c:=e;rcases hg with hg | hg
  ·exact hn hg
  ·omega,ao.block c hc (fun e=>hn e.symm)⟩
 have pp279:=();exact pm279
theorem MI:(Tryz.prog.info? 50).map (fun i=>(i.zero,i.size,i.bytes))=some (some (.agg #[.int .u8 0,.string ByteArray.empty,.slice none 0 0,.slice none 0 0,.int .u8 0,.string ByteArray.empty,.slice none 0 0,.slice none 0 0]),8,144):=by kernel_rfl
theorem EY (ty:TypeId) (lo:Nat) (v:Value) (ps:List (Fm×Fm)) (x:Fm×Fm) (W:World) (ek:RowP lo v ps W) (hlo:lo<=W.heap.size) (cm:ps.length<=1000000) (q:FQ×FQ) (b off c:Nat)
  (hcs:∀ i u,(P8 q)[i]?=some u->W.cell? ⟨b,off+i,none⟩=some u) (hq:FormV (fun b=>v.ownBlock≠some b) W q.1.val x.1/\FormV (fun b=>v.ownBlock≠some b) W q.2.val x.2) :
  ∃v' w',(Builtin.append_ #[22,22] ty #[v,.slice (some ⟨b,off,none⟩) 1 c]).run Tryz.prog W=.ok v' w'/\RowP lo v' (ps ++ [x]) w'/\W.grownBy w' v.ownBlock:=by
 obtain ⟨i0,hi,nM,i_,ig⟩:=info_parts MI;obtain ⟨qs,hk,au,ht⟩:=ek;obtain ⟨g,cap,w',hr,h2,h3,h4,_⟩:=run_append_lies (P:=Tryz.prog) W 22 ty lo 50 i0 _ 8 144 Tryz.underlying22 hi nM i_ ig rfl (by decide) v ps.length _ au ⟨b,off,none⟩ 1 c (P8 q) rfl
  (fun j u hu=>by
    have:=hcs j u hu;rw[show (⟨b,off,none⟩:Addr).add j=⟨b,off+j,none⟩ by unfold Addr.add;split <;> simp_all];exact this) (fun u hu=>by
   simp only[P8,FQ.cells,ky,pf,cY,List.not_mem_nil,or_false]at hu;rcases hu with rfl | rfl | rfl | rfl | rfl | rfl | rfl | rfl <;> rfl) (by decide) (by unfold maxLen;omega) (by omega) hlo _ rfl
 exact ⟨_,_,hr,RowP.step hk ht hq h2 h3 (by rcases h4 with h | h;exact .inl h;exact .inr (by omega)),h3⟩
section
variable {ops:Array Oper} {Q:Exit->Act->World->Prop} {a0:Act} {l:List Fact} {kA kS k:Nat} {M:Nat->Prop} {w0:World} {md:Region.Mode} {L:Nat->Prop}
theorem ui (x:Nat) (b off:Nat) (v:Value) (c:w0.cell? ⟨b,off,none⟩=some v) (hb:¬M b) {g:Option (Nat×Bool)} (hx:Dep md ops a0 l kA kS M w0 k ⟨some d,.load 23 (.tmp x),ty,pos,ce,g⟩ x (fun u _ _=>u=.pointer (some ⟨b,off,none⟩))) (ho:ops[k]?=some ⟨some d,.load 23 (.tmp x),ty,pos,ce,g⟩:=by rfl) (hw:Wt md ops a0 l kA kS M w0 k ⟨some d,.load 23 (.tmp x),ty,pos,ce,g⟩:=by exact fun _ _ _ _=>rfl) (hp:gN l k=(bn v).p:=by rfl):de md ops Q a0 l kA kS M w0 k:=
 eJ hw ho rfl (fun a γ w aU=>by
  obtain ⟨vx,ex,rfl⟩:=hx a γ w aU;have c:=aU.inv.1.cell (a:=⟨b,off,none⟩) hb c;have e2:=bg ex;exact ⟨v,by go_simp,by rw[hp];rfl⟩)
theorem uj (x:Nat) (b off:Nat) (v:Value) (c:w0.cell? ⟨b,off,none⟩=some v) (hb:¬M b) {g:Option (Nat×Bool)} (hx:Dep md ops a0 l kA kS M w0 k ⟨some d,.load 24 (.tmp x),ty,pos,ce,g⟩ x (fun u _ _=>u=.pointer (some ⟨b,off,none⟩))) (ho:ops[k]?=some ⟨some d,.load 24 (.tmp x),ty,pos,ce,g⟩:=by rfl) (hw:Wt md ops a0 l kA kS M w0 k ⟨some d,.load 24 (.tmp x),ty,pos,ce,g⟩:=by exact fun _ _ _ _=>rfl) (hp:gN l k=(bn v).p:=by rfl):de md ops Q a0 l kA kS M w0 k:=
 eJ hw ho rfl (fun a γ w aU=>by
  obtain ⟨vx,ex,rfl⟩:=hx a γ w aU;have c:=aU.inv.1.cell (a:=⟨b,off,none⟩) hb c;have e2:=bg ex;exact ⟨v,by go_simp,by rw[hp];rfl⟩)
theorem Hb (x:Nat) (b off:Nat) (v:Value) (c:w0.cell? ⟨b,off,none⟩=some v) (hb:¬M b) {g:Option (Nat×Bool)} (hx:Dep md ops a0 l kA kS M w0 k ⟨some d,.load 9 (.tmp x),ty,pos,ce,g⟩ x (fun u _ _=>u=.pointer (some ⟨b,off,none⟩))) (ho:ops[k]?=some ⟨some d,.load 9 (.tmp x),ty,pos,ce,g⟩:=by rfl) (hw:Wt md ops a0 l kA kS M w0 k ⟨some d,.load 9 (.tmp x),ty,pos,ce,g⟩:=by exact fun _ _ _ _=>rfl) (hp:gN l k=(bn v).p:=by rfl):de md ops Q a0 l kA kS M w0 k:=
 eJ hw ho rfl (fun a γ w aU=>by
  obtain ⟨vx,ex,rfl⟩:=hx a γ w aU;have c:=aU.inv.1.cell (a:=⟨b,off,none⟩) hb c;have e2:=bg ex;exact ⟨v,by go_simp,by rw[hp];rfl⟩)
theorem Qj (b:Bd) (n:Str) (hF:b.fs.length<=1000000) (az:∀ x∈b.fs,fitF x.2) (x y:Nat) {g:Option (Nat×Bool)} (hL:∀ b,w0.heap.size<=b->L b) (hx:Dep md ops a0 l kA kS M w0 k ⟨some d,.call ⟨.value (.func 16),#[.tmp x,.tmp y],ic⟩,ty,pos,ce,g⟩ x (BindG L b)) (hy:Dep md ops a0 l kA kS M w0 k ⟨some d,.call ⟨.value (.func 16),#[.tmp x,.tmp y],ic⟩,ty,pos,ce,g⟩ y (fun u _ _=>u=.string ⟨n.toArray⟩)) (ho:ops[k]?=some ⟨some d,.call ⟨.value (.func 16),#[.tmp x,.tmp y],ic⟩,ty,pos,ce,g⟩:=by rfl) (hw:Wt md ops a0 l kA kS M w0 k ⟨some d,.call ⟨.value (.func 16),#[.tmp x,.tmp y],ic⟩,ty,pos,ce,g⟩:=by exact fun _ _ _ _=>rfl) (hp:gN l k=(fY (bi L ((getB b.fs n).getD j6)) [.bool (getB b.fs n).isSome]).p:=by rfl):de md ops Q a0 l kA kS M w0 k:=
 dY hw ho rfl 16 (fun a γ w aU=>by
  obtain ⟨vx,ex,fx⟩:=hx.is aU;obtain ⟨vy,ey,rfl⟩:=hy.is aU;obtain ⟨qx,rfl,hx⟩:=fx;refine ⟨#[qx.val,.string ⟨n.toArray⟩],by go_simp,(CU b hF az n _ w qx hx).mono ?_⟩;rintro e w' ⟨⟨u,rfl,hu⟩,hb⟩;exact ⟨⟨_,rfl,by rw[hp];exact ⟨_,rfl,u,rfl,hu.move (okB.new aU.inv (fun b hb=>hL b (aN aU.inv.1.size hb)))⟩⟩,hb⟩)
theorem Qk (b:Bd) (n:Str) (hF:b.ts.length<=1000000) (az:∀ x∈b.ts,fitT x.2) (x y:Nat) {g:Option (Nat×Bool)} (hL:∀ b,w0.heap.size<=b->L b) (hx:Dep md ops a0 l kA kS M w0 k ⟨some d,.call ⟨.value (.func 18),#[.tmp x,.tmp y],ic⟩,ty,pos,ce,g⟩ x (BindG L b)) (hy:Dep md ops a0 l kA kS M w0 k ⟨some d,.call ⟨.value (.func 18),#[.tmp x,.tmp y],ic⟩,ty,pos,ce,g⟩ y (fun u _ _=>u=.string ⟨n.toArray⟩)) (ho:ops[k]?=some ⟨some d,.call ⟨.value (.func 18),#[.tmp x,.tmp y],ic⟩,ty,pos,ce,g⟩:=by rfl) (hw:Wt md ops a0 l kA kS M w0 k ⟨some d,.call ⟨.value (.func 18),#[.tmp x,.tmp y],ic⟩,ty,pos,ce,g⟩:=by exact fun _ _ _ _=>rfl) (hp:gN l k=(fY (dP L ((getB b.ts n).getD Gp)) [.bool (getB b.ts n).isSome]).p:=by rfl):de md ops Q a0 l kA kS M w0 k:=
 dY hw ho rfl 18 (fun a γ w aU=>by
  obtain ⟨vx,ex,fx⟩:=hx.is aU;obtain ⟨vy,ey,rfl⟩:=hy.is aU;obtain ⟨qx,rfl,hx⟩:=fx;refine ⟨#[qx.val,.string ⟨n.toArray⟩],by go_simp,(CW b hF az n _ w qx hx).mono ?_⟩;rintro e w' ⟨⟨u,rfl,hu⟩,hb⟩;exact ⟨⟨_,rfl,by rw[hp];exact ⟨_,rfl,u,rfl,hu.move (okB.new aU.inv (fun b hb=>hL b (aN aU.inv.1.size hb)))⟩⟩,hb⟩)
theorem SF (f:Tm) (x:Nat) (b off:Nat) (q:TQ) (hf:TermV (okS L w0) w0 q.val f) (c0:w0.cell? ⟨b,off,none⟩=some (.bool q.v)) (c1:w0.cell? ⟨b,off+1,none⟩=some (.string q.n)) (c2:w0.cell? ⟨b,off+2,none⟩=some (.slice q.a q.l q.c)) (hb:¬M b) (hM:∀ c,L c->¬M c) {g:Option (Nat×Bool)} (hx:Dep md ops a0 l kA kS M w0 k ⟨some d,.load 43 (.tmp x),ty,pos,ce,g⟩ x (fun v _ _=>v=.pointer (some ⟨b,off,none⟩))) (ho:ops[k]?=some ⟨some d,.load 43 (.tmp x),ty,pos,ce,g⟩:=by rfl) (hw:Wt md ops a0 l kA kS M w0 k ⟨some d,.load 43 (.tmp x),ty,pos,ce,g⟩:=by exact fun _ _ _ _=>rfl) (hp:gN l k=TermG L f:=by rfl):de md ops Q a0 l kA kS M w0 k:=
 eJ hw ho rfl (fun a γ w aU=>by
  obtain ⟨vx,ex,rfl⟩:=hx a γ w aU;have C:=fun i v (h:w0.cell? ⟨b,i,none⟩=some v)=>aU.inv.1.cell (a:=⟨b,i,none⟩) hb h;have c0:=C _ _ c0;have c1:=C _ _ c1;have c2:=C _ _ c2;exact ⟨TQ.val q,by simp only[TQ.val];go_simp,by rw[hp];exact ⟨q,rfl,(hf.move (okS.at hM)).move (okB.old aU.inv)⟩⟩)
theorem Ql (f f2:Fm) (x:Nat) (b off:Nat) (p q:FQ) (hf:FormV (okS L w0) w0 p.val f) (Pc:FormV (okS L w0) w0 q.val f2) (c0:w0.cell? ⟨b,off,none⟩=some (.int .u8 p.o)) (c1:w0.cell? ⟨b,off+1,none⟩=some (.string p.n)) (c2:w0.cell? ⟨b,off+2,none⟩=some (.slice p.a p.l p.c)) (c3:w0.cell? ⟨b,off+3,none⟩=some (.slice p.b p.m p.e)) (c4:w0.cell? ⟨b,off+4,none⟩=some (.int .u8 q.o)) (c5:w0.cell? ⟨b,off+5,none⟩=some (.string q.n)) (c6:w0.cell? ⟨b,off+6,none⟩=some (.slice q.a q.l q.c)) (c7:w0.cell? ⟨b,off+7,none⟩=some (.slice q.b q.m q.e)) (hb:¬M b) (hM:∀ c,L c->¬M c) {g:Option (Nat×Bool)} (hx:Dep md ops a0 l kA kS M w0 k ⟨some d,.load 50 (.tmp x),ty,pos,ce,g⟩ x (fun v _ _=>v=.pointer (some ⟨b,off,none⟩))) (ho:ops[k]?=some ⟨some d,.load 50 (.tmp x),ty,pos,ce,g⟩:=by rfl) (hw:Wt md ops a0 l kA kS M w0 k ⟨some d,.load 50 (.tmp x),ty,pos,ce,g⟩:=by exact fun _ _ _ _=>rfl) (hp:gN l k=Da L f f2:=by rfl):de md ops Q a0 l kA kS M w0 k:=
 eJ hw ho rfl (fun a γ w aU=>by
  obtain ⟨vx,ex,rfl⟩:=hx a γ w aU;have C:=fun i v (h:w0.cell? ⟨b,i,none⟩=some v)=>aU.inv.1.cell (a:=⟨b,i,none⟩) hb h;have c0:=C _ _ c0;have c1:=C _ _ c1;have c2:=C _ _ c2;have c3:=C _ _ c3;have c4:=C _ _ c4;have c5:=C _ _ c5;have c6:=C _ _ c6;have c7:=C _ _ c7;exact ⟨.agg #[.int .u8 p.o,.string p.n,.slice p.a p.l p.c,.slice p.b p.m p.e,.int .u8 q.o,.string q.n,.slice q.a q.l q.c,.slice q.b q.m q.e],by go_simp,by rw[hp];exact ⟨p,q,rfl,(hf.move (okS.at hM)).move (okB.old aU.inv),(Pc.move (okS.at hM)).move (okB.old aU.inv)⟩⟩)
theorem Qm (f f2:Fm) (x:Nat) {g:Option (Nat×Bool)} (hL:∀ b,w0.heap.size<=b->L b) (hx:Dep md ops a0 l kA kS M w0 k ⟨some d,.buildSlice 22 1 #[(0,.tmp x)],ty,pos,ce,g⟩ x (Da L f f2)) (ho:ops[k]?=some ⟨some d,.buildSlice 22 1 #[(0,.tmp x)],ty,pos,ce,g⟩:=by rfl) (hw:Wt md ops a0 l kA kS M w0 k ⟨some d,.buildSlice 22 1 #[(0,.tmp x)],ty,pos,ce,g⟩:=by exact fun _ _ _ _=>rfl) (hp:gN l k=sG L [(f,f2)]:=by rfl):de md ops Q a0 l kA kS M w0 k:=
 qj hw ho rfl (fun a γ w aU=>by
  obtain ⟨vx,ex,q,r,rfl,hq,hr⟩:=hx a γ w aU;refine ⟨.slice (some ⟨w.heap.size,0,none⟩) 1 1,#[.int .u8 q.o,.string q.n,.slice q.a q.l q.c,.slice q.b q.m q.e,.int .u8 r.o,.string r.n,.slice r.a r.l r.c,.slice r.b r.m r.e],50,by go_simp,?_⟩;rw[hp];have hx:=aj (w:=w) (o:=.cells #[.int .u8 q.o,.string q.n,.slice q.a q.l q.c,.slice q.b q.m q.e,.int .u8 r.o,.string r.n,.slice r.a r.l r.c,.slice r.b r.m r.e] 50) rfl;have C:=fun i=>aE hx i;refine ⟨_,_,rfl,some ⟨w.heap.size,0,none⟩,1,fun _=>q,fun _=>r,rfl,aI _,.inr ⟨w.heap.size,0,rfl,okB.here hL aU.inv _,fun j hj=>?_⟩,fun j hj=>?_⟩
  ·obtain rfl:j=0:=by simpa using hj
   exact ⟨(C 0).trans rfl,(C 1).trans rfl,(C 2).trans rfl,(C 3).trans rfl,(C 4).trans rfl,(C 5).trans rfl,(C 6).trans rfl,(C 7).trans rfl⟩
  ·obtain rfl:j=0:=by simpa using hj
   exact ⟨hq.move (jU _).holds,hr.move (jU _).holds⟩)
end
section
variable {ops:Array Oper} {Q:Exit->Act->World->Prop} {a0:Act} {l:List Fact} {kA kS k:Nat} {w0:World} {md:Region.Mode} {L:Nat->Prop} {id sz:Nat} {w:World}
abbrev Ob (ob:Option Nat):Nat->Prop:=fun c=>ob=some c
theorem XG (h:∀ b,ob=some b->b<w.heap.size):IG (Ob ob) w (ob,false) w:=⟨Kp.refl _,fun c e=>⟨.inr e,h c e⟩,fun _ hc=>⟨hc,fun _=>rfl⟩⟩
abbrev kAo (ob:Option Nat) (kS n:Nat):Nat:=if ob=none then kS else n
theorem EZ (hb:∀ b,ob=some b->b<w.heap.size) (F:List Fact) (kS:Nat) (hsz:a0.tmps.size=sz) (hd:Fk ops sz=true) (cH:∀ k,k<ops.size->de .any ops Q a0 F (kAo ob kS ops.size) kS (Ob ob) w k)
  (hQ:∀ a γ w',Ah ops a0 F (kAo ob kS ops.size) kS (Ob ob) w a γ w'->Q .normal a w'):(Code.region id ops false).wpIn Fence.wide 3 Tryz.prog Q a0 w:=
 j8 _ _ _ Gr (ob,false) hsz hd (XG hb) (fun k hk=>⟨fun e=>by
  by_cases ho:ob=none
  ·exact ho
  ·rw[kAo,aw ho]at e;omega,fun _=>rfl⟩) (fun _ _ _ _ hG h=>h.step hG) (qh F) cH hQ
def Qn (lo:Nat) (ps:List (Fm×Fm)):Fact:=⟨fun v γ w=>∃n,n<=w.heap.size/\RowP lo v ps w/\(∀ w',(∀ c,c<n->w'.heap[c]?=w.heap[c]?)->RowP lo v ps w')/\∀ b,γ=(some b,false)->n<=b,fun v γ w dT w' hG ⟨n,h0,h1,h2,h3⟩=>by
 rcases hG with ⟨rfl,hb⟩ | ⟨hn,rfl,hlt,hb⟩ | ⟨b,rfl,rfl,hk⟩
 ·have he:∀ c,c<n->w'.heap[c]?=w.heap[c]?:=fun c hc=>hb.block c (by omega);exact ⟨n,aN h0 hb.size,h2 w' he,fun Dr h=>h2 Dr (fun c hc=>(h c hc).trans (he c hc)),h3⟩
 ·have he:∀ c,c<n->w'.heap[c]?=w.heap[c]?:=fun c hc=>hb.block c (by omega);exact ⟨n,aN h0 hb.size,h2 w' he,fun Dr h=>h2 Dr (fun c hc=>(h c hc).trans (he c hc)),fun b e=>by cases e;exact h0⟩
 ·have hn:=h3 b rfl;have he:∀ c,c<n->w'.heap[c]?=w.heap[c]?:=fun c hc=>hk.same c (by omega) (by omega);exact ⟨n,aN h0 hk.size,h2 w' he,fun Dr h=>h2 Dr (fun c hc=>(h c hc).trans (he c hc)),fun b e=>by cases e⟩⟩
theorem SG (ps:List (Fm×Fm)) (x:Fm×Fm) (lo:Nat) (v0:Value) (R:RowP lo v0 ps w0) (hlo:lo<=w0.heap.size) (cm:ps.length<=1000000) (s t:Nat) {g:Option (Nat×Bool)} (ho:ops[k]?=some o) (e:o=⟨some d,.call ⟨.builtin .append,#[.tmp s,.tmp t],#[22,22]⟩,ty,pos,ce,g⟩) (hk:k=kS) (Mg:v0.ownBlock=none->k=kA)
  (hx:Dep md ops a0 l kA kS (Ob v0.ownBlock) w0 k o s (fun v _ _=>v=v0)) (hy:Dep md ops a0 l kA kS (Ob v0.ownBlock) w0 k o t (sG L [x])) (hw:Wt md ops a0 l kA kS (Ob v0.ownBlock) w0 k o:=by exact fun _ _ _ _=>rfl) (hp:gN l k=(Qn lo (ps ++ [x])).p:=by rfl):de md ops Q a0 l kA kS (Ob v0.ownBlock) w0 k:=by
 subst e;refine dr ho rfl (fun _=>trivial) rfl (fun a γ w aU=>?_);obtain ⟨vx,ex,rfl⟩:=hx a γ w aU;obtain ⟨KS,Mp⟩:=γ;obtain rfl:Mp=false:=aU.psi.2 hk;obtain ⟨vy,ey,ac,cc,rfl,hyv⟩:=hy a _ w aU;have KJ:∀ c,c<w0.heap.size->w.heap[c]?=w0.heap[c]?:=fun c hc=>by
  by_cases hm:vx.ownBlock=some c
  ·exact (aU.inv.2.2 c hm).2 rfl
  ·exact aU.inv.1.same c hc hm
 have R':=R.kept KJ;obtain ⟨b,off,p,q,rfl,_,QK,hq1,c0,c1,c2,c3,c4,c5,c6,c7⟩:=hyv.get (j:=0) (by simp);have i9:∀ c,okB L (KS,false) w c->c<w.heap.size->vx.ownBlock≠some c/\w.heap[c]?=w.heap[c]?:=fun c h _=>⟨fun e=>h.2.2 (aU.inv.2.2 c e).1,rfl⟩
 obtain ⟨v',w',hr,ek,ao⟩:=EY ty lo vx ps x w R' (aN hlo aU.inv.1.size) cm (p,q) b off cc (fun i u hu=>by
  rcases i with _ | _ | _ | _ | _ | _ | _ | _ | i
  ·cases hu;simpa using c0
  ·cases hu;simpa using c1
  ·cases hu;simpa using c2
  ·cases hu;simpa using c3
  ·cases hu;simpa using c4
  ·cases hu;simpa using c5
  ·cases hu;simpa using c6
  ·cases hu;simpa using c7
  ·simp[P8,FQ.cells]at hu) ⟨QK.move i9,hq1.move i9⟩
 have e1:=bg ex;have e2:=bg ey;have lh:(execOp a.eval ⟨some d,.call ⟨.builtin .append,#[.tmp s,.tmp t],#[22,22]⟩,ty,pos,ce,g⟩).run Tryz.prog w=.ok (.value v') w':=by
  simp only[execOp,resolve,invoke,builtin]at hr ⊢;simp[hr,Result.andThen,Act.eval,e1,e2]
 cases ho2:vx.ownBlock with
 | none=>
  obtain rfl:KS=none:=aU.psi.1 (Mg ho2);rw[ho2]at ao;refine ⟨hw a _ w aU,v',_,w',lh,Gr.keep ⟨ao.os,ao.tape,ao.output,ao.size,fun c hc=>ao.block c hc (by simp)⟩,fun _ _ h=>h,?_⟩;rw[hp];exact ⟨w'.heap.size,aI _,ek,fun Dr h=>ek.kept h,fun b e=>by cases e⟩
 | some c=>
  obtain rfl:KS=some c:=(aU.inv.2.2 c ho2).1;rw[ho2]at ao;refine ⟨hw a _ w aU,v',(some c,true),w',lh,ix (Kp.grown ao rfl),hk ▸ lU,?_⟩;rw[hp];exact ⟨w'.heap.size,aI _,ek,fun Dr h=>ek.kept h,fun b e=>by cases e⟩
end
end
/-! metavariables -/
mutual
def sK:Tm->List Str | .mk v n a=>(if v && dC n then [n] else []) ++ iC a
def iC:List Tm->List Str | []=>[] | t :: l=>sK t ++ iC l
end
mutual
def fZ:Fm->List Str | .mk o n a s=>(if (o == 15 || o == 16) && dC n then [n] else []) ++ (iC a ++ oG s)
def oG:List Fm->List Str | []=>[] | t :: l=>fZ t ++ oG l
end
theorem qR (x:Str) (v:α):∀ (l:List (Str×α)) (y:Str),y∈(fj x v l).map (·.1) ↔ y=x\/y∈l.map (·.1)
 | [],y=>by simp[fj]
 | (z,u) :: r,y=>by
  unfold fj;split
  ·simp
  ·simp only[cK,cY,qR x v r y];constructor
   ·rintro (h | h | h)
    ·exact .inr (.inl h)
    ·exact .inl h
    ·exact .inr (.inr h)
   ·rintro (h | h | h)
    ·exact .inr (.inl h)
    ·exact .inl h
    ·exact .inr (.inr h)
mutual
theorem uk (sc:List Str):∀ (t u:Tm) (k k':List (Str×Tm)),(∀ x∈k.map (·.1),x∈m)->(∀ x∈sK t,x∈m)->dw sc k t u=some k'->∀ x∈k'.map (·.1),x∈m
 | .mk v n a,.mk v' n' a',k,k',hk,ht,h=>by
  unfold dw at h
  by_cases hm:(v && dC n)=true
  ·rw[aH hm]at h;have hn:n∈m:=ht n (by simp[sK,hm])
   cases hg:getB k n with
   | none=>
    rw[hg]at h;simp only[dN]at h;subst h;intro x hx;rw[qR]at hx;rcases hx with rfl | hx
    ·exact hn
    ·exact hk x hx
   | some w=>
    rw[hg]at h;simp only at h;split at h
    ·cases h;exact hk
    ·cases h
  ·rw[aw hm]at h;split at h
   ·split at h
    ·cases h;exact hk
    ·cases h
   ·split at h
    ·cases h
    ·exact rG sc a a' k k' hk (fun x hx=>ht x (by simp[sK,hx])) h
theorem rG (sc:List Str):∀ (t u:List Tm) (k k':List (Str×Tm)),(∀ x∈k.map (·.1),x∈m)->(∀ x∈iC t,x∈m)->b_ sc k t u=some k'->∀ x∈k'.map (·.1),x∈m
 | [],u,k,k',hk,_,h=>by simp only[b_,dN]at h;rw[<-h];exact hk
 | _ :: _,[],k,k',hk,_,h=>by simp only[b_,dN]at h;rw[<-h];exact hk
 | t :: l,u :: w,k,k',hk,ht,h=>by
  simp only[b_]at h
  cases h1:dw sc k t u with
  | none=>rw[h1]at h;cases h
  | some k1=>
   rw[h1]at h;exact rG sc l w k1 k' (uk sc t u k k1 hk (fun x hx=>ht x (by simp[iC,hx])) h1) (fun x hx=>ht x (by simp[iC,hx])) h
end
theorem ur:∀ (t u:List Tm) (k k':List (Str×Tm)),(∀ x∈k.map (·.1),x∈m)->(∀ x∈iC t,x∈m)->dl c k t u=some k'->∀ x∈k'.map (·.1),x∈m
 | [],u,k,k',hk,_,h=>by simp only[dl,dN]at h;rw[<-h];exact hk
 | _ :: _,[],k,k',hk,_,h=>by simp only[dl,dN]at h;rw[<-h];exact hk
 | t :: l,u :: w,k,k',hk,ht,h=>by
  simp only[dl]at h
  cases h0:j4 c [] u with
  | none=>rw[h0]at h;cases h
  | some im=>
   rw[h0]at h;simp only at h
   cases h1:dw (c.map (·.1)) k t im with
   | none=>rw[h1]at h;cases h
   | some k1=>
    rw[h1]at h;exact ur l w k1 k' (uk _ t im k k1 hk (fun x hx=>ht x (by simp[iC,hx])) h1) (fun x hx=>ht x (by simp[iC,hx])) h
structure NamesIn (k:Bd) (m:List Str):Prop where
 f:∀ x∈k.fs.map (·.1),x∈m
 t:∀ x∈k.ts.map (·.1),x∈m
theorem JT {n:Str} (h:dx n=true):dC n=true:=by unfold dC;rw[h];rfl
theorem JU {n:Str} (h:cP n=true):dC n=true:=by unfold dC;rw[h];simp
theorem Qo (hp:PlOk p) (h:p.s.op=15\/p.s.op=16):p.s.n∈fZ p.s:=by
 have hs:=hp.s;obtain ⟨⟨o,n,a,s⟩,f,c⟩:=p;simp only[okF,ah]at hs;simp only[Fm.op,Fm.n]at h ⊢;have hn:dx n=true:=by
  have:=hs.2.1.1;rcases h with rfl | rfl
  ·exact this
  ·exact this
 have:((o == 15 || o == 16) && dC n)=true:=by
  rw[JT hn];rcases h with rfl | rfl <;> decide
 simp[fZ,this]
theorem BG {k:Bd} (hp:PlOk p) (hk:NamesIn k m) (hm:∀ x∈fZ p.s,x∈m):NamesIn (bV k p).1 m:=by
 unfold bV
 by_cases fG:p.s.op=16
 ·rw[aH fG];exact hk
 ·rw[aw fG]
  by_cases jW:p.s.op=15
  ·rw[aH jW]
   cases ii p.c [] p.f with
   | none=>exact hk
   | some im=>
    simp only
    cases getB k.fs p.s.n with
    | none=>
     refine ⟨fun x hx=>?_,hk.t⟩;simp only at hx;rw[qR]at hx;rcases hx with rfl | hx
     ·exact hm _ (Qo hp (.inl jW))
     ·exact hk.f x hx
    | some g=>
     simp only;split
     ·exact hk
     ·exact hk
  ·rw[aw jW];split
   ·exact hk
   ·cases ha:dl p.c k.ts p.s.a p.f.a with
    | none=>exact hk
    | some ts=>
     refine ⟨hk.f,ur p.s.a p.f.a k.ts ts hk.t (fun x hx=>hm x ?_) ha⟩;obtain ⟨⟨o,n,a,s⟩,f,c⟩:=p;simp only[Fm.a]at hx;simp[fZ,hx]
theorem Qp {k:Bd} (hp:PlOk p) (hk:NamesIn k m) (hm:∀ x∈fZ p.s,x∈m):NamesIn (eF k p).1 m:=by
 unfold eF
 by_cases fG:(p.s.op != 16)=true
 ·rw[aH fG];exact hk
 ·rw[aw fG];obtain ⟨x0,y0,ha,hx0,hy0,hn⟩:=lP hp (by simpa using fG);have hy:y0∈m:=hm y0 (by
   obtain ⟨⟨o,n,a,s⟩,f,c⟩:=p;simp only[Fm.a]at ha;subst ha;simp[fZ,iC,sK,ap,JU hy0])
  have add:∀ (t:Tm) (l:List (Str×Tm)),(∀ x∈l.map (·.1),x∈m)->∀ x∈(fj y0 t l).map (·.1),x∈m:=fun t l hl x hx=>by
   rw[qR]at hx;rcases hx with rfl | hx
   ·exact hy
   ·exact hl x hx
  cases getB k.fs p.s.n with
  | none=>exact hk
  | some g=>
   simp only
   cases ii p.c [] p.f with
   | none=>exact hk
   | some im=>
    simp only[hn];split
    ·split
     ·exact hk
     ·exact hk
    ·cases getB k.ts y0 with
     | some t=>
      simp only;split
      ·exact ⟨hk.f,hk.t⟩
      ·split
       ·exact ⟨hk.f,hk.t⟩
       ·exact ⟨hk.f,hk.t⟩
     | none=>
      simp only
      cases gZ g im (dc x0) with
      | none=>exact hk
      | some t=>
       simp only[Option.map_some];split
       ·exact ⟨hk.f,add t _ hk.t⟩
       ·split
        ·exact ⟨hk.f,add t _ hk.t⟩
        ·exact ⟨hk.f,add t _ hk.t⟩
mutual
theorem ut:∀ (s f:Fm) (c:Sco),∀ p∈bA c s f,∀ x∈fZ p.s,x∈fZ s
 | .mk o n a s,.mk o' n' a' s',c,p,hp,x,hx=>by
  simp only[bA,cY]at hp;rcases hp with rfl | hp
  ·exact hx
  ·have:=rH s s' _ p hp x hx;simp[fZ,this]
theorem rH:∀ (s f:List Fm) (c:Sco),∀ p∈aT c s f,∀ x∈fZ p.s,x∈oG s
 | [],_,_,p,hp,_,_=>by simp[aT]at hp
 | _ :: _,[],_,p,hp,_,_=>by simp[aT]at hp
 | t :: l,u :: m,c,p,hp,x,hx=>by
  simp only[aT,List.mem_append]at hp;simp only[oG,List.mem_append];rcases hp with hp | hp
  ·exact .inl (ut t u c p hp x hx)
  ·exact .inr (rH l m c p hp x hx)
end
theorem An {P:Str×Tm->Prop} (x:Str) (v:Tm):∀ l:List (Str×Tm),(∀ y∈l,P y)->P (x,v)->∀ y∈fj x v l,P y
 | [],_,hv,y,hy=>by simp only[fj,cY,List.not_mem_nil,or_false]at hy;rw[hy];exact hv
 | (z,u) :: r,hl,hv,y,hy=>by
  unfold fj at hy;split at hy
  ·rcases cY.1 hy with rfl | hy
   ·exact hv
   ·exact hl y hy
  ·rcases cY.1 hy with rfl | hy
   ·exact hl _ (fD ..)
   ·exact An x v r (fun y hy=>hl y (eV _ hy)) hv y hy
def Dj (k:List (Str×Tm)):Prop:=∀ y∈k,nodesT y.2<=1000
mutual
theorem Dk (sc:List Str):∀ (t u:Tm) (k k':List (Str×Tm)),Dj k->nodesT u<=1000->dw sc k t u=some k'->Dj k'
 | .mk v n a,.mk v' n' a',k,k',hk,hu,h=>by
  unfold dw at h
  by_cases hm:(v && dC n)=true
  ·rw[aH hm]at h
   cases hg:getB k n with
   | none=>
    rw[hg]at h;simp only[dN]at h;subst h;exact An n _ k hk hu
   | some w=>
    rw[hg]at h;simp only at h;split at h
    ·cases h;exact hk
    ·cases h
  ·rw[aw hm]at h;split at h
   ·split at h
    ·cases h;exact hk
    ·cases h
   ·split at h
    ·cases h
    ·exact Ao sc a a' k k' hk (by simp only[nodesT]at hu;omega) h
theorem Ao (sc:List Str):∀ (t u:List Tm) (k k':List (Str×Tm)),Dj k->nodesTs u<=1000->b_ sc k t u=some k'->Dj k'
 | [],u,k,k',hk,_,h=>by simp only[b_,dN]at h;rw[<-h];exact hk
 | _ :: _,[],k,k',hk,_,h=>by simp only[b_,dN]at h;rw[<-h];exact hk
 | t :: l,u :: w,k,k',hk,hu,h=>by
  simp only[b_]at h;simp only[nodesTs]at hu
  cases h1:dw sc k t u with
  | none=>rw[h1]at h;cases h
  | some k1=>
   rw[h1]at h;exact Ao sc l w k1 k' (Dk sc t u k k1 hk (by omega) h1) (by omega) h
end
theorem Dl:∀ (t u:List Tm) (k k':List (Str×Tm)),Dj k->(∀ x∈u,∀ im,j4 c [] x=some im->nodesT im<=1000)->dl c k t u=some k'->Dj k'
 | [],u,k,k',hk,_,h=>by simp only[dl,dN]at h;rw[<-h];exact hk
 | _ :: _,[],k,k',hk,_,h=>by simp only[dl,dN]at h;rw[<-h];exact hk
 | t :: l,u :: w,k,k',hk,hu,h=>by
  simp only[dl]at h
  cases h0:j4 c [] u with
  | none=>rw[h0]at h;cases h
  | some im=>
   rw[h0]at h;simp only at h
   cases h1:dw (c.map (·.1)) k t im with
   | none=>rw[h1]at h;cases h
   | some k1=>
    rw[h1]at h;exact Dl l w k1 k' (Dk _ t im k k1 hk (hu u (fD ..) im h0) h1) (fun x hx=>hu x (eV _ hx)) h
theorem JV {k:Bd} (hp:PlOk p) (hk:Dj k.ts):Dj (bV k p).1.ts:=by
 unfold bV
 by_cases fG:p.s.op=16
 ·rw[aH fG];exact hk
 ·rw[aw fG]
  by_cases jW:p.s.op=15
  ·rw[aH jW]
   cases ii p.c [] p.f with
   | none=>exact hk
   | some im=>
    simp only
    cases getB k.fs p.s.n with
    | none=>exact hk
    | some g=>
     simp only;split
     ·exact hk
     ·exact hk
  ·rw[aw jW];split
   ·exact hk
   ·cases ha:dl p.c k.ts p.s.a p.f.a with
    | none=>exact hk
    | some ts=>exact Dl p.s.a p.f.a k.ts ts hk (fun x hx im h=>(Cy hp hx h).2) ha
theorem SH {k:Bd} (hp:PlOk p) (hk:Dj k.ts):Dj (eF k p).1.ts:=by
 unfold eF;split
 ·exact hk
 ·cases getB k.fs p.s.n with
  | none=>exact hk
  | some g=>
   simp only
   cases hi:ii p.c [] p.f with
   | none=>exact hk
   | some im=>
    simp only;have hg:=zu hp hi;split
    ·split
     ·exact hk
     ·exact hk
    ·cases getB k.ts (aX p.s).2 with
     | some t=>
      simp only;split
      ·exact hk
      ·split
       ·exact hk
       ·exact hk
     | none=>
      simp only
      cases hf:gZ g im (aX p.s).1 with
      | none=>exact hk
      | some t=>
       have ht:=An (P:=fun y=>nodesT y.2<=1000) (aX p.s).2 t k.ts hk (zt hg.ok hg.nodes hf).2;simp only[Option.map_some];split
       ·exact ht
       ·split
        ·exact ht
        ·exact ht
theorem Qq {step:Bd->Pl->Bd×Int} (hs:∀ k p,PlOk p->Dj k.ts->Dj (step k p).1.ts) (hn:∀ k p,PlOk p->NamesIn k m->(∀ x∈fZ p.s,x∈m)->NamesIn (step k p).1 m):∀ (l:List Pl) (k:Bd),(∀ p∈l,PlOk p/\∀ x∈fZ p.s,x∈m)->Dj k.ts->NamesIn k m->Dj (gg step k l).1.ts/\NamesIn (gg step k l).1 m
 | [],k,_,h1,h2=>⟨h1,h2⟩
 | p :: l,k,h,h1,h2=>by
  obtain ⟨hp,hm⟩:=h p (fD ..);have a:=hs k p hp h1;have b:=hn k p hp h2 hm;simp only[gg];split
  ·exact Qq hs hn l _ (fun q hq=>h q (eV _ hq)) a b
  ·exact ⟨a,b⟩
theorem E0 {step:Bd->Pl->Bd×Int} (hs:∀ k p,PlOk p->Dj k.ts->Dj (step k p).1.ts) (hn:∀ k p,PlOk p->NamesIn k m->(∀ x∈fZ p.s,x∈m)->NamesIn (step k p).1 m):∀ (l:List (Fm×Fm)) (i:Nat) (k:Bd),(∀ x∈l,(eL x.1 && dv x.2)=true/\∀ y∈fZ x.1,y∈m)->Dj k.ts->NamesIn k m->Dj (d8 step i k l).1.ts/\NamesIn (d8 step i k l).1 m
 | [],_,k,_,h1,h2=>⟨h1,h2⟩
 | (s,f) :: l,i,k,h,h1,h2=>by
  obtain ⟨hp,hm⟩:=h (s,f) (fD ..);have hr:=Qq hs hn (bA [] s f) k (fun p To=>⟨kh s f [] (uX hp) p To,fun x hx=>hm x (ut s f [] p To x hx)⟩) h1 h2;simp only[d8];split
  ·exact E0 hs hn l _ _ (fun x hx=>h x (eV _ hx)) hr.1 hr.2
  ·exact hr
mutual
theorem JW:∀ t,(sK t).length<=nodesT t
 | .mk v n a=>by
  have:=qt a;unfold sK nodesT;split <;> simp <;> omega
theorem qt:∀ t,(iC t).length<=nodesTs t
 | []=>by simp[iC]
 | t :: l=>by
  have:=JW t;have:=qt l;simp only[iC,nodesTs,dZ];omega
end
mutual
theorem Ap:∀ t,(fZ t).length<=nodesF t
 | .mk o n a s=>by
  have:=qt a;have:=wT s;unfold fZ nodesF;split <;> simp <;> omega
theorem wT:∀ t,(oG t).length<=nodesFs t
 | []=>by simp[oG]
 | t :: l=>by
  have:=Ap t;have:=wT l;simp only[oG,nodesFs,dZ];omega
end
mutual
theorem MJ:∀ t,nodesT t<=Ui t
 | .mk v n a=>by have:=sL a;unfold nodesT Ui;omega
theorem sL:∀ t,nodesTs t<=uf t
 | []=>by simp[nodesTs]
 | t :: l=>by have:=MJ t;have:=sL l;simp only[nodesTs,uf];omega
end
mutual
theorem MK:∀ t,nodesF t<=QR t
 | .mk o n a s=>by have:=sL a;have:=oH s;unfold nodesF QR;omega
theorem oH:∀ t,nodesFs t<=ug t
 | []=>by simp[nodesFs]
 | t :: l=>by have:=MK t;have:=oH l;simp only[nodesFs,ug];omega
end
theorem Aq:∀ {l:List Fm} {f:Fm},f∈l->nodesF f<=nodesFs l
 | y :: c,f,h=>by
  simp only[nodesFs];rcases cY.1 h with rfl | h
  ·omega
  ·have:=Aq h;omega
theorem wU:∀ l:List (Fm×Fm),(l.flatMap fun x=>fZ x.1).length<=nodesFs (cz l)
 | []=>by simp[cz]
 | x :: l=>by
  have h1:=wU l;have h2:=Ap x.1;simp only[List.flatMap_cons,dZ,cz,ky,pf,nodesFs]at h1 ⊢;omega
theorem JX (h:me b=true) (az:fitFs (jV b.fs ++ kI b.ts)):BdFit b/\b.fs.length<=10/\b.ts.length<=10:=by
 simp only[me,ah,bx]at h;obtain ⟨h1,h2,h3⟩:=h;have hsz:=wS h3;have xJ:=oH (jV b.fs ++ kI b.ts);have jz:∀ x∈b.fs,x.2∈jV b.fs ++ kI b.ts/\Fm.mk 1 x.1 [] []∈jV b.fs ++ kI b.ts:=fun x hx=>by
  refine ⟨List.mem_append.2 (.inl ?_),List.mem_append.2 (.inl ?_)⟩ <;> exact List.mem_flatMap.2 ⟨x,hx,by simp⟩
 have rd:∀ x∈b.ts,Fm.mk 1 x.1 [x.2] []∈jV b.fs ++ kI b.ts:=fun x hx=>List.mem_append.2 (.inr (List.mem_map.2 ⟨x,hx,rfl⟩));refine ⟨⟨by omega,by omega,fun x hx=>?_,fun x hx=>?_⟩,h1,h2⟩
 ·have a:=az.mem (jz x hx).1;have c:=(az.mem (jz x hx).2).2;simp only[kJ,ah,bx]at c;exact ⟨c.2.1,a⟩
 ·have a:=az.mem (rd x hx);have c:=a.2;have d:=Aq (rd x hx);simp only[kJ,nmTs,ah,bx]at c;simp only[nodesF,nodesTs]at d;exact ⟨c.2.1,⟨by omega,c.2.2.1.1⟩,by omega⟩
theorem SI {l:List (Fm×Fm)} (h:EW l=true):l.length<=8/\nodesFs (cz l)<=500:=by
 simp only[EW,ah,bx]at h;have h2:=h.2;rw[f8 (by omega)]at h2;have a:=wS h2;have b:=oH (cz l);exact ⟨h.1,by omega⟩
theorem BH {l:List (Fm×Fm)} {k:Bd} {i:Nat} (h:cd l b=(k,i,0)) (hl:nodesFs (cz l)<=500) (hb:BdFit b) (h1:b.fs.length<=10) (h2:b.ts.length<=10):BdFit k:=by
 have xS:=rv h;obtain ⟨hvb,hok,_,_,_⟩:=nV h;obtain ⟨m,hm⟩:=am (b.fs.map (·.1) ++ (b.ts.map (·.1) ++ l.flatMap fun x=>fZ x.1));have uF:m.length<=520:=by
  have:=wU l;rw[hm];simp only[dZ,List.length_map];omega
 have hk:Dj k.ts/\NamesIn k m:=by
  have hx:∀ x∈l,(eL x.1 && dv x.2)=true/\∀ y∈fZ x.1,y∈m:=fun x hx=>⟨hok x hx,fun y hy=>by
   rw[hm];exact List.mem_append.2 (.inr (List.mem_append.2 (.inr (List.mem_flatMap.2 ⟨x,hx,hy⟩))))⟩
  have M4:Dj b.ts:=fun y hy=>(hb.ts y hy).2.2;have sd:NamesIn b m:=⟨fun x hx=>by rw[hm];exact List.mem_append.2 (.inl hx),fun x hx=>by rw[hm];exact List.mem_append.2 (.inr (List.mem_append.2 (.inl hx)))⟩;have p1:=E0 (step:=bV) (fun k p=>JV) (fun k p=>BG) l 0 b hx M4 sd;unfold cd at h;simp only[hvb,Bool.not_true,dE,↓reduceIte,(gq l 0).2 hok]at h
  cases e1:d8 bV 0 b l with
  | mk k1 x1=>
   obtain ⟨i1,r1⟩:=x1;rw[e1]at h p1;simp only at h;split at h
   ·rename_i i9;injection h with _ h;injection h with _ h;exact absurd h i9
   ·have p2:=E0 (step:=eF) (fun k p=>SH) (fun k p=>Qp) l 0 k1 hx p1.1 p1.2
    cases e2:d8 eF 0 k1 l with
    | mk k2 x2=>
     obtain ⟨i2,r2⟩:=x2;rw[e2]at h p2;simp only at h;split at h
     ·rename_i i9;injection h with _ h;injection h with _ h;exact absurd h i9
     ·injection h with h _;subst h;exact p2
 have jd:=xS;simp only[bL,ah]at jd;have l1:=xM _ m (fW (iz jd.2.1)) hk.2.f;have l2:=xM _ m (fW (iz jd.2.2)) hk.2.t;simp only[List.length_map]at l1 l2;refine ⟨by omega,by omega,fun x hx=>?_,fun x hx=>?_⟩
 ·have a:=KH xS x hx;exact ⟨by have:=su a.2;omega,a.1.fit⟩
 ·have a:=xO xS hk.1 x hx;exact ⟨by have:=fA a.2;omega,a.1.fit,hk.1 x hx⟩
theorem SJ {b c:Bool} (h:b=c):(bn (.bool c)).p=(bn (.bool b)).p:=by rw[h]
theorem Ar {l:List (Fm×Fm)} {x:Fm×Fm} (h:x∈l):x.1∈cz l/\x.2∈cz l:=by
 simp only[cz,List.mem_flatMap];exact ⟨⟨x,h,by simp⟩,⟨x,h,by simp⟩⟩
theorem JY (f:Fm):uM f f=true:=(ng f f).2 rfl
theorem Hc (f:List Tm):iE f f=true:=(fV f f).2 rfl
theorem JZ {t:Tm} (h:fitT t):fitTs [t]:=⟨by simp only[nodesTs];have:=h.1;omega,by simp[nmTs,h.2]⟩
